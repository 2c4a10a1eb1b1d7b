/- Printed by gen.py: functions of the program, each as what must be shown of it. -/
import Derived.Test.YtmhhgpogjpbglaaGreatProg
import Derived.Test.YtmhhgpogjpbglaaGreatKFLooks2
namespace bD
abbrev bn.s:=bn.seq
abbrev bn.l:=bn.leaf
abbrev bn.c:=bn.cond
abbrev bn.r:=bn.du []
end bD
namespace Go.Proofs.YtmhhgpogjpbglaaGreat
open Go bD
section
namespace F
abbrev w_:Nat:=3
abbrev oF:Nat:=12
abbrev rN:Nat:=13
abbrev rM:Nat:=14
abbrev oD:Nat:=15
abbrev mX:Nat:=16
abbrev rP:Nat:=17
abbrev rV:Nat:=18
abbrev uV:Nat:=19
abbrev rv:Nat:=21
abbrev rz:Nat:=22
abbrev uE:Nat:=26
abbrev oR:Nat:=52
abbrev ue:Nat:=53
abbrev jM:Nat:=54
abbrev oU:Nat:=55
abbrev oT:Nat:=56
abbrev sC:Nat:=57
abbrev qX:Nat:=58
abbrev oB:Nat:=59
abbrev sF:Nat:=60
abbrev uj:Nat:=61
abbrev uN:Nat:=62
abbrev uG:Nat:=63
abbrev rJ:Nat:=64
abbrev rL:Nat:=65
abbrev lS:Nat:=66
abbrev rG:Nat:=67
abbrev sV:Nat:=68
abbrev rq:Nat:=69
abbrev q6:Nat:=70
abbrev sk:Nat:=71
abbrev ux:Nat:=72
abbrev s7:Nat:=73
abbrev rr:Nat:=74
abbrev ru:Nat:=75
abbrev q8:Nat:=94
abbrev uC:Nat:=95
abbrev rA:Nat:=96
abbrev sD:Nat:=97
abbrev ui:Nat:=98
abbrev pE:Nat:=99
abbrev q5:Nat:=100
abbrev uJ:Nat:=101
abbrev mM:Nat:=102
abbrev pJ:Nat:=103
abbrev Ou:Nat:=104
abbrev uk:Nat:=105
abbrev ur:Nat:=106
abbrev uv:Nat:=107
abbrev d_:Nat:=108
abbrev oW:Nat:=109
abbrev oV:Nat:=110
abbrev rF:Nat:=111
abbrev uy:Nat:=112
abbrev sT:Nat:=113
abbrev sU:Nat:=114
abbrev uo:Nat:=115
abbrev sS:Nat:=116
abbrev xq:Nat:=117
abbrev xr:Nat:=118
abbrev mK:Nat:=119
abbrev fF:Nat:=120
abbrev oo:Nat:=121
abbrev l4:Nat:=122
abbrev q2:Nat:=123
abbrev q7:Nat:=124
abbrev q9:Nat:=125
abbrev q3:Nat:=145
abbrev qD:Nat:=148
abbrev uB:Nat:=151
abbrev oS:Nat:=152
abbrev wk:Nat:=153
abbrev px:Nat:=154
abbrev lA:Nat:=155
abbrev qB:Nat:=156
abbrev qx:Nat:=157
abbrev uq:Nat:=160
abbrev sQ:Nat:=161
abbrev rC:Nat:=162
abbrev rE:Nat:=163
abbrev uu:Nat:=164
abbrev xt:Nat:=165
abbrev tR:Nat:=166
abbrev qI:Nat:=174
abbrev qH:Nat:=180
abbrev mg:Nat:=187
abbrev afE:Nat:=188
abbrev pt:Nat:=191
abbrev pv:Nat:=192
abbrev qP:Nat:=193
abbrev qE:Nat:=194
abbrev lv:Nat:=195
abbrev oh:Nat:=196
abbrev rD:Nat:=208
abbrev qz:Nat:=209
abbrev pn:Nat:=212
abbrev tV:Nat:=213
abbrev po:Nat:=214
abbrev tX:Nat:=215
abbrev sw:Nat:=229
abbrev qO:Nat:=230
abbrev vU:Nat:=237
abbrev vV:Nat:=238
abbrev qJ:Nat:=245
end F
namespace ad
abbrev t:Nat:=0
abbrev int:Nat:=3
abbrev bool:Nat:=4
abbrev uint8:Nat:=5
abbrev string:Nat:=9
abbrev aee:Nat:=22
abbrev bE:Nat:=27
abbrev uint64:Nat:=30
abbrev jD:Nat:=32
abbrev BE:Nat:=34
abbrev kL:Nat:=40
abbrev e6:Nat:=44
abbrev F7:Nat:=55
abbrev da:Nat:=75
abbrev fR:Nat:=88
abbrev nG:Nat:=105
abbrev pz:Nat:=106
abbrev DO:Nat:=110
abbrev iQ:Nat:=117
abbrev iE:Nat:=119
abbrev yl:Nat:=121
abbrev ia:Nat:=132
abbrev iC:Nat:=137
abbrev HR:Nat:=139
abbrev afF:Nat:=145
abbrev IS:Nat:=151
abbrev uM:Nat:=170
abbrev A6:Nat:=171
abbrev AR:Nat:=182
abbrev pH:Nat:=185
abbrev HY:Nat:=203
abbrev ON:Nat:=234
abbrev pM:Nat:=240
abbrev DX:Nat:=260
abbrev Nt:Nat:=264
end ad
namespace G
end G
def afG:List gB:=[(.fM []),
  (.one (.one .fn)),
  (.one (.one (.int .i64))),
  (.one (.one (.int .i64))),
  (.one (.one .bool)),
  (.one (.one (.int .u8))),
  (.one (.one (.int .u8))),
  (.one (.flat [(.int .i64),(.int .i64), .bool,(.int .u8)])),
  (.one (.flat [(.int .i64),(.int .i64), .bool,(.int .u8)])),
  (.one (.one .str)),
  (.one (.one .str)),
  (.one (.one .str)),
  (.one (.one (.int .u64))),
  (.one (.flat [.str,(.int .u64)])),
  (.one (.flat [.str,(.int .u64)])),
  (.one (.one .ptr)),
  (.one (.one .ptr)),
  (.one (.one .ptr)),
  (.one (.flat [.ptr])),
  (.one (.flat [.ptr])),
  (.one (.one .any)),
  (.one (.one (.int .i32))),
  (.one (.one .slice)),
  (.one (.one .ptr)),
  (.one (.one (.int .i64))),
  (.fM [(.one .ptr),(.one (.int .i64))]),
  (.one (.one .fn)),
  (.one (.one .slice)),
  (.fM [(.one .slice),(.one (.int .i64))]),
  (.one (.one .fn)),
  (.one (.one (.int .u64))),
  (.one (.flat [(.int .i64),(.int .u64), .slice])),
  (.one (.flat [(.int .i64),(.int .u64), .slice])),
  (.one (.one .agg)),
  (.one (.one .agg)),
  (.one (.one .fn)),
  (.one (.one .fn)),
  (.one (.one .agg)),
  (.one (.one .agg)),
  (.one (.one .agg)),
  (.one (.one .agg)),
  (.fM [(.one .agg),(.one (.int .i64))]),
  (.one (.one .fn)),
  (.one (.one .fn)),
  (.one (.one .slice)),
  (.one (.one .fn)),
  (.one (.one .fn)),
  (.one (.one .fn)),
  (.one (.one .fn)),
  (.one (.one .fn)),
  (.one (.one .slice)),
  (.one (.one .ptr)),
  (.fM [(.one .ptr),(.one (.int .i64))]),
  (.one (.one .fn)),
  (.one (.flat [(.int .i64),(.int .i64),(.int .u64)])),
  (.one (.flat [(.int .i64),(.int .i64),(.int .u64)])),
  (.one (.one .fn)),
  (.one (.flat [(.int .i64), .slice, .slice,(.int .i64)])),
  (.one (.flat [(.int .i64), .slice, .slice,(.int .i64)])),
  (.one (.one .fn)),
  (.fM [(.one .bool),(.one (.int .i64))]),
  (.one (.one .fn)),
  (.one (.one .fn)),
  (.one (.one .fn)),
  (.one (.one .fn)),
  (.one (.one .fn)),
  (.one (.one .slice)),
  (.one (.flat [(.int .i64),(.int .i64),(.int .u8)])),
  (.one (.flat [(.int .i64),(.int .i64),(.int .u8)])),
  (.one (.one .ptr)),
  (.one (.one .slice)),
  (.one (.flat [.slice])),
  (.one (.flat [.slice])),
  (.one (.one .agg)),
  (.one (.one .agg)),
  (.one (.one .slice)),
  (.one (.flat [(.int .i64),(.int .i64),(.int .i64), .slice, .slice, .slice])),
  (.one (.flat [(.int .i64),(.int .i64),(.int .i64), .slice, .slice, .slice])),
  (.one (.one .fn)),
  (.one (.one .fn)),
  (.one (.one .fn)),
  (.fM [(.one .slice),(.one (.int .i64))]),
  (.one (.one .fn)),
  (.one (.one .fn)),
  (.one (.one .fn)),
  (.one (.one (.int .u64))),
  (.one (.one .fn)),
  (.one (.flat [(.int .i64),(.int .i64),(.int .i64),(.int .u64),(.int .u64),(.int .i64)])),
  (.one (.flat [(.int .i64),(.int .i64),(.int .i64),(.int .u64),(.int .u64),(.int .i64)])),
  (.one (.one .fn)),
  (.fM [(.one .bool),(.one .agg)]),
  (.one (.one .fn)),
  (.one (.one .fn)),
  (.one (.one .fn)),
  (.one (.one .fn)),
  (.one (.one .fn)),
  (.one (.one .fn)),
  (.one (.one .fn)),
  (.one (.one .fn)),
  (.fM [(.one .slice),(.one .bool),(.one (.int .i64))]),
  (.one (.one .fn)),
  (.one (.one .fn)),
  (.one (.one .fn)),
  (.one (.one .fn)),
  (.one (.one .fn)),
  (.one (.one .slice)),
  (.one (.one .map)),
  (.one (.one .agg)),
  (.one (.one .agg)),
  (.one (.one .agg)),
  (.one (.one .agg)),
  (.one (.one .fn)),
  (.one (.one .fn)),
  (.one (.one (.int .u32))),
  (.one (.one .fn)),
  (.one (.one .fn)),
  (.one (.one .agg)),
  (.one (.one .agg)),
  (.one (.one .ptr)),
  (.one (.one .map)),
  (.one (.one .agg)),
  (.one (.one .agg)),
  (.one (.one .fn)),
  (.fM [(.flat [(.int .i64),(.int .i64),(.int .i64),(.int .u64),(.int .u64),(.int .i64)]),(.one (.int .u64)),(.one (.int .i64))]),
  (.one (.one .fn)),
  (.one (.one .fn)),
  (.one (.one .fn)),
  (.fM [(.flat [(.int .i64),(.int .i64),(.int .i64),(.int .u64),(.int .u64),(.int .i64)]),(.one (.int .u64)),(.one (.int .i64))]),
  (.one (.one .fn)),
  (.fM [(.flat [(.int .i64),(.int .u64), .slice]),(.one (.int .i64))]),
  (.one (.one .fn)),
  (.one (.flat [.bool, .slice, .slice, .slice])),
  (.one (.flat [.bool, .slice, .slice, .slice])),
  (.fM [(.flat [.bool, .slice, .slice, .slice]),(.one .bool)]),
  (.one (.one .fn)),
  (.one (.one .ptr)),
  (.one (.one .fn)),
  (.one (.one .slice)),
  (.one (.flat [.slice, .slice])),
  (.one (.flat [.slice, .slice])),
  (.one (.one .fn)),
  (.one (.one .ptr)),
  (.fM [(.one .ptr),(.one (.int .i64))]),
  (.one (.one .fn)),
  (.one (.one .fn)),
  (.one (.one .agg)),
  (.one (.one .fn)),
  (.one (.one .fn)),
  (.one (.one .ptr)),
  (.one (.one .ptr)),
  (.one (.one .agg)),
  (.one (.one .agg)),
  (.one (.one .fn)),
  (.one (.one .fn)),
  (.fM [(.one (.int .i64)),(.one .bool)]),
  (.one (.one .fn)),
  (.one (.flat [.slice, .slice])),
  (.one (.flat [.slice, .slice])),
  (.one (.one .fn)),
  (.one (.one .fn)),
  (.one (.one .fn)),
  (.one (.one .fn)),
  (.one (.one .fn)),
  (.one (.one .ptr)),
  (.one (.one .fn)),
  (.one (.one .fn)),
  (.one (.one .ptr)),
  (.one (.one .fn)),
  (.one (.one .fn)),
  (.one (.flat [(.int .i64),(.int .i64)])),
  (.one (.flat [(.int .i64),(.int .i64)])),
  (.one (.one .slice)),
  (.one (.one .fn)),
  (.one (.one .fn)),
  (.one (.one .fn)),
  (.one (.one .fn)),
  (.fM [(.one (.int .i64)),(.one (.int .i64))]),
  (.one (.one .fn)),
  (.fM [(.one .slice),(.one (.int .i64))]),
  (.one (.one .fn)),
  (.one (.one .fn)),
  (.one (.one .fn)),
  (.one (.one .slice)),
  (.one (.one .fn)),
  (.one (.flat [(.int .i64), .slice, .slice])),
  (.one (.flat [(.int .i64), .slice, .slice])),
  (.one (.one .fn)),
  (.one (.one .fn)),
  (.one (.one .fn)),
  (.fM [(.one .ptr),(.one (.int .i64))]),
  (.one (.one .fn)),
  (.fM [(.one .ptr),(.one (.int .i64))]),
  (.one (.one .fn)),
  (.one (.one .slice)),
  (.fM [(.one .slice),(.one (.int .i64))]),
  (.one (.one .fn)),
  (.one (.one .agg)),
  (.one (.one .agg)),
  (.one (.one .fn)),
  (.one (.one .fn)),
  (.one (.one .fn)),
  (.one (.one .fn)),
  (.one (.flat [.ptr, .ptr,(.int .u64),(.int .i64),(.int .i64)])),
  (.one (.flat [.ptr, .ptr,(.int .u64),(.int .i64),(.int .i64)])),
  (.one (.one .fn)),
  (.fM [(.one .slice),(.one (.int .i64)),(.one (.int .i64))]),
  (.one (.one .fn)),
  (.one (.one .fn)),
  (.fM [(.one (.int .i64)),(.one (.int .i64))]),
  (.one (.one .fn)),
  (.one (.one .fn)),
  (.fM [(.flat [(.int .i64),(.int .i64),(.int .i64),(.int .u64),(.int .u64),(.int .i64)]),(.one (.int .i64)),(.one (.int .u64)),(.one (.int .i64))]),
  (.one (.one .fn)),
  (.one (.one .fn)),
  (.one (.one .fn)),
  (.one (.one .fn)),
  (.one (.one .fn)),
  (.one (.one .fn)),
  (.one (.one .fn)),
  (.one (.one .fn)),
  (.one (.one .fn)),
  (.one (.one .fn)),
  (.fM [(.flat [.bool, .slice, .slice, .slice]),(.one (.int .i64))]),
  (.one (.one .fn)),
  (.fM [(.one .slice),(.one .bool)]),
  (.one (.one .fn)),
  (.one (.one .fn)),
  (.one (.one .fn)),
  (.one (.one .fn)),
  (.one (.one .fn)),
  (.one (.one .fn)),
  (.one (.one .fn)),
  (.one (.one .slice)),
  (.one (.flat [.ptr, .slice,(.int .i64)])),
  (.one (.flat [.ptr, .slice,(.int .i64)])),
  (.one (.one .fn)),
  (.one (.one .fn)),
  (.one (.one .fn)),
  (.one (.one .fn)),
  (.one (.flat [.bool, .bool, .bool,(.int .i64),(.int .i64), .slice])),
  (.one (.flat [.bool, .bool, .bool,(.int .i64),(.int .i64), .slice])),
  (.one (.one .ptr)),
  (.one (.one .fn)),
  (.one (.one .fn)),
  (.one (.one .fn)),
  (.one (.one .fn)),
  (.one (.one .ptr)),
  (.one (.flat [.ptr, .slice, .slice])),
  (.one (.flat [.ptr, .slice, .slice])),
  (.fM [(.one (.int .i64)),(.one (.int .i64)),(.one (.int .i64))]),
  (.one (.one .fn)),
  (.one (.one .fn)),
  (.one (.one .ptr)),
  (.one (.flat [.ptr, .slice,(.int .i64)])),
  (.one (.flat [.ptr, .slice,(.int .i64)])),
  (.one (.one .fn)),
  (.fM [(.one .ptr),(.one (.int .i64))]),
  (.one (.one .fn)),
  (.one (.one .ptr)),
  (.one (.flat [.slice,(.int .i64)])),
  (.one (.flat [.slice,(.int .i64)])),
  (.one (.one .fn)),
  (.one (.one .ptr)),
  (.one (.flat [.slice, .bool])),
  (.one (.flat [.slice, .bool])),
  (.one (.one .fn)),
  (.fM [(.one (.int .u64)),(.one .bool)]),
  (.one (.one .fn)),
  (.one (.one .fn)),
  (.one (.one (.int .i64))),
  (.fM [(.one (.int .i64)),(.one (.int .i64))]),
  (.one (.one .fn)),
  (.one (.one .fn)),
  (.one (.one .fn)),
  (.one (.one .fn)),
  (.one (.one .fn)),
  (.one (.one .fn)),
  (.one (.one .fn)),
  (.one (.one .fn)),
  (.one (.one .fn)),
  (.one (.one .fn)),
  (.one (.one .fn)),
  (.one (.one .fn)),
  (.one (.one .fn)),
  (.one (.one .ptr)),
  (.one (.one .slice)),
  (.fM [(.one .slice),(.one (.int .i64)),(.one (.int .i64)),(.one (.int .i64))]),
  (.one (.one .fn)),
  (.one (.one .fn)),
  (.one (.one .fn)),
  (.fM [(.one .slice),(.one (.int .i64))]),
  (.one (.one .fn)),
  (.one (.flat [.slice,(.int .i64)])),
  (.one (.flat [.slice,(.int .i64)])),
  (.one (.one .fn)),
  (.one (.one .fn)),
  (.one (.one .fn)),
  (.one (.one .fn)),
  (.one (.one .fn)),
  (.one (.one .fn)),
  (.one (.one (.int .u64))),
  (.one (.one .fn)),
  (.one (.one .fn)),
  (.one (.one .ptr)),
  (.one (.one .fn)),
  (.one (.one .fn)),
  (.one (.one .fn)),
  (.one (.one .fn)),
  (.one (.one .fn)),
  (.one (.one .fn)),
  (.one (.one .fn)),
  (.one (.one .ptr)),
  (.one (.one .fn)),
  (.one (.one .fn)),
  (.fM [(.flat [.bool, .slice, .slice, .slice]),(.one .slice),(.flat [.bool, .slice, .slice, .slice]),(.one .bool)]),
  (.one (.one .fn)),
  (.one (.one .fn)),
  (.one (.one .fn)),
  (.one (.flat [.ptr, .ptr, .ptr, .str])),
  (.one (.flat [.ptr, .ptr, .ptr, .str])),
  (.one (.one .agg)),
  (.one (.one .agg)),
  (.one (.one .agg)),
  (.one (.one (.int .u8))),
  (.one (.one (.int .u8))),
  (.one (.one .fn)),
  (.one (.one .ptr)),
  (.one (.one (.int .i32))),
  (.one (.one (.int .i32))),
  (.one (.one .agg)),
  (.one (.one .agg)),
  (.one (.one .ptr))]
def bc:TypeId→gB:=fun t=>afG.getD t (.one (.one .any))
theorem afH:Tryz.prog.follows .mixedOrders=true:=by kernel_rfl
def ab (w:World):Addr:=⟨w.heap.size,0,none⟩
def av (n:Int):Int:=IntKind.wrap .i64 n
def aQ (n:Int) (k:Nat):Prop:=(0:Int)≤n∧n<((k:Nat):Int)
def au (c:Bool) (A B:Prop):Prop:=(c=true→A)∧(c=false→B)
def oq:Int:=9223372036854775807
def st (w:World) (A:Addr) (v:Value) (K:World→Prop):Prop:=(∃u:Value,w.cell? A=some u)∧w.frozen? A=false∧ay (w.setCell A v) fun af=>K af
def akG (w:World) (z:Obj) (l:List Value) (k:Nat) (K:World→Prop):Prop:=ay (w.alloc z) fun af=>bW af (ab w) (Array.toList l.toArray)∧Array.size l.toArray=k∧ay (setCells af (ab w) 0 (Array.toList l.toArray)) fun aw=>K aw
def NU (s:ah) (n:Int) (w:World) (k:Nat) (K:List Value→Prop):Prop:=∃a:Addr,s.a=some a∧aQ n s.len∧∃l:List Value,cn w (a.add (Int.toNat n*k)) 0 k=some l∧K l
def bS (f:Nat) (a:Array Value) (w:World) (K:Int→World→Prop):Prop:=Calls Tryz.prog f a w fun e J=>∃cW:Int,e= .returned (.int .i64 cW)∧K cW J
def cu (f:Nat) (a:Array Value) (w:World) (K:World→Prop):Prop:=Calls Tryz.prog f a w fun e J=>e= .returned (.tuple #[])∧K J
def cx (f:Nat) (a:Array Value) (w:World) (K:Bool→World→Prop):Prop:=Calls Tryz.prog f a w fun e J=>∃cW:Bool,e= .returned (.bool cW)∧K cW J
def gg (f:Nat) (a:Array Value) (w:World) (K:ah→Int→World→Prop):Prop:=Calls Tryz.prog f a w fun e J=>∃cW:ah,∃dI:Int,e= .returned (.tuple #[.slice cW.a cW.len cW.cap, .int .i64 dI])∧K cW dI J
def lD (f:Nat) (a:Array Value) (w:World) (K:Int→Int→Int→Int→Int→Int→Int→Int→World→Prop):Prop:=Calls Tryz.prog f a w fun e J=>∃cW:Int,∃dI:Int,∃fj:Int,∃jK:Int,∃nV:Int,∃wQ:Int,∃yH:Int,∃Ca:Int,e= .returned (.tuple #[.agg #[.int .i64 cW, .int .i64 dI, .int .i64 fj, .int .u64 jK, .int .u64 nV, .int .i64 wQ], .int .u64 yH, .int .i64 Ca])∧K cW dI fj jK nV wQ yH Ca J
def kB (f:Nat) (a:Array Value) (w:World) (K:Option Addr→Int→World→Prop):Prop:=Calls Tryz.prog f a w fun e J=>∃cW:Option Addr,∃dI:Int,e= .returned (.tuple #[.pointer cW, .int .i64 dI])∧K cW dI J
def cp (f:Nat) (a:Array Value) (w:World) (K:ah→World→Prop):Prop:=Calls Tryz.prog f a w fun e J=>∃cW:ah,e= .returned (.slice cW.a cW.len cW.cap)∧K cW J
def qZ (f:Nat) (a:Array Value) (w:World) (K:Array Value→World→Prop):Prop:=Calls Tryz.prog f a w fun e J=>∃cW:Array Value,e= .returned (.agg cW)∧K cW J
def lH (f:Nat) (a:Array Value) (w:World) (K:Int→Int→ah→Int→World→Prop):Prop:=Calls Tryz.prog f a w fun e J=>∃cW:Int,∃dI:Int,∃fj:ah,∃jK:Int,e= .returned (.tuple #[.agg #[.int .i64 cW, .int .u64 dI, .slice fj.a fj.len fj.cap], .int .i64 jK])∧K cW dI fj jK J
def gM (f:Nat) (a:Array Value) (w:World) (K:Int→World→Prop):Prop:=Calls Tryz.prog f a w fun e J=>∃cW:Int,e= .returned (.int .u32 cW)∧K cW J
def yk (f:Nat) (a:Array Value) (w:World) (K:Int→Int→Int→Int→Int→Int→Int→Int→Int→World→Prop):Prop:=Calls Tryz.prog f a w fun e J=>∃cW:Int,∃dI:Int,∃fj:Int,∃jK:Int,∃nV:Int,∃wQ:Int,∃yH:Int,∃Ca:Int,∃SW:Int,e= .returned (.tuple #[.agg #[.int .i64 cW, .int .i64 dI, .int .i64 fj, .int .u64 jK, .int .u64 nV, .int .i64 wQ], .int .i64 yH, .int .u64 Ca, .int .i64 SW])∧K cW dI fj jK nV wQ yH Ca SW J
def H4 (f:Nat) (a:Array Value) (w:World) (K:Bool→ah→ah→ah→Int→World→Prop):Prop:=Calls Tryz.prog f a w fun e J=>∃cW:Bool,∃dI:ah,∃fj:ah,∃jK:ah,∃nV:Int,e= .returned (.tuple #[.agg #[.bool cW, .slice dI.a dI.len dI.cap, .slice fj.a fj.len fj.cap, .slice jK.a jK.len jK.cap], .int .i64 nV])∧K cW dI fj jK nV J
def dW (f:Nat) (a:Array Value) (w:World) (K:Int→World→Prop):Prop:=Calls Tryz.prog f a w fun e J=>∃cW:Int,e= .returned (.int .u64 cW)∧K cW J
def vD (f:Nat) (a:Array Value) (w:World) (K:ah→Bool→World→Prop):Prop:=Calls Tryz.prog f a w fun e J=>∃cW:ah,∃dI:Bool,e= .returned (.tuple #[.slice cW.a cW.len cW.cap, .bool dI])∧K cW dI J
def x7 (f:Nat) (a:Array Value) (w:World) (K:Int→Bool→World→Prop):Prop:=Calls Tryz.prog f a w fun e J=>∃cW:Int,∃dI:Bool,e= .returned (.tuple #[.int .u64 cW, .bool dI])∧K cW dI J
def QR (f:Nat) (a:Array Value) (w:World) (K:Bool→ah→ah→ah→Bool→World→Prop):Prop:=Calls Tryz.prog f a w fun e J=>∃cW:Bool,∃dI:ah,∃fj:ah,∃jK:ah,∃nV:Bool,e= .returned (.tuple #[.agg #[.bool cW, .slice dI.a dI.len dI.cap, .slice fj.a fj.len fj.cap, .slice jK.a jK.len jK.cap], .bool nV])∧K cW dI fj jK nV J
def sW (f:Nat) (a:Array Value) (w:World) (K:Option Addr→World→Prop):Prop:=Calls Tryz.prog f a w fun e J=>∃cW:Option Addr,e= .returned (.pointer cW)∧K cW J
def Jp (f:Nat) (a:Array Value) (w:World) (K:Int→Int→World→Prop):Prop:=Calls Tryz.prog f a w fun e J=>∃cW:Int,∃dI:Int,e= .returned (.tuple #[.int .i64 cW, .int .i64 dI])∧K cW dI J
def Ru (f:Nat) (a:Array Value) (w:World) (K:Int→Int→ah→World→Prop):Prop:=Calls Tryz.prog f a w fun e J=>∃cW:Int,∃dI:Int,∃fj:ah,e= .returned (.agg #[.int .i64 cW, .int .u64 dI, .slice fj.a fj.len fj.cap])∧K cW dI fj J
def pU (f:Nat) (a:Array Value) (w:World) (K:Array Value→Int→World→Prop):Prop:=Calls Tryz.prog f a w fun e J=>∃cW:Array Value,∃dI:Int,e= .returned (.tuple #[.agg cW, .int .i64 dI])∧K cW dI J
def P5 (f:Nat) (a:Array Value) (w:World) (K:Int→Int→Int→World→Prop):Prop:=Calls Tryz.prog f a w fun e J=>∃cW:Int,∃dI:Int,∃fj:Int,e= .returned (.agg #[.int .i64 cW, .int .i64 dI, .int .u64 fj])∧K cW dI fj J
def az (w:World) (A:Addr) (K:Int→Prop):Prop:=∃x:Int,w.cell? A=some (.int .i64 x)∧K x
def b1 (w:World) (A:Addr) (K:Int→Prop):Prop:=∃x:Int,w.cell? A=some (.int .u8 x)∧K x
def aG (w:World) (A:Addr) (K:ah→Prop):Prop:=∃x:ah,w.cell? A=some (.slice x.a x.len x.cap)∧K x
def bJ (w:World) (A:Addr) (K:Int→Prop):Prop:=∃x:Int,w.cell? A=some (.int .u64 x)∧K x
def ef (w:World) (A:Addr) (K:Bool→Prop):Prop:=∃x:Bool,w.cell? A=some (.bool x)∧K x
def iy:Obj:= .cells #[.int .i64 0, .int .i64 0, .int .u64 0, .int .u64 0, .int .i64 0, .int .i64 0, .int .i64 0, .int .i64 0, .int .i64 0, .int .i64 0] ad.kL
def fe:Obj:= .cells #[.int .i64 0, .int .i64 0, .int .i64 0, .int .u64 0, .int .u64 0, .int .i64 0] ad.fR
def z3:Obj:= .cells #[.int .u8 0, .int .u8 0, .int .u8 0, .int .u8 0, .int .u8 0, .int .u8 0, .int .u8 0, .int .u8 0, .int .u8 0, .int .u8 0, .int .u8 0, .int .u8 0, .int .u8 0, .int .u8 0, .int .u8 0, .int .u8 0, .int .u8 0, .int .u8 0, .int .u8 0, .int .u8 0, .int .u8 0, .int .u8 0, .int .u8 0, .int .u8 0, .int .u8 0, .int .u8 0, .int .u8 0, .int .u8 0, .int .u8 0, .int .u8 0, .int .u8 0, .int .u8 0, .int .u8 0, .int .u8 0, .int .u8 0, .int .u8 0, .int .u8 0, .int .u8 0, .int .u8 0, .int .u8 0, .int .u8 0, .int .u8 0, .int .u8 0, .int .u8 0, .int .u8 0, .int .u8 0, .int .u8 0, .int .u8 0, .int .u8 0, .int .u8 0, .int .u8 0, .int .u8 0, .int .u8 0, .int .u8 0, .int .u8 0, .int .u8 0, .int .u8 0, .int .u8 0, .int .u8 0, .int .u8 0, .int .u8 0, .int .u8 0, .int .u8 0, .int .u8 0, .int .u8 0, .int .u8 0, .int .u8 0, .int .u8 0, .int .u8 0, .int .u8 0, .int .u8 0, .int .u8 0, .int .u8 0, .int .u8 0, .int .u8 0, .int .u8 0, .int .u8 0, .int .u8 0, .int .u8 0, .int .u8 0, .int .u8 0, .int .u8 0, .int .u8 0, .int .u8 0, .int .u8 0, .int .u8 0, .int .u8 0, .int .u8 0, .int .u8 0, .int .u8 0, .int .u8 0, .int .u8 0, .int .u8 0, .int .u8 0, .int .u8 0, .int .u8 0, .int .u8 0, .int .u8 0, .int .u8 0, .int .u8 0, .int .u8 0, .int .u8 0, .int .u8 0, .int .u8 0, .int .u8 0, .int .u8 0, .int .u8 0, .int .u8 0, .int .u8 0, .int .u8 0, .int .u8 0, .int .u8 0, .int .u8 0, .int .u8 0, .int .u8 0, .int .u8 0, .int .u8 0, .int .u8 0, .int .u8 0, .int .u8 0, .int .u8 0, .int .u8 0, .int .u8 0, .int .u8 0, .int .u8 0, .int .u8 0, .int .u8 0, .int .u8 0, .int .u8 0, .int .u8 0, .int .u8 0, .int .u8 0, .int .u8 0, .int .u8 0, .int .u8 0, .int .u8 0, .int .u8 0, .int .u8 0, .int .u8 0, .int .u8 0, .int .u8 0, .int .u8 0, .int .u8 0, .int .u8 0, .int .u8 0, .int .u8 0, .int .u8 0, .int .u8 0, .int .u8 0, .int .u8 0, .int .u8 0, .int .u8 0, .int .u8 0, .int .u8 0, .int .u8 0, .int .u8 0, .int .u8 0, .int .u8 0, .int .u8 0, .int .u8 0, .int .u8 0, .int .u8 0, .int .u8 0, .int .u8 0, .int .u8 0, .int .u8 0, .int .u8 0, .int .u8 0, .int .u8 0, .int .u8 0, .int .u8 0, .int .u8 0, .int .u8 0, .int .u8 0, .int .u8 0, .int .u8 0, .int .u8 0, .int .u8 0, .int .u8 0, .int .u8 0, .int .u8 0, .int .u8 0, .int .u8 0, .int .u8 0, .int .u8 0, .int .u8 0, .int .u8 0, .int .u8 0, .int .u8 0, .int .u8 0, .int .u8 0, .int .u8 0, .int .u8 0, .int .u8 0, .int .u8 0, .int .u8 0, .int .u8 0, .int .u8 0, .int .u8 0, .int .u8 0, .int .u8 0, .int .u8 0, .int .u8 0, .int .u8 0, .int .u8 0, .int .u8 0, .int .u8 0, .int .u8 0, .int .u8 0, .int .u8 0, .int .u8 0, .int .u8 0, .int .u8 0, .int .u8 0, .int .u8 0, .int .u8 0, .int .u8 0, .int .u8 0, .int .u8 0, .int .u8 0, .int .u8 0, .int .u8 0, .int .u8 0, .int .u8 0, .int .u8 0, .int .u8 0, .int .u8 0, .int .u8 0, .int .u8 0, .int .u8 0, .int .u8 0, .int .u8 0, .int .u8 0, .int .u8 0, .int .u8 0, .int .u8 0, .int .u8 0, .int .u8 0, .int .u8 0, .int .u8 0, .int .u8 0, .int .u8 0, .int .u8 0, .int .u8 0, .int .u8 0, .int .u8 0, .int .u8 0, .int .u8 0, .int .u8 0, .int .u8 0, .int .u8 0, .int .u8 0, .int .u8 0, .int .u8 0, .int .u8 0, .int .u8 0] ad.iQ
def z4:Obj:= .cells #[.int .i64 0, .int .u64 0, .slice none 0 0] ad.jD
def z5:Obj:= .cells #[.bool false, .slice none 0 0, .slice none 0 0, .slice none 0 0] ad.ia
def bp:bn:=(.s .r (.c (.s .r .l) .l))
def lh:bn:=(.s .r (.s (.s .r (.bT (.loop [(8,(.int .i64))] [0,1,7] (.s .r (.s (.c .l .l) (.s (.bT (.s .r bp)) .r)))))) (.s .r .l)))
def iM:bn:=(.s .r (.s bp (.s .r .l)))
def kq:bn:=(.s (.s .r (.c .l .l)) (.s (.bT bp) .r))
def lj:bn:=(.s (.s .r bp) (.s .r .l))
def bM:bn:=(.s .r (.s (.c .l .l) (.s (.bT (.s .r .r)) .r)))
def a3:bn:=(.s (.du [.run, .run, .run, .run, .run, .run, .run, .run, .split 3, .run, .run, .run, .run, .split 4, .run, .run, .run, .run, .run, .split 4, .run, .run, .run, .run, .run, .split 3, .run, .run, .run, .run, .pure 2]) (.c (.s .r .l) .l))
def a4:bn:=(.s (.s .r (.c .l .l)) (.s (.bT .r) .r))
def a5:bn:=(.s .r (.s (.du [.run, .run, .run, .pure 2]) .l))
def fo:bn:=(.s (.du [.run, .run, .run, .run, .split 4]) (.c (.s .r .l) .l))
def jr:bn:=(.s .r (.s .r (.s .r .l)))
def fV:bn:=(.c (.s .r (.s .r .l)) .l)
def a9:bn:=(.s (.du [.run, .run, .run, .run, .run, .pure 2]) (.c .l .l))
def jS:bn:=(.s (.du [.run, .run, .run, .pure 2]) (.c (.s .r .l) .l))
theorem okF {f:Nat} {fn:Func} (A:bn) {args:List Value} {w:World} {Q:Value→World→Prop} {p:Prop} (aL:Tryz.prog.funcs[f]? =some fn) (U:KQ fn args.length=true) (ag:p=KP Tryz.prog bc A fn args w Q) (h:p):aM Tryz.prog f args.toArray w Q:=afk afH aL U (Eq.mp ag h)
def w6 (fU:World) (l1:World) (aw:World) (w:World) (Q:Value→World→Prop):Prop:=∃KU:Nat→Prop,¬KU ((ab fU):Addr).block∧az l1 (ab fU) fun SX=>az l1 (Addr.add (ab fU) 1) fun n_=>az l1 (Addr.add (ab
 fU) 2) fun SY=>bJ l1 (Addr.add (ab fU) 3) fun xu=>bJ l1 (Addr.add (ab fU) 4) fun Cb=>az l1 (Addr.add (ab fU) 5) fun Cc=>¬KU (Addr.add (ab aw) 1).block∧bJ l1 (Addr.add (ab aw) 1) fun afI=>bW l1 (ab w) [.int
 .i64 SX, .int .i64 n_, .int .i64 SY, .int .u64 xu, .int .u64 Cb, .int .i64 Cc]∧(6:Nat)=6∧ay (setCells l1 (ab w) 0 [.int .i64 SX, .int .i64 n_, .int .i64 SY, .int .u64 xu, .int .u64 Cb, .int .i64 Cc]) fun m4=>aq KU
 l1 m4∧az m4 (ab w) fun F8=>az m4 (Addr.add (ab w) 1) fun zu=>az m4 (Addr.add (ab w) 2) fun zv=>bJ m4 (Addr.add (ab w) 3) fun F9=>bJ m4 (Addr.add (ab w) 4) fun zw=>az m4 (Addr.add (ab w) 5) fun zx=>Q (.tuple
 #[.agg #[.int .i64 F8, .int .i64 zu, .int .i64 zv, .int .u64 F9, .int .u64 zw, .int .i64 zx], .int .u64 afI, .int .i64 0]) m4
def u0 (c5:World) (w:World) (Q:Value→World→Prop):Prop:=az c5 (ab w) fun n23=>az c5 (Addr.add (ab w) 1) fun n24=>az c5 (Addr.add (ab w) 2) fun n25=>bJ c5 (Addr.add (ab w) 3) fun n26=>bJ c5 (Addr.add (ab w) 4) fun
 n27=>az c5 (Addr.add (ab w) 5) fun n28=>Q (.tuple #[.agg #[.int .i64 n23, .int .i64 n24, .int .i64 n25, .int .u64 n26, .int .u64 n27, .int .i64 n28], .int .u64 0, .int .i64 4]) c5
def D8 (cw:World) (cd:World) (w:World) (Q:Value→World→Prop) (n24:Int):Prop:=az cw (ab cd) fun n36=>az cw (Addr.add (ab cd) 1) fun n37=>az cw (Addr.add (ab cd) 2) fun n38=>bJ cw (Addr.add (ab cd) 3) fun n39
 =>bJ cw (Addr.add (ab cd) 4) fun n40=>az cw (Addr.add (ab cd) 5) fun n41=>bW cw (ab w) [.int .i64 n36, .int .i64 n37, .int .i64 n38, .int .u64 n39, .int .u64 n40, .int .i64 n41]∧(6:Nat)=6∧ay (setCells cw (ab w) 0
 [.int .i64 n36, .int .i64 n37, .int .i64 n38, .int .u64 n39, .int .u64 n40, .int .i64 n41]) fun eX=>az eX (ab w) fun zy=>az eX (Addr.add (ab w) 1) fun qf=>az eX (Addr.add (ab w) 2) fun tx=>bJ eX (Addr.add (ab w) 3) fun r3
 =>bJ eX (Addr.add (ab w) 4) fun r4=>az eX (Addr.add (ab w) 5) fun Cd=>Q (.tuple #[.agg #[.int .i64 zy, .int .i64 qf, .int .i64 tx, .int .u64 r3, .int .u64 r4, .int .i64 Cd], .int .u64 n24, .int .i64 2]) eX
def ED (g9:World) (eS:World) (bC:World) (n35:Int) (df:World) (qg:World→Prop):Prop:=ay (g9.drew) fun iF=>∃SZ:Nat→Prop,¬SZ ((ab eS):Addr).block∧az iF (ab eS) fun o8=>az iF (Addr.add (ab eS) 1)
 fun F_=>az iF (Addr.add (ab eS) 2) fun vj=>bJ iF (Addr.add (ab eS) 3) fun Ga=>bJ iF (Addr.add (ab eS) 4) fun zz=>az iF (Addr.add (ab eS) 5) fun qh=>∃S0:Addr,(some (ab bC):Option Addr)=some S0∧st iF
 (S0.add 4) (.int .i64 n35) fun sM=>aq SZ iF sM∧bW sM (ab df) [.int .i64 o8, .int .i64 F_, .int .i64 vj, .int .u64 Ga, .int .u64 zz, .int .i64 qh]∧(6:Nat)=6∧ay (setCells sM (ab df) 0 [.int .i64 o8, .int .i64
 F_, .int .i64 vj, .int .u64 Ga, .int .u64 zz, .int .i64 qh]) fun k4=>qg k4
def D7 (cw:World) (w:World) (Q:Value→World→Prop):Prop:=bW cw (ab w) [.int .i64 0, .int .i64 0, .int .i64 0, .int .u64 0, .int .u64 0, .int .i64 0]∧(6:Nat)=6∧ay (setCells cw (ab w) 0 [.int .i64 0, .int .i64 0,
 .int .i64 0, .int .u64 0, .int .u64 0, .int .i64 0]) fun cz=>az cz (ab w) fun n30=>az cz (Addr.add (ab w) 1) fun n31=>az cz (Addr.add (ab w) 2) fun n32=>bJ cz (Addr.add (ab w) 3) fun n33=>bJ cz (Addr.add (ab w) 4) fun n34=>
 az cz (Addr.add (ab w) 5) fun n35=>Q (.tuple #[.agg #[.int .i64 n30, .int .i64 n31, .int .i64 n32, .int .u64 n33, .int .u64 n34, .int .i64 n35], .int .u64 0, .int .i64 1]) cz
def y0 (bL:World) (af:World) (w:World) (Q:Value→World→Prop):Prop:=∃tc:List Value,cn bL (ab af) 0 10=some tc∧bW bL (ab w) (Array.toList tc.toArray)∧Array.size tc.toArray=10∧ay (setCells bL (ab
 w) 0 (Array.toList tc.toArray)) fun td=>∃Bu:List Value,cn td (ab w) 0 10=some Bu∧Q (.agg Bu.toArray) td
def Eh (dG:ah) (b9:World) (c7:World) (kR:Nat→Prop) (w:World) (ir:ah) (hN:Int→World→Prop) (bl:Int) (iu:Int→World→Nat) (aO:World):Prop:=∃cK:ah,∃eH:World,Sem.run Tryz.prog (Builtin.append_
 #[ad.iC,ad.iC] ad.iC #[.slice dG.a dG.len dG.cap, .slice (some (ab b9)) 1 1]) c7= .ok (.slice cK.a cK.len cK.cap) eH∧aq kR c7 eH∧∃xv:Addr,(some (ab w):Option Addr)=some xv∧(∃u:Value,eH.cell?
 xv=some u)∧eH.frozen? xv=false∧ay (eH.setCell xv (.slice ir.a ir.len ir.cap)) fun di=>∃oa:Addr,(some (ab w):Option Addr)=some oa∧st di (oa.add 1) (.slice cK.a cK.len cK.cap) fun dR=>hN (av (bl+1))
 dR∧iu (av (bl+1)) dR<iu bl aO
def vP (bR:World) (w:World) (Q:Value→World→Prop):Prop:=az bR (ab w) fun n9=>bJ bR (Addr.add (ab w) 1) fun n10=>aG bR (Addr.add (ab w) 2) fun dG=>Q (.tuple #[.agg #[.int .i64 n9, .int .u64 n10, .slice dG.a dG.len
 dG.cap], .int .i64 4]) bR
def Du (fK:World) (w:World) (qh:Int) (vk:Int) (o9:ah) (Q:Value→World→Prop):Prop:=bW fK (ab w) [.int .i64 (av qh), .int .u64 vk, .slice o9.a o9.len o9.cap]∧(3:Nat)=3∧ay (setCells fK (ab w) 0 [.int
 .i64 (av qh), .int .u64 vk, .slice o9.a o9.len o9.cap]) fun gX=>az gX (ab w) fun xw=>bJ gX (Addr.add (ab w) 1) fun zA=>aG gX (Addr.add (ab w) 2) fun KV=>Q (.tuple #[.agg #[.int .i64 xw, .int .u64 zA, .slice KV.a
 KV.len KV.cap], .int .i64 0]) gX
def Hd (aO:World) (aw:World) (af:World) (ob:World→Prop):Prop:=ay (aO.drew) fun bK=>∃KW:Nat→Prop,¬KW (Addr.add (ab aw) 3).block∧aG bK (Addr.add (ab aw) 3) fun dG=>bS F.pt #[.pointer (some (ab
 af)), .int .i64 2] bK fun n14 bw=>aq KW bK bw∧ay (bw.alloc (.cells #[.int .i64 n14] ad.int)) fun c7=>aq KW bw c7∧∃cK:ah,∃eH:World,Sem.run Tryz.prog (Builtin.append_ #[ad.da,ad.da] ad.da #[.slice
 dG.a dG.len dG.cap, .slice (some (ab bw)) 1 1]) c7= .ok (.slice cK.a cK.len cK.cap) eH∧st eH (Addr.add (ab aw) 3) (.slice cK.a cK.len cK.cap) fun cj=>ob cj
def II (xx:Value) (bw:World) (d:Option Addr) (r5:World→Prop) (vl:World→Nat) (cJ:World):Prop:=∃n15:Int,∃afJ:Value,∃eH:World,Sem.run Tryz.prog (Instr.entry (xx)) bw= .ok (.tuple #[.int .i64 n15,afJ])
 eH∧ay (eH.drew) fun cj=>∃S1:Nat→Prop,∃oa:Addr,d=some oa∧¬S1 (oa.add 4).block∧aG cj (oa.add 4) fun hY=>qZ F.sD #[.pointer d, .int .i64 n15] cj fun KX c5=>aq S1 cj c5∧∃a25:Addr,
 hY.a=some a25∧aQ n15 hY.len∧bW c5 (a25.add (Int.toNat n15*256)) (Array.toList KX)∧Array.size KX=256∧ay (setCells c5 (a25.add (Int.toNat n15*256)) 0 (Array.toList KX)) fun dm=>r5 dm∧vl dm<vl cJ
def DV (cK:ah) (hJ:ah) (di:World) (qi:Nat→Prop) (Ce:Option Nat) (i:Int) (d:Option Addr) (Q:Value→World→Prop):Prop:=∃gj:ah,∃dR:World,Sem.run Tryz.prog (Builtin.append_ #[ad.nG,
 ad.nG] ad.nG #[.slice cK.a cK.len cK.cap, .slice hJ.a hJ.len hJ.cap]) di= .ok (.slice gj.a gj.len gj.cap) dR∧aq qi di dR∧∃c5:World,Sem.run Tryz.prog (Instr.mapUpdate ad.pz
 (.map Ce) (.int .i64 i) (.slice gj.a gj.len gj.cap)) dR= .ok () c5∧∃a23:Addr,d=some a23∧az c5 (a23.add 6) fun n24=>∃a25:Addr,d=some a25∧st c5 (a25.add 6) (.int .i64 (av (n24+1))) fun dm=>Q (.int .i64 0) dm
def Hx (ck:World) (w:World) (Q:Value→World→Prop):Prop:=az ck (ab w) fun n35=>az ck (Addr.add (ab w) 1) fun n36=>az ck (Addr.add (ab w) 2) fun n37=>bJ ck (Addr.add (ab w) 3) fun n38=>bJ ck (Addr.add (ab w) 4) fun
 n39=>az ck (Addr.add (ab w) 5) fun n40=>Q (.tuple #[.agg #[.int .i64 n35, .int .i64 n36, .int .i64 n37, .int .u64 n38, .int .u64 n39, .int .i64 n40], .int .i64 0, .int .u64 0, .int .i64 4]) ck
def Jq (bL:World) (af:World) (n12:Int) (l2:Int→World→Prop) (n13:Int):Prop:=aG bL (Addr.add (ab af) 3) fun c3=>ay (bL.alloc (.cells #[.int .i64 n12] ad.int)) fun c7=>∃cK:ah,∃eH:World,Sem.run Tryz.prog
 (Builtin.append_ #[ad.da,ad.da] ad.da #[.slice c3.a c3.len c3.cap, .slice (some (ab bL)) 1 1]) c7= .ok (.slice cK.a cK.len cK.cap) eH∧st eH (Addr.add (ab af) 3) (.slice cK.a cK.len cK.cap) fun cj=>l2 n13 cj
def Dp (w:World) (b:ah) (Q:Value→World→Prop):Prop:=∃ (dn:Int→World→Prop) (eK:Int→World→Nat),dn 0 w∧∀ (aX:Int) (bf:World),dn aX bf→au (decide (aX<(b.len:Int))) (∃a5:Addr,b.a=some a5∧aQ aX b.len
 ∧b1 bf (a5.add (Int.toNat aX*1)) fun n6=>au (n6 !=0) (Q (.bool false) bf) (dn (av (aX+1)) bf∧eK (av (aX+1)) bf<eK aX bf)) (Q (.bool true) bf)
def GV (dN:ah):Prop:=(0:Int)≤(av (232-(dN.len:Int)))∧((av (232-(dN.len:Int))):Int)≤(av (232-(dN.len:Int)))∧((av (232-(dN.len:Int))):Int)≤oq∧((1:Nat):Int)*(av (232-(dN.len:Int)))≤
 140737488355328
def Jo (bf:World) (w:World) (Q:Value→World→Prop):Prop:=ef bf (ab w) fun ka=>aG bf (Addr.add (ab w) 1) fun bZ=>aG bf (Addr.add (ab w) 2) fun fq=>aG bf (Addr.add (ab w) 3) fun fB=>Q (.tuple #[.agg #[.bool ka, .slice
 bZ.a bZ.len bZ.cap, .slice fq.a fq.len fq.cap, .slice fB.a fB.len fB.cap], .bool false]) bf
def GW (eY:World) (b4:ah) (ck:World) (eJ:ah) (eS:World) (dN:ah) (Gb:ah→World→Prop):Prop:=ay (eY.alloc (.cells #[.slice b4.a b4.len b4.cap, .slice (some (ab ck)) (Int.toNat 4) (Int.toNat 4), .slice eJ.a
 eJ.len eJ.cap, .slice (some (ab eS)) (Int.toNat (av (232-(dN.len:Int)))) (Int.toNat (av (232-(dN.len:Int))))] ad.bE)) fun kn=>cp F.mK #[.slice (some (ab eY)) 4 4] kn fun x6 jZ=>Gb x6 jZ
def IJ (d:Option Addr) (bw:World) (Q:Value→World→Prop):Prop:=∃a27:Addr,d=some a27∧∃S2:Option Nat,bw.cell? (a27.add 5)=some (.map S2)∧∃ (afK:Value) (kM:World),Sem.run Tryz.prog (Builtin.clear_
 #[ad.pz] ad.t #[.map S2]) bw= .ok afK kM∧Q (.int .i64 0) kM
def EZ (s2:ah) (bZ:ah) (bf:World) (Q:Value→World→Prop):Prop:=∃fq:ah,∃bR:World,Sem.run Tryz.prog (Builtin.append_ #[ad.bE,ad.bE] ad.bE #[.slice s2.a s2.len s2.cap, .slice bZ.a bZ.len bZ.cap]) bf=
 .ok (.slice fq.a fq.len fq.cap) bR∧Q (.slice fq.a fq.len fq.cap) bR
def Dr (b9:World) (w:World) (Q:Value→World→Prop):Prop:=az b9 (ab w) fun n15=>bJ b9 (Addr.add (ab w) 1) fun n16=>aG b9 (Addr.add (ab w) 2) fun cP=>Q (.tuple #[.agg #[.int .i64 n15, .int .u64 n16, .slice cP.a
 cP.len cP.cap], .int .i64 12]) b9
def Dt (eD:World) (w:World) (Q:Value→World→Prop):Prop:=az eD (ab w) fun rI=>bJ eD (Addr.add (ab w) 1) fun zB=>aG eD (Addr.add (ab w) 2) fun qj=>Q (.tuple #[.agg #[.int .i64 rI, .int .u64 zB, .slice qj.a
 qj.len qj.cap], .int .i64 1]) eD
def Ds (eT:World) (w:World) (Q:Value→World→Prop):Prop:=az eT (ab w) fun n25=>bJ eT (Addr.add (ab w) 1) fun n26=>aG eT (Addr.add (ab w) 2) fun cv=>Q (.tuple #[.agg #[.int .i64 n25, .int .u64 n26, .slice cv.a
 cv.len cv.cap], .int .i64 5]) eT
def Hr (aO:World) (w:World) (zC:List Value) (Q:Value→World→Prop):Prop:=bW aO (ab w) (Array.toList zC.toArray)∧Array.size zC.toArray=256∧ay (setCells aO (ab w) 0 (Array.toList zC.toArray)) fun bR=>∃sE:List
 Value,cn bR (ab w) 0 256=some sE∧Q (.agg sE.toArray) bR
def DA (cP:ah) (gU:ah) (eT:World) (tz:ah→Int→World→Prop) (n18:Int) (xy:ah→Int→World→Nat) (di:World):Prop:=∃cv:ah,∃cw:World,Sem.run Tryz.prog (Builtin.append_ #[ad.bE,ad.bE]
 ad.bE #[.slice cP.a cP.len cP.cap, .slice gU.a gU.len gU.cap]) eT= .ok (.slice cv.a cv.len cv.cap) cw∧tz cv (av (n18+1)) cw∧xy cv (av (n18+1)) cw<xy cP n18 di
def Dq (aw:World) (w:World) (Q:Value→World→Prop):Prop:=az aw (ab w) fun aX=>bJ aw (Addr.add (ab w) 1) fun bl=>aG aw (Addr.add (ab w) 2) fun b7=>Q (.tuple #[.agg #[.int .i64 aX, .int .u64 bl, .slice b7.a b7.len b7.cap],
 .int .i64 9]) aw
def I_ (ig:World) (b:ah) (qk:Int) (Cf:World) (tA:Nat→Prop) (w:World) (vm:Int) (r6:Int) (Q:Value→World→Prop):Prop:=∃Gc:ah,∃rQ:World,Sem.run Tryz.prog (Builtin.append_ #[ad.bE,
 ad.bE] ad.bE #[.slice (some (ab ig)) 0 0, .slice (cN b.a 1 (Int.toNat 24) b.cap) ((Int.toNat (av (24+(av qk))))-(Int.toNat 24)) (b.cap-(Int.toNat 24))]) Cf= .ok (.slice Gc.a Gc.len Gc.cap) rQ∧aq tA
 Cf rQ∧Du rQ w vm r6 Gc Q
end
section
set_option maxRecDepth 100000
def W.uC (s:ah) (v:Int) (w:World) (Q:Value→World→Prop):Prop:=bS F.uB #[.slice s.a s.len s.cap, .int .i64 v] w fun aX af=>Q (.bool (decide (aX≥0))) af
def A.uC:bn:=(.s .r (.s .r .l))
theorem W.ZG (s:ah) (v:Int) (w:World) (Q:Value→World→Prop) (h:W.uC s v w Q):aM Tryz.prog F.uC #[.slice s.a s.len s.cap, .int .i64 v] w Q:=okF A.uC Tryz.func95 (by kernel_rfl) (by kernel_rfl) h
def W.ui (s:ah) (f:lX) (w:World) (Q:Value→World→Prop):Prop:=bS F.wk #[.slice s.a s.len s.cap, .func (.func f.f) f.pre f.cap] w fun aX af=>Q (.bool (decide (aX≥0)))
 af
def A.ui:bn:=(.s .r (.s .r .l))
theorem W.X9 (s:ah) (f:lX) (w:World) (Q:Value→World→Prop) (h:W.ui s f w Q):aM Tryz.prog F.ui #[.slice s.a s.len s.cap, .func (.func f.f) f.pre f.cap] w Q:=okF A.ui Tryz.func98 (by kernel_rfl) (by kernel_rfl) h
def W.uk (s:ah) (w:World) (Q:Value→World→Prop):Prop:=au (decide ((s.len:Int)<2)) (Q (.slice s.a s.len s.cap) w) (∃ (dn:Int→World→Prop) (eK:Int→World→Nat),dn 1 w∧∀ (aX:Int) (bf:
 World),dn aX bf→au (decide (aX<(s.len:Int))) (ay (bf.drew) fun aO=>∃fo:Addr,s.a=some fo∧aQ aX s.len∧¬False∧az aO (fo.add (Int.toNat aX*1)) fun n7=>∃fV:Addr,s.a=some fV∧aQ (av (aX-1)) s.len∧¬False∧az aO
 (fV.add (Int.toNat (av (aX-1))*1)) fun n9=>au (n7==n9) (((0:Int)≤aX∧aX≤(s.len:Int))∧∃ (KY:Int→Int→World→Prop) (S3:Int→Int→World→Nat),KY aX 1 aO∧∀ (n12:Int) (n13:Int) (b9:World),KY n12 n13 b9
 →au (decide (n13<(((s.len-(Int.toNat aX)):Nat):Int))) (br (fun S4:Int→World→Prop=>ay (b9.drew) fun cd=>∃lk:Addr,(cN s.a 1 (Int.toNat aX) s.cap)=some lk∧((0:Int)≤n13∧n13<(((s.len-(Int.toNat aX)):
 Nat):Int))∧¬False∧az cd (lk.add (Int.toNat n13*1)) fun n18=>∃o_:Addr,(cN s.a 1 (Int.toNat aX) s.cap)=some o_∧((0:Int)≤(av (n13-1))∧(av (n13-1))<(((s.len-(Int.toNat aX)):Nat):Int))∧¬False∧az
 cd (o_.add (Int.toNat (av (n13-1))*1)) fun n20=>au (n18 !=n20) (∃S5:Addr,(cN s.a 1 (Int.toNat aX) s.cap)=some S5∧((0:Int)≤n13∧n13<(((s.len-(Int.toNat aX)):Nat):Int))∧az cd (S5.add (Int.toNat n13*1))
 fun n22=>∃a23:Addr,s.a=some a23∧aQ n12 s.len∧st cd (a23.add (Int.toNat n12*1)) (.int .i64 n22) fun eT=>S4 (av (n12+1)) eT) (S4 n12 cd)) (fun (n25:Int) dm=>KY n25 (av (n13+1)) dm∧S3 n25 (av (n13+1)) dm
 <S3 n12 n13 b9)) (((0:Int)≤n12∧n12≤(s.len:Int))∧∃ (afL:Value) (cw:World),Sem.run Tryz.prog (Builtin.clear_ #[ad.da] ad.t #[.slice (cN s.a 1 (Int.toNat n12) s.cap) (s.len-(Int.toNat n12)) (s.cap-(Int.toNat
 n12))]) b9= .ok afL cw∧((0:Int)≤n12∧n12≤((s.cap:Nat):Int))∧Q (.slice (cN s.a 1 0 s.cap) ((Int.toNat n12)-0) (s.cap-0)) cw)) (dn (av (aX+1)) aO∧eK (av (aX+1)) aO<eK aX bf)) (Q (.slice s.a s.len s.cap) bf))
def A.uk:bn:=(.s .r (.s bp (.s (.s .r (.bT (.loop [(3,(.int .i64))] [0] (.s (.s .r (.c .l .l)) (.s (.bT (.s (.dO 9 false ⟨[0,0,3,4,0,0,32,80,128,264],[0,0,3,4,0,0,32,80,128,264]⟩ [65536,
 131072,262144,524288,1048576,2097152,4194304,8388608,16777216,33554432] [1,8,196608,262144,1,8,2097152,5242880,8388608,17301504] (.take 0 (.take 1 (.take 2 (.take 3 (.take 4 (.take 5 (.take 6 (.take 7 (.take 8 (.tail
 [.run]))))))))))) (.c (.s .r (.s (.s .r (.bT (.loop [(3,(.int .i64)),(5,(.int .i64))] [0,4] (.s (.s .r (.c .l .l)) (.s (.hM [(3,(.int .i64))] [0,4,5] (.bT (.s (.dO 9 false ⟨[0,0,3,4,0,0,32,80,128,264],[0,0,3,4,0,0,
 32,80,128,264]⟩ [34359738368,68719476736,137438953472,274877906944,549755813888,1099511627776,2199023255552,4398046511104,8796093022208,17592186044416] [16,32,103079215104,137438953472,16,32,1099511627776,2748779069440,
 4398046511104,9070970929152] (.take 0 (.take 1 (.take 2 (.take 3 (.take 4 (.take 5 (.take 6 (.take 7 (.take 8 (.tail [.run]))))))))))) (.c (.s .r .r) .l)))) .r))))) (.s .r (.s .r .l)))) .l))) .r))))) (.s .r .l))))
theorem W.Yg (s:ah) (w:World) (Q:Value→World→Prop) (h:W.uk s w Q):aM Tryz.prog F.uk #[.slice s.a s.len s.cap] w Q:=okF A.uk Tryz.func105 (by kernel_rfl) (by kernel_rfl) h
def W.l4 (s:ah) (w:World) (Q:Value→World→Prop):Prop:=au (Option.isNone s.a) (Q (.slice none 0 0) w) (ay (w.alloc (.cells #[] ad.uint8)) fun af=>∃s2:ah,∃bd:World,Sem.run Tryz.prog
 (Builtin.append_ #[ad.bE,ad.bE] ad.bE #[.slice (some (ab w)) 0 0, .slice s.a s.len s.cap]) af= .ok (.slice s2.a s2.len s2.cap) bd∧Q (.slice s2.a s2.len s2.cap) bd)
def A.l4:bn:=iM
theorem W.MS (s:ah) (w:World) (Q:Value→World→Prop) (h:W.l4 s w Q):aM Tryz.prog F.l4 #[.slice s.a s.len s.cap] w Q:=okF A.l4 Tryz.func122 (by kernel_rfl) (by kernel_rfl) h
def W.qD (a:ah) (b:ah) (w:World) (Q:Value→World→Prop):Prop:=∃dF:Int,∃aw:World,Sem.run Tryz.prog (callFunc F.afE #[.slice a.a a.len a.cap, .slice b.a b.len b.cap]) w= .ok (.value (.int
 .i64 dF)) aw∧Q (.int .i64 dF) aw
def A.qD:bn:=(.s .r (.s .r .l))
theorem W.Wo (a:ah) (b:ah) (w:World) (Q:Value→World→Prop) (h:W.qD a b w Q):aM Tryz.prog F.qD #[.slice a.a a.len a.cap, .slice b.a b.len b.cap] w Q:=okF A.qD Tryz.func148 (by kernel_rfl) (by kernel_rfl) h
def W.uB (s:ah) (v:Int) (w:World) (Q:Value→World→Prop):Prop:=∃ (dn:Int→World→Prop) (eK:Int→World→Nat),dn 0 w∧∀ (aX:Int) (bf:World),dn aX bf→au (decide (aX<(s.len:Int))) (∃a5:
 Addr,s.a=some a5∧aQ aX s.len∧az bf (a5.add (Int.toNat aX*1)) fun n6=>au (v==n6) (Q (.int .i64 aX) bf) (dn (av (aX+1)) bf∧eK (av (aX+1)) bf<eK aX bf)) (Q (.int .i64 (-1)) bf)
def A.uB:bn:=lh
theorem W.ZE (s:ah) (v:Int) (w:World) (Q:Value→World→Prop) (h:W.uB s v w Q):aM Tryz.prog F.uB #[.slice s.a s.len s.cap, .int .i64 v] w Q:=okF A.uB Tryz.func151 (by kernel_rfl) (by kernel_rfl) h
def W.wk (s:ah) (f:lX) (w:World) (Q:Value→World→Prop):Prop:=∃ (dn:Int→World→Prop) (eK:Int→World→Nat),dn 0 w∧∀ (aX:Int) (bf:World),dn aX bf→au (decide (aX<(s.len:Int))) (∃a5
 :Addr,s.a=some a5∧aQ aX s.len∧b1 bf (a5.add (Int.toNat aX*1)) fun n6=>tW Tryz.prog f.f∧Calls Tryz.prog f.f (f.pre++ #[.int .u8 n6]++f.cap) bf fun vL bk=>∃ll:Bool,vL= .returned (.bool ll)∧au ll (Q (.int .i64
 aX) bk) (dn (av (aX+1)) bk∧eK (av (aX+1)) bk<eK aX bf)) (Q (.int .i64 (-1)) bf)
def A.wk:bn:=lh
theorem W.X_ (s:ah) (f:lX) (w:World) (Q:Value→World→Prop) (h:W.wk s f w Q):aM Tryz.prog F.wk #[.slice s.a s.len s.cap, .func (.func f.f) f.pre f.cap] w Q:=okF A.wk Tryz.func153 (by kernel_rfl) (by kernel_rfl) h
def W.uu (s:ah) (w:World) (Q:Value→World→Prop):Prop:=au (Option.isNone s.a) (Q (.slice none 0 0) w) (ay (w.alloc (.cells #[] ad.uint8)) fun af=>∃s2:ah,∃bd:World,Sem.run Tryz.prog
 (Builtin.append_ #[ad.AR,ad.AR] ad.AR #[.slice (some (ab w)) 0 0, .slice s.a s.len s.cap]) af= .ok (.slice s2.a s2.len s2.cap) bd∧Q (.slice s2.a s2.len s2.cap) bd)
def A.uu:bn:=iM
theorem W.YV (s:ah) (w:World) (Q:Value→World→Prop) (h:W.uu s w Q):aM Tryz.prog F.uu #[.slice s.a s.len s.cap] w Q:=okF A.uu Tryz.func164 (by kernel_rfl) (by kernel_rfl) h
def W.qE (a:ah) (b:ah) (w:World) (Q:Value→World→Prop):Prop:=∃s1:ByteArray,∃aw:World,Sem.run Tryz.prog (convert ad.bE ad.string (.slice a.a a.len a.cap)) w= .ok (.string s1) aw∧∃cX:ByteArray,∃bf
 :World,Sem.run Tryz.prog (convert ad.bE ad.string (.slice b.a b.len b.cap)) aw= .ok (.string cX) bf∧Q (.bool (ByteArray.toList s1==ByteArray.toList cX)) bf
def A.qE:bn:=(.s .r (.s .r .l))
theorem W.Wp (a:ah) (b:ah) (w:World) (Q:Value→World→Prop) (h:W.qE a b w Q):aM Tryz.prog F.qE #[.slice a.a a.len a.cap, .slice b.a b.len b.cap] w Q:=okF A.qE Tryz.func194 (by kernel_rfl) (by kernel_rfl) h
end
section
set_option maxRecDepth 100000
def W.tV (s:ah) (f:lX) (w:World) (Q:Value→World→Prop):Prop:=bS F.vU #[.slice s.a s.len s.cap, .func (.func f.f) f.pre f.cap] w fun aX af=>Q (.bool
 (decide (aX≥0))) af
def A.tV:bn:=(.s .r (.s .r .l))
theorem W.Ww (s:ah) (f:lX) (w:World) (Q:Value→World→Prop) (h:W.tV s f w Q):aM Tryz.prog F.tV #[.slice s.a s.len s.cap, .func (.func f.f) f.pre f.cap] w Q:=okF A.tV Tryz.func213 (by kernel_rfl) (by kernel_rfl) h
def W.tX (s:ah) (f:lX) (w:World) (Q:Value→World→Prop):Prop:=bS F.vV #[.slice s.a s.len s.cap, .func (.func f.f) f.pre f.cap] w fun aX af=>Q (.bool (decide (aX≥0))) af
def A.tX:bn:=(.s .r (.s .r .l))
theorem W.WA (s:ah) (f:lX) (w:World) (Q:Value→World→Prop) (h:W.tX s f w Q):aM Tryz.prog F.tX #[.slice s.a s.len s.cap, .func (.func f.f) f.pre f.cap] w Q:=okF A.tX Tryz.func215 (by kernel_rfl) (by kernel_rfl) h
def W.vU (s:ah) (f:lX) (w:World) (Q:Value→World→Prop):Prop:=∃ (dn:Int→World→Prop) (eK:Int→World→Nat),dn 0 w∧∀ (aX:Int) (bf:World),dn aX bf→au (decide (aX<(s.len:Int)))
 (∃a5:Addr,s.a=some a5∧aQ aX s.len∧aG bf (a5.add (Int.toNat aX*1)) fun bZ=>tW Tryz.prog f.f∧Calls Tryz.prog f.f (f.pre++ #[.slice bZ.a bZ.len bZ.cap]++f.cap) bf fun vL bk=>∃ll:Bool,vL= .returned (.bool ll)∧
 au ll (Q (.int .i64 aX) bk) (dn (av (aX+1)) bk∧eK (av (aX+1)) bk<eK aX bf)) (Q (.int .i64 (-1)) bf)
def A.vU:bn:=lh
theorem W.Wx (s:ah) (f:lX) (w:World) (Q:Value→World→Prop) (h:W.vU s f w Q):aM Tryz.prog F.vU #[.slice s.a s.len s.cap, .func (.func f.f) f.pre f.cap] w Q:=okF A.vU Tryz.func237 (by kernel_rfl) (by kernel_rfl) h
def W.vV (s:ah) (f:lX) (w:World) (Q:Value→World→Prop):Prop:=∃ (dn:Int→World→Prop) (eK:Int→World→Nat),dn 0 w∧∀ (aX:Int) (bf:World),dn aX bf→au (decide (aX<(s.len:Int))) (∃a5:
 Addr,s.a=some a5∧aQ aX s.len∧az bf (a5.add (Int.toNat aX*1)) fun n6=>tW Tryz.prog f.f∧Calls Tryz.prog f.f (f.pre++ #[.int .i64 n6]++f.cap) bf fun vL bk=>∃ll:Bool,vL= .returned (.bool ll)∧au ll (Q (.int .i64
 aX) bk) (dn (av (aX+1)) bk∧eK (av (aX+1)) bk<eK aX bf)) (Q (.int .i64 (-1)) bf)
def A.vV:bn:=lh
theorem W.WB (s:ah) (f:lX) (w:World) (Q:Value→World→Prop) (h:W.vV s f w Q):aM Tryz.prog F.vV #[.slice s.a s.len s.cap, .func (.func f.f) f.pre f.cap] w Q:=okF A.vV Tryz.func238 (by kernel_rfl) (by kernel_rfl) h
end
section
set_option maxRecDepth 100000
def W.oF (n:Int) (w:World) (Q:Value→World→Prop):Prop:=au ((decide (n<16))||(decide (n>1600))) (Q (.tuple #[.pointer none, .int .i64 1]) w) (((0:Int)≤n∧n≤n∧n≤oq∧((256:Nat):Int)*n≤
 140737488355328)∧ay (w.alloc (.cells (jB Tryz.prog ad.iQ (Int.toNat n)) ad.iQ)) fun af=>∃pT:Option Nat,∃bd:World,Sem.run Tryz.prog (Instr.makeMap ad.pz none) af= .ok (.map pT) bd∧∃gg:
 Array Value,Sem.run Tryz.prog (Instr.build ad.DO #[(1, .slice (some (ab w)) (Int.toNat n) (Int.toNat n)),(2, .map pT)]) bd= .ok (.agg gg) bd∧ay (bd.alloc (.cells gg ad.DO)) fun aO=>∃fo:Addr,(some (ab bd):Option
 Addr)=some fo∧cu F.ue #[.pointer (some fo)] aO fun bk=>Q (.tuple #[.pointer (some (ab bd)), .int .i64 0]) bk)
def A.oF:bn:=(.s .r (.s jS jr))
theorem W.XJ (n:Int) (w:World) (Q:Value→World→Prop) (h:W.oF n w Q):aM Tryz.prog F.oF #[.int .i64 n] w Q:=okF A.oF Tryz.func12 (by kernel_rfl) (by kernel_rfl) h
def W.oD (d:Option Addr) (i:Int) (b:ah) (w:World) (Q:Value→World→Prop):Prop:=cx F.sC #[.pointer d, .int .i64 i] w fun gw af=>au ((!gw)||((b.len:Int) !=256)) (Q (.int .i64 1) af) (∃a4:Addr,
 d=some a4∧cx F.qX #[.pointer (some a4), .int .i64 2] af fun ih aO=>au ih (Q (.int .i64 3) aO) (ay (aO.drew) fun bR=>∃qi:Nat→Prop,∃jS:Addr,d=some jS∧¬qi (jS.add 5).block∧∃Ce:Option Nat,bR.cell?
 (jS.add 5)=some (.map Ce)∧∃iM:Addr,d=some iM∧¬qi (iM.add 5).block∧∃KZ:Option Nat,bR.cell? (iM.add 5)=some (.map KZ)∧256≤b.len∧∃lj:Addr,b.a=some lj∧¬qi lj.block∧∃K0:List Value,cn bR
 lj 0 256=some K0∧(∃cK:ah,∃eH:World,Sem.run Tryz.prog (Instr.lookup ad.pz (.map KZ) (.int .i64 i) false) bR= .ok (.slice cK.a cK.len cK.cap) eH∧aq qi bR eH∧∃hJ:ah,∃di:World,Sem.run
 Tryz.prog (Instr.buildSlice ad.nG 1 #[(0, .agg K0.toArray)]) eH= .ok (.slice hJ.a hJ.len hJ.cap) di∧aq qi eH di∧DV cK hJ di qi Ce i d Q)∧(∃cv:ah,∃cw:World,Sem.run Tryz.prog (Instr.buildSlice
 ad.nG 1 #[(0, .agg K0.toArray)]) bR= .ok (.slice cv.a cv.len cv.cap) cw∧aq qi bR cw∧∃xz:ah,∃kM:World,Sem.run Tryz.prog (Instr.lookup ad.pz (.map KZ) (.int .i64 i) false) cw= .ok (.slice
 xz.a xz.len xz.cap) kM∧aq qi cw kM∧DV xz cv kM qi Ce i d Q)))
def A.oD:bn:=(.s .r (.s (.bT (.s (.du [.run, .run, .run, .run, .run, .pure 3]) (.c (.s .r .l) bp))) (.s (.dO 16 true ⟨[0,1,2,4,0,0,32,64,128,0,768,0,2048,4096,8192,17408,65535],[0,1,2,4,0,0,32,
 64,128,0,768,0,2048,4096,8192,17408,32792]⟩ [4194304,8388608,16777216,33554432,67108864,134217728,268435456,536870912,1073741824,2147483648,4294967296,8589934592,17179869184,34359738368,68719476736,137438953472,0]
 [1,4194304,8388608,16777216,2,1,134217728,268435456,536870912,2,3221225472,4,8589934592,17179869184,34359738368,73014444032,137539616768] (.take 0 (.take 1 (.take 2 (.take 3 (.take 4 (.take 5 (.take 6 (.take 7 (.take 8
 (.take 9 (.take 11 (.take 12 (.take 13 (.two 10 (.cL 14 (.cL 15 (.tail [.run]))) 14 (.cL 10 (.cL 15 (.tail [.run])))))))))))))))))) (.s .r (.s .r .l)))))
theorem W.N3 (d:Option Addr) (i:Int) (b:ah) (w:World) (Q:Value→World→Prop) (h:W.oD d i b w Q):aM Tryz.prog F.oD #[.pointer d, .int .i64 i, .slice b.a b.len b.cap] w Q:=okF A.oD Tryz.func15 (by kernel_rfl) (by kernel_rfl) h
def W.mX (d:Option Addr) (w:World) (Q:Value→World→Prop):Prop:=ay (w.alloc iy) fun af=>au (Option.isNone d) (∃cu:Array Value,Sem.run Tryz.prog (Instr.build ad.kL #[]) af= .ok (.agg cu) af∧bW af (ab w)
 (Array.toList cu)∧Array.size cu=10∧ay (setCells af (ab w) 0 (Array.toList cu)) fun bd=>∃oz:List Value,cn bd (ab w) 0 10=some oz∧Q (.tuple #[.agg oz.toArray, .int .i64 1]) bd) (∃E4:Option Nat,∃bC:World,Sem.run
 Tryz.prog (Instr.makeMap ad.iE none) af= .ok (.map E4) bC∧∃cp:Array Value,Sem.run Tryz.prog (Instr.build ad.yl #[(2, .map E4)]) bC= .ok (.agg cp) bC∧ay (bC.alloc (.cells cp ad.yl)) fun bR=>bS
 F.oB #[.pointer d] bR fun n11 bK=>∃ (K1:Int→World→Prop) (S6:Int→World→Nat),K1 0 bK∧∀ (n14:Int) (c7:World),K1 n14 c7→au (decide (n14<n11)) (gg F.sF #[.pointer d, .int .i64 n14] c7 fun
 hJ n19 cd=>au (n19 !=0) (∃pU:Array Value,Sem.run Tryz.prog (Instr.build ad.kL #[]) cd= .ok (.agg pU) cd∧bW cd (ab w) (Array.toList pU)∧Array.size pU=10∧ay (setCells cd (ab w) 0 (Array.toList pU)) fun
 dR=>∃S7:List Value,cn dR (ab w) 0 10=some S7∧Q (.tuple #[.agg S7.toArray, .int .i64 n19]) dR) (∃a23:Addr,(some (ab bC):Option Addr)=some a23∧aG cd (a23.add 10) fun lV=>ay (cd.alloc (.cells #[.slice hJ.a
 hJ.len hJ.cap] ad.bE)) fun cO=>∃gU:ah,∃c0:World,Sem.run Tryz.prog (Builtin.append_ #[ad.e6,ad.e6] ad.e6 #[.slice lV.a lV.len lV.cap, .slice (some (ab cd)) 1 1]) cO= .ok (.slice gU.a
 gU.len gU.cap) c0∧∃a28:Addr,(some (ab bC):Option Addr)=some a28∧st c0 (a28.add 10) (.slice gU.a gU.len gU.cap) fun cz=>K1 (av (n14+1)) cz∧S6 (av (n14+1)) cz<S6 n14 c7)) (∃Cg:Addr,(some (ab bC):
 Option Addr)=some Cg∧st c7 (Cg.add 4) (.int .i64 (-1)) fun df=>ay (df.alloc fe) fun fm=>∃ (K2:Int→World→Prop) (S8:Int→World→Nat),K2 0 fm∧∀ (n35:Int) (dS:World),K2 n35 dS→au (decide (n35<2)) (br
 (fun qg:World→Prop=>lD F.uj #[.pointer (some (ab bC)), .int .i64 n35] dS fun n40 n41 mW zy qf tx r3 r4 eS=>ay (eS.alloc fe) fun il=>bW il (ab eS) [.int .i64 n40, .int .i64 n41, .int .i64 mW, .int
 .u64 zy, .int .u64 qf, .int .i64 tx]∧(6:Nat)=6∧ay (setCells il (ab eS) 0 [.int .i64 n40, .int .i64 n41, .int .i64 mW, .int .u64 zy, .int .u64 qf, .int .i64 tx]) fun uf=>ay (uf.drew) fun mv=>∃akH:Nat→Prop,∃S9
 :Addr,(some (ab bC):Option Addr)=some S9∧((0:Int)≤n35∧n35<((2:Nat):Int))∧∃a53:Addr,(some (ab bC):Option Addr)=some a53∧st mv (Addr.add S9 (Int.toNat n35*1)) (.int .i64 r4) fun iT=>((0:Int)≤n35∧
 n35<((2:Nat):Int))∧st iT (Addr.add (a53.add 2) (Int.toNat n35*1)) (.int .u64 r3) fun eD=>ay (eD.drew) fun g9=>au (r4==2) (∃a57:Addr,(some (ab bC):Option Addr)=some a57∧¬False∧az g9 (a57.add 4) fun Ch=>
 au (decide (Ch<0)) (au true (ED g9 eS bC n35 df qg) (qg g9)) (∃Ci:Addr,(some (ab bC):Option Addr)=some Ci∧¬False∧az g9 (Ci.add 4) fun xw=>∃S_:Addr,(some (ab bC):Option Addr)=some S_∧((0:Int)≤xw
 ∧xw<((2:Nat):Int))∧¬False∧bJ g9 (Addr.add (S_.add 2) (Int.toNat xw*1)) fun vn=>au (decide (r3>vn)) (ED g9 eS bC n35 df qg) (qg g9))) (au false (ED g9 eS bC n35 df qg) (qg g9))) (fun m4=>K2 (av (n35+
 1)) m4∧S8 (av (n35+1)) m4<S8 n35 dS)) (br (fun Ta:World→Prop=>∃Tb:Addr,(some (ab bC):Option Addr)=some Tb∧az dS (Tb.add 4) fun zv=>au (decide (zv≥0)) (br (fun Tc:World→Prop=>az dS (Addr.add (ab
 df) 1) fun zw=>au (decide (zw>0)) (az dS (ab df) fun zx=>az dS (Addr.add (ab df) 1) fun vm=>cu F.uN #[.pointer (some (ab bC)), .int .i64 zx, .int .i64 vm] dS fun ig=>Tc ig) (Tc dS)) (fun
 Td=>az Td (Addr.add (ab df) 2) fun K3=>cu F.uG #[.pointer (some (ab bC)), .int .i64 K3] Td fun uR=>Ta uR)) (Ta dS)) (fun rR=>∃Bd:Addr,(some (ab bC):Option Addr)=some Bd∧∃s5:List
 Value,cn rR Bd 0 10=some s5∧bW rR (ab w) (Array.toList s5.toArray)∧Array.size s5.toArray=10∧ay (setCells rR (ab w) 0 (Array.toList s5.toArray)) fun wN=>∃yC:List Value,cn wN (ab w) 0 10=
 some yC∧Q (.tuple #[.agg yC.toArray, .int .i64 0]) wN))))
def A.mX:bn:=(.s .r (.s bp (.s .r (.s (.s .r (.bT (.loop [(21,(.int .i64))] [0,2,4,20] (.s .r (.s (.c .l .l) (.s (.bT (.s .r (.s .r (.s bp .r)))) .r)))))) (.s .r (.s .r (.s (.s .r (.bT (.loop [(49,(.int .i64))] [2,4,8]
 (.s .r (.s (.c .l .l) (.s (.hM [] [2,4,8,49] (.bT (.s .r (.s .r (.s (.dO 14 true ⟨[0,0,0,0,0,0,1,64,128,275,531,4,2048,4096,10239,18431],[0,0,0,0,0,0,1,64,128,258,528,4,2048,4096,8200,16416]⟩
 [576460752303423488,1152921504606846976,2305843009213693952,4611686018427387904,9223372036854775808,18446744073709551616,36893488147419103232,73786976294838206464,147573952589676412928,295147905179352825856,0,
 590295810358705651712,1180591620717411303424,2361183241434822606848,4722366482869645213696,0] [16,512,16,512,4096,2048,576460752303423488,36893488147419103232,73786976294838206464,148726874094283259904,304371277216207601664,
 2305843009213693952,590295810358705651712,1180591620717411303424,2365794927453249994752,4740813226943354765312] (.take 0 (.take 1 (.take 2 (.take 3 (.take 4 (.take 5 (.take 6 (.take 7 (.take 8 (.take 9 (.take 11 (.take 12 (.take 13
 (.out 10 false (.tail [.run, .run])))))))))))))))) (.s (.dO 22 false ⟨[0,1,2,4,12,20,36,68,132,260,512,512,512,4608,8704,16896,33280,2560,131584,262656,590336,1049088,2098688,4194820,8388612],[0,1,2,4,12,20,
 36,68,132,260,512,512,512,4608,8704,16896,33280,2560,131584,262656,590336,1049088,2098688,4194820,8388612]⟩ [9444732965739290427392,18889465931478580854784,37778931862957161709568,75557863725914323419136,
 151115727451828646838272,302231454903657293676544,604462909807314587353088,1208925819614629174706176,2417851639229258349412352,4835703278458516698824704,9671406556917033397649408,19342813113834066795298816,
 38685626227668133590597632,77371252455336267181195264,154742504910672534362390528,309485009821345068724781056,618970019642690137449562112,1237940039285380274899124224,2475880078570760549798248448,4951760157141521099596496896,
 9903520314283042199192993792,19807040628566084398385987584,39614081257132168796771975168,79228162514264337593543950336,158456325028528675187087900672] [4096,9444732965739290427392,18889465931478580854784,37778931862957161709584,
 113336795588871485128704,188894659314785808547840,340010386766614455386112,642241841670271749062656,1246704751477586336415744,2455630571092215511121920,4835703278458516698826752,4835703278458516698824720,4835703278458516698824720,
 43521329506126650289422336,82206955733794783880019968,159578208189131051061215232,314320713099803585423605760,24178516392292583494123520,1242775742563838791597948928,2480715781849219066497073152,5575565880062669753744883712,
 9908356017561500715891818496,19821547738401459948482461696,39618954739342490270632509440,79228200293196200550705659904] (.take 0 (.take 1 (.take 2 (.sp 75 (.take 3 (.take 4 (.take 5 (.take 6 (.take 7 (.take 8 (.take 9 (.sp 82 (.take 10
 (.take 11 (.take 12 (.take 13 (.take 14 (.take 15 (.take 16 (.take 17 (.take 18 (.take 19 (.take 20 (.take 21 (.tail [.run, .run, .run]))))))))))))) (.take 10 (.take 11 (.take 12 (.take 13 (.take 14 (.take 15 (.take 16 (.take 17 (.take 18
 (.take 19 (.take 20 (.take 21 (.tail [.run, .run, .run]))))))))))))))))))))) (.take 3 (.take 4 (.take 5 (.take 6 (.take 7 (.take 8 (.take 9 (.take 10 (.take 11 (.take 12 (.take 13 (.take 14 (.take 15 (.take 16 (.take 17 (.take 18 (.take 19
 (.take 20 (.take 21 (.tail [.run, .run, .run]))))))))))))))))))))))))) (.c (.dO 7 true ⟨[0,0,0,3,11,19,35,127],[0,0,0,1,8,16,34,4]⟩ [316912650057057350374175801344,633825300114114700748351602688,
 1267650600228229401496703205376,2535301200456458802993406410752,5070602400912917605986812821504,10141204801825835211973625643008,0,0] [16,512,1024,316912650057057350374175801344,2535301200456458802993406410752,
 5070602400912917605986812821504,10775030101939949912721977245696,1267650600228229401496703205632] (.take 0 (.take 1 (.take 2 (.take 3 (.take 4 (.take 5 (.cL 6 (.tail [.run]))))))))) .l))))))) .r)))))) (.s (.hM [] [2,4] (.s .r (.c (.s
 (.hM [] [2,4,8] (.s .r (.c .r .l))) .r) .l))) (.s .r .l)))))))))
theorem W.aa0 (d:Option Addr) (w:World) (Q:Value→World→Prop) (h:W.mX d w Q):aM Tryz.prog F.mX #[.pointer d] w Q:=okF A.mX Tryz.func16 (by kernel_rfl) (by kernel_rfl) h
def W.rv (d:Option Addr) (na:Int) (nc:Int) (nd:Int) (w:World) (Q:Value→World→Prop):Prop:=ay (w.alloc (.cells #[.int .i64 na, .int .i64 nc, .int .u64 nd] ad.F7)) fun af=>
 az af (ab w) fun cY=>az af (Addr.add (ab w) 1) fun aX=>bJ af (Addr.add (ab w) 2) fun bl=>cx F.rq #[.pointer d, .agg #[.int .i64 cY, .int .i64 aX, .int .u64 bl]] af fun ih aO=>au (!ih) (Q (.tuple #[.pointer none, .int .i64
 1]) aO) (bS F.oB #[.pointer d] aO fun n10 bR=>kB F.q6 #[.int .i64 n10, .int .i64 3] bR fun Te n14 cJ=>au (n14 !=0) (Q (.tuple #[.pointer none, .int .i64 n14]) cJ) (cp F.ux #[.pointer Te] cJ fun
 cP c7=>gg F.sk #[.int .i64 2, .agg #[.int .i64 4, .int .u64 1, .slice cP.a cP.len cP.cap]] c7 fun gj n21 cj=>au (n21 !=0) (Q (.tuple #[.pointer none, .int .i64 n21]) cj) (((0:Int)≤256∧(256:Int)≤256∧(256:
 Int)≤oq∧((1:Nat):Int)*256≤140737488355328)∧ay (cj.alloc (.cells (jB Tryz.prog ad.uint8 (Int.toNat 256)) ad.uint8)) fun c5=>∃Tf:Array Value,Sem.run Tryz.prog (Instr.build ad.afF #[(0, .slice (some (ab cj))
 (Int.toNat 256) (Int.toNat 256)),(1, .slice (some (ab cj)) (Int.toNat 256) (Int.toNat 256)),(2, .slice gj.a gj.len gj.cap)]) c5= .ok (.agg Tf) c5∧∃ (K4:Int→World→Prop) (Tg:Int→World→Nat),K4 0 c5∧∀ (n26:Int)
 (c0:World),K4 n26 c0→au (decide (n26<3)) (((0:Int)≤n26∧n26<((3:Nat):Int))∧∃gk:ah,cellAt Tf (Int.toNat n26*1)=some (.slice gk.a gk.len gk.cap)∧bS F.oD #[.pointer d, .int .i64 n26, .slice
 gk.a gk.len gk.cap] c0 fun n31 cz=>au (n31 !=0) (Q (.tuple #[.pointer none, .int .i64 n31]) cz) (K4 (av (n26+1)) cz∧Tg (av (n26+1)) cz<Tg n26 c0)) (bS F.s7 #[.pointer d] c0 fun n34 fm=>au (n34 !=0)
 (Q (.tuple #[.pointer none, .int .i64 n34]) fm) (ay (fm.alloc fe) fun oQ=>bW oQ (ab fm) [.int .i64 0, .int .i64 0, .int .i64 2, .int .u64 0, .int .u64 0, .int .i64 0]∧(6:Nat)=6∧ay (setCells oQ (ab fm) 0 [.int .i64 0,
 .int .i64 0, .int .i64 2, .int .u64 0, .int .u64 0, .int .i64 0]) fun dS=>az dS (ab fm) fun n37=>az dS (Addr.add (ab fm) 1) fun n38=>az dS (Addr.add (ab fm) 2) fun n39=>bJ dS (Addr.add (ab fm) 3) fun n40=>bJ dS (Addr.add
 (ab fm) 4) fun n41=>az dS (Addr.add (ab fm) 5) fun mW=>bS F.rr #[.pointer d, .agg #[.int .i64 n37, .int .i64 n38, .int .i64 n39, .int .u64 n40, .int .u64 n41, .int .i64 mW], .int .u64 1] dS fun tx fD=>au (tx !=0)
 (Q (.tuple #[.pointer none, .int .i64 tx]) fD) (az fD (ab w) fun r3=>az fD (Addr.add (ab w) 1) fun r4=>bJ fD (Addr.add (ab w) 2) fun Cd=>az fD (ab fm) fun jT=>az fD (Addr.add (ab fm) 1) fun ja=>az fD (Addr.add (ab
 fm) 2) fun tB=>bJ fD (Addr.add (ab fm) 3) fun vo=>bJ fD (Addr.add (ab fm) 4) fun zD=>az fD (Addr.add (ab fm) 5) fun zE=>kB F.ru #[.pointer d, .agg #[.int .i64 r3, .int .i64 r4, .int .u64 Cd], .agg #[.int .i64
 jT, .int .i64 ja, .int .i64 tB, .int .u64 vo, .int .u64 zD, .int .i64 zE], .int .u64 1, .pointer Te] fD fun afM Ch eD=>Q (.tuple #[.pointer afM, .int .i64 Ch]) eD))))))
def A.rv:bn:=(.s .r (.s bp (.s .r (.s bp (.s .r (.s bp (.s .r (.s (.s .r (.bT (.loop [(44,(.int .i64))] [0,3,6,43] (.s .r (.s (.c .l .l) (.s (.bT (.s .r (.s .r bp))) .r)))))) (.s (.s .r bp) (.s .r lj))))))))))
theorem W.abR (d:Option Addr) (na:Int) (nc:Int) (nd:Int) (w:World) (Q:Value→World→Prop) (h:W.rv d na nc nd w Q):aM Tryz.prog F.rv #[.pointer d, .agg #[.int .i64 na, .int .i64 nc, .int .u64 nd]] w Q:=okF A.rv Tryz.func21 (by kernel_rfl) (by kernel_rfl) h
def W.oR (l:Array Value) (w:World) (Q:Value→World→Prop):Prop:=ay (w.alloc (.cells l ad.kL)) fun af=>az af (Addr.add (ab w) 4) fun cY=>br (fun iS:Bool→World→Prop=>au (decide (cY≥0)) (cx
 F.uC #[.slice (cN (some (ab w)) 1 0 2) (2-0) (2-0), .int .i64 1] af fun kb bf=>iS (!kb) bf) (iS false af)) (fun (ih:Bool) bR=>br (fun l2:Bool→World→Prop=>au ih (az bR (Addr.add (ab w) 7) fun n10
 =>l2 (n10==0) bR) (l2 false bR)) (fun (ql:Bool) bw=>br (fun vp:Bool→World→Prop=>au ql (az bw (Addr.add (ab w) 8) fun n14=>vp (n14==0) bw) (vp false bw)) (fun (K5:Bool) cd=>br (fun Th:Bool→World→Prop
 =>au K5 (az cd (Addr.add (ab w) 9) fun n18=>Th (n18==0) cd) (Th false cd)) (fun (afN:Bool) jL=>Q (.bool afN) jL))))
def A.oR:bn:=(.s .r (.s (.du [.run, .run, .run, .run, .split 4, .run, .run, .run, .run, .run, .split 3, .run, .run, .run, .run, .split 3, .run, .run, .run, .run, .split 3]) .l))
theorem W.ab_ (l:Array Value) (w:World) (Q:Value→World→Prop) (h:W.oR l w Q):aM Tryz.prog F.oR #[.agg l] w Q:=okF A.oR Tryz.func52 (by kernel_rfl) (by kernel_rfl) h
def W.ue (f:Option Addr) (w:World) (Q:Value→World→Prop):Prop:=∃ (dn:Int→World→Prop) (eK:Int→World→Nat),dn 0 w∧∀ (aX:Int) (bf:World),dn aX bf→au (decide (aX<4)) (∃a5:Addr,f=some a5∧
 ((0:Int)≤aX∧aX<((4:Nat):Int))∧st bf (Addr.add a5 (Int.toNat aX*1)) (.int .i64 (-1)) fun bC=>dn (av (aX+1)) bC∧eK (av (aX+1)) bC<eK aX bf) (Q (.tuple #[]) bf)
def A.ue:bn:=(.s .r (.bT (.loop [(3,(.int .i64))] [0] bM)))
theorem W.XI (f:Option Addr) (w:World) (Q:Value→World→Prop) (h:W.ue f w Q):aM Tryz.prog F.ue #[.pointer f] w Q:=okF A.ue Tryz.func53 (by kernel_rfl) (by kernel_rfl) h
def W.sC (d:Option Addr) (i:Int) (w:World) (Q:Value→World→Prop):Prop:=br (fun dv:Bool→World→Prop=>au ((!(Option.isNone d))&&(decide (i≥0))) (∃bM:Addr,d=some bM∧aG w (bM.add 4) fun cX=>dv
 (decide (i<(cX.len:Int))) w) (dv false w)) (fun (e3:Bool) aO=>Q (.bool e3) aO)
def A.sC:bn:=(.s .r (.s (.du [.run, .run, .run, .pure 2, .run, .run, .run, .split 7]) .l))
theorem W.Xn (d:Option Addr) (i:Int) (w:World) (Q:Value→World→Prop) (h:W.sC d i w Q):aM Tryz.prog F.sC #[.pointer d, .int .i64 i] w Q:=okF A.sC Tryz.func57 (by kernel_rfl) (by kernel_rfl) h
def W.qX (f:Option Addr) (mD:Int) (w:World) (Q:Value→World→Prop):Prop:=∃bp:Addr,f=some bp∧((0:Int)≤mD∧mD<((4:Nat):Int))∧az w (Addr.add bp (Int.toNat mD*1)) fun cY=>au (cY==
 (-1)) (Q (.bool false) w) (au (cY==0) (∃a3:Addr,f=some a3∧((0:Int)≤mD∧mD<((4:Nat):Int))∧st w (Addr.add a3 (Int.toNat mD*1)) (.int .i64 (-1)) fun bf=>Q (.bool true) bf) (ay (w.drew) fun aO=>∃fo:Addr,f
 =some fo∧((0:Int)≤mD∧mD<((4:Nat):Int))∧¬False∧az aO (Addr.add fo (Int.toNat mD*1)) fun n7=>∃fV:Addr,f=some fV∧((0:Int)≤mD∧mD<((4:Nat):Int))∧st aO (Addr.add fV (Int.toNat mD*1))
 (.int .i64 (av (n7-1))) fun bK=>Q (.bool false) bK))
def A.qX:bn:=(.s .r (.s (.s .r (.bT (.s .r (.c (.s .r .l) (.s .r fV))))) (.s (.dO 7 false ⟨[0,0,1,6,8,16,1,127,191],[0,0,1,6,8,16,1,66,160]⟩ [262144,524288,1048576,2097152,4194304,8388608,16777216,
 33554432,0] [1,2,262144,1572864,2097152,4194304,262144,17301504,41943040] (.take 0 (.take 1 (.take 2 (.take 3 (.take 4 (.take 5 (.take 6 (.tail [.run, .run]))))))))) (.s .r .l))))
theorem W.Xp (f:Option Addr) (mD:Int) (w:World) (Q:Value→World→Prop) (h:W.qX f mD w Q):aM Tryz.prog F.qX #[.pointer f, .int .i64 mD] w Q:=okF A.qX Tryz.func58 (by kernel_rfl) (by kernel_rfl) h
def W.oB (d:Option Addr) (w:World) (Q:Value→World→Prop):Prop:=au (Option.isNone d) (Q (.int .i64 0) w) (∃bp:Addr,d=some bp∧aG w (bp.add 4) fun s2=>Q (.int .i64 (s2.len:Int)) w)
def A.oB:bn:=iM
theorem W.Xm (d:Option Addr) (w:World) (Q:Value→World→Prop) (h:W.oB d w Q):aM Tryz.prog F.oB #[.pointer d] w Q:=okF A.oB Tryz.func59 (by kernel_rfl) (by kernel_rfl) h
def W.sF (d:Option Addr) (i:Int) (w:World) (Q:Value→World→Prop):Prop:=cx F.sC #[.pointer d, .int .i64 i] w fun gw af=>au (!gw) (Q (.tuple #[.slice none 0 0, .int .i64 1]) af) (∃a4:Addr,d=some
 a4∧cx F.qX #[.pointer (some a4), .int .i64 1] af fun ih aO=>au ih (Q (.tuple #[.slice none 0 0, .int .i64 3]) aO) (qZ F.sD #[.pointer d, .int .i64 i] aO fun gM bR=>ay (bR.alloc z3) fun cJ=>bW cJ (ab
 bR) (Array.toList gM)∧Array.size gM=256∧ay (setCells cJ (ab bR) 0 (Array.toList gM)) fun bw=>Q (.tuple #[.slice (cN (some (ab bR)) 1 0 256) (256-0) (256-0), .int .i64 0]) bw))
def A.sF:bn:=(.s .r (.s (.bT (.s .r (.c (.s .r .l) bp))) (.s .r (.s .r .l))))
theorem W.Xt (d:Option Addr) (i:Int) (w:World) (Q:Value→World→Prop) (h:W.sF d i w Q):aM Tryz.prog F.sF #[.pointer d, .int .i64 i] w Q:=okF A.sF Tryz.func60 (by kernel_rfl) (by kernel_rfl) h
def W.uj (l:Option Addr) (no:Int) (w:World) (Q:Value→World→Prop):Prop:=ay (w.alloc fe) fun af=>∃bM:Addr,l=some bM∧aG af (bM.add 10) fun cX=>∃a4:Addr,cX.a=some a4∧aQ no cX.len∧aG af
 (a4.add (Int.toNat no*1)) fun b7=>cx F.ui #[.slice b7.a b7.len b7.cap, .func (.func F.pE) #[] #[]] af fun qm bC=>au (!qm) (bW bC (ab w) [.int .i64 0, .int .i64 0, .int .i64 0, .int
 .u64 0, .int .u64 0, .int .i64 0]∧(6:Nat)=6∧ay (setCells bC (ab w) 0 [.int .i64 0, .int .i64 0, .int .i64 0, .int .u64 0, .int .u64 0, .int .i64 0]) fun bK=>az bK (ab w) fun n10=>az bK (Addr.add (ab w) 1) fun n11=>az bK
 (Addr.add (ab w) 2) fun n12=>bJ bK (Addr.add (ab w) 3) fun n13=>bJ bK (Addr.add (ab w) 4) fun n14=>az bK (Addr.add (ab w) 5) fun n15=>Q (.tuple #[.agg #[.int .i64 n10, .int .i64 n11, .int .i64 n12, .int .u64 n13, .int .u64 n14, .int
 .i64 n15], .int .u64 0, .int .i64 0]) bK) (lD F.q5 #[.int .i64 no, .slice b7.a b7.len b7.cap] bC fun n18 n19 n20 n21 n22 n23 n24 n25 cd=>ay (cd.alloc fe) fun dm=>bW dm (ab cd) [.int .i64 n18, .int .i64 n19, .int
 .i64 n20, .int .u64 n21, .int .u64 n22, .int .i64 n23]∧(6:Nat)=6∧ay (setCells dm (ab cd) 0 [.int .i64 n18, .int .i64 n19, .int .i64 n20, .int .u64 n21, .int .u64 n22, .int .i64 n23]) fun c0=>ay (c0.drew) fun cw=>au (n25 !=
 0) (au true (D7 cw w Q) (D8 cw cd w Q n24)) (¬False∧az cw (ab cd) fun jT=>∃Ti:Addr,l=some Ti∧¬False∧aG cw (Ti.add 10) fun afO=>au (decide (jT≥(afO.len:Int))) (au true (D7 cw w Q) (D8 cw cd w Q n24)) (¬
 False∧az cw (Addr.add (ab cd) 2) fun zA=>∃Tj:Addr,l=some Tj∧¬False∧aG cw (Tj.add 10) fun Cj=>au (decide (zA≥(Cj.len:Int))) (D7 cw w Q) (D8 cw cd w Q n24))))
def A.uj:bn:=(.s .r (.s .r (.s bp (.s .r (.s (.s (.dO 20 false ⟨[0,1,2,4,12,4,36,68,132,260,532,1028,2052,4096,12288,4096,36864,69632,135168,266240,544768,1052672],[0,1,2,4,12,4,36,68,132,
 260,532,1028,2048,4096,12288,4096,36864,69632,135168,266240,544768,1052672]⟩ [536870912,1073741824,2147483648,4294967296,8589934592,17179869184,34359738368,68719476736,137438953472,274877906944,549755813888,
 1099511627776,2199023255552,4398046511104,8796093022208,17592186044416,35184372088832,70368744177664,140737488355328,281474976710656,562949953421312,1125899906842624] [1024,536870912,1073741824,2147483904,6442450944,
 2147483649,19327352832,36507222016,70866960384,139586437120,285615325184,551903297536,1099511627776,2199023255808,6597069766656,2199023255553,19791209299968,37383395344384,72567767433216,142936511610880,292470092988416,
 565148976676864] (.take 0 (.take 1 (.take 2 (.sp 31 (.take 3 (.take 4 (.take 5 (.take 6 (.take 7 (.take 8 (.take 9 (.take 10 (.take 11 (.take 12 (.take 13 (.take 14 (.take 15 (.take 16 (.take 17 (.take 18 (.take 19 (.tail [.run,
 .run])))))))))))))))))) (.take 3 (.take 4 (.take 5 (.take 6 (.take 7 (.take 8 (.take 9 (.take 10 (.take 11 (.take 12 (.sp 41 (.take 13 (.take 14 (.take 15 (.take 16 (.take 17 (.take 18 (.take 19 (.tail [.run, .run])))))))) (.take 13 (.take
 14 (.take 15 (.take 16 (.take 17 (.take 18 (.take 19 (.tail [.run, .run])))))))))))))))))))))))) (.c (.s .r .l) .l)) (.s .r .l))))))
theorem W.Yc (l:Option Addr) (no:Int) (w:World) (Q:Value→World→Prop) (h:W.uj l no w Q):aM Tryz.prog F.uj #[.pointer l, .int .i64 no] w Q:=okF A.uj Tryz.func61 (by kernel_rfl) (by kernel_rfl) h
def W.uN (l:Option Addr) (root:Int) (bX:Int) (w:World) (Q:Value→World→Prop):Prop:=ay (w.alloc (.cells #[.int .i64 root, .int .i64 bX] ad.uM)) fun af=>∃ (hN:ah→World→Prop) (iu:ah→
 World→Nat),hN ⟨(some (ab w)),1,1⟩ af∧∀ (cy:ah) (aO:World),hN cy aO→au (decide ((cy.len:Int)>0)) (ay (aO.drew) fun bC=>∃kR:Nat→Prop,∃fV:Addr,cy.a=some fV∧aQ 0 cy.len∧¬kR (fV.add (Int.toNat 0*2)).block∧
 az bC (fV.add (Int.toNat 0*2)) fun n9=>∃jS:Addr,cy.a=some jS∧aQ 0 cy.len∧¬kR ((jS.add (Int.toNat 0*2)).add 1).block∧az bC ((jS.add (Int.toNat 0*2)).add 1) fun n11=>cp F.uJ #[.pointer l, .int .i64 n9,
 .int .i64 n11] bC fun c3 bw=>∃ (tz:ah→Int→World→Prop) (xy:ah→Int→World→Nat),tz cy 0 bw∧∀ (cP:ah) (n18:Int) (di:World),tz cP n18 di→au (decide (n18<(c3.len:Int))) (∃oa:Addr,c3.a=some oa∧
 aQ n18 c3.len∧az di (oa.add (Int.toNat n18*1)) fun n21=>∃a22:Addr,cP.a=some a22∧aQ 0 cP.len∧az di ((a22.add (Int.toNat 0*2)).add 1) fun n23=>ay (di.alloc (.cells #[.int .i64 n21, .int .i64 (av (n23-1))]
 ad.uM)) fun eT=>∃ij:ah,∃dm:World,Sem.run Tryz.prog (Builtin.append_ #[ad.A6,ad.A6] ad.A6 #[.slice cP.a cP.len cP.cap, .slice (some (ab di)) 1 1]) eT= .ok (.slice ij.a ij.len
 ij.cap) dm∧tz ij (av (n18+1)) dm∧xy ij (av (n18+1)) dm<xy cP n18 di) (((0:Int)≤1∧1≤(cP.len:Int))∧hN ⟨(cN cP.a 2 (Int.toNat 1) cP.cap),(cP.len-(Int.toNat 1)),(cP.cap-(Int.toNat 1))⟩ di∧iu ⟨(cN
 cP.a 2 (Int.toNat 1) cP.cap),(cP.len-(Int.toNat 1)),(cP.cap-(Int.toNat 1))⟩ di<iu cy aO)) (Q (.tuple #[]) aO)
def A.uN:bn:=(.s .r (.bT (.loop [(6, .slice)] [0] (.s (.s .r (.c .l .l)) (.s (.bT (.s (.dO 12 true ⟨[0,0,2,4,8,0,32,64,128,273,512,0],[0,0,2,4,8,0,32,64,128,273,512,0]⟩ [262144,524288,1048576,
 2097152,4194304,8388608,16777216,33554432,67108864,134217728,268435456,536870912] [1,64,524288,1048576,2097152,64,8388608,16777216,33554432,71565312,134217728,0] (.take 0 (.take 1 (.take 2 (.take 3 (.take 4 (.take 5
 (.take 6 (.take 7 (.take 8 (.take 11 (.out 9 false (.take 10 .fin))))))))))))) (.bT (.loop [(6, .slice),(29,(.int .i64))] [0,27,28] bM)))) .r)))))
theorem W.aaH (l:Option Addr) (root:Int) (bX:Int) (w:World) (Q:Value→World→Prop) (h:W.uN l root bX w Q):aM Tryz.prog F.uN #[.pointer l, .int .i64 root, .int .i64 bX] w Q:=okF A.uN Tryz.func62 (by kernel_rfl) (by kernel_rfl) h
def W.uG (l:Option Addr) (no:Int) (w:World) (Q:Value→World→Prop):Prop:=∃bp:Addr,l=some bp∧aG w (bp.add 10) fun s2=>∃a3:Addr,s2.a=some a3∧aQ no s2.len∧aG w (a3.add (Int.toNat no*1)) fun cy
 =>lH F.mM #[.int .i64 no, .slice cy.a cy.len cy.cap] w fun n7 n8 dV n10 aO=>ay (aO.alloc z4) fun cJ=>bW cJ (ab aO) [.int .i64 n7, .int .u64 n8, .slice dV.a dV.len dV.cap]∧(3:Nat)=3∧ay (setCells cJ (ab aO) 0
 [.int .i64 n7, .int .u64 n8, .slice dV.a dV.len dV.cap]) fun bw=>ay (bw.drew) fun fS=>∃K6:Nat→Prop,¬K6 (Addr.add (ab aO) 2).block∧aG fS (Addr.add (ab aO) 2) fun fw=>∃zF:Addr,l=some zF∧¬K6 (zF.add 10).block
 ∧aG fS (zF.add 10) fun cP=>kB F.pJ #[.slice fw.a fw.len fw.cap, .int .i64 (cP.len:Int)] fS fun yt n21 cj=>aq K6 fS cj∧br (fun Ck:Bool→World→Prop=>au ((n10 !=0)||(n21 !=0)) (Ck true cj) (az cj (ab
 aO) fun n23=>Ck (n23 !=4) cj)) (fun (Cl:Bool) cO=>au Cl (∃a26:Addr,l=some a26∧az cO (a26.add 9) fun n27=>∃a28:Addr,l=some a28∧st cO (a28.add 9) (.int .i64 (av (n27+1))) fun cz=>Q (.tuple #[]) cz) (ay
 (cO.alloc (.cells #[.int .i64 no] ad.int)) fun kM=>∃Cm:Addr,l=some Cm∧aG kM (Cm.add 12) fun b4=>∃mj:ah,∃ck:World,Sem.run Tryz.prog (Builtin.append_ #[ad.da,ad.da] ad.da #[.slice (some (ab cO)) 1 1,
 .slice b4.a b4.len b4.cap]) kM= .ok (.slice mj.a mj.len mj.cap) ck∧∃ (K7:ah→Int→World→Prop) (Tk:ah→Int→World→Nat),K7 mj 0 ck∧∀ (dN:ah) (n38:Int) (eY:World),K7 dN n38 eY→au (decide (n38<2))
 (ay (eY.alloc (.cells #[.int .i64 n38] ad.int)) fun kn=>∃jI:ah,∃eX:World,Sem.run Tryz.prog (Builtin.append_ #[ad.da,ad.da] ad.da #[.slice dN.a dN.len dN.cap, .slice (some (ab eY)) 1 1]) kn= .ok (.slice jI.a
 jI.len jI.cap) eX∧K7 jI (av (n38+1)) eX∧Tk jI (av (n38+1)) eX<Tk dN n38 eY) (cu F.Ou #[.slice dN.a dN.len dN.cap] eY fun fD=>cp F.uk #[.slice dN.a dN.len dN.cap] fD
 fun ml gz=>∃ (K8:Int→World→Prop) (Tl:Int→World→Nat),K8 0 gz∧∀ (ja:Int) (fU:World),K8 ja fU→au (decide (ja<(ml.len:Int))) (br (fun Tm:World→Prop=>∃a53:Addr,ml.a=some a53∧aQ ja ml.len∧
 az fU (a53.add (Int.toNat ja*1)) fun zE=>cx F.ur #[.pointer yt, .int .i64 zE] fU fun afP eD=>au (!afP) (∃Cn:Addr,l=some Cn∧az eD (Cn.add 8) fun qk=>∃vq:Addr,l=some vq∧st eD (vq.add 8)
 (.int .i64 (av (qk+1))) fun wi=>Tm wi) (Tm eD)) (fun gi=>K8 (av (ja+1)) gi∧Tl (av (ja+1)) gi<Tl ja fU)) (ay (fU.drew) fun g7=>∃Co:Nat→Prop,∃xA:Addr,l=some xA∧¬Co (xA.add 8).block∧az
 g7 (xA.add 8) fun qh=>cp F.uv #[.pointer yt] g7 fun mm fK=>aq Co g7 fK∧∃Ci:Addr,l=some Ci∧st fK (Ci.add 7) (.int .i64 (av ((mm.len:Int)-(av ((ml.len:Int)-qh))))) fun gT=>Q (.tuple #[])
 gT))))
def A.uG:bn:=(.s .r (.s (.dO 12 true ⟨[0,1,0,4,8,16,32,66,128,256,256,1023,4095],[0,1,0,4,8,16,32,66,128,256,256,512,1024]⟩ [33554432,67108864,134217728,268435456,536870912,1073741824,
 2147483648,4294967296,16777216,8589934592,17179869184,64,128] [16,33554432,1,134217728,268435456,536870912,1073741824,2214592512,4294967296,16777216,16777216,8589934592,17179869184] (.take 0 (.take 1 (.take 2 (.take 3
 (.take 4 (.take 5 (.take 6 (.cL 7 (.take 8 (.take 9 (.take 10 (.take 11 (.tail [.run])))))))))))))) (.s (.s (.du [.run, .run, .run, .pure 2, .run, .run, .run, .split 3]) (.c (.s .r .l) .l)) (.s .r (.s (.s .r (.bT (.loop [(8, .slice),
 (62,(.int .i64))] [0,6] bM))) (.s .r (.s .r (.s (.s .r (.bT (.loop [(76,(.int .i64))] [0,6,8,74,75] (.s .r (.s (.c .l .l) (.s (.hM [] [0,6,8,74,75,76] (.bT (.s .r (.s .r (.c .r .l))))) .r)))))) (.dO 13 true ⟨[0,0,2,4,0,
 16,0,64,128,256,512,1056,2056,8191,16383,24575,40959],[0,0,2,4,0,16,0,64,128,256,512,1056,2056,1,8192,16384,36864]⟩ [19807040628566084398385987584,39614081257132168796771975168,79228162514264337593543950336,
 158456325028528675187087900672,316912650057057350374175801344,633825300114114700748351602688,1267650600228229401496703205376,2535301200456458802993406410752,5070602400912917605986812821504,10141204801825835211973625643008,
 20282409603651670423947251286016,40564819207303340847894502572032,81129638414606681695789005144064,162259276829213363391578010288128,324518553658426726783156020576256,649037107316853453566312041152512,0] [1,64,
 39614081257132168796771975168,79228162514264337593543950336,256,316912650057057350374175801344,1,1267650600228229401496703205376,2535301200456458802993406410752,5070602400912917605986812821504,10141204801825835211973625643008,
 20916234903765785124695602888704,40723275532331869523081590472704,19807040628566084398385987584,162259276829213363391578010288128,324518553658426726783156020576256,730166745731460135262101046296576] (.take 0 (.take 1 (.take 4 (.take 5
 (.take 6 (.take 7 (.take 8 (.take 9 (.take 10 (.take 11 (.cL 2 (.take 3 (.take 12 (.tail [.run, .run, .run, .run])))))))))))))))))))))))
theorem W.Z0 (l:Option Addr) (no:Int) (w:World) (Q:Value→World→Prop) (h:W.uG l no w Q):aM Tryz.prog F.uG #[.pointer l, .int .i64 no] w Q:=okF A.uG Tryz.func63 (by kernel_rfl) (by kernel_rfl) h
def W.rq (d:Option Addr) (na:Int) (nc:Int) (nd:Int) (w:World) (Q:Value→World→Prop):Prop:=ay (w.alloc (.cells #[.int .i64 na, .int .i64 nc, .int .u64 nd] ad.F7)) fun af=>
 br (fun dB:Bool→World→Prop=>au (!(Option.isNone d)) (az af (ab w) fun aX=>dB (decide (aX≥8)) af) (dB false af)) (fun (e3:Bool) aO=>br (fun vr:Bool→World→Prop=>au e3 (az aO (ab w) fun n7=>vr (decide (n7≤64)) aO)
 (vr false aO)) (fun (qm:Bool) bK=>br (fun Tn:Bool→World→Prop=>au qm (az bK (Addr.add (ab w) 1) fun n11=>Tn (decide (n11≥1)) bK) (Tn false bK)) (fun (afQ:Bool) fS=>br (fun To:Bool→World→Prop=>au afQ (az fS
 (Addr.add (ab w) 1) fun n15=>To (decide (n15≤1000)) fS) (To false fS)) (fun (K9:Bool) eH=>br (fun vt:Bool→World→Prop=>au K9 (bJ eH (Addr.add (ab w) 2) fun n19=>vt (decide (n19≥1)) eH) (vt false eH)) (fun
 (tC:Bool) dR=>br (fun Ck:Bool→World→Prop=>au tC (bJ dR (Addr.add (ab w) 2) fun n23=>Ck (decide (n23≤1048576)) dR) (Ck false dR)) (fun (Cl:Bool) cO=>Q (.bool Cl) cO))))))
def A.rq:bn:=(.s .r (.s (.du [.run, .run, .run, .split 3, .run, .run, .run, .run, .split 3, .run, .run, .run, .run, .split 3, .run, .run, .run, .run, .split 3, .run, .run, .run, .run, .split 3, .run, .run, .run, .run, .split
 3]) .l))
theorem W.abB (d:Option Addr) (na:Int) (nc:Int) (nd:Int) (w:World) (Q:Value→World→Prop) (h:W.rq d na nc nd w Q):aM Tryz.prog F.rq #[.pointer d, .agg #[.int .i64 na, .int .i64 nc, .int .u64 nd]] w Q:=okF A.rq Tryz.func69 (by kernel_rfl) (by kernel_rfl) h
def W.q6 (n:Int) (first:Int) (w:World) (Q:Value→World→Prop):Prop:=cx F.sT #[.int .i64 n] w fun gw af=>au (((!gw)||(decide (first<0)))||(decide (first>n))) (Q (.tuple #[.pointer none, .int .i64 1])
 af) (bS F.sU #[.int .i64 n] af fun n6 bf=>((0:Int)≤n6∧n6≤n6∧n6≤oq∧((1:Nat):Int)*n6≤140737488355328)∧ay (bf.alloc (.cells (jB Tryz.prog ad.uint8 (Int.toNat n6)) ad.uint8)) fun bk=>ay (bk.alloc (.cells
 #[.int .i64 n, .slice (some (ab bf)) (Int.toNat n6) (Int.toNat n6), .slice none 0 0] ad.pH)) fun bR=>∃ (r5:Int→World→Prop) (vl:Int→World→Nat),r5 0 bR∧∀ (n11:Int) (bw:World),r5 n11 bw→au (decide (n11<
 first)) (∃kq:Addr,(some (ab bk):Option Addr)=some kq∧aG bw (kq.add 1) fun c3=>cu F.uo #[.slice c3.a c3.len c3.cap, .int .i64 n11] bw fun c7=>r5 (av (n11+1)) c7∧vl (av (n11+1)) c7<vl n11 bw)
 (cu F.sS #[.pointer (some (ab bk))] bw fun eH=>Q (.tuple #[.pointer (some (ab bk)), .int .i64 0]) eH))
def A.q6:bn:=(.s .r (.s (.s (.du [.run, .run, .run, .run, .pure 2, .run, .run, .run, .pure 3]) (.c (.s .r .l) .l)) (.s .r (.s (.s .r (.bT (.loop [(27,(.int .i64))] [6,26] bM))) (.s .r (.s .r .l))))))
theorem W.Y7 (n:Int) (first:Int) (w:World) (Q:Value→World→Prop) (h:W.q6 n first w Q):aM Tryz.prog F.q6 #[.int .i64 n, .int .i64 first] w Q:=okF A.q6 Tryz.func70 (by kernel_rfl) (by kernel_rfl) h
def W.sk (no:Int) (nf:Int) (ng:Int) (hO:ah) (w:World) (Q:Value→World→Prop):Prop:=ay (w.alloc (.cells #[.int .i64 nf, .int .u64 ng, .slice hO.a hO.len hO.cap] ad.jD)) fun af=>
 cx F.xq #[.int .i64 no] af fun e3 aw=>br (fun lJ:Bool→World→Prop=>au (!e3) (lJ true aw) (az aw (ab w) fun n6=>cx F.xr #[.int .i64 n6] aw fun ll bk=>lJ (!ll) bk)) (fun (Gd:Bool) cJ=>au Gd (Q (.tuple #[.slice
 none 0 0, .int .i64 1]) cJ) (aG cJ (Addr.add (ab w) 2) fun nW=>au (decide ((nW.len:Int)>232)) (Q (.tuple #[.slice none 0 0, .int .i64 10]) cJ) (ay (cJ.alloc (.cells #[.int .u8 83, .int .u8 84, .int .u8 78, .int .u8 67] ad.uint8))
 fun fS=>∃c3:ah,∃c7:World,Sem.run Tryz.prog (convert ad.bE ad.bE (.slice (some (ab cJ)) 4 4)) fS= .ok (.slice c3.a c3.len c3.cap) c7∧az c7 (ab w) fun n16=>ay (c7.alloc (.cells #[.int .u8 1, .int .u8
 (IntKind.wrap .u8 n16)] ad.uint8)) fun eH=>ay (eH.alloc (.cells #[.slice c3.a c3.len c3.cap, .slice (some (ab c7)) 2 2] ad.bE)) fun cj=>cp F.mK #[.slice (some (ab eH)) 2 2] cj fun hY di=>aG di (Addr.add (ab w)
 2) fun mx=>cp F.fF #[.slice hY.a hY.len hY.cap, .int .u64 (IntKind.wrap .u64 (mx.len:Int)), .int .i64 2] di fun ij hK=>cp F.fF #[.slice ij.a ij.len ij.cap, .int .u64 (IntKind.wrap .u64 no), .int .i64 4] hK fun gk
 dm=>bJ dm (Addr.add (ab w) 1) fun n29=>cp F.fF #[.slice gk.a gk.len gk.cap, .int .u64 n29, .int .i64 8] dm fun b4 kM=>br (fun Gb:ah→World→Prop=>ay (kM.drew) fun ck=>∃zG:Nat→Prop,¬zG (Addr.add (ab w)
 2).block∧aG ck (Addr.add (ab w) 2) fun eJ=>¬zG (Addr.add (ab w) 2).block∧aG ck (Addr.add (ab w) 2) fun dN=>(((0:Int)≤4∧(4:Int)≤4∧(4:Int)≤oq∧((1:Nat):Int)*4≤140737488355328)∧ay (ck.alloc (.cells
 (jB Tryz.prog ad.uint8 (Int.toNat 4)) ad.uint8)) fun eS=>aq zG ck eS∧(GV dN)∧ay (eS.alloc (.cells (jB Tryz.prog ad.uint8 (Int.toNat (av (232-(dN.len:Int))))) ad.uint8)) fun eY=>aq zG eS eY∧GW eY b4 ck eJ
 eS dN Gb)∧((GV dN)∧ay (ck.alloc (.cells (jB Tryz.prog ad.uint8 (Int.toNat (av (232-(dN.len:Int))))) ad.uint8)) fun gr=>aq zG ck gr∧((0:Int)≤4∧(4:Int)≤4∧(4:Int)≤oq∧((1:Nat):Int)*4≤
 140737488355328)∧ay (gr.alloc (.cells (jB Tryz.prog ad.uint8 (Int.toNat 4)) ad.uint8)) fun gz=>aq zG gr gz∧GW gz b4 gr eJ ck dN Gb)) (fun (qn:ah) fU=>ay (fU.drew) fun yi=>∃akI:Nat→Prop,((0:Int)≤20∧
 20≤(qn.len:Int))∧gM F.oo #[.slice qn.a qn.len qn.cap] yi fun rI iT=>∃akJ:Nat→Prop,cp F.fF #[.slice none 0 0, .int .u64 (IntKind.wrap .u64 rI), .int .i64 4] iT fun xB D5=>∃o8:Int,∃gi:World,
 Sem.run Tryz.prog (Builtin.copy_ #[ad.bE,ad.bE] ad.int #[.slice (cN qn.a 1 (Int.toNat 20) qn.cap) (qn.len-(Int.toNat 20)) (qn.cap-(Int.toNat 20)), .slice xB.a xB.len xB.cap]) D5= .ok (.int .i64 o8) gi∧Q
 (.tuple #[.slice qn.a qn.len qn.cap, .int .i64 0]) gi))))
def A.sk:bn:=(.s .r (.s (.bT (.s (.du [.run, .run, .run, .run, .split 4]) (.c (.s .r .l) bp))) (.s .r (.s .r (.s .r (.s .r (.s (.hM [(6, .slice)] [] (.dO 9 true ⟨[0,0,0,4,0,16,32,64,128,267,512,2047],[0,0,0,4,
 0,16,32,64,128,267,512,1025]⟩ [17592186044416,35184372088832,70368744177664,140737488355328,281474976710656,562949953421312,1125899906842624,2251799813685248,4503599627370496,9007199254740992,18014398509481984,64] [64,0,
 8,70368744177664,8,281474976710656,562949953421312,1125899906842624,2251799813685248,4697113673859072,9007199254740992,18014398509481984] (.take 0 (.take 2 (.take 3 (.take 4 (.take 5 (.take 6 (.take 7 (.two 1 (.cL 8 (.tail [.run,
 .run, .run])) 8 (.cL 1 (.tail [.run, .run, .run])))))))))))) (.s (.dO 6 true ⟨[0,1,0,4,8,24,34],[0,1,0,4,8,16,34]⟩ [36028797018963968,72057594037927936,144115188075855872,288230376151711744,576460752303423488,
 1152921504606846976,2305843009213693952] [64,36028797018963968,64,144115188075855872,288230376151711744,576460752303423488,1224979098644774912] (.take 0 (.take 1 (.take 2 (.out 3 true (.take 4 (.out 5 false (.tail [.run])))))))) (.s
 .r .l)))))))))
theorem W.V3 (no:Int) (nf:Int) (ng:Int) (hO:ah) (w:World) (Q:Value→World→Prop) (h:W.sk no nf ng hO w Q):aM Tryz.prog F.sk #[.int .i64 no, .agg #[.int .i64 nf, .int .u64 ng, .slice hO.a hO.len hO.cap]] w Q:=okF A.sk Tryz.func71 (by kernel_rfl) (by kernel_rfl) h
def W.ux (s:Option Addr) (w:World) (Q:Value→World→Prop):Prop:=au (Option.isNone s) (Q (.slice none 0 0) w) (∃bp:Addr,s=some bp∧aG w (bp.add 1) fun s2=>cp F.l4 #[.slice s2.a
 s2.len s2.cap] w fun b7 bd=>Q (.slice b7.a b7.len b7.cap) bd)
def A.ux:bn:=iM
theorem W.Y2 (s:Option Addr) (w:World) (Q:Value→World→Prop) (h:W.ux s w Q):aM Tryz.prog F.ux #[.pointer s] w Q:=okF A.ux Tryz.func72 (by kernel_rfl) (by kernel_rfl) h
def W.s7 (d:Option Addr) (w:World) (Q:Value→World→Prop):Prop:=au (Option.isNone d) (Q (.int .i64 1) w) (∃bp:Addr,d=some bp∧cx F.qX #[.pointer (some bp), .int .i64 3] w fun e3 aw=>au e3 (Q
 (.int .i64 3) aw) (∃a5:Addr,d=some a5∧∃Tp:Option Nat,aw.cell? (a5.add 5)=some (.map Tp)∧∃ (xx:Value) (bR:World),Sem.run Tryz.prog (Instr.range ad.pz (.map Tp)) aw= .ok xx bR∧∃ (r5:World→Prop)
 (vl:World→Nat),r5 bR∧∀ (cJ:World),r5 cJ→(∃ (afR:Value) (afS:Value) (bw:World),Sem.run Tryz.prog (Instr.next (xx) false 0) cJ= .ok (.tuple #[.bool true,afR,afS]) bw∧au true (II xx bw d r5 vl cJ) (IJ d bw
 Q))∨(∃df:World,Sem.run Tryz.prog (Instr.next (xx) false 0) cJ= .ok (.tuple #[.bool false]) df∧au false (II xx df d r5 vl cJ) (IJ d df Q))))
def A.s7:bn:=(.s .r (.s (.bT (.s .r (.c (.s .r .l) bp))) (.s (.s .r (.bT (.loop [] [0,16] (.s .r (.s (.c .l .l) (.bT (.s (.du [.FH [(.one (.int .i64)),(.one .any)]]) (.dO 8 true ⟨[0,1,2,4,0,0,0,96,255,
 511],[0,1,2,4,0,0,0,96,24,384]⟩ [2097152,4194304,8388608,16777216,33554432,67108864,134217728,268435456,536870912,0] [1,2097152,4194304,8388608,8,1,8,201326592,50331648,805306368] (.take 0 (.take 1 (.take 2
 (.take 3 (.take 4 (.take 5 (.take 6 (.cL 7 (.tail [.run, .run]))))))))))))))))) (.s .r (.s .r .l)))))
theorem W.abp (d:Option Addr) (w:World) (Q:Value→World→Prop) (h:W.s7 d w Q):aM Tryz.prog F.s7 #[.pointer d] w Q:=okF A.s7 Tryz.func73 (by kernel_rfl) (by kernel_rfl) h
def W.rr (d:Option Addr) (nh:Int) (ni:Int) (nj:Int) (nk:Int) (nm:Int) (nn:Int) (gen:Int) (w:World) (Q:Value→World→Prop):Prop:=ay (w.alloc (.cells #[.int .i64 nh, .int
 .i64 ni, .int .i64 nj, .int .u64 nk, .int .u64 nm, .int .i64 nn] ad.fR)) fun af=>(2:Int)≠0∧ay (af.drew) fun aw=>∃np:Nat→Prop,¬np ((ab w):Addr).block∧az aw (ab w) fun bl=>az aw (Addr.add
 (ab w) 1) fun n5=>az aw (Addr.add (ab w) 2) fun n6=>bJ aw (Addr.add (ab w) 3) fun n7=>bJ aw (Addr.add (ab w) 4) fun n8=>az aw (Addr.add (ab w) 5) fun n9=>bS F.oB #[.pointer d] aw fun n12 bL=>aq np aw bL∧cp
 F.q2 #[.agg #[.int .i64 bl, .int .i64 n5, .int .i64 n6, .int .u64 n7, .int .u64 n8, .int .i64 n9], .int .i64 n12] bL fun fw fS=>∃afT:Nat→Prop,∃sW:Array Value,(∀cj:World,Sem.run Tryz.prog (Instr.build ad.jD
 #[(0, .int .i64 3),(1, .int .u64 gen),(2, .slice fw.a fw.len fw.cap)]) cj= .ok (.agg sW) cj)∧gg F.sk #[.int .i64 (av (Int.tmod gen 2)), .agg sW] fS fun hY n22 di=>aq afT fS di∧au (n22 !=0) (Q (.int .i64 n22)
 di) (bS F.oD #[.pointer d, .int .i64 (av (Int.tmod gen 2)), .slice hY.a hY.len hY.cap] di fun n25 hK=>au (n25 !=0) (Q (.int .i64 n25) hK) (bS F.s7 #[.pointer d] hK fun n28 dm=>Q (.int .i64 n28)
 dm))
def A.rr:bn:=(.s .r (.s .r (.s (.dO 12 true ⟨[0,0,0,0,8,20,34,97,128,256,256,1023,4095],[0,0,0,0,8,20,34,65,128,256,256,512,1024]⟩ [32768,65536,131072,262144,524288,1048576,2097152,4194304,
 16384,8388608,16777216,256,512] [128,4,16,1,262144,655360,1114112,2129920,4194304,16384,16384,8388608,16777216] (.take 0 (.take 1 (.take 2 (.take 3 (.cL 4 (.out 5 true (.take 6 (.cL 7 (.take 8 (.take 9 (.take 10 (.take 11
 (.tail [.run])))))))))))))) (.s bp lj))))
theorem W.abD (d:Option Addr) (nh:Int) (ni:Int) (nj:Int) (nk:Int) (nm:Int) (nn:Int) (gen:Int) (w:World) (Q:Value→World→Prop) (h:W.rr d nh ni nj nk nm nn gen w Q):aM Tryz.prog F.rr #[.pointer d, .agg #[.int .i64 nh, .int .i64 ni, .int .i64 nj, .int .u64 nk, .int .u64 nm, .int .i64 nn], .int .u64 gen] w Q:=okF A.rr Tryz.func74 (by kernel_rfl) (by kernel_rfl) h
def W.ru (d:Option Addr) (na:Int) (nc:Int) (nd:Int) (nh:Int) (ni:Int) (nj:Int) (nk:Int) (nm:Int) (nn:Int) (gen:Int) (s:Option Addr) (w:World) (Q:Value→World
 →Prop):Prop:=ay (w.alloc (.cells #[.int .i64 na, .int .i64 nc, .int .u64 nd] ad.F7)) fun af=>ay (af.alloc (.cells #[.int .i64 nh, .int .i64 ni, .int .i64 nj, .int .u64 nk, .int .u64 nm,
 .int .i64 nn] ad.fR)) fun aw=>az aw (ab w) fun aX=>kB F.q7 #[.pointer d, .int .i64 aX] aw fun Tq n7 bf=>au (n7 !=0) (Q (.tuple #[.pointer none, .int .i64 n7]) bf) (az bf (ab af) fun n8=>az bf (Addr.add (ab af) 1)
 fun n9=>kB F.q9 #[.pointer Tq, .pointer s, .int .u64 (IntKind.wrap .u64 (gen+1)), .int .i64 n8, .int .i64 n9] bf fun afU n13 bL=>au (n13 !=0) (Q (.tuple #[.pointer none, .int .i64 n13]) bL) (az bL (ab w) fun n14=>az bL
 (Addr.add (ab w) 1) fun n15=>bJ bL (Addr.add (ab w) 2) fun n16=>az bL (ab af) fun n17=>az bL (Addr.add (ab af) 1) fun n18=>az bL (Addr.add (ab af) 2) fun n19=>bJ bL (Addr.add (ab af) 3) fun n20=>bJ bL (Addr.add (ab af) 4)
 fun n21=>az bL (Addr.add (ab af) 5) fun n22=>bJ bL (Addr.add (ab af) 3) fun n23=>az bL (Addr.add (ab af) 5) fun n24=>∃Tr:Array Value,Sem.run Tryz.prog (Instr.build ad.IS #[(0, .pointer afU),(1, .pointer d),(2,
 .pointer Tq),(3, .pointer s),(4, .agg #[.int .i64 n14, .int .i64 n15, .int .u64 n16]),(5, .agg #[.int .i64 n17, .int .i64 n18, .int .i64 n19, .int .u64 n20, .int .u64 n21, .int .i64 n22]),(6, .int .u64 gen),(7, .int .u64 n23),(10,
 .int .i64 n24)]) bL= .ok (.agg Tr) bL∧ay (bL.alloc (.cells Tr ad.IS)) fun dm=>Q (.tuple #[.pointer (some (ab bL)), .int .i64 0]) dm))
def A.ru:bn:=(.s .r (.s .r (.s bp iM)))
theorem W.abJ (d:Option Addr) (na:Int) (nc:Int) (nd:Int) (nh:Int) (ni:Int) (nj:Int) (nk:Int) (nm:Int) (nn:Int) (gen:Int) (s:Option Addr) (w:World) (Q:Value→World→Prop) (h:W.ru d na nc nd nh ni nj nk nm nn gen s w Q):aM Tryz.prog F.ru #[.pointer d, .agg #[.int .i64 na, .int .i64 nc, .int .u64 nd], .agg #[.int .i64 nh, .int .i64 ni, .int .i64 nj, .int .u64 nk, .int .u64 nm, .int .i64 nn], .int .u64 gen, .pointer s] w Q:=okF A.ru Tryz.func75 (by kernel_rfl) (by kernel_rfl) h
end
section
set_option maxRecDepth 100000
def W.sD (d:Option Addr) (i:Int) (w:World) (Q:Value→World→Prop):Prop:=ay (w.alloc z3) fun af=>∃bM:Addr,d=some bM∧∃yS:Option Nat,af.cell? (bM.add 5)=some (.map yS)∧∃cy:ah,∃aO:World,
 Sem.run Tryz.prog (Instr.lookup ad.pz (.map yS) (.int .i64 i) false) af= .ok (.slice cy.a cy.len cy.cap) aO∧au (decide ((cy.len:Int)>0)) (∃fo:Addr,cy.a=some fo∧((0:Int)≤(av ((cy.len:Int)-1))∧(av
 ((cy.len:Int)-1))<(cy.len:Int))∧∃zC:List Value,cn aO (fo.add (Int.toNat (av ((cy.len:Int)-1))*256)) 0 256=some zC∧Hr aO w zC Q) (∃jS:Addr,d=some jS∧aG aO (jS.add 4) fun dG=>NU dG i aO 256 fun afV=>
 Hr aO w afV Q)
def A.sD:bn:=(.s .r lj)
theorem W.Xr (d:Option Addr) (i:Int) (w:World) (Q:Value→World→Prop) (h:W.sD d i w Q):aM Tryz.prog F.sD #[.pointer d, .int .i64 i] w Q:=okF A.sD Tryz.func97 (by kernel_rfl) (by kernel_rfl) h
def W.pE (c:Int) (w:World) (Q:Value→World→Prop):Prop:=Q (.bool (c !=0)) w
def A.pE:bn:=(.s .r (.s .r .l))
theorem W.Ya (c:Int) (w:World) (Q:Value→World→Prop) (h:W.pE c w Q):aM Tryz.prog F.pE #[.int .u8 c] w Q:=okF A.pE Tryz.func99 (by kernel_rfl) (by kernel_rfl) h
def W.q5 (no:Int) (b:ah) (w:World) (Q:Value→World→Prop):Prop:=ay (w.alloc fe) fun af=>yk F.q3 #[.int .i64 no, .slice b.a b.len b.cap] af fun bl n5 n6 n7 n8 n9 n10 n11 n12 aw=>ay (aw.alloc fe)
 fun fS=>bW fS (ab aw) [.int .i64 bl, .int .i64 n5, .int .i64 n6, .int .u64 n7, .int .u64 n8, .int .i64 n9]∧(6:Nat)=6∧ay (setCells fS (ab aw) 0 [.int .i64 bl, .int .i64 n5, .int .i64 n6, .int .u64 n7, .int .u64 n8, .int
 .i64 n9]) fun b9=>az b9 (ab aw) fun n15=>az b9 (Addr.add (ab aw) 1) fun n16=>az b9 (Addr.add (ab aw) 2) fun n17=>bJ b9 (Addr.add (ab aw) 3) fun n18=>bJ b9 (Addr.add (ab aw) 4) fun n19=>az b9 (Addr.add (ab aw) 5) fun n20
 =>bW b9 (ab w) [.int .i64 n15, .int .i64 n16, .int .i64 n17, .int .u64 n18, .int .u64 n19, .int .i64 n20]∧(6:Nat)=6∧ay (setCells b9 (ab w) 0 [.int .i64 n15, .int .i64 n16, .int .i64 n17, .int .u64 n18, .int .u64 n19, .int
 .i64 n20]) fun dR=>az dR (ab w) fun n22=>az dR (Addr.add (ab w) 1) fun n23=>az dR (Addr.add (ab w) 2) fun n24=>bJ dR (Addr.add (ab w) 3) fun n25=>bJ dR (Addr.add (ab w) 4) fun n26=>az dR (Addr.add (ab w) 5) fun n27=>Q
 (.tuple #[.agg #[.int .i64 n22, .int .i64 n23, .int .i64 n24, .int .u64 n25, .int .u64 n26, .int .i64 n27], .int .u64 n11, .int .i64 n12]) dR
def A.q5:bn:=jr
theorem W.X4 (no:Int) (b:ah) (w:World) (Q:Value→World→Prop) (h:W.q5 no b w Q):aM Tryz.prog F.q5 #[.int .i64 no, .slice b.a b.len b.cap] w Q:=okF A.q5 Tryz.func100 (by kernel_rfl) (by kernel_rfl) h
def W.uJ (l:Option Addr) (no:Int) (level:Int) (w:World) (Q:Value→World→Prop):Prop:=br (fun dv:Bool→World→Prop=>au (decide (no<0)) (dv true w) (∃bM:Addr,l=some bM∧aG w (bM.add 10) fun cX=>
 dv (decide (no≥(cX.len:Int))) w)) (fun (e3:Bool) aO=>br (fun vr:Bool→World→Prop=>au e3 (vr true aO) (∃jr:Addr,l=some jr∧∃Ts:Option Nat,aO.cell? (jr.add 11)=some (.map Ts)∧∃ll:Bool,∃bL:World,Sem.run
 Tryz.prog (Instr.lookup ad.iE (.map Ts) (.int .i64 no) false) aO= .ok (.bool ll) bL∧vr ll bL)) (fun (ql:Bool) bw=>au ql (∃kq:Addr,l=some kq∧az bw (kq.add 9) fun n14=>∃mE:Addr,l=some mE∧st bw
 (mE.add 9) (.int .i64 (av (n14+1))) fun cd=>Q (.slice none 0 0) cd) (∃lk:Addr,l=some lk∧∃Tt:Option Nat,bw.cell? (lk.add 11)=some (.map Tt)∧∃di:World,Sem.run Tryz.prog (Instr.mapUpdate ad.iE (.map
 Tt) (.int .i64 no) (.bool true)) bw= .ok () di∧br (fun Tu:Int→World→Prop=>au (level==1) (Tu 1 di) (Tu 2 di)) (fun (n21:Int) c5=>∃a23:Addr,l=some a23∧aG c5 (a23.add 10) fun lV=>∃a25:Addr,lV.a=some
 a25∧aQ no lV.len∧aG c5 (a25.add (Int.toNat no*1)) fun gU=>lH F.mM #[.int .i64 no, .slice gU.a gU.len gU.cap] c5 fun n29 n30 js n32 c0=>ay (c0.alloc z4) fun cV=>bW cV (ab c0) [.int .i64 n29, .int .u64
 n30, .slice js.a js.len js.cap]∧(3:Nat)=3∧ay (setCells cV (ab c0) 0 [.int .i64 n29, .int .u64 n30, .slice js.a js.len js.cap]) fun ck=>aG ck (Addr.add (ab c0) 2) fun jb=>H4 F.px #[.bool (level==1), .slice
 jb.a jb.len jb.cap] ck fun Ge iY kr jI mW dS=>ay (dS.alloc z5) fun fD=>bW fD (ab dS) [.bool Ge, .slice iY.a iY.len iY.cap, .slice kr.a kr.len kr.cap, .slice jI.a jI.len jI.cap]∧(4:Nat)=4∧ay (setCells
 fD (ab dS) 0 [.bool Ge, .slice iY.a iY.len iY.cap, .slice kr.a kr.len kr.cap, .slice jI.a jI.len jI.cap]) fun gr=>br (fun Tv:Bool→World→Prop=>au ((n32 !=0)||(mW !=0)) (Tv true gr) (az gr (ab c0) fun r3=>
 Tv (r3 !=n21) gr)) (fun (afW:Bool) il=>au afW (∃Tw:Addr,l=some Tw∧az il (Tw.add 9) fun ja=>∃Cp:Addr,l=some Cp∧st il (Cp.add 9) (.int .i64 (av (ja+1))) fun yi=>Q (.slice none 0 0) yi) (∃a53:Addr,
 l=some a53∧aG il (a53.add 12) fun Cq=>ay (il.alloc (.cells #[.int .i64 no] ad.int)) fun eD=>∃zH:ah,∃fk:World,Sem.run Tryz.prog (Builtin.append_ #[ad.da,ad.da] ad.da #[.slice Cq.a Cq.len Cq.cap, .slice
 (some (ab il)) 1 1]) eD= .ok (.slice zH.a zH.len zH.cap) fk∧∃Cn:Addr,l=some Cn∧st fk (Cn.add 12) (.slice zH.a zH.len zH.cap) fun iF=>∃vq:Addr,l=some vq∧az iF (vq.add 5) fun o8=>∃Tx:Addr,l=
 some Tx∧st iF (Tx.add 5) (.int .i64 (av (o8+1))) fun g7=>br (fun Cr:World→Prop=>au (level==1) (ay (g7.drew) fun lf=>∃Ty:Addr,l=some Ty∧¬False∧az lf (Ty.add 6) fun Gf=>¬False∧aG lf (Addr.add (ab
 dS) 1) fun afX=>∃Tz:Addr,l=some Tz∧st lf (Tz.add 6) (.int .i64 (av (Gf+(afX.len:Int)))) fun gX=>Cr gX) (Cr g7)) (fun gT=>aG gT (Addr.add (ab dS) 3) fun rk=>Q (.slice rk.a rk.len rk.cap) gT)))))))
def A.uJ:bn:=(.s .r (.s (.s (.du [.run, .run, .run, .split 7, .run, .run, .run, .run, .run, .run, .run, .run, .split 6]) fV) (.s .r (.s .r (.s (.hM [(7,(.int .i64))] [0,1,2] (.s .r (.c .r .l))) (.s .r (.s .r (.s (.s
 (.du [.run, .run, .run, .pure 2, .run, .run, .run, .split 4]) fV) (.s .r (.s .r (.s (.hM [] [10] (.s .r (.c (.dO 8 false ⟨[0,1,2,4,8,0,32,64,144,511,1023,1535,2559],[0,1,2,4,8,0,32,64,144,1,512,1024,2304]⟩
 [649037107316853453566312041152512,1298074214633706907132624082305024,2596148429267413814265248164610048,5192296858534827628530496329220096,10384593717069655257060992658440192,20769187434139310514121985316880384,
 41538374868278621028243970633760768,83076749736557242056487941267521536,166153499473114484112975882535043072,332306998946228968225951765070086144,664613997892457936451903530140172288,1329227995784915872903807060280344576,0] [1,
 649037107316853453566312041152512,1298074214633706907132624082305024,2596148429267413814265248164610048,5192296858534827628530496329220096,1024,20769187434139310514121985316880384,41538374868278621028243970633760768,
 93461343453626897313548933925961728,649037107316853453566312041152512,332306998946228968225951765070086144,664613997892457936451903530140172288,1495381495258030357016782942815387648] (.take 0 (.take 1 (.take 2 (.take 3 (.take 4 (.take 5
 (.take 6 (.take 7 (.tail [.run, .run, .run, .run, .run])))))))))) .l))) (.s .r .l))))))))))))
theorem W.aal (l:Option Addr) (no:Int) (level:Int) (w:World) (Q:Value→World→Prop) (h:W.uJ l no level w Q):aM Tryz.prog F.uJ #[.pointer l, .int .i64 no, .int .i64 level] w Q:=okF A.uJ Tryz.func101 (by kernel_rfl) (by kernel_rfl) h
def W.mM (no:Int) (b:ah) (w:World) (Q:Value→World→Prop):Prop:=ay (w.alloc z4) fun af=>au ((b.len:Int) !=256) (bW af (ab w) [.int .i64 0, .int .u64 0, .slice none 0 0]∧(3:Nat)=3∧ay (setCells af (ab w)
 0 [.int .i64 0, .int .u64 0, .slice none 0 0]) fun aw=>Dq aw w Q) (((0:Int)≤4∧4≤((b.cap:Nat):Int))∧∃bZ:ByteArray,∃bk:World,Sem.run Tryz.prog (convert ad.bE ad.string (.slice (cN b.a 1 0 b.cap) ((Int.toNat 4)
 -0) (b.cap-0))) af= .ok (.string bZ) bk∧au (!(ByteArray.toList bZ==ByteArray.toList (ByteArray.mk #[83,84,78,67]))) (bW bk (ab w) [.int .i64 0, .int .u64 0, .slice none 0 0]∧(3:Nat)=3∧ay (setCells bk (ab w) 0 [.int
 .i64 0, .int .u64 0, .slice none 0 0]) fun bR=>vP bR w Q) (∃iM:Addr,b.a=some iM∧aQ 4 b.len∧b1 bk (iM.add (Int.toNat 4*1)) fun n13=>au (n13 !=1) (bW bk (ab w) [.int .i64 0, .int .u64 0, .slice none 0 0]∧(3:Nat)=
 3∧ay (setCells bk (ab w) 0 [.int .i64 0, .int .u64 0, .slice none 0 0]) fun b9=>Dr b9 w Q) (gM F.oo #[.slice b.a b.len b.cap] bk fun n20 cj=>dW F.lA #[.slice b.a b.len b.cap, .int .i64 20, .int .i64 24] cj fun
 n23 dR=>au (((IntKind.wrap .u64 n20):Int) !=n23) (bW dR (ab w) [.int .i64 0, .int .u64 0, .slice none 0 0]∧(3:Nat)=3∧ay (setCells dR (ab w) 0 [.int .i64 0, .int .u64 0, .slice none 0 0]) fun eT=>Ds eT w Q) (dW
 F.lA #[.slice b.a b.len b.cap, .int .i64 6, .int .i64 8] dR fun n30 cw=>∃Cm:Addr,b.a=some Cm∧aQ 5 b.len∧b1 cw (Cm.add (Int.toNat 5*1)) fun n32=>cx F.xr #[.int .i64 (av n32)] cw fun Cs cV=>br (fun
 Ct:Bool→World→Prop=>au ((!Cs)||(decide (((av n30):Int)>232))) (Ct true cV) (((0:Int)≤(av (24+(av n30)))∧(av (24+(av n30)))≤(b.len:Int))∧cx F.qB #[.slice (cN b.a 1 (Int.toNat (av (24+(av n30))))
 b.cap) (b.len-(Int.toNat (av (24+(av n30))))) (b.cap-(Int.toNat (av (24+(av n30)))))] cV fun K_ jQ=>Ct (!K_) jQ)) (fun (afY:Bool) jZ=>au afY (bW jZ (ab w) [.int .i64 0, .int .u64 0, .slice none 0 0]∧(3:Nat)=
 3∧ay (setCells jZ (ab w) 0 [.int .i64 0, .int .u64 0, .slice none 0 0]) fun eX=>vP eX w Q) (cx F.xq #[.int .i64 no] jZ fun Gg nH=>br (fun Cu:Bool→World→Prop=>au (!Gg) (Cu true nH) (dW F.lA #[.slice
 b.a b.len b.cap, .int .i64 8, .int .i64 12] nH fun vo mv=>Cu (vo !=(IntKind.wrap .u64 no)) mv)) (fun (Cv:Bool) iT=>au Cv (bW iT (ab w) [.int .i64 0, .int .u64 0, .slice none 0 0]∧(3:Nat)=3∧ay (setCells iT (ab
 w) 0 [.int .i64 0, .int .u64 0, .slice none 0 0]) fun eD=>Dt eD w Q) (vD F.qx #[.slice b.a b.len b.cap, .int .i64 24, .int .i64 (av n30)] iT fun o9 akK iF=>ay (iF.drew) fun g7=>∃Co:Nat→Prop,∃xA:Addr,b.a=
 some xA∧aQ 5 b.len∧¬Co (xA.add (Int.toNat 5*1)).block∧b1 g7 (xA.add (Int.toNat 5*1)) fun qh=>dW F.lA #[.slice b.a b.len b.cap, .int .i64 12, .int .i64 20] g7 fun vk fK=>aq Co g7 fK∧Du fK w qh vk
 o9 Q))))))))
def A.mM:bn:=(.s .r (.s (.bT (.s .r (.c (.s .r .l) (.s .r (.c (.s .r .l) (.s .r (.c (.s .r .l) bp))))))) (.s .r (.s (.bT (.s (.du [.run, .run, .run, .run, .run, .run, .run, .pure 2, .run, .run, .run, .split 6]) (.c (.s .r
 .l) (.s (.du [.run, .run, .run, .run, .split 5]) (.c (.s .r .l) .l))))) (.s .r (.s (.dO 7 true ⟨[0,1,2,4,0,16,0,104,255,511],[0,1,2,4,0,16,0,104,128,0]⟩ [37778931862957161709568,75557863725914323419136,
 151115727451828646838272,302231454903657293676544,604462909807314587353088,1208925819614629174706176,2417851639229258349412352,4835703278458516698824704,0,32] [2,37778931862957161709568,75557863725914323419136,
 151115727451828646838272,2,604462909807314587353088,128,3929008913747544817795072,4835703278458516698824720,0] (.take 0 (.take 1 (.take 2 (.take 3 (.take 4 (.take 6 (.cL 5 (.tail [.run, .run, .run]))))))))) .l))))))
theorem W.Wb (no:Int) (b:ah) (w:World) (Q:Value→World→Prop) (h:W.mM no b w Q):aM Tryz.prog F.mM #[.int .i64 no, .slice b.a b.len b.cap] w Q:=okF A.mM Tryz.func102 (by kernel_rfl) (by kernel_rfl) h
def W.pJ (b:ah) (n:Int) (w:World) (Q:Value→World→Prop):Prop:=cx F.sT #[.int .i64 n] w fun gw af=>au (!gw) (Q (.tuple #[.pointer none, .int .i64 1]) af) (bS F.sU #[.int .i64 n] af fun n6 bf=>br
 (fun TA:Bool→World→Prop=>au ((b.len:Int) !=n6) (TA true bf) ((8:Int)≠0∧br (fun ob:Bool→World→Prop=>au (decide (((Int.tmod n 8):Int)>0)) (∃a9:Addr,b.a=some a9∧((0:Int)≤(av ((b.len:Int)-1))∧(av
 ((b.len:Int)-1))<(b.len:Int))∧b1 bf (a9.add (Int.toNat (av ((b.len:Int)-1))*1)) fun n10=>(8:Int)≠0∧(0:Int)≤(Int.tmod n 8)∧ob (decide (((Int.fdiv n10 (2^(min (Int.toNat (Int.tmod n 8)) 8))):Int)>0)) bf) (ob
 false bf)) (fun (ql:Bool) bw=>TA ql bw))) (fun (xC:Bool) b9=>au xC (Q (.tuple #[.pointer none, .int .i64 4]) b9) (cp F.l4 #[.slice b.a b.len b.cap] b9 fun cP c7=>ay (c7.alloc (.cells #[.int .i64
 n, .slice cP.a cP.len cP.cap, .slice none 0 0] ad.pH)) fun cj=>cu F.sS #[.pointer (some (ab c7))] cj fun di=>Q (.tuple #[.pointer (some (ab c7)), .int .i64 0]) di)))
def A.pJ:bn:=(.s .r (.s (.bT (.s .r (.c (.s .r .l) (.s (.du [.run, .run, .run, .run, .run, .run, .split 15, .run, .run, .run, .split 10]) (.c (.s .r .l) .l))))) jr))
theorem W.Zx (b:ah) (n:Int) (w:World) (Q:Value→World→Prop) (h:W.pJ b n w Q):aM Tryz.prog F.pJ #[.slice b.a b.len b.cap, .int .i64 n] w Q:=okF A.pJ Tryz.func103 (by kernel_rfl) (by kernel_rfl) h
def W.ur (s:Option Addr) (no:Int) (w:World) (Q:Value→World→Prop):Prop:=cx F.uq #[.pointer s, .int .i64 no] w fun gw af=>br (fun ie:Bool→World→Prop=>au gw (∃a5:Addr,s=some a5∧aG
 af (a5.add 1) fun bZ=>cx F.sQ #[.slice bZ.a bZ.len bZ.cap, .int .i64 no] af fun ll bk=>ie ll bk) (ie false af)) (fun (Gd:Bool) cJ=>Q (.bool Gd) cJ)
def A.ur:bn:=(.s .r (.s (.du [.run, .run, .run, .run, .split 6]) .l))
theorem W.YQ (s:Option Addr) (no:Int) (w:World) (Q:Value→World→Prop) (h:W.ur s no w Q):aM Tryz.prog F.ur #[.pointer s, .int .i64 no] w Q:=okF A.ur Tryz.func106 (by kernel_rfl) (by kernel_rfl) h
def W.uv (s:Option Addr) (w:World) (Q:Value→World→Prop):Prop:=au (Option.isNone s) (Q (.slice none 0 0) w) (∃bp:Addr,s=some bp∧az w bp fun cY=>∃ (xD:ah→Int→World→Prop) (Cw:ah→Int→World→
 Nat),xD ⟨none,0,0⟩ 0 w∧∀ (b7:ah) (n6:Int) (bk:World),xD b7 n6 bk→au (decide (n6<cY)) (br (fun ob:ah→World→Prop=>∃a9:Addr,s=some a9∧aG bk (a9.add 1) fun eA=>cx F.sQ #[.slice eA.a eA.len
 eA.cap, .int .i64 n6] bk fun xC cJ=>au xC (ay (cJ.alloc (.cells #[.int .i64 n6] ad.int)) fun b9=>∃fw:ah,∃cd:World,Sem.run Tryz.prog (Builtin.append_ #[ad.da,ad.da] ad.da #[.slice b7.a b7.len b7.cap, .slice
 (some (ab cJ)) 1 1]) b9= .ok (.slice fw.a fw.len fw.cap) cd∧ob fw cd) (ob b7 cJ)) (fun (cP:ah) cj=>xD cP (av (n6+1)) cj∧Cw cP (av (n6+1)) cj<Cw b7 n6 bk)) (Q (.slice b7.a b7.len b7.cap) bk))
def A.uv:bn:=(.s .r (.s bp (.s .r (.s (.s .r (.bT (.loop [(3, .slice),(11,(.int .i64))] [0,10] (.s .r (.s (.c .l .l) (.s (.hM [(3, .slice)] [0,10,11] (.bT (.s .r (.s .r (.c .r .l))))) .r)))))) (.s .r .l)))))
theorem W.YY (s:Option Addr) (w:World) (Q:Value→World→Prop) (h:W.uv s w Q):aM Tryz.prog F.uv #[.pointer s] w Q:=okF A.uv Tryz.func107 (by kernel_rfl) (by kernel_rfl) h
def W.sT (n:Int) (w:World) (Q:Value→World→Prop):Prop:=Q (.bool ((decide (n≥1))&&(decide (n≤1600)))) w
def A.sT:bn:=a5
theorem W.Y3 (n:Int) (w:World) (Q:Value→World→Prop) (h:W.sT n w Q):aM Tryz.prog F.sT #[.int .i64 n] w Q:=okF A.sT Tryz.func113 (by kernel_rfl) (by kernel_rfl) h
def W.sU (n:Int) (w:World) (Q:Value→World→Prop):Prop:=(8:Int)≠0∧Q (.int .i64 (av (Int.tdiv (av ((av (n+8))-1)) 8))) w
def A.sU:bn:=(.s .r (.s .r .l))
theorem W.Y4 (n:Int) (w:World) (Q:Value→World→Prop) (h:W.sU n w Q):aM Tryz.prog F.sU #[.int .i64 n] w Q:=okF A.sU Tryz.func114 (by kernel_rfl) (by kernel_rfl) h
def W.uo (s:ah) (no:Int) (w:World) (Q:Value→World→Prop):Prop:=ay (w.drew) fun af=>(8:Int)≠0∧∃bM:Addr,s.a=some bM∧aQ (av (Int.tdiv no 8)) s.len∧¬False∧b1 af (bM.add (Int.toNat (av (Int.tdiv no
 8))*1)) fun aX=>(8:Int)≠0∧(0:Int)≤(Int.tmod no 8)∧∃a4:Addr,s.a=some a4∧aQ (av (Int.tdiv no 8)) s.len∧st af (a4.add (Int.toNat (av (Int.tdiv no 8))*1)) (.int .u8 (x1 .u8 aX (IntKind.wrap .u8 (1*2^(min
 (Int.toNat (Int.tmod no 8)) 8))))) fun aO=>Q (.tuple #[]) aO
def A.uo:bn:=(.dO 8 false ⟨[0,0,2,5,8,0,32,64,144,511,1023],[0,0,2,5,8,0,32,64,144,5,768]⟩ [16,32,64,128,256,512,1024,2048,4096,8192,0] [1,2,32,80,128,2,512,1024,2304,80,12288] (.take
 0 (.take 1 (.take 2 (.take 3 (.take 4 (.take 5 (.take 6 (.take 7 (.tail [.run, .run, .run]))))))))))
theorem W.YK (s:ah) (no:Int) (w:World) (Q:Value→World→Prop) (h:W.uo s no w Q):aM Tryz.prog F.uo #[.slice s.a s.len s.cap, .int .i64 no] w Q:=okF A.uo Tryz.func115 (by kernel_rfl) (by kernel_rfl) h
def W.sS (s:Option Addr) (w:World) (Q:Value→World→Prop):Prop:=au (!(Option.isNone s)) (∃bp:Addr,s=some bp∧aG w (bp.add 1) fun s2=>cp F.uu #[.slice s2.a s2.len s2.cap] w fun b7
 bd=>∃fo:Addr,s=some fo∧st bd (fo.add 2) (.slice b7.a b7.len b7.cap) fun bk=>Q (.tuple #[]) bk) (Q (.tuple #[]) w)
def A.sS:bn:=(.s .r (.c .r .l))
theorem W.YW (s:Option Addr) (w:World) (Q:Value→World→Prop) (h:W.sS s w Q):aM Tryz.prog F.sS #[.pointer s] w Q:=okF A.sS Tryz.func116 (by kernel_rfl) (by kernel_rfl) h
def W.xq (no:Int) (w:World) (Q:Value→World→Prop):Prop:=Q (.bool ((decide (no≥0))&&(decide (no<1600)))) w
def A.xq:bn:=a5
theorem W.M6 (no:Int) (w:World) (Q:Value→World→Prop) (h:W.xq no w Q):aM Tryz.prog F.xq #[.int .i64 no] w Q:=okF A.xq Tryz.func117 (by kernel_rfl) (by kernel_rfl) h
def W.xr (ku:Int) (w:World) (Q:Value→World→Prop):Prop:=Q (.bool ((decide (ku≥1))&&(decide (ku≤4)))) w
def A.xr:bn:=a5
theorem W.M7 (ku:Int) (w:World) (Q:Value→World→Prop) (h:W.xr ku w Q):aM Tryz.prog F.xr #[.int .i64 ku] w Q:=okF A.xr Tryz.func118 (by kernel_rfl) (by kernel_rfl) h
def W.mK (parts:ah) (w:World) (Q:Value→World→Prop):Prop:=∃ (dn:ah→Int→World→Prop) (eK:ah→Int→World→Nat),dn ⟨none,0,0⟩ 0 w∧∀ (cX:ah) (bl:Int) (aO:World),dn cX bl aO→au (decide (bl<
 (parts.len:Int))) (∃fo:Addr,parts.a=some fo∧aQ bl parts.len∧aG aO (fo.add (Int.toNat bl*1)) fun fq=>∃fB:ah,∃bK:World,Sem.run Tryz.prog (Builtin.append_ #[ad.bE,ad.bE] ad.bE #[.slice cX.a cX.len
 cX.cap, .slice fq.a fq.len fq.cap]) aO= .ok (.slice fB.a fB.len fB.cap) bK∧dn fB (av (bl+1)) bK∧eK fB (av (bl+1)) bK<eK cX bl aO) (Q (.slice cX.a cX.len cX.cap) aO)
def A.mK:bn:=(.s .r (.s .r (.s (.s .r (.bT (.loop [(3, .slice),(8,(.int .i64))] [6,7] bM))) (.s .r .l))))
theorem W.VN (parts:ah) (w:World) (Q:Value→World→Prop) (h:W.mK parts w Q):aM Tryz.prog F.mK #[.slice parts.a parts.len parts.cap] w Q:=okF A.mK Tryz.func119 (by kernel_rfl) (by kernel_rfl) h
def W.fF (b:ah) (n:Int) (size:Int) (w:World) (Q:Value→World→Prop):Prop:=cp F.l4 #[.slice b.a b.len b.cap] w fun cX af=>cx F.xt #[.int .i64 size] af fun kb bf=>au (!kb) (Q (.slice cX.a
 cX.len cX.cap) bf) (∃ (xE:ah→Int→World→Prop) (Cx:ah→Int→World→Nat),xE cX (av (size-1)) bf∧∀ (dV:ah) (n10:Int) (cJ:World),xE dV n10 cJ→au (decide (n10≥0)) ((0:Int)≤(av (8*n10))∧ay (cJ.alloc (.cells
 #[.int .u8 (IntKind.wrap .u8 (Int.fdiv n (2^(min (Int.toNat (av (8*n10))) 64))))] ad.uint8)) fun bw=>∃ir:ah,∃b9:World,Sem.run Tryz.prog (Builtin.append_ #[ad.bE,ad.bE] ad.bE #[.slice dV.a dV.len dV.cap,
 .slice (some (ab cJ)) 1 1]) bw= .ok (.slice ir.a ir.len ir.cap) b9∧xE ir (av (n10-1)) b9∧Cx ir (av (n10-1)) b9<Cx dV n10 cJ) (Q (.slice dV.a dV.len dV.cap) cJ))
def A.fF:bn:=(.s .r (.s .r (.s bp (.s (.s .r (.bT (.loop [(7, .slice),(8,(.int .i64))] [1] a4))) (.s .r .l)))))
theorem W.VF (b:ah) (n:Int) (size:Int) (w:World) (Q:Value→World→Prop) (h:W.fF b n size w Q):aM Tryz.prog F.fF #[.slice b.a b.len b.cap, .int .u64 n, .int .i64 size] w Q:=okF A.fF Tryz.func120 (by kernel_rfl) (by kernel_rfl) h
def W.oo (b:ah) (w:World) (Q:Value→World→Prop):Prop:=ay (w.drew) fun af=>((0:Int)≤20∧20≤((b.cap:Nat):Int))∧((0:Int)≤24∧24≤(b.len:Int))∧ay (af.alloc (.cells #[.slice (cN b.a 1 0 b.cap)
 ((Int.toNat 20)-0) (b.cap-0), .slice (cN b.a 1 (Int.toNat 24) b.cap) (b.len-(Int.toNat 24)) (b.cap-(Int.toNat 24))] ad.bE)) fun aw=>gM F.tR #[.slice (some (ab af)) 2 2] aw fun n5 bd=>Q (.int .u32 n5) bd
def A.oo:bn:=(.s .r (.s (.dO 4 false ⟨[0,1,0,4,10,16,63],[0,1,0,4,10,16,32]⟩ [8,16,32,64,128,256,4] [1,8,1,32,80,128,256] (.take 0 (.take 1 (.take 2 (.take 3 (.tail [.run, .run, .run])))))) .l))
theorem W.VY (b:ah) (w:World) (Q:Value→World→Prop) (h:W.oo b w Q):aM Tryz.prog F.oo #[.slice b.a b.len b.cap] w Q:=okF A.oo Tryz.func121 (by kernel_rfl) (by kernel_rfl) h
def W.q2 (nh:Int) (ni:Int) (nj:Int) (nk:Int) (nm:Int) (nn:Int) (Gh:Int) (w:World) (Q:Value→World→Prop):Prop:=ay (w.alloc (.cells #[.int .i64 nh, .int .i64 ni, .int
 .i64 nj, .int .u64 nk, .int .u64 nm, .int .i64 nn] ad.fR)) fun af=>az af (ab w) fun cY=>cp F.fF #[.slice none 0 0, .int .u64 (IntKind.wrap .u64 cY), .int .i64 4] af fun b7 bd=>az bd (Addr.add (ab w) 1)
 fun n6=>cp F.fF #[.slice b7.a b7.len b7.cap, .int .u64 (IntKind.wrap .u64 n6), .int .i64 1] bd fun dV bk=>az bk (Addr.add (ab w) 2) fun n10=>cp F.fF #[.slice dV.a dV.len dV.cap, .int .u64 (IntKind.wrap .u64 n10), .int .i64
 4] bk fun ir cJ=>cp F.fF #[.slice ir.a ir.len ir.cap, .int .u64 (IntKind.wrap .u64 Gh), .int .i64 4] cJ fun cK b9=>bJ b9 (Addr.add (ab w) 3) fun n17=>cp F.fF #[.slice cK.a cK.len cK.cap, .int .u64 n17, .int
 .i64 8] b9 fun gj cj=>bJ cj (Addr.add (ab w) 4) fun n21=>cp F.fF #[.slice gj.a gj.len gj.cap, .int .u64 n21, .int .i64 8] cj fun lV c5=>az c5 (Addr.add (ab w) 5) fun n25=>cp F.fF #[.slice lV.a lV.len lV.cap,
 .int .u64 (IntKind.wrap .u64 n25), .int .i64 4] c5 fun gk dm=>Q (.slice gk.a gk.len gk.cap) dm
def A.q2:bn:=(.s .r (.s .r (.s .r (.s .r (.s .r jr)))))
theorem W.XM (nh:Int) (ni:Int) (nj:Int) (nk:Int) (nm:Int) (nn:Int) (Gh:Int) (w:World) (Q:Value→World→Prop) (h:W.q2 nh ni nj nk nm nn Gh w Q):aM Tryz.prog F.q2 #[.agg #[.int .i64 nh, .int .i64 ni, .int .i64 nj, .int .u64 nk, .int .u64 nm, .int .i64 nn], .int .i64 Gh] w Q:=okF A.q2 Tryz.func123 (by kernel_rfl) (by kernel_rfl) h
def W.q7 (d:Option Addr) (eQ:Int) (w:World) (Q:Value→World→Prop):Prop:=au (((Option.isNone d)||(decide (eQ<8)))||(decide (eQ>64))) (Q (.tuple #[.pointer none, .int .i64 1]) w) (((0:Int)≤eQ
 ∧eQ≤eQ∧eQ≤oq∧((48:Nat):Int)*eQ≤140737488355328)∧ay (w.alloc (.cells (jB Tryz.prog ad.pM (Int.toNat eQ)) ad.pM)) fun af=>ay (af.alloc (.cells #[.pointer d, .slice (some (ab w))
 (Int.toNat eQ) (Int.toNat eQ), .int .i64 0] ad.ON)) fun aw=>Q (.tuple #[.pointer (some (ab af)), .int .i64 0]) aw)
def A.q7:bn:=(.s .r (.s (.s (.du [.run, .run, .run, .pure 2, .run, .run, .run, .pure 2]) (.c (.s .r .l) .l)) (.s .r .l)))
theorem W.ZC (d:Option Addr) (eQ:Int) (w:World) (Q:Value→World→Prop) (h:W.q7 d eQ w Q):aM Tryz.prog F.q7 #[.pointer d, .int .i64 eQ] w Q:=okF A.q7 Tryz.func124 (by kernel_rfl) (by kernel_rfl) h
def W.q9 (c:Option Addr) (s:Option Addr) (gen:Int) (root:Int) (bX:Int) (w:World) (Q:Value→World→Prop):Prop:=br (fun dv:Bool→World→Prop=>au (((((Option.isNone c)||(Option.isNone s))||(decide
 (bX<0)))||(decide (bX>12)))||(decide (root<0))) (dv true w) (∃bM:Addr,c=some bM∧∃dZ:Option Addr,w.cell? bM=some (.pointer dZ)∧bS F.oB #[.pointer dZ] w fun n6 bf=>dv (decide (root≥n6)) bf))
 (fun (ih:Bool) bR=>au (ih||(!((root==0)==(bX==0)))) (Q (.tuple #[.pointer none, .int .i64 1]) bR) (ay (bR.alloc (.cells #[.pointer c, .pointer s, .int .u64 gen, .int .i64 root, .int .i64 bX] ad.HY)) fun bK=>Q
 (.tuple #[.pointer (some (ab bR)), .int .i64 0]) bK))
def A.q9:bn:=(.s .r (.s (.s (.du [.run, .run, .run, .pure 2, .run, .run, .run, .pure 2, .run, .run, .run, .pure 2, .run, .run, .run, .pure 2, .run, .run, .run, .split 7, .run, .run, .run, .run, .run, .run, .run, .run, .pure 5])
 (.c (.s .r .l) .l)) (.s .r .l)))
theorem W.ZO (c:Option Addr) (s:Option Addr) (gen:Int) (root:Int) (bX:Int) (w:World) (Q:Value→World→Prop) (h:W.q9 c s gen root bX w Q):aM Tryz.prog F.q9 #[.pointer c, .pointer s, .int .u64 gen, .int .i64 root, .int .i64 bX] w Q:=okF A.q9 Tryz.func125 (by kernel_rfl) (by kernel_rfl) h
end
section
set_option maxRecDepth 100000
def W.q3 (no:Int) (b:ah) (w:World) (Q:Value→World→Prop):Prop:=ay (w.alloc fe) fun af=>lH F.mM #[.int .i64 no, .slice b.a b.len b.cap] af fun bl n5 bZ n7 aw=>ay (aw.alloc z4) fun bR=>bW bR (ab
 aw) [.int .i64 bl, .int .u64 n5, .slice bZ.a bZ.len bZ.cap]∧(3:Nat)=3∧ay (setCells bR (ab aw) 0 [.int .i64 bl, .int .u64 n5, .slice bZ.a bZ.len bZ.cap]) fun bK=>au (n7 !=0) (az bK (ab w) fun n10=>az bK (Addr.add (ab w) 1) fun
 n11=>az bK (Addr.add (ab w) 2) fun n12=>bJ bK (Addr.add (ab w) 3) fun n13=>bJ bK (Addr.add (ab w) 4) fun n14=>az bK (Addr.add (ab w) 5) fun n15=>bW bK (ab w) [.int .i64 n10, .int .i64 n11, .int .i64 n12, .int .u64 n13, .int
 .u64 n14, .int .i64 n15]∧(6:Nat)=6∧ay (setCells bK (ab w) 0 [.int .i64 n10, .int .i64 n11, .int .i64 n12, .int .u64 n13, .int .u64 n14, .int .i64 n15]) fun cd=>az cd (ab w) fun n17=>az cd (Addr.add (ab w) 1) fun n18=>az cd
 (Addr.add (ab w) 2) fun n19=>bJ cd (Addr.add (ab w) 3) fun n20=>bJ cd (Addr.add (ab w) 4) fun n21=>az cd (Addr.add (ab w) 5) fun n22=>Q (.tuple #[.agg #[.int .i64 n17, .int .i64 n18, .int .i64 n19, .int .u64 n20, .int .u64 n21,
 .int .i64 n22], .int .i64 0, .int .u64 0, .int .i64 n7]) cd) (az bK (ab aw) fun n23=>br (fun Cy:Bool→World→Prop=>au (n23 !=3) (Cy true bK) (aG bK (Addr.add (ab aw) 2) fun ij=>Cy ((ij.len:Int) !=33) bK)) (fun (La:Bool)
 c0=>au La (az c0 (ab w) fun n28=>az c0 (Addr.add (ab w) 1) fun n29=>az c0 (Addr.add (ab w) 2) fun n30=>bJ c0 (Addr.add (ab w) 3) fun n31=>bJ c0 (Addr.add (ab w) 4) fun n32=>az c0 (Addr.add (ab w) 5) fun n33=>bW
 c0 (ab w) [.int .i64 n28, .int .i64 n29, .int .i64 n30, .int .u64 n31, .int .u64 n32, .int .i64 n33]∧(6:Nat)=6∧ay (setCells c0 (ab w) 0 [.int .i64 n28, .int .i64 n29, .int .i64 n30, .int .u64 n31, .int .u64 n32, .int .i64 n33])
 fun ck=>Hx ck w Q) (aG c0 (Addr.add (ab aw) 2) fun jI=>ay (c0.alloc (.cells #[.slice jI.a jI.len jI.cap, .int .i64 0] ad.DX)) fun eX=>dW F.mg #[.pointer (some (ab c0)), .int .i64 4] eX fun tx fD
 =>dW F.mg #[.pointer (some (ab c0)), .int .i64 1] fD fun Cd nH=>dW F.mg #[.pointer (some (ab c0)), .int .i64 4] nH fun tB uf=>st uf (ab w) (.int .i64 (av tx)) fun yi=>st yi (Addr.add (ab w)
 1) (.int .i64 (av Cd)) fun D4=>st D4 (Addr.add (ab w) 2) (.int .i64 (av tB)) fun iT=>dW F.mg #[.pointer (some (ab c0)), .int .i64 4] iT fun zB eD=>dW F.mg #[.pointer (some (ab c0)), .int .i64
 8] eD fun afZ D5=>dW F.mg #[.pointer (some (ab c0)), .int .i64 8] D5 fun vj wi=>dW F.mg #[.pointer (some (ab c0)), .int .i64 4] wi fun qh Oe=>st Oe (Addr.add (ab w) 3) (.int .u64 afZ) fun fK
 =>st fK (Addr.add (ab w) 4) (.int .u64 vj) fun sM=>st sM (Addr.add (ab w) 5) (.int .i64 (av qh)) fun k4=>az k4 (ab w) fun af0=>az k4 (Addr.add (ab w) 1) fun xw=>br (fun Cz:Bool→World→Prop=>au (!((af0==0)==(xw
 ==0))) (Cz true k4) (az k4 (Addr.add (ab w) 1) fun vn=>Cz (decide (vn>12)) k4)) (fun (Lb:Bool) p1=>br (fun CA:Bool→World→Prop=>au Lb (CA true p1) (az p1 (ab w) fun Lc=>CA (decide (Lc≥(av zB))) p1))
 (fun (zI:Bool) rK=>br (fun TB:Bool→World→Prop=>au zI (TB true rK) (az rK (Addr.add (ab w) 2) fun Gi=>TB (decide (Gi≥(av zB))) rK)) (fun (Ld:Bool) CB=>br (fun TC:Bool→World→Prop=>au Ld (TC true
 CB) (az CB (Addr.add (ab w) 2) fun qo=>TC (decide (qo<2)) CB)) (fun (af1:Bool) l1=>au (af1||(decide (((av zB):Int)>1600))) (bW l1 (ab w) [.int .i64 0, .int .i64 0, .int .i64 0, .int .u64 0, .int .u64 0, .int .i64
 0]∧(6:Nat)=6∧ay (setCells l1 (ab w) 0 [.int .i64 0, .int .i64 0, .int .i64 0, .int .u64 0, .int .u64 0, .int .i64 0]) fun jj=>Hx jj w Q) (ay (l1.drew) fun oc=>∃Le:Nat→Prop,¬Le ((ab w):Addr).block∧az oc (ab w)
 fun F8=>az oc (Addr.add (ab w) 1) fun zu=>az oc (Addr.add (ab w) 2) fun zv=>bJ oc (Addr.add (ab w) 3) fun F9=>bJ oc (Addr.add (ab w) 4) fun zw=>az oc (Addr.add (ab w) 5) fun zx=>¬Le (Addr.add (ab aw) 1).block∧
 bJ oc (Addr.add (ab aw) 1) fun vm=>bW oc (ab w) [.int .i64 F8, .int .i64 zu, .int .i64 zv, .int .u64 F9, .int .u64 zw, .int .i64 zx]∧(6:Nat)=6∧ay (setCells oc (ab w) 0 [.int .i64 F8, .int .i64 zu, .int .i64
 zv, .int .u64 F9, .int .u64 zw, .int .i64 zx]) fun ig=>aq Le oc ig∧az ig (ab w) fun Gj=>az ig (Addr.add (ab w) 1) fun r6=>az ig (Addr.add (ab w) 2) fun K3=>bJ ig (Addr.add (ab w) 3) fun Lf=>bJ ig
 (Addr.add (ab w) 4) fun af2=>az ig (Addr.add (ab w) 5) fun af3=>Q (.tuple #[.agg #[.int .i64 Gj, .int .i64 r6, .int .i64 K3, .int .u64 Lf, .int .u64 af2, .int .i64 af3], .int .i64 (av zB), .int .u64 vm, .int .i64 0])
 ig))))))))
def A.q3:bn:=(.s .r (.s .r (.s bp (.s fo (.s .r (.s .r (.s .r (.s .r (.s a3 (.s (.dO 6 true ⟨[0,0,0,4,1,19,63,127],[0,0,0,4,1,2,8,0]⟩ [9903520314283042199192993792,19807040628566084398385987584,
 39614081257132168796771975168,79228162514264337593543950336,0,32,64,128] [16,32,256,39614081257132168796771975168,9903520314283042199192993808,19807040628566084398385987584,79228162514264337593543950336,0] (.take 0 (.take 1
 (.take 2 (.take 3 (.cL 4 (.take 5 (.tail [.run, .run])))))))) .l))))))))))
theorem W.XP (no:Int) (b:ah) (w:World) (Q:Value→World→Prop) (h:W.q3 no b w Q):aM Tryz.prog F.q3 #[.int .i64 no, .slice b.a b.len b.cap] w Q:=okF A.q3 Tryz.func145 (by kernel_rfl) (by kernel_rfl) h
def W.px (leaf:Bool) (b:ah) (w:World) (Q:Value→World→Prop):Prop:=ay (w.alloc z5) fun af=>ay (af.alloc (.cells #[.slice b.a b.len b.cap, .bool true] ad.Nt)) fun aw=>ay (aw.alloc z5) fun bd=>bW bd
 (ab aw) [.bool leaf, .slice none 0 0, .slice none 0 0, .slice none 0 0]∧(4:Nat)=4∧ay (setCells bd (ab aw) 0 [.bool leaf, .slice none 0 0, .slice none 0 0, .slice none 0 0]) fun bf=>bS F.pt #[.pointer (some (ab
 af)), .int .i64 1] bf fun n7 aO=>br (fun ob:World→Prop=>au (!leaf) (Hd aO aw af ob) (ob aO)) (fun di=>∃ (Lg:Int→World→Prop) (TD:Int→World→Nat),Lg 0 di∧∀ (n22:Int) (hK:World),Lg n22 hK→au (decide (n22
 <n7)) (br (fun Cy:World→Prop=>ay (hK.drew) fun cO=>∃mc:Nat→Prop,¬mc (Addr.add (ab aw) 1).block∧aG cO (Addr.add (ab aw) 1) fun cv=>cp F.pv #[.pointer (some (ab af))] cO fun fP cw=>aq mc cO cw
 ∧ay (cw.alloc (.cells #[.slice fP.a fP.len fP.cap] ad.bE)) fun df=>aq mc cw df∧∃b4:ah,∃cV:World,Sem.run Tryz.prog (Builtin.append_ #[ad.e6,ad.e6] ad.e6 #[.slice cv.a cv.len
 cv.cap, .slice (some (ab cw)) 1 1]) df= .ok (.slice b4.a b4.len b4.cap) cV∧st cV (Addr.add (ab aw) 1) (.slice b4.a b4.len b4.cap) fun ck=>au leaf (ay (ck.drew) fun oQ=>∃Lh:Nat→Prop,¬Lh (Addr.add (ab aw)
 2).block∧aG oQ (Addr.add (ab aw) 2) fun dN=>cp F.pv #[.pointer (some (ab af))] oQ fun kr eS=>aq Lh oQ eS∧ay (eS.alloc (.cells #[.slice kr.a kr.len kr.cap] ad.bE)) fun jZ=>aq Lh eS jZ∧∃r7:
 ah,∃fD:World,Sem.run Tryz.prog (Builtin.append_ #[ad.e6,ad.e6] ad.e6 #[.slice dN.a dN.len dN.cap, .slice (some (ab eS)) 1 1]) jZ= .ok (.slice r7.a r7.len r7.cap) fD∧st fD (Addr.add (ab aw) 2)
 (.slice r7.a r7.len r7.cap) fun gr=>Cy gr) (Hd ck aw af Cy)) (fun eD=>Lg (av (n22+1)) eD∧TD (av (n22+1)) eD<TD n22 hK)) (ef hK (ab aw) fun Li=>aG hK (Addr.add (ab aw) 1) fun Lj=>aG hK (Addr.add (ab aw)
 2) fun qj=>aG hK (Addr.add (ab aw) 3) fun tD=>gg F.qP #[.agg #[.bool Li, .slice Lj.a Lj.len Lj.cap, .slice qj.a qj.len qj.cap, .slice tD.a tD.len tD.cap]] hK fun Lk vj td=>∃a64:Addr,(some (ab af):Option
 Addr)=some a64∧ef td (a64.add 1) fun Ll=>br (fun CC:Bool→World→Prop=>au ((!Ll)||(vj !=0)) (CC true td) (cx F.qE #[.slice Lk.a Lk.len Lk.cap, .slice b.a b.len b.cap] td fun af4 fK=>CC (!af4) fK))
 (fun (Lm:Bool) gT=>au Lm (bW gT (ab w) [.bool false, .slice none 0 0, .slice none 0 0, .slice none 0 0]∧(4:Nat)=4∧ay (setCells gT (ab w) 0 [.bool false, .slice none 0 0, .slice none 0 0, .slice none 0 0]) fun lU=>ef
 lU (ab w) fun af5=>aG lU (Addr.add (ab w) 1) fun Cj=>aG lU (Addr.add (ab w) 2) fun Ln=>aG lU (Addr.add (ab w) 3) fun Lo=>Q (.tuple #[.agg #[.bool af5, .slice Cj.a Cj.len Cj.cap, .slice Ln.a Ln.len Ln.cap, .slice Lo.a
 Lo.len Lo.cap], .int .i64 4]) lU) (ef gT (ab aw) fun TE=>aG gT (Addr.add (ab aw) 1) fun tg=>aG gT (Addr.add (ab aw) 2) fun lW=>aG gT (Addr.add (ab aw) 3) fun od=>bW gT (ab w) [.bool TE, .slice tg.a tg.len
 tg.cap, .slice lW.a lW.len lW.cap, .slice od.a od.len od.cap]∧(4:Nat)=4∧ay (setCells gT (ab w) 0 [.bool TE, .slice tg.a tg.len tg.cap, .slice lW.a lW.len lW.cap, .slice od.a od.len od.cap]) fun CD=>ef CD (ab w)
 fun Ld=>aG CD (Addr.add (ab w) 1) fun ko=>aG CD (Addr.add (ab w) 2) fun jo=>aG CD (Addr.add (ab w) 3) fun xF=>Q (.tuple #[.agg #[.bool Ld, .slice ko.a ko.len ko.cap, .slice jo.a jo.len jo.cap, .slice xF.a xF.len
 xF.cap], .int .i64 0]) CD))))
def A.px:bn:=(.s .r (.s .r (.s .r (.s (.hM [] [0,1,4,6,7,8] (.s .r (.c (.dO 5 true ⟨[0,1,0,4,8,26,63,127],[0,1,0,4,8,18,0,96]⟩ [1048576,2097152,4194304,8388608,16777216,33554432,67108864,0] [128,
 1048576,64,4194304,8388608,18874368,128,100663296] (.take 0 (.take 1 (.take 2 (.cL 3 (.cL 4 (.tail [.run, .run, .run]))))))) .l))) (.s (.s .r (.bT (.loop [(28,(.int .i64))] [0,1,4,6,7,27] (.s .r (.s (.c .l .l) (.s (.hM [] [0,
 1,4,6,7,27,28] (.bT (.s (.dO 5 true ⟨[0,1,0,4,8,26,63,127],[0,1,0,4,8,18,0,96]⟩ [1073741824,2147483648,4294967296,8589934592,17179869184,34359738368,68719476736,0] [128,1073741824,64,4294967296,8589934592,
 19327352832,128,103079215104] (.take 0 (.take 1 (.take 2 (.cL 3 (.cL 4 (.tail [.run, .run, .run]))))))) (.s .r (.c (.dO 5 true ⟨[0,1,0,4,8,26,63,127],[0,1,0,4,8,18,0,96]⟩ [274877906944,549755813888,1099511627776,
 2199023255552,4398046511104,8796093022208,17592186044416,0] [128,274877906944,64,1099511627776,2199023255552,4947802324992,128,26388279066624] (.take 0 (.take 1 (.take 2 (.cL 3 (.cL 4 (.tail [.run, .run, .run]))))))) (.dO 5
 true ⟨[0,1,0,4,8,26,63,127],[0,1,0,4,8,18,0,96]⟩ [35184372088832,70368744177664,140737488355328,281474976710656,562949953421312,1125899906842624,2251799813685248,0] [128,35184372088832,64,140737488355328,
 281474976710656,633318697598976,128,3377699720527872] (.take 0 (.take 1 (.take 2 (.cL 3 (.cL 4 (.tail [.run, .run, .run])))))))))))) .r)))))) (.s .r (.s (.s (.du [.run, .run, .run, .run, .run, .run, .pure 2, .run, .run, .run, .split
 4]) (.c (.s .r .l) .l)) (.s .r .l))))))))
theorem W.WU (leaf:Bool) (b:ah) (w:World) (Q:Value→World→Prop) (h:W.px leaf b w Q):aM Tryz.prog F.px #[.bool leaf, .slice b.a b.len b.cap] w Q:=okF A.px Tryz.func154 (by kernel_rfl) (by kernel_rfl) h
def W.lA (b:ah) (cC:Int) (Gk:Int) (w:World) (Q:Value→World→Prop):Prop:=x7 F.lv #[.slice b.a b.len b.cap, .int .i64 cC, .int .i64 (av (Gk-cC))] w fun aX e3 af=>Q (.int .u64 aX) af
def A.lA:bn:=jr
theorem W.V_ (b:ah) (cC:Int) (Gk:Int) (w:World) (Q:Value→World→Prop) (h:W.lA b cC Gk w Q):aM Tryz.prog F.lA #[.slice b.a b.len b.cap, .int .i64 cC, .int .i64 Gk] w Q:=okF A.lA Tryz.func155 (by kernel_rfl) (by kernel_rfl) h
def W.qB (b:ah) (w:World) (Q:Value→World→Prop):Prop:=Dp w b Q
def A.qB:bn:=(.s .r (.s (.s .r (.bT (.loop [(7,(.int .i64))] [5,6] (.s .r (.s (.c .l .l) (.s (.bT (.s .r bp)) .r)))))) (.s .r .l)))
theorem W.Wa (b:ah) (w:World) (Q:Value→World→Prop) (h:W.qB b w Q):aM Tryz.prog F.qB #[.slice b.a b.len b.cap] w Q:=okF A.qB Tryz.func156 (by kernel_rfl) (by kernel_rfl) h
def W.qx (b:ah) (cC:Int) (size:Int) (w:World) (Q:Value→World→Prop):Prop:=vD F.oh #[.slice b.a b.len b.cap, .int .i64 cC, .int .i64 size] w fun cX e3 af=>cp F.l4 #[.slice cX.a cX.len
 cX.cap] af fun fq aO=>Q (.tuple #[.slice fq.a fq.len fq.cap, .bool e3]) aO
def A.qx:bn:=jr
theorem W.VQ (b:ah) (cC:Int) (size:Int) (w:World) (Q:Value→World→Prop) (h:W.qx b cC size w Q):aM Tryz.prog F.qx #[.slice b.a b.len b.cap, .int .i64 cC, .int .i64 size] w Q:=okF A.qx Tryz.func157 (by kernel_rfl) (by kernel_rfl) h
def W.uq (s:Option Addr) (no:Int) (w:World) (Q:Value→World→Prop):Prop:=br (fun dv:Bool→World→Prop=>au ((!(Option.isNone s))&&(decide (no≥0))) (∃bM:Addr,s=some bM∧az w bM fun aX=>dv (decide
 (no<aX)) w) (dv false w)) (fun (e3:Bool) aO=>Q (.bool e3) aO)
def A.uq:bn:=(.s .r (.s (.du [.run, .run, .run, .pure 2, .run, .run, .run, .split 6]) .l))
theorem W.YO (s:Option Addr) (no:Int) (w:World) (Q:Value→World→Prop) (h:W.uq s no w Q):aM Tryz.prog F.uq #[.pointer s, .int .i64 no] w Q:=okF A.uq Tryz.func160 (by kernel_rfl) (by kernel_rfl) h
def W.sQ (s:ah) (no:Int) (w:World) (Q:Value→World→Prop):Prop:=(8:Int)≠0∧∃bp:Addr,s.a=some bp∧aQ (av (Int.tdiv no 8)) s.len∧b1 w (bp.add (Int.toNat (av (Int.tdiv no 8))*1)) fun cY=>(8:Int)≠0
 ∧(0:Int)≤(Int.tmod no 8)∧Q (.bool (((nu .u8 (Int.fdiv cY (2^(min (Int.toNat (Int.tmod no 8)) 8))) 1):Int)==1)) w
def A.sQ:bn:=(.s .r (.s .r .l))
theorem W.YI (s:ah) (no:Int) (w:World) (Q:Value→World→Prop) (h:W.sQ s no w Q):aM Tryz.prog F.sQ #[.slice s.a s.len s.cap, .int .i64 no] w Q:=okF A.sQ Tryz.func161 (by kernel_rfl) (by kernel_rfl) h
def W.xt (size:Int) (w:World) (Q:Value→World→Prop):Prop:=Q (.bool ((decide (size≥1))&&(decide (size≤8)))) w
def A.xt:bn:=a5
theorem W.MQ (size:Int) (w:World) (Q:Value→World→Prop) (h:W.xt size w Q):aM Tryz.prog F.xt #[.int .i64 size] w Q:=okF A.xt Tryz.func165 (by kernel_rfl) (by kernel_rfl) h
def W.tR (parts:ah) (w:World) (Q:Value→World→Prop):Prop:=∃ (dn:Int→Int→World→Prop) (eK:Int→Int→World→Nat),dn 4294967295 0 w∧∀ (aX:Int) (bl:Int) (aO:World),dn aX bl aO→au (decide (bl<
 (parts.len:Int))) (∃fo:Addr,parts.a=some fo∧aQ bl parts.len∧aG aO (fo.add (Int.toNat bl*1)) fun fq=>gM F.qz #[.int .u32 aX, .slice fq.a fq.len fq.cap] aO fun n10 bR=>dn n10 (av (bl+1)) bR∧eK n10 (av (bl+1)) bR<
 eK aX bl aO) (Q (.int .u32 (vG .u32 4294967295 aX)) aO)
def A.tR:bn:=(.s .r (.s .r (.s (.s .r (.bT (.loop [(3,(.int .u32)),(8,(.int .i64))] [6,7] bM))) (.s .r .l))))
theorem W.VX (parts:ah) (w:World) (Q:Value→World→Prop) (h:W.tR parts w Q):aM Tryz.prog F.tR #[.slice parts.a parts.len parts.cap] w Q:=okF A.tR Tryz.func166 (by kernel_rfl) (by kernel_rfl) h
def W.qI (e0:Bool) (cE:ah) (cF:ah) (cG:ah) (w:World) (Q:Value→World→Prop):Prop:=ay (w.alloc (.cells #[.bool e0, .slice cE.a cE.len cE.cap, .slice cF.a cF.len cF.cap,
 .slice cG.a cG.len cG.cap] ad.ia)) fun af=>aG af (Addr.add (ab w) 1) fun s2=>∃ (xD:Int→World→Prop) (Cw:Int→World→Nat),xD 0 af∧∀ (n5:Int) (bC:World),xD n5 bC→au (decide (n5<(s2.len:Int))) (∃jr:
 Addr,s2.a=some jr∧aQ n5 s2.len∧aG bC (jr.add (Int.toNat n5*1)) fun fB=>cx F.qH #[.slice fB.a fB.len fB.cap] bC fun ql bK=>br (fun TF:Bool→World→Prop=>au (!ql) (TF true bK) (br (fun vp:Bool→World→Prop
 =>au (decide (n5>0)) (aG bK (Addr.add (ab w) 1) fun c3=>∃mE:Addr,c3.a=some mE∧aQ (av (n5-1)) c3.len∧aG bK (mE.add (Int.toNat (av (n5-1))*1)) fun cK=>bS F.qD #[.slice cK.a cK.len cK.cap, .slice
 fB.a fB.len fB.cap] bK fun n19 eH=>vp (decide (n19≥0)) eH) (vp false bK)) (fun (tC:Bool) dR=>TF tC dR))) (fun (af6:Bool) hK=>au af6 (Q (.bool false) hK) (xD (av (n5+1)) hK∧Cw (av (n5+1)) hK<Cw n5 bC))) (ef
 bC (ab w) fun Cl=>au Cl (aG bC (Addr.add (ab w) 2) fun ij=>aG bC (Addr.add (ab w) 1) fun gU=>br (fun TG:Bool→World→Prop=>au ((ij.len:Int)==(gU.len:Int)) (aG bC (Addr.add (ab w) 3) fun gk=>TG ((gk.len:Int)==0)
 bC) (TG false bC)) (fun (af7:Bool) kM=>br (fun TH:Bool→World→Prop=>au af7 (aG kM (Addr.add (ab w) 2) fun b4=>cx F.tV #[.slice b4.a b4.len b4.cap, .func (.func F.pn) #[]
 #[]] kM fun Cs cV=>TH (!Cs) cV) (TH false kM)) (fun (af8:Bool) jQ=>Q (.bool af8) jQ))) (aG bC (Addr.add (ab w) 1) fun jU=>br (fun CE:Bool→World→Prop=>au (decide ((jU.len:Int)>0)) (aG bC (Addr.add (ab w) 3) fun
 kr=>aG bC (Addr.add (ab w) 1) fun jI=>CE ((kr.len:Int)==(av ((jI.len:Int)+1))) bC) (CE false bC)) (fun (af9:Bool) fD=>br (fun TI:Bool→World→Prop=>au af9 (aG fD (Addr.add (ab w) 2) fun af_=>TI ((af_.len:Int)
 ==0) fD) (TI false fD)) (fun (Lp:Bool) gA=>br (fun CF:Bool→World→Prop=>au Lp (aG gA (Addr.add (ab w) 3) fun CG=>cx F.tX #[.slice CG.a CG.len CG.cap, .func (.func F.po) #[]
 #[]] gA fun Lq mv=>CF (!Lq) mv) (CF false gA)) (fun (Cv:Bool) iT=>Q (.bool Cv) iT)))))
def A.qI:bn:=(.s .r (.s (.s .r (.bT (.loop [(10,(.int .i64))] [1,8,9] (.s .r (.s (.c .l .l) (.s (.bT (.s .r (.s (.du [.run, .run, .run, .run, .split 13, .run, .run, .split 9]) (.c (.s .r .l) .l)))) .r)))))) (.s (.s .r (.c
 (.s .r (.s (.du [.run, .run, .run, .run, .run, .run, .run, .run, .split 4, .run, .run, .run, .run, .run, .split 5]) .l)) .l)) (.s .r (.s (.du [.run, .run, .run, .run, .run, .split 8, .run, .run, .run, .run, .run, .run, .run, .run, .run,
 .split 4, .run, .run, .run, .run, .run, .split 5]) .l)))))
theorem W.WE (e0:Bool) (cE:ah) (cF:ah) (cG:ah) (w:World) (Q:Value→World→Prop) (h:W.qI e0 cE cF cG w Q):aM Tryz.prog F.qI #[.agg #[.bool e0, .slice cE.a cE.len cE.cap, .slice cF.a cF.len cF.cap, .slice cG.a cG.len cG.cap]] w Q:=okF A.qI Tryz.func174 (by kernel_rfl) (by kernel_rfl) h
end
section
set_option maxRecDepth 100000
def W.qH (ku:ah) (w:World) (Q:Value→World→Prop):Prop:=Q (.bool ((decide ((ku.len:Int)≥1))&&(decide ((ku.len:Int)≤24)))) w
def A.qH:bn:=(.s .r (.s (.du [.run, .run, .run, .run, .pure 3]) .l))
theorem W.WD (ku:ah) (w:World) (Q:Value→World→Prop) (h:W.qH ku w Q):aM Tryz.prog F.qH #[.slice ku.a ku.len ku.cap] w Q:=okF A.qH Tryz.func180 (by kernel_rfl) (by kernel_rfl) h
def W.mg (f:Option Addr) (size:Int) (w:World) (Q:Value→World→Prop):Prop:=ay (w.drew) fun af=>∃Lr:Nat→Prop,∃a3:Addr,f=some a3∧¬Lr a3.block∧aG af a3 fun cy=>∃a5:Addr,f=some a5∧¬Lr
 (a5.add 1).block∧az af (a5.add 1) fun n6=>x7 F.lv #[.slice cy.a cy.len cy.cap, .int .i64 n6, .int .i64 size] af fun n9 Gd bk=>∃lh:Addr,f=some lh∧az bk (lh.add 1) fun n12=>∃kq:Addr,f=some kq∧st bk (kq.add
 1) (.int .i64 (av (n12+size))) fun b9=>Q (.int .u64 n9) b9
def A.mg:bn:=(.s .r (.s (.dO 14 true ⟨[0,1,2,4,0,16,32,64,0,392,512,1024,1024,4095,16383],[0,1,2,4,0,16,32,64,0,392,512,1024,1024,2048,4096]⟩ [256,512,1024,2048,4096,8192,16384,32768,
 65536,131072,128,262144,524288,32,64] [1,256,512,1024,1,4096,8192,16384,2,100352,131072,128,128,262144,524288] (.take 0 (.take 1 (.take 2 (.take 3 (.take 4 (.take 5 (.take 6 (.take 7 (.take 8 (.out 9 false (.take 10
 (.take 11 (.take 12 (.take 13 (.tail [.run])))))))))))))))) (.s .r (.s .r .l))))
theorem W.XO (f:Option Addr) (size:Int) (w:World) (Q:Value→World→Prop) (h:W.mg f size w Q):aM Tryz.prog F.mg #[.pointer f, .int .i64 size] w Q:=okF A.mg Tryz.func187 (by kernel_rfl) (by kernel_rfl) h
def W.pt (r:Option Addr) (size:Int) (w:World) (Q:Value→World→Prop):Prop:=cp F.sw #[.pointer r, .int .i64 size] w fun cX af=>x7 F.lv #[.slice cX.a cX.len cX.cap, .int .i64 0, .int .i64
 size] af fun n6 ih bf=>Q (.int .i64 (av n6)) bf
def A.pt:bn:=jr
theorem W.WQ (r:Option Addr) (size:Int) (w:World) (Q:Value→World→Prop) (h:W.pt r size w Q):aM Tryz.prog F.pt #[.pointer r, .int .i64 size] w Q:=okF A.pt Tryz.func191 (by kernel_rfl) (by kernel_rfl) h
def W.pv (r:Option Addr) (w:World) (Q:Value→World→Prop):Prop:=bS F.pt #[.pointer r, .int .i64 1] w fun aX af=>cp F.sw #[.pointer r, .int .i64 aX] af fun bZ bf=>Q (.slice bZ.a
 bZ.len bZ.cap) bf
def A.pv:bn:=(.s .r (.s .r .l))
theorem W.WR (r:Option Addr) (w:World) (Q:Value→World→Prop) (h:W.pv r w Q):aM Tryz.prog F.pv #[.pointer r] w Q:=okF A.pv Tryz.func192 (by kernel_rfl) (by kernel_rfl) h
def W.qP (e0:Bool) (cE:ah) (cF:ah) (cG:ah) (w:World) (Q:Value→World→Prop):Prop:=ay (w.alloc (.cells #[.bool e0, .slice cE.a cE.len cE.cap, .slice cF.a cF.len cF.cap,
 .slice cG.a cG.len cG.cap] ad.ia)) fun af=>ef af (ab w) fun h8=>aG af (Addr.add (ab w) 1) fun cX=>aG af (Addr.add (ab w) 2) fun cy=>aG af (Addr.add (ab w) 3) fun b7=>cx F.qI #[.agg #[.bool h8, .slice cX.a
 cX.len cX.cap, .slice cy.a cy.len cy.cap, .slice b7.a b7.len b7.cap]] af fun qm bC=>br (fun l2:Bool→World→Prop=>au (!qm) (l2 true bC) (aG bC (Addr.add (ab w) 1) fun eA=>l2 (decide ((eA.len:Int)>255)) bC)) (fun (ql:Bool)
 bw=>au ql (Q (.tuple #[.slice none 0 0, .int .i64 4]) bw) (ef bw (ab w) fun xC=>aG bw (Addr.add (ab w) 1) fun c3=>aG bw (Addr.add (ab w) 2) fun fw=>aG bw (Addr.add (ab w) 3) fun cK=>cp F.qO #[.agg #[.bool xC,
 .slice c3.a c3.len c3.cap, .slice fw.a fw.len fw.cap, .slice cK.a cK.len cK.cap]] bw fun mF eH=>au (decide ((mF.len:Int)>232)) (Q (.tuple #[.slice none 0 0, .int .i64 10]) eH) (Q (.tuple #[.slice mF.a mF.len mF.cap,
 .int .i64 0]) eH)))
def A.qP:bn:=(.s .r (.s fo iM))
theorem W.WM (e0:Bool) (cE:ah) (cF:ah) (cG:ah) (w:World) (Q:Value→World→Prop) (h:W.qP e0 cE cF cG w Q):aM Tryz.prog F.qP #[.agg #[.bool e0, .slice cE.a cE.len cE.cap, .slice cF.a cF.len cF.cap, .slice cG.a cG.len cG.cap]] w Q:=okF A.qP Tryz.func193 (by kernel_rfl) (by kernel_rfl) h
def W.lv (b:ah) (cC:Int) (size:Int) (w:World) (Q:Value→World→Prop):Prop:=vD F.oh #[.slice b.a b.len b.cap, .int .i64 cC, .int .i64 size] w fun cX e3 af=>br (fun lJ:Bool→World→Prop=>au (!e3) (lJ
 true af) (cx F.xt #[.int .i64 size] af fun qm bC=>lJ (!qm) bC)) (fun (ll:Bool) bL=>au ll (Q (.tuple #[.int .u64 0, .bool false]) bL) (∃ (xG:Int→Int→World→Prop) (CH:Int→Int→World→Nat),xG 0 0 bL∧∀ (n13:
 Int) (n14:Int) (c7:World),xG n13 n14 c7→au (decide (n14<(cX.len:Int))) (∃zF:Addr,cX.a=some zF∧aQ n14 cX.len∧b1 c7 (zF.add (Int.toNat n14*1)) fun n17=>(0:Int)≤8∧xG (x1 .u64 (IntKind.wrap .u64 (n13*2^
 (min (Int.toNat 8) 64))) (IntKind.wrap .u64 n17)) (av (n14+1)) c7∧CH (x1 .u64 (IntKind.wrap .u64 (n13*2^(min (Int.toNat 8) 64))) (IntKind.wrap .u64 n17)) (av (n14+1)) c7<CH n13 n14 c7) (Q (.tuple #[.int .u64 n13, .bool
 true]) c7)))
def A.lv:bn:=(.s .r (.s .r (.s (.s (.du [.run, .run, .run, .split 3]) (.c (.s .r .l) .l)) (.s .r (.s (.s .r (.bT (.loop [(10,(.int .u64)),(29,(.int .i64))] [27,28] bM))) (.s .r .l))))))
theorem W.MP (b:ah) (cC:Int) (size:Int) (w:World) (Q:Value→World→Prop) (h:W.lv b cC size w Q):aM Tryz.prog F.lv #[.slice b.a b.len b.cap, .int .i64 cC, .int .i64 size] w Q:=okF A.lv Tryz.func195 (by kernel_rfl) (by kernel_rfl) h
def W.oh (b:ah) (cC:Int) (size:Int) (w:World) (Q:Value→World→Prop):Prop:=au ((((decide (cC<0))||(decide (size<0)))||(decide (cC>(b.len:Int))))||(decide (size>(av ((b.len:Int)-cC))))) (Q (.tuple
 #[.slice none 0 0, .bool false]) w) (((0:Int)≤(av (cC+size))∧(av (cC+size))≤((b.cap:Nat):Int))∧((0:Int)≤cC∧cC≤(((Int.toNat (av (cC+size))):Nat):Int))∧Q (.tuple #[.slice (cN b.a 1 (Int.toNat
 cC) b.cap) ((Int.toNat (av (cC+size)))-(Int.toNat cC)) (b.cap-(Int.toNat cC)), .bool true]) w)
def A.oh:bn:=(.s .r (.s (.s (.du [.run, .run, .run, .pure 2, .run, .run, .run, .pure 4, .run, .run, .run, .run, .run, .pure 6]) (.c (.s .r .l) .l)) (.s .r .l)))
theorem W.GI (b:ah) (cC:Int) (size:Int) (w:World) (Q:Value→World→Prop) (h:W.oh b cC size w Q):aM Tryz.prog F.oh #[.slice b.a b.len b.cap, .int .i64 cC, .int .i64 size] w Q:=okF A.oh Tryz.func196 (by kernel_rfl) (by kernel_rfl) h
def W.qz (n:Int) (b:ah) (w:World) (Q:Value→World→Prop):Prop:=∃ (dn:Int→Int→World→Prop) (eK:Int→Int→World→Nat),dn n 0 w∧∀ (aX:Int) (bl:Int) (aO:World),dn aX bl aO→au (decide (bl<
 (b.len:Int))) (∃fo:Addr,b.a=some fo∧aQ bl b.len∧b1 aO (fo.add (Int.toNat bl*1)) fun n7=>∃ (Ls:Int→Int→World→Prop) (TJ:Int→Int→World→Nat),Ls (vG .u32 aX (IntKind.wrap .u32 n7)) 0 aO∧∀ (n10:Int) (n11:
 Int) (bw:World),Ls n10 n11 bw→au (decide (n11<8)) ((0:Int)≤1∧Ls (vG .u32 (Int.fdiv n10 (2^(min (Int.toNat 1) 32))) (nu .u32 2197175160 (IntKind.wrap .u32 (0-(nu .u32 n10 1))))) (av (n11+1)) bw∧TJ (vG .u32
 (Int.fdiv n10 (2^(min (Int.toNat 1) 32))) (nu .u32 2197175160 (IntKind.wrap .u32 (0-(nu .u32 n10 1))))) (av (n11+1)) bw<TJ n10 n11 bw) (dn n10 (av (bl+1)) bw∧eK n10 (av (bl+1)) bw<eK aX bl aO)) (Q (.int .u32 aX) aO)
def A.qz:bn:=(.s .r (.s (.s .r (.bT (.loop [(0,(.int .u32)),(9,(.int .i64))] [7,8] (.s .r (.s (.c .l .l) (.s (.bT (.s .r (.s .r (.s .r (.bT (.loop [(0,(.int .u32)),(17,(.int .i64))] [7,8,9] (.s .r (.s (.c .l .l) (.s
 (.bT .r) .r))))))))) .r)))))) (.s .r .l)))
theorem W.VU (n:Int) (b:ah) (w:World) (Q:Value→World→Prop) (h:W.qz n b w Q):aM Tryz.prog F.qz #[.int .u32 n, .slice b.a b.len b.cap] w Q:=okF A.qz Tryz.func209 (by kernel_rfl) (by kernel_rfl) h
def W.pn (v:ah) (w:World) (Q:Value→World→Prop):Prop:=Q (.bool (decide ((v.len:Int)>24))) w
def A.pn:bn:=(.s .r (.s .r .l))
theorem W.Wy (v:ah) (w:World) (Q:Value→World→Prop) (h:W.pn v w Q):aM Tryz.prog F.pn #[.slice v.a v.len v.cap] w Q:=okF A.pn Tryz.func212 (by kernel_rfl) (by kernel_rfl) h
def W.po (ku:Int) (w:World) (Q:Value→World→Prop):Prop:=Q (.bool ((decide (ku<0))||(decide (ku≥1600)))) w
def A.po:bn:=a5
theorem W.WC (ku:Int) (w:World) (Q:Value→World→Prop) (h:W.po ku w Q):aM Tryz.prog F.po #[.int .i64 ku] w Q:=okF A.po Tryz.func214 (by kernel_rfl) (by kernel_rfl) h
end
section
set_option maxRecDepth 100000
def W.sw (r:Option Addr) (n:Int) (w:World) (Q:Value→World→Prop):Prop:=∃bp:Addr,r=some bp∧ef w (bp.add 1) fun h8=>br (fun iS:Bool→World→Prop=>au (!h8) (iS true w) (∃a4:Addr,r=some a4∧aG
 w a4 fun b7=>iS (decide (n>(b7.len:Int))) w)) (fun (kb:Bool) bk=>au kb (∃fV:Addr,r=some fV∧st bk (fV.add 1) (.bool false) fun bK=>Q (.slice none 0 0) bK) (∃jS:Addr,r=some jS∧aG bk jS fun dG=>((0:Int)≤n∧
 n≤((dG.cap:Nat):Int))∧cp F.l4 #[.slice (cN dG.a 1 0 dG.cap) ((Int.toNat n)-0) (dG.cap-0)] bk fun c3 bw=>∃mE:Addr,r=some mE∧aG bw mE fun cK=>((0:Int)≤n∧n≤(cK.len:Int))∧∃
 lk:Addr,r=some lk∧(∃u:Value,bw.cell? lk=some u)∧bw.frozen? lk=false∧ay (bw.setCell lk (.slice (cN cK.a 1 (Int.toNat n) cK.cap) (cK.len-(Int.toNat n)) (cK.cap-(Int.toNat n)))) fun cj=>Q (.slice c3.a
 c3.len c3.cap) cj))
def A.sw:bn:=(.s .r (.s (.s (.du [.run, .run, .run, .run, .run, .run, .split 7]) fV) jr))
theorem W.WO (r:Option Addr) (n:Int) (w:World) (Q:Value→World→Prop) (h:W.sw r n w Q):aM Tryz.prog F.sw #[.pointer r, .int .i64 n] w Q:=okF A.sw Tryz.func229 (by kernel_rfl) (by kernel_rfl) h
def W.qO (e0:Bool) (cE:ah) (cF:ah) (cG:ah) (w:World) (Q:Value→World→Prop):Prop:=ay (w.alloc (.cells #[.bool e0, .slice cE.a cE.len cE.cap, .slice cF.a cF.len cF.cap,
 .slice cG.a cG.len cG.cap] ad.ia)) fun af=>aG af (Addr.add (ab w) 1) fun s2=>ay (af.alloc (.cells #[.int .u8 (IntKind.wrap .u8 (s2.len:Int))] ad.uint8)) fun bd=>br (fun ie:ah→World→Prop=>ef bd (ab w) fun ka
 =>au (!ka) (aG bd (Addr.add (ab w) 3) fun bZ=>∃jr:Addr,bZ.a=some jr∧aQ 0 bZ.len∧az bd (jr.add (Int.toNat 0*1)) fun n8=>cp F.fF #[.slice (some (ab af)) 1 1, .int .u64 (IntKind.wrap .u64 n8), .int .i64 2] bd fun dG bK
 =>ie dG bK) (ie ⟨(some (ab af)),1,1⟩ bd)) (fun (nW:ah) fS=>aG fS (Addr.add (ab w) 1) fun c3=>∃ (tz:ah→Int→World→Prop) (xy:ah→Int→World→Nat),tz nW 0 fS∧∀ (cP:ah) (n18:Int) (di:World),tz cP n18
 di→au (decide (n18<(c3.len:Int))) (ef di (ab w) fun tC=>aG di (Addr.add (ab w) 1) fun hY=>aG di (Addr.add (ab w) 2) fun mx=>aG di (Addr.add (ab w) 3) fun iJ=>cp F.qJ #[.agg #[.bool tC, .slice hY.a hY.len
 hY.cap, .slice mx.a mx.len mx.cap, .slice iJ.a iJ.len iJ.cap], .int .i64 n18] di fun gU eT=>DA cP gU eT tz n18 xy di) (Q (.slice cP.a cP.len cP.cap) di))
def A.qO:bn:=(.s .r (.s .r (.s (.hM [(3, .slice)] [1] (.s .r (.c .r .l))) (.s (.s .r (.bT (.loop [(3, .slice),(23,(.int .i64))] [1,22] bM))) (.s .r .l)))))
theorem W.WK (e0:Bool) (cE:ah) (cF:ah) (cG:ah) (w:World) (Q:Value→World→Prop) (h:W.qO e0 cE cF cG w Q):aM Tryz.prog F.qO #[.agg #[.bool e0, .slice cE.a cE.len cE.cap, .slice cF.a cF.len cF.cap, .slice cG.a cG.len cG.cap]] w Q:=okF A.qO Tryz.func230 (by kernel_rfl) (by kernel_rfl) h
end
section
set_option maxRecDepth 100000
def W.qJ (e0:Bool) (cE:ah) (cF:ah) (cG:ah) (i:Int) (w:World) (Q:Value→World→Prop):Prop:=ay (w.alloc (.cells #[.bool e0, .slice cE.a cE.len cE.cap, .slice cF.a cF.len
 cF.cap, .slice cG.a cG.len cG.cap] ad.ia)) fun af=>ay (af.drew) fun aw=>∃np:Nat→Prop,¬np (Addr.add (ab w) 1).block∧aG aw (Addr.add (ab w) 1) fun cy=>∃a5:Addr,cy.a=some a5∧aQ i cy.len∧¬np
 (a5.add (Int.toNat i*1)).block∧aG aw (a5.add (Int.toNat i*1)) fun bZ=>¬np (Addr.add (ab w) 1).block∧aG aw (Addr.add (ab w) 1) fun fq=>∃fV:Addr,fq.a=some fV∧aQ i fq.len∧¬np (fV.add (Int.toNat i*1)).block∧aG aw
 (fV.add (Int.toNat i*1)) fun dV=>ay (aw.alloc (.cells #[.int .u8 (IntKind.wrap .u8 (bZ.len:Int))] ad.uint8)) fun bL=>aq np aw bL∧ay (bL.alloc (.cells #[.slice (some (ab aw)) 1 1, .slice dV.a dV.len dV.cap] ad.bE)) fun cJ
 =>cp F.mK #[.slice (some (ab bL)) 2 2] cJ fun c3 bw=>ef bw (ab w) fun K5=>au K5 (ay (bw.drew) fun cd=>∃CI:Nat→Prop,¬CI (Addr.add (ab w) 2).block∧aG cd (Addr.add (ab w) 2) fun hJ=>∃o_:Addr,hJ.a=
 some o_∧aQ i hJ.len∧¬CI (o_.add (Int.toNat i*1)).block∧aG cd (o_.add (Int.toNat i*1)) fun gj=>¬CI (Addr.add (ab w) 2).block∧aG cd (Addr.add (ab w) 2) fun hY=>∃a22:Addr,hY.a=some a22∧aQ i hY.len∧¬CI
 (a22.add (Int.toNat i*1)).block∧aG cd (a22.add (Int.toNat i*1)) fun iJ=>ay (cd.alloc (.cells #[.int .u8 (IntKind.wrap .u8 (gj.len:Int))] ad.uint8)) fun eT=>aq CI cd eT∧ay (eT.alloc (.cells #[.slice c3.a c3.len
 c3.cap, .slice (some (ab cd)) 1 1, .slice iJ.a iJ.len iJ.cap] ad.bE)) fun cO=>cp F.mK #[.slice (some (ab eT)) 3 3] cO fun gk dm=>Q (.slice gk.a gk.len gk.cap) dm) (aG bw (Addr.add (ab w) 3) fun xz=>∃Cg:
 Addr,xz.a=some Cg∧aQ (av (i+1)) xz.len∧az bw (Cg.add (Int.toNat (av (i+1))*1)) fun n31=>cp F.fF #[.slice c3.a c3.len c3.cap, .int .u64 (IntKind.wrap .u64 n31), .int .i64 2] bw fun Lt fm=>Q (.slice Lt.a
 Lt.len Lt.cap) fm)
def A.qJ:bn:=(.s .r (.s (.dO 13 true ⟨[0,1,0,6,8,16,32,64,0,256,0,1536,2048,4224,8192,32767],[0,1,0,6,8,16,32,64,0,256,0,1536,2048,4224,8192,16384]⟩ [64,128,256,512,1024,2048,4096,8192,
 16384,32768,65536,131072,262144,524288,1048576,32] [4,64,2,384,512,1024,2048,4096,4,16384,2,98304,131072,270336,524288,1048576] (.take 0 (.take 1 (.take 2 (.take 3 (.take 4 (.take 5 (.take 6 (.take 8 (.take 9 (.take 10
 (.take 11 (.take 12 (.cL 7 (.tail [.run, .run, .run]))))))))))))))) (.s (.s .r (.c (.s (.dO 14 true ⟨[0,0,2,0,12,16,32,64,128,0,512,0,3072,4096,8449,16384,65535],[0,0,2,0,12,16,32,64,128,0,512,0,3072,4096,
 8449,16384,32768]⟩ [8388608,16777216,33554432,67108864,134217728,268435456,536870912,1073741824,2147483648,4294967296,8589934592,17179869184,34359738368,68719476736,137438953472,274877906944,16] [32,4,16777216,2,
 100663296,134217728,268435456,536870912,1073741824,4,4294967296,2,25769803776,34359738368,70875348992,137438953472,274877906944] (.take 0 (.take 1 (.take 2 (.take 3 (.take 4 (.take 5 (.take 6 (.take 7 (.take 9 (.take 10 (.take
 11 (.take 12 (.take 13 (.cL 8 (.tail [.run, .run, .run])))))))))))))))) .l) .l)) (.s .r .l))))
theorem W.WI (e0:Bool) (cE:ah) (cF:ah) (cG:ah) (i:Int) (w:World) (Q:Value→World→Prop) (h:W.qJ e0 cE cF cG i w Q):aM Tryz.prog F.qJ #[.agg #[.bool e0, .slice cE.a cE.len cE.cap, .slice cF.a cF.len cF.cap, .slice cG.a cG.len cG.cap], .int .i64 i] w Q:=okF A.qJ Tryz.func245 (by kernel_rfl) (by kernel_rfl) h
end
section
set_option maxRecDepth 100000
def W.rN (no:Int) (nf:Int) (ng:Int) (hO:ah) (w:World) (Q:Value→World→Prop):Prop:=ay (w.alloc (.cells #[.int .i64 nf, .int .u64 ng, .slice hO.a hO.len hO.cap] ad.jD)) fun af
 =>br (fun dB:Bool→World→Prop=>au ((decide (no<0))||(decide (no>1599))) (dB true af) (az af (ab w) fun aX=>dB (decide (aX<1)) af)) (fun (e3:Bool) aO=>br (fun vr:Bool→World→Prop=>au e3 (vr true aO) (az aO (ab w)
 fun n7=>vr (decide (n7>4)) aO)) (fun (qm:Bool) bK=>au qm (ay (bK.alloc (.cells #[] ad.uint8)) fun bL=>Q (.tuple #[.slice (some (ab bK)) 0 0, .int .i64 1]) bL) (aG bK (Addr.add (ab w) 2) fun dG=>au (decide ((dG.len:Int)>
 232)) (ay (bK.alloc (.cells #[] ad.uint8)) fun bw=>Q (.tuple #[.slice (some (ab bK)) 0 0, .int .i64 10]) bw) (az bK (ab w) fun n13=>ay (bK.alloc (.cells #[.int .u8 83, .int .u8 84, .int .u8 78, .int .u8 67, .int .u8 1, .int .u8
 (IntKind.wrap .u8 n13)] ad.uint8)) fun b9=>aG b9 (Addr.add (ab w) 2) fun fw=>cp F.jM #[.slice (some (ab bK)) 6 6, .int .u64 (IntKind.wrap .u64 (fw.len:Int)), .int .i64 2] b9 fun hJ cd=>ay (cd.drew) fun di=>∃TK:
 Nat→Prop,¬TK (Addr.add (ab w) 1).block∧bJ di (Addr.add (ab w) 1) fun n21=>cp F.jM #[.slice hJ.a hJ.len hJ.cap, .int .u64 (IntKind.wrap .u64 no), .int .i64 4] di fun lV c5=>aq TK di c5∧cp F.jM #[.slice
 lV.a lV.len lV.cap, .int .u64 n21, .int .i64 8] c5 fun cv cO=>cp F.jM #[.slice cv.a cv.len cv.cap, .int .u64 0, .int .i64 4] cO fun fP cw=>aG cw (Addr.add (ab w) 2) fun js=>∃b4:ah,∃cV:World,Sem.run
 Tryz.prog (Builtin.append_ #[ad.bE,ad.bE] ad.bE #[.slice fP.a fP.len fP.cap, .slice js.a js.len js.cap]) cw= .ok (.slice b4.a b4.len b4.cap) cV∧∃ (Lu:ah→World→Prop) (TL:ah→World→Nat),Lu b4
 cV∧∀ (eJ:ah) (jQ:World),Lu eJ jQ→au (decide ((eJ.len:Int)<256)) (ay (jQ.alloc (.cells #[.int .u8 0] ad.uint8)) fun eS=>∃iY:ah,∃kn:World,Sem.run Tryz.prog (Builtin.append_ #[ad.bE,ad.bE]
 ad.bE #[.slice eJ.a eJ.len eJ.cap, .slice (some (ab jQ)) 1 1]) eS= .ok (.slice iY.a iY.len iY.cap) kn∧Lu iY kn∧TL iY kn<TL eJ jQ) (gM F.oT #[.slice eJ.a eJ.len eJ.cap] jQ fun zy jZ=>cp
 F.oU #[.int .u64 (IntKind.wrap .u64 zy), .int .i64 4] jZ fun w7 gr=>∃ (Lv:Int→World→Prop) (TM:Int→World→Nat),Lv 0 gr∧∀ (jT:Int) (mv:World),Lv jT mv→au (decide (jT<4)) (∃Cp:Addr,w7.a=
 some Cp∧aQ jT w7.len∧b1 mv (Cp.add (Int.toNat jT*1)) fun vo=>∃a53:Addr,eJ.a=some a53∧aQ (av (20+jT)) eJ.len∧st mv (a53.add (Int.toNat (av (20+jT))*1)) (.int .u8 vo) fun iT=>Lv (av (jT+1)) iT∧
 TM (av (jT+1)) iT<TM jT mv) (Q (.tuple #[.slice eJ.a eJ.len eJ.cap, .int .i64 0]) mv))))))
def A.rN:bn:=(.s .r (.s (.s (.du [.run, .run, .run, .pure 2, .run, .run, .run, .split 3, .run, .run, .run, .run, .split 3]) (.c (.s .r .l) .l)) (.s bp (.s .r (.s (.dO 6 true ⟨[0,0,2,5,0,16,40,64,255],[0,0,2,5,0,
 16,40,64,129]⟩ [1099511627776,2199023255552,4398046511104,8796093022208,17592186044416,35184372088832,70368744177664,140737488355328,64] [64,1,2199023255552,5497558138880,8,17592186044416,43980465111040,70368744177664,
 140737488355328] (.take 0 (.take 1 (.take 2 (.take 4 (.take 5 (.cL 3 (.tail [.run, .run, .run])))))))) (.s .r (.s (.bT (.loop [(6, .slice)] [] (.s (.s .r (.c .l .l)) (.bT .r)))) (.s .r (.s (.s .r (.bT (.loop [(8,(.int .i64))] [6,7]
 a4))) (.s .r .l))))))))))
theorem W.adk (no:Int) (nf:Int) (ng:Int) (hO:ah) (w:World) (Q:Value→World→Prop) (h:W.rN no nf ng hO w Q):aM Tryz.prog F.rN #[.int .i64 no, .agg #[.int .i64 nf, .int .u64 ng, .slice hO.a hO.len hO.cap]] w Q:=okF A.rN Tryz.func13 (by kernel_rfl) (by kernel_rfl) h
def W.rP (l:ah) (w:World) (Q:Value→World→Prop):Prop:=ay (w.alloc iy) fun af=>∃cu:Array Value,Sem.run Tryz.prog (Instr.build ad.kL #[(2, .int .i64 (-1))]) af= .ok (.agg cu) af∧ay (af.alloc iy) fun bd=>
 ay (bd.alloc fe) fun bf=>bW bf (ab af) (Array.toList cu)∧Array.size cu=10∧ay (setCells bf (ab af) 0 (Array.toList cu)) fun aO=>bW aO (ab bd) [.int .i64 0, .int .i64 0, .int .i64 0, .int .u64 0, .int .u64 0, .int .i64 0]
 ∧(6:Nat)=6∧ay (setCells aO (ab bd) 0 [.int .i64 0, .int .i64 0, .int .i64 0, .int .u64 0, .int .u64 0, .int .i64 0]) fun bC=>∃ (xE:Int→World→Prop) (Cx:Int→World→Nat),xE 0 bC∧∀ (n9:Int) (bL:World),xE n9 bL→au
 (decide (n9<2)) (br (fun Gl:World→Prop=>∃iM:Addr,l.a=some iM∧aQ n9 l.len∧aG bL (iM.add (Int.toNat n9*1)) fun ir=>lD F.rJ #[.int .i64 n9, .slice ir.a ir.len ir.cap] bL fun n16 n17 n18 n19 n20 n21
 n22 n23 b9=>ay (b9.alloc fe) fun eT=>bW eT (ab b9) [.int .i64 n16, .int .i64 n17, .int .i64 n18, .int .u64 n19, .int .u64 n20, .int .i64 n21]∧(6:Nat)=6∧ay (setCells eT (ab b9) 0 [.int .i64 n16, .int .i64 n17, .int
 .i64 n18, .int .u64 n19, .int .u64 n20, .int .i64 n21]) fun cO=>∃a26:Addr,l.a=some a26∧aQ n9 l.len∧aG cO (a26.add (Int.toNat n9*1)) fun cv=>cx F.rL #[.slice cv.a cv.len cv.cap] cO fun aga cw=>au aga (Gl
 cw) (((0:Int)≤n9∧n9<((2:Nat):Int))∧st cw (Addr.add (ab af) (Int.toNat n9*1)) (.int .i64 1) fun df=>br (fun TN:Bool→World→Prop=>au (n23==0) (az df (ab b9) fun n33=>TN (decide (n33<(l.len:Int))) df)
 (TN false df)) (fun (Lw:Bool) oQ=>br (fun Ct:Bool→World→Prop=>au Lw (az oQ (Addr.add (ab b9) 2) fun n37=>Ct (decide (n37<(l.len:Int))) oQ) (Ct false oQ)) (fun (Ge:Bool) eY=>au Ge (((0:Int)≤n9∧n9<
 ((2:Nat):Int))∧st eY (Addr.add (ab af) (Int.toNat n9*1)) (.int .i64 2) fun kn=>((0:Int)≤n9∧n9<((2:Nat):Int))∧st kn (Addr.add (Addr.add (ab af) 2) (Int.toNat n9*1)) (.int .u64 n22) fun jZ=>az jZ (Addr.add (ab
 af) 4) fun mW=>br (fun TO:Bool→World→Prop=>au (decide (mW<0)) (TO true jZ) (((0:Int)≤0∧0<((2:Nat):Int))∧bJ jZ (Addr.add (Addr.add (ab af) 2) (Int.toNat 0*1)) fun qf=>TO (decide (n22>qf)) jZ)) (fun
 (CJ:Bool) nH=>au CJ (ay (nH.drew) fun gA=>∃TP:Nat→Prop,¬TP ((ab b9):Addr).block∧az gA (ab b9) fun jT=>az gA (Addr.add (ab b9) 1) fun ja=>az gA (Addr.add (ab b9) 2) fun tB=>bJ gA (Addr.add (ab b9) 3)
 fun vo=>bJ gA (Addr.add (ab b9) 4) fun zD=>az gA (Addr.add (ab b9) 5) fun zE=>st gA (Addr.add (ab af) 4) (.int .i64 n9) fun eD=>aq TP gA eD∧bW eD (ab bd) [.int .i64 jT, .int .i64 ja, .int .i64 tB, .int .u64
 vo, .int .u64 zD, .int .i64 zE]∧(6:Nat)=6∧ay (setCells eD (ab bd) 0 [.int .i64 jT, .int .i64 ja, .int .i64 tB, .int .u64 vo, .int .u64 zD, .int .i64 zE]) fun g9=>Gl g9) (Gl nH))) (Gl eY))))) (fun fk=>xE (av (n9
 +1)) fk∧Cx (av (n9+1)) fk<Cx n9 bL)) (az bL (Addr.add (ab af) 4) fun Ch=>au (decide (Ch<0)) (y0 bL af w Q) (ay (bL.alloc (.cells #[] ad.int)) fun gi=>ay (gi.alloc (.cells #[] ad.int)) fun g7=>∃m64:Option Nat,∃
 lf:World,Sem.run Tryz.prog (Instr.makeMap ad.iE none) g7= .ok (.map m64) lf∧∃Lx:Option Nat,∃fK:World,Sem.run Tryz.prog (Instr.makeMap ad.iE none) lf= .ok (.map Lx) fK∧br (fun zJ:ah→ah→
 World→Prop=>az fK (Addr.add (ab bd) 1) fun vk=>au (decide (vk>0)) (ay (fK.drew) fun gX=>∃zK:Nat→Prop,¬zK ((ab bd):Addr).block∧az gX (ab bd) fun zA=>¬zK (Addr.add (ab bd) 1).block∧az gX (Addr.add (ab bd)
 1) fun vn=>(ay (gX.alloc (.cells #[.int .i64 zA] ad.int)) fun Gm=>aq zK gX Gm∧ay (Gm.alloc (.cells #[.int .i64 vn] ad.int)) fun p1=>aq zK Gm p1∧zJ ⟨(some (ab gX)),1,1⟩ ⟨(some (ab Gm)),1,1⟩ p1)∧(ay
 (gX.alloc (.cells #[.int .i64 vn] ad.int)) fun Gn=>aq zK gX Gn∧ay (Gn.alloc (.cells #[.int .i64 zA] ad.int)) fun mG=>aq zK Gn mG∧zJ ⟨(some (ab Gn)),1,1⟩ ⟨(some (ab gX)),1,1⟩ mG)) (zJ ⟨(some (ab bL)),0,0⟩
 ⟨(some (ab gi)),0,0⟩ fK)) (fun (tg:ah) (lW:ah) Fe=>∃ (Lz:ah→ah→Int→World→Prop) (TQ:ah→ah→Int→World→Nat),Lz tg lW 0 Fe∧∀ (ko:ah) (jo:ah) (qo:Int) (m5:World),Lz ko jo qo m5→au
 (decide (qo<(ko.len:Int))) (br (fun xH:ah→ah→World→Prop=>ay (m5.drew) fun jj=>∃TR:Addr,ko.a=some TR∧aQ qo ko.len∧¬False∧az jj (TR.add (Int.toNat qo*1)) fun n_=>∃TS:Addr,jo.a=some TS∧aQ
 qo jo.len∧¬False∧az jj (TS.add (Int.toNat qo*1)) fun xu=>br (fun TT:Bool→World→Prop=>au ((decide (n_<0))||(decide (n_≥(l.len:Int)))) (TT true jj) (∃TU:Bool,∃oc:World,Sem.run Tryz.prog
 (Instr.lookup ad.iE (.map Lx) (.int .i64 n_) false) jj= .ok (.bool TU) oc∧TT TU oc)) (fun (agb:Bool) Ff=>au agb (az Ff (Addr.add (ab af) 9) fun zu=>st Ff (Addr.add (ab af) 9) (.int .i64 (av (zu+1))) fun agc
 =>xH ko jo agc) (∃gW:World,Sem.run Tryz.prog (Instr.mapUpdate ad.iE (.map Lx) (.int .i64 n_) (.bool true)) Ff= .ok () gW∧∃TV:Addr,l.a=some TV∧aQ n_ l.len∧aG gW (TV.add (Int.toNat n_*1)) fun
 LA=>lH F.lS #[.int .i64 n_, .slice LA.a LA.len LA.cap] gW fun Gj r6 zL Lf nY=>ay (nY.alloc z4) fun rQ=>bW rQ (ab nY) [.int .i64 Gj, .int .u64 r6, .slice zL.a zL.len zL.cap]∧(3:
 Nat)=3∧ay (setCells rQ (ab nY) 0 [.int .i64 Gj, .int .u64 r6, .slice zL.a zL.len zL.cap]) fun rR=>aG rR (Addr.add (ab nY) 2) fun LB=>QR F.rG #[.bool (xu==1), .slice LB.a LB.len LB.cap] rR
 fun TW zM zN zO LC rS=>ay (rS.alloc z5) fun w8=>bW w8 (ab rS) [.bool TW, .slice zM.a zM.len zM.cap, .slice zN.a zN.len zN.cap, .slice zO.a zO.len zO.cap]∧(4:Nat)=4∧ay (setCells w8
 (ab rS) 0 [.bool TW, .slice zM.a zM.len zM.cap, .slice zN.a zN.len zN.cap, .slice zO.a zO.len zO.cap]) fun w9=>br (fun TX:Bool→World→Prop=>au ((Lf !=0)||(!LC)) (TX true w9) (az w9 (ab nY)
 fun agd=>TX (!((agd==1)==(xu==1))) w9)) (fun (age:Bool) Fh=>br (fun TY:Bool→World→Prop=>au age (TY true Fh) (az Fh (ab nY) fun agf=>TY (decide (agf>2)) Fh)) (fun (agh:Bool) Fi=>au
 agh (az Fi (Addr.add (ab af) 9) fun LD=>st Fi (Addr.add (ab af) 9) (.int .i64 (av (LD+1))) fun agi=>xH ko jo agi) (∃p5:World,Sem.run Tryz.prog (Instr.mapUpdate ad.iE (.map m64) (.int .i64 n_) (.bool
 true)) Fi= .ok () p5∧az p5 (Addr.add (ab af) 5) fun agj=>st p5 (Addr.add (ab af) 5) (.int .i64 (av (agj+1))) fun th=>∃ (LF:ah→ah→Int→World→Prop) (TZ:ah→ah→Int→World→Nat),LF ko jo 0 th∧∀
 (u7:ah) (u9:ah) (xI:Int) (m6:World),LF u7 u9 xI m6→aG m6 (Addr.add (ab rS) 3) fun agk=>au (decide (xI<(agk.len:Int))) (aG m6 (Addr.add (ab rS) 3) fun T0=>∃T1:Addr,T0.a=some T1∧
 aQ xI T0.len∧az m6 (T1.add (Int.toNat xI*1)) fun agl=>ay (m6.alloc (.cells #[.int .i64 agl] ad.int)) fun agm=>∃CK:ah,∃Bx:World,Sem.run Tryz.prog (Builtin.append_ #[ad.da,ad.da] ad.da #[.slice
 u7.a u7.len u7.cap, .slice (some (ab m6)) 1 1]) agm= .ok (.slice CK.a CK.len CK.cap) Bx∧ay (Bx.alloc (.cells #[.int .i64 (av (xu-1))] ad.int)) fun agn=>∃CL:ah,∃By:World,Sem.run Tryz.prog
 (Builtin.append_ #[ad.da,ad.da] ad.da #[.slice u9.a u9.len u9.cap, .slice (some (ab Bx)) 1 1]) agn= .ok (.slice CL.a CL.len CL.cap) By∧LF CK CL (av (xI+1)) By∧TZ CK CL (av (xI+1))
 By<TZ u7 u9 xI m6) (au (xu==1) (az m6 (Addr.add (ab af) 6) fun ago=>aG m6 (Addr.add (ab rS) 1) fun agp=>st m6 (Addr.add (ab af) 6) (.int .i64 (av (ago+(agp.len:Int)))) fun agq=>xH u7 u9 agq) (xH
 u7 u9 m6)))))))) (fun (u5:ah) (y2:ah) p4=>Lz u5 y2 (av (qo+1)) p4∧TQ u5 y2 (av (qo+1)) p4<TQ ko jo qo m5)) (ay (m5.drew) fun i_=>∃xJ:Nat→Prop,¬xJ (Addr.add (ab bd) 2).block∧az
 i_ (Addr.add (ab bd) 2) fun Gp=>¬xJ (Addr.add (ab bd) 2).block∧az i_ (Addr.add (ab bd) 2) fun LG=>∃LH:Addr,l.a=some LH∧aQ LG l.len∧¬xJ (LH.add (Int.toNat LG*1)).block∧aG i_ (LH.add (Int.toNat
 LG*1)) fun zP=>(lH F.lS #[.int .i64 Gp, .slice zP.a zP.len zP.cap] i_ fun T2 T3 zQ agr rU=>aq xJ i_ rU∧ay (rU.alloc z4) fun Fm=>aq xJ rU Fm∧bW Fm (ab rU) [.int .i64
 T2, .int .u64 T3, .slice zQ.a zQ.len zQ.cap]∧(3:Nat)=3∧ay (setCells Fm (ab rU) 0 [.int .i64 T2, .int .u64 T3, .slice zQ.a zQ.len zQ.cap]) fun nZ=>aG nZ (Addr.add (ab rU) 2) fun LI=>sW
 F.sV #[.slice LI.a LI.len LI.cap, .int .i64 (l.len:Int)] nZ fun p6 BA=>br (fun T4:Bool→World→Prop=>au (agr !=0) (T4 true BA) (az BA (ab rU) fun ags=>T4 (ags !=4) BA)) (fun (agt:Bool)
 BB=>au (agt||(Option.isNone p6)) (az BB (Addr.add (ab af) 9) fun agu=>st BB (Addr.add (ab af) 9) (.int .i64 (av (agu+1))) fun agv=>y0 agv af w Q) (∃ (LJ:Int→World→Prop) (T5:Int→World→Nat),LJ 0 BB
 ∧∀ (pb:Int) (p7:World),LJ pb p7→au (decide (pb<(l.len:Int))) (br (fun T6:World→Prop=>br (fun T7:Bool→World→Prop=>au (decide (pb<2)) (T7 true p7) (az p7 (Addr.add (ab bd) 2) fun agw=>T7
 (pb==agw) p7)) (fun (agx:Bool) Fs=>br (fun T8:Bool→World→Prop=>au agx (T8 true Fs) (∃T9:Bool,∃Gq:World,Sem.run Tryz.prog (Instr.lookup ad.iE (.map m64) (.int .i64 pb) false) Fs= .ok
 (.bool T9) Gq∧T8 T9 Gq)) (fun (T_:Bool) y6=>br (fun Ua:World→Prop=>∃Ub:Addr,p6=some Ub∧aG y6 Ub fun Uc=>∃Ud:Addr,Uc.a=some Ud∧aQ pb Uc.len∧ef y6 (Ud.add (Int.toNat
 pb*1)) fun agy=>au (agy&&(!T_)) (az y6 (Addr.add (ab af) 7) fun agz=>st y6 (Addr.add (ab af) 7) (.int .i64 (av (agz+1))) fun agA=>Ua agA) (Ua y6)) (fun BD=>br (fun Ue:Bool→World→Prop=>au T_ (∃
 Uf:Addr,p6=some Uf∧aG BD Uf fun Ug=>∃Uh:Addr,Ug.a=some Uh∧aQ pb Ug.len∧ef BD (Uh.add (Int.toNat pb*1)) fun agB=>Ue (!agB) BD) (Ue false BD)) (fun (agC:Bool) u_=>au agC (az
 u_ (Addr.add (ab af) 8) fun agD=>st u_ (Addr.add (ab af) 8) (.int .i64 (av (agD+1))) fun agE=>T6 agE) (T6 u_)))))) (fun zR=>LJ (av (pb+1)) zR∧T5 (av (pb+1)) zR<T5 pb p7)) (y0 p7 af w Q))))
 ∧(ay (i_.alloc z4) fun Fp=>aq xJ i_ Fp∧lH F.lS #[.int .i64 Gp, .slice zP.a zP.len zP.cap] Fp fun Ui Uj r8 agF Fq=>aq xJ Fp Fq∧bW Fq (ab i_) [.int .i64 Ui, .int .u64 Uj,
 .slice r8.a r8.len r8.cap]∧(3:Nat)=3∧ay (setCells Fq (ab i_) 0 [.int .i64 Ui, .int .u64 Uj, .slice r8.a r8.len r8.cap]) fun Bz=>aG Bz (Addr.add (ab i_) 2) fun LK=>sW F.sV #[.slice LK.a
 LK.len LK.cap, .int .i64 (l.len:Int)] Bz fun LL LM=>br (fun Uk:Bool→World→Prop=>au (agF !=0) (Uk true LM) (az LM (ab i_) fun agG=>Uk (agG !=4) LM)) (fun (agH:Bool) LN=>au (agH||
 (Option.isNone LL)) (az LN (Addr.add (ab af) 9) fun LO=>st LN (Addr.add (ab af) 9) (.int .i64 (av (LO+1))) fun agI=>y0 agI af w Q) (∃ (LP:Int→World→Prop) (Ul:Int→World→Nat),LP 0 LN∧∀ (pc:Int)
 (zS:World),LP pc zS→au (decide (pc<(l.len:Int))) (br (fun Um:World→Prop=>br (fun Un:Bool→World→Prop=>au (decide (pc<2)) (Un true zS) (az zS (Addr.add (ab bd) 2) fun agJ=>Un (pc==agJ)
 zS)) (fun (agK:Bool) Uo=>br (fun Up:Bool→World→Prop=>au agK (Up true Uo) (∃Uq:Bool,∃Ur:World,Sem.run Tryz.prog (Instr.lookup ad.iE (.map m64) (.int .i64 pc) false) Uo= .ok (.bool Uq) Ur
 ∧Up Uq Ur)) (fun (Us:Bool) xK=>br (fun Ut:World→Prop=>∃Uu:Addr,LL=some Uu∧aG xK Uu fun Uv=>∃Uw:Addr,Uv.a=some Uw∧aQ pc Uv.len∧ef xK (Uw.add (Int.toNat pc*1)) fun agL
 =>au (agL&&(!Us)) (az xK (Addr.add (ab af) 7) fun agM=>st xK (Addr.add (ab af) 7) (.int .i64 (av (agM+1))) fun agN=>Ut agN) (Ut xK)) (fun Gr=>br (fun Ux:Bool→World→Prop=>au Us (∃Uy:Addr,LL=
 some Uy∧aG Gr Uy fun Uz=>∃UA:Addr,Uz.a=some UA∧aQ pc Uz.len∧ef Gr (UA.add (Int.toNat pc*1)) fun agO=>Ux (!agO) Gr) (Ux false Gr)) (fun (agP:Bool) LQ=>au agP (az LQ (Addr.add (ab
 af) 8) fun agQ=>st LQ (Addr.add (ab af) 8) (.int .i64 (av (agQ+1))) fun CM=>Um CM) (Um LQ)))))) (fun UB=>LP (av (pc+1)) UB∧Ul (av (pc+1)) UB<Ul pc zS)) (y0 zS af w Q))))))))
def A.rP:bn:=(.s .r (.s .r (.s (.s .r (.bT (.loop [(5,(.int .i64))] [0,2,3,4] (.s (.s .r (.c .l .l)) (.s (.hM [] [0,2,3,4,5] (.bT (.s .r (.s (.s .r (.c .l .l)) (.s .r (.s (.du [.run, .run, .run, .split 5, .run, .run,
 .run, .run, .run, .run, .split 5]) (.c (.s .r (.s (.du [.run, .run, .run, .run, .split 5]) (.c (.dO 4 true ⟨[0,0,1,5,15],[0,0,0,5,2]⟩ [9671406556917033397649408,19342813113834066795298816,38685626227668133590597632,0,0] [32,
 64,8,48357032784585166988247040,19342813113834066795298832] (.take 0 (.take 1 (.take 2 (.cL 3 (.tail [.run])))))) .l))) .l))))))) .r))))) (.s bp (.s .r (.s (.hM [(9, .slice),(10, .slice)] [0,2,3,4,11,12] (.s .r (.c (.dO 7 true
 ⟨[0,1,2,0,8,16,7,127],[0,1,2,0,8,16,4,32]⟩ [158456325028528675187087900672,316912650057057350374175801344,633825300114114700748351602688,1267650600228229401496703205376,2535301200456458802993406410752,
 5070602400912917605986812821504,512,1024] [16,158456325028528675187087900672,316912650057057350374175801344,16,1267650600228229401496703205376,2535301200456458802993406410752,633825300114114700748351602688,
 5070602400912917605986812821504] (.take 0 (.take 1 (.take 3 (.take 4 (.two 2 (.take 6 (.cL 5 (.tail [.run]))) 5 (.cL 2 (.take 6 (.tail [.run]))))))))) .l))) (.s (.s .r (.bT (.loop [(9, .slice),(10, .slice),(13,(.int .i64))] [0,2,3,
 4,11,12] (.s (.s .r (.c .l .l)) (.s (.hM [(9, .slice),(10, .slice)] [0,2,3,4,11,12,13] (.bT (.s (.dO 9 false ⟨[0,0,3,4,0,0,48,64,15,511],[0,0,3,4,0,0,48,64,8,128]⟩ [649037107316853453566312041152512,
 1298074214633706907132624082305024,2596148429267413814265248164610048,5192296858534827628530496329220096,10384593717069655257060992658440192,20769187434139310514121985316880384,41538374868278621028243970633760768,
 83076749736557242056487941267521536,16384,32768] [512,8192,1947111321950560360698936123457536,2596148429267413814265248164610048,1024,8192,31153781151208965771182977975320576,41538374868278621028243970633760768,
 5192296858534827628530496329220096,83076749736557242056487941267521536] (.take 0 (.take 1 (.take 2 (.take 3 (.take 4 (.take 5 (.take 6 (.take 7 (.take 8 (.tail [.run]))))))))))) (.s (.s (.du [.run, .run, .run, .pure 4, .run, .run, .run,
 .run, .run, .split 3]) (.c (.s .r .l) .l)) (.s .r (.s .r (.s .r (.s (.s (.du [.run, .run, .run, .pure 2, .run, .run, .run, .split 6, .run, .run, .run, .run, .run, .run, .run, .split 3]) (.c (.s .r .l) .l)) (.s .r (.s .r (.s (.s .r (.bT
 (.loop [(9, .slice),(10, .slice),(20,(.int .i64))] [0,2,3,4,11,12,13,15,18] a4))) (.s .r (.c .r .l))))))))))))) .r))))) (.s (.dO 13 true ⟨[0,1,0,0,8,20,32,66,128,256,256,0,3071,8191],[0,1,0,0,8,20,32,66,
 128,256,256,0,2560,1024]⟩ [6582018229284824168619876730229402019930943462534319453394436096,13164036458569648337239753460458804039861886925068638906788872192,26328072917139296674479506920917608079723773850137277813577744384,
 52656145834278593348959013841835216159447547700274555627155488768,105312291668557186697918027683670432318895095400549111254310977536,210624583337114373395836055367340864637790190801098222508621955072,
 421249166674228746791672110734681729275580381602196445017243910144,842498333348457493583344221469363458551160763204392890034487820288,3291009114642412084309938365114701009965471731267159726697218048,
 1684996666696914987166688442938726917102321526408785780068975640576,3369993333393829974333376885877453834204643052817571560137951281152,2097152,0,4194304] [16,6582018229284824168619876730229402019930943462534319453394436096,1,16,
 52656145834278593348959013841835216159447547700274555627155488768,131640364585696483372397534604588040398618869250686389067888721920,210624583337114373395836055367340864637790190801098222508621955072,
 434413203132798395128911864195140533315442268527265083924032782336,842498333348457493583344221469363458551160763204392890034487820288,3291009114642412084309938365114701009965471731267159726697218048,
 3291009114642412084309938365114701009965471731267159726697218048,0,1684996666696914987166688442938726917102321526408785780068977737728,3369993333393829974333376885877453834204643052817571560137951281152] (.take 0 (.take 1 (.take 2 (.take
 3 (.take 4 (.take 5 (.take 6 (.two 7 (.take 8 (.take 9 (.take 10 (.cL 11 (.out 12 false (.tail [.run])))))) 11 (.cL 7 (.take 8 (.take 9 (.take 10 (.out 12 false (.tail [.run]))))))))))))))) (.s .r (.s (.s (.du [.run, .run, .run, .split
 3, .run, .run, .run, .run, .pure 2]) fV) (.s (.s .r (.bT (.loop [(24,(.int .i64))] [0,2,3,4,11,23] (.s (.s .r (.c .l .l)) (.s (.hM [] [0,2,3,4,11,23,24] (.bT (.s (.du [.run, .run, .run, .split 4, .run, .run, .run, .run, .run,
 .split 3]) (.s (.hM [] [0,2,3,4,11,23,24,25] (.s (.du [.run, .run, .run, .run, .run, .run, .run, .run, .pure 2]) (.c .r .l))) (.s (.du [.run, .run, .split 8]) (.c .r .l)))))) .r))))) (.s .r .l))))))))))))
theorem W.ady (l:ah) (w:World) (Q:Value→World→Prop) (h:W.rP l w Q):aM Tryz.prog F.rP #[.slice l.a l.len l.cap] w Q:=okF A.rP Tryz.func17 (by kernel_rfl) (by kernel_rfl) h
def W.jM (b:ah) (n:Int) (size:Int) (w:World) (Q:Value→World→Prop):Prop:=ay (w.alloc (.cells #[] ad.uint8)) fun af=>∃s2:ah,∃bd:World,Sem.run Tryz.prog (Builtin.append_ #[ad.bE,ad.bE]
 ad.bE #[.slice (some (ab w)) 0 0, .slice b.a b.len b.cap]) af= .ok (.slice s2.a s2.len s2.cap) bd∧cp F.oU #[.int .u64 n, .int .i64 size] bd fun bZ bf=>EZ s2 bZ bf Q
def A.jM:bn:=(.s .r (.s .r .l))
theorem W.acA (b:ah) (n:Int) (size:Int) (w:World) (Q:Value→World→Prop) (h:W.jM b n size w Q):aM Tryz.prog F.jM #[.slice b.a b.len b.cap, .int .u64 n, .int .i64 size] w Q:=okF A.jM Tryz.func54 (by kernel_rfl) (by kernel_rfl) h
def W.oU (n:Int) (size:Int) (w:World) (Q:Value→World→Prop):Prop:=ay (w.alloc (.cells #[] ad.uint8)) fun af=>∃ (hN:Int→ah→Int→World→Prop) (iu:Int→ah→Int→World→Nat),hN n ⟨(some (ab w)),0,0⟩ 0 af
 ∧∀ (bl:Int) (b7:ah) (n6:Int) (bk:World),hN bl b7 n6 bk→au ((decide (n6<size))&&(decide (size≤8))) ((256:Int)≠0∧ay (bk.alloc (.cells #[.int .u8 (IntKind.wrap .u8 (Int.tmod bl 256))] ad.uint8)) fun bR=>∃dV:ah,∃
 bL:World,Sem.run Tryz.prog (Builtin.append_ #[ad.bE,ad.bE] ad.bE #[.slice (some (ab bk)) 1 1, .slice b7.a b7.len b7.cap]) bR= .ok (.slice dV.a dV.len dV.cap) bL∧(256:Int)≠0∧hN (IntKind.wrap .u64 (Int.tdiv bl
 256)) dV (av (n6+1)) bL∧iu (IntKind.wrap .u64 (Int.tdiv bl 256)) dV (av (n6+1)) bL<iu bl b7 n6 bk) (Q (.slice b7.a b7.len b7.cap) bk)
def A.oU:bn:=(.s .r (.s .r (.s (.s .r (.bT (.loop [(0,(.int .u64)),(5, .slice),(6,(.int .i64))] [1] (.s (.s (.du [.run, .run, .run, .run, .pure 2]) (.c .l .l)) (.s (.bT (.s .r .r)) .r))))) (.s .r .l))))
theorem W.acz (n:Int) (size:Int) (w:World) (Q:Value→World→Prop) (h:W.oU n size w Q):aM Tryz.prog F.oU #[.int .u64 n, .int .i64 size] w Q:=okF A.oU Tryz.func55 (by kernel_rfl) (by kernel_rfl) h
def W.oT (b:ah) (w:World) (Q:Value→World→Prop):Prop:=ay (w.drew) fun af=>∃Lr:Nat→Prop,((0:Int)≤20∧20≤((b.cap:Nat):Int))∧((0:Int)≤24∧24≤(b.len:Int))∧ay (af.alloc (.cells #[] ad.uint8)) fun
 bd=>∃cy:ah,∃aO:World,Sem.run Tryz.prog (Builtin.append_ #[ad.bE,ad.bE] ad.bE #[.slice (some (ab af)) 0 0, .slice (cN b.a 1 0 b.cap) ((Int.toNat 20)-0) (b.cap-0)]) bd= .ok (.slice cy.a cy.len cy.cap) aO∧
 ∃bZ:ah,∃bk:World,Sem.run Tryz.prog (Builtin.append_ #[ad.bE,ad.bE] ad.bE #[.slice cy.a cy.len cy.cap, .slice (cN b.a 1 (Int.toNat 24) b.cap) (b.len-(Int.toNat 24)) (b.cap-(Int.toNat 24))]) aO= .ok (.slice
 bZ.a bZ.len bZ.cap) bk∧gM F.rA #[.slice bZ.a bZ.len bZ.cap] bk fun n10 bR=>Q (.int .u32 n10) bR
def A.oT:bn:=(.s .r (.s (.dO 6 true ⟨[0,0,2,5,0,16,40,64,255],[0,0,2,5,0,16,40,64,128]⟩ [8,16,32,64,128,256,512,1024,4] [0,1,16,40,1,128,320,512,1024] (.take 1 (.take 2 (.take 4 (.take 5 (.out 0
 false (.out 3 false (.tail [.run, .run, .run])))))))) .l))
theorem W.acq (b:ah) (w:World) (Q:Value→World→Prop) (h:W.oT b w Q):aM Tryz.prog F.oT #[.slice b.a b.len b.cap] w Q:=okF A.oT Tryz.func56 (by kernel_rfl) (by kernel_rfl) h
def W.rJ (no:Int) (b:ah) (w:World) (Q:Value→World→Prop):Prop:=ay (w.alloc fe) fun af=>lH F.lS #[.int .i64 no, .slice b.a b.len b.cap] af fun bl n5 bZ n7 aw=>ay (aw.alloc z4) fun bR=>bW bR
 (ab aw) [.int .i64 bl, .int .u64 n5, .slice bZ.a bZ.len bZ.cap]∧(3:Nat)=3∧ay (setCells bR (ab aw) 0 [.int .i64 bl, .int .u64 n5, .slice bZ.a bZ.len bZ.cap]) fun bK=>au (n7 !=0) (bW bK (ab w) [.int .i64 0, .int .i64 0, .int
 .i64 0, .int .u64 0, .int .u64 0, .int .i64 0]∧(6:Nat)=6∧ay (setCells bK (ab w) 0 [.int .i64 0, .int .i64 0, .int .i64 0, .int .u64 0, .int .u64 0, .int .i64 0]) fun bL=>az bL (ab w) fun n11=>az bL (Addr.add (ab w) 1) fun n12
 =>az bL (Addr.add (ab w) 2) fun n13=>bJ bL (Addr.add (ab w) 3) fun n14=>bJ bL (Addr.add (ab w) 4) fun n15=>az bL (Addr.add (ab w) 5) fun n16=>Q (.tuple #[.agg #[.int .i64 n11, .int .i64 n12, .int .i64 n13, .int .u64 n14, .int
 .u64 n15, .int .i64 n16], .int .u64 0, .int .i64 n7]) bL) (az bK (ab aw) fun n17=>br (fun vt:Bool→World→Prop=>au (n17 !=3) (vt true bK) (aG bK (Addr.add (ab aw) 2) fun mF=>vt ((mF.len:Int) !=33) bK)) (fun (tC:Bool)
 dR=>au tC (bW dR (ab w) [.int .i64 0, .int .i64 0, .int .i64 0, .int .u64 0, .int .u64 0, .int .i64 0]∧(6:Nat)=6∧ay (setCells dR (ab w) 0 [.int .i64 0, .int .i64 0, .int .i64 0, .int .u64 0, .int .u64 0, .int .i64 0]) fun
 c5=>u0 c5 w Q) (ay (dR.drew) fun cz=>∃fW:Nat→Prop,¬fW (Addr.add (ab aw) 2).block∧aG cz (Addr.add (ab aw) 2) fun js=>¬fW (Addr.add (ab aw) 2).block∧aG cz (Addr.add (ab aw) 2) fun b4=>∃a33:Addr,b4.a=some
 a33∧aQ 4 b4.len∧¬fW (a33.add (Int.toNat 4*1)).block∧b1 cz (a33.add (Int.toNat 4*1)) fun n34=>¬fW (Addr.add (ab aw) 2).block∧aG cz (Addr.add (ab aw) 2) fun jb=>¬fW (Addr.add (ab aw) 2).block∧aG cz (Addr.add (ab
 aw) 2) fun eJ=>¬fW (Addr.add (ab aw) 2).block∧aG cz (Addr.add (ab aw) 2) fun dN=>¬fW (Addr.add (ab aw) 2).block∧aG cz (Addr.add (ab aw) 2) fun jU=>(dW F.d_ #[.slice js.a js.len js.cap, .int .i64 0, .int .i64 4]
 cz fun n41 eY=>aq fW cz eY∧(dW F.d_ #[.slice jb.a jb.len jb.cap, .int .i64 5, .int .i64 4] eY fun qf eX=>aq fW eY eX∧(dW F.d_ #[.slice eJ.a eJ.len eJ.cap, .int .i64 13, .int .i64 8] eX fun r4 gz
 =>aq fW eX gz∧(dW F.d_ #[.slice dN.a dN.len dN.cap, .int .i64 21, .int .i64 8] gz fun ja il=>aq fW gz il∧(dW F.d_ #[.slice jU.a jU.len jU.cap, .int .i64 29, .int .i64 4] il fun zD fU=>aq fW il
 fU∧∃Gs:Array Value,(∀eD:World,Sem.run Tryz.prog (Instr.build ad.fR #[(0, .int .i64 (av n41)),(1, .int .i64 (av n34)),(2, .int .i64 (av qf)),(3, .int .u64 r4),(4, .int .u64 ja),(5, .int .i64 (av zD))]) eD= .ok
 (.agg Gs) eD)∧ay (fU.alloc fe) fun g9=>aq fW fU g9∧bW g9 (ab fU) (Array.toList Gs)∧Array.size Gs=6∧ay (setCells g9 (ab fU) 0 (Array.toList Gs)) fun fk=>aG fk (Addr.add (ab aw) 2) fun qj=>dW
 F.d_ #[.slice qj.a qj.len qj.cap, .int .i64 9, .int .i64 4] fk fun o8 iF=>az iF (ab fU) fun F_=>az iF (Addr.add (ab fU) 1) fun vj=>br (fun Cr:Bool→World→Prop=>au (!((F_==0)==(vj==0))) (Cr true iF)
 (az iF (Addr.add (ab fU) 1) fun zz=>Cr (decide (zz>12)) iF)) (fun (agR:Bool) fK=>br (fun zJ:Bool→World→Prop=>au agR (zJ true fK) (az fK (ab fU) fun vk=>zJ (decide (vk≥(av o8))) fK)) (fun (Lm:Bool) gT
 =>br (fun Cz:Bool→World→Prop=>au Lm (Cz true gT) (az gT (Addr.add (ab fU) 2) fun vn=>Cz (decide (vn≥(av o8))) gT)) (fun (Lb:Bool) p1=>br (fun CA:Bool→World→Prop=>au Lb (CA true p1) (az p1 (Addr.add
 (ab fU) 2) fun Lc=>CA (decide (Lc<2)) p1)) (fun (zI:Bool) rK=>au (zI||(decide (((av o8):Int)>1600))) (bW rK (ab w) [.int .i64 0, .int .i64 0, .int .i64 0, .int .u64 0, .int .u64 0, .int .i64 0]∧(6:Nat)=6∧
 ay (setCells rK (ab w) 0 [.int .i64 0, .int .i64 0, .int .i64 0, .int .u64 0, .int .u64 0, .int .i64 0]) fun Fe=>u0 Fe w Q) (ay (rK.drew) fun l1=>w6 fU l1 aw w Q))))))∧(ay (il.alloc fe) fun nY=>aq fW il nY∧dW
 F.d_ #[.slice jU.a jU.len jU.cap, .int .i64 29, .int .i64 4] nY fun r6 ig=>aq fW nY ig∧∃Gt:Array Value,(∀uR:World,Sem.run Tryz.prog (Instr.build ad.fR #[(0, .int .i64 (av n41)),(1, .int .i64 (av
 n34)),(2, .int .i64 (av qf)),(3, .int .u64 r4),(4, .int .u64 ja),(5, .int .i64 (av r6))]) uR= .ok (.agg Gt) uR)∧bW ig (ab il) (Array.toList Gt)∧Array.size Gt=6∧ay (setCells ig (ab il) 0 (Array.toList
 Gt)) fun rQ=>aG rQ (Addr.add (ab aw) 2) fun LR=>dW F.d_ #[.slice LR.a LR.len LR.cap, .int .i64 9, .int .i64 4] rQ fun LS CN=>az CN (ab il) fun agS=>az CN (Addr.add (ab il) 1) fun agT=>br (fun
 UC:Bool→World→Prop=>au (!((agS==0)==(agT==0))) (UC true CN) (az CN (Addr.add (ab il) 1) fun LU=>UC (decide (LU>12)) CN)) (fun (LC:Bool) w8=>br (fun UD:Bool→World→Prop=>au LC (UD
 true w8) (az w8 (ab il) fun agU=>UD (decide (agU≥(av LS))) w8)) (fun (agV:Bool) LV=>br (fun UE:Bool→World→Prop=>au agV (UE true LV) (az LV (Addr.add (ab il) 2) fun agW=>UE (decide (agW≥(av
 LS))) LV)) (fun (agX:Bool) LW=>br (fun UF:Bool→World→Prop=>au agX (UF true LW) (az LW (Addr.add (ab il) 2) fun LD=>UF (decide (LD<2)) LW)) (fun (agY:Bool) p5=>au (agY||(decide (((av LS):
 Int)>1600))) (bW p5 (ab w) [.int .i64 0, .int .i64 0, .int .i64 0, .int .u64 0, .int .u64 0, .int .i64 0]∧(6:Nat)=6∧ay (setCells p5 (ab w) 0 [.int .i64 0, .int .i64 0, .int .i64 0, .int .u64 0, .int .u64 0, .int .i64 0])
 fun agZ=>u0 agZ w Q) (ay (p5.drew) fun m6=>w6 il m6 aw w Q)))))))∧(ay (gz.alloc fe) fun p4=>aq fW gz p4∧dW F.d_ #[.slice dN.a dN.len dN.cap, .int .i64 21, .int .i64 8] p4 fun Gp i_=>aq fW p4
 i_∧dW F.d_ #[.slice jU.a jU.len jU.cap, .int .i64 29, .int .i64 4] i_ fun ag0 LX=>aq fW i_ LX∧∃Gu:Array Value,(∀UG:World,Sem.run Tryz.prog (Instr.build ad.fR #[(0, .int .i64 (av n41)),(1,
 .int .i64 (av n34)),(2, .int .i64 (av qf)),(3, .int .u64 r4),(4, .int .u64 Gp),(5, .int .i64 (av ag0))]) UG= .ok (.agg Gu) UG)∧bW LX (ab gz) (Array.toList Gu)∧Array.size Gu=6∧ay (setCells LX (ab gz) 0
 (Array.toList Gu)) fun UH=>aG UH (Addr.add (ab aw) 2) fun LY=>dW F.d_ #[.slice LY.a LY.len LY.cap, .int .i64 9, .int .i64 4] UH fun LZ CO=>az CO (ab gz) fun ag1=>az CO (Addr.add (ab gz) 1) fun ag2
 =>br (fun UI:Bool→World→Prop=>au (!((ag1==0)==(ag2==0))) (UI true CO) (az CO (Addr.add (ab gz) 1) fun ag3=>UI (decide (ag3>12)) CO)) (fun (ag4:Bool) L0=>br (fun UJ:Bool→World→Prop=>au
 ag4 (UJ true L0) (az L0 (ab gz) fun ag5=>UJ (decide (ag5≥(av LZ))) L0)) (fun (ag6:Bool) L1=>br (fun UK:Bool→World→Prop=>au ag6 (UK true L1) (az L1 (Addr.add (ab gz) 2) fun ag7=>UK (decide
 (ag7≥(av LZ))) L1)) (fun (ag8:Bool) L2=>br (fun UL:Bool→World→Prop=>au ag8 (UL true L2) (az L2 (Addr.add (ab gz) 2) fun ag9=>UL (decide (ag9<2)) L2)) (fun (ag_:Bool) p7=>au (ag_||(decide
 (((av LZ):Int)>1600))) (bW p7 (ab w) [.int .i64 0, .int .i64 0, .int .i64 0, .int .u64 0, .int .u64 0, .int .i64 0]∧(6:Nat)=6∧ay (setCells p7 (ab w) 0 [.int .i64 0, .int .i64 0, .int .i64 0, .int .u64 0, .int .u64 0,
 .int .i64 0]) fun aha=>u0 aha w Q) (ay (p7.drew) fun Gq=>w6 gz Gq aw w Q)))))))∧(ay (eX.alloc fe) fun L3=>aq fW eX L3∧dW F.d_ #[.slice eJ.a eJ.len eJ.cap, .int .i64 13, .int .i64 8] L3 fun ahb u_
 =>aq fW L3 u_∧dW F.d_ #[.slice dN.a dN.len dN.cap, .int .i64 21, .int .i64 8] u_ fun ahc zR=>aq fW u_ zR∧dW F.d_ #[.slice jU.a jU.len jU.cap, .int .i64 29, .int .i64 4] zR fun ahd L4=>aq
 fW zR L4∧∃Gv:Array Value,(∀UM:World,Sem.run Tryz.prog (Instr.build ad.fR #[(0, .int .i64 (av n41)),(1, .int .i64 (av n34)),(2, .int .i64 (av qf)),(3, .int .u64 ahb),(4, .int .u64 ahc),(5, .int .i64 (av
 ahd))]) UM= .ok (.agg Gv) UM)∧bW L4 (ab eX) (Array.toList Gv)∧Array.size Gv=6∧ay (setCells L4 (ab eX) 0 (Array.toList Gv)) fun UN=>aG UN (Addr.add (ab aw) 2) fun r8=>dW F.d_ #[.slice r8.a
 r8.len r8.cap, .int .i64 9, .int .i64 4] UN fun L5 CP=>az CP (ab eX) fun ahe=>az CP (Addr.add (ab eX) 1) fun ahf=>br (fun UO:Bool→World→Prop=>au (!((ahe==0)==(ahf==0))) (UO true CP) (az CP
 (Addr.add (ab eX) 1) fun ahg=>UO (decide (ahg>12)) CP)) (fun (ahh:Bool) L6=>br (fun UP:Bool→World→Prop=>au ahh (UP true L6) (az L6 (ab eX) fun LO=>UP (decide (LO≥(av L5))) L6)) (fun (ahi:
 Bool) L7=>br (fun UQ:Bool→World→Prop=>au ahi (UQ true L7) (az L7 (Addr.add (ab eX) 2) fun ahj=>UQ (decide (ahj≥(av L5))) L7)) (fun (ahk:Bool) L8=>br (fun UR:Bool→World→Prop=>au ahk (UR
 true L8) (az L8 (Addr.add (ab eX) 2) fun ahl=>UR (decide (ahl<2)) L8)) (fun (ahm:Bool) L9=>au (ahm||(decide (((av L5):Int)>1600))) (bW L9 (ab w) [.int .i64 0, .int .i64 0, .int .i64 0, .int .u64 0, .int
 .u64 0, .int .i64 0]∧(6:Nat)=6∧ay (setCells L9 (ab w) 0 [.int .i64 0, .int .i64 0, .int .i64 0, .int .u64 0, .int .u64 0, .int .i64 0]) fun ahn=>u0 ahn w Q) (ay (L9.drew) fun xK=>w6 eX xK aw w Q)))))))∧(ay
 (eY.alloc fe) fun L_=>aq fW eY L_∧dW F.d_ #[.slice jb.a jb.len jb.cap, .int .i64 5, .int .i64 4] L_ fun aho CM=>aq fW L_ CM∧dW F.d_ #[.slice eJ.a eJ.len eJ.cap, .int .i64 13, .int .i64 8]
 CM fun ahp Ma=>aq fW CM Ma∧dW F.d_ #[.slice dN.a dN.len dN.cap, .int .i64 21, .int .i64 8] Ma fun ahq Mb=>aq fW Ma Mb∧dW F.d_ #[.slice jU.a jU.len jU.cap, .int .i64 29, .int .i64 4] Mb
 fun ahr Mc=>aq fW Mb Mc∧∃Gw:Array Value,(∀US:World,Sem.run Tryz.prog (Instr.build ad.fR #[(0, .int .i64 (av n41)),(1, .int .i64 (av n34)),(2, .int .i64 (av aho)),(3, .int .u64 ahp),(4, .int .u64 ahq),
 (5, .int .i64 (av ahr))]) US= .ok (.agg Gw) US)∧bW Mc (ab eY) (Array.toList Gw)∧Array.size Gw=6∧ay (setCells Mc (ab eY) 0 (Array.toList Gw)) fun UT=>aG UT (Addr.add (ab aw) 2) fun Md=>dW
 F.d_ #[.slice Md.a Md.len Md.cap, .int .i64 9, .int .i64 4] UT fun Me CQ=>az CQ (ab eY) fun ahs=>az CQ (Addr.add (ab eY) 1) fun aht=>br (fun UU:Bool→World→Prop=>au (!((ahs==0)==(aht==0)))
 (UU true CQ) (az CQ (Addr.add (ab eY) 1) fun ahu=>UU (decide (ahu>12)) CQ)) (fun (ahv:Bool) Mf=>br (fun UW:Bool→World→Prop=>au ahv (UW true Mf) (az Mf (ab eY) fun ahw=>UW (decide (ahw≥(av
 Me))) Mf)) (fun (ahx:Bool) Mg=>br (fun UX:Bool→World→Prop=>au ahx (UX true Mg) (az Mg (Addr.add (ab eY) 2) fun ahy=>UX (decide (ahy≥(av Me))) Mg)) (fun (ahz:Bool) Mh=>br (fun UY:Bool→
 World→Prop=>au ahz (UY true Mh) (az Mh (Addr.add (ab eY) 2) fun ahA=>UY (decide (ahA<2)) Mh)) (fun (ahB:Bool) Mi=>au (ahB||(decide (((av Me):Int)>1600))) (bW Mi (ab w) [.int .i64 0, .int .i64 0,
 .int .i64 0, .int .u64 0, .int .u64 0, .int .i64 0]∧(6:Nat)=6∧ay (setCells Mi (ab w) 0 [.int .i64 0, .int .i64 0, .int .i64 0, .int .u64 0, .int .u64 0, .int .i64 0]) fun ahC=>u0 ahC w Q) (ay (Mi.drew) fun ahD=>w6 eY
 ahD aw w Q)))))))∧(ay (cz.alloc fe) fun Mj=>aq fW cz Mj∧dW F.d_ #[.slice js.a js.len js.cap, .int .i64 0, .int .i64 4] Mj fun ahE Mk=>aq fW Mj Mk∧dW F.d_ #[.slice jb.a jb.len jb.cap, .int
 .i64 5, .int .i64 4] Mk fun ahF Ml=>aq fW Mk Ml∧dW F.d_ #[.slice eJ.a eJ.len eJ.cap, .int .i64 13, .int .i64 8] Ml fun ahG Mm=>aq fW Ml Mm∧dW F.d_ #[.slice dN.a dN.len dN.cap, .int .i64
 21, .int .i64 8] Mm fun ahH Mn=>aq fW Mm Mn∧dW F.d_ #[.slice jU.a jU.len jU.cap, .int .i64 29, .int .i64 4] Mn fun ahI Mo=>aq fW Mn Mo∧∃Gx:Array Value,(∀UZ:World,Sem.run Tryz.prog
 (Instr.build ad.fR #[(0, .int .i64 (av ahE)),(1, .int .i64 (av n34)),(2, .int .i64 (av ahF)),(3, .int .u64 ahG),(4, .int .u64 ahH),(5, .int .i64 (av ahI))]) UZ= .ok (.agg Gx) UZ)∧bW Mo (ab cz) (Array.toList
 Gx)∧Array.size Gx=6∧ay (setCells Mo (ab cz) 0 (Array.toList Gx)) fun U0=>aG U0 (Addr.add (ab aw) 2) fun Mp=>dW F.d_ #[.slice Mp.a Mp.len Mp.cap, .int .i64 9, .int .i64 4] U0 fun Mq CR=>az CR
 (ab cz) fun ahJ=>az CR (Addr.add (ab cz) 1) fun ahK=>br (fun U1:Bool→World→Prop=>au (!((ahJ==0)==(ahK==0))) (U1 true CR) (az CR (Addr.add (ab cz) 1) fun ahL=>U1 (decide (ahL>12)) CR)) (fun (ahM
 :Bool) Mr=>br (fun U2:Bool→World→Prop=>au ahM (U2 true Mr) (az Mr (ab cz) fun ahN=>U2 (decide (ahN≥(av Mq))) Mr)) (fun (ahO:Bool) Ms=>br (fun U3:Bool→World→Prop=>au ahO (U3 true Ms)
 (az Ms (Addr.add (ab cz) 2) fun ahP=>U3 (decide (ahP≥(av Mq))) Ms)) (fun (ahQ:Bool) Mt=>br (fun U4:Bool→World→Prop=>au ahQ (U4 true Mt) (az Mt (Addr.add (ab cz) 2) fun ahR=>U4 (decide (ahR<2))
 Mt)) (fun (ahS:Bool) Mu=>au (ahS||(decide (((av Mq):Int)>1600))) (bW Mu (ab w) [.int .i64 0, .int .i64 0, .int .i64 0, .int .u64 0, .int .u64 0, .int .i64 0]∧(6:Nat)=6∧ay (setCells Mu (ab w) 0 [.int .i64
 0, .int .i64 0, .int .i64 0, .int .u64 0, .int .u64 0, .int .i64 0]) fun ahT=>u0 ahT w Q) (ay (Mu.drew) fun ahU=>w6 cz ahU aw w Q)))))))))
def A.rJ:bn:=(.s .r (.s .r (.s bp (.s fo (.s (.dO 25 true ⟨[0,1,2,4,0,16,32,64,128,0,512,1028,2048,0,8192,18432,0,65536,163840,0,524288,1310720,2097152,4493576,0,33554431],[0,1,2,4,0,16,32,
 64,128,0,512,1024,2048,0,8192,16384,0,65536,131072,0,524288,1048576,2097152,4493576,0,25165824]⟩ [2147483648,4294967296,8589934592,17179869184,34359738368,68719476736,137438953472,274877906944,549755813888,
 1099511627776,2199023255552,4398046511104,8796093022208,17592186044416,35184372088832,70368744177664,140737488355328,281474976710656,562949953421312,1125899906842624,2251799813685248,4503599627370496,9007199254740992,
 18014398509481984,512,0] [128,2147483648,4294967296,8589934592,128,34359738368,68719476736,137438953472,274877906944,128,1099511627776,2199023255552,4398046511104,128,17592186044416,35184372088832,128,140737488355328,
 281474976710656,128,1125899906842624,2251799813685248,4503599627370496,9649880981045248,0,18014398509482496] (.take 0 (.take 1 (.take 4 (.take 5 (.take 6 (.take 7 (.take 8 (.take 9 (.take 10 (.take 13 (.take 14 (.take 16 (.take 17
 (.take 19 (.take 20 (.two 2 (.take 3 (.two 11 (.take 12 (.two 15 (.two 18 (.two 21 (.take 22 (.take 23 (.cL 24 (.tail [.run])))) 24 (.cL 21 (.take 22 (.take 23 (.tail [.run]))))) 24 (.cL 18 (.cL 21 (.take 22 (.take 23 (.tail
 [.run])))))) 24 (.cL 15 (.cL 18 (.cL 21 (.take 22 (.take 23 (.tail [.run])))))))) 24 (.cL 11 (.take 12 (.cL 15 (.cL 18 (.cL 21 (.take 22 (.take 23 (.tail [.run])))))))))) 24 (.cL 2 (.take 3 (.cL 11 (.take 12 (.cL 15 (.cL 18 (.cL
 21 (.take 22 (.take 23 (.tail [.run]))))))))))))))))))))))))))) (.s .r (.s a3 (.s (.dO 4 true ⟨[0,0,2,1,15,31],[0,0,2,1,4,0]⟩ [9903520314283042199192993792,19807040628566084398385987584,39614081257132168796771975168,0,32,
 64] [512,128,19807040628566084398385987584,9903520314283042199192993808,39614081257132168796771975168,0] (.take 0 (.take 1 (.take 2 (.cL 3 (.tail [.run, .run])))))) .l))))))))
theorem W.ac_ (no:Int) (b:ah) (w:World) (Q:Value→World→Prop) (h:W.rJ no b w Q):aM Tryz.prog F.rJ #[.int .i64 no, .slice b.a b.len b.cap] w Q:=okF A.rJ Tryz.func64 (by kernel_rfl) (by kernel_rfl) h
def W.rL (b:ah) (w:World) (Q:Value→World→Prop):Prop:=Dp w b Q
def A.rL:bn:=(.s .r (.s (.s .r (.bT (.loop [(3,(.int .i64))] [0] kq))) (.s .r .l)))
theorem W.adh (b:ah) (w:World) (Q:Value→World→Prop) (h:W.rL b w Q):aM Tryz.prog F.rL #[.slice b.a b.len b.cap] w Q:=okF A.rL Tryz.func65 (by kernel_rfl) (by kernel_rfl) h
def W.lS (no:Int) (b:ah) (w:World) (Q:Value→World→Prop):Prop:=ay (w.alloc z4) fun af=>ay (af.alloc z4) fun aw=>bW aw (ab af) [.int .i64 0, .int .u64 0, .slice none 0 0]∧(3:Nat)=3∧ay (setCells aw
 (ab af) 0 [.int .i64 0, .int .u64 0, .slice none 0 0]) fun bd=>au ((b.len:Int) !=256) (az bd (ab af) fun bl=>bJ bd (Addr.add (ab af) 1) fun n5=>aG bd (Addr.add (ab af) 2) fun bZ=>bW bd (ab w) [.int .i64 bl, .int .u64 n5,
 .slice bZ.a bZ.len bZ.cap]∧(3:Nat)=3∧ay (setCells bd (ab w) 0 [.int .i64 bl, .int .u64 n5, .slice bZ.a bZ.len bZ.cap]) fun bk=>Dq bk w Q) (∃lh:Addr,b.a=some lh∧aQ 0 b.len∧b1 bd (lh.add (Int.toNat 0*1)) fun n12=>
 br (fun vp:Bool→World→Prop=>au (n12 !=83) (vp true bd) (∃lj:Addr,b.a=some lj∧aQ 1 b.len∧b1 bd (lj.add (Int.toNat 1*1)) fun n15=>vp (n15 !=84) bd)) (fun (K9:Bool) eH=>br (fun vt:Bool→World→Prop=>
 au K9 (vt true eH) (∃o_:Addr,b.a=some o_∧aQ 2 b.len∧b1 eH (o_.add (Int.toNat 2*1)) fun n20=>vt (n20 !=78) eH)) (fun (ahV:Bool) c5=>br (fun U5:Bool→World→Prop=>au ahV (U5 true c5) (∃a24:Addr,b.a=
 some a24∧aQ 3 b.len∧b1 c5 (a24.add (Int.toNat 3*1)) fun n25=>U5 (n25 !=67) c5)) (fun (La:Bool) c0=>au La (az c0 (ab af) fun n28=>bJ c0 (Addr.add (ab af) 1) fun n29=>aG c0 (Addr.add (ab af) 2) fun fP=>bW c0
 (ab w) [.int .i64 n28, .int .u64 n29, .slice fP.a fP.len fP.cap]∧(3:Nat)=3∧ay (setCells c0 (ab w) 0 [.int .i64 n28, .int .u64 n29, .slice fP.a fP.len fP.cap]) fun df=>vP df w Q) (∃a35:Addr,b.a=some a35∧aQ 4 b.len
 ∧b1 c0 (a35.add (Int.toNat 4*1)) fun n36=>au (n36 !=1) (az c0 (ab af) fun n37=>bJ c0 (Addr.add (ab af) 1) fun n38=>aG c0 (Addr.add (ab af) 2) fun iY=>bW c0 (ab w) [.int .i64 n37, .int .u64 n38, .slice iY.a iY.len
 iY.cap]∧(3:Nat)=3∧ay (setCells c0 (ab w) 0 [.int .i64 n37, .int .u64 n38, .slice iY.a iY.len iY.cap]) fun kn=>Dr kn w Q) (dW F.d_ #[.slice b.a b.len b.cap, .int .i64 20, .int .i64 4] c0 fun r3 gr=>gM
 F.oT #[.slice b.a b.len b.cap] gr fun jT gA=>au (r3 !=(IntKind.wrap .u64 jT)) (az gA (ab af) fun ja=>bJ gA (Addr.add (ab af) 1) fun tB=>aG gA (Addr.add (ab af) 2) fun vu=>bW gA (ab w) [.int .i64 ja, .int
 .u64 tB, .slice vu.a vu.len vu.cap]∧(3:Nat)=3∧ay (setCells gA (ab w) 0 [.int .i64 ja, .int .u64 tB, .slice vu.a vu.len vu.cap]) fun D4=>Ds D4 w Q) (dW F.d_ #[.slice b.a b.len b.cap, .int .i64 6, .int .i64 2]
 gA fun qk fk=>∃vq:Addr,b.a=some vq∧aQ 5 b.len∧b1 fk (vq.add (Int.toNat 5*1)) fun o8=>br (fun U6:Bool→World→Prop=>au (decide (o8<1)) (U6 true fk) (∃a63:Addr,b.a=some a63∧aQ 5 b.len∧b1 fk
 (a63.add (Int.toNat 5*1)) fun Ga=>U6 (decide (Ga>4)) fk)) (fun (Ll:Bool) pY=>au (Ll||(decide (((av qk):Int)>232))) (az pY (ab af) fun Gf=>bJ pY (Addr.add (ab af) 1) fun U7=>aG pY (Addr.add (ab af) 2) fun mm
 =>bW pY (ab w) [.int .i64 Gf, .int .u64 U7, .slice mm.a mm.len mm.cap]∧(3:Nat)=3∧ay (setCells pY (ab w) 0 [.int .i64 Gf, .int .u64 U7, .slice mm.a mm.len mm.cap]) fun gX=>vP gX w Q) (∃ (Mv:Int→World→
 Prop) (U8:Int→World→Nat),Mv (av (24+(av qk))) pY∧∀ (xL:Int) (mG:World),Mv xL mG→au (decide (xL<256)) (∃U9:Addr,b.a=some U9∧aQ xL b.len∧b1 mG (U9.add (Int.toNat xL*1)) fun ahW=>au (ahW !=0)
 (az mG (ab af) fun U_=>bJ mG (Addr.add (ab af) 1) fun Gi=>aG mG (Addr.add (ab af) 2) fun zT=>bW mG (ab w) [.int .i64 U_, .int .u64 Gi, .slice zT.a zT.len zT.cap]∧(3:Nat)=3∧ay (setCells mG (ab w) 0 [.int .i64
 U_, .int .u64 Gi, .slice zT.a zT.len zT.cap]) fun CB=>vP CB w Q) (Mv (av (xL+1)) mG∧U8 (av (xL+1)) mG<U8 xL mG)) (br (fun xH:Bool→World→Prop=>au ((decide (no<0))||(decide (no>1599))) (xH true mG)
 (dW F.d_ #[.slice b.a b.len b.cap, .int .i64 8, .int .i64 4] mG fun n_ jj=>xH (n_ !=(IntKind.wrap .u64 no)) jj)) (fun (ahX:Bool) rB=>au ahX (az rB (ab af) fun Cb=>bJ rB (Addr.add (ab af) 1) fun Cc=>aG rB
 (Addr.add (ab af) 2) fun zU=>bW rB (ab w) [.int .i64 Cb, .int .u64 Cc, .slice zU.a zU.len zU.cap]∧(3:Nat)=3∧ay (setCells rB (ab w) 0 [.int .i64 Cb, .int .u64 Cc, .slice zU.a zU.len zU.cap]) fun m4=>Dt m4 w
 Q) (ay (rB.drew) fun gW=>∃tA:Nat→Prop,∃Mw:Addr,b.a=some Mw∧aQ 5 b.len∧¬tA (Mw.add (Int.toNat 5*1)).block∧b1 gW (Mw.add (Int.toNat 5*1)) fun vm=>((0:Int)≤(av (24+(av qk)))∧(av (24+(av
 qk)))≤((b.cap:Nat):Int))∧((0:Int)≤24∧24≤(((Int.toNat (av (24+(av qk)))):Nat):Int))∧(dW F.d_ #[.slice b.a b.len b.cap, .int .i64 12, .int .i64 8] gW fun r6 ig=>aq tA gW ig∧ay (ig.alloc
 (.cells #[] ad.uint8)) fun Cf=>aq tA ig Cf∧I_ ig b qk Cf tA w vm r6 Q)∧(ay (gW.alloc (.cells #[] ad.uint8)) fun Mx=>aq tA gW Mx∧dW F.d_ #[.slice b.a b.len b.cap, .int .i64 12, .int .i64 8]
 Mx fun LU Va=>aq tA Mx Va∧I_ gW b qk Va tA w vm LU Q)))))))))))))
def A.lS:bn:=(.s .r (.s .r (.s bp (.s (.s (.du [.run, .run, .run, .run, .run, .split 4, .run, .run, .run, .run, .run, .split 4, .run, .run, .run, .run, .run, .split 4]) (.c (.s .r .l) .l)) (.s bp (.s bp (.s .r (.s (.s (.du
 [.run, .run, .run, .run, .run, .split 4, .run, .run, .run, .run, .run, .pure 2]) (.c (.s .r .l) .l)) (.s (.s .r (.bT (.loop [(8,(.int .i64))] [0,1,4,6,7] kq))) (.s (.s (.du [.run, .run, .run, .pure 2, .run, .run, .run, .split 5])
 (.c (.s .r .l) .l)) (.s (.dO 12 true ⟨[0,1,2,4,0,16,0,0,0,256,640,1120,2088,8191,16383],[0,1,2,4,0,16,0,0,0,256,640,1088,2088,4096,0]⟩ [9903520314283042199192993792,19807040628566084398385987584,
 39614081257132168796771975168,79228162514264337593543950336,158456325028528675187087900672,316912650057057350374175801344,633825300114114700748351602688,1267650600228229401496703205376,2535301200456458802993406410752,
 5070602400912917605986812821504,10141204801825835211973625643008,20282409603651670423947251286016,40564819207303340847894502572032,0,32] [2,9903520314283042199192993792,19807040628566084398385987584,39614081257132168796771975168,2,
 158456325028528675187087900672,0,2,128,2535301200456458802993406410752,6338253001141147007483516026880,10775030101939949912721977245696,20678550416222992111914971037696,40564819207303340847894502572048,0] (.take 0 (.take 1 (.take 2
 (.take 3 (.take 4 (.take 7 (.take 8 (.take 9 (.take 10 (.two 5 (.cL 6 (.cL 11 (.tail [.run, .run, .run]))) 6 (.cL 5 (.cL 11 (.tail [.run, .run, .run])))))))))))))) .l)))))))))))
theorem W.acs (no:Int) (b:ah) (w:World) (Q:Value→World→Prop) (h:W.lS no b w Q):aM Tryz.prog F.lS #[.int .i64 no, .slice b.a b.len b.cap] w Q:=okF A.lS Tryz.func66 (by kernel_rfl) (by kernel_rfl) h
end
end Go.Proofs.YtmhhgpogjpbglaaGreat
