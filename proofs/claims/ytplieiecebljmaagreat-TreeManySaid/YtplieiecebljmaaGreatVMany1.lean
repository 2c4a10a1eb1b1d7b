/- Printed by gen.py: functions of the program, each as what must be shown of it. -/
import Derived.Test.YtplieiecebljmaaGreatProg
import Derived.Test.YtplieiecebljmaaGreatKMany2
namespace b6
abbrev bG.s:=bG.seq
abbrev bG.l:=bG.leaf
abbrev bG.c:=bG.cond
abbrev bG.r:=bG.gn []
end b6
namespace Go.Proofs.YtplieiecebljmaaGreat
open Go b6
section
namespace F
abbrev EM:Nat:=8
abbrev xz:Nat:=11
abbrev Bn:Nat:=14
abbrev Ck:Nat:=21
abbrev Cl:Nat:=22
abbrev Co:Nat:=23
abbrev uJ:Nat:=24
abbrev x8:Nat:=25
abbrev Aa:Nat:=26
abbrev Cw:Nat:=27
abbrev BN:Nat:=33
abbrev Bk:Nat:=34
abbrev Ai:Nat:=35
abbrev Cq:Nat:=36
abbrev Bp:Nat:=39
abbrev y5:Nat:=43
abbrev y6:Nat:=44
abbrev y4:Nat:=45
abbrev r4:Nat:=57
abbrev xF:Nat:=58
abbrev xd:Nat:=59
abbrev xh:Nat:=60
abbrev wv:Nat:=61
abbrev Ae:Nat:=62
abbrev wA:Nat:=63
abbrev mi:Nat:=64
abbrev xC:Nat:=65
abbrev xE:Nat:=66
abbrev zf:Nat:=67
abbrev xg:Nat:=68
abbrev BK:Nat:=74
abbrev xA:Nat:=76
abbrev rQ:Nat:=78
abbrev Bj:Nat:=79
abbrev Cu:Nat:=80
abbrev x7:Nat:=81
abbrev w3:Nat:=88
abbrev Tk:Nat:=90
abbrev BH:Nat:=92
abbrev AU:Nat:=99
abbrev Cs:Nat:=103
abbrev q4:Nat:=104
abbrev tY:Nat:=105
abbrev qo:Nat:=106
abbrev mP:Nat:=107
abbrev fg:Nat:=108
abbrev xb:Nat:=109
abbrev x1:Nat:=110
abbrev zS:Nat:=111
abbrev wq:Nat:=112
abbrev aqm:Nat:=113
abbrev BO:Nat:=114
abbrev BP:Nat:=115
abbrev zd:Nat:=116
abbrev BL:Nat:=117
abbrev tS:Nat:=118
abbrev lu:Nat:=119
abbrev w_:Nat:=120
abbrev BJ:Nat:=122
abbrev Ag:Nat:=125
abbrev vf:Nat:=129
abbrev tJ:Nat:=130
abbrev ql:Nat:=131
abbrev E6:Nat:=132
abbrev w2:Nat:=133
abbrev E7:Nat:=134
abbrev wU:Nat:=135
abbrev xD:Nat:=138
abbrev rD:Nat:=141
abbrev n2:Nat:=142
abbrev Cr:Nat:=144
abbrev By:Nat:=145
abbrev A6:Nat:=146
abbrev u9:Nat:=147
abbrev AY:Nat:=148
abbrev u_:Nat:=149
abbrev AZ:Nat:=150
abbrev tX:Nat:=151
abbrev BI:Nat:=152
abbrev BG:Nat:=153
abbrev BB:Nat:=154
abbrev xT:Nat:=155
abbrev xS:Nat:=156
abbrev B8:Nat:=157
abbrev xJ:Nat:=158
abbrev zn:Nat:=159
abbrev Wi:Nat:=160
abbrev aqn:Nat:=161
abbrev x6:Nat:=162
abbrev vc:Nat:=164
abbrev vd:Nat:=165
abbrev tV:Nat:=166
abbrev w5:Nat:=167
abbrev AS:Nat:=168
abbrev rB:Nat:=169
abbrev tH:Nat:=170
abbrev E8:Nat:=183
abbrev y8:Nat:=184
abbrev y_:Nat:=185
abbrev Du:Nat:=186
abbrev Dv:Nat:=187
abbrev BC:Nat:=188
abbrev tU:Nat:=189
abbrev q5:Nat:=190
abbrev pg:Nat:=191
abbrev sZ:Nat:=192
abbrev zo:Nat:=193
abbrev yL:Nat:=195
abbrev tT:Nat:=196
abbrev wV:Nat:=197
abbrev Bq:Nat:=204
abbrev Br:Nat:=205
abbrev BU:Nat:=206
abbrev w6:Nat:=207
abbrev BF:Nat:=208
abbrev BA:Nat:=209
abbrev rG:Nat:=211
abbrev xk:Nat:=213
abbrev BE:Nat:=214
abbrev rJ:Nat:=215
end F
namespace ai
abbrev t:Nat:=0
abbrev int:Nat:=3
abbrev bool:Nat:=4
abbrev uint8:Nat:=5
abbrev string:Nat:=9
abbrev aqo:Nat:=24
abbrev cG:Nat:=27
abbrev Ia:Nat:=32
abbrev cz:Nat:=44
abbrev uI:Nat:=56
abbrev G1:Nat:=67
abbrev dD:Nat:=81
abbrev EF:Nat:=87
abbrev sO:Nat:=96
abbrev y3:Nat:=97
abbrev Mw:Nat:=101
abbrev nL:Nat:=107
abbrev cD:Nat:=125
abbrev D_:Nat:=140
abbrev sY:Nat:=144
abbrev Gh:Nat:=150
abbrev Xi:Nat:=160
abbrev qx:Nat:=168
abbrev I9:Nat:=169
abbrev BD:Nat:=171
abbrev aqp:Nat:=204
abbrev XZ:Nat:=206
abbrev aaA:Nat:=218
abbrev Gp:Nat:=241
abbrev uw:Nat:=249
abbrev V0:Nat:=259
end ai
namespace G
end G
def aqq:List jj:=[(.jv []),
  (.one (.one .fn)),
  (.one (.one (.int .i64))),
  (.one (.one (.int .i64))),
  (.one (.one .bool)),
  (.one (.one (.int .u8))),
  (.one (.one (.int .u8))),
  (.one (.flat [(.int .i64),(.int .i64), .bool,(.int .u8)])),
  (.one (.flat [(.int .i64),(.int .i64), .bool,(.int .u8)])),
  (.one (.one .str)),
  (.one (.one .str)),
  (.one (.one .str)),
  (.one (.one (.int .u64))),
  (.one (.flat [.str,(.int .u64)])),
  (.one (.flat [.str,(.int .u64)])),
  (.one (.one .ptr)),
  (.one (.one .ptr)),
  (.one (.one .ptr)),
  (.one (.flat [.ptr])),
  (.one (.flat [.ptr])),
  (.one (.one .any)),
  (.one (.one (.int .i32))),
  (.one (.one .slice)),
  (.one (.one .ptr)),
  (.one (.one (.int .i64))),
  (.jv [(.one .ptr),(.one (.int .i64))]),
  (.one (.one .fn)),
  (.one (.one .slice)),
  (.jv [(.one .slice),(.one (.int .i64))]),
  (.one (.one .fn)),
  (.one (.one (.int .u64))),
  (.one (.flat [(.int .i64),(.int .u64), .slice])),
  (.one (.flat [(.int .i64),(.int .u64), .slice])),
  (.one (.one .agg)),
  (.one (.one .agg)),
  (.one (.one .fn)),
  (.one (.one .fn)),
  (.one (.one .agg)),
  (.one (.one .agg)),
  (.one (.one .agg)),
  (.one (.one .agg)),
  (.jv [(.one .agg),(.one (.int .i64))]),
  (.one (.one .fn)),
  (.one (.one .fn)),
  (.one (.one .slice)),
  (.one (.one .fn)),
  (.one (.one .fn)),
  (.one (.one .fn)),
  (.one (.one .fn)),
  (.one (.one .fn)),
  (.one (.one .ptr)),
  (.one (.one .fn)),
  (.jv [(.one .slice),(.one .bool),(.one (.int .i64))]),
  (.one (.one .fn)),
  (.jv [(.one .bool),(.one (.int .i64))]),
  (.one (.one .fn)),
  (.one (.one .slice)),
  (.jv [(.one .slice),(.one (.int .i64))]),
  (.one (.one .fn)),
  (.one (.one .ptr)),
  (.jv [(.one .ptr),(.one .bool)]),
  (.one (.one .fn)),
  (.jv [(.one .ptr),(.one (.int .i64))]),
  (.one (.one .fn)),
  (.one (.one .ptr)),
  (.one (.one .ptr)),
  (.one (.one .agg)),
  (.one (.one .agg)),
  (.one (.one .fn)),
  (.one (.one .fn)),
  (.one (.one .slice)),
  (.one (.one .ptr)),
  (.one (.flat [.slice])),
  (.one (.flat [.slice])),
  (.one (.flat [(.int .i64), .slice, .slice,(.int .i64)])),
  (.one (.flat [(.int .i64), .slice, .slice,(.int .i64)])),
  (.one (.one .fn)),
  (.one (.one .fn)),
  (.one (.one .fn)),
  (.one (.one .fn)),
  (.one (.one .fn)),
  (.one (.one .slice)),
  (.one (.one .fn)),
  (.one (.one .fn)),
  (.one (.one (.int .u16))),
  (.one (.one .fn)),
  (.one (.flat [.slice, .slice])),
  (.one (.flat [.slice, .slice])),
  (.jv [(.one (.int .i64)),(.one (.int .i64))]),
  (.one (.one .fn)),
  (.one (.one .fn)),
  (.one (.one .fn)),
  (.one (.flat [(.int .u8),(.int .u8)])),
  (.one (.flat [(.int .u8),(.int .u8)])),
  (.one (.one .fn)),
  (.one (.one .fn)),
  (.one (.one .slice)),
  (.one (.one .map)),
  (.one (.one .agg)),
  (.one (.one .agg)),
  (.one (.one .agg)),
  (.one (.one .agg)),
  (.one (.one .fn)),
  (.one (.one .fn)),
  (.one (.one (.int .u32))),
  (.one (.one .fn)),
  (.one (.one .agg)),
  (.one (.one .agg)),
  (.one (.one .ptr)),
  (.one (.one .map)),
  (.one (.one .agg)),
  (.one (.one .agg)),
  (.one (.one .fn)),
  (.one (.flat [(.int .i64),(.int .i64),(.int .i64),(.int .u64),(.int .u64),(.int .i64)])),
  (.one (.flat [(.int .i64),(.int .i64),(.int .i64),(.int .u64),(.int .u64),(.int .i64)])),
  (.jv [(.flat [(.int .i64),(.int .i64),(.int .i64),(.int .u64),(.int .u64),(.int .i64)]),(.one (.int .u64)),(.one (.int .i64))]),
  (.one (.one .fn)),
  (.one (.one .fn)),
  (.one (.one .fn)),
  (.jv [(.flat [(.int .i64),(.int .i64),(.int .i64),(.int .u64),(.int .u64),(.int .i64)]),(.one (.int .u64)),(.one (.int .i64))]),
  (.one (.one .fn)),
  (.one (.one .fn)),
  (.jv [(.flat [(.int .i64),(.int .u64), .slice]),(.one (.int .i64))]),
  (.one (.one .fn)),
  (.one (.flat [.bool, .slice, .slice, .slice])),
  (.one (.flat [.bool, .slice, .slice, .slice])),
  (.jv [(.flat [.bool, .slice, .slice, .slice]),(.one .bool)]),
  (.one (.one .fn)),
  (.one (.one .ptr)),
  (.one (.one .fn)),
  (.one (.one .slice)),
  (.one (.flat [.slice, .slice])),
  (.one (.flat [.slice, .slice])),
  (.one (.one .ptr)),
  (.jv [(.one .ptr),(.one (.int .i64))]),
  (.one (.one .fn)),
  (.one (.flat [(.int .i64),(.int .i64),(.int .u64)])),
  (.one (.flat [(.int .i64),(.int .i64),(.int .u64)])),
  (.one (.one .fn)),
  (.one (.one .fn)),
  (.one (.one .slice)),
  (.jv [(.one .slice),(.one (.int .i64))]),
  (.one (.one .fn)),
  (.one (.one .agg)),
  (.one (.one .agg)),
  (.jv [(.one (.int .i64)),(.one .bool)]),
  (.one (.one .fn)),
  (.one (.one .fn)),
  (.one (.one .fn)),
  (.one (.flat [.ptr, .ptr,(.int .u64),(.int .i64),(.int .i64)])),
  (.one (.flat [.ptr, .ptr,(.int .u64),(.int .i64),(.int .i64)])),
  (.one (.one .fn)),
  (.one (.one .fn)),
  (.one (.one .fn)),
  (.jv [(.one .ptr),(.one (.int .i64))]),
  (.one (.one .fn)),
  (.jv [(.one .ptr),(.one (.int .i64))]),
  (.one (.one .fn)),
  (.one (.one .slice)),
  (.one (.flat [.ptr, .slice,(.int .i64)])),
  (.one (.flat [.ptr, .slice,(.int .i64)])),
  (.one (.one .fn)),
  (.one (.one .fn)),
  (.one (.one .fn)),
  (.one (.one .fn)),
  (.one (.one .ptr)),
  (.one (.one .fn)),
  (.one (.flat [.bool, .bool, .bool,(.int .i64),(.int .i64), .slice])),
  (.one (.flat [.bool, .bool, .bool,(.int .i64),(.int .i64), .slice])),
  (.one (.one .slice)),
  (.one (.flat [(.int .i64), .slice, .slice])),
  (.one (.flat [(.int .i64), .slice, .slice])),
  (.one (.one .fn)),
  (.jv [(.one .slice),(.one (.int .i64)),(.one (.int .i64))]),
  (.one (.one .fn)),
  (.one (.one .fn)),
  (.one (.one .ptr)),
  (.one (.one .fn)),
  (.one (.flat [(.int .i64),(.int .i64)])),
  (.one (.flat [(.int .i64),(.int .i64)])),
  (.one (.one .slice)),
  (.one (.one .fn)),
  (.one (.one .fn)),
  (.one (.one .fn)),
  (.one (.one .fn)),
  (.one (.one .fn)),
  (.one (.one .fn)),
  (.jv [(.one .slice),(.one (.int .i64))]),
  (.one (.one .fn)),
  (.one (.one .fn)),
  (.one (.one .fn)),
  (.one (.one (.int .u64))),
  (.one (.one .fn)),
  (.one (.one .fn)),
  (.one (.one .agg)),
  (.one (.one .fn)),
  (.one (.one .fn)),
  (.one (.one .fn)),
  (.jv [(.flat [.bool, .slice, .slice, .slice]),(.one (.int .i64))]),
  (.one (.one .fn)),
  (.one (.one .fn)),
  (.one (.one .fn)),
  (.one (.one .fn)),
  (.one (.one .fn)),
  (.one (.one .ptr)),
  (.one (.flat [.ptr, .slice, .slice])),
  (.one (.flat [.ptr, .slice, .slice])),
  (.jv [(.one (.int .i64)),(.one (.int .i64)),(.one (.int .i64))]),
  (.one (.one .fn)),
  (.one (.one .fn)),
  (.one (.one .fn)),
  (.one (.one .fn)),
  (.one (.one .fn)),
  (.one (.one .fn)),
  (.one (.one .fn)),
  (.one (.one .fn)),
  (.one (.one .ptr)),
  (.one (.flat [.ptr, .slice,(.int .i64)])),
  (.one (.flat [.ptr, .slice,(.int .i64)])),
  (.one (.one .fn)),
  (.one (.one .fn)),
  (.one (.one .fn)),
  (.jv [(.flat [(.int .i64),(.int .i64),(.int .i64),(.int .u64),(.int .u64),(.int .i64)]),(.one (.int .i64)),(.one (.int .u64)),(.one (.int .i64))]),
  (.one (.one .fn)),
  (.one (.one .fn)),
  (.jv [(.one .slice),(.one .bool)]),
  (.one (.one .fn)),
  (.one (.one .fn)),
  (.one (.one .fn)),
  (.one (.one .fn)),
  (.one (.one .fn)),
  (.one (.one .fn)),
  (.one (.one .agg)),
  (.one (.one .agg)),
  (.one (.one .fn)),
  (.one (.one .fn)),
  (.one (.one .fn)),
  (.one (.one .fn)),
  (.one (.one .fn)),
  (.one (.one .fn)),
  (.one (.one .ptr)),
  (.one (.one .slice)),
  (.jv [(.one .slice),(.one (.int .i64)),(.one (.int .i64)),(.one (.int .i64))]),
  (.one (.one .fn)),
  (.one (.one .fn)),
  (.one (.one .fn)),
  (.jv [(.one .slice),(.one (.int .i64))]),
  (.one (.one .fn)),
  (.one (.flat [.slice,(.int .i64)])),
  (.one (.flat [.slice,(.int .i64)])),
  (.one (.one .fn)),
  (.one (.one .fn)),
  (.one (.one .fn)),
  (.one (.one .ptr)),
  (.one (.flat [.slice,(.int .i64)])),
  (.one (.flat [.slice,(.int .i64)])),
  (.one (.one .fn)),
  (.one (.one .ptr)),
  (.one (.flat [.slice, .bool])),
  (.one (.flat [.slice, .bool])),
  (.one (.one .fn)),
  (.one (.one .fn)),
  (.jv [(.one (.int .u64)),(.one .bool)]),
  (.one (.one .fn)),
  (.one (.one .fn)),
  (.one (.one (.int .i64))),
  (.jv [(.one (.int .i64)),(.one (.int .i64))]),
  (.one (.one .fn)),
  (.one (.one .fn)),
  (.one (.one .fn)),
  (.one (.one .fn)),
  (.one (.one .fn)),
  (.one (.one .fn)),
  (.one (.one .fn)),
  (.one (.one .fn)),
  (.jv [(.one .ptr),(.one (.int .i64))]),
  (.one (.one .fn)),
  (.one (.one .fn)),
  (.one (.one .fn)),
  (.one (.one .fn)),
  (.one (.one .fn)),
  (.jv [(.one (.int .i64)),(.one (.int .i64))]),
  (.one (.one .fn)),
  (.one (.one .fn)),
  (.one (.one .fn)),
  (.one (.one .fn)),
  (.one (.one (.int .u64))),
  (.one (.one .fn)),
  (.one (.one .fn)),
  (.one (.one .fn)),
  (.one (.one .ptr)),
  (.one (.one .fn)),
  (.one (.one .fn)),
  (.one (.one .fn)),
  (.one (.one .fn)),
  (.one (.one .ptr)),
  (.one (.one .fn)),
  (.jv [(.flat [.bool, .slice, .slice, .slice]),(.one .slice),(.flat [.bool, .slice, .slice, .slice]),(.one .bool)]),
  (.one (.one .fn)),
  (.one (.one .fn)),
  (.one (.one .fn)),
  (.one (.flat [.ptr, .ptr, .ptr, .str])),
  (.one (.flat [.ptr, .ptr, .ptr, .str])),
  (.one (.one .agg)),
  (.one (.one .agg)),
  (.one (.one .agg)),
  (.one (.one (.int .u8))),
  (.one (.one (.int .u8))),
  (.one (.one .fn)),
  (.one (.one .ptr)),
  (.one (.one (.int .i32))),
  (.one (.one (.int .i32))),
  (.one (.one .agg)),
  (.one (.one .agg)),
  (.one (.one .fn)),
  (.one (.one .ptr))]
def aK:TypeId→jj:=fun t=>aqq.getD t (.one (.one .any))
theorem Ut:Tryz.prog.follows .mixedOrders=true:=by kernel_rfl
def ah (w:World):Addr:=⟨w.heap.size,0,none⟩
def ay (n:Int):Int:=IntKind.wrap .i64 n
def aX (n:Int) (k:Nat):Prop:=(0:Int)≤n∧n<((k:Nat):Int)
def aE (c:Bool) (A B:Prop):Prop:=(c=true→A)∧(c=false→B)
def wW:Int:=9223372036854775807
def st (w:World) (A:Addr) (v:Value) (K:World→Prop):Prop:=(∃u:Value,w.cell? A=some u)∧w.frozen? A=false∧az (w.setCell A v) fun ag=>K ag
def atA (w:World) (z:Obj) (l:List Value) (k:Nat) (K:World→Prop):Prop:=az (w.alloc z) fun ag=>cN ag (ah w) (Array.toList l.toArray)∧Array.size l.toArray=k∧az (setCells ag (ah w) 0 (Array.toList l.toArray)) fun aw=>K aw
def My (s:ad) (n:Int) (w:World) (k:Nat) (K:List Value→Prop):Prop:=∃a:Addr,s.a=some a∧aX n s.len∧∃l:List Value,eE w (a.add (Int.toNat n*k)) 0 k=some l∧K l
def aS (f:Nat) (a:Array Value) (w:World) (K:Int→World→Prop):Prop:=Calls Tryz.prog f a w fun e w'=>∃dh:Int,e= .returned (.int .i64 dh)∧K dh w'
def bA (f:Nat) (a:Array Value) (w:World) (K:World→Prop):Prop:=Calls Tryz.prog f a w fun e w'=>e= .returned (.tuple #[])∧K w'
def aZ (f:Nat) (a:Array Value) (w:World) (K:Bool→World→Prop):Prop:=Calls Tryz.prog f a w fun e w'=>∃dh:Bool,e= .returned (.bool dh)∧K dh w'
def fK (f:Nat) (a:Array Value) (w:World) (K:ad→Int→World→Prop):Prop:=Calls Tryz.prog f a w fun e w'=>∃dh:ad,∃e_:Int,e= .returned (.tuple #[.slice dh.a dh.len dh.cap, .int .i64 e_])∧K dh e_ w'
def dK (f:Nat) (a:Array Value) (w:World) (K:Int→Bool→World→Prop):Prop:=Calls Tryz.prog f a w fun e w'=>∃dh:Int,∃e_:Bool,e= .returned (.tuple #[.int .i64 dh, .bool e_])∧K dh e_ w'
def e6 (f:Nat) (a:Array Value) (w:World) (K:Bool→ad→ad→ad→Bool→World→Prop):Prop:=Calls Tryz.prog f a w fun e w'=>∃dh:Bool,∃e_:ad,∃iU:ad,∃mv:ad,∃yd:Bool,e= .returned (.tuple #[.agg #[.bool dh, .slice e_.a e_.len e_.cap, .slice iU.a iU.len iU.cap, .slice mv.a mv.len mv.cap], .bool yd])∧K dh e_ iU mv yd w'
def GU (f:Nat) (a:Array Value) (w:World) (K:Bool→Int→World→Prop):Prop:=Calls Tryz.prog f a w fun e w'=>∃dh:Bool,∃e_:Int,e= .returned (.tuple #[.bool dh, .int .i64 e_])∧K dh e_ w'
def Xa (f:Nat) (a:Array Value) (w:World) (K:Array Value→World→Prop):Prop:=Calls Tryz.prog f a w fun e w'=>∃dh:Array Value,e= .returned (.agg dh)∧K dh w'
def sV (f:Nat) (a:Array Value) (w:World) (K:Bool→ad→ad→ad→Int→World→Prop):Prop:=Calls Tryz.prog f a w fun e w'=>∃dh:Bool,∃e_:ad,∃iU:ad,∃mv:ad,∃yd:Int,e= .returned (.tuple #[.agg #[.bool dh, .slice e_.a e_.len e_.cap, .slice iU.a iU.len iU.cap, .slice mv.a mv.len mv.cap], .int .i64 yd])∧K dh e_ iU mv yd w'
def iE (f:Nat) (a:Array Value) (w:World) (K:Bool→ad→ad→ad→World→Prop):Prop:=Calls Tryz.prog f a w fun e w'=>∃dh:Bool,∃e_:ad,∃iU:ad,∃mv:ad,e= .returned (.agg #[.bool dh, .slice e_.a e_.len e_.cap, .slice iU.a iU.len iU.cap, .slice mv.a mv.len mv.cap])∧K dh e_ iU mv w'
def en (f:Nat) (a:Array Value) (w:World) (K:ad→World→Prop):Prop:=Calls Tryz.prog f a w fun e w'=>∃dh:ad,e= .returned (.slice dh.a dh.len dh.cap)∧K dh w'
def GL (f:Nat) (a:Array Value) (w:World) (K:Int→Int→Int→World→Prop):Prop:=Calls Tryz.prog f a w fun e w'=>∃dh:Int,∃e_:Int,∃iU:Int,e= .returned (.tuple #[.int .i64 dh, .int .i64 e_, .int .i64 iU])∧K dh e_ iU w'
def mx (f:Nat) (a:Array Value) (w:World) (K:Int→World→Prop):Prop:=Calls Tryz.prog f a w fun e w'=>∃dh:Int,e= .returned (.int .u32 dh)∧K dh w'
def Ib (f:Nat) (a:Array Value) (w:World) (K:Int→World→Prop):Prop:=Calls Tryz.prog f a w fun e w'=>∃dh:Int,e= .returned (.int .u64 dh)∧K dh w'
def Dp (f:Nat) (a:Array Value) (w:World) (K:ad→Bool→World→Prop):Prop:=Calls Tryz.prog f a w fun e w'=>∃dh:ad,∃e_:Bool,e= .returned (.tuple #[.slice dh.a dh.len dh.cap, .bool e_])∧K dh e_ w'
def XP (f:Nat) (a:Array Value) (w:World) (K:Int→Int→ad→Int→World→Prop):Prop:=Calls Tryz.prog f a w fun e w'=>∃dh:Int,∃e_:Int,∃iU:ad,∃mv:Int,e= .returned (.tuple #[.agg #[.int .i64 dh, .int .u64 e_, .slice iU.a iU.len iU.cap], .int .i64 mv])∧K dh e_ iU mv w'
def EA (f:Nat) (a:Array Value) (w:World) (K:ad→Int→Int→Int→World→Prop):Prop:=Calls Tryz.prog f a w fun e w'=>∃dh:ad,∃e_:Int,∃iU:Int,∃mv:Int,e= .returned (.tuple #[.slice dh.a dh.len dh.cap, .int .i64 e_, .int .i64 iU, .int .i64 mv])∧K dh e_ iU mv w'
def LX (f:Nat) (a:Array Value) (w:World) (K:Int→Bool→World→Prop):Prop:=Calls Tryz.prog f a w fun e w'=>∃dh:Int,∃e_:Bool,e= .returned (.tuple #[.int .u64 dh, .bool e_])∧K dh e_ w'
def za (f:Nat) (a:Array Value) (w:World) (K:Option Addr→World→Prop):Prop:=Calls Tryz.prog f a w fun e w'=>∃dh:Option Addr,e= .returned (.pointer dh)∧K dh w'
def zc (f:Nat) (a:Array Value) (w:World) (K:Option Addr→Int→World→Prop):Prop:=Calls Tryz.prog f a w fun e w'=>∃dh:Option Addr,∃e_:Int,e= .returned (.tuple #[.pointer dh, .int .i64 e_])∧K dh e_ w'
def uv (f:Nat) (a:Array Value) (w:World) (K:Int→Int→World→Prop):Prop:=Calls Tryz.prog f a w fun e w'=>∃dh:Int,∃e_:Int,e= .returned (.tuple #[.int .i64 dh, .int .i64 e_])∧K dh e_ w'
def Ye (f:Nat) (a:Array Value) (w:World) (K:Bool→ad→ad→ad→ad→Bool→ad→ad→ad→Bool→World→Prop):Prop:=Calls Tryz.prog f a w fun e w'=>∃dh:Bool,∃e_:ad,∃iU:ad,∃mv:ad,∃yd:ad,∃acm:Bool,∃OC:ad,∃OD:ad,∃OE:ad,∃acn:Bool,e= .returned (.tuple #[.agg #[.bool dh, .slice e_.a e_.len e_.cap, .slice iU.a iU.len iU.cap, .slice mv.a mv.len mv.cap], .slice yd.a yd.len yd.cap, .agg #[.bool acm, .slice OC.a OC.len OC.cap, .slice OD.a OD.len OD.cap, .slice OE.a OE.len OE.cap], .bool acn])∧K dh e_ iU mv yd acm OC OD OE acn w'
def B9 (f:Nat) (a:Array Value) (w:World) (K:Option Addr→Bool→World→Prop):Prop:=Calls Tryz.prog f a w fun e w'=>∃dh:Option Addr,∃e_:Bool,e= .returned (.tuple #[.pointer dh, .bool e_])∧K dh e_ w'
def BS (f:Nat) (a:Array Value) (w:World) (K:ad→Bool→Int→World→Prop):Prop:=Calls Tryz.prog f a w fun e w'=>∃dh:ad,∃e_:Bool,∃iU:Int,e= .returned (.tuple #[.slice dh.a dh.len dh.cap, .bool e_, .int .i64 iU])∧K dh e_ iU w'
def aaS (f:Nat) (a:Array Value) (w:World) (K:ad→Int→Int→World→Prop):Prop:=Calls Tryz.prog f a w fun e w'=>∃dh:ad,∃e_:Int,∃iU:Int,e= .returned (.tuple #[.slice dh.a dh.len dh.cap, .int .i64 e_, .int .i64 iU])∧K dh e_ iU w'
def bL (w:World) (A:Addr) (K:Int→Prop):Prop:=∃x:Int,w.cell? A=some (.int .i64 x)∧K x
def ar (w:World) (A:Addr) (K:ad→Prop):Prop:=∃x:ad,w.cell? A=some (.slice x.a x.len x.cap)∧K x
def bJ (w:World) (A:Addr) (K:Bool→Prop):Prop:=∃x:Bool,w.cell? A=some (.bool x)∧K x
def g8 (w:World) (A:Addr) (K:Int→Prop):Prop:=∃x:Int,w.cell? A=some (.int .u8 x)∧K x
def jX (w:World) (A:Addr) (K:Int→Prop):Prop:=∃x:Int,w.cell? A=some (.int .u64 x)∧K x
def c8:Obj:= .cells #[.bool false, .slice none 0 0, .slice none 0 0, .slice none 0 0] ai.cD
def oH:Obj:= .cells #[.int .u8 0, .int .u8 0, .int .u8 0, .int .u8 0, .int .u8 0, .int .u8 0, .int .u8 0, .int .u8 0, .int .u8 0, .int .u8 0, .int .u8 0, .int .u8 0, .int .u8 0, .int .u8 0, .int .u8 0, .int .u8 0, .int .u8 0, .int .u8 0, .int .u8 0, .int .u8 0, .int .u8 0, .int .u8 0, .int .u8 0, .int .u8 0, .int .u8 0, .int .u8 0, .int .u8 0, .int .u8 0, .int .u8 0, .int .u8 0, .int .u8 0, .int .u8 0, .int .u8 0, .int .u8 0, .int .u8 0, .int .u8 0, .int .u8 0, .int .u8 0, .int .u8 0, .int .u8 0, .int .u8 0, .int .u8 0, .int .u8 0, .int .u8 0, .int .u8 0, .int .u8 0, .int .u8 0, .int .u8 0, .int .u8 0, .int .u8 0, .int .u8 0, .int .u8 0, .int .u8 0, .int .u8 0, .int .u8 0, .int .u8 0, .int .u8 0, .int .u8 0, .int .u8 0, .int .u8 0, .int .u8 0, .int .u8 0, .int .u8 0, .int .u8 0, .int .u8 0, .int .u8 0, .int .u8 0, .int .u8 0, .int .u8 0, .int .u8 0, .int .u8 0, .int .u8 0, .int .u8 0, .int .u8 0, .int .u8 0, .int .u8 0, .int .u8 0, .int .u8 0, .int .u8 0, .int .u8 0, .int .u8 0, .int .u8 0, .int .u8 0, .int .u8 0, .int .u8 0, .int .u8 0, .int .u8 0, .int .u8 0, .int .u8 0, .int .u8 0, .int .u8 0, .int .u8 0, .int .u8 0, .int .u8 0, .int .u8 0, .int .u8 0, .int .u8 0, .int .u8 0, .int .u8 0, .int .u8 0, .int .u8 0, .int .u8 0, .int .u8 0, .int .u8 0, .int .u8 0, .int .u8 0, .int .u8 0, .int .u8 0, .int .u8 0, .int .u8 0, .int .u8 0, .int .u8 0, .int .u8 0, .int .u8 0, .int .u8 0, .int .u8 0, .int .u8 0, .int .u8 0, .int .u8 0, .int .u8 0, .int .u8 0, .int .u8 0, .int .u8 0, .int .u8 0, .int .u8 0, .int .u8 0, .int .u8 0, .int .u8 0, .int .u8 0, .int .u8 0, .int .u8 0, .int .u8 0, .int .u8 0, .int .u8 0, .int .u8 0, .int .u8 0, .int .u8 0, .int .u8 0, .int .u8 0, .int .u8 0, .int .u8 0, .int .u8 0, .int .u8 0, .int .u8 0, .int .u8 0, .int .u8 0, .int .u8 0, .int .u8 0, .int .u8 0, .int .u8 0, .int .u8 0, .int .u8 0, .int .u8 0, .int .u8 0, .int .u8 0, .int .u8 0, .int .u8 0, .int .u8 0, .int .u8 0, .int .u8 0, .int .u8 0, .int .u8 0, .int .u8 0, .int .u8 0, .int .u8 0, .int .u8 0, .int .u8 0, .int .u8 0, .int .u8 0, .int .u8 0, .int .u8 0, .int .u8 0, .int .u8 0, .int .u8 0, .int .u8 0, .int .u8 0, .int .u8 0, .int .u8 0, .int .u8 0, .int .u8 0, .int .u8 0, .int .u8 0, .int .u8 0, .int .u8 0, .int .u8 0, .int .u8 0, .int .u8 0, .int .u8 0, .int .u8 0, .int .u8 0, .int .u8 0, .int .u8 0, .int .u8 0, .int .u8 0, .int .u8 0, .int .u8 0, .int .u8 0, .int .u8 0, .int .u8 0, .int .u8 0, .int .u8 0, .int .u8 0, .int .u8 0, .int .u8 0, .int .u8 0, .int .u8 0, .int .u8 0, .int .u8 0, .int .u8 0, .int .u8 0, .int .u8 0, .int .u8 0, .int .u8 0, .int .u8 0, .int .u8 0, .int .u8 0, .int .u8 0, .int .u8 0, .int .u8 0, .int .u8 0, .int .u8 0, .int .u8 0, .int .u8 0, .int .u8 0, .int .u8 0, .int .u8 0, .int .u8 0, .int .u8 0, .int .u8 0, .int .u8 0, .int .u8 0, .int .u8 0, .int .u8 0, .int .u8 0, .int .u8 0, .int .u8 0, .int .u8 0, .int .u8 0, .int .u8 0, .int .u8 0, .int .u8 0, .int .u8 0, .int .u8 0, .int .u8 0, .int .u8 0, .int .u8 0, .int .u8 0, .int .u8 0, .int .u8 0, .int .u8 0, .int .u8 0, .int .u8 0, .int .u8 0, .int .u8 0, .int .u8 0, .int .u8 0] ai.nL
def z3:Obj:= .cells #[.int .i64 0, .int .u64 0, .slice none 0 0] ai.Ia
def z4:Obj:= .cells #[.slice none 0 0, .int .i64 0] ai.uw
def z5:Obj:= .cells #[.int .u8 97] ai.uint8
def a8:bG:=(.s .r (.c (.s .r .l) .l))
def m4:bG:=(.s .r (.s (.c .l .l) (.s (.db (.s .r a8)) .r)))
def ig:bG:=(.s .r (.s a8 (.s .r .l)))
def lk:bG:=(.s .r (.s (.s .r (.db (.loop [(8,(.int .i64))] [0,1,7] m4))) (.s .r .l)))
def kQ:bG:=(.s a8 (.s .r (.s .r .l)))
def l_:bG:=(.s .r (.s (.db (.s .r (.c (.s .r .l) a8))) (.s .r (.s .r .l))))
def cQ:bG:=(.s .r (.s (.c .l .l) (.s (.db (.s .r .r)) .r)))
def a3:bG:=(.s .r (.s (.gn [.run, .run, .run, .pure 2]) .l))
def a4:bG:=(.s .r (.s .r (.s .r .l)))
def a5:bG:=(.s (.gn [.run, .run, .run, .pure 2]) (.c (.s .r .l) .l))
def hW:bG:=(.s .r (.s (.gn [.run, .run, .run, .pure 2, .run, .run, .run, .split 7]) .l))
def jr:bG:=(.c (.s .r (.s .r .l)) .l)
def lJ:bG:=(.s (.gn [.run, .run, .run, .split 3]) (.c (.s .r .l) .l))
def a9:bG:=(.s (.gn [.run, .run, .run, .pure 3]) (.c (.s .r .l) .l))
def kj:bG:=(.s .r (.s (.gn [.run, .run, .run, .run, .pure 3]) .l))
theorem okF {f:Nat} {fn:Func} (A:bG) {args:List Value} {w:World} {Q:Value→World→Prop} {p:Prop} (aI:Tryz.prog.funcs[f]? =some fn) (U:E3 fn args.length=true) (ab:p=Hm Tryz.prog aK A fn args w Q) (h:p):aR Tryz.prog f args.toArray w Q:=ap3 Ut aI U (Eq.mp ab h)
def IC (oP:World) (dM:World) (aw:World) (Bg:Bool) (Q:Value→World→Prop):Prop:=ar oP (Addr.add (ah dM) 1) fun g1=>ar oP (Addr.add (ah dM) 2) fun qq=>ar oP (Addr.add (ah dM) 3) fun j_=>cN oP (ah aw)
 [.bool Bg, .slice g1.a g1.len g1.cap, .slice qq.a qq.len qq.cap, .slice j_.a j_.len j_.cap]∧(4:Nat)=4∧az (setCells oP (ah aw) 0 [.bool Bg, .slice g1.a g1.len g1.cap, .slice qq.a qq.len qq.cap, .slice j_.a
 j_.len j_.cap]) fun vH=>bJ vH (ah aw) fun Mo=>ar vH (Addr.add (ah aw) 1) fun xr=>ar vH (Addr.add (ah aw) 2) fun iH=>ar vH (Addr.add (ah aw) 3) fun iI=>Q (.tuple #[.agg #[.bool Mo, .slice xr.a xr.len
 xr.cap, .slice iH.a iH.len iH.cap, .slice iI.a iI.len iI.cap], .bool true]) vH
def IB (lB:World) (aw:World) (Q:Value→World→Prop) (FY:Bool):Prop:=ar lB (Addr.add (ah aw) 1) fun xp=>ar lB (Addr.add (ah aw) 2) fun xq=>ar lB (Addr.add (ah aw) 3) fun iG=>Q (.tuple #[.agg #[.bool FY, .slice
 xp.a xp.len xp.cap, .slice xq.a xq.len xq.cap, .slice iG.a iG.len iG.cap], .bool false]) lB
def Mt (hV:ad) (gl:World) (pd:World) (dM:World) (sK:World→Prop):Prop:=∃h6:ad,∃qp:World,Sem.run Tryz.prog (Builtin.append_ #[ai.cz,ai.cz] ai.cz #[.slice hV.a hV.len hV.cap,
 .slice (some (ah gl)) 1 1]) pd= .ok (.slice h6.a h6.len h6.cap) qp∧st qp (Addr.add (ah dM) 1) (.slice h6.a h6.len h6.cap) fun FX=>sK FX
def cx (gF:World) (dM:World) (tt:Bool) (ib:ad) (jw:ad) (nw:ad) (sk:World) (uT:Bool) (fN:ad) (pw:ad) (ic:ad) (w:World) (key:ad) (aw:World) (Q:Value→World→Prop):Prop:=cN gF (ah dM)
 [.bool tt, .slice ib.a ib.len ib.cap, .slice jw.a jw.len jw.cap, .slice nw.a nw.len nw.cap]∧(4:Nat)=4∧az (setCells gF (ah dM) 0 [.bool tt, .slice ib.a ib.len ib.cap, .slice jw.a jw.len jw.cap, .slice nw.a nw.len
 nw.cap]) fun hG=>cN hG (ah sk) [.bool uT, .slice fN.a fN.len fN.cap, .slice pw.a pw.len pw.cap, .slice ic.a ic.len ic.cap]∧(4:Nat)=4∧az (setCells hG (ah sk) 0 [.bool uT, .slice fN.a fN.len fN.cap, .slice
 pw.a pw.len pw.cap, .slice ic.a ic.len ic.cap]) fun xl=>c7 (fun sK:World→Prop=>bJ xl (ah w) fun xm=>aE (!xm) (az (xl.drew) fun pT=>∃DP:Nat→Prop,¬DP (Addr.add (ah dM) 1).block∧ar pT (Addr.add (ah dM) 1)
 fun hV=>en F.lu #[.slice key.a key.len key.cap] pT fun od gl=>aq DP pT gl∧az (gl.alloc (.cells #[.slice od.a od.len od.cap] ai.cG)) fun pd=>aq DP gl pd∧Mt hV gl pd dM sK) (sK
 xl)) (fun vF=>ar vF (Addr.add (ah dM) 1) fun gy=>ar vF (Addr.add (ah sk) 1) fun gz=>∃h7:ad,∃g3:World,Sem.run Tryz.prog (Builtin.append_ #[ai.cz,ai.cz] ai.cz #[.slice gy.a gy.len gy.cap,
 .slice gz.a gz.len gz.cap]) vF= .ok (.slice h7.a h7.len h7.cap) g3∧st g3 (Addr.add (ah dM) 1) (.slice h7.a h7.len h7.cap) fun lA=>ar lA (Addr.add (ah dM) 2) fun j0=>ar lA (Addr.add (ah sk) 2) fun nK=>∃sL:ad,
 ∃y1:World,Sem.run Tryz.prog (Builtin.append_ #[ai.cz,ai.cz] ai.cz #[.slice j0.a j0.len j0.cap, .slice nK.a nK.len nK.cap]) lA= .ok (.slice sL.a sL.len sL.cap) y1∧st y1 (Addr.add (ah dM) 2)
 (.slice sL.a sL.len sL.cap) fun xn=>ar xn (Addr.add (ah dM) 3) fun lT=>ar xn (Addr.add (ah sk) 3) fun oO=>∃pU:ad,∃y2:World,Sem.run Tryz.prog (Builtin.append_ #[ai.dD,ai.dD] ai.dD #[.slice lT.a lT.len
 lT.cap, .slice oO.a oO.len oO.cap]) xn= .ok (.slice pU.a pU.len pU.cap) y2∧st y2 (Addr.add (ah dM) 3) (.slice pU.a pU.len pU.cap) fun vG=>bJ vG (ah dM) fun Mn=>ar vG (Addr.add (ah dM) 1) fun xo=>ar vG
 (Addr.add (ah dM) 2) fun j1=>ar vG (Addr.add (ah dM) 3) fun iF=>aZ F.mP #[.agg #[.bool Mn, .slice xo.a xo.len xo.cap, .slice j1.a j1.len j1.cap, .slice iF.a iF.len iF.cap]] vG fun IV oP=>aE (!IV) (cN
 oP (ah aw) [.bool false, .slice none 0 0, .slice none 0 0, .slice none 0 0]∧(4:Nat)=4∧az (setCells oP (ah aw) 0 [.bool false, .slice none 0 0, .slice none 0 0, .slice none 0 0]) fun lB=>bJ lB (ah aw) fun FY=>IB lB aw Q
 FY) (bJ oP (ah dM) fun Bg=>IC oP dM aw Bg Q))
def Jv (dX:World) (cX:World) (uU:Bool) (nx:ad) (gx:ad) (ed:ad) (E9:World→Prop):Prop:=cN dX (ah cX) [.bool uU, .slice nx.a nx.len nx.cap, .slice gx.a gx.len gx.cap, .slice ed.a ed.len ed.cap]∧(4
 :Nat)=4∧az (setCells dX (ah cX) 0 [.bool uU, .slice nx.a nx.len nx.cap, .slice gx.a gx.len gx.cap, .slice ed.a ed.len ed.cap]) fun fB=>E9 fB
def Nd (pk:World) (iR:World) (ux:Bool) (k_:ad) (ld:ad) (lf:ad) (wg:Bool) (Q:Value→World→Prop) (c:Option Addr) (n31:Int):Prop:=cN pk (ah iR) [.bool ux, .slice k_.a k_.len k_.cap,
 .slice ld.a ld.len ld.cap, .slice lf.a lf.len lf.cap]∧(4:Nat)=4∧az (setCells pk (ah iR) 0 [.bool ux, .slice k_.a k_.len k_.cap, .slice ld.a ld.len ld.cap, .slice lf.a lf.len lf.cap]) fun lg=>
 aE (!wg) (Q (.tuple #[.slice none 0 0, .int .i64 0, .int .i64 0, .int .i64 4]) lg) (bJ lg (ah iR) fun Em=>ar lg (Addr.add (ah iR) 1) fun nT=>ar lg (Addr.add (ah iR) 2) fun p2=>ar lg (Addr.add (ah iR) 3) fun
 p3=>fK F.q5 #[.pointer c, .agg #[.bool Em, .slice nT.a nT.len nT.cap, .slice p2.a p2.len p2.cap, .slice p3.a p3.len p3.cap]] lg fun p4 En Jl=>Q (.tuple #[.slice p4.a p4.len p4.cap, .int
 .i64 n31, .int .i64 (ay (n31+2)), .int .i64 En]) Jl)
def dz (lA:World) (dp:World) (tc:Bool) (h6:ad) (ix:ad) (iS:ad) (np:Nat→Prop) (g3:World) (td:Bool) (gy:ad) (gz:ad) (h7:ad) (up:Option Addr) (n36:Int) (w:World) (dM:World) (n31:Int) (Q:Value
 →World→Prop) (c:Option Addr):Prop:=cN lA (ah dp) [.bool tc, .slice h6.a h6.len h6.cap, .slice ix.a ix.len ix.cap, .slice iS.a iS.len iS.cap]∧(4:Nat)=4∧az (setCells lA (ah dp) 0 [.bool tc, .slice h6.a
 h6.len h6.cap, .slice ix.a ix.len ix.cap, .slice iS.a iS.len iS.cap]) fun wi=>aq np lA wi∧cN wi (ah g3) [.bool td, .slice gy.a gy.len gy.cap, .slice gz.a gz.len gz.cap, .slice h7.a h7.len h7.cap]∧(4:
 Nat)=4∧az (setCells wi (ah g3) 0 [.bool td, .slice gy.a gy.len gy.cap, .slice gz.a gz.len gz.cap, .slice h7.a h7.len h7.cap]) fun k0=>c7 (fun B2:World→Prop=>∃B3:Addr,up=some B3∧bL k0 (B3.add 5) fun zt
 =>aE (decide (n36>zt)) (az (k0.drew) fun hX=>∃wa:Nat→Prop,¬wa ((ah w):Addr).block∧bJ hX (ah w) fun pQ=>ar hX (Addr.add (ah w) 1) fun hZ=>ar hX (Addr.add (ah w) 2) fun h4=>ar hX (Addr.add (ah w) 3) fun h5
 =>¬wa ((ah dM):Addr).block∧bJ hX (ah dM) fun zu=>ar hX (Addr.add (ah dM) 1) fun j1=>ar hX (Addr.add (ah dM) 2) fun iF=>ar hX (Addr.add (ah dM) 3) fun lZ=>cN hX (ah dp) [.bool pQ, .slice hZ.a hZ.len
 hZ.cap, .slice h4.a h4.len h4.cap, .slice h5.a h5.len h5.cap]∧(4:Nat)=4∧az (setCells hX (ah dp) 0 [.bool pQ, .slice hZ.a hZ.len hZ.cap, .slice h4.a h4.len h4.cap, .slice h5.a h5.len h5.cap]) fun wb=>aq wa hX
 wb∧Jv wb g3 zu j1 iF lZ B2) (B2 k0)) (fun lB=>az (lB.drew) fun fh=>∃l0:Nat→Prop,¬l0 ((ah dp):Addr).block∧bJ fh (ah dp) fun xM=>ar fh (Addr.add (ah dp) 1) fun iG=>ar fh (Addr.add (ah dp) 2) fun
 l1=>ar fh (Addr.add (ah dp) 3) fun g1=>∃wc:Addr,up=some wc∧¬l0 ((wc.add 1).add 1).block∧ar fh ((wc.add 1).add 1) fun j_=>∃we:Addr,j_.a=some we∧aX n31 j_.len∧¬l0 (we.add (Int.toNat n31*
 1)).block∧ar fh (we.add (Int.toNat n31*1)) fun l2=>¬l0 ((ah g3):Addr).block∧bJ fh (ah g3) fun xN=>ar fh (Addr.add (ah g3) 1) fun iH=>ar fh (Addr.add (ah g3) 2) fun iI=>ar fh (Addr.add (ah g3) 3) fun
 l3=>(e6 F.pg #[.agg #[.bool xM, .slice iG.a iG.len iG.cap, .slice l1.a l1.len l1.cap, .slice g1.a g1.len g1.cap], .slice l2.a l2.len l2.cap, .agg #[.bool xN, .slice iH.a iH.len iH.cap, .slice iI.a
 iI.len iI.cap, .slice l3.a l3.len l3.cap]] fh fun ux k_ ld lf wg iR=>aq l0 fh iR∧az (iR.alloc c8) fun pk=>aq l0 iR pk∧Nd pk iR ux k_ ld lf wg Q c n31)∧(az (fh.alloc c8) fun
 uy=>aq l0 fh uy∧e6 F.pg #[.agg #[.bool xM, .slice iG.a iG.len iG.cap, .slice l1.a l1.len l1.cap, .slice g1.a g1.len g1.cap], .slice l2.a l2.len l2.cap, .agg #[.bool xN, .slice iH.a iH.len iH.cap,
 .slice iI.a iI.len iI.cap, .slice l3.a l3.len l3.cap]] uy fun zv mH nU nV zw wh=>aq l0 uy wh∧Nd wh fh zv mH nU nV zw Q c n31))
def ey (E_:World) (eJ:World) (ag:World) (Q:Value→World→Prop):Prop:=bJ E_ (ah eJ) fun uT=>IC E_ eJ ag uT Q
def Mi (kh:World) (cj:World) (ag:World) (rX:Bool) (Q:Value→World→Prop):Prop:=ar kh (Addr.add (ah cj) 1) fun qC=>ar kh (Addr.add (ah cj) 2) fun qD=>ar kh (Addr.add (ah cj) 3) fun nR=>cN kh (ah ag)
 [.bool rX, .slice qC.a qC.len qC.cap, .slice qD.a qD.len qD.cap, .slice nR.a nR.len nR.cap]∧(4:Nat)=4∧az (setCells kh (ah ag) 0 [.bool rX, .slice qC.a qC.len qC.cap, .slice qD.a qD.len qD.cap, .slice nR.a nR.len
 nR.cap]) fun qE=>bJ qE (ah ag) fun xm=>ar qE (Addr.add (ah ag) 1) fun k9=>ar qE (Addr.add (ah ag) 2) fun lY=>ar qE (Addr.add (ah ag) 3) fun hV=>Q (.agg #[.bool xm, .slice k9.a k9.len k9.cap, .slice lY.a lY.len
 lY.cap, .slice hV.a hV.len hV.cap]) qE
def s7 (gR:World) (cj:World) (mx:Array Value) (l:ad) (w:World) (to:Int) (ag:World) (Q:Value→World→Prop):Prop:=cN gR (ah cj) (Array.toList mx)∧Array.size mx=4∧az (setCells gR (ah cj) 0
 (Array.toList mx)) fun cX=>∃ (Eh:Int→World→Prop) (Jg:Int→World→Nat),Eh 0 cX∧∀ (n19:Int) (cE:World),Eh n19 cE→aE (decide (n19<(l.len:Int))) (∃kJ:Addr,l.a=some kJ∧aX n19 l.len∧ar cE (kJ.add
 (Int.toNat n19*2)) fun fM=>bL cE ((kJ.add (Int.toNat n19*2)).add 1) fun n23=>az (cE.alloc z4) fun dm=>cN dm (ah cE) [.slice fM.a fM.len fM.cap, .int .i64 n23]∧(2:Nat)=2∧az (setCells dm (ah cE) 0 [.slice
 fM.a fM.len fM.cap, .int .i64 n23]) fun fv=>c7 (fun BV:World→Prop=>ar fv (ah cE) fun ed=>aE (!(Option.isNone ed.a)) (ar fv (Addr.add (ah cj) 1) fun e4=>ar fv (ah cE) fun iL=>az (fv.alloc (.cells #[.slice iL.a
 iL.len iL.cap] ai.cG)) fun gD=>Mt e4 fv gD cj BV) (BV fv)) (fun eS=>ar eS (Addr.add (ah cj) 3) fun fV=>bL eS (Addr.add (ah cE) 1) fun n36=>az (eS.alloc (.cells #[.int .i64 n36] ai.int)) fun lX=>∃dw:ad,
 ∃kN:World,Sem.run Tryz.prog (Builtin.append_ #[ai.dD,ai.dD] ai.dD #[.slice fV.a fV.len fV.cap, .slice (some (ah eS)) 1 1]) lX= .ok (.slice dw.a dw.len dw.cap) kN∧st kN (Addr.add (ah cj) 3) (.slice dw.a
 dw.len dw.cap) fun s0=>Eh (ay (n19+1)) s0∧Jg (ay (n19+1)) s0<Jg n19 cE)) (az (cE.drew) fun dO=>¬False∧ar dO (Addr.add (ah cj) 1) fun k8=>¬False∧ar dO (Addr.add (ah w) 1) fun iN=>((0:Int)≤(ay (to-
 1))∧(ay (to-1))≤(iN.len:Int))∧∃ib:ad,∃jf:World,Sem.run Tryz.prog (Builtin.append_ #[ai.cz,ai.cz] ai.cz #[.slice k8.a k8.len k8.cap, .slice (bf iN.a 1 (Int.toNat (ay (to-1))) iN.cap)
 (iN.len-(Int.toNat (ay (to-1)))) (iN.cap-(Int.toNat (ay (to-1))))]) dO= .ok (.slice ib.a ib.len ib.cap) jf∧st jf (Addr.add (ah cj) 1) (.slice ib.a ib.len ib.cap) fun kg=>az (kg.drew) fun dM=>¬False∧ar dM
 (Addr.add (ah cj) 3) fun nQ=>¬False∧ar dM (Addr.add (ah w) 3) fun jL=>((0:Int)≤to∧to≤(jL.len:Int))∧∃fN:ad,∃qB:World,Sem.run Tryz.prog (Builtin.append_ #[ai.dD,ai.dD] ai.dD #[.slice nQ.a nQ.len
 nQ.cap, .slice (bf jL.a 1 (Int.toNat to) jL.cap) (jL.len-(Int.toNat to)) (jL.cap-(Int.toNat to))]) dM= .ok (.slice fN.a fN.len fN.cap) qB∧st qB (Addr.add (ah cj) 3) (.slice fN.a fN.len fN.cap) fun kh=>bJ kh (ah
 cj) fun rX=>Mi kh cj ag rX Q)
def pR (OF:Array Value) (gF:World) (Av:Nat→Prop) (OG:Array Value) (ag:World) (aw:World) (Q:Value→World→Prop) (ic:ad):Prop:=iE F.fg #[.agg OF] gF fun aco ix iS tu CJ=>aq Av gF CJ∧iE
 F.fg #[.agg OG] CJ fun OH ye qb j0 ml=>aq Av CJ ml∧cN ml (ah ag) [.bool aco, .slice ix.a ix.len ix.cap, .slice iS.a iS.len iS.cap, .slice tu.a tu.len tu.cap]∧(4:Nat)=4∧az (setCells ml (ah ag) 0
 [.bool aco, .slice ix.a ix.len ix.cap, .slice iS.a iS.len iS.cap, .slice tu.a tu.len tu.cap]) fun k0=>aq Av ml k0∧cN k0 (ah aw) [.bool OH, .slice ye.a ye.len ye.cap, .slice qb.a qb.len qb.cap, .slice j0.a
 j0.len j0.cap]∧(4:Nat)=4∧az (setCells k0 (ah aw) 0 [.bool OH, .slice ye.a ye.len ye.cap, .slice qb.a qb.len qb.cap, .slice j0.a j0.len j0.cap]) fun kZ=>bJ kZ (ah ag) fun FW=>ar kZ (Addr.add (ah ag) 1) fun pc=>
 ar kZ (Addr.add (ah ag) 2) fun lT=>ar kZ (Addr.add (ah ag) 3) fun oO=>bJ kZ (ah aw) fun pQ=>ar kZ (Addr.add (ah aw) 1) fun hZ=>ar kZ (Addr.add (ah aw) 2) fun h4=>ar kZ (Addr.add (ah aw) 3) fun h5=>Q (.tuple #[.agg
 #[.bool FW, .slice pc.a pc.len pc.cap, .slice lT.a lT.len lT.cap, .slice oO.a oO.len oO.cap], .slice ic.a ic.len ic.cap, .agg #[.bool pQ, .slice hZ.a hZ.len hZ.cap, .slice h4.a h4.len h4.cap, .slice h5.a h5.len
 h5.cap], .bool true]) kZ
def pb (dL:World) (ag:World) (Q:Value→World→Prop):Prop:=bJ dL (ah ag) fun Uu=>IB dL ag Q Uu
def DG (mK:World) (bt:World) (ag:World) (Q:Value→World→Prop):Prop:=bJ mK (ah bt) fun Uv=>Mi mK bt ag Uv Q
def MO (bC:World) (w:World) (Q:Value→World→Prop) (n7:Int):Prop:=bJ bC (ah w) fun ju=>ar bC (Addr.add (ah w) 1) fun fj=>ar bC (Addr.add (ah w) 2) fun eF=>ar bC (Addr.add (ah w) 3) fun iM=>Q (.tuple #[.agg #[.bool
 ju, .slice fj.a fj.len fj.cap, .slice eF.a eF.len eF.cap, .slice iM.a iM.len iM.cap], .int .i64 n7]) bC
def Wl (ia:ad) (n34:Int) (mK:World) (bt:World) (KC:Int→World→Prop) (OI:Int→World→Nat):Prop:=∃a36:Addr,ia.a=some a36∧aX n34 ia.len∧ar mK (a36.add (Int.toNat n34*1)) fun jx=>az (mK.drew) fun iT
 =>∃Uw:Nat→Prop,¬Uw (Addr.add (ah bt) 2).block∧ar iT (Addr.add (ah bt) 2) fun ei=>en F.lu #[.slice jx.a jx.len jx.cap] iT fun iN dO=>aq Uw iT dO∧az (dO.alloc (.cells #[.slice iN.a
 iN.len iN.cap] ai.cG)) fun mZ=>aq Uw dO mZ∧∃jw:ad,∃kg:World,Sem.run Tryz.prog (Builtin.append_ #[ai.cz,ai.cz] ai.cz #[.slice ei.a ei.len ei.cap, .slice (some (ah dO)) 1 1]) mZ=
 .ok (.slice jw.a jw.len jw.cap) kg∧st kg (Addr.add (ah bt) 2) (.slice jw.a jw.len jw.cap) fun dM=>KC (ay (n34+1)) dM∧OI (ay (n34+1)) dM<OI n34 mK
def Wk (dZ:ad) (n17:Int) (ef:World) (bt:World) (tv:Int→World→Prop) (yf:Int→World→Nat):Prop:=∃tw:Addr,dZ.a=some tw∧aX n17 dZ.len∧ar ef (tw.add (Int.toNat n17*1)) fun eM=>az (ef.drew) fun dX
 =>∃vm:Nat→Prop,¬vm (Addr.add (ah bt) 1).block∧ar dX (Addr.add (ah bt) 1) fun ff=>en F.lu #[.slice eM.a eM.len eM.cap] dX fun gx dm=>aq vm dX dm∧az (dm.alloc (.cells #[.slice gx.a
 gx.len gx.cap] ai.cG)) fun kr=>aq vm dm kr∧∃e4:ad,∃fG:World,Sem.run Tryz.prog (Builtin.append_ #[ai.cz,ai.cz] ai.cz #[.slice ff.a ff.len ff.cap, .slice (some (ah dm)) 1 1]) kr=
 .ok (.slice e4.a e4.len e4.cap) fG∧st fG (Addr.add (ah bt) 1) (.slice e4.a e4.len e4.cap) fun gD=>tv (ay (n17+1)) gD∧yf (ay (n17+1)) gD<yf n17 ef
def FP (tm:Bool) (o4:Bool→World→Prop) (bt:World) (w:World):Prop:=aE (!tm) (o4 true bt) (bJ bt (ah w) fun sd=>ar bt (Addr.add (ah w) 1) fun dZ=>ar bt (Addr.add (ah w) 2) fun fp=>ar bt (Addr.add (ah w) 3) fun fa
 =>aZ F.mP #[.agg #[.bool sd, .slice dZ.a dZ.len dZ.cap, .slice fp.a fp.len fp.cap, .slice fa.a fa.len fa.cap]] bt fun Cn fC=>o4 (!Cn) fC)
def PY (bT:World) (aw:World) (ag:World) (xY:World→Prop):Prop:=az (bT.drew) fun bY=>∃Ux:Nat→Prop,¬Ux (Addr.add (ah aw) 3).block∧ar bY (Addr.add (ah aw) 3) fun eF=>aS F.vc #[.pointer (some (ah
 ag)), .int .i64 2] bY fun n14 cL=>aq Ux bY cL∧az (cL.alloc (.cells #[.int .i64 n14] ai.int)) fun gR=>aq Ux cL gR∧∃fa:ad,∃fC:World,Sem.run Tryz.prog (Builtin.append_ #[ai.dD,ai.dD] ai.dD #[.slice
 eF.a eF.len eF.cap, .slice (some (ah cL)) 1 1]) gR= .ok (.slice fa.a fa.len fa.cap) fC∧st fC (Addr.add (ah aw) 3) (.slice fa.a fa.len fa.cap) fun ef=>xY ef
def Ik (iT:World) (w:World) (Q:Value→World→Prop):Prop:=bJ iT (ah w) fun Uy=>ar iT (Addr.add (ah w) 1) fun ei=>ar iT (Addr.add (ah w) 2) fun px=>ar iT (Addr.add (ah w) 3) fun k8=>Q (.tuple #[.agg #[.bool Uy,
 .slice ei.a ei.len ei.cap, .slice px.a px.len px.cap, .slice k8.a k8.len k8.cap], .int .i64 4]) iT
def QA (fa:ad) (ln:ad) (dH:World) (ri:Nat→Prop) (KD:Option Nat) (i:Int) (d:Option Addr) (Q:Value→World→Prop):Prop:=∃eM:ad,∃dX:World,Sem.run Tryz.prog (Builtin.append_ #[ai.sO,
 ai.sO] ai.sO #[.slice fa.a fa.len fa.cap, .slice ln.a ln.len ln.cap]) dH= .ok (.slice eM.a eM.len eM.cap) dX∧aq ri dH dX∧∃dL:World,Sem.run Tryz.prog (Instr.mapUpdate ai.y3
 (.map KD) (.int .i64 i) (.slice eM.a eM.len eM.cap)) dX= .ok () dL∧∃a23:Addr,d=some a23∧bL dL (a23.add 6) fun n24=>∃a25:Addr,d=some a25∧st dL (a25.add 6) (.int .i64 (ay (n24+1))) fun cT=>Q (.int .i64 0) cT
def PG (jx:ad):Prop:=(0:Int)≤(ay (232-(jx.len:Int)))∧((ay (232-(jx.len:Int))):Int)≤(ay (232-(jx.len:Int)))∧((ay (232-(jx.len:Int))):Int)≤wW∧((1:Nat):Int)*(ay (232-(jx.len:Int)))≤
 140737488355328
def PH (kN:World) (dk:ad) (eS:World) (j4:ad) (iT:World) (jx:ad) (Fa:ad→World→Prop):Prop:=az (kN.alloc (.cells #[.slice dk.a dk.len dk.cap, .slice (some (ah eS)) (Int.toNat 4) (Int.toNat 4), .slice j4.a
 j4.len j4.cap, .slice (some (ah iT)) (Int.toNat (ay (232-(jx.len:Int)))) (Int.toNat (ay (232-(jx.len:Int))))] ai.cG)) fun s0=>en F.rD #[.slice (some (ah kN)) 4 4] s0 fun iN dO=>Fa iN dO
def PK (bC:World) (w:World) (Q:Value→World→Prop):Prop:=bL bC (ah w) fun n9=>jX bC (Addr.add (ah w) 1) fun n10=>ar bC (Addr.add (ah w) 2) fun eF=>Q (.tuple #[.agg #[.int .i64 n9, .int .u64 n10, .slice eF.a eF.len
 eF.cap], .int .i64 4]) bC
def Qy (bT:World) (w:World) (Hp:List Value) (Q:Value→World→Prop):Prop:=cN bT (ah w) (Array.toList Hp.toArray)∧Array.size Hp.toArray=256∧az (setCells bT (ah w) 0 (Array.toList Hp.toArray)) fun bC=>∃y7:List
 Value,eE bC (ah w) 0 256=some y7∧Q (.agg y7.toArray) bC
def Nc (gF:World) (dM:World) (uT:Bool) (fN:ad) (pw:ad) (ic:ad) (lh:Int) (Q:Value→World→Prop) (c:Option Addr) (n41:Int) (w:World) (up:Option Addr) (n36:Int) (n31:Int):Prop:=cN gF (ah dM)
 [.bool uT, .slice fN.a fN.len fN.cap, .slice pw.a pw.len pw.cap, .slice ic.a ic.len ic.cap]∧(4:Nat)=4∧az (setCells gF (ah dM) 0 [.bool uT, .slice fN.a fN.len fN.cap, .slice pw.a pw.len pw.cap, .slice ic.a ic.len
 ic.cap]) fun hG=>aE (lh !=0) (Q (.tuple #[.slice none 0 0, .int .i64 0, .int .i64 0, .int .i64 lh]) hG) (∃Jq:Addr,c=some Jq∧ar hG (Jq.add 2) fun oY=>az (hG.alloc (.cells #[.int .i64 n41] ai.int)) fun B4=>∃k9:
 ad,∃r0:World,Sem.run Tryz.prog (Builtin.append_ #[ai.dD,ai.dD] ai.dD #[.slice oY.a oY.len oY.cap, .slice (some (ah hG)) 1 1]) B4= .ok (.slice k9.a k9.len k9.cap) r0∧∃tb:Addr,c=some tb∧st r0 (tb.add
 2) (.slice k9.a k9.len k9.cap) fun gl=>az (gl.drew) fun dp=>∃np:Nat→Prop,¬np ((ah dM):Addr).block∧bJ dp (ah dM) fun tc=>ar dp (Addr.add (ah dM) 1) fun h6=>ar dp (Addr.add (ah dM) 2) fun ix=>ar dp
 (Addr.add (ah dM) 3) fun iS=>¬np ((ah w):Addr).block∧bJ dp (ah w) fun td=>ar dp (Addr.add (ah w) 1) fun gy=>ar dp (Addr.add (ah w) 2) fun gz=>ar dp (Addr.add (ah w) 3) fun h7=>(az (dp.alloc c8) fun g3=>aq np
 dp g3∧az (g3.alloc c8) fun lA=>aq np g3 lA∧dz lA dp tc h6 ix iS np g3 td gy gz h7 up n36 w dM n31 Q c)∧(az (dp.alloc c8) fun p6=>aq np dp p6∧az (p6.alloc c8) fun Et=>aq np p6 Et∧dz Et
 p6 tc h6 ix iS np dp td gy gz h7 up n36 w dM n31 Q c))
def DT (rj:Bool) (dw:ad) (fq:ad) (ei:ad) (KE:World) (iz:Nat→Prop) (dO:World) (tt:Bool) (ib:ad) (jw:ad) (nw:ad) (xO:World) (w:World) (key:ad) (aw:World) (Q:Value→World→Prop):Prop:=iE
 F.fg #[.agg #[.bool rj, .slice dw.a dw.len dw.cap, .slice fq.a fq.len fq.cap, .slice ei.a ei.len ei.cap]] KE fun aqr aqs aqt aqu acp=>aq iz KE acp∧cx acp dO tt ib jw nw xO aqr aqs aqt aqu w key aw
 Q
def P8 (cL:World) (bt:World) (iE:Array Value) (w:World) (ag:World) (Q:Value→World→Prop):Prop:=cN cL (ah bt) (Array.toList iE)∧Array.size iE=4∧az (setCells cL (ah bt) 0 (Array.toList iE)) fun cm=>ar
 cm (Addr.add (ah w) 1) fun dZ=>∃ (tv:Int→World→Prop) (yf:Int→World→Nat),tv 0 cm∧∀ (n17:Int) (ef:World),tv n17 ef→aE (decide (n17<(dZ.len:Int))) (Wk dZ n17 ef bt tv yf) (ar ef (Addr.add (ah w) 2) fun
 ia=>∃ (KC:Int→World→Prop) (OI:Int→World→Nat),KC 0 ef∧∀ (n34:Int) (mK:World),KC n34 mK→aE (decide (n34<(ia.len:Int))) (Wl ia n34 mK bt KC OI) (DG mK bt ag Q))
def Q2 (bz:World) (w:World) (Q:Value→World→Prop) (n7:Int):Prop:=cN bz (ah w) [.bool false, .slice none 0 0, .slice none 0 0, .slice none 0 0]∧(4:Nat)=4∧az (setCells bz (ah w) 0 [.bool false, .slice none 0 0,
 .slice none 0 0, .slice none 0 0]) fun bC=>MO bC w Q n7
end
section
set_option maxRecDepth 100000
def W.mi (a:ad) (b:ad) (w:World) (Q:Value→World→Prop):Prop:=∃c_:Int,∃aw:World,Sem.run Tryz.prog (callFunc F.aqm #[.slice a.a a.len a.cap, .slice b.a b.len b.cap]) w= .ok (.value (.int
 .i64 c_)) aw∧Q (.int .i64 c_) aw
def A.mi:bG:=(.s .r (.s .r .l))
theorem W.afw (a:ad) (b:ad) (w:World) (Q:Value→World→Prop) (h:W.mi a b w Q):aR Tryz.prog F.mi #[.slice a.a a.len a.cap, .slice b.a b.len b.cap] w Q:=okF A.mi Tryz.func64 (by kernel_rfl) (by kernel_rfl) h
def W.Cs (s:ad) (v:Int) (w:World) (Q:Value→World→Prop):Prop:=aS F.Cr #[.slice s.a s.len s.cap, .int .i64 v] w fun b3 ag=>Q (.bool (decide (b3≥0))) ag
def A.Cs:bG:=(.s .r (.s .r .l))
theorem W.anY (s:ad) (v:Int) (w:World) (Q:Value→World→Prop) (h:W.Cs s v w Q):aR Tryz.prog F.Cs #[.slice s.a s.len s.cap, .int .i64 v] w Q:=okF A.Cs Tryz.func103 (by kernel_rfl) (by kernel_rfl) h
def W.xb (s:ad) (i:Int) (j:Int) (w:World) (Q:Value→World→Prop):Prop:=((0:Int)≤(s.len:Int)∧(s.len:Int)≤((s.cap:Nat):Int))∧((0:Int)≤j∧j≤(((Int.toNat (s.len:Int)):Nat):
 Int))∧((0:Int)≤i∧i≤(((Int.toNat j):Nat):Int))∧aE (i==j) (Q (.slice s.a s.len s.cap) w) (az (w.drew) fun ag=>((0:Int)≤i∧i≤((s.cap:Nat):Int))∧((0:Int)≤j∧j≤(s.len:Int))∧∃s2:ad,∃bc:World,
 Sem.run Tryz.prog (Builtin.append_ #[ai.cz,ai.cz] ai.cz #[.slice (bf s.a 1 0 s.cap) ((Int.toNat i)-0) (s.cap-0), .slice (bf s.a 1 (Int.toNat j) s.cap) (s.len-(Int.toNat j)) (s.cap-(Int.toNat j))]) ag
 = .ok (.slice s2.a s2.len s2.cap) bc∧((0:Int)≤(s.len:Int)∧(s.len:Int)≤((s2.cap:Nat):Int))∧((0:Int)≤(s2.len:Int)∧(s2.len:Int)≤(((Int.toNat (s.len:Int)):Nat):Int))∧∃ (g8:Value) (bT:World),Sem.run Tryz.prog
 (Builtin.clear_ #[ai.cz] ai.t #[.slice (bf s2.a 1 (Int.toNat (s2.len:Int)) s2.cap) ((Int.toNat (s.len:Int))-(Int.toNat (s2.len:Int))) (s2.cap-(Int.toNat (s2.len:Int)))]) bc= .ok g8 bT∧Q (.slice s2.a s2.len s2.cap) bT)
def A.xb:bG:=(.s .r (.s .r (.s a8 (.s .r (.s (.eU 6 false ⟨[0,0,3,0,0,24,36,127],[0,0,3,0,0,24,36,73]⟩ [1048576,2097152,4194304,8388608,16777216,33554432,67108864,1] [1,2,3145728,
 1,4,25165824,37748736,67108864] (.take 0 (.take 1 (.take 2 (.take 3 (.take 4 (.take 5 (.tail [.run, .run])))))))) (.s .r (.s .r .l)))))))
theorem W.agu (s:ad) (i:Int) (j:Int) (w:World) (Q:Value→World→Prop) (h:W.xb s i j w Q):aR Tryz.prog F.xb #[.slice s.a s.len s.cap, .int .i64 i, .int .i64 j] w Q:=okF A.xb Tryz.func109 (by kernel_rfl) (by kernel_rfl) h
def W.BL (x:Int) (w:World) (Q:Value→World→Prop):Prop:=(0:Int)≤x∧∃c5:UInt8,QY (ByteArray.mk #[0,1,1,2,1,2,2,3,1,2,2,3,2,3,3,4,1,2,2,3,2,3,3,4,2,3,3,4,3,4,4,5,1,2,
 2,3,2,3,3,4,2,3,3,4,3,4,4,5,2,3,3,4,3,4,4,5,3,4,4,5,4,5,5,6,1,2,2,3,2,3,3,4,2,3,3,4,3,4,4,5,2,3,3,4,3,4,4,5,3,4,4,5,4,5,5,6,2,3,3,4,3,4,4,5,3,4,4,5,4,5,5,6,3,4,
 4,5,4,5,5,6,4,5,5,6,5,6,6,7,1,2,2,3,2,3,3,4,2,3,3,4,3,4,4,5,2,3,3,4,3,4,4,5,3,4,4,5,4,5,5,6,2,3,3,4,3,4,4,5,3,4,4,5,4,5,5,6,3,4,4,5,4,5,5,6,4,5,5,6,5,6,6,7,2,3,
 3,4,3,4,4,5,3,4,4,5,4,5,5,6,3,4,4,5,4,5,5,6,4,5,5,6,5,6,6,7,3,4,4,5,4,5,5,6,4,5,5,6,5,6,6,7,4,5,5,6,5,6,6,7,5,6,6,7,6,7,7,8]) (Int.toNat x)=some c5∧Q (.int .i64 (ay ((c5.toNat
 :Nat):Int))) w
def A.BL:bG:=(.s .r (.s .r .l))
theorem W.ajk (x:Int) (w:World) (Q:Value→World→Prop) (h:W.BL x w Q):aR Tryz.prog F.BL #[.int .u8 x] w Q:=okF A.BL Tryz.func117 (by kernel_rfl) (by kernel_rfl) h
def W.lu (s:ad) (w:World) (Q:Value→World→Prop):Prop:=aE (Option.isNone s.a) (Q (.slice none 0 0) w) (az (w.alloc (.cells #[] ai.uint8)) fun ag=>∃s2:ad,∃bc:World,Sem.run Tryz.prog
 (Builtin.append_ #[ai.cG,ai.cG] ai.cG #[.slice (some (ah w)) 0 0, .slice s.a s.len s.cap]) ag= .ok (.slice s2.a s2.len s2.cap) bc∧Q (.slice s2.a s2.len s2.cap) bc)
def A.lu:bG:=ig
theorem W.aeP (s:ad) (w:World) (Q:Value→World→Prop) (h:W.lu s w Q):aR Tryz.prog F.lu #[.slice s.a s.len s.cap] w Q:=okF A.lu Tryz.func119 (by kernel_rfl) (by kernel_rfl) h
def W.w_ (s:ad) (i:Int) (v:ad) (w:World) (Q:Value→World→Prop):Prop:=((0:Int)≤i∧i≤(s.len:Int))∧aE ((v.len:Int)==0) (Q (.slice s.a s.len s.cap) w) (aE (i==(s.len:Int)) (∃s1:ad,
 ∃aw:World,Sem.run Tryz.prog (Builtin.append_ #[ai.cz,ai.cz] ai.cz #[.slice s.a s.len s.cap, .slice v.a v.len v.cap]) w= .ok (.slice s1.a s1.len s1.cap) aw∧Q (.slice s1.a s1.len s1.cap) aw) (aE (decide
 (((ay ((s.len:Int)+(v.len:Int))):Int)>((s.cap:Nat):Int))) (((0:Int)≤i∧i≤((s.cap:Nat):Int))∧∃bN:ad,∃bz:World,Sem.run Tryz.prog (Builtin.append_ #[ai.cz,ai.int] ai.cz #[.slice (bf s.a 1 0
 s.cap) ((Int.toNat i)-0) (s.cap-0), .int .i64 (ay ((ay ((s.len:Int)+(v.len:Int)))-i))]) w= .ok (.slice bN.a bN.len bN.cap) bz∧((0:Int)≤i∧i≤(bN.len:Int))∧∃n5:Int,∃bd:World,Sem.run Tryz.prog (Builtin.copy_
 #[ai.cz,ai.cz] ai.int #[.slice (bf bN.a 1 (Int.toNat i) bN.cap) (bN.len-(Int.toNat i)) (bN.cap-(Int.toNat i)), .slice v.a v.len v.cap]) bz= .ok (.int .i64 n5) bd∧az (bd.drew) fun bt=>((0:Int)≤(ay (i+
 (v.len:Int)))∧(ay (i+(v.len:Int)))≤(bN.len:Int))∧((0:Int)≤i∧i≤(s.len:Int))∧∃n8:Int,∃bY:World,Sem.run Tryz.prog (Builtin.copy_ #[ai.cz,ai.cz] ai.int #[.slice (bf bN.a 1 (Int.toNat (ay (i+
 (v.len:Int)))) bN.cap) (bN.len-(Int.toNat (ay (i+(v.len:Int))))) (bN.cap-(Int.toNat (ay (i+(v.len:Int))))), .slice (bf s.a 1 (Int.toNat i) s.cap) (s.len-(Int.toNat i)) (s.cap-(Int.toNat i))]) bt= .ok (.int .i64 n8) bY∧Q
 (.slice bN.a bN.len bN.cap) bY) (((0:Int)≤(ay ((s.len:Int)+(v.len:Int)))∧(ay ((s.len:Int)+(v.len:Int)))≤((s.cap:Nat):Int))∧((0:Int)≤(ay (i+(v.len:Int)))∧(ay (i+(v.len:Int)))≤((((Int.toNat (ay ((s.len:Int)+
 (v.len:Int))))-0):Nat):Int))∧∃ov:Bool,∃bZ:World,Sem.run Tryz.prog (callFunc F.Wi #[.slice v.a v.len v.cap, .slice (bf (bf s.a 1 0 s.cap) 1 (Int.toNat (ay (i+(v.len:Int)))) (s.cap-0))
 (((Int.toNat (ay ((s.len:Int)+(v.len:Int))))-0)-(Int.toNat (ay (i+(v.len:Int))))) ((s.cap-0)-(Int.toNat (ay (i+(v.len:Int)))))]) w= .ok (.value (.bool ov)) bZ∧aE (!ov) (az (bZ.drew) fun cL=>((0:Int)≤(ay (i+
 (v.len:Int)))∧(ay (i+(v.len:Int)))≤((((Int.toNat (ay ((s.len:Int)+(v.len:Int))))-0):Nat):Int))∧((0:Int)≤i∧i≤((((Int.toNat (ay ((s.len:Int)+(v.len:Int))))-0):Nat):Int))∧∃n13:Int,∃dE:World,Sem.run
 Tryz.prog (Builtin.copy_ #[ai.cz,ai.cz] ai.int #[.slice (bf (bf s.a 1 0 s.cap) 1 (Int.toNat (ay (i+(v.len:Int)))) (s.cap-0)) (((Int.toNat (ay ((s.len:Int)+(v.len:Int))))-0)-(Int.toNat (ay (i+
 (v.len:Int))))) ((s.cap-0)-(Int.toNat (ay (i+(v.len:Int))))), .slice (bf (bf s.a 1 0 s.cap) 1 (Int.toNat i) (s.cap-0)) (((Int.toNat (ay ((s.len:Int)+(v.len:Int))))-0)-(Int.toNat i)) ((s.cap-0)-(Int.toNat i))]) cL=
 .ok (.int .i64 n13) dE∧((0:Int)≤i∧i≤((((Int.toNat (ay ((s.len:Int)+(v.len:Int))))-0):Nat):Int))∧∃n15:Int,∃cX:World,Sem.run Tryz.prog (Builtin.copy_ #[ai.cz,ai.cz] ai.int #[.slice (bf (bf
 s.a 1 0 s.cap) 1 (Int.toNat i) (s.cap-0)) (((Int.toNat (ay ((s.len:Int)+(v.len:Int))))-0)-(Int.toNat i)) ((s.cap-0)-(Int.toNat i)), .slice v.a v.len v.cap]) dE= .ok (.int .i64 n15) cX∧Q (.slice (bf s.a 1 0 s.cap)
 ((Int.toNat (ay ((s.len:Int)+(v.len:Int))))-0) (s.cap-0)) cX) (((0:Int)≤(s.len:Int)∧(s.len:Int)≤((((Int.toNat (ay ((s.len:Int)+(v.len:Int))))-0):Nat):Int))∧∃n17:Int,∃ef:World,Sem.run Tryz.prog
 (Builtin.copy_ #[ai.cz,ai.cz] ai.int #[.slice (bf (bf s.a 1 0 s.cap) 1 (Int.toNat (s.len:Int)) (s.cap-0)) (((Int.toNat (ay ((s.len:Int)+(v.len:Int))))-0)-(Int.toNat (s.len:Int))) ((s.cap-0)-(Int.toNat
 (s.len:Int))), .slice v.a v.len v.cap]) bZ= .ok (.int .i64 n17) ef∧((0:Int)≤i∧i≤((((Int.toNat (ay ((s.len:Int)+(v.len:Int))))-0):Nat):Int))∧bA F.aqn #[.slice (bf (bf s.a 1 0 s.cap) 1
 (Int.toNat i) (s.cap-0)) (((Int.toNat (ay ((s.len:Int)+(v.len:Int))))-0)-(Int.toNat i)) ((s.cap-0)-(Int.toNat i)), .int .i64 (v.len:Int)] ef fun dH=>Q (.slice (bf s.a 1 0 s.cap) ((Int.toNat (ay ((s.len:Int)+
 (v.len:Int))))-0) (s.cap-0)) dH))))
def A.w_:bG:=(.s .r (.s .r (.s .r (.s a8 (.s .r (.s a8 (.s (.s .r (.c (.s .r (.s .r (.s (.eU 8 false ⟨[0,0,0,6,9,0,0,96,144],[0,0,0,6,9,0,0,96,144]⟩ [70368744177664,140737488355328,
 281474976710656,562949953421312,1125899906842624,2251799813685248,4503599627370496,9007199254740992,18014398509481984] [512,2,128,422212465065984,633318697598976,1,2,6755399441055744,10133099161583616] (.take 0 (.take 1 (.take
 2 (.take 3 (.take 4 (.take 5 (.take 6 (.take 7 (.tail [.run])))))))))) (.s .r .l)))) .l)) (.s .r (.s (.s .r (.c (.s (.eU 8 false ⟨[0,0,0,6,9,0,0,96,144],[0,0,0,6,9,0,0,96,144]⟩ [590295810358705651712,
 1180591620717411303424,2361183241434822606848,4722366482869645213696,9444732965739290427392,18889465931478580854784,37778931862957161709568,75557863725914323419136,151115727451828646838272] [1,2,128,3541774862152233910272,
 5312662293228350865408,1,2,56668397794435742564352,85002596691653613846528] (.take 0 (.take 1 (.take 2 (.take 3 (.take 4 (.take 5 (.take 6 (.take 7 (.tail [.run])))))))))) (.s .r (.s .r .l))) .l)) a4)))))))))
theorem W.agk (s:ad) (i:Int) (v:ad) (w:World) (Q:Value→World→Prop) (h:W.w_ s i v w Q):aR Tryz.prog F.w_ #[.slice s.a s.len s.cap, .int .i64 i, .slice v.a v.len v.cap] w Q:=okF A.w_ Tryz.func120 (by kernel_rfl) (by kernel_rfl) h
def W.BJ (s:ad) (w:World) (Q:Value→World→Prop):Prop:=aE (Option.isNone s.a) (Q (.slice none 0 0) w) (az (w.alloc (.cells #[] ai.uint8)) fun ag=>∃s2:ad,∃bc:World,Sem.run Tryz.prog
 (Builtin.append_ #[ai.I9,ai.I9] ai.I9 #[.slice (some (ah w)) 0 0, .slice s.a s.len s.cap]) ag= .ok (.slice s2.a s2.len s2.cap) bc∧Q (.slice s2.a s2.len s2.cap) bc)
def A.BJ:bG:=ig
theorem W.aje (s:ad) (w:World) (Q:Value→World→Prop) (h:W.BJ s w Q):aR Tryz.prog F.BJ #[.slice s.a s.len s.cap] w Q:=okF A.BJ Tryz.func122 (by kernel_rfl) (by kernel_rfl) h
def W.Cr (s:ad) (v:Int) (w:World) (Q:Value→World→Prop):Prop:=∃ (gU:Int→World→Prop) (jy:Int→World→Nat),gU 0 w∧∀ (b3:Int) (bz:World),gU b3 bz→aE (decide (b3<(s.len:Int))) (∃a5:
 Addr,s.a=some a5∧aX b3 s.len∧bL bz (a5.add (Int.toNat b3*1)) fun n6=>aE (v==n6) (Q (.int .i64 b3) bz) (gU (ay (b3+1)) bz∧jy (ay (b3+1)) bz<jy b3 bz)) (Q (.int .i64 (-1)) bz)
def A.Cr:bG:=lk
theorem W.anW (s:ad) (v:Int) (w:World) (Q:Value→World→Prop) (h:W.Cr s v w Q):aR Tryz.prog F.Cr #[.slice s.a s.len s.cap, .int .i64 v] w Q:=okF A.Cr Tryz.func144 (by kernel_rfl) (by kernel_rfl) h
def W.A6 (x:ad) (target:ad) (cmp:qM) (w:World) (Q:Value→World→Prop):Prop:=∃ (gU:Int→Int→World→Prop) (jy:Int→Int→World→Nat),gU 0 (x.len:Int) w∧∀ (b3:Int)
 (fc:Int) (bT:World),gU b3 fc bT→aE (decide (b3<fc)) ((0:Int)≤1∧∃hW:Addr,x.a=some hW∧((0:Int)≤(ay (Int.fdiv (IntKind.wrap .u64 (ay (b3+fc))) (2^(min (Int.toNat 1) 64))))∧(ay (Int.fdiv (IntKind.wrap .u64 (ay
 (b3+fc))) (2^(min (Int.toNat 1) 64))))<(x.len:Int))∧ar bT (hW.add (Int.toNat (ay (Int.fdiv (IntKind.wrap .u64 (ay (b3+fc))) (2^(min (Int.toNat 1) 64))))*1)) fun gY=>sC Tryz.prog cmp.f∧Calls Tryz.prog cmp.f (cmp.pre
 ++ #[.slice gY.a gY.len gY.cap, .slice target.a target.len target.cap]++cmp.cap) bT fun yF bC=>∃n10:Int,yF= .returned (.int .i64 n10)∧aE (decide (n10<0)) (gU (ay ((ay (Int.fdiv (IntKind.wrap .u64 (ay (b3+fc))) (2^(min
 (Int.toNat 1) 64))))+1)) fc bC∧jy (ay ((ay (Int.fdiv (IntKind.wrap .u64 (ay (b3+fc))) (2^(min (Int.toNat 1) 64))))+1)) fc bC<jy b3 fc bT) (gU b3 (ay (Int.fdiv (IntKind.wrap .u64 (ay (b3+fc))) (2^(min (Int.toNat 1) 64)))) bC
 ∧jy b3 (ay (Int.fdiv (IntKind.wrap .u64 (ay (b3+fc))) (2^(min (Int.toNat 1) 64)))) bC<jy b3 fc bT)) (c7 (fun OJ:Bool→World→Prop=>aE (decide (b3<(x.len:Int))) (∃lk:Addr,x.a=some lk∧aX b3 x.len∧ar bT (lk.add
 (Int.toNat b3*1)) fun gT=>sC Tryz.prog cmp.f∧Calls Tryz.prog cmp.f (cmp.pre++ #[.slice gT.a gT.len gT.cap, .slice target.a target.len target.cap]++cmp.cap) bT fun Uz dE=>∃n16:Int,Uz= .returned (.int .i64 n16)∧
 OJ (n16==0) dE) (OJ false bT)) (fun (Aw:Bool) ef=>Q (.tuple #[.int .i64 b3, .bool Aw]) ef))
def A.A6:bG:=(.s .r (.s .r (.s .r (.s (.db (.loop [(9,(.int .i64)),(10,(.int .i64))] [0,1,2,8] (.s (.s .r (.c .l .l)) (.db (.s .r (.s .r (.c .r .r))))))) (.s (.gn [.run, .run,
 .run, .run, .run, .split 8]) .l)))))
theorem W.agD (x:ad) (target:ad) (cmp:qM) (w:World) (Q:Value→World→Prop) (h:W.A6 x target cmp w Q):aR Tryz.prog F.A6 #[.slice x.a x.len x.cap, .slice target.a target.len target.cap, .func (.func cmp.f) cmp.pre cmp.cap] w Q:=okF A.A6 Tryz.func146 (by kernel_rfl) (by kernel_rfl) h
def W.AY (s:ad) (f:qM) (w:World) (Q:Value→World→Prop):Prop:=aS F.Du #[.slice s.a s.len s.cap, .func (.func f.f) f.pre f.cap] w fun b3 ag=>Q (.bool
 (decide (b3≥0))) ag
def A.AY:bG:=(.s .r (.s .r .l))
theorem W.afB (s:ad) (f:qM) (w:World) (Q:Value→World→Prop) (h:W.AY s f w Q):aR Tryz.prog F.AY #[.slice s.a s.len s.cap, .func (.func f.f) f.pre f.cap] w Q:=okF A.AY Tryz.func148 (by kernel_rfl) (by kernel_rfl) h
def W.AZ (s:ad) (f:qM) (w:World) (Q:Value→World→Prop):Prop:=aS F.Dv #[.slice s.a s.len s.cap, .func (.func f.f) f.pre f.cap] w fun b3 ag=>Q (.bool (decide (b3≥0))) ag
def A.AZ:bG:=(.s .r (.s .r .l))
theorem W.afF (s:ad) (f:qM) (w:World) (Q:Value→World→Prop) (h:W.AZ s f w Q):aR Tryz.prog F.AZ #[.slice s.a s.len s.cap, .func (.func f.f) f.pre f.cap] w Q:=okF A.AZ Tryz.func150 (by kernel_rfl) (by kernel_rfl) h
def W.tX (s:ad) (w:World) (Q:Value→World→Prop):Prop:=aE (Option.isNone s.a) (Q (.slice none 0 0) w) (az (w.alloc (.cells #[] ai.int)) fun ag=>∃s2:ad,∃bc:World,Sem.run Tryz.prog (Builtin.append_
 #[ai.dD,ai.dD] ai.dD #[.slice (some (ah w)) 0 0, .slice s.a s.len s.cap]) ag= .ok (.slice s2.a s2.len s2.cap) bc∧Q (.slice s2.a s2.len s2.cap) bc)
def A.tX:bG:=ig
theorem W.agA (s:ad) (w:World) (Q:Value→World→Prop) (h:W.tX s w Q):aR Tryz.prog F.tX #[.slice s.a s.len s.cap] w Q:=okF A.tX Tryz.func151 (by kernel_rfl) (by kernel_rfl) h
def W.w5 (a:ad) (b:ad) (w:World) (Q:Value→World→Prop):Prop:=∃s1:ByteArray,∃aw:World,Sem.run Tryz.prog (convert ai.cG ai.string (.slice a.a a.len a.cap)) w= .ok (.string s1) aw∧∃bN:ByteArray,∃bz
 :World,Sem.run Tryz.prog (convert ai.cG ai.string (.slice b.a b.len b.cap)) aw= .ok (.string bN) bz∧Q (.bool (ByteArray.toList s1==ByteArray.toList bN)) bz
def A.w5:bG:=(.s .r (.s .r .l))
theorem W.afx (a:ad) (b:ad) (w:World) (Q:Value→World→Prop) (h:W.w5 a b w Q):aR Tryz.prog F.w5 #[.slice a.a a.len a.cap, .slice b.a b.len b.cap] w Q:=okF A.w5 Tryz.func167 (by kernel_rfl) (by kernel_rfl) h
end
section
set_option maxRecDepth 100000
def W.Du (s:ad) (f:qM) (w:World) (Q:Value→World→Prop):Prop:=∃ (gU:Int→World→Prop) (jy:Int→World→Nat),gU 0 w∧∀ (b3:Int) (bz:World),gU b3 bz→aE (decide (b3<(s.len:Int)))
 (∃a5:Addr,s.a=some a5∧aX b3 s.len∧ar bz (a5.add (Int.toNat b3*1)) fun c3=>sC Tryz.prog f.f∧Calls Tryz.prog f.f (f.pre++ #[.slice c3.a c3.len c3.cap]++f.cap) bz fun tO bt=>∃ju:Bool,tO= .returned (.bool ju)∧
 aE ju (Q (.int .i64 b3) bt) (gU (ay (b3+1)) bt∧jy (ay (b3+1)) bt<jy b3 bz)) (Q (.int .i64 (-1)) bz)
def A.Du:bG:=lk
theorem W.afC (s:ad) (f:qM) (w:World) (Q:Value→World→Prop) (h:W.Du s f w Q):aR Tryz.prog F.Du #[.slice s.a s.len s.cap, .func (.func f.f) f.pre f.cap] w Q:=okF A.Du Tryz.func186 (by kernel_rfl) (by kernel_rfl) h
def W.Dv (s:ad) (f:qM) (w:World) (Q:Value→World→Prop):Prop:=∃ (gU:Int→World→Prop) (jy:Int→World→Nat),gU 0 w∧∀ (b3:Int) (bz:World),gU b3 bz→aE (decide (b3<(s.len:Int))) (∃a5:
 Addr,s.a=some a5∧aX b3 s.len∧bL bz (a5.add (Int.toNat b3*1)) fun n6=>sC Tryz.prog f.f∧Calls Tryz.prog f.f (f.pre++ #[.int .i64 n6]++f.cap) bz fun tO bt=>∃ju:Bool,tO= .returned (.bool ju)∧aE ju (Q (.int .i64
 b3) bt) (gU (ay (b3+1)) bt∧jy (ay (b3+1)) bt<jy b3 bz)) (Q (.int .i64 (-1)) bz)
def A.Dv:bG:=lk
theorem W.afG (s:ad) (f:qM) (w:World) (Q:Value→World→Prop) (h:W.Dv s f w Q):aR Tryz.prog F.Dv #[.slice s.a s.len s.cap, .func (.func f.f) f.pre f.cap] w Q:=okF A.Dv Tryz.func187 (by kernel_rfl) (by kernel_rfl) h
def W.zo (s:ad) (w:World) (Q:Value→World→Prop):Prop:=aE (Option.isNone s.a) (Q (.slice none 0 0) w) (az (w.alloc (.cells #[] ai.cG)) fun ag=>∃s2:ad,∃bc:World,Sem.run Tryz.prog
 (Builtin.append_ #[ai.cz,ai.cz] ai.cz #[.slice (some (ah w)) 0 0, .slice s.a s.len s.cap]) ag= .ok (.slice s2.a s2.len s2.cap) bc∧Q (.slice s2.a s2.len s2.cap) bc)
def A.zo:bG:=ig
theorem W.akp (s:ad) (w:World) (Q:Value→World→Prop) (h:W.zo s w Q):aR Tryz.prog F.zo #[.slice s.a s.len s.cap] w Q:=okF A.zo Tryz.func193 (by kernel_rfl) (by kernel_rfl) h
end
section
set_option maxRecDepth 100000
def W.xz (n:Int) (w:World) (Q:Value→World→Prop):Prop:=aE ((decide (n<16))||(decide (n>1600))) (Q (.tuple #[.pointer none, .int .i64 1]) w) (((0:Int)≤n∧n≤n∧n≤wW∧((256:Nat):Int)*n≤
 140737488355328)∧az (w.alloc (.cells (oF Tryz.prog ai.nL (Int.toNat n)) ai.nL)) fun ag=>∃q7:Option Nat,∃bc:World,Sem.run Tryz.prog (Instr.makeMap ai.y3 none) ag= .ok (.map q7) bc∧∃fK:
 Array Value,Sem.run Tryz.prog (Instr.build ai.Mw #[(1, .slice (some (ah w)) (Int.toNat n) (Int.toNat n)),(2, .map q7)]) bc= .ok (.agg fK) bc∧az (bc.alloc (.cells fK ai.Mw)) fun bT=>∃hW:Addr,(some (ah bc):Option
 Addr)=some hW∧bA F.Bp #[.pointer (some hW)] bT fun bt=>Q (.tuple #[.pointer (some (ah bc)), .int .i64 0]) bt)
def A.xz:bG:=(.s .r (.s a5 a4))
theorem W.ahS (n:Int) (w:World) (Q:Value→World→Prop) (h:W.xz n w Q):aR Tryz.prog F.xz #[.int .i64 n] w Q:=okF A.xz Tryz.func11 (by kernel_rfl) (by kernel_rfl) h
def W.Bn (d:Option Addr) (i:Int) (b:ad) (w:World) (Q:Value→World→Prop):Prop:=aZ F.y5 #[.pointer d, .int .i64 i] w fun ek ag=>aE ((!ek)||((b.len:Int) !=256)) (Q (.int .i64 1) ag) (∃a4:Addr,
 d=some a4∧aZ F.y6 #[.pointer (some a4), .int .i64 2] ag fun kL bT=>aE kL (Q (.int .i64 3) bT) (az (bT.drew) fun bC=>∃ri:Nat→Prop,∃kj:Addr,d=some kj∧¬ri (kj.add 5).block∧∃KD:Option Nat,bC.cell?
 (kj.add 5)=some (.map KD)∧∃lk:Addr,d=some lk∧¬ri (lk.add 5).block∧∃UA:Option Nat,bC.cell? (lk.add 5)=some (.map UA)∧256≤b.len∧∃l_:Addr,b.a=some l_∧¬ri l_.block∧∃UB:List Value,eE bC
 l_ 0 256=some UB∧(∃fa:ad,∃fC:World,Sem.run Tryz.prog (Instr.lookup ai.y3 (.map UA) (.int .i64 i) false) bC= .ok (.slice fa.a fa.len fa.cap) fC∧aq ri bC fC∧∃ln:ad,∃dH:World,Sem.run
 Tryz.prog (Instr.buildSlice ai.sO 1 #[(0, .agg UB.toArray)]) fC= .ok (.slice ln.a ln.len ln.cap) dH∧aq ri fC dH∧QA fa ln dH ri KD i d Q)∧(∃ed:ad,∃fB:World,Sem.run Tryz.prog (Instr.buildSlice
 ai.sO 1 #[(0, .agg UB.toArray)]) bC= .ok (.slice ed.a ed.len ed.cap) fB∧aq ri bC fB∧∃iL:ad,∃gD:World,Sem.run Tryz.prog (Instr.lookup ai.y3 (.map UA) (.int .i64 i) false) fB= .ok (.slice
 iL.a iL.len iL.cap) gD∧aq ri fB gD∧QA iL ed gD ri KD i d Q)))
def A.Bn:bG:=(.s .r (.s (.db (.s (.gn [.run, .run, .run, .run, .run, .pure 3]) (.c (.s .r .l) a8))) (.s (.eU 16 true ⟨[0,1,2,4,0,0,32,64,128,0,768,0,2048,4096,8192,17408,65535],[0,1,2,4,0,0,32,
 64,128,0,768,0,2048,4096,8192,17408,32792]⟩ [4194304,8388608,16777216,33554432,67108864,134217728,268435456,536870912,1073741824,2147483648,4294967296,8589934592,17179869184,34359738368,68719476736,137438953472,0]
 [1,4194304,8388608,16777216,2,1,134217728,268435456,536870912,2,3221225472,4,8589934592,17179869184,34359738368,73014444032,137539616768] (.take 0 (.take 1 (.take 2 (.take 3 (.take 4 (.take 5 (.take 6 (.take 7 (.take 8
 (.take 9 (.take 11 (.take 12 (.take 13 (.two 10 (.dg 14 (.dg 15 (.tail [.run]))) 14 (.dg 10 (.dg 15 (.tail [.run])))))))))))))))))) (.s .r (.s .r .l)))))
theorem W.ahL (d:Option Addr) (i:Int) (b:ad) (w:World) (Q:Value→World→Prop) (h:W.Bn d i b w Q):aR Tryz.prog F.Bn #[.pointer d, .int .i64 i, .slice b.a b.len b.cap] w Q:=okF A.Bn Tryz.func14 (by kernel_rfl) (by kernel_rfl) h
def W.Ck (t:Option Addr) (key:ad) (w:World) (Q:Value→World→Prop):Prop:=c7 (fun ej:Bool→World→Prop=>aE (Option.isNone t) (ej true w) (aZ F.r4 #[.slice key.a key.len key.cap] w fun e9 aw=>ej (!e9)
 aw)) (fun (hL:Bool) bd=>aE hL (aE (Option.isNone t) (Q (.tuple #[.slice none 0 0, .bool false, .int .i64 1]) bd) (Q (.tuple #[.slice none 0 0, .bool false, .int .i64 0]) bd)) (fK F.xF #[.pointer t, .slice key.a key.len
 key.cap] bd fun eK n10 bt=>aE ((n10 !=0)||((eK.len:Int)==0)) (Q (.tuple #[.slice none 0 0, .bool false, .int .i64 n10]) bt) (∃ig:Addr,eK.a=some ig∧((0:Int)≤(ay ((eK.len:Int)-1))∧(ay ((eK.len:Int)-1))<
 (eK.len:Int))∧bJ bt ((ig.add (Int.toNat (ay ((eK.len:Int)-1))*6)).add 1) fun CK=>ar bt (((ig.add (Int.toNat (ay ((eK.len:Int)-1))*6)).add 1).add 1) fun gT=>ar bt (((ig.add (Int.toNat (ay ((eK.len:Int)-1))*6)).add
 1).add 2) fun dZ=>ar bt (((ig.add (Int.toNat (ay ((eK.len:Int)-1))*6)).add 1).add 3) fun fp=>az (bt.alloc c8) fun cX=>cN cX (ah bt) [.bool CK, .slice gT.a gT.len gT.cap, .slice dZ.a dZ.len dZ.cap, .slice fp.a
 fp.len fp.cap]∧(4:Nat)=4∧az (setCells cX (ah bt) 0 [.bool CK, .slice gT.a gT.len gT.cap, .slice dZ.a dZ.len dZ.cap, .slice fp.a fp.len fp.cap]) fun fC=>bJ fC (ah bt) fun sm=>ar fC (Addr.add (ah bt) 1) fun fX=>
 ar fC (Addr.add (ah bt) 2) fun eM=>ar fC (Addr.add (ah bt) 3) fun gp=>dK F.xd #[.agg #[.bool sm, .slice fX.a fX.len fX.cap, .slice eM.a eM.len eM.cap, .slice gp.a gp.len gp.cap], .slice key.a key.len key.cap] fC
 fun n24 uD dL=>aE (!uD) (Q (.tuple #[.slice none 0 0, .bool false, .int .i64 0]) dL) (ar dL (Addr.add (ah bt) 2) fun gx=>∃a27:Addr,gx.a=some a27∧aX n24 gx.len∧ar dL (a27.add (Int.toNat n24*1)) fun e4=>Q (.tuple
 #[.slice e4.a e4.len e4.cap, .bool true, .int .i64 0]) dL))))
def A.Ck:bG:=(.s .r (.s (.s (.gn [.run, .run, .run, .split 3]) (.c (.s a8 (.s .r .l)) .l)) (.s .r (.s a9 (.s .r ig)))))
theorem W.amS (t:Option Addr) (key:ad) (w:World) (Q:Value→World→Prop) (h:W.Ck t key w Q):aR Tryz.prog F.Ck #[.pointer t, .slice key.a key.len key.cap] w Q:=okF A.Ck Tryz.func21 (by kernel_rfl) (by kernel_rfl) h
def W.Cl (t:Option Addr) (key:ad) (w:World) (Q:Value→World→Prop):Prop:=c7 (fun ej:Bool→World→Prop=>aE (Option.isNone t) (ej true w) (aZ F.r4 #[.slice key.a key.len key.cap] w fun e9 aw=>ej
 (!e9) aw)) (fun (hL:Bool) bd=>aE hL (Q (.tuple #[.bool false, .int .i64 1]) bd) (fK F.xF #[.pointer t, .slice key.a key.len key.cap] bd fun eK n10 bt=>aE ((n10 !=0)||((eK.len:Int)==0)) (Q (.tuple #[.bool false, .int
 .i64 n10]) bt) (∃ig:Addr,eK.a=some ig∧((0:Int)≤(ay ((eK.len:Int)-1))∧(ay ((eK.len:Int)-1))<(eK.len:Int))∧bJ bt ((ig.add (Int.toNat (ay ((eK.len:Int)-1))*6)).add 1) fun CK=>ar bt (((ig.add (Int.toNat (ay
 ((eK.len:Int)-1))*6)).add 1).add 1) fun gT=>ar bt (((ig.add (Int.toNat (ay ((eK.len:Int)-1))*6)).add 1).add 2) fun dZ=>ar bt (((ig.add (Int.toNat (ay ((eK.len:Int)-1))*6)).add 1).add 3) fun fp=>e6 F.xh #[.agg
 #[.bool CK, .slice gT.a gT.len gT.cap, .slice dZ.a dZ.len dZ.cap, .slice fp.a fp.len fp.cap], .slice key.a key.len key.cap] bt fun sm fX eM gp se cX=>az (cX.alloc c8) fun lj=>cN lj (ah cX) [.bool sm, .slice
 fX.a fX.len fX.cap, .slice eM.a eM.len eM.cap, .slice gp.a gp.len gp.cap]∧(4:Nat)=4∧az (setCells lj (ah cX) 0 [.bool sm, .slice fX.a fX.len fX.cap, .slice eM.a eM.len eM.cap, .slice gp.a gp.len gp.cap]) fun dm
 =>aE (!se) (Q (.tuple #[.bool false, .int .i64 0]) dm) (bJ dm (ah cX) fun uD=>ar dm (Addr.add (ah cX) 1) fun gx=>ar dm (Addr.add (ah cX) 2) fun ed=>ar dm (Addr.add (ah cX) 3) fun e4=>aS F.wv #[.pointer t,
 .slice eK.a eK.len eK.cap, .agg #[.bool uD, .slice gx.a gx.len gx.cap, .slice ed.a ed.len ed.cap, .slice e4.a e4.len e4.cap]] dm fun n31 fG=>Q (.tuple #[.bool (n31==0), .int .i64 n31]) fG))))
def A.Cl:bG:=(.s .r (.s lJ (.s .r (.s a9 (.s .r kQ)))))
theorem W.am1 (t:Option Addr) (key:ad) (w:World) (Q:Value→World→Prop) (h:W.Cl t key w Q):aR Tryz.prog F.Cl #[.pointer t, .slice key.a key.len key.cap] w Q:=okF A.Cl Tryz.func22 (by kernel_rfl) (by kernel_rfl) h
def W.Co (t:Option Addr) (jP:ad) (to:ad) (most:Int) (w:World) (Q:Value→World→Prop):Prop:=az (w.alloc (.cells #[.slice jP.a jP.len jP.cap] ai.cG)) fun ag=>az (ag.alloc (.cells #[.slice
 to.a to.len to.cap] ai.cG)) fun aw=>az (aw.alloc (.cells #[.int .i64 most] ai.int)) fun bc=>aE (Option.isNone t) (Q (.tuple #[.slice none 0 0, .int .i64 1]) bc) (∃a4:Addr,t=some a4∧bL bc (a4.add 4) fun n5=>c7 (fun EC:
 Bool→World→Prop=>aE (n5==0) (EC true bc) (bL bc (ah aw) fun n7=>EC (decide (n7<1)) bc)) (fun (nW:Bool) bY=>aE nW (Q (.tuple #[.slice none 0 0, .int .i64 0]) bY) (az (bY.alloc (.cells #[.slice none 0 0] ai.uI)) fun
 cj=>az (cj.drew) fun bZ=>∃OK:Nat→Prop,∃kQ:Addr,t=some kQ∧¬OK (kQ.add 3).block∧bL bZ (kQ.add 3) fun n14=>∃m4:Addr,t=some m4∧¬OK (m4.add 4).block∧bL bZ (m4.add 4) fun n16=>¬OK ((ah w):
 Addr).block∧ar bZ (ah w) fun jQ=>aq OK bZ bZ∧GU F.Ae #[.pointer t, .int .i64 n14, .int .i64 n16, .slice jQ.a jQ.len jQ.cap, .func (.func F.wA) #[] #[.pointer (some (ah ag)), .pointer (some (ah w)),
 .pointer (some (ah bY)), .pointer (some (ah aw))]] bZ fun p9 n21 ef=>aE (n21 !=0) (Q (.tuple #[.slice none 0 0, .int .i64 n21]) ef) (ar ef (ah bY) fun fM=>Q (.tuple #[.slice fM.a fM.len fM.cap, .int .i64 0]) ef))))
def A.Co:bG:=(.s .r (.s a8 (.s (.s (.gn [.run, .run, .run, .run, .run, .run, .split 2]) (.c (.s .r .l) .l)) (.s .r (.s (.eU 16 true ⟨[0,0,2,4,8,0,32,64,128,0,0,1809,2048,4096,4096,16383,65535],[0,0,2,4,
 8,0,32,64,128,0,0,1809,2048,4096,4096,8192,16384]⟩ [33554432,67108864,134217728,268435456,536870912,1073741824,2147483648,4294967296,8589934592,17179869184,34359738368,68719476736,16777216,137438953472,
 274877906944,2048,4096] [1,1,67108864,134217728,268435456,1,1073741824,2147483648,4294967296,32,1248,60699967488,68719476736,16777216,16777216,137438953472,274877906944] (.take 0 (.take 1 (.take 2 (.take 3 (.take 4 (.take
 5 (.take 6 (.take 7 (.take 8 (.take 9 (.dg 10 (.out 11 false (.take 12 (.take 13 (.take 14 (.take 15 (.tail [.run])))))))))))))))))) (.s a8 (.s .r .l)))))))
theorem W.anJ (t:Option Addr) (jP:ad) (to:ad) (most:Int) (w:World) (Q:Value→World→Prop) (h:W.Co t jP to most w Q):aR Tryz.prog F.Co #[.pointer t, .slice jP.a jP.len jP.cap, .slice to.a to.len to.cap, .int .i64 most] w Q:=okF A.Co Tryz.func23 (by kernel_rfl) (by kernel_rfl) h
def W.x8 (c:Option Addr) (s:Option Addr) (gen:Int) (root:Int) (bu:Int) (w:World) (Q:Value→World→Prop):Prop:=c7 (fun ej:Bool→World→Prop=>aE (((((Option.isNone c)||(Option.isNone s))||(decide
 (bu<0)))||(decide (bu>12)))||(decide (root<0))) (ej true w) (∃cQ:Addr,c=some cQ∧∃gv:Option Addr,w.cell? cQ=some (.pointer gv)∧aS F.y4 #[.pointer gv] w fun n6 bz=>ej (decide (root≥n6)) bz))
 (fun (kL:Bool) bC=>aE (kL||(!((root==0)==(bu==0)))) (Q (.tuple #[.pointer none, .int .i64 1]) bC) (az (bC.alloc (.cells #[.pointer c, .pointer s, .int .u64 gen, .int .i64 root, .int .i64 bu] ai.Gh)) fun bY=>Q
 (.tuple #[.pointer (some (ah bC)), .int .i64 0]) bY))
def A.x8:bG:=(.s .r (.s (.s (.gn [.run, .run, .run, .pure 2, .run, .run, .run, .pure 2, .run, .run, .run, .pure 2, .run, .run, .run, .pure 2, .run, .run, .run, .split 7, .run, .run, .run, .run, .run, .run, .run, .run, .pure 5])
 (.c (.s .r .l) .l)) (.s .r .l)))
theorem W.aou (c:Option Addr) (s:Option Addr) (gen:Int) (root:Int) (bu:Int) (w:World) (Q:Value→World→Prop) (h:W.x8 c s gen root bu w Q):aR Tryz.prog F.x8 #[.pointer c, .pointer s, .int .u64 gen, .int .i64 root, .int .i64 bu] w Q:=okF A.x8 Tryz.func25 (by kernel_rfl) (by kernel_rfl) h
def W.Aa (t:Option Addr) (key:ad) (val:ad) (w:World) (Q:Value→World→Prop):Prop:=c7 (fun ej:Bool→World→Prop=>aE (Option.isNone t) (ej true w) (aZ F.r4 #[.slice key.a key.len key.cap] w fun e9 aw
 =>ej (!e9) aw)) (fun (hL:Bool) bd=>aE (hL||(decide ((val.len:Int)>24))) (Q (.int .i64 1) bd) (az (bd.drew) fun bt=>∃UC:Nat→Prop,∃a9:Addr,t=some a9∧¬UC (a9.add 1).block∧∃Ax:Option Addr,bt.cell? (a9.add 1)=
 some (.pointer Ax)∧∃ig:Addr,t=some ig∧¬UC (ig.add 4).block∧bL bt (ig.add 4) fun n12=>aS F.zf #[.pointer Ax] bt fun n15 cm=>aq UC bt cm∧aE (decide (n15<(ay ((ay (2*n12))+3)))) (Q (.int .i64 2)
 cm) (fK F.xF #[.pointer t, .slice key.a key.len key.cap] cm fun ln n19 cX=>aE (n19 !=0) (Q (.int .i64 n19) cX) (az (cX.alloc c8) fun cE=>cN cE (ah cX) [.bool true, .slice none 0 0, .slice none 0 0, .slice none
 0 0]∧(4:Nat)=4∧az (setCells cE (ah cX) 0 [.bool true, .slice none 0 0, .slice none 0 0, .slice none 0 0]) fun dX=>c7 (fun E9:World→Prop=>aE (decide ((ln.len:Int)>0)) (∃a23:Addr,ln.a=some a23∧((0:Int)≤(ay
 ((ln.len:Int)-1))∧(ay ((ln.len:Int)-1))<(ln.len:Int))∧bJ dX ((a23.add (Int.toNat (ay ((ln.len:Int)-1))*6)).add 1) fun uU=>ar dX (((a23.add (Int.toNat (ay ((ln.len:Int)-1))*6)).add 1).add 1) fun nx=>ar dX
 (((a23.add (Int.toNat (ay ((ln.len:Int)-1))*6)).add 1).add 2) fun gx=>ar dX (((a23.add (Int.toNat (ay ((ln.len:Int)-1))*6)).add 1).add 3) fun ed=>Jv dX cX uU nx gx ed E9) (E9 dX)) (fun fG=>bJ fG (ah cX) fun
 UD=>ar fG (Addr.add (ah cX) 1) fun ia=>ar fG (Addr.add (ah cX) 2) fun dk=>ar fG (Addr.add (ah cX) 3) fun lK=>e6 F.xg #[.agg #[.bool UD, .slice ia.a ia.len ia.cap, .slice dk.a dk.len dk.cap, .slice lK.a
 lK.len lK.cap], .slice key.a key.len key.cap, .slice val.a val.len val.cap] fG fun Hq jx dw fq UE eS=>az (eS.alloc c8) fun dO=>cN dO (ah eS) [.bool Hq, .slice jx.a jx.len jx.cap, .slice dw.a dw.len dw.cap,
 .slice fq.a fq.len fq.cap]∧(4:Nat)=4∧az (setCells dO (ah eS) 0 [.bool Hq, .slice jx.a jx.len jx.cap, .slice dw.a dw.len dw.cap, .slice fq.a fq.len fq.cap]) fun fW=>aE (!UE) (Q (.int .i64 4) fW) (bJ fW (ah eS)
 fun tt=>ar fW (Addr.add (ah eS) 1) fun ib=>ar fW (Addr.add (ah eS) 2) fun jw=>ar fW (Addr.add (ah eS) 3) fun nw=>aS F.wv #[.pointer t, .slice ln.a ln.len ln.cap, .agg #[.bool tt, .slice ib.a ib.len
 ib.cap, .slice jw.a jw.len jw.cap, .slice nw.a nw.len nw.cap]] fW fun aqv dM=>Q (.int .i64 aqv) dM))))))
def A.Aa:bG:=(.s .r (.s (.db (.s (.gn [.run, .run, .run, .split 3, .run, .run, .run, .run, .pure 3]) (.c (.s .r .l) (.s (.eU 11 true ⟨[0,1,2,4,8,0,32,64,128,256,512,1040,2064],[0,1,2,4,8,0,32,64,128,
 256,512,1040,2048]⟩ [67108864,134217728,268435456,536870912,1073741824,2147483648,4294967296,8589934592,17179869184,34359738368,68719476736,137438953472,33554432] [1,67108864,134217728,268435456,536870912,1,2147483648,
 4294967296,8589934592,17179869184,34359738368,69793218560,137438953472] (.take 0 (.take 1 (.take 2 (.take 3 (.take 5 (.take 6 (.take 7 (.take 8 (.take 9 (.take 10 (.dg 4 (.tail [.run, .run]))))))))))))) (.c (.s .r .l) .l))))) (.s .r
 (.s a8 (.s .r (.s (.lI [] [0,1,2,7,9] (.s .r (.c .r .l))) ig))))))
theorem W.amF (t:Option Addr) (key:ad) (val:ad) (w:World) (Q:Value→World→Prop) (h:W.Aa t key val w Q):aR Tryz.prog F.Aa #[.pointer t, .slice key.a key.len key.cap, .slice val.a val.len val.cap] w Q:=okF A.Aa Tryz.func26 (by kernel_rfl) (by kernel_rfl) h
def W.BN (s:Option Addr) (w:World) (Q:Value→World→Prop):Prop:=aE (Option.isNone s) (Q (.slice none 0 0) w) (∃a8:Addr,s=some a8∧bL w a8 fun cZ=>∃ (kk:ad→Int→World→Prop) (m5:ad→Int→World→
 Nat),kk ⟨none,0,0⟩ 0 w∧∀ (b7:ad) (n6:Int) (bt:World),kk b7 n6 bt→aE (decide (n6<cZ)) (c7 (fun xY:ad→World→Prop=>∃a9:Addr,s=some a9∧ar bt (a9.add 1) fun fj=>aZ F.rQ #[.slice fj.a fj.len
 fj.cap, .int .i64 n6] bt fun sd bZ=>aE sd (az (bZ.alloc (.cells #[.int .i64 n6] ai.int)) fun dE=>∃fp:ad,∃cX:World,Sem.run Tryz.prog (Builtin.append_ #[ai.dD,ai.dD] ai.dD #[.slice b7.a b7.len b7.cap, .slice
 (some (ah bZ)) 1 1]) dE= .ok (.slice fp.a fp.len fp.cap) cX∧xY fp cX) (xY b7 bZ)) (fun (jQ:ad) ef=>kk jQ (ay (n6+1)) ef∧m5 jQ (ay (n6+1)) ef<m5 b7 n6 bt)) (Q (.slice b7.a b7.len b7.cap) bt))
def A.BN:bG:=(.s .r (.s a8 (.s .r (.s (.s .r (.db (.loop [(3, .slice),(11,(.int .i64))] [0,10] (.s .r (.s (.c .l .l) (.s (.lI [(3, .slice)] [0,10,11] (.db (.s .r (.s .r (.c .r .l))))) .r)))))) (.s .r .l)))))
theorem W.ajo (s:Option Addr) (w:World) (Q:Value→World→Prop) (h:W.BN s w Q):aR Tryz.prog F.BN #[.pointer s] w Q:=okF A.BN Tryz.func33 (by kernel_rfl) (by kernel_rfl) h
def W.Bk (d:Option Addr) (i:Int) (w:World) (Q:Value→World→Prop):Prop:=aZ F.y5 #[.pointer d, .int .i64 i] w fun ek ag=>aE (!ek) (Q (.tuple #[.slice none 0 0, .int .i64 1]) ag) (∃a4:Addr,d=some
 a4∧aZ F.y6 #[.pointer (some a4), .int .i64 1] ag fun kL bT=>aE kL (Q (.tuple #[.slice none 0 0, .int .i64 3]) bT) (Xa F.Bj #[.pointer d, .int .i64 i] bT fun iE bC=>az (bC.alloc oH) fun bZ=>cN bZ (ah
 bC) (Array.toList iE)∧Array.size iE=256∧az (setCells bZ (ah bC) 0 (Array.toList iE)) fun cL=>Q (.tuple #[.slice (bf (some (ah bC)) 1 0 256) (256-0) (256-0), .int .i64 0]) cL))
def A.Bk:bG:=l_
theorem W.ahG (d:Option Addr) (i:Int) (w:World) (Q:Value→World→Prop) (h:W.Bk d i w Q):aR Tryz.prog F.Bk #[.pointer d, .int .i64 i] w Q:=okF A.Bk Tryz.func34 (by kernel_rfl) (by kernel_rfl) h
def W.Cq (t:Option Addr) (w:World) (Q:Value→World→Prop):Prop:=aE (Option.isNone t) (Q (.tuple #[.int .i64 0, .int .i64 0]) w) (az (w.drew) fun ag=>∃cQ:Addr,t=some cQ∧¬False∧bL ag (cQ.add 3) fun b3=>∃
 a4:Addr,t=some a4∧¬False∧bL ag (a4.add 4) fun n5=>Q (.tuple #[.int .i64 b3, .int .i64 n5]) ag)
def A.Cq:bG:=(.s .r (.s a8 (.s (.eU 9 false ⟨[0,1,2,4,0,16,32,64,15,511],[0,1,2,4,0,16,32,64,8,128]⟩ [64,128,256,512,1024,2048,4096,8192,4,8] [1,64,128,256,1,1024,2048,4096,512,8192]
 (.take 0 (.take 1 (.take 2 (.take 3 (.take 4 (.take 5 (.take 6 (.take 7 (.take 8 (.tail [.run]))))))))))) .l)))
theorem W.anO (t:Option Addr) (w:World) (Q:Value→World→Prop) (h:W.Cq t w Q):aR Tryz.prog F.Cq #[.pointer t] w Q:=okF A.Cq Tryz.func36 (by kernel_rfl) (by kernel_rfl) h
def W.Bp (f:Option Addr) (w:World) (Q:Value→World→Prop):Prop:=∃ (gU:Int→World→Prop) (jy:Int→World→Nat),gU 0 w∧∀ (b3:Int) (bz:World),gU b3 bz→aE (decide (b3<4)) (∃a5:Addr,f=some a5∧
 ((0:Int)≤b3∧b3<((4:Nat):Int))∧st bz (Addr.add a5 (Int.toNat b3*1)) (.int .i64 (-1)) fun bd=>gU (ay (b3+1)) bd∧jy (ay (b3+1)) bd<jy b3 bz) (Q (.tuple #[]) bz)
def A.Bp:bG:=(.s .r (.db (.loop [(3,(.int .i64))] [0] cQ)))
theorem W.ahR (f:Option Addr) (w:World) (Q:Value→World→Prop) (h:W.Bp f w Q):aR Tryz.prog F.Bp #[.pointer f] w Q:=okF A.Bp Tryz.func39 (by kernel_rfl) (by kernel_rfl) h
def W.y5 (d:Option Addr) (i:Int) (w:World) (Q:Value→World→Prop):Prop:=c7 (fun ej:Bool→World→Prop=>aE ((!(Option.isNone d))&&(decide (i≥0))) (∃cQ:Addr,d=some cQ∧ar w (cQ.add 4) fun bN=>ej
 (decide (i<(bN.len:Int))) w) (ej false w)) (fun (e9:Bool) bT=>Q (.bool e9) bT)
def A.y5:bG:=hW
theorem W.ahx (d:Option Addr) (i:Int) (w:World) (Q:Value→World→Prop) (h:W.y5 d i w Q):aR Tryz.prog F.y5 #[.pointer d, .int .i64 i] w Q:=okF A.y5 Tryz.func43 (by kernel_rfl) (by kernel_rfl) h
def W.y6 (f:Option Addr) (rk:Int) (w:World) (Q:Value→World→Prop):Prop:=∃a8:Addr,f=some a8∧((0:Int)≤rk∧rk<((4:Nat):Int))∧bL w (Addr.add a8 (Int.toNat rk*1)) fun cZ=>aE (cZ==
 (-1)) (Q (.bool false) w) (aE (cZ==0) (∃a3:Addr,f=some a3∧((0:Int)≤rk∧rk<((4:Nat):Int))∧st w (Addr.add a3 (Int.toNat rk*1)) (.int .i64 (-1)) fun bz=>Q (.bool true) bz) (az (w.drew) fun bT=>∃hW:Addr,f
 =some hW∧((0:Int)≤rk∧rk<((4:Nat):Int))∧¬False∧bL bT (Addr.add hW (Int.toNat rk*1)) fun n7=>∃lJ:Addr,f=some lJ∧((0:Int)≤rk∧rk<((4:Nat):Int))∧st bT (Addr.add lJ (Int.toNat rk*1))
 (.int .i64 (ay (n7-1))) fun bY=>Q (.bool false) bY))
def A.y6:bG:=(.s .r (.s (.s .r (.db (.s .r (.c (.s .r .l) (.s .r jr))))) (.s (.eU 7 false ⟨[0,0,1,6,8,16,1,127,191],[0,0,1,6,8,16,1,66,160]⟩ [262144,524288,1048576,2097152,4194304,8388608,16777216,
 33554432,0] [1,2,262144,1572864,2097152,4194304,262144,17301504,41943040] (.take 0 (.take 1 (.take 2 (.take 3 (.take 4 (.take 5 (.take 6 (.tail [.run, .run]))))))))) (.s .r .l))))
theorem W.ahz (f:Option Addr) (rk:Int) (w:World) (Q:Value→World→Prop) (h:W.y6 f rk w Q):aR Tryz.prog F.y6 #[.pointer f, .int .i64 rk] w Q:=okF A.y6 Tryz.func44 (by kernel_rfl) (by kernel_rfl) h
def W.y4 (d:Option Addr) (w:World) (Q:Value→World→Prop):Prop:=aE (Option.isNone d) (Q (.int .i64 0) w) (∃a8:Addr,d=some a8∧ar w (a8.add 4) fun s2=>Q (.int .i64 (s2.len:Int)) w)
def A.y4:bG:=ig
theorem W.ahw (d:Option Addr) (w:World) (Q:Value→World→Prop) (h:W.y4 d w Q):aR Tryz.prog F.y4 #[.pointer d] w Q:=okF A.y4 Tryz.func45 (by kernel_rfl) (by kernel_rfl) h
def W.r4 (lL:ad) (w:World) (Q:Value→World→Prop):Prop:=Q (.bool ((decide ((lL.len:Int)≥1))&&(decide ((lL.len:Int)≤24)))) w
def A.r4:bG:=kj
theorem W.amE (lL:ad) (w:World) (Q:Value→World→Prop) (h:W.r4 lL w Q):aR Tryz.prog F.r4 #[.slice lL.a lL.len lL.cap] w Q:=okF A.r4 Tryz.func57 (by kernel_rfl) (by kernel_rfl) h
def W.xF (t:Option Addr) (key:ad) (w:World) (Q:Value→World→Prop):Prop:=∃a8:Addr,t=some a8∧bL w (a8.add 3) fun cZ=>∃a3:Addr,t=some a3∧bL w (a3.add 4) fun fc=>∃ (rl:ad→Int→Int→World→
 Prop) (wL:ad→Int→Int→World→Nat),rl ⟨none,0,0⟩ cZ fc w∧∀ (gY:ad) (n8:Int) (n9:Int) (cj:World),rl gY n8 n9 cj→aE (decide (n9>0)) (sV F.q4 #[.pointer t, .int .i64 n8, .bool (n9==1)] cj fun sd dZ
 fp fa n17 bZ=>az (bZ.alloc c8) fun ef=>cN ef (ah bZ) [.bool sd, .slice dZ.a dZ.len dZ.cap, .slice fp.a fp.len fp.cap, .slice fa.a fa.len fa.cap]∧(4:Nat)=4∧az (setCells ef (ah bZ) 0 [.bool sd, .slice
 dZ.a dZ.len dZ.cap, .slice fp.a fp.len fp.cap, .slice fa.a fa.len fa.cap]) fun dH=>aE (n17 !=0) (Q (.tuple #[.slice none 0 0, .int .i64 n17]) dH) (bJ dH (ah bZ) fun p9=>ar dH (Addr.add (ah bZ) 1) fun gp=>ar dH
 (Addr.add (ah bZ) 2) fun fM=>ar dH (Addr.add (ah bZ) 3) fun ff=>∃BS:Array Value,Sem.run Tryz.prog (Instr.build ai.sY #[(0, .int .i64 n8),(1, .agg #[.bool p9, .slice gp.a gp.len gp.cap, .slice fM.a fM.len fM.cap,
 .slice ff.a ff.len ff.cap])]) dH= .ok (.agg BS) dH∧az (dH.alloc (.cells #[.int .i64 0, .bool false, .slice none 0 0, .slice none 0 0, .slice none 0 0, .int .i64 0] ai.sY)) fun fv=>cN fv (ah dH) (Array.toList BS)
 ∧Array.size BS=6∧az (setCells fv (ah dH) 0 (Array.toList BS)) fun cT=>c7 (fun CL:Int→World→Prop=>aE (decide (n9>1)) (bJ cT (ah bZ) fun x4=>ar cT (Addr.add (ah bZ) 1) fun iL=>ar cT (Addr.add (ah bZ) 2) fun
 hO=>ar cT (Addr.add (ah bZ) 3) fun ia=>aS F.tY #[.agg #[.bool x4, .slice iL.a iL.len iL.cap, .slice hO.a hO.len hO.cap, .slice ia.a ia.len ia.cap], .slice key.a key.len key.cap] cT fun n34 iK=>st iK (Addr.add
 (ah dH) 5) (.int .i64 n34) fun mK=>ar mK (Addr.add (ah bZ) 3) fun j4=>bL mK (Addr.add (ah dH) 5) fun n37=>∃KF:Addr,j4.a=some KF∧aX n37 j4.len∧bL mK (KF.add (Int.toNat n37*1)) fun n39=>CL n39 mK) (CL n8
 cT)) (fun (n40:Int) dO=>∃acq:List Value,eE dO (ah dH) 0 6=some acq∧∃iN:ad,∃mZ:World,Sem.run Tryz.prog (Instr.buildSlice ai.D_ 1 #[(0, .agg acq.toArray)]) dO= .ok (.slice iN.a iN.len iN.cap) mZ
 ∧∃jw:ad,∃kg:World,Sem.run Tryz.prog (Builtin.append_ #[ai.D_,ai.D_] ai.D_ #[.slice gY.a gY.len gY.cap, .slice iN.a iN.len iN.cap]) mZ= .ok (.slice jw.a jw.len jw.cap) kg∧rl jw n40 (ay
 (n9-1)) kg∧wL jw n40 (ay (n9-1)) kg<wL gY n8 n9 cj))) (Q (.tuple #[.slice gY.a gY.len gY.cap, .int .i64 0]) cj)
def A.xF:bG:=(.s .r (.s .r (.s .r (.s (.s .r (.db (.loop [(6, .slice),(7,(.int .i64)),(8,(.int .i64))] [0,1] (.s (.s .r (.c .l .l)) (.s (.db (.s .r (.s a8 (.s .r (.s (.lI [(7,(.int .i64))] [0,1,6,8,11] (.s .r (.c
 (.s .r .r) .l))) .r))))) .r))))) (.s .r .l)))))
theorem W.ajL (t:Option Addr) (key:ad) (w:World) (Q:Value→World→Prop) (h:W.xF t key w Q):aR Tryz.prog F.xF #[.pointer t, .slice key.a key.len key.cap] w Q:=okF A.xF Tryz.func58 (by kernel_rfl) (by kernel_rfl) h
def W.xd (cv:Bool) (bj:ad) (bk:ad) (bl:ad) (key:ad) (w:World) (Q:Value→World→Prop):Prop:=az (w.alloc (.cells #[.bool cv, .slice bj.a bj.len bj.cap, .slice bk.a bk.len
 bk.cap, .slice bl.a bl.len bl.cap] ai.cD)) fun ag=>bJ ag (ah w) fun cA=>ar ag (Addr.add (ah w) 1) fun bN=>ar ag (Addr.add (ah w) 2) fun cC=>ar ag (Addr.add (ah w) 3) fun b7=>dK F.qo #[.agg #[.bool cA,
 .slice bN.a bN.len bN.cap, .slice cC.a cC.len cC.cap, .slice b7.a b7.len b7.cap], .slice key.a key.len key.cap] ag fun n8 ju bd=>Q (.tuple #[.int .i64 n8, .bool ju]) bd
def A.xd:bG:=(.s .r (.s .r .l))
theorem W.agJ (cv:Bool) (bj:ad) (bk:ad) (bl:ad) (key:ad) (w:World) (Q:Value→World→Prop) (h:W.xd cv bj bk bl key w Q):aR Tryz.prog F.xd #[.agg #[.bool cv, .slice bj.a bj.len bj.cap, .slice bk.a bk.len bk.cap, .slice bl.a bl.len bl.cap], .slice key.a key.len key.cap] w Q:=okF A.xd Tryz.func59 (by kernel_rfl) (by kernel_rfl) h
def W.xh (cv:Bool) (bj:ad) (bk:ad) (bl:ad) (key:ad) (w:World) (Q:Value→World→Prop):Prop:=az (w.alloc (.cells #[.bool cv, .slice bj.a bj.len bj.cap, .slice bk.a bk.len
 bk.cap, .slice bl.a bl.len bl.cap] ai.cD)) fun ag=>az (ag.alloc c8) fun aw=>bJ aw (ah w) fun ek=>ar aw (Addr.add (ah w) 1) fun cC=>ar aw (Addr.add (ah w) 2) fun b7=>ar aw (Addr.add (ah w) 3) fun c3=>dK
 F.qo #[.agg #[.bool ek, .slice cC.a cC.len cC.cap, .slice b7.a b7.len b7.cap, .slice c3.a c3.len c3.cap], .slice key.a key.len key.cap] aw fun n9 ov bt=>bJ bt (ah w) fun tm=>c7 (fun o4:Bool→World→Prop=>FP tm o4 bt
 w) (fun (p9:Bool) dX=>aE (p9||(!ov)) (cN dX (ah ag) [.bool false, .slice none 0 0, .slice none 0 0, .slice none 0 0]∧(4:Nat)=4∧az (setCells dX (ah ag) 0 [.bool false, .slice none 0 0, .slice none 0 0, .slice none 0
 0]) fun dL=>pb dL ag Q) (bJ dX (ah w) fun aqw=>ar dX (Addr.add (ah w) 1) fun e4=>ar dX (Addr.add (ah w) 2) fun iL=>ar dX (Addr.add (ah w) 3) fun hO=>iE F.fg #[.agg #[.bool aqw, .slice e4.a e4.len e4.cap, .slice
 iL.a iL.len iL.cap, .slice hO.a hO.len hO.cap]] dX fun CM gI fV j4 eJ=>az (eJ.alloc c8) fun lX=>cN lX (ah eJ) [.bool CM, .slice gI.a gI.len gI.cap, .slice fV.a fV.len fV.cap, .slice j4.a j4.len j4.cap]∧
 (4:Nat)=4∧az (setCells lX (ah eJ) 0 [.bool CM, .slice gI.a gI.len gI.cap, .slice fV.a fV.len fV.cap, .slice j4.a j4.len j4.cap]) fun iT=>ar iT (Addr.add (ah eJ) 1) fun fq=>en F.xb
 #[.slice fq.a fq.len fq.cap, .int .i64 n9, .int .i64 (ay (n9+1))] iT fun k8 s0=>st s0 (Addr.add (ah eJ) 1) (.slice k8.a k8.len k8.cap) fun iy=>ar iy (Addr.add (ah eJ) 2) fun ib=>en F.xb
 #[.slice ib.a ib.len ib.cap, .int .i64 n9, .int .i64 (ay (n9+1))] iy fun ny jf=>st jf (Addr.add (ah eJ) 2) (.slice ny.a ny.len ny.cap) fun E_=>ey E_ eJ ag Q))
def A.xh:bG:=(.s .r (.s .r (.s (.s (.gn [.run, .run, .run, .run, .split 3, .run, .run, .run, .run, .pure 2]) (.c (.s .r .l) .l)) (.s .r a4))))
theorem W.agZ (cv:Bool) (bj:ad) (bk:ad) (bl:ad) (key:ad) (w:World) (Q:Value→World→Prop) (h:W.xh cv bj bk bl key w Q):aR Tryz.prog F.xh #[.agg #[.bool cv, .slice bj.a bj.len bj.cap, .slice bk.a bk.len bk.cap, .slice bl.a bl.len bl.cap], .slice key.a key.len key.cap] w Q:=okF A.xh Tryz.func60 (by kernel_rfl) (by kernel_rfl) h
def W.wv (t:Option Addr) (lF:ad) (tx:Bool) (m6:ad) (m7:ad) (m8:ad) (w:World) (Q:Value→World→Prop):Prop:=az (w.alloc (.cells #[.bool tx, .slice m6.a m6.len
 m6.cap, .slice m7.a m7.len m7.cap, .slice m8.a m8.len m8.cap] ai.cD)) fun ag=>az (ag.alloc (.cells #[.int .i64 0] ai.aqo)) fun aw=>az (aw.drew) fun bc=>∃nZ:Nat→Prop,∃
 a5:Addr,t=some a5∧¬nZ (a5.add 1).block∧∃nu:Option Addr,bc.cell? (a5.add 1)=some (.pointer nu)∧∃jr:Addr,t=some jr∧¬nZ (jr.add 4).block∧bL bc (jr.add 4) fun n8=>aS F.zf #[.pointer nu] bc fun n11 bY
 =>aq nZ bc bY∧aE (decide (n11<(ay ((ay (2*n8))+3)))) (st bY (ah ag) (.int .i64 2) fun cL=>bL cL (ah ag) fun n13=>Q (.int .i64 n13) cL) (az (bY.alloc (.cells #[.pointer t, .slice none 0 0, .slice none 0 0] ai.XZ))
 fun dE=>az (dE.alloc (.cells #[.pointer none] ai.aqp)) fun gR=>st gR (ah dE) (.pointer (some (ah bY))) fun cX=>∃CN:Option Addr,cX.cell? (ah dE)=some (.pointer CN)∧bJ cX (ah w) fun sm=>ar cX (Addr.add
 (ah w) 1) fun fX=>ar cX (Addr.add (ah w) 2) fun eM=>ar cX (Addr.add (ah w) 3) fun gp=>GL F.wq #[.pointer CN, .slice lF.a lF.len lF.cap, .agg #[.bool sm, .slice fX.a fX.len fX.cap, .slice eM.a eM.len
 eM.cap, .slice gp.a gp.len gp.cap]] cX fun n24 n25 n26 dL=>st dL (ah ag) (.int .i64 n26) fun kr=>bL kr (ah ag) fun n28=>aE (n28 !=0) (bL kr (ah ag) fun n29=>st kr (ah ag) (.int .i64 n29) fun gD=>Hn Tryz.prog
 F.x1 #[.pointer (some (ah ag)), .pointer (some (ah dE))] gD fun eJ=>bL eJ (ah ag) fun n32=>Q (.int .i64 n32) eJ) (az (kr.drew) fun e3=>¬False∧∃KG:Option Addr,e3.cell? (ah dE)=some (.pointer KG)∧¬
 False∧∃acr:Option Addr,e3.cell? (ah dE)=some (.pointer acr)∧∃a36:Addr,acr=some a36∧¬False∧ar e3 (a36.add 2) fun jx=>bA F.zS #[.pointer KG, .slice jx.a jx.len jx.cap] e3 fun iT=>∃KH:Addr,
 t=some KH∧st iT (KH.add 3) (.int .i64 n24) fun dO=>∃KI:Addr,t=some KI∧st dO (KI.add 4) (.int .i64 n25) fun iy=>st iy (ah ag) (.int .i64 0) fun mZ=>Hn Tryz.prog F.x1 #[.pointer (some (ah ag)),
 .pointer (some (ah dE))] mZ fun jf=>bL jf (ah ag) fun UF=>Q (.int .i64 UF) jf))
def A.wv:bG:=(.s .r (.s (.s (.eU 11 true ⟨[0,1,2,4,8,0,32,64,128,256,512,1040],[0,1,2,4,8,0,32,64,128,256,512,1040]⟩ [1024,2048,4096,8192,16384,32768,65536,131072,262144,524288,1048576,
 2097152] [1,1024,2048,4096,8192,1,32768,65536,131072,262144,524288,1064960] (.take 0 (.take 1 (.take 2 (.take 3 (.take 5 (.take 6 (.take 7 (.take 8 (.take 9 (.take 10 (.dg 4 (.tail [.run]))))))))))))) (.c (.s .r .l) .l)) (.s .r
 (.s .l (.s .r (.s a8 (.s (.eU 5 false ⟨[0,0,2,4,8,17],[0,0,2,4,8,17]⟩ [137438953472,274877906944,549755813888,1099511627776,2199023255552,4398046511104] [128,128,274877906944,549755813888,1099511627776,2336462209024]
 (.take 0 (.take 1 (.take 2 (.take 3 (.take 4 (.tail [.run]))))))) (.s .r (.s .r .l)))))))))
theorem W.aqx (t:Option Addr) (lF:ad) (tx:Bool) (m6:ad) (m7:ad) (m8:ad) (w:World) (Q:Value→World→Prop):W.wv t lF tx m6 m7 m8 w Q=Uq Tryz.prog aK A.wv Tryz.f61 [.pointer t, .slice lF.a lF.len lF.cap, .agg #[.bool tx, .slice m6.a m6.len m6.cap, .slice m7.a m7.len m7.cap, .slice m8.a m8.len m8.cap]] w Q:=by kernel_rfl
theorem W.amd (t:Option Addr) (lF:ad) (tx:Bool) (m6:ad) (m7:ad) (m8:ad) (w:World) (Q:Value→World→Prop) (h:W.wv t lF tx m6 m7 m8 w Q):Calls Tryz.prog F.wv #[.pointer t, .slice lF.a lF.len lF.cap, .agg #[.bool tx, .slice m6.a m6.len m6.cap, .slice m7.a m7.len m7.cap, .slice m8.a m8.len m8.cap]] w fun e ag=>∃v,e= .returned v∧Q v ag:=
  aqg Ut Tryz.func61 (by kernel_rfl) (Eq.mp (W.aqx t lF tx m6 m7 m8 w Q) h)
def W.Ae (t:Option Addr) (no:Int) (level:Int) (jP:ad) (f:qM) (w:World) (Q:Value→World→Prop):Prop:=sV F.q4 #[.pointer t, .int .i64 no, .bool (level==1)] w fun ek cC b7 c3 n7 ag=>az
 (ag.alloc c8) fun bC=>cN bC (ah ag) [.bool ek, .slice cC.a cC.len cC.cap, .slice b7.a b7.len b7.cap, .slice c3.a c3.len c3.cap]∧(4:Nat)=4∧az (setCells bC (ah ag) 0 [.bool ek, .slice cC.a cC.len cC.cap, .slice b7.a b7.len
 b7.cap, .slice c3.a c3.len c3.cap]) fun bY=>aE (n7 !=0) (Q (.tuple #[.bool false, .int .i64 n7]) bY) (bJ bY (ah ag) fun ov=>ar bY (Addr.add (ah ag) 1) fun eF=>ar bY (Addr.add (ah ag) 2) fun iM=>ar bY (Addr.add (ah ag) 3) fun gT
 =>sC Tryz.prog f.f∧Calls Tryz.prog f.f (f.pre++ #[.int .i64 no, .agg #[.bool ov, .slice eF.a eF.len eF.cap, .slice iM.a iM.len iM.cap, .slice gT.a gT.len gT.cap]]++f.cap) bY fun Uz dE=>∃OL:Bool,Uz= .returned
 (.bool OL)∧aE (!OL) (Q (.tuple #[.bool false, .int .i64 0]) dE) (aE (level==1) (Q (.tuple #[.bool true, .int .i64 0]) dE) (az (dE.drew) fun fC=>∃UG:Nat→Prop,¬UG (Addr.add (ah ag) 3).block∧ar fC (Addr.add (ah ag) 3)
 fun fX=>¬UG ((ah ag):Addr).block∧bJ fC (ah ag) fun p9=>ar fC (Addr.add (ah ag) 1) fun gp=>ar fC (Addr.add (ah ag) 2) fun fM=>ar fC (Addr.add (ah ag) 3) fun ff=>aS F.tY #[.agg #[.bool p9, .slice gp.a gp.len
 gp.cap, .slice fM.a fM.len fM.cap, .slice ff.a ff.len ff.cap], .slice jP.a jP.len jP.cap] fC fun n26 dm=>aq UG fC dm∧((0:Int)≤n26∧n26≤(fX.len:Int))∧∃ (UH:Int→World→Prop) (acs:Int→World→
 Nat),UH 0 dm∧∀ (n29:Int) (gD:World),UH n29 gD→aE (decide (n29<(((fX.len-(Int.toNat n26)):Nat):Int))) (∃CO:Addr,(bf fX.a 1 (Int.toNat n26) fX.cap)=some CO∧((0:Int)≤n29∧n29<(((fX.len-(Int.toNat
 n26)):Nat):Int))∧bL gD (CO.add (Int.toNat n29*1)) fun n32=>GU F.Ae #[.pointer t, .int .i64 n32, .int .i64 (ay (level-1)), .slice jP.a jP.len jP.cap, .func (.func f.f) f.pre f.cap] gD fun CP n36 e3
 =>aE ((n36 !=0)||(!CP)) (Q (.tuple #[.bool CP, .int .i64 n36]) e3) (UH (ay (n29+1)) e3∧acs (ay (n29+1)) e3<acs n29 gD)) (Q (.tuple #[.bool true, .int .i64 0]) gD))))
def A.Ae:bG:=(.s .r (.s .r (.s a8 (.s a8 (.s a8 (.s (.s (.eU 8 true ⟨[0,1,0,0,12,18,32,0],[0,1,0,0,12,18,32,0]⟩ [68719476736,137438953472,274877906944,549755813888,1099511627776,2199023255552,
 4398046511104,8796093022208] [4096,68719476736,4096,8,824633720832,1236950581248,2199023255552,0] (.take 0 (.take 1 (.take 2 (.take 3 (.take 7 (.dg 4 (.take 5 (.take 6 .fin))))))))) (.db (.loop [(43,(.int .i64))] [0,2,3,4,41,
 42] (.s .r (.s (.c .l .l) (.s (.db (.s .r (.s .r a5))) .r)))))) (.s .r .l)))))))
theorem W.anl (t:Option Addr) (no:Int) (level:Int) (jP:ad) (f:qM) (w:World) (Q:Value→World→Prop) (h:W.Ae t no level jP f w Q):aR Tryz.prog F.Ae #[.pointer t, .int .i64 no, .int .i64 level, .slice jP.a jP.len jP.cap, .func (.func f.f) f.pre f.cap] w Q:=okF A.Ae Tryz.func62 (by kernel_rfl) (by kernel_rfl) h
def W.wA (UI:Int) (cv:Bool) (bj:ad) (bk:ad) (bl:ad) (x:Addr) (sn:Addr) (Ay:Addr) (OM:Addr) (w:World) (Q:Value→World→Prop):Prop:=az (w.alloc (.cells #[.bool cv, .slice
 bj.a bj.len bj.cap, .slice bk.a bk.len bk.cap, .slice bl.a bl.len bl.cap] ai.cD)) fun ag=>ar ag (Addr.add (ah w) 1) fun s2=>∃ (kk:Int→World→Prop) (m5:Int→World→Nat),kk 0 ag∧∀ (n5
 :Int) (bd:World),kk n5 bd→aE (decide (n5<(s2.len:Int))) (∃jr:Addr,s2.a=some jr∧aX n5 s2.len∧ar bd (jr.add (Int.toNat n5*1)) fun dQ=>ar bd x fun eK=>c7 (fun CQ:Bool→World→Prop=>aE (decide ((eK.len:Int)>0))
 (ar bd x fun eF=>aS F.mi #[.slice dQ.a dQ.len dQ.cap, .slice eF.a eF.len eF.cap] bd fun n14 cL=>CQ (decide (n14≥0)) cL) (CQ false bd)) (fun (Ad:Bool) cX=>c7 (fun KJ:Bool→World→Prop=>aE Ad (bJ cX (ah
 w) fun sm=>KJ sm cX) (KJ false cX)) (fun (Cn:Bool) cE=>aE Cn (Q (.bool false) cE) (c7 (fun KK:World→Prop=>bJ cE (ah w) fun se=>c7 (fun KL:Bool→World→Prop=>aE se (ar cE sn fun qc=>aS F.mi
 #[.slice dQ.a dQ.len dQ.cap, .slice qc.a qc.len qc.cap] cE fun n27 fv=>KL (decide (n27≥0)) fv) (KL false cE)) (fun (x4:Bool) fG=>aE x4 (az (fG.drew) fun gD=>∃ON:Nat→Prop,¬ON Ay.block∧ar gD Ay fun dk=>
 ¬ON (Addr.add (ah w) 2).block∧ar gD (Addr.add (ah w) 2) fun lK=>∃Hr:Addr,lK.a=some Hr∧aX n5 lK.len∧¬ON (Hr.add (Int.toNat n5*1)).block∧ar gD (Hr.add (Int.toNat n5*1)) fun fV=>∃act:Array Value,(∀lX:
 World,Sem.run Tryz.prog (Instr.build ai.EF #[(0, .slice dQ.a dQ.len dQ.cap),(1, .slice fV.a fV.len fV.cap)]) lX= .ok (.agg act) lX)∧∃dw:ad,∃kN:World,Sem.run Tryz.prog (Instr.buildSlice ai.uI 1 #[(0, .agg
 act)]) gD= .ok (.slice dw.a dw.len dw.cap) kN∧aq ON gD kN∧∃ei:ad,∃dO:World,Sem.run Tryz.prog (Builtin.append_ #[ai.uI,ai.uI] ai.uI #[.slice dk.a dk.len dk.cap, .slice dw.a dw.len
 dw.cap]) kN= .ok (.slice ei.a ei.len ei.cap) dO∧(∃u:Value,dO.cell? Ay=some u)∧dO.frozen? Ay=false∧az (dO.setCell Ay (.slice ei.a ei.len ei.cap)) fun fW=>KK fW) (KK fG))) (fun iy=>ar iy Ay fun ib=>
 bL iy OM fun aqy=>aE ((ib.len:Int)==aqy) (Q (.bool false) iy) (kk (ay (n5+1)) iy∧m5 (ay (n5+1)) iy<m5 n5 bd)))))) (Q (.bool true) bd)
def A.wA:bG:=(.s .r (.s (.s .r (.db (.loop [(14,(.int .i64))] [2,3,4,5,7,12,13] (.s .r (.s (.c .l .l) (.s (.db (.s .r (.s (.s (.gn [.run, .run, .run, .run, .split 4, .run, .run, .run, .run, .run, .split 2]) (.c
 (.s .r .l) .l)) (.s (.lI [] [2,3,4,5,7,12,13,14] (.s (.gn [.run, .run, .run, .split 4]) (.c (.eU 9 true ⟨[0,0,0,4,0,24,32,66,128,257,1023],[0,0,0,4,0,24,32,66,128,257,512]⟩ [1099511627776,2199023255552,
 4398046511104,8796093022208,17592186044416,35184372088832,70368744177664,140737488355328,281474976710656,562949953421312,0] [16,1024,128,4398046511104,512,26388279066624,35184372088832,72567767433216,140737488355328,
 282574488338432,562949953421328] (.take 0 (.take 1 (.take 2 (.take 3 (.take 4 (.take 5 (.take 6 (.take 7 (.dg 8 (.tail [.run, .run]))))))))))) .l))) a8)))) .r)))))) (.s .r .l)))
theorem W.anb (UI:Int) (cv:Bool) (bj:ad) (bk:ad) (bl:ad) (x:Addr) (sn:Addr) (Ay:Addr) (OM:Addr) (w:World) (Q:Value→World→Prop) (h:W.wA UI cv bj bk bl x sn Ay OM w Q):aR Tryz.prog F.wA #[.int .i64 UI, .agg #[.bool cv, .slice bj.a bj.len bj.cap, .slice bk.a bk.len bk.cap, .slice bl.a bl.len bl.cap], .pointer (some x), .pointer (some sn), .pointer (some Ay), .pointer (some OM)] w Q:=okF A.wA Tryz.func63 (by kernel_rfl) (by kernel_rfl) h
def W.xC (d:Option Addr) (aB:Int) (w:World) (Q:Value→World→Prop):Prop:=aE (((Option.isNone d)||(decide (aB<8)))||(decide (aB>64))) (Q (.tuple #[.pointer none, .int .i64 1]) w) (((0:Int)≤aB
 ∧aB≤aB∧aB≤wW∧((48:Nat):Int)*aB≤140737488355328)∧az (w.alloc (.cells (oF Tryz.prog ai.qx (Int.toNat aB)) ai.qx)) fun ag=>az (ag.alloc (.cells #[.pointer d, .slice (some (ah w))
 (Int.toNat aB) (Int.toNat aB), .int .i64 0] ai.Xi)) fun aw=>Q (.tuple #[.pointer (some (ah ag)), .int .i64 0]) aw)
def A.xC:bG:=(.s .r (.s (.s (.gn [.run, .run, .run, .pure 2, .run, .run, .run, .pure 2]) (.c (.s .r .l) .l)) (.s .r .l)))
theorem W.aiB (d:Option Addr) (aB:Int) (w:World) (Q:Value→World→Prop) (h:W.xC d aB w Q):aR Tryz.prog F.xC #[.pointer d, .int .i64 aB] w Q:=okF A.xC Tryz.func65 (by kernel_rfl) (by kernel_rfl) h
end
section
set_option maxRecDepth 100000
def W.xE (n:Int) (first:Int) (w:World) (Q:Value→World→Prop):Prop:=aZ F.BO #[.int .i64 n] w fun ek ag=>aE (((!ek)||(decide (first<0)))||(decide (first>n))) (Q (.tuple #[.pointer none, .int .i64 1])
 ag) (aS F.BP #[.int .i64 n] ag fun n6 bz=>((0:Int)≤n6∧n6≤n6∧n6≤wW∧((1:Nat):Int)*n6≤140737488355328)∧az (bz.alloc (.cells (oF Tryz.prog ai.uint8 (Int.toNat n6)) ai.uint8)) fun bt=>az (bt.alloc (.cells
 #[.int .i64 n, .slice (some (ah bz)) (Int.toNat n6) (Int.toNat n6), .slice none 0 0] ai.BD)) fun bC=>∃ (UJ:Int→World→Prop) (acu:Int→World→Nat),UJ 0 bC∧∀ (n11:Int) (cL:World),UJ n11 cL→aE (decide (n11<
 first)) (∃kQ:Addr,(some (ah bt):Option Addr)=some kQ∧ar cL (kQ.add 1) fun dZ=>bA F.zd #[.slice dZ.a dZ.len dZ.cap, .int .i64 n11] cL fun gR=>UJ (ay (n11+1)) gR∧acu (ay (n11+1)) gR<acu n11 cL)
 (bA F.BK #[.pointer (some (ah bt))] cL fun fC=>Q (.tuple #[.pointer (some (ah bt)), .int .i64 0]) fC))
def A.xE:bG:=(.s .r (.s (.s (.gn [.run, .run, .run, .run, .pure 2, .run, .run, .run, .pure 3]) (.c (.s .r .l) .l)) (.s .r (.s (.s .r (.db (.loop [(27,(.int .i64))] [6,26] cQ))) (.s .r (.s .r .l))))))
theorem W.ajx (n:Int) (first:Int) (w:World) (Q:Value→World→Prop) (h:W.xE n first w Q):aR Tryz.prog F.xE #[.int .i64 n, .int .i64 first] w Q:=okF A.xE Tryz.func66 (by kernel_rfl) (by kernel_rfl) h
def W.zf (s:Option Addr) (w:World) (Q:Value→World→Prop):Prop:=aE (Option.isNone s) (Q (.int .i64 0) w) (∃a8:Addr,s=some a8∧bL w a8 fun cZ=>∃a3:Addr,s=some a3∧ar w (a3.add 1) fun cC=>∃ (rl:
 Int→Int→World→Prop) (wL:Int→Int→World→Nat),rl cZ 0 w∧∀ (n7:Int) (n8:Int) (bY:World),rl n7 n8 bY→aE (decide (n8<(cC.len:Int))) (az (bY.drew) fun cj=>∃KM:Nat→Prop,∃lk:Addr,s=some lk∧¬KM
 (lk.add 1).block∧ar cj (lk.add 1) fun gT=>∃l_:Addr,gT.a=some l_∧aX n8 gT.len∧¬KM (l_.add (Int.toNat n8*1)).block∧g8 cj (l_.add (Int.toNat n8*1)) fun n15=>∃nz:Addr,s=some nz∧¬KM (nz.add
 2).block∧ar cj (nz.add 2) fun jQ=>∃rm:Addr,jQ.a=some rm∧aX n8 jQ.len∧¬KM (rm.add (Int.toNat n8*1)).block∧g8 cj (rm.add (Int.toNat n8*1)) fun n19=>aS F.BL #[.int .u8 (AO .u8 n15 n19)] cj
 fun n22 cE=>aq KM cj cE∧rl (ay (n7-n22)) (ay (n8+1)) cE∧wL (ay (n7-n22)) (ay (n8+1)) cE<wL n7 n8 bY) (Q (.int .i64 n7) bY))
def A.zf:bG:=(.s .r (.s a8 (.s .r (.s (.s .r (.db (.loop [(3,(.int .i64)),(16,(.int .i64))] [0,15] (.s .r (.s (.c .l .l) (.s (.db (.s .r (.eU 17 true ⟨[0,0,2,4,8,0,48,64,0,256,512,1024,0,6144,8192,
 16512,32768,65537,262143],[0,0,2,4,8,0,48,64,0,256,512,1024,0,6144,8192,16512,32768,65537,131073]⟩ [524288,1048576,2097152,4194304,8388608,16777216,33554432,67108864,134217728,268435456,536870912,1073741824,
 2147483648,4294967296,8589934592,17179869184,34359738368,68719476736,8] [8,1,1048576,2097152,4194304,16,25165824,33554432,1,134217728,268435456,536870912,16,3221225472,4294967296,8657043456,17179869184,34360262656,
 68719476736] (.take 0 (.take 1 (.take 2 (.take 3 (.take 4 (.take 5 (.take 6 (.take 7 (.take 8 (.take 9 (.take 10 (.take 11 (.take 12 (.take 13 (.take 14 (.take 15 (.dg 16 (.tail [.run, .run]))))))))))))))))))))) .r)))))) (.s .r .l)))))
theorem W.ajm (s:Option Addr) (w:World) (Q:Value→World→Prop) (h:W.zf s w Q):aR Tryz.prog F.zf #[.pointer s] w Q:=okF A.zf Tryz.func67 (by kernel_rfl) (by kernel_rfl) h
def W.xg (cv:Bool) (bj:ad) (bk:ad) (bl:ad) (key:ad) (val:ad) (w:World) (Q:Value→World→Prop):Prop:=az (w.alloc (.cells #[.bool cv, .slice bj.a bj.len bj.cap, .slice bk.a
 bk.len bk.cap, .slice bl.a bl.len bl.cap] ai.cD)) fun ag=>az (ag.alloc c8) fun aw=>bJ aw (ah w) fun ek=>c7 (fun nm:Bool→World→Prop=>FP ek nm aw w) (fun (CK:Bool) cm=>c7 (fun acv:Bool→World
 →Prop=>aE CK (acv true cm) (aZ F.tS #[.slice key.a key.len key.cap] cm fun Aw gR=>acv (!Aw) gR)) (fun (sm:Bool) dH=>aE (sm||(decide ((val.len:Int)>24))) (cN dH (ah ag) [.bool false, .slice none 0 0,
 .slice none 0 0, .slice none 0 0]∧(4:Nat)=4∧az (setCells dH (ah ag) 0 [.bool false, .slice none 0 0, .slice none 0 0, .slice none 0 0]) fun cE=>pb cE ag Q) (bJ dH (ah w) fun uD=>ar dH (Addr.add (ah w) 1) fun gx=>ar dH
 (Addr.add (ah w) 2) fun ed=>ar dH (Addr.add (ah w) 3) fun e4=>iE F.fg #[.agg #[.bool uD, .slice gx.a gx.len gx.cap, .slice ed.a ed.len ed.cap, .slice e4.a e4.len e4.cap]] dH fun acw dk lK gI fG=>az (fG.alloc
 c8) fun mK=>cN mK (ah fG) [.bool acw, .slice dk.a dk.len dk.cap, .slice lK.a lK.len lK.cap, .slice gI.a gI.len gI.cap]∧(4:Nat)=4∧az (setCells mK (ah fG) 0 [.bool acw, .slice dk.a dk.len dk.cap, .slice lK.a
 lK.len lK.cap, .slice gI.a gI.len gI.cap]) fun jh=>bJ jh (ah w) fun rj=>ar jh (Addr.add (ah w) 1) fun dw=>ar jh (Addr.add (ah w) 2) fun fq=>ar jh (Addr.add (ah w) 3) fun ei=>dK F.qo #[.agg #[.bool rj, .slice
 dw.a dw.len dw.cap, .slice fq.a fq.len fq.cap, .slice ei.a ei.len ei.cap], .slice key.a key.len key.cap] jh fun Hs aqz dO=>aE aqz (az (dO.drew) fun jf=>∃acx:Nat→Prop,¬acx (Addr.add (ah fG) 2).block∧ar jf
 (Addr.add (ah fG) 2) fun ny=>en F.lu #[.slice val.a val.len val.cap] jf fun fN E_=>aq acx jf E_∧∃acy:Addr,ny.a=some acy∧aX Hs ny.len∧st E_ (acy.add (Int.toNat Hs*1)) (.slice fN.a
 fN.len fN.cap) fun kh=>ey kh fG ag Q) (az (dO.drew) fun gl=>∃UK:Nat→Prop,¬UK (Addr.add (ah fG) 1).block∧ar gl (Addr.add (ah fG) 1) fun od=>en F.lu #[.slice key.a key.len key.cap] gl fun
 ix pd=>aq UK gl pd∧az (pd.alloc (.cells #[.slice ix.a ix.len ix.cap] ai.cG)) fun FX=>aq UK pd FX∧en F.w_ #[.slice od.a od.len od.cap, .int .i64 Hs, .slice (some (ah pd)) 1 1]
 FX fun gz vF=>st vF (Addr.add (ah fG) 1) (.slice gz.a gz.len gz.cap) fun Ci=>az (Ci.drew) fun g3=>∃UL:Nat→Prop,¬UL (Addr.add (ah fG) 2).block∧ar g3 (Addr.add (ah fG) 2) fun j0=>en
 F.lu #[.slice val.a val.len val.cap] g3 fun yg k0=>aq UL g3 k0∧az (k0.alloc (.cells #[.slice yg.a yg.len yg.cap] ai.cG)) fun xn=>aq UL k0 xn∧en F.w_
 #[.slice j0.a j0.len j0.cap, .int .i64 Hs, .slice (some (ah k0)) 1 1] xn fun pU hX=>st hX (Addr.add (ah fG) 2) (.slice pU.a pU.len pU.cap) fun y2=>ey y2 fG ag Q))))
def A.xg:bG:=(.s .r (.s (.s (.gn [.run, .run, .run, .run, .split 3, .run, .run, .run, .run, .split 3, .run, .run, .run, .run, .pure 3]) (.c (.s .r .l) .l)) (.s .r (.s .r (.s (.s .r (.c (.s (.eU 5 true ⟨[0,1,0,0,8,31,63],
 [0,1,0,0,8,6,48]⟩ [549755813888,1099511627776,2199023255552,4398046511104,8796093022208,17592186044416,0] [256,549755813888,512,4,4398046511104,3298534883328,26388279066624] (.take 0 (.take 1 (.take 2 (.take 3 (.dg 4
 (.tail [.run, .run]))))))) (.s .r .l)) .l)) (.s (.eU 6 true ⟨[0,1,0,0,8,16,54,127,255],[0,1,0,0,8,16,38,0,192]⟩ [70368744177664,140737488355328,281474976710656,562949953421312,1125899906842624,2251799813685248,
 4503599627370496,9007199254740992,0] [256,70368744177664,512,2,562949953421312,1125899906842624,2674012278751232,256,13510798882111488] (.take 0 (.take 1 (.take 2 (.take 3 (.dg 4 (.dg 5 (.tail [.run, .run, .run])))))))) (.s
 (.eU 6 true ⟨[0,1,0,0,8,16,54,127,255],[0,1,0,0,8,16,38,0,192]⟩ [18014398509481984,36028797018963968,72057594037927936,144115188075855872,288230376151711744,576460752303423488,1152921504606846976,
 2305843009213693952,0] [256,18014398509481984,512,4,144115188075855872,288230376151711744,684547143360315392,256,3458764513820540928] (.take 0 (.take 1 (.take 2 (.take 3 (.dg 4 (.dg 5 (.tail [.run, .run, .run])))))))) (.s .r
 .l))))))))
theorem W.agQ (cv:Bool) (bj:ad) (bk:ad) (bl:ad) (key:ad) (val:ad) (w:World) (Q:Value→World→Prop) (h:W.xg cv bj bk bl key val w Q):aR Tryz.prog F.xg #[.agg #[.bool cv, .slice bj.a bj.len bj.cap, .slice bk.a bk.len bk.cap, .slice bl.a bl.len bl.cap], .slice key.a key.len key.cap, .slice val.a val.len val.cap] w Q:=okF A.xg Tryz.func68 (by kernel_rfl) (by kernel_rfl) h
def W.BK (s:Option Addr) (w:World) (Q:Value→World→Prop):Prop:=aE (!(Option.isNone s)) (∃a8:Addr,s=some a8∧ar w (a8.add 1) fun s2=>en F.BJ #[.slice s2.a s2.len s2.cap] w fun
 b7 bc=>∃hW:Addr,s=some hW∧st bc (hW.add 2) (.slice b7.a b7.len b7.cap) fun bt=>Q (.tuple #[]) bt) (Q (.tuple #[]) w)
def A.BK:bG:=(.s .r (.c .r .l))
theorem W.ajg (s:Option Addr) (w:World) (Q:Value→World→Prop) (h:W.BK s w Q):aR Tryz.prog F.BK #[.pointer s] w Q:=okF A.BK Tryz.func74 (by kernel_rfl) (by kernel_rfl) h
def W.xA (c:Option Addr) (no:Int) (w:World) (Q:Value→World→Prop):Prop:=aE (Option.isNone c) (Q (.pointer none) w) (∃a8:Addr,c=some a8∧ar w (a8.add 1) fun s2=>∃ (kk:Int→World→Prop) (m5:Int→
 World→Nat),kk 0 w∧∀ (n5:Int) (bd:World),kk n5 bd→aE (decide (n5<(s2.len:Int))) (∃jr:Addr,c=some jr∧ar bd (jr.add 1) fun dQ=>∃a9:Addr,dQ.a=some a9∧aX n5 dQ.len∧∃kj:Addr,(some (a9.add (Int.toNat n5*6))
 :Option Addr)=some kj∧bJ bd kj fun tm=>c7 (fun o4:Bool→World→Prop=>aE tm (∃kQ:Addr,(some (a9.add (Int.toNat n5*6)):Option Addr)=some kQ∧bL bd (kQ.add 3) fun n14=>o4 (n14==no) bd) (o4 false bd)) (fun
 (Ad:Bool) cX=>aE Ad (Q (.pointer (some (a9.add (Int.toNat n5*6)))) cX) (kk (ay (n5+1)) cX∧m5 (ay (n5+1)) cX<m5 n5 bd))) (Q (.pointer none) bd))
def A.xA:bG:=(.s .r (.s a8 (.s (.s .r (.db (.loop [(14,(.int .i64))] [0,1,13] (.s .r (.s (.c .l .l) (.s (.db (.s .r (.s .r (.s (.gn [.run, .run, .run, .run, .run, .split 6]) (.c (.s .r .l) .l))))) .r)))))) (.s .r
 .l))))
theorem W.ahU (c:Option Addr) (no:Int) (w:World) (Q:Value→World→Prop) (h:W.xA c no w Q):aR Tryz.prog F.xA #[.pointer c, .int .i64 no] w Q:=okF A.xA Tryz.func76 (by kernel_rfl) (by kernel_rfl) h
def W.rQ (s:ad) (no:Int) (w:World) (Q:Value→World→Prop):Prop:=(8:Int)≠0∧∃a8:Addr,s.a=some a8∧aX (ay (Int.tdiv no 8)) s.len∧g8 w (a8.add (Int.toNat (ay (Int.tdiv no 8))*1)) fun cZ=>(8:Int)≠0
 ∧(0:Int)≤(Int.tmod no 8)∧Q (.bool (((sA .u8 (Int.fdiv cZ (2^(min (Int.toNat (Int.tmod no 8)) 8))) 1):Int)==1)) w
def A.rQ:bG:=(.s .r (.s .r .l))
theorem W.aiO (s:ad) (no:Int) (w:World) (Q:Value→World→Prop) (h:W.rQ s no w Q):aR Tryz.prog F.rQ #[.slice s.a s.len s.cap, .int .i64 no] w Q:=okF A.rQ Tryz.func78 (by kernel_rfl) (by kernel_rfl) h
def W.Bj (d:Option Addr) (i:Int) (w:World) (Q:Value→World→Prop):Prop:=az (w.alloc oH) fun ag=>∃cQ:Addr,d=some cQ∧∃p5:Option Nat,ag.cell? (cQ.add 5)=some (.map p5)∧∃cC:ad,∃bT:World,
 Sem.run Tryz.prog (Instr.lookup ai.y3 (.map p5) (.int .i64 i) false) ag= .ok (.slice cC.a cC.len cC.cap) bT∧aE (decide ((cC.len:Int)>0)) (∃hW:Addr,cC.a=some hW∧((0:Int)≤(ay ((cC.len:Int)-1))∧(ay
 ((cC.len:Int)-1))<(cC.len:Int))∧∃Hp:List Value,eE bT (hW.add (Int.toNat (ay ((cC.len:Int)-1))*256)) 0 256=some Hp∧Qy bT w Hp Q) (∃kj:Addr,d=some kj∧ar bT (kj.add 4) fun eF=>My eF i bT 256 fun aqA=>
 Qy bT w aqA Q)
def A.Bj:bG:=(.s .r (.s (.s .r a8) (.s .r .l)))
theorem W.ahC (d:Option Addr) (i:Int) (w:World) (Q:Value→World→Prop) (h:W.Bj d i w Q):aR Tryz.prog F.Bj #[.pointer d, .int .i64 i] w Q:=okF A.Bj Tryz.func79 (by kernel_rfl) (by kernel_rfl) h
def W.Cu (t:Option Addr) (w:World) (Q:Value→World→Prop):Prop:=aE (Option.isNone t) (Q (.tuple #[.slice none 0 0, .int .i64 0, .int .i64 1]) w) (az (w.alloc (.cells #[.pointer t, .slice none 0 0, .int .i64 0]
 ai.aaA)) fun ag=>c7 (fun eO:World→Prop=>∃a3:Addr,t=some a3∧bL ag (a3.add 4) fun fc=>aE (decide (fc>0)) (az (ag.drew) fun bT=>∃hW:Addr,t=some hW∧¬False∧bL bT (hW.add 3) fun n7=>∃lJ:Addr,t=some
 lJ∧¬False∧bL bT (lJ.add 4) fun n9=>aS F.Ag #[.pointer (some (ah w)), .int .i64 n7, .int .i64 n9, .slice none 0 0, .slice none 0 0] bT fun n12 cj=>aE (n12 !=0) (Q (.tuple #[.slice none 0 0, .int .i64 0, .int .i64
 n12]) cj) (eO cj)) (eO ag)) (fun cm=>∃l_:Addr,(some (ah w):Option Addr)=some l_∧ar cm (l_.add 1) fun fp=>bA F.Tk #[.slice fp.a fp.len fp.cap] cm fun cX=>az (cX.drew) fun ef=>∃tw:Addr,
 (some (ah w):Option Addr)=some tw∧¬False∧ar ef (tw.add 1) fun eM=>∃kJ:Addr,(some (ah w):Option Addr)=some kJ∧¬False∧bL ef (kJ.add 2) fun n22=>Q (.tuple #[.slice eM.a eM.len eM.cap, .int .i64 n22, .int
 .i64 0]) ef))
def A.Cu:bG:=(.s .r (.s a8 (.s .r (.s (.lI [] [5] (.s .r (.c (.s (.eU 9 false ⟨[0,0,2,4,8,0,32,64,128,273,1023],[0,0,2,4,8,0,32,64,128,273,512]⟩ [131072,262144,524288,1048576,2097152,4194304,
 8388608,16777216,33554432,67108864,64] [32,1,262144,524288,1048576,1,4194304,8388608,16777216,35782656,67108864] (.take 0 (.take 1 (.take 2 (.take 3 (.take 4 (.take 5 (.take 6 (.take 7 (.take 8 (.tail [.run, .run])))))))))))
 a8) .l))) (.s .r (.s (.eU 9 false ⟨[0,1,2,4,0,16,32,64,15,511,1023],[0,1,2,4,0,16,32,64,8,128,0]⟩ [34359738368,68719476736,137438953472,274877906944,549755813888,1099511627776,2199023255552,4398046511104,4,8,
 16] [32,34359738368,68719476736,137438953472,32,549755813888,1099511627776,2199023255552,274877906944,4398046511104,0] (.take 0 (.take 1 (.take 2 (.take 3 (.take 4 (.take 5 (.take 6 (.take 7 (.take 8 (.tail [.run, .run])))))))))))
 .l))))))
theorem W.aop (t:Option Addr) (w:World) (Q:Value→World→Prop) (h:W.Cu t w Q):aR Tryz.prog F.Cu #[.pointer t] w Q:=okF A.Cu Tryz.func80 (by kernel_rfl) (by kernel_rfl) h
def W.w3 (no:Int) (b:ad) (w:World) (Q:Value→World→Prop):Prop:=az (w.alloc z3) fun ag=>aE ((b.len:Int) !=256) (cN ag (ah w) [.int .i64 0, .int .u64 0, .slice none 0 0]∧(3:Nat)=3∧az (setCells ag (ah w)
 0 [.int .i64 0, .int .u64 0, .slice none 0 0]) fun aw=>bL aw (ah w) fun b3=>jX aw (Addr.add (ah w) 1) fun fc=>ar aw (Addr.add (ah w) 2) fun b7=>Q (.tuple #[.agg #[.int .i64 b3, .int .u64 fc, .slice b7.a b7.len b7.cap], .int .i64 9])
 aw) (((0:Int)≤4∧4≤((b.cap:Nat):Int))∧∃c3:ByteArray,∃bt:World,Sem.run Tryz.prog (convert ai.cG ai.string (.slice (bf b.a 1 0 b.cap) ((Int.toNat 4)-0) (b.cap-0))) ag= .ok (.string c3) bt∧aE
 (!(ByteArray.toList c3==ByteArray.toList (ByteArray.mk #[83,84,78,67]))) (cN bt (ah w) [.int .i64 0, .int .u64 0, .slice none 0 0]∧(3:Nat)=3∧az (setCells bt (ah w) 0 [.int .i64 0, .int .u64 0, .slice none 0 0]) fun bC=>
 PK bC w Q) (∃lk:Addr,b.a=some lk∧aX 4 b.len∧g8 bt (lk.add (Int.toNat 4*1)) fun n13=>aE (n13 !=1) (cN bt (ah w) [.int .i64 0, .int .u64 0, .slice none 0 0]∧(3:Nat)=3∧az (setCells bt (ah w) 0 [.int .i64 0, .int
 .u64 0, .slice none 0 0]) fun dE=>bL dE (ah w) fun n15=>jX dE (Addr.add (ah w) 1) fun n16=>ar dE (Addr.add (ah w) 2) fun jQ=>Q (.tuple #[.agg #[.int .i64 n15, .int .u64 n16, .slice jQ.a jQ.len jQ.cap], .int .i64 12]) dE)
 (mx F.tJ #[.slice b.a b.len b.cap] bt fun n20 ef=>Ib F.ql #[.slice b.a b.len b.cap, .int .i64 20, .int .i64 24] ef fun n23 dX=>aE (((IntKind.wrap .u64 n20):Int) !=n23) (cN dX (ah w) [.int .i64 0, .int .u64
 0, .slice none 0 0]∧(3:Nat)=3∧az (setCells dX (ah w) 0 [.int .i64 0, .int .u64 0, .slice none 0 0]) fun dm=>bL dm (ah w) fun n25=>jX dm (Addr.add (ah w) 1) fun n26=>ar dm (Addr.add (ah w) 2) fun ed=>Q (.tuple #[.agg
 #[.int .i64 n25, .int .u64 n26, .slice ed.a ed.len ed.cap], .int .i64 5]) dm) (Ib F.ql #[.slice b.a b.len b.cap, .int .i64 6, .int .i64 8] dX fun n30 fB=>∃CO:Addr,b.a=some CO∧aX 5 b.len∧g8 fB (CO.add
 (Int.toNat 5*1)) fun n32=>aZ F.E6 #[.int .i64 (ay n32)] fB fun CP e3=>c7 (fun acz:Bool→World→Prop=>aE ((!CP)||(decide (((ay n30):Int)>232))) (acz true e3) (((0:Int)≤(ay (24+(ay n30)))∧(ay (24+(ay
 n30)))≤(b.len:Int))∧aZ F.w2 #[.slice (bf b.a 1 (Int.toNat (ay (24+(ay n30)))) b.cap) (b.len-(Int.toNat (ay (24+(ay n30))))) (b.cap-(Int.toNat (ay (24+(ay n30)))))] e3 fun Uy lX=>acz (!Uy) lX)) (fun (UE:Bool)
 dO=>aE UE (cN dO (ah w) [.int .i64 0, .int .u64 0, .slice none 0 0]∧(3:Nat)=3∧az (setCells dO (ah w) 0 [.int .i64 0, .int .u64 0, .slice none 0 0]) fun fW=>PK fW w Q) (aZ F.E7 #[.int .i64 no] dO fun Uv kg=>
 c7 (fun acA:Bool→World→Prop=>aE (!Uv) (acA true kg) (Ib F.ql #[.slice b.a b.len b.cap, .int .i64 8, .int .i64 12] kg fun aqB nr=>acA (aqB !=(IntKind.wrap .u64 no)) nr)) (fun (rX:Bool) gF=>aE rX (cN gF
 (ah w) [.int .i64 0, .int .u64 0, .slice none 0 0]∧(3:Nat)=3∧az (setCells gF (ah w) 0 [.int .i64 0, .int .u64 0, .slice none 0 0]) fun hG=>bL hG (ah w) fun Fb=>jX hG (Addr.add (ah w) 1) fun aqC=>ar hG (Addr.add (ah w) 2)
 fun so=>Q (.tuple #[.agg #[.int .i64 Fb, .int .u64 aqC, .slice so.a so.len so.cap], .int .i64 1]) hG) (Dp F.wU #[.slice b.a b.len b.cap, .int .i64 24, .int .i64 (ay n30)] gF fun hV acB pT=>az (pT.drew) fun dp=>∃np:
 Nat→Prop,∃UM:Addr,b.a=some UM∧aX 5 b.len∧¬np (UM.add (Int.toNat 5*1)).block∧g8 dp (UM.add (Int.toNat 5*1)) fun acC=>Ib F.ql #[.slice b.a b.len b.cap, .int .i64 12, .int .i64 20] dp fun acD qp=>aq
 np dp qp∧cN qp (ah w) [.int .i64 (ay acC), .int .u64 acD, .slice hV.a hV.len hV.cap]∧(3:Nat)=3∧az (setCells qp (ah w) 0 [.int .i64 (ay acC), .int .u64 acD, .slice hV.a hV.len hV.cap]) fun ml=>bL ml (ah w) fun
 aqD=>jX ml (Addr.add (ah w) 1) fun OO=>ar ml (Addr.add (ah w) 2) fun ye=>Q (.tuple #[.agg #[.int .i64 aqD, .int .u64 OO, .slice ye.a ye.len ye.cap], .int .i64 0]) ml))))))))
def A.w3:bG:=(.s .r (.s (.db (.s .r (.c (.s .r .l) (.s .r (.c (.s .r .l) (.s .r (.c (.s .r .l) a8))))))) (.s .r (.s (.db (.s (.gn [.run, .run, .run, .run, .run, .run, .run, .pure 2, .run, .run, .run, .split 6]) (.c (.s .r
 .l) (.s (.gn [.run, .run, .run, .run, .split 5]) (.c (.s .r .l) .l))))) (.s .r (.s (.eU 7 true ⟨[0,1,2,4,0,16,0,104,255,511],[0,1,2,4,0,16,0,104,128,0]⟩ [37778931862957161709568,75557863725914323419136,
 151115727451828646838272,302231454903657293676544,604462909807314587353088,1208925819614629174706176,2417851639229258349412352,4835703278458516698824704,0,32] [2,37778931862957161709568,75557863725914323419136,
 151115727451828646838272,2,604462909807314587353088,128,3929008913747544817795072,4835703278458516698824720,0] (.take 0 (.take 1 (.take 2 (.take 3 (.take 4 (.take 6 (.dg 5 (.tail [.run, .run, .run]))))))))) .l))))))
theorem W.afm (no:Int) (b:ad) (w:World) (Q:Value→World→Prop) (h:W.w3 no b w Q):aR Tryz.prog F.w3 #[.int .i64 no, .slice b.a b.len b.cap] w Q:=okF A.w3 Tryz.func88 (by kernel_rfl) (by kernel_rfl) h
def W.BH (s:Option Addr) (no:Int) (w:World) (Q:Value→World→Prop):Prop:=aZ F.xD #[.pointer s, .int .i64 no] w fun ek ag=>c7 (fun nm:Bool→World→Prop=>aE ek (∃a5:Addr,s=some a5∧ar
 ag (a5.add 1) fun c3=>aZ F.rQ #[.slice c3.a c3.len c3.cap, .int .i64 no] ag fun ju bt=>nm ju bt) (nm false ag)) (fun (ov:Bool) bZ=>Q (.bool ov) bZ)
def A.BH:bG:=(.s .r (.s (.gn [.run, .run, .run, .run, .split 6]) .l))
theorem W.ai7 (s:Option Addr) (no:Int) (w:World) (Q:Value→World→Prop) (h:W.BH s no w Q):aR Tryz.prog F.BH #[.pointer s, .int .i64 no] w Q:=okF A.BH Tryz.func92 (by kernel_rfl) (by kernel_rfl) h
def W.AU (no:Int) (OP:Int) (OQ:Int) (CR:ad) (w:World) (Q:Value→World→Prop):Prop:=az (w.alloc (.cells #[.int .i64 OP, .int .u64 OQ, .slice CR.a CR.len CR.cap] ai.Ia)) fun ag=>
 aZ F.E7 #[.int .i64 no] ag fun e9 aw=>c7 (fun qs:Bool→World→Prop=>aE (!e9) (qs true aw) (bL aw (ah w) fun n6=>aZ F.E6 #[.int .i64 n6] aw fun ju bt=>qs (!ju) bt)) (fun (ov:Bool) bZ=>aE ov (Q (.tuple #[.slice
 none 0 0, .int .i64 1]) bZ) (ar bZ (Addr.add (ah w) 2) fun iM=>aE (decide ((iM.len:Int)>232)) (Q (.tuple #[.slice none 0 0, .int .i64 10]) bZ) (az (bZ.alloc (.cells #[.int .u8 83, .int .u8 84, .int .u8 78, .int .u8 67] ai.uint8))
 fun cm=>∃dZ:ad,∃gR:World,Sem.run Tryz.prog (convert ai.cG ai.cG (.slice (some (ah bZ)) 4 4)) cm= .ok (.slice dZ.a dZ.len dZ.cap) gR∧bL gR (ah w) fun n16=>az (gR.alloc (.cells #[.int .u8 1, .int .u8
 (IntKind.wrap .u8 n16)] ai.uint8)) fun fC=>az (fC.alloc (.cells #[.slice dZ.a dZ.len dZ.cap, .slice (some (ah gR)) 2 2] ai.cG)) fun ef=>en F.rD #[.slice (some (ah fC)) 2 2] ef fun gp dH=>ar dH (Addr.add (ah
 w) 2) fun fM=>en F.n2 #[.slice gp.a gp.len gp.cap, .int .u64 (IntKind.wrap .u64 (fM.len:Int)), .int .i64 2] dH fun nx lj=>en F.n2 #[.slice nx.a nx.len nx.cap, .int .u64 (IntKind.wrap .u64 no), .int .i64 4] lj fun
 e4 cT=>jX cT (Addr.add (ah w) 1) fun n29=>en F.n2 #[.slice e4.a e4.len e4.cap, .int .u64 n29, .int .i64 8] cT fun dk gD=>c7 (fun Fa:ad→World→Prop=>az (gD.drew) fun eS=>∃Ht:Nat→Prop,¬Ht (Addr.add
 (ah w) 2).block∧ar eS (Addr.add (ah w) 2) fun j4=>¬Ht (Addr.add (ah w) 2).block∧ar eS (Addr.add (ah w) 2) fun jx=>(((0:Int)≤4∧(4:Int)≤4∧(4:Int)≤wW∧((1:Nat):Int)*4≤140737488355328)∧az (eS.alloc
 (.cells (oF Tryz.prog ai.uint8 (Int.toNat 4)) ai.uint8)) fun iT=>aq Ht eS iT∧(PG jx)∧az (iT.alloc (.cells (oF Tryz.prog ai.uint8 (Int.toNat (ay (232-(jx.len:Int))))) ai.uint8)) fun kN=>aq Ht iT kN∧PH kN dk
 eS j4 iT jx Fa)∧((PG jx)∧az (eS.alloc (.cells (oF Tryz.prog ai.uint8 (Int.toNat (ay (232-(jx.len:Int))))) ai.uint8)) fun mZ=>aq Ht eS mZ∧((0:Int)≤4∧(4:Int)≤4∧(4:Int)≤wW∧((1:Nat):Int)*4≤
 140737488355328)∧az (mZ.alloc (.cells (oF Tryz.prog ai.uint8 (Int.toNat 4)) ai.uint8)) fun jf=>aq Ht mZ jf∧PH jf dk mZ j4 eS jx Fa)) (fun (fN:ad) qB=>az (qB.drew) fun kh=>∃atB:Nat→Prop,((0:Int)≤20∧
 20≤(fN.len:Int))∧mx F.tJ #[.slice fN.a fN.len fN.cap] kh fun Fb gF=>∃atC:Nat→Prop,en F.n2 #[.slice none 0 0, .int .u64 (IntKind.wrap .u64 Fb), .int .i64 4] gF fun lY B4=>∃aqE:Int,∃gl:World,
 Sem.run Tryz.prog (Builtin.copy_ #[ai.cG,ai.cG] ai.int #[.slice (bf fN.a 1 (Int.toNat 20) fN.cap) (fN.len-(Int.toNat 20)) (fN.cap-(Int.toNat 20)), .slice lY.a lY.len lY.cap]) B4= .ok (.int .i64 aqE) gl∧Q
 (.tuple #[.slice fN.a fN.len fN.cap, .int .i64 0]) gl))))
def A.AU:bG:=(.s .r (.s (.db (.s (.gn [.run, .run, .run, .run, .split 4]) (.c (.s .r .l) a8))) (.s .r (.s .r (.s .r (.s .r (.s (.lI [(6, .slice)] [] (.eU 9 true ⟨[0,0,0,4,0,16,32,64,128,267,512,2047],[0,0,0,4,
 0,16,32,64,128,267,512,1025]⟩ [17592186044416,35184372088832,70368744177664,140737488355328,281474976710656,562949953421312,1125899906842624,2251799813685248,4503599627370496,9007199254740992,18014398509481984,64] [64,0,
 8,70368744177664,8,281474976710656,562949953421312,1125899906842624,2251799813685248,4697113673859072,9007199254740992,18014398509481984] (.take 0 (.take 2 (.take 3 (.take 4 (.take 5 (.take 6 (.take 7 (.two 1 (.dg 8 (.tail [.run,
 .run, .run])) 8 (.dg 1 (.tail [.run, .run, .run])))))))))))) (.s (.eU 6 true ⟨[0,1,0,4,8,24,34],[0,1,0,4,8,16,34]⟩ [36028797018963968,72057594037927936,144115188075855872,288230376151711744,576460752303423488,
 1152921504606846976,2305843009213693952] [64,36028797018963968,64,144115188075855872,288230376151711744,576460752303423488,1224979098644774912] (.take 0 (.take 1 (.take 2 (.out 3 true (.take 4 (.out 5 false (.tail [.run])))))))) (.s
 .r .l)))))))))
theorem W.aff (no:Int) (OP:Int) (OQ:Int) (CR:ad) (w:World) (Q:Value→World→Prop) (h:W.AU no OP OQ CR w Q):aR Tryz.prog F.AU #[.int .i64 no, .agg #[.int .i64 OP, .int .u64 OQ, .slice CR.a CR.len CR.cap]] w Q:=okF A.AU Tryz.func99 (by kernel_rfl) (by kernel_rfl) h
def W.q4 (t:Option Addr) (no:Int) (leaf:Bool) (w:World) (Q:Value→World→Prop):Prop:=az (w.alloc c8) fun ag=>∃cQ:Addr,t=some cQ∧∃gv:Option Addr,ag.cell? cQ=some (.pointer gv)∧fK
 F.By #[.pointer gv, .int .i64 no] ag fun c3 n7 bz=>aE (n7 !=0) (Q2 bz w Q n7) (XP F.w3 #[.int .i64 no, .slice c3.a c3.len c3.cap] bz fun n15 n16 jQ n18 cm=>az (cm.alloc z3) fun dH=>cN dH (ah cm)
 [.int .i64 n15, .int .u64 n16, .slice jQ.a jQ.len jQ.cap]∧(3:Nat)=3∧az (setCells dH (ah cm) 0 [.int .i64 n15, .int .u64 n16, .slice jQ.a jQ.len jQ.cap]) fun cE=>aE (n18 !=0) (Q2 cE w Q n18) (az (cE.drew) fun cT=>¬
 False∧jX cT (Addr.add (ah cm) 1) fun n27=>∃a28:Addr,t=some a28∧¬False∧jX cT (a28.add 2) fun n29=>aE (decide (n27>n29)) (c7 (fun acE:Bool→World→Prop=>aE true (acE true cT) (bL cT (ah cm) fun n31=>c7 (fun
 acF:Bool→World→Prop=>aE (n31 !=1) (bL cT (ah cm) fun n33=>acF (n33 !=2) cT) (acF false cT)) (fun (UN:Bool) mK=>acE UN mK))) (fun (Hq:Bool) lX=>aE Hq (cN lX (ah w) [.bool false, .slice none 0 0, .slice
 none 0 0, .slice none 0 0]∧(4:Nat)=4∧az (setCells lX (ah w) 0 [.bool false, .slice none 0 0, .slice none 0 0, .slice none 0 0]) fun iT=>Ik iT w Q) (ar lX (Addr.add (ah cm) 2) fun iN=>sV F.vf #[.bool leaf, .slice
 iN.a iN.len iN.cap] lX fun Az ny nQ jL aqF mZ=>cN mZ (ah w) [.bool Az, .slice ny.a ny.len ny.cap, .slice nQ.a nQ.len nQ.cap, .slice jL.a jL.len jL.cap]∧(4:Nat)=4∧az (setCells mZ (ah w) 0 [.bool Az,
 .slice ny.a ny.len ny.cap, .slice nQ.a nQ.len nQ.cap, .slice jL.a jL.len jL.cap]) fun qB=>MO qB w Q aqF))) (¬False∧bL cT (ah cm) fun Fb=>c7 (fun sK:Bool→World→Prop=>aE (!((Fb==1)==leaf)) (sK true cT) (bL
 cT (ah cm) fun UO=>c7 (fun acG:Bool→World→Prop=>aE (UO !=1) (bL cT (ah cm) fun UP=>acG (UP !=2) cT) (acG false cT)) (fun (UQ:Bool) gl=>sK UQ gl))) (fun (aqG:Bool) CJ=>aE aqG (cN CJ (ah w) [.bool
 false, .slice none 0 0, .slice none 0 0, .slice none 0 0]∧(4:Nat)=4∧az (setCells CJ (ah w) 0 [.bool false, .slice none 0 0, .slice none 0 0, .slice none 0 0]) fun pd=>Ik pd w Q) (ar CJ (Addr.add (ah cm) 2) fun gy=>sV
 F.vf #[.bool leaf, .slice gy.a gy.len gy.cap] CJ fun Hu qb j0 nK aqH wM=>cN wM (ah w) [.bool Hu, .slice qb.a qb.len qb.cap, .slice j0.a j0.len j0.cap, .slice nK.a nK.len nK.cap]∧(4:Nat)=4∧az
 (setCells wM (ah w) 0 [.bool Hu, .slice qb.a qb.len qb.cap, .slice j0.a j0.len j0.cap, .slice nK.a nK.len nK.cap]) fun y1=>MO y1 w Q aqH)))))
def A.q4:bG:=(.s .r (.s .r (.s a8 (.s .r (.s a8 (.s (.s (.eU 12 false ⟨[0,1,0,4,8,16,34,64,128,384,640,128,3200,4224,8320,16384,49152,81920,147456,262144,786432,1310720,2375680,4210688],[0,1,0,4,
 8,16,34,64,128,384,640,128,3200,4224,8192,16384,49152,81920,147456,262144,786432,1310720,2375680,4210688]⟩ [17179869184,34359738368,68719476736,137438953472,274877906944,549755813888,1099511627776,2199023255552,
 4398046511104,8796093022208,17592186044416,35184372088832,70368744177664,140737488355328,281474976710656,562949953421312,1125899906842624,2251799813685248,4503599627370496,9007199254740992,18014398509481984,36028797018963968,
 72057594037927936,144115188075855872] [1024,17179869184,1,68719476736,137438953472,274877906944,584115552256,1099511627776,2199023256576,6597069766656,10995116277760,2199023255556,54975581388800,72567767433216,
 140737488355328,281474976711680,844424930131968,1407374883553280,2533274790395904,4503599627371520,13510798882111488,22517998136852480,40813871623045120,72339069014638592] (.take 0 (.take 1 (.take 2 (.take 3 (.take 4 (.take 5
 (.take 6 (.take 7 (.sp 41 (.take 8 (.take 9 (.take 10 (.take 11 (.tail [.run, .run, .run, .split 8, .run, .run, .run, .split 3, .run, .run, .run, .run]))))) (.take 8 (.take 9 (.take 10 (.take 11 (.tail [.run, .run, .run, .split 8, .run,
 .run, .run, .split 3, .run, .run, .run, .run]))))))))))))))) (.c (.s .r .l) .l)) (.s .r .l)))))))
theorem W.ajD (t:Option Addr) (no:Int) (leaf:Bool) (w:World) (Q:Value→World→Prop) (h:W.q4 t no leaf w Q):aR Tryz.prog F.q4 #[.pointer t, .int .i64 no, .bool leaf] w Q:=okF A.q4 Tryz.func104 (by kernel_rfl) (by kernel_rfl) h
def W.tY (cv:Bool) (bj:ad) (bk:ad) (bl:ad) (key:ad) (w:World) (Q:Value→World→Prop):Prop:=az (w.alloc (.cells #[.bool cv, .slice bj.a bj.len bj.cap, .slice bk.a bk.len
 bk.cap, .slice bl.a bl.len bl.cap] ai.cD)) fun ag=>bJ ag (ah w) fun cA=>ar ag (Addr.add (ah w) 1) fun bN=>ar ag (Addr.add (ah w) 2) fun cC=>ar ag (Addr.add (ah w) 3) fun b7=>dK F.qo #[.agg #[.bool cA,
 .slice bN.a bN.len bN.cap, .slice cC.a cC.len cC.cap, .slice b7.a b7.len b7.cap], .slice key.a key.len key.cap] ag fun n8 ju bd=>c7 (fun CQ:Int→World→Prop=>aE ju (CQ (ay (n8+1)) bd) (CQ n8 bd)) (fun (n11:Int) cL=>Q (.int
 .i64 n11) cL)
def A.tY:bG:=(.s .r (.s .r (.s (.lI [(5,(.int .i64))] [] (.s .r (.c .r .l))) (.s .r .l))))
theorem W.agL (cv:Bool) (bj:ad) (bk:ad) (bl:ad) (key:ad) (w:World) (Q:Value→World→Prop) (h:W.tY cv bj bk bl key w Q):aR Tryz.prog F.tY #[.agg #[.bool cv, .slice bj.a bj.len bj.cap, .slice bk.a bk.len bk.cap, .slice bl.a bl.len bl.cap], .slice key.a key.len key.cap] w Q:=okF A.tY Tryz.func105 (by kernel_rfl) (by kernel_rfl) h
def W.qo (cv:Bool) (bj:ad) (bk:ad) (bl:ad) (key:ad) (w:World) (Q:Value→World→Prop):Prop:=az (w.alloc (.cells #[.bool cv, .slice bj.a bj.len bj.cap, .slice bk.a bk.len
 bk.cap, .slice bl.a bl.len bl.cap] ai.cD)) fun ag=>ar ag (Addr.add (ah w) 1) fun s2=>dK F.A6 #[.slice s2.a s2.len s2.cap, .slice key.a key.len key.cap, .func (.func
 F.mi) #[] #[]] ag fun n5 k6 bc=>Q (.tuple #[.int .i64 n5, .bool k6]) bc
def A.qo:bG:=(.s .r (.s .r .l))
theorem W.agI (cv:Bool) (bj:ad) (bk:ad) (bl:ad) (key:ad) (w:World) (Q:Value→World→Prop) (h:W.qo cv bj bk bl key w Q):aR Tryz.prog F.qo #[.agg #[.bool cv, .slice bj.a bj.len bj.cap, .slice bk.a bk.len bk.cap, .slice bl.a bl.len bl.cap], .slice key.a key.len key.cap] w Q:=okF A.qo Tryz.func106 (by kernel_rfl) (by kernel_rfl) h
def W.mP (cv:Bool) (bj:ad) (bk:ad) (bl:ad) (w:World) (Q:Value→World→Prop):Prop:=az (w.alloc (.cells #[.bool cv, .slice bj.a bj.len bj.cap, .slice bk.a bk.len bk.cap,
 .slice bl.a bl.len bl.cap] ai.cD)) fun ag=>ar ag (Addr.add (ah w) 1) fun s2=>∃ (kk:Int→World→Prop) (m5:Int→World→Nat),kk 0 ag∧∀ (n5:Int) (bd:World),kk n5 bd→aE (decide (n5<(s2.len:Int))) (∃jr:
 Addr,s2.a=some jr∧aX n5 s2.len∧ar bd (jr.add (Int.toNat n5*1)) fun dQ=>aZ F.tS #[.slice dQ.a dQ.len dQ.cap] bd fun tm bY=>c7 (fun o4:Bool→World→Prop=>aE (!tm) (o4 true bY) (c7 (fun acH:Bool→World→Prop
 =>aE (decide (n5>0)) (ar bY (Addr.add (ah w) 1) fun dZ=>∃m4:Addr,dZ.a=some m4∧aX (ay (n5-1)) dZ.len∧ar bY (m4.add (Int.toNat (ay (n5-1))*1)) fun fa=>aS F.mi #[.slice fa.a fa.len fa.cap, .slice
 dQ.a dQ.len dQ.cap] bY fun n19 fC=>acH (decide (n19≥0)) fC) (acH false bY)) (fun (p9:Bool) dX=>o4 p9 dX))) (fun (se:Bool) lj=>aE se (Q (.bool false) lj) (kk (ay (n5+1)) lj∧m5 (ay (n5+1)) lj<m5 n5 bd))) (bJ
 bd (ah w) fun uU=>aE uU (ar bd (Addr.add (ah w) 2) fun nx=>ar bd (Addr.add (ah w) 1) fun gx=>c7 (fun CL:Bool→World→Prop=>aE ((nx.len:Int)==(gx.len:Int)) (ar bd (Addr.add (ah w) 3) fun e4=>CL ((e4.len:Int)==0)
 bd) (CL false bd)) (fun (KN:Bool) gD=>c7 (fun acI:Bool→World→Prop=>aE KN (ar gD (Addr.add (ah w) 2) fun dk=>aZ F.AY #[.slice dk.a dk.len dk.cap, .func (.func F.u9) #[]
 #[]] gD fun CP e3=>acI (!CP) e3) (acI false gD)) (fun (Hq:Bool) lX=>Q (.bool Hq) lX))) (ar bd (Addr.add (ah w) 1) fun dw=>c7 (fun acJ:Bool→World→Prop=>aE (decide ((dw.len:Int)>0)) (ar bd (Addr.add (ah w) 3) fun
 ei=>ar bd (Addr.add (ah w) 1) fun px=>acJ ((ei.len:Int)==(ay ((px.len:Int)+1))) bd) (acJ false bd)) (fun (aqI:Bool) iy=>c7 (fun acK:Bool→World→Prop=>aE aqI (ar iy (Addr.add (ah w) 2) fun jw=>acK ((jw.len:Int)
 ==0) iy) (acK false iy)) (fun (Az:Bool) dM=>c7 (fun acL:Bool→World→Prop=>aE Az (ar dM (Addr.add (ah w) 3) fun jL=>aZ F.AZ #[.slice jL.a jL.len jL.cap, .func (.func F.u_) #[]
 #[]] dM fun aqJ nr=>acL (!aqJ) nr) (acL false dM)) (fun (rX:Bool) gF=>Q (.bool rX) gF)))))
def A.mP:bG:=(.s .r (.s (.s .r (.db (.loop [(10,(.int .i64))] [1,8,9] (.s .r (.s (.c .l .l) (.s (.db (.s .r (.s (.gn [.run, .run, .run, .run, .split 13, .run, .run, .split 9]) (.c (.s .r .l) .l)))) .r)))))) (.s (.s .r (.c
 (.s .r (.s (.gn [.run, .run, .run, .run, .run, .run, .run, .run, .split 4, .run, .run, .run, .run, .run, .split 5]) .l)) .l)) (.s .r (.s (.gn [.run, .run, .run, .run, .run, .split 8, .run, .run, .run, .run, .run, .run, .run, .run, .run,
 .split 4, .run, .run, .run, .run, .run, .split 5]) .l)))))
theorem W.afJ (cv:Bool) (bj:ad) (bk:ad) (bl:ad) (w:World) (Q:Value→World→Prop) (h:W.mP cv bj bk bl w Q):aR Tryz.prog F.mP #[.agg #[.bool cv, .slice bj.a bj.len bj.cap, .slice bk.a bk.len bk.cap, .slice bl.a bl.len bl.cap]] w Q:=okF A.mP Tryz.func107 (by kernel_rfl) (by kernel_rfl) h
def W.fg (cv:Bool) (bj:ad) (bk:ad) (bl:ad) (w:World) (Q:Value→World→Prop):Prop:=az (w.alloc (.cells #[.bool cv, .slice bj.a bj.len bj.cap, .slice bk.a bk.len bk.cap,
 .slice bl.a bl.len bl.cap] ai.cD)) fun ag=>az (ag.alloc c8) fun aw=>az (aw.drew) fun bc=>∃nZ:Nat→Prop,¬nZ ((ah w):Addr).block∧bJ bc (ah w) fun hL=>¬nZ (Addr.add (ah w) 3).block∧ar bc (Addr.add (ah w)
 3) fun c3=>(en F.tX #[.slice c3.a c3.len c3.cap] bc fun eK bt=>aq nZ bc bt∧∃iE:Array Value,(∀bZ:World,Sem.run Tryz.prog (Instr.build ai.cD #[(0, .bool hL),(3, .slice eK.a eK.len eK.cap)]) bZ=
 .ok (.agg iE) bZ)∧az (bt.alloc c8) fun cL=>aq nZ bt cL∧P8 cL bt iE w ag Q)∧(az (bc.alloc c8) fun qE=>aq nZ bc qE∧en F.tX #[.slice c3.a c3.len c3.cap] qE fun lY B4=>aq nZ qE B4∧∃acM:
 Array Value,(∀gl:World,Sem.run Tryz.prog (Instr.build ai.cD #[(0, .bool hL),(3, .slice lY.a lY.len lY.cap)]) gl= .ok (.agg acM) gl)∧P8 B4 bc acM w ag Q)
def A.fg:bG:=(.s .r (.s (.eU 7 true ⟨[0,1,0,4,8,18,0,127],[0,1,0,4,8,18,0,96]⟩ [256,512,1024,2048,4096,8192,8,0] [2,256,2,1024,2048,4608,0,8200] (.take 0 (.take 1 (.take 2 (.take 3 (.two 4 (.take 5
 (.dg 6 (.tail [.run]))) 6 (.dg 4 (.take 5 (.tail [.run]))))))))) (.s (.s .r (.db (.loop [(17,(.int .i64))] [1,2,3,15,16] (.s .r (.s (.c .l .l) (.s (.db (.s .r (.eU 5 true ⟨[0,1,0,4,8,26,63,127],[0,1,0,4,8,18,0,96]⟩
 [2097152,4194304,8388608,16777216,33554432,67108864,134217728,0] [8,2097152,32,8388608,16777216,37748736,8,201326592] (.take 0 (.take 1 (.take 2 (.dg 3 (.dg 4 (.tail [.run, .run, .run]))))))))) .r)))))) (.s (.s .r (.db
 (.loop [(32,(.int .i64))] [2,3,30,31] (.s .r (.s (.c .l .l) (.s (.db (.s .r (.eU 5 true ⟨[0,1,0,4,8,26,63,127],[0,1,0,4,8,18,0,96]⟩ [68719476736,137438953472,274877906944,549755813888,1099511627776,2199023255552,
 4398046511104,0] [8,68719476736,128,274877906944,549755813888,1236950581248,8,6597069766656] (.take 0 (.take 1 (.take 2 (.dg 3 (.dg 4 (.tail [.run, .run, .run]))))))))) .r)))))) (.s .r .l)))))
theorem W.agM (cv:Bool) (bj:ad) (bk:ad) (bl:ad) (w:World) (Q:Value→World→Prop) (h:W.fg cv bj bk bl w Q):aR Tryz.prog F.fg #[.agg #[.bool cv, .slice bj.a bj.len bj.cap, .slice bk.a bk.len bk.cap, .slice bl.a bl.len bl.cap]] w Q:=okF A.fg Tryz.func108 (by kernel_rfl) (by kernel_rfl) h
def W.x1 (x:Addr) (sn:Addr) (w:World) (Q:Value→World→Prop):Prop:=bL w x fun c_=>aE (c_ !=0) (az (w.drew) fun aw=>¬False∧∃gv:Option Addr,aw.cell? sn=some (.pointer gv)∧¬False∧∃rY:Option
 Addr,aw.cell? sn=some (.pointer rY)∧∃a5:Addr,rY=some a5∧¬False∧ar aw (a5.add 1) fun c3=>bA F.zS #[.pointer gv, .slice c3.a c3.len c3.cap] aw fun bt=>Q (.tuple #[]) bt) (Q (.tuple #[]) w)
def A.x1:bG:=(.s .r (.c (.eU 5 false ⟨[0,0,2,4,8,17],[0,0,2,4,8,17]⟩ [16,32,64,128,256,512] [2,2,32,64,128,272] (.take 0 (.take 1 (.take 2 (.take 3 (.take 4 (.tail [.run]))))))) .l))
theorem W.aqK (x:Addr) (sn:Addr) (w:World) (Q:Value→World→Prop):W.x1 x sn w Q=Hm Tryz.prog aK A.x1 Tryz.f110 [.pointer (some x), .pointer (some sn)] w Q:=by kernel_rfl
theorem W.ZC (x:Addr) (sn:Addr) (w:World) (K:World→Prop) (h:W.x1 x sn w fun _ ag=>K ag):Hn Tryz.prog F.x1 #[.pointer (some x), .pointer (some sn)] w K:=
  aqf Ut ⟨_,Tryz.func110,by kernel_rfl,by kernel_rfl⟩ Tryz.func110 (by kernel_rfl) (Eq.mp (W.aqK x sn w _) h)
def W.zS (c:Option Addr) (l:ad) (w:World) (Q:Value→World→Prop):Prop:=∃ (gU:Int→World→Prop) (jy:Int→World→Nat),gU 0 w∧∀ (b3:Int) (bz:World),gU b3 bz→aE (decide (b3<(l.len:Int))) (c7 (fun
 qs:World→Prop=>∃hW:Addr,l.a=some hW∧aX b3 l.len∧bL bz (hW.add (Int.toNat b3*1)) fun n7=>∃lJ:Addr,c=some lJ∧∃KO:Option Addr,bz.cell? lJ=some (.pointer KO)∧∃kj:Addr,KO=some kj∧∃uV:Option Addr,
 bz.cell? (kj.add 1)=some (.pointer uV)∧aZ F.BI #[.pointer uV, .int .i64 n7] bz fun aqL cL=>∃m4:Addr,c=some m4∧∃CS:Option Addr,cL.cell? m4=some (.pointer CS)∧∃wN:Addr,CS=some wN∧∃acN
 :Option Addr,cL.cell? (wN.add 1)=some (.pointer acN)∧aS F.BG #[.pointer acN, .int .i64 n7] cL fun n21 dH=>aE aqL (∃a22:Addr,c=some a22∧∃acO:Option Addr,dH.cell? a22=some (.pointer acO)∧∃a24:
 Addr,acO=some a24∧∃acP:Option Addr,dH.cell? a24=some (.pointer acP)∧aZ F.BB #[.pointer acP, .int .i64 n7] dH fun x4 cT=>qs cT) (qs dH)) (fun fG=>gU (ay (b3+1)) fG∧jy (ay (b3+1)) fG<jy b3 bz))
 (Q (.tuple #[]) bz)
def A.zS:bG:=(.s .r (.db (.loop [(9,(.int .i64))] [0,7,8] (.s .r (.s (.c .l .l) (.s (.lI [] [0,7,8,9] (.db (.s .r (.s .r (.s .r (.s .r (.c .r .l))))))) .r))))))
theorem W.alx (c:Option Addr) (l:ad) (w:World) (Q:Value→World→Prop) (h:W.zS c l w Q):aR Tryz.prog F.zS #[.pointer c, .slice l.a l.len l.cap] w Q:=okF A.zS Tryz.func111 (by kernel_rfl) (by kernel_rfl) h
def W.wq (c:Option Addr) (lF:ad) (tx:Bool) (m6:ad) (m7:ad) (m8:ad) (w:World) (Q:Value→World→Prop):Prop:=az (w.alloc (.cells #[.bool tx, .slice m6.a m6.len
 m6.cap, .slice m7.a m7.len m7.cap, .slice m8.a m8.len m8.cap] ai.cD)) fun ag=>bJ ag (ah w) fun cA=>ar ag (Addr.add (ah w) 1) fun bN=>ar ag (Addr.add (ah w) 2) fun cC=>ar ag
 (Addr.add (ah w) 3) fun b7=>az (ag.alloc c8) fun bd=>cN bd (ah ag) [.bool cA, .slice bN.a bN.len bN.cap, .slice cC.a cC.len cC.cap, .slice b7.a b7.len b7.cap]∧(4:Nat)=4∧az (setCells bd (ah ag) 0 [.bool cA, .slice bN.a
 bN.len bN.cap, .slice cC.a cC.len cC.cap, .slice b7.a b7.len b7.cap]) fun bt=>∃ (Fc:Int→World→Prop) (KP:Int→World→Nat),Fc (ay ((lF.len:Int)-1)) bt∧∀ (n10:Int) (bZ:World),Fc n10 bZ→aE (decide (n10≥0)) (az
 (bZ.drew) fun cL=>∃OR:Nat→Prop,∃l_:Addr,c=some l_∧¬OR (l_.add 2).block∧ar cL (l_.add 2) fun fp=>∃nz:Addr,lF.a=some nz∧aX n10 lF.len∧¬OR (nz.add (Int.toNat n10*6)).block∧bL cL (nz.add
 (Int.toNat n10*6)) fun n17=>az (cL.alloc (.cells #[.int .i64 n17] ai.int)) fun ef=>aq OR cL ef∧∃fX:ad,∃cE:World,Sem.run Tryz.prog (Builtin.append_ #[ai.dD,ai.dD] ai.dD #[.slice fp.a fp.len fp.cap,
 .slice (some (ah cL)) 1 1]) ef= .ok (.slice fX.a fX.len fX.cap) cE∧aq OR ef cE∧∃kJ:Addr,c=some kJ∧st cE (kJ.add 2) (.slice fX.a fX.len fX.cap) fun dL=>c7 (fun KL:Bool→World→Prop=>aE (n10==0) (ar
 dL (Addr.add (ah ag) 1) fun qc=>KL ((qc.len:Int)==0) dL) (KL false dL)) (fun (uD:Bool) cT=>aE uD (az (cT.drew) fun kr=>∃OS:Nat→Prop,¬OS ((ah ag):Addr).block∧bJ kr (ah ag) fun KN=>ar kr (Addr.add (ah
 ag) 1) fun hO=>ar kr (Addr.add (ah ag) 2) fun ia=>ar kr (Addr.add (ah ag) 3) fun dk=>∃a33:Addr,c=some a33∧¬OS a33.block∧∃KG:Option Addr,kr.cell? a33=some (.pointer KG)∧∃a35:Addr,KG=some a35∧¬OS
 (a35.add 4).block∧bL kr (a35.add 4) fun n36=>GL F.xT #[.agg #[.bool KN, .slice hO.a hO.len hO.cap, .slice ia.a ia.len ia.cap, .slice dk.a dk.len dk.cap], .int .i64 n36] kr fun n39 n40 n41 lX=>aq OS kr lX∧Q
 (.tuple #[.int .i64 n39, .int .i64 n40, .int .i64 n41]) lX) (c7 (fun acQ:Option Addr→World→Prop=>aE (decide (n10>0)) (∃CT:Addr,lF.a=some CT∧aX (ay (n10-1)) lF.len∧acQ (some (CT.add (Int.toNat (ay (n10-1))*
 6))) cT) (acQ none cT)) (fun (acR:Option Addr) jf=>bJ jf (ah ag) fun Az=>ar jf (Addr.add (ah ag) 1) fun ny=>ar jf (Addr.add (ah ag) 2) fun nQ=>ar jf (Addr.add (ah ag) 3) fun jL=>EA F.xS #[.pointer c,
 .agg #[.bool Az, .slice ny.a ny.len ny.cap, .slice nQ.a nQ.len nQ.cap, .slice jL.a jL.len jL.cap], .pointer acR] jf fun ic lh aqM acS nr=>aE (acS !=0) (Q (.tuple #[.int .i64 0, .int .i64 0, .int .i64 acS]) nr) (aE (n10==
 0) (GL F.B8 #[.pointer c, .slice ic.a ic.len ic.cap] nr fun UO aqN UP xl=>Q (.tuple #[.int .i64 UO, .int .i64 aqN, .int .i64 UP]) xl) (∃tb:Addr,acR=some tb∧bJ nr (tb.add 1) fun acB=>ar nr ((tb.add
 1).add 1) fun UR=>ar nr ((tb.add 1).add 2) fun od=>ar nr ((tb.add 1).add 3) fun yh=>iE F.xJ #[.agg #[.bool acB, .slice UR.a UR.len UR.cap, .slice od.a od.len od.cap, .slice yh.a yh.len yh.cap], .int .i64
 lh, .int .i64 aqM, .slice ic.a ic.len ic.cap] nr fun acT tu gy gz SF=>cN SF (ah ag) [.bool acT, .slice tu.a tu.len tu.cap, .slice gy.a gy.len gy.cap, .slice gz.a gz.len gz.cap]∧(4:Nat)=4∧az (setCells SF
 (ah ag) 0 [.bool acT, .slice tu.a tu.len tu.cap, .slice gy.a gy.len gy.cap, .slice gz.a gz.len gz.cap]) fun Ci=>Fc (ay (n10-1)) Ci∧KP (ay (n10-1)) Ci<KP n10 bZ)))))) (bJ bZ (ah ag) fun Hu=>ar bZ (Addr.add (ah ag)
 1) fun qb=>ar bZ (Addr.add (ah ag) 2) fun j0=>ar bZ (Addr.add (ah ag) 3) fun nK=>fK F.zn #[.pointer c, .agg #[.bool Hu, .slice qb.a qb.len qb.cap, .slice j0.a j0.len j0.cap, .slice nK.a nK.len nK.cap]] bZ
 fun pc acU kZ=>aE (acU !=0) (Q (.tuple #[.int .i64 0, .int .i64 0, .int .i64 acU]) kZ) (∃acV:Addr,pc.a=some acV∧aX 0 pc.len∧bL kZ ((acV.add (Int.toNat 0*2)).add 1) fun aqO=>Q (.tuple #[.int .i64 aqO, .int .i64 1, .int
 .i64 0]) kZ))
def A.wq:bG:=(.s .r (.s .r (.s (.s .r (.db (.loop [(10,(.int .i64))] [0,1,9] (.s (.s .r (.c .l .l)) (.s (.db (.s (.eU 12 true ⟨[0,0,2,4,8,0,0,96,128,256,512,1040,4095,8191,12287],[0,0,2,4,8,0,0,
 96,128,256,512,1040,1,4096,10240]⟩ [33554432,67108864,134217728,268435456,536870912,1073741824,2147483648,4294967296,8589934592,17179869184,34359738368,68719476736,137438953472,274877906944,0] [1,1,67108864,
 134217728,268435456,2,1024,3221225472,4294967296,8589934592,17179869184,34896609280,33554432,137438953472,343597383680] (.take 0 (.take 1 (.take 2 (.take 3 (.take 4 (.take 5 (.take 6 (.take 7 (.take 8 (.take 9 (.dg 10 (.dg 11
 (.tail [.run, .run, .run])))))))))))))) (.s (.s (.gn [.run, .run, .run, .split 4]) (.c (.s (.eU 12 true ⟨[0,0,2,4,8,16,32,64,129,256,256,256,4095,8191,16383],[0,0,2,4,8,16,32,64,129,256,256,256,512,1024,2048]⟩
 [140737488355328,281474976710656,562949953421312,1125899906842624,2251799813685248,4503599627370496,9007199254740992,18014398509481984,36028797018963968,72057594037927936,144115188075855872,288230376151711744,64,128,256] [512,
 1,281474976710656,562949953421312,1125899906842624,2251799813685248,4503599627370496,9007199254740992,18155135997837312,36028797018963968,36028797018963968,36028797018963968,72057594037927936,144115188075855872,
 288230376151711744] (.take 0 (.take 1 (.take 2 (.take 3 (.take 4 (.take 5 (.take 6 (.take 7 (.dg 8 (.take 9 (.take 10 (.take 11 (.tail [.run, .run, .run])))))))))))))) .l) .l)) (.s .r (.s (.lI [(11, .ptr)] [0,1,9,10] (.s .r (.c .r .l)))
 (.s .r (.s a8 (.s a8 .r)))))))) .r))))) ig)))
theorem W.Y9 (c:Option Addr) (lF:ad) (tx:Bool) (m6:ad) (m7:ad) (m8:ad) (w:World) (Q:Value→World→Prop) (h:W.wq c lF tx m6 m7 m8 w Q):aR Tryz.prog F.wq #[.pointer c, .slice lF.a lF.len lF.cap, .agg #[.bool tx, .slice m6.a m6.len m6.cap, .slice m7.a m7.len m7.cap, .slice m8.a m8.len m8.cap]] w Q:=okF A.wq Tryz.func112 (by kernel_rfl) (by kernel_rfl) h
def W.BO (n:Int) (w:World) (Q:Value→World→Prop):Prop:=Q (.bool ((decide (n≥1))&&(decide (n≤1600)))) w
def A.BO:bG:=a3
theorem W.ajs (n:Int) (w:World) (Q:Value→World→Prop) (h:W.BO n w Q):aR Tryz.prog F.BO #[.int .i64 n] w Q:=okF A.BO Tryz.func114 (by kernel_rfl) (by kernel_rfl) h
def W.BP (n:Int) (w:World) (Q:Value→World→Prop):Prop:=(8:Int)≠0∧Q (.int .i64 (ay (Int.tdiv (ay ((ay (n+8))-1)) 8))) w
def A.BP:bG:=(.s .r (.s .r .l))
theorem W.aju (n:Int) (w:World) (Q:Value→World→Prop) (h:W.BP n w Q):aR Tryz.prog F.BP #[.int .i64 n] w Q:=okF A.BP Tryz.func115 (by kernel_rfl) (by kernel_rfl) h
end
section
set_option maxRecDepth 100000
def W.zd (s:ad) (no:Int) (w:World) (Q:Value→World→Prop):Prop:=az (w.drew) fun ag=>(8:Int)≠0∧∃cQ:Addr,s.a=some cQ∧aX (ay (Int.tdiv no 8)) s.len∧¬False∧g8 ag (cQ.add (Int.toNat (ay (Int.tdiv no
 8))*1)) fun b3=>(8:Int)≠0∧(0:Int)≤(Int.tmod no 8)∧∃a4:Addr,s.a=some a4∧aX (ay (Int.tdiv no 8)) s.len∧st ag (a4.add (Int.toNat (ay (Int.tdiv no 8))*1)) (.int .u8 (AO .u8 b3 (IntKind.wrap .u8 (1*2^(min
 (Int.toNat (Int.tmod no 8)) 8))))) fun bT=>Q (.tuple #[]) bT
def A.zd:bG:=(.eU 8 false ⟨[0,0,2,5,8,0,32,64,144,511,1023],[0,0,2,5,8,0,32,64,144,5,768]⟩ [16,32,64,128,256,512,1024,2048,4096,8192,0] [1,2,32,80,128,2,512,1024,2304,80,12288] (.take
 0 (.take 1 (.take 2 (.take 3 (.take 4 (.take 5 (.take 6 (.take 7 (.tail [.run, .run, .run]))))))))))
theorem W.aiP (s:ad) (no:Int) (w:World) (Q:Value→World→Prop) (h:W.zd s no w Q):aR Tryz.prog F.zd #[.slice s.a s.len s.cap, .int .i64 no] w Q:=okF A.zd Tryz.func116 (by kernel_rfl) (by kernel_rfl) h
def W.tS (lL:ad) (w:World) (Q:Value→World→Prop):Prop:=Q (.bool ((decide ((lL.len:Int)≥1))&&(decide ((lL.len:Int)≤24)))) w
def A.tS:bG:=kj
theorem W.afI (lL:ad) (w:World) (Q:Value→World→Prop) (h:W.tS lL w Q):aR Tryz.prog F.tS #[.slice lL.a lL.len lL.cap] w Q:=okF A.tS Tryz.func118 (by kernel_rfl) (by kernel_rfl) h
def W.Ag (j:Option Addr) (no:Int) (level:Int) (low:ad) (high:ad) (w:World) (Q:Value→World→Prop):Prop:=∃a8:Addr,j=some a8∧∃cc:Option Addr,w.cell? a8=some (.pointer cc)∧sV F.q4
 #[.pointer cc, .int .i64 no, .bool (level==1)] w fun hL c3 gY dQ n9 bc=>az (bc.alloc c8) fun cj=>cN cj (ah bc) [.bool hL, .slice c3.a c3.len c3.cap, .slice gY.a gY.len gY.cap, .slice dQ.a dQ.len dQ.cap]∧(4:Nat)=4∧az
 (setCells cj (ah bc) 0 [.bool hL, .slice c3.a c3.len c3.cap, .slice gY.a gY.len gY.cap, .slice dQ.a dQ.len dQ.cap]) fun bZ=>aE (n9 !=0) (Q (.int .i64 n9) bZ) (∃lk:Addr,j=some lk∧ar bZ (lk.add 1) fun gT=>aZ
 F.Cs #[.slice gT.a gT.len gT.cap, .int .i64 no] bZ fun OL dE=>c7 (fun KJ:Bool→World→Prop=>aE OL (KJ true dE) (∃rm:Addr,j=some rm∧∃KQ:Option Addr,dE.cell? rm=some (.pointer KQ)
 ∧∃KR:Addr,KQ=some KR∧∃acW:Option Addr,dE.cell? (KR.add 1)=some (.pointer acW)∧aZ F.BH #[.pointer acW, .int .i64 no] dE fun uU dL=>KJ (!uU) dL)) (fun (uD:Bool) cT=>c7 (fun CL:Bool→World
 →Prop=>aE uD (CL true cT) (bJ cT (ah bc) fun x4=>ar cT (Addr.add (ah bc) 1) fun iL=>ar cT (Addr.add (ah bc) 2) fun hO=>ar cT (Addr.add (ah bc) 3) fun ia=>aZ F.x6 #[.agg #[.bool x4, .slice iL.a iL.len
 iL.cap, .slice hO.a hO.len hO.cap, .slice ia.a ia.len ia.cap], .slice low.a low.len low.cap, .slice high.a high.len high.cap] cT fun UN iK=>CL (!UN) iK)) (fun (CP:Bool) jh=>aE CP (Q (.int .i64 4) jh) (∃CU:Addr,j
 =some CU∧ar jh (CU.add 1) fun dw=>az (jh.alloc (.cells #[.int .i64 no] ai.int)) fun kN=>∃ei:ad,∃dO:World,Sem.run Tryz.prog (Builtin.append_ #[ai.dD,ai.dD] ai.dD #[.slice dw.a dw.len dw.cap, .slice
 (some (ah jh)) 1 1]) kN= .ok (.slice ei.a ei.len ei.cap) dO∧∃KI:Addr,j=some KI∧st dO (KI.add 1) (.slice ei.a ei.len ei.cap) fun iy=>aE (level==1) (az (iy.drew) fun mZ=>∃KS:Addr,j=some KS∧¬False∧
 bL mZ (KS.add 2) fun UF=>¬False∧ar mZ (Addr.add (ah bc) 1) fun ny=>∃KT:Addr,j=some KT∧st mZ (KT.add 2) (.int .i64 (ay (UF+(ny.len:Int)))) fun aqP=>Q (.int .i64 0) aqP) (ar iy (Addr.add (ah bc) 3) fun fN=>∃
 (US:Int→World→Prop) (acX:Int→World→Nat),US 0 iy∧∀ (lh:Int) (gF:World),US lh gF→aE (decide (lh<(fN.len:Int))) (∃Hv:Addr,fN.a=some Hv∧aX lh fN.len∧bL gF (Hv.add (Int.toNat lh*1)) fun Fb
 =>c7 (fun sK:ad→World→Prop=>aE (decide (lh>0)) (ar gF (Addr.add (ah bc) 1) fun so=>∃acY:Addr,so.a=some acY∧aX (ay (lh-1)) so.len∧ar gF (acY.add (Int.toNat (ay (lh-1))*1)) fun lY=>sK lY gF) (sK
 low gF)) (fun (hV:ad) gl=>c7 (fun acZ:ad→World→Prop=>ar gl (Addr.add (ah bc) 1) fun od=>aE (decide (lh<(od.len:Int))) (ar gl (Addr.add (ah bc) 1) fun yh=>∃ac0:Addr,yh.a=some ac0∧aX lh yh.len∧ar gl
 (ac0.add (Int.toNat lh*1)) fun ix=>acZ ix gl) (acZ high gl)) (fun (iS:ad) vF=>aS F.Ag #[.pointer j, .int .i64 Fb, .int .i64 (ay (level-1)), .slice hV.a hV.len hV.cap, .slice iS.a iS.len iS.cap] vF fun
 OO ml=>aE (OO !=0) (Q (.int .i64 OO) ml) (US (ay (lh+1)) ml∧acX (ay (lh+1)) ml<acX lh gF)))) (Q (.int .i64 0) gF))))))
def A.Ag:bG:=(.s .r (.s .r (.s a8 (.s (.s (.gn [.run, .run, .run, .run, .run, .run, .run, .split 10, .run, .run, .run, .run, .run, .run, .run, .run, .run, .run, .run, .split 5]) (.c (.s .r .l) .l)) (.s .r (.s (.s .r (.c
 (.s (.eU 7 false ⟨[0,1,2,4,0,16,32,72,255,511,767],[0,1,2,4,0,16,32,72,1,256,640]⟩ [590295810358705651712,1180591620717411303424,2361183241434822606848,4722366482869645213696,9444732965739290427392,
 18889465931478580854784,37778931862957161709568,75557863725914323419136,151115727451828646838272,302231454903657293676544,0] [1,590295810358705651712,1180591620717411303424,2361183241434822606848,2048,9444732965739290427392,
 18889465931478580854784,42501298345826806923264,590295810358705651712,151115727451828646838272,377789318629571617095680] (.take 0 (.take 1 (.take 2 (.take 3 (.take 4 (.take 5 (.take 6 (.tail [.run, .run, .run, .run]))))))))) (.s .r .l))
 .l)) (.s (.s .r (.db (.loop [(82,(.int .i64))] [0,2,3,4,11,80,81] (.s .r (.s (.c .l .l) (.s (.db (.s .r (.s .r (.s (.lI [(15, .slice)] [0,2,3,4,11,13,14,16,80,81,82] (.s .r (.c .r .l))) (.s (.lI [(16, .slice)] [0,2,3,
 4,11,14,15,80,81,82] (.s .r (.c .r .l))) (.s .r a8)))))) .r)))))) (.s .r .l))))))))
theorem W.an7 (j:Option Addr) (no:Int) (level:Int) (low:ad) (high:ad) (w:World) (Q:Value→World→Prop) (h:W.Ag j no level low high w Q):aR Tryz.prog F.Ag #[.pointer j, .int .i64 no, .int .i64 level, .slice low.a low.len low.cap, .slice high.a high.len high.cap] w Q:=okF A.Ag Tryz.func125 (by kernel_rfl) (by kernel_rfl) h
def W.vf (leaf:Bool) (b:ad) (w:World) (Q:Value→World→Prop):Prop:=az (w.alloc c8) fun ag=>az (ag.alloc (.cells #[.slice b.a b.len b.cap, .bool true] ai.V0)) fun aw=>az (aw.alloc c8) fun bc=>cN bc
 (ah aw) [.bool leaf, .slice none 0 0, .slice none 0 0, .slice none 0 0]∧(4:Nat)=4∧az (setCells bc (ah aw) 0 [.bool leaf, .slice none 0 0, .slice none 0 0, .slice none 0 0]) fun bz=>aS F.vc #[.pointer (some (ah
 ag)), .int .i64 1] bz fun n7 bT=>c7 (fun xY:World→Prop=>aE (!leaf) (PY bT aw ag xY) (xY bT)) (fun dH=>∃ (UT:Int→World→Prop) (ac1:Int→World→Nat),UT 0 dH∧∀ (n22:Int) (lj:World),UT n22 lj→aE (decide (n22
 <n7)) (c7 (fun ac2:World→Prop=>az (lj.drew) fun fv=>∃qY:Nat→Prop,¬qY (Addr.add (ah aw) 1).block∧ar fv (Addr.add (ah aw) 1) fun ed=>en F.vd #[.pointer (some (ah ag))] fv fun hO fB=>aq qY fv
 fB∧az (fB.alloc (.cells #[.slice hO.a hO.len hO.cap] ai.cG)) fun eJ=>aq qY fB eJ∧∃dk:ad,∃e3:World,Sem.run Tryz.prog (Builtin.append_ #[ai.cz,ai.cz] ai.cz #[.slice ed.a ed.len
 ed.cap, .slice (some (ah fB)) 1 1]) eJ= .ok (.slice dk.a dk.len dk.cap) e3∧st e3 (Addr.add (ah aw) 1) (.slice dk.a dk.len dk.cap) fun eS=>aE leaf (az (eS.drew) fun mK=>∃UU:Nat→Prop,¬UU (Addr.add (ah aw)
 2).block∧ar mK (Addr.add (ah aw) 2) fun jx=>en F.vd #[.pointer (some (ah ag))] mK fun ei iT=>aq UU mK iT∧az (iT.alloc (.cells #[.slice ei.a ei.len ei.cap] ai.cG)) fun dO=>aq UU iT dO∧∃k8
 :ad,∃iy:World,Sem.run Tryz.prog (Builtin.append_ #[ai.cz,ai.cz] ai.cz #[.slice jx.a jx.len jx.cap, .slice (some (ah iT)) 1 1]) dO= .ok (.slice k8.a k8.len k8.cap) iy∧st iy (Addr.add (ah aw) 2)
 (.slice k8.a k8.len k8.cap) fun mZ=>ac2 mZ) (PY eS aw ag ac2)) (fun hG=>UT (ay (n22+1)) hG∧ac1 (ay (n22+1)) hG<ac1 n22 lj)) (bJ lj (ah aw) fun aqQ=>ar lj (Addr.add (ah aw) 1) fun oY=>ar lj (Addr.add (ah aw)
 2) fun so=>ar lj (Addr.add (ah aw) 3) fun k9=>fK F.tV #[.agg #[.bool aqQ, .slice oY.a oY.len oY.cap, .slice so.a so.len so.cap, .slice k9.a k9.len k9.cap]] lj fun UW aqR r0=>∃a64:Addr,(some (ah ag):Option
 Addr)=some a64∧bJ r0 (a64.add 1) fun tc=>c7 (fun ac3:Bool→World→Prop=>aE ((!tc)||(aqR !=0)) (ac3 true r0) (aZ F.w5 #[.slice UW.a UW.len UW.cap, .slice b.a b.len b.cap] r0 fun td qp=>ac3 (!td) qp))
 (fun (aqS:Bool) wM=>aE aqS (cN wM (ah w) [.bool false, .slice none 0 0, .slice none 0 0, .slice none 0 0]∧(4:Nat)=4∧az (setCells wM (ah w) 0 [.bool false, .slice none 0 0, .slice none 0 0, .slice none 0 0]) fun Ci=>
 Ik Ci w Q) (bJ wM (ah aw) fun ac4=>ar wM (Addr.add (ah aw) 1) fun yg=>ar wM (Addr.add (ah aw) 2) fun pc=>ar wM (Addr.add (ah aw) 3) fun lT=>cN wM (ah w) [.bool ac4, .slice yg.a yg.len yg.cap, .slice pc.a pc.len
 pc.cap, .slice lT.a lT.len lT.cap]∧(4:Nat)=4∧az (setCells wM (ah w) 0 [.bool ac4, .slice yg.a yg.len yg.cap, .slice pc.a pc.len pc.cap, .slice lT.a lT.len lT.cap]) fun KU=>bJ KU (ah w) fun pQ=>ar KU (Addr.add
 (ah w) 1) fun hZ=>ar KU (Addr.add (ah w) 2) fun h4=>ar KU (Addr.add (ah w) 3) fun h5=>Q (.tuple #[.agg #[.bool pQ, .slice hZ.a hZ.len hZ.cap, .slice h4.a h4.len h4.cap, .slice h5.a h5.len h5.cap], .int .i64 0]) KU))))
def A.vf:bG:=(.s .r (.s .r (.s .r (.s (.lI [] [0,1,4,6,7,8] (.s .r (.c (.eU 5 true ⟨[0,1,0,4,8,26,63,127],[0,1,0,4,8,18,0,96]⟩ [1048576,2097152,4194304,8388608,16777216,33554432,67108864,0] [128,
 1048576,64,4194304,8388608,18874368,128,100663296] (.take 0 (.take 1 (.take 2 (.dg 3 (.dg 4 (.tail [.run, .run, .run]))))))) .l))) (.s (.s .r (.db (.loop [(28,(.int .i64))] [0,1,4,6,7,27] (.s .r (.s (.c .l .l) (.s (.lI [] [0,
 1,4,6,7,27,28] (.db (.s (.eU 5 true ⟨[0,1,0,4,8,26,63,127],[0,1,0,4,8,18,0,96]⟩ [1073741824,2147483648,4294967296,8589934592,17179869184,34359738368,68719476736,0] [128,1073741824,64,4294967296,8589934592,
 19327352832,128,103079215104] (.take 0 (.take 1 (.take 2 (.dg 3 (.dg 4 (.tail [.run, .run, .run]))))))) (.s .r (.c (.eU 5 true ⟨[0,1,0,4,8,26,63,127],[0,1,0,4,8,18,0,96]⟩ [274877906944,549755813888,1099511627776,
 2199023255552,4398046511104,8796093022208,17592186044416,0] [128,274877906944,64,1099511627776,2199023255552,4947802324992,128,26388279066624] (.take 0 (.take 1 (.take 2 (.dg 3 (.dg 4 (.tail [.run, .run, .run]))))))) (.eU 5
 true ⟨[0,1,0,4,8,26,63,127],[0,1,0,4,8,18,0,96]⟩ [35184372088832,70368744177664,140737488355328,281474976710656,562949953421312,1125899906842624,2251799813685248,0] [128,35184372088832,64,140737488355328,
 281474976710656,633318697598976,128,3377699720527872] (.take 0 (.take 1 (.take 2 (.dg 3 (.dg 4 (.tail [.run, .run, .run])))))))))))) .r)))))) (.s .r (.s (.s (.gn [.run, .run, .run, .run, .run, .run, .pure 2, .run, .run, .run, .split
 4]) (.c (.s .r .l) .l)) (.s .r .l))))))))
theorem W.afZ (leaf:Bool) (b:ad) (w:World) (Q:Value→World→Prop) (h:W.vf leaf b w Q):aR Tryz.prog F.vf #[.bool leaf, .slice b.a b.len b.cap] w Q:=okF A.vf Tryz.func129 (by kernel_rfl) (by kernel_rfl) h
def W.tJ (b:ad) (w:World) (Q:Value→World→Prop):Prop:=az (w.drew) fun ag=>((0:Int)≤20∧20≤((b.cap:Nat):Int))∧((0:Int)≤24∧24≤(b.len:Int))∧az (ag.alloc (.cells #[.slice (bf b.a 1 0 b.cap)
 ((Int.toNat 20)-0) (b.cap-0), .slice (bf b.a 1 (Int.toNat 24) b.cap) (b.len-(Int.toNat 24)) (b.cap-(Int.toNat 24))] ai.cG)) fun aw=>mx F.AS #[.slice (some (ah ag)) 2 2] aw fun n5 bc=>Q (.int .u32 n5) bc
def A.tJ:bG:=(.s .r (.s (.eU 4 false ⟨[0,1,0,4,10,16,63],[0,1,0,4,10,16,32]⟩ [8,16,32,64,128,256,4] [1,8,1,32,80,128,256] (.take 0 (.take 1 (.take 2 (.take 3 (.tail [.run, .run, .run])))))) .l))
theorem W.afb (b:ad) (w:World) (Q:Value→World→Prop) (h:W.tJ b w Q):aR Tryz.prog F.tJ #[.slice b.a b.len b.cap] w Q:=okF A.tJ Tryz.func130 (by kernel_rfl) (by kernel_rfl) h
def W.ql (b:ad) (kl:Int) (OT:Int) (w:World) (Q:Value→World→Prop):Prop:=LX F.rB #[.slice b.a b.len b.cap, .int .i64 kl, .int .i64 (ay (OT-kl))] w fun b3 e9 ag=>Q (.int .u64 b3) ag
def A.ql:bG:=a4
theorem W.afk (b:ad) (kl:Int) (OT:Int) (w:World) (Q:Value→World→Prop) (h:W.ql b kl OT w Q):aR Tryz.prog F.ql #[.slice b.a b.len b.cap, .int .i64 kl, .int .i64 OT] w Q:=okF A.ql Tryz.func131 (by kernel_rfl) (by kernel_rfl) h
def W.E6 (lL:Int) (w:World) (Q:Value→World→Prop):Prop:=Q (.bool ((decide (lL≥1))&&(decide (lL≤4)))) w
def A.E6:bG:=a3
theorem W.VG (lL:Int) (w:World) (Q:Value→World→Prop) (h:W.E6 lL w Q):aR Tryz.prog F.E6 #[.int .i64 lL] w Q:=okF A.E6 Tryz.func132 (by kernel_rfl) (by kernel_rfl) h
def W.w2 (b:ad) (w:World) (Q:Value→World→Prop):Prop:=∃ (gU:Int→World→Prop) (jy:Int→World→Nat),gU 0 w∧∀ (b3:Int) (bz:World),gU b3 bz→aE (decide (b3<(b.len:Int))) (∃a5:Addr,b.a=some a5∧aX
 b3 b.len∧g8 bz (a5.add (Int.toNat b3*1)) fun n6=>aE (n6 !=0) (Q (.bool false) bz) (gU (ay (b3+1)) bz∧jy (ay (b3+1)) bz<jy b3 bz)) (Q (.bool true) bz)
def A.w2:bG:=(.s .r (.s (.s .r (.db (.loop [(7,(.int .i64))] [5,6] m4))) (.s .r .l)))
theorem W.afl (b:ad) (w:World) (Q:Value→World→Prop) (h:W.w2 b w Q):aR Tryz.prog F.w2 #[.slice b.a b.len b.cap] w Q:=okF A.w2 Tryz.func133 (by kernel_rfl) (by kernel_rfl) h
def W.E7 (no:Int) (w:World) (Q:Value→World→Prop):Prop:=Q (.bool ((decide (no≥0))&&(decide (no<1600)))) w
def A.E7:bG:=a3
theorem W.VF (no:Int) (w:World) (Q:Value→World→Prop) (h:W.E7 no w Q):aR Tryz.prog F.E7 #[.int .i64 no] w Q:=okF A.E7 Tryz.func134 (by kernel_rfl) (by kernel_rfl) h
def W.wU (b:ad) (kl:Int) (size:Int) (w:World) (Q:Value→World→Prop):Prop:=Dp F.tH #[.slice b.a b.len b.cap, .int .i64 kl, .int .i64 size] w fun bN e9 ag=>en F.lu #[.slice bN.a bN.len
 bN.cap] ag fun gY bT=>Q (.tuple #[.slice gY.a gY.len gY.cap, .bool e9]) bT
def A.wU:bG:=a4
theorem W.ae4 (b:ad) (kl:Int) (size:Int) (w:World) (Q:Value→World→Prop) (h:W.wU b kl size w Q):aR Tryz.prog F.wU #[.slice b.a b.len b.cap, .int .i64 kl, .int .i64 size] w Q:=okF A.wU Tryz.func135 (by kernel_rfl) (by kernel_rfl) h
def W.xD (s:Option Addr) (no:Int) (w:World) (Q:Value→World→Prop):Prop:=c7 (fun ej:Bool→World→Prop=>aE ((!(Option.isNone s))&&(decide (no≥0))) (∃cQ:Addr,s=some cQ∧bL w cQ fun b3=>ej (decide
 (no<b3)) w) (ej false w)) (fun (e9:Bool) bT=>Q (.bool e9) bT)
def A.xD:bG:=(.s .r (.s (.gn [.run, .run, .run, .pure 2, .run, .run, .run, .split 6]) .l))
theorem W.aiU (s:Option Addr) (no:Int) (w:World) (Q:Value→World→Prop) (h:W.xD s no w Q):aR Tryz.prog F.xD #[.pointer s, .int .i64 no] w Q:=okF A.xD Tryz.func138 (by kernel_rfl) (by kernel_rfl) h
def W.rD (parts:ad) (w:World) (Q:Value→World→Prop):Prop:=∃ (gU:ad→Int→World→Prop) (jy:ad→Int→World→Nat),gU ⟨none,0,0⟩ 0 w∧∀ (bN:ad) (fc:Int) (bT:World),gU bN fc bT→aE (decide (fc<
 (parts.len:Int))) (∃hW:Addr,parts.a=some hW∧aX fc parts.len∧ar bT (hW.add (Int.toNat fc*1)) fun gY=>∃dQ:ad,∃bY:World,Sem.run Tryz.prog (Builtin.append_ #[ai.cG,ai.cG] ai.cG #[.slice bN.a bN.len
 bN.cap, .slice gY.a gY.len gY.cap]) bT= .ok (.slice dQ.a dQ.len dQ.cap) bY∧gU dQ (ay (fc+1)) bY∧jy dQ (ay (fc+1)) bY<jy bN fc bT) (Q (.slice bN.a bN.len bN.cap) bT)
def A.rD:bG:=(.s .r (.s .r (.s (.s .r (.db (.loop [(3, .slice),(8,(.int .i64))] [6,7] cQ))) (.s .r .l))))
theorem W.ae1 (parts:ad) (w:World) (Q:Value→World→Prop) (h:W.rD parts w Q):aR Tryz.prog F.rD #[.slice parts.a parts.len parts.cap] w Q:=okF A.rD Tryz.func141 (by kernel_rfl) (by kernel_rfl) h
def W.n2 (b:ad) (n:Int) (size:Int) (w:World) (Q:Value→World→Prop):Prop:=en F.lu #[.slice b.a b.len b.cap] w fun bN ag=>aZ F.E8 #[.int .i64 size] ag fun k6 bz=>aE (!k6) (Q (.slice bN.a
 bN.len bN.cap) bz) (∃ (UX:ad→Int→World→Prop) (ac5:ad→Int→World→Nat),UX bN (ay (size-1)) bz∧∀ (eK:ad) (n10:Int) (bZ:World),UX eK n10 bZ→aE (decide (n10≥0)) ((0:Int)≤(ay (8*n10))∧az (bZ.alloc (.cells
 #[.int .u8 (IntKind.wrap .u8 (Int.fdiv n (2^(min (Int.toNat (ay (8*n10))) 64))))] ai.uint8)) fun cL=>∃gT:ad,∃dE:World,Sem.run Tryz.prog (Builtin.append_ #[ai.cG,ai.cG] ai.cG #[.slice eK.a eK.len eK.cap,
 .slice (some (ah bZ)) 1 1]) cL= .ok (.slice gT.a gT.len gT.cap) dE∧UX gT (ay (n10-1)) dE∧ac5 gT (ay (n10-1)) dE<ac5 eK n10 bZ) (Q (.slice eK.a eK.len eK.cap) bZ))
def A.n2:bG:=(.s .r (.s .r (.s a8 (.s (.s .r (.db (.loop [(7, .slice),(8,(.int .i64))] [1] (.s (.s .r (.c .l .l)) (.s (.db .r) .r))))) (.s .r .l)))))
theorem W.aeR (b:ad) (n:Int) (size:Int) (w:World) (Q:Value→World→Prop) (h:W.n2 b n size w Q):aR Tryz.prog F.n2 #[.slice b.a b.len b.cap, .int .u64 n, .int .i64 size] w Q:=okF A.n2 Tryz.func142 (by kernel_rfl) (by kernel_rfl) h
def W.By (c:Option Addr) (no:Int) (w:World) (Q:Value→World→Prop):Prop:=aZ F.y8 #[.pointer c, .int .i64 no] w fun ek ag=>aE (!ek) (Q (.tuple #[.slice none 0 0, .int .i64 1]) ag) (za
 F.xA #[.pointer c, .int .i64 no] ag fun nu bz=>aE (!(Option.isNone nu)) (∃jr:Addr,nu=some jr∧st bz (jr.add 2) (.bool true) fun bC=>∃a9:Addr,nu=some a9∧ar bC (a9.add 5) fun fj=>en
 F.lu #[.slice fj.a fj.len fj.cap] bC fun gT bZ=>Q (.tuple #[.slice gT.a gT.len gT.cap, .int .i64 0]) bZ) (zc F.y_ #[.pointer c] bz fun CS n17 dE=>aE (n17 !=0) (Q (.tuple #[.slice none 0
 0, .int .i64 n17]) dE) (∃rm:Addr,c=some rm∧∃KQ:Option Addr,dE.cell? rm=some (.pointer KQ)∧fK F.Bk #[.pointer KQ, .int .i64 no] dE fun fM n23 cE=>aE (n23 !=0) (Q (.tuple #[.slice none 0 0, .int .i64
 n23]) cE) (∃a24:Addr,CS=some a24∧cN cE a24 [.bool true, .bool false, .bool true, .int .i64 no, .int .i64 0, .slice fM.a fM.len fM.cap]∧(6:Nat)=6∧az (setCells cE a24 0 [.bool true, .bool false, .bool true, .int
 .i64 no, .int .i64 0, .slice fM.a fM.len fM.cap]) fun fv=>en F.lu #[.slice fM.a fM.len fM.cap] fv fun e4 cT=>Q (.tuple #[.slice e4.a e4.len e4.cap, .int .i64 0]) cT))))
def A.By:bG:=(.s .r (.s a8 (.s (.s .r (.s .r jr)) (.s .r (.s a8 (.s .r kQ))))))
theorem W.aif (c:Option Addr) (no:Int) (w:World) (Q:Value→World→Prop) (h:W.By c no w Q):aR Tryz.prog F.By #[.pointer c, .int .i64 no] w Q:=okF A.By Tryz.func145 (by kernel_rfl) (by kernel_rfl) h
def W.u9 (v:ad) (w:World) (Q:Value→World→Prop):Prop:=Q (.bool (decide ((v.len:Int)>24))) w
def A.u9:bG:=(.s .r (.s .r .l))
theorem W.afD (v:ad) (w:World) (Q:Value→World→Prop) (h:W.u9 v w Q):aR Tryz.prog F.u9 #[.slice v.a v.len v.cap] w Q:=okF A.u9 Tryz.func147 (by kernel_rfl) (by kernel_rfl) h
def W.u_ (lL:Int) (w:World) (Q:Value→World→Prop):Prop:=Q (.bool ((decide (lL<0))||(decide (lL≥1600)))) w
def A.u_:bG:=a3
theorem W.afH (lL:Int) (w:World) (Q:Value→World→Prop) (h:W.u_ lL w Q):aR Tryz.prog F.u_ #[.int .i64 lL] w Q:=okF A.u_ Tryz.func149 (by kernel_rfl) (by kernel_rfl) h
def W.BI (s:Option Addr) (no:Int) (w:World) (Q:Value→World→Prop):Prop:=aZ F.xD #[.pointer s, .int .i64 no] w fun ek ag=>c7 (fun nm:Bool→World→Prop=>aE ek (∃a5:Addr,s=some a5∧ar
 ag (a5.add 1) fun c3=>aZ F.rQ #[.slice c3.a c3.len c3.cap, .int .i64 no] ag fun ju bt=>nm ju bt) (nm false ag)) (fun (ov:Bool) bZ=>c7 (fun o4:Bool→World→Prop=>aE ov (∃kQ:Addr,s=some kQ∧ar bZ
 (kQ.add 2) fun dZ=>aZ F.rQ #[.slice dZ.a dZ.len dZ.cap, .int .i64 no] bZ fun Aw gR=>o4 (!Aw) gR) (o4 false bZ)) (fun (sm:Bool) dH=>Q (.bool sm) dH))
def A.BI:bG:=(.s .r (.s (.gn [.run, .run, .run, .run, .split 6, .run, .run, .run, .run, .run, .run, .run, .split 7]) .l))
theorem W.ai9 (s:Option Addr) (no:Int) (w:World) (Q:Value→World→Prop) (h:W.BI s no w Q):aR Tryz.prog F.BI #[.pointer s, .int .i64 no] w Q:=okF A.BI Tryz.func152 (by kernel_rfl) (by kernel_rfl) h
def W.BG (s:Option Addr) (no:Int) (w:World) (Q:Value→World→Prop):Prop:=aZ F.xD #[.pointer s, .int .i64 no] w fun ek ag=>aE (!ek) (Q (.int .i64 1) ag) (∃a4:Addr,s=some a4∧ar ag (a4.add 1)
 fun b7=>aZ F.rQ #[.slice b7.a b7.len b7.cap, .int .i64 no] ag fun nW bd=>aE (!nW) (Q (.int .i64 6) bd) (∃a9:Addr,s=some a9∧ar bd (a9.add 1) fun fj=>bA F.BC #[.slice fj.a fj.len fj.cap, .int .i64 no]
 bd fun bZ=>Q (.int .i64 0) bZ))
def A.BG:bG:=l_
theorem W.ai5 (s:Option Addr) (no:Int) (w:World) (Q:Value→World→Prop) (h:W.BG s no w Q):aR Tryz.prog F.BG #[.pointer s, .int .i64 no] w Q:=okF A.BG Tryz.func153 (by kernel_rfl) (by kernel_rfl) h
def W.BB (c:Option Addr) (no:Int) (w:World) (Q:Value→World→Prop):Prop:=za F.xA #[.pointer c, .int .i64 no] w fun gv ag=>c7 (fun nm:Bool→World→Prop=>aE (Option.isNone gv) (nm true ag) (∃
 a5:Addr,gv=some a5∧bL ag (a5.add 4) fun n6=>nm (decide (n6>0)) ag)) (fun (kL:Bool) bC=>aE kL (Q (.bool false) bC) (∃a9:Addr,gv=some a9∧cN bC a9 [.bool false, .bool false, .bool false, .int .i64 0, .int .i64 0,
 .slice none 0 0]∧(6:Nat)=6∧az (setCells bC a9 0 [.bool false, .bool false, .bool false, .int .i64 0, .int .i64 0, .slice none 0 0]) fun cj=>Q (.bool true) cj))
def A.BB:bG:=(.s .r (.s .r (.s (.s (.gn [.run, .run, .run, .split 5]) (.c (.s .r .l) .l)) (.s .r (.s .r .l)))))
theorem W.aiz (c:Option Addr) (no:Int) (w:World) (Q:Value→World→Prop) (h:W.BB c no w Q):aR Tryz.prog F.BB #[.pointer c, .int .i64 no] w Q:=okF A.BB Tryz.func154 (by kernel_rfl) (by kernel_rfl) h
def W.xT (cv:Bool) (bj:ad) (bk:ad) (bl:ad) (bu:Int) (w:World) (Q:Value→World→Prop):Prop:=az (w.alloc (.cells #[.bool cv, .slice bj.a bj.len bj.cap, .slice bk.a bk.len
 bk.cap, .slice bl.a bl.len bl.cap] ai.cD)) fun ag=>bJ ag (ah w) fun cA=>aE cA (Q (.tuple #[.int .i64 0, .int .i64 0, .int .i64 0]) ag) (ar ag (Addr.add (ah w) 3) fun bN=>∃a4:Addr,bN.a=some a4∧aX 0 bN.len
 ∧bL ag (a4.add (Int.toNat 0*1)) fun n5=>Q (.tuple #[.int .i64 n5, .int .i64 (ay (bu-1)), .int .i64 0]) ag)
def A.xT:bG:=ig
theorem W.alC (cv:Bool) (bj:ad) (bk:ad) (bl:ad) (bu:Int) (w:World) (Q:Value→World→Prop) (h:W.xT cv bj bk bl bu w Q):aR Tryz.prog F.xT #[.agg #[.bool cv, .slice bj.a bj.len bj.cap, .slice bk.a bk.len bk.cap, .slice bl.a bl.len bl.cap], .int .i64 bu] w Q:=okF A.xT Tryz.func155 (by kernel_rfl) (by kernel_rfl) h
def W.xS (c:Option Addr) (cv:Bool) (bj:ad) (bk:ad) (bl:ad) (up:Option Addr) (w:World) (Q:Value→World→Prop):Prop:=az (w.alloc (.cells #[.bool cv, .slice bj.a bj.len
 bj.cap, .slice bk.a bk.len bk.cap, .slice bl.a bl.len bl.cap] ai.cD)) fun ag=>c7 (fun eO:Bool→World→Prop=>aE (Option.isNone up) (eO true ag) (bJ ag (ah w) fun ek=>ar ag (Addr.add (ah w) 1) fun
 cC=>ar ag (Addr.add (ah w) 2) fun b7=>ar ag (Addr.add (ah w) 3) fun c3=>aS F.tU #[.agg #[.bool ek, .slice cC.a cC.len cC.cap, .slice b7.a b7.len b7.cap, .slice c3.a c3.len c3.cap]] ag fun n9 bt=>eO (decide (n9≥80)) bt))
 (fun (ov:Bool) bZ=>aE ov (c7 (fun o4:Int→Int→World→Prop=>aE (!(Option.isNone up)) (az (bZ.drew) fun cm=>∃l_:Addr,up=some l_∧¬False∧bL cm (l_.add 5) fun n15=>∃nz:Addr,up=some nz∧¬False∧bL
 cm (nz.add 5) fun n17=>o4 n15 (ay (n17+1)) cm) (o4 0 0 bZ)) (fun (n18:Int) (n19:Int) cE=>bJ cE (ah w) fun aqT=>ar cE (Addr.add (ah w) 1) fun fM=>ar cE (Addr.add (ah w) 2) fun ff=>ar cE (Addr.add (ah w) 3) fun
 qc=>fK F.q5 #[.pointer c, .agg #[.bool aqT, .slice fM.a fM.len fM.cap, .slice ff.a ff.len ff.cap, .slice qc.a qc.len qc.cap]] cE fun ed n28 fv=>Q (.tuple #[.slice ed.a ed.len ed.cap, .int .i64 n18, .int
 .i64 n19, .int .i64 n28]) fv)) (∃a29:Addr,up=some a29∧bL bZ (a29.add 5) fun n30=>∃n31:Int,∃iK:World,Sem.run Tryz.prog (Builtin.max_ #[ai.int,ai.int] ai.int #[.int .i64 (ay (n30-1)), .int .i64 0]) bZ= .ok (.int .i64
 n31) iK∧c7 (fun Fa:Int→World→Prop=>∃Hr:Addr,up=some Hr∧bL iK (Hr.add 5) fun n35=>aE (n35==0) (Fa 1 iK) (Fa n31 iK)) (fun (n36:Int) lX=>∃KF:Addr,up=some KF∧ar lX ((KF.add 1).add 3) fun fq=>
 ∃KH:Addr,fq.a=some KH∧aX n36 fq.len∧bL lX (KH.add (Int.toNat n36*1)) fun n41=>az (lX.drew) fun fW=>∃KV:Nat→Prop,∃a44:Addr,c=some a44∧¬KV a44.block∧∃UY:Option Addr,fW.cell? a44=some
 (.pointer UY)∧¬KV ((ah w):Addr).block∧bJ fW (ah w) fun Az=>(sV F.q4 #[.pointer UY, .int .i64 n41, .bool Az] fW fun uT fN pw ic lh dM=>aq KV fW dM∧az (dM.alloc c8) fun gF=>aq KV dM gF∧Nc
 gF dM uT fN pw ic lh Q c n41 w up n36 n31)∧(az (fW.alloc c8) fun ac6=>aq KV fW ac6∧sV F.q4 #[.pointer UY, .int .i64 n41, .bool Az] ac6 fun aqU aqV Hw Hx aqW aqX=>Nc aqX fW aqU aqV Hw Hx
 aqW Q c n41 w up n36 n31))))
def A.xS:bG:=(.s .r (.s (.s (.gn [.run, .run, .run, .split 3]) (.c (.s (.lI [(7,(.int .i64)),(8,(.int .i64))] [0,4] (.s .r (.c (.eU 10 false ⟨[0,1,2,4,0,16,32,64,128,15,1023],[0,1,2,4,0,16,32,64,
 128,8,256]⟩ [67108864,134217728,268435456,536870912,1073741824,2147483648,4294967296,8589934592,17179869184,128,256] [4,67108864,134217728,268435456,4,1073741824,2147483648,4294967296,8589934592,536870912,17179869184]
 (.take 0 (.take 1 (.take 2 (.take 3 (.take 4 (.take 5 (.take 6 (.take 7 (.take 8 (.take 9 (.tail [.run])))))))))))) .l))) (.s .r (.s .r .l))) .l)) (.s .r (.s .r (.s (.lI [(10,(.int .i64))] [0,2,4,7] (.s .r (.c .r .l))) (.s .r (.s (.eU
 13 true ⟨[0,1,2,4,0,0,32,88,128,256,256,0,3071,8191],[0,1,2,4,0,0,32,88,128,256,256,0,2560,1024]⟩ [73786976294838206464,147573952589676412928,295147905179352825856,590295810358705651712,1180591620717411303424,
 2361183241434822606848,4722366482869645213696,9444732965739290427392,36893488147419103232,18889465931478580854784,37778931862957161709568,4096,0,512] [1,73786976294838206464,147573952589676412928,295147905179352825856,2048,16,
 2361183241434822606848,6493253913945762168832,9444732965739290427392,36893488147419103232,36893488147419103232,0,18889465931478580858880,37778931862957161709568] (.take 0 (.take 1 (.take 2 (.take 3 (.take 4 (.take 5 (.take 6 (.two 7
 (.take 8 (.take 9 (.take 10 (.dg 11 (.out 12 false (.tail [.run])))))) 11 (.out 7 false (.take 8 (.take 9 (.take 10 (.out 12 false (.tail [.run]))))))))))))))) (.s a8 (.s .r (.s (.eU 5 true ⟨[0,0,0,0,13,31],[0,0,0,0,5,10]⟩
 [618970019642690137449562112,1237940039285380274899124224,8192,16384,0,0] [4096,16,0,0,618970019642690137449570304,1237940039285380274899140608] (.take 0 (.take 1 (.two 2 (.dg 3 (.dg 4 (.tail [.run]))) 3 (.dg 2 (.dg 4 (.tail
 [.run]))))))) (.s (.lI [] [0,2,7,13,14] (.s .r (.c (.eU 3 true ⟨[0,0,1,7],[0,0,1,2]⟩ [158456325028528675187087900672,316912650057057350374175801344,0,0] [16,4096,158456325028528675187087908864,
 316912650057057350374175817728] (.take 0 (.take 1 (.dg 2 (.tail [.run]))))) .l))) (.s (.eU 16 true ⟨[0,0,2,4,8,16,0,96,128,0,769,1024,2048,2048,0,24575,65535],[0,0,2,4,8,16,0,96,128,0,769,1024,2048,2048,0,
 20480,8192]⟩ [1267650600228229401496703205376,2535301200456458802993406410752,5070602400912917605986812821504,10141204801825835211973625643008,20282409603651670423947251286016,40564819207303340847894502572032,
 81129638414606681695789005144064,162259276829213363391578010288128,324518553658426726783156020576256,649037107316853453566312041152512,1298074214633706907132624082305024,633825300114114700748351602688,
 2596148429267413814265248164610048,5192296858534827628530496329220096,32768,0,65536] [8192,4,2535301200456458802993406410752,5070602400912917605986812821504,10141204801825835211973625643008,20282409603651670423947251286016,128,
 121694457621910022543683507716096,162259276829213363391578010288128,16384,974823311575508409750964764934144,1298074214633706907132624082305024,633825300114114700748351602688,633825300114114700748351602688,0,
 2596148429267413814265248164642816,5192296858534827628530496329220096] (.take 0 (.take 1 (.take 2 (.take 3 (.take 4 (.take 5 (.take 6 (.take 7 (.take 8 (.take 9 (.two 10 (.take 11 (.take 12 (.take 13 (.dg 14 (.out 15 false (.tail
 [.run])))))) 14 (.dg 10 (.take 11 (.take 12 (.take 13 (.out 15 false (.tail [.run])))))))))))))))))) kQ))))))))))))
theorem W.YU (c:Option Addr) (cv:Bool) (bj:ad) (bk:ad) (bl:ad) (up:Option Addr) (w:World) (Q:Value→World→Prop) (h:W.xS c cv bj bk bl up w Q):aR Tryz.prog F.xS #[.pointer c, .agg #[.bool cv, .slice bj.a bj.len bj.cap, .slice bk.a bk.len bk.cap, .slice bl.a bl.len bl.cap], .pointer up] w Q:=okF A.xS Tryz.func156 (by kernel_rfl) (by kernel_rfl) h
def W.B8 (c:Option Addr) (l:ad) (w:World) (Q:Value→World→Prop):Prop:=aE ((l.len:Int)==1) (az (w.drew) fun ag=>∃cQ:Addr,l.a=some cQ∧aX 0 l.len∧¬False∧bL ag ((cQ.add (Int.toNat 0*2)).add 1) fun
 b3=>∃a4:Addr,c=some a4∧¬False∧∃z1:Option Addr,ag.cell? a4=some (.pointer z1)∧∃hW:Addr,z1=some hW∧¬False∧bL ag (hW.add 4) fun n7=>Q (.tuple #[.int .i64 b3, .int .i64 n7, .int .i64 0]) ag) (∃lJ:Addr,c=
 some lJ∧∃KO:Option Addr,w.cell? lJ=some (.pointer KO)∧∃kj:Addr,KO=some kj∧bL w (kj.add 4) fun n11=>aE (n11==12) (Q (.tuple #[.int .i64 0, .int .i64 0, .int .i64 2]) w) (c7 (fun o4:Int→Int→World→Prop=>az
 (w.drew) fun cm=>∃AA:Nat→Prop,∃m4:Addr,l.a=some m4∧aX 1 l.len∧¬AA (m4.add (Int.toNat 1*2)).block∧ar cm (m4.add (Int.toNat 1*2)) fun fa=>∃wN:Addr,l.a=some wN∧aX 0 l.len∧¬AA ((wN.add
 (Int.toNat 0*2)).add 1).block∧bL cm ((wN.add (Int.toNat 0*2)).add 1) fun n18=>∃tw:Addr,l.a=some tw∧aX 1 l.len∧¬AA ((tw.add (Int.toNat 1*2)).add 1).block∧bL cm ((tw.add (Int.toNat 1*2)).add 1) fun n20=>(az
 (cm.alloc (.cells #[.slice fa.a fa.len fa.cap] ai.cG)) fun dX=>aq AA cm dX∧az (dX.alloc (.cells #[.int .i64 n18, .int .i64 n20] ai.int)) fun dL=>aq AA dX dL∧∃B9:Array Value,(∀dm:World,Sem.run Tryz.prog
 (Instr.build ai.cD #[(1, .slice (some (ah cm)) 1 1),(3, .slice (some (ah dX)) 2 2)]) dm= .ok (.agg B9) dm)∧uv F.sZ #[.pointer c, .agg B9] dL fun n27 n28 fv=>aq AA dL fv∧o4 n27 n28 fv)∧(az
 (cm.alloc (.cells #[.int .i64 n18, .int .i64 n20] ai.int)) fun fG=>aq AA cm fG∧az (fG.alloc (.cells #[.slice fa.a fa.len fa.cap] ai.cG)) fun gD=>aq AA fG gD∧∃ac7:Array Value,(∀iK:World,Sem.run Tryz.prog
 (Instr.build ai.cD #[(1, .slice (some (ah fG)) 1 1),(3, .slice (some (ah cm)) 2 2)]) iK= .ok (.agg ac7) iK)∧uv F.sZ #[.pointer c, .agg ac7] gD fun n35 n36 e3=>aq AA gD e3∧o4 n35 n36 e3)) (fun (n37:
 Int) (n38:Int) kN=>az (kN.drew) fun s0=>∃a41:Addr,c=some a41∧¬False∧∃ac8:Option Addr,s0.cell? a41=some (.pointer ac8)∧∃CT:Addr,ac8=some CT∧¬False∧bL s0 (CT.add 4) fun iA=>Q (.tuple #[.int .i64
 n37, .int .i64 (ay (iA+1)), .int .i64 n38]) s0)))
def A.B8:bG:=(.s .r (.s (.s .r (.c (.s (.eU 12 false ⟨[0,1,2,4,0,16,32,64,128,256,512,15,4095,8191],[0,1,2,4,0,16,32,64,128,256,512,8,1024,0]⟩ [4096,8192,16384,32768,65536,131072,262144,
 524288,1048576,2097152,4194304,16,32,64] [2,4096,8192,16384,1,65536,131072,262144,524288,1048576,2097152,32768,4194304,0] (.take 0 (.take 1 (.take 2 (.take 3 (.take 4 (.take 5 (.take 6 (.take 7 (.take 8 (.take 9 (.take 10
 (.take 11 (.tail [.run, .run])))))))))))))) .l) .l)) (.s a8 (.s (.lI [(7,(.int .i64)),(8,(.int .i64))] [0] (.eU 21 true ⟨[0,0,2,4,8,16,0,64,128,256,0,1024,2048,4096,8704,16416,32769,65536,131072,131072,524287,
 2097151],[0,0,2,4,8,16,0,64,128,256,0,1024,2048,4096,8704,16416,32769,65536,131072,131072,262144,524288]⟩ [4294967296,8589934592,17179869184,34359738368,68719476736,137438953472,274877906944,549755813888,
 1099511627776,2199023255552,4398046511104,8796093022208,17592186044416,35184372088832,70368744177664,140737488355328,281474976710656,2147483648,562949953421312,1125899906842624,128,256] [1,2,8589934592,17179869184,
 34359738368,68719476736,2,274877906944,549755813888,1099511627776,2,4398046511104,8796093022208,17592186044416,37383395344384,70506183131136,140741783322624,281474976710656,2147483648,2147483648,562949953421312,
 1125899906842624] (.take 0 (.take 1 (.take 2 (.take 3 (.take 4 (.take 6 (.take 7 (.take 8 (.take 9 (.take 10 (.take 11 (.take 12 (.take 13 (.two 5 (.dg 14 (.take 15 (.dg 16 (.take 17 (.take 18 (.take 19 (.take 20 (.tail [.run])))))))) 14
 (.dg 5 (.take 15 (.dg 16 (.take 17 (.take 18 (.take 19 (.take 20 (.tail [.run])))))))))))))))))))))))) (.s (.eU 12 false ⟨[0,0,2,4,8,16,32,64,128,0,1,1535,4095],[0,0,2,4,8,16,32,64,128,0,1,256,512]⟩
 [2251799813685248,4503599627370496,9007199254740992,18014398509481984,36028797018963968,72057594037927936,144115188075855872,288230376151711744,576460752303423488,1152921504606846976,16,32,64] [128,1,4503599627370496,
 9007199254740992,18014398509481984,36028797018963968,72057594037927936,144115188075855872,288230376151711744,256,2251799813685248,576460752303423488,1152921504606846976] (.take 0 (.take 1 (.take 2 (.take 3 (.take 4 (.take 5 (.take
 6 (.take 7 (.take 8 (.take 9 (.take 10 (.take 11 (.tail [.run])))))))))))))) .l)))))
theorem W.alG (c:Option Addr) (l:ad) (w:World) (Q:Value→World→Prop) (h:W.B8 c l w Q):aR Tryz.prog F.B8 #[.pointer c, .slice l.a l.len l.cap] w Q:=okF A.B8 Tryz.func157 (by kernel_rfl) (by kernel_rfl) h
end
section
set_option maxRecDepth 100000
def W.xJ (cv:Bool) (bj:ad) (bk:ad) (bl:ad) (jP:Int) (to:Int) (l:ad) (w:World) (Q:Value→World→Prop):Prop:=az (w.alloc (.cells #[.bool cv, .slice bj.a bj.len bj.cap,
 .slice bk.a bk.len bk.cap, .slice bl.a bl.len bl.cap] ai.cD)) fun ag=>az (ag.alloc c8) fun aw=>az (aw.drew) fun bc=>∃nZ:Nat→Prop,¬nZ (Addr.add (ah w) 1).block∧ar bc (Addr.add (ah w) 1) fun b7=>
 ((0:Int)≤jP∧jP≤((b7.cap:Nat):Int))∧¬nZ (Addr.add (ah w) 3).block∧ar bc (Addr.add (ah w) 3) fun c3=>((0:Int)≤jP∧jP≤((c3.cap:Nat):Int))∧(en F.zo #[.slice (bf
 b7.a 1 0 b7.cap) ((Int.toNat jP)-0) (b7.cap-0)] bc fun eK bt=>aq nZ bc bt∧(en F.tX #[.slice (bf c3.a 1 0 c3.cap) ((Int.toNat jP)-0) (c3.cap-0)] bt fun iM cj=>aq nZ bt cj∧∃mx:Array
 Value,(∀dE:World,Sem.run Tryz.prog (Instr.build ai.cD #[(1, .slice eK.a eK.len eK.cap),(3, .slice iM.a iM.len iM.cap)]) dE= .ok (.agg mx) dE)∧az (cj.alloc c8) fun gR=>aq nZ cj gR∧s7 gR cj mx l w to ag Q)∧
 (az (bt.alloc c8) fun gl=>aq nZ bt gl∧en F.tX #[.slice (bf c3.a 1 0 c3.cap) ((Int.toNat jP)-0) (c3.cap-0)] gl fun yh dp=>aq nZ gl dp∧∃ac9:Array Value,(∀qp:World,Sem.run Tryz.prog
 (Instr.build ai.cD #[(1, .slice eK.a eK.len eK.cap),(3, .slice yh.a yh.len yh.cap)]) qp= .ok (.agg ac9) qp)∧s7 dp bt ac9 l w to ag Q))∧(az (bc.alloc c8) fun pk=>aq nZ bc pk∧en F.zo
 #[.slice (bf b7.a 1 0 b7.cap) ((Int.toNat jP)-0) (b7.cap-0)] pk fun nT lg=>aq nZ pk lg∧en F.tX #[.slice (bf c3.a 1 0 c3.cap) ((Int.toNat jP)-0) (c3.cap-0)] lg fun UZ Hy=>aq
 nZ lg Hy∧∃ac_:Array Value,(∀Hz:World,Sem.run Tryz.prog (Instr.build ai.cD #[(1, .slice nT.a nT.len nT.cap),(3, .slice UZ.a UZ.len UZ.cap)]) Hz= .ok (.agg ac_) Hz)∧s7 Hy bc ac_ l w to ag Q)
def A.xJ:bG:=(.s .r (.s (.eU 12 true ⟨[0,1,0,6,8,0,32,0,192,272,528,0,4095],[0,1,0,6,8,0,32,0,192,256,528,0,3072]⟩ [4096,8192,16384,32768,65536,131072,262144,524288,1048576,2097152,4194304,
 512,0] [16,4096,2,24576,32768,16,131072,2,786432,1048576,2162688,0,4194816] (.take 0 (.take 1 (.take 2 (.take 3 (.take 5 (.take 6 (.take 7 (.take 8 (.two 4 (.two 9 (.take 10 (.dg 11 (.tail [.run]))) 11 (.dg 9 (.take 10 (.tail
 [.run])))) 11 (.dg 4 (.dg 9 (.take 10 (.tail [.run])))))))))))))) (.s (.s .r (.db (.loop [(25,(.int .i64))] [2,4,8,9,23,24] (.s .r (.s (.c .l .l) (.s (.db (.s .r (.s (.lI [] [2,4,8,9,11,23,24,25] (.s .r (.c .r .l))) .r)))
 .r)))))) (.s (.eU 7 false ⟨[0,1,0,4,0,16,40,66,255,511],[0,1,0,4,0,16,40,66,0,384]⟩ [140737488355328,281474976710656,562949953421312,1125899906842624,2251799813685248,4503599627370496,9007199254740992,
 18014398509481984,36028797018963968,0] [512,140737488355328,16,562949953421312,4,2251799813685248,5629499534213120,9288674231451648,512,54043195528445952] (.take 0 (.take 1 (.take 2 (.take 3 (.take 4 (.take 5 (.take 6 (.tail
 [.run, .run, .run]))))))))) (.s (.eU 6 false ⟨[0,1,0,4,0,24,34,127,255],[0,1,0,4,0,24,34,0,192]⟩ [72057594037927936,144115188075855872,288230376151711744,576460752303423488,1152921504606846976,2305843009213693952,
 4611686018427387904,9223372036854775808,0] [512,72057594037927936,16,288230376151711744,4,1729382256910270464,2449958197289549824,512,13835058055282163712] (.take 0 (.take 1 (.take 2 (.take 3 (.take 4 (.take 5 (.tail [.run, .run,
 .run])))))))) (.s .r .l))))))
theorem W.akK (cv:Bool) (bj:ad) (bk:ad) (bl:ad) (jP:Int) (to:Int) (l:ad) (w:World) (Q:Value→World→Prop) (h:W.xJ cv bj bk bl jP to l w Q):aR Tryz.prog F.xJ #[.agg #[.bool cv, .slice bj.a bj.len bj.cap, .slice bk.a bk.len bk.cap, .slice bl.a bl.len bl.cap], .int .i64 jP, .int .i64 to, .slice l.a l.len l.cap] w Q:=okF A.xJ Tryz.func158 (by kernel_rfl) (by kernel_rfl) h
def W.zn (c:Option Addr) (cv:Bool) (bj:ad) (bk:ad) (bl:ad) (w:World) (Q:Value→World→Prop):Prop:=az (w.alloc (.cells #[.bool cv, .slice bj.a bj.len bj.cap, .slice bk.a
 bk.len bk.cap, .slice bl.a bl.len bl.cap] ai.cD)) fun ag=>bJ ag (ah w) fun cA=>ar ag (Addr.add (ah w) 1) fun bN=>ar ag (Addr.add (ah w) 2) fun cC=>ar ag (Addr.add (ah w) 3) fun b7=>uv F.sZ
 #[.pointer c, .agg #[.bool cA, .slice bN.a bN.len bN.cap, .slice cC.a cC.len cC.cap, .slice b7.a b7.len b7.cap]] ag fun n8 n9 bd=>∃fj:ad,∃bZ:World,Sem.run Tryz.prog (Instr.buildSlice ai.Gp 1 #[(0, .agg #[.slice none 0
 0, .int .i64 n8])]) bd= .ok (.slice fj.a fj.len fj.cap) bZ∧Q (.tuple #[.slice fj.a fj.len fj.cap, .int .i64 n9]) bZ
def A.zn:bG:=a4
theorem W.akc (c:Option Addr) (cv:Bool) (bj:ad) (bk:ad) (bl:ad) (w:World) (Q:Value→World→Prop) (h:W.zn c cv bj bk bl w Q):aR Tryz.prog F.zn #[.pointer c, .agg #[.bool cv, .slice bj.a bj.len bj.cap, .slice bk.a bk.len bk.cap, .slice bl.a bl.len bl.cap]] w Q:=okF A.zn Tryz.func159 (by kernel_rfl) (by kernel_rfl) h
def W.x6 (cv:Bool) (bj:ad) (bk:ad) (bl:ad) (low:ad) (high:ad) (w:World) (Q:Value→World→Prop):Prop:=az (w.alloc (.cells #[.bool cv, .slice bj.a bj.len bj.cap, .slice bk.a
 bk.len bk.cap, .slice bl.a bl.len bl.cap] ai.cD)) fun ag=>ar ag (Addr.add (ah w) 1) fun s2=>∃ (kk:Int→World→Prop) (m5:Int→World→Nat),kk 0 ag∧∀ (n5:Int) (bd:World),kk n5 bd→aE (decide (n5<
 (s2.len:Int))) (∃jr:Addr,s2.a=some jr∧aX n5 s2.len∧ar bd (jr.add (Int.toNat n5*1)) fun dQ=>c7 (fun z6:Bool→World→Prop=>aE (!(Option.isNone low.a)) (aS F.mi #[.slice dQ.a dQ.len dQ.cap, .slice low.a low.len
 low.cap] bd fun n12 cj=>z6 (decide (n12<0)) cj) (z6 false bd)) (fun (sd:Bool) dE=>c7 (fun ada:Bool→World→Prop=>aE sd (ada true dE) (c7 (fun adb:Bool→World→Prop=>aE (!(Option.isNone high.a)) (aS F.mi
 #[.slice dQ.a dQ.len dQ.cap, .slice high.a high.len high.cap] dE fun n19 fC=>adb (decide (n19≥0)) fC) (adb false dE)) (fun (p9:Bool) dX=>ada p9 dX))) (fun (se:Bool) lj=>aE se (Q (.bool false) lj) (kk (ay (n5+1))
 lj∧m5 (ay (n5+1)) lj<m5 n5 bd)))) (Q (.bool true) bd)
def A.x6:bG:=(.s .r (.s (.s .r (.db (.loop [(12,(.int .i64))] [1,2,10,11] (.s .r (.s (.c .l .l) (.s (.db (.s .r (.s (.gn [.run, .run, .run, .split 4, .run, .run, .run, .run, .run, .split 8, .run, .run, .split 4]) (.c (.s
 .r .l) .l)))) .r)))))) (.s .r .l)))
theorem W.anZ (cv:Bool) (bj:ad) (bk:ad) (bl:ad) (low:ad) (high:ad) (w:World) (Q:Value→World→Prop) (h:W.x6 cv bj bk bl low high w Q):aR Tryz.prog F.x6 #[.agg #[.bool cv, .slice bj.a bj.len bj.cap, .slice bk.a bk.len bk.cap, .slice bl.a bl.len bl.cap], .slice low.a low.len low.cap, .slice high.a high.len high.cap] w Q:=okF A.x6 Tryz.func162 (by kernel_rfl) (by kernel_rfl) h
def W.vc (r:Option Addr) (size:Int) (w:World) (Q:Value→World→Prop):Prop:=en F.yL #[.pointer r, .int .i64 size] w fun bN ag=>LX F.rB #[.slice bN.a bN.len bN.cap, .int .i64 0, .int .i64
 size] ag fun n6 kL bz=>Q (.int .i64 (ay n6)) bz
def A.vc:bG:=a4
theorem W.afV (r:Option Addr) (size:Int) (w:World) (Q:Value→World→Prop) (h:W.vc r size w Q):aR Tryz.prog F.vc #[.pointer r, .int .i64 size] w Q:=okF A.vc Tryz.func164 (by kernel_rfl) (by kernel_rfl) h
def W.vd (r:Option Addr) (w:World) (Q:Value→World→Prop):Prop:=aS F.vc #[.pointer r, .int .i64 1] w fun b3 ag=>en F.yL #[.pointer r, .int .i64 b3] ag fun c3 bz=>Q (.slice c3.a
 c3.len c3.cap) bz
def A.vd:bG:=(.s .r (.s .r .l))
theorem W.afW (r:Option Addr) (w:World) (Q:Value→World→Prop) (h:W.vd r w Q):aR Tryz.prog F.vd #[.pointer r] w Q:=okF A.vd Tryz.func165 (by kernel_rfl) (by kernel_rfl) h
def W.tV (cv:Bool) (bj:ad) (bk:ad) (bl:ad) (w:World) (Q:Value→World→Prop):Prop:=az (w.alloc (.cells #[.bool cv, .slice bj.a bj.len bj.cap, .slice bk.a bk.len bk.cap,
 .slice bl.a bl.len bl.cap] ai.cD)) fun ag=>bJ ag (ah w) fun cA=>ar ag (Addr.add (ah w) 1) fun bN=>ar ag (Addr.add (ah w) 2) fun cC=>ar ag (Addr.add (ah w) 3) fun b7=>aZ F.mP #[.agg #[.bool cA, .slice bN.a
 bN.len bN.cap, .slice cC.a cC.len cC.cap, .slice b7.a b7.len b7.cap]] ag fun nW bd=>c7 (fun z6:Bool→World→Prop=>aE (!nW) (z6 true bd) (ar bd (Addr.add (ah w) 1) fun fj=>z6 (decide ((fj.len:Int)>255)) bd)) (fun (tm:Bool)
 cL=>aE tm (Q (.tuple #[.slice none 0 0, .int .i64 4]) cL) (bJ cL (ah w) fun sd=>ar cL (Addr.add (ah w) 1) fun dZ=>ar cL (Addr.add (ah w) 2) fun fp=>ar cL (Addr.add (ah w) 3) fun fa=>en F.tT #[.agg #[.bool
 sd, .slice dZ.a dZ.len dZ.cap, .slice fp.a fp.len fp.cap, .slice fa.a fa.len fa.cap]] cL fun fX fC=>aE (decide ((fX.len:Int)>232)) (Q (.tuple #[.slice none 0 0, .int .i64 10]) fC) (Q (.tuple #[.slice fX.a fX.len
 fX.cap, .int .i64 0]) fC)))
def A.tV:bG:=(.s .r (.s (.s (.gn [.run, .run, .run, .run, .split 4]) (.c (.s .r .l) .l)) ig))
theorem W.afS (cv:Bool) (bj:ad) (bk:ad) (bl:ad) (w:World) (Q:Value→World→Prop) (h:W.tV cv bj bk bl w Q):aR Tryz.prog F.tV #[.agg #[.bool cv, .slice bj.a bj.len bj.cap, .slice bk.a bk.len bk.cap, .slice bl.a bl.len bl.cap]] w Q:=okF A.tV Tryz.func166 (by kernel_rfl) (by kernel_rfl) h
def W.AS (parts:ad) (w:World) (Q:Value→World→Prop):Prop:=∃ (gU:Int→Int→World→Prop) (jy:Int→Int→World→Nat),gU 4294967295 0 w∧∀ (b3:Int) (fc:Int) (bT:World),gU b3 fc bT→aE (decide (fc<
 (parts.len:Int))) (∃hW:Addr,parts.a=some hW∧aX fc parts.len∧ar bT (hW.add (Int.toNat fc*1)) fun gY=>mx F.wV #[.int .u32 b3, .slice gY.a gY.len gY.cap] bT fun n10 bC=>gU n10 (ay (fc+1)) bC∧jy n10 (ay (fc+1)) bC<
 jy b3 fc bT) (Q (.int .u32 (Ds .u32 4294967295 b3)) bT)
def A.AS:bG:=(.s .r (.s .r (.s (.s .r (.db (.loop [(3,(.int .u32)),(8,(.int .i64))] [6,7] cQ))) (.s .r .l))))
theorem W.afa (parts:ad) (w:World) (Q:Value→World→Prop) (h:W.AS parts w Q):aR Tryz.prog F.AS #[.slice parts.a parts.len parts.cap] w Q:=okF A.AS Tryz.func168 (by kernel_rfl) (by kernel_rfl) h
def W.rB (b:ad) (kl:Int) (size:Int) (w:World) (Q:Value→World→Prop):Prop:=Dp F.tH #[.slice b.a b.len b.cap, .int .i64 kl, .int .i64 size] w fun bN e9 ag=>c7 (fun qs:Bool→World→Prop=>aE (!e9) (qs
 true ag) (aZ F.E8 #[.int .i64 size] ag fun nW bd=>qs (!nW) bd)) (fun (ju:Bool) cj=>aE ju (Q (.tuple #[.int .u64 0, .bool false]) cj) (∃ (U0:Int→Int→World→Prop) (adc:Int→Int→World→Nat),U0 0 0 cj∧∀ (n13:
 Int) (n14:Int) (gR:World),U0 n13 n14 gR→aE (decide (n14<(bN.len:Int))) (∃nz:Addr,bN.a=some nz∧aX n14 bN.len∧g8 gR (nz.add (Int.toNat n14*1)) fun n17=>(0:Int)≤8∧U0 (AO .u64 (IntKind.wrap .u64 (n13*2^
 (min (Int.toNat 8) 64))) (IntKind.wrap .u64 n17)) (ay (n14+1)) gR∧adc (AO .u64 (IntKind.wrap .u64 (n13*2^(min (Int.toNat 8) 64))) (IntKind.wrap .u64 n17)) (ay (n14+1)) gR<adc n13 n14 gR) (Q (.tuple #[.int .u64 n13, .bool
 true]) gR)))
def A.rB:bG:=(.s .r (.s .r (.s lJ (.s .r (.s (.s .r (.db (.loop [(10,(.int .u64)),(29,(.int .i64))] [27,28] cQ))) (.s .r .l))))))
theorem W.Vs (b:ad) (kl:Int) (size:Int) (w:World) (Q:Value→World→Prop) (h:W.rB b kl size w Q):aR Tryz.prog F.rB #[.slice b.a b.len b.cap, .int .i64 kl, .int .i64 size] w Q:=okF A.rB Tryz.func169 (by kernel_rfl) (by kernel_rfl) h
def W.tH (b:ad) (kl:Int) (size:Int) (w:World) (Q:Value→World→Prop):Prop:=aE ((((decide (kl<0))||(decide (size<0)))||(decide (kl>(b.len:Int))))||(decide (size>(ay ((b.len:Int)-kl))))) (Q (.tuple
 #[.slice none 0 0, .bool false]) w) (((0:Int)≤(ay (kl+size))∧(ay (kl+size))≤((b.cap:Nat):Int))∧((0:Int)≤kl∧kl≤(((Int.toNat (ay (kl+size))):Nat):Int))∧Q (.tuple #[.slice (bf b.a 1 (Int.toNat
 kl) b.cap) ((Int.toNat (ay (kl+size)))-(Int.toNat kl)) (b.cap-(Int.toNat kl)), .bool true]) w)
def A.tH:bG:=(.s .r (.s (.s (.gn [.run, .run, .run, .pure 2, .run, .run, .run, .pure 4, .run, .run, .run, .run, .run, .pure 6]) (.c (.s .r .l) .l)) (.s .r .l)))
theorem W.Ps (b:ad) (kl:Int) (size:Int) (w:World) (Q:Value→World→Prop) (h:W.tH b kl size w Q):aR Tryz.prog F.tH #[.slice b.a b.len b.cap, .int .i64 kl, .int .i64 size] w Q:=okF A.tH Tryz.func170 (by kernel_rfl) (by kernel_rfl) h
def W.E8 (size:Int) (w:World) (Q:Value→World→Prop):Prop:=Q (.bool ((decide (size≥1))&&(decide (size≤8)))) w
def A.E8:bG:=a3
theorem W.Vt (size:Int) (w:World) (Q:Value→World→Prop) (h:W.E8 size w Q):aR Tryz.prog F.E8 #[.int .i64 size] w Q:=okF A.E8 Tryz.func183 (by kernel_rfl) (by kernel_rfl) h
def W.y8 (c:Option Addr) (no:Int) (w:World) (Q:Value→World→Prop):Prop:=c7 (fun ej:Bool→World→Prop=>aE ((!(Option.isNone c))&&(decide (no≥0))) (∃cQ:Addr,c=some cQ∧∃gv:Option Addr,w.cell?
 cQ=some (.pointer gv)∧aS F.y4 #[.pointer gv] w fun n6 bz=>ej (decide (no<n6)) bz) (ej false w)) (fun (kL:Bool) bC=>Q (.bool kL) bC)
def A.y8:bG:=hW
theorem W.ahT (c:Option Addr) (no:Int) (w:World) (Q:Value→World→Prop) (h:W.y8 c no w Q):aR Tryz.prog F.y8 #[.pointer c, .int .i64 no] w Q:=okF A.y8 Tryz.func184 (by kernel_rfl) (by kernel_rfl) h
def W.y_ (c:Option Addr) (w:World) (Q:Value→World→Prop):Prop:=za F.Bq #[.pointer c] w fun gv ag=>aE (!(Option.isNone gv)) (Q (.tuple #[.pointer gv, .int .i64 0]) ag) (za F.Br
 #[.pointer c] ag fun nu bz=>aE (Option.isNone nu) (Q (.tuple #[.pointer none, .int .i64 11]) bz) (c7 (fun xt:World→Prop=>∃lJ:Addr,nu=some lJ∧bJ bz (lJ.add 1) fun ju=>aE ju (az (bz.drew) fun cj=>∃ig:Addr,c=some
 ig∧¬False∧∃ade:Option Addr,cj.cell? ig=some (.pointer ade)∧∃kQ:Addr,nu=some kQ∧¬False∧bL cj (kQ.add 3) fun n14=>∃m4:Addr,nu=some m4∧¬False∧ar cj (m4.add 5) fun fa=>aS F.Bn
 #[.pointer ade, .int .i64 n14, .slice fa.a fa.len fa.cap] cj fun n19 fC=>aE (n19 !=0) (Q (.tuple #[.pointer none, .int .i64 n19]) fC) (xt fC)) (xt bz)) (fun cE=>∃kJ:Addr,nu=some kJ∧cN cE kJ [.bool false, .bool
 false, .bool false, .int .i64 0, .int .i64 0, .slice none 0 0]∧(6:Nat)=6∧az (setCells cE kJ 0 [.bool false, .bool false, .bool false, .int .i64 0, .int .i64 0, .slice none 0 0]) fun dL=>Q (.tuple #[.pointer nu, .int .i64 0])
 dL)))
def A.y_:bG:=(.s .r (.s (.s .r a8) (.s .r (.s a8 (.s (.lI [] [5] (.s .r (.c (.s (.eU 12 false ⟨[0,1,2,4,0,16,32,64,0,256,512,1024,2184,8191],[0,1,2,4,0,16,32,64,0,256,512,1024,2184,4096]⟩
 [1048576,2097152,4194304,8388608,16777216,33554432,67108864,134217728,268435456,536870912,1073741824,2147483648,4294967296,64] [1,1048576,2097152,4194304,32,16777216,33554432,67108864,32,268435456,536870912,
 1073741824,2290089984,4294967296] (.take 0 (.take 1 (.take 2 (.take 3 (.take 4 (.take 5 (.take 6 (.take 7 (.take 8 (.take 9 (.take 10 (.take 11 (.tail [.run, .run])))))))))))))) a8) .l))) (.s .r (.s .r .l)))))))
theorem W.ah3 (c:Option Addr) (w:World) (Q:Value→World→Prop) (h:W.y_ c w Q):aR Tryz.prog F.y_ #[.pointer c] w Q:=okF A.y_ Tryz.func185 (by kernel_rfl) (by kernel_rfl) h
def W.BC (s:ad) (no:Int) (w:World) (Q:Value→World→Prop):Prop:=az (w.drew) fun ag=>(8:Int)≠0∧∃cQ:Addr,s.a=some cQ∧aX (ay (Int.tdiv no 8)) s.len∧¬False∧g8 ag (cQ.add (Int.toNat (ay (Int.tdiv no
 8))*1)) fun b3=>(8:Int)≠0∧(0:Int)≤(Int.tmod no 8)∧∃a4:Addr,s.a=some a4∧aX (ay (Int.tdiv no 8)) s.len∧st ag (a4.add (Int.toNat (ay (Int.tdiv no 8))*1)) (.int .u8 (XB .u8 b3 (IntKind.wrap .u8 (1*2^(min
 (Int.toNat (Int.tmod no 8)) 8))))) fun bT=>Q (.tuple #[]) bT
def A.BC:bG:=(.eU 8 false ⟨[0,0,2,5,8,0,32,64,144,511,1023],[0,0,2,5,8,0,32,64,144,5,768]⟩ [16,32,64,128,256,512,1024,2048,4096,8192,0] [1,2,32,80,128,2,512,1024,2304,80,12288]
 (.take 0 (.take 1 (.take 2 (.take 3 (.take 4 (.take 5 (.take 6 (.take 7 (.tail [.run, .run, .run]))))))))))
theorem W.aiR (s:ad) (no:Int) (w:World) (Q:Value→World→Prop) (h:W.BC s no w Q):aR Tryz.prog F.BC #[.slice s.a s.len s.cap, .int .i64 no] w Q:=okF A.BC Tryz.func188 (by kernel_rfl) (by kernel_rfl) h
def W.tU (cv:Bool) (bj:ad) (bk:ad) (bl:ad) (w:World) (Q:Value→World→Prop):Prop:=az (w.alloc (.cells #[.bool cv, .slice bj.a bj.len bj.cap, .slice bk.a bk.len bk.cap,
 .slice bl.a bl.len bl.cap] ai.cD)) fun ag=>bJ ag (ah w) fun cA=>ar ag (Addr.add (ah w) 1) fun bN=>ar ag (Addr.add (ah w) 2) fun cC=>ar ag (Addr.add (ah w) 3) fun b7=>aZ F.mP #[.agg #[.bool cA, .slice bN.a
 bN.len bN.cap, .slice cC.a cC.len cC.cap, .slice b7.a b7.len b7.cap]] ag fun nW bd=>aE (!nW) (Q (.int .i64 0) bd) (bJ bd (ah w) fun ju=>ar bd (Addr.add (ah w) 1) fun fj=>ar bd (Addr.add (ah w) 2) fun eF=>ar bd (Addr.add (ah w) 3)
 fun iM=>en F.tT #[.agg #[.bool ju, .slice fj.a fj.len fj.cap, .slice eF.a eF.len eF.cap, .slice iM.a iM.len iM.cap]] bd fun fp cm=>Q (.int .i64 (fp.len:Int)) cm)
def A.tU:bG:=ig
theorem W.afR (cv:Bool) (bj:ad) (bk:ad) (bl:ad) (w:World) (Q:Value→World→Prop) (h:W.tU cv bj bk bl w Q):aR Tryz.prog F.tU #[.agg #[.bool cv, .slice bj.a bj.len bj.cap, .slice bk.a bk.len bk.cap, .slice bl.a bl.len bl.cap]] w Q:=okF A.tU Tryz.func189 (by kernel_rfl) (by kernel_rfl) h
def W.q5 (c:Option Addr) (cv:Bool) (bj:ad) (bk:ad) (bl:ad) (w:World) (Q:Value→World→Prop):Prop:=az (w.alloc (.cells #[.bool cv, .slice bj.a bj.len bj.cap, .slice bk.a
 bk.len bk.cap, .slice bl.a bl.len bl.cap] ai.cD)) fun ag=>bJ ag (ah w) fun cA=>ar ag (Addr.add (ah w) 1) fun bN=>ar ag (Addr.add (ah w) 2) fun cC=>ar ag (Addr.add (ah w) 3) fun b7=>aS F.tU #[.agg
 #[.bool cA, .slice bN.a bN.len bN.cap, .slice cC.a cC.len cC.cap, .slice b7.a b7.len b7.cap]] ag fun n8 bd=>aE (decide (n8>232)) (bJ bd (ah w) fun ju=>ar bd (Addr.add (ah w) 1) fun fj=>ar bd (Addr.add (ah w) 2) fun eF=>ar bd
 (Addr.add (ah w) 3) fun iM=>fK F.BU #[.pointer c, .agg #[.bool ju, .slice fj.a fj.len fj.cap, .slice eF.a eF.len eF.cap, .slice iM.a iM.len iM.cap]] bd fun fp n16 cm=>Q (.tuple #[.slice fp.a fp.len fp.cap,
 .int .i64 n16]) cm) (bJ bd (ah w) fun Aw=>ar bd (Addr.add (ah w) 1) fun ln=>ar bd (Addr.add (ah w) 2) fun fX=>ar bd (Addr.add (ah w) 3) fun eM=>fK F.zn #[.pointer c, .agg #[.bool Aw, .slice ln.a ln.len ln.cap,
 .slice fX.a fX.len fX.cap, .slice eM.a eM.len eM.cap]] bd fun ff n24 dX=>Q (.tuple #[.slice ff.a ff.len ff.cap, .int .i64 n24]) dX)
def A.q5:bG:=ig
theorem W.ako (c:Option Addr) (cv:Bool) (bj:ad) (bk:ad) (bl:ad) (w:World) (Q:Value→World→Prop) (h:W.q5 c cv bj bk bl w Q):aR Tryz.prog F.q5 #[.pointer c, .agg #[.bool cv, .slice bj.a bj.len bj.cap, .slice bk.a bk.len bk.cap, .slice bl.a bl.len bl.cap]] w Q:=okF A.q5 Tryz.func190 (by kernel_rfl) (by kernel_rfl) h
end
end Go.Proofs.YtplieiecebljmaaGreat
