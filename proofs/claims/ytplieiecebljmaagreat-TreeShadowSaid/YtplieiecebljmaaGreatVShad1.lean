/- Printed by gen.py: functions of the program, each as what must be shown of it. -/
import Derived.Test.YtplieiecebljmaaGreatProg
import Derived.Test.YtplieiecebljmaaGreatKShad2
namespace b8
abbrev bL.s:=bL.seq
abbrev bL.l:=bL.leaf
abbrev bL.c:=bL.cond
abbrev bL.r:=bL.gB []
end b8
namespace Go.Proofs.YtplieiecebljmaaGreat
open Go b8
section
namespace F
abbrev Gs:Nat:=7
abbrev y6:Nat:=11
abbrev AP:Nat:=14
abbrev BW:Nat:=20
abbrev BP:Nat:=21
abbrev D9:Nat:=22
abbrev Ea:Nat:=23
abbrev vR:Nat:=24
abbrev zF:Nat:=25
abbrev BO:Nat:=26
abbrev Ef:Nat:=27
abbrev vS:Nat:=28
abbrev zH:Nat:=29
abbrev B0:Nat:=30
abbrev zG:Nat:=31
abbrev zL:Nat:=32
abbrev Dz:Nat:=33
abbrev xg:Nat:=34
abbrev BT:Nat:=36
abbrev Dd:Nat:=39
abbrev AM:Nat:=43
abbrev y2:Nat:=44
abbrev AL:Nat:=45
abbrev tq:Nat:=57
abbrev zc:Nat:=58
abbrev yG:Nat:=59
abbrev yM:Nat:=60
abbrev xK:Nat:=61
abbrev BS:Nat:=62
abbrev xP:Nat:=63
abbrev o1:Nat:=64
abbrev y7:Nat:=65
abbrev za:Nat:=66
abbrev y_:Nat:=67
abbrev yK:Nat:=68
abbrev zE:Nat:=69
abbrev rZ:Nat:=70
abbrev Ed:Nat:=71
abbrev Ee:Nat:=72
abbrev BU:Nat:=73
abbrev y9:Nat:=74
abbrev Ej:Nat:=75
abbrev xh:Nat:=76
abbrev Ei:Nat:=77
abbrev uj:Nat:=78
abbrev AN:Nat:=79
abbrev yw:Nat:=88
abbrev adf:Nat:=90
abbrev CG:Nat:=99
abbrev tb:Nat:=104
abbrev vh:Nat:=105
abbrev rJ:Nat:=106
abbrev nP:Nat:=107
abbrev fO:Nat:=108
abbrev yF:Nat:=109
abbrev zx:Nat:=110
abbrev BA:Nat:=111
abbrev xG:Nat:=112
abbrev auf:Nat:=113
abbrev DA:Nat:=114
abbrev DB:Nat:=115
abbrev AX:Nat:=116
abbrev Dx:Nat:=117
abbrev va:Nat:=118
abbrev mo:Nat:=119
abbrev yD:Nat:=120
abbrev tv:Nat:=121
abbrev Dw:Nat:=122
abbrev Gq:Nat:=123
abbrev zK:Nat:=124
abbrev wG:Nat:=129
abbrev u0:Nat:=130
abbrev rE:Nat:=131
abbrev GO:Nat:=132
abbrev yv:Nat:=133
abbrev GP:Nat:=134
abbrev ym:Nat:=135
abbrev AY:Nat:=138
abbrev sW:Nat:=141
abbrev pk:Nat:=142
abbrev Dl:Nat:=145
abbrev CY:Nat:=146
abbrev wA:Nat:=147
abbrev CO:Nat:=148
abbrev wB:Nat:=149
abbrev CP:Nat:=150
abbrev vg:Nat:=151
abbrev Dv:Nat:=152
abbrev Du:Nat:=153
abbrev Dp:Nat:=154
abbrev zn:Nat:=155
abbrev zm:Nat:=156
abbrev DX:Nat:=157
abbrev ze:Nat:=158
abbrev A7:Nat:=159
abbrev Y3:Nat:=160
abbrev aug:Nat:=161
abbrev wD:Nat:=164
abbrev wE:Nat:=165
abbrev vd:Nat:=166
abbrev yx:Nat:=167
abbrev CE:Nat:=168
abbrev sT:Nat:=169
abbrev uZ:Nat:=170
abbrev GQ:Nat:=183
abbrev AR:Nat:=184
abbrev AT:Nat:=185
abbrev E_:Nat:=186
abbrev Fa:Nat:=187
abbrev Dq:Nat:=188
abbrev vc:Nat:=189
abbrev sx:Nat:=190
abbrev qn:Nat:=191
abbrev uw:Nat:=192
abbrev A8:Nat:=193
abbrev Ar:Nat:=195
abbrev vb:Nat:=196
abbrev yn:Nat:=197
abbrev Df:Nat:=204
abbrev Dg:Nat:=205
abbrev DJ:Nat:=206
abbrev yy:Nat:=207
abbrev Dt:Nat:=208
abbrev Dn:Nat:=209
abbrev sY:Nat:=211
abbrev yP:Nat:=213
abbrev Ds:Nat:=214
abbrev s0:Nat:=215
end F
namespace ah
abbrev t:Nat:=0
abbrev int:Nat:=3
abbrev bool:Nat:=4
abbrev uint8:Nat:=5
abbrev string:Nat:=9
abbrev auh:Nat:=24
abbrev cc:Nat:=27
abbrev J2:Nat:=32
abbrev adS:Nat:=37
abbrev cJ:Nat:=44
abbrev e2:Nat:=56
abbrev IQ:Nat:=67
abbrev ar6:Nat:=70
abbrev P6:Nat:=73
abbrev vU:Nat:=75
abbrev eY:Nat:=81
abbrev m_:Nat:=87
abbrev uh:Nat:=96
abbrev xf:Nat:=97
abbrev OM:Nat:=101
abbrev oA:Nat:=107
abbrev cR:Nat:=125
abbrev FI:Nat:=140
abbrev uu:Nat:=144
abbrev HW:Nat:=150
abbrev ZY:Nat:=160
abbrev qo:Nat:=168
abbrev K3:Nat:=169
abbrev Dr:Nat:=171
abbrev aui:Nat:=204
abbrev aaC:Nat:=206
abbrev H6:Nat:=241
abbrev vC:Nat:=249
abbrev YK:Nat:=259
end ah
namespace G
end G
def auj:List jZ:=[(.kj []),
  (.one (.one .fn)),
  (.one (.one (.int .i64))),
  (.one (.one (.int .i64))),
  (.one (.one .bool)),
  (.one (.one (.int .u8))),
  (.one (.one (.int .u8))),
  (.one (.flat [(.int .i64),(.int .i64), .bool,(.int .u8)])),
  (.one (.flat [(.int .i64),(.int .i64), .bool,(.int .u8)])),
  (.one (.one .str)),
  (.one (.one .str)),
  (.one (.one .str)),
  (.one (.one (.int .u64))),
  (.one (.flat [.str,(.int .u64)])),
  (.one (.flat [.str,(.int .u64)])),
  (.one (.one .ptr)),
  (.one (.one .ptr)),
  (.one (.one .ptr)),
  (.one (.flat [.ptr])),
  (.one (.flat [.ptr])),
  (.one (.one .any)),
  (.one (.one (.int .i32))),
  (.one (.one .slice)),
  (.one (.one .ptr)),
  (.one (.one (.int .i64))),
  (.kj [(.one .ptr),(.one (.int .i64))]),
  (.one (.one .fn)),
  (.one (.one .slice)),
  (.kj [(.one .slice),(.one (.int .i64))]),
  (.one (.one .fn)),
  (.one (.one (.int .u64))),
  (.one (.flat [(.int .i64),(.int .u64), .slice])),
  (.one (.flat [(.int .i64),(.int .u64), .slice])),
  (.one (.one .agg)),
  (.one (.one .agg)),
  (.one (.one .fn)),
  (.one (.one .fn)),
  (.one (.one .agg)),
  (.one (.one .agg)),
  (.one (.one .agg)),
  (.one (.one .agg)),
  (.kj [(.one .agg),(.one (.int .i64))]),
  (.one (.one .fn)),
  (.one (.one .fn)),
  (.one (.one .slice)),
  (.one (.one .fn)),
  (.one (.one .fn)),
  (.one (.one .fn)),
  (.one (.one .fn)),
  (.one (.one .fn)),
  (.one (.one .ptr)),
  (.one (.one .fn)),
  (.kj [(.one .slice),(.one .bool),(.one (.int .i64))]),
  (.one (.one .fn)),
  (.kj [(.one .bool),(.one (.int .i64))]),
  (.one (.one .fn)),
  (.one (.one .slice)),
  (.kj [(.one .slice),(.one (.int .i64))]),
  (.one (.one .fn)),
  (.one (.one .ptr)),
  (.kj [(.one .ptr),(.one .bool)]),
  (.one (.one .fn)),
  (.kj [(.one .ptr),(.one (.int .i64))]),
  (.one (.one .fn)),
  (.one (.one .ptr)),
  (.one (.one .ptr)),
  (.one (.one .agg)),
  (.one (.one .agg)),
  (.one (.one .fn)),
  (.one (.one .fn)),
  (.one (.one .slice)),
  (.one (.one .ptr)),
  (.one (.flat [.slice])),
  (.one (.flat [.slice])),
  (.one (.flat [(.int .i64), .slice, .slice,(.int .i64)])),
  (.one (.flat [(.int .i64), .slice, .slice,(.int .i64)])),
  (.one (.one .fn)),
  (.one (.one .fn)),
  (.one (.one .fn)),
  (.one (.one .fn)),
  (.one (.one .fn)),
  (.one (.one .slice)),
  (.one (.one .fn)),
  (.one (.one .fn)),
  (.one (.one (.int .u16))),
  (.one (.one .fn)),
  (.one (.flat [.slice, .slice])),
  (.one (.flat [.slice, .slice])),
  (.kj [(.one (.int .i64)),(.one (.int .i64))]),
  (.one (.one .fn)),
  (.one (.one .fn)),
  (.one (.one .fn)),
  (.one (.flat [(.int .u8),(.int .u8)])),
  (.one (.flat [(.int .u8),(.int .u8)])),
  (.one (.one .fn)),
  (.one (.one .fn)),
  (.one (.one .slice)),
  (.one (.one .map)),
  (.one (.one .agg)),
  (.one (.one .agg)),
  (.one (.one .agg)),
  (.one (.one .agg)),
  (.one (.one .fn)),
  (.one (.one .fn)),
  (.one (.one (.int .u32))),
  (.one (.one .fn)),
  (.one (.one .agg)),
  (.one (.one .agg)),
  (.one (.one .ptr)),
  (.one (.one .map)),
  (.one (.one .agg)),
  (.one (.one .agg)),
  (.one (.one .fn)),
  (.one (.flat [(.int .i64),(.int .i64),(.int .i64),(.int .u64),(.int .u64),(.int .i64)])),
  (.one (.flat [(.int .i64),(.int .i64),(.int .i64),(.int .u64),(.int .u64),(.int .i64)])),
  (.kj [(.flat [(.int .i64),(.int .i64),(.int .i64),(.int .u64),(.int .u64),(.int .i64)]),(.one (.int .u64)),(.one (.int .i64))]),
  (.one (.one .fn)),
  (.one (.one .fn)),
  (.one (.one .fn)),
  (.kj [(.flat [(.int .i64),(.int .i64),(.int .i64),(.int .u64),(.int .u64),(.int .i64)]),(.one (.int .u64)),(.one (.int .i64))]),
  (.one (.one .fn)),
  (.one (.one .fn)),
  (.kj [(.flat [(.int .i64),(.int .u64), .slice]),(.one (.int .i64))]),
  (.one (.one .fn)),
  (.one (.flat [.bool, .slice, .slice, .slice])),
  (.one (.flat [.bool, .slice, .slice, .slice])),
  (.kj [(.flat [.bool, .slice, .slice, .slice]),(.one .bool)]),
  (.one (.one .fn)),
  (.one (.one .ptr)),
  (.one (.one .fn)),
  (.one (.one .slice)),
  (.one (.flat [.slice, .slice])),
  (.one (.flat [.slice, .slice])),
  (.one (.one .ptr)),
  (.kj [(.one .ptr),(.one (.int .i64))]),
  (.one (.one .fn)),
  (.one (.flat [(.int .i64),(.int .i64),(.int .u64)])),
  (.one (.flat [(.int .i64),(.int .i64),(.int .u64)])),
  (.one (.one .fn)),
  (.one (.one .fn)),
  (.one (.one .slice)),
  (.kj [(.one .slice),(.one (.int .i64))]),
  (.one (.one .fn)),
  (.one (.one .agg)),
  (.one (.one .agg)),
  (.kj [(.one (.int .i64)),(.one .bool)]),
  (.one (.one .fn)),
  (.one (.one .fn)),
  (.one (.one .fn)),
  (.one (.flat [.ptr, .ptr,(.int .u64),(.int .i64),(.int .i64)])),
  (.one (.flat [.ptr, .ptr,(.int .u64),(.int .i64),(.int .i64)])),
  (.one (.one .fn)),
  (.one (.one .fn)),
  (.one (.one .fn)),
  (.kj [(.one .ptr),(.one (.int .i64))]),
  (.one (.one .fn)),
  (.kj [(.one .ptr),(.one (.int .i64))]),
  (.one (.one .fn)),
  (.one (.one .slice)),
  (.one (.flat [.ptr, .slice,(.int .i64)])),
  (.one (.flat [.ptr, .slice,(.int .i64)])),
  (.one (.one .fn)),
  (.one (.one .fn)),
  (.one (.one .fn)),
  (.one (.one .fn)),
  (.one (.one .ptr)),
  (.one (.one .fn)),
  (.one (.flat [.bool, .bool, .bool,(.int .i64),(.int .i64), .slice])),
  (.one (.flat [.bool, .bool, .bool,(.int .i64),(.int .i64), .slice])),
  (.one (.one .slice)),
  (.one (.flat [(.int .i64), .slice, .slice])),
  (.one (.flat [(.int .i64), .slice, .slice])),
  (.one (.one .fn)),
  (.kj [(.one .slice),(.one (.int .i64)),(.one (.int .i64))]),
  (.one (.one .fn)),
  (.one (.one .fn)),
  (.one (.one .ptr)),
  (.one (.one .fn)),
  (.one (.flat [(.int .i64),(.int .i64)])),
  (.one (.flat [(.int .i64),(.int .i64)])),
  (.one (.one .slice)),
  (.one (.one .fn)),
  (.one (.one .fn)),
  (.one (.one .fn)),
  (.one (.one .fn)),
  (.one (.one .fn)),
  (.one (.one .fn)),
  (.kj [(.one .slice),(.one (.int .i64))]),
  (.one (.one .fn)),
  (.one (.one .fn)),
  (.one (.one .fn)),
  (.one (.one (.int .u64))),
  (.one (.one .fn)),
  (.one (.one .fn)),
  (.one (.one .agg)),
  (.one (.one .fn)),
  (.one (.one .fn)),
  (.one (.one .fn)),
  (.kj [(.flat [.bool, .slice, .slice, .slice]),(.one (.int .i64))]),
  (.one (.one .fn)),
  (.one (.one .fn)),
  (.one (.one .fn)),
  (.one (.one .fn)),
  (.one (.one .fn)),
  (.one (.one .ptr)),
  (.one (.flat [.ptr, .slice, .slice])),
  (.one (.flat [.ptr, .slice, .slice])),
  (.kj [(.one (.int .i64)),(.one (.int .i64)),(.one (.int .i64))]),
  (.one (.one .fn)),
  (.one (.one .fn)),
  (.one (.one .fn)),
  (.one (.one .fn)),
  (.one (.one .fn)),
  (.one (.one .fn)),
  (.one (.one .fn)),
  (.one (.one .fn)),
  (.one (.one .ptr)),
  (.one (.flat [.ptr, .slice,(.int .i64)])),
  (.one (.flat [.ptr, .slice,(.int .i64)])),
  (.one (.one .fn)),
  (.one (.one .fn)),
  (.one (.one .fn)),
  (.kj [(.flat [(.int .i64),(.int .i64),(.int .i64),(.int .u64),(.int .u64),(.int .i64)]),(.one (.int .i64)),(.one (.int .u64)),(.one (.int .i64))]),
  (.one (.one .fn)),
  (.one (.one .fn)),
  (.kj [(.one .slice),(.one .bool)]),
  (.one (.one .fn)),
  (.one (.one .fn)),
  (.one (.one .fn)),
  (.one (.one .fn)),
  (.one (.one .fn)),
  (.one (.one .fn)),
  (.one (.one .agg)),
  (.one (.one .agg)),
  (.one (.one .fn)),
  (.one (.one .fn)),
  (.one (.one .fn)),
  (.one (.one .fn)),
  (.one (.one .fn)),
  (.one (.one .fn)),
  (.one (.one .ptr)),
  (.one (.one .slice)),
  (.kj [(.one .slice),(.one (.int .i64)),(.one (.int .i64)),(.one (.int .i64))]),
  (.one (.one .fn)),
  (.one (.one .fn)),
  (.one (.one .fn)),
  (.kj [(.one .slice),(.one (.int .i64))]),
  (.one (.one .fn)),
  (.one (.flat [.slice,(.int .i64)])),
  (.one (.flat [.slice,(.int .i64)])),
  (.one (.one .fn)),
  (.one (.one .fn)),
  (.one (.one .fn)),
  (.one (.one .ptr)),
  (.one (.flat [.slice,(.int .i64)])),
  (.one (.flat [.slice,(.int .i64)])),
  (.one (.one .fn)),
  (.one (.one .ptr)),
  (.one (.flat [.slice, .bool])),
  (.one (.flat [.slice, .bool])),
  (.one (.one .fn)),
  (.one (.one .fn)),
  (.kj [(.one (.int .u64)),(.one .bool)]),
  (.one (.one .fn)),
  (.one (.one .fn)),
  (.one (.one (.int .i64))),
  (.kj [(.one (.int .i64)),(.one (.int .i64))]),
  (.one (.one .fn)),
  (.one (.one .fn)),
  (.one (.one .fn)),
  (.one (.one .fn)),
  (.one (.one .fn)),
  (.one (.one .fn)),
  (.one (.one .fn)),
  (.one (.one .fn)),
  (.kj [(.one .ptr),(.one (.int .i64))]),
  (.one (.one .fn)),
  (.one (.one .fn)),
  (.one (.one .fn)),
  (.one (.one .fn)),
  (.one (.one .fn)),
  (.kj [(.one (.int .i64)),(.one (.int .i64))]),
  (.one (.one .fn)),
  (.one (.one .fn)),
  (.one (.one .fn)),
  (.one (.one .fn)),
  (.one (.one (.int .u64))),
  (.one (.one .fn)),
  (.one (.one .fn)),
  (.one (.one .fn)),
  (.one (.one .ptr)),
  (.one (.one .fn)),
  (.one (.one .fn)),
  (.one (.one .fn)),
  (.one (.one .fn)),
  (.one (.one .ptr)),
  (.one (.one .fn)),
  (.kj [(.flat [.bool, .slice, .slice, .slice]),(.one .slice),(.flat [.bool, .slice, .slice, .slice]),(.one .bool)]),
  (.one (.one .fn)),
  (.one (.one .fn)),
  (.one (.one .fn)),
  (.one (.flat [.ptr, .ptr, .ptr, .str])),
  (.one (.flat [.ptr, .ptr, .ptr, .str])),
  (.one (.one .agg)),
  (.one (.one .agg)),
  (.one (.one .agg)),
  (.one (.one (.int .u8))),
  (.one (.one (.int .u8))),
  (.one (.one .fn)),
  (.one (.one .ptr)),
  (.one (.one (.int .i32))),
  (.one (.one (.int .i32))),
  (.one (.one .agg)),
  (.one (.one .agg)),
  (.one (.one .fn)),
  (.one (.one .ptr))]
def aI:TypeId→jZ:=fun t=>auj.getD t (.one (.one .any))
theorem Xa:Tryz.prog.follows .mixedOrders=true:=by kernel_rfl
def ai (w:World):Addr:=⟨w.heap.size,0,none⟩
def aE (n:Int):Int:=IntKind.wrap .i64 n
def bc (n:Int) (k:Nat):Prop:=(0:Int)≤n∧n<((k:Nat):Int)
def aF (c:Bool) (A B:Prop):Prop:=(c=true→A)∧(c=false→B)
def yq:Int:=9223372036854775807
def st (w:World) (A:Addr) (v:Value) (K:World→Prop):Prop:=(∃u:Value,w.cell? A=some u)∧w.frozen? A=false∧az (w.setCell A v) fun ag=>K ag
def zD (w:World) (z:Obj) (l:List Value) (k:Nat) (K:World→Prop):Prop:=az (w.alloc z) fun ag=>cT ag (ai w) (Array.toList l.toArray)∧Array.size l.toArray=k∧az (setCells ag (ai w) 0 (Array.toList l.toArray)) fun aw=>K aw
def ON (s:ab) (n:Int) (w:World) (k:Nat) (K:List Value→Prop):Prop:=∃a:Addr,s.a=some a∧bc n s.len∧∃l:List Value,eH w (a.add (Int.toNat n*k)) 0 k=some l∧K l
def bm (f:Nat) (a:Array Value) (w:World) (K:World→Prop):Prop:=Calls Tryz.prog f a w fun e w'=>e= .returned (.tuple #[])∧K w'
def bj (f:Nat) (a:Array Value) (w:World) (K:Int→World→Prop):Prop:=Calls Tryz.prog f a w fun e w'=>∃dP:Int,e= .returned (.int .i64 dP)∧K dP w'
def bk (f:Nat) (a:Array Value) (w:World) (K:Bool→World→Prop):Prop:=Calls Tryz.prog f a w fun e w'=>∃dP:Bool,e= .returned (.bool dP)∧K dP w'
def gE (f:Nat) (a:Array Value) (w:World) (K:ab→Int→World→Prop):Prop:=Calls Tryz.prog f a w fun e w'=>∃dP:ab,∃eK:Int,e= .returned (.tuple #[.slice dP.a dP.len dP.cap, .int .i64 eK])∧K dP eK w'
def dQ (f:Nat) (a:Array Value) (w:World) (K:Int→Bool→World→Prop):Prop:=Calls Tryz.prog f a w fun e w'=>∃dP:Int,∃eK:Bool,e= .returned (.tuple #[.int .i64 dP, .bool eK])∧K dP eK w'
def fC (f:Nat) (a:Array Value) (w:World) (K:Bool→ab→ab→ab→Bool→World→Prop):Prop:=Calls Tryz.prog f a w fun e w'=>∃dP:Bool,∃eK:ab,∃hG:ab,∃mi:ab,∃zS:Bool,e= .returned (.tuple #[.agg #[.bool dP, .slice eK.a eK.len eK.cap, .slice hG.a hG.len hG.cap, .slice mi.a mi.len mi.cap], .bool zS])∧K dP eK hG mi zS w'
def IF (f:Nat) (a:Array Value) (w:World) (K:Bool→Int→World→Prop):Prop:=Calls Tryz.prog f a w fun e w'=>∃dP:Bool,∃eK:Int,e= .returned (.tuple #[.bool dP, .int .i64 eK])∧K dP eK w'
def dZ (f:Nat) (a:Array Value) (w:World) (K:ab→World→Prop):Prop:=Calls Tryz.prog f a w fun e w'=>∃dP:ab,e= .returned (.slice dP.a dP.len dP.cap)∧K dP w'
def xk (f:Nat) (a:Array Value) (w:World) (K:Option Addr→World→Prop):Prop:=Calls Tryz.prog f a w fun e w'=>∃dP:Option Addr,e= .returned (.pointer dP)∧K dP w'
def rK (f:Nat) (a:Array Value) (w:World) (K:Array Value→World→Prop):Prop:=Calls Tryz.prog f a w fun e w'=>∃dP:Array Value,e= .returned (.agg dP)∧K dP w'
def q7 (f:Nat) (a:Array Value) (w:World) (K:Bool→ab→ab→ab→Int→World→Prop):Prop:=Calls Tryz.prog f a w fun e w'=>∃dP:Bool,∃eK:ab,∃hG:ab,∃mi:ab,∃zS:Int,e= .returned (.tuple #[.agg #[.bool dP, .slice eK.a eK.len eK.cap, .slice hG.a hG.len hG.cap, .slice mi.a mi.len mi.cap], .int .i64 zS])∧K dP eK hG mi zS w'
def nq (f:Nat) (a:Array Value) (w:World) (K:Bool→ab→ab→ab→World→Prop):Prop:=Calls Tryz.prog f a w fun e w'=>∃dP:Bool,∃eK:ab,∃hG:ab,∃mi:ab,e= .returned (.agg #[.bool dP, .slice eK.a eK.len eK.cap, .slice hG.a hG.len hG.cap, .slice mi.a mi.len mi.cap])∧K dP eK hG mi w'
def oy (f:Nat) (a:Array Value) (w:World) (K:Int→Int→Int→World→Prop):Prop:=Calls Tryz.prog f a w fun e w'=>∃dP:Int,∃eK:Int,∃hG:Int,e= .returned (.tuple #[.int .i64 dP, .int .i64 eK, .int .i64 hG])∧K dP eK hG w'
def CF (f:Nat) (a:Array Value) (w:World) (K:Int→World→Prop):Prop:=Calls Tryz.prog f a w fun e w'=>∃dP:Int,e= .returned (.int .u32 dP)∧K dP w'
def J3 (f:Nat) (a:Array Value) (w:World) (K:Int→World→Prop):Prop:=Calls Tryz.prog f a w fun e w'=>∃dP:Int,e= .returned (.int .u64 dP)∧K dP w'
def E6 (f:Nat) (a:Array Value) (w:World) (K:ab→Bool→World→Prop):Prop:=Calls Tryz.prog f a w fun e w'=>∃dP:ab,∃eK:Bool,e= .returned (.tuple #[.slice dP.a dP.len dP.cap, .bool eK])∧K dP eK w'
def HX (f:Nat) (a:Array Value) (w:World) (K:Int→Int→ab→Int→World→Prop):Prop:=Calls Tryz.prog f a w fun e w'=>∃dP:Int,∃eK:Int,∃hG:ab,∃mi:Int,e= .returned (.tuple #[.agg #[.int .i64 dP, .int .u64 eK, .slice hG.a hG.len hG.cap], .int .i64 mi])∧K dP eK hG mi w'
def U5 (f:Nat) (a:Array Value) (w:World) (K:ab→Int→Int→Int→World→Prop):Prop:=Calls Tryz.prog f a w fun e w'=>∃dP:ab,∃eK:Int,∃hG:Int,∃mi:Int,e= .returned (.tuple #[.slice dP.a dP.len dP.cap, .int .i64 eK, .int .i64 hG, .int .i64 mi])∧K dP eK hG mi w'
def N3 (f:Nat) (a:Array Value) (w:World) (K:Int→Bool→World→Prop):Prop:=Calls Tryz.prog f a w fun e w'=>∃dP:Int,∃eK:Bool,e= .returned (.tuple #[.int .u64 dP, .bool eK])∧K dP eK w'
def AV (f:Nat) (a:Array Value) (w:World) (K:Option Addr→Int→World→Prop):Prop:=Calls Tryz.prog f a w fun e w'=>∃dP:Option Addr,∃eK:Int,e= .returned (.tuple #[.pointer dP, .int .i64 eK])∧K dP eK w'
def th (f:Nat) (a:Array Value) (w:World) (K:Int→Int→World→Prop):Prop:=Calls Tryz.prog f a w fun e w'=>∃dP:Int,∃eK:Int,e= .returned (.tuple #[.int .i64 dP, .int .i64 eK])∧K dP eK w'
def aaU (f:Nat) (a:Array Value) (w:World) (K:Bool→ab→ab→ab→ab→Bool→ab→ab→ab→Bool→World→Prop):Prop:=Calls Tryz.prog f a w fun e w'=>∃dP:Bool,∃eK:ab,∃hG:ab,∃mi:ab,∃zS:ab,∃afT:Bool,∃Q7:ab,∃Q8:ab,∃Q9:ab,∃afU:Bool,e= .returned (.tuple #[.agg #[.bool dP, .slice eK.a eK.len eK.cap, .slice hG.a hG.len hG.cap, .slice mi.a mi.len mi.cap], .slice zS.a zS.len zS.cap, .agg #[.bool afT, .slice Q7.a Q7.len Q7.cap, .slice Q8.a Q8.len Q8.cap, .slice Q9.a Q9.len Q9.cap], .bool afU])∧K dP eK hG mi zS afT Q7 Q8 Q9 afU w'
def DY (f:Nat) (a:Array Value) (w:World) (K:Option Addr→Bool→World→Prop):Prop:=Calls Tryz.prog f a w fun e w'=>∃dP:Option Addr,∃eK:Bool,e= .returned (.tuple #[.pointer dP, .bool eK])∧K dP eK w'
def tc (f:Nat) (a:Array Value) (w:World) (K:Int→ab→ab→Int→World→Prop):Prop:=Calls Tryz.prog f a w fun e w'=>∃dP:Int,∃eK:ab,∃hG:ab,∃mi:Int,e= .returned (.agg #[.int .i64 dP, .slice eK.a eK.len eK.cap, .slice hG.a hG.len hG.cap, .int .i64 mi])∧K dP eK hG mi w'
def Qc (f:Nat) (a:Array Value) (w:World) (K:ab→Bool→Int→World→Prop):Prop:=Calls Tryz.prog f a w fun e w'=>∃dP:ab,∃eK:Bool,∃hG:Int,e= .returned (.tuple #[.slice dP.a dP.len dP.cap, .bool eK, .int .i64 hG])∧K dP eK hG w'
def ar (w:World) (A:Addr) (K:ab→Prop):Prop:=∃x:ab,w.cell? A=some (.slice x.a x.len x.cap)∧K x
def bD (w:World) (A:Addr) (K:Int→Prop):Prop:=∃x:Int,w.cell? A=some (.int .i64 x)∧K x
def bR (w:World) (A:Addr) (K:Bool→Prop):Prop:=∃x:Bool,w.cell? A=some (.bool x)∧K x
def iC (w:World) (A:Addr) (K:Int→Prop):Prop:=∃x:Int,w.cell? A=some (.int .u8 x)∧K x
def kJ (w:World) (A:Addr) (K:Int→Prop):Prop:=∃x:Int,w.cell? A=some (.int .u64 x)∧K x
def dA:Obj:= .cells #[.bool false, .slice none 0 0, .slice none 0 0, .slice none 0 0] ah.cR
def pR:Obj:= .cells #[.int .u8 0, .int .u8 0, .int .u8 0, .int .u8 0, .int .u8 0, .int .u8 0, .int .u8 0, .int .u8 0, .int .u8 0, .int .u8 0, .int .u8 0, .int .u8 0, .int .u8 0, .int .u8 0, .int .u8 0, .int .u8 0, .int .u8 0, .int .u8 0, .int .u8 0, .int .u8 0, .int .u8 0, .int .u8 0, .int .u8 0, .int .u8 0, .int .u8 0, .int .u8 0, .int .u8 0, .int .u8 0, .int .u8 0, .int .u8 0, .int .u8 0, .int .u8 0, .int .u8 0, .int .u8 0, .int .u8 0, .int .u8 0, .int .u8 0, .int .u8 0, .int .u8 0, .int .u8 0, .int .u8 0, .int .u8 0, .int .u8 0, .int .u8 0, .int .u8 0, .int .u8 0, .int .u8 0, .int .u8 0, .int .u8 0, .int .u8 0, .int .u8 0, .int .u8 0, .int .u8 0, .int .u8 0, .int .u8 0, .int .u8 0, .int .u8 0, .int .u8 0, .int .u8 0, .int .u8 0, .int .u8 0, .int .u8 0, .int .u8 0, .int .u8 0, .int .u8 0, .int .u8 0, .int .u8 0, .int .u8 0, .int .u8 0, .int .u8 0, .int .u8 0, .int .u8 0, .int .u8 0, .int .u8 0, .int .u8 0, .int .u8 0, .int .u8 0, .int .u8 0, .int .u8 0, .int .u8 0, .int .u8 0, .int .u8 0, .int .u8 0, .int .u8 0, .int .u8 0, .int .u8 0, .int .u8 0, .int .u8 0, .int .u8 0, .int .u8 0, .int .u8 0, .int .u8 0, .int .u8 0, .int .u8 0, .int .u8 0, .int .u8 0, .int .u8 0, .int .u8 0, .int .u8 0, .int .u8 0, .int .u8 0, .int .u8 0, .int .u8 0, .int .u8 0, .int .u8 0, .int .u8 0, .int .u8 0, .int .u8 0, .int .u8 0, .int .u8 0, .int .u8 0, .int .u8 0, .int .u8 0, .int .u8 0, .int .u8 0, .int .u8 0, .int .u8 0, .int .u8 0, .int .u8 0, .int .u8 0, .int .u8 0, .int .u8 0, .int .u8 0, .int .u8 0, .int .u8 0, .int .u8 0, .int .u8 0, .int .u8 0, .int .u8 0, .int .u8 0, .int .u8 0, .int .u8 0, .int .u8 0, .int .u8 0, .int .u8 0, .int .u8 0, .int .u8 0, .int .u8 0, .int .u8 0, .int .u8 0, .int .u8 0, .int .u8 0, .int .u8 0, .int .u8 0, .int .u8 0, .int .u8 0, .int .u8 0, .int .u8 0, .int .u8 0, .int .u8 0, .int .u8 0, .int .u8 0, .int .u8 0, .int .u8 0, .int .u8 0, .int .u8 0, .int .u8 0, .int .u8 0, .int .u8 0, .int .u8 0, .int .u8 0, .int .u8 0, .int .u8 0, .int .u8 0, .int .u8 0, .int .u8 0, .int .u8 0, .int .u8 0, .int .u8 0, .int .u8 0, .int .u8 0, .int .u8 0, .int .u8 0, .int .u8 0, .int .u8 0, .int .u8 0, .int .u8 0, .int .u8 0, .int .u8 0, .int .u8 0, .int .u8 0, .int .u8 0, .int .u8 0, .int .u8 0, .int .u8 0, .int .u8 0, .int .u8 0, .int .u8 0, .int .u8 0, .int .u8 0, .int .u8 0, .int .u8 0, .int .u8 0, .int .u8 0, .int .u8 0, .int .u8 0, .int .u8 0, .int .u8 0, .int .u8 0, .int .u8 0, .int .u8 0, .int .u8 0, .int .u8 0, .int .u8 0, .int .u8 0, .int .u8 0, .int .u8 0, .int .u8 0, .int .u8 0, .int .u8 0, .int .u8 0, .int .u8 0, .int .u8 0, .int .u8 0, .int .u8 0, .int .u8 0, .int .u8 0, .int .u8 0, .int .u8 0, .int .u8 0, .int .u8 0, .int .u8 0, .int .u8 0, .int .u8 0, .int .u8 0, .int .u8 0, .int .u8 0, .int .u8 0, .int .u8 0, .int .u8 0, .int .u8 0, .int .u8 0, .int .u8 0, .int .u8 0, .int .u8 0, .int .u8 0, .int .u8 0, .int .u8 0, .int .u8 0, .int .u8 0, .int .u8 0, .int .u8 0, .int .u8 0, .int .u8 0, .int .u8 0, .int .u8 0, .int .u8 0, .int .u8 0, .int .u8 0, .int .u8 0, .int .u8 0, .int .u8 0, .int .u8 0, .int .u8 0, .int .u8 0, .int .u8 0] ah.oA
def z3:Obj:= .cells #[.int .i64 0, .int .u64 0, .slice none 0 0] ah.J2
def z4:Obj:= .cells #[.slice none 0 0, .int .i64 0] ah.vC
def z5:Obj:= .cells #[.int .i64 0, .slice none 0 0, .slice none 0 0, .int .i64 0] ah.vU
def VY:Obj:= .cells #[.int .u8 97] ah.uint8
def a7:bL:=(.s .r (.c (.s .r .l) .l))
def kk:bL:=(.s .r (.s (.c .l .l) (.s (.c1 (.s .r a7)) .r)))
def tD:bL:=(.s .r (.s (.s .r (.c1 (.loop [(8,(.int .i64))] [0,1,7] kk))) (.s .r .l)))
def iS:bL:=(.s .r (.s a7 (.s .r .l)))
def kU:bL:=(.s a7 (.s .r (.s .r .l)))
def mj:bL:=(.s .r (.c (.s .r .l) a7))
def nh:bL:=(.s (.gB [.run, .run, .run, .run, .split 5]) (.c (.s .r .l) .l))
def cQ:bL:=(.s .r (.s (.c .l .l) (.s (.c1 (.s .r .r)) .r)))
def a3:bL:=(.s (.gB [.run, .run, .run, .pure 2]) .l)
def a4:bL:=(.s .r (.s .r (.s .r .l)))
def a5:bL:=(.s (.s (.gB [.run, .run, .run, .run, .run, .pure 2]) (.c .l .l)) (.s (.c1 (.s .r nh)) .r))
def iI:bL:=(.s .r (.s (.gB [.run, .run, .run, .run, .pure 3]) .l))
def lG:bL:=(.s .r (.s (.gB [.run, .run, .run, .pure 2, .run, .run, .run, .split 7]) .l))
def iw:bL:=(.c (.s .r (.s .r .l)) .l)
def a9:bL:=(.s (.gB [.run, .run, .run, .split 3]) (.c (.s .r .l) .l))
def g0:bL:=(.s (.gB [.run, .run, .run, .pure 3]) (.c (.s .r .l) .l))
def kD:bL:=(.s (.gB [.run, .run, .run, .pure 2]) (.c (.s .r .l) .l))
theorem okF {f:Nat} {fn:Func} (A:bL) {args:List Value} {w:World} {Q:Value→World→Prop} {p:Prop} (aA:Tryz.prog.funcs[f]? =some fn) (U:GM fn args.length=true) (ad:p=Jm Tryz.prog aI A fn args w Q) (h:p):aP Tryz.prog f args.toArray w Q:=atW Xa aA U (Eq.mp ad h)
def Kq (pY:World) (dI:World) (aw:World) (C7:Bool) (Q:Value→World→Prop):Prop:=ar pY (Addr.add (ai dI) 1) fun gq=>ar pY (Addr.add (ai dI) 2) fun rL=>ar pY (Addr.add (ai dI) 3) fun k2=>cT pY (ai aw)
 [.bool C7, .slice gq.a gq.len gq.cap, .slice rL.a rL.len rL.cap, .slice k2.a k2.len k2.cap]∧(4:Nat)=4∧az (setCells pY (ai aw) 0 [.bool C7, .slice gq.a gq.len gq.cap, .slice rL.a rL.len rL.cap, .slice k2.a
 k2.len k2.cap]) fun o4=>bR o4 (ai aw) fun OE=>ar o4 (Addr.add (ai aw) 1) fun yW=>ar o4 (Addr.add (ai aw) 2) fun jt=>ar o4 (Addr.add (ai aw) 3) fun ju=>Q (.tuple #[.agg #[.bool OE, .slice yW.a yW.len
 yW.cap, .slice jt.a jt.len jt.cap, .slice ju.a ju.len ju.cap], .bool true]) o4
def Kp (k1:World) (aw:World) (Q:Value→World→Prop) (HF:Bool):Prop:=ar k1 (Addr.add (ai aw) 1) fun q3=>ar k1 (Addr.add (ai aw) 2) fun yV=>ar k1 (Addr.add (ai aw) 3) fun js=>Q (.tuple #[.agg #[.bool HF, .slice
 q3.a q3.len q3.cap, .slice yV.a yV.len yV.cap, .slice js.a js.len js.cap], .bool false]) k1
def OJ (jK:ab) (gz:World) (s5:World) (dI:World) (yS:World→Prop):Prop:=∃hM:ab,∃o3:World,Sem.run Tryz.prog (Builtin.append_ #[ah.cJ,ah.cJ] ah.cJ #[.slice jK.a jK.len jK.cap,
 .slice (some (ai gz)) 1 1]) s5= .ok (.slice hM.a hM.len hM.cap) o3∧st o3 (Addr.add (ai dI) 1) (.slice hM.a hM.len hM.cap) fun nt=>yS nt
def c2 (lu:World) (dI:World) (uQ:Bool) (iZ:ab) (g9:ab) (qd:ab) (sD:World) (wg:Bool) (gM:ab) (qF:ab) (ih:ab) (w:World) (key:ab) (aw:World) (Q:Value→World→Prop):Prop:=cT lu (ai dI)
 [.bool uQ, .slice iZ.a iZ.len iZ.cap, .slice g9.a g9.len g9.cap, .slice qd.a qd.len qd.cap]∧(4:Nat)=4∧az (setCells lu (ai dI) 0 [.bool uQ, .slice iZ.a iZ.len iZ.cap, .slice g9.a g9.len g9.cap, .slice qd.a qd.len
 qd.cap]) fun fo=>cT fo (ai sD) [.bool wg, .slice gM.a gM.len gM.cap, .slice qF.a qF.len qF.cap, .slice ih.a ih.len ih.cap]∧(4:Nat)=4∧az (setCells fo (ai sD) 0 [.bool wg, .slice gM.a gM.len gM.cap, .slice
 qF.a qF.len qF.cap, .slice ih.a ih.len ih.cap]) fun yR=>de (fun yS:World→Prop=>bR yR (ai w) fun yT=>aF (!yT) (az (yR.drew) fun q2=>∃Fq:Nat→Prop,¬Fq (Addr.add (ai dI) 1).block∧ar q2 (Addr.add (ai dI) 1)
 fun jK=>dZ F.mo #[.slice key.a key.len key.cap] q2 fun ow gz=>ao Fq q2 gz∧az (gz.alloc (.cells #[.slice ow.a ow.len ow.cap] ah.cc)) fun s5=>ao Fq gz s5∧OJ jK gz s5 dI yS) (yS
 yR)) (fun s6=>ar s6 (Addr.add (ai dI) 1) fun gn=>ar s6 (Addr.add (ai sD) 1) fun fI=>∃gp:ab,∃gY:World,Sem.run Tryz.prog (Builtin.append_ #[ah.cJ,ah.cJ] ah.cJ #[.slice gn.a gn.len gn.cap,
 .slice fI.a fI.len fI.cap]) s6= .ok (.slice gp.a gp.len gp.cap) gY∧st gY (Addr.add (ai dI) 1) (.slice gp.a gp.len gp.cap) fun lE=>ar lE (Addr.add (ai dI) 2) fun jq=>ar lE (Addr.add (ai sD) 2) fun l4=>∃mZ:ab,
 ∃vp:World,Sem.run Tryz.prog (Builtin.append_ #[ah.cJ,ah.cJ] ah.cJ #[.slice jq.a jq.len jq.cap, .slice l4.a l4.len l4.cap]) lE= .ok (.slice mZ.a mZ.len mZ.cap) vp∧st vp (Addr.add (ai dI) 2)
 (.slice mZ.a mZ.len mZ.cap) fun ss=>ar ss (Addr.add (ai dI) 3) fun kx=>ar ss (Addr.add (ai sD) 3) fun pX=>∃nu:ab,∃s7:World,Sem.run Tryz.prog (Builtin.append_ #[ah.eY,ah.eY] ah.eY #[.slice kx.a kx.len
 kx.cap, .slice pX.a pX.len pX.cap]) ss= .ok (.slice nu.a nu.len nu.cap) s7∧st s7 (Addr.add (ai dI) 3) (.slice nu.a nu.len nu.cap) fun w6=>bR w6 (ai dI) fun OD=>ar w6 (Addr.add (ai dI) 1) fun yU=>ar w6
 (Addr.add (ai dI) 2) fun iX=>ar w6 (Addr.add (ai dI) 3) fun jr=>bk F.nP #[.agg #[.bool OD, .slice yU.a yU.len yU.cap, .slice iX.a iX.len iX.cap, .slice jr.a jr.len jr.cap]] w6 fun Fs pY=>aF (!Fs) (cT
 pY (ai aw) [.bool false, .slice none 0 0, .slice none 0 0, .slice none 0 0]∧(4:Nat)=4∧az (setCells pY (ai aw) 0 [.bool false, .slice none 0 0, .slice none 0 0, .slice none 0 0]) fun k1=>bR k1 (ai aw) fun HF=>Kp k1 aw Q
 HF) (bR pY (ai dI) fun C7=>Kq pY dI aw C7 Q))
def Lm (dR:World) (cZ:World) (zT:Bool) (kl:ab) (fH:ab) (dd:ab) (Q_:World→Prop):Prop:=cT dR (ai cZ) [.bool zT, .slice kl.a kl.len kl.cap, .slice fH.a fH.len fH.cap, .slice dd.a dd.len dd.cap]∧(4
 :Nat)=4∧az (setCells dR (ai cZ) 0 [.bool zT, .slice kl.a kl.len kl.cap, .slice fH.a fH.len fH.cap, .slice dd.a dd.len dd.cap]) fun fA=>Q_ fA
def Ps (qt:World) (jL:World) (vG:Bool) (ki:ab) (mf:ab) (mg:ab) (xy:Bool) (Q:Value→World→Prop) (c:Option Addr) (n31:Int):Prop:=cT qt (ai jL) [.bool vG, .slice ki.a ki.len ki.cap,
 .slice mf.a mf.len mf.cap, .slice mg.a mg.len mg.cap]∧(4:Nat)=4∧az (setCells qt (ai jL) 0 [.bool vG, .slice ki.a ki.len ki.cap, .slice mf.a mf.len mf.cap, .slice mg.a mg.len mg.cap]) fun mh=>
 aF (!xy) (Q (.tuple #[.slice none 0 0, .int .i64 0, .int .i64 0, .int .i64 4]) mh) (bR mh (ai jL) fun FU=>ar mh (Addr.add (ai jL) 1) fun o_=>ar mh (Addr.add (ai jL) 2) fun pz=>ar mh (Addr.add (ai jL) 3) fun
 q9=>gE F.sx #[.pointer c, .agg #[.bool FU, .slice o_.a o_.len o_.cap, .slice pz.a pz.len pz.cap, .slice q9.a q9.len q9.cap]] mh fun q_ FV Le=>Q (.tuple #[.slice q_.a q_.len q_.cap, .int
 .i64 n31, .int .i64 (aE (n31+2)), .int .i64 FV]) Le)
def df (lE:World) (dg:World) (uG:Bool) (hM:ab) (gZ:ab) (ig:ab) (oM:Nat→Prop) (gY:World) (uH:Bool) (gn:ab) (fI:ab) (gp:ab) (up:Option Addr) (n36:Int) (w:World) (dI:World) (n31:Int) (Q:Value
 →World→Prop) (c:Option Addr):Prop:=cT lE (ai dg) [.bool uG, .slice hM.a hM.len hM.cap, .slice gZ.a gZ.len gZ.cap, .slice ig.a ig.len ig.cap]∧(4:Nat)=4∧az (setCells lE (ai dg) 0 [.bool uG, .slice hM.a
 hM.len hM.cap, .slice gZ.a gZ.len gZ.cap, .slice ig.a ig.len ig.cap]) fun xB=>ao oM lE xB∧cT xB (ai gY) [.bool uH, .slice gn.a gn.len gn.cap, .slice fI.a fI.len fI.cap, .slice gp.a gp.len gp.cap]∧(4:
 Nat)=4∧az (setCells xB (ai gY) 0 [.bool uH, .slice gn.a gn.len gn.cap, .slice fI.a fI.len fI.cap, .slice gp.a gp.len gp.cap]) fun lj=>de (fun DQ:World→Prop=>∃DR:Addr,up=some DR∧bD lj (DR.add 5) fun vF
 =>aF (decide (n36>vF)) (az (lj.drew) fun ie=>∃xv:Nat→Prop,¬xv ((ai w):Addr).block∧bR ie (ai w) fun q0=>ar ie (Addr.add (ai w) 1) fun iW=>ar ie (Addr.add (ai w) 2) fun g5=>ar ie (Addr.add (ai w) 3) fun g6
 =>¬xv ((ai dI):Addr).block∧bR ie (ai dI) fun Bc=>ar ie (Addr.add (ai dI) 1) fun iX=>ar ie (Addr.add (ai dI) 2) fun jr=>ar ie (Addr.add (ai dI) 3) fun ir=>cT ie (ai dg) [.bool q0, .slice iW.a iW.len
 iW.cap, .slice g5.a g5.len g5.cap, .slice g6.a g6.len g6.cap]∧(4:Nat)=4∧az (setCells ie (ai dg) 0 [.bool q0, .slice iW.a iW.len iW.cap, .slice g5.a g5.len g5.cap, .slice g6.a g6.len g6.cap]) fun oL=>ao xv ie
 oL∧Lm oL gY Bc iX jr ir DQ) (DQ lj)) (fun k1=>az (k1.drew) fun fS=>∃mO:Nat→Prop,¬mO ((ai dg):Addr).block∧bR fS (ai dg) fun rQ=>ar fS (Addr.add (ai dg) 1) fun js=>ar fS (Addr.add (ai dg) 2) fun
 jy=>ar fS (Addr.add (ai dg) 3) fun gq=>∃xw:Addr,up=some xw∧¬mO ((xw.add 1).add 1).block∧ar fS ((xw.add 1).add 1) fun k2=>∃xx:Addr,k2.a=some xx∧bc n31 k2.len∧¬mO (xx.add (Int.toNat n31*
 1)).block∧ar fS (xx.add (Int.toNat n31*1)) fun mP=>¬mO ((ai gY):Addr).block∧bR fS (ai gY) fun zh=>ar fS (Addr.add (ai gY) 1) fun jt=>ar fS (Addr.add (ai gY) 2) fun ju=>ar fS (Addr.add (ai gY) 3) fun
 mQ=>(fC F.qn #[.agg #[.bool rQ, .slice js.a js.len js.cap, .slice jy.a jy.len jy.cap, .slice gq.a gq.len gq.cap], .slice mP.a mP.len mP.cap, .agg #[.bool zh, .slice jt.a jt.len jt.cap, .slice ju.a
 ju.len ju.cap, .slice mQ.a mQ.len mQ.cap]] fS fun vG ki mf mg xy jL=>ao mO fS jL∧az (jL.alloc dA) fun qt=>ao mO jL qt∧Ps qt jL vG ki mf mg xy Q c n31)∧(az (fS.alloc dA) fun
 vH=>ao mO fS vH∧fC F.qn #[.agg #[.bool rQ, .slice js.a js.len js.cap, .slice jy.a jy.len jy.cap, .slice gq.a gq.len gq.cap], .slice mP.a mP.len mP.cap, .agg #[.bool zh, .slice jt.a jt.len jt.cap,
 .slice ju.a ju.len ju.cap, .slice mQ.a mQ.len mQ.cap]] vH fun Bd nC pb pc Be xz=>ao mO vH xz∧Ps xz fS Bd nC pb pc Be Q c n31))
def dp (zU:World) (fu:World) (ag:World) (Q:Value→World→Prop):Prop:=bR zU (ai fu) fun wg=>Kq zU fu ag wg Q
def Ov (my:World) (b3:World) (ag:World) (ti:Bool) (Q:Value→World→Prop):Prop:=ar my (Addr.add (ai b3) 1) fun lK=>ar my (Addr.add (ai b3) 2) fun rP=>ar my (Addr.add (ai b3) 3) fun im=>cT my (ai ag)
 [.bool ti, .slice lK.a lK.len lK.cap, .slice rP.a rP.len rP.cap, .slice im.a im.len im.cap]∧(4:Nat)=4∧az (setCells my (ai ag) 0 [.bool ti, .slice lK.a lK.len lK.cap, .slice rP.a rP.len rP.cap, .slice im.a im.len
 im.cap]) fun k4=>bR k4 (ai ag) fun yT=>ar k4 (Addr.add (ai ag) 1) fun iq=>ar k4 (Addr.add (ai ag) 2) fun e7=>ar k4 (Addr.add (ai ag) 3) fun jK=>Q (.agg #[.bool yT, .slice iq.a iq.len iq.cap, .slice e7.a e7.len
 e7.cap, .slice jK.a jK.len jK.cap]) k4
def oI (ep:World) (b3:World) (oy:Array Value) (l:ab) (w:World) (to:Int) (ag:World) (Q:Value→World→Prop):Prop:=cT ep (ai b3) (Array.toList oy)∧Array.size oy=4∧az (setCells ep (ai b3) 0
 (Array.toList oy)) fun cZ=>∃ (FO:Int→World→Prop) (La:Int→World→Nat),FO 0 cZ∧∀ (n19:Int) (cC:World),FO n19 cC→aF (decide (n19<(l.len:Int))) (∃kz:Addr,l.a=some kz∧bc n19 l.len∧ar cC (kz.add
 (Int.toNat n19*2)) fun f_=>bD cC ((kz.add (Int.toNat n19*2)).add 1) fun n23=>az (cC.alloc z4) fun cI=>cT cI (ai cC) [.slice f_.a f_.len f_.cap, .int .i64 n23]∧(2:Nat)=2∧az (setCells cI (ai cC) 0 [.slice
 f_.a f_.len f_.cap, .int .i64 n23]) fun fM=>de (fun DK:World→Prop=>ar fM (ai cC) fun dd=>aF (!(Option.isNone dd.a)) (ar fM (Addr.add (ai b3) 1) fun e9=>ar fM (ai cC) fun iQ=>az (fM.alloc (.cells #[.slice iQ.a
 iQ.len iQ.cap] ah.cc)) fun fN=>OJ e9 fM fN b3 DK) (DK fM)) (fun eO=>ar eO (Addr.add (ai b3) 3) fun ga=>bD eO (Addr.add (ai cC) 1) fun n36=>az (eO.alloc (.cells #[.int .i64 n36] ah.int)) fun lr=>∃eE:ab,
 ∃mx:World,Sem.run Tryz.prog (Builtin.append_ #[ah.eY,ah.eY] ah.eY #[.slice ga.a ga.len ga.cap, .slice (some (ai eO)) 1 1]) lr= .ok (.slice eE.a eE.len eE.cap) mx∧st mx (Addr.add (ai b3) 3) (.slice eE.a
 eE.len eE.cap) fun ux=>FO (aE (n19+1)) ux∧La (aE (n19+1)) ux<La n19 cC)) (az (cC.drew) fun ek=>¬False∧ar ek (Addr.add (ai b3) 1) fun m7=>¬False∧ar ek (Addr.add (ai w) 1) fun hW=>((0:Int)≤(aE (to-
 1))∧(aE (to-1))≤(hW.len:Int))∧∃iZ:ab,∃jW:World,Sem.run Tryz.prog (Builtin.append_ #[ah.cJ,ah.cJ] ah.cJ #[.slice m7.a m7.len m7.cap, .slice (bh hW.a 1 (Int.toNat (aE (to-1))) hW.cap)
 (hW.len-(Int.toNat (aE (to-1)))) (hW.cap-(Int.toNat (aE (to-1))))]) ek= .ok (.slice iZ.a iZ.len iZ.cap) jW∧st jW (Addr.add (ai b3) 1) (.slice iZ.a iZ.len iZ.cap) fun hF=>az (hF.drew) fun dI=>¬False∧ar dI
 (Addr.add (ai b3) 3) fun nB=>¬False∧ar dI (Addr.add (ai w) 3) fun hO=>((0:Int)≤to∧to≤(hO.len:Int))∧∃gM:ab,∃me:World,Sem.run Tryz.prog (Builtin.append_ #[ah.eY,ah.eY] ah.eY #[.slice nB.a nB.len
 nB.cap, .slice (bh hO.a 1 (Int.toNat to) hO.cap) (hO.len-(Int.toNat to)) (hO.cap-(Int.toNat to))]) dI= .ok (.slice gM.a gM.len gM.cap) me∧st me (Addr.add (ai b3) 3) (.slice gM.a gM.len gM.cap) fun my=>bR my (ai
 b3) fun ti=>Ov my b3 ag ti Q)
def yQ (Ra:Array Value) (lu:World) (Cc:Nat→Prop) (Rb:Array Value) (ag:World) (aw:World) (Q:Value→World→Prop) (ih:ab):Prop:=nq F.fO #[.agg Ra] lu fun afV gZ ig pH ph=>ao Cc lu ph∧nq
 F.fO #[.agg Rb] ph fun afW zV rm jq nr=>ao Cc ph nr∧cT nr (ai ag) [.bool afV, .slice gZ.a gZ.len gZ.cap, .slice ig.a ig.len ig.cap, .slice pH.a pH.len pH.cap]∧(4:Nat)=4∧az (setCells nr (ai ag) 0
 [.bool afV, .slice gZ.a gZ.len gZ.cap, .slice ig.a ig.len ig.cap, .slice pH.a pH.len pH.cap]) fun lj=>ao Cc nr lj∧cT lj (ai aw) [.bool afW, .slice zV.a zV.len zV.cap, .slice rm.a rm.len rm.cap, .slice jq.a
 jq.len jq.cap]∧(4:Nat)=4∧az (setCells lj (ai aw) 0 [.bool afW, .slice zV.a zV.len zV.cap, .slice rm.a rm.len rm.cap, .slice jq.a jq.len jq.cap]) fun jI=>bR jI (ai ag) fun OB=>ar jI (Addr.add (ai ag) 1) fun qm=>
 ar jI (Addr.add (ai ag) 2) fun kx=>ar jI (Addr.add (ai ag) 3) fun pX=>bR jI (ai aw) fun q0=>ar jI (Addr.add (ai aw) 1) fun iW=>ar jI (Addr.add (ai aw) 2) fun g5=>ar jI (Addr.add (ai aw) 3) fun g6=>Q (.tuple #[.agg
 #[.bool OB, .slice qm.a qm.len qm.cap, .slice kx.a kx.len kx.cap, .slice pX.a pX.len pX.cap], .slice ih.a ih.len ih.cap, .agg #[.bool q0, .slice iW.a iW.len iW.cap, .slice g5.a g5.len g5.cap, .slice g6.a g6.len
 g6.cap], .bool true]) jI
def sq (cF:World) (ag:World) (Q:Value→World→Prop):Prop:=bR cF (ai ag) fun IN=>Kp cF ag Q IN
def Y8 (lv:World) (aS:World) (ag:World) (Q:Value→World→Prop):Prop:=bR lv (ai aS) fun Xb=>Ov lv aS ag Xb Q
def P8 (ni:Nat→Prop) (cI:World) (cv:World) (ec:ab) (kl:ab) (fX:ab) (bw:Int) (m:Option Addr) (Q:Value→World→Prop):Prop:=ao ni cI cv∧∃dd:ab,∃fA:World,Sem.run Tryz.prog (Builtin.append_
 #[ah.e2,ah.e2] ah.e2 #[.slice ec.a ec.len ec.cap, .slice kl.a kl.len kl.cap]) cv= .ok (.slice dd.a dd.len dd.cap) fA∧ao ni cv fA∧∃iQ:ab,∃fN:World,Sem.run Tryz.prog (Builtin.append_
 #[ah.e2,ah.e2] ah.e2 #[.slice dd.a dd.len dd.cap, .slice (bh fX.a 2 (Int.toNat (aE (bw+1))) fX.cap) (fX.len-(Int.toNat (aE (bw+1)))) (fX.cap-(Int.toNat (aE (bw+1))))]) fA= .ok (.slice iQ.a
 iQ.len iQ.cap) fN∧ao ni fA fN∧∃n2:Addr,m=some n2∧(∃u:Value,fN.cell? n2=some u)∧fN.frozen? n2=false∧az (fN.setCell n2 (.slice iQ.a iQ.len iQ.cap)) fun m6=>Q (.tuple #[]) m6
def P9 (pI:Nat→Prop) (zv:World) (nt:World) (r4:ab) (gZ:ab) (nc:ab) (bw:Int) (m:Option Addr) (Q:Value→World→Prop):Prop:=ao pI zv nt∧∃pH:ab,∃nr:World,Sem.run Tryz.prog (Builtin.append_
 #[ah.e2,ah.e2] ah.e2 #[.slice r4.a r4.len r4.cap, .slice gZ.a gZ.len gZ.cap]) nt= .ok (.slice pH.a pH.len pH.cap) nr∧ao pI nt nr∧∃fI:ab,∃tp:World,Sem.run Tryz.prog (Builtin.append_
 #[ah.e2,ah.e2] ah.e2 #[.slice pH.a pH.len pH.cap, .slice (bh nc.a 2 (Int.toNat bw) nc.cap) (nc.len-(Int.toNat bw)) (nc.cap-(Int.toNat bw))]) nr= .ok (.slice fI.a fI.len fI.cap) tp∧ao pI nr
 tp∧∃Rc:Addr,m=some Rc∧(∃u:Value,tp.cell? Rc=some u)∧tp.frozen? Rc=false∧az (tp.setCell Rc (.slice fI.a fI.len fI.cap)) fun lE=>Q (.tuple #[]) lE
def O0 (cd:World) (w:World) (Q:Value→World→Prop) (n7:Int):Prop:=bR cd (ai w) fun jB=>ar cd (Addr.add (ai w) 1) fun fW=>ar cd (Addr.add (ai w) 2) fun d_=>ar cd (Addr.add (ai w) 3) fun ft=>Q (.tuple #[.agg #[.bool
 jB, .slice fW.a fW.len fW.cap, .slice d_.a d_.len d_.cap, .slice ft.a ft.len ft.cap], .int .i64 n7]) cd
def Y6 (dw:ab) (n17:Int) (e6:World) (aS:World) (uR:Int→World→Prop) (zW:Int→World→Nat):Prop:=∃tE:Addr,dw.a=some tE∧bc n17 dw.len∧ar e6 (tE.add (Int.toNat n17*1)) fun fX=>az (e6.drew) fun dR
 =>∃wM:Nat→Prop,¬wM (Addr.add (ai aS) 1).block∧ar dR (Addr.add (ai aS) 1) fun ec=>dZ F.mo #[.slice fX.a fX.len fX.cap] dR fun fH cI=>ao wM dR cI∧az (cI.alloc (.cells #[.slice fH.a
 fH.len fH.cap] ah.cc)) fun mY=>ao wM cI mY∧∃e9:ab,∃fk:World,Sem.run Tryz.prog (Builtin.append_ #[ah.cJ,ah.cJ] ah.cJ #[.slice ec.a ec.len ec.cap, .slice (some (ai cI)) 1 1]) mY=
 .ok (.slice e9.a e9.len e9.cap) fk∧st fk (Addr.add (ai aS) 1) (.slice e9.a e9.len e9.cap) fun fN=>uR (aE (n17+1)) fN∧zW (aE (n17+1)) fN<zW n17 e6
def Y7 (ic:ab) (n34:Int) (lv:World) (aS:World) (MN:Int→World→Prop) (Re:Int→World→Nat):Prop:=∃a36:Addr,ic.a=some a36∧bc n34 ic.len∧ar lv (a36.add (Int.toNat n34*1)) fun km=>az (lv.drew) fun iu
 =>∃Xc:Nat→Prop,¬Xc (Addr.add (ai aS) 2).block∧ar iu (Addr.add (ai aS) 2) fun e8=>dZ F.mo #[.slice km.a km.len km.cap] iu fun hW ek=>ao Xc iu ek∧az (ek.alloc (.cells #[.slice hW.a
 hW.len hW.cap] ah.cc)) fun ny=>ao Xc ek ny∧∃g9:ab,∃hF:World,Sem.run Tryz.prog (Builtin.append_ #[ah.cJ,ah.cJ] ah.cJ #[.slice e8.a e8.len e8.cap, .slice (some (ai ek)) 1 1]) ny=
 .ok (.slice g9.a g9.len g9.cap) hF∧st hF (Addr.add (ai aS) 2) (.slice g9.a g9.len g9.cap) fun dI=>MN (aE (n34+1)) dI∧Re (aE (n34+1)) dI<Re n34 lv
def Hx (qa:Bool) (qe:Bool→World→Prop) (aS:World) (w:World):Prop:=aF (!qa) (qe true aS) (bR aS (ai w) fun x2=>ar aS (Addr.add (ai w) 1) fun dw=>ar aS (Addr.add (ai w) 2) fun fp=>ar aS (Addr.add (ai w) 3) fun dD
 =>bk F.nP #[.agg #[.bool x2, .slice dw.a dw.len dw.cap, .slice fp.a fp.len fp.cap, .slice dD.a dD.len dD.cap]] aS fun zB dK=>qe (!zB) dK)
def SC (bO:World) (aw:World) (ag:World) (sB:World→Prop):Prop:=az (bO.drew) fun bY=>∃Xd:Nat→Prop,¬Xd (Addr.add (ai aw) 3).block∧ar bY (Addr.add (ai aw) 3) fun d_=>bj F.wD #[.pointer (some (ai
 ag)), .int .i64 2] bY fun n14 cy=>ao Xd bY cy∧az (cy.alloc (.cells #[.int .i64 n14] ah.int)) fun ep=>ao Xd cy ep∧∃dD:ab,∃dK:World,Sem.run Tryz.prog (Builtin.append_ #[ah.eY,ah.eY] ah.eY #[.slice
 d_.a d_.len d_.cap, .slice (some (ai cy)) 1 1]) ep= .ok (.slice dD.a dD.len dD.cap) dK∧st dK (Addr.add (ai aw) 3) (.slice dD.a dD.len dD.cap) fun e6=>sB e6
def Ka (iu:World) (w:World) (Q:Value→World→Prop):Prop:=bR iu (ai w) fun Xe=>ar iu (Addr.add (ai w) 1) fun e8=>ar iu (Addr.add (ai w) 2) fun qG=>ar iu (Addr.add (ai w) 3) fun m7=>Q (.tuple #[.agg #[.bool Xe,
 .slice e8.a e8.len e8.cap, .slice qG.a qG.len qG.cap, .slice m7.a m7.len m7.cap], .int .i64 4]) iu
def Wf (BL:Value) (cy:World) (d:Option Addr) (zX:World→Prop) (Ey:World→Nat) (cf:World):Prop:=∃n15:Int,∃auk:Value,∃dK:World,Sem.run Tryz.prog (Instr.entry (BL)) cy= .ok (.tuple #[.int .i64 n15,auk])
 dK∧az (dK.drew) fun e6=>∃afX:Nat→Prop,∃Cd:Addr,d=some Cd∧¬afX (Cd.add 4).block∧ar e6 (Cd.add 4) fun eP=>rK F.AN #[.pointer d, .int .i64 n15] e6 fun tc cF=>ao afX e6 cF∧∃a25:Addr,
 eP.a=some a25∧bc n15 eP.len∧cT cF (a25.add (Int.toNat n15*256)) (Array.toList tc)∧Array.size tc=256∧az (setCells cF (a25.add (Int.toNat n15*256)) 0 (Array.toList tc)) fun cv=>zX cv∧Ey cv<Ey cf
def Tb (dD:ab) (gk:ab) (dk:World) (x3:Nat→Prop) (MO:Option Nat) (i:Int) (d:Option Addr) (Q:Value→World→Prop):Prop:=∃fX:ab,∃dR:World,Sem.run Tryz.prog (Builtin.append_ #[ah.uh,
 ah.uh] ah.uh #[.slice dD.a dD.len dD.cap, .slice gk.a gk.len gk.cap]) dk= .ok (.slice fX.a fX.len fX.cap) dR∧ao x3 dk dR∧∃cF:World,Sem.run Tryz.prog (Instr.mapUpdate ah.xf
 (.map MO) (.int .i64 i) (.slice fX.a fX.len fX.cap)) dR= .ok () cF∧∃a23:Addr,d=some a23∧bD cF (a23.add 6) fun n24=>∃a25:Addr,d=some a25∧st cF (a25.add 6) (.int .i64 (aE (n24+1))) fun cv=>Q (.int .i64 0) cv
def Wm (n23:Int) (cF:World) (ep:World) (gl:Option Addr) (ag:World) (zI:Bool→World→Prop):Prop:=aF (decide (n23≤1)) (bD cF (ai ep) fun n25=>ar cF (Addr.add (ai ep) 1) fun fH=>ar cF (Addr.add (ai ep) 2) fun
 dd=>bD cF (Addr.add (ai ep) 3) fun n28=>bk F.zH #[.pointer gl, .pointer (some (ai ag)), .agg #[.int .i64 n25, .slice fH.a fH.len fH.cap, .slice dd.a dd.len dd.cap, .int .i64 n28]] cF fun B1 fk=>zI (!B1)
 fk) (zI false cF)
def Sk (km:ab):Prop:=(0:Int)≤(aE (232-(km.len:Int)))∧((aE (232-(km.len:Int))):Int)≤(aE (232-(km.len:Int)))∧((aE (232-(km.len:Int))):Int)≤yq∧((1:Nat):Int)*(aE (232-(km.len:Int)))≤
 140737488355328
def OZ (cf:World) (n6:Int) (bE:ab) (sB:ab→World→Prop):Prop:=az (cf.alloc (.cells #[.int .i64 n6] ah.int)) fun dB=>∃fp:ab,∃cZ:World,Sem.run Tryz.prog (Builtin.append_ #[ah.eY,ah.eY] ah.eY #[.slice
 bE.a bE.len bE.cap, .slice (some (ai cf)) 1 1]) dB= .ok (.slice fp.a fp.len fp.cap) cZ∧sB fp cZ
def Sl (mx:World) (c9:ab) (eO:World) (jM:ab) (iu:World) (km:ab) (GR:ab→World→Prop):Prop:=az (mx.alloc (.cells #[.slice c9.a c9.len c9.cap, .slice (some (ai eO)) (Int.toNat 4) (Int.toNat 4), .slice jM.a
 jM.len jM.cap, .slice (some (ai iu)) (Int.toNat (aE (232-(km.len:Int)))) (Int.toNat (aE (232-(km.len:Int))))] ah.cc)) fun ux=>dZ F.sW #[.slice (some (ai mx)) 4 4] ux fun hW ek=>GR hW ek
def Wg (d:Option Addr) (cy:World) (Q:Value→World→Prop):Prop:=∃a27:Addr,d=some a27∧∃afY:Option Nat,cy.cell? (a27.add 5)=some (.map afY)∧∃ (aul:Value) (fN:World),Sem.run Tryz.prog (Builtin.clear_
 #[ah.xf] ah.t #[.map afY]) cy= .ok aul fN∧Q (.int .i64 0) fN
def Sq (cd:World) (w:World) (Q:Value→World→Prop):Prop:=bD cd (ai w) fun n9=>kJ cd (Addr.add (ai w) 1) fun n10=>ar cd (Addr.add (ai w) 2) fun d_=>Q (.tuple #[.agg #[.int .i64 n9, .int .u64 n10, .slice d_.a d_.len
 d_.cap], .int .i64 4]) cd
def S9 (bO:World) (w:World) (Jo:List Value) (Q:Value→World→Prop):Prop:=cT bO (ai w) (Array.toList Jo.toArray)∧Array.size Jo.toArray=256∧az (setCells bO (ai w) 0 (Array.toList Jo.toArray)) fun cd=>∃AO:List
 Value,eH cd (ai w) 0 256=some AO∧Q (.agg AO.toArray) cd
def Pr (lu:World) (dI:World) (wg:Bool) (gM:ab) (qF:ab) (ih:ab) (zi:Int) (Q:Value→World→Prop) (c:Option Addr) (n41:Int) (w:World) (up:Option Addr) (n36:Int) (n31:Int):Prop:=cT lu (ai dI)
 [.bool wg, .slice gM.a gM.len gM.cap, .slice qF.a qF.len qF.cap, .slice ih.a ih.len ih.cap]∧(4:Nat)=4∧az (setCells lu (ai dI) 0 [.bool wg, .slice gM.a gM.len gM.cap, .slice qF.a qF.len qF.cap, .slice ih.a ih.len
 ih.cap]) fun fo=>aF (zi !=0) (Q (.tuple #[.slice none 0 0, .int .i64 0, .int .i64 0, .int .i64 zi]) fo) (∃Bh:Addr,c=some Bh∧ar fo (Bh.add 2) fun p8=>az (fo.alloc (.cells #[.int .i64 n41] ah.int)) fun uF=>∃iq:
 ab,∃tj:World,Sem.run Tryz.prog (Builtin.append_ #[ah.eY,ah.eY] ah.eY #[.slice p8.a p8.len p8.cap, .slice (some (ai fo)) 1 1]) uF= .ok (.slice iq.a iq.len iq.cap) tj∧∃rf:Addr,c=some rf∧st tj (rf.add
 2) (.slice iq.a iq.len iq.cap) fun gz=>az (gz.drew) fun dg=>∃oM:Nat→Prop,¬oM ((ai dI):Addr).block∧bR dg (ai dI) fun uG=>ar dg (Addr.add (ai dI) 1) fun hM=>ar dg (Addr.add (ai dI) 2) fun gZ=>ar dg
 (Addr.add (ai dI) 3) fun ig=>¬oM ((ai w):Addr).block∧bR dg (ai w) fun uH=>ar dg (Addr.add (ai w) 1) fun gn=>ar dg (Addr.add (ai w) 2) fun fI=>ar dg (Addr.add (ai w) 3) fun gp=>(az (dg.alloc dA) fun gY=>ao oM
 dg gY∧az (gY.alloc dA) fun lE=>ao oM gY lE∧df lE dg uG hM gZ ig oM gY uH gn fI gp up n36 w dI n31 Q c)∧(az (dg.alloc dA) fun rh=>ao oM dg rh∧az (rh.alloc dA) fun F0=>ao oM rh F0∧df F0
 rh uG hM gZ ig oM dg uH gn fI gp up n36 w dI n31 Q c))
def Fw (sJ:Bool) (eE:ab) (gf:ab) (e8:ab) (MP:World) (jl:Nat→Prop) (ek:World) (uQ:Bool) (iZ:ab) (g9:ab) (qd:ab) (zj:World) (w:World) (key:ab) (aw:World) (Q:Value→World→Prop):Prop:=nq
 F.fO #[.agg #[.bool sJ, .slice eE.a eE.len eE.cap, .slice gf.a gf.len gf.cap, .slice e8.a e8.len e8.cap]] MP fun aum aun auo aup afZ=>ao jl MP afZ∧c2 afZ ek uQ iZ g9 qd zj aum aun auo aup w key aw
 Q
def SK (cy:World) (aS:World) (rK:Array Value) (w:World) (ag:World) (Q:Value→World→Prop):Prop:=cT cy (ai aS) (Array.toList rK)∧Array.size rK=4∧az (setCells cy (ai aS) 0 (Array.toList rK)) fun b4=>ar
 b4 (Addr.add (ai w) 1) fun dw=>∃ (uR:Int→World→Prop) (zW:Int→World→Nat),uR 0 b4∧∀ (n17:Int) (e6:World),uR n17 e6→aF (decide (n17<(dw.len:Int))) (Y6 dw n17 e6 aS uR zW) (ar e6 (Addr.add (ai w) 2) fun
 ic=>∃ (MN:Int→World→Prop) (Re:Int→World→Nat),MN 0 e6∧∀ (n34:Int) (lv:World),MN n34 lv→aF (decide (n34<(ic.len:Int))) (Y7 ic n34 lv aS MN Re) (Y8 lv aS ag Q))
def TH (bz:World) (w:World) (Q:Value→World→Prop) (n7:Int):Prop:=cT bz (ai w) [.bool false, .slice none 0 0, .slice none 0 0, .slice none 0 0]∧(4:Nat)=4∧az (setCells bz (ai w) 0 [.bool false, .slice none 0 0,
 .slice none 0 0, .slice none 0 0]) fun cd=>O0 cd w Q n7
end
section
set_option maxRecDepth 100000
def W.o1 (a:ab) (b:ab) (w:World) (Q:Value→World→Prop):Prop:=∃dc:Int,∃aw:World,Sem.run Tryz.prog (callFunc F.auf #[.slice a.a a.len a.cap, .slice b.a b.len b.cap]) w= .ok (.value (.int
 .i64 dc)) aw∧Q (.int .i64 dc) aw
def A.o1:bL:=(.s .r (.s .r .l))
theorem W.ai_ (a:ab) (b:ab) (w:World) (Q:Value→World→Prop) (h:W.o1 a b w Q):aP Tryz.prog F.o1 #[.slice a.a a.len a.cap, .slice b.a b.len b.cap] w Q:=okF A.o1 Tryz.func64 (by kernel_rfl) (by kernel_rfl) h
def W.yF (s:ab) (i:Int) (j:Int) (w:World) (Q:Value→World→Prop):Prop:=((0:Int)≤(s.len:Int)∧(s.len:Int)≤((s.cap:Nat):Int))∧((0:Int)≤j∧j≤(((Int.toNat (s.len:Int)):Nat):
 Int))∧((0:Int)≤i∧i≤(((Int.toNat j):Nat):Int))∧aF (i==j) (Q (.slice s.a s.len s.cap) w) (az (w.drew) fun ag=>((0:Int)≤i∧i≤((s.cap:Nat):Int))∧((0:Int)≤j∧j≤(s.len:Int))∧∃s2:ab,∃a8:World,
 Sem.run Tryz.prog (Builtin.append_ #[ah.cJ,ah.cJ] ah.cJ #[.slice (bh s.a 1 0 s.cap) ((Int.toNat i)-0) (s.cap-0), .slice (bh s.a 1 (Int.toNat j) s.cap) (s.len-(Int.toNat j)) (s.cap-(Int.toNat j))]) ag
 = .ok (.slice s2.a s2.len s2.cap) a8∧((0:Int)≤(s.len:Int)∧(s.len:Int)≤((s2.cap:Nat):Int))∧((0:Int)≤(s2.len:Int)∧(s2.len:Int)≤(((Int.toNat (s.len:Int)):Nat):Int))∧∃ (iC:Value) (bO:World),Sem.run Tryz.prog
 (Builtin.clear_ #[ah.cJ] ah.t #[.slice (bh s2.a 1 (Int.toNat (s2.len:Int)) s2.cap) ((Int.toNat (s.len:Int))-(Int.toNat (s2.len:Int))) (s2.cap-(Int.toNat (s2.len:Int)))]) a8= .ok iC bO∧Q (.slice s2.a s2.len s2.cap) bO)
def A.yF:bL:=(.s .r (.s .r (.s a7 (.s .r (.s (.eL 6 false ⟨[0,0,3,0,0,24,36,127],[0,0,3,0,0,24,36,73]⟩ [1048576,2097152,4194304,8388608,16777216,33554432,67108864,1] [1,2,3145728,
 1,4,25165824,37748736,67108864] (.take 0 (.take 1 (.take 2 (.take 3 (.take 4 (.take 5 (.tail [.run, .run])))))))) (.s .r (.s .r .l)))))))
theorem W.aj4 (s:ab) (i:Int) (j:Int) (w:World) (Q:Value→World→Prop) (h:W.yF s i j w Q):aP Tryz.prog F.yF #[.slice s.a s.len s.cap, .int .i64 i, .int .i64 j] w Q:=okF A.yF Tryz.func109 (by kernel_rfl) (by kernel_rfl) h
def W.Dx (x:Int) (w:World) (Q:Value→World→Prop):Prop:=(0:Int)≤x∧∃c3:UInt8,TB (ByteArray.mk #[0,1,1,2,1,2,2,3,1,2,2,3,2,3,3,4,1,2,2,3,2,3,3,4,2,3,3,4,3,4,4,5,1,2,
 2,3,2,3,3,4,2,3,3,4,3,4,4,5,2,3,3,4,3,4,4,5,3,4,4,5,4,5,5,6,1,2,2,3,2,3,3,4,2,3,3,4,3,4,4,5,2,3,3,4,3,4,4,5,3,4,4,5,4,5,5,6,2,3,3,4,3,4,4,5,3,4,4,5,4,5,5,6,3,4,
 4,5,4,5,5,6,4,5,5,6,5,6,6,7,1,2,2,3,2,3,3,4,2,3,3,4,3,4,4,5,2,3,3,4,3,4,4,5,3,4,4,5,4,5,5,6,2,3,3,4,3,4,4,5,3,4,4,5,4,5,5,6,3,4,4,5,4,5,5,6,4,5,5,6,5,6,6,7,2,3,
 3,4,3,4,4,5,3,4,4,5,4,5,5,6,3,4,4,5,4,5,5,6,4,5,5,6,5,6,6,7,3,4,4,5,4,5,5,6,4,5,5,6,5,6,6,7,4,5,5,6,5,6,6,7,5,6,6,7,6,7,7,8]) (Int.toNat x)=some c3∧Q (.int .i64 (aE ((c3.toNat
 :Nat):Int))) w
def A.Dx:bL:=(.s .r (.s .r .l))
theorem W.amJ (x:Int) (w:World) (Q:Value→World→Prop) (h:W.Dx x w Q):aP Tryz.prog F.Dx #[.int .u8 x] w Q:=okF A.Dx Tryz.func117 (by kernel_rfl) (by kernel_rfl) h
def W.mo (s:ab) (w:World) (Q:Value→World→Prop):Prop:=aF (Option.isNone s.a) (Q (.slice none 0 0) w) (az (w.alloc (.cells #[] ah.uint8)) fun ag=>∃s2:ab,∃a8:World,Sem.run Tryz.prog
 (Builtin.append_ #[ah.cc,ah.cc] ah.cc #[.slice (some (ai w)) 0 0, .slice s.a s.len s.cap]) ag= .ok (.slice s2.a s2.len s2.cap) a8∧Q (.slice s2.a s2.len s2.cap) a8)
def A.mo:bL:=iS
theorem W.ait (s:ab) (w:World) (Q:Value→World→Prop) (h:W.mo s w Q):aP Tryz.prog F.mo #[.slice s.a s.len s.cap] w Q:=okF A.mo Tryz.func119 (by kernel_rfl) (by kernel_rfl) h
def W.yD (s:ab) (i:Int) (v:ab) (w:World) (Q:Value→World→Prop):Prop:=((0:Int)≤i∧i≤(s.len:Int))∧aF ((v.len:Int)==0) (Q (.slice s.a s.len s.cap) w) (aF (i==(s.len:Int)) (∃s1:ab,
 ∃aw:World,Sem.run Tryz.prog (Builtin.append_ #[ah.cJ,ah.cJ] ah.cJ #[.slice s.a s.len s.cap, .slice v.a v.len v.cap]) w= .ok (.slice s1.a s1.len s1.cap) aw∧Q (.slice s1.a s1.len s1.cap) aw) (aF (decide
 (((aE ((s.len:Int)+(v.len:Int))):Int)>((s.cap:Nat):Int))) (((0:Int)≤i∧i≤((s.cap:Nat):Int))∧∃bS:ab,∃bz:World,Sem.run Tryz.prog (Builtin.append_ #[ah.cJ,ah.int] ah.cJ #[.slice (bh s.a 1 0
 s.cap) ((Int.toNat i)-0) (s.cap-0), .int .i64 (aE ((aE ((s.len:Int)+(v.len:Int)))-i))]) w= .ok (.slice bS.a bS.len bS.cap) bz∧((0:Int)≤i∧i≤(bS.len:Int))∧∃n5:Int,∃bg:World,Sem.run Tryz.prog (Builtin.copy_
 #[ah.cJ,ah.cJ] ah.int #[.slice (bh bS.a 1 (Int.toNat i) bS.cap) (bS.len-(Int.toNat i)) (bS.cap-(Int.toNat i)), .slice v.a v.len v.cap]) bz= .ok (.int .i64 n5) bg∧az (bg.drew) fun aS=>((0:Int)≤(aE (i+
 (v.len:Int)))∧(aE (i+(v.len:Int)))≤(bS.len:Int))∧((0:Int)≤i∧i≤(s.len:Int))∧∃n8:Int,∃bY:World,Sem.run Tryz.prog (Builtin.copy_ #[ah.cJ,ah.cJ] ah.int #[.slice (bh bS.a 1 (Int.toNat (aE (i+
 (v.len:Int)))) bS.cap) (bS.len-(Int.toNat (aE (i+(v.len:Int))))) (bS.cap-(Int.toNat (aE (i+(v.len:Int))))), .slice (bh s.a 1 (Int.toNat i) s.cap) (s.len-(Int.toNat i)) (s.cap-(Int.toNat i))]) aS= .ok (.int .i64 n8) bY∧Q
 (.slice bS.a bS.len bS.cap) bY) (((0:Int)≤(aE ((s.len:Int)+(v.len:Int)))∧(aE ((s.len:Int)+(v.len:Int)))≤((s.cap:Nat):Int))∧((0:Int)≤(aE (i+(v.len:Int)))∧(aE (i+(v.len:Int)))≤((((Int.toNat (aE ((s.len:Int)+
 (v.len:Int))))-0):Nat):Int))∧∃nH:Bool,∃cf:World,Sem.run Tryz.prog (callFunc F.Y3 #[.slice v.a v.len v.cap, .slice (bh (bh s.a 1 0 s.cap) 1 (Int.toNat (aE (i+(v.len:Int)))) (s.cap-0))
 (((Int.toNat (aE ((s.len:Int)+(v.len:Int))))-0)-(Int.toNat (aE (i+(v.len:Int))))) ((s.cap-0)-(Int.toNat (aE (i+(v.len:Int)))))]) w= .ok (.value (.bool nH)) cf∧aF (!nH) (az (cf.drew) fun cy=>((0:Int)≤(aE (i+
 (v.len:Int)))∧(aE (i+(v.len:Int)))≤((((Int.toNat (aE ((s.len:Int)+(v.len:Int))))-0):Nat):Int))∧((0:Int)≤i∧i≤((((Int.toNat (aE ((s.len:Int)+(v.len:Int))))-0):Nat):Int))∧∃n13:Int,∃dB:World,Sem.run
 Tryz.prog (Builtin.copy_ #[ah.cJ,ah.cJ] ah.int #[.slice (bh (bh s.a 1 0 s.cap) 1 (Int.toNat (aE (i+(v.len:Int)))) (s.cap-0)) (((Int.toNat (aE ((s.len:Int)+(v.len:Int))))-0)-(Int.toNat (aE (i+
 (v.len:Int))))) ((s.cap-0)-(Int.toNat (aE (i+(v.len:Int))))), .slice (bh (bh s.a 1 0 s.cap) 1 (Int.toNat i) (s.cap-0)) (((Int.toNat (aE ((s.len:Int)+(v.len:Int))))-0)-(Int.toNat i)) ((s.cap-0)-(Int.toNat i))]) cy=
 .ok (.int .i64 n13) dB∧((0:Int)≤i∧i≤((((Int.toNat (aE ((s.len:Int)+(v.len:Int))))-0):Nat):Int))∧∃n15:Int,∃cZ:World,Sem.run Tryz.prog (Builtin.copy_ #[ah.cJ,ah.cJ] ah.int #[.slice (bh (bh
 s.a 1 0 s.cap) 1 (Int.toNat i) (s.cap-0)) (((Int.toNat (aE ((s.len:Int)+(v.len:Int))))-0)-(Int.toNat i)) ((s.cap-0)-(Int.toNat i)), .slice v.a v.len v.cap]) dB= .ok (.int .i64 n15) cZ∧Q (.slice (bh s.a 1 0 s.cap)
 ((Int.toNat (aE ((s.len:Int)+(v.len:Int))))-0) (s.cap-0)) cZ) (((0:Int)≤(s.len:Int)∧(s.len:Int)≤((((Int.toNat (aE ((s.len:Int)+(v.len:Int))))-0):Nat):Int))∧∃n17:Int,∃e6:World,Sem.run Tryz.prog
 (Builtin.copy_ #[ah.cJ,ah.cJ] ah.int #[.slice (bh (bh s.a 1 0 s.cap) 1 (Int.toNat (s.len:Int)) (s.cap-0)) (((Int.toNat (aE ((s.len:Int)+(v.len:Int))))-0)-(Int.toNat (s.len:Int))) ((s.cap-0)-(Int.toNat
 (s.len:Int))), .slice v.a v.len v.cap]) cf= .ok (.int .i64 n17) e6∧((0:Int)≤i∧i≤((((Int.toNat (aE ((s.len:Int)+(v.len:Int))))-0):Nat):Int))∧bm F.aug #[.slice (bh (bh s.a 1 0 s.cap) 1
 (Int.toNat i) (s.cap-0)) (((Int.toNat (aE ((s.len:Int)+(v.len:Int))))-0)-(Int.toNat i)) ((s.cap-0)-(Int.toNat i)), .int .i64 (v.len:Int)] e6 fun dk=>Q (.slice (bh s.a 1 0 s.cap) ((Int.toNat (aE ((s.len:Int)+
 (v.len:Int))))-0) (s.cap-0)) dk))))
def A.yD:bL:=(.s .r (.s .r (.s .r (.s a7 (.s .r (.s a7 (.s (.s .r (.c (.s .r (.s .r (.s (.eL 8 false ⟨[0,0,0,6,9,0,0,96,144],[0,0,0,6,9,0,0,96,144]⟩ [70368744177664,140737488355328,
 281474976710656,562949953421312,1125899906842624,2251799813685248,4503599627370496,9007199254740992,18014398509481984] [512,2,128,422212465065984,633318697598976,1,2,6755399441055744,10133099161583616] (.take 0 (.take 1 (.take
 2 (.take 3 (.take 4 (.take 5 (.take 6 (.take 7 (.tail [.run])))))))))) (.s .r .l)))) .l)) (.s .r (.s (.s .r (.c (.s (.eL 8 false ⟨[0,0,0,6,9,0,0,96,144],[0,0,0,6,9,0,0,96,144]⟩ [590295810358705651712,
 1180591620717411303424,2361183241434822606848,4722366482869645213696,9444732965739290427392,18889465931478580854784,37778931862957161709568,75557863725914323419136,151115727451828646838272] [1,2,128,3541774862152233910272,
 5312662293228350865408,1,2,56668397794435742564352,85002596691653613846528] (.take 0 (.take 1 (.take 2 (.take 3 (.take 4 (.take 5 (.take 6 (.take 7 (.tail [.run])))))))))) (.s .r (.s .r .l))) .l)) a4)))))))))
theorem W.ajV (s:ab) (i:Int) (v:ab) (w:World) (Q:Value→World→Prop) (h:W.yD s i v w Q):aP Tryz.prog F.yD #[.slice s.a s.len s.cap, .int .i64 i, .slice v.a v.len v.cap] w Q:=okF A.yD Tryz.func120 (by kernel_rfl) (by kernel_rfl) h
def W.Dw (s:ab) (w:World) (Q:Value→World→Prop):Prop:=aF (Option.isNone s.a) (Q (.slice none 0 0) w) (az (w.alloc (.cells #[] ah.uint8)) fun ag=>∃s2:ab,∃a8:World,Sem.run Tryz.prog
 (Builtin.append_ #[ah.K3,ah.K3] ah.K3 #[.slice (some (ai w)) 0 0, .slice s.a s.len s.cap]) ag= .ok (.slice s2.a s2.len s2.cap) a8∧Q (.slice s2.a s2.len s2.cap) a8)
def A.Dw:bL:=iS
theorem W.amD (s:ab) (w:World) (Q:Value→World→Prop) (h:W.Dw s w Q):aP Tryz.prog F.Dw #[.slice s.a s.len s.cap] w Q:=okF A.Dw Tryz.func122 (by kernel_rfl) (by kernel_rfl) h
def W.CY (x:ab) (target:ab) (cmp:qB) (w:World) (Q:Value→World→Prop):Prop:=∃ (g2:Int→Int→World→Prop) (ja:Int→Int→World→Nat),g2 0 (x.len:Int) w∧∀ (bw:Int)
 (gi:Int) (bO:World),g2 bw gi bO→aF (decide (bw<gi)) ((0:Int)≤1∧∃iI:Addr,x.a=some iI∧((0:Int)≤(aE (Int.fdiv (IntKind.wrap .u64 (aE (bw+gi))) (2^(min (Int.toNat 1) 64))))∧(aE (Int.fdiv (IntKind.wrap .u64 (aE
 (bw+gi))) (2^(min (Int.toNat 1) 64))))<(x.len:Int))∧ar bO (iI.add (Int.toNat (aE (Int.fdiv (IntKind.wrap .u64 (aE (bw+gi))) (2^(min (Int.toNat 1) 64))))*1)) fun jg=>sk Tryz.prog cmp.f∧Calls Tryz.prog cmp.f (cmp.pre
 ++ #[.slice jg.a jg.len jg.cap, .slice target.a target.len target.cap]++cmp.cap) bO fun Al cd=>∃n10:Int,Al= .returned (.int .i64 n10)∧aF (decide (n10<0)) (g2 (aE ((aE (Int.fdiv (IntKind.wrap .u64 (aE (bw+gi))) (2^(min
 (Int.toNat 1) 64))))+1)) gi cd∧ja (aE ((aE (Int.fdiv (IntKind.wrap .u64 (aE (bw+gi))) (2^(min (Int.toNat 1) 64))))+1)) gi cd<ja bw gi bO) (g2 bw (aE (Int.fdiv (IntKind.wrap .u64 (aE (bw+gi))) (2^(min (Int.toNat 1) 64)))) cd
 ∧ja bw (aE (Int.fdiv (IntKind.wrap .u64 (aE (bw+gi))) (2^(min (Int.toNat 1) 64)))) cd<ja bw gi bO)) (de (fun Rf:Bool→World→Prop=>aF (decide (bw<(x.len:Int))) (∃iS:Addr,x.a=some iS∧bc bw x.len∧ar bO (iS.add
 (Int.toNat bw*1)) fun g1=>sk Tryz.prog cmp.f∧Calls Tryz.prog cmp.f (cmp.pre++ #[.slice g1.a g1.len g1.cap, .slice target.a target.len target.cap]++cmp.cap) bO fun Xf dB=>∃n16:Int,Xf= .returned (.int .i64 n16)∧
 Rf (n16==0) dB) (Rf false bO)) (fun (uS:Bool) e6=>Q (.tuple #[.int .i64 bw, .bool uS]) e6))
def A.CY:bL:=(.s .r (.s .r (.s .r (.s (.c1 (.loop [(9,(.int .i64)),(10,(.int .i64))] [0,1,2,8] (.s (.s .r (.c .l .l)) (.c1 (.s .r (.s .r (.c .r .r))))))) (.s (.gB [.run, .run,
 .run, .run, .run, .split 8]) .l)))))
theorem W.akc (x:ab) (target:ab) (cmp:qB) (w:World) (Q:Value→World→Prop) (h:W.CY x target cmp w Q):aP Tryz.prog F.CY #[.slice x.a x.len x.cap, .slice target.a target.len target.cap, .func (.func cmp.f) cmp.pre cmp.cap] w Q:=okF A.CY Tryz.func146 (by kernel_rfl) (by kernel_rfl) h
def W.CO (s:ab) (f:qB) (w:World) (Q:Value→World→Prop):Prop:=bj F.E_ #[.slice s.a s.len s.cap, .func (.func f.f) f.pre f.cap] w fun bw ag=>Q (.bool
 (decide (bw≥0))) ag
def A.CO:bL:=(.s .r (.s .r .l))
theorem W.aje (s:ab) (f:qB) (w:World) (Q:Value→World→Prop) (h:W.CO s f w Q):aP Tryz.prog F.CO #[.slice s.a s.len s.cap, .func (.func f.f) f.pre f.cap] w Q:=okF A.CO Tryz.func148 (by kernel_rfl) (by kernel_rfl) h
def W.CP (s:ab) (f:qB) (w:World) (Q:Value→World→Prop):Prop:=bj F.Fa #[.slice s.a s.len s.cap, .func (.func f.f) f.pre f.cap] w fun bw ag=>Q (.bool (decide (bw≥0))) ag
def A.CP:bL:=(.s .r (.s .r .l))
theorem W.aji (s:ab) (f:qB) (w:World) (Q:Value→World→Prop) (h:W.CP s f w Q):aP Tryz.prog F.CP #[.slice s.a s.len s.cap, .func (.func f.f) f.pre f.cap] w Q:=okF A.CP Tryz.func150 (by kernel_rfl) (by kernel_rfl) h
def W.vg (s:ab) (w:World) (Q:Value→World→Prop):Prop:=aF (Option.isNone s.a) (Q (.slice none 0 0) w) (az (w.alloc (.cells #[] ah.int)) fun ag=>∃s2:ab,∃a8:World,Sem.run Tryz.prog (Builtin.append_
 #[ah.eY,ah.eY] ah.eY #[.slice (some (ai w)) 0 0, .slice s.a s.len s.cap]) ag= .ok (.slice s2.a s2.len s2.cap) a8∧Q (.slice s2.a s2.len s2.cap) a8)
def A.vg:bL:=iS
theorem W.aj_ (s:ab) (w:World) (Q:Value→World→Prop) (h:W.vg s w Q):aP Tryz.prog F.vg #[.slice s.a s.len s.cap] w Q:=okF A.vg Tryz.func151 (by kernel_rfl) (by kernel_rfl) h
def W.yx (a:ab) (b:ab) (w:World) (Q:Value→World→Prop):Prop:=∃s1:ByteArray,∃aw:World,Sem.run Tryz.prog (convert ah.cc ah.string (.slice a.a a.len a.cap)) w= .ok (.string s1) aw∧∃bS:ByteArray,∃bz
 :World,Sem.run Tryz.prog (convert ah.cc ah.string (.slice b.a b.len b.cap)) aw= .ok (.string bS) bz∧Q (.bool (ByteArray.toList s1==ByteArray.toList bS)) bz
def A.yx:bL:=(.s .r (.s .r .l))
theorem W.aja (a:ab) (b:ab) (w:World) (Q:Value→World→Prop) (h:W.yx a b w Q):aP Tryz.prog F.yx #[.slice a.a a.len a.cap, .slice b.a b.len b.cap] w Q:=okF A.yx Tryz.func167 (by kernel_rfl) (by kernel_rfl) h
end
section
set_option maxRecDepth 100000
def W.E_ (s:ab) (f:qB) (w:World) (Q:Value→World→Prop):Prop:=∃ (g2:Int→World→Prop) (ja:Int→World→Nat),g2 0 w∧∀ (bw:Int) (bz:World),g2 bw bz→aF (decide (bw<(s.len:Int)))
 (∃a5:Addr,s.a=some a5∧bc bw s.len∧ar bz (a5.add (Int.toNat bw*1)) fun dj=>sk Tryz.prog f.f∧Calls Tryz.prog f.f (f.pre++ #[.slice dj.a dj.len dj.cap]++f.cap) bz fun u6 aS=>∃jB:Bool,u6= .returned (.bool jB)∧
 aF jB (Q (.int .i64 bw) aS) (g2 (aE (bw+1)) aS∧ja (aE (bw+1)) aS<ja bw bz)) (Q (.int .i64 (-1)) bz)
def A.E_:bL:=tD
theorem W.ajf (s:ab) (f:qB) (w:World) (Q:Value→World→Prop) (h:W.E_ s f w Q):aP Tryz.prog F.E_ #[.slice s.a s.len s.cap, .func (.func f.f) f.pre f.cap] w Q:=okF A.E_ Tryz.func186 (by kernel_rfl) (by kernel_rfl) h
def W.Fa (s:ab) (f:qB) (w:World) (Q:Value→World→Prop):Prop:=∃ (g2:Int→World→Prop) (ja:Int→World→Nat),g2 0 w∧∀ (bw:Int) (bz:World),g2 bw bz→aF (decide (bw<(s.len:Int))) (∃a5:
 Addr,s.a=some a5∧bc bw s.len∧bD bz (a5.add (Int.toNat bw*1)) fun n6=>sk Tryz.prog f.f∧Calls Tryz.prog f.f (f.pre++ #[.int .i64 n6]++f.cap) bz fun u6 aS=>∃jB:Bool,u6= .returned (.bool jB)∧aF jB (Q (.int .i64
 bw) aS) (g2 (aE (bw+1)) aS∧ja (aE (bw+1)) aS<ja bw bz)) (Q (.int .i64 (-1)) bz)
def A.Fa:bL:=tD
theorem W.ajj (s:ab) (f:qB) (w:World) (Q:Value→World→Prop) (h:W.Fa s f w Q):aP Tryz.prog F.Fa #[.slice s.a s.len s.cap, .func (.func f.f) f.pre f.cap] w Q:=okF A.Fa Tryz.func187 (by kernel_rfl) (by kernel_rfl) h
def W.A8 (s:ab) (w:World) (Q:Value→World→Prop):Prop:=aF (Option.isNone s.a) (Q (.slice none 0 0) w) (az (w.alloc (.cells #[] ah.cc)) fun ag=>∃s2:ab,∃a8:World,Sem.run Tryz.prog
 (Builtin.append_ #[ah.cJ,ah.cJ] ah.cJ #[.slice (some (ai w)) 0 0, .slice s.a s.len s.cap]) ag= .ok (.slice s2.a s2.len s2.cap) a8∧Q (.slice s2.a s2.len s2.cap) a8)
def A.A8:bL:=iS
theorem W.anP (s:ab) (w:World) (Q:Value→World→Prop) (h:W.A8 s w Q):aP Tryz.prog F.A8 #[.slice s.a s.len s.cap] w Q:=okF A.A8 Tryz.func193 (by kernel_rfl) (by kernel_rfl) h
end
section
set_option maxRecDepth 100000
def W.y6 (n:Int) (w:World) (Q:Value→World→Prop):Prop:=aF ((decide (n<16))||(decide (n>1600))) (Q (.tuple #[.pointer none, .int .i64 1]) w) (((0:Int)≤n∧n≤n∧n≤yq∧((256:Nat):Int)*n≤
 140737488355328)∧az (w.alloc (.cells (pQ Tryz.prog ah.oA (Int.toNat n)) ah.oA)) fun ag=>∃sy:Option Nat,∃a8:World,Sem.run Tryz.prog (Instr.makeMap ah.xf none) ag= .ok (.map sy) a8∧∃gE:
 Array Value,Sem.run Tryz.prog (Instr.build ah.OM #[(1, .slice (some (ai w)) (Int.toNat n) (Int.toNat n)),(2, .map sy)]) a8= .ok (.agg gE) a8∧az (a8.alloc (.cells gE ah.OM)) fun bO=>∃iI:Addr,(some (ai a8):Option
 Addr)=some iI∧bm F.Dd #[.pointer (some iI)] bO fun aS=>Q (.tuple #[.pointer (some (ai a8)), .int .i64 0]) aS)
def A.y6:bL:=(.s .r (.s kD a4))
theorem W.alm (n:Int) (w:World) (Q:Value→World→Prop) (h:W.y6 n w Q):aP Tryz.prog F.y6 #[.int .i64 n] w Q:=okF A.y6 Tryz.func11 (by kernel_rfl) (by kernel_rfl) h
def W.AP (d:Option Addr) (i:Int) (b:ab) (w:World) (Q:Value→World→Prop):Prop:=bk F.AM #[.pointer d, .int .i64 i] w fun eT ag=>aF ((!eT)||((b.len:Int) !=256)) (Q (.int .i64 1) ag) (∃a4:Addr,
 d=some a4∧bk F.y2 #[.pointer (some a4), .int .i64 2] ag fun k3 bO=>aF k3 (Q (.int .i64 3) bO) (az (bO.drew) fun cd=>∃x3:Nat→Prop,∃g0:Addr,d=some g0∧¬x3 (g0.add 5).block∧∃MO:Option Nat,cd.cell?
 (g0.add 5)=some (.map MO)∧∃iS:Addr,d=some iS∧¬x3 (iS.add 5).block∧∃Xg:Option Nat,cd.cell? (iS.add 5)=some (.map Xg)∧256≤b.len∧∃kU:Addr,b.a=some kU∧¬x3 kU.block∧∃Xh:List Value,eH cd
 kU 0 256=some Xh∧(∃dD:ab,∃dK:World,Sem.run Tryz.prog (Instr.lookup ah.xf (.map Xg) (.int .i64 i) false) cd= .ok (.slice dD.a dD.len dD.cap) dK∧ao x3 cd dK∧∃gk:ab,∃dk:World,Sem.run
 Tryz.prog (Instr.buildSlice ah.uh 1 #[(0, .agg Xh.toArray)]) dK= .ok (.slice gk.a gk.len gk.cap) dk∧ao x3 dK dk∧Tb dD gk dk x3 MO i d Q)∧(∃dd:ab,∃fA:World,Sem.run Tryz.prog (Instr.buildSlice
 ah.uh 1 #[(0, .agg Xh.toArray)]) cd= .ok (.slice dd.a dd.len dd.cap) fA∧ao x3 cd fA∧∃iQ:ab,∃fN:World,Sem.run Tryz.prog (Instr.lookup ah.xf (.map Xg) (.int .i64 i) false) fA= .ok (.slice
 iQ.a iQ.len iQ.cap) fN∧ao x3 fA fN∧Tb iQ dd fN x3 MO i d Q)))
def A.AP:bL:=(.s .r (.s (.c1 (.s (.gB [.run, .run, .run, .run, .run, .pure 3]) (.c (.s .r .l) a7))) (.s (.eL 16 true ⟨[0,1,2,4,0,0,32,64,128,0,768,0,2048,4096,8192,17408,65535],[0,1,2,4,0,0,32,
 64,128,0,768,0,2048,4096,8192,17408,32792]⟩ [4194304,8388608,16777216,33554432,67108864,134217728,268435456,536870912,1073741824,2147483648,4294967296,8589934592,17179869184,34359738368,68719476736,137438953472,0]
 [1,4194304,8388608,16777216,2,1,134217728,268435456,536870912,2,3221225472,4,8589934592,17179869184,34359738368,73014444032,137539616768] (.take 0 (.take 1 (.take 2 (.take 3 (.take 4 (.take 5 (.take 6 (.take 7 (.take 8
 (.take 9 (.take 11 (.take 12 (.take 13 (.two 10 (.cS 14 (.cS 15 (.tail [.run]))) 14 (.cS 10 (.cS 15 (.tail [.run])))))))))))))))))) (.s .r (.s .r .l)))))
theorem W.ale (d:Option Addr) (i:Int) (b:ab) (w:World) (Q:Value→World→Prop) (h:W.AP d i b w Q):aP Tryz.prog F.AP #[.pointer d, .int .i64 i, .slice b.a b.len b.cap] w Q:=okF A.AP Tryz.func14 (by kernel_rfl) (by kernel_rfl) h
def W.BP (t:Option Addr) (key:ab) (w:World) (Q:Value→World→Prop):Prop:=de (fun dJ:Bool→World→Prop=>aF (Option.isNone t) (dJ true w) (bk F.tq #[.slice key.a key.len key.cap] w fun eQ aw=>dJ (!eQ)
 aw)) (fun (iA:Bool) bg=>aF iA (aF (Option.isNone t) (Q (.tuple #[.slice none 0 0, .bool false, .int .i64 1]) bg) (Q (.tuple #[.slice none 0 0, .bool false, .int .i64 0]) bg)) (gE F.zc #[.pointer t, .slice key.a key.len
 key.cap] bg fun dn n10 aS=>aF ((n10 !=0)||((dn.len:Int)==0)) (Q (.tuple #[.slice none 0 0, .bool false, .int .i64 n10]) aS) (∃kD:Addr,dn.a=some kD∧((0:Int)≤(aE ((dn.len:Int)-1))∧(aE ((dn.len:Int)-1))<
 (dn.len:Int))∧bR aS ((kD.add (Int.toNat (aE ((dn.len:Int)-1))*6)).add 1) fun uM=>ar aS (((kD.add (Int.toNat (aE ((dn.len:Int)-1))*6)).add 1).add 1) fun g1=>ar aS (((kD.add (Int.toNat (aE ((dn.len:Int)-1))*6)).add
 1).add 2) fun dw=>ar aS (((kD.add (Int.toNat (aE ((dn.len:Int)-1))*6)).add 1).add 3) fun fp=>az (aS.alloc dA) fun cZ=>cT cZ (ai aS) [.bool uM, .slice g1.a g1.len g1.cap, .slice dw.a dw.len dw.cap, .slice fp.a
 fp.len fp.cap]∧(4:Nat)=4∧az (setCells cZ (ai aS) 0 [.bool uM, .slice g1.a g1.len g1.cap, .slice dw.a dw.len dw.cap, .slice fp.a fp.len fp.cap]) fun dK=>bR dK (ai aS) fun r5=>ar dK (Addr.add (ai aS) 1) fun eB=>
 ar dK (Addr.add (ai aS) 2) fun fX=>ar dK (Addr.add (ai aS) 3) fun eP=>dQ F.yG #[.agg #[.bool r5, .slice eB.a eB.len eB.cap, .slice fX.a fX.len fX.cap, .slice eP.a eP.len eP.cap], .slice key.a key.len key.cap] dK
 fun n24 xJ cF=>aF (!xJ) (Q (.tuple #[.slice none 0 0, .bool false, .int .i64 0]) cF) (ar cF (Addr.add (ai aS) 2) fun fH=>∃a27:Addr,fH.a=some a27∧bc n24 fH.len∧ar cF (a27.add (Int.toNat n24*1)) fun e9=>Q (.tuple
 #[.slice e9.a e9.len e9.cap, .bool true, .int .i64 0]) cF))))
def A.BP:bL:=(.s .r (.s (.s (.gB [.run, .run, .run, .split 3]) (.c (.s a7 (.s .r .l)) .l)) (.s .r (.s g0 (.s .r iS)))))
theorem W.ap5 (t:Option Addr) (key:ab) (w:World) (Q:Value→World→Prop) (h:W.BP t key w Q):aP Tryz.prog F.BP #[.pointer t, .slice key.a key.len key.cap] w Q:=okF A.BP Tryz.func21 (by kernel_rfl) (by kernel_rfl) h
def W.D9 (t:Option Addr) (key:ab) (w:World) (Q:Value→World→Prop):Prop:=de (fun dJ:Bool→World→Prop=>aF (Option.isNone t) (dJ true w) (bk F.tq #[.slice key.a key.len key.cap] w fun eQ aw=>dJ
 (!eQ) aw)) (fun (iA:Bool) bg=>aF iA (Q (.tuple #[.bool false, .int .i64 1]) bg) (gE F.zc #[.pointer t, .slice key.a key.len key.cap] bg fun dn n10 aS=>aF ((n10 !=0)||((dn.len:Int)==0)) (Q (.tuple #[.bool false, .int
 .i64 n10]) aS) (∃kD:Addr,dn.a=some kD∧((0:Int)≤(aE ((dn.len:Int)-1))∧(aE ((dn.len:Int)-1))<(dn.len:Int))∧bR aS ((kD.add (Int.toNat (aE ((dn.len:Int)-1))*6)).add 1) fun uM=>ar aS (((kD.add (Int.toNat (aE
 ((dn.len:Int)-1))*6)).add 1).add 1) fun g1=>ar aS (((kD.add (Int.toNat (aE ((dn.len:Int)-1))*6)).add 1).add 2) fun dw=>ar aS (((kD.add (Int.toNat (aE ((dn.len:Int)-1))*6)).add 1).add 3) fun fp=>fC F.yM #[.agg
 #[.bool uM, .slice g1.a g1.len g1.cap, .slice dw.a dw.len dw.cap, .slice fp.a fp.len fp.cap], .slice key.a key.len key.cap] aS fun r5 eB fX eP x4 cZ=>az (cZ.alloc dA) fun pd=>cT pd (ai cZ) [.bool r5, .slice
 eB.a eB.len eB.cap, .slice fX.a fX.len fX.cap, .slice eP.a eP.len eP.cap]∧(4:Nat)=4∧az (setCells pd (ai cZ) 0 [.bool r5, .slice eB.a eB.len eB.cap, .slice fX.a fX.len fX.cap, .slice eP.a eP.len eP.cap]) fun cI
 =>aF (!x4) (Q (.tuple #[.bool false, .int .i64 0]) cI) (bR cI (ai cZ) fun xJ=>ar cI (Addr.add (ai cZ) 1) fun fH=>ar cI (Addr.add (ai cZ) 2) fun dd=>ar cI (Addr.add (ai cZ) 3) fun e9=>bj F.xK #[.pointer t,
 .slice dn.a dn.len dn.cap, .agg #[.bool xJ, .slice fH.a fH.len fH.cap, .slice dd.a dd.len dd.cap, .slice e9.a e9.len e9.cap]] cI fun n31 fk=>Q (.tuple #[.bool (n31==0), .int .i64 n31]) fk))))
def A.D9:bL:=(.s .r (.s a9 (.s .r (.s g0 (.s .r kU)))))
theorem W.aqd (t:Option Addr) (key:ab) (w:World) (Q:Value→World→Prop) (h:W.D9 t key w Q):aP Tryz.prog F.D9 #[.pointer t, .slice key.a key.len key.cap] w Q:=okF A.D9 Tryz.func22 (by kernel_rfl) (by kernel_rfl) h
def W.Ea (t:Option Addr) (ix:ab) (to:ab) (most:Int) (w:World) (Q:Value→World→Prop):Prop:=az (w.alloc (.cells #[.slice ix.a ix.len ix.cap] ah.cc)) fun ag=>az (ag.alloc (.cells #[.slice
 to.a to.len to.cap] ah.cc)) fun aw=>az (aw.alloc (.cells #[.int .i64 most] ah.int)) fun a8=>aF (Option.isNone t) (Q (.tuple #[.slice none 0 0, .int .i64 1]) a8) (∃a4:Addr,t=some a4∧bD a8 (a4.add 4) fun n5=>de (fun F_:
 Bool→World→Prop=>aF (n5==0) (F_ true a8) (bD a8 (ai aw) fun n7=>F_ (decide (n7<1)) a8)) (fun (nZ:Bool) bY=>aF nZ (Q (.tuple #[.slice none 0 0, .int .i64 0]) bY) (az (bY.alloc (.cells #[.slice none 0 0] ah.e2)) fun
 b3=>az (b3.drew) fun cf=>∃Rg:Nat→Prop,∃kk:Addr,t=some kk∧¬Rg (kk.add 3).block∧bD cf (kk.add 3) fun n14=>∃mj:Addr,t=some mj∧¬Rg (mj.add 4).block∧bD cf (mj.add 4) fun n16=>¬Rg ((ai w):
 Addr).block∧ar cf (ai w) fun gC=>ao Rg cf cf∧IF F.BS #[.pointer t, .int .i64 n14, .int .i64 n16, .slice gC.a gC.len gC.cap, .func (.func F.xP) #[] #[.pointer (some (ai ag)), .pointer (some (ai w)),
 .pointer (some (ai bY)), .pointer (some (ai aw))]] cf fun tF n21 e6=>aF (n21 !=0) (Q (.tuple #[.slice none 0 0, .int .i64 n21]) e6) (ar e6 (ai bY) fun f_=>Q (.tuple #[.slice f_.a f_.len f_.cap, .int .i64 0]) e6))))
def A.Ea:bL:=(.s .r (.s a7 (.s (.s (.gB [.run, .run, .run, .run, .run, .run, .split 2]) (.c (.s .r .l) .l)) (.s .r (.s (.eL 16 true ⟨[0,0,2,4,8,0,32,64,128,0,0,1809,2048,4096,4096,16383,65535],[0,0,2,4,
 8,0,32,64,128,0,0,1809,2048,4096,4096,8192,16384]⟩ [33554432,67108864,134217728,268435456,536870912,1073741824,2147483648,4294967296,8589934592,17179869184,34359738368,68719476736,16777216,137438953472,
 274877906944,2048,4096] [1,1,67108864,134217728,268435456,1,1073741824,2147483648,4294967296,32,1248,60699967488,68719476736,16777216,16777216,137438953472,274877906944] (.take 0 (.take 1 (.take 2 (.take 3 (.take 4 (.take
 5 (.take 6 (.take 7 (.take 8 (.take 9 (.cS 10 (.out 11 false (.take 12 (.take 13 (.take 14 (.take 15 (.tail [.run])))))))))))))))))) (.s a7 (.s .r .l)))))))
theorem W.aqT (t:Option Addr) (ix:ab) (to:ab) (most:Int) (w:World) (Q:Value→World→Prop) (h:W.Ea t ix to most w Q):aP Tryz.prog F.Ea #[.pointer t, .slice ix.a ix.len ix.cap, .slice to.a to.len to.cap, .int .i64 most] w Q:=okF A.Ea Tryz.func23 (by kernel_rfl) (by kernel_rfl) h
def W.zF (c:Option Addr) (s:Option Addr) (gen:Int) (root:Int) (bx:Int) (w:World) (Q:Value→World→Prop):Prop:=de (fun dJ:Bool→World→Prop=>aF (((((Option.isNone c)||(Option.isNone s))||(decide
 (bx<0)))||(decide (bx>12)))||(decide (root<0))) (dJ true w) (∃cQ:Addr,c=some cQ∧∃gl:Option Addr,w.cell? cQ=some (.pointer gl)∧bj F.AL #[.pointer gl] w fun n6 bz=>dJ (decide (root≥n6)) bz))
 (fun (k3:Bool) cd=>aF (k3||(!((root==0)==(bx==0)))) (Q (.tuple #[.pointer none, .int .i64 1]) cd) (az (cd.alloc (.cells #[.pointer c, .pointer s, .int .u64 gen, .int .i64 root, .int .i64 bx] ah.HW)) fun bY=>Q
 (.tuple #[.pointer (some (ai cd)), .int .i64 0]) bY))
def A.zF:bL:=(.s .r (.s (.s (.gB [.run, .run, .run, .pure 2, .run, .run, .run, .pure 2, .run, .run, .run, .pure 2, .run, .run, .run, .pure 2, .run, .run, .run, .split 7, .run, .run, .run, .run, .run, .run, .run, .run, .pure 5])
 (.c (.s .r .l) .l)) (.s .r .l)))
theorem W.aro (c:Option Addr) (s:Option Addr) (gen:Int) (root:Int) (bx:Int) (w:World) (Q:Value→World→Prop) (h:W.zF c s gen root bx w Q):aP Tryz.prog F.zF #[.pointer c, .pointer s, .int .u64 gen, .int .i64 root, .int .i64 bx] w Q:=okF A.zF Tryz.func25 (by kernel_rfl) (by kernel_rfl) h
def W.BO (t:Option Addr) (key:ab) (val:ab) (w:World) (Q:Value→World→Prop):Prop:=de (fun dJ:Bool→World→Prop=>aF (Option.isNone t) (dJ true w) (bk F.tq #[.slice key.a key.len key.cap] w fun eQ aw
 =>dJ (!eQ) aw)) (fun (iA:Bool) bg=>aF (iA||(decide ((val.len:Int)>24))) (Q (.int .i64 1) bg) (az (bg.drew) fun aS=>∃Xi:Nat→Prop,∃a9:Addr,t=some a9∧¬Xi (a9.add 1).block∧∃Jp:Option Addr,aS.cell? (a9.add 1)=
 some (.pointer Jp)∧∃kD:Addr,t=some kD∧¬Xi (kD.add 4).block∧bD aS (kD.add 4) fun n12=>bj F.y_ #[.pointer Jp] aS fun n15 b4=>ao Xi aS b4∧aF (decide (n15<(aE ((aE (2*n12))+3)))) (Q (.int .i64 2)
 b4) (gE F.zc #[.pointer t, .slice key.a key.len key.cap] b4 fun gk n19 cZ=>aF (n19 !=0) (Q (.int .i64 n19) cZ) (az (cZ.alloc dA) fun cC=>cT cC (ai cZ) [.bool true, .slice none 0 0, .slice none 0 0, .slice none
 0 0]∧(4:Nat)=4∧az (setCells cC (ai cZ) 0 [.bool true, .slice none 0 0, .slice none 0 0, .slice none 0 0]) fun dR=>de (fun Q_:World→Prop=>aF (decide ((gk.len:Int)>0)) (∃a23:Addr,gk.a=some a23∧((0:Int)≤(aE
 ((gk.len:Int)-1))∧(aE ((gk.len:Int)-1))<(gk.len:Int))∧bR dR ((a23.add (Int.toNat (aE ((gk.len:Int)-1))*6)).add 1) fun zT=>ar dR (((a23.add (Int.toNat (aE ((gk.len:Int)-1))*6)).add 1).add 1) fun kl=>ar dR
 (((a23.add (Int.toNat (aE ((gk.len:Int)-1))*6)).add 1).add 2) fun fH=>ar dR (((a23.add (Int.toNat (aE ((gk.len:Int)-1))*6)).add 1).add 3) fun dd=>Lm dR cZ zT kl fH dd Q_) (Q_ dR)) (fun fk=>bR fk (ai cZ) fun
 Xj=>ar fk (Addr.add (ai cZ) 1) fun ic=>ar fk (Addr.add (ai cZ) 2) fun c9=>ar fk (Addr.add (ai cZ) 3) fun kV=>fC F.yK #[.agg #[.bool Xj, .slice ic.a ic.len ic.cap, .slice c9.a c9.len c9.cap, .slice kV.a
 kV.len kV.cap], .slice key.a key.len key.cap, .slice val.a val.len val.cap] fk fun Jq km eE gf Xk eO=>az (eO.alloc dA) fun ek=>cT ek (ai eO) [.bool Jq, .slice km.a km.len km.cap, .slice eE.a eE.len eE.cap,
 .slice gf.a gf.len gf.cap]∧(4:Nat)=4∧az (setCells ek (ai eO) 0 [.bool Jq, .slice km.a km.len km.cap, .slice eE.a eE.len eE.cap, .slice gf.a gf.len gf.cap]) fun gN=>aF (!Xk) (Q (.int .i64 4) gN) (bR gN (ai eO)
 fun uQ=>ar gN (Addr.add (ai eO) 1) fun iZ=>ar gN (Addr.add (ai eO) 2) fun g9=>ar gN (Addr.add (ai eO) 3) fun qd=>bj F.xK #[.pointer t, .slice gk.a gk.len gk.cap, .agg #[.bool uQ, .slice iZ.a iZ.len
 iZ.cap, .slice g9.a g9.len g9.cap, .slice qd.a qd.len qd.cap]] gN fun auq dI=>Q (.int .i64 auq) dI))))))
def A.BO:bL:=(.s .r (.s (.c1 (.s (.gB [.run, .run, .run, .split 3, .run, .run, .run, .run, .pure 3]) (.c (.s .r .l) (.s (.eL 11 true ⟨[0,1,2,4,8,0,32,64,128,256,512,1040,2064],[0,1,2,4,8,0,32,64,128,
 256,512,1040,2048]⟩ [67108864,134217728,268435456,536870912,1073741824,2147483648,4294967296,8589934592,17179869184,34359738368,68719476736,137438953472,33554432] [1,67108864,134217728,268435456,536870912,1,2147483648,
 4294967296,8589934592,17179869184,34359738368,69793218560,137438953472] (.take 0 (.take 1 (.take 2 (.take 3 (.take 5 (.take 6 (.take 7 (.take 8 (.take 9 (.take 10 (.cS 4 (.tail [.run, .run]))))))))))))) (.c (.s .r .l) .l))))) (.s .r
 (.s a7 (.s .r (.s (.lO [] [0,1,2,7,9] (.s .r (.c .r .l))) iS))))))
theorem W.apT (t:Option Addr) (key:ab) (val:ab) (w:World) (Q:Value→World→Prop) (h:W.BO t key val w Q):aP Tryz.prog F.BO #[.pointer t, .slice key.a key.len key.cap, .slice val.a val.len val.cap] w Q:=okF A.BO Tryz.func26 (by kernel_rfl) (by kernel_rfl) h
def W.zL (c:Option Addr) (w:World) (Q:Value→World→Prop):Prop:=aF (Option.isNone c) (Q (.int .i64 1) w) (dZ F.Ej #[.pointer c] w fun bS ag=>∃ (Xl:Int→World→Prop) (af0:Int→World→Nat),Xl
 0 ag∧∀ (n6:Int) (aS:World),Xl n6 aS→aF (decide (n6<(bS.len:Int))) (∃iw:Addr,bS.a=some iw∧bc n6 bS.len∧bD aS (iw.add (Int.toNat n6*1)) fun n9=>xk F.xh #[.pointer c, .int .i64 n9] aS fun MQ b3=>az
 (b3.drew) fun b4=>∃kU:Addr,c=some kU∧¬False∧∃MR:Option Addr,b4.cell? kU=some (.pointer MR)∧∃nh:Addr,MQ=some nh∧¬False∧ar b4 (nh.add 5) fun gC=>bj F.AP #[.pointer MR, .int .i64
 n9, .slice gC.a gC.len gC.cap] b4 fun n20 e6=>aF (n20 !=0) (Q (.int .i64 n20) e6) (∃kz:Addr,MQ=some kz∧st e6 (kz.add 1) (.bool false) fun cF=>Xl (aE (n6+1)) cF∧af0 (aE (n6+1)) cF<af0 n6 aS)) (∃a23:Addr,c
 =some a23∧∃af1:Option Addr,aS.cell? a23=some (.pointer af1)∧bj F.Ei #[.pointer af1] aS fun n27 fM=>Q (.int .i64 n27) fM))
def A.zL:bL:=(.s .r (.s a7 (.s (.s .r (.c1 (.loop [(12,(.int .i64))] [0,10,11] (.s .r (.s (.c .l .l) (.s (.c1 (.s .r (.s .r (.s (.s (.eL 9 false ⟨[0,1,2,4,0,0,32,64,128,280,1023],[0,1,2,4,0,0,32,64,
 128,280,512]⟩ [524288,1048576,2097152,4194304,8388608,16777216,33554432,67108864,134217728,268435456,64] [1,524288,1048576,2097152,16,32,16777216,33554432,67108864,146800640,268435456] (.take 0 (.take 1 (.take 2 (.take
 3 (.take 4 (.take 5 (.take 6 (.take 7 (.take 8 (.tail [.run, .run]))))))))))) a7) .r)))) .r)))))) (.s .r .l))))
theorem W.asI (c:Option Addr) (w:World) (Q:Value→World→Prop) (h:W.zL c w Q):aP Tryz.prog F.zL #[.pointer c] w Q:=okF A.zL Tryz.func32 (by kernel_rfl) (by kernel_rfl) h
def W.Dz (s:Option Addr) (w:World) (Q:Value→World→Prop):Prop:=aF (Option.isNone s) (Q (.slice none 0 0) w) (∃a7:Addr,s=some a7∧bD w a7 fun c7=>∃ (j0:ab→Int→World→Prop) (mT:ab→Int→World→
 Nat),j0 ⟨none,0,0⟩ 0 w∧∀ (bE:ab) (n6:Int) (aS:World),j0 bE n6 aS→aF (decide (n6<c7)) (de (fun sB:ab→World→Prop=>∃a9:Addr,s=some a9∧ar aS (a9.add 1) fun fW=>bk F.uj #[.slice fW.a fW.len
 fW.cap, .int .i64 n6] aS fun x2 cf=>aF x2 (OZ cf n6 bE sB) (sB bE cf)) (fun (gC:ab) e6=>j0 gC (aE (n6+1)) e6∧mT gC (aE (n6+1)) e6<mT bE n6 aS)) (Q (.slice bE.a bE.len bE.cap) aS))
def A.Dz:bL:=(.s .r (.s a7 (.s .r (.s (.s .r (.c1 (.loop [(3, .slice),(11,(.int .i64))] [0,10] (.s .r (.s (.c .l .l) (.s (.lO [(3, .slice)] [0,10,11] (.c1 (.s .r (.s .r (.c .r .l))))) .r)))))) (.s .r .l)))))
theorem W.amN (s:Option Addr) (w:World) (Q:Value→World→Prop) (h:W.Dz s w Q):aP Tryz.prog F.Dz #[.pointer s] w Q:=okF A.Dz Tryz.func33 (by kernel_rfl) (by kernel_rfl) h
def W.xg (d:Option Addr) (i:Int) (w:World) (Q:Value→World→Prop):Prop:=bk F.AM #[.pointer d, .int .i64 i] w fun eT ag=>aF (!eT) (Q (.tuple #[.slice none 0 0, .int .i64 1]) ag) (∃a4:Addr,d=some
 a4∧bk F.y2 #[.pointer (some a4), .int .i64 1] ag fun k3 bO=>aF k3 (Q (.tuple #[.slice none 0 0, .int .i64 3]) bO) (rK F.AN #[.pointer d, .int .i64 i] bO fun rK cd=>az (cd.alloc pR) fun cf=>cT cf (ai
 cd) (Array.toList rK)∧Array.size rK=256∧az (setCells cf (ai cd) 0 (Array.toList rK)) fun cy=>Q (.tuple #[.slice (bh (some (ai cd)) 1 0 256) (256-0) (256-0), .int .i64 0]) cy))
def A.xg:bL:=(.s .r (.s (.c1 mj) (.s .r (.s .r .l))))
theorem W.ala (d:Option Addr) (i:Int) (w:World) (Q:Value→World→Prop) (h:W.xg d i w Q):aP Tryz.prog F.xg #[.pointer d, .int .i64 i] w Q:=okF A.xg Tryz.func34 (by kernel_rfl) (by kernel_rfl) h
def W.BT (t:Option Addr) (w:World) (Q:Value→World→Prop):Prop:=aF (Option.isNone t) (Q (.tuple #[.int .i64 0, .int .i64 0]) w) (az (w.drew) fun ag=>∃cQ:Addr,t=some cQ∧¬False∧bD ag (cQ.add 3) fun bw=>∃
 a4:Addr,t=some a4∧¬False∧bD ag (a4.add 4) fun n5=>Q (.tuple #[.int .i64 bw, .int .i64 n5]) ag)
def A.BT:bL:=(.s .r (.s a7 (.s (.eL 9 false ⟨[0,1,2,4,0,16,32,64,15,511],[0,1,2,4,0,16,32,64,8,128]⟩ [64,128,256,512,1024,2048,4096,8192,4,8] [1,64,128,256,1,1024,2048,4096,512,8192]
 (.take 0 (.take 1 (.take 2 (.take 3 (.take 4 (.take 5 (.take 6 (.take 7 (.take 8 (.tail [.run]))))))))))) .l)))
theorem W.aqX (t:Option Addr) (w:World) (Q:Value→World→Prop) (h:W.BT t w Q):aP Tryz.prog F.BT #[.pointer t] w Q:=okF A.BT Tryz.func36 (by kernel_rfl) (by kernel_rfl) h
def W.Dd (f:Option Addr) (w:World) (Q:Value→World→Prop):Prop:=∃ (g2:Int→World→Prop) (ja:Int→World→Nat),g2 0 w∧∀ (bw:Int) (bz:World),g2 bw bz→aF (decide (bw<4)) (∃a5:Addr,f=some a5∧
 ((0:Int)≤bw∧bw<((4:Nat):Int))∧st bz (Addr.add a5 (Int.toNat bw*1)) (.int .i64 (-1)) fun bg=>g2 (aE (bw+1)) bg∧ja (aE (bw+1)) bg<ja bw bz) (Q (.tuple #[]) bz)
def A.Dd:bL:=(.s .r (.c1 (.loop [(3,(.int .i64))] [0] cQ)))
theorem W.alk (f:Option Addr) (w:World) (Q:Value→World→Prop) (h:W.Dd f w Q):aP Tryz.prog F.Dd #[.pointer f] w Q:=okF A.Dd Tryz.func39 (by kernel_rfl) (by kernel_rfl) h
def W.AM (d:Option Addr) (i:Int) (w:World) (Q:Value→World→Prop):Prop:=de (fun dJ:Bool→World→Prop=>aF ((!(Option.isNone d))&&(decide (i≥0))) (∃cQ:Addr,d=some cQ∧ar w (cQ.add 4) fun bS=>dJ
 (decide (i<(bS.len:Int))) w) (dJ false w)) (fun (eQ:Bool) bO=>Q (.bool eQ) bO)
def A.AM:bL:=lG
theorem W.ak5 (d:Option Addr) (i:Int) (w:World) (Q:Value→World→Prop) (h:W.AM d i w Q):aP Tryz.prog F.AM #[.pointer d, .int .i64 i] w Q:=okF A.AM Tryz.func43 (by kernel_rfl) (by kernel_rfl) h
def W.y2 (f:Option Addr) (sK:Int) (w:World) (Q:Value→World→Prop):Prop:=∃a7:Addr,f=some a7∧((0:Int)≤sK∧sK<((4:Nat):Int))∧bD w (Addr.add a7 (Int.toNat sK*1)) fun c7=>aF (c7==
 (-1)) (Q (.bool false) w) (aF (c7==0) (∃a3:Addr,f=some a3∧((0:Int)≤sK∧sK<((4:Nat):Int))∧st w (Addr.add a3 (Int.toNat sK*1)) (.int .i64 (-1)) fun bz=>Q (.bool true) bz) (az (w.drew) fun bO=>∃iI:Addr,f
 =some iI∧((0:Int)≤sK∧sK<((4:Nat):Int))∧¬False∧bD bO (Addr.add iI (Int.toNat sK*1)) fun n7=>∃iw:Addr,f=some iw∧((0:Int)≤sK∧sK<((4:Nat):Int))∧st bO (Addr.add iw (Int.toNat sK*1))
 (.int .i64 (aE (n7-1))) fun bY=>Q (.bool false) bY))
def A.y2:bL:=(.s .r (.s (.s .r (.c1 (.s .r (.c (.s .r .l) (.s .r iw))))) (.s (.eL 7 false ⟨[0,0,1,6,8,16,1,127,191],[0,0,1,6,8,16,1,66,160]⟩ [262144,524288,1048576,2097152,4194304,8388608,16777216,
 33554432,0] [1,2,262144,1572864,2097152,4194304,262144,17301504,41943040] (.take 0 (.take 1 (.take 2 (.take 3 (.take 4 (.take 5 (.take 6 (.tail [.run, .run]))))))))) (.s .r .l))))
theorem W.ak7 (f:Option Addr) (sK:Int) (w:World) (Q:Value→World→Prop) (h:W.y2 f sK w Q):aP Tryz.prog F.y2 #[.pointer f, .int .i64 sK] w Q:=okF A.y2 Tryz.func44 (by kernel_rfl) (by kernel_rfl) h
def W.AL (d:Option Addr) (w:World) (Q:Value→World→Prop):Prop:=aF (Option.isNone d) (Q (.int .i64 0) w) (∃a7:Addr,d=some a7∧ar w (a7.add 4) fun s2=>Q (.int .i64 (s2.len:Int)) w)
def A.AL:bL:=iS
theorem W.ak4 (d:Option Addr) (w:World) (Q:Value→World→Prop) (h:W.AL d w Q):aP Tryz.prog F.AL #[.pointer d] w Q:=okF A.AL Tryz.func45 (by kernel_rfl) (by kernel_rfl) h
def W.tq (j1:ab) (w:World) (Q:Value→World→Prop):Prop:=Q (.bool ((decide ((j1.len:Int)≥1))&&(decide ((j1.len:Int)≤24)))) w
def A.tq:bL:=iI
theorem W.apS (j1:ab) (w:World) (Q:Value→World→Prop) (h:W.tq j1 w Q):aP Tryz.prog F.tq #[.slice j1.a j1.len j1.cap] w Q:=okF A.tq Tryz.func57 (by kernel_rfl) (by kernel_rfl) h
def W.zc (t:Option Addr) (key:ab) (w:World) (Q:Value→World→Prop):Prop:=∃a7:Addr,t=some a7∧bD w (a7.add 3) fun c7=>∃a3:Addr,t=some a3∧bD w (a3.add 4) fun gi=>∃ (x5:ab→Int→Int→World→
 Prop) (Ez:ab→Int→Int→World→Nat),x5 ⟨none,0,0⟩ c7 gi w∧∀ (jg:ab) (n8:Int) (n9:Int) (b3:World),x5 jg n8 n9 b3→aF (decide (n9>0)) (q7 F.tb #[.pointer t, .int .i64 n8, .bool (n9==1)] b3 fun x2 dw
 fp dD n17 cf=>az (cf.alloc dA) fun e6=>cT e6 (ai cf) [.bool x2, .slice dw.a dw.len dw.cap, .slice fp.a fp.len fp.cap, .slice dD.a dD.len dD.cap]∧(4:Nat)=4∧az (setCells e6 (ai cf) 0 [.bool x2, .slice
 dw.a dw.len dw.cap, .slice fp.a fp.len fp.cap, .slice dD.a dD.len dD.cap]) fun dk=>aF (n17 !=0) (Q (.tuple #[.slice none 0 0, .int .i64 n17]) dk) (bR dk (ai cf) fun tF=>ar dk (Addr.add (ai cf) 1) fun eP=>ar dk
 (Addr.add (ai cf) 2) fun f_=>ar dk (Addr.add (ai cf) 3) fun ec=>∃tc:Array Value,Sem.run Tryz.prog (Instr.build ah.uu #[(0, .int .i64 n8),(1, .agg #[.bool tF, .slice eP.a eP.len eP.cap, .slice f_.a f_.len f_.cap,
 .slice ec.a ec.len ec.cap])]) dk= .ok (.agg tc) dk∧az (dk.alloc (.cells #[.int .i64 0, .bool false, .slice none 0 0, .slice none 0 0, .slice none 0 0, .int .i64 0] ah.uu)) fun fM=>cT fM (ai dk) (Array.toList tc)
 ∧Array.size tc=6∧az (setCells fM (ai dk) 0 (Array.toList tc)) fun cv=>de (fun MS:Int→World→Prop=>aF (decide (n9>1)) (bR cv (ai cf) fun D_=>ar cv (Addr.add (ai cf) 1) fun iQ=>ar cv (Addr.add (ai cf) 2) fun
 iO=>ar cv (Addr.add (ai cf) 3) fun ic=>bj F.vh #[.agg #[.bool D_, .slice iQ.a iQ.len iQ.cap, .slice iO.a iO.len iO.cap, .slice ic.a ic.len ic.cap], .slice key.a key.len key.cap] cv fun n34 m6=>st m6 (Addr.add
 (ai dk) 5) (.int .i64 n34) fun lv=>ar lv (Addr.add (ai cf) 3) fun jM=>bD lv (Addr.add (ai dk) 5) fun n37=>∃Ce:Addr,jM.a=some Ce∧bc n37 jM.len∧bD lv (Ce.add (Int.toNat n37*1)) fun n39=>MS n39 lv) (MS n8
 cv)) (fun (n40:Int) ek=>∃af2:List Value,eH ek (ai dk) 0 6=some af2∧∃hW:ab,∃ny:World,Sem.run Tryz.prog (Instr.buildSlice ah.FI 1 #[(0, .agg af2.toArray)]) ek= .ok (.slice hW.a hW.len hW.cap) ny
 ∧∃g9:ab,∃hF:World,Sem.run Tryz.prog (Builtin.append_ #[ah.FI,ah.FI] ah.FI #[.slice jg.a jg.len jg.cap, .slice hW.a hW.len hW.cap]) ny= .ok (.slice g9.a g9.len g9.cap) hF∧x5 g9 n40 (aE
 (n9-1)) hF∧Ez g9 n40 (aE (n9-1)) hF<Ez jg n8 n9 b3))) (Q (.tuple #[.slice jg.a jg.len jg.cap, .int .i64 0]) b3)
def A.zc:bL:=(.s .r (.s .r (.s .r (.s (.s .r (.c1 (.loop [(6, .slice),(7,(.int .i64)),(8,(.int .i64))] [0,1] (.s (.s .r (.c .l .l)) (.s (.c1 (.s .r (.s a7 (.s .r (.s (.lO [(7,(.int .i64))] [0,1,6,8,11] (.s .r (.c
 (.s .r .r) .l))) .r))))) .r))))) (.s .r .l)))))
theorem W.am_ (t:Option Addr) (key:ab) (w:World) (Q:Value→World→Prop) (h:W.zc t key w Q):aP Tryz.prog F.zc #[.pointer t, .slice key.a key.len key.cap] w Q:=okF A.zc Tryz.func58 (by kernel_rfl) (by kernel_rfl) h
def W.yG (cN:Bool) (br:ab) (bt:ab) (bu:ab) (key:ab) (w:World) (Q:Value→World→Prop):Prop:=az (w.alloc (.cells #[.bool cN, .slice br.a br.len br.cap, .slice bt.a bt.len
 bt.cap, .slice bu.a bu.len bu.cap] ah.cR)) fun ag=>bR ag (ai w) fun cG=>ar ag (Addr.add (ai w) 1) fun bS=>ar ag (Addr.add (ai w) 2) fun cO=>ar ag (Addr.add (ai w) 3) fun bE=>dQ F.rJ #[.agg #[.bool cG,
 .slice bS.a bS.len bS.cap, .slice cO.a cO.len cO.cap, .slice bE.a bE.len bE.cap], .slice key.a key.len key.cap] ag fun n8 jB bg=>Q (.tuple #[.int .i64 n8, .bool jB]) bg
def A.yG:bL:=(.s .r (.s .r .l))
theorem W.aki (cN:Bool) (br:ab) (bt:ab) (bu:ab) (key:ab) (w:World) (Q:Value→World→Prop) (h:W.yG cN br bt bu key w Q):aP Tryz.prog F.yG #[.agg #[.bool cN, .slice br.a br.len br.cap, .slice bt.a bt.len bt.cap, .slice bu.a bu.len bu.cap], .slice key.a key.len key.cap] w Q:=okF A.yG Tryz.func59 (by kernel_rfl) (by kernel_rfl) h
def W.yM (cN:Bool) (br:ab) (bt:ab) (bu:ab) (key:ab) (w:World) (Q:Value→World→Prop):Prop:=az (w.alloc (.cells #[.bool cN, .slice br.a br.len br.cap, .slice bt.a bt.len
 bt.cap, .slice bu.a bu.len bu.cap] ah.cR)) fun ag=>az (ag.alloc dA) fun aw=>bR aw (ai w) fun eT=>ar aw (Addr.add (ai w) 1) fun cO=>ar aw (Addr.add (ai w) 2) fun bE=>ar aw (Addr.add (ai w) 3) fun dj=>dQ
 F.rJ #[.agg #[.bool eT, .slice cO.a cO.len cO.cap, .slice bE.a bE.len bE.cap, .slice dj.a dj.len dj.cap], .slice key.a key.len key.cap] aw fun n9 nH aS=>bR aS (ai w) fun qa=>de (fun qe:Bool→World→Prop=>Hx qa qe aS
 w) (fun (tF:Bool) dR=>aF (tF||(!nH)) (cT dR (ai ag) [.bool false, .slice none 0 0, .slice none 0 0, .slice none 0 0]∧(4:Nat)=4∧az (setCells dR (ai ag) 0 [.bool false, .slice none 0 0, .slice none 0 0, .slice none 0
 0]) fun cF=>sq cF ag Q) (bR dR (ai w) fun aur=>ar dR (Addr.add (ai w) 1) fun e9=>ar dR (Addr.add (ai w) 2) fun iQ=>ar dR (Addr.add (ai w) 3) fun iO=>nq F.fO #[.agg #[.bool aur, .slice e9.a e9.len e9.cap, .slice
 iQ.a iQ.len iQ.cap, .slice iO.a iO.len iO.cap]] dR fun EA gS ga jM fu=>az (fu.alloc dA) fun lr=>cT lr (ai fu) [.bool EA, .slice gS.a gS.len gS.cap, .slice ga.a ga.len ga.cap, .slice jM.a jM.len jM.cap]∧
 (4:Nat)=4∧az (setCells lr (ai fu) 0 [.bool EA, .slice gS.a gS.len gS.cap, .slice ga.a ga.len ga.cap, .slice jM.a jM.len jM.cap]) fun iu=>ar iu (Addr.add (ai fu) 1) fun gf=>dZ F.yF
 #[.slice gf.a gf.len gf.cap, .int .i64 n9, .int .i64 (aE (n9+1))] iu fun m7 ux=>st ux (Addr.add (ai fu) 1) (.slice m7.a m7.len m7.cap) fun iv=>ar iv (Addr.add (ai fu) 2) fun iZ=>dZ F.yF
 #[.slice iZ.a iZ.len iZ.cap, .int .i64 n9, .int .i64 (aE (n9+1))] iv fun nj jW=>st jW (Addr.add (ai fu) 2) (.slice nj.a nj.len nj.cap) fun zU=>dp zU fu ag Q))
def A.yM:bL:=(.s .r (.s .r (.s (.s (.gB [.run, .run, .run, .run, .split 3, .run, .run, .run, .run, .pure 2]) (.c (.s .r .l) .l)) (.s .r a4))))
theorem W.akx (cN:Bool) (br:ab) (bt:ab) (bu:ab) (key:ab) (w:World) (Q:Value→World→Prop) (h:W.yM cN br bt bu key w Q):aP Tryz.prog F.yM #[.agg #[.bool cN, .slice br.a br.len br.cap, .slice bt.a bt.len bt.cap, .slice bu.a bu.len bu.cap], .slice key.a key.len key.cap] w Q:=okF A.yM Tryz.func60 (by kernel_rfl) (by kernel_rfl) h
def W.xK (t:Option Addr) (lM:ab) (uT:Bool) (n_:ab) (oa:ab) (ob:ab) (w:World) (Q:Value→World→Prop):Prop:=az (w.alloc (.cells #[.bool uT, .slice n_.a n_.len
 n_.cap, .slice oa.a oa.len oa.cap, .slice ob.a ob.len ob.cap] ah.cR)) fun ag=>az (ag.alloc (.cells #[.int .i64 0] ah.auh)) fun aw=>az (aw.drew) fun a8=>∃mU:Nat→Prop,∃
 a5:Addr,t=some a5∧¬mU (a5.add 1).block∧∃m9:Option Addr,a8.cell? (a5.add 1)=some (.pointer m9)∧∃lG:Addr,t=some lG∧¬mU (lG.add 4).block∧bD a8 (lG.add 4) fun n8=>bj F.y_ #[.pointer m9] a8 fun n11 bY
 =>ao mU a8 bY∧aF (decide (n11<(aE ((aE (2*n8))+3)))) (st bY (ai ag) (.int .i64 2) fun cy=>bD cy (ai ag) fun n13=>Q (.int .i64 n13) cy) (az (bY.alloc (.cells #[.pointer t, .slice none 0 0, .slice none 0 0] ah.aaC))
 fun dB=>az (dB.alloc (.cells #[.pointer none] ah.aui)) fun ep=>st ep (ai dB) (.pointer (some (ai bY))) fun cZ=>∃MT:Option Addr,cZ.cell? (ai dB)=some (.pointer MT)∧bR cZ (ai w) fun r5=>ar cZ (Addr.add
 (ai w) 1) fun eB=>ar cZ (Addr.add (ai w) 2) fun fX=>ar cZ (Addr.add (ai w) 3) fun eP=>oy F.xG #[.pointer MT, .slice lM.a lM.len lM.cap, .agg #[.bool r5, .slice eB.a eB.len eB.cap, .slice fX.a fX.len
 fX.cap, .slice eP.a eP.len eP.cap]] cZ fun n24 n25 n26 cF=>st cF (ai ag) (.int .i64 n26) fun mY=>bD mY (ai ag) fun n28=>aF (n28 !=0) (bD mY (ai ag) fun n29=>st mY (ai ag) (.int .i64 n29) fun fN=>Jn Tryz.prog
 F.zx #[.pointer (some (ai ag)), .pointer (some (ai dB))] fN fun fu=>bD fu (ai ag) fun n32=>Q (.int .i64 n32) fu) (az (mY.drew) fun eo=>¬False∧∃MU:Option Addr,eo.cell? (ai dB)=some (.pointer MU)∧¬
 False∧∃af3:Option Addr,eo.cell? (ai dB)=some (.pointer af3)∧∃a36:Addr,af3=some a36∧¬False∧ar eo (a36.add 2) fun km=>bm F.BA #[.pointer MU, .slice km.a km.len km.cap] eo fun iu=>∃MV:Addr,
 t=some MV∧st iu (MV.add 3) (.int .i64 n24) fun ek=>∃af4:Addr,t=some af4∧st ek (af4.add 4) (.int .i64 n25) fun iv=>st iv (ai ag) (.int .i64 0) fun ny=>Jn Tryz.prog F.zx #[.pointer (some (ai ag)),
 .pointer (some (ai dB))] ny fun jW=>bD jW (ai ag) fun aus=>Q (.int .i64 aus) jW))
def A.xK:bL:=(.s .r (.s (.s (.eL 11 true ⟨[0,1,2,4,8,0,32,64,128,256,512,1040],[0,1,2,4,8,0,32,64,128,256,512,1040]⟩ [1024,2048,4096,8192,16384,32768,65536,131072,262144,524288,1048576,
 2097152] [1,1024,2048,4096,8192,1,32768,65536,131072,262144,524288,1064960] (.take 0 (.take 1 (.take 2 (.take 3 (.take 5 (.take 6 (.take 7 (.take 8 (.take 9 (.take 10 (.cS 4 (.tail [.run]))))))))))))) (.c (.s .r .l) .l)) (.s .r
 (.s .l (.s .r (.s a7 (.s (.eL 5 false ⟨[0,0,2,4,8,17],[0,0,2,4,8,17]⟩ [137438953472,274877906944,549755813888,1099511627776,2199023255552,4398046511104] [128,128,274877906944,549755813888,1099511627776,2336462209024]
 (.take 0 (.take 1 (.take 2 (.take 3 (.take 4 (.tail [.run]))))))) (.s .r (.s .r .l)))))))))
theorem W.aut (t:Option Addr) (lM:ab) (uT:Bool) (n_:ab) (oa:ab) (ob:ab) (w:World) (Q:Value→World→Prop):W.xK t lM uT n_ oa ob w Q=W8 Tryz.prog aI A.xK Tryz.f61 [.pointer t, .slice lM.a lM.len lM.cap, .agg #[.bool uT, .slice n_.a n_.len n_.cap, .slice oa.a oa.len oa.cap, .slice ob.a ob.len ob.cap]] w Q:=by kernel_rfl
theorem W.aps (t:Option Addr) (lM:ab) (uT:Bool) (n_:ab) (oa:ab) (ob:ab) (w:World) (Q:Value→World→Prop) (h:W.xK t lM uT n_ oa ob w Q):Calls Tryz.prog F.xK #[.pointer t, .slice lM.a lM.len lM.cap, .agg #[.bool uT, .slice n_.a n_.len n_.cap, .slice oa.a oa.len oa.cap, .slice ob.a ob.len ob.cap]] w fun e ag=>∃v,e= .returned v∧Q v ag:=
  at9 Xa Tryz.func61 (by kernel_rfl) (Eq.mp (W.aut t lM uT n_ oa ob w Q) h)
def W.BS (t:Option Addr) (no:Int) (level:Int) (ix:ab) (f:qB) (w:World) (Q:Value→World→Prop):Prop:=q7 F.tb #[.pointer t, .int .i64 no, .bool (level==1)] w fun eT cO bE dj n7 ag=>az
 (ag.alloc dA) fun cd=>cT cd (ai ag) [.bool eT, .slice cO.a cO.len cO.cap, .slice bE.a bE.len bE.cap, .slice dj.a dj.len dj.cap]∧(4:Nat)=4∧az (setCells cd (ai ag) 0 [.bool eT, .slice cO.a cO.len cO.cap, .slice bE.a bE.len
 bE.cap, .slice dj.a dj.len dj.cap]) fun bY=>aF (n7 !=0) (Q (.tuple #[.bool false, .int .i64 n7]) bY) (bR bY (ai ag) fun nH=>ar bY (Addr.add (ai ag) 1) fun d_=>ar bY (Addr.add (ai ag) 2) fun ft=>ar bY (Addr.add (ai ag) 3) fun g1
 =>sk Tryz.prog f.f∧Calls Tryz.prog f.f (f.pre++ #[.int .i64 no, .agg #[.bool nH, .slice d_.a d_.len d_.cap, .slice ft.a ft.len ft.cap, .slice g1.a g1.len g1.cap]]++f.cap) bY fun Xf dB=>∃af5:Bool,Xf= .returned
 (.bool af5)∧aF (!af5) (Q (.tuple #[.bool false, .int .i64 0]) dB) (aF (level==1) (Q (.tuple #[.bool true, .int .i64 0]) dB) (az (dB.drew) fun dK=>∃Xm:Nat→Prop,¬Xm (Addr.add (ai ag) 3).block∧ar dK (Addr.add (ai ag) 3)
 fun eB=>¬Xm ((ai ag):Addr).block∧bR dK (ai ag) fun tF=>ar dK (Addr.add (ai ag) 1) fun eP=>ar dK (Addr.add (ai ag) 2) fun f_=>ar dK (Addr.add (ai ag) 3) fun ec=>bj F.vh #[.agg #[.bool tF, .slice eP.a eP.len
 eP.cap, .slice f_.a f_.len f_.cap, .slice ec.a ec.len ec.cap], .slice ix.a ix.len ix.cap] dK fun n26 cI=>ao Xm dK cI∧((0:Int)≤n26∧n26≤(eB.len:Int))∧∃ (Xn:Int→World→Prop) (af6:Int→World→
 Nat),Xn 0 cI∧∀ (n29:Int) (fN:World),Xn n29 fN→aF (decide (n29<(((eB.len-(Int.toNat n26)):Nat):Int))) (∃n2:Addr,(bh eB.a 1 (Int.toNat n26) eB.cap)=some n2∧((0:Int)≤n29∧n29<(((eB.len-(Int.toNat
 n26)):Nat):Int))∧bD fN (n2.add (Int.toNat n29*1)) fun n32=>IF F.BS #[.pointer t, .int .i64 n32, .int .i64 (aE (level-1)), .slice ix.a ix.len ix.cap, .func (.func f.f) f.pre f.cap] fN fun EB n36 eo
 =>aF ((n36 !=0)||(!EB)) (Q (.tuple #[.bool EB, .int .i64 n36]) eo) (Xn (aE (n29+1)) eo∧af6 (aE (n29+1)) eo<af6 n29 fN)) (Q (.tuple #[.bool true, .int .i64 0]) fN))))
def A.BS:bL:=(.s .r (.s .r (.s a7 (.s a7 (.s a7 (.s (.s (.eL 8 true ⟨[0,1,0,0,12,18,32,0],[0,1,0,0,12,18,32,0]⟩ [68719476736,137438953472,274877906944,549755813888,1099511627776,2199023255552,
 4398046511104,8796093022208] [4096,68719476736,4096,8,824633720832,1236950581248,2199023255552,0] (.take 0 (.take 1 (.take 2 (.take 3 (.take 7 (.cS 4 (.take 5 (.take 6 .fin))))))))) (.c1 (.loop [(43,(.int .i64))] [0,2,3,4,41,
 42] (.s .r (.s (.c .l .l) (.s (.c1 (.s .r (.s .r kD))) .r)))))) (.s .r .l)))))))
theorem W.aqv (t:Option Addr) (no:Int) (level:Int) (ix:ab) (f:qB) (w:World) (Q:Value→World→Prop) (h:W.BS t no level ix f w Q):aP Tryz.prog F.BS #[.pointer t, .int .i64 no, .int .i64 level, .slice ix.a ix.len ix.cap, .func (.func f.f) f.pre f.cap] w Q:=okF A.BS Tryz.func62 (by kernel_rfl) (by kernel_rfl) h
def W.xP (Xo:Int) (cN:Bool) (br:ab) (bt:ab) (bu:ab) (x:Addr) (tG:Addr) (Cf:Addr) (Rh:Addr) (w:World) (Q:Value→World→Prop):Prop:=az (w.alloc (.cells #[.bool cN, .slice
 br.a br.len br.cap, .slice bt.a bt.len bt.cap, .slice bu.a bu.len bu.cap] ah.cR)) fun ag=>ar ag (Addr.add (ai w) 1) fun s2=>∃ (j0:Int→World→Prop) (mT:Int→World→Nat),j0 0 ag∧∀ (n5
 :Int) (bg:World),j0 n5 bg→aF (decide (n5<(s2.len:Int))) (∃lG:Addr,s2.a=some lG∧bc n5 s2.len∧ar bg (lG.add (Int.toNat n5*1)) fun fw=>ar bg x fun dn=>de (fun x6:Bool→World→Prop=>aF (decide ((dn.len:Int)>0))
 (ar bg x fun d_=>bj F.o1 #[.slice fw.a fw.len fw.cap, .slice d_.a d_.len d_.cap] bg fun n14 cy=>x6 (decide (n14≥0)) cy) (x6 false bg)) (fun (vQ:Bool) cZ=>de (fun af7:Bool→World→Prop=>aF vQ (bR cZ (ai
 w) fun r5=>af7 r5 cZ) (af7 false cZ)) (fun (zB:Bool) cC=>aF zB (Q (.bool false) cC) (de (fun MW:World→Prop=>bR cC (ai w) fun x4=>de (fun MX:Bool→World→Prop=>aF x4 (ar cC tG fun rn=>bj F.o1
 #[.slice fw.a fw.len fw.cap, .slice rn.a rn.len rn.cap] cC fun n27 fM=>MX (decide (n27≥0)) fM) (MX false cC)) (fun (D_:Bool) fk=>aF D_ (az (fk.drew) fun fN=>∃Ri:Nat→Prop,¬Ri Cf.block∧ar fN Cf fun c9=>
 ¬Ri (Addr.add (ai w) 2).block∧ar fN (Addr.add (ai w) 2) fun kV=>∃Jr:Addr,kV.a=some Jr∧bc n5 kV.len∧¬Ri (Jr.add (Int.toNat n5*1)).block∧ar fN (Jr.add (Int.toNat n5*1)) fun ga=>∃af8:Array Value,(∀lr:
 World,Sem.run Tryz.prog (Instr.build ah.m_ #[(0, .slice fw.a fw.len fw.cap),(1, .slice ga.a ga.len ga.cap)]) lr= .ok (.agg af8) lr)∧∃eE:ab,∃mx:World,Sem.run Tryz.prog (Instr.buildSlice ah.e2 1 #[(0, .agg
 af8)]) fN= .ok (.slice eE.a eE.len eE.cap) mx∧ao Ri fN mx∧∃e8:ab,∃ek:World,Sem.run Tryz.prog (Builtin.append_ #[ah.e2,ah.e2] ah.e2 #[.slice c9.a c9.len c9.cap, .slice eE.a eE.len
 eE.cap]) mx= .ok (.slice e8.a e8.len e8.cap) ek∧(∃u:Value,ek.cell? Cf=some u)∧ek.frozen? Cf=false∧az (ek.setCell Cf (.slice e8.a e8.len e8.cap)) fun gN=>MW gN) (MW fk))) (fun iv=>ar iv Cf fun iZ=>
 bD iv Rh fun Xp=>aF ((iZ.len:Int)==Xp) (Q (.bool false) iv) (j0 (aE (n5+1)) iv∧mT (aE (n5+1)) iv<mT n5 bg)))))) (Q (.bool true) bg)
def A.xP:bL:=(.s .r (.s (.s .r (.c1 (.loop [(14,(.int .i64))] [2,3,4,5,7,12,13] (.s .r (.s (.c .l .l) (.s (.c1 (.s .r (.s (.s (.gB [.run, .run, .run, .run, .split 4, .run, .run, .run, .run, .run, .split 2]) (.c
 (.s .r .l) .l)) (.s (.lO [] [2,3,4,5,7,12,13,14] (.s (.gB [.run, .run, .run, .split 4]) (.c (.eL 9 true ⟨[0,0,0,4,0,24,32,66,128,257,1023],[0,0,0,4,0,24,32,66,128,257,512]⟩ [1099511627776,2199023255552,
 4398046511104,8796093022208,17592186044416,35184372088832,70368744177664,140737488355328,281474976710656,562949953421312,0] [16,1024,128,4398046511104,512,26388279066624,35184372088832,72567767433216,140737488355328,
 282574488338432,562949953421328] (.take 0 (.take 1 (.take 2 (.take 3 (.take 4 (.take 5 (.take 6 (.take 7 (.cS 8 (.tail [.run, .run]))))))))))) .l))) a7)))) .r)))))) (.s .r .l)))
theorem W.aql (Xo:Int) (cN:Bool) (br:ab) (bt:ab) (bu:ab) (x:Addr) (tG:Addr) (Cf:Addr) (Rh:Addr) (w:World) (Q:Value→World→Prop) (h:W.xP Xo cN br bt bu x tG Cf Rh w Q):aP Tryz.prog F.xP #[.int .i64 Xo, .agg #[.bool cN, .slice br.a br.len br.cap, .slice bt.a bt.len bt.cap, .slice bu.a bu.len bu.cap], .pointer (some x), .pointer (some tG), .pointer (some Cf), .pointer (some Rh)] w Q:=okF A.xP Tryz.func63 (by kernel_rfl) (by kernel_rfl) h
def W.y7 (d:Option Addr) (ax:Int) (w:World) (Q:Value→World→Prop):Prop:=aF (((Option.isNone d)||(decide (ax<8)))||(decide (ax>64))) (Q (.tuple #[.pointer none, .int .i64 1]) w) (((0:Int)≤ax
 ∧ax≤ax∧ax≤yq∧((48:Nat):Int)*ax≤140737488355328)∧az (w.alloc (.cells (pQ Tryz.prog ah.qo (Int.toNat ax)) ah.qo)) fun ag=>az (ag.alloc (.cells #[.pointer d, .slice (some (ai w))
 (Int.toNat ax) (Int.toNat ax), .int .i64 0] ah.ZY)) fun aw=>Q (.tuple #[.pointer (some (ai ag)), .int .i64 0]) aw)
def A.y7:bL:=(.s .r (.s (.s (.gB [.run, .run, .run, .pure 2, .run, .run, .run, .pure 2]) (.c (.s .r .l) .l)) (.s .r .l)))
theorem W.al2 (d:Option Addr) (ax:Int) (w:World) (Q:Value→World→Prop) (h:W.y7 d ax w Q):aP Tryz.prog F.y7 #[.pointer d, .int .i64 ax] w Q:=okF A.y7 Tryz.func65 (by kernel_rfl) (by kernel_rfl) h
end
section
set_option maxRecDepth 100000
def W.za (n:Int) (first:Int) (w:World) (Q:Value→World→Prop):Prop:=bk F.DA #[.int .i64 n] w fun eT ag=>aF (((!eT)||(decide (first<0)))||(decide (first>n))) (Q (.tuple #[.pointer none, .int .i64 1])
 ag) (bj F.DB #[.int .i64 n] ag fun n6 bz=>((0:Int)≤n6∧n6≤n6∧n6≤yq∧((1:Nat):Int)*n6≤140737488355328)∧az (bz.alloc (.cells (pQ Tryz.prog ah.uint8 (Int.toNat n6)) ah.uint8)) fun aS=>az (aS.alloc (.cells
 #[.int .i64 n, .slice (some (ai bz)) (Int.toNat n6) (Int.toNat n6), .slice none 0 0] ah.Dr)) fun cd=>∃ (zX:Int→World→Prop) (Ey:Int→World→Nat),zX 0 cd∧∀ (n11:Int) (cy:World),zX n11 cy→aF (decide (n11<
 first)) (∃kk:Addr,(some (ai aS):Option Addr)=some kk∧ar cy (kk.add 1) fun dw=>bm F.AX #[.slice dw.a dw.len dw.cap, .int .i64 n11] cy fun ep=>zX (aE (n11+1)) ep∧Ey (aE (n11+1)) ep<Ey n11 cy)
 (bm F.y9 #[.pointer (some (ai aS))] cy fun dK=>Q (.tuple #[.pointer (some (ai aS)), .int .i64 0]) dK))
def A.za:bL:=(.s .r (.s (.s (.gB [.run, .run, .run, .run, .pure 2, .run, .run, .run, .pure 3]) (.c (.s .r .l) .l)) (.s .r (.s (.s .r (.c1 (.loop [(27,(.int .i64))] [6,26] cQ))) (.s .r (.s .r .l))))))
theorem W.amV (n:Int) (first:Int) (w:World) (Q:Value→World→Prop) (h:W.za n first w Q):aP Tryz.prog F.za #[.int .i64 n, .int .i64 first] w Q:=okF A.za Tryz.func66 (by kernel_rfl) (by kernel_rfl) h
def W.y_ (s:Option Addr) (w:World) (Q:Value→World→Prop):Prop:=aF (Option.isNone s) (Q (.int .i64 0) w) (∃a7:Addr,s=some a7∧bD w a7 fun c7=>∃a3:Addr,s=some a3∧ar w (a3.add 1) fun cO=>∃ (x5:
 Int→Int→World→Prop) (Ez:Int→Int→World→Nat),x5 c7 0 w∧∀ (n7:Int) (n8:Int) (bY:World),x5 n7 n8 bY→aF (decide (n8<(cO.len:Int))) (az (bY.drew) fun b3=>∃MY:Nat→Prop,∃iS:Addr,s=some iS∧¬MY
 (iS.add 1).block∧ar b3 (iS.add 1) fun g1=>∃kU:Addr,g1.a=some kU∧bc n8 g1.len∧¬MY (kU.add (Int.toNat n8*1)).block∧iC b3 (kU.add (Int.toNat n8*1)) fun n15=>∃nh:Addr,s=some nh∧¬MY (nh.add
 2).block∧ar b3 (nh.add 2) fun gC=>∃oc:Addr,gC.a=some oc∧bc n8 gC.len∧¬MY (oc.add (Int.toNat n8*1)).block∧iC b3 (oc.add (Int.toNat n8*1)) fun n19=>bj F.Dx #[.int .u8 (Cz .u8 n15 n19)] b3
 fun n22 cC=>ao MY b3 cC∧x5 (aE (n7-n22)) (aE (n8+1)) cC∧Ez (aE (n7-n22)) (aE (n8+1)) cC<Ez n7 n8 bY) (Q (.int .i64 n7) bY))
def A.y_:bL:=(.s .r (.s a7 (.s .r (.s (.s .r (.c1 (.loop [(3,(.int .i64)),(16,(.int .i64))] [0,15] (.s .r (.s (.c .l .l) (.s (.c1 (.s .r (.eL 17 true ⟨[0,0,2,4,8,0,48,64,0,256,512,1024,0,6144,8192,
 16512,32768,65537,262143],[0,0,2,4,8,0,48,64,0,256,512,1024,0,6144,8192,16512,32768,65537,131073]⟩ [524288,1048576,2097152,4194304,8388608,16777216,33554432,67108864,134217728,268435456,536870912,1073741824,
 2147483648,4294967296,8589934592,17179869184,34359738368,68719476736,8] [8,1,1048576,2097152,4194304,16,25165824,33554432,1,134217728,268435456,536870912,16,3221225472,4294967296,8657043456,17179869184,34360262656,
 68719476736] (.take 0 (.take 1 (.take 2 (.take 3 (.take 4 (.take 5 (.take 6 (.take 7 (.take 8 (.take 9 (.take 10 (.take 11 (.take 12 (.take 13 (.take 14 (.take 15 (.cS 16 (.tail [.run, .run]))))))))))))))))))))) .r)))))) (.s .r .l)))))
theorem W.amL (s:Option Addr) (w:World) (Q:Value→World→Prop) (h:W.y_ s w Q):aP Tryz.prog F.y_ #[.pointer s] w Q:=okF A.y_ Tryz.func67 (by kernel_rfl) (by kernel_rfl) h
def W.yK (cN:Bool) (br:ab) (bt:ab) (bu:ab) (key:ab) (val:ab) (w:World) (Q:Value→World→Prop):Prop:=az (w.alloc (.cells #[.bool cN, .slice br.a br.len br.cap, .slice bt.a
 bt.len bt.cap, .slice bu.a bu.len bu.cap] ah.cR)) fun ag=>az (ag.alloc dA) fun aw=>bR aw (ai w) fun eT=>de (fun mK:Bool→World→Prop=>Hx eT mK aw w) (fun (uM:Bool) b4=>de (fun af9:Bool→World
 →Prop=>aF uM (af9 true b4) (bk F.va #[.slice key.a key.len key.cap] b4 fun uS ep=>af9 (!uS) ep)) (fun (r5:Bool) dk=>aF (r5||(decide ((val.len:Int)>24))) (cT dk (ai ag) [.bool false, .slice none 0 0,
 .slice none 0 0, .slice none 0 0]∧(4:Nat)=4∧az (setCells dk (ai ag) 0 [.bool false, .slice none 0 0, .slice none 0 0, .slice none 0 0]) fun cC=>sq cC ag Q) (bR dk (ai w) fun xJ=>ar dk (Addr.add (ai w) 1) fun fH=>ar dk
 (Addr.add (ai w) 2) fun dd=>ar dk (Addr.add (ai w) 3) fun e9=>nq F.fO #[.agg #[.bool xJ, .slice fH.a fH.len fH.cap, .slice dd.a dd.len dd.cap, .slice e9.a e9.len e9.cap]] dk fun B1 c9 kV gS fk=>az (fk.alloc
 dA) fun lv=>cT lv (ai fk) [.bool B1, .slice c9.a c9.len c9.cap, .slice kV.a kV.len kV.cap, .slice gS.a gS.len gS.cap]∧(4:Nat)=4∧az (setCells lv (ai fk) 0 [.bool B1, .slice c9.a c9.len c9.cap, .slice kV.a
 kV.len kV.cap, .slice gS.a gS.len gS.cap]) fun jN=>bR jN (ai w) fun sJ=>ar jN (Addr.add (ai w) 1) fun eE=>ar jN (Addr.add (ai w) 2) fun gf=>ar jN (Addr.add (ai w) 3) fun e8=>dQ F.rJ #[.agg #[.bool sJ, .slice
 eE.a eE.len eE.cap, .slice gf.a gf.len gf.cap, .slice e8.a e8.len e8.cap], .slice key.a key.len key.cap] jN fun Js Xq ek=>aF Xq (az (ek.drew) fun jW=>∃af_:Nat→Prop,¬af_ (Addr.add (ai fk) 2).block∧ar jW
 (Addr.add (ai fk) 2) fun nj=>dZ F.mo #[.slice val.a val.len val.cap] jW fun gM zU=>ao af_ jW zU∧∃MZ:Addr,nj.a=some MZ∧bc Js nj.len∧st zU (MZ.add (Int.toNat Js*1)) (.slice gM.a
 gM.len gM.cap) fun my=>dp my fk ag Q) (az (ek.drew) fun gz=>∃Xr:Nat→Prop,¬Xr (Addr.add (ai fk) 1).block∧ar gz (Addr.add (ai fk) 1) fun ow=>dZ F.mo #[.slice key.a key.len key.cap] gz fun
 gZ s5=>ao Xr gz s5∧az (s5.alloc (.cells #[.slice gZ.a gZ.len gZ.cap] ah.cc)) fun nt=>ao Xr s5 nt∧dZ F.yD #[.slice ow.a ow.len ow.cap, .int .i64 Js, .slice (some (ai s5)) 1 1]
 nt fun fI s6=>st s6 (Addr.add (ai fk) 1) (.slice fI.a fI.len fI.cap) fun tp=>az (tp.drew) fun gY=>∃Xs:Nat→Prop,¬Xs (Addr.add (ai fk) 2).block∧ar gY (Addr.add (ai fk) 2) fun jq=>dZ
 F.mo #[.slice val.a val.len val.cap] gY fun nG lj=>ao Xs gY lj∧az (lj.alloc (.cells #[.slice nG.a nG.len nG.cap] ah.cc)) fun ss=>ao Xs lj ss∧dZ F.yD #[.slice
 jq.a jq.len jq.cap, .int .i64 Js, .slice (some (ai lj)) 1 1] ss fun nu ie=>st ie (Addr.add (ai fk) 2) (.slice nu.a nu.len nu.cap) fun s7=>dp s7 fk ag Q))))
def A.yK:bL:=(.s .r (.s (.s (.gB [.run, .run, .run, .run, .split 3, .run, .run, .run, .run, .split 3, .run, .run, .run, .run, .pure 3]) (.c (.s .r .l) .l)) (.s .r (.s .r (.s (.s .r (.c (.s (.eL 5 true ⟨[0,1,0,0,8,31,63],
 [0,1,0,0,8,6,48]⟩ [549755813888,1099511627776,2199023255552,4398046511104,8796093022208,17592186044416,0] [256,549755813888,512,4,4398046511104,3298534883328,26388279066624] (.take 0 (.take 1 (.take 2 (.take 3 (.cS 4
 (.tail [.run, .run]))))))) (.s .r .l)) .l)) (.s (.eL 6 true ⟨[0,1,0,0,8,16,54,127,255],[0,1,0,0,8,16,38,0,192]⟩ [70368744177664,140737488355328,281474976710656,562949953421312,1125899906842624,2251799813685248,
 4503599627370496,9007199254740992,0] [256,70368744177664,512,2,562949953421312,1125899906842624,2674012278751232,256,13510798882111488] (.take 0 (.take 1 (.take 2 (.take 3 (.cS 4 (.cS 5 (.tail [.run, .run, .run])))))))) (.s
 (.eL 6 true ⟨[0,1,0,0,8,16,54,127,255],[0,1,0,0,8,16,38,0,192]⟩ [18014398509481984,36028797018963968,72057594037927936,144115188075855872,288230376151711744,576460752303423488,1152921504606846976,
 2305843009213693952,0] [256,18014398509481984,512,4,144115188075855872,288230376151711744,684547143360315392,256,3458764513820540928] (.take 0 (.take 1 (.take 2 (.take 3 (.cS 4 (.cS 5 (.tail [.run, .run, .run])))))))) (.s .r
 .l))))))))
theorem W.ako (cN:Bool) (br:ab) (bt:ab) (bu:ab) (key:ab) (val:ab) (w:World) (Q:Value→World→Prop) (h:W.yK cN br bt bu key val w Q):aP Tryz.prog F.yK #[.agg #[.bool cN, .slice br.a br.len br.cap, .slice bt.a bt.len bt.cap, .slice bu.a bu.len bu.cap], .slice key.a key.len key.cap, .slice val.a val.len val.cap] w Q:=okF A.yK Tryz.func68 (by kernel_rfl) (by kernel_rfl) h
def W.y9 (s:Option Addr) (w:World) (Q:Value→World→Prop):Prop:=aF (!(Option.isNone s)) (∃a7:Addr,s=some a7∧ar w (a7.add 1) fun s2=>dZ F.Dw #[.slice s2.a s2.len s2.cap] w fun bE
 a8=>∃iI:Addr,s=some iI∧st a8 (iI.add 2) (.slice bE.a bE.len bE.cap) fun aS=>Q (.tuple #[]) aS) (Q (.tuple #[]) w)
def A.y9:bL:=(.s .r (.c .r .l))
theorem W.amE (s:Option Addr) (w:World) (Q:Value→World→Prop) (h:W.y9 s w Q):aP Tryz.prog F.y9 #[.pointer s] w Q:=okF A.y9 Tryz.func74 (by kernel_rfl) (by kernel_rfl) h
def W.Ej (c:Option Addr) (w:World) (Q:Value→World→Prop):Prop:=dZ F.Gq #[.pointer c, .func (.func F.zK) #[] #[]] w fun bS ag=>Q (.slice bS.a bS.len bS.cap) ag
def A.Ej:bL:=(.s .r (.s .r .l))
theorem W.asy (c:Option Addr) (w:World) (Q:Value→World→Prop) (h:W.Ej c w Q):aP Tryz.prog F.Ej #[.pointer c] w Q:=okF A.Ej Tryz.func75 (by kernel_rfl) (by kernel_rfl) h
def W.xh (c:Option Addr) (no:Int) (w:World) (Q:Value→World→Prop):Prop:=aF (Option.isNone c) (Q (.pointer none) w) (∃a7:Addr,c=some a7∧ar w (a7.add 1) fun s2=>∃ (j0:Int→World→Prop) (mT:Int→
 World→Nat),j0 0 w∧∀ (n5:Int) (bg:World),j0 n5 bg→aF (decide (n5<(s2.len:Int))) (∃lG:Addr,c=some lG∧ar bg (lG.add 1) fun fw=>∃a9:Addr,fw.a=some a9∧bc n5 fw.len∧∃g0:Addr,(some (a9.add (Int.toNat n5*6))
 :Option Addr)=some g0∧bR bg g0 fun qa=>de (fun qe:Bool→World→Prop=>aF qa (∃kk:Addr,(some (a9.add (Int.toNat n5*6)):Option Addr)=some kk∧bD bg (kk.add 3) fun n14=>qe (n14==no) bg) (qe false bg)) (fun
 (vQ:Bool) cZ=>aF vQ (Q (.pointer (some (a9.add (Int.toNat n5*6)))) cZ) (j0 (aE (n5+1)) cZ∧mT (aE (n5+1)) cZ<mT n5 bg))) (Q (.pointer none) bg))
def A.xh:bL:=(.s .r (.s a7 (.s (.s .r (.c1 (.loop [(14,(.int .i64))] [0,1,13] (.s .r (.s (.c .l .l) (.s (.c1 (.s .r (.s .r (.s (.gB [.run, .run, .run, .run, .run, .split 6]) (.c (.s .r .l) .l))))) .r)))))) (.s .r
 .l))))
theorem W.alo (c:Option Addr) (no:Int) (w:World) (Q:Value→World→Prop) (h:W.xh c no w Q):aP Tryz.prog F.xh #[.pointer c, .int .i64 no] w Q:=okF A.xh Tryz.func76 (by kernel_rfl) (by kernel_rfl) h
def W.Ei (d:Option Addr) (w:World) (Q:Value→World→Prop):Prop:=aF (Option.isNone d) (Q (.int .i64 1) w) (∃a7:Addr,d=some a7∧bk F.y2 #[.pointer (some a7), .int .i64 3] w fun eQ aw=>aF eQ (Q
 (.int .i64 3) aw) (∃a5:Addr,d=some a5∧∃Iu:Option Nat,aw.cell? (a5.add 5)=some (.map Iu)∧∃ (BL:Value) (cd:World),Sem.run Tryz.prog (Instr.range ah.xf (.map Iu)) aw= .ok BL cd∧∃ (zX:World→Prop)
 (Ey:World→Nat),zX cd∧∀ (cf:World),zX cf→(∃ (auu:Value) (auv:Value) (cy:World),Sem.run Tryz.prog (Instr.next (BL) false 0) cf= .ok (.tuple #[.bool true,auu,auv]) cy∧aF true (Wf BL cy d zX Ey cf) (Wg d cy
 Q))∨(∃fu:World,Sem.run Tryz.prog (Instr.next (BL) false 0) cf= .ok (.tuple #[.bool false]) fu∧aF false (Wf BL fu d zX Ey cf) (Wg d fu Q))))
def A.Ei:bL:=(.s .r (.s (.c1 mj) (.s (.s .r (.c1 (.loop [] [0,16] (.s .r (.s (.c .l .l) (.c1 (.s (.gB [.QL [(.one (.int .i64)),(.one .any)]]) (.eL 8 true ⟨[0,1,2,4,0,0,0,96,255,511],[0,1,2,4,0,0,0,
 96,24,384]⟩ [2097152,4194304,8388608,16777216,33554432,67108864,134217728,268435456,536870912,0] [1,2097152,4194304,8388608,8,1,8,201326592,50331648,805306368] (.take 0 (.take 1 (.take 2 (.take 3 (.take 4 (.take 5 (.take
 6 (.cS 7 (.tail [.run, .run]))))))))))))))))) (.s .r (.s .r .l)))))
theorem W.asi (d:Option Addr) (w:World) (Q:Value→World→Prop) (h:W.Ei d w Q):aP Tryz.prog F.Ei #[.pointer d] w Q:=okF A.Ei Tryz.func77 (by kernel_rfl) (by kernel_rfl) h
def W.uj (s:ab) (no:Int) (w:World) (Q:Value→World→Prop):Prop:=(8:Int)≠0∧∃a7:Addr,s.a=some a7∧bc (aE (Int.tdiv no 8)) s.len∧iC w (a7.add (Int.toNat (aE (Int.tdiv no 8))*1)) fun c7=>(8:Int)≠0
 ∧(0:Int)≤(Int.tmod no 8)∧Q (.bool (((tP .u8 (Int.fdiv c7 (2^(min (Int.toNat (Int.tmod no 8)) 8))) 1):Int)==1)) w
def A.uj:bL:=(.s .r (.s .r .l))
theorem W.ame (s:ab) (no:Int) (w:World) (Q:Value→World→Prop) (h:W.uj s no w Q):aP Tryz.prog F.uj #[.slice s.a s.len s.cap, .int .i64 no] w Q:=okF A.uj Tryz.func78 (by kernel_rfl) (by kernel_rfl) h
def W.AN (d:Option Addr) (i:Int) (w:World) (Q:Value→World→Prop):Prop:=az (w.alloc pR) fun ag=>∃cQ:Addr,d=some cQ∧∃ra:Option Nat,ag.cell? (cQ.add 5)=some (.map ra)∧∃cO:ab,∃bO:World,
 Sem.run Tryz.prog (Instr.lookup ah.xf (.map ra) (.int .i64 i) false) ag= .ok (.slice cO.a cO.len cO.cap) bO∧aF (decide ((cO.len:Int)>0)) (∃iI:Addr,cO.a=some iI∧((0:Int)≤(aE ((cO.len:Int)-1))∧(aE
 ((cO.len:Int)-1))<(cO.len:Int))∧∃Jo:List Value,eH bO (iI.add (Int.toNat (aE ((cO.len:Int)-1))*256)) 0 256=some Jo∧S9 bO w Jo Q) (∃g0:Addr,d=some g0∧ar bO (g0.add 4) fun d_=>ON d_ i bO 256 fun auw=>
 S9 bO w auw Q)
def A.AN:bL:=(.s .r (.s (.s .r a7) (.s .r .l)))
theorem W.ak8 (d:Option Addr) (i:Int) (w:World) (Q:Value→World→Prop) (h:W.AN d i w Q):aP Tryz.prog F.AN #[.pointer d, .int .i64 i] w Q:=okF A.AN Tryz.func79 (by kernel_rfl) (by kernel_rfl) h
def W.yw (no:Int) (b:ab) (w:World) (Q:Value→World→Prop):Prop:=az (w.alloc z3) fun ag=>aF ((b.len:Int) !=256) (cT ag (ai w) [.int .i64 0, .int .u64 0, .slice none 0 0]∧(3:Nat)=3∧az (setCells ag (ai w)
 0 [.int .i64 0, .int .u64 0, .slice none 0 0]) fun aw=>bD aw (ai w) fun bw=>kJ aw (Addr.add (ai w) 1) fun gi=>ar aw (Addr.add (ai w) 2) fun bE=>Q (.tuple #[.agg #[.int .i64 bw, .int .u64 gi, .slice bE.a bE.len bE.cap], .int .i64 9])
 aw) (((0:Int)≤4∧4≤((b.cap:Nat):Int))∧∃dj:ByteArray,∃aS:World,Sem.run Tryz.prog (convert ah.cc ah.string (.slice (bh b.a 1 0 b.cap) ((Int.toNat 4)-0) (b.cap-0))) ag= .ok (.string dj) aS∧aF
 (!(ByteArray.toList dj==ByteArray.toList (ByteArray.mk #[83,84,78,67]))) (cT aS (ai w) [.int .i64 0, .int .u64 0, .slice none 0 0]∧(3:Nat)=3∧az (setCells aS (ai w) 0 [.int .i64 0, .int .u64 0, .slice none 0 0]) fun cd=>
 Sq cd w Q) (∃iS:Addr,b.a=some iS∧bc 4 b.len∧iC aS (iS.add (Int.toNat 4*1)) fun n13=>aF (n13 !=1) (cT aS (ai w) [.int .i64 0, .int .u64 0, .slice none 0 0]∧(3:Nat)=3∧az (setCells aS (ai w) 0 [.int .i64 0, .int
 .u64 0, .slice none 0 0]) fun dB=>bD dB (ai w) fun n15=>kJ dB (Addr.add (ai w) 1) fun n16=>ar dB (Addr.add (ai w) 2) fun gC=>Q (.tuple #[.agg #[.int .i64 n15, .int .u64 n16, .slice gC.a gC.len gC.cap], .int .i64 12]) dB)
 (CF F.u0 #[.slice b.a b.len b.cap] aS fun n20 e6=>J3 F.rE #[.slice b.a b.len b.cap, .int .i64 20, .int .i64 24] e6 fun n23 dR=>aF (((IntKind.wrap .u64 n20):Int) !=n23) (cT dR (ai w) [.int .i64 0, .int .u64
 0, .slice none 0 0]∧(3:Nat)=3∧az (setCells dR (ai w) 0 [.int .i64 0, .int .u64 0, .slice none 0 0]) fun cI=>bD cI (ai w) fun n25=>kJ cI (Addr.add (ai w) 1) fun n26=>ar cI (Addr.add (ai w) 2) fun dd=>Q (.tuple #[.agg
 #[.int .i64 n25, .int .u64 n26, .slice dd.a dd.len dd.cap], .int .i64 5]) cI) (J3 F.rE #[.slice b.a b.len b.cap, .int .i64 6, .int .i64 8] dR fun n30 fA=>∃n2:Addr,b.a=some n2∧bc 5 b.len∧iC fA (n2.add
 (Int.toNat 5*1)) fun n32=>bk F.GO #[.int .i64 (aE n32)] fA fun EB eo=>de (fun aga:Bool→World→Prop=>aF ((!EB)||(decide (((aE n30):Int)>232))) (aga true eo) (((0:Int)≤(aE (24+(aE n30)))∧(aE (24+(aE
 n30)))≤(b.len:Int))∧bk F.yv #[.slice (bh b.a 1 (Int.toNat (aE (24+(aE n30)))) b.cap) (b.len-(Int.toNat (aE (24+(aE n30))))) (b.cap-(Int.toNat (aE (24+(aE n30)))))] eo fun Xe lr=>aga (!Xe) lr)) (fun (Xk:Bool)
 ek=>aF Xk (cT ek (ai w) [.int .i64 0, .int .u64 0, .slice none 0 0]∧(3:Nat)=3∧az (setCells ek (ai w) 0 [.int .i64 0, .int .u64 0, .slice none 0 0]) fun gN=>Sq gN w Q) (bk F.GP #[.int .i64 no] ek fun Xb hF=>
 de (fun agb:Bool→World→Prop=>aF (!Xb) (agb true hF) (J3 F.rE #[.slice b.a b.len b.cap, .int .i64 8, .int .i64 12] hF fun aux oP=>agb (aux !=(IntKind.wrap .u64 no)) oP)) (fun (ti:Bool) lu=>aF ti (cT lu
 (ai w) [.int .i64 0, .int .u64 0, .slice none 0 0]∧(3:Nat)=3∧az (setCells lu (ai w) 0 [.int .i64 0, .int .u64 0, .slice none 0 0]) fun fo=>bD fo (ai w) fun M0=>kJ fo (Addr.add (ai w) 1) fun Xt=>ar fo (Addr.add (ai w) 2)
 fun kT=>Q (.tuple #[.agg #[.int .i64 M0, .int .u64 Xt, .slice kT.a kT.len kT.cap], .int .i64 1]) fo) (E6 F.ym #[.slice b.a b.len b.cap, .int .i64 24, .int .i64 (aE n30)] lu fun jK agc q2=>az (q2.drew) fun dg=>∃oM:
 Nat→Prop,∃Xu:Addr,b.a=some Xu∧bc 5 b.len∧¬oM (Xu.add (Int.toNat 5*1)).block∧iC dg (Xu.add (Int.toNat 5*1)) fun agd=>J3 F.rE #[.slice b.a b.len b.cap, .int .i64 12, .int .i64 20] dg fun Rj o3=>ao
 oM dg o3∧cT o3 (ai w) [.int .i64 (aE agd), .int .u64 Rj, .slice jK.a jK.len jK.cap]∧(3:Nat)=3∧az (setCells o3 (ai w) 0 [.int .i64 (aE agd), .int .u64 Rj, .slice jK.a jK.len jK.cap]) fun nr=>bD nr (ai w) fun
 auy=>kJ nr (Addr.add (ai w) 1) fun auz=>ar nr (Addr.add (ai w) 2) fun zV=>Q (.tuple #[.agg #[.int .i64 auy, .int .u64 auz, .slice zV.a zV.len zV.cap], .int .i64 0]) nr))))))))
def A.yw:bL:=(.s .r (.s (.c1 (.s .r (.c (.s .r .l) (.s .r (.c (.s .r .l) mj))))) (.s .r (.s (.c1 (.s (.gB [.run, .run, .run, .run, .run, .run, .run, .pure 2, .run, .run, .run, .split 6]) (.c (.s .r .l) nh))) (.s .r (.s
 (.eL 7 true ⟨[0,1,2,4,0,16,0,104,255,511],[0,1,2,4,0,16,0,104,128,0]⟩ [37778931862957161709568,75557863725914323419136,151115727451828646838272,302231454903657293676544,604462909807314587353088,
 1208925819614629174706176,2417851639229258349412352,4835703278458516698824704,0,32] [2,37778931862957161709568,75557863725914323419136,151115727451828646838272,2,604462909807314587353088,128,3929008913747544817795072,
 4835703278458516698824720,0] (.take 0 (.take 1 (.take 2 (.take 3 (.take 4 (.take 6 (.cS 5 (.tail [.run, .run, .run]))))))))) .l))))))
theorem W.ai0 (no:Int) (b:ab) (w:World) (Q:Value→World→Prop) (h:W.yw no b w Q):aP Tryz.prog F.yw #[.int .i64 no, .slice b.a b.len b.cap] w Q:=okF A.yw Tryz.func88 (by kernel_rfl) (by kernel_rfl) h
def W.CG (no:Int) (Rk:Int) (Rl:Int) (EC:ab) (w:World) (Q:Value→World→Prop):Prop:=az (w.alloc (.cells #[.int .i64 Rk, .int .u64 Rl, .slice EC.a EC.len EC.cap] ah.J2)) fun ag=>
 bk F.GP #[.int .i64 no] ag fun eQ aw=>de (fun oz:Bool→World→Prop=>aF (!eQ) (oz true aw) (bD aw (ai w) fun n6=>bk F.GO #[.int .i64 n6] aw fun jB aS=>oz (!jB) aS)) (fun (nH:Bool) cf=>aF nH (Q (.tuple #[.slice
 none 0 0, .int .i64 1]) cf) (ar cf (Addr.add (ai w) 2) fun ft=>aF (decide ((ft.len:Int)>232)) (Q (.tuple #[.slice none 0 0, .int .i64 10]) cf) (az (cf.alloc (.cells #[.int .u8 83, .int .u8 84, .int .u8 78, .int .u8 67] ah.uint8))
 fun b4=>∃dw:ab,∃ep:World,Sem.run Tryz.prog (convert ah.cc ah.cc (.slice (some (ai cf)) 4 4)) b4= .ok (.slice dw.a dw.len dw.cap) ep∧bD ep (ai w) fun n16=>az (ep.alloc (.cells #[.int .u8 1, .int .u8
 (IntKind.wrap .u8 n16)] ah.uint8)) fun dK=>az (dK.alloc (.cells #[.slice dw.a dw.len dw.cap, .slice (some (ai ep)) 2 2] ah.cc)) fun e6=>dZ F.sW #[.slice (some (ai dK)) 2 2] e6 fun eP dk=>ar dk (Addr.add (ai w)
 2) fun f_=>dZ F.pk #[.slice eP.a eP.len eP.cap, .int .u64 (IntKind.wrap .u64 (f_.len:Int)), .int .i64 2] dk fun kl pd=>dZ F.pk #[.slice kl.a kl.len kl.cap, .int .u64 (IntKind.wrap .u64 no), .int .i64 4] pd fun e9
 cv=>kJ cv (Addr.add (ai w) 1) fun n29=>dZ F.pk #[.slice e9.a e9.len e9.cap, .int .u64 n29, .int .i64 8] cv fun c9 fN=>de (fun GR:ab→World→Prop=>az (fN.drew) fun eO=>∃Jt:Nat→Prop,¬Jt (Addr.add (ai w)
 2).block∧ar eO (Addr.add (ai w) 2) fun jM=>¬Jt (Addr.add (ai w) 2).block∧ar eO (Addr.add (ai w) 2) fun km=>(((0:Int)≤4∧(4:Int)≤4∧(4:Int)≤yq∧((1:Nat):Int)*4≤140737488355328)∧az (eO.alloc (.cells
 (pQ Tryz.prog ah.uint8 (Int.toNat 4)) ah.uint8)) fun iu=>ao Jt eO iu∧(Sk km)∧az (iu.alloc (.cells (pQ Tryz.prog ah.uint8 (Int.toNat (aE (232-(km.len:Int))))) ah.uint8)) fun mx=>ao Jt iu mx∧Sl mx c9 eO jM
 iu km GR)∧((Sk km)∧az (eO.alloc (.cells (pQ Tryz.prog ah.uint8 (Int.toNat (aE (232-(km.len:Int))))) ah.uint8)) fun ny=>ao Jt eO ny∧((0:Int)≤4∧(4:Int)≤4∧(4:Int)≤yq∧((1:Nat):Int)*4≤
 140737488355328)∧az (ny.alloc (.cells (pQ Tryz.prog ah.uint8 (Int.toNat 4)) ah.uint8)) fun jW=>ao Jt ny jW∧Sl jW c9 ny jM eO km GR)) (fun (gM:ab) me=>az (me.drew) fun my=>∃Xv:Nat→Prop,((0:Int)≤20∧
 20≤(gM.len:Int))∧CF F.u0 #[.slice gM.a gM.len gM.cap] my fun M0 lu=>∃axB:Nat→Prop,dZ F.pk #[.slice none 0 0, .int .u64 (IntKind.wrap .u64 M0), .int .i64 4] lu fun e7 uF=>∃Rm:Int,∃gz:World,
 Sem.run Tryz.prog (Builtin.copy_ #[ah.cc,ah.cc] ah.int #[.slice (bh gM.a 1 (Int.toNat 20) gM.cap) (gM.len-(Int.toNat 20)) (gM.cap-(Int.toNat 20)), .slice e7.a e7.len e7.cap]) uF= .ok (.int .i64 Rm) gz∧Q
 (.tuple #[.slice gM.a gM.len gM.cap, .int .i64 0]) gz))))
def A.CG:bL:=(.s .r (.s (.c1 (.s (.gB [.run, .run, .run, .run, .split 4]) (.c (.s .r .l) a7))) (.s .r (.s .r (.s .r (.s .r (.s (.lO [(6, .slice)] [] (.eL 9 true ⟨[0,0,0,4,0,16,32,64,128,267,512,2047],[0,0,0,4,
 0,16,32,64,128,267,512,1025]⟩ [17592186044416,35184372088832,70368744177664,140737488355328,281474976710656,562949953421312,1125899906842624,2251799813685248,4503599627370496,9007199254740992,18014398509481984,64] [64,0,
 8,70368744177664,8,281474976710656,562949953421312,1125899906842624,2251799813685248,4697113673859072,9007199254740992,18014398509481984] (.take 0 (.take 2 (.take 3 (.take 4 (.take 5 (.take 6 (.take 7 (.two 1 (.cS 8 (.tail [.run,
 .run, .run])) 8 (.cS 1 (.tail [.run, .run, .run])))))))))))) (.s (.eL 6 true ⟨[0,1,0,4,8,24,34],[0,1,0,4,8,16,34]⟩ [36028797018963968,72057594037927936,144115188075855872,288230376151711744,576460752303423488,
 1152921504606846976,2305843009213693952] [64,36028797018963968,64,144115188075855872,288230376151711744,576460752303423488,1224979098644774912] (.take 0 (.take 1 (.take 2 (.out 3 true (.take 4 (.out 5 false (.tail [.run])))))))) (.s
 .r .l)))))))))
theorem W.aiU (no:Int) (Rk:Int) (Rl:Int) (EC:ab) (w:World) (Q:Value→World→Prop) (h:W.CG no Rk Rl EC w Q):aP Tryz.prog F.CG #[.int .i64 no, .agg #[.int .i64 Rk, .int .u64 Rl, .slice EC.a EC.len EC.cap]] w Q:=okF A.CG Tryz.func99 (by kernel_rfl) (by kernel_rfl) h
def W.tb (t:Option Addr) (no:Int) (leaf:Bool) (w:World) (Q:Value→World→Prop):Prop:=az (w.alloc dA) fun ag=>∃cQ:Addr,t=some cQ∧∃gl:Option Addr,ag.cell? cQ=some (.pointer gl)∧gE
 F.Dl #[.pointer gl, .int .i64 no] ag fun dj n7 bz=>aF (n7 !=0) (TH bz w Q n7) (HX F.yw #[.int .i64 no, .slice dj.a dj.len dj.cap] bz fun n15 n16 gC n18 b4=>az (b4.alloc z3) fun dk=>cT dk (ai b4)
 [.int .i64 n15, .int .u64 n16, .slice gC.a gC.len gC.cap]∧(3:Nat)=3∧az (setCells dk (ai b4) 0 [.int .i64 n15, .int .u64 n16, .slice gC.a gC.len gC.cap]) fun cC=>aF (n18 !=0) (TH cC w Q n18) (az (cC.drew) fun cv=>¬
 False∧kJ cv (Addr.add (ai b4) 1) fun n27=>∃a28:Addr,t=some a28∧¬False∧kJ cv (a28.add 2) fun n29=>aF (decide (n27>n29)) (de (fun age:Bool→World→Prop=>aF true (age true cv) (bD cv (ai b4) fun n31=>de (fun
 agf:Bool→World→Prop=>aF (n31 !=1) (bD cv (ai b4) fun n33=>agf (n33 !=2) cv) (agf false cv)) (fun (auA:Bool) lv=>age auA lv))) (fun (Jq:Bool) lr=>aF Jq (cT lr (ai w) [.bool false, .slice none 0 0, .slice
 none 0 0, .slice none 0 0]∧(4:Nat)=4∧az (setCells lr (ai w) 0 [.bool false, .slice none 0 0, .slice none 0 0, .slice none 0 0]) fun iu=>Ka iu w Q) (ar lr (Addr.add (ai b4) 2) fun hW=>q7 F.wG #[.bool leaf, .slice
 hW.a hW.len hW.cap] lr fun Cg nj nB hO zY ny=>cT ny (ai w) [.bool Cg, .slice nj.a nj.len nj.cap, .slice nB.a nB.len nB.cap, .slice hO.a hO.len hO.cap]∧(4:Nat)=4∧az (setCells ny (ai w) 0 [.bool Cg,
 .slice nj.a nj.len nj.cap, .slice nB.a nB.len nB.cap, .slice hO.a hO.len hO.cap]) fun me=>O0 me w Q zY))) (¬False∧bD cv (ai b4) fun M0=>de (fun yS:Bool→World→Prop=>aF (!((M0==1)==leaf)) (yS true cv)
 (bD cv (ai b4) fun Xw=>de (fun agh:Bool→World→Prop=>aF (Xw !=1) (bD cv (ai b4) fun Xx=>agh (Xx !=2) cv) (agh false cv)) (fun (auB:Bool) gz=>yS auB gz))) (fun (auC:Bool) ph=>aF auC (cT ph (ai w)
 [.bool false, .slice none 0 0, .slice none 0 0, .slice none 0 0]∧(4:Nat)=4∧az (setCells ph (ai w) 0 [.bool false, .slice none 0 0, .slice none 0 0, .slice none 0 0]) fun s5=>Ka s5 w Q) (ar ph (Addr.add (ai b4) 2) fun gn=>
 q7 F.wG #[.bool leaf, .slice gn.a gn.len gn.cap] ph fun Rn rm jq l4 auD rY=>cT rY (ai w) [.bool Rn, .slice rm.a rm.len rm.cap, .slice jq.a jq.len jq.cap, .slice l4.a l4.len l4.cap]∧(4:Nat)=4∧az
 (setCells rY (ai w) 0 [.bool Rn, .slice rm.a rm.len rm.cap, .slice jq.a jq.len jq.cap, .slice l4.a l4.len l4.cap]) fun vp=>O0 vp w Q auD)))))
def A.tb:bL:=(.s .r (.s .r (.s a7 (.s .r (.s a7 (.s (.s (.eL 12 false ⟨[0,1,0,4,8,16,34,64,128,384,640,128,3200,4224,8320,16384,49152,81920,147456,262144,786432,1310720,2375680,4210688],[0,1,0,4,
 8,16,34,64,128,384,640,128,3200,4224,8192,16384,49152,81920,147456,262144,786432,1310720,2375680,4210688]⟩ [17179869184,34359738368,68719476736,137438953472,274877906944,549755813888,1099511627776,2199023255552,
 4398046511104,8796093022208,17592186044416,35184372088832,70368744177664,140737488355328,281474976710656,562949953421312,1125899906842624,2251799813685248,4503599627370496,9007199254740992,18014398509481984,36028797018963968,
 72057594037927936,144115188075855872] [1024,17179869184,1,68719476736,137438953472,274877906944,584115552256,1099511627776,2199023256576,6597069766656,10995116277760,2199023255556,54975581388800,72567767433216,
 140737488355328,281474976711680,844424930131968,1407374883553280,2533274790395904,4503599627371520,13510798882111488,22517998136852480,40813871623045120,72339069014638592] (.take 0 (.take 1 (.take 2 (.take 3 (.take 4 (.take 5
 (.take 6 (.take 7 (.sp 41 (.take 8 (.take 9 (.take 10 (.take 11 (.tail [.run, .run, .run, .split 8, .run, .run, .run, .split 3, .run, .run, .run, .run]))))) (.take 8 (.take 9 (.take 10 (.take 11 (.tail [.run, .run, .run, .split 8, .run,
 .run, .run, .split 3, .run, .run, .run, .run]))))))))))))))) (.c (.s .r .l) .l)) (.s .r .l)))))))
theorem W.am2 (t:Option Addr) (no:Int) (leaf:Bool) (w:World) (Q:Value→World→Prop) (h:W.tb t no leaf w Q):aP Tryz.prog F.tb #[.pointer t, .int .i64 no, .bool leaf] w Q:=okF A.tb Tryz.func104 (by kernel_rfl) (by kernel_rfl) h
def W.vh (cN:Bool) (br:ab) (bt:ab) (bu:ab) (key:ab) (w:World) (Q:Value→World→Prop):Prop:=az (w.alloc (.cells #[.bool cN, .slice br.a br.len br.cap, .slice bt.a bt.len
 bt.cap, .slice bu.a bu.len bu.cap] ah.cR)) fun ag=>bR ag (ai w) fun cG=>ar ag (Addr.add (ai w) 1) fun bS=>ar ag (Addr.add (ai w) 2) fun cO=>ar ag (Addr.add (ai w) 3) fun bE=>dQ F.rJ #[.agg #[.bool cG,
 .slice bS.a bS.len bS.cap, .slice cO.a cO.len cO.cap, .slice bE.a bE.len bE.cap], .slice key.a key.len key.cap] ag fun n8 jB bg=>de (fun x6:Int→World→Prop=>aF jB (x6 (aE (n8+1)) bg) (x6 n8 bg)) (fun (n11:Int) cy=>Q (.int
 .i64 n11) cy)
def A.vh:bL:=(.s .r (.s .r (.s (.lO [(5,(.int .i64))] [] (.s .r (.c .r .l))) (.s .r .l))))
theorem W.akk (cN:Bool) (br:ab) (bt:ab) (bu:ab) (key:ab) (w:World) (Q:Value→World→Prop) (h:W.vh cN br bt bu key w Q):aP Tryz.prog F.vh #[.agg #[.bool cN, .slice br.a br.len br.cap, .slice bt.a bt.len bt.cap, .slice bu.a bu.len bu.cap], .slice key.a key.len key.cap] w Q:=okF A.vh Tryz.func105 (by kernel_rfl) (by kernel_rfl) h
def W.rJ (cN:Bool) (br:ab) (bt:ab) (bu:ab) (key:ab) (w:World) (Q:Value→World→Prop):Prop:=az (w.alloc (.cells #[.bool cN, .slice br.a br.len br.cap, .slice bt.a bt.len
 bt.cap, .slice bu.a bu.len bu.cap] ah.cR)) fun ag=>ar ag (Addr.add (ai w) 1) fun s2=>dQ F.CY #[.slice s2.a s2.len s2.cap, .slice key.a key.len key.cap, .func (.func
 F.o1) #[] #[]] ag fun n5 ln a8=>Q (.tuple #[.int .i64 n5, .bool ln]) a8
def A.rJ:bL:=(.s .r (.s .r .l))
theorem W.akh (cN:Bool) (br:ab) (bt:ab) (bu:ab) (key:ab) (w:World) (Q:Value→World→Prop) (h:W.rJ cN br bt bu key w Q):aP Tryz.prog F.rJ #[.agg #[.bool cN, .slice br.a br.len br.cap, .slice bt.a bt.len bt.cap, .slice bu.a bu.len bu.cap], .slice key.a key.len key.cap] w Q:=okF A.rJ Tryz.func106 (by kernel_rfl) (by kernel_rfl) h
def W.nP (cN:Bool) (br:ab) (bt:ab) (bu:ab) (w:World) (Q:Value→World→Prop):Prop:=az (w.alloc (.cells #[.bool cN, .slice br.a br.len br.cap, .slice bt.a bt.len bt.cap,
 .slice bu.a bu.len bu.cap] ah.cR)) fun ag=>ar ag (Addr.add (ai w) 1) fun s2=>∃ (j0:Int→World→Prop) (mT:Int→World→Nat),j0 0 ag∧∀ (n5:Int) (bg:World),j0 n5 bg→aF (decide (n5<(s2.len:Int))) (∃lG:
 Addr,s2.a=some lG∧bc n5 s2.len∧ar bg (lG.add (Int.toNat n5*1)) fun fw=>bk F.va #[.slice fw.a fw.len fw.cap] bg fun qa bY=>de (fun qe:Bool→World→Prop=>aF (!qa) (qe true bY) (de (fun agi:Bool→World→Prop
 =>aF (decide (n5>0)) (ar bY (Addr.add (ai w) 1) fun dw=>∃mj:Addr,dw.a=some mj∧bc (aE (n5-1)) dw.len∧ar bY (mj.add (Int.toNat (aE (n5-1))*1)) fun dD=>bj F.o1 #[.slice dD.a dD.len dD.cap, .slice
 fw.a fw.len fw.cap] bY fun n19 dK=>agi (decide (n19≥0)) dK) (agi false bY)) (fun (tF:Bool) dR=>qe tF dR))) (fun (x4:Bool) pd=>aF x4 (Q (.bool false) pd) (j0 (aE (n5+1)) pd∧mT (aE (n5+1)) pd<mT n5 bg))) (bR
 bg (ai w) fun zT=>aF zT (ar bg (Addr.add (ai w) 2) fun kl=>ar bg (Addr.add (ai w) 1) fun fH=>de (fun MS:Bool→World→Prop=>aF ((kl.len:Int)==(fH.len:Int)) (ar bg (Addr.add (ai w) 3) fun e9=>MS ((e9.len:Int)==0)
 bg) (MS false bg)) (fun (M1:Bool) fN=>de (fun agj:Bool→World→Prop=>aF M1 (ar fN (Addr.add (ai w) 2) fun c9=>bk F.CO #[.slice c9.a c9.len c9.cap, .func (.func F.wA) #[]
 #[]] fN fun EB eo=>agj (!EB) eo) (agj false fN)) (fun (Jq:Bool) lr=>Q (.bool Jq) lr))) (ar bg (Addr.add (ai w) 1) fun eE=>de (fun agk:Bool→World→Prop=>aF (decide ((eE.len:Int)>0)) (ar bg (Addr.add (ai w) 3) fun
 e8=>ar bg (Addr.add (ai w) 1) fun qG=>agk ((e8.len:Int)==(aE ((qG.len:Int)+1))) bg) (agk false bg)) (fun (auE:Bool) iv=>de (fun agl:Bool→World→Prop=>aF auE (ar iv (Addr.add (ai w) 2) fun g9=>agl ((g9.len:Int)
 ==0) iv) (agl false iv)) (fun (Cg:Bool) dI=>de (fun agm:Bool→World→Prop=>aF Cg (ar dI (Addr.add (ai w) 3) fun hO=>bk F.CP #[.slice hO.a hO.len hO.cap, .func (.func F.wB) #[]
 #[]] dI fun auF oP=>agm (!auF) oP) (agm false dI)) (fun (ti:Bool) lu=>Q (.bool ti) lu)))))
def A.nP:bL:=(.s .r (.s (.s .r (.c1 (.loop [(10,(.int .i64))] [1,8,9] (.s .r (.s (.c .l .l) (.s (.c1 (.s .r (.s (.gB [.run, .run, .run, .run, .split 13, .run, .run, .split 9]) (.c (.s .r .l) .l)))) .r)))))) (.s (.s .r (.c
 (.s .r (.s (.gB [.run, .run, .run, .run, .run, .run, .run, .run, .split 4, .run, .run, .run, .run, .run, .split 5]) .l)) .l)) (.s .r (.s (.gB [.run, .run, .run, .run, .run, .split 8, .run, .run, .run, .run, .run, .run, .run, .run, .run,
 .split 4, .run, .run, .run, .run, .run, .split 5]) .l)))))
theorem W.ajm (cN:Bool) (br:ab) (bt:ab) (bu:ab) (w:World) (Q:Value→World→Prop) (h:W.nP cN br bt bu w Q):aP Tryz.prog F.nP #[.agg #[.bool cN, .slice br.a br.len br.cap, .slice bt.a bt.len bt.cap, .slice bu.a bu.len bu.cap]] w Q:=okF A.nP Tryz.func107 (by kernel_rfl) (by kernel_rfl) h
def W.fO (cN:Bool) (br:ab) (bt:ab) (bu:ab) (w:World) (Q:Value→World→Prop):Prop:=az (w.alloc (.cells #[.bool cN, .slice br.a br.len br.cap, .slice bt.a bt.len bt.cap,
 .slice bu.a bu.len bu.cap] ah.cR)) fun ag=>az (ag.alloc dA) fun aw=>az (aw.drew) fun a8=>∃mU:Nat→Prop,¬mU ((ai w):Addr).block∧bR a8 (ai w) fun iA=>¬mU (Addr.add (ai w) 3).block∧ar a8 (Addr.add (ai w)
 3) fun dj=>(dZ F.vg #[.slice dj.a dj.len dj.cap] a8 fun dn aS=>ao mU a8 aS∧∃rK:Array Value,(∀cf:World,Sem.run Tryz.prog (Instr.build ah.cR #[(0, .bool iA),(3, .slice dn.a dn.len dn.cap)]) cf=
 .ok (.agg rK) cf)∧az (aS.alloc dA) fun cy=>ao mU aS cy∧SK cy aS rK w ag Q)∧(az (a8.alloc dA) fun k4=>ao mU a8 k4∧dZ F.vg #[.slice dj.a dj.len dj.cap] k4 fun e7 uF=>ao mU k4 uF∧∃agn:
 Array Value,(∀gz:World,Sem.run Tryz.prog (Instr.build ah.cR #[(0, .bool iA),(3, .slice e7.a e7.len e7.cap)]) gz= .ok (.agg agn) gz)∧SK uF a8 agn w ag Q)
def A.fO:bL:=(.s .r (.s (.eL 7 true ⟨[0,1,0,4,8,18,0,127],[0,1,0,4,8,18,0,96]⟩ [256,512,1024,2048,4096,8192,8,0] [2,256,2,1024,2048,4608,0,8200] (.take 0 (.take 1 (.take 2 (.take 3 (.two 4 (.take 5
 (.cS 6 (.tail [.run]))) 6 (.cS 4 (.take 5 (.tail [.run]))))))))) (.s (.s .r (.c1 (.loop [(17,(.int .i64))] [1,2,3,15,16] (.s .r (.s (.c .l .l) (.s (.c1 (.s .r (.eL 5 true ⟨[0,1,0,4,8,26,63,127],[0,1,0,4,8,18,0,96]⟩
 [2097152,4194304,8388608,16777216,33554432,67108864,134217728,0] [8,2097152,32,8388608,16777216,37748736,8,201326592] (.take 0 (.take 1 (.take 2 (.cS 3 (.cS 4 (.tail [.run, .run, .run]))))))))) .r)))))) (.s (.s .r (.c1
 (.loop [(32,(.int .i64))] [2,3,30,31] (.s .r (.s (.c .l .l) (.s (.c1 (.s .r (.eL 5 true ⟨[0,1,0,4,8,26,63,127],[0,1,0,4,8,18,0,96]⟩ [68719476736,137438953472,274877906944,549755813888,1099511627776,2199023255552,
 4398046511104,0] [8,68719476736,128,274877906944,549755813888,1236950581248,8,6597069766656] (.take 0 (.take 1 (.take 2 (.cS 3 (.cS 4 (.tail [.run, .run, .run]))))))))) .r)))))) (.s .r .l)))))
theorem W.akl (cN:Bool) (br:ab) (bt:ab) (bu:ab) (w:World) (Q:Value→World→Prop) (h:W.fO cN br bt bu w Q):aP Tryz.prog F.fO #[.agg #[.bool cN, .slice br.a br.len br.cap, .slice bt.a bt.len bt.cap, .slice bu.a bu.len bu.cap]] w Q:=okF A.fO Tryz.func108 (by kernel_rfl) (by kernel_rfl) h
def W.zx (x:Addr) (tG:Addr) (w:World) (Q:Value→World→Prop):Prop:=bD w x fun dc=>aF (dc !=0) (az (w.drew) fun aw=>¬False∧∃gl:Option Addr,aw.cell? tG=some (.pointer gl)∧¬False∧∃p6:Option
 Addr,aw.cell? tG=some (.pointer p6)∧∃a5:Addr,p6=some a5∧¬False∧ar aw (a5.add 1) fun dj=>bm F.BA #[.pointer gl, .slice dj.a dj.len dj.cap] aw fun aS=>Q (.tuple #[]) aS) (Q (.tuple #[]) w)
def A.zx:bL:=(.s .r (.c (.eL 5 false ⟨[0,0,2,4,8,17],[0,0,2,4,8,17]⟩ [16,32,64,128,256,512] [2,2,32,64,128,272] (.take 0 (.take 1 (.take 2 (.take 3 (.take 4 (.tail [.run]))))))) .l))
theorem W.auG (x:Addr) (tG:Addr) (w:World) (Q:Value→World→Prop):W.zx x tG w Q=Jm Tryz.prog aI A.zx Tryz.f110 [.pointer (some x), .pointer (some tG)] w Q:=by kernel_rfl
theorem W.ack (x:Addr) (tG:Addr) (w:World) (K:World→Prop) (h:W.zx x tG w fun _ ag=>K ag):Jn Tryz.prog F.zx #[.pointer (some x), .pointer (some tG)] w K:=
  at8 Xa ⟨_,Tryz.func110,by kernel_rfl,by kernel_rfl⟩ Tryz.func110 (by kernel_rfl) (Eq.mp (W.auG x tG w _) h)
def W.BA (c:Option Addr) (l:ab) (w:World) (Q:Value→World→Prop):Prop:=∃ (g2:Int→World→Prop) (ja:Int→World→Nat),g2 0 w∧∀ (bw:Int) (bz:World),g2 bw bz→aF (decide (bw<(l.len:Int))) (de (fun
 oz:World→Prop=>∃iI:Addr,l.a=some iI∧bc bw l.len∧bD bz (iI.add (Int.toNat bw*1)) fun n7=>∃iw:Addr,c=some iw∧∃ED:Option Addr,bz.cell? iw=some (.pointer ED)∧∃g0:Addr,ED=some g0∧∃Ch:Option Addr,
 bz.cell? (g0.add 1)=some (.pointer Ch)∧bk F.Dv #[.pointer Ch, .int .i64 n7] bz fun auH cy=>∃mj:Addr,c=some mj∧∃EE:Option Addr,cy.cell? mj=some (.pointer EE)∧∃tD:Addr,EE=some tD∧∃ago
 :Option Addr,cy.cell? (tD.add 1)=some (.pointer ago)∧bj F.Du #[.pointer ago, .int .i64 n7] cy fun n21 dk=>aF auH (∃a22:Addr,c=some a22∧∃agp:Option Addr,dk.cell? a22=some (.pointer agp)∧∃a24:
 Addr,agp=some a24∧∃agq:Option Addr,dk.cell? a24=some (.pointer agq)∧bk F.Dp #[.pointer agq, .int .i64 n7] dk fun D_ cv=>oz cv) (oz dk)) (fun fk=>g2 (aE (bw+1)) fk∧ja (aE (bw+1)) fk<ja bw bz))
 (Q (.tuple #[]) bz)
def A.BA:bL:=(.s .r (.c1 (.loop [(9,(.int .i64))] [0,7,8] (.s .r (.s (.c .l .l) (.s (.lO [] [0,7,8,9] (.c1 (.s .r (.s .r (.s .r (.s .r (.c .r .l))))))) .r))))))
theorem W.aoT (c:Option Addr) (l:ab) (w:World) (Q:Value→World→Prop) (h:W.BA c l w Q):aP Tryz.prog F.BA #[.pointer c, .slice l.a l.len l.cap] w Q:=okF A.BA Tryz.func111 (by kernel_rfl) (by kernel_rfl) h
def W.xG (c:Option Addr) (lM:ab) (uT:Bool) (n_:ab) (oa:ab) (ob:ab) (w:World) (Q:Value→World→Prop):Prop:=az (w.alloc (.cells #[.bool uT, .slice n_.a n_.len
 n_.cap, .slice oa.a oa.len oa.cap, .slice ob.a ob.len ob.cap] ah.cR)) fun ag=>bR ag (ai w) fun cG=>ar ag (Addr.add (ai w) 1) fun bS=>ar ag (Addr.add (ai w) 2) fun cO=>ar ag
 (Addr.add (ai w) 3) fun bE=>az (ag.alloc dA) fun bg=>cT bg (ai ag) [.bool cG, .slice bS.a bS.len bS.cap, .slice cO.a cO.len cO.cap, .slice bE.a bE.len bE.cap]∧(4:Nat)=4∧az (setCells bg (ai ag) 0 [.bool cG, .slice bS.a
 bS.len bS.cap, .slice cO.a cO.len cO.cap, .slice bE.a bE.len bE.cap]) fun aS=>∃ (GS:Int→World→Prop) (M3:Int→World→Nat),GS (aE ((lM.len:Int)-1)) aS∧∀ (n10:Int) (cf:World),GS n10 cf→aF (decide (n10≥0)) (az
 (cf.drew) fun cy=>∃Ro:Nat→Prop,∃kU:Addr,c=some kU∧¬Ro (kU.add 2).block∧ar cy (kU.add 2) fun fp=>∃nh:Addr,lM.a=some nh∧bc n10 lM.len∧¬Ro (nh.add (Int.toNat n10*6)).block∧bD cy (nh.add
 (Int.toNat n10*6)) fun n17=>az (cy.alloc (.cells #[.int .i64 n17] ah.int)) fun e6=>ao Ro cy e6∧∃eB:ab,∃cC:World,Sem.run Tryz.prog (Builtin.append_ #[ah.eY,ah.eY] ah.eY #[.slice fp.a fp.len fp.cap,
 .slice (some (ai cy)) 1 1]) e6= .ok (.slice eB.a eB.len eB.cap) cC∧ao Ro e6 cC∧∃kz:Addr,c=some kz∧st cC (kz.add 2) (.slice eB.a eB.len eB.cap) fun cF=>de (fun MX:Bool→World→Prop=>aF (n10==0) (ar
 cF (Addr.add (ai ag) 1) fun rn=>MX ((rn.len:Int)==0) cF) (MX false cF)) (fun (xJ:Bool) cv=>aF xJ (az (cv.drew) fun mY=>∃Rp:Nat→Prop,¬Rp ((ai ag):Addr).block∧bR mY (ai ag) fun M1=>ar mY (Addr.add (ai
 ag) 1) fun iO=>ar mY (Addr.add (ai ag) 2) fun ic=>ar mY (Addr.add (ai ag) 3) fun c9=>∃a33:Addr,c=some a33∧¬Rp a33.block∧∃MU:Option Addr,mY.cell? a33=some (.pointer MU)∧∃a35:Addr,MU=some a35∧¬Rp
 (a35.add 4).block∧bD mY (a35.add 4) fun n36=>oy F.zn #[.agg #[.bool M1, .slice iO.a iO.len iO.cap, .slice ic.a ic.len ic.cap, .slice c9.a c9.len c9.cap], .int .i64 n36] mY fun n39 n40 n41 lr=>ao Rp mY lr∧Q
 (.tuple #[.int .i64 n39, .int .i64 n40, .int .i64 n41]) lr) (de (fun agr:Option Addr→World→Prop=>aF (decide (n10>0)) (∃M4:Addr,lM.a=some M4∧bc (aE (n10-1)) lM.len∧agr (some (M4.add (Int.toNat (aE (n10-1))*
 6))) cv) (agr none cv)) (fun (ags:Option Addr) jW=>bR jW (ai ag) fun Cg=>ar jW (Addr.add (ai ag) 1) fun nj=>ar jW (Addr.add (ai ag) 2) fun nB=>ar jW (Addr.add (ai ag) 3) fun hO=>U5 F.zm #[.pointer c,
 .agg #[.bool Cg, .slice nj.a nj.len nj.cap, .slice nB.a nB.len nB.cap, .slice hO.a hO.len hO.cap], .pointer ags] jW fun ih zi auI agt oP=>aF (agt !=0) (Q (.tuple #[.int .i64 0, .int .i64 0, .int .i64 agt]) oP) (aF (n10==
 0) (oy F.DX #[.pointer c, .slice ih.a ih.len ih.cap] oP fun Xw auJ Xx yR=>Q (.tuple #[.int .i64 Xw, .int .i64 auJ, .int .i64 Xx]) yR) (∃rf:Addr,ags=some rf∧bR oP (rf.add 1) fun agc=>ar oP ((rf.add
 1).add 1) fun pg=>ar oP ((rf.add 1).add 2) fun ow=>ar oP ((rf.add 1).add 3) fun r4=>nq F.ze #[.agg #[.bool agc, .slice pg.a pg.len pg.cap, .slice ow.a ow.len ow.cap, .slice r4.a r4.len r4.cap], .int .i64
 zi, .int .i64 auI, .slice ih.a ih.len ih.cap] oP fun agu pH gn fI zv=>cT zv (ai ag) [.bool agu, .slice pH.a pH.len pH.cap, .slice gn.a gn.len gn.cap, .slice fI.a fI.len fI.cap]∧(4:Nat)=4∧az (setCells zv
 (ai ag) 0 [.bool agu, .slice pH.a pH.len pH.cap, .slice gn.a gn.len gn.cap, .slice fI.a fI.len fI.cap]) fun tp=>GS (aE (n10-1)) tp∧M3 (aE (n10-1)) tp<M3 n10 cf)))))) (bR cf (ai ag) fun Rn=>ar cf (Addr.add (ai ag)
 1) fun rm=>ar cf (Addr.add (ai ag) 2) fun jq=>ar cf (Addr.add (ai ag) 3) fun l4=>gE F.A7 #[.pointer c, .agg #[.bool Rn, .slice rm.a rm.len rm.cap, .slice jq.a jq.len jq.cap, .slice l4.a l4.len l4.cap]] cf
 fun qm agv jI=>aF (agv !=0) (Q (.tuple #[.int .i64 0, .int .i64 0, .int .i64 agv]) jI) (∃agw:Addr,qm.a=some agw∧bc 0 qm.len∧bD jI ((agw.add (Int.toNat 0*2)).add 1) fun Xy=>Q (.tuple #[.int .i64 Xy, .int .i64 1, .int
 .i64 0]) jI))
def A.xG:bL:=(.s .r (.s .r (.s (.s .r (.c1 (.loop [(10,(.int .i64))] [0,1,9] (.s (.s .r (.c .l .l)) (.s (.c1 (.s (.eL 12 true ⟨[0,0,2,4,8,0,0,96,128,256,512,1040,4095,8191,12287],[0,0,2,4,8,0,0,
 96,128,256,512,1040,1,4096,10240]⟩ [33554432,67108864,134217728,268435456,536870912,1073741824,2147483648,4294967296,8589934592,17179869184,34359738368,68719476736,137438953472,274877906944,0] [1,1,67108864,
 134217728,268435456,2,1024,3221225472,4294967296,8589934592,17179869184,34896609280,33554432,137438953472,343597383680] (.take 0 (.take 1 (.take 2 (.take 3 (.take 4 (.take 5 (.take 6 (.take 7 (.take 8 (.take 9 (.cS 10 (.cS 11
 (.tail [.run, .run, .run])))))))))))))) (.s (.s (.gB [.run, .run, .run, .split 4]) (.c (.s (.eL 12 true ⟨[0,0,2,4,8,16,32,64,129,256,256,256,4095,8191,16383],[0,0,2,4,8,16,32,64,129,256,256,256,512,1024,2048]⟩
 [140737488355328,281474976710656,562949953421312,1125899906842624,2251799813685248,4503599627370496,9007199254740992,18014398509481984,36028797018963968,72057594037927936,144115188075855872,288230376151711744,64,128,256] [512,
 1,281474976710656,562949953421312,1125899906842624,2251799813685248,4503599627370496,9007199254740992,18155135997837312,36028797018963968,36028797018963968,36028797018963968,72057594037927936,144115188075855872,
 288230376151711744] (.take 0 (.take 1 (.take 2 (.take 3 (.take 4 (.take 5 (.take 6 (.take 7 (.cS 8 (.take 9 (.take 10 (.take 11 (.tail [.run, .run, .run])))))))))))))) .l) .l)) (.s .r (.s (.lO [(11, .ptr)] [0,1,9,10] (.s .r (.c .r .l)))
 (.s .r (.s a7 (.s a7 .r)))))))) .r))))) iS)))
theorem W.abQ (c:Option Addr) (lM:ab) (uT:Bool) (n_:ab) (oa:ab) (ob:ab) (w:World) (Q:Value→World→Prop) (h:W.xG c lM uT n_ oa ob w Q):aP Tryz.prog F.xG #[.pointer c, .slice lM.a lM.len lM.cap, .agg #[.bool uT, .slice n_.a n_.len n_.cap, .slice oa.a oa.len oa.cap, .slice ob.a ob.len ob.cap]] w Q:=okF A.xG Tryz.func112 (by kernel_rfl) (by kernel_rfl) h
def W.DA (n:Int) (w:World) (Q:Value→World→Prop):Prop:=Q (.bool ((decide (n≥1))&&(decide (n≤1600)))) w
def A.DA:bL:=(.s .r a3)
theorem W.amQ (n:Int) (w:World) (Q:Value→World→Prop) (h:W.DA n w Q):aP Tryz.prog F.DA #[.int .i64 n] w Q:=okF A.DA Tryz.func114 (by kernel_rfl) (by kernel_rfl) h
def W.DB (n:Int) (w:World) (Q:Value→World→Prop):Prop:=(8:Int)≠0∧Q (.int .i64 (aE (Int.tdiv (aE ((aE (n+8))-1)) 8))) w
def A.DB:bL:=(.s .r (.s .r .l))
theorem W.amS (n:Int) (w:World) (Q:Value→World→Prop) (h:W.DB n w Q):aP Tryz.prog F.DB #[.int .i64 n] w Q:=okF A.DB Tryz.func115 (by kernel_rfl) (by kernel_rfl) h
end
section
set_option maxRecDepth 100000
def W.AX (s:ab) (no:Int) (w:World) (Q:Value→World→Prop):Prop:=az (w.drew) fun ag=>(8:Int)≠0∧∃cQ:Addr,s.a=some cQ∧bc (aE (Int.tdiv no 8)) s.len∧¬False∧iC ag (cQ.add (Int.toNat (aE (Int.tdiv no
 8))*1)) fun bw=>(8:Int)≠0∧(0:Int)≤(Int.tmod no 8)∧∃a4:Addr,s.a=some a4∧bc (aE (Int.tdiv no 8)) s.len∧st ag (a4.add (Int.toNat (aE (Int.tdiv no 8))*1)) (.int .u8 (Cz .u8 bw (IntKind.wrap .u8 (1*2^(min
 (Int.toNat (Int.tmod no 8)) 8))))) fun bO=>Q (.tuple #[]) bO
def A.AX:bL:=(.eL 8 false ⟨[0,0,2,5,8,0,32,64,144,511,1023],[0,0,2,5,8,0,32,64,144,5,768]⟩ [16,32,64,128,256,512,1024,2048,4096,8192,0] [1,2,32,80,128,2,512,1024,2304,80,12288] (.take
 0 (.take 1 (.take 2 (.take 3 (.take 4 (.take 5 (.take 6 (.take 7 (.tail [.run, .run, .run]))))))))))
theorem W.amf (s:ab) (no:Int) (w:World) (Q:Value→World→Prop) (h:W.AX s no w Q):aP Tryz.prog F.AX #[.slice s.a s.len s.cap, .int .i64 no] w Q:=okF A.AX Tryz.func116 (by kernel_rfl) (by kernel_rfl) h
def W.va (j1:ab) (w:World) (Q:Value→World→Prop):Prop:=Q (.bool ((decide ((j1.len:Int)≥1))&&(decide ((j1.len:Int)≤24)))) w
def A.va:bL:=iI
theorem W.ajl (j1:ab) (w:World) (Q:Value→World→Prop) (h:W.va j1 w Q):aP Tryz.prog F.va #[.slice j1.a j1.len j1.cap] w Q:=okF A.va Tryz.func118 (by kernel_rfl) (by kernel_rfl) h
def W.Gq (c:Option Addr) (choose:qB) (w:World) (Q:Value→World→Prop):Prop:=aF (Option.isNone c) (Q (.slice none 0 0) w) (∃a7:Addr,c=some a7∧ar w (a7.add 1) fun s2=>∃ (j0:ab→Int→World→Prop) (mT
 :ab→Int→World→Nat),j0 ⟨none,0,0⟩ 0 w∧∀ (bE:ab) (n6:Int) (aS:World),j0 bE n6 aS→aF (decide (n6<(s2.len:Int))) (de (fun sB:ab→World→Prop=>∃a9:Addr,s2.a=some a9∧bc n6 s2.len∧bR aS (a9.add (Int.toNat n6
 *6)) fun nH=>bR aS ((a9.add (Int.toNat n6*6)).add 1) fun qa=>bR aS ((a9.add (Int.toNat n6*6)).add 2) fun uM=>bD aS ((a9.add (Int.toNat n6*6)).add 3) fun n13=>bD aS ((a9.add (Int.toNat n6*6)).add 4) fun n14=>ar aS
 ((a9.add (Int.toNat n6*6)).add 5) fun fp=>az (aS.alloc (.cells #[.bool false, .bool false, .bool false, .int .i64 0, .int .i64 0, .slice none 0 0] ah.qo)) fun cZ=>cT cZ (ai aS) [.bool nH, .bool qa, .bool uM, .int
 .i64 n13, .int .i64 n14, .slice fp.a fp.len fp.cap]∧(6:Nat)=6∧az (setCells cZ (ai aS) 0 [.bool nH, .bool qa, .bool uM, .int .i64 n13, .int .i64 n14, .slice fp.a fp.len fp.cap]) fun dK=>bR dK (ai aS) fun r5=>bR dK
 (Addr.add (ai aS) 1) fun zB=>bR dK (Addr.add (ai aS) 2) fun tF=>bD dK (Addr.add (ai aS) 3) fun n21=>bD dK (Addr.add (ai aS) 4) fun n22=>ar dK (Addr.add (ai aS) 5) fun ec=>sk Tryz.prog choose.f∧Calls Tryz.prog
 choose.f (choose.pre++ #[.agg #[.bool r5, .bool zB, .bool tF, .int .i64 n21, .int .i64 n22, .slice ec.a ec.len ec.cap]]++choose.cap) dK fun Km cI=>∃EF:Bool,Km= .returned (.bool EF)∧aF EF (bD cI (Addr.add (ai aS) 3)
 fun n27=>OZ cI n27 bE sB) (sB bE cI)) (fun (ic:ab) m6=>j0 ic (aE (n6+1)) m6∧mT ic (aE (n6+1)) m6<mT bE n6 aS)) (bm F.adf #[.slice bE.a bE.len bE.cap] aS fun eo=>Q (.slice bE.a bE.len bE.cap)
 eo))
def A.Gq:bL:=(.s .r (.s .r (.s a7 (.s (.s .r (.c1 (.loop [(5, .slice),(15,(.int .i64))] [1,13,14] (.s .r (.s (.c .l .l) (.s (.lO [(5, .slice)] [1,13,14,15] (.c1 (.s .r (.s .r (.c .r .l))))) .r)))))) (.s .r (.s .r
 .l))))))
theorem W.asz (c:Option Addr) (choose:qB) (w:World) (Q:Value→World→Prop) (h:W.Gq c choose w Q):aP Tryz.prog F.Gq #[.pointer c, .func (.func choose.f) choose.pre choose.cap] w Q:=okF A.Gq Tryz.func123 (by kernel_rfl) (by kernel_rfl) h
def W.zK (Rq:Bool) (Rr:Bool) (Rs:Bool) (Rt:Int) (Ru:Int) (EG:ab) (w:World) (Q:Value→World→Prop):Prop:=az (w.alloc (.cells #[.bool Rq, .bool Rr, .bool Rs, .int .i64
 Rt, .int .i64 Ru, .slice EG.a EG.len EG.cap] ah.qo)) fun ag=>bR ag (ai w) fun cG=>de (fun kN:Bool→World→Prop=>aF cG (bR ag (Addr.add (ai w) 1) fun eQ=>kN eQ ag) (kN false ag)) (fun (iA:Bool) bg=>Q (.bool
 iA) bg)
def A.zK:bL:=(.s .r (.s (.gB [.run, .run, .run, .split 2]) .l))
theorem W.asw (Rq:Bool) (Rr:Bool) (Rs:Bool) (Rt:Int) (Ru:Int) (EG:ab) (w:World) (Q:Value→World→Prop) (h:W.zK Rq Rr Rs Rt Ru EG w Q):aP Tryz.prog F.zK #[.agg #[.bool Rq, .bool Rr, .bool Rs, .int .i64 Rt, .int .i64 Ru, .slice EG.a EG.len EG.cap]] w Q:=okF A.zK Tryz.func124 (by kernel_rfl) (by kernel_rfl) h
def W.wG (leaf:Bool) (b:ab) (w:World) (Q:Value→World→Prop):Prop:=az (w.alloc dA) fun ag=>az (ag.alloc (.cells #[.slice b.a b.len b.cap, .bool true] ah.YK)) fun aw=>az (aw.alloc dA) fun a8=>cT a8
 (ai aw) [.bool leaf, .slice none 0 0, .slice none 0 0, .slice none 0 0]∧(4:Nat)=4∧az (setCells a8 (ai aw) 0 [.bool leaf, .slice none 0 0, .slice none 0 0, .slice none 0 0]) fun bz=>bj F.wD #[.pointer (some (ai
 ag)), .int .i64 1] bz fun n7 bO=>de (fun sB:World→Prop=>aF (!leaf) (SC bO aw ag sB) (sB bO)) (fun dk=>∃ (Xz:Int→World→Prop) (agx:Int→World→Nat),Xz 0 dk∧∀ (n22:Int) (pd:World),Xz n22 pd→aF (decide (n22
 <n7)) (de (fun zI:World→Prop=>az (pd.drew) fun fM=>∃sn:Nat→Prop,¬sn (Addr.add (ai aw) 1).block∧ar fM (Addr.add (ai aw) 1) fun dd=>dZ F.wE #[.pointer (some (ai ag))] fM fun iO fA=>ao sn fM fA
 ∧az (fA.alloc (.cells #[.slice iO.a iO.len iO.cap] ah.cc)) fun fu=>ao sn fA fu∧∃c9:ab,∃eo:World,Sem.run Tryz.prog (Builtin.append_ #[ah.cJ,ah.cJ] ah.cJ #[.slice dd.a dd.len
 dd.cap, .slice (some (ai fA)) 1 1]) fu= .ok (.slice c9.a c9.len c9.cap) eo∧st eo (Addr.add (ai aw) 1) (.slice c9.a c9.len c9.cap) fun eO=>aF leaf (az (eO.drew) fun lv=>∃XA:Nat→Prop,¬XA (Addr.add (ai aw)
 2).block∧ar lv (Addr.add (ai aw) 2) fun km=>dZ F.wE #[.pointer (some (ai ag))] lv fun e8 iu=>ao XA lv iu∧az (iu.alloc (.cells #[.slice e8.a e8.len e8.cap] ah.cc)) fun ek=>ao XA iu ek∧∃m7:
 ab,∃iv:World,Sem.run Tryz.prog (Builtin.append_ #[ah.cJ,ah.cJ] ah.cJ #[.slice km.a km.len km.cap, .slice (some (ai iu)) 1 1]) ek= .ok (.slice m7.a m7.len m7.cap) iv∧st iv (Addr.add (ai aw) 2)
 (.slice m7.a m7.len m7.cap) fun ny=>zI ny) (SC eO aw ag zI)) (fun fo=>Xz (aE (n22+1)) fo∧agx (aE (n22+1)) fo<agx n22 pd)) (bR pd (ai aw) fun auK=>ar pd (Addr.add (ai aw) 1) fun p8=>ar pd (Addr.add (ai aw)
 2) fun kT=>ar pd (Addr.add (ai aw) 3) fun iq=>gE F.vd #[.agg #[.bool auK, .slice p8.a p8.len p8.cap, .slice kT.a kT.len kT.cap, .slice iq.a iq.len iq.cap]] pd fun nc auL tj=>∃a64:Addr,(some (ai ag):Option
 Addr)=some a64∧bR tj (a64.add 1) fun uG=>de (fun M5:Bool→World→Prop=>aF ((!uG)||(auL !=0)) (M5 true tj) (bk F.yx #[.slice nc.a nc.len nc.cap, .slice b.a b.len b.cap] tj fun uH o3=>M5 (!uH) o3))
 (fun (auM:Bool) rY=>aF auM (cT rY (ai w) [.bool false, .slice none 0 0, .slice none 0 0, .slice none 0 0]∧(4:Nat)=4∧az (setCells rY (ai w) 0 [.bool false, .slice none 0 0, .slice none 0 0, .slice none 0 0]) fun tp=>
 Ka tp w Q) (bR rY (ai aw) fun agy=>ar rY (Addr.add (ai aw) 1) fun nG=>ar rY (Addr.add (ai aw) 2) fun qm=>ar rY (Addr.add (ai aw) 3) fun kx=>cT rY (ai w) [.bool agy, .slice nG.a nG.len nG.cap, .slice qm.a qm.len
 qm.cap, .slice kx.a kx.len kx.cap]∧(4:Nat)=4∧az (setCells rY (ai w) 0 [.bool agy, .slice nG.a nG.len nG.cap, .slice qm.a qm.len qm.cap, .slice kx.a kx.len kx.cap]) fun qv=>bR qv (ai w) fun q0=>ar qv (Addr.add
 (ai w) 1) fun iW=>ar qv (Addr.add (ai w) 2) fun g5=>ar qv (Addr.add (ai w) 3) fun g6=>Q (.tuple #[.agg #[.bool q0, .slice iW.a iW.len iW.cap, .slice g5.a g5.len g5.cap, .slice g6.a g6.len g6.cap], .int .i64 0]) qv))))
def A.wG:bL:=(.s .r (.s .r (.s .r (.s (.lO [] [0,1,4,6,7,8] (.s .r (.c (.eL 5 true ⟨[0,1,0,4,8,26,63,127],[0,1,0,4,8,18,0,96]⟩ [1048576,2097152,4194304,8388608,16777216,33554432,67108864,0] [128,
 1048576,64,4194304,8388608,18874368,128,100663296] (.take 0 (.take 1 (.take 2 (.cS 3 (.cS 4 (.tail [.run, .run, .run]))))))) .l))) (.s (.s .r (.c1 (.loop [(28,(.int .i64))] [0,1,4,6,7,27] (.s .r (.s (.c .l .l) (.s (.lO [] [0,
 1,4,6,7,27,28] (.c1 (.s (.eL 5 true ⟨[0,1,0,4,8,26,63,127],[0,1,0,4,8,18,0,96]⟩ [1073741824,2147483648,4294967296,8589934592,17179869184,34359738368,68719476736,0] [128,1073741824,64,4294967296,8589934592,
 19327352832,128,103079215104] (.take 0 (.take 1 (.take 2 (.cS 3 (.cS 4 (.tail [.run, .run, .run]))))))) (.s .r (.c (.eL 5 true ⟨[0,1,0,4,8,26,63,127],[0,1,0,4,8,18,0,96]⟩ [274877906944,549755813888,1099511627776,
 2199023255552,4398046511104,8796093022208,17592186044416,0] [128,274877906944,64,1099511627776,2199023255552,4947802324992,128,26388279066624] (.take 0 (.take 1 (.take 2 (.cS 3 (.cS 4 (.tail [.run, .run, .run]))))))) (.eL 5
 true ⟨[0,1,0,4,8,26,63,127],[0,1,0,4,8,18,0,96]⟩ [35184372088832,70368744177664,140737488355328,281474976710656,562949953421312,1125899906842624,2251799813685248,0] [128,35184372088832,64,140737488355328,
 281474976710656,633318697598976,128,3377699720527872] (.take 0 (.take 1 (.take 2 (.cS 3 (.cS 4 (.tail [.run, .run, .run])))))))))))) .r)))))) (.s .r (.s (.s (.gB [.run, .run, .run, .run, .run, .run, .pure 2, .run, .run, .run, .split
 4]) (.c (.s .r .l) .l)) (.s .r .l))))))))
theorem W.ajB (leaf:Bool) (b:ab) (w:World) (Q:Value→World→Prop) (h:W.wG leaf b w Q):aP Tryz.prog F.wG #[.bool leaf, .slice b.a b.len b.cap] w Q:=okF A.wG Tryz.func129 (by kernel_rfl) (by kernel_rfl) h
def W.u0 (b:ab) (w:World) (Q:Value→World→Prop):Prop:=az (w.drew) fun ag=>((0:Int)≤20∧20≤((b.cap:Nat):Int))∧((0:Int)≤24∧24≤(b.len:Int))∧az (ag.alloc (.cells #[.slice (bh b.a 1 0 b.cap)
 ((Int.toNat 20)-0) (b.cap-0), .slice (bh b.a 1 (Int.toNat 24) b.cap) (b.len-(Int.toNat 24)) (b.cap-(Int.toNat 24))] ah.cc)) fun aw=>CF F.CE #[.slice (some (ai ag)) 2 2] aw fun n5 a8=>Q (.int .u32 n5) a8
def A.u0:bL:=(.s .r (.s (.eL 4 false ⟨[0,1,0,4,10,16,63],[0,1,0,4,10,16,32]⟩ [8,16,32,64,128,256,4] [1,8,1,32,80,128,256] (.take 0 (.take 1 (.take 2 (.take 3 (.tail [.run, .run, .run])))))) .l))
theorem W.aiQ (b:ab) (w:World) (Q:Value→World→Prop) (h:W.u0 b w Q):aP Tryz.prog F.u0 #[.slice b.a b.len b.cap] w Q:=okF A.u0 Tryz.func130 (by kernel_rfl) (by kernel_rfl) h
def W.rE (b:ab) (k8:Int) (Rv:Int) (w:World) (Q:Value→World→Prop):Prop:=N3 F.sT #[.slice b.a b.len b.cap, .int .i64 k8, .int .i64 (aE (Rv-k8))] w fun bw eQ ag=>Q (.int .u64 bw) ag
def A.rE:bL:=a4
theorem W.aiY (b:ab) (k8:Int) (Rv:Int) (w:World) (Q:Value→World→Prop) (h:W.rE b k8 Rv w Q):aP Tryz.prog F.rE #[.slice b.a b.len b.cap, .int .i64 k8, .int .i64 Rv] w Q:=okF A.rE Tryz.func131 (by kernel_rfl) (by kernel_rfl) h
def W.GO (j1:Int) (w:World) (Q:Value→World→Prop):Prop:=Q (.bool ((decide (j1≥1))&&(decide (j1≤4)))) w
def A.GO:bL:=(.s .r a3)
theorem W.Yq (j1:Int) (w:World) (Q:Value→World→Prop) (h:W.GO j1 w Q):aP Tryz.prog F.GO #[.int .i64 j1] w Q:=okF A.GO Tryz.func132 (by kernel_rfl) (by kernel_rfl) h
def W.yv (b:ab) (w:World) (Q:Value→World→Prop):Prop:=∃ (g2:Int→World→Prop) (ja:Int→World→Nat),g2 0 w∧∀ (bw:Int) (bz:World),g2 bw bz→aF (decide (bw<(b.len:Int))) (∃a5:Addr,b.a=some a5∧bc
 bw b.len∧iC bz (a5.add (Int.toNat bw*1)) fun n6=>aF (n6 !=0) (Q (.bool false) bz) (g2 (aE (bw+1)) bz∧ja (aE (bw+1)) bz<ja bw bz)) (Q (.bool true) bz)
def A.yv:bL:=(.s .r (.s (.s .r (.c1 (.loop [(7,(.int .i64))] [5,6] kk))) (.s .r .l)))
theorem W.aiZ (b:ab) (w:World) (Q:Value→World→Prop) (h:W.yv b w Q):aP Tryz.prog F.yv #[.slice b.a b.len b.cap] w Q:=okF A.yv Tryz.func133 (by kernel_rfl) (by kernel_rfl) h
def W.GP (no:Int) (w:World) (Q:Value→World→Prop):Prop:=Q (.bool ((decide (no≥0))&&(decide (no<1600)))) w
def A.GP:bL:=(.s .r a3)
theorem W.Yp (no:Int) (w:World) (Q:Value→World→Prop) (h:W.GP no w Q):aP Tryz.prog F.GP #[.int .i64 no] w Q:=okF A.GP Tryz.func134 (by kernel_rfl) (by kernel_rfl) h
def W.ym (b:ab) (k8:Int) (size:Int) (w:World) (Q:Value→World→Prop):Prop:=E6 F.uZ #[.slice b.a b.len b.cap, .int .i64 k8, .int .i64 size] w fun bS eQ ag=>dZ F.mo #[.slice bS.a bS.len
 bS.cap] ag fun jg bO=>Q (.tuple #[.slice jg.a jg.len jg.cap, .bool eQ]) bO
def A.ym:bL:=a4
theorem W.aiI (b:ab) (k8:Int) (size:Int) (w:World) (Q:Value→World→Prop) (h:W.ym b k8 size w Q):aP Tryz.prog F.ym #[.slice b.a b.len b.cap, .int .i64 k8, .int .i64 size] w Q:=okF A.ym Tryz.func135 (by kernel_rfl) (by kernel_rfl) h
def W.AY (s:Option Addr) (no:Int) (w:World) (Q:Value→World→Prop):Prop:=de (fun dJ:Bool→World→Prop=>aF ((!(Option.isNone s))&&(decide (no≥0))) (∃cQ:Addr,s=some cQ∧bD w cQ fun bw=>dJ (decide
 (no<bw)) w) (dJ false w)) (fun (eQ:Bool) bO=>Q (.bool eQ) bO)
def A.AY:bL:=(.s .r (.s (.gB [.run, .run, .run, .pure 2, .run, .run, .run, .split 6]) .l))
theorem W.amk (s:Option Addr) (no:Int) (w:World) (Q:Value→World→Prop) (h:W.AY s no w Q):aP Tryz.prog F.AY #[.pointer s, .int .i64 no] w Q:=okF A.AY Tryz.func138 (by kernel_rfl) (by kernel_rfl) h
def W.sW (parts:ab) (w:World) (Q:Value→World→Prop):Prop:=∃ (g2:ab→Int→World→Prop) (ja:ab→Int→World→Nat),g2 ⟨none,0,0⟩ 0 w∧∀ (bS:ab) (gi:Int) (bO:World),g2 bS gi bO→aF (decide (gi<
 (parts.len:Int))) (∃iI:Addr,parts.a=some iI∧bc gi parts.len∧ar bO (iI.add (Int.toNat gi*1)) fun jg=>∃fw:ab,∃bY:World,Sem.run Tryz.prog (Builtin.append_ #[ah.cc,ah.cc] ah.cc #[.slice bS.a bS.len
 bS.cap, .slice jg.a jg.len jg.cap]) bO= .ok (.slice fw.a fw.len fw.cap) bY∧g2 fw (aE (gi+1)) bY∧ja fw (aE (gi+1)) bY<ja bS gi bO) (Q (.slice bS.a bS.len bS.cap) bO)
def A.sW:bL:=(.s .r (.s .r (.s (.s .r (.c1 (.loop [(3, .slice),(8,(.int .i64))] [6,7] cQ))) (.s .r .l))))
theorem W.aiF (parts:ab) (w:World) (Q:Value→World→Prop) (h:W.sW parts w Q):aP Tryz.prog F.sW #[.slice parts.a parts.len parts.cap] w Q:=okF A.sW Tryz.func141 (by kernel_rfl) (by kernel_rfl) h
def W.pk (b:ab) (n:Int) (size:Int) (w:World) (Q:Value→World→Prop):Prop:=dZ F.mo #[.slice b.a b.len b.cap] w fun bS ag=>bk F.GQ #[.int .i64 size] ag fun ln bz=>aF (!ln) (Q (.slice bS.a
 bS.len bS.cap) bz) (∃ (XB:ab→Int→World→Prop) (agz:ab→Int→World→Nat),XB bS (aE (size-1)) bz∧∀ (dn:ab) (n10:Int) (cf:World),XB dn n10 cf→aF (decide (n10≥0)) ((0:Int)≤(aE (8*n10))∧az (cf.alloc (.cells
 #[.int .u8 (IntKind.wrap .u8 (Int.fdiv n (2^(min (Int.toNat (aE (8*n10))) 64))))] ah.uint8)) fun cy=>∃g1:ab,∃dB:World,Sem.run Tryz.prog (Builtin.append_ #[ah.cc,ah.cc] ah.cc #[.slice dn.a dn.len dn.cap,
 .slice (some (ai cf)) 1 1]) cy= .ok (.slice g1.a g1.len g1.cap) dB∧XB g1 (aE (n10-1)) dB∧agz g1 (aE (n10-1)) dB<agz dn n10 cf) (Q (.slice dn.a dn.len dn.cap) cf))
def A.pk:bL:=(.s .r (.s .r (.s a7 (.s (.s .r (.c1 (.loop [(7, .slice),(8,(.int .i64))] [1] (.s (.s .r (.c .l .l)) (.s (.c1 .r) .r))))) (.s .r .l)))))
theorem W.aiv (b:ab) (n:Int) (size:Int) (w:World) (Q:Value→World→Prop) (h:W.pk b n size w Q):aP Tryz.prog F.pk #[.slice b.a b.len b.cap, .int .u64 n, .int .i64 size] w Q:=okF A.pk Tryz.func142 (by kernel_rfl) (by kernel_rfl) h
def W.Dl (c:Option Addr) (no:Int) (w:World) (Q:Value→World→Prop):Prop:=bk F.AR #[.pointer c, .int .i64 no] w fun eT ag=>aF (!eT) (Q (.tuple #[.slice none 0 0, .int .i64 1]) ag) (xk
 F.xh #[.pointer c, .int .i64 no] ag fun m9 bz=>aF (!(Option.isNone m9)) (∃lG:Addr,m9=some lG∧st bz (lG.add 2) (.bool true) fun cd=>∃a9:Addr,m9=some a9∧ar cd (a9.add 5) fun fW=>dZ
 F.mo #[.slice fW.a fW.len fW.cap] cd fun g1 cf=>Q (.tuple #[.slice g1.a g1.len g1.cap, .int .i64 0]) cf) (AV F.AT #[.pointer c] bz fun EE n17 dB=>aF (n17 !=0) (Q (.tuple #[.slice none 0
 0, .int .i64 n17]) dB) (∃oc:Addr,c=some oc∧∃agA:Option Addr,dB.cell? oc=some (.pointer agA)∧gE F.xg #[.pointer agA, .int .i64 no] dB fun f_ n23 cC=>aF (n23 !=0) (Q (.tuple #[.slice none 0 0, .int .i64
 n23]) cC) (∃a24:Addr,EE=some a24∧cT cC a24 [.bool true, .bool false, .bool true, .int .i64 no, .int .i64 0, .slice f_.a f_.len f_.cap]∧(6:Nat)=6∧az (setCells cC a24 0 [.bool true, .bool false, .bool true, .int
 .i64 no, .int .i64 0, .slice f_.a f_.len f_.cap]) fun fM=>dZ F.mo #[.slice f_.a f_.len f_.cap] fM fun e9 cv=>Q (.tuple #[.slice e9.a e9.len e9.cap, .int .i64 0]) cv))))
def A.Dl:bL:=(.s .r (.s a7 (.s (.s .r (.s .r iw)) (.s .r (.s a7 (.s .r kU))))))
theorem W.alH (c:Option Addr) (no:Int) (w:World) (Q:Value→World→Prop) (h:W.Dl c no w Q):aP Tryz.prog F.Dl #[.pointer c, .int .i64 no] w Q:=okF A.Dl Tryz.func145 (by kernel_rfl) (by kernel_rfl) h
def W.wA (v:ab) (w:World) (Q:Value→World→Prop):Prop:=Q (.bool (decide ((v.len:Int)>24))) w
def A.wA:bL:=(.s .r (.s .r .l))
theorem W.ajg (v:ab) (w:World) (Q:Value→World→Prop) (h:W.wA v w Q):aP Tryz.prog F.wA #[.slice v.a v.len v.cap] w Q:=okF A.wA Tryz.func147 (by kernel_rfl) (by kernel_rfl) h
def W.wB (j1:Int) (w:World) (Q:Value→World→Prop):Prop:=Q (.bool ((decide (j1<0))||(decide (j1≥1600)))) w
def A.wB:bL:=(.s .r a3)
theorem W.ajk (j1:Int) (w:World) (Q:Value→World→Prop) (h:W.wB j1 w Q):aP Tryz.prog F.wB #[.int .i64 j1] w Q:=okF A.wB Tryz.func149 (by kernel_rfl) (by kernel_rfl) h
def W.Dv (s:Option Addr) (no:Int) (w:World) (Q:Value→World→Prop):Prop:=bk F.AY #[.pointer s, .int .i64 no] w fun eT ag=>de (fun mK:Bool→World→Prop=>aF eT (∃a5:Addr,s=some a5∧ar
 ag (a5.add 1) fun dj=>bk F.uj #[.slice dj.a dj.len dj.cap, .int .i64 no] ag fun jB aS=>mK jB aS) (mK false ag)) (fun (nH:Bool) cf=>de (fun qe:Bool→World→Prop=>aF nH (∃kk:Addr,s=some kk∧ar cf
 (kk.add 2) fun dw=>bk F.uj #[.slice dw.a dw.len dw.cap, .int .i64 no] cf fun uS ep=>qe (!uS) ep) (qe false cf)) (fun (r5:Bool) dk=>Q (.bool r5) dk))
def A.Dv:bL:=(.s .r (.s (.gB [.run, .run, .run, .run, .split 6, .run, .run, .run, .run, .run, .run, .run, .split 7]) .l))
theorem W.amx (s:Option Addr) (no:Int) (w:World) (Q:Value→World→Prop) (h:W.Dv s no w Q):aP Tryz.prog F.Dv #[.pointer s, .int .i64 no] w Q:=okF A.Dv Tryz.func152 (by kernel_rfl) (by kernel_rfl) h
def W.Du (s:Option Addr) (no:Int) (w:World) (Q:Value→World→Prop):Prop:=bk F.AY #[.pointer s, .int .i64 no] w fun eT ag=>aF (!eT) (Q (.int .i64 1) ag) (∃a4:Addr,s=some a4∧ar ag (a4.add 1)
 fun bE=>bk F.uj #[.slice bE.a bE.len bE.cap, .int .i64 no] ag fun nZ bg=>aF (!nZ) (Q (.int .i64 6) bg) (∃a9:Addr,s=some a9∧ar bg (a9.add 1) fun fW=>bm F.Dq #[.slice fW.a fW.len fW.cap, .int .i64 no]
 bg fun cf=>Q (.int .i64 0) cf))
def A.Du:bL:=(.s .r (.s (.c1 mj) (.s .r (.s .r .l))))
theorem W.amv (s:Option Addr) (no:Int) (w:World) (Q:Value→World→Prop) (h:W.Du s no w Q):aP Tryz.prog F.Du #[.pointer s, .int .i64 no] w Q:=okF A.Du Tryz.func153 (by kernel_rfl) (by kernel_rfl) h
def W.Dp (c:Option Addr) (no:Int) (w:World) (Q:Value→World→Prop):Prop:=xk F.xh #[.pointer c, .int .i64 no] w fun gl ag=>de (fun mK:Bool→World→Prop=>aF (Option.isNone gl) (mK true ag) (∃a5
 :Addr,gl=some a5∧bD ag (a5.add 4) fun n6=>mK (decide (n6>0)) ag)) (fun (k3:Bool) cd=>aF k3 (Q (.bool false) cd) (∃a9:Addr,gl=some a9∧cT cd a9 [.bool false, .bool false, .bool false, .int .i64 0, .int .i64 0,
 .slice none 0 0]∧(6:Nat)=6∧az (setCells cd a9 0 [.bool false, .bool false, .bool false, .int .i64 0, .int .i64 0, .slice none 0 0]) fun b3=>Q (.bool true) b3))
def A.Dp:bL:=(.s .r (.s .r (.s (.s (.gB [.run, .run, .run, .split 5]) (.c (.s .r .l) .l)) (.s .r (.s .r .l)))))
theorem W.al0 (c:Option Addr) (no:Int) (w:World) (Q:Value→World→Prop) (h:W.Dp c no w Q):aP Tryz.prog F.Dp #[.pointer c, .int .i64 no] w Q:=okF A.Dp Tryz.func154 (by kernel_rfl) (by kernel_rfl) h
def W.zn (cN:Bool) (br:ab) (bt:ab) (bu:ab) (bx:Int) (w:World) (Q:Value→World→Prop):Prop:=az (w.alloc (.cells #[.bool cN, .slice br.a br.len br.cap, .slice bt.a bt.len
 bt.cap, .slice bu.a bu.len bu.cap] ah.cR)) fun ag=>bR ag (ai w) fun cG=>aF cG (Q (.tuple #[.int .i64 0, .int .i64 0, .int .i64 0]) ag) (ar ag (Addr.add (ai w) 3) fun bS=>∃a4:Addr,bS.a=some a4∧bc 0 bS.len
 ∧bD ag (a4.add (Int.toNat 0*1)) fun n5=>Q (.tuple #[.int .i64 n5, .int .i64 (aE (bx-1)), .int .i64 0]) ag)
def A.zn:bL:=iS
theorem W.aoX (cN:Bool) (br:ab) (bt:ab) (bu:ab) (bx:Int) (w:World) (Q:Value→World→Prop) (h:W.zn cN br bt bu bx w Q):aP Tryz.prog F.zn #[.agg #[.bool cN, .slice br.a br.len br.cap, .slice bt.a bt.len bt.cap, .slice bu.a bu.len bu.cap], .int .i64 bx] w Q:=okF A.zn Tryz.func155 (by kernel_rfl) (by kernel_rfl) h
def W.zm (c:Option Addr) (cN:Bool) (br:ab) (bt:ab) (bu:ab) (up:Option Addr) (w:World) (Q:Value→World→Prop):Prop:=az (w.alloc (.cells #[.bool cN, .slice br.a br.len
 br.cap, .slice bt.a bt.len bt.cap, .slice bu.a bu.len bu.cap] ah.cR)) fun ag=>de (fun eM:Bool→World→Prop=>aF (Option.isNone up) (eM true ag) (bR ag (ai w) fun eT=>ar ag (Addr.add (ai w) 1) fun
 cO=>ar ag (Addr.add (ai w) 2) fun bE=>ar ag (Addr.add (ai w) 3) fun dj=>bj F.vc #[.agg #[.bool eT, .slice cO.a cO.len cO.cap, .slice bE.a bE.len bE.cap, .slice dj.a dj.len dj.cap]] ag fun n9 aS=>eM (decide (n9≥80)) aS))
 (fun (nH:Bool) cf=>aF nH (de (fun qe:Int→Int→World→Prop=>aF (!(Option.isNone up)) (az (cf.drew) fun b4=>∃kU:Addr,up=some kU∧¬False∧bD b4 (kU.add 5) fun n15=>∃nh:Addr,up=some nh∧¬False∧bD
 b4 (nh.add 5) fun n17=>qe n15 (aE (n17+1)) b4) (qe 0 0 cf)) (fun (n18:Int) (n19:Int) cC=>bR cC (ai w) fun auN=>ar cC (Addr.add (ai w) 1) fun f_=>ar cC (Addr.add (ai w) 2) fun ec=>ar cC (Addr.add (ai w) 3) fun
 rn=>gE F.sx #[.pointer c, .agg #[.bool auN, .slice f_.a f_.len f_.cap, .slice ec.a ec.len ec.cap, .slice rn.a rn.len rn.cap]] cC fun dd n28 fM=>Q (.tuple #[.slice dd.a dd.len dd.cap, .int .i64 n18, .int
 .i64 n19, .int .i64 n28]) fM)) (∃a29:Addr,up=some a29∧bD cf (a29.add 5) fun n30=>∃n31:Int,∃m6:World,Sem.run Tryz.prog (Builtin.max_ #[ah.int,ah.int] ah.int #[.int .i64 (aE (n30-1)), .int .i64 0]) cf= .ok (.int .i64
 n31) m6∧de (fun GR:Int→World→Prop=>∃Jr:Addr,up=some Jr∧bD m6 (Jr.add 5) fun n35=>aF (n35==0) (GR 1 m6) (GR n31 m6)) (fun (n36:Int) lr=>∃Ce:Addr,up=some Ce∧ar lr ((Ce.add 1).add 3) fun gf=>
 ∃MV:Addr,gf.a=some MV∧bc n36 gf.len∧bD lr (MV.add (Int.toNat n36*1)) fun n41=>az (lr.drew) fun gN=>∃M6:Nat→Prop,∃a44:Addr,c=some a44∧¬M6 a44.block∧∃XC:Option Addr,gN.cell? a44=some
 (.pointer XC)∧¬M6 ((ai w):Addr).block∧bR gN (ai w) fun Cg=>(q7 F.tb #[.pointer XC, .int .i64 n41, .bool Cg] gN fun wg gM qF ih zi dI=>ao M6 gN dI∧az (dI.alloc dA) fun lu=>ao M6 dI lu∧Pr
 lu dI wg gM qF ih zi Q c n41 w up n36 n31)∧(az (gN.alloc dA) fun agB=>ao M6 gN agB∧q7 F.tb #[.pointer XC, .int .i64 n41, .bool Cg] agB fun auO auP Ju Jv auQ auR=>Pr auR gN auO auP Ju Jv
 auQ Q c n41 w up n36 n31))))
def A.zm:bL:=(.s .r (.s (.s (.gB [.run, .run, .run, .split 3]) (.c (.s (.lO [(7,(.int .i64)),(8,(.int .i64))] [0,4] (.s .r (.c (.eL 10 false ⟨[0,1,2,4,0,16,32,64,128,15,1023],[0,1,2,4,0,16,32,64,
 128,8,256]⟩ [67108864,134217728,268435456,536870912,1073741824,2147483648,4294967296,8589934592,17179869184,128,256] [4,67108864,134217728,268435456,4,1073741824,2147483648,4294967296,8589934592,536870912,17179869184]
 (.take 0 (.take 1 (.take 2 (.take 3 (.take 4 (.take 5 (.take 6 (.take 7 (.take 8 (.take 9 (.tail [.run])))))))))))) .l))) (.s .r (.s .r .l))) .l)) (.s .r (.s .r (.s (.lO [(10,(.int .i64))] [0,2,4,7] (.s .r (.c .r .l))) (.s .r (.s (.eL
 13 true ⟨[0,1,2,4,0,0,32,88,128,256,256,0,3071,8191],[0,1,2,4,0,0,32,88,128,256,256,0,2560,1024]⟩ [73786976294838206464,147573952589676412928,295147905179352825856,590295810358705651712,1180591620717411303424,
 2361183241434822606848,4722366482869645213696,9444732965739290427392,36893488147419103232,18889465931478580854784,37778931862957161709568,4096,0,512] [1,73786976294838206464,147573952589676412928,295147905179352825856,2048,16,
 2361183241434822606848,6493253913945762168832,9444732965739290427392,36893488147419103232,36893488147419103232,0,18889465931478580858880,37778931862957161709568] (.take 0 (.take 1 (.take 2 (.take 3 (.take 4 (.take 5 (.take 6 (.two 7
 (.take 8 (.take 9 (.take 10 (.cS 11 (.out 12 false (.tail [.run])))))) 11 (.out 7 false (.take 8 (.take 9 (.take 10 (.out 12 false (.tail [.run]))))))))))))))) (.s a7 (.s .r (.s (.eL 5 true ⟨[0,0,0,0,13,31],[0,0,0,0,5,10]⟩
 [618970019642690137449562112,1237940039285380274899124224,8192,16384,0,0] [4096,16,0,0,618970019642690137449570304,1237940039285380274899140608] (.take 0 (.take 1 (.two 2 (.cS 3 (.cS 4 (.tail [.run]))) 3 (.cS 2 (.cS 4 (.tail
 [.run]))))))) (.s (.lO [] [0,2,7,13,14] (.s .r (.c (.eL 3 true ⟨[0,0,1,7],[0,0,1,2]⟩ [158456325028528675187087900672,316912650057057350374175801344,0,0] [16,4096,158456325028528675187087908864,
 316912650057057350374175817728] (.take 0 (.take 1 (.cS 2 (.tail [.run]))))) .l))) (.s (.eL 16 true ⟨[0,0,2,4,8,16,0,96,128,0,769,1024,2048,2048,0,24575,65535],[0,0,2,4,8,16,0,96,128,0,769,1024,2048,2048,0,
 20480,8192]⟩ [1267650600228229401496703205376,2535301200456458802993406410752,5070602400912917605986812821504,10141204801825835211973625643008,20282409603651670423947251286016,40564819207303340847894502572032,
 81129638414606681695789005144064,162259276829213363391578010288128,324518553658426726783156020576256,649037107316853453566312041152512,1298074214633706907132624082305024,633825300114114700748351602688,
 2596148429267413814265248164610048,5192296858534827628530496329220096,32768,0,65536] [8192,4,2535301200456458802993406410752,5070602400912917605986812821504,10141204801825835211973625643008,20282409603651670423947251286016,128,
 121694457621910022543683507716096,162259276829213363391578010288128,16384,974823311575508409750964764934144,1298074214633706907132624082305024,633825300114114700748351602688,633825300114114700748351602688,0,
 2596148429267413814265248164642816,5192296858534827628530496329220096] (.take 0 (.take 1 (.take 2 (.take 3 (.take 4 (.take 5 (.take 6 (.take 7 (.take 8 (.take 9 (.two 10 (.take 11 (.take 12 (.take 13 (.cS 14 (.out 15 false (.tail
 [.run])))))) 14 (.cS 10 (.take 11 (.take 12 (.take 13 (.out 15 false (.tail [.run])))))))))))))))))) kU))))))))))))
theorem W.aby (c:Option Addr) (cN:Bool) (br:ab) (bt:ab) (bu:ab) (up:Option Addr) (w:World) (Q:Value→World→Prop) (h:W.zm c cN br bt bu up w Q):aP Tryz.prog F.zm #[.pointer c, .agg #[.bool cN, .slice br.a br.len br.cap, .slice bt.a bt.len bt.cap, .slice bu.a bu.len bu.cap], .pointer up] w Q:=okF A.zm Tryz.func156 (by kernel_rfl) (by kernel_rfl) h
def W.DX (c:Option Addr) (l:ab) (w:World) (Q:Value→World→Prop):Prop:=aF ((l.len:Int)==1) (az (w.drew) fun ag=>∃cQ:Addr,l.a=some cQ∧bc 0 l.len∧¬False∧bD ag ((cQ.add (Int.toNat 0*2)).add 1) fun
 bw=>∃a4:Addr,c=some a4∧¬False∧∃xI:Option Addr,ag.cell? a4=some (.pointer xI)∧∃iI:Addr,xI=some iI∧¬False∧bD ag (iI.add 4) fun n7=>Q (.tuple #[.int .i64 bw, .int .i64 n7, .int .i64 0]) ag) (∃iw:Addr,c=
 some iw∧∃ED:Option Addr,w.cell? iw=some (.pointer ED)∧∃g0:Addr,ED=some g0∧bD w (g0.add 4) fun n11=>aF (n11==12) (Q (.tuple #[.int .i64 0, .int .i64 0, .int .i64 2]) w) (de (fun qe:Int→Int→World→Prop=>az
 (w.drew) fun b4=>∃ni:Nat→Prop,∃mj:Addr,l.a=some mj∧bc 1 l.len∧¬ni (mj.add (Int.toNat 1*2)).block∧ar b4 (mj.add (Int.toNat 1*2)) fun dD=>∃tD:Addr,l.a=some tD∧bc 0 l.len∧¬ni ((tD.add
 (Int.toNat 0*2)).add 1).block∧bD b4 ((tD.add (Int.toNat 0*2)).add 1) fun n18=>∃tE:Addr,l.a=some tE∧bc 1 l.len∧¬ni ((tE.add (Int.toNat 1*2)).add 1).block∧bD b4 ((tE.add (Int.toNat 1*2)).add 1) fun n20=>(az
 (b4.alloc (.cells #[.slice dD.a dD.len dD.cap] ah.cc)) fun dR=>ao ni b4 dR∧az (dR.alloc (.cells #[.int .i64 n18, .int .i64 n20] ah.int)) fun cF=>ao ni dR cF∧∃DY:Array Value,(∀cI:World,Sem.run Tryz.prog
 (Instr.build ah.cR #[(1, .slice (some (ai b4)) 1 1),(3, .slice (some (ai dR)) 2 2)]) cI= .ok (.agg DY) cI)∧th F.uw #[.pointer c, .agg DY] cF fun n27 n28 fM=>ao ni cF fM∧qe n27 n28 fM)∧(az
 (b4.alloc (.cells #[.int .i64 n18, .int .i64 n20] ah.int)) fun fk=>ao ni b4 fk∧az (fk.alloc (.cells #[.slice dD.a dD.len dD.cap] ah.cc)) fun fN=>ao ni fk fN∧∃agC:Array Value,(∀m6:World,Sem.run Tryz.prog
 (Instr.build ah.cR #[(1, .slice (some (ai fk)) 1 1),(3, .slice (some (ai b4)) 2 2)]) m6= .ok (.agg agC) m6)∧th F.uw #[.pointer c, .agg agC] fN fun n35 n36 eo=>ao ni fN eo∧qe n35 n36 eo)) (fun (n37:
 Int) (n38:Int) mx=>az (mx.drew) fun ux=>∃a41:Addr,c=some a41∧¬False∧∃M7:Option Addr,ux.cell? a41=some (.pointer M7)∧∃M4:Addr,M7=some M4∧¬False∧bD ux (M4.add 4) fun jO=>Q (.tuple #[.int .i64
 n37, .int .i64 (aE (jO+1)), .int .i64 n38]) ux)))
def A.DX:bL:=(.s .r (.s (.s .r (.c (.s (.eL 12 false ⟨[0,1,2,4,0,16,32,64,128,256,512,15,4095,8191],[0,1,2,4,0,16,32,64,128,256,512,8,1024,0]⟩ [4096,8192,16384,32768,65536,131072,262144,
 524288,1048576,2097152,4194304,16,32,64] [2,4096,8192,16384,1,65536,131072,262144,524288,1048576,2097152,32768,4194304,0] (.take 0 (.take 1 (.take 2 (.take 3 (.take 4 (.take 5 (.take 6 (.take 7 (.take 8 (.take 9 (.take 10
 (.take 11 (.tail [.run, .run])))))))))))))) .l) .l)) (.s a7 (.s (.lO [(7,(.int .i64)),(8,(.int .i64))] [0] (.eL 21 true ⟨[0,0,2,4,8,16,0,64,128,256,0,1024,2048,4096,8704,16416,32769,65536,131072,131072,524287,
 2097151],[0,0,2,4,8,16,0,64,128,256,0,1024,2048,4096,8704,16416,32769,65536,131072,131072,262144,524288]⟩ [4294967296,8589934592,17179869184,34359738368,68719476736,137438953472,274877906944,549755813888,
 1099511627776,2199023255552,4398046511104,8796093022208,17592186044416,35184372088832,70368744177664,140737488355328,281474976710656,2147483648,562949953421312,1125899906842624,128,256] [1,2,8589934592,17179869184,
 34359738368,68719476736,2,274877906944,549755813888,1099511627776,2,4398046511104,8796093022208,17592186044416,37383395344384,70506183131136,140741783322624,281474976710656,2147483648,2147483648,562949953421312,
 1125899906842624] (.take 0 (.take 1 (.take 2 (.take 3 (.take 4 (.take 6 (.take 7 (.take 8 (.take 9 (.take 10 (.take 11 (.take 12 (.take 13 (.two 5 (.cS 14 (.take 15 (.cS 16 (.take 17 (.take 18 (.take 19 (.take 20 (.tail [.run])))))))) 14
 (.cS 5 (.take 15 (.cS 16 (.take 17 (.take 18 (.take 19 (.take 20 (.tail [.run])))))))))))))))))))))))) (.s (.eL 12 false ⟨[0,0,2,4,8,16,32,64,128,0,1,1535,4095],[0,0,2,4,8,16,32,64,128,0,1,256,512]⟩
 [2251799813685248,4503599627370496,9007199254740992,18014398509481984,36028797018963968,72057594037927936,144115188075855872,288230376151711744,576460752303423488,1152921504606846976,16,32,64] [128,1,4503599627370496,
 9007199254740992,18014398509481984,36028797018963968,72057594037927936,144115188075855872,288230376151711744,256,2251799813685248,576460752303423488,1152921504606846976] (.take 0 (.take 1 (.take 2 (.take 3 (.take 4 (.take 5 (.take
 6 (.take 7 (.take 8 (.take 9 (.take 10 (.take 11 (.tail [.run])))))))))))))) .l)))))
theorem W.ao1 (c:Option Addr) (l:ab) (w:World) (Q:Value→World→Prop) (h:W.DX c l w Q):aP Tryz.prog F.DX #[.pointer c, .slice l.a l.len l.cap] w Q:=okF A.DX Tryz.func157 (by kernel_rfl) (by kernel_rfl) h
end
section
set_option maxRecDepth 100000
def W.ze (cN:Bool) (br:ab) (bt:ab) (bu:ab) (ix:Int) (to:Int) (l:ab) (w:World) (Q:Value→World→Prop):Prop:=az (w.alloc (.cells #[.bool cN, .slice br.a br.len br.cap,
 .slice bt.a bt.len bt.cap, .slice bu.a bu.len bu.cap] ah.cR)) fun ag=>az (ag.alloc dA) fun aw=>az (aw.drew) fun a8=>∃mU:Nat→Prop,¬mU (Addr.add (ai w) 1).block∧ar a8 (Addr.add (ai w) 1) fun bE=>
 ((0:Int)≤ix∧ix≤((bE.cap:Nat):Int))∧¬mU (Addr.add (ai w) 3).block∧ar a8 (Addr.add (ai w) 3) fun dj=>((0:Int)≤ix∧ix≤((dj.cap:Nat):Int))∧(dZ F.A8 #[.slice (bh bE.a
 1 0 bE.cap) ((Int.toNat ix)-0) (bE.cap-0)] a8 fun dn aS=>ao mU a8 aS∧(dZ F.vg #[.slice (bh dj.a 1 0 dj.cap) ((Int.toNat ix)-0) (dj.cap-0)] aS fun ft b3=>ao mU aS b3∧∃oy:Array Value,(∀
 dB:World,Sem.run Tryz.prog (Instr.build ah.cR #[(1, .slice dn.a dn.len dn.cap),(3, .slice ft.a ft.len ft.cap)]) dB= .ok (.agg oy) dB)∧az (b3.alloc dA) fun ep=>ao mU b3 ep∧oI ep b3 oy l w to ag Q)∧(az
 (aS.alloc dA) fun gz=>ao mU aS gz∧dZ F.vg #[.slice (bh dj.a 1 0 dj.cap) ((Int.toNat ix)-0) (dj.cap-0)] gz fun r4 dg=>ao mU gz dg∧∃agD:Array Value,(∀o3:World,Sem.run Tryz.prog
 (Instr.build ah.cR #[(1, .slice dn.a dn.len dn.cap),(3, .slice r4.a r4.len r4.cap)]) o3= .ok (.agg agD) o3)∧oI dg aS agD l w to ag Q))∧(az (a8.alloc dA) fun qt=>ao mU a8 qt∧dZ F.A8
 #[.slice (bh bE.a 1 0 bE.cap) ((Int.toNat ix)-0) (bE.cap-0)] qt fun o_ mh=>ao mU qt mh∧dZ F.vg #[.slice (bh dj.a 1 0 dj.cap) ((Int.toNat ix)-0) (dj.cap-0)] mh fun XD Jw=>ao mU
 mh Jw∧∃agE:Array Value,(∀Jx:World,Sem.run Tryz.prog (Instr.build ah.cR #[(1, .slice o_.a o_.len o_.cap),(3, .slice XD.a XD.len XD.cap)]) Jx= .ok (.agg agE) Jx)∧oI Jw a8 agE l w to ag Q)
def A.ze:bL:=(.s .r (.s (.eL 12 true ⟨[0,1,0,6,8,0,32,0,192,272,528,0,4095],[0,1,0,6,8,0,32,0,192,256,528,0,3072]⟩ [4096,8192,16384,32768,65536,131072,262144,524288,1048576,2097152,4194304,
 512,0] [16,4096,2,24576,32768,16,131072,2,786432,1048576,2162688,0,4194816] (.take 0 (.take 1 (.take 2 (.take 3 (.take 5 (.take 6 (.take 7 (.take 8 (.two 4 (.two 9 (.take 10 (.cS 11 (.tail [.run]))) 11 (.cS 9 (.take 10 (.tail
 [.run])))) 11 (.cS 4 (.cS 9 (.take 10 (.tail [.run])))))))))))))) (.s (.s .r (.c1 (.loop [(25,(.int .i64))] [2,4,8,9,23,24] (.s .r (.s (.c .l .l) (.s (.c1 (.s .r (.s (.lO [] [2,4,8,9,11,23,24,25] (.s .r (.c .r .l))) .r)))
 .r)))))) (.s (.eL 7 false ⟨[0,1,0,4,0,16,40,66,255,511],[0,1,0,4,0,16,40,66,0,384]⟩ [140737488355328,281474976710656,562949953421312,1125899906842624,2251799813685248,4503599627370496,9007199254740992,
 18014398509481984,36028797018963968,0] [512,140737488355328,16,562949953421312,4,2251799813685248,5629499534213120,9288674231451648,512,54043195528445952] (.take 0 (.take 1 (.take 2 (.take 3 (.take 4 (.take 5 (.take 6 (.tail
 [.run, .run, .run]))))))))) (.s (.eL 6 false ⟨[0,1,0,4,0,24,34,127,255],[0,1,0,4,0,24,34,0,192]⟩ [72057594037927936,144115188075855872,288230376151711744,576460752303423488,1152921504606846976,2305843009213693952,
 4611686018427387904,9223372036854775808,0] [512,72057594037927936,16,288230376151711744,4,1729382256910270464,2449958197289549824,512,13835058055282163712] (.take 0 (.take 1 (.take 2 (.take 3 (.take 4 (.take 5 (.tail [.run, .run,
 .run])))))))) (.s .r .l))))))
theorem W.an9 (cN:Bool) (br:ab) (bt:ab) (bu:ab) (ix:Int) (to:Int) (l:ab) (w:World) (Q:Value→World→Prop) (h:W.ze cN br bt bu ix to l w Q):aP Tryz.prog F.ze #[.agg #[.bool cN, .slice br.a br.len br.cap, .slice bt.a bt.len bt.cap, .slice bu.a bu.len bu.cap], .int .i64 ix, .int .i64 to, .slice l.a l.len l.cap] w Q:=okF A.ze Tryz.func158 (by kernel_rfl) (by kernel_rfl) h
def W.A7 (c:Option Addr) (cN:Bool) (br:ab) (bt:ab) (bu:ab) (w:World) (Q:Value→World→Prop):Prop:=az (w.alloc (.cells #[.bool cN, .slice br.a br.len br.cap, .slice bt.a
 bt.len bt.cap, .slice bu.a bu.len bu.cap] ah.cR)) fun ag=>bR ag (ai w) fun cG=>ar ag (Addr.add (ai w) 1) fun bS=>ar ag (Addr.add (ai w) 2) fun cO=>ar ag (Addr.add (ai w) 3) fun bE=>th F.uw
 #[.pointer c, .agg #[.bool cG, .slice bS.a bS.len bS.cap, .slice cO.a cO.len cO.cap, .slice bE.a bE.len bE.cap]] ag fun n8 n9 bg=>∃fW:ab,∃cf:World,Sem.run Tryz.prog (Instr.buildSlice ah.H6 1 #[(0, .agg #[.slice none 0
 0, .int .i64 n8])]) bg= .ok (.slice fW.a fW.len fW.cap) cf∧Q (.tuple #[.slice fW.a fW.len fW.cap, .int .i64 n9]) cf
def A.A7:bL:=a4
theorem W.anB (c:Option Addr) (cN:Bool) (br:ab) (bt:ab) (bu:ab) (w:World) (Q:Value→World→Prop) (h:W.A7 c cN br bt bu w Q):aP Tryz.prog F.A7 #[.pointer c, .agg #[.bool cN, .slice br.a br.len br.cap, .slice bt.a bt.len bt.cap, .slice bu.a bu.len bu.cap]] w Q:=okF A.A7 Tryz.func159 (by kernel_rfl) (by kernel_rfl) h
def W.wD (r:Option Addr) (size:Int) (w:World) (Q:Value→World→Prop):Prop:=dZ F.Ar #[.pointer r, .int .i64 size] w fun bS ag=>N3 F.sT #[.slice bS.a bS.len bS.cap, .int .i64 0, .int .i64
 size] ag fun n6 k3 bz=>Q (.int .i64 (aE n6)) bz
def A.wD:bL:=a4
theorem W.ajx (r:Option Addr) (size:Int) (w:World) (Q:Value→World→Prop) (h:W.wD r size w Q):aP Tryz.prog F.wD #[.pointer r, .int .i64 size] w Q:=okF A.wD Tryz.func164 (by kernel_rfl) (by kernel_rfl) h
def W.wE (r:Option Addr) (w:World) (Q:Value→World→Prop):Prop:=bj F.wD #[.pointer r, .int .i64 1] w fun bw ag=>dZ F.Ar #[.pointer r, .int .i64 bw] ag fun dj bz=>Q (.slice dj.a
 dj.len dj.cap) bz
def A.wE:bL:=(.s .r (.s .r .l))
theorem W.ajy (r:Option Addr) (w:World) (Q:Value→World→Prop) (h:W.wE r w Q):aP Tryz.prog F.wE #[.pointer r] w Q:=okF A.wE Tryz.func165 (by kernel_rfl) (by kernel_rfl) h
def W.vd (cN:Bool) (br:ab) (bt:ab) (bu:ab) (w:World) (Q:Value→World→Prop):Prop:=az (w.alloc (.cells #[.bool cN, .slice br.a br.len br.cap, .slice bt.a bt.len bt.cap,
 .slice bu.a bu.len bu.cap] ah.cR)) fun ag=>bR ag (ai w) fun cG=>ar ag (Addr.add (ai w) 1) fun bS=>ar ag (Addr.add (ai w) 2) fun cO=>ar ag (Addr.add (ai w) 3) fun bE=>bk F.nP #[.agg #[.bool cG, .slice bS.a
 bS.len bS.cap, .slice cO.a cO.len cO.cap, .slice bE.a bE.len bE.cap]] ag fun nZ bg=>de (fun Iw:Bool→World→Prop=>aF (!nZ) (Iw true bg) (ar bg (Addr.add (ai w) 1) fun fW=>Iw (decide ((fW.len:Int)>255)) bg)) (fun (qa:Bool)
 cy=>aF qa (Q (.tuple #[.slice none 0 0, .int .i64 4]) cy) (bR cy (ai w) fun x2=>ar cy (Addr.add (ai w) 1) fun dw=>ar cy (Addr.add (ai w) 2) fun fp=>ar cy (Addr.add (ai w) 3) fun dD=>dZ F.vb #[.agg #[.bool x2,
 .slice dw.a dw.len dw.cap, .slice fp.a fp.len fp.cap, .slice dD.a dD.len dD.cap]] cy fun eB dK=>aF (decide ((eB.len:Int)>232)) (Q (.tuple #[.slice none 0 0, .int .i64 10]) dK) (Q (.tuple #[.slice eB.a eB.len eB.cap,
 .int .i64 0]) dK)))
def A.vd:bL:=(.s .r (.s (.s (.gB [.run, .run, .run, .run, .split 4]) (.c (.s .r .l) .l)) iS))
theorem W.aju (cN:Bool) (br:ab) (bt:ab) (bu:ab) (w:World) (Q:Value→World→Prop) (h:W.vd cN br bt bu w Q):aP Tryz.prog F.vd #[.agg #[.bool cN, .slice br.a br.len br.cap, .slice bt.a bt.len bt.cap, .slice bu.a bu.len bu.cap]] w Q:=okF A.vd Tryz.func166 (by kernel_rfl) (by kernel_rfl) h
def W.CE (parts:ab) (w:World) (Q:Value→World→Prop):Prop:=∃ (g2:Int→Int→World→Prop) (ja:Int→Int→World→Nat),g2 4294967295 0 w∧∀ (bw:Int) (gi:Int) (bO:World),g2 bw gi bO→aF (decide (gi<
 (parts.len:Int))) (∃iI:Addr,parts.a=some iI∧bc gi parts.len∧ar bO (iI.add (Int.toNat gi*1)) fun jg=>CF F.yn #[.int .u32 bw, .slice jg.a jg.len jg.cap] bO fun n10 cd=>g2 n10 (aE (gi+1)) cd∧ja n10 (aE (gi+1)) cd<
 ja bw gi bO) (Q (.int .u32 (E8 .u32 4294967295 bw)) bO)
def A.CE:bL:=(.s .r (.s .r (.s (.s .r (.c1 (.loop [(3,(.int .u32)),(8,(.int .i64))] [6,7] cQ))) (.s .r .l))))
theorem W.aiP (parts:ab) (w:World) (Q:Value→World→Prop) (h:W.CE parts w Q):aP Tryz.prog F.CE #[.slice parts.a parts.len parts.cap] w Q:=okF A.CE Tryz.func168 (by kernel_rfl) (by kernel_rfl) h
def W.sT (b:ab) (k8:Int) (size:Int) (w:World) (Q:Value→World→Prop):Prop:=E6 F.uZ #[.slice b.a b.len b.cap, .int .i64 k8, .int .i64 size] w fun bS eQ ag=>de (fun oz:Bool→World→Prop=>aF (!eQ) (oz
 true ag) (bk F.GQ #[.int .i64 size] ag fun nZ bg=>oz (!nZ) bg)) (fun (jB:Bool) b3=>aF jB (Q (.tuple #[.int .u64 0, .bool false]) b3) (∃ (XE:Int→Int→World→Prop) (agF:Int→Int→World→Nat),XE 0 0 b3∧∀ (n13:
 Int) (n14:Int) (ep:World),XE n13 n14 ep→aF (decide (n14<(bS.len:Int))) (∃nh:Addr,bS.a=some nh∧bc n14 bS.len∧iC ep (nh.add (Int.toNat n14*1)) fun n17=>(0:Int)≤8∧XE (Cz .u64 (IntKind.wrap .u64 (n13*2^
 (min (Int.toNat 8) 64))) (IntKind.wrap .u64 n17)) (aE (n14+1)) ep∧agF (Cz .u64 (IntKind.wrap .u64 (n13*2^(min (Int.toNat 8) 64))) (IntKind.wrap .u64 n17)) (aE (n14+1)) ep<agF n13 n14 ep) (Q (.tuple #[.int .u64 n13, .bool
 true]) ep)))
def A.sT:bL:=(.s .r (.s .r (.s a9 (.s .r (.s (.s .r (.c1 (.loop [(10,(.int .u64)),(29,(.int .i64))] [27,28] cQ))) (.s .r .l))))))
theorem W.Yc (b:ab) (k8:Int) (size:Int) (w:World) (Q:Value→World→Prop) (h:W.sT b k8 size w Q):aP Tryz.prog F.sT #[.slice b.a b.len b.cap, .int .i64 k8, .int .i64 size] w Q:=okF A.sT Tryz.func169 (by kernel_rfl) (by kernel_rfl) h
def W.uZ (b:ab) (k8:Int) (size:Int) (w:World) (Q:Value→World→Prop):Prop:=aF ((((decide (k8<0))||(decide (size<0)))||(decide (k8>(b.len:Int))))||(decide (size>(aE ((b.len:Int)-k8))))) (Q (.tuple
 #[.slice none 0 0, .bool false]) w) (((0:Int)≤(aE (k8+size))∧(aE (k8+size))≤((b.cap:Nat):Int))∧((0:Int)≤k8∧k8≤(((Int.toNat (aE (k8+size))):Nat):Int))∧Q (.tuple #[.slice (bh b.a 1 (Int.toNat
 k8) b.cap) ((Int.toNat (aE (k8+size)))-(Int.toNat k8)) (b.cap-(Int.toNat k8)), .bool true]) w)
def A.uZ:bL:=(.s .r (.s (.s (.gB [.run, .run, .run, .pure 2, .run, .run, .run, .pure 4, .run, .run, .run, .run, .run, .pure 6]) (.c (.s .r .l) .l)) (.s .r .l)))
theorem W.R5 (b:ab) (k8:Int) (size:Int) (w:World) (Q:Value→World→Prop) (h:W.uZ b k8 size w Q):aP Tryz.prog F.uZ #[.slice b.a b.len b.cap, .int .i64 k8, .int .i64 size] w Q:=okF A.uZ Tryz.func170 (by kernel_rfl) (by kernel_rfl) h
def W.GQ (size:Int) (w:World) (Q:Value→World→Prop):Prop:=Q (.bool ((decide (size≥1))&&(decide (size≤8)))) w
def A.GQ:bL:=(.s .r a3)
theorem W.Yd (size:Int) (w:World) (Q:Value→World→Prop) (h:W.GQ size w Q):aP Tryz.prog F.GQ #[.int .i64 size] w Q:=okF A.GQ Tryz.func183 (by kernel_rfl) (by kernel_rfl) h
def W.AR (c:Option Addr) (no:Int) (w:World) (Q:Value→World→Prop):Prop:=de (fun dJ:Bool→World→Prop=>aF ((!(Option.isNone c))&&(decide (no≥0))) (∃cQ:Addr,c=some cQ∧∃gl:Option Addr,w.cell?
 cQ=some (.pointer gl)∧bj F.AL #[.pointer gl] w fun n6 bz=>dJ (decide (no<n6)) bz) (dJ false w)) (fun (k3:Bool) cd=>Q (.bool k3) cd)
def A.AR:bL:=lG
theorem W.aln (c:Option Addr) (no:Int) (w:World) (Q:Value→World→Prop) (h:W.AR c no w Q):aP Tryz.prog F.AR #[.pointer c, .int .i64 no] w Q:=okF A.AR Tryz.func184 (by kernel_rfl) (by kernel_rfl) h
def W.AT (c:Option Addr) (w:World) (Q:Value→World→Prop):Prop:=xk F.Df #[.pointer c] w fun gl ag=>aF (!(Option.isNone gl)) (Q (.tuple #[.pointer gl, .int .i64 0]) ag) (xk F.Dg
 #[.pointer c] ag fun m9 bz=>aF (Option.isNone m9) (Q (.tuple #[.pointer none, .int .i64 11]) bz) (de (fun ud:World→Prop=>∃iw:Addr,m9=some iw∧bR bz (iw.add 1) fun jB=>aF jB (az (bz.drew) fun b3=>∃kD:Addr,c=some
 kD∧¬False∧∃MQ:Option Addr,b3.cell? kD=some (.pointer MQ)∧∃kk:Addr,m9=some kk∧¬False∧bD b3 (kk.add 3) fun n14=>∃mj:Addr,m9=some mj∧¬False∧ar b3 (mj.add 5) fun dD=>bj F.AP
 #[.pointer MQ, .int .i64 n14, .slice dD.a dD.len dD.cap] b3 fun n19 dK=>aF (n19 !=0) (Q (.tuple #[.pointer none, .int .i64 n19]) dK) (ud dK)) (ud bz)) (fun cC=>∃kz:Addr,m9=some kz∧cT cC kz [.bool false, .bool
 false, .bool false, .int .i64 0, .int .i64 0, .slice none 0 0]∧(6:Nat)=6∧az (setCells cC kz 0 [.bool false, .bool false, .bool false, .int .i64 0, .int .i64 0, .slice none 0 0]) fun cF=>Q (.tuple #[.pointer m9, .int .i64 0])
 cF)))
def A.AT:bL:=(.s .r (.s (.s .r a7) (.s .r (.s a7 (.s (.lO [] [5] (.s .r (.c (.s (.eL 12 false ⟨[0,1,2,4,0,16,32,64,0,256,512,1024,2184,8191],[0,1,2,4,0,16,32,64,0,256,512,1024,2184,4096]⟩
 [1048576,2097152,4194304,8388608,16777216,33554432,67108864,134217728,268435456,536870912,1073741824,2147483648,4294967296,64] [1,1048576,2097152,4194304,32,16777216,33554432,67108864,32,268435456,536870912,
 1073741824,2290089984,4294967296] (.take 0 (.take 1 (.take 2 (.take 3 (.take 4 (.take 5 (.take 6 (.take 7 (.take 8 (.take 9 (.take 10 (.take 11 (.tail [.run, .run])))))))))))))) a7) .l))) (.s .r (.s .r .l)))))))
theorem W.alv (c:Option Addr) (w:World) (Q:Value→World→Prop) (h:W.AT c w Q):aP Tryz.prog F.AT #[.pointer c] w Q:=okF A.AT Tryz.func185 (by kernel_rfl) (by kernel_rfl) h
def W.Dq (s:ab) (no:Int) (w:World) (Q:Value→World→Prop):Prop:=az (w.drew) fun ag=>(8:Int)≠0∧∃cQ:Addr,s.a=some cQ∧bc (aE (Int.tdiv no 8)) s.len∧¬False∧iC ag (cQ.add (Int.toNat (aE (Int.tdiv no
 8))*1)) fun bw=>(8:Int)≠0∧(0:Int)≤(Int.tmod no 8)∧∃a4:Addr,s.a=some a4∧bc (aE (Int.tdiv no 8)) s.len∧st ag (a4.add (Int.toNat (aE (Int.tdiv no 8))*1)) (.int .u8 (aad .u8 bw (IntKind.wrap .u8 (1*2^(min
 (Int.toNat (Int.tmod no 8)) 8))))) fun bO=>Q (.tuple #[]) bO
def A.Dq:bL:=(.eL 8 false ⟨[0,0,2,5,8,0,32,64,144,511,1023],[0,0,2,5,8,0,32,64,144,5,768]⟩ [16,32,64,128,256,512,1024,2048,4096,8192,0] [1,2,32,80,128,2,512,1024,2304,80,12288]
 (.take 0 (.take 1 (.take 2 (.take 3 (.take 4 (.take 5 (.take 6 (.take 7 (.tail [.run, .run, .run]))))))))))
theorem W.amh (s:ab) (no:Int) (w:World) (Q:Value→World→Prop) (h:W.Dq s no w Q):aP Tryz.prog F.Dq #[.slice s.a s.len s.cap, .int .i64 no] w Q:=okF A.Dq Tryz.func188 (by kernel_rfl) (by kernel_rfl) h
def W.vc (cN:Bool) (br:ab) (bt:ab) (bu:ab) (w:World) (Q:Value→World→Prop):Prop:=az (w.alloc (.cells #[.bool cN, .slice br.a br.len br.cap, .slice bt.a bt.len bt.cap,
 .slice bu.a bu.len bu.cap] ah.cR)) fun ag=>bR ag (ai w) fun cG=>ar ag (Addr.add (ai w) 1) fun bS=>ar ag (Addr.add (ai w) 2) fun cO=>ar ag (Addr.add (ai w) 3) fun bE=>bk F.nP #[.agg #[.bool cG, .slice bS.a
 bS.len bS.cap, .slice cO.a cO.len cO.cap, .slice bE.a bE.len bE.cap]] ag fun nZ bg=>aF (!nZ) (Q (.int .i64 0) bg) (bR bg (ai w) fun jB=>ar bg (Addr.add (ai w) 1) fun fW=>ar bg (Addr.add (ai w) 2) fun d_=>ar bg (Addr.add (ai w) 3)
 fun ft=>dZ F.vb #[.agg #[.bool jB, .slice fW.a fW.len fW.cap, .slice d_.a d_.len d_.cap, .slice ft.a ft.len ft.cap]] bg fun fp b4=>Q (.int .i64 (fp.len:Int)) b4)
def A.vc:bL:=iS
theorem W.ajt (cN:Bool) (br:ab) (bt:ab) (bu:ab) (w:World) (Q:Value→World→Prop) (h:W.vc cN br bt bu w Q):aP Tryz.prog F.vc #[.agg #[.bool cN, .slice br.a br.len br.cap, .slice bt.a bt.len bt.cap, .slice bu.a bu.len bu.cap]] w Q:=okF A.vc Tryz.func189 (by kernel_rfl) (by kernel_rfl) h
def W.sx (c:Option Addr) (cN:Bool) (br:ab) (bt:ab) (bu:ab) (w:World) (Q:Value→World→Prop):Prop:=az (w.alloc (.cells #[.bool cN, .slice br.a br.len br.cap, .slice bt.a
 bt.len bt.cap, .slice bu.a bu.len bu.cap] ah.cR)) fun ag=>bR ag (ai w) fun cG=>ar ag (Addr.add (ai w) 1) fun bS=>ar ag (Addr.add (ai w) 2) fun cO=>ar ag (Addr.add (ai w) 3) fun bE=>bj F.vc #[.agg
 #[.bool cG, .slice bS.a bS.len bS.cap, .slice cO.a cO.len cO.cap, .slice bE.a bE.len bE.cap]] ag fun n8 bg=>aF (decide (n8>232)) (bR bg (ai w) fun jB=>ar bg (Addr.add (ai w) 1) fun fW=>ar bg (Addr.add (ai w) 2) fun d_=>ar bg
 (Addr.add (ai w) 3) fun ft=>gE F.DJ #[.pointer c, .agg #[.bool jB, .slice fW.a fW.len fW.cap, .slice d_.a d_.len d_.cap, .slice ft.a ft.len ft.cap]] bg fun fp n16 b4=>Q (.tuple #[.slice fp.a fp.len fp.cap,
 .int .i64 n16]) b4) (bR bg (ai w) fun uS=>ar bg (Addr.add (ai w) 1) fun gk=>ar bg (Addr.add (ai w) 2) fun eB=>ar bg (Addr.add (ai w) 3) fun fX=>gE F.A7 #[.pointer c, .agg #[.bool uS, .slice gk.a gk.len gk.cap,
 .slice eB.a eB.len eB.cap, .slice fX.a fX.len fX.cap]] bg fun ec n24 dR=>Q (.tuple #[.slice ec.a ec.len ec.cap, .int .i64 n24]) dR)
def A.sx:bL:=iS
theorem W.anO (c:Option Addr) (cN:Bool) (br:ab) (bt:ab) (bu:ab) (w:World) (Q:Value→World→Prop) (h:W.sx c cN br bt bu w Q):aP Tryz.prog F.sx #[.pointer c, .agg #[.bool cN, .slice br.a br.len br.cap, .slice bt.a bt.len bt.cap, .slice bu.a bu.len bu.cap]] w Q:=okF A.sx Tryz.func190 (by kernel_rfl) (by kernel_rfl) h
end
end Go.Proofs.YtplieiecebljmaaGreat
