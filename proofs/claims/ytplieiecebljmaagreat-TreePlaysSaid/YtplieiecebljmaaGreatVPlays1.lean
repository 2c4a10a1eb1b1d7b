/- Printed by gen.py: functions of the program, each as what must be shown of it. -/
import Derived.Test.YtplieiecebljmaaGreatProg
import Derived.Test.YtplieiecebljmaaGreatKPlays2
namespace cd
abbrev bI.s:=bI.seq
abbrev bI.l:=bI.leaf
abbrev bI.c:=bI.cond
abbrev bI.r:=bI.gi []
end cd
namespace Go.Proofs.YtplieiecebljmaaGreat
open Go cd
section
namespace F
abbrev Gy:Nat:=9
abbrev y0:Nat:=11
abbrev C1:Nat:=14
abbrev BM:Nat:=20
abbrev BD:Nat:=21
abbrev D2:Nat:=22
abbrev zC:Nat:=23
abbrev vY:Nat:=24
abbrev vX:Nat:=25
abbrev BC:Nat:=26
abbrev Ec:Nat:=27
abbrev xY:Nat:=28
abbrev zH:Nat:=29
abbrev zI:Nat:=30
abbrev vZ:Nat:=31
abbrev Dq:Nat:=33
abbrev CY:Nat:=34
abbrev BS:Nat:=35
abbrev BH:Nat:=36
abbrev BR:Nat:=37
abbrev C3:Nat:=39
abbrev AH:Nat:=43
abbrev AI:Nat:=44
abbrev AG:Nat:=45
abbrev tp:Nat:=57
abbrev y_:Nat:=58
abbrev yF:Nat:=59
abbrev yM:Nat:=60
abbrev xQ:Nat:=61
abbrev BG:Nat:=62
abbrev xV:Nat:=63
abbrev mX:Nat:=64
abbrev y3:Nat:=65
abbrev y8:Nat:=66
abbrev y7:Nat:=67
abbrev yJ:Nat:=68
abbrev zG:Nat:=69
abbrev r3:Nat:=70
abbrev Ea:Nat:=71
abbrev Eb:Nat:=72
abbrev BK:Nat:=73
abbrev y6:Nat:=74
abbrev y1:Nat:=76
abbrev ta:Nat:=78
abbrev CX:Nat:=79
abbrev D9:Nat:=80
abbrev zF:Nat:=81
abbrev Dm:Nat:=82
abbrev yu:Nat:=88
abbrev acW:Nat:=90
abbrev Dk:Nat:=92
abbrev Cv:Nat:=99
abbrev D7:Nat:=103
abbrev sw:Nat:=104
abbrev vl:Nat:=105
abbrev rB:Nat:=106
abbrev nJ:Nat:=107
abbrev fK:Nat:=108
abbrev yD:Nat:=109
abbrev zw:Nat:=110
abbrev Bn:Nat:=111
abbrev xO:Nat:=112
abbrev atK:Nat:=113
abbrev Dr:Nat:=114
abbrev Ds:Nat:=115
abbrev AN:Nat:=116
abbrev Dn:Nat:=117
abbrev vd:Nat:=118
abbrev mm:Nat:=119
abbrev yB:Nat:=120
abbrev tz:Nat:=121
abbrev AO:Nat:=122
abbrev BI:Nat:=125
abbrev wN:Nat:=129
abbrev u3:Nat:=130
abbrev rv:Nat:=131
abbrev GR:Nat:=132
abbrev yt:Nat:=133
abbrev GS:Nat:=134
abbrev ym:Nat:=135
abbrev y4:Nat:=138
abbrev sZ:Nat:=141
abbrev o1:Nat:=142
abbrev D6:Nat:=144
abbrev Da:Nat:=145
abbrev CJ:Nat:=146
abbrev wH:Nat:=147
abbrev CB:Nat:=148
abbrev wI:Nat:=149
abbrev CC:Nat:=150
abbrev vk:Nat:=151
abbrev Dl:Nat:=152
abbrev Dj:Nat:=153
abbrev Dd:Nat:=154
abbrev zm:Nat:=155
abbrev zl:Nat:=156
abbrev DP:Nat:=157
abbrev zd:Nat:=158
abbrev AU:Nat:=159
abbrev YF:Nat:=160
abbrev atL:Nat:=161
abbrev zD:Nat:=162
abbrev wK:Nat:=164
abbrev wL:Nat:=165
abbrev vg:Nat:=166
abbrev yw:Nat:=167
abbrev Ct:Nat:=168
abbrev sX:Nat:=169
abbrev uZ:Nat:=170
abbrev GU:Nat:=183
abbrev AK:Nat:=184
abbrev AL:Nat:=185
abbrev E_:Nat:=186
abbrev Fa:Nat:=187
abbrev De:Nat:=188
abbrev vf:Nat:=189
abbrev sy:Nat:=190
abbrev qd:Nat:=191
abbrev ur:Nat:=192
abbrev AV:Nat:=193
abbrev Ao:Nat:=195
abbrev ve:Nat:=196
abbrev yn:Nat:=197
abbrev C4:Nat:=204
abbrev C5:Nat:=205
abbrev DA:Nat:=206
abbrev yy:Nat:=207
abbrev Di:Nat:=208
abbrev Dc:Nat:=209
abbrev s3:Nat:=211
abbrev yO:Nat:=213
abbrev Dh:Nat:=214
abbrev s5:Nat:=215
end F
namespace ah
abbrev t:Nat:=0
abbrev int:Nat:=3
abbrev bool:Nat:=4
abbrev uint8:Nat:=5
abbrev string:Nat:=9
abbrev atM:Nat:=24
abbrev cn:Nat:=27
abbrev J4:Nat:=32
abbrev adO:Nat:=37
abbrev cM:Nat:=44
abbrev e0:Nat:=56
abbrev IW:Nat:=67
abbrev aso:Nat:=70
abbrev PU:Nat:=73
abbrev xZ:Nat:=75
abbrev ef:Nat:=81
abbrev mf:Nat:=87
abbrev uf:Nat:=96
abbrev AF:Nat:=97
abbrev Ox:Nat:=101
abbrev oM:Nat:=107
abbrev cO:Nat:=125
abbrev FM:Nat:=140
abbrev uq:Nat:=144
abbrev FH:Nat:=150
abbrev ZF:Nat:=160
abbrev rJ:Nat:=168
abbrev KW:Nat:=169
abbrev Df:Nat:=171
abbrev atN:Nat:=204
abbrev aan:Nat:=206
abbrev ac2:Nat:=218
abbrev H_:Nat:=241
abbrev vI:Nat:=249
abbrev Ym:Nat:=259
end ah
namespace G
end G
def atO:List j9:=[(.kn []),
  (.one (.one .fn)),
  (.one (.one (.int .i64))),
  (.one (.one (.int .i64))),
  (.one (.one .bool)),
  (.one (.one (.int .u8))),
  (.one (.one (.int .u8))),
  (.one (.flat [(.int .i64),(.int .i64), .bool,(.int .u8)])),
  (.one (.flat [(.int .i64),(.int .i64), .bool,(.int .u8)])),
  (.one (.one .str)),
  (.one (.one .str)),
  (.one (.one .str)),
  (.one (.one (.int .u64))),
  (.one (.flat [.str,(.int .u64)])),
  (.one (.flat [.str,(.int .u64)])),
  (.one (.one .ptr)),
  (.one (.one .ptr)),
  (.one (.one .ptr)),
  (.one (.flat [.ptr])),
  (.one (.flat [.ptr])),
  (.one (.one .any)),
  (.one (.one (.int .i32))),
  (.one (.one .slice)),
  (.one (.one .ptr)),
  (.one (.one (.int .i64))),
  (.kn [(.one .ptr),(.one (.int .i64))]),
  (.one (.one .fn)),
  (.one (.one .slice)),
  (.kn [(.one .slice),(.one (.int .i64))]),
  (.one (.one .fn)),
  (.one (.one (.int .u64))),
  (.one (.flat [(.int .i64),(.int .u64), .slice])),
  (.one (.flat [(.int .i64),(.int .u64), .slice])),
  (.one (.one .agg)),
  (.one (.one .agg)),
  (.one (.one .fn)),
  (.one (.one .fn)),
  (.one (.one .agg)),
  (.one (.one .agg)),
  (.one (.one .agg)),
  (.one (.one .agg)),
  (.kn [(.one .agg),(.one (.int .i64))]),
  (.one (.one .fn)),
  (.one (.one .fn)),
  (.one (.one .slice)),
  (.one (.one .fn)),
  (.one (.one .fn)),
  (.one (.one .fn)),
  (.one (.one .fn)),
  (.one (.one .fn)),
  (.one (.one .ptr)),
  (.one (.one .fn)),
  (.kn [(.one .slice),(.one .bool),(.one (.int .i64))]),
  (.one (.one .fn)),
  (.kn [(.one .bool),(.one (.int .i64))]),
  (.one (.one .fn)),
  (.one (.one .slice)),
  (.kn [(.one .slice),(.one (.int .i64))]),
  (.one (.one .fn)),
  (.one (.one .ptr)),
  (.kn [(.one .ptr),(.one .bool)]),
  (.one (.one .fn)),
  (.kn [(.one .ptr),(.one (.int .i64))]),
  (.one (.one .fn)),
  (.one (.one .ptr)),
  (.one (.one .ptr)),
  (.one (.one .agg)),
  (.one (.one .agg)),
  (.one (.one .fn)),
  (.one (.one .fn)),
  (.one (.one .slice)),
  (.one (.one .ptr)),
  (.one (.flat [.slice])),
  (.one (.flat [.slice])),
  (.one (.flat [(.int .i64), .slice, .slice,(.int .i64)])),
  (.one (.flat [(.int .i64), .slice, .slice,(.int .i64)])),
  (.one (.one .fn)),
  (.one (.one .fn)),
  (.one (.one .fn)),
  (.one (.one .fn)),
  (.one (.one .fn)),
  (.one (.one .slice)),
  (.one (.one .fn)),
  (.one (.one .fn)),
  (.one (.one (.int .u16))),
  (.one (.one .fn)),
  (.one (.flat [.slice, .slice])),
  (.one (.flat [.slice, .slice])),
  (.kn [(.one (.int .i64)),(.one (.int .i64))]),
  (.one (.one .fn)),
  (.one (.one .fn)),
  (.one (.one .fn)),
  (.one (.flat [(.int .u8),(.int .u8)])),
  (.one (.flat [(.int .u8),(.int .u8)])),
  (.one (.one .fn)),
  (.one (.one .fn)),
  (.one (.one .slice)),
  (.one (.one .map)),
  (.one (.one .agg)),
  (.one (.one .agg)),
  (.one (.one .agg)),
  (.one (.one .agg)),
  (.one (.one .fn)),
  (.one (.one .fn)),
  (.one (.one (.int .u32))),
  (.one (.one .fn)),
  (.one (.one .agg)),
  (.one (.one .agg)),
  (.one (.one .ptr)),
  (.one (.one .map)),
  (.one (.one .agg)),
  (.one (.one .agg)),
  (.one (.one .fn)),
  (.one (.flat [(.int .i64),(.int .i64),(.int .i64),(.int .u64),(.int .u64),(.int .i64)])),
  (.one (.flat [(.int .i64),(.int .i64),(.int .i64),(.int .u64),(.int .u64),(.int .i64)])),
  (.kn [(.flat [(.int .i64),(.int .i64),(.int .i64),(.int .u64),(.int .u64),(.int .i64)]),(.one (.int .u64)),(.one (.int .i64))]),
  (.one (.one .fn)),
  (.one (.one .fn)),
  (.one (.one .fn)),
  (.kn [(.flat [(.int .i64),(.int .i64),(.int .i64),(.int .u64),(.int .u64),(.int .i64)]),(.one (.int .u64)),(.one (.int .i64))]),
  (.one (.one .fn)),
  (.one (.one .fn)),
  (.kn [(.flat [(.int .i64),(.int .u64), .slice]),(.one (.int .i64))]),
  (.one (.one .fn)),
  (.one (.flat [.bool, .slice, .slice, .slice])),
  (.one (.flat [.bool, .slice, .slice, .slice])),
  (.kn [(.flat [.bool, .slice, .slice, .slice]),(.one .bool)]),
  (.one (.one .fn)),
  (.one (.one .ptr)),
  (.one (.one .fn)),
  (.one (.one .slice)),
  (.one (.flat [.slice, .slice])),
  (.one (.flat [.slice, .slice])),
  (.one (.one .ptr)),
  (.kn [(.one .ptr),(.one (.int .i64))]),
  (.one (.one .fn)),
  (.one (.flat [(.int .i64),(.int .i64),(.int .u64)])),
  (.one (.flat [(.int .i64),(.int .i64),(.int .u64)])),
  (.one (.one .fn)),
  (.one (.one .fn)),
  (.one (.one .slice)),
  (.kn [(.one .slice),(.one (.int .i64))]),
  (.one (.one .fn)),
  (.one (.one .agg)),
  (.one (.one .agg)),
  (.kn [(.one (.int .i64)),(.one .bool)]),
  (.one (.one .fn)),
  (.one (.one .fn)),
  (.one (.one .fn)),
  (.one (.flat [.ptr, .ptr,(.int .u64),(.int .i64),(.int .i64)])),
  (.one (.flat [.ptr, .ptr,(.int .u64),(.int .i64),(.int .i64)])),
  (.one (.one .fn)),
  (.one (.one .fn)),
  (.one (.one .fn)),
  (.kn [(.one .ptr),(.one (.int .i64))]),
  (.one (.one .fn)),
  (.kn [(.one .ptr),(.one (.int .i64))]),
  (.one (.one .fn)),
  (.one (.one .slice)),
  (.one (.flat [.ptr, .slice,(.int .i64)])),
  (.one (.flat [.ptr, .slice,(.int .i64)])),
  (.one (.one .fn)),
  (.one (.one .fn)),
  (.one (.one .fn)),
  (.one (.one .fn)),
  (.one (.one .ptr)),
  (.one (.one .fn)),
  (.one (.flat [.bool, .bool, .bool,(.int .i64),(.int .i64), .slice])),
  (.one (.flat [.bool, .bool, .bool,(.int .i64),(.int .i64), .slice])),
  (.one (.one .slice)),
  (.one (.flat [(.int .i64), .slice, .slice])),
  (.one (.flat [(.int .i64), .slice, .slice])),
  (.one (.one .fn)),
  (.kn [(.one .slice),(.one (.int .i64)),(.one (.int .i64))]),
  (.one (.one .fn)),
  (.one (.one .fn)),
  (.one (.one .ptr)),
  (.one (.one .fn)),
  (.one (.flat [(.int .i64),(.int .i64)])),
  (.one (.flat [(.int .i64),(.int .i64)])),
  (.one (.one .slice)),
  (.one (.one .fn)),
  (.one (.one .fn)),
  (.one (.one .fn)),
  (.one (.one .fn)),
  (.one (.one .fn)),
  (.one (.one .fn)),
  (.kn [(.one .slice),(.one (.int .i64))]),
  (.one (.one .fn)),
  (.one (.one .fn)),
  (.one (.one .fn)),
  (.one (.one (.int .u64))),
  (.one (.one .fn)),
  (.one (.one .fn)),
  (.one (.one .agg)),
  (.one (.one .fn)),
  (.one (.one .fn)),
  (.one (.one .fn)),
  (.kn [(.flat [.bool, .slice, .slice, .slice]),(.one (.int .i64))]),
  (.one (.one .fn)),
  (.one (.one .fn)),
  (.one (.one .fn)),
  (.one (.one .fn)),
  (.one (.one .fn)),
  (.one (.one .ptr)),
  (.one (.flat [.ptr, .slice, .slice])),
  (.one (.flat [.ptr, .slice, .slice])),
  (.kn [(.one (.int .i64)),(.one (.int .i64)),(.one (.int .i64))]),
  (.one (.one .fn)),
  (.one (.one .fn)),
  (.one (.one .fn)),
  (.one (.one .fn)),
  (.one (.one .fn)),
  (.one (.one .fn)),
  (.one (.one .fn)),
  (.one (.one .fn)),
  (.one (.one .ptr)),
  (.one (.flat [.ptr, .slice,(.int .i64)])),
  (.one (.flat [.ptr, .slice,(.int .i64)])),
  (.one (.one .fn)),
  (.one (.one .fn)),
  (.one (.one .fn)),
  (.kn [(.flat [(.int .i64),(.int .i64),(.int .i64),(.int .u64),(.int .u64),(.int .i64)]),(.one (.int .i64)),(.one (.int .u64)),(.one (.int .i64))]),
  (.one (.one .fn)),
  (.one (.one .fn)),
  (.kn [(.one .slice),(.one .bool)]),
  (.one (.one .fn)),
  (.one (.one .fn)),
  (.one (.one .fn)),
  (.one (.one .fn)),
  (.one (.one .fn)),
  (.one (.one .fn)),
  (.one (.one .agg)),
  (.one (.one .agg)),
  (.one (.one .fn)),
  (.one (.one .fn)),
  (.one (.one .fn)),
  (.one (.one .fn)),
  (.one (.one .fn)),
  (.one (.one .fn)),
  (.one (.one .ptr)),
  (.one (.one .slice)),
  (.kn [(.one .slice),(.one (.int .i64)),(.one (.int .i64)),(.one (.int .i64))]),
  (.one (.one .fn)),
  (.one (.one .fn)),
  (.one (.one .fn)),
  (.kn [(.one .slice),(.one (.int .i64))]),
  (.one (.one .fn)),
  (.one (.flat [.slice,(.int .i64)])),
  (.one (.flat [.slice,(.int .i64)])),
  (.one (.one .fn)),
  (.one (.one .fn)),
  (.one (.one .fn)),
  (.one (.one .ptr)),
  (.one (.flat [.slice,(.int .i64)])),
  (.one (.flat [.slice,(.int .i64)])),
  (.one (.one .fn)),
  (.one (.one .ptr)),
  (.one (.flat [.slice, .bool])),
  (.one (.flat [.slice, .bool])),
  (.one (.one .fn)),
  (.one (.one .fn)),
  (.kn [(.one (.int .u64)),(.one .bool)]),
  (.one (.one .fn)),
  (.one (.one .fn)),
  (.one (.one (.int .i64))),
  (.kn [(.one (.int .i64)),(.one (.int .i64))]),
  (.one (.one .fn)),
  (.one (.one .fn)),
  (.one (.one .fn)),
  (.one (.one .fn)),
  (.one (.one .fn)),
  (.one (.one .fn)),
  (.one (.one .fn)),
  (.one (.one .fn)),
  (.kn [(.one .ptr),(.one (.int .i64))]),
  (.one (.one .fn)),
  (.one (.one .fn)),
  (.one (.one .fn)),
  (.one (.one .fn)),
  (.one (.one .fn)),
  (.kn [(.one (.int .i64)),(.one (.int .i64))]),
  (.one (.one .fn)),
  (.one (.one .fn)),
  (.one (.one .fn)),
  (.one (.one .fn)),
  (.one (.one (.int .u64))),
  (.one (.one .fn)),
  (.one (.one .fn)),
  (.one (.one .fn)),
  (.one (.one .ptr)),
  (.one (.one .fn)),
  (.one (.one .fn)),
  (.one (.one .fn)),
  (.one (.one .fn)),
  (.one (.one .ptr)),
  (.one (.one .fn)),
  (.kn [(.flat [.bool, .slice, .slice, .slice]),(.one .slice),(.flat [.bool, .slice, .slice, .slice]),(.one .bool)]),
  (.one (.one .fn)),
  (.one (.one .fn)),
  (.one (.one .fn)),
  (.one (.flat [.ptr, .ptr, .ptr, .str])),
  (.one (.flat [.ptr, .ptr, .ptr, .str])),
  (.one (.one .agg)),
  (.one (.one .agg)),
  (.one (.one .agg)),
  (.one (.one (.int .u8))),
  (.one (.one (.int .u8))),
  (.one (.one .fn)),
  (.one (.one .ptr)),
  (.one (.one (.int .i32))),
  (.one (.one (.int .i32))),
  (.one (.one .agg)),
  (.one (.one .agg)),
  (.one (.one .fn)),
  (.one (.one .ptr))]
def aI:TypeId→j9:=fun t=>atO.getD t (.one (.one .any))
theorem WS:Tryz.prog.follows .mixedOrders=true:=by kernel_rfl
def ai (w:World):Addr:=⟨w.heap.size,0,none⟩
def aD (n:Int):Int:=IntKind.wrap .i64 n
def a6 (n:Int) (k:Nat):Prop:=(0:Int)≤n∧n<((k:Nat):Int)
def aA (c:Bool) (A B:Prop):Prop:=(c=true→A)∧(c=false→B)
def yo:Int:=9223372036854775807
def st (w:World) (A:Addr) (v:Value) (K:World→Prop):Prop:=(∃u:Value,w.cell? A=some u)∧w.frozen? A=false∧ay (w.setCell A v) fun ag=>K ag
def zE (w:World) (z:Obj) (l:List Value) (k:Nat) (K:World→Prop):Prop:=ay (w.alloc z) fun ag=>c2 ag (ai w) (Array.toList l.toArray)∧Array.size l.toArray=k∧ay (setCells ag (ai w) 0 (Array.toList l.toArray)) fun aw=>K aw
def Oz (s:aa) (n:Int) (w:World) (k:Nat) (K:List Value→Prop):Prop:=∃a:Addr,s.a=some a∧a6 n s.len∧∃l:List Value,eK w (a.add (Int.toNat n*k)) 0 k=some l∧K l
def aV (f:Nat) (a:Array Value) (w:World) (K:Int→World→Prop):Prop:=Calls Tryz.prog f a w fun e w'=>∃dF:Int,e= .returned (.int .i64 dF)∧K dF w'
def bA (f:Nat) (a:Array Value) (w:World) (K:World→Prop):Prop:=Calls Tryz.prog f a w fun e w'=>e= .returned (.tuple #[])∧K w'
def bd (f:Nat) (a:Array Value) (w:World) (K:Bool→World→Prop):Prop:=Calls Tryz.prog f a w fun e w'=>∃dF:Bool,e= .returned (.bool dF)∧K dF w'
def gk (f:Nat) (a:Array Value) (w:World) (K:aa→Int→World→Prop):Prop:=Calls Tryz.prog f a w fun e w'=>∃dF:aa,∃er:Int,e= .returned (.tuple #[.slice dF.a dF.len dF.cap, .int .i64 er])∧K dF er w'
def dL (f:Nat) (a:Array Value) (w:World) (K:Int→Bool→World→Prop):Prop:=Calls Tryz.prog f a w fun e w'=>∃dF:Int,∃er:Bool,e= .returned (.tuple #[.int .i64 dF, .bool er])∧K dF er w'
def fD (f:Nat) (a:Array Value) (w:World) (K:Bool→aa→aa→aa→Bool→World→Prop):Prop:=Calls Tryz.prog f a w fun e w'=>∃dF:Bool,∃er:aa,∃gU:aa,∃mg:aa,∃zP:Bool,e= .returned (.tuple #[.agg #[.bool dF, .slice er.a er.len er.cap, .slice gU.a gU.len gU.cap, .slice mg.a mg.len mg.cap], .bool zP])∧K dF er gU mg zP w'
def IH (f:Nat) (a:Array Value) (w:World) (K:Bool→Int→World→Prop):Prop:=Calls Tryz.prog f a w fun e w'=>∃dF:Bool,∃er:Int,e= .returned (.tuple #[.bool dF, .int .i64 er])∧K dF er w'
def Zx (f:Nat) (a:Array Value) (w:World) (K:Array Value→World→Prop):Prop:=Calls Tryz.prog f a w fun e w'=>∃dF:Array Value,e= .returned (.agg dF)∧K dF w'
def uk (f:Nat) (a:Array Value) (w:World) (K:Bool→aa→aa→aa→Int→World→Prop):Prop:=Calls Tryz.prog f a w fun e w'=>∃dF:Bool,∃er:aa,∃gU:aa,∃mg:aa,∃zP:Int,e= .returned (.tuple #[.agg #[.bool dF, .slice er.a er.len er.cap, .slice gU.a gU.len gU.cap, .slice mg.a mg.len mg.cap], .int .i64 zP])∧K dF er gU mg zP w'
def jy (f:Nat) (a:Array Value) (w:World) (K:Bool→aa→aa→aa→World→Prop):Prop:=Calls Tryz.prog f a w fun e w'=>∃dF:Bool,∃er:aa,∃gU:aa,∃mg:aa,e= .returned (.agg #[.bool dF, .slice er.a er.len er.cap, .slice gU.a gU.len gU.cap, .slice mg.a mg.len mg.cap])∧K dF er gU mg w'
def dK (f:Nat) (a:Array Value) (w:World) (K:aa→World→Prop):Prop:=Calls Tryz.prog f a w fun e w'=>∃dF:aa,e= .returned (.slice dF.a dF.len dF.cap)∧K dF w'
def Iw (f:Nat) (a:Array Value) (w:World) (K:Int→Int→Int→World→Prop):Prop:=Calls Tryz.prog f a w fun e w'=>∃dF:Int,∃er:Int,∃gU:Int,e= .returned (.tuple #[.int .i64 dF, .int .i64 er, .int .i64 gU])∧K dF er gU w'
def ng (f:Nat) (a:Array Value) (w:World) (K:Int→World→Prop):Prop:=Calls Tryz.prog f a w fun e w'=>∃dF:Int,e= .returned (.int .u32 dF)∧K dF w'
def J5 (f:Nat) (a:Array Value) (w:World) (K:Int→World→Prop):Prop:=Calls Tryz.prog f a w fun e w'=>∃dF:Int,e= .returned (.int .u64 dF)∧K dF w'
def E7 (f:Nat) (a:Array Value) (w:World) (K:aa→Bool→World→Prop):Prop:=Calls Tryz.prog f a w fun e w'=>∃dF:aa,∃er:Bool,e= .returned (.tuple #[.slice dF.a dF.len dF.cap, .bool er])∧K dF er w'
def aad (f:Nat) (a:Array Value) (w:World) (K:Int→Int→aa→Int→World→Prop):Prop:=Calls Tryz.prog f a w fun e w'=>∃dF:Int,∃er:Int,∃gU:aa,∃mg:Int,e= .returned (.tuple #[.agg #[.int .i64 dF, .int .u64 er, .slice gU.a gU.len gU.cap], .int .i64 mg])∧K dF er gU mg w'
def Gd (f:Nat) (a:Array Value) (w:World) (K:aa→Int→Int→Int→World→Prop):Prop:=Calls Tryz.prog f a w fun e w'=>∃dF:aa,∃er:Int,∃gU:Int,∃mg:Int,e= .returned (.tuple #[.slice dF.a dF.len dF.cap, .int .i64 er, .int .i64 gU, .int .i64 mg])∧K dF er gU mg w'
def NQ (f:Nat) (a:Array Value) (w:World) (K:Int→Bool→World→Prop):Prop:=Calls Tryz.prog f a w fun e w'=>∃dF:Int,∃er:Bool,e= .returned (.tuple #[.int .u64 dF, .bool er])∧K dF er w'
def AM (f:Nat) (a:Array Value) (w:World) (K:Option Addr→World→Prop):Prop:=Calls Tryz.prog f a w fun e w'=>∃dF:Option Addr,e= .returned (.pointer dF)∧K dF w'
def xv (f:Nat) (a:Array Value) (w:World) (K:Option Addr→Int→World→Prop):Prop:=Calls Tryz.prog f a w fun e w'=>∃dF:Option Addr,∃er:Int,e= .returned (.tuple #[.pointer dF, .int .i64 er])∧K dF er w'
def tf (f:Nat) (a:Array Value) (w:World) (K:Int→Int→World→Prop):Prop:=Calls Tryz.prog f a w fun e w'=>∃dF:Int,∃er:Int,e= .returned (.tuple #[.int .i64 dF, .int .i64 er])∧K dF er w'
def aaD (f:Nat) (a:Array Value) (w:World) (K:Bool→aa→aa→aa→aa→Bool→aa→aa→aa→Bool→World→Prop):Prop:=Calls Tryz.prog f a w fun e w'=>∃dF:Bool,∃er:aa,∃gU:aa,∃mg:aa,∃zP:aa,∃afo:Bool,∃QM:aa,∃QN:aa,∃QO:aa,∃afp:Bool,e= .returned (.tuple #[.agg #[.bool dF, .slice er.a er.len er.cap, .slice gU.a gU.len gU.cap, .slice mg.a mg.len mg.cap], .slice zP.a zP.len zP.cap, .agg #[.bool afo, .slice QM.a QM.len QM.cap, .slice QN.a QN.len QN.cap, .slice QO.a QO.len QO.cap], .bool afp])∧K dF er gU mg zP afo QM QN QO afp w'
def DQ (f:Nat) (a:Array Value) (w:World) (K:Option Addr→Bool→World→Prop):Prop:=Calls Tryz.prog f a w fun e w'=>∃dF:Option Addr,∃er:Bool,e= .returned (.tuple #[.pointer dF, .bool er])∧K dF er w'
def Dx (f:Nat) (a:Array Value) (w:World) (K:Int→aa→aa→Int→World→Prop):Prop:=Calls Tryz.prog f a w fun e w'=>∃dF:Int,∃er:aa,∃gU:aa,∃mg:Int,e= .returned (.agg #[.int .i64 dF, .slice er.a er.len er.cap, .slice gU.a gU.len gU.cap, .int .i64 mg])∧K dF er gU mg w'
def PZ (f:Nat) (a:Array Value) (w:World) (K:aa→Bool→Int→World→Prop):Prop:=Calls Tryz.prog f a w fun e w'=>∃dF:aa,∃er:Bool,∃gU:Int,e= .returned (.tuple #[.slice dF.a dF.len dF.cap, .bool er, .int .i64 gU])∧K dF er gU w'
def adT (f:Nat) (a:Array Value) (w:World) (K:aa→Int→Int→World→Prop):Prop:=Calls Tryz.prog f a w fun e w'=>∃dF:aa,∃er:Int,∃gU:Int,e= .returned (.tuple #[.slice dF.a dF.len dF.cap, .int .i64 er, .int .i64 gU])∧K dF er gU w'
def bK (w:World) (A:Addr) (K:Int→Prop):Prop:=∃x:Int,w.cell? A=some (.int .i64 x)∧K x
def aq (w:World) (A:Addr) (K:aa→Prop):Prop:=∃x:aa,w.cell? A=some (.slice x.a x.len x.cap)∧K x
def bV (w:World) (A:Addr) (K:Bool→Prop):Prop:=∃x:Bool,w.cell? A=some (.bool x)∧K x
def iE (w:World) (A:Addr) (K:Int→Prop):Prop:=∃x:Int,w.cell? A=some (.int .u8 x)∧K x
def kT (w:World) (A:Addr) (K:Int→Prop):Prop:=∃x:Int,w.cell? A=some (.int .u64 x)∧K x
def dx:Obj:= .cells #[.bool false, .slice none 0 0, .slice none 0 0, .slice none 0 0] ah.cO
def pD:Obj:= .cells #[.int .u8 0, .int .u8 0, .int .u8 0, .int .u8 0, .int .u8 0, .int .u8 0, .int .u8 0, .int .u8 0, .int .u8 0, .int .u8 0, .int .u8 0, .int .u8 0, .int .u8 0, .int .u8 0, .int .u8 0, .int .u8 0, .int .u8 0, .int .u8 0, .int .u8 0, .int .u8 0, .int .u8 0, .int .u8 0, .int .u8 0, .int .u8 0, .int .u8 0, .int .u8 0, .int .u8 0, .int .u8 0, .int .u8 0, .int .u8 0, .int .u8 0, .int .u8 0, .int .u8 0, .int .u8 0, .int .u8 0, .int .u8 0, .int .u8 0, .int .u8 0, .int .u8 0, .int .u8 0, .int .u8 0, .int .u8 0, .int .u8 0, .int .u8 0, .int .u8 0, .int .u8 0, .int .u8 0, .int .u8 0, .int .u8 0, .int .u8 0, .int .u8 0, .int .u8 0, .int .u8 0, .int .u8 0, .int .u8 0, .int .u8 0, .int .u8 0, .int .u8 0, .int .u8 0, .int .u8 0, .int .u8 0, .int .u8 0, .int .u8 0, .int .u8 0, .int .u8 0, .int .u8 0, .int .u8 0, .int .u8 0, .int .u8 0, .int .u8 0, .int .u8 0, .int .u8 0, .int .u8 0, .int .u8 0, .int .u8 0, .int .u8 0, .int .u8 0, .int .u8 0, .int .u8 0, .int .u8 0, .int .u8 0, .int .u8 0, .int .u8 0, .int .u8 0, .int .u8 0, .int .u8 0, .int .u8 0, .int .u8 0, .int .u8 0, .int .u8 0, .int .u8 0, .int .u8 0, .int .u8 0, .int .u8 0, .int .u8 0, .int .u8 0, .int .u8 0, .int .u8 0, .int .u8 0, .int .u8 0, .int .u8 0, .int .u8 0, .int .u8 0, .int .u8 0, .int .u8 0, .int .u8 0, .int .u8 0, .int .u8 0, .int .u8 0, .int .u8 0, .int .u8 0, .int .u8 0, .int .u8 0, .int .u8 0, .int .u8 0, .int .u8 0, .int .u8 0, .int .u8 0, .int .u8 0, .int .u8 0, .int .u8 0, .int .u8 0, .int .u8 0, .int .u8 0, .int .u8 0, .int .u8 0, .int .u8 0, .int .u8 0, .int .u8 0, .int .u8 0, .int .u8 0, .int .u8 0, .int .u8 0, .int .u8 0, .int .u8 0, .int .u8 0, .int .u8 0, .int .u8 0, .int .u8 0, .int .u8 0, .int .u8 0, .int .u8 0, .int .u8 0, .int .u8 0, .int .u8 0, .int .u8 0, .int .u8 0, .int .u8 0, .int .u8 0, .int .u8 0, .int .u8 0, .int .u8 0, .int .u8 0, .int .u8 0, .int .u8 0, .int .u8 0, .int .u8 0, .int .u8 0, .int .u8 0, .int .u8 0, .int .u8 0, .int .u8 0, .int .u8 0, .int .u8 0, .int .u8 0, .int .u8 0, .int .u8 0, .int .u8 0, .int .u8 0, .int .u8 0, .int .u8 0, .int .u8 0, .int .u8 0, .int .u8 0, .int .u8 0, .int .u8 0, .int .u8 0, .int .u8 0, .int .u8 0, .int .u8 0, .int .u8 0, .int .u8 0, .int .u8 0, .int .u8 0, .int .u8 0, .int .u8 0, .int .u8 0, .int .u8 0, .int .u8 0, .int .u8 0, .int .u8 0, .int .u8 0, .int .u8 0, .int .u8 0, .int .u8 0, .int .u8 0, .int .u8 0, .int .u8 0, .int .u8 0, .int .u8 0, .int .u8 0, .int .u8 0, .int .u8 0, .int .u8 0, .int .u8 0, .int .u8 0, .int .u8 0, .int .u8 0, .int .u8 0, .int .u8 0, .int .u8 0, .int .u8 0, .int .u8 0, .int .u8 0, .int .u8 0, .int .u8 0, .int .u8 0, .int .u8 0, .int .u8 0, .int .u8 0, .int .u8 0, .int .u8 0, .int .u8 0, .int .u8 0, .int .u8 0, .int .u8 0, .int .u8 0, .int .u8 0, .int .u8 0, .int .u8 0, .int .u8 0, .int .u8 0, .int .u8 0, .int .u8 0, .int .u8 0, .int .u8 0, .int .u8 0, .int .u8 0, .int .u8 0, .int .u8 0, .int .u8 0, .int .u8 0, .int .u8 0, .int .u8 0, .int .u8 0, .int .u8 0, .int .u8 0, .int .u8 0, .int .u8 0, .int .u8 0, .int .u8 0, .int .u8 0, .int .u8 0, .int .u8 0, .int .u8 0, .int .u8 0] ah.oM
def z3:Obj:= .cells #[.int .i64 0, .int .u64 0, .slice none 0 0] ah.J4
def z4:Obj:= .cells #[.slice none 0 0, .int .i64 0] ah.vI
def z5:Obj:= .cells #[.int .u8 97] ah.uint8
def bc:bI:=(.s .r (.c (.s .r .l) .l))
def mz:bI:=(.s .r (.s (.c .l .l) (.s (.df (.s .r bc)) .r)))
def g2:bI:=(.s .r (.s bc (.s .r .l)))
def kZ:bI:=(.s .r (.s (.s .r (.df (.loop [(8,(.int .i64))] [0,1,7] mz))) (.s .r .l)))
def gG:bI:=(.s bc (.s .r (.s .r .l)))
def lQ:bI:=(.s .r (.s (.df (.s .r (.c (.s .r .l) bc))) (.s .r (.s .r .l))))
def cW:bI:=(.s .r (.s (.c .l .l) (.s (.df (.s .r .r)) .r)))
def a3:bI:=(.s (.gi [.run, .run, .run, .pure 2]) .l)
def a4:bI:=(.s .r (.s .r (.s .r .l)))
def a5:bI:=(.s .r (.s (.gi [.run, .run, .run, .run, .pure 3]) .l))
def g0:bI:=(.s .r (.s (.gi [.run, .run, .run, .pure 2, .run, .run, .run, .split 7]) .l))
def jn:bI:=(.c (.s .r (.s .r .l)) .l)
def ir:bI:=(.s (.gi [.run, .run, .run, .split 3]) (.c (.s .r .l) .l))
def a9:bI:=(.s (.gi [.run, .run, .run, .pure 3]) (.c (.s .r .l) .l))
def iM:bI:=(.s (.gi [.run, .run, .run, .pure 2]) (.c (.s .r .l) .l))
theorem okF {f:Nat} {fn:Func} (A:bI) {args:List Value} {w:World} {Q:Value→World→Prop} {p:Prop} (aG:Tryz.prog.funcs[f]? =some fn) (U:GP fn args.length=true) (ad:p=Jm Tryz.prog aI A fn args w Q) (h:p):aO Tryz.prog f args.toArray w Q:=atq WS aG U (Eq.mp ad h)
def Ov (iU:aa) (fL:World) (qU:World) (dq:World) (t_:World→Prop):Prop:=∃hV:aa,∃oK:World,Sem.run Tryz.prog (Builtin.append_ #[ah.cM,ah.cM] ah.cM #[.slice iU.a iU.len iU.cap,
 .slice (some (ai fL)) 1 1]) qU= .ok (.slice hV.a hV.len hV.cap) oK∧st oK (Addr.add (ai dq) 1) (.slice hV.a hV.len hV.cap) fun ua=>t_ ua
def Kq (mq:World) (aw:World) (Q:Value→World→Prop) (HF:Bool):Prop:=aq mq (Addr.add (ai aw) 1) fun qV=>aq mq (Addr.add (ai aw) 2) fun yS=>aq mq (Addr.add (ai aw) 3) fun jB=>Q (.tuple #[.agg #[.bool HF, .slice
 qV.a qV.len qV.cap, .slice yS.a yS.len yS.cap, .slice jB.a jB.len jB.cap], .bool false]) mq
def Kr (pL:World) (dq:World) (aw:World) (CT:Bool) (Q:Value→World→Prop):Prop:=aq pL (Addr.add (ai dq) 1) fun gn=>aq pL (Addr.add (ai dq) 2) fun rE=>aq pL (Addr.add (ai dq) 3) fun k2=>c2 pL (ai aw)
 [.bool CT, .slice gn.a gn.len gn.cap, .slice rE.a rE.len rE.cap, .slice k2.a k2.len k2.cap]∧(4:Nat)=4∧ay (setCells pL (ai aw) 0 [.bool CT, .slice gn.a gn.len gn.cap, .slice rE.a rE.len rE.cap, .slice k2.a
 k2.len k2.cap]) fun xc=>bV xc (ai aw) fun On=>aq xc (Addr.add (ai aw) 1) fun yT=>aq xc (Addr.add (ai aw) 2) fun jC=>aq xc (Addr.add (ai aw) 3) fun jD=>Q (.tuple #[.agg #[.bool On, .slice yT.a yT.len
 yT.cap, .slice jC.a jC.len jC.cap, .slice jD.a jD.len jD.cap], .bool true]) xc
def cE (hX:World) (dq:World) (pZ:Bool) (ja:aa) (iN:aa) (mO:aa) (sJ:World) (qp:Bool) (gh:aa) (qv:aa) (iq:aa) (w:World) (key:aa) (aw:World) (Q:Value→World→Prop):Prop:=c2 hX (ai dq)
 [.bool pZ, .slice ja.a ja.len ja.cap, .slice iN.a iN.len iN.cap, .slice mO.a mO.len mO.cap]∧(4:Nat)=4∧ay (setCells hX (ai dq) 0 [.bool pZ, .slice ja.a ja.len ja.cap, .slice iN.a iN.len iN.cap, .slice mO.a mO.len
 mO.cap]) fun fl=>c2 fl (ai sJ) [.bool qp, .slice gh.a gh.len gh.cap, .slice qv.a qv.len qv.cap, .slice iq.a iq.len iq.cap]∧(4:Nat)=4∧ay (setCells fl (ai sJ) 0 [.bool qp, .slice gh.a gh.len gh.cap, .slice
 qv.a qv.len qv.cap, .slice iq.a iq.len iq.cap]) fun yP=>c0 (fun t_:World→Prop=>bV yP (ai w) fun yQ=>aA (!yQ) (ay (yP.drew) fun o7=>∃Fu:Nat→Prop,¬Fu (Addr.add (ai dq) 1).block∧aq o7 (Addr.add (ai dq) 1)
 fun iU=>dK F.mm #[.slice key.a key.len key.cap] o7 fun nn fL=>ao Fu o7 fL∧ay (fL.alloc (.cells #[.slice nn.a nn.len nn.cap] ah.cn)) fun qU=>ao Fu fL qU∧Ov iU fL qU dq t_) (t_
 yP)) (fun pK=>aq pK (Addr.add (ai dq) 1) fun gl=>aq pK (Addr.add (ai sJ) 1) fun gm=>∃gT:aa,∃gZ:World,Sem.run Tryz.prog (Builtin.append_ #[ah.cM,ah.cM] ah.cM #[.slice gl.a gl.len gl.cap,
 .slice gm.a gm.len gm.cap]) pK= .ok (.slice gT.a gT.len gT.cap) gZ∧st gZ (Addr.add (ai dq) 1) (.slice gT.a gT.len gT.cap) fun nM=>aq nM (Addr.add (ai dq) 2) fun jz=>aq nM (Addr.add (ai sJ) 2) fun l1=>∃qc:aa,
 ∃vv:World,Sem.run Tryz.prog (Builtin.append_ #[ah.cM,ah.cM] ah.cM #[.slice jz.a jz.len jz.cap, .slice l1.a l1.len l1.cap]) nM= .ok (.slice qc.a qc.len qc.cap) vv∧st vv (Addr.add (ai dq) 2)
 (.slice qc.a qc.len qc.cap) fun sn=>aq sn (Addr.add (ai dq) 3) fun kA=>aq sn (Addr.add (ai sJ) 3) fun pJ=>∃np:aa,∃s8:World,Sem.run Tryz.prog (Builtin.append_ #[ah.ef,ah.ef] ah.ef #[.slice kA.a kA.len
 kA.cap, .slice pJ.a pJ.len pJ.cap]) sn= .ok (.slice np.a np.len np.cap) s8∧st s8 (Addr.add (ai dq) 3) (.slice np.a np.len np.cap) fun xb=>bV xb (ai dq) fun Om=>aq xb (Addr.add (ai dq) 1) fun yR=>aq xb
 (Addr.add (ai dq) 2) fun iZ=>aq xb (Addr.add (ai dq) 3) fun jA=>bd F.nJ #[.agg #[.bool Om, .slice yR.a yR.len yR.cap, .slice iZ.a iZ.len iZ.cap, .slice jA.a jA.len jA.cap]] xb fun KJ pL=>aA (!KJ) (c2
 pL (ai aw) [.bool false, .slice none 0 0, .slice none 0 0, .slice none 0 0]∧(4:Nat)=4∧ay (setCells pL (ai aw) 0 [.bool false, .slice none 0 0, .slice none 0 0, .slice none 0 0]) fun mq=>bV mq (ai aw) fun HF=>Kq mq aw Q
 HF) (bV pL (ai dq) fun CT=>Kr pL dq aw CT Q))
def Pc (qf:World) (jQ:World) (vL:Bool) (l9:aa) (l_:aa) (mb:aa) (xH:Bool) (Q:Value→World→Prop) (c:Option Addr) (n31:Int):Prop:=c2 qf (ai jQ) [.bool vL, .slice l9.a l9.len l9.cap,
 .slice l_.a l_.len l_.cap, .slice mb.a mb.len mb.cap]∧(4:Nat)=4∧ay (setCells qf (ai jQ) 0 [.bool vL, .slice l9.a l9.len l9.cap, .slice l_.a l_.len l_.cap, .slice mb.a mb.len mb.cap]) fun mc=>
 aA (!xH) (Q (.tuple #[.slice none 0 0, .int .i64 0, .int .i64 0, .int .i64 4]) mc) (bV mc (ai jQ) fun FY=>aq mc (Addr.add (ai jQ) 1) fun oS=>aq mc (Addr.add (ai jQ) 2) fun q0=>aq mc (Addr.add (ai jQ) 3) fun
 q1=>gk F.sy #[.pointer c, .agg #[.bool FY, .slice oS.a oS.len oS.cap, .slice q0.a q0.len q0.cap, .slice q1.a q1.len q1.cap]] mc fun q2 FZ K9=>Q (.tuple #[.slice q2.a q2.len q2.cap, .int
 .i64 n31, .int .i64 (aD (n31+2)), .int .i64 FZ]) K9)
def Lh (ep:World) (cV:World) (wm:Bool) (ko:aa) (hE:aa) (dM:aa) (QP:World→Prop):Prop:=c2 ep (ai cV) [.bool wm, .slice ko.a ko.len ko.cap, .slice hE.a hE.len hE.cap, .slice dM.a dM.len dM.cap]∧(4
 :Nat)=4∧ay (setCells ep (ai cV) 0 [.bool wm, .slice ko.a ko.len ko.cap, .slice hE.a hE.len hE.cap, .slice dM.a dM.len dM.cap]) fun fA=>QP fA
def dz (nM:World) (c8:World) (uB:Bool) (hV:aa) (gM:aa) (hM:aa) (oB:Nat→Prop) (gZ:World) (uC:Bool) (gl:aa) (gm:aa) (gT:aa) (up:Option Addr) (n36:Int) (w:World) (dq:World) (n31:Int) (Q:Value
 →World→Prop) (c:Option Addr):Prop:=c2 nM (ai c8) [.bool uB, .slice hV.a hV.len hV.cap, .slice gM.a gM.len gM.cap, .slice hM.a hM.len hM.cap]∧(4:Nat)=4∧ay (setCells nM (ai c8) 0 [.bool uB, .slice hV.a
 hV.len hV.cap, .slice gM.a gM.len gM.cap, .slice hM.a hM.len hM.cap]) fun xJ=>ao oB nM xJ∧c2 xJ (ai gZ) [.bool uC, .slice gl.a gl.len gl.cap, .slice gm.a gm.len gm.cap, .slice gT.a gT.len gT.cap]∧(4:
 Nat)=4∧ay (setCells xJ (ai gZ) 0 [.bool uC, .slice gl.a gl.len gl.cap, .slice gm.a gm.len gm.cap, .slice gT.a gT.len gT.cap]) fun lh=>c0 (fun DH:World→Prop=>∃DI:Addr,up=some DI∧bK lh (DI.add 5) fun A0
 =>aA (decide (n36>A0)) (ay (lh.drew) fun iW=>∃xE:Nat→Prop,¬xE ((ai w):Addr).block∧bV iW (ai w) fun qS=>aq iW (Addr.add (ai w) 1) fun iY=>aq iW (Addr.add (ai w) 2) fun g5=>aq iW (Addr.add (ai w) 3) fun g6
 =>¬xE ((ai dq):Addr).block∧bV iW (ai dq) fun A1=>aq iW (Addr.add (ai dq) 1) fun iZ=>aq iW (Addr.add (ai dq) 2) fun jA=>aq iW (Addr.add (ai dq) 3) fun iy=>c2 iW (ai c8) [.bool qS, .slice iY.a iY.len
 iY.cap, .slice g5.a g5.len g5.cap, .slice g6.a g6.len g6.cap]∧(4:Nat)=4∧ay (setCells iW (ai c8) 0 [.bool qS, .slice iY.a iY.len iY.cap, .slice g5.a g5.len g5.cap, .slice g6.a g6.len g6.cap]) fun oA=>ao xE iW
 oA∧Lh oA gZ A1 iZ jA iy DH) (DH lh)) (fun mq=>ay (mq.drew) fun fN=>∃mI:Nat→Prop,¬mI ((ai c8):Addr).block∧bV fN (ai c8) fun rR=>aq fN (Addr.add (ai c8) 1) fun jB=>aq fN (Addr.add (ai c8) 2) fun
 jJ=>aq fN (Addr.add (ai c8) 3) fun gn=>∃xF:Addr,up=some xF∧¬mI ((xF.add 1).add 1).block∧aq fN ((xF.add 1).add 1) fun k2=>∃xG:Addr,k2.a=some xG∧a6 n31 k2.len∧¬mI (xG.add (Int.toNat n31*
 1)).block∧aq fN (xG.add (Int.toNat n31*1)) fun mJ=>¬mI ((ai gZ):Addr).block∧bV fN (ai gZ) fun zh=>aq fN (Addr.add (ai gZ) 1) fun jC=>aq fN (Addr.add (ai gZ) 2) fun jD=>aq fN (Addr.add (ai gZ) 3) fun
 mK=>(fD F.qd #[.agg #[.bool rR, .slice jB.a jB.len jB.cap, .slice jJ.a jJ.len jJ.cap, .slice gn.a gn.len gn.cap], .slice mJ.a mJ.len mJ.cap, .agg #[.bool zh, .slice jC.a jC.len jC.cap, .slice jD.a
 jD.len jD.cap, .slice mK.a mK.len mK.cap]] fN fun vL l9 l_ mb xH jQ=>ao mI fN jQ∧ay (jQ.alloc dx) fun qf=>ao mI jQ qf∧Pc qf jQ vL l9 l_ mb xH Q c n31)∧(ay (fN.alloc dx) fun
 vM=>ao mI fN vM∧fD F.qd #[.agg #[.bool rR, .slice jB.a jB.len jB.cap, .slice jJ.a jJ.len jJ.cap, .slice gn.a gn.len gn.cap], .slice mJ.a mJ.len mJ.cap, .agg #[.bool zh, .slice jC.a jC.len jC.cap,
 .slice jD.a jD.len jD.cap, .slice mK.a mK.len mK.cap]] vM fun A2 nA oT oU A3 xI=>ao mI vM xI∧Pc xI fN A2 nA oT oU A3 Q c n31))
def e_ (zQ:World) (gb:World) (ag:World) (Q:Value→World→Prop):Prop:=bV zQ (ai gb) fun qp=>Kr zQ gb ag qp Q
def Oc (lN:World) (bR:World) (ag:World) (tg:Bool) (Q:Value→World→Prop):Prop:=aq lN (Addr.add (ai bR) 1) fun kG=>aq lN (Addr.add (ai bR) 2) fun rQ=>aq lN (Addr.add (ai bR) 3) fun iw=>c2 lN (ai ag)
 [.bool tg, .slice kG.a kG.len kG.cap, .slice rQ.a rQ.len rQ.cap, .slice iw.a iw.len iw.cap]∧(4:Nat)=4∧ay (setCells lN (ai ag) 0 [.bool tg, .slice kG.a kG.len kG.cap, .slice rQ.a rQ.len rQ.cap, .slice iw.a iw.len
 iw.cap]) fun k5=>bV k5 (ai ag) fun yQ=>aq k5 (Addr.add (ai ag) 1) fun ix=>aq k5 (Addr.add (ai ag) 2) fun fq=>aq k5 (Addr.add (ai ag) 3) fun iU=>Q (.agg #[.bool yQ, .slice ix.a ix.len ix.cap, .slice fq.a fq.len
 fq.cap, .slice iU.a iU.len iU.cap]) k5
def sB (fg:World) (bR:World) (ng:Array Value) (l:aa) (w:World) (to:Int) (ag:World) (Q:Value→World→Prop):Prop:=c2 fg (ai bR) (Array.toList ng)∧Array.size ng=4∧ay (setCells fg (ai bR) 0
 (Array.toList ng)) fun cV=>∃ (FT:Int→World→Prop) (K5:Int→World→Nat),FT 0 cV∧∀ (n19:Int) (cw:World),FT n19 cw→aA (decide (n19<(l.len:Int))) (∃kC:Addr,l.a=some kC∧a6 n19 l.len∧aq cw (kC.add
 (Int.toNat n19*2)) fun e5=>bK cw ((kC.add (Int.toNat n19*2)).add 1) fun n23=>ay (cw.alloc z4) fun cD=>c2 cD (ai cw) [.slice e5.a e5.len e5.cap, .int .i64 n23]∧(2:Nat)=2∧ay (setCells cD (ai cw) 0 [.slice
 e5.a e5.len e5.cap, .int .i64 n23]) fun gd=>c0 (fun DB:World→Prop=>aq gd (ai cw) fun dM=>aA (!(Option.isNone dM.a)) (aq gd (Addr.add (ai bR) 1) fun e9=>aq gd (ai cw) fun ih=>ay (gd.alloc (.cells #[.slice ih.a
 ih.len ih.cap] ah.cn)) fun fB=>Ov e9 gd fB bR DB) (DB gd)) (fun e4=>aq e4 (Addr.add (ai bR) 3) fun fV=>bK e4 (Addr.add (ai cw) 1) fun n36=>ay (e4.alloc (.cells #[.int .i64 n36] ah.int)) fun lu=>∃ei:aa,
 ∃lM:World,Sem.run Tryz.prog (Builtin.append_ #[ah.ef,ah.ef] ah.ef #[.slice fV.a fV.len fV.cap, .slice (some (ai e4)) 1 1]) lu= .ok (.slice ei.a ei.len ei.cap) lM∧st lM (Addr.add (ai bR) 3) (.slice ei.a
 ei.len ei.cap) fun qZ=>FT (aD (n19+1)) qZ∧K5 (aD (n19+1)) qZ<K5 n19 cw)) (ay (cw.drew) fun dy=>¬False∧aq dy (Addr.add (ai bR) 1) fun m3=>¬False∧aq dy (Addr.add (ai w) 1) fun h5=>((0:Int)≤(aD (to-
 1))∧(aD (to-1))≤(h5.len:Int))∧∃ja:aa,∃j6:World,Sem.run Tryz.prog (Builtin.append_ #[ah.cM,ah.cM] ah.cM #[.slice m3.a m3.len m3.cap, .slice (bh h5.a 1 (Int.toNat (aD (to-1))) h5.cap)
 (h5.len-(Int.toNat (aD (to-1)))) (h5.cap-(Int.toNat (aD (to-1))))]) dy= .ok (.slice ja.a ja.len ja.cap) j6∧st j6 (Addr.add (ai bR) 1) (.slice ja.a ja.len ja.cap) fun h8=>ay (h8.drew) fun dq=>¬False∧aq dq
 (Addr.add (ai bR) 3) fun ny=>¬False∧aq dq (Addr.add (ai w) 3) fun kF=>((0:Int)≤to∧to≤(kF.len:Int))∧∃gh:aa,∃rP:World,Sem.run Tryz.prog (Builtin.append_ #[ah.ef,ah.ef] ah.ef #[.slice ny.a ny.len
 ny.cap, .slice (bh kF.a 1 (Int.toNat to) kF.cap) (kF.len-(Int.toNat to)) (kF.cap-(Int.toNat to))]) dq= .ok (.slice gh.a gh.len gh.cap) rP∧st rP (Addr.add (ai bR) 3) (.slice gh.a gh.len gh.cap) fun lN=>bV lN (ai
 bR) fun tg=>Oc lN bR ag tg Q)
def rD (QQ:Array Value) (hX:World) (B4:Nat→Prop) (QR:Array Value) (ag:World) (aw:World) (Q:Value→World→Prop) (iq:aa):Prop:=jy F.fK #[.agg QQ] hX fun afq gM hM pq sO=>ao B4 hX sO∧jy
 F.fK #[.agg QR] sO fun afr zR rh jz lg=>ao B4 sO lg∧c2 lg (ai ag) [.bool afq, .slice gM.a gM.len gM.cap, .slice hM.a hM.len hM.cap, .slice pq.a pq.len pq.cap]∧(4:Nat)=4∧ay (setCells lg (ai ag) 0
 [.bool afq, .slice gM.a gM.len gM.cap, .slice hM.a hM.len hM.cap, .slice pq.a pq.len pq.cap]) fun lh=>ao B4 lg lh∧c2 lh (ai aw) [.bool afr, .slice zR.a zR.len zR.cap, .slice rh.a rh.len rh.cap, .slice jz.a
 jz.len jz.cap]∧(4:Nat)=4∧ay (setCells lh (ai aw) 0 [.bool afr, .slice zR.a zR.len zR.cap, .slice rh.a rh.len rh.cap, .slice jz.a jz.len jz.cap]) fun jO=>bV jO (ai ag) fun Oi=>aq jO (Addr.add (ai ag) 1) fun qb=>
 aq jO (Addr.add (ai ag) 2) fun kA=>aq jO (Addr.add (ai ag) 3) fun pJ=>bV jO (ai aw) fun qS=>aq jO (Addr.add (ai aw) 1) fun iY=>aq jO (Addr.add (ai aw) 2) fun g5=>aq jO (Addr.add (ai aw) 3) fun g6=>Q (.tuple #[.agg
 #[.bool Oi, .slice qb.a qb.len qb.cap, .slice kA.a kA.len kA.cap, .slice pJ.a pJ.len pJ.cap], .slice iq.a iq.len iq.cap, .agg #[.bool qS, .slice iY.a iY.len iY.cap, .slice g5.a g5.len g5.cap, .slice g6.a g6.len
 g6.cap], .bool true]) jO
def rC (dJ:World) (ag:World) (Q:Value→World→Prop):Prop:=bV dJ (ai ag) fun IU=>Kq dJ ag Q IU
def Hz (gV:World) (a7:World) (ag:World) (Q:Value→World→Prop):Prop:=bV gV (ai a7) fun WT=>Oc gV a7 ag WT Q
def PV (nd:Nat→Prop) (cD:World) (cu:World) (eA:aa) (ko:aa) (fy:aa) (bm:Int) (m:Option Addr) (Q:Value→World→Prop):Prop:=ao nd cD cu∧∃dM:aa,∃fA:World,Sem.run Tryz.prog (Builtin.append_
 #[ah.e0,ah.e0] ah.e0 #[.slice eA.a eA.len eA.cap, .slice ko.a ko.len ko.cap]) cu= .ok (.slice dM.a dM.len dM.cap) fA∧ao nd cu fA∧∃ih:aa,∃fB:World,Sem.run Tryz.prog (Builtin.append_
 #[ah.e0,ah.e0] ah.e0 #[.slice dM.a dM.len dM.cap, .slice (bh fy.a 2 (Int.toNat (aD (bm+1))) fy.cap) (fy.len-(Int.toNat (aD (bm+1)))) (fy.cap-(Int.toNat (aD (bm+1))))]) fA= .ok (.slice ih.a
 ih.len ih.cap) fB∧ao nd fA fB∧∃nY:Addr,m=some nY∧(∃u:Value,fB.cell? nY=some u)∧fB.frozen? nY=false∧ay (fB.setCell nY (.slice ih.a ih.len ih.cap)) fun nv=>Q (.tuple #[]) nv
def PW (pr:Nat→Prop) (zu:World) (ua:World) (p1:aa) (gM:aa) (na:aa) (bm:Int) (m:Option Addr) (Q:Value→World→Prop):Prop:=ao pr zu ua∧∃pq:aa,∃lg:World,Sem.run Tryz.prog (Builtin.append_
 #[ah.e0,ah.e0] ah.e0 #[.slice p1.a p1.len p1.cap, .slice gM.a gM.len gM.cap]) ua= .ok (.slice pq.a pq.len pq.cap) lg∧ao pr ua lg∧∃gm:aa,∃tn:World,Sem.run Tryz.prog (Builtin.append_
 #[ah.e0,ah.e0] ah.e0 #[.slice pq.a pq.len pq.cap, .slice (bh na.a 2 (Int.toNat bm) na.cap) (na.len-(Int.toNat bm)) (na.cap-(Int.toNat bm))]) lg= .ok (.slice gm.a gm.len gm.cap) tn∧ao pr lg
 tn∧∃QS:Addr,m=some QS∧(∃u:Value,tn.cell? QS=some u)∧tn.frozen? QS=false∧ay (tn.setCell QS (.slice gm.a gm.len gm.cap)) fun nM=>Q (.tuple #[]) nM
def OO (bS:World) (w:World) (Q:Value→World→Prop) (n7:Int):Prop:=bV bS (ai w) fun jc=>aq bS (Addr.add (ai w) 1) fun fi=>aq bS (Addr.add (ai w) 2) fun dX=>aq bS (Addr.add (ai w) 3) fun gP=>Q (.tuple #[.agg #[.bool
 jc, .slice fi.a fi.len fi.cap, .slice dX.a dX.len dX.cap, .slice gP.a gP.len gP.cap], .int .i64 n7]) bS
def YJ (dA:aa) (n17:Int) (eP:World) (a7:World) (uO:Int→World→Prop) (zS:Int→World→Nat):Prop:=∃pt:Addr,dA.a=some pt∧a6 n17 dA.len∧aq eP (pt.add (Int.toNat n17*1)) fun fy=>ay (eP.drew) fun ep
 =>∃wS:Nat→Prop,¬wS (Addr.add (ai a7) 1).block∧aq ep (Addr.add (ai a7) 1) fun eA=>dK F.mm #[.slice fy.a fy.len fy.cap] ep fun hE cD=>ao wS ep cD∧ay (cD.alloc (.cells #[.slice hE.a
 hE.len hE.cap] ah.cn)) fun mY=>ao wS cD mY∧∃e9:aa,∃fG:World,Sem.run Tryz.prog (Builtin.append_ #[ah.cM,ah.cM] ah.cM #[.slice eA.a eA.len eA.cap, .slice (some (ai cD)) 1 1]) mY=
 .ok (.slice e9.a e9.len e9.cap) fG∧st fG (Addr.add (ai a7) 1) (.slice e9.a e9.len e9.cap) fun fB=>uO (aD (n17+1)) fB∧zS (aD (n17+1)) fB<zS n17 eP
def YK (im:aa) (n34:Int) (gV:World) (a7:World) (MD:Int→World→Prop) (QT:Int→World→Nat):Prop:=∃a36:Addr,im.a=some a36∧a6 n34 im.len∧aq gV (a36.add (Int.toNat n34*1)) fun kp=>ay (gV.drew) fun jR
 =>∃WU:Nat→Prop,¬WU (Addr.add (ai a7) 2).block∧aq jR (Addr.add (ai a7) 2) fun eF=>dK F.mm #[.slice kp.a kp.len kp.cap] jR fun h5 dy=>ao WU jR dy∧ay (dy.alloc (.cells #[.slice h5.a
 h5.len h5.cap] ah.cn)) fun jo=>ao WU dy jo∧∃iN:aa,∃h8:World,Sem.run Tryz.prog (Builtin.append_ #[ah.cM,ah.cM] ah.cM #[.slice eF.a eF.len eF.cap, .slice (some (ai dy)) 1 1]) jo=
 .ok (.slice iN.a iN.len iN.cap) h8∧st h8 (Addr.add (ai a7) 2) (.slice iN.a iN.len iN.cap) fun dq=>MD (aD (n34+1)) dq∧QT (aD (n34+1)) dq<QT n34 gV
def HA (r2:Bool) (p2:Bool→World→Prop) (a7:World) (w:World):Prop:=aA (!r2) (p2 true a7) (bV a7 (ai w) fun tw=>aq a7 (Addr.add (ai w) 1) fun dA=>aq a7 (Addr.add (ai w) 2) fun eQ=>aq a7 (Addr.add (ai w) 3) fun dd
 =>bd F.nJ #[.agg #[.bool tw, .slice dA.a dA.len dA.cap, .slice eQ.a eQ.len eQ.cap, .slice dd.a dd.len dd.cap]] a7 fun D4 eV=>p2 (!D4) eV)
def Sf (bB:World) (aw:World) (ag:World) (zr:World→Prop):Prop:=ay (bB.drew) fun bY=>∃WV:Nat→Prop,¬WV (Addr.add (ai aw) 3).block∧aq bY (Addr.add (ai aw) 3) fun dX=>aV F.wK #[.pointer (some (ai
 ag)), .int .i64 2] bY fun n14 cy=>ao WV bY cy∧ay (cy.alloc (.cells #[.int .i64 n14] ah.int)) fun fg=>ao WV cy fg∧∃dd:aa,∃eV:World,Sem.run Tryz.prog (Builtin.append_ #[ah.ef,ah.ef] ah.ef #[.slice
 dX.a dX.len dX.cap, .slice (some (ai cy)) 1 1]) fg= .ok (.slice dd.a dd.len dd.cap) eV∧st eV (Addr.add (ai aw) 3) (.slice dd.a dd.len dd.cap) fun eP=>zr eP
def Kb (jR:World) (w:World) (Q:Value→World→Prop):Prop:=bV jR (ai w) fun WW=>aq jR (Addr.add (ai w) 1) fun eF=>aq jR (Addr.add (ai w) 2) fun qw=>aq jR (Addr.add (ai w) 3) fun m3=>Q (.tuple #[.agg #[.bool WW,
 .slice eF.a eF.len eF.cap, .slice qw.a qw.len qw.cap, .slice m3.a m3.len m3.cap], .int .i64 4]) jR
def SN (dd:aa) (js:aa) (dj:World) (sP:Nat→Prop) (ME:Option Nat) (i:Int) (d:Option Addr) (Q:Value→World→Prop):Prop:=∃fy:aa,∃ep:World,Sem.run Tryz.prog (Builtin.append_ #[ah.uf,
 ah.uf] ah.uf #[.slice dd.a dd.len dd.cap, .slice js.a js.len js.cap]) dj= .ok (.slice fy.a fy.len fy.cap) ep∧ao sP dj ep∧∃dJ:World,Sem.run Tryz.prog (Instr.mapUpdate ah.AF
 (.map ME) (.int .i64 i) (.slice fy.a fy.len fy.cap)) ep= .ok () dJ∧∃a23:Addr,d=some a23∧bK dJ (a23.add 6) fun n24=>∃a25:Addr,d=some a25∧st dJ (a25.add 6) (.int .i64 (aD (n24+1))) fun cu=>Q (.int .i64 0) cu
def RZ (kp:aa):Prop:=(0:Int)≤(aD (232-(kp.len:Int)))∧((aD (232-(kp.len:Int))):Int)≤(aD (232-(kp.len:Int)))∧((aD (232-(kp.len:Int))):Int)≤yo∧((1:Nat):Int)*(aD (232-(kp.len:Int)))≤
 140737488355328
def R0 (lM:World) (dh:aa) (e4:World) (jS:aa) (jR:World) (kp:aa) (GV:aa→World→Prop):Prop:=ay (lM.alloc (.cells #[.slice dh.a dh.len dh.cap, .slice (some (ai e4)) (Int.toNat 4) (Int.toNat 4), .slice jS.a
 jS.len jS.cap, .slice (some (ai jR)) (Int.toNat (aD (232-(kp.len:Int)))) (Int.toNat (aD (232-(kp.len:Int))))] ah.cn)) fun qZ=>dK F.sZ #[.slice (some (ai lM)) 4 4] qZ fun h5 dy=>GV h5 dy
def R4 (bS:World) (w:World) (Q:Value→World→Prop):Prop:=bK bS (ai w) fun n9=>kT bS (Addr.add (ai w) 1) fun n10=>aq bS (Addr.add (ai w) 2) fun dX=>Q (.tuple #[.agg #[.int .i64 n9, .int .u64 n10, .slice dX.a dX.len
 dX.cap], .int .i64 4]) bS
def SL (bB:World) (w:World) (Jo:List Value) (Q:Value→World→Prop):Prop:=c2 bB (ai w) (Array.toList Jo.toArray)∧Array.size Jo.toArray=256∧ay (setCells bB (ai w) 0 (Array.toList Jo.toArray)) fun bS=>∃AJ:List
 Value,eK bS (ai w) 0 256=some AJ∧Q (.agg AJ.toArray) bS
def Pb (hX:World) (dq:World) (qp:Bool) (gh:aa) (qv:aa) (iq:aa) (me:Int) (Q:Value→World→Prop) (c:Option Addr) (n41:Int) (w:World) (up:Option Addr) (n36:Int) (n31:Int):Prop:=c2 hX (ai dq)
 [.bool qp, .slice gh.a gh.len gh.cap, .slice qv.a qv.len qv.cap, .slice iq.a iq.len iq.cap]∧(4:Nat)=4∧ay (setCells hX (ai dq) 0 [.bool qp, .slice gh.a gh.len gh.cap, .slice qv.a qv.len qv.cap, .slice iq.a iq.len
 iq.cap]) fun fl=>aA (me !=0) (Q (.tuple #[.slice none 0 0, .int .i64 0, .int .i64 0, .int .i64 me]) fl) (∃Ld:Addr,c=some Ld∧aq fl (Ld.add 2) fun pT=>ay (fl.alloc (.cells #[.int .i64 n41] ah.int)) fun DJ=>∃ix:
 aa,∃tj:World,Sem.run Tryz.prog (Builtin.append_ #[ah.ef,ah.ef] ah.ef #[.slice pT.a pT.len pT.cap, .slice (some (ai fl)) 1 1]) DJ= .ok (.slice ix.a ix.len ix.cap) tj∧∃q4:Addr,c=some q4∧st tj (q4.add
 2) (.slice ix.a ix.len ix.cap) fun fL=>ay (fL.drew) fun c8=>∃oB:Nat→Prop,¬oB ((ai dq):Addr).block∧bV c8 (ai dq) fun uB=>aq c8 (Addr.add (ai dq) 1) fun hV=>aq c8 (Addr.add (ai dq) 2) fun gM=>aq c8
 (Addr.add (ai dq) 3) fun hM=>¬oB ((ai w):Addr).block∧bV c8 (ai w) fun uC=>aq c8 (Addr.add (ai w) 1) fun gl=>aq c8 (Addr.add (ai w) 2) fun gm=>aq c8 (Addr.add (ai w) 3) fun gT=>(ay (c8.alloc dx) fun gZ=>ao oB
 c8 gZ∧ay (gZ.alloc dx) fun nM=>ao oB gZ nM∧dz nM c8 uB hV gM hM oB gZ uC gl gm gT up n36 w dq n31 Q c)∧(ay (c8.alloc dx) fun q5=>ao oB c8 q5∧ay (q5.alloc dx) fun F4=>ao oB q5 F4∧dz F4
 q5 uB hV gM hM oB c8 uC gl gm gT up n36 w dq n31 Q c))
def Fy (sQ:Bool) (ei:aa) (fY:aa) (eF:aa) (MF:World) (jt:Nat→Prop) (dy:World) (pZ:Bool) (ja:aa) (iN:aa) (mO:aa) (zi:World) (w:World) (key:aa) (aw:World) (Q:Value→World→Prop):Prop:=jy
 F.fK #[.agg #[.bool sQ, .slice ei.a ei.len ei.cap, .slice fY.a fY.len fY.cap, .slice eF.a eF.len eF.cap]] MF fun atP atQ atR atS afs=>ao jt MF afs∧cE afs dy pZ ja iN mO zi atP atQ atR atS w key aw
 Q
def Sn (cy:World) (a7:World) (jy:Array Value) (w:World) (ag:World) (Q:Value→World→Prop):Prop:=c2 cy (ai a7) (Array.toList jy)∧Array.size jy=4∧ay (setCells cy (ai a7) 0 (Array.toList jy)) fun bZ=>aq
 bZ (Addr.add (ai w) 1) fun dA=>∃ (uO:Int→World→Prop) (zS:Int→World→Nat),uO 0 bZ∧∀ (n17:Int) (eP:World),uO n17 eP→aA (decide (n17<(dA.len:Int))) (YJ dA n17 eP a7 uO zS) (aq eP (Addr.add (ai w) 2) fun
 im=>∃ (MD:Int→World→Prop) (QT:Int→World→Nat),MD 0 eP∧∀ (n34:Int) (gV:World),MD n34 gV→aA (decide (n34<(im.len:Int))) (YK im n34 gV a7 MD QT) (Hz gV a7 ag Q))
def Th (bp:World) (w:World) (Q:Value→World→Prop) (n7:Int):Prop:=c2 bp (ai w) [.bool false, .slice none 0 0, .slice none 0 0, .slice none 0 0]∧(4:Nat)=4∧ay (setCells bp (ai w) 0 [.bool false, .slice none 0 0,
 .slice none 0 0, .slice none 0 0]) fun bS=>OO bS w Q n7
end
section
set_option maxRecDepth 100000
def W.mX (a:aa) (b:aa) (w:World) (Q:Value→World→Prop):Prop:=∃dt:Int,∃aw:World,Sem.run Tryz.prog (callFunc F.atK #[.slice a.a a.len a.cap, .slice b.a b.len b.cap]) w= .ok (.value (.int
 .i64 dt)) aw∧Q (.int .i64 dt) aw
def A.mX:bI:=(.s .r (.s .r .l))
theorem W.aix (a:aa) (b:aa) (w:World) (Q:Value→World→Prop) (h:W.mX a b w Q):aO Tryz.prog F.mX #[.slice a.a a.len a.cap, .slice b.a b.len b.cap] w Q:=okF A.mX Tryz.func64 (by kernel_rfl) (by kernel_rfl) h
def W.D7 (s:aa) (v:Int) (w:World) (Q:Value→World→Prop):Prop:=aV F.D6 #[.slice s.a s.len s.cap, .int .i64 v] w fun bm ag=>Q (.bool (decide (bm≥0))) ag
def A.D7:bI:=(.s .r (.s .r .l))
theorem W.aqI (s:aa) (v:Int) (w:World) (Q:Value→World→Prop) (h:W.D7 s v w Q):aO Tryz.prog F.D7 #[.slice s.a s.len s.cap, .int .i64 v] w Q:=okF A.D7 Tryz.func103 (by kernel_rfl) (by kernel_rfl) h
def W.yD (s:aa) (i:Int) (j:Int) (w:World) (Q:Value→World→Prop):Prop:=((0:Int)≤(s.len:Int)∧(s.len:Int)≤((s.cap:Nat):Int))∧((0:Int)≤j∧j≤(((Int.toNat (s.len:Int)):Nat):
 Int))∧((0:Int)≤i∧i≤(((Int.toNat j):Nat):Int))∧aA (i==j) (Q (.slice s.a s.len s.cap) w) (ay (w.drew) fun ag=>((0:Int)≤i∧i≤((s.cap:Nat):Int))∧((0:Int)≤j∧j≤(s.len:Int))∧∃s2:aa,∃aS:World,
 Sem.run Tryz.prog (Builtin.append_ #[ah.cM,ah.cM] ah.cM #[.slice (bh s.a 1 0 s.cap) ((Int.toNat i)-0) (s.cap-0), .slice (bh s.a 1 (Int.toNat j) s.cap) (s.len-(Int.toNat j)) (s.cap-(Int.toNat j))]) ag
 = .ok (.slice s2.a s2.len s2.cap) aS∧((0:Int)≤(s.len:Int)∧(s.len:Int)≤((s2.cap:Nat):Int))∧((0:Int)≤(s2.len:Int)∧(s2.len:Int)≤(((Int.toNat (s.len:Int)):Nat):Int))∧∃ (iE:Value) (bB:World),Sem.run Tryz.prog
 (Builtin.clear_ #[ah.cM] ah.t #[.slice (bh s2.a 1 (Int.toNat (s2.len:Int)) s2.cap) ((Int.toNat (s.len:Int))-(Int.toNat (s2.len:Int))) (s2.cap-(Int.toNat (s2.len:Int)))]) aS= .ok iE bB∧Q (.slice s2.a s2.len s2.cap) bB)
def A.yD:bI:=(.s .r (.s .r (.s bc (.s .r (.s (.eH 6 false ⟨[0,0,3,0,0,24,36,127],[0,0,3,0,0,24,36,73]⟩ [1048576,2097152,4194304,8388608,16777216,33554432,67108864,1] [1,2,3145728,
 1,4,25165824,37748736,67108864] (.take 0 (.take 1 (.take 2 (.take 3 (.take 4 (.take 5 (.tail [.run, .run])))))))) (.s .r (.s .r .l)))))))
theorem W.ajt (s:aa) (i:Int) (j:Int) (w:World) (Q:Value→World→Prop) (h:W.yD s i j w Q):aO Tryz.prog F.yD #[.slice s.a s.len s.cap, .int .i64 i, .int .i64 j] w Q:=okF A.yD Tryz.func109 (by kernel_rfl) (by kernel_rfl) h
def W.Dn (x:Int) (w:World) (Q:Value→World→Prop):Prop:=(0:Int)≤x∧∃da:UInt8,Tb (ByteArray.mk #[0,1,1,2,1,2,2,3,1,2,2,3,2,3,3,4,1,2,2,3,2,3,3,4,2,3,3,4,3,4,4,5,1,2,
 2,3,2,3,3,4,2,3,3,4,3,4,4,5,2,3,3,4,3,4,4,5,3,4,4,5,4,5,5,6,1,2,2,3,2,3,3,4,2,3,3,4,3,4,4,5,2,3,3,4,3,4,4,5,3,4,4,5,4,5,5,6,2,3,3,4,3,4,4,5,3,4,4,5,4,5,5,6,3,4,
 4,5,4,5,5,6,4,5,5,6,5,6,6,7,1,2,2,3,2,3,3,4,2,3,3,4,3,4,4,5,2,3,3,4,3,4,4,5,3,4,4,5,4,5,5,6,2,3,3,4,3,4,4,5,3,4,4,5,4,5,5,6,3,4,4,5,4,5,5,6,4,5,5,6,5,6,6,7,2,3,
 3,4,3,4,4,5,3,4,4,5,4,5,5,6,3,4,4,5,4,5,5,6,4,5,5,6,5,6,6,7,3,4,4,5,4,5,5,6,4,5,5,6,5,6,6,7,4,5,5,6,5,6,6,7,5,6,6,7,6,7,7,8]) (Int.toNat x)=some da∧Q (.int .i64 (aD ((da.toNat
 :Nat):Int))) w
def A.Dn:bI:=(.s .r (.s .r .l))
theorem W.amh (x:Int) (w:World) (Q:Value→World→Prop) (h:W.Dn x w Q):aO Tryz.prog F.Dn #[.int .u8 x] w Q:=okF A.Dn Tryz.func117 (by kernel_rfl) (by kernel_rfl) h
def W.mm (s:aa) (w:World) (Q:Value→World→Prop):Prop:=aA (Option.isNone s.a) (Q (.slice none 0 0) w) (ay (w.alloc (.cells #[] ah.uint8)) fun ag=>∃s2:aa,∃aS:World,Sem.run Tryz.prog
 (Builtin.append_ #[ah.cn,ah.cn] ah.cn #[.slice (some (ai w)) 0 0, .slice s.a s.len s.cap]) ag= .ok (.slice s2.a s2.len s2.cap) aS∧Q (.slice s2.a s2.len s2.cap) aS)
def A.mm:bI:=g2
theorem W.ahR (s:aa) (w:World) (Q:Value→World→Prop) (h:W.mm s w Q):aO Tryz.prog F.mm #[.slice s.a s.len s.cap] w Q:=okF A.mm Tryz.func119 (by kernel_rfl) (by kernel_rfl) h
def W.yB (s:aa) (i:Int) (v:aa) (w:World) (Q:Value→World→Prop):Prop:=((0:Int)≤i∧i≤(s.len:Int))∧aA ((v.len:Int)==0) (Q (.slice s.a s.len s.cap) w) (aA (i==(s.len:Int)) (∃s1:aa,
 ∃aw:World,Sem.run Tryz.prog (Builtin.append_ #[ah.cM,ah.cM] ah.cM #[.slice s.a s.len s.cap, .slice v.a v.len v.cap]) w= .ok (.slice s1.a s1.len s1.cap) aw∧Q (.slice s1.a s1.len s1.cap) aw) (aA (decide
 (((aD ((s.len:Int)+(v.len:Int))):Int)>((s.cap:Nat):Int))) (((0:Int)≤i∧i≤((s.cap:Nat):Int))∧∃b1:aa,∃bp:World,Sem.run Tryz.prog (Builtin.append_ #[ah.cM,ah.int] ah.cM #[.slice (bh s.a 1 0
 s.cap) ((Int.toNat i)-0) (s.cap-0), .int .i64 (aD ((aD ((s.len:Int)+(v.len:Int)))-i))]) w= .ok (.slice b1.a b1.len b1.cap) bp∧((0:Int)≤i∧i≤(b1.len:Int))∧∃n5:Int,∃bf:World,Sem.run Tryz.prog (Builtin.copy_
 #[ah.cM,ah.cM] ah.int #[.slice (bh b1.a 1 (Int.toNat i) b1.cap) (b1.len-(Int.toNat i)) (b1.cap-(Int.toNat i)), .slice v.a v.len v.cap]) bp= .ok (.int .i64 n5) bf∧ay (bf.drew) fun a7=>((0:Int)≤(aD (i+
 (v.len:Int)))∧(aD (i+(v.len:Int)))≤(b1.len:Int))∧((0:Int)≤i∧i≤(s.len:Int))∧∃n8:Int,∃bY:World,Sem.run Tryz.prog (Builtin.copy_ #[ah.cM,ah.cM] ah.int #[.slice (bh b1.a 1 (Int.toNat (aD (i+
 (v.len:Int)))) b1.cap) (b1.len-(Int.toNat (aD (i+(v.len:Int))))) (b1.cap-(Int.toNat (aD (i+(v.len:Int))))), .slice (bh s.a 1 (Int.toNat i) s.cap) (s.len-(Int.toNat i)) (s.cap-(Int.toNat i))]) a7= .ok (.int .i64 n8) bY∧Q
 (.slice b1.a b1.len b1.cap) bY) (((0:Int)≤(aD ((s.len:Int)+(v.len:Int)))∧(aD ((s.len:Int)+(v.len:Int)))≤((s.cap:Nat):Int))∧((0:Int)≤(aD (i+(v.len:Int)))∧(aD (i+(v.len:Int)))≤((((Int.toNat (aD ((s.len:Int)+
 (v.len:Int))))-0):Nat):Int))∧∃nZ:Bool,∃cf:World,Sem.run Tryz.prog (callFunc F.YF #[.slice v.a v.len v.cap, .slice (bh (bh s.a 1 0 s.cap) 1 (Int.toNat (aD (i+(v.len:Int)))) (s.cap-0))
 (((Int.toNat (aD ((s.len:Int)+(v.len:Int))))-0)-(Int.toNat (aD (i+(v.len:Int))))) ((s.cap-0)-(Int.toNat (aD (i+(v.len:Int)))))]) w= .ok (.value (.bool nZ)) cf∧aA (!nZ) (ay (cf.drew) fun cy=>((0:Int)≤(aD (i+
 (v.len:Int)))∧(aD (i+(v.len:Int)))≤((((Int.toNat (aD ((s.len:Int)+(v.len:Int))))-0):Nat):Int))∧((0:Int)≤i∧i≤((((Int.toNat (aD ((s.len:Int)+(v.len:Int))))-0):Nat):Int))∧∃n13:Int,∃cZ:World,Sem.run
 Tryz.prog (Builtin.copy_ #[ah.cM,ah.cM] ah.int #[.slice (bh (bh s.a 1 0 s.cap) 1 (Int.toNat (aD (i+(v.len:Int)))) (s.cap-0)) (((Int.toNat (aD ((s.len:Int)+(v.len:Int))))-0)-(Int.toNat (aD (i+
 (v.len:Int))))) ((s.cap-0)-(Int.toNat (aD (i+(v.len:Int))))), .slice (bh (bh s.a 1 0 s.cap) 1 (Int.toNat i) (s.cap-0)) (((Int.toNat (aD ((s.len:Int)+(v.len:Int))))-0)-(Int.toNat i)) ((s.cap-0)-(Int.toNat i))]) cy=
 .ok (.int .i64 n13) cZ∧((0:Int)≤i∧i≤((((Int.toNat (aD ((s.len:Int)+(v.len:Int))))-0):Nat):Int))∧∃n15:Int,∃cV:World,Sem.run Tryz.prog (Builtin.copy_ #[ah.cM,ah.cM] ah.int #[.slice (bh (bh
 s.a 1 0 s.cap) 1 (Int.toNat i) (s.cap-0)) (((Int.toNat (aD ((s.len:Int)+(v.len:Int))))-0)-(Int.toNat i)) ((s.cap-0)-(Int.toNat i)), .slice v.a v.len v.cap]) cZ= .ok (.int .i64 n15) cV∧Q (.slice (bh s.a 1 0 s.cap)
 ((Int.toNat (aD ((s.len:Int)+(v.len:Int))))-0) (s.cap-0)) cV) (((0:Int)≤(s.len:Int)∧(s.len:Int)≤((((Int.toNat (aD ((s.len:Int)+(v.len:Int))))-0):Nat):Int))∧∃n17:Int,∃eP:World,Sem.run Tryz.prog
 (Builtin.copy_ #[ah.cM,ah.cM] ah.int #[.slice (bh (bh s.a 1 0 s.cap) 1 (Int.toNat (s.len:Int)) (s.cap-0)) (((Int.toNat (aD ((s.len:Int)+(v.len:Int))))-0)-(Int.toNat (s.len:Int))) ((s.cap-0)-(Int.toNat
 (s.len:Int))), .slice v.a v.len v.cap]) cf= .ok (.int .i64 n17) eP∧((0:Int)≤i∧i≤((((Int.toNat (aD ((s.len:Int)+(v.len:Int))))-0):Nat):Int))∧bA F.atL #[.slice (bh (bh s.a 1 0 s.cap) 1
 (Int.toNat i) (s.cap-0)) (((Int.toNat (aD ((s.len:Int)+(v.len:Int))))-0)-(Int.toNat i)) ((s.cap-0)-(Int.toNat i)), .int .i64 (v.len:Int)] eP fun dj=>Q (.slice (bh s.a 1 0 s.cap) ((Int.toNat (aD ((s.len:Int)+
 (v.len:Int))))-0) (s.cap-0)) dj))))
def A.yB:bI:=(.s .r (.s .r (.s .r (.s bc (.s .r (.s bc (.s (.s .r (.c (.s .r (.s .r (.s (.eH 8 false ⟨[0,0,0,6,9,0,0,96,144],[0,0,0,6,9,0,0,96,144]⟩ [70368744177664,140737488355328,
 281474976710656,562949953421312,1125899906842624,2251799813685248,4503599627370496,9007199254740992,18014398509481984] [512,2,128,422212465065984,633318697598976,1,2,6755399441055744,10133099161583616] (.take 0 (.take 1 (.take
 2 (.take 3 (.take 4 (.take 5 (.take 6 (.take 7 (.tail [.run])))))))))) (.s .r .l)))) .l)) (.s .r (.s (.s .r (.c (.s (.eH 8 false ⟨[0,0,0,6,9,0,0,96,144],[0,0,0,6,9,0,0,96,144]⟩ [590295810358705651712,
 1180591620717411303424,2361183241434822606848,4722366482869645213696,9444732965739290427392,18889465931478580854784,37778931862957161709568,75557863725914323419136,151115727451828646838272] [1,2,128,3541774862152233910272,
 5312662293228350865408,1,2,56668397794435742564352,85002596691653613846528] (.take 0 (.take 1 (.take 2 (.take 3 (.take 4 (.take 5 (.take 6 (.take 7 (.tail [.run])))))))))) (.s .r (.s .r .l))) .l)) a4)))))))))
theorem W.ajj (s:aa) (i:Int) (v:aa) (w:World) (Q:Value→World→Prop) (h:W.yB s i v w Q):aO Tryz.prog F.yB #[.slice s.a s.len s.cap, .int .i64 i, .slice v.a v.len v.cap] w Q:=okF A.yB Tryz.func120 (by kernel_rfl) (by kernel_rfl) h
def W.AO (s:aa) (w:World) (Q:Value→World→Prop):Prop:=aA (Option.isNone s.a) (Q (.slice none 0 0) w) (ay (w.alloc (.cells #[] ah.uint8)) fun ag=>∃s2:aa,∃aS:World,Sem.run Tryz.prog
 (Builtin.append_ #[ah.KW,ah.KW] ah.KW #[.slice (some (ai w)) 0 0, .slice s.a s.len s.cap]) ag= .ok (.slice s2.a s2.len s2.cap) aS∧Q (.slice s2.a s2.len s2.cap) aS)
def A.AO:bI:=g2
theorem W.al_ (s:aa) (w:World) (Q:Value→World→Prop) (h:W.AO s w Q):aO Tryz.prog F.AO #[.slice s.a s.len s.cap] w Q:=okF A.AO Tryz.func122 (by kernel_rfl) (by kernel_rfl) h
def W.D6 (s:aa) (v:Int) (w:World) (Q:Value→World→Prop):Prop:=∃ (fP:Int→World→Prop) (ia:Int→World→Nat),fP 0 w∧∀ (bm:Int) (bp:World),fP bm bp→aA (decide (bm<(s.len:Int))) (∃a5:
 Addr,s.a=some a5∧a6 bm s.len∧bK bp (a5.add (Int.toNat bm*1)) fun n6=>aA (v==n6) (Q (.int .i64 bm) bp) (fP (aD (bm+1)) bp∧ia (aD (bm+1)) bp<ia bm bp)) (Q (.int .i64 (-1)) bp)
def A.D6:bI:=kZ
theorem W.aqG (s:aa) (v:Int) (w:World) (Q:Value→World→Prop) (h:W.D6 s v w Q):aO Tryz.prog F.D6 #[.slice s.a s.len s.cap, .int .i64 v] w Q:=okF A.D6 Tryz.func144 (by kernel_rfl) (by kernel_rfl) h
def W.CJ (x:aa) (target:aa) (cmp:r4) (w:World) (Q:Value→World→Prop):Prop:=∃ (fP:Int→Int→World→Prop) (ia:Int→Int→World→Nat),fP 0 (x.len:Int) w∧∀ (bm:Int)
 (fI:Int) (bB:World),fP bm fI bB→aA (decide (bm<fI)) ((0:Int)≤1∧∃g0:Addr,x.a=some g0∧((0:Int)≤(aD (Int.fdiv (IntKind.wrap .u64 (aD (bm+fI))) (2^(min (Int.toNat 1) 64))))∧(aD (Int.fdiv (IntKind.wrap .u64 (aD
 (bm+fI))) (2^(min (Int.toNat 1) 64))))<(x.len:Int))∧aq bB (g0.add (Int.toNat (aD (Int.fdiv (IntKind.wrap .u64 (aD (bm+fI))) (2^(min (Int.toNat 1) 64))))*1)) fun hC=>tR Tryz.prog cmp.f∧Calls Tryz.prog cmp.f (cmp.pre
 ++ #[.slice hC.a hC.len hC.cap, .slice target.a target.len target.cap]++cmp.cap) bB fun Ai bS=>∃n10:Int,Ai= .returned (.int .i64 n10)∧aA (decide (n10<0)) (fP (aD ((aD (Int.fdiv (IntKind.wrap .u64 (aD (bm+fI))) (2^(min
 (Int.toNat 1) 64))))+1)) fI bS∧ia (aD ((aD (Int.fdiv (IntKind.wrap .u64 (aD (bm+fI))) (2^(min (Int.toNat 1) 64))))+1)) fI bS<ia bm fI bB) (fP bm (aD (Int.fdiv (IntKind.wrap .u64 (aD (bm+fI))) (2^(min (Int.toNat 1) 64)))) bS
 ∧ia bm (aD (Int.fdiv (IntKind.wrap .u64 (aD (bm+fI))) (2^(min (Int.toNat 1) 64)))) bS<ia bm fI bB)) (c0 (fun QU:Bool→World→Prop=>aA (decide (bm<(x.len:Int))) (∃kZ:Addr,x.a=some kZ∧a6 bm x.len∧aq bB (kZ.add
 (Int.toNat bm*1)) fun gO=>tR Tryz.prog cmp.f∧Calls Tryz.prog cmp.f (cmp.pre++ #[.slice gO.a gO.len gO.cap, .slice target.a target.len target.cap]++cmp.cap) bB fun WX cZ=>∃n16:Int,WX= .returned (.int .i64 n16)∧
 QU (n16==0) cZ) (QU false bB)) (fun (uP:Bool) eP=>Q (.tuple #[.int .i64 bm, .bool uP]) eP))
def A.CJ:bI:=(.s .r (.s .r (.s .r (.s (.df (.loop [(9,(.int .i64)),(10,(.int .i64))] [0,1,2,8] (.s (.s .r (.c .l .l)) (.df (.s .r (.s .r (.c .r .r))))))) (.s (.gi [.run, .run,
 .run, .run, .run, .split 8]) .l)))))
theorem W.ajC (x:aa) (target:aa) (cmp:r4) (w:World) (Q:Value→World→Prop) (h:W.CJ x target cmp w Q):aO Tryz.prog F.CJ #[.slice x.a x.len x.cap, .slice target.a target.len target.cap, .func (.func cmp.f) cmp.pre cmp.cap] w Q:=okF A.CJ Tryz.func146 (by kernel_rfl) (by kernel_rfl) h
def W.CB (s:aa) (f:r4) (w:World) (Q:Value→World→Prop):Prop:=aV F.E_ #[.slice s.a s.len s.cap, .func (.func f.f) f.pre f.cap] w fun bm ag=>Q (.bool
 (decide (bm≥0))) ag
def A.CB:bI:=(.s .r (.s .r .l))
theorem W.aiC (s:aa) (f:r4) (w:World) (Q:Value→World→Prop) (h:W.CB s f w Q):aO Tryz.prog F.CB #[.slice s.a s.len s.cap, .func (.func f.f) f.pre f.cap] w Q:=okF A.CB Tryz.func148 (by kernel_rfl) (by kernel_rfl) h
def W.CC (s:aa) (f:r4) (w:World) (Q:Value→World→Prop):Prop:=aV F.Fa #[.slice s.a s.len s.cap, .func (.func f.f) f.pre f.cap] w fun bm ag=>Q (.bool (decide (bm≥0))) ag
def A.CC:bI:=(.s .r (.s .r .l))
theorem W.aiG (s:aa) (f:r4) (w:World) (Q:Value→World→Prop) (h:W.CC s f w Q):aO Tryz.prog F.CC #[.slice s.a s.len s.cap, .func (.func f.f) f.pre f.cap] w Q:=okF A.CC Tryz.func150 (by kernel_rfl) (by kernel_rfl) h
def W.vk (s:aa) (w:World) (Q:Value→World→Prop):Prop:=aA (Option.isNone s.a) (Q (.slice none 0 0) w) (ay (w.alloc (.cells #[] ah.int)) fun ag=>∃s2:aa,∃aS:World,Sem.run Tryz.prog (Builtin.append_
 #[ah.ef,ah.ef] ah.ef #[.slice (some (ai w)) 0 0, .slice s.a s.len s.cap]) ag= .ok (.slice s2.a s2.len s2.cap) aS∧Q (.slice s2.a s2.len s2.cap) aS)
def A.vk:bI:=g2
theorem W.ajz (s:aa) (w:World) (Q:Value→World→Prop) (h:W.vk s w Q):aO Tryz.prog F.vk #[.slice s.a s.len s.cap] w Q:=okF A.vk Tryz.func151 (by kernel_rfl) (by kernel_rfl) h
def W.yw (a:aa) (b:aa) (w:World) (Q:Value→World→Prop):Prop:=∃s1:ByteArray,∃aw:World,Sem.run Tryz.prog (convert ah.cn ah.string (.slice a.a a.len a.cap)) w= .ok (.string s1) aw∧∃b1:ByteArray,∃bp
 :World,Sem.run Tryz.prog (convert ah.cn ah.string (.slice b.a b.len b.cap)) aw= .ok (.string b1) bp∧Q (.bool (ByteArray.toList s1==ByteArray.toList b1)) bp
def A.yw:bI:=(.s .r (.s .r .l))
theorem W.aiy (a:aa) (b:aa) (w:World) (Q:Value→World→Prop) (h:W.yw a b w Q):aO Tryz.prog F.yw #[.slice a.a a.len a.cap, .slice b.a b.len b.cap] w Q:=okF A.yw Tryz.func167 (by kernel_rfl) (by kernel_rfl) h
end
section
set_option maxRecDepth 100000
def W.E_ (s:aa) (f:r4) (w:World) (Q:Value→World→Prop):Prop:=∃ (fP:Int→World→Prop) (ia:Int→World→Nat),fP 0 w∧∀ (bm:Int) (bp:World),fP bm bp→aA (decide (bm<(s.len:Int)))
 (∃a5:Addr,s.a=some a5∧a6 bm s.len∧aq bp (a5.add (Int.toNat bm*1)) fun cK=>tR Tryz.prog f.f∧Calls Tryz.prog f.f (f.pre++ #[.slice cK.a cK.len cK.cap]++f.cap) bp fun u9 a7=>∃jc:Bool,u9= .returned (.bool jc)∧
 aA jc (Q (.int .i64 bm) a7) (fP (aD (bm+1)) a7∧ia (aD (bm+1)) a7<ia bm bp)) (Q (.int .i64 (-1)) bp)
def A.E_:bI:=kZ
theorem W.aiD (s:aa) (f:r4) (w:World) (Q:Value→World→Prop) (h:W.E_ s f w Q):aO Tryz.prog F.E_ #[.slice s.a s.len s.cap, .func (.func f.f) f.pre f.cap] w Q:=okF A.E_ Tryz.func186 (by kernel_rfl) (by kernel_rfl) h
def W.Fa (s:aa) (f:r4) (w:World) (Q:Value→World→Prop):Prop:=∃ (fP:Int→World→Prop) (ia:Int→World→Nat),fP 0 w∧∀ (bm:Int) (bp:World),fP bm bp→aA (decide (bm<(s.len:Int))) (∃a5:
 Addr,s.a=some a5∧a6 bm s.len∧bK bp (a5.add (Int.toNat bm*1)) fun n6=>tR Tryz.prog f.f∧Calls Tryz.prog f.f (f.pre++ #[.int .i64 n6]++f.cap) bp fun u9 a7=>∃jc:Bool,u9= .returned (.bool jc)∧aA jc (Q (.int .i64
 bm) a7) (fP (aD (bm+1)) a7∧ia (aD (bm+1)) a7<ia bm bp)) (Q (.int .i64 (-1)) bp)
def A.Fa:bI:=kZ
theorem W.aiH (s:aa) (f:r4) (w:World) (Q:Value→World→Prop) (h:W.Fa s f w Q):aO Tryz.prog F.Fa #[.slice s.a s.len s.cap, .func (.func f.f) f.pre f.cap] w Q:=okF A.Fa Tryz.func187 (by kernel_rfl) (by kernel_rfl) h
def W.AV (s:aa) (w:World) (Q:Value→World→Prop):Prop:=aA (Option.isNone s.a) (Q (.slice none 0 0) w) (ay (w.alloc (.cells #[] ah.cn)) fun ag=>∃s2:aa,∃aS:World,Sem.run Tryz.prog
 (Builtin.append_ #[ah.cM,ah.cM] ah.cM #[.slice (some (ai w)) 0 0, .slice s.a s.len s.cap]) ag= .ok (.slice s2.a s2.len s2.cap) aS∧Q (.slice s2.a s2.len s2.cap) aS)
def A.AV:bI:=g2
theorem W.anm (s:aa) (w:World) (Q:Value→World→Prop) (h:W.AV s w Q):aO Tryz.prog F.AV #[.slice s.a s.len s.cap] w Q:=okF A.AV Tryz.func193 (by kernel_rfl) (by kernel_rfl) h
end
section
set_option maxRecDepth 100000
def W.y0 (n:Int) (w:World) (Q:Value→World→Prop):Prop:=aA ((decide (n<16))||(decide (n>1600))) (Q (.tuple #[.pointer none, .int .i64 1]) w) (((0:Int)≤n∧n≤n∧n≤yo∧((256:Nat):Int)*n≤
 140737488355328)∧ay (w.alloc (.cells (pC Tryz.prog ah.oM (Int.toNat n)) ah.oM)) fun ag=>∃sC:Option Nat,∃aS:World,Sem.run Tryz.prog (Instr.makeMap ah.AF none) ag= .ok (.map sC) aS∧∃gk:
 Array Value,Sem.run Tryz.prog (Instr.build ah.Ox #[(1, .slice (some (ai w)) (Int.toNat n) (Int.toNat n)),(2, .map sC)]) aS= .ok (.agg gk) aS∧ay (aS.alloc (.cells gk ah.Ox)) fun bB=>∃g0:Addr,(some (ai aS):Option
 Addr)=some g0∧bA F.C3 #[.pointer (some g0)] bB fun a7=>Q (.tuple #[.pointer (some (ai aS)), .int .i64 0]) a7)
def A.y0:bI:=(.s .r (.s iM a4))
theorem W.akQ (n:Int) (w:World) (Q:Value→World→Prop) (h:W.y0 n w Q):aO Tryz.prog F.y0 #[.int .i64 n] w Q:=okF A.y0 Tryz.func11 (by kernel_rfl) (by kernel_rfl) h
def W.C1 (d:Option Addr) (i:Int) (b:aa) (w:World) (Q:Value→World→Prop):Prop:=bd F.AH #[.pointer d, .int .i64 i] w fun eM ag=>aA ((!eM)||((b.len:Int) !=256)) (Q (.int .i64 1) ag) (∃a4:Addr,
 d=some a4∧bd F.AI #[.pointer (some a4), .int .i64 2] ag fun k4 bB=>aA k4 (Q (.int .i64 3) bB) (ay (bB.drew) fun bS=>∃sP:Nat→Prop,∃iM:Addr,d=some iM∧¬sP (iM.add 5).block∧∃ME:Option Nat,bS.cell?
 (iM.add 5)=some (.map ME)∧∃kZ:Addr,d=some kZ∧¬sP (kZ.add 5).block∧∃WY:Option Nat,bS.cell? (kZ.add 5)=some (.map WY)∧256≤b.len∧∃lQ:Addr,b.a=some lQ∧¬sP lQ.block∧∃WZ:List Value,eK bS
 lQ 0 256=some WZ∧(∃dd:aa,∃eV:World,Sem.run Tryz.prog (Instr.lookup ah.AF (.map WY) (.int .i64 i) false) bS= .ok (.slice dd.a dd.len dd.cap) eV∧ao sP bS eV∧∃js:aa,∃dj:World,Sem.run
 Tryz.prog (Instr.buildSlice ah.uf 1 #[(0, .agg WZ.toArray)]) eV= .ok (.slice js.a js.len js.cap) dj∧ao sP eV dj∧SN dd js dj sP ME i d Q)∧(∃dM:aa,∃fA:World,Sem.run Tryz.prog (Instr.buildSlice
 ah.uf 1 #[(0, .agg WZ.toArray)]) bS= .ok (.slice dM.a dM.len dM.cap) fA∧ao sP bS fA∧∃ih:aa,∃fB:World,Sem.run Tryz.prog (Instr.lookup ah.AF (.map WY) (.int .i64 i) false) fA= .ok (.slice
 ih.a ih.len ih.cap) fB∧ao sP fA fB∧SN ih dM fB sP ME i d Q)))
def A.C1:bI:=(.s .r (.s (.df (.s (.gi [.run, .run, .run, .run, .run, .pure 3]) (.c (.s .r .l) bc))) (.s (.eH 16 true ⟨[0,1,2,4,0,0,32,64,128,0,768,0,2048,4096,8192,17408,65535],[0,1,2,4,0,0,32,
 64,128,0,768,0,2048,4096,8192,17408,32792]⟩ [4194304,8388608,16777216,33554432,67108864,134217728,268435456,536870912,1073741824,2147483648,4294967296,8589934592,17179869184,34359738368,68719476736,137438953472,0]
 [1,4194304,8388608,16777216,2,1,134217728,268435456,536870912,2,3221225472,4,8589934592,17179869184,34359738368,73014444032,137539616768] (.take 0 (.take 1 (.take 2 (.take 3 (.take 4 (.take 5 (.take 6 (.take 7 (.take 8
 (.take 9 (.take 11 (.take 12 (.take 13 (.two 10 (.cP 14 (.cP 15 (.tail [.run]))) 14 (.cP 10 (.cP 15 (.tail [.run])))))))))))))))))) (.s .r (.s .r .l)))))
theorem W.akJ (d:Option Addr) (i:Int) (b:aa) (w:World) (Q:Value→World→Prop) (h:W.C1 d i b w Q):aO Tryz.prog F.C1 #[.pointer d, .int .i64 i, .slice b.a b.len b.cap] w Q:=okF A.C1 Tryz.func14 (by kernel_rfl) (by kernel_rfl) h
def W.BD (t:Option Addr) (key:aa) (w:World) (Q:Value→World→Prop):Prop:=c0 (fun dB:Bool→World→Prop=>aA (Option.isNone t) (dB true w) (bd F.tp #[.slice key.a key.len key.cap] w fun e7 aw=>dB (!e7)
 aw)) (fun (iu:Bool) bf=>aA iu (aA (Option.isNone t) (Q (.tuple #[.slice none 0 0, .bool false, .int .i64 1]) bf) (Q (.tuple #[.slice none 0 0, .bool false, .int .i64 0]) bf)) (gk F.y_ #[.pointer t, .slice key.a key.len
 key.cap] bf fun dn n10 a7=>aA ((n10 !=0)||((dn.len:Int)==0)) (Q (.tuple #[.slice none 0 0, .bool false, .int .i64 n10]) a7) (∃g2:Addr,dn.a=some g2∧((0:Int)≤(aD ((dn.len:Int)-1))∧(aD ((dn.len:Int)-1))<
 (dn.len:Int))∧bV a7 ((g2.add (Int.toNat (aD ((dn.len:Int)-1))*6)).add 1) fun Ev=>aq a7 (((g2.add (Int.toNat (aD ((dn.len:Int)-1))*6)).add 1).add 1) fun gO=>aq a7 (((g2.add (Int.toNat (aD ((dn.len:Int)-1))*6)).add
 1).add 2) fun dA=>aq a7 (((g2.add (Int.toNat (aD ((dn.len:Int)-1))*6)).add 1).add 3) fun eQ=>ay (a7.alloc dx) fun cV=>c2 cV (ai a7) [.bool Ev, .slice gO.a gO.len gO.cap, .slice dA.a dA.len dA.cap, .slice eQ.a
 eQ.len eQ.cap]∧(4:Nat)=4∧ay (setCells cV (ai a7) 0 [.bool Ev, .slice gO.a gO.len gO.cap, .slice dA.a dA.len dA.cap, .slice eQ.a eQ.len eQ.cap]) fun eV=>bV eV (ai a7) fun tG=>aq eV (Addr.add (ai a7) 1) fun fQ=>
 aq eV (Addr.add (ai a7) 2) fun fy=>aq eV (Addr.add (ai a7) 3) fun dV=>dL F.yF #[.agg #[.bool tG, .slice fQ.a fQ.len fQ.cap, .slice fy.a fy.len fy.cap, .slice dV.a dV.len dV.cap], .slice key.a key.len key.cap] eV
 fun n24 uF dJ=>aA (!uF) (Q (.tuple #[.slice none 0 0, .bool false, .int .i64 0]) dJ) (aq dJ (Addr.add (ai a7) 2) fun hE=>∃a27:Addr,hE.a=some a27∧a6 n24 hE.len∧aq dJ (a27.add (Int.toNat n24*1)) fun e9=>Q (.tuple
 #[.slice e9.a e9.len e9.cap, .bool true, .int .i64 0]) dJ))))
def A.BD:bI:=(.s .r (.s (.s (.gi [.run, .run, .run, .split 3]) (.c (.s bc (.s .r .l)) .l)) (.s .r (.s a9 (.s .r g2)))))
theorem W.apK (t:Option Addr) (key:aa) (w:World) (Q:Value→World→Prop) (h:W.BD t key w Q):aO Tryz.prog F.BD #[.pointer t, .slice key.a key.len key.cap] w Q:=okF A.BD Tryz.func21 (by kernel_rfl) (by kernel_rfl) h
def W.D2 (t:Option Addr) (key:aa) (w:World) (Q:Value→World→Prop):Prop:=c0 (fun dB:Bool→World→Prop=>aA (Option.isNone t) (dB true w) (bd F.tp #[.slice key.a key.len key.cap] w fun e7 aw=>dB
 (!e7) aw)) (fun (iu:Bool) bf=>aA iu (Q (.tuple #[.bool false, .int .i64 1]) bf) (gk F.y_ #[.pointer t, .slice key.a key.len key.cap] bf fun dn n10 a7=>aA ((n10 !=0)||((dn.len:Int)==0)) (Q (.tuple #[.bool false, .int
 .i64 n10]) a7) (∃g2:Addr,dn.a=some g2∧((0:Int)≤(aD ((dn.len:Int)-1))∧(aD ((dn.len:Int)-1))<(dn.len:Int))∧bV a7 ((g2.add (Int.toNat (aD ((dn.len:Int)-1))*6)).add 1) fun Ev=>aq a7 (((g2.add (Int.toNat (aD
 ((dn.len:Int)-1))*6)).add 1).add 1) fun gO=>aq a7 (((g2.add (Int.toNat (aD ((dn.len:Int)-1))*6)).add 1).add 2) fun dA=>aq a7 (((g2.add (Int.toNat (aD ((dn.len:Int)-1))*6)).add 1).add 3) fun eQ=>fD F.yM #[.agg
 #[.bool Ev, .slice gO.a gO.len gO.cap, .slice dA.a dA.len dA.cap, .slice eQ.a eQ.len eQ.cap], .slice key.a key.len key.cap] a7 fun tG fQ fy dV tx cV=>ay (cV.alloc dx) fun m8=>c2 m8 (ai cV) [.bool tG, .slice
 fQ.a fQ.len fQ.cap, .slice fy.a fy.len fy.cap, .slice dV.a dV.len dV.cap]∧(4:Nat)=4∧ay (setCells m8 (ai cV) 0 [.bool tG, .slice fQ.a fQ.len fQ.cap, .slice fy.a fy.len fy.cap, .slice dV.a dV.len dV.cap]) fun cD
 =>aA (!tx) (Q (.tuple #[.bool false, .int .i64 0]) cD) (bV cD (ai cV) fun uF=>aq cD (Addr.add (ai cV) 1) fun hE=>aq cD (Addr.add (ai cV) 2) fun dM=>aq cD (Addr.add (ai cV) 3) fun e9=>aV F.xQ #[.pointer t,
 .slice dn.a dn.len dn.cap, .agg #[.bool uF, .slice hE.a hE.len hE.cap, .slice dM.a dM.len dM.cap, .slice e9.a e9.len e9.cap]] cD fun n31 fG=>Q (.tuple #[.bool (n31==0), .int .i64 n31]) fG))))
def A.D2:bI:=(.s .r (.s ir (.s .r (.s a9 (.s .r gG)))))
theorem W.apT (t:Option Addr) (key:aa) (w:World) (Q:Value→World→Prop) (h:W.D2 t key w Q):aO Tryz.prog F.D2 #[.pointer t, .slice key.a key.len key.cap] w Q:=okF A.D2 Tryz.func22 (by kernel_rfl) (by kernel_rfl) h
def W.zC (t:Option Addr) (iA:aa) (to:aa) (most:Int) (w:World) (Q:Value→World→Prop):Prop:=ay (w.alloc (.cells #[.slice iA.a iA.len iA.cap] ah.cn)) fun ag=>ay (ag.alloc (.cells #[.slice
 to.a to.len to.cap] ah.cn)) fun aw=>ay (aw.alloc (.cells #[.int .i64 most] ah.int)) fun aS=>aA (Option.isNone t) (Q (.tuple #[.slice none 0 0, .int .i64 1]) aS) (∃a4:Addr,t=some a4∧bK aS (a4.add 4) fun n5=>c0 (fun Gf:
 Bool→World→Prop=>aA (n5==0) (Gf true aS) (bK aS (ai aw) fun n7=>Gf (decide (n7<1)) aS)) (fun (nX:Bool) bY=>aA nX (Q (.tuple #[.slice none 0 0, .int .i64 0]) bY) (ay (bY.alloc (.cells #[.slice none 0 0] ah.e0)) fun
 bR=>ay (bR.drew) fun cf=>∃QV:Nat→Prop,∃gG:Addr,t=some gG∧¬QV (gG.add 3).block∧bK cf (gG.add 3) fun n14=>∃mz:Addr,t=some mz∧¬QV (mz.add 4).block∧bK cf (mz.add 4) fun n16=>¬QV ((ai w):
 Addr).block∧aq cf (ai w) fun gx=>ao QV cf cf∧IH F.BG #[.pointer t, .int .i64 n14, .int .i64 n16, .slice gx.a gx.len gx.cap, .func (.func F.xV) #[] #[.pointer (some (ai ag)), .pointer (some (ai w)),
 .pointer (some (ai bY)), .pointer (some (ai aw))]] cf fun q8 n21 eP=>aA (n21 !=0) (Q (.tuple #[.slice none 0 0, .int .i64 n21]) eP) (aq eP (ai bY) fun e5=>Q (.tuple #[.slice e5.a e5.len e5.cap, .int .i64 0]) eP))))
def A.zC:bI:=(.s .r (.s bc (.s (.s (.gi [.run, .run, .run, .run, .run, .run, .split 2]) (.c (.s .r .l) .l)) (.s .r (.s (.eH 16 true ⟨[0,0,2,4,8,0,32,64,128,0,0,1809,2048,4096,4096,16383,65535],[0,0,2,4,
 8,0,32,64,128,0,0,1809,2048,4096,4096,8192,16384]⟩ [33554432,67108864,134217728,268435456,536870912,1073741824,2147483648,4294967296,8589934592,17179869184,34359738368,68719476736,16777216,137438953472,
 274877906944,2048,4096] [1,1,67108864,134217728,268435456,1,1073741824,2147483648,4294967296,32,1248,60699967488,68719476736,16777216,16777216,137438953472,274877906944] (.take 0 (.take 1 (.take 2 (.take 3 (.take 4 (.take
 5 (.take 6 (.take 7 (.take 8 (.take 9 (.cP 10 (.out 11 false (.take 12 (.take 13 (.take 14 (.take 15 (.tail [.run])))))))))))))))))) (.s bc (.s .r .l)))))))
theorem W.aqv (t:Option Addr) (iA:aa) (to:aa) (most:Int) (w:World) (Q:Value→World→Prop) (h:W.zC t iA to most w Q):aO Tryz.prog F.zC #[.pointer t, .slice iA.a iA.len iA.cap, .slice to.a to.len to.cap, .int .i64 most] w Q:=okF A.zC Tryz.func23 (by kernel_rfl) (by kernel_rfl) h
def W.vX (c:Option Addr) (s:Option Addr) (gen:Int) (root:Int) (bn:Int) (w:World) (Q:Value→World→Prop):Prop:=c0 (fun dB:Bool→World→Prop=>aA (((((Option.isNone c)||(Option.isNone s))||(decide
 (bn<0)))||(decide (bn>12)))||(decide (root<0))) (dB true w) (∃cW:Addr,c=some cW∧∃hO:Option Addr,w.cell? cW=some (.pointer hO)∧aV F.AG #[.pointer hO] w fun n6 bp=>dB (decide (root≥n6)) bp))
 (fun (k4:Bool) bS=>aA (k4||(!((root==0)==(bn==0)))) (Q (.tuple #[.pointer none, .int .i64 1]) bS) (ay (bS.alloc (.cells #[.pointer c, .pointer s, .int .u64 gen, .int .i64 root, .int .i64 bn] ah.FH)) fun bY=>Q
 (.tuple #[.pointer (some (ai bS)), .int .i64 0]) bY))
def A.vX:bI:=(.s .r (.s (.s (.gi [.run, .run, .run, .pure 2, .run, .run, .run, .pure 2, .run, .run, .run, .pure 2, .run, .run, .run, .pure 2, .run, .run, .run, .split 7, .run, .run, .run, .run, .run, .run, .run, .run, .pure 5])
 (.c (.s .r .l) .l)) (.s .r .l)))
theorem W.arB (c:Option Addr) (s:Option Addr) (gen:Int) (root:Int) (bn:Int) (w:World) (Q:Value→World→Prop) (h:W.vX c s gen root bn w Q):aO Tryz.prog F.vX #[.pointer c, .pointer s, .int .u64 gen, .int .i64 root, .int .i64 bn] w Q:=okF A.vX Tryz.func25 (by kernel_rfl) (by kernel_rfl) h
def W.BC (t:Option Addr) (key:aa) (val:aa) (w:World) (Q:Value→World→Prop):Prop:=c0 (fun dB:Bool→World→Prop=>aA (Option.isNone t) (dB true w) (bd F.tp #[.slice key.a key.len key.cap] w fun e7 aw
 =>dB (!e7) aw)) (fun (iu:Bool) bf=>aA (iu||(decide ((val.len:Int)>24))) (Q (.int .i64 1) bf) (ay (bf.drew) fun a7=>∃W0:Nat→Prop,∃a9:Addr,t=some a9∧¬W0 (a9.add 1).block∧∃B5:Option Addr,a7.cell? (a9.add 1)=
 some (.pointer B5)∧∃g2:Addr,t=some g2∧¬W0 (g2.add 4).block∧bK a7 (g2.add 4) fun n12=>aV F.y7 #[.pointer B5] a7 fun n15 bZ=>ao W0 a7 bZ∧aA (decide (n15<(aD ((aD (2*n12))+3)))) (Q (.int .i64 2)
 bZ) (gk F.y_ #[.pointer t, .slice key.a key.len key.cap] bZ fun js n19 cV=>aA (n19 !=0) (Q (.int .i64 n19) cV) (ay (cV.alloc dx) fun cw=>c2 cw (ai cV) [.bool true, .slice none 0 0, .slice none 0 0, .slice none
 0 0]∧(4:Nat)=4∧ay (setCells cw (ai cV) 0 [.bool true, .slice none 0 0, .slice none 0 0, .slice none 0 0]) fun ep=>c0 (fun QP:World→Prop=>aA (decide ((js.len:Int)>0)) (∃a23:Addr,js.a=some a23∧((0:Int)≤(aD
 ((js.len:Int)-1))∧(aD ((js.len:Int)-1))<(js.len:Int))∧bV ep ((a23.add (Int.toNat (aD ((js.len:Int)-1))*6)).add 1) fun wm=>aq ep (((a23.add (Int.toNat (aD ((js.len:Int)-1))*6)).add 1).add 1) fun ko=>aq ep
 (((a23.add (Int.toNat (aD ((js.len:Int)-1))*6)).add 1).add 2) fun hE=>aq ep (((a23.add (Int.toNat (aD ((js.len:Int)-1))*6)).add 1).add 3) fun dM=>Lh ep cV wm ko hE dM QP) (QP ep)) (fun fG=>bV fG (ai cV) fun
 W1=>aq fG (Addr.add (ai cV) 1) fun im=>aq fG (Addr.add (ai cV) 2) fun dh=>aq fG (Addr.add (ai cV) 3) fun jd=>fD F.yJ #[.agg #[.bool W1, .slice im.a im.len im.cap, .slice dh.a dh.len dh.cap, .slice jd.a
 jd.len jd.cap], .slice key.a key.len key.cap, .slice val.a val.len val.cap] fG fun Jp kp ei fY W2 e4=>ay (e4.alloc dx) fun dy=>c2 dy (ai e4) [.bool Jp, .slice kp.a kp.len kp.cap, .slice ei.a ei.len ei.cap,
 .slice fY.a fY.len fY.cap]∧(4:Nat)=4∧ay (setCells dy (ai e4) 0 [.bool Jp, .slice kp.a kp.len kp.cap, .slice ei.a ei.len ei.cap, .slice fY.a fY.len fY.cap]) fun gN=>aA (!W2) (Q (.int .i64 4) gN) (bV gN (ai e4)
 fun pZ=>aq gN (Addr.add (ai e4) 1) fun ja=>aq gN (Addr.add (ai e4) 2) fun iN=>aq gN (Addr.add (ai e4) 3) fun mO=>aV F.xQ #[.pointer t, .slice js.a js.len js.cap, .agg #[.bool pZ, .slice ja.a ja.len
 ja.cap, .slice iN.a iN.len iN.cap, .slice mO.a mO.len mO.cap]] gN fun atT dq=>Q (.int .i64 atT) dq))))))
def A.BC:bI:=(.s .r (.s (.df (.s (.gi [.run, .run, .run, .split 3, .run, .run, .run, .run, .pure 3]) (.c (.s .r .l) (.s (.eH 11 true ⟨[0,1,2,4,8,0,32,64,128,256,512,1040,2064],[0,1,2,4,8,0,32,64,128,
 256,512,1040,2048]⟩ [67108864,134217728,268435456,536870912,1073741824,2147483648,4294967296,8589934592,17179869184,34359738368,68719476736,137438953472,33554432] [1,67108864,134217728,268435456,536870912,1,2147483648,
 4294967296,8589934592,17179869184,34359738368,69793218560,137438953472] (.take 0 (.take 1 (.take 2 (.take 3 (.take 5 (.take 6 (.take 7 (.take 8 (.take 9 (.take 10 (.cP 4 (.tail [.run, .run]))))))))))))) (.c (.s .r .l) .l))))) (.s .r
 (.s bc (.s .r (.s (.kK [] [0,1,2,7,9] (.s .r (.c .r .l))) g2))))))
theorem W.apy (t:Option Addr) (key:aa) (val:aa) (w:World) (Q:Value→World→Prop) (h:W.BC t key val w Q):aO Tryz.prog F.BC #[.pointer t, .slice key.a key.len key.cap, .slice val.a val.len val.cap] w Q:=okF A.BC Tryz.func26 (by kernel_rfl) (by kernel_rfl) h
def W.Dq (s:Option Addr) (w:World) (Q:Value→World→Prop):Prop:=aA (Option.isNone s) (Q (.slice none 0 0) w) (∃bc:Addr,s=some bc∧bK w bc fun db=>∃ (j_:aa→Int→World→Prop) (mP:aa→Int→World→
 Nat),j_ ⟨none,0,0⟩ 0 w∧∀ (bH:aa) (n6:Int) (a7:World),j_ bH n6 a7→aA (decide (n6<db)) (c0 (fun zr:aa→World→Prop=>∃a9:Addr,s=some a9∧aq a7 (a9.add 1) fun fi=>bd F.ta #[.slice fi.a fi.len
 fi.cap, .int .i64 n6] a7 fun tw cf=>aA tw (ay (cf.alloc (.cells #[.int .i64 n6] ah.int)) fun cZ=>∃eQ:aa,∃cV:World,Sem.run Tryz.prog (Builtin.append_ #[ah.ef,ah.ef] ah.ef #[.slice bH.a bH.len bH.cap, .slice
 (some (ai cf)) 1 1]) cZ= .ok (.slice eQ.a eQ.len eQ.cap) cV∧zr eQ cV) (zr bH cf)) (fun (gx:aa) eP=>j_ gx (aD (n6+1)) eP∧mP gx (aD (n6+1)) eP<mP bH n6 a7)) (Q (.slice bH.a bH.len bH.cap) a7))
def A.Dq:bI:=(.s .r (.s bc (.s .r (.s (.s .r (.df (.loop [(3, .slice),(11,(.int .i64))] [0,10] (.s .r (.s (.c .l .l) (.s (.kK [(3, .slice)] [0,10,11] (.df (.s .r (.s .r (.c .r .l))))) .r)))))) (.s .r .l)))))
theorem W.aml (s:Option Addr) (w:World) (Q:Value→World→Prop) (h:W.Dq s w Q):aO Tryz.prog F.Dq #[.pointer s] w Q:=okF A.Dq Tryz.func33 (by kernel_rfl) (by kernel_rfl) h
def W.CY (d:Option Addr) (i:Int) (w:World) (Q:Value→World→Prop):Prop:=bd F.AH #[.pointer d, .int .i64 i] w fun eM ag=>aA (!eM) (Q (.tuple #[.slice none 0 0, .int .i64 1]) ag) (∃a4:Addr,d=some
 a4∧bd F.AI #[.pointer (some a4), .int .i64 1] ag fun k4 bB=>aA k4 (Q (.tuple #[.slice none 0 0, .int .i64 3]) bB) (Zx F.CX #[.pointer d, .int .i64 i] bB fun jy bS=>ay (bS.alloc pD) fun cf=>c2 cf (ai
 bS) (Array.toList jy)∧Array.size jy=256∧ay (setCells cf (ai bS) 0 (Array.toList jy)) fun cy=>Q (.tuple #[.slice (bh (some (ai bS)) 1 0 256) (256-0) (256-0), .int .i64 0]) cy))
def A.CY:bI:=lQ
theorem W.akE (d:Option Addr) (i:Int) (w:World) (Q:Value→World→Prop) (h:W.CY d i w Q):aO Tryz.prog F.CY #[.pointer d, .int .i64 i] w Q:=okF A.CY Tryz.func34 (by kernel_rfl) (by kernel_rfl) h
def W.BH (t:Option Addr) (w:World) (Q:Value→World→Prop):Prop:=aA (Option.isNone t) (Q (.tuple #[.int .i64 0, .int .i64 0]) w) (ay (w.drew) fun ag=>∃cW:Addr,t=some cW∧¬False∧bK ag (cW.add 3) fun bm=>∃
 a4:Addr,t=some a4∧¬False∧bK ag (a4.add 4) fun n5=>Q (.tuple #[.int .i64 bm, .int .i64 n5]) ag)
def A.BH:bI:=(.s .r (.s bc (.s (.eH 9 false ⟨[0,1,2,4,0,16,32,64,15,511],[0,1,2,4,0,16,32,64,8,128]⟩ [64,128,256,512,1024,2048,4096,8192,4,8] [1,64,128,256,1,1024,2048,4096,512,8192]
 (.take 0 (.take 1 (.take 2 (.take 3 (.take 4 (.take 5 (.take 6 (.take 7 (.take 8 (.tail [.run]))))))))))) .l)))
theorem W.aqz (t:Option Addr) (w:World) (Q:Value→World→Prop) (h:W.BH t w Q):aO Tryz.prog F.BH #[.pointer t] w Q:=okF A.BH Tryz.func36 (by kernel_rfl) (by kernel_rfl) h
def W.C3 (f:Option Addr) (w:World) (Q:Value→World→Prop):Prop:=∃ (fP:Int→World→Prop) (ia:Int→World→Nat),fP 0 w∧∀ (bm:Int) (bp:World),fP bm bp→aA (decide (bm<4)) (∃a5:Addr,f=some a5∧
 ((0:Int)≤bm∧bm<((4:Nat):Int))∧st bp (Addr.add a5 (Int.toNat bm*1)) (.int .i64 (-1)) fun bf=>fP (aD (bm+1)) bf∧ia (aD (bm+1)) bf<ia bm bp) (Q (.tuple #[]) bp)
def A.C3:bI:=(.s .r (.df (.loop [(3,(.int .i64))] [0] cW)))
theorem W.akP (f:Option Addr) (w:World) (Q:Value→World→Prop) (h:W.C3 f w Q):aO Tryz.prog F.C3 #[.pointer f] w Q:=okF A.C3 Tryz.func39 (by kernel_rfl) (by kernel_rfl) h
def W.AH (d:Option Addr) (i:Int) (w:World) (Q:Value→World→Prop):Prop:=c0 (fun dB:Bool→World→Prop=>aA ((!(Option.isNone d))&&(decide (i≥0))) (∃cW:Addr,d=some cW∧aq w (cW.add 4) fun b1=>dB
 (decide (i<(b1.len:Int))) w) (dB false w)) (fun (e7:Bool) bB=>Q (.bool e7) bB)
def A.AH:bI:=g0
theorem W.akw (d:Option Addr) (i:Int) (w:World) (Q:Value→World→Prop) (h:W.AH d i w Q):aO Tryz.prog F.AH #[.pointer d, .int .i64 i] w Q:=okF A.AH Tryz.func43 (by kernel_rfl) (by kernel_rfl) h
def W.AI (f:Option Addr) (sR:Int) (w:World) (Q:Value→World→Prop):Prop:=∃bc:Addr,f=some bc∧((0:Int)≤sR∧sR<((4:Nat):Int))∧bK w (Addr.add bc (Int.toNat sR*1)) fun db=>aA (db==
 (-1)) (Q (.bool false) w) (aA (db==0) (∃a3:Addr,f=some a3∧((0:Int)≤sR∧sR<((4:Nat):Int))∧st w (Addr.add a3 (Int.toNat sR*1)) (.int .i64 (-1)) fun bp=>Q (.bool true) bp) (ay (w.drew) fun bB=>∃g0:Addr,f
 =some g0∧((0:Int)≤sR∧sR<((4:Nat):Int))∧¬False∧bK bB (Addr.add g0 (Int.toNat sR*1)) fun n7=>∃ir:Addr,f=some ir∧((0:Int)≤sR∧sR<((4:Nat):Int))∧st bB (Addr.add ir (Int.toNat sR*1))
 (.int .i64 (aD (n7-1))) fun bY=>Q (.bool false) bY))
def A.AI:bI:=(.s .r (.s (.s .r (.df (.s .r (.c (.s .r .l) (.s .r jn))))) (.s (.eH 7 false ⟨[0,0,1,6,8,16,1,127,191],[0,0,1,6,8,16,1,66,160]⟩ [262144,524288,1048576,2097152,4194304,8388608,16777216,
 33554432,0] [1,2,262144,1572864,2097152,4194304,262144,17301504,41943040] (.take 0 (.take 1 (.take 2 (.take 3 (.take 4 (.take 5 (.take 6 (.tail [.run, .run]))))))))) (.s .r .l))))
theorem W.aky (f:Option Addr) (sR:Int) (w:World) (Q:Value→World→Prop) (h:W.AI f sR w Q):aO Tryz.prog F.AI #[.pointer f, .int .i64 sR] w Q:=okF A.AI Tryz.func44 (by kernel_rfl) (by kernel_rfl) h
def W.AG (d:Option Addr) (w:World) (Q:Value→World→Prop):Prop:=aA (Option.isNone d) (Q (.int .i64 0) w) (∃bc:Addr,d=some bc∧aq w (bc.add 4) fun s2=>Q (.int .i64 (s2.len:Int)) w)
def A.AG:bI:=g2
theorem W.akv (d:Option Addr) (w:World) (Q:Value→World→Prop) (h:W.AG d w Q):aO Tryz.prog F.AG #[.pointer d] w Q:=okF A.AG Tryz.func45 (by kernel_rfl) (by kernel_rfl) h
def W.tp (kc:aa) (w:World) (Q:Value→World→Prop):Prop:=Q (.bool ((decide ((kc.len:Int)≥1))&&(decide ((kc.len:Int)≤24)))) w
def A.tp:bI:=a5
theorem W.apx (kc:aa) (w:World) (Q:Value→World→Prop) (h:W.tp kc w Q):aO Tryz.prog F.tp #[.slice kc.a kc.len kc.cap] w Q:=okF A.tp Tryz.func57 (by kernel_rfl) (by kernel_rfl) h
def W.y_ (t:Option Addr) (key:aa) (w:World) (Q:Value→World→Prop):Prop:=∃bc:Addr,t=some bc∧bK w (bc.add 3) fun db=>∃a3:Addr,t=some a3∧bK w (a3.add 4) fun fI=>∃ (x_:aa→Int→Int→World→
 Prop) (Ew:aa→Int→Int→World→Nat),x_ ⟨none,0,0⟩ db fI w∧∀ (hC:aa) (n8:Int) (n9:Int) (bR:World),x_ hC n8 n9 bR→aA (decide (n9>0)) (uk F.sw #[.pointer t, .int .i64 n8, .bool (n9==1)] bR fun tw dA
 eQ dd n17 cf=>ay (cf.alloc dx) fun eP=>c2 eP (ai cf) [.bool tw, .slice dA.a dA.len dA.cap, .slice eQ.a eQ.len eQ.cap, .slice dd.a dd.len dd.cap]∧(4:Nat)=4∧ay (setCells eP (ai cf) 0 [.bool tw, .slice
 dA.a dA.len dA.cap, .slice eQ.a eQ.len eQ.cap, .slice dd.a dd.len dd.cap]) fun dj=>aA (n17 !=0) (Q (.tuple #[.slice none 0 0, .int .i64 n17]) dj) (bV dj (ai cf) fun q8=>aq dj (Addr.add (ai cf) 1) fun dV=>aq dj
 (Addr.add (ai cf) 2) fun e5=>aq dj (Addr.add (ai cf) 3) fun eA=>∃Dx:Array Value,Sem.run Tryz.prog (Instr.build ah.uq #[(0, .int .i64 n8),(1, .agg #[.bool q8, .slice dV.a dV.len dV.cap, .slice e5.a e5.len e5.cap,
 .slice eA.a eA.len eA.cap])]) dj= .ok (.agg Dx) dj∧ay (dj.alloc (.cells #[.int .i64 0, .bool false, .slice none 0 0, .slice none 0 0, .slice none 0 0, .int .i64 0] ah.uq)) fun gd=>c2 gd (ai dj) (Array.toList Dx)
 ∧Array.size Dx=6∧ay (setCells gd (ai dj) 0 (Array.toList Dx)) fun cu=>c0 (fun tB:Int→World→Prop=>aA (decide (n9>1)) (bV cu (ai cf) fun zA=>aq cu (Addr.add (ai cf) 1) fun ih=>aq cu (Addr.add (ai cf) 2) fun
 ic=>aq cu (Addr.add (ai cf) 3) fun im=>aV F.vl #[.agg #[.bool zA, .slice ih.a ih.len ih.cap, .slice ic.a ic.len ic.cap, .slice im.a im.len im.cap], .slice key.a key.len key.cap] cu fun n34 nv=>st nv (Addr.add
 (ai dj) 5) (.int .i64 n34) fun gV=>aq gV (Addr.add (ai cf) 3) fun jS=>bK gV (Addr.add (ai dj) 5) fun n37=>∃B6:Addr,jS.a=some B6∧a6 n37 jS.len∧bK gV (B6.add (Int.toNat n37*1)) fun n39=>tB n39 gV) (tB n8
 cu)) (fun (n40:Int) dy=>∃aft:List Value,eK dy (ai dj) 0 6=some aft∧∃h5:aa,∃jo:World,Sem.run Tryz.prog (Instr.buildSlice ah.FM 1 #[(0, .agg aft.toArray)]) dy= .ok (.slice h5.a h5.len h5.cap) jo
 ∧∃iN:aa,∃h8:World,Sem.run Tryz.prog (Builtin.append_ #[ah.FM,ah.FM] ah.FM #[.slice hC.a hC.len hC.cap, .slice h5.a h5.len h5.cap]) jo= .ok (.slice iN.a iN.len iN.cap) h8∧x_ iN n40 (aD
 (n9-1)) h8∧Ew iN n40 (aD (n9-1)) h8<Ew hC n8 n9 bR))) (Q (.tuple #[.slice hC.a hC.len hC.cap, .int .i64 0]) bR)
def A.y_:bI:=(.s .r (.s .r (.s .r (.s (.s .r (.df (.loop [(6, .slice),(7,(.int .i64)),(8,(.int .i64))] [0,1] (.s (.s .r (.c .l .l)) (.s (.df (.s .r (.s bc (.s .r (.s (.kK [(7,(.int .i64))] [0,1,6,8,11] (.s .r (.c
 (.s .r .r) .l))) .r))))) .r))))) (.s .r .l)))))
theorem W.amI (t:Option Addr) (key:aa) (w:World) (Q:Value→World→Prop) (h:W.y_ t key w Q):aO Tryz.prog F.y_ #[.pointer t, .slice key.a key.len key.cap] w Q:=okF A.y_ Tryz.func58 (by kernel_rfl) (by kernel_rfl) h
def W.yF (cH:Bool) (bq:aa) (br:aa) (bt:aa) (key:aa) (w:World) (Q:Value→World→Prop):Prop:=ay (w.alloc (.cells #[.bool cH, .slice bq.a bq.len bq.cap, .slice br.a br.len
 br.cap, .slice bt.a bt.len bt.cap] ah.cO)) fun ag=>bV ag (ai w) fun cI=>aq ag (Addr.add (ai w) 1) fun b1=>aq ag (Addr.add (ai w) 2) fun cN=>aq ag (Addr.add (ai w) 3) fun bH=>dL F.rB #[.agg #[.bool cI,
 .slice b1.a b1.len b1.cap, .slice cN.a cN.len cN.cap, .slice bH.a bH.len bH.cap], .slice key.a key.len key.cap] ag fun n8 jc bf=>Q (.tuple #[.int .i64 n8, .bool jc]) bf
def A.yF:bI:=(.s .r (.s .r .l))
theorem W.ajI (cH:Bool) (bq:aa) (br:aa) (bt:aa) (key:aa) (w:World) (Q:Value→World→Prop) (h:W.yF cH bq br bt key w Q):aO Tryz.prog F.yF #[.agg #[.bool cH, .slice bq.a bq.len bq.cap, .slice br.a br.len br.cap, .slice bt.a bt.len bt.cap], .slice key.a key.len key.cap] w Q:=okF A.yF Tryz.func59 (by kernel_rfl) (by kernel_rfl) h
def W.yM (cH:Bool) (bq:aa) (br:aa) (bt:aa) (key:aa) (w:World) (Q:Value→World→Prop):Prop:=ay (w.alloc (.cells #[.bool cH, .slice bq.a bq.len bq.cap, .slice br.a br.len
 br.cap, .slice bt.a bt.len bt.cap] ah.cO)) fun ag=>ay (ag.alloc dx) fun aw=>bV aw (ai w) fun eM=>aq aw (Addr.add (ai w) 1) fun cN=>aq aw (Addr.add (ai w) 2) fun bH=>aq aw (Addr.add (ai w) 3) fun cK=>dL
 F.rB #[.agg #[.bool eM, .slice cN.a cN.len cN.cap, .slice bH.a bH.len bH.cap, .slice cK.a cK.len cK.cap], .slice key.a key.len key.cap] aw fun n9 nZ a7=>bV a7 (ai w) fun r2=>c0 (fun p2:Bool→World→Prop=>HA r2 p2 a7
 w) (fun (q8:Bool) ep=>aA (q8||(!nZ)) (c2 ep (ai ag) [.bool false, .slice none 0 0, .slice none 0 0, .slice none 0 0]∧(4:Nat)=4∧ay (setCells ep (ai ag) 0 [.bool false, .slice none 0 0, .slice none 0 0, .slice none 0
 0]) fun dJ=>rC dJ ag Q) (bV ep (ai w) fun atU=>aq ep (Addr.add (ai w) 1) fun e9=>aq ep (Addr.add (ai w) 2) fun ih=>aq ep (Addr.add (ai w) 3) fun ic=>jy F.fK #[.agg #[.bool atU, .slice e9.a e9.len e9.cap, .slice
 ih.a ih.len ih.cap, .slice ic.a ic.len ic.cap]] ep fun Ex dY fV jS gb=>ay (gb.alloc dx) fun lu=>c2 lu (ai gb) [.bool Ex, .slice dY.a dY.len dY.cap, .slice fV.a fV.len fV.cap, .slice jS.a jS.len jS.cap]∧
 (4:Nat)=4∧ay (setCells lu (ai gb) 0 [.bool Ex, .slice dY.a dY.len dY.cap, .slice fV.a fV.len fV.cap, .slice jS.a jS.len jS.cap]) fun jR=>aq jR (Addr.add (ai gb) 1) fun fY=>dK F.yD
 #[.slice fY.a fY.len fY.cap, .int .i64 n9, .int .i64 (aD (n9+1))] jR fun m3 qZ=>st qZ (Addr.add (ai gb) 1) (.slice m3.a m3.len m3.cap) fun jr=>aq jr (Addr.add (ai gb) 2) fun ja=>dK F.yD
 #[.slice ja.a ja.len ja.cap, .int .i64 n9, .int .i64 (aD (n9+1))] jr fun mA j6=>st j6 (Addr.add (ai gb) 2) (.slice mA.a mA.len mA.cap) fun zQ=>e_ zQ gb ag Q))
def A.yM:bI:=(.s .r (.s .r (.s (.s (.gi [.run, .run, .run, .run, .split 3, .run, .run, .run, .run, .pure 2]) (.c (.s .r .l) .l)) (.s .r a4))))
theorem W.ajY (cH:Bool) (bq:aa) (br:aa) (bt:aa) (key:aa) (w:World) (Q:Value→World→Prop) (h:W.yM cH bq br bt key w Q):aO Tryz.prog F.yM #[.agg #[.bool cH, .slice bq.a bq.len bq.cap, .slice br.a br.len br.cap, .slice bt.a bt.len bt.cap], .slice key.a key.len key.cap] w Q:=okF A.yM Tryz.func60 (by kernel_rfl) (by kernel_rfl) h
def W.xQ (t:Option Addr) (mv:aa) (uQ:Bool) (n3:aa) (n4:aa) (n_:aa) (w:World) (Q:Value→World→Prop):Prop:=ay (w.alloc (.cells #[.bool uQ, .slice n3.a n3.len
 n3.cap, .slice n4.a n4.len n4.cap, .slice n_.a n_.len n_.cap] ah.cO)) fun ag=>ay (ag.alloc (.cells #[.int .i64 0] ah.atM)) fun aw=>ay (aw.drew) fun aS=>∃mQ:Nat→Prop,∃
 a5:Addr,t=some a5∧¬mQ (a5.add 1).block∧∃m7:Option Addr,aS.cell? (a5.add 1)=some (.pointer m7)∧∃jn:Addr,t=some jn∧¬mQ (jn.add 4).block∧bK aS (jn.add 4) fun n8=>aV F.y7 #[.pointer m7] aS fun n11 bY
 =>ao mQ aS bY∧aA (decide (n11<(aD ((aD (2*n8))+3)))) (st bY (ai ag) (.int .i64 2) fun cy=>bK cy (ai ag) fun n13=>Q (.int .i64 n13) cy) (ay (bY.alloc (.cells #[.pointer t, .slice none 0 0, .slice none 0 0] ah.aan))
 fun cZ=>ay (cZ.alloc (.cells #[.pointer none] ah.atN)) fun fg=>st fg (ai cZ) (.pointer (some (ai bY))) fun cV=>∃Ey:Option Addr,cV.cell? (ai cZ)=some (.pointer Ey)∧bV cV (ai w) fun tG=>aq cV (Addr.add
 (ai w) 1) fun fQ=>aq cV (Addr.add (ai w) 2) fun fy=>aq cV (Addr.add (ai w) 3) fun dV=>Iw F.xO #[.pointer Ey, .slice mv.a mv.len mv.cap, .agg #[.bool tG, .slice fQ.a fQ.len fQ.cap, .slice fy.a fy.len
 fy.cap, .slice dV.a dV.len dV.cap]] cV fun n24 n25 n26 dJ=>st dJ (ai ag) (.int .i64 n26) fun mY=>bK mY (ai ag) fun n28=>aA (n28 !=0) (bK mY (ai ag) fun n29=>st mY (ai ag) (.int .i64 n29) fun fB=>Jn Tryz.prog
 F.zw #[.pointer (some (ai ag)), .pointer (some (ai cZ))] fB fun gb=>bK gb (ai ag) fun n32=>Q (.int .i64 n32) gb) (ay (mY.drew) fun e8=>¬False∧∃MG:Option Addr,e8.cell? (ai cZ)=some (.pointer MG)∧¬
 False∧∃afu:Option Addr,e8.cell? (ai cZ)=some (.pointer afu)∧∃a36:Addr,afu=some a36∧¬False∧aq e8 (a36.add 2) fun kp=>bA F.Bn #[.pointer MG, .slice kp.a kp.len kp.cap] e8 fun jR=>∃MH:Addr,
 t=some MH∧st jR (MH.add 3) (.int .i64 n24) fun dy=>∃MI:Addr,t=some MI∧st dy (MI.add 4) (.int .i64 n25) fun jr=>st jr (ai ag) (.int .i64 0) fun jo=>Jn Tryz.prog F.zw #[.pointer (some (ai ag)),
 .pointer (some (ai cZ))] jo fun j6=>bK j6 (ai ag) fun W3=>Q (.int .i64 W3) j6))
def A.xQ:bI:=(.s .r (.s (.s (.eH 11 true ⟨[0,1,2,4,8,0,32,64,128,256,512,1040],[0,1,2,4,8,0,32,64,128,256,512,1040]⟩ [1024,2048,4096,8192,16384,32768,65536,131072,262144,524288,1048576,
 2097152] [1,1024,2048,4096,8192,1,32768,65536,131072,262144,524288,1064960] (.take 0 (.take 1 (.take 2 (.take 3 (.take 5 (.take 6 (.take 7 (.take 8 (.take 9 (.take 10 (.cP 4 (.tail [.run]))))))))))))) (.c (.s .r .l) .l)) (.s .r
 (.s .l (.s .r (.s bc (.s (.eH 5 false ⟨[0,0,2,4,8,17],[0,0,2,4,8,17]⟩ [137438953472,274877906944,549755813888,1099511627776,2199023255552,4398046511104] [128,128,274877906944,549755813888,1099511627776,2336462209024]
 (.take 0 (.take 1 (.take 2 (.take 3 (.take 4 (.tail [.run]))))))) (.s .r (.s .r .l)))))))))
theorem W.atV (t:Option Addr) (mv:aa) (uQ:Bool) (n3:aa) (n4:aa) (n_:aa) (w:World) (Q:Value→World→Prop):W.xQ t mv uQ n3 n4 n_ w Q=WN Tryz.prog aI A.xQ Tryz.f61 [.pointer t, .slice mv.a mv.len mv.cap, .agg #[.bool uQ, .slice n3.a n3.len n3.cap, .slice n4.a n4.len n4.cap, .slice n_.a n_.len n_.cap]] w Q:=by kernel_rfl
theorem W.ao6 (t:Option Addr) (mv:aa) (uQ:Bool) (n3:aa) (n4:aa) (n_:aa) (w:World) (Q:Value→World→Prop) (h:W.xQ t mv uQ n3 n4 n_ w Q):Calls Tryz.prog F.xQ #[.pointer t, .slice mv.a mv.len mv.cap, .agg #[.bool uQ, .slice n3.a n3.len n3.cap, .slice n4.a n4.len n4.cap, .slice n_.a n_.len n_.cap]] w fun e ag=>∃v,e= .returned v∧Q v ag:=
  atE WS Tryz.func61 (by kernel_rfl) (Eq.mp (W.atV t mv uQ n3 n4 n_ w Q) h)
def W.BG (t:Option Addr) (no:Int) (level:Int) (iA:aa) (f:r4) (w:World) (Q:Value→World→Prop):Prop:=uk F.sw #[.pointer t, .int .i64 no, .bool (level==1)] w fun eM cN bH cK n7 ag=>ay
 (ag.alloc dx) fun bS=>c2 bS (ai ag) [.bool eM, .slice cN.a cN.len cN.cap, .slice bH.a bH.len bH.cap, .slice cK.a cK.len cK.cap]∧(4:Nat)=4∧ay (setCells bS (ai ag) 0 [.bool eM, .slice cN.a cN.len cN.cap, .slice bH.a bH.len
 bH.cap, .slice cK.a cK.len cK.cap]) fun bY=>aA (n7 !=0) (Q (.tuple #[.bool false, .int .i64 n7]) bY) (bV bY (ai ag) fun nZ=>aq bY (Addr.add (ai ag) 1) fun dX=>aq bY (Addr.add (ai ag) 2) fun gP=>aq bY (Addr.add (ai ag) 3) fun gO
 =>tR Tryz.prog f.f∧Calls Tryz.prog f.f (f.pre++ #[.int .i64 no, .agg #[.bool nZ, .slice dX.a dX.len dX.cap, .slice gP.a gP.len gP.cap, .slice gO.a gO.len gO.cap]]++f.cap) bY fun WX cZ=>∃QW:Bool,WX= .returned
 (.bool QW)∧aA (!QW) (Q (.tuple #[.bool false, .int .i64 0]) cZ) (aA (level==1) (Q (.tuple #[.bool true, .int .i64 0]) cZ) (ay (cZ.drew) fun eV=>∃W4:Nat→Prop,¬W4 (Addr.add (ai ag) 3).block∧aq eV (Addr.add (ai ag) 3)
 fun fQ=>¬W4 ((ai ag):Addr).block∧bV eV (ai ag) fun q8=>aq eV (Addr.add (ai ag) 1) fun dV=>aq eV (Addr.add (ai ag) 2) fun e5=>aq eV (Addr.add (ai ag) 3) fun eA=>aV F.vl #[.agg #[.bool q8, .slice dV.a dV.len
 dV.cap, .slice e5.a e5.len e5.cap, .slice eA.a eA.len eA.cap], .slice iA.a iA.len iA.cap] eV fun n26 cD=>ao W4 eV cD∧((0:Int)≤n26∧n26≤(fQ.len:Int))∧∃ (W5:Int→World→Prop) (afv:Int→World→
 Nat),W5 0 cD∧∀ (n29:Int) (fB:World),W5 n29 fB→aA (decide (n29<(((fQ.len-(Int.toNat n26)):Nat):Int))) (∃nY:Addr,(bh fQ.a 1 (Int.toNat n26) fQ.cap)=some nY∧((0:Int)≤n29∧n29<(((fQ.len-(Int.toNat
 n26)):Nat):Int))∧bK fB (nY.add (Int.toNat n29*1)) fun n32=>IH F.BG #[.pointer t, .int .i64 n32, .int .i64 (aD (level-1)), .slice iA.a iA.len iA.cap, .func (.func f.f) f.pre f.cap] fB fun zT n36 e8
 =>aA ((n36 !=0)||(!zT)) (Q (.tuple #[.bool zT, .int .i64 n36]) e8) (W5 (aD (n29+1)) e8∧afv (aD (n29+1)) e8<afv n29 fB)) (Q (.tuple #[.bool true, .int .i64 0]) fB))))
def A.BG:bI:=(.s .r (.s .r (.s bc (.s bc (.s bc (.s (.s (.eH 8 true ⟨[0,1,0,0,12,18,32,0],[0,1,0,0,12,18,32,0]⟩ [68719476736,137438953472,274877906944,549755813888,1099511627776,2199023255552,
 4398046511104,8796093022208] [4096,68719476736,4096,8,824633720832,1236950581248,2199023255552,0] (.take 0 (.take 1 (.take 2 (.take 3 (.take 7 (.cP 4 (.take 5 (.take 6 .fin))))))))) (.df (.loop [(43,(.int .i64))] [0,2,3,4,41,
 42] (.s .r (.s (.c .l .l) (.s (.df (.s .r (.s .r iM))) .r)))))) (.s .r .l)))))))
theorem W.ap_ (t:Option Addr) (no:Int) (level:Int) (iA:aa) (f:r4) (w:World) (Q:Value→World→Prop) (h:W.BG t no level iA f w Q):aO Tryz.prog F.BG #[.pointer t, .int .i64 no, .int .i64 level, .slice iA.a iA.len iA.cap, .func (.func f.f) f.pre f.cap] w Q:=okF A.BG Tryz.func62 (by kernel_rfl) (by kernel_rfl) h
def W.xV (W6:Int) (cH:Bool) (bq:aa) (br:aa) (bt:aa) (x:Addr) (tH:Addr) (B7:Addr) (QX:Addr) (w:World) (Q:Value→World→Prop):Prop:=ay (w.alloc (.cells #[.bool cH, .slice
 bq.a bq.len bq.cap, .slice br.a br.len br.cap, .slice bt.a bt.len bt.cap] ah.cO)) fun ag=>aq ag (Addr.add (ai w) 1) fun s2=>∃ (j_:Int→World→Prop) (mP:Int→World→Nat),j_ 0 ag∧∀ (n5
 :Int) (bf:World),j_ n5 bf→aA (decide (n5<(s2.len:Int))) (∃jn:Addr,s2.a=some jn∧a6 n5 s2.len∧aq bf (jn.add (Int.toNat n5*1)) fun ez=>aq bf x fun dn=>c0 (fun ya:Bool→World→Prop=>aA (decide ((dn.len:Int)>0))
 (aq bf x fun dX=>aV F.mX #[.slice ez.a ez.len ez.cap, .slice dX.a dX.len dX.cap] bf fun n14 cy=>ya (decide (n14≥0)) cy) (ya false bf)) (fun (vU:Bool) cV=>c0 (fun MJ:Bool→World→Prop=>aA vU (bV cV (ai
 w) fun tG=>MJ tG cV) (MJ false cV)) (fun (D4:Bool) cw=>aA D4 (Q (.bool false) cw) (c0 (fun MK:World→Prop=>bV cw (ai w) fun tx=>c0 (fun ML:Bool→World→Prop=>aA tx (aq cw tH fun ri=>aV F.mX
 #[.slice ez.a ez.len ez.cap, .slice ri.a ri.len ri.cap] cw fun n27 gd=>ML (decide (n27≥0)) gd) (ML false cw)) (fun (zA:Bool) fG=>aA zA (ay (fG.drew) fun fB=>∃QY:Nat→Prop,¬QY B7.block∧aq fB B7 fun dh=>
 ¬QY (Addr.add (ai w) 2).block∧aq fB (Addr.add (ai w) 2) fun jd=>∃Jq:Addr,jd.a=some Jq∧a6 n5 jd.len∧¬QY (Jq.add (Int.toNat n5*1)).block∧aq fB (Jq.add (Int.toNat n5*1)) fun fV=>∃afw:Array Value,(∀lu:
 World,Sem.run Tryz.prog (Instr.build ah.mf #[(0, .slice ez.a ez.len ez.cap),(1, .slice fV.a fV.len fV.cap)]) lu= .ok (.agg afw) lu)∧∃ei:aa,∃lM:World,Sem.run Tryz.prog (Instr.buildSlice ah.e0 1 #[(0, .agg
 afw)]) fB= .ok (.slice ei.a ei.len ei.cap) lM∧ao QY fB lM∧∃eF:aa,∃dy:World,Sem.run Tryz.prog (Builtin.append_ #[ah.e0,ah.e0] ah.e0 #[.slice dh.a dh.len dh.cap, .slice ei.a ei.len
 ei.cap]) lM= .ok (.slice eF.a eF.len eF.cap) dy∧(∃u:Value,dy.cell? B7=some u)∧dy.frozen? B7=false∧ay (dy.setCell B7 (.slice eF.a eF.len eF.cap)) fun gN=>MK gN) (MK fG))) (fun jr=>aq jr B7 fun ja=>
 bK jr QX fun W7=>aA ((ja.len:Int)==W7) (Q (.bool false) jr) (j_ (aD (n5+1)) jr∧mP (aD (n5+1)) jr<mP n5 bf)))))) (Q (.bool true) bf)
def A.xV:bI:=(.s .r (.s (.s .r (.df (.loop [(14,(.int .i64))] [2,3,4,5,7,12,13] (.s .r (.s (.c .l .l) (.s (.df (.s .r (.s (.s (.gi [.run, .run, .run, .run, .split 4, .run, .run, .run, .run, .run, .split 2]) (.c
 (.s .r .l) .l)) (.s (.kK [] [2,3,4,5,7,12,13,14] (.s (.gi [.run, .run, .run, .split 4]) (.c (.eH 9 true ⟨[0,0,0,4,0,24,32,66,128,257,1023],[0,0,0,4,0,24,32,66,128,257,512]⟩ [1099511627776,2199023255552,
 4398046511104,8796093022208,17592186044416,35184372088832,70368744177664,140737488355328,281474976710656,562949953421312,0] [16,1024,128,4398046511104,512,26388279066624,35184372088832,72567767433216,140737488355328,
 282574488338432,562949953421328] (.take 0 (.take 1 (.take 2 (.take 3 (.take 4 (.take 5 (.take 6 (.take 7 (.cP 8 (.tail [.run, .run]))))))))))) .l))) bc)))) .r)))))) (.s .r .l)))
theorem W.ap1 (W6:Int) (cH:Bool) (bq:aa) (br:aa) (bt:aa) (x:Addr) (tH:Addr) (B7:Addr) (QX:Addr) (w:World) (Q:Value→World→Prop) (h:W.xV W6 cH bq br bt x tH B7 QX w Q):aO Tryz.prog F.xV #[.int .i64 W6, .agg #[.bool cH, .slice bq.a bq.len bq.cap, .slice br.a br.len br.cap, .slice bt.a bt.len bt.cap], .pointer (some x), .pointer (some tH), .pointer (some B7), .pointer (some QX)] w Q:=okF A.xV Tryz.func63 (by kernel_rfl) (by kernel_rfl) h
def W.y3 (d:Option Addr) (aE:Int) (w:World) (Q:Value→World→Prop):Prop:=aA (((Option.isNone d)||(decide (aE<8)))||(decide (aE>64))) (Q (.tuple #[.pointer none, .int .i64 1]) w) (((0:Int)≤aE
 ∧aE≤aE∧aE≤yo∧((48:Nat):Int)*aE≤140737488355328)∧ay (w.alloc (.cells (pC Tryz.prog ah.rJ (Int.toNat aE)) ah.rJ)) fun ag=>ay (ag.alloc (.cells #[.pointer d, .slice (some (ai w))
 (Int.toNat aE) (Int.toNat aE), .int .i64 0] ah.ZF)) fun aw=>Q (.tuple #[.pointer (some (ai ag)), .int .i64 0]) aw)
def A.y3:bI:=(.s .r (.s (.s (.gi [.run, .run, .run, .pure 2, .run, .run, .run, .pure 2]) (.c (.s .r .l) .l)) (.s .r .l)))
theorem W.aly (d:Option Addr) (aE:Int) (w:World) (Q:Value→World→Prop) (h:W.y3 d aE w Q):aO Tryz.prog F.y3 #[.pointer d, .int .i64 aE] w Q:=okF A.y3 Tryz.func65 (by kernel_rfl) (by kernel_rfl) h
end
section
set_option maxRecDepth 100000
def W.y8 (n:Int) (first:Int) (w:World) (Q:Value→World→Prop):Prop:=bd F.Dr #[.int .i64 n] w fun eM ag=>aA (((!eM)||(decide (first<0)))||(decide (first>n))) (Q (.tuple #[.pointer none, .int .i64 1])
 ag) (aV F.Ds #[.int .i64 n] ag fun n6 bp=>((0:Int)≤n6∧n6≤n6∧n6≤yo∧((1:Nat):Int)*n6≤140737488355328)∧ay (bp.alloc (.cells (pC Tryz.prog ah.uint8 (Int.toNat n6)) ah.uint8)) fun a7=>ay (a7.alloc (.cells
 #[.int .i64 n, .slice (some (ai bp)) (Int.toNat n6) (Int.toNat n6), .slice none 0 0] ah.Df)) fun bS=>∃ (W8:Int→World→Prop) (afx:Int→World→Nat),W8 0 bS∧∀ (n11:Int) (cy:World),W8 n11 cy→aA (decide (n11<
 first)) (∃gG:Addr,(some (ai a7):Option Addr)=some gG∧aq cy (gG.add 1) fun dA=>bA F.AN #[.slice dA.a dA.len dA.cap, .int .i64 n11] cy fun fg=>W8 (aD (n11+1)) fg∧afx (aD (n11+1)) fg<afx n11 cy)
 (bA F.y6 #[.pointer (some (ai a7))] cy fun eV=>Q (.tuple #[.pointer (some (ai a7)), .int .i64 0]) eV))
def A.y8:bI:=(.s .r (.s (.s (.gi [.run, .run, .run, .run, .pure 2, .run, .run, .run, .pure 3]) (.c (.s .r .l) .l)) (.s .r (.s (.s .r (.df (.loop [(27,(.int .i64))] [6,26] cW))) (.s .r (.s .r .l))))))
theorem W.amt (n:Int) (first:Int) (w:World) (Q:Value→World→Prop) (h:W.y8 n first w Q):aO Tryz.prog F.y8 #[.int .i64 n, .int .i64 first] w Q:=okF A.y8 Tryz.func66 (by kernel_rfl) (by kernel_rfl) h
def W.y7 (s:Option Addr) (w:World) (Q:Value→World→Prop):Prop:=aA (Option.isNone s) (Q (.int .i64 0) w) (∃bc:Addr,s=some bc∧bK w bc fun db=>∃a3:Addr,s=some a3∧aq w (a3.add 1) fun cN=>∃ (x_:
 Int→Int→World→Prop) (Ew:Int→Int→World→Nat),x_ db 0 w∧∀ (n7:Int) (n8:Int) (bY:World),x_ n7 n8 bY→aA (decide (n8<(cN.len:Int))) (ay (bY.drew) fun bR=>∃MM:Nat→Prop,∃kZ:Addr,s=some kZ∧¬MM
 (kZ.add 1).block∧aq bR (kZ.add 1) fun gO=>∃lQ:Addr,gO.a=some lQ∧a6 n8 gO.len∧¬MM (lQ.add (Int.toNat n8*1)).block∧iE bR (lQ.add (Int.toNat n8*1)) fun n15=>∃p3:Addr,s=some p3∧¬MM (p3.add
 2).block∧aq bR (p3.add 2) fun gx=>∃mR:Addr,gx.a=some mR∧a6 n8 gx.len∧¬MM (mR.add (Int.toNat n8*1)).block∧iE bR (mR.add (Int.toNat n8*1)) fun n19=>aV F.Dn #[.int .u8 (Co .u8 n15 n19)] bR
 fun n22 cw=>ao MM bR cw∧x_ (aD (n7-n22)) (aD (n8+1)) cw∧Ew (aD (n7-n22)) (aD (n8+1)) cw<Ew n7 n8 bY) (Q (.int .i64 n7) bY))
def A.y7:bI:=(.s .r (.s bc (.s .r (.s (.s .r (.df (.loop [(3,(.int .i64)),(16,(.int .i64))] [0,15] (.s .r (.s (.c .l .l) (.s (.df (.s .r (.eH 17 true ⟨[0,0,2,4,8,0,48,64,0,256,512,1024,0,6144,8192,
 16512,32768,65537,262143],[0,0,2,4,8,0,48,64,0,256,512,1024,0,6144,8192,16512,32768,65537,131073]⟩ [524288,1048576,2097152,4194304,8388608,16777216,33554432,67108864,134217728,268435456,536870912,1073741824,
 2147483648,4294967296,8589934592,17179869184,34359738368,68719476736,8] [8,1,1048576,2097152,4194304,16,25165824,33554432,1,134217728,268435456,536870912,16,3221225472,4294967296,8657043456,17179869184,34360262656,
 68719476736] (.take 0 (.take 1 (.take 2 (.take 3 (.take 4 (.take 5 (.take 6 (.take 7 (.take 8 (.take 9 (.take 10 (.take 11 (.take 12 (.take 13 (.take 14 (.take 15 (.cP 16 (.tail [.run, .run]))))))))))))))))))))) .r)))))) (.s .r .l)))))
theorem W.amj (s:Option Addr) (w:World) (Q:Value→World→Prop) (h:W.y7 s w Q):aO Tryz.prog F.y7 #[.pointer s] w Q:=okF A.y7 Tryz.func67 (by kernel_rfl) (by kernel_rfl) h
def W.yJ (cH:Bool) (bq:aa) (br:aa) (bt:aa) (key:aa) (val:aa) (w:World) (Q:Value→World→Prop):Prop:=ay (w.alloc (.cells #[.bool cH, .slice bq.a bq.len bq.cap, .slice br.a
 br.len br.cap, .slice bt.a bt.len bt.cap] ah.cO)) fun ag=>ay (ag.alloc dx) fun aw=>bV aw (ai w) fun eM=>c0 (fun lH:Bool→World→Prop=>HA eM lH aw w) (fun (Ev:Bool) bZ=>c0 (fun afy:Bool→World
 →Prop=>aA Ev (afy true bZ) (bd F.vd #[.slice key.a key.len key.cap] bZ fun uP fg=>afy (!uP) fg)) (fun (tG:Bool) dj=>aA (tG||(decide ((val.len:Int)>24))) (c2 dj (ai ag) [.bool false, .slice none 0 0,
 .slice none 0 0, .slice none 0 0]∧(4:Nat)=4∧ay (setCells dj (ai ag) 0 [.bool false, .slice none 0 0, .slice none 0 0, .slice none 0 0]) fun cw=>rC cw ag Q) (bV dj (ai w) fun uF=>aq dj (Addr.add (ai w) 1) fun hE=>aq dj
 (Addr.add (ai w) 2) fun dM=>aq dj (Addr.add (ai w) 3) fun e9=>jy F.fK #[.agg #[.bool uF, .slice hE.a hE.len hE.cap, .slice dM.a dM.len dM.cap, .slice e9.a e9.len e9.cap]] dj fun QZ dh jd dY fG=>ay (fG.alloc
 dx) fun gV=>c2 gV (ai fG) [.bool QZ, .slice dh.a dh.len dh.cap, .slice jd.a jd.len jd.cap, .slice dY.a dY.len dY.cap]∧(4:Nat)=4∧ay (setCells gV (ai fG) 0 [.bool QZ, .slice dh.a dh.len dh.cap, .slice jd.a
 jd.len jd.cap, .slice dY.a dY.len dY.cap]) fun iz=>bV iz (ai w) fun sQ=>aq iz (Addr.add (ai w) 1) fun ei=>aq iz (Addr.add (ai w) 2) fun fY=>aq iz (Addr.add (ai w) 3) fun eF=>dL F.rB #[.agg #[.bool sQ, .slice
 ei.a ei.len ei.cap, .slice fY.a fY.len fY.cap, .slice eF.a eF.len eF.cap], .slice key.a key.len key.cap] iz fun Jr W9 dy=>aA W9 (ay (dy.drew) fun j6=>∃afz:Nat→Prop,¬afz (Addr.add (ai fG) 2).block∧aq j6
 (Addr.add (ai fG) 2) fun mA=>dK F.mm #[.slice val.a val.len val.cap] j6 fun gh zQ=>ao afz j6 zQ∧∃MN:Addr,mA.a=some MN∧a6 Jr mA.len∧st zQ (MN.add (Int.toNat Jr*1)) (.slice gh.a
 gh.len gh.cap) fun lN=>e_ lN fG ag Q) (ay (dy.drew) fun fL=>∃W_:Nat→Prop,¬W_ (Addr.add (ai fG) 1).block∧aq fL (Addr.add (ai fG) 1) fun nn=>dK F.mm #[.slice key.a key.len key.cap] fL fun
 gM qU=>ao W_ fL qU∧ay (qU.alloc (.cells #[.slice gM.a gM.len gM.cap] ah.cn)) fun ua=>ao W_ qU ua∧dK F.yB #[.slice nn.a nn.len nn.cap, .int .i64 Jr, .slice (some (ai qU)) 1 1]
 ua fun gm pK=>st pK (Addr.add (ai fG) 1) (.slice gm.a gm.len gm.cap) fun tn=>ay (tn.drew) fun gZ=>∃Xa:Nat→Prop,¬Xa (Addr.add (ai fG) 2).block∧aq gZ (Addr.add (ai fG) 2) fun jz=>dK
 F.mm #[.slice val.a val.len val.cap] gZ fun q_ lh=>ao Xa gZ lh∧ay (lh.alloc (.cells #[.slice q_.a q_.len q_.cap] ah.cn)) fun sn=>ao Xa lh sn∧dK F.yB
 #[.slice jz.a jz.len jz.cap, .int .i64 Jr, .slice (some (ai lh)) 1 1] sn fun np iW=>st iW (Addr.add (ai fG) 2) (.slice np.a np.len np.cap) fun s8=>e_ s8 fG ag Q))))
def A.yJ:bI:=(.s .r (.s (.s (.gi [.run, .run, .run, .run, .split 3, .run, .run, .run, .run, .split 3, .run, .run, .run, .run, .pure 3]) (.c (.s .r .l) .l)) (.s .r (.s .r (.s (.s .r (.c (.s (.eH 5 true ⟨[0,1,0,0,8,31,63],
 [0,1,0,0,8,6,48]⟩ [549755813888,1099511627776,2199023255552,4398046511104,8796093022208,17592186044416,0] [256,549755813888,512,4,4398046511104,3298534883328,26388279066624] (.take 0 (.take 1 (.take 2 (.take 3 (.cP 4
 (.tail [.run, .run]))))))) (.s .r .l)) .l)) (.s (.eH 6 true ⟨[0,1,0,0,8,16,54,127,255],[0,1,0,0,8,16,38,0,192]⟩ [70368744177664,140737488355328,281474976710656,562949953421312,1125899906842624,2251799813685248,
 4503599627370496,9007199254740992,0] [256,70368744177664,512,2,562949953421312,1125899906842624,2674012278751232,256,13510798882111488] (.take 0 (.take 1 (.take 2 (.take 3 (.cP 4 (.cP 5 (.tail [.run, .run, .run])))))))) (.s
 (.eH 6 true ⟨[0,1,0,0,8,16,54,127,255],[0,1,0,0,8,16,38,0,192]⟩ [18014398509481984,36028797018963968,72057594037927936,144115188075855872,288230376151711744,576460752303423488,1152921504606846976,
 2305843009213693952,0] [256,18014398509481984,512,4,144115188075855872,288230376151711744,684547143360315392,256,3458764513820540928] (.take 0 (.take 1 (.take 2 (.take 3 (.cP 4 (.cP 5 (.tail [.run, .run, .run])))))))) (.s .r
 .l))))))))
theorem W.ajO (cH:Bool) (bq:aa) (br:aa) (bt:aa) (key:aa) (val:aa) (w:World) (Q:Value→World→Prop) (h:W.yJ cH bq br bt key val w Q):aO Tryz.prog F.yJ #[.agg #[.bool cH, .slice bq.a bq.len bq.cap, .slice br.a br.len br.cap, .slice bt.a bt.len bt.cap], .slice key.a key.len key.cap, .slice val.a val.len val.cap] w Q:=okF A.yJ Tryz.func68 (by kernel_rfl) (by kernel_rfl) h
def W.y6 (s:Option Addr) (w:World) (Q:Value→World→Prop):Prop:=aA (!(Option.isNone s)) (∃bc:Addr,s=some bc∧aq w (bc.add 1) fun s2=>dK F.AO #[.slice s2.a s2.len s2.cap] w fun
 bH aS=>∃g0:Addr,s=some g0∧st aS (g0.add 2) (.slice bH.a bH.len bH.cap) fun a7=>Q (.tuple #[]) a7) (Q (.tuple #[]) w)
def A.y6:bI:=(.s .r (.c .r .l))
theorem W.ama (s:Option Addr) (w:World) (Q:Value→World→Prop) (h:W.y6 s w Q):aO Tryz.prog F.y6 #[.pointer s] w Q:=okF A.y6 Tryz.func74 (by kernel_rfl) (by kernel_rfl) h
def W.y1 (c:Option Addr) (no:Int) (w:World) (Q:Value→World→Prop):Prop:=aA (Option.isNone c) (Q (.pointer none) w) (∃bc:Addr,c=some bc∧aq w (bc.add 1) fun s2=>∃ (j_:Int→World→Prop) (mP:Int→
 World→Nat),j_ 0 w∧∀ (n5:Int) (bf:World),j_ n5 bf→aA (decide (n5<(s2.len:Int))) (∃jn:Addr,c=some jn∧aq bf (jn.add 1) fun ez=>∃a9:Addr,ez.a=some a9∧a6 n5 ez.len∧∃iM:Addr,(some (a9.add (Int.toNat n5*6))
 :Option Addr)=some iM∧bV bf iM fun r2=>c0 (fun p2:Bool→World→Prop=>aA r2 (∃gG:Addr,(some (a9.add (Int.toNat n5*6)):Option Addr)=some gG∧bK bf (gG.add 3) fun n14=>p2 (n14==no) bf) (p2 false bf)) (fun
 (vU:Bool) cV=>aA vU (Q (.pointer (some (a9.add (Int.toNat n5*6)))) cV) (j_ (aD (n5+1)) cV∧mP (aD (n5+1)) cV<mP n5 bf))) (Q (.pointer none) bf))
def A.y1:bI:=(.s .r (.s bc (.s (.s .r (.df (.loop [(14,(.int .i64))] [0,1,13] (.s .r (.s (.c .l .l) (.s (.df (.s .r (.s .r (.s (.gi [.run, .run, .run, .run, .run, .split 6]) (.c (.s .r .l) .l))))) .r)))))) (.s .r
 .l))))
theorem W.akS (c:Option Addr) (no:Int) (w:World) (Q:Value→World→Prop) (h:W.y1 c no w Q):aO Tryz.prog F.y1 #[.pointer c, .int .i64 no] w Q:=okF A.y1 Tryz.func76 (by kernel_rfl) (by kernel_rfl) h
def W.ta (s:aa) (no:Int) (w:World) (Q:Value→World→Prop):Prop:=(8:Int)≠0∧∃bc:Addr,s.a=some bc∧a6 (aD (Int.tdiv no 8)) s.len∧iE w (bc.add (Int.toNat (aD (Int.tdiv no 8))*1)) fun db=>(8:Int)≠0
 ∧(0:Int)≤(Int.tmod no 8)∧Q (.bool (((tP .u8 (Int.fdiv db (2^(min (Int.toNat (Int.tmod no 8)) 8))) 1):Int)==1)) w
def A.ta:bI:=(.s .r (.s .r .l))
theorem W.alL (s:aa) (no:Int) (w:World) (Q:Value→World→Prop) (h:W.ta s no w Q):aO Tryz.prog F.ta #[.slice s.a s.len s.cap, .int .i64 no] w Q:=okF A.ta Tryz.func78 (by kernel_rfl) (by kernel_rfl) h
def W.CX (d:Option Addr) (i:Int) (w:World) (Q:Value→World→Prop):Prop:=ay (w.alloc pD) fun ag=>∃cW:Addr,d=some cW∧∃q3:Option Nat,ag.cell? (cW.add 5)=some (.map q3)∧∃cN:aa,∃bB:World,
 Sem.run Tryz.prog (Instr.lookup ah.AF (.map q3) (.int .i64 i) false) ag= .ok (.slice cN.a cN.len cN.cap) bB∧aA (decide ((cN.len:Int)>0)) (∃g0:Addr,cN.a=some g0∧((0:Int)≤(aD ((cN.len:Int)-1))∧(aD
 ((cN.len:Int)-1))<(cN.len:Int))∧∃Jo:List Value,eK bB (g0.add (Int.toNat (aD ((cN.len:Int)-1))*256)) 0 256=some Jo∧SL bB w Jo Q) (∃iM:Addr,d=some iM∧aq bB (iM.add 4) fun dX=>Oz dX i bB 256 fun atW=>
 SL bB w atW Q)
def A.CX:bI:=(.s .r (.s (.s .r bc) (.s .r .l)))
theorem W.akA (d:Option Addr) (i:Int) (w:World) (Q:Value→World→Prop) (h:W.CX d i w Q):aO Tryz.prog F.CX #[.pointer d, .int .i64 i] w Q:=okF A.CX Tryz.func79 (by kernel_rfl) (by kernel_rfl) h
def W.D9 (t:Option Addr) (w:World) (Q:Value→World→Prop):Prop:=aA (Option.isNone t) (Q (.tuple #[.slice none 0 0, .int .i64 0, .int .i64 1]) w) (ay (w.alloc (.cells #[.pointer t, .slice none 0 0, .int .i64 0]
 ah.ac2)) fun ag=>c0 (fun dZ:World→Prop=>∃a3:Addr,t=some a3∧bK ag (a3.add 4) fun fI=>aA (decide (fI>0)) (ay (ag.drew) fun bB=>∃g0:Addr,t=some g0∧¬False∧bK bB (g0.add 3) fun n7=>∃ir:Addr,t=some
 ir∧¬False∧bK bB (ir.add 4) fun n9=>aV F.BI #[.pointer (some (ai w)), .int .i64 n7, .int .i64 n9, .slice none 0 0, .slice none 0 0] bB fun n12 bR=>aA (n12 !=0) (Q (.tuple #[.slice none 0 0, .int .i64 0, .int .i64
 n12]) bR) (dZ bR)) (dZ ag)) (fun bZ=>∃lQ:Addr,(some (ai w):Option Addr)=some lQ∧aq bZ (lQ.add 1) fun eQ=>bA F.acW #[.slice eQ.a eQ.len eQ.cap] bZ fun cV=>ay (cV.drew) fun eP=>∃pt:Addr,
 (some (ai w):Option Addr)=some pt∧¬False∧aq eP (pt.add 1) fun fy=>∃kC:Addr,(some (ai w):Option Addr)=some kC∧¬False∧bK eP (kC.add 2) fun n22=>Q (.tuple #[.slice fy.a fy.len fy.cap, .int .i64 n22, .int
 .i64 0]) eP))
def A.D9:bI:=(.s .r (.s bc (.s .r (.s (.kK [] [5] (.s .r (.c (.s (.eH 9 false ⟨[0,0,2,4,8,0,32,64,128,273,1023],[0,0,2,4,8,0,32,64,128,273,512]⟩ [131072,262144,524288,1048576,2097152,4194304,
 8388608,16777216,33554432,67108864,64] [32,1,262144,524288,1048576,1,4194304,8388608,16777216,35782656,67108864] (.take 0 (.take 1 (.take 2 (.take 3 (.take 4 (.take 5 (.take 6 (.take 7 (.take 8 (.tail [.run, .run])))))))))))
 bc) .l))) (.s .r (.s (.eH 9 false ⟨[0,1,2,4,0,16,32,64,15,511,1023],[0,1,2,4,0,16,32,64,8,128,0]⟩ [34359738368,68719476736,137438953472,274877906944,549755813888,1099511627776,2199023255552,4398046511104,4,8,
 16] [32,34359738368,68719476736,137438953472,32,549755813888,1099511627776,2199023255552,274877906944,4398046511104,0] (.take 0 (.take 1 (.take 2 (.take 3 (.take 4 (.take 5 (.take 6 (.take 7 (.take 8 (.tail [.run, .run])))))))))))
 .l))))))
theorem W.aq_ (t:Option Addr) (w:World) (Q:Value→World→Prop) (h:W.D9 t w Q):aO Tryz.prog F.D9 #[.pointer t] w Q:=okF A.D9 Tryz.func80 (by kernel_rfl) (by kernel_rfl) h
def W.Dm (s:Option Addr) (w:World) (Q:Value→World→Prop):Prop:=aA (!(Option.isNone s)) (∃bc:Addr,s=some bc∧aq w (bc.add 2) fun s2=>dK F.AO #[.slice s2.a s2.len s2.cap] w fun bH
 aS=>∃g0:Addr,s=some g0∧st aS (g0.add 1) (.slice bH.a bH.len bH.cap) fun a7=>Q (.tuple #[]) a7) (Q (.tuple #[]) w)
def A.Dm:bI:=(.s .r (.c .r .l))
theorem W.amd (s:Option Addr) (w:World) (Q:Value→World→Prop) (h:W.Dm s w Q):aO Tryz.prog F.Dm #[.pointer s] w Q:=okF A.Dm Tryz.func82 (by kernel_rfl) (by kernel_rfl) h
def W.yu (no:Int) (b:aa) (w:World) (Q:Value→World→Prop):Prop:=ay (w.alloc z3) fun ag=>aA ((b.len:Int) !=256) (c2 ag (ai w) [.int .i64 0, .int .u64 0, .slice none 0 0]∧(3:Nat)=3∧ay (setCells ag (ai w)
 0 [.int .i64 0, .int .u64 0, .slice none 0 0]) fun aw=>bK aw (ai w) fun bm=>kT aw (Addr.add (ai w) 1) fun fI=>aq aw (Addr.add (ai w) 2) fun bH=>Q (.tuple #[.agg #[.int .i64 bm, .int .u64 fI, .slice bH.a bH.len bH.cap], .int .i64 9])
 aw) (((0:Int)≤4∧4≤((b.cap:Nat):Int))∧∃cK:ByteArray,∃a7:World,Sem.run Tryz.prog (convert ah.cn ah.string (.slice (bh b.a 1 0 b.cap) ((Int.toNat 4)-0) (b.cap-0))) ag= .ok (.string cK) a7∧aA
 (!(ByteArray.toList cK==ByteArray.toList (ByteArray.mk #[83,84,78,67]))) (c2 a7 (ai w) [.int .i64 0, .int .u64 0, .slice none 0 0]∧(3:Nat)=3∧ay (setCells a7 (ai w) 0 [.int .i64 0, .int .u64 0, .slice none 0 0]) fun bS=>
 R4 bS w Q) (∃kZ:Addr,b.a=some kZ∧a6 4 b.len∧iE a7 (kZ.add (Int.toNat 4*1)) fun n13=>aA (n13 !=1) (c2 a7 (ai w) [.int .i64 0, .int .u64 0, .slice none 0 0]∧(3:Nat)=3∧ay (setCells a7 (ai w) 0 [.int .i64 0, .int
 .u64 0, .slice none 0 0]) fun cZ=>bK cZ (ai w) fun n15=>kT cZ (Addr.add (ai w) 1) fun n16=>aq cZ (Addr.add (ai w) 2) fun gx=>Q (.tuple #[.agg #[.int .i64 n15, .int .u64 n16, .slice gx.a gx.len gx.cap], .int .i64 12]) cZ)
 (ng F.u3 #[.slice b.a b.len b.cap] a7 fun n20 eP=>J5 F.rv #[.slice b.a b.len b.cap, .int .i64 20, .int .i64 24] eP fun n23 ep=>aA (((IntKind.wrap .u64 n20):Int) !=n23) (c2 ep (ai w) [.int .i64 0, .int .u64
 0, .slice none 0 0]∧(3:Nat)=3∧ay (setCells ep (ai w) 0 [.int .i64 0, .int .u64 0, .slice none 0 0]) fun cD=>bK cD (ai w) fun n25=>kT cD (Addr.add (ai w) 1) fun n26=>aq cD (Addr.add (ai w) 2) fun dM=>Q (.tuple #[.agg
 #[.int .i64 n25, .int .u64 n26, .slice dM.a dM.len dM.cap], .int .i64 5]) cD) (J5 F.rv #[.slice b.a b.len b.cap, .int .i64 6, .int .i64 8] ep fun n30 fA=>∃nY:Addr,b.a=some nY∧a6 5 b.len∧iE fA (nY.add
 (Int.toNat 5*1)) fun n32=>bd F.GR #[.int .i64 (aD n32)] fA fun zT e8=>c0 (fun Eg:Bool→World→Prop=>aA ((!zT)||(decide (((aD n30):Int)>232))) (Eg true e8) (((0:Int)≤(aD (24+(aD n30)))∧(aD (24+(aD
 n30)))≤(b.len:Int))∧bd F.yt #[.slice (bh b.a 1 (Int.toNat (aD (24+(aD n30)))) b.cap) (b.len-(Int.toNat (aD (24+(aD n30))))) (b.cap-(Int.toNat (aD (24+(aD n30)))))] e8 fun WW lu=>Eg (!WW) lu)) (fun (W2:Bool)
 dy=>aA W2 (c2 dy (ai w) [.int .i64 0, .int .u64 0, .slice none 0 0]∧(3:Nat)=3∧ay (setCells dy (ai w) 0 [.int .i64 0, .int .u64 0, .slice none 0 0]) fun gN=>R4 gN w Q) (bd F.GS #[.int .i64 no] dy fun WT h8=>
 c0 (fun afA:Bool→World→Prop=>aA (!WT) (afA true h8) (J5 F.rv #[.slice b.a b.len b.cap, .int .i64 8, .int .i64 12] h8 fun atX oC=>afA (atX !=(IntKind.wrap .u64 no)) oC)) (fun (tg:Bool) hX=>aA tg (c2 hX
 (ai w) [.int .i64 0, .int .u64 0, .slice none 0 0]∧(3:Nat)=3∧ay (setCells hX (ai w) 0 [.int .i64 0, .int .u64 0, .slice none 0 0]) fun fl=>bK fl (ai w) fun GW=>kT fl (Addr.add (ai w) 1) fun atY=>aq fl (Addr.add (ai w) 2)
 fun jb=>Q (.tuple #[.agg #[.int .i64 GW, .int .u64 atY, .slice jb.a jb.len jb.cap], .int .i64 1]) fl) (E7 F.ym #[.slice b.a b.len b.cap, .int .i64 24, .int .i64 (aD n30)] hX fun iU Q0 o7=>ay (o7.drew) fun c8=>∃oB:
 Nat→Prop,∃Xb:Addr,b.a=some Xb∧a6 5 b.len∧¬oB (Xb.add (Int.toNat 5*1)).block∧iE c8 (Xb.add (Int.toNat 5*1)) fun afB=>J5 F.rv #[.slice b.a b.len b.cap, .int .i64 12, .int .i64 20] c8 fun Q1 oK=>ao
 oB c8 oK∧c2 oK (ai w) [.int .i64 (aD afB), .int .u64 Q1, .slice iU.a iU.len iU.cap]∧(3:Nat)=3∧ay (setCells oK (ai w) 0 [.int .i64 (aD afB), .int .u64 Q1, .slice iU.a iU.len iU.cap]) fun lg=>bK lg (ai w) fun
 atZ=>kT lg (Addr.add (ai w) 1) fun Q2=>aq lg (Addr.add (ai w) 2) fun zR=>Q (.tuple #[.agg #[.int .i64 atZ, .int .u64 Q2, .slice zR.a zR.len zR.cap], .int .i64 0]) lg))))))))
def A.yu:bI:=(.s .r (.s (.df (.s .r (.c (.s .r .l) (.s .r (.c (.s .r .l) (.s .r (.c (.s .r .l) bc))))))) (.s .r (.s (.df (.s (.gi [.run, .run, .run, .run, .run, .run, .run, .pure 2, .run, .run, .run, .split 6]) (.c (.s .r
 .l) (.s (.gi [.run, .run, .run, .run, .split 5]) (.c (.s .r .l) .l))))) (.s .r (.s (.eH 7 true ⟨[0,1,2,4,0,16,0,104,255,511],[0,1,2,4,0,16,0,104,128,0]⟩ [37778931862957161709568,75557863725914323419136,
 151115727451828646838272,302231454903657293676544,604462909807314587353088,1208925819614629174706176,2417851639229258349412352,4835703278458516698824704,0,32] [2,37778931862957161709568,75557863725914323419136,
 151115727451828646838272,2,604462909807314587353088,128,3929008913747544817795072,4835703278458516698824720,0] (.take 0 (.take 1 (.take 2 (.take 3 (.take 4 (.take 6 (.cP 5 (.tail [.run, .run, .run]))))))))) .l))))))
theorem W.ain (no:Int) (b:aa) (w:World) (Q:Value→World→Prop) (h:W.yu no b w Q):aO Tryz.prog F.yu #[.int .i64 no, .slice b.a b.len b.cap] w Q:=okF A.yu Tryz.func88 (by kernel_rfl) (by kernel_rfl) h
def W.Dk (s:Option Addr) (no:Int) (w:World) (Q:Value→World→Prop):Prop:=bd F.y4 #[.pointer s, .int .i64 no] w fun eM ag=>c0 (fun lH:Bool→World→Prop=>aA eM (∃a5:Addr,s=some a5∧aq
 ag (a5.add 1) fun cK=>bd F.ta #[.slice cK.a cK.len cK.cap, .int .i64 no] ag fun jc a7=>lH jc a7) (lH false ag)) (fun (nZ:Bool) cf=>Q (.bool nZ) cf)
def A.Dk:bI:=(.s .r (.s (.gi [.run, .run, .run, .run, .split 6]) .l))
theorem W.al4 (s:Option Addr) (no:Int) (w:World) (Q:Value→World→Prop) (h:W.Dk s no w Q):aO Tryz.prog F.Dk #[.pointer s, .int .i64 no] w Q:=okF A.Dk Tryz.func92 (by kernel_rfl) (by kernel_rfl) h
def W.Cv (no:Int) (Q3:Int) (Q4:Int) (Ez:aa) (w:World) (Q:Value→World→Prop):Prop:=ay (w.alloc (.cells #[.int .i64 Q3, .int .u64 Q4, .slice Ez.a Ez.len Ez.cap] ah.J4)) fun ag=>
 bd F.GS #[.int .i64 no] ag fun e7 aw=>c0 (fun oL:Bool→World→Prop=>aA (!e7) (oL true aw) (bK aw (ai w) fun n6=>bd F.GR #[.int .i64 n6] aw fun jc a7=>oL (!jc) a7)) (fun (nZ:Bool) cf=>aA nZ (Q (.tuple #[.slice
 none 0 0, .int .i64 1]) cf) (aq cf (Addr.add (ai w) 2) fun gP=>aA (decide ((gP.len:Int)>232)) (Q (.tuple #[.slice none 0 0, .int .i64 10]) cf) (ay (cf.alloc (.cells #[.int .u8 83, .int .u8 84, .int .u8 78, .int .u8 67] ah.uint8))
 fun bZ=>∃dA:aa,∃fg:World,Sem.run Tryz.prog (convert ah.cn ah.cn (.slice (some (ai cf)) 4 4)) bZ= .ok (.slice dA.a dA.len dA.cap) fg∧bK fg (ai w) fun n16=>ay (fg.alloc (.cells #[.int .u8 1, .int .u8
 (IntKind.wrap .u8 n16)] ah.uint8)) fun eV=>ay (eV.alloc (.cells #[.slice dA.a dA.len dA.cap, .slice (some (ai fg)) 2 2] ah.cn)) fun eP=>dK F.sZ #[.slice (some (ai eV)) 2 2] eP fun dV dj=>aq dj (Addr.add (ai
 w) 2) fun e5=>dK F.o1 #[.slice dV.a dV.len dV.cap, .int .u64 (IntKind.wrap .u64 (e5.len:Int)), .int .i64 2] dj fun ko m8=>dK F.o1 #[.slice ko.a ko.len ko.cap, .int .u64 (IntKind.wrap .u64 no), .int .i64 4] m8 fun
 e9 cu=>kT cu (Addr.add (ai w) 1) fun n29=>dK F.o1 #[.slice e9.a e9.len e9.cap, .int .u64 n29, .int .i64 8] cu fun dh fB=>c0 (fun GV:aa→World→Prop=>ay (fB.drew) fun e4=>∃Js:Nat→Prop,¬Js (Addr.add
 (ai w) 2).block∧aq e4 (Addr.add (ai w) 2) fun jS=>¬Js (Addr.add (ai w) 2).block∧aq e4 (Addr.add (ai w) 2) fun kp=>(((0:Int)≤4∧(4:Int)≤4∧(4:Int)≤yo∧((1:Nat):Int)*4≤140737488355328)∧ay (e4.alloc
 (.cells (pC Tryz.prog ah.uint8 (Int.toNat 4)) ah.uint8)) fun jR=>ao Js e4 jR∧(RZ kp)∧ay (jR.alloc (.cells (pC Tryz.prog ah.uint8 (Int.toNat (aD (232-(kp.len:Int))))) ah.uint8)) fun lM=>ao Js jR lM∧R0 lM dh
 e4 jS jR kp GV)∧((RZ kp)∧ay (e4.alloc (.cells (pC Tryz.prog ah.uint8 (Int.toNat (aD (232-(kp.len:Int))))) ah.uint8)) fun jo=>ao Js e4 jo∧((0:Int)≤4∧(4:Int)≤4∧(4:Int)≤yo∧((1:Nat):Int)*4≤
 140737488355328)∧ay (jo.alloc (.cells (pC Tryz.prog ah.uint8 (Int.toNat 4)) ah.uint8)) fun j6=>ao Js jo j6∧R0 j6 dh jo jS e4 kp GV)) (fun (gh:aa) rP=>ay (rP.drew) fun lN=>∃awV:Nat→Prop,((0:Int)≤20∧
 20≤(gh.len:Int))∧ng F.u3 #[.slice gh.a gh.len gh.cap] lN fun GW hX=>∃awW:Nat→Prop,dK F.o1 #[.slice none 0 0, .int .u64 (IntKind.wrap .u64 GW), .int .i64 4] hX fun fq DJ=>∃Xc:Int,∃fL:World,
 Sem.run Tryz.prog (Builtin.copy_ #[ah.cn,ah.cn] ah.int #[.slice (bh gh.a 1 (Int.toNat 20) gh.cap) (gh.len-(Int.toNat 20)) (gh.cap-(Int.toNat 20)), .slice fq.a fq.len fq.cap]) DJ= .ok (.int .i64 Xc) fL∧Q
 (.tuple #[.slice gh.a gh.len gh.cap, .int .i64 0]) fL))))
def A.Cv:bI:=(.s .r (.s (.df (.s (.gi [.run, .run, .run, .run, .split 4]) (.c (.s .r .l) bc))) (.s .r (.s .r (.s .r (.s .r (.s (.kK [(6, .slice)] [] (.eH 9 true ⟨[0,0,0,4,0,16,32,64,128,267,512,2047],[0,0,0,4,
 0,16,32,64,128,267,512,1025]⟩ [17592186044416,35184372088832,70368744177664,140737488355328,281474976710656,562949953421312,1125899906842624,2251799813685248,4503599627370496,9007199254740992,18014398509481984,64] [64,0,
 8,70368744177664,8,281474976710656,562949953421312,1125899906842624,2251799813685248,4697113673859072,9007199254740992,18014398509481984] (.take 0 (.take 2 (.take 3 (.take 4 (.take 5 (.take 6 (.take 7 (.two 1 (.cP 8 (.tail [.run,
 .run, .run])) 8 (.cP 1 (.tail [.run, .run, .run])))))))))))) (.s (.eH 6 true ⟨[0,1,0,4,8,24,34],[0,1,0,4,8,16,34]⟩ [36028797018963968,72057594037927936,144115188075855872,288230376151711744,576460752303423488,
 1152921504606846976,2305843009213693952] [64,36028797018963968,64,144115188075855872,288230376151711744,576460752303423488,1224979098644774912] (.take 0 (.take 1 (.take 2 (.out 3 true (.take 4 (.out 5 false (.tail [.run])))))))) (.s
 .r .l)))))))))
theorem W.aih (no:Int) (Q3:Int) (Q4:Int) (Ez:aa) (w:World) (Q:Value→World→Prop) (h:W.Cv no Q3 Q4 Ez w Q):aO Tryz.prog F.Cv #[.int .i64 no, .agg #[.int .i64 Q3, .int .u64 Q4, .slice Ez.a Ez.len Ez.cap]] w Q:=okF A.Cv Tryz.func99 (by kernel_rfl) (by kernel_rfl) h
def W.sw (t:Option Addr) (no:Int) (leaf:Bool) (w:World) (Q:Value→World→Prop):Prop:=ay (w.alloc dx) fun ag=>∃cW:Addr,t=some cW∧∃hO:Option Addr,ag.cell? cW=some (.pointer hO)∧gk
 F.Da #[.pointer hO, .int .i64 no] ag fun cK n7 bp=>aA (n7 !=0) (Th bp w Q n7) (aad F.yu #[.int .i64 no, .slice cK.a cK.len cK.cap] bp fun n15 n16 gx n18 bZ=>ay (bZ.alloc z3) fun dj=>c2 dj (ai bZ)
 [.int .i64 n15, .int .u64 n16, .slice gx.a gx.len gx.cap]∧(3:Nat)=3∧ay (setCells dj (ai bZ) 0 [.int .i64 n15, .int .u64 n16, .slice gx.a gx.len gx.cap]) fun cw=>aA (n18 !=0) (Th cw w Q n18) (ay (cw.drew) fun cu=>¬
 False∧kT cu (Addr.add (ai bZ) 1) fun n27=>∃a28:Addr,t=some a28∧¬False∧kT cu (a28.add 2) fun n29=>aA (decide (n27>n29)) (c0 (fun afC:Bool→World→Prop=>aA true (afC true cu) (bK cu (ai bZ) fun n31=>c0 (fun
 afD:Bool→World→Prop=>aA (n31 !=1) (bK cu (ai bZ) fun n33=>afD (n33 !=2) cu) (afD false cu)) (fun (Xd:Bool) gV=>afC Xd gV))) (fun (Jp:Bool) lu=>aA Jp (c2 lu (ai w) [.bool false, .slice none 0 0, .slice
 none 0 0, .slice none 0 0]∧(4:Nat)=4∧ay (setCells lu (ai w) 0 [.bool false, .slice none 0 0, .slice none 0 0, .slice none 0 0]) fun jR=>Kb jR w Q) (aq lu (Addr.add (ai bZ) 2) fun h5=>uk F.wN #[.bool leaf, .slice
 h5.a h5.len h5.cap] lu fun B8 mA ny kF at0 jo=>c2 jo (ai w) [.bool B8, .slice mA.a mA.len mA.cap, .slice ny.a ny.len ny.cap, .slice kF.a kF.len kF.cap]∧(4:Nat)=4∧ay (setCells jo (ai w) 0 [.bool B8,
 .slice mA.a mA.len mA.cap, .slice ny.a ny.len ny.cap, .slice kF.a kF.len kF.cap]) fun rP=>OO rP w Q at0))) (¬False∧bK cu (ai bZ) fun GW=>c0 (fun t_:Bool→World→Prop=>aA (!((GW==1)==leaf)) (t_ true cu)
 (bK cu (ai bZ) fun Xe=>c0 (fun afE:Bool→World→Prop=>aA (Xe !=1) (bK cu (ai bZ) fun Xf=>afE (Xf !=2) cu) (afE false cu)) (fun (Xg:Bool) fL=>t_ Xg fL))) (fun (at1:Bool) sO=>aA at1 (c2 sO (ai w)
 [.bool false, .slice none 0 0, .slice none 0 0, .slice none 0 0]∧(4:Nat)=4∧ay (setCells sO (ai w) 0 [.bool false, .slice none 0 0, .slice none 0 0, .slice none 0 0]) fun qU=>Kb qU w Q) (aq sO (Addr.add (ai bZ) 2) fun gl=>
 uk F.wN #[.bool leaf, .slice gl.a gl.len gl.cap] sO fun Q5 rh jz l1 at2 r0=>c2 r0 (ai w) [.bool Q5, .slice rh.a rh.len rh.cap, .slice jz.a jz.len jz.cap, .slice l1.a l1.len l1.cap]∧(4:Nat)=4∧ay
 (setCells r0 (ai w) 0 [.bool Q5, .slice rh.a rh.len rh.cap, .slice jz.a jz.len jz.cap, .slice l1.a l1.len l1.cap]) fun vv=>OO vv w Q at2)))))
def A.sw:bI:=(.s .r (.s .r (.s bc (.s .r (.s bc (.s (.s (.eH 12 false ⟨[0,1,0,4,8,16,34,64,128,384,640,128,3200,4224,8320,16384,49152,81920,147456,262144,786432,1310720,2375680,4210688],[0,1,0,4,
 8,16,34,64,128,384,640,128,3200,4224,8192,16384,49152,81920,147456,262144,786432,1310720,2375680,4210688]⟩ [17179869184,34359738368,68719476736,137438953472,274877906944,549755813888,1099511627776,2199023255552,
 4398046511104,8796093022208,17592186044416,35184372088832,70368744177664,140737488355328,281474976710656,562949953421312,1125899906842624,2251799813685248,4503599627370496,9007199254740992,18014398509481984,36028797018963968,
 72057594037927936,144115188075855872] [1024,17179869184,1,68719476736,137438953472,274877906944,584115552256,1099511627776,2199023256576,6597069766656,10995116277760,2199023255556,54975581388800,72567767433216,
 140737488355328,281474976711680,844424930131968,1407374883553280,2533274790395904,4503599627371520,13510798882111488,22517998136852480,40813871623045120,72339069014638592] (.take 0 (.take 1 (.take 2 (.take 3 (.take 4 (.take 5
 (.take 6 (.take 7 (.sp 41 (.take 8 (.take 9 (.take 10 (.take 11 (.tail [.run, .run, .run, .split 8, .run, .run, .run, .split 3, .run, .run, .run, .run]))))) (.take 8 (.take 9 (.take 10 (.take 11 (.tail [.run, .run, .run, .split 8, .run,
 .run, .run, .split 3, .run, .run, .run, .run]))))))))))))))) (.c (.s .r .l) .l)) (.s .r .l)))))))
theorem W.amA (t:Option Addr) (no:Int) (leaf:Bool) (w:World) (Q:Value→World→Prop) (h:W.sw t no leaf w Q):aO Tryz.prog F.sw #[.pointer t, .int .i64 no, .bool leaf] w Q:=okF A.sw Tryz.func104 (by kernel_rfl) (by kernel_rfl) h
def W.vl (cH:Bool) (bq:aa) (br:aa) (bt:aa) (key:aa) (w:World) (Q:Value→World→Prop):Prop:=ay (w.alloc (.cells #[.bool cH, .slice bq.a bq.len bq.cap, .slice br.a br.len
 br.cap, .slice bt.a bt.len bt.cap] ah.cO)) fun ag=>bV ag (ai w) fun cI=>aq ag (Addr.add (ai w) 1) fun b1=>aq ag (Addr.add (ai w) 2) fun cN=>aq ag (Addr.add (ai w) 3) fun bH=>dL F.rB #[.agg #[.bool cI,
 .slice b1.a b1.len b1.cap, .slice cN.a cN.len cN.cap, .slice bH.a bH.len bH.cap], .slice key.a key.len key.cap] ag fun n8 jc bf=>c0 (fun ya:Int→World→Prop=>aA jc (ya (aD (n8+1)) bf) (ya n8 bf)) (fun (n11:Int) cy=>Q (.int
 .i64 n11) cy)
def A.vl:bI:=(.s .r (.s .r (.s (.kK [(5,(.int .i64))] [] (.s .r (.c .r .l))) (.s .r .l))))
theorem W.ajK (cH:Bool) (bq:aa) (br:aa) (bt:aa) (key:aa) (w:World) (Q:Value→World→Prop) (h:W.vl cH bq br bt key w Q):aO Tryz.prog F.vl #[.agg #[.bool cH, .slice bq.a bq.len bq.cap, .slice br.a br.len br.cap, .slice bt.a bt.len bt.cap], .slice key.a key.len key.cap] w Q:=okF A.vl Tryz.func105 (by kernel_rfl) (by kernel_rfl) h
def W.rB (cH:Bool) (bq:aa) (br:aa) (bt:aa) (key:aa) (w:World) (Q:Value→World→Prop):Prop:=ay (w.alloc (.cells #[.bool cH, .slice bq.a bq.len bq.cap, .slice br.a br.len
 br.cap, .slice bt.a bt.len bt.cap] ah.cO)) fun ag=>aq ag (Addr.add (ai w) 1) fun s2=>dL F.CJ #[.slice s2.a s2.len s2.cap, .slice key.a key.len key.cap, .func (.func
 F.mX) #[] #[]] ag fun n5 lk aS=>Q (.tuple #[.int .i64 n5, .bool lk]) aS
def A.rB:bI:=(.s .r (.s .r .l))
theorem W.ajH (cH:Bool) (bq:aa) (br:aa) (bt:aa) (key:aa) (w:World) (Q:Value→World→Prop) (h:W.rB cH bq br bt key w Q):aO Tryz.prog F.rB #[.agg #[.bool cH, .slice bq.a bq.len bq.cap, .slice br.a br.len br.cap, .slice bt.a bt.len bt.cap], .slice key.a key.len key.cap] w Q:=okF A.rB Tryz.func106 (by kernel_rfl) (by kernel_rfl) h
def W.nJ (cH:Bool) (bq:aa) (br:aa) (bt:aa) (w:World) (Q:Value→World→Prop):Prop:=ay (w.alloc (.cells #[.bool cH, .slice bq.a bq.len bq.cap, .slice br.a br.len br.cap,
 .slice bt.a bt.len bt.cap] ah.cO)) fun ag=>aq ag (Addr.add (ai w) 1) fun s2=>∃ (j_:Int→World→Prop) (mP:Int→World→Nat),j_ 0 ag∧∀ (n5:Int) (bf:World),j_ n5 bf→aA (decide (n5<(s2.len:Int))) (∃jn:
 Addr,s2.a=some jn∧a6 n5 s2.len∧aq bf (jn.add (Int.toNat n5*1)) fun ez=>bd F.vd #[.slice ez.a ez.len ez.cap] bf fun r2 bY=>c0 (fun p2:Bool→World→Prop=>aA (!r2) (p2 true bY) (c0 (fun afF:Bool→World→Prop
 =>aA (decide (n5>0)) (aq bY (Addr.add (ai w) 1) fun dA=>∃mz:Addr,dA.a=some mz∧a6 (aD (n5-1)) dA.len∧aq bY (mz.add (Int.toNat (aD (n5-1))*1)) fun dd=>aV F.mX #[.slice dd.a dd.len dd.cap, .slice
 ez.a ez.len ez.cap] bY fun n19 eV=>afF (decide (n19≥0)) eV) (afF false bY)) (fun (q8:Bool) ep=>p2 q8 ep))) (fun (tx:Bool) m8=>aA tx (Q (.bool false) m8) (j_ (aD (n5+1)) m8∧mP (aD (n5+1)) m8<mP n5 bf))) (bV
 bf (ai w) fun wm=>aA wm (aq bf (Addr.add (ai w) 2) fun ko=>aq bf (Addr.add (ai w) 1) fun hE=>c0 (fun tB:Bool→World→Prop=>aA ((ko.len:Int)==(hE.len:Int)) (aq bf (Addr.add (ai w) 3) fun e9=>tB ((e9.len:Int)==0)
 bf) (tB false bf)) (fun (MO:Bool) fB=>c0 (fun afG:Bool→World→Prop=>aA MO (aq fB (Addr.add (ai w) 2) fun dh=>bd F.CB #[.slice dh.a dh.len dh.cap, .func (.func F.wH) #[]
 #[]] fB fun zT e8=>afG (!zT) e8) (afG false fB)) (fun (Jp:Bool) lu=>Q (.bool Jp) lu))) (aq bf (Addr.add (ai w) 1) fun ei=>c0 (fun afH:Bool→World→Prop=>aA (decide ((ei.len:Int)>0)) (aq bf (Addr.add (ai w) 3) fun
 eF=>aq bf (Addr.add (ai w) 1) fun qw=>afH ((eF.len:Int)==(aD ((qw.len:Int)+1))) bf) (afH false bf)) (fun (at3:Bool) jr=>c0 (fun afI:Bool→World→Prop=>aA at3 (aq jr (Addr.add (ai w) 2) fun iN=>afI ((iN.len:Int)
 ==0) jr) (afI false jr)) (fun (B8:Bool) dq=>c0 (fun afJ:Bool→World→Prop=>aA B8 (aq dq (Addr.add (ai w) 3) fun kF=>bd F.CC #[.slice kF.a kF.len kF.cap, .func (.func F.wI) #[]
 #[]] dq fun at4 oC=>afJ (!at4) oC) (afJ false dq)) (fun (tg:Bool) hX=>Q (.bool tg) hX)))))
def A.nJ:bI:=(.s .r (.s (.s .r (.df (.loop [(10,(.int .i64))] [1,8,9] (.s .r (.s (.c .l .l) (.s (.df (.s .r (.s (.gi [.run, .run, .run, .run, .split 13, .run, .run, .split 9]) (.c (.s .r .l) .l)))) .r)))))) (.s (.s .r (.c
 (.s .r (.s (.gi [.run, .run, .run, .run, .run, .run, .run, .run, .split 4, .run, .run, .run, .run, .run, .split 5]) .l)) .l)) (.s .r (.s (.gi [.run, .run, .run, .run, .run, .split 8, .run, .run, .run, .run, .run, .run, .run, .run, .run,
 .split 4, .run, .run, .run, .run, .run, .split 5]) .l)))))
theorem W.aiK (cH:Bool) (bq:aa) (br:aa) (bt:aa) (w:World) (Q:Value→World→Prop) (h:W.nJ cH bq br bt w Q):aO Tryz.prog F.nJ #[.agg #[.bool cH, .slice bq.a bq.len bq.cap, .slice br.a br.len br.cap, .slice bt.a bt.len bt.cap]] w Q:=okF A.nJ Tryz.func107 (by kernel_rfl) (by kernel_rfl) h
def W.fK (cH:Bool) (bq:aa) (br:aa) (bt:aa) (w:World) (Q:Value→World→Prop):Prop:=ay (w.alloc (.cells #[.bool cH, .slice bq.a bq.len bq.cap, .slice br.a br.len br.cap,
 .slice bt.a bt.len bt.cap] ah.cO)) fun ag=>ay (ag.alloc dx) fun aw=>ay (aw.drew) fun aS=>∃mQ:Nat→Prop,¬mQ ((ai w):Addr).block∧bV aS (ai w) fun iu=>¬mQ (Addr.add (ai w) 3).block∧aq aS (Addr.add (ai w)
 3) fun cK=>(dK F.vk #[.slice cK.a cK.len cK.cap] aS fun dn a7=>ao mQ aS a7∧∃jy:Array Value,(∀cf:World,Sem.run Tryz.prog (Instr.build ah.cO #[(0, .bool iu),(3, .slice dn.a dn.len dn.cap)]) cf=
 .ok (.agg jy) cf)∧ay (a7.alloc dx) fun cy=>ao mQ a7 cy∧Sn cy a7 jy w ag Q)∧(ay (aS.alloc dx) fun k5=>ao mQ aS k5∧dK F.vk #[.slice cK.a cK.len cK.cap] k5 fun fq DJ=>ao mQ k5 DJ∧∃afK:
 Array Value,(∀fL:World,Sem.run Tryz.prog (Instr.build ah.cO #[(0, .bool iu),(3, .slice fq.a fq.len fq.cap)]) fL= .ok (.agg afK) fL)∧Sn DJ aS afK w ag Q)
def A.fK:bI:=(.s .r (.s (.eH 7 true ⟨[0,1,0,4,8,18,0,127],[0,1,0,4,8,18,0,96]⟩ [256,512,1024,2048,4096,8192,8,0] [2,256,2,1024,2048,4608,0,8200] (.take 0 (.take 1 (.take 2 (.take 3 (.two 4 (.take 5
 (.cP 6 (.tail [.run]))) 6 (.cP 4 (.take 5 (.tail [.run]))))))))) (.s (.s .r (.df (.loop [(17,(.int .i64))] [1,2,3,15,16] (.s .r (.s (.c .l .l) (.s (.df (.s .r (.eH 5 true ⟨[0,1,0,4,8,26,63,127],[0,1,0,4,8,18,0,96]⟩
 [2097152,4194304,8388608,16777216,33554432,67108864,134217728,0] [8,2097152,32,8388608,16777216,37748736,8,201326592] (.take 0 (.take 1 (.take 2 (.cP 3 (.cP 4 (.tail [.run, .run, .run]))))))))) .r)))))) (.s (.s .r (.df
 (.loop [(32,(.int .i64))] [2,3,30,31] (.s .r (.s (.c .l .l) (.s (.df (.s .r (.eH 5 true ⟨[0,1,0,4,8,26,63,127],[0,1,0,4,8,18,0,96]⟩ [68719476736,137438953472,274877906944,549755813888,1099511627776,2199023255552,
 4398046511104,0] [8,68719476736,128,274877906944,549755813888,1236950581248,8,6597069766656] (.take 0 (.take 1 (.take 2 (.cP 3 (.cP 4 (.tail [.run, .run, .run]))))))))) .r)))))) (.s .r .l)))))
theorem W.ajL (cH:Bool) (bq:aa) (br:aa) (bt:aa) (w:World) (Q:Value→World→Prop) (h:W.fK cH bq br bt w Q):aO Tryz.prog F.fK #[.agg #[.bool cH, .slice bq.a bq.len bq.cap, .slice br.a br.len br.cap, .slice bt.a bt.len bt.cap]] w Q:=okF A.fK Tryz.func108 (by kernel_rfl) (by kernel_rfl) h
def W.zw (x:Addr) (tH:Addr) (w:World) (Q:Value→World→Prop):Prop:=bK w x fun dt=>aA (dt !=0) (ay (w.drew) fun aw=>¬False∧∃hO:Option Addr,aw.cell? tH=some (.pointer hO)∧¬False∧∃th:Option
 Addr,aw.cell? tH=some (.pointer th)∧∃a5:Addr,th=some a5∧¬False∧aq aw (a5.add 1) fun cK=>bA F.Bn #[.pointer hO, .slice cK.a cK.len cK.cap] aw fun a7=>Q (.tuple #[]) a7) (Q (.tuple #[]) w)
def A.zw:bI:=(.s .r (.c (.eH 5 false ⟨[0,0,2,4,8,17],[0,0,2,4,8,17]⟩ [16,32,64,128,256,512] [2,2,32,64,128,272] (.take 0 (.take 1 (.take 2 (.take 3 (.take 4 (.tail [.run]))))))) .l))
theorem W.at5 (x:Addr) (tH:Addr) (w:World) (Q:Value→World→Prop):W.zw x tH w Q=Jm Tryz.prog aI A.zw Tryz.f110 [.pointer (some x), .pointer (some tH)] w Q:=by kernel_rfl
theorem W.ab2 (x:Addr) (tH:Addr) (w:World) (K:World→Prop) (h:W.zw x tH w fun _ ag=>K ag):Jn Tryz.prog F.zw #[.pointer (some x), .pointer (some tH)] w K:=
  atD WS ⟨_,Tryz.func110,by kernel_rfl,by kernel_rfl⟩ Tryz.func110 (by kernel_rfl) (Eq.mp (W.at5 x tH w _) h)
def W.Bn (c:Option Addr) (l:aa) (w:World) (Q:Value→World→Prop):Prop:=∃ (fP:Int→World→Prop) (ia:Int→World→Nat),fP 0 w∧∀ (bm:Int) (bp:World),fP bm bp→aA (decide (bm<(l.len:Int))) (c0 (fun
 oL:World→Prop=>∃g0:Addr,l.a=some g0∧a6 bm l.len∧bK bp (g0.add (Int.toNat bm*1)) fun n7=>∃ir:Addr,c=some ir∧∃EA:Option Addr,bp.cell? ir=some (.pointer EA)∧∃iM:Addr,EA=some iM∧∃wo:Option Addr,
 bp.cell? (iM.add 1)=some (.pointer wo)∧bd F.Dl #[.pointer wo, .int .i64 n7] bp fun at6 cy=>∃mz:Addr,c=some mz∧∃EB:Option Addr,cy.cell? mz=some (.pointer EB)∧∃yb:Addr,EB=some yb∧∃afL
 :Option Addr,cy.cell? (yb.add 1)=some (.pointer afL)∧aV F.Dj #[.pointer afL, .int .i64 n7] cy fun n21 dj=>aA at6 (∃a22:Addr,c=some a22∧∃afM:Option Addr,dj.cell? a22=some (.pointer afM)∧∃a24:
 Addr,afM=some a24∧∃afN:Option Addr,dj.cell? a24=some (.pointer afN)∧bd F.Dd #[.pointer afN, .int .i64 n7] dj fun zA cu=>oL cu) (oL dj)) (fun fG=>fP (aD (bm+1)) fG∧ia (aD (bm+1)) fG<ia bm bp))
 (Q (.tuple #[]) bp)
def A.Bn:bI:=(.s .r (.df (.loop [(9,(.int .i64))] [0,7,8] (.s .r (.s (.c .l .l) (.s (.kK [] [0,7,8,9] (.df (.s .r (.s .r (.s .r (.s .r (.c .r .l))))))) .r))))))
theorem W.aor (c:Option Addr) (l:aa) (w:World) (Q:Value→World→Prop) (h:W.Bn c l w Q):aO Tryz.prog F.Bn #[.pointer c, .slice l.a l.len l.cap] w Q:=okF A.Bn Tryz.func111 (by kernel_rfl) (by kernel_rfl) h
def W.xO (c:Option Addr) (mv:aa) (uQ:Bool) (n3:aa) (n4:aa) (n_:aa) (w:World) (Q:Value→World→Prop):Prop:=ay (w.alloc (.cells #[.bool uQ, .slice n3.a n3.len
 n3.cap, .slice n4.a n4.len n4.cap, .slice n_.a n_.len n_.cap] ah.cO)) fun ag=>bV ag (ai w) fun cI=>aq ag (Addr.add (ai w) 1) fun b1=>aq ag (Addr.add (ai w) 2) fun cN=>aq ag
 (Addr.add (ai w) 3) fun bH=>ay (ag.alloc dx) fun bf=>c2 bf (ai ag) [.bool cI, .slice b1.a b1.len b1.cap, .slice cN.a cN.len cN.cap, .slice bH.a bH.len bH.cap]∧(4:Nat)=4∧ay (setCells bf (ai ag) 0 [.bool cI, .slice b1.a
 b1.len b1.cap, .slice cN.a cN.len cN.cap, .slice bH.a bH.len bH.cap]) fun a7=>∃ (yc:Int→World→Prop) (EC:Int→World→Nat),yc (aD ((mv.len:Int)-1)) a7∧∀ (n10:Int) (cf:World),yc n10 cf→aA (decide (n10≥0)) (ay
 (cf.drew) fun cy=>∃Q6:Nat→Prop,∃lQ:Addr,c=some lQ∧¬Q6 (lQ.add 2).block∧aq cy (lQ.add 2) fun eQ=>∃p3:Addr,mv.a=some p3∧a6 n10 mv.len∧¬Q6 (p3.add (Int.toNat n10*6)).block∧bK cy (p3.add
 (Int.toNat n10*6)) fun n17=>ay (cy.alloc (.cells #[.int .i64 n17] ah.int)) fun eP=>ao Q6 cy eP∧∃fQ:aa,∃cw:World,Sem.run Tryz.prog (Builtin.append_ #[ah.ef,ah.ef] ah.ef #[.slice eQ.a eQ.len eQ.cap,
 .slice (some (ai cy)) 1 1]) eP= .ok (.slice fQ.a fQ.len fQ.cap) cw∧ao Q6 eP cw∧∃kC:Addr,c=some kC∧st cw (kC.add 2) (.slice fQ.a fQ.len fQ.cap) fun dJ=>c0 (fun ML:Bool→World→Prop=>aA (n10==0) (aq
 dJ (Addr.add (ai ag) 1) fun ri=>ML ((ri.len:Int)==0) dJ) (ML false dJ)) (fun (uF:Bool) cu=>aA uF (ay (cu.drew) fun mY=>∃Q7:Nat→Prop,¬Q7 ((ai ag):Addr).block∧bV mY (ai ag) fun MO=>aq mY (Addr.add (ai
 ag) 1) fun ic=>aq mY (Addr.add (ai ag) 2) fun im=>aq mY (Addr.add (ai ag) 3) fun dh=>∃a33:Addr,c=some a33∧¬Q7 a33.block∧∃MG:Option Addr,mY.cell? a33=some (.pointer MG)∧∃a35:Addr,MG=some a35∧¬Q7
 (a35.add 4).block∧bK mY (a35.add 4) fun n36=>Iw F.zm #[.agg #[.bool MO, .slice ic.a ic.len ic.cap, .slice im.a im.len im.cap, .slice dh.a dh.len dh.cap], .int .i64 n36] mY fun n39 n40 n41 lu=>ao Q7 mY lu∧Q
 (.tuple #[.int .i64 n39, .int .i64 n40, .int .i64 n41]) lu) (c0 (fun afO:Option Addr→World→Prop=>aA (decide (n10>0)) (∃MP:Addr,mv.a=some MP∧a6 (aD (n10-1)) mv.len∧afO (some (MP.add (Int.toNat (aD (n10-1))*
 6))) cu) (afO none cu)) (fun (afP:Option Addr) j6=>bV j6 (ai ag) fun B8=>aq j6 (Addr.add (ai ag) 1) fun mA=>aq j6 (Addr.add (ai ag) 2) fun ny=>aq j6 (Addr.add (ai ag) 3) fun kF=>Gd F.zl #[.pointer c,
 .agg #[.bool B8, .slice mA.a mA.len mA.cap, .slice ny.a ny.len ny.cap, .slice kF.a kF.len kF.cap], .pointer afP] j6 fun iq me at7 Q8 oC=>aA (Q8 !=0) (Q (.tuple #[.int .i64 0, .int .i64 0, .int .i64 Q8]) oC) (aA (n10==
 0) (Iw F.DP #[.pointer c, .slice iq.a iq.len iq.cap] oC fun Xe at8 Xf yP=>Q (.tuple #[.int .i64 Xe, .int .i64 at8, .int .i64 Xf]) yP) (∃q4:Addr,afP=some q4∧bV oC (q4.add 1) fun Q0=>aq oC ((q4.add
 1).add 1) fun uR=>aq oC ((q4.add 1).add 2) fun nn=>aq oC ((q4.add 1).add 3) fun p1=>jy F.zd #[.agg #[.bool Q0, .slice uR.a uR.len uR.cap, .slice nn.a nn.len nn.cap, .slice p1.a p1.len p1.cap], .int .i64
 me, .int .i64 at7, .slice iq.a iq.len iq.cap] oC fun Q9 pq gl gm zu=>c2 zu (ai ag) [.bool Q9, .slice pq.a pq.len pq.cap, .slice gl.a gl.len gl.cap, .slice gm.a gm.len gm.cap]∧(4:Nat)=4∧ay (setCells zu
 (ai ag) 0 [.bool Q9, .slice pq.a pq.len pq.cap, .slice gl.a gl.len gl.cap, .slice gm.a gm.len gm.cap]) fun tn=>yc (aD (n10-1)) tn∧EC (aD (n10-1)) tn<EC n10 cf)))))) (bV cf (ai ag) fun Q5=>aq cf (Addr.add (ai ag)
 1) fun rh=>aq cf (Addr.add (ai ag) 2) fun jz=>aq cf (Addr.add (ai ag) 3) fun l1=>gk F.AU #[.pointer c, .agg #[.bool Q5, .slice rh.a rh.len rh.cap, .slice jz.a jz.len jz.cap, .slice l1.a l1.len l1.cap]] cf
 fun qb afQ jO=>aA (afQ !=0) (Q (.tuple #[.int .i64 0, .int .i64 0, .int .i64 afQ]) jO) (∃afR:Addr,qb.a=some afR∧a6 0 qb.len∧bK jO ((afR.add (Int.toNat 0*2)).add 1) fun at9=>Q (.tuple #[.int .i64 at9, .int .i64 1, .int
 .i64 0]) jO))
def A.xO:bI:=(.s .r (.s .r (.s (.s .r (.df (.loop [(10,(.int .i64))] [0,1,9] (.s (.s .r (.c .l .l)) (.s (.df (.s (.eH 12 true ⟨[0,0,2,4,8,0,0,96,128,256,512,1040,4095,8191,12287],[0,0,2,4,8,0,0,
 96,128,256,512,1040,1,4096,10240]⟩ [33554432,67108864,134217728,268435456,536870912,1073741824,2147483648,4294967296,8589934592,17179869184,34359738368,68719476736,137438953472,274877906944,0] [1,1,67108864,
 134217728,268435456,2,1024,3221225472,4294967296,8589934592,17179869184,34896609280,33554432,137438953472,343597383680] (.take 0 (.take 1 (.take 2 (.take 3 (.take 4 (.take 5 (.take 6 (.take 7 (.take 8 (.take 9 (.cP 10 (.cP 11
 (.tail [.run, .run, .run])))))))))))))) (.s (.s (.gi [.run, .run, .run, .split 4]) (.c (.s (.eH 12 true ⟨[0,0,2,4,8,16,32,64,129,256,256,256,4095,8191,16383],[0,0,2,4,8,16,32,64,129,256,256,256,512,1024,2048]⟩
 [140737488355328,281474976710656,562949953421312,1125899906842624,2251799813685248,4503599627370496,9007199254740992,18014398509481984,36028797018963968,72057594037927936,144115188075855872,288230376151711744,64,128,256] [512,
 1,281474976710656,562949953421312,1125899906842624,2251799813685248,4503599627370496,9007199254740992,18155135997837312,36028797018963968,36028797018963968,36028797018963968,72057594037927936,144115188075855872,
 288230376151711744] (.take 0 (.take 1 (.take 2 (.take 3 (.take 4 (.take 5 (.take 6 (.take 7 (.cP 8 (.take 9 (.take 10 (.take 11 (.tail [.run, .run, .run])))))))))))))) .l) .l)) (.s .r (.s (.kK [(11, .ptr)] [0,1,9,10] (.s .r (.c .r .l)))
 (.s .r (.s bc (.s bc .r)))))))) .r))))) g2)))
theorem W.abx (c:Option Addr) (mv:aa) (uQ:Bool) (n3:aa) (n4:aa) (n_:aa) (w:World) (Q:Value→World→Prop) (h:W.xO c mv uQ n3 n4 n_ w Q):aO Tryz.prog F.xO #[.pointer c, .slice mv.a mv.len mv.cap, .agg #[.bool uQ, .slice n3.a n3.len n3.cap, .slice n4.a n4.len n4.cap, .slice n_.a n_.len n_.cap]] w Q:=okF A.xO Tryz.func112 (by kernel_rfl) (by kernel_rfl) h
def W.Dr (n:Int) (w:World) (Q:Value→World→Prop):Prop:=Q (.bool ((decide (n≥1))&&(decide (n≤1600)))) w
def A.Dr:bI:=(.s .r a3)
theorem W.amo (n:Int) (w:World) (Q:Value→World→Prop) (h:W.Dr n w Q):aO Tryz.prog F.Dr #[.int .i64 n] w Q:=okF A.Dr Tryz.func114 (by kernel_rfl) (by kernel_rfl) h
def W.Ds (n:Int) (w:World) (Q:Value→World→Prop):Prop:=(8:Int)≠0∧Q (.int .i64 (aD (Int.tdiv (aD ((aD (n+8))-1)) 8))) w
def A.Ds:bI:=(.s .r (.s .r .l))
theorem W.amq (n:Int) (w:World) (Q:Value→World→Prop) (h:W.Ds n w Q):aO Tryz.prog F.Ds #[.int .i64 n] w Q:=okF A.Ds Tryz.func115 (by kernel_rfl) (by kernel_rfl) h
end
section
set_option maxRecDepth 100000
def W.AN (s:aa) (no:Int) (w:World) (Q:Value→World→Prop):Prop:=ay (w.drew) fun ag=>(8:Int)≠0∧∃cW:Addr,s.a=some cW∧a6 (aD (Int.tdiv no 8)) s.len∧¬False∧iE ag (cW.add (Int.toNat (aD (Int.tdiv no
 8))*1)) fun bm=>(8:Int)≠0∧(0:Int)≤(Int.tmod no 8)∧∃a4:Addr,s.a=some a4∧a6 (aD (Int.tdiv no 8)) s.len∧st ag (a4.add (Int.toNat (aD (Int.tdiv no 8))*1)) (.int .u8 (Co .u8 bm (IntKind.wrap .u8 (1*2^(min
 (Int.toNat (Int.tmod no 8)) 8))))) fun bB=>Q (.tuple #[]) bB
def A.AN:bI:=(.eH 8 false ⟨[0,0,2,5,8,0,32,64,144,511,1023],[0,0,2,5,8,0,32,64,144,5,768]⟩ [16,32,64,128,256,512,1024,2048,4096,8192,0] [1,2,32,80,128,2,512,1024,2304,80,12288] (.take
 0 (.take 1 (.take 2 (.take 3 (.take 4 (.take 5 (.take 6 (.take 7 (.tail [.run, .run, .run]))))))))))
theorem W.alM (s:aa) (no:Int) (w:World) (Q:Value→World→Prop) (h:W.AN s no w Q):aO Tryz.prog F.AN #[.slice s.a s.len s.cap, .int .i64 no] w Q:=okF A.AN Tryz.func116 (by kernel_rfl) (by kernel_rfl) h
def W.vd (kc:aa) (w:World) (Q:Value→World→Prop):Prop:=Q (.bool ((decide ((kc.len:Int)≥1))&&(decide ((kc.len:Int)≤24)))) w
def A.vd:bI:=a5
theorem W.aiJ (kc:aa) (w:World) (Q:Value→World→Prop) (h:W.vd kc w Q):aO Tryz.prog F.vd #[.slice kc.a kc.len kc.cap] w Q:=okF A.vd Tryz.func118 (by kernel_rfl) (by kernel_rfl) h
def W.BI (j:Option Addr) (no:Int) (level:Int) (low:aa) (high:aa) (w:World) (Q:Value→World→Prop):Prop:=∃bc:Addr,j=some bc∧∃cm:Option Addr,w.cell? bc=some (.pointer cm)∧uk F.sw
 #[.pointer cm, .int .i64 no, .bool (level==1)] w fun iu cK hC ez n9 aS=>ay (aS.alloc dx) fun bR=>c2 bR (ai aS) [.bool iu, .slice cK.a cK.len cK.cap, .slice hC.a hC.len hC.cap, .slice ez.a ez.len ez.cap]∧(4:Nat)=4∧ay
 (setCells bR (ai aS) 0 [.bool iu, .slice cK.a cK.len cK.cap, .slice hC.a hC.len hC.cap, .slice ez.a ez.len ez.cap]) fun cf=>aA (n9 !=0) (Q (.int .i64 n9) cf) (∃kZ:Addr,j=some kZ∧aq cf (kZ.add 1) fun gO=>bd
 F.D7 #[.slice gO.a gO.len gO.cap, .int .i64 no] cf fun QW cZ=>c0 (fun MJ:Bool→World→Prop=>aA QW (MJ true cZ) (∃mR:Addr,j=some mR∧∃MQ:Option Addr,cZ.cell? mR=some (.pointer MQ)
 ∧∃ED:Addr,MQ=some ED∧∃afS:Option Addr,cZ.cell? (ED.add 1)=some (.pointer afS)∧bd F.Dk #[.pointer afS, .int .i64 no] cZ fun wm dJ=>MJ (!wm) dJ)) (fun (uF:Bool) cu=>c0 (fun tB:Bool→World
 →Prop=>aA uF (tB true cu) (bV cu (ai aS) fun zA=>aq cu (Addr.add (ai aS) 1) fun ih=>aq cu (Addr.add (ai aS) 2) fun ic=>aq cu (Addr.add (ai aS) 3) fun im=>bd F.zD #[.agg #[.bool zA, .slice ih.a ih.len
 ih.cap, .slice ic.a ic.len ic.cap, .slice im.a im.len im.cap], .slice low.a low.len low.cap, .slice high.a high.len high.cap] cu fun Xd nv=>tB (!Xd) nv)) (fun (zT:Bool) iz=>aA zT (Q (.int .i64 4) iz) (∃x3:Addr,j
 =some x3∧aq iz (x3.add 1) fun ei=>ay (iz.alloc (.cells #[.int .i64 no] ah.int)) fun lM=>∃eF:aa,∃dy:World,Sem.run Tryz.prog (Builtin.append_ #[ah.ef,ah.ef] ah.ef #[.slice ei.a ei.len ei.cap, .slice
 (some (ai iz)) 1 1]) lM= .ok (.slice eF.a eF.len eF.cap) dy∧∃MI:Addr,j=some MI∧st dy (MI.add 1) (.slice eF.a eF.len eF.cap) fun jr=>aA (level==1) (ay (jr.drew) fun jo=>∃Eh:Addr,j=some Eh∧¬False∧
 bK jo (Eh.add 2) fun W3=>¬False∧aq jo (Addr.add (ai aS) 1) fun mA=>∃MR:Addr,j=some MR∧st jo (MR.add 2) (.int .i64 (aD (W3+(mA.len:Int)))) fun at_=>Q (.int .i64 0) at_) (aq jr (Addr.add (ai aS) 3) fun gh=>∃
 (Xh:Int→World→Prop) (afT:Int→World→Nat),Xh 0 jr∧∀ (me:Int) (hX:World),Xh me hX→aA (decide (me<(gh.len:Int))) (∃afU:Addr,gh.a=some afU∧a6 me gh.len∧bK hX (afU.add (Int.toNat me*1)) fun GW
 =>c0 (fun t_:aa→World→Prop=>aA (decide (me>0)) (aq hX (Addr.add (ai aS) 1) fun jb=>∃afV:Addr,jb.a=some afV∧a6 (aD (me-1)) jb.len∧aq hX (afV.add (Int.toNat (aD (me-1))*1)) fun fq=>t_ fq hX) (t_
 low hX)) (fun (iU:aa) fL=>c0 (fun afW:aa→World→Prop=>aq fL (Addr.add (ai aS) 1) fun nn=>aA (decide (me<(nn.len:Int))) (aq fL (Addr.add (ai aS) 1) fun p1=>∃afX:Addr,p1.a=some afX∧a6 me p1.len∧aq fL
 (afX.add (Int.toNat me*1)) fun gM=>afW gM fL) (afW high fL)) (fun (hM:aa) pK=>aV F.BI #[.pointer j, .int .i64 GW, .int .i64 (aD (level-1)), .slice iU.a iU.len iU.cap, .slice hM.a hM.len hM.cap] pK fun
 Q2 lg=>aA (Q2 !=0) (Q (.int .i64 Q2) lg) (Xh (aD (me+1)) lg∧afT (aD (me+1)) lg<afT me hX)))) (Q (.int .i64 0) hX))))))
def A.BI:bI:=(.s .r (.s .r (.s bc (.s (.s (.gi [.run, .run, .run, .run, .run, .run, .run, .split 10, .run, .run, .run, .run, .run, .run, .run, .run, .run, .run, .run, .split 5]) (.c (.s .r .l) .l)) (.s .r (.s (.s .r (.c
 (.s (.eH 7 false ⟨[0,1,2,4,0,16,32,72,255,511,767],[0,1,2,4,0,16,32,72,1,256,640]⟩ [590295810358705651712,1180591620717411303424,2361183241434822606848,4722366482869645213696,9444732965739290427392,
 18889465931478580854784,37778931862957161709568,75557863725914323419136,151115727451828646838272,302231454903657293676544,0] [1,590295810358705651712,1180591620717411303424,2361183241434822606848,2048,9444732965739290427392,
 18889465931478580854784,42501298345826806923264,590295810358705651712,151115727451828646838272,377789318629571617095680] (.take 0 (.take 1 (.take 2 (.take 3 (.take 4 (.take 5 (.take 6 (.tail [.run, .run, .run, .run]))))))))) (.s .r .l))
 .l)) (.s (.s .r (.df (.loop [(82,(.int .i64))] [0,2,3,4,11,80,81] (.s .r (.s (.c .l .l) (.s (.df (.s .r (.s .r (.s (.kK [(15, .slice)] [0,2,3,4,11,13,14,16,80,81,82] (.s .r (.c .r .l))) (.s (.kK [(16, .slice)] [0,2,3,
 4,11,14,15,80,81,82] (.s .r (.c .r .l))) (.s .r bc)))))) .r)))))) (.s .r .l))))))))
theorem W.aqR (j:Option Addr) (no:Int) (level:Int) (low:aa) (high:aa) (w:World) (Q:Value→World→Prop) (h:W.BI j no level low high w Q):aO Tryz.prog F.BI #[.pointer j, .int .i64 no, .int .i64 level, .slice low.a low.len low.cap, .slice high.a high.len high.cap] w Q:=okF A.BI Tryz.func125 (by kernel_rfl) (by kernel_rfl) h
def W.wN (leaf:Bool) (b:aa) (w:World) (Q:Value→World→Prop):Prop:=ay (w.alloc dx) fun ag=>ay (ag.alloc (.cells #[.slice b.a b.len b.cap, .bool true] ah.Ym)) fun aw=>ay (aw.alloc dx) fun aS=>c2 aS
 (ai aw) [.bool leaf, .slice none 0 0, .slice none 0 0, .slice none 0 0]∧(4:Nat)=4∧ay (setCells aS (ai aw) 0 [.bool leaf, .slice none 0 0, .slice none 0 0, .slice none 0 0]) fun bp=>aV F.wK #[.pointer (some (ai
 ag)), .int .i64 1] bp fun n7 bB=>c0 (fun zr:World→Prop=>aA (!leaf) (Sf bB aw ag zr) (zr bB)) (fun dj=>∃ (Xi:Int→World→Prop) (afY:Int→World→Nat),Xi 0 dj∧∀ (n22:Int) (m8:World),Xi n22 m8→aA (decide (n22
 <n7)) (c0 (fun afZ:World→Prop=>ay (m8.drew) fun gd=>∃sk:Nat→Prop,¬sk (Addr.add (ai aw) 1).block∧aq gd (Addr.add (ai aw) 1) fun dM=>dK F.wL #[.pointer (some (ai ag))] gd fun ic fA=>ao sk gd
 fA∧ay (fA.alloc (.cells #[.slice ic.a ic.len ic.cap] ah.cn)) fun gb=>ao sk fA gb∧∃dh:aa,∃e8:World,Sem.run Tryz.prog (Builtin.append_ #[ah.cM,ah.cM] ah.cM #[.slice dM.a dM.len
 dM.cap, .slice (some (ai fA)) 1 1]) gb= .ok (.slice dh.a dh.len dh.cap) e8∧st e8 (Addr.add (ai aw) 1) (.slice dh.a dh.len dh.cap) fun e4=>aA leaf (ay (e4.drew) fun gV=>∃Xj:Nat→Prop,¬Xj (Addr.add (ai aw)
 2).block∧aq gV (Addr.add (ai aw) 2) fun kp=>dK F.wL #[.pointer (some (ai ag))] gV fun eF jR=>ao Xj gV jR∧ay (jR.alloc (.cells #[.slice eF.a eF.len eF.cap] ah.cn)) fun dy=>ao Xj jR dy∧∃m3
 :aa,∃jr:World,Sem.run Tryz.prog (Builtin.append_ #[ah.cM,ah.cM] ah.cM #[.slice kp.a kp.len kp.cap, .slice (some (ai jR)) 1 1]) dy= .ok (.slice m3.a m3.len m3.cap) jr∧st jr (Addr.add (ai aw) 2)
 (.slice m3.a m3.len m3.cap) fun jo=>afZ jo) (Sf e4 aw ag afZ)) (fun fl=>Xi (aD (n22+1)) fl∧afY (aD (n22+1)) fl<afY n22 m8)) (bV m8 (ai aw) fun aua=>aq m8 (Addr.add (ai aw) 1) fun pT=>aq m8 (Addr.add (ai aw)
 2) fun jb=>aq m8 (Addr.add (ai aw) 3) fun ix=>gk F.vg #[.agg #[.bool aua, .slice pT.a pT.len pT.cap, .slice jb.a jb.len jb.cap, .slice ix.a ix.len ix.cap]] m8 fun na aub tj=>∃a64:Addr,(some (ai ag):Option
 Addr)=some a64∧bV tj (a64.add 1) fun uB=>c0 (fun MS:Bool→World→Prop=>aA ((!uB)||(aub !=0)) (MS true tj) (bd F.yw #[.slice na.a na.len na.cap, .slice b.a b.len b.cap] tj fun uC oK=>MS (!uC) oK))
 (fun (auc:Bool) r0=>aA auc (c2 r0 (ai w) [.bool false, .slice none 0 0, .slice none 0 0, .slice none 0 0]∧(4:Nat)=4∧ay (setCells r0 (ai w) 0 [.bool false, .slice none 0 0, .slice none 0 0, .slice none 0 0]) fun tn=>
 Kb tn w Q) (bV r0 (ai aw) fun af0=>aq r0 (Addr.add (ai aw) 1) fun q_=>aq r0 (Addr.add (ai aw) 2) fun qb=>aq r0 (Addr.add (ai aw) 3) fun kA=>c2 r0 (ai w) [.bool af0, .slice q_.a q_.len q_.cap, .slice qb.a qb.len
 qb.cap, .slice kA.a kA.len kA.cap]∧(4:Nat)=4∧ay (setCells r0 (ai w) 0 [.bool af0, .slice q_.a q_.len q_.cap, .slice qb.a qb.len qb.cap, .slice kA.a kA.len kA.cap]) fun sF=>bV sF (ai w) fun qS=>aq sF (Addr.add
 (ai w) 1) fun iY=>aq sF (Addr.add (ai w) 2) fun g5=>aq sF (Addr.add (ai w) 3) fun g6=>Q (.tuple #[.agg #[.bool qS, .slice iY.a iY.len iY.cap, .slice g5.a g5.len g5.cap, .slice g6.a g6.len g6.cap], .int .i64 0]) sF))))
def A.wN:bI:=(.s .r (.s .r (.s .r (.s (.kK [] [0,1,4,6,7,8] (.s .r (.c (.eH 5 true ⟨[0,1,0,4,8,26,63,127],[0,1,0,4,8,18,0,96]⟩ [1048576,2097152,4194304,8388608,16777216,33554432,67108864,0] [128,
 1048576,64,4194304,8388608,18874368,128,100663296] (.take 0 (.take 1 (.take 2 (.cP 3 (.cP 4 (.tail [.run, .run, .run]))))))) .l))) (.s (.s .r (.df (.loop [(28,(.int .i64))] [0,1,4,6,7,27] (.s .r (.s (.c .l .l) (.s (.kK [] [0,
 1,4,6,7,27,28] (.df (.s (.eH 5 true ⟨[0,1,0,4,8,26,63,127],[0,1,0,4,8,18,0,96]⟩ [1073741824,2147483648,4294967296,8589934592,17179869184,34359738368,68719476736,0] [128,1073741824,64,4294967296,8589934592,
 19327352832,128,103079215104] (.take 0 (.take 1 (.take 2 (.cP 3 (.cP 4 (.tail [.run, .run, .run]))))))) (.s .r (.c (.eH 5 true ⟨[0,1,0,4,8,26,63,127],[0,1,0,4,8,18,0,96]⟩ [274877906944,549755813888,1099511627776,
 2199023255552,4398046511104,8796093022208,17592186044416,0] [128,274877906944,64,1099511627776,2199023255552,4947802324992,128,26388279066624] (.take 0 (.take 1 (.take 2 (.cP 3 (.cP 4 (.tail [.run, .run, .run]))))))) (.eH 5
 true ⟨[0,1,0,4,8,26,63,127],[0,1,0,4,8,18,0,96]⟩ [35184372088832,70368744177664,140737488355328,281474976710656,562949953421312,1125899906842624,2251799813685248,0] [128,35184372088832,64,140737488355328,
 281474976710656,633318697598976,128,3377699720527872] (.take 0 (.take 1 (.take 2 (.cP 3 (.cP 4 (.tail [.run, .run, .run])))))))))))) .r)))))) (.s .r (.s (.s (.gi [.run, .run, .run, .run, .run, .run, .pure 2, .run, .run, .run, .split
 4]) (.c (.s .r .l) .l)) (.s .r .l))))))))
theorem W.aiZ (leaf:Bool) (b:aa) (w:World) (Q:Value→World→Prop) (h:W.wN leaf b w Q):aO Tryz.prog F.wN #[.bool leaf, .slice b.a b.len b.cap] w Q:=okF A.wN Tryz.func129 (by kernel_rfl) (by kernel_rfl) h
def W.u3 (b:aa) (w:World) (Q:Value→World→Prop):Prop:=ay (w.drew) fun ag=>((0:Int)≤20∧20≤((b.cap:Nat):Int))∧((0:Int)≤24∧24≤(b.len:Int))∧ay (ag.alloc (.cells #[.slice (bh b.a 1 0 b.cap)
 ((Int.toNat 20)-0) (b.cap-0), .slice (bh b.a 1 (Int.toNat 24) b.cap) (b.len-(Int.toNat 24)) (b.cap-(Int.toNat 24))] ah.cn)) fun aw=>ng F.Ct #[.slice (some (ai ag)) 2 2] aw fun n5 aS=>Q (.int .u32 n5) aS
def A.u3:bI:=(.s .r (.s (.eH 4 false ⟨[0,1,0,4,10,16,63],[0,1,0,4,10,16,32]⟩ [8,16,32,64,128,256,4] [1,8,1,32,80,128,256] (.take 0 (.take 1 (.take 2 (.take 3 (.tail [.run, .run, .run])))))) .l))
theorem W.aid (b:aa) (w:World) (Q:Value→World→Prop) (h:W.u3 b w Q):aO Tryz.prog F.u3 #[.slice b.a b.len b.cap] w Q:=okF A.u3 Tryz.func130 (by kernel_rfl) (by kernel_rfl) h
def W.rv (b:aa) (k7:Int) (Q_:Int) (w:World) (Q:Value→World→Prop):Prop:=NQ F.sX #[.slice b.a b.len b.cap, .int .i64 k7, .int .i64 (aD (Q_-k7))] w fun bm e7 ag=>Q (.int .u64 bm) ag
def A.rv:bI:=a4
theorem W.ail (b:aa) (k7:Int) (Q_:Int) (w:World) (Q:Value→World→Prop) (h:W.rv b k7 Q_ w Q):aO Tryz.prog F.rv #[.slice b.a b.len b.cap, .int .i64 k7, .int .i64 Q_] w Q:=okF A.rv Tryz.func131 (by kernel_rfl) (by kernel_rfl) h
def W.GR (kc:Int) (w:World) (Q:Value→World→Prop):Prop:=Q (.bool ((decide (kc≥1))&&(decide (kc≤4)))) w
def A.GR:bI:=(.s .r a3)
theorem W.X4 (kc:Int) (w:World) (Q:Value→World→Prop) (h:W.GR kc w Q):aO Tryz.prog F.GR #[.int .i64 kc] w Q:=okF A.GR Tryz.func132 (by kernel_rfl) (by kernel_rfl) h
def W.yt (b:aa) (w:World) (Q:Value→World→Prop):Prop:=∃ (fP:Int→World→Prop) (ia:Int→World→Nat),fP 0 w∧∀ (bm:Int) (bp:World),fP bm bp→aA (decide (bm<(b.len:Int))) (∃a5:Addr,b.a=some a5∧a6
 bm b.len∧iE bp (a5.add (Int.toNat bm*1)) fun n6=>aA (n6 !=0) (Q (.bool false) bp) (fP (aD (bm+1)) bp∧ia (aD (bm+1)) bp<ia bm bp)) (Q (.bool true) bp)
def A.yt:bI:=(.s .r (.s (.s .r (.df (.loop [(7,(.int .i64))] [5,6] mz))) (.s .r .l)))
theorem W.aim (b:aa) (w:World) (Q:Value→World→Prop) (h:W.yt b w Q):aO Tryz.prog F.yt #[.slice b.a b.len b.cap] w Q:=okF A.yt Tryz.func133 (by kernel_rfl) (by kernel_rfl) h
def W.GS (no:Int) (w:World) (Q:Value→World→Prop):Prop:=Q (.bool ((decide (no≥0))&&(decide (no<1600)))) w
def A.GS:bI:=(.s .r a3)
theorem W.X3 (no:Int) (w:World) (Q:Value→World→Prop) (h:W.GS no w Q):aO Tryz.prog F.GS #[.int .i64 no] w Q:=okF A.GS Tryz.func134 (by kernel_rfl) (by kernel_rfl) h
def W.ym (b:aa) (k7:Int) (size:Int) (w:World) (Q:Value→World→Prop):Prop:=E7 F.uZ #[.slice b.a b.len b.cap, .int .i64 k7, .int .i64 size] w fun b1 e7 ag=>dK F.mm #[.slice b1.a b1.len
 b1.cap] ag fun hC bB=>Q (.tuple #[.slice hC.a hC.len hC.cap, .bool e7]) bB
def A.ym:bI:=a4
theorem W.ah6 (b:aa) (k7:Int) (size:Int) (w:World) (Q:Value→World→Prop) (h:W.ym b k7 size w Q):aO Tryz.prog F.ym #[.slice b.a b.len b.cap, .int .i64 k7, .int .i64 size] w Q:=okF A.ym Tryz.func135 (by kernel_rfl) (by kernel_rfl) h
def W.y4 (s:Option Addr) (no:Int) (w:World) (Q:Value→World→Prop):Prop:=c0 (fun dB:Bool→World→Prop=>aA ((!(Option.isNone s))&&(decide (no≥0))) (∃cW:Addr,s=some cW∧bK w cW fun bm=>dB (decide
 (no<bm)) w) (dB false w)) (fun (e7:Bool) bB=>Q (.bool e7) bB)
def A.y4:bI:=(.s .r (.s (.gi [.run, .run, .run, .pure 2, .run, .run, .run, .split 6]) .l))
theorem W.alR (s:Option Addr) (no:Int) (w:World) (Q:Value→World→Prop) (h:W.y4 s no w Q):aO Tryz.prog F.y4 #[.pointer s, .int .i64 no] w Q:=okF A.y4 Tryz.func138 (by kernel_rfl) (by kernel_rfl) h
def W.sZ (parts:aa) (w:World) (Q:Value→World→Prop):Prop:=∃ (fP:aa→Int→World→Prop) (ia:aa→Int→World→Nat),fP ⟨none,0,0⟩ 0 w∧∀ (b1:aa) (fI:Int) (bB:World),fP b1 fI bB→aA (decide (fI<
 (parts.len:Int))) (∃g0:Addr,parts.a=some g0∧a6 fI parts.len∧aq bB (g0.add (Int.toNat fI*1)) fun hC=>∃ez:aa,∃bY:World,Sem.run Tryz.prog (Builtin.append_ #[ah.cn,ah.cn] ah.cn #[.slice b1.a b1.len
 b1.cap, .slice hC.a hC.len hC.cap]) bB= .ok (.slice ez.a ez.len ez.cap) bY∧fP ez (aD (fI+1)) bY∧ia ez (aD (fI+1)) bY<ia b1 fI bB) (Q (.slice b1.a b1.len b1.cap) bB)
def A.sZ:bI:=(.s .r (.s .r (.s (.s .r (.df (.loop [(3, .slice),(8,(.int .i64))] [6,7] cW))) (.s .r .l))))
theorem W.ah3 (parts:aa) (w:World) (Q:Value→World→Prop) (h:W.sZ parts w Q):aO Tryz.prog F.sZ #[.slice parts.a parts.len parts.cap] w Q:=okF A.sZ Tryz.func141 (by kernel_rfl) (by kernel_rfl) h
def W.o1 (b:aa) (n:Int) (size:Int) (w:World) (Q:Value→World→Prop):Prop:=dK F.mm #[.slice b.a b.len b.cap] w fun b1 ag=>bd F.GU #[.int .i64 size] ag fun lk bp=>aA (!lk) (Q (.slice b1.a
 b1.len b1.cap) bp) (∃ (Xk:aa→Int→World→Prop) (af1:aa→Int→World→Nat),Xk b1 (aD (size-1)) bp∧∀ (dn:aa) (n10:Int) (cf:World),Xk dn n10 cf→aA (decide (n10≥0)) ((0:Int)≤(aD (8*n10))∧ay (cf.alloc (.cells
 #[.int .u8 (IntKind.wrap .u8 (Int.fdiv n (2^(min (Int.toNat (aD (8*n10))) 64))))] ah.uint8)) fun cy=>∃gO:aa,∃cZ:World,Sem.run Tryz.prog (Builtin.append_ #[ah.cn,ah.cn] ah.cn #[.slice dn.a dn.len dn.cap,
 .slice (some (ai cf)) 1 1]) cy= .ok (.slice gO.a gO.len gO.cap) cZ∧Xk gO (aD (n10-1)) cZ∧af1 gO (aD (n10-1)) cZ<af1 dn n10 cf) (Q (.slice dn.a dn.len dn.cap) cf))
def A.o1:bI:=(.s .r (.s .r (.s bc (.s (.s .r (.df (.loop [(7, .slice),(8,(.int .i64))] [1] (.s (.s .r (.c .l .l)) (.s (.df .r) .r))))) (.s .r .l)))))
theorem W.ahT (b:aa) (n:Int) (size:Int) (w:World) (Q:Value→World→Prop) (h:W.o1 b n size w Q):aO Tryz.prog F.o1 #[.slice b.a b.len b.cap, .int .u64 n, .int .i64 size] w Q:=okF A.o1 Tryz.func142 (by kernel_rfl) (by kernel_rfl) h
def W.Da (c:Option Addr) (no:Int) (w:World) (Q:Value→World→Prop):Prop:=bd F.AK #[.pointer c, .int .i64 no] w fun eM ag=>aA (!eM) (Q (.tuple #[.slice none 0 0, .int .i64 1]) ag) (AM
 F.y1 #[.pointer c, .int .i64 no] ag fun m7 bp=>aA (!(Option.isNone m7)) (∃jn:Addr,m7=some jn∧st bp (jn.add 2) (.bool true) fun bS=>∃a9:Addr,m7=some a9∧aq bS (a9.add 5) fun fi=>dK
 F.mm #[.slice fi.a fi.len fi.cap] bS fun gO cf=>Q (.tuple #[.slice gO.a gO.len gO.cap, .int .i64 0]) cf) (xv F.AL #[.pointer c] bp fun EB n17 cZ=>aA (n17 !=0) (Q (.tuple #[.slice none 0
 0, .int .i64 n17]) cZ) (∃mR:Addr,c=some mR∧∃MQ:Option Addr,cZ.cell? mR=some (.pointer MQ)∧gk F.CY #[.pointer MQ, .int .i64 no] cZ fun e5 n23 cw=>aA (n23 !=0) (Q (.tuple #[.slice none 0 0, .int .i64
 n23]) cw) (∃a24:Addr,EB=some a24∧c2 cw a24 [.bool true, .bool false, .bool true, .int .i64 no, .int .i64 0, .slice e5.a e5.len e5.cap]∧(6:Nat)=6∧ay (setCells cw a24 0 [.bool true, .bool false, .bool true, .int
 .i64 no, .int .i64 0, .slice e5.a e5.len e5.cap]) fun gd=>dK F.mm #[.slice e5.a e5.len e5.cap] gd fun e9 cu=>Q (.tuple #[.slice e9.a e9.len e9.cap, .int .i64 0]) cu))))
def A.Da:bI:=(.s .r (.s bc (.s (.s .r (.s .r jn)) (.s .r (.s bc (.s .r gG))))))
theorem W.alc (c:Option Addr) (no:Int) (w:World) (Q:Value→World→Prop) (h:W.Da c no w Q):aO Tryz.prog F.Da #[.pointer c, .int .i64 no] w Q:=okF A.Da Tryz.func145 (by kernel_rfl) (by kernel_rfl) h
def W.wH (v:aa) (w:World) (Q:Value→World→Prop):Prop:=Q (.bool (decide ((v.len:Int)>24))) w
def A.wH:bI:=(.s .r (.s .r .l))
theorem W.aiE (v:aa) (w:World) (Q:Value→World→Prop) (h:W.wH v w Q):aO Tryz.prog F.wH #[.slice v.a v.len v.cap] w Q:=okF A.wH Tryz.func147 (by kernel_rfl) (by kernel_rfl) h
def W.wI (kc:Int) (w:World) (Q:Value→World→Prop):Prop:=Q (.bool ((decide (kc<0))||(decide (kc≥1600)))) w
def A.wI:bI:=(.s .r a3)
theorem W.aiI (kc:Int) (w:World) (Q:Value→World→Prop) (h:W.wI kc w Q):aO Tryz.prog F.wI #[.int .i64 kc] w Q:=okF A.wI Tryz.func149 (by kernel_rfl) (by kernel_rfl) h
def W.Dl (s:Option Addr) (no:Int) (w:World) (Q:Value→World→Prop):Prop:=bd F.y4 #[.pointer s, .int .i64 no] w fun eM ag=>c0 (fun lH:Bool→World→Prop=>aA eM (∃a5:Addr,s=some a5∧aq
 ag (a5.add 1) fun cK=>bd F.ta #[.slice cK.a cK.len cK.cap, .int .i64 no] ag fun jc a7=>lH jc a7) (lH false ag)) (fun (nZ:Bool) cf=>c0 (fun p2:Bool→World→Prop=>aA nZ (∃gG:Addr,s=some gG∧aq cf
 (gG.add 2) fun dA=>bd F.ta #[.slice dA.a dA.len dA.cap, .int .i64 no] cf fun uP fg=>p2 (!uP) fg) (p2 false cf)) (fun (tG:Bool) dj=>Q (.bool tG) dj))
def A.Dl:bI:=(.s .r (.s (.gi [.run, .run, .run, .run, .split 6, .run, .run, .run, .run, .run, .run, .run, .split 7]) .l))
theorem W.al6 (s:Option Addr) (no:Int) (w:World) (Q:Value→World→Prop) (h:W.Dl s no w Q):aO Tryz.prog F.Dl #[.pointer s, .int .i64 no] w Q:=okF A.Dl Tryz.func152 (by kernel_rfl) (by kernel_rfl) h
def W.Dj (s:Option Addr) (no:Int) (w:World) (Q:Value→World→Prop):Prop:=bd F.y4 #[.pointer s, .int .i64 no] w fun eM ag=>aA (!eM) (Q (.int .i64 1) ag) (∃a4:Addr,s=some a4∧aq ag (a4.add 1)
 fun bH=>bd F.ta #[.slice bH.a bH.len bH.cap, .int .i64 no] ag fun nX bf=>aA (!nX) (Q (.int .i64 6) bf) (∃a9:Addr,s=some a9∧aq bf (a9.add 1) fun fi=>bA F.De #[.slice fi.a fi.len fi.cap, .int .i64 no]
 bf fun cf=>Q (.int .i64 0) cf))
def A.Dj:bI:=lQ
theorem W.al2 (s:Option Addr) (no:Int) (w:World) (Q:Value→World→Prop) (h:W.Dj s no w Q):aO Tryz.prog F.Dj #[.pointer s, .int .i64 no] w Q:=okF A.Dj Tryz.func153 (by kernel_rfl) (by kernel_rfl) h
def W.Dd (c:Option Addr) (no:Int) (w:World) (Q:Value→World→Prop):Prop:=AM F.y1 #[.pointer c, .int .i64 no] w fun hO ag=>c0 (fun lH:Bool→World→Prop=>aA (Option.isNone hO) (lH true ag) (∃
 a5:Addr,hO=some a5∧bK ag (a5.add 4) fun n6=>lH (decide (n6>0)) ag)) (fun (k4:Bool) bS=>aA k4 (Q (.bool false) bS) (∃a9:Addr,hO=some a9∧c2 bS a9 [.bool false, .bool false, .bool false, .int .i64 0, .int .i64 0,
 .slice none 0 0]∧(6:Nat)=6∧ay (setCells bS a9 0 [.bool false, .bool false, .bool false, .int .i64 0, .int .i64 0, .slice none 0 0]) fun bR=>Q (.bool true) bR))
def A.Dd:bI:=(.s .r (.s .r (.s (.s (.gi [.run, .run, .run, .split 5]) (.c (.s .r .l) .l)) (.s .r (.s .r .l)))))
theorem W.alw (c:Option Addr) (no:Int) (w:World) (Q:Value→World→Prop) (h:W.Dd c no w Q):aO Tryz.prog F.Dd #[.pointer c, .int .i64 no] w Q:=okF A.Dd Tryz.func154 (by kernel_rfl) (by kernel_rfl) h
def W.zm (cH:Bool) (bq:aa) (br:aa) (bt:aa) (bn:Int) (w:World) (Q:Value→World→Prop):Prop:=ay (w.alloc (.cells #[.bool cH, .slice bq.a bq.len bq.cap, .slice br.a br.len
 br.cap, .slice bt.a bt.len bt.cap] ah.cO)) fun ag=>bV ag (ai w) fun cI=>aA cI (Q (.tuple #[.int .i64 0, .int .i64 0, .int .i64 0]) ag) (aq ag (Addr.add (ai w) 3) fun b1=>∃a4:Addr,b1.a=some a4∧a6 0 b1.len
 ∧bK ag (a4.add (Int.toNat 0*1)) fun n5=>Q (.tuple #[.int .i64 n5, .int .i64 (aD (bn-1)), .int .i64 0]) ag)
def A.zm:bI:=g2
theorem W.aov (cH:Bool) (bq:aa) (br:aa) (bt:aa) (bn:Int) (w:World) (Q:Value→World→Prop) (h:W.zm cH bq br bt bn w Q):aO Tryz.prog F.zm #[.agg #[.bool cH, .slice bq.a bq.len bq.cap, .slice br.a br.len br.cap, .slice bt.a bt.len bt.cap], .int .i64 bn] w Q:=okF A.zm Tryz.func155 (by kernel_rfl) (by kernel_rfl) h
def W.zl (c:Option Addr) (cH:Bool) (bq:aa) (br:aa) (bt:aa) (up:Option Addr) (w:World) (Q:Value→World→Prop):Prop:=ay (w.alloc (.cells #[.bool cH, .slice bq.a bq.len
 bq.cap, .slice br.a br.len br.cap, .slice bt.a bt.len bt.cap] ah.cO)) fun ag=>c0 (fun dZ:Bool→World→Prop=>aA (Option.isNone up) (dZ true ag) (bV ag (ai w) fun eM=>aq ag (Addr.add (ai w) 1) fun
 cN=>aq ag (Addr.add (ai w) 2) fun bH=>aq ag (Addr.add (ai w) 3) fun cK=>aV F.vf #[.agg #[.bool eM, .slice cN.a cN.len cN.cap, .slice bH.a bH.len bH.cap, .slice cK.a cK.len cK.cap]] ag fun n9 a7=>dZ (decide (n9≥80)) a7))
 (fun (nZ:Bool) cf=>aA nZ (c0 (fun p2:Int→Int→World→Prop=>aA (!(Option.isNone up)) (ay (cf.drew) fun bZ=>∃lQ:Addr,up=some lQ∧¬False∧bK bZ (lQ.add 5) fun n15=>∃p3:Addr,up=some p3∧¬False∧bK
 bZ (p3.add 5) fun n17=>p2 n15 (aD (n17+1)) bZ) (p2 0 0 cf)) (fun (n18:Int) (n19:Int) cw=>bV cw (ai w) fun aud=>aq cw (Addr.add (ai w) 1) fun e5=>aq cw (Addr.add (ai w) 2) fun eA=>aq cw (Addr.add (ai w) 3) fun
 ri=>gk F.sy #[.pointer c, .agg #[.bool aud, .slice e5.a e5.len e5.cap, .slice eA.a eA.len eA.cap, .slice ri.a ri.len ri.cap]] cw fun dM n28 gd=>Q (.tuple #[.slice dM.a dM.len dM.cap, .int .i64 n18, .int
 .i64 n19, .int .i64 n28]) gd)) (∃a29:Addr,up=some a29∧bK cf (a29.add 5) fun n30=>∃n31:Int,∃nv:World,Sem.run Tryz.prog (Builtin.max_ #[ah.int,ah.int] ah.int #[.int .i64 (aD (n30-1)), .int .i64 0]) cf= .ok (.int .i64
 n31) nv∧c0 (fun GV:Int→World→Prop=>∃Jq:Addr,up=some Jq∧bK nv (Jq.add 5) fun n35=>aA (n35==0) (GV 1 nv) (GV n31 nv)) (fun (n36:Int) lu=>∃B6:Addr,up=some B6∧aq lu ((B6.add 1).add 3) fun fY=>
 ∃MH:Addr,fY.a=some MH∧a6 n36 fY.len∧bK lu (MH.add (Int.toNat n36*1)) fun n41=>ay (lu.drew) fun gN=>∃MT:Nat→Prop,∃a44:Addr,c=some a44∧¬MT a44.block∧∃Xl:Option Addr,gN.cell? a44=some
 (.pointer Xl)∧¬MT ((ai w):Addr).block∧bV gN (ai w) fun B8=>(uk F.sw #[.pointer Xl, .int .i64 n41, .bool B8] gN fun qp gh qv iq me dq=>ao MT gN dq∧ay (dq.alloc dx) fun hX=>ao MT dq hX∧Pb
 hX dq qp gh qv iq me Q c n41 w up n36 n31)∧(ay (gN.alloc dx) fun af2=>ao MT gN af2∧uk F.sw #[.pointer Xl, .int .i64 n41, .bool B8] af2 fun aue auf Jt Ju aug auh=>Pb auh gN aue auf Jt Ju
 aug Q c n41 w up n36 n31))))
def A.zl:bI:=(.s .r (.s (.s (.gi [.run, .run, .run, .split 3]) (.c (.s (.kK [(7,(.int .i64)),(8,(.int .i64))] [0,4] (.s .r (.c (.eH 10 false ⟨[0,1,2,4,0,16,32,64,128,15,1023],[0,1,2,4,0,16,32,64,
 128,8,256]⟩ [67108864,134217728,268435456,536870912,1073741824,2147483648,4294967296,8589934592,17179869184,128,256] [4,67108864,134217728,268435456,4,1073741824,2147483648,4294967296,8589934592,536870912,17179869184]
 (.take 0 (.take 1 (.take 2 (.take 3 (.take 4 (.take 5 (.take 6 (.take 7 (.take 8 (.take 9 (.tail [.run])))))))))))) .l))) (.s .r (.s .r .l))) .l)) (.s .r (.s .r (.s (.kK [(10,(.int .i64))] [0,2,4,7] (.s .r (.c .r .l))) (.s .r (.s (.eH
 13 true ⟨[0,1,2,4,0,0,32,88,128,256,256,0,3071,8191],[0,1,2,4,0,0,32,88,128,256,256,0,2560,1024]⟩ [73786976294838206464,147573952589676412928,295147905179352825856,590295810358705651712,1180591620717411303424,
 2361183241434822606848,4722366482869645213696,9444732965739290427392,36893488147419103232,18889465931478580854784,37778931862957161709568,4096,0,512] [1,73786976294838206464,147573952589676412928,295147905179352825856,2048,16,
 2361183241434822606848,6493253913945762168832,9444732965739290427392,36893488147419103232,36893488147419103232,0,18889465931478580858880,37778931862957161709568] (.take 0 (.take 1 (.take 2 (.take 3 (.take 4 (.take 5 (.take 6 (.two 7
 (.take 8 (.take 9 (.take 10 (.cP 11 (.out 12 false (.tail [.run])))))) 11 (.out 7 false (.take 8 (.take 9 (.take 10 (.out 12 false (.tail [.run]))))))))))))))) (.s bc (.s .r (.s (.eH 5 true ⟨[0,0,0,0,13,31],[0,0,0,0,5,10]⟩
 [618970019642690137449562112,1237940039285380274899124224,8192,16384,0,0] [4096,16,0,0,618970019642690137449570304,1237940039285380274899140608] (.take 0 (.take 1 (.two 2 (.cP 3 (.cP 4 (.tail [.run]))) 3 (.cP 2 (.cP 4 (.tail
 [.run]))))))) (.s (.kK [] [0,2,7,13,14] (.s .r (.c (.eH 3 true ⟨[0,0,1,7],[0,0,1,2]⟩ [158456325028528675187087900672,316912650057057350374175801344,0,0] [16,4096,158456325028528675187087908864,
 316912650057057350374175817728] (.take 0 (.take 1 (.cP 2 (.tail [.run]))))) .l))) (.s (.eH 16 true ⟨[0,0,2,4,8,16,0,96,128,0,769,1024,2048,2048,0,24575,65535],[0,0,2,4,8,16,0,96,128,0,769,1024,2048,2048,0,
 20480,8192]⟩ [1267650600228229401496703205376,2535301200456458802993406410752,5070602400912917605986812821504,10141204801825835211973625643008,20282409603651670423947251286016,40564819207303340847894502572032,
 81129638414606681695789005144064,162259276829213363391578010288128,324518553658426726783156020576256,649037107316853453566312041152512,1298074214633706907132624082305024,633825300114114700748351602688,
 2596148429267413814265248164610048,5192296858534827628530496329220096,32768,0,65536] [8192,4,2535301200456458802993406410752,5070602400912917605986812821504,10141204801825835211973625643008,20282409603651670423947251286016,128,
 121694457621910022543683507716096,162259276829213363391578010288128,16384,974823311575508409750964764934144,1298074214633706907132624082305024,633825300114114700748351602688,633825300114114700748351602688,0,
 2596148429267413814265248164642816,5192296858534827628530496329220096] (.take 0 (.take 1 (.take 2 (.take 3 (.take 4 (.take 5 (.take 6 (.take 7 (.take 8 (.take 9 (.two 10 (.take 11 (.take 12 (.take 13 (.cP 14 (.out 15 false (.tail
 [.run])))))) 14 (.cP 10 (.take 11 (.take 12 (.take 13 (.out 15 false (.tail [.run])))))))))))))))))) gG))))))))))))
theorem W.abi (c:Option Addr) (cH:Bool) (bq:aa) (br:aa) (bt:aa) (up:Option Addr) (w:World) (Q:Value→World→Prop) (h:W.zl c cH bq br bt up w Q):aO Tryz.prog F.zl #[.pointer c, .agg #[.bool cH, .slice bq.a bq.len bq.cap, .slice br.a br.len br.cap, .slice bt.a bt.len bt.cap], .pointer up] w Q:=okF A.zl Tryz.func156 (by kernel_rfl) (by kernel_rfl) h
def W.DP (c:Option Addr) (l:aa) (w:World) (Q:Value→World→Prop):Prop:=aA ((l.len:Int)==1) (ay (w.drew) fun ag=>∃cW:Addr,l.a=some cW∧a6 0 l.len∧¬False∧bK ag ((cW.add (Int.toNat 0*2)).add 1) fun
 bm=>∃a4:Addr,c=some a4∧¬False∧∃Bv:Option Addr,ag.cell? a4=some (.pointer Bv)∧∃g0:Addr,Bv=some g0∧¬False∧bK ag (g0.add 4) fun n7=>Q (.tuple #[.int .i64 bm, .int .i64 n7, .int .i64 0]) ag) (∃ir:Addr,c=
 some ir∧∃EA:Option Addr,w.cell? ir=some (.pointer EA)∧∃iM:Addr,EA=some iM∧bK w (iM.add 4) fun n11=>aA (n11==12) (Q (.tuple #[.int .i64 0, .int .i64 0, .int .i64 2]) w) (c0 (fun p2:Int→Int→World→Prop=>ay
 (w.drew) fun bZ=>∃nd:Nat→Prop,∃mz:Addr,l.a=some mz∧a6 1 l.len∧¬nd (mz.add (Int.toNat 1*2)).block∧aq bZ (mz.add (Int.toNat 1*2)) fun dd=>∃yb:Addr,l.a=some yb∧a6 0 l.len∧¬nd ((yb.add
 (Int.toNat 0*2)).add 1).block∧bK bZ ((yb.add (Int.toNat 0*2)).add 1) fun n18=>∃pt:Addr,l.a=some pt∧a6 1 l.len∧¬nd ((pt.add (Int.toNat 1*2)).add 1).block∧bK bZ ((pt.add (Int.toNat 1*2)).add 1) fun n20=>(ay
 (bZ.alloc (.cells #[.slice dd.a dd.len dd.cap] ah.cn)) fun ep=>ao nd bZ ep∧ay (ep.alloc (.cells #[.int .i64 n18, .int .i64 n20] ah.int)) fun dJ=>ao nd ep dJ∧∃DQ:Array Value,(∀cD:World,Sem.run Tryz.prog
 (Instr.build ah.cO #[(1, .slice (some (ai bZ)) 1 1),(3, .slice (some (ai ep)) 2 2)]) cD= .ok (.agg DQ) cD)∧tf F.ur #[.pointer c, .agg DQ] dJ fun n27 n28 gd=>ao nd dJ gd∧p2 n27 n28 gd)∧(ay
 (bZ.alloc (.cells #[.int .i64 n18, .int .i64 n20] ah.int)) fun fG=>ao nd bZ fG∧ay (fG.alloc (.cells #[.slice dd.a dd.len dd.cap] ah.cn)) fun fB=>ao nd fG fB∧∃af3:Array Value,(∀nv:World,Sem.run Tryz.prog
 (Instr.build ah.cO #[(1, .slice (some (ai fG)) 1 1),(3, .slice (some (ai bZ)) 2 2)]) nv= .ok (.agg af3) nv)∧tf F.ur #[.pointer c, .agg af3] fB fun n35 n36 e8=>ao nd fB e8∧p2 n35 n36 e8)) (fun (n37:
 Int) (n38:Int) lM=>ay (lM.drew) fun qZ=>∃a41:Addr,c=some a41∧¬False∧∃af4:Option Addr,qZ.cell? a41=some (.pointer af4)∧∃MP:Addr,af4=some MP∧¬False∧bK qZ (MP.add 4) fun jT=>Q (.tuple #[.int .i64
 n37, .int .i64 (aD (jT+1)), .int .i64 n38]) qZ)))
def A.DP:bI:=(.s .r (.s (.s .r (.c (.s (.eH 12 false ⟨[0,1,2,4,0,16,32,64,128,256,512,15,4095,8191],[0,1,2,4,0,16,32,64,128,256,512,8,1024,0]⟩ [4096,8192,16384,32768,65536,131072,262144,
 524288,1048576,2097152,4194304,16,32,64] [2,4096,8192,16384,1,65536,131072,262144,524288,1048576,2097152,32768,4194304,0] (.take 0 (.take 1 (.take 2 (.take 3 (.take 4 (.take 5 (.take 6 (.take 7 (.take 8 (.take 9 (.take 10
 (.take 11 (.tail [.run, .run])))))))))))))) .l) .l)) (.s bc (.s (.kK [(7,(.int .i64)),(8,(.int .i64))] [0] (.eH 21 true ⟨[0,0,2,4,8,16,0,64,128,256,0,1024,2048,4096,8704,16416,32769,65536,131072,131072,524287,
 2097151],[0,0,2,4,8,16,0,64,128,256,0,1024,2048,4096,8704,16416,32769,65536,131072,131072,262144,524288]⟩ [4294967296,8589934592,17179869184,34359738368,68719476736,137438953472,274877906944,549755813888,
 1099511627776,2199023255552,4398046511104,8796093022208,17592186044416,35184372088832,70368744177664,140737488355328,281474976710656,2147483648,562949953421312,1125899906842624,128,256] [1,2,8589934592,17179869184,
 34359738368,68719476736,2,274877906944,549755813888,1099511627776,2,4398046511104,8796093022208,17592186044416,37383395344384,70506183131136,140741783322624,281474976710656,2147483648,2147483648,562949953421312,
 1125899906842624] (.take 0 (.take 1 (.take 2 (.take 3 (.take 4 (.take 6 (.take 7 (.take 8 (.take 9 (.take 10 (.take 11 (.take 12 (.take 13 (.two 5 (.cP 14 (.take 15 (.cP 16 (.take 17 (.take 18 (.take 19 (.take 20 (.tail [.run])))))))) 14
 (.cP 5 (.take 15 (.cP 16 (.take 17 (.take 18 (.take 19 (.take 20 (.tail [.run])))))))))))))))))))))))) (.s (.eH 12 false ⟨[0,0,2,4,8,16,32,64,128,0,1,1535,4095],[0,0,2,4,8,16,32,64,128,0,1,256,512]⟩
 [2251799813685248,4503599627370496,9007199254740992,18014398509481984,36028797018963968,72057594037927936,144115188075855872,288230376151711744,576460752303423488,1152921504606846976,16,32,64] [128,1,4503599627370496,
 9007199254740992,18014398509481984,36028797018963968,72057594037927936,144115188075855872,288230376151711744,256,2251799813685248,576460752303423488,1152921504606846976] (.take 0 (.take 1 (.take 2 (.take 3 (.take 4 (.take 5 (.take
 6 (.take 7 (.take 8 (.take 9 (.take 10 (.take 11 (.tail [.run])))))))))))))) .l)))))
theorem W.aoz (c:Option Addr) (l:aa) (w:World) (Q:Value→World→Prop) (h:W.DP c l w Q):aO Tryz.prog F.DP #[.pointer c, .slice l.a l.len l.cap] w Q:=okF A.DP Tryz.func157 (by kernel_rfl) (by kernel_rfl) h
end
end Go.Proofs.YtplieiecebljmaaGreat
