/- Printed by gen.py: functions of the program, each as what must be shown of it. -/
import Derived.Test.YtplieiecebljmaaGreatProg
import Derived.Test.YtplieiecebljmaaGreatKElder2
namespace b7
abbrev bH.s:=bH.seq
abbrev bH.l:=bH.leaf
abbrev bH.c:=bH.cond
abbrev bH.r:=bH.gn []
end b7
namespace Go.Proofs.YtplieiecebljmaaGreat
open Go b7
section
namespace F
abbrev FT:Nat:=6
abbrev yP:Nat:=11
abbrev CH:Nat:=14
abbrev Bm:Nat:=20
abbrev Bf:Nat:=21
abbrev Dz:Nat:=22
abbrev vI:Nat:=23
abbrev vJ:Nat:=24
abbrev ux:Nat:=25
abbrev Be:Nat:=26
abbrev DG:Nat:=27
abbrev vK:Nat:=28
abbrev zn:Nat:=29
abbrev Bq:Nat:=30
abbrev tn:Nat:=31
abbrev CE:Nat:=34
abbrev Bj:Nat:=36
abbrev CJ:Nat:=39
abbrev Al:Nat:=43
abbrev Am:Nat:=44
abbrev Ak:Nat:=45
abbrev th:Nat:=57
abbrev yX:Nat:=58
abbrev yt:Nat:=59
abbrev yA:Nat:=60
abbrev xD:Nat:=61
abbrev Bi:Nat:=62
abbrev xH:Nat:=63
abbrev oI:Nat:=64
abbrev yS:Nat:=65
abbrev yV:Nat:=66
abbrev yU:Nat:=67
abbrev yx:Nat:=68
abbrev zm:Nat:=69
abbrev rU:Nat:=70
abbrev DE:Nat:=71
abbrev DF:Nat:=72
abbrev Bk:Nat:=73
abbrev yT:Nat:=74
abbrev yQ:Nat:=76
abbrev vr:Nat:=78
abbrev CD:Nat:=79
abbrev ye:Nat:=88
abbrev B7:Nat:=99
abbrev s6:Nat:=104
abbrev u9:Nat:=105
abbrev rv:Nat:=106
abbrev nG:Nat:=107
abbrev fE:Nat:=108
abbrev yq:Nat:=109
abbrev zg:Nat:=110
abbrev A4:Nat:=111
abbrev xA:Nat:=112
abbrev ar_:Nat:=113
abbrev C1:Nat:=114
abbrev C2:Nat:=115
abbrev As:Nat:=116
abbrev C0:Nat:=117
abbrev uY:Nat:=118
abbrev l4:Nat:=119
abbrev yn:Nat:=120
abbrev tl:Nat:=121
abbrev CZ:Nat:=122
abbrev wv:Nat:=129
abbrev uR:Nat:=130
abbrev rm:Nat:=131
abbrev Ga:Nat:=132
abbrev yd:Nat:=133
abbrev Gb:Nat:=134
abbrev x7:Nat:=135
abbrev At:Nat:=138
abbrev sO:Nat:=141
abbrev o2:Nat:=142
abbrev CP:Nat:=145
abbrev Cn:Nat:=146
abbrev wj:Nat:=147
abbrev Ce:Nat:=148
abbrev wk:Nat:=149
abbrev Cf:Nat:=150
abbrev u7:Nat:=151
abbrev CY:Nat:=152
abbrev CX:Nat:=153
abbrev CS:Nat:=154
abbrev y_:Nat:=155
abbrev y9:Nat:=156
abbrev Dn:Nat:=157
abbrev yZ:Nat:=158
abbrev AA:Nat:=159
abbrev X0:Nat:=160
abbrev asa:Nat:=161
abbrev wo:Nat:=164
abbrev wq:Nat:=165
abbrev u3:Nat:=166
abbrev yh:Nat:=167
abbrev B5:Nat:=168
abbrev sM:Nat:=169
abbrev uP:Nat:=170
abbrev Gc:Nat:=183
abbrev Ap:Nat:=184
abbrev Aq:Nat:=185
abbrev EA:Nat:=186
abbrev EB:Nat:=187
abbrev CT:Nat:=188
abbrev u0:Nat:=189
abbrev ss:Nat:=190
abbrev qd:Nat:=191
abbrev uc:Nat:=192
abbrev AB:Nat:=193
abbrev z5:Nat:=195
abbrev uZ:Nat:=196
abbrev x8:Nat:=197
abbrev CK:Nat:=204
abbrev CL:Nat:=205
abbrev C_:Nat:=206
abbrev yj:Nat:=207
abbrev CW:Nat:=208
abbrev CR:Nat:=209
abbrev sQ:Nat:=211
abbrev yC:Nat:=213
abbrev CV:Nat:=214
abbrev sT:Nat:=215
end F
namespace ah
abbrev t:Nat:=0
abbrev int:Nat:=3
abbrev bool:Nat:=4
abbrev uint8:Nat:=5
abbrev string:Nat:=9
abbrev asb:Nat:=24
abbrev cd:Nat:=27
abbrev Jt:Nat:=32
abbrev acS:Nat:=37
abbrev cC:Nat:=44
abbrev eR:Nat:=56
abbrev Ih:Nat:=67
abbrev aqK:Nat:=70
abbrev Ph:Nat:=73
abbrev vN:Nat:=75
abbrev fb:Nat:=81
abbrev m3:Nat:=87
abbrev tY:Nat:=96
abbrev Aj:Nat:=97
abbrev NS:Nat:=101
abbrev oL:Nat:=107
abbrev cF:Nat:=125
abbrev E9:Nat:=140
abbrev ua:Nat:=144
abbrev C3:Nat:=150
abbrev Y1:Nat:=160
abbrev rD:Nat:=168
abbrev Kl:Nat:=169
abbrev CU:Nat:=171
abbrev asc:Nat:=204
abbrev ZH:Nat:=206
abbrev Hy:Nat:=241
abbrev vv:Nat:=249
abbrev XH:Nat:=259
end ah
namespace G
end G
def asd:List jW:=[(.ke []),
  (.one (.one .fn)),
  (.one (.one (.int .i64))),
  (.one (.one (.int .i64))),
  (.one (.one .bool)),
  (.one (.one (.int .u8))),
  (.one (.one (.int .u8))),
  (.one (.flat [(.int .i64),(.int .i64), .bool,(.int .u8)])),
  (.one (.flat [(.int .i64),(.int .i64), .bool,(.int .u8)])),
  (.one (.one .str)),
  (.one (.one .str)),
  (.one (.one .str)),
  (.one (.one (.int .u64))),
  (.one (.flat [.str,(.int .u64)])),
  (.one (.flat [.str,(.int .u64)])),
  (.one (.one .ptr)),
  (.one (.one .ptr)),
  (.one (.one .ptr)),
  (.one (.flat [.ptr])),
  (.one (.flat [.ptr])),
  (.one (.one .any)),
  (.one (.one (.int .i32))),
  (.one (.one .slice)),
  (.one (.one .ptr)),
  (.one (.one (.int .i64))),
  (.ke [(.one .ptr),(.one (.int .i64))]),
  (.one (.one .fn)),
  (.one (.one .slice)),
  (.ke [(.one .slice),(.one (.int .i64))]),
  (.one (.one .fn)),
  (.one (.one (.int .u64))),
  (.one (.flat [(.int .i64),(.int .u64), .slice])),
  (.one (.flat [(.int .i64),(.int .u64), .slice])),
  (.one (.one .agg)),
  (.one (.one .agg)),
  (.one (.one .fn)),
  (.one (.one .fn)),
  (.one (.one .agg)),
  (.one (.one .agg)),
  (.one (.one .agg)),
  (.one (.one .agg)),
  (.ke [(.one .agg),(.one (.int .i64))]),
  (.one (.one .fn)),
  (.one (.one .fn)),
  (.one (.one .slice)),
  (.one (.one .fn)),
  (.one (.one .fn)),
  (.one (.one .fn)),
  (.one (.one .fn)),
  (.one (.one .fn)),
  (.one (.one .ptr)),
  (.one (.one .fn)),
  (.ke [(.one .slice),(.one .bool),(.one (.int .i64))]),
  (.one (.one .fn)),
  (.ke [(.one .bool),(.one (.int .i64))]),
  (.one (.one .fn)),
  (.one (.one .slice)),
  (.ke [(.one .slice),(.one (.int .i64))]),
  (.one (.one .fn)),
  (.one (.one .ptr)),
  (.ke [(.one .ptr),(.one .bool)]),
  (.one (.one .fn)),
  (.ke [(.one .ptr),(.one (.int .i64))]),
  (.one (.one .fn)),
  (.one (.one .ptr)),
  (.one (.one .ptr)),
  (.one (.one .agg)),
  (.one (.one .agg)),
  (.one (.one .fn)),
  (.one (.one .fn)),
  (.one (.one .slice)),
  (.one (.one .ptr)),
  (.one (.flat [.slice])),
  (.one (.flat [.slice])),
  (.one (.flat [(.int .i64), .slice, .slice,(.int .i64)])),
  (.one (.flat [(.int .i64), .slice, .slice,(.int .i64)])),
  (.one (.one .fn)),
  (.one (.one .fn)),
  (.one (.one .fn)),
  (.one (.one .fn)),
  (.one (.one .fn)),
  (.one (.one .slice)),
  (.one (.one .fn)),
  (.one (.one .fn)),
  (.one (.one (.int .u16))),
  (.one (.one .fn)),
  (.one (.flat [.slice, .slice])),
  (.one (.flat [.slice, .slice])),
  (.ke [(.one (.int .i64)),(.one (.int .i64))]),
  (.one (.one .fn)),
  (.one (.one .fn)),
  (.one (.one .fn)),
  (.one (.flat [(.int .u8),(.int .u8)])),
  (.one (.flat [(.int .u8),(.int .u8)])),
  (.one (.one .fn)),
  (.one (.one .fn)),
  (.one (.one .slice)),
  (.one (.one .map)),
  (.one (.one .agg)),
  (.one (.one .agg)),
  (.one (.one .agg)),
  (.one (.one .agg)),
  (.one (.one .fn)),
  (.one (.one .fn)),
  (.one (.one (.int .u32))),
  (.one (.one .fn)),
  (.one (.one .agg)),
  (.one (.one .agg)),
  (.one (.one .ptr)),
  (.one (.one .map)),
  (.one (.one .agg)),
  (.one (.one .agg)),
  (.one (.one .fn)),
  (.one (.flat [(.int .i64),(.int .i64),(.int .i64),(.int .u64),(.int .u64),(.int .i64)])),
  (.one (.flat [(.int .i64),(.int .i64),(.int .i64),(.int .u64),(.int .u64),(.int .i64)])),
  (.ke [(.flat [(.int .i64),(.int .i64),(.int .i64),(.int .u64),(.int .u64),(.int .i64)]),(.one (.int .u64)),(.one (.int .i64))]),
  (.one (.one .fn)),
  (.one (.one .fn)),
  (.one (.one .fn)),
  (.ke [(.flat [(.int .i64),(.int .i64),(.int .i64),(.int .u64),(.int .u64),(.int .i64)]),(.one (.int .u64)),(.one (.int .i64))]),
  (.one (.one .fn)),
  (.one (.one .fn)),
  (.ke [(.flat [(.int .i64),(.int .u64), .slice]),(.one (.int .i64))]),
  (.one (.one .fn)),
  (.one (.flat [.bool, .slice, .slice, .slice])),
  (.one (.flat [.bool, .slice, .slice, .slice])),
  (.ke [(.flat [.bool, .slice, .slice, .slice]),(.one .bool)]),
  (.one (.one .fn)),
  (.one (.one .ptr)),
  (.one (.one .fn)),
  (.one (.one .slice)),
  (.one (.flat [.slice, .slice])),
  (.one (.flat [.slice, .slice])),
  (.one (.one .ptr)),
  (.ke [(.one .ptr),(.one (.int .i64))]),
  (.one (.one .fn)),
  (.one (.flat [(.int .i64),(.int .i64),(.int .u64)])),
  (.one (.flat [(.int .i64),(.int .i64),(.int .u64)])),
  (.one (.one .fn)),
  (.one (.one .fn)),
  (.one (.one .slice)),
  (.ke [(.one .slice),(.one (.int .i64))]),
  (.one (.one .fn)),
  (.one (.one .agg)),
  (.one (.one .agg)),
  (.ke [(.one (.int .i64)),(.one .bool)]),
  (.one (.one .fn)),
  (.one (.one .fn)),
  (.one (.one .fn)),
  (.one (.flat [.ptr, .ptr,(.int .u64),(.int .i64),(.int .i64)])),
  (.one (.flat [.ptr, .ptr,(.int .u64),(.int .i64),(.int .i64)])),
  (.one (.one .fn)),
  (.one (.one .fn)),
  (.one (.one .fn)),
  (.ke [(.one .ptr),(.one (.int .i64))]),
  (.one (.one .fn)),
  (.ke [(.one .ptr),(.one (.int .i64))]),
  (.one (.one .fn)),
  (.one (.one .slice)),
  (.one (.flat [.ptr, .slice,(.int .i64)])),
  (.one (.flat [.ptr, .slice,(.int .i64)])),
  (.one (.one .fn)),
  (.one (.one .fn)),
  (.one (.one .fn)),
  (.one (.one .fn)),
  (.one (.one .ptr)),
  (.one (.one .fn)),
  (.one (.flat [.bool, .bool, .bool,(.int .i64),(.int .i64), .slice])),
  (.one (.flat [.bool, .bool, .bool,(.int .i64),(.int .i64), .slice])),
  (.one (.one .slice)),
  (.one (.flat [(.int .i64), .slice, .slice])),
  (.one (.flat [(.int .i64), .slice, .slice])),
  (.one (.one .fn)),
  (.ke [(.one .slice),(.one (.int .i64)),(.one (.int .i64))]),
  (.one (.one .fn)),
  (.one (.one .fn)),
  (.one (.one .ptr)),
  (.one (.one .fn)),
  (.one (.flat [(.int .i64),(.int .i64)])),
  (.one (.flat [(.int .i64),(.int .i64)])),
  (.one (.one .slice)),
  (.one (.one .fn)),
  (.one (.one .fn)),
  (.one (.one .fn)),
  (.one (.one .fn)),
  (.one (.one .fn)),
  (.one (.one .fn)),
  (.ke [(.one .slice),(.one (.int .i64))]),
  (.one (.one .fn)),
  (.one (.one .fn)),
  (.one (.one .fn)),
  (.one (.one (.int .u64))),
  (.one (.one .fn)),
  (.one (.one .fn)),
  (.one (.one .agg)),
  (.one (.one .fn)),
  (.one (.one .fn)),
  (.one (.one .fn)),
  (.ke [(.flat [.bool, .slice, .slice, .slice]),(.one (.int .i64))]),
  (.one (.one .fn)),
  (.one (.one .fn)),
  (.one (.one .fn)),
  (.one (.one .fn)),
  (.one (.one .fn)),
  (.one (.one .ptr)),
  (.one (.flat [.ptr, .slice, .slice])),
  (.one (.flat [.ptr, .slice, .slice])),
  (.ke [(.one (.int .i64)),(.one (.int .i64)),(.one (.int .i64))]),
  (.one (.one .fn)),
  (.one (.one .fn)),
  (.one (.one .fn)),
  (.one (.one .fn)),
  (.one (.one .fn)),
  (.one (.one .fn)),
  (.one (.one .fn)),
  (.one (.one .fn)),
  (.one (.one .ptr)),
  (.one (.flat [.ptr, .slice,(.int .i64)])),
  (.one (.flat [.ptr, .slice,(.int .i64)])),
  (.one (.one .fn)),
  (.one (.one .fn)),
  (.one (.one .fn)),
  (.ke [(.flat [(.int .i64),(.int .i64),(.int .i64),(.int .u64),(.int .u64),(.int .i64)]),(.one (.int .i64)),(.one (.int .u64)),(.one (.int .i64))]),
  (.one (.one .fn)),
  (.one (.one .fn)),
  (.ke [(.one .slice),(.one .bool)]),
  (.one (.one .fn)),
  (.one (.one .fn)),
  (.one (.one .fn)),
  (.one (.one .fn)),
  (.one (.one .fn)),
  (.one (.one .fn)),
  (.one (.one .agg)),
  (.one (.one .agg)),
  (.one (.one .fn)),
  (.one (.one .fn)),
  (.one (.one .fn)),
  (.one (.one .fn)),
  (.one (.one .fn)),
  (.one (.one .fn)),
  (.one (.one .ptr)),
  (.one (.one .slice)),
  (.ke [(.one .slice),(.one (.int .i64)),(.one (.int .i64)),(.one (.int .i64))]),
  (.one (.one .fn)),
  (.one (.one .fn)),
  (.one (.one .fn)),
  (.ke [(.one .slice),(.one (.int .i64))]),
  (.one (.one .fn)),
  (.one (.flat [.slice,(.int .i64)])),
  (.one (.flat [.slice,(.int .i64)])),
  (.one (.one .fn)),
  (.one (.one .fn)),
  (.one (.one .fn)),
  (.one (.one .ptr)),
  (.one (.flat [.slice,(.int .i64)])),
  (.one (.flat [.slice,(.int .i64)])),
  (.one (.one .fn)),
  (.one (.one .ptr)),
  (.one (.flat [.slice, .bool])),
  (.one (.flat [.slice, .bool])),
  (.one (.one .fn)),
  (.one (.one .fn)),
  (.ke [(.one (.int .u64)),(.one .bool)]),
  (.one (.one .fn)),
  (.one (.one .fn)),
  (.one (.one (.int .i64))),
  (.ke [(.one (.int .i64)),(.one (.int .i64))]),
  (.one (.one .fn)),
  (.one (.one .fn)),
  (.one (.one .fn)),
  (.one (.one .fn)),
  (.one (.one .fn)),
  (.one (.one .fn)),
  (.one (.one .fn)),
  (.one (.one .fn)),
  (.ke [(.one .ptr),(.one (.int .i64))]),
  (.one (.one .fn)),
  (.one (.one .fn)),
  (.one (.one .fn)),
  (.one (.one .fn)),
  (.one (.one .fn)),
  (.ke [(.one (.int .i64)),(.one (.int .i64))]),
  (.one (.one .fn)),
  (.one (.one .fn)),
  (.one (.one .fn)),
  (.one (.one .fn)),
  (.one (.one (.int .u64))),
  (.one (.one .fn)),
  (.one (.one .fn)),
  (.one (.one .fn)),
  (.one (.one .ptr)),
  (.one (.one .fn)),
  (.one (.one .fn)),
  (.one (.one .fn)),
  (.one (.one .fn)),
  (.one (.one .ptr)),
  (.one (.one .fn)),
  (.ke [(.flat [.bool, .slice, .slice, .slice]),(.one .slice),(.flat [.bool, .slice, .slice, .slice]),(.one .bool)]),
  (.one (.one .fn)),
  (.one (.one .fn)),
  (.one (.one .fn)),
  (.one (.flat [.ptr, .ptr, .ptr, .str])),
  (.one (.flat [.ptr, .ptr, .ptr, .str])),
  (.one (.one .agg)),
  (.one (.one .agg)),
  (.one (.one .agg)),
  (.one (.one (.int .u8))),
  (.one (.one (.int .u8))),
  (.one (.one .fn)),
  (.one (.one .ptr)),
  (.one (.one (.int .i32))),
  (.one (.one (.int .i32))),
  (.one (.one .agg)),
  (.one (.one .agg)),
  (.one (.one .fn)),
  (.one (.one .ptr))]
def aH:TypeId→jW:=fun t=>asd.getD t (.one (.one .any))
theorem V1:Tryz.prog.follows .mixedOrders=true:=by kernel_rfl
def ai (w:World):Addr:=⟨w.heap.size,0,none⟩
def aC (n:Int):Int:=IntKind.wrap .i64 n
def a8 (n:Int) (k:Nat):Prop:=(0:Int)≤n∧n<((k:Nat):Int)
def aE (c:Bool) (A B:Prop):Prop:=(c=true→A)∧(c=false→B)
def x_:Int:=9223372036854775807
def st (w:World) (A:Addr) (v:Value) (K:World→Prop):Prop:=(∃u:Value,w.cell? A=some u)∧w.frozen? A=false∧ay (w.setCell A v) fun ag=>K ag
def zl (w:World) (z:Obj) (l:List Value) (k:Nat) (K:World→Prop):Prop:=ay (w.alloc z) fun ag=>cM ag (ai w) (Array.toList l.toArray)∧Array.size l.toArray=k∧ay (setCells ag (ai w) 0 (Array.toList l.toArray)) fun aw=>K aw
def NU (s:aa) (n:Int) (w:World) (k:Nat) (K:List Value→Prop):Prop:=∃a:Addr,s.a=some a∧a8 n s.len∧∃l:List Value,ey w (a.add (Int.toNat n*k)) 0 k=some l∧K l
def bd (f:Nat) (a:Array Value) (w:World) (K:World→Prop):Prop:=Calls Tryz.prog f a w fun e w'=>e= .returned (.tuple #[])∧K w'
def bc (f:Nat) (a:Array Value) (w:World) (K:Int→World→Prop):Prop:=Calls Tryz.prog f a w fun e w'=>∃dE:Int,e= .returned (.int .i64 dE)∧K dE w'
def a_ (f:Nat) (a:Array Value) (w:World) (K:Bool→World→Prop):Prop:=Calls Tryz.prog f a w fun e w'=>∃dE:Bool,e= .returned (.bool dE)∧K dE w'
def gu (f:Nat) (a:Array Value) (w:World) (K:aa→Int→World→Prop):Prop:=Calls Tryz.prog f a w fun e w'=>∃dE:aa,∃eD:Int,e= .returned (.tuple #[.slice dE.a dE.len dE.cap, .int .i64 eD])∧K dE eD w'
def dO (f:Nat) (a:Array Value) (w:World) (K:Int→Bool→World→Prop):Prop:=Calls Tryz.prog f a w fun e w'=>∃dE:Int,∃eD:Bool,e= .returned (.tuple #[.int .i64 dE, .bool eD])∧K dE eD w'
def ft (f:Nat) (a:Array Value) (w:World) (K:Bool→aa→aa→aa→Bool→World→Prop):Prop:=Calls Tryz.prog f a w fun e w'=>∃dE:Bool,∃eD:aa,∃g7:aa,∃l1:aa,∃zx:Bool,e= .returned (.tuple #[.agg #[.bool dE, .slice eD.a eD.len eD.cap, .slice g7.a g7.len g7.cap, .slice l1.a l1.len l1.cap], .bool zx])∧K dE eD g7 l1 zx w'
def H6 (f:Nat) (a:Array Value) (w:World) (K:Bool→Int→World→Prop):Prop:=Calls Tryz.prog f a w fun e w'=>∃dE:Bool,∃eD:Int,e= .returned (.tuple #[.bool dE, .int .i64 eD])∧K dE eD w'
def YT (f:Nat) (a:Array Value) (w:World) (K:Array Value→World→Prop):Prop:=Calls Tryz.prog f a w fun e w'=>∃dE:Array Value,e= .returned (.agg dE)∧K dE w'
def xj (f:Nat) (a:Array Value) (w:World) (K:Bool→aa→aa→aa→Int→World→Prop):Prop:=Calls Tryz.prog f a w fun e w'=>∃dE:Bool,∃eD:aa,∃g7:aa,∃l1:aa,∃zx:Int,e= .returned (.tuple #[.agg #[.bool dE, .slice eD.a eD.len eD.cap, .slice g7.a g7.len g7.cap, .slice l1.a l1.len l1.cap], .int .i64 zx])∧K dE eD g7 l1 zx w'
def ji (f:Nat) (a:Array Value) (w:World) (K:Bool→aa→aa→aa→World→Prop):Prop:=Calls Tryz.prog f a w fun e w'=>∃dE:Bool,∃eD:aa,∃g7:aa,∃l1:aa,e= .returned (.agg #[.bool dE, .slice eD.a eD.len eD.cap, .slice g7.a g7.len g7.cap, .slice l1.a l1.len l1.cap])∧K dE eD g7 l1 w'
def dL (f:Nat) (a:Array Value) (w:World) (K:aa→World→Prop):Prop:=Calls Tryz.prog f a w fun e w'=>∃dE:aa,e= .returned (.slice dE.a dE.len dE.cap)∧K dE w'
def HU (f:Nat) (a:Array Value) (w:World) (K:Int→Int→Int→World→Prop):Prop:=Calls Tryz.prog f a w fun e w'=>∃dE:Int,∃eD:Int,∃g7:Int,e= .returned (.tuple #[.int .i64 dE, .int .i64 eD, .int .i64 g7])∧K dE eD g7 w'
def nd (f:Nat) (a:Array Value) (w:World) (K:Int→World→Prop):Prop:=Calls Tryz.prog f a w fun e w'=>∃dE:Int,e= .returned (.int .u32 dE)∧K dE w'
def Ju (f:Nat) (a:Array Value) (w:World) (K:Int→World→Prop):Prop:=Calls Tryz.prog f a w fun e w'=>∃dE:Int,e= .returned (.int .u64 dE)∧K dE w'
def Ex (f:Nat) (a:Array Value) (w:World) (K:aa→Bool→World→Prop):Prop:=Calls Tryz.prog f a w fun e w'=>∃dE:aa,∃eD:Bool,e= .returned (.tuple #[.slice dE.a dE.len dE.cap, .bool eD])∧K dE eD w'
def Zw (f:Nat) (a:Array Value) (w:World) (K:Int→Int→aa→Int→World→Prop):Prop:=Calls Tryz.prog f a w fun e w'=>∃dE:Int,∃eD:Int,∃g7:aa,∃l1:Int,e= .returned (.tuple #[.agg #[.int .i64 dE, .int .u64 eD, .slice g7.a g7.len g7.cap], .int .i64 l1])∧K dE eD g7 l1 w'
def FB (f:Nat) (a:Array Value) (w:World) (K:aa→Int→Int→Int→World→Prop):Prop:=Calls Tryz.prog f a w fun e w'=>∃dE:aa,∃eD:Int,∃g7:Int,∃l1:Int,e= .returned (.tuple #[.slice dE.a dE.len dE.cap, .int .i64 eD, .int .i64 g7, .int .i64 l1])∧K dE eD g7 l1 w'
def Nd (f:Nat) (a:Array Value) (w:World) (K:Int→Bool→World→Prop):Prop:=Calls Tryz.prog f a w fun e w'=>∃dE:Int,∃eD:Bool,e= .returned (.tuple #[.int .u64 dE, .bool eD])∧K dE eD w'
def Ar (f:Nat) (a:Array Value) (w:World) (K:Option Addr→World→Prop):Prop:=Calls Tryz.prog f a w fun e w'=>∃dE:Option Addr,e= .returned (.pointer dE)∧K dE w'
def xc (f:Nat) (a:Array Value) (w:World) (K:Option Addr→Int→World→Prop):Prop:=Calls Tryz.prog f a w fun e w'=>∃dE:Option Addr,∃eD:Int,e= .returned (.tuple #[.pointer dE, .int .i64 eD])∧K dE eD w'
def s_ (f:Nat) (a:Array Value) (w:World) (K:Int→Int→World→Prop):Prop:=Calls Tryz.prog f a w fun e w'=>∃dE:Int,∃eD:Int,e= .returned (.tuple #[.int .i64 dE, .int .i64 eD])∧K dE eD w'
def ZZ (f:Nat) (a:Array Value) (w:World) (K:Bool→aa→aa→aa→aa→Bool→aa→aa→aa→Bool→World→Prop):Prop:=Calls Tryz.prog f a w fun e w'=>∃dE:Bool,∃eD:aa,∃g7:aa,∃l1:aa,∃zx:aa,∃aet:Bool,∃Qd:aa,∃Qe:aa,∃Qf:aa,∃aeu:Bool,e= .returned (.tuple #[.agg #[.bool dE, .slice eD.a eD.len eD.cap, .slice g7.a g7.len g7.cap, .slice l1.a l1.len l1.cap], .slice zx.a zx.len zx.cap, .agg #[.bool aet, .slice Qd.a Qd.len Qd.cap, .slice Qe.a Qe.len Qe.cap, .slice Qf.a Qf.len Qf.cap], .bool aeu])∧K dE eD g7 l1 zx aet Qd Qe Qf aeu w'
def Dp (f:Nat) (a:Array Value) (w:World) (K:Option Addr→Bool→World→Prop):Prop:=Calls Tryz.prog f a w fun e w'=>∃dE:Option Addr,∃eD:Bool,e= .returned (.tuple #[.pointer dE, .bool eD])∧K dE eD w'
def Ay (f:Nat) (a:Array Value) (w:World) (K:Int→aa→aa→Int→World→Prop):Prop:=Calls Tryz.prog f a w fun e w'=>∃dE:Int,∃eD:aa,∃g7:aa,∃l1:Int,e= .returned (.agg #[.int .i64 dE, .slice eD.a eD.len eD.cap, .slice g7.a g7.len g7.cap, .int .i64 l1])∧K dE eD g7 l1 w'
def Po (f:Nat) (a:Array Value) (w:World) (K:aa→Bool→Int→World→Prop):Prop:=Calls Tryz.prog f a w fun e w'=>∃dE:aa,∃eD:Bool,∃g7:Int,e= .returned (.tuple #[.slice dE.a dE.len dE.cap, .bool eD, .int .i64 g7])∧K dE eD g7 w'
def aq (w:World) (A:Addr) (K:aa→Prop):Prop:=∃x:aa,w.cell? A=some (.slice x.a x.len x.cap)∧K x
def bA (w:World) (A:Addr) (K:Int→Prop):Prop:=∃x:Int,w.cell? A=some (.int .i64 x)∧K x
def bP (w:World) (A:Addr) (K:Bool→Prop):Prop:=∃x:Bool,w.cell? A=some (.bool x)∧K x
def iq (w:World) (A:Addr) (K:Int→Prop):Prop:=∃x:Int,w.cell? A=some (.int .u8 x)∧K x
def kF (w:World) (A:Addr) (K:Int→Prop):Prop:=∃x:Int,w.cell? A=some (.int .u64 x)∧K x
def dt:Obj:= .cells #[.bool false, .slice none 0 0, .slice none 0 0, .slice none 0 0] ah.cF
def pD:Obj:= .cells #[.int .u8 0, .int .u8 0, .int .u8 0, .int .u8 0, .int .u8 0, .int .u8 0, .int .u8 0, .int .u8 0, .int .u8 0, .int .u8 0, .int .u8 0, .int .u8 0, .int .u8 0, .int .u8 0, .int .u8 0, .int .u8 0, .int .u8 0, .int .u8 0, .int .u8 0, .int .u8 0, .int .u8 0, .int .u8 0, .int .u8 0, .int .u8 0, .int .u8 0, .int .u8 0, .int .u8 0, .int .u8 0, .int .u8 0, .int .u8 0, .int .u8 0, .int .u8 0, .int .u8 0, .int .u8 0, .int .u8 0, .int .u8 0, .int .u8 0, .int .u8 0, .int .u8 0, .int .u8 0, .int .u8 0, .int .u8 0, .int .u8 0, .int .u8 0, .int .u8 0, .int .u8 0, .int .u8 0, .int .u8 0, .int .u8 0, .int .u8 0, .int .u8 0, .int .u8 0, .int .u8 0, .int .u8 0, .int .u8 0, .int .u8 0, .int .u8 0, .int .u8 0, .int .u8 0, .int .u8 0, .int .u8 0, .int .u8 0, .int .u8 0, .int .u8 0, .int .u8 0, .int .u8 0, .int .u8 0, .int .u8 0, .int .u8 0, .int .u8 0, .int .u8 0, .int .u8 0, .int .u8 0, .int .u8 0, .int .u8 0, .int .u8 0, .int .u8 0, .int .u8 0, .int .u8 0, .int .u8 0, .int .u8 0, .int .u8 0, .int .u8 0, .int .u8 0, .int .u8 0, .int .u8 0, .int .u8 0, .int .u8 0, .int .u8 0, .int .u8 0, .int .u8 0, .int .u8 0, .int .u8 0, .int .u8 0, .int .u8 0, .int .u8 0, .int .u8 0, .int .u8 0, .int .u8 0, .int .u8 0, .int .u8 0, .int .u8 0, .int .u8 0, .int .u8 0, .int .u8 0, .int .u8 0, .int .u8 0, .int .u8 0, .int .u8 0, .int .u8 0, .int .u8 0, .int .u8 0, .int .u8 0, .int .u8 0, .int .u8 0, .int .u8 0, .int .u8 0, .int .u8 0, .int .u8 0, .int .u8 0, .int .u8 0, .int .u8 0, .int .u8 0, .int .u8 0, .int .u8 0, .int .u8 0, .int .u8 0, .int .u8 0, .int .u8 0, .int .u8 0, .int .u8 0, .int .u8 0, .int .u8 0, .int .u8 0, .int .u8 0, .int .u8 0, .int .u8 0, .int .u8 0, .int .u8 0, .int .u8 0, .int .u8 0, .int .u8 0, .int .u8 0, .int .u8 0, .int .u8 0, .int .u8 0, .int .u8 0, .int .u8 0, .int .u8 0, .int .u8 0, .int .u8 0, .int .u8 0, .int .u8 0, .int .u8 0, .int .u8 0, .int .u8 0, .int .u8 0, .int .u8 0, .int .u8 0, .int .u8 0, .int .u8 0, .int .u8 0, .int .u8 0, .int .u8 0, .int .u8 0, .int .u8 0, .int .u8 0, .int .u8 0, .int .u8 0, .int .u8 0, .int .u8 0, .int .u8 0, .int .u8 0, .int .u8 0, .int .u8 0, .int .u8 0, .int .u8 0, .int .u8 0, .int .u8 0, .int .u8 0, .int .u8 0, .int .u8 0, .int .u8 0, .int .u8 0, .int .u8 0, .int .u8 0, .int .u8 0, .int .u8 0, .int .u8 0, .int .u8 0, .int .u8 0, .int .u8 0, .int .u8 0, .int .u8 0, .int .u8 0, .int .u8 0, .int .u8 0, .int .u8 0, .int .u8 0, .int .u8 0, .int .u8 0, .int .u8 0, .int .u8 0, .int .u8 0, .int .u8 0, .int .u8 0, .int .u8 0, .int .u8 0, .int .u8 0, .int .u8 0, .int .u8 0, .int .u8 0, .int .u8 0, .int .u8 0, .int .u8 0, .int .u8 0, .int .u8 0, .int .u8 0, .int .u8 0, .int .u8 0, .int .u8 0, .int .u8 0, .int .u8 0, .int .u8 0, .int .u8 0, .int .u8 0, .int .u8 0, .int .u8 0, .int .u8 0, .int .u8 0, .int .u8 0, .int .u8 0, .int .u8 0, .int .u8 0, .int .u8 0, .int .u8 0, .int .u8 0, .int .u8 0, .int .u8 0, .int .u8 0, .int .u8 0, .int .u8 0, .int .u8 0, .int .u8 0, .int .u8 0, .int .u8 0, .int .u8 0, .int .u8 0, .int .u8 0, .int .u8 0, .int .u8 0, .int .u8 0, .int .u8 0, .int .u8 0, .int .u8 0, .int .u8 0] ah.oL
def yf:Obj:= .cells #[.int .i64 0, .int .u64 0, .slice none 0 0] ah.Jt
def CA:Obj:= .cells #[.slice none 0 0, .int .i64 0] ah.vv
def Lr:Obj:= .cells #[.int .i64 0, .slice none 0 0, .slice none 0 0, .int .i64 0] ah.vN
def U0:Obj:= .cells #[.int .u8 97] ah.uint8
def bj:bH:=(.s .r (.c (.s .r .l) .l))
def kf:bH:=(.s .r (.s (.c .l .l) (.s (.dv (.s .r bj)) .r)))
def tw:bH:=(.s .r (.s (.s .r (.dv (.loop [(8,(.int .i64))] [0,1,7] kf))) (.s .r .l)))
def iH:bH:=(.s .r (.s bj (.s .r .l)))
def lB:bH:=(.s bj (.s .r (.s .r .l)))
def mK:bH:=(.s .r (.s (.dv (.s .r (.c (.s .r .l) bj))) (.s .r (.s .r .l))))
def oA:bH:=(.s (.gn [.run, .run, .run, .run, .split 5]) (.c (.s .r .l) .l))
def cL:bH:=(.s .r (.s (.c .l .l) (.s (.dv (.s .r .r)) .r)))
def e6:bH:=(.s (.gn [.run, .run, .run, .pure 2]) .l)
def dQ:bH:=(.s .r (.s .r (.s .r .l)))
def gS:bH:=(.s (.s (.gn [.run, .run, .run, .run, .run, .pure 2]) (.c .l .l)) (.s (.dv (.s .r oA)) .r))
def ix:bH:=(.s (.gn [.run, .run, .run, .pure 2]) (.c (.s .r .l) .l))
def k5:bH:=(.s .r (.s (.gn [.run, .run, .run, .run, .pure 3]) .l))
def jv:bH:=(.s .r (.s (.gn [.run, .run, .run, .pure 2, .run, .run, .run, .split 7]) .l))
def mL:bH:=(.c (.s .r (.s .r .l)) .l)
def gO:bH:=(.s (.gn [.run, .run, .run, .split 3]) (.c (.s .r .l) .l))
def kz:bH:=(.s (.gn [.run, .run, .run, .pure 3]) (.c (.s .r .l) .l))
theorem okF {f:Nat} {fn:Func} (A:bH) {args:List Value} {w:World} {Q:Value→World→Prop} {p:Prop} (aG:Tryz.prog.funcs[f]? =some fn) (U:F9 fn args.length=true) (ad:p=IJ Tryz.prog aH A fn args w Q) (h:p):aQ Tryz.prog f args.toArray w Q:=arS V1 aG U (Eq.mp ad h)
def JO (pL:World) (dp:World) (aw:World) (Cy:Bool) (Q:Value→World→Prop):Prop:=aq pL (Addr.add (ai dp) 1) fun fA=>aq pL (Addr.add (ai dp) 2) fun ry=>aq pL (Addr.add (ai dp) 3) fun kQ=>cM pL (ai aw)
 [.bool Cy, .slice fA.a fA.len fA.cap, .slice ry.a ry.len ry.cap, .slice kQ.a kQ.len kQ.cap]∧(4:Nat)=4∧ay (setCells pL (ai aw) 0 [.bool Cy, .slice fA.a fA.len fA.cap, .slice ry.a ry.len ry.cap, .slice kQ.a
 kQ.len kQ.cap]) fun wV=>bP wV (ai aw) fun G7=>aq wV (Addr.add (ai aw) 1) fun yI=>aq wV (Addr.add (ai aw) 2) fun jl=>aq wV (Addr.add (ai aw) 3) fun jm=>Q (.tuple #[.agg #[.bool G7, .slice yI.a yI.len
 yI.cap, .slice jl.a jl.len jl.cap, .slice jm.a jm.len jm.cap], .bool true]) wV
def JN (l8:World) (aw:World) (Q:Value→World→Prop) (Cx:Bool):Prop:=aq l8 (Addr.add (ai aw) 1) fun qP=>aq l8 (Addr.add (ai aw) 2) fun yH=>aq l8 (Addr.add (ai aw) 3) fun jk=>Q (.tuple #[.agg #[.bool Cx, .slice
 qP.a qP.len qP.cap, .slice yH.a yH.len yH.cap, .slice jk.a jk.len jk.cap], .bool false]) l8
def NQ (jB:aa) (gv:World) (qb:World) (dp:World) (yE:World→Prop):Prop:=∃g_:aa,∃oJ:World,Sem.run Tryz.prog (Builtin.append_ #[ah.cC,ah.cC] ah.cC #[.slice jB.a jB.len jB.cap,
 .slice (some (ai gv)) 1 1]) qb= .ok (.slice g_.a g_.len g_.cap) oJ∧st oJ (Addr.add (ai dp) 1) (.slice g_.a g_.len g_.cap) fun tU=>yE tU
def cT (kv:World) (dp:World) (uC:Bool) (h9:aa) (hX:aa) (p2:aa) (qk:World) (vY:Bool) (fB:aa) (m8:aa) (ia:aa) (w:World) (key:aa) (aw:World) (Q:Value→World→Prop):Prop:=cM kv (ai dp)
 [.bool uC, .slice h9.a h9.len h9.cap, .slice hX.a hX.len hX.cap, .slice p2.a p2.len p2.cap]∧(4:Nat)=4∧ay (setCells kv (ai dp) 0 [.bool uC, .slice h9.a h9.len h9.cap, .slice hX.a hX.len hX.cap, .slice p2.a p2.len
 p2.cap]) fun e_=>cM e_ (ai qk) [.bool vY, .slice fB.a fB.len fB.cap, .slice m8.a m8.len m8.cap, .slice ia.a ia.len ia.cap]∧(4:Nat)=4∧ay (setCells e_ (ai qk) 0 [.bool vY, .slice fB.a fB.len fB.cap, .slice
 m8.a m8.len m8.cap, .slice ia.a ia.len ia.cap]) fun yD=>c5 (fun yE:World→Prop=>bP yD (ai w) fun yF=>aE (!yF) (ay (yD.drew) fun qO=>∃ER:Nat→Prop,¬ER (Addr.add (ai dp) 1).block∧aq qO (Addr.add (ai dp) 1)
 fun jB=>dL F.l4 #[.slice key.a key.len key.cap] qO fun ob gv=>ao ER qO gv∧ay (gv.alloc (.cells #[.slice ob.a ob.len ob.cap] ah.cd)) fun qb=>ao ER gv qb∧NQ jB gv qb dp yE) (yE
 yD)) (fun sW=>aq sW (Addr.add (ai dp) 1) fun fY=>aq sW (Addr.add (ai qk) 1) fun fZ=>∃gD:aa,∃gL:World,Sem.run Tryz.prog (Builtin.append_ #[ah.cC,ah.cC] ah.cC #[.slice fY.a fY.len fY.cap,
 .slice fZ.a fZ.len fZ.cap]) sW= .ok (.slice gD.a gD.len gD.cap) gL∧st gL (Addr.add (ai dp) 1) (.slice gD.a gD.len gD.cap) fun nJ=>aq nJ (Addr.add (ai dp) 2) fun jj=>aq nJ (Addr.add (ai qk) 2) fun lJ=>∃qc:aa,
 ∃vg:World,Sem.run Tryz.prog (Builtin.append_ #[ah.cC,ah.cC] ah.cC #[.slice jj.a jj.len jj.cap, .slice lJ.a lJ.len lJ.cap]) nJ= .ok (.slice qc.a qc.len qc.cap) vg∧st vg (Addr.add (ai dp) 2)
 (.slice qc.a qc.len qc.cap) fun sg=>aq sg (Addr.add (ai dp) 3) fun kq=>aq sg (Addr.add (ai qk) 3) fun pK=>∃lK:aa,∃sX:World,Sem.run Tryz.prog (Builtin.append_ #[ah.fb,ah.fb] ah.fb #[.slice kq.a kq.len
 kq.cap, .slice pK.a pK.len pK.cap]) sg= .ok (.slice lK.a lK.len lK.cap) sX∧st sX (Addr.add (ai dp) 3) (.slice lK.a lK.len lK.cap) fun wU=>bP wU (ai dp) fun NL=>aq wU (Addr.add (ai dp) 1) fun yG=>aq wU
 (Addr.add (ai dp) 2) fun iO=>aq wU (Addr.add (ai dp) 3) fun iv=>a_ F.nG #[.agg #[.bool NL, .slice yG.a yG.len yG.cap, .slice iO.a iO.len iO.cap, .slice iv.a iv.len iv.cap]] wU fun J7 pL=>aE (!J7) (cM
 pL (ai aw) [.bool false, .slice none 0 0, .slice none 0 0, .slice none 0 0]∧(4:Nat)=4∧ay (setCells pL (ai aw) 0 [.bool false, .slice none 0 0, .slice none 0 0, .slice none 0 0]) fun l8=>bP l8 (ai aw) fun Cx=>JN l8 aw Q
 Cx) (bP pL (ai dp) fun Cy=>JO pL dp aw Cy Q))
def OB (qg:World) (jC:World) (vy:Bool) (lV:aa) (lW:aa) (lX:aa) (xt:Bool) (Q:Value→World→Prop) (c:Option Addr) (gM:Int):Prop:=cM qg (ai jC) [.bool vy, .slice lV.a lV.len lV.cap,
 .slice lW.a lW.len lW.cap, .slice lX.a lX.len lX.cap]∧(4:Nat)=4∧ay (setCells qg (ai jC) 0 [.bool vy, .slice lV.a lV.len lV.cap, .slice lW.a lW.len lW.cap, .slice lX.a lX.len lX.cap]) fun lY=>
 aE (!xt) (Q (.tuple #[.slice none 0 0, .int .i64 0, .int .i64 0, .int .i64 4]) lY) (bP lY (ai jC) fun Fj=>aq lY (Addr.add (ai jC) 1) fun oT=>aq lY (Addr.add (ai jC) 2) fun qV=>aq lY (Addr.add (ai jC) 3) fun
 qW=>gu F.ss #[.pointer c, .agg #[.bool Fj, .slice oT.a oT.len oT.cap, .slice qV.a qV.len qV.cap, .slice qW.a qW.len qW.cap]] lY fun qX Fk Kw=>Q (.tuple #[.slice qX.a qX.len qX.cap, .int
 .i64 gM, .int .i64 (aC (gM+2)), .int .i64 Fk]) Kw)
def KF (dF:World) (c0:World) (zy:Bool) (kg:aa) (fz:aa) (c4:aa) (Qg:World→Prop):Prop:=cM dF (ai c0) [.bool zy, .slice kg.a kg.len kg.cap, .slice fz.a fz.len fz.cap, .slice c4.a c4.len c4.cap]∧(4
 :Nat)=4∧ay (setCells dF (ai c0) 0 [.bool zy, .slice kg.a kg.len kg.cap, .slice fz.a fz.len fz.cap, .slice c4.a c4.len c4.cap]) fun fp=>Qg fp
def cW (nJ:World) (c7:World) (um:Bool) (g_:aa) (gN:aa) (h_:aa) (ot:Nat→Prop) (gL:World) (uo:Bool) (fY:aa) (fZ:aa) (gD:aa) (up:Option Addr) (j_:Int) (w:World) (dp:World) (gM:Int) (Q:Value
 →World→Prop) (c:Option Addr):Prop:=cM nJ (ai c7) [.bool um, .slice g_.a g_.len g_.cap, .slice gN.a gN.len gN.cap, .slice h_.a h_.len h_.cap]∧(4:Nat)=4∧ay (setCells nJ (ai c7) 0 [.bool um, .slice g_.a
 g_.len g_.cap, .slice gN.a gN.len gN.cap, .slice h_.a h_.len h_.cap]) fun xv=>ao ot nJ xv∧cM xv (ai gL) [.bool uo, .slice fY.a fY.len fY.cap, .slice fZ.a fZ.len fZ.cap, .slice gD.a gD.len gD.cap]∧(4:
 Nat)=4∧ay (setCells xv (ai gL) 0 [.bool uo, .slice fY.a fY.len fY.cap, .slice fZ.a fZ.len fZ.cap, .slice gD.a gD.len gD.cap]) fun j6=>c5 (fun Dg:World→Prop=>∃Dh:Addr,up=some Dh∧bA j6 (Dh.add 5) fun xo
 =>aE (decide (j_>xo)) (ay (j6.drew) fun h5=>∃xp:Nat→Prop,¬xp ((ai w):Addr).block∧bP h5 (ai w) fun qM=>aq h5 (Addr.add (ai w) 1) fun iN=>aq h5 (Addr.add (ai w) 2) fun gT=>aq h5 (Addr.add (ai w) 3) fun gU
 =>¬xp ((ai dp):Addr).block∧bP h5 (ai dp) fun AH=>aq h5 (Addr.add (ai dp) 1) fun iO=>aq h5 (Addr.add (ai dp) 2) fun iv=>aq h5 (Addr.add (ai dp) 3) fun ij=>cM h5 (ai c7) [.bool qM, .slice iN.a iN.len
 iN.cap, .slice gT.a gT.len gT.cap, .slice gU.a gU.len gU.cap]∧(4:Nat)=4∧ay (setCells h5 (ai c7) 0 [.bool qM, .slice iN.a iN.len iN.cap, .slice gT.a gT.len gT.cap, .slice gU.a gU.len gU.cap]) fun oq=>ao xp h5
 oq∧KF oq gL AH iO iv ij Dg) (Dg j6)) (fun l8=>ay (l8.drew) fun fH=>∃mD:Nat→Prop,¬mD ((ai c7):Addr).block∧bP fH (ai c7) fun rK=>aq fH (Addr.add (ai c7) 1) fun jk=>aq fH (Addr.add (ai c7) 2) fun
 js=>aq fH (Addr.add (ai c7) 3) fun fA=>∃xq:Addr,up=some xq∧¬mD ((xq.add 1).add 1).block∧aq fH ((xq.add 1).add 1) fun kQ=>∃xr:Addr,kQ.a=some xr∧a8 gM kQ.len∧¬mD (xr.add (Int.toNat gM*
 1)).block∧aq fH (xr.add (Int.toNat gM*1)) fun mE=>¬mD ((ai gL):Addr).block∧bP fH (ai gL) fun y3=>aq fH (Addr.add (ai gL) 1) fun jl=>aq fH (Addr.add (ai gL) 2) fun jm=>aq fH (Addr.add (ai gL) 3) fun
 mF=>(ft F.qd #[.agg #[.bool rK, .slice jk.a jk.len jk.cap, .slice js.a js.len js.cap, .slice fA.a fA.len fA.cap], .slice mE.a mE.len mE.cap, .agg #[.bool y3, .slice jl.a jl.len jl.cap, .slice jm.a
 jm.len jm.cap, .slice mF.a mF.len mF.cap]] fH fun vy lV lW lX xt jC=>ao mD fH jC∧ay (jC.alloc dt) fun qg=>ao mD jC qg∧OB qg jC vy lV lW lX xt Q c gM)∧(ay (fH.alloc dt) fun
 vz=>ao mD fH vz∧ft F.qd #[.agg #[.bool rK, .slice jk.a jk.len jk.cap, .slice js.a js.len js.cap, .slice fA.a fA.len fA.cap], .slice mE.a mE.len mE.cap, .agg #[.bool y3, .slice jl.a jl.len jl.cap,
 .slice jm.a jm.len jm.cap, .slice mF.a mF.len mF.cap]] vz fun AI nx oU oV AJ xu=>ao mD vz xu∧OB xu fH AI nx oU oV AJ Q c gM))
def fg (zz:World) (fU:World) (ag:World) (Q:Value→World→Prop):Prop:=bP zz (ai fU) fun vY=>JO zz fU ag vY Q
def ND (nR:World) (bV:World) (ag:World) (ta:Bool) (Q:Value→World→Prop):Prop:=aq nR (Addr.add (ai bV) 1) fun ly=>aq nR (Addr.add (ai bV) 2) fun rJ=>aq nR (Addr.add (ai bV) 3) fun ig=>cM nR (ai ag)
 [.bool ta, .slice ly.a ly.len ly.cap, .slice rJ.a rJ.len rJ.cap, .slice ig.a ig.len ig.cap]∧(4:Nat)=4∧ay (setCells nR (ai ag) 0 [.bool ta, .slice ly.a ly.len ly.cap, .slice rJ.a rJ.len rJ.cap, .slice ig.a ig.len
 ig.cap]) fun kV=>bP kV (ai ag) fun yF=>aq kV (Addr.add (ai ag) 1) fun ih=>aq kV (Addr.add (ai ag) 2) fun fl=>aq kV (Addr.add (ai ag) 3) fun jB=>Q (.agg #[.bool yF, .slice ih.a ih.len ih.cap, .slice fl.a fl.len
 fl.cap, .slice jB.a jB.len jB.cap]) kV
def tc (dY:World) (bV:World) (nd:Array Value) (l:aa) (w:World) (to:Int) (ag:World) (Q:Value→World→Prop):Prop:=cM dY (ai bV) (Array.toList nd)∧Array.size nd=4∧ay (setCells dY (ai bV) 0
 (Array.toList nd)) fun c0=>∃ (Ff:Int→World→Prop) (Kt:Int→World→Nat),Ff 0 c0∧∀ (kU:Int) (ct:World),Ff kU ct→aE (decide (kU<(l.len:Int))) (∃k4:Addr,l.a=some k4∧a8 kU l.len∧aq ct (k4.add
 (Int.toNat kU*2)) fun fO=>bA ct ((k4.add (Int.toNat kU*2)).add 1) fun oR=>ay (ct.alloc CA) fun cK=>cM cK (ai ct) [.slice fO.a fO.len fO.cap, .int .i64 oR]∧(2:Nat)=2∧ay (setCells cK (ai ct) 0 [.slice
 fO.a fO.len fO.cap, .int .i64 oR]) fun fV=>c5 (fun Da:World→Prop=>aq fV (ai ct) fun c4=>aE (!(Option.isNone c4.a)) (aq fV (Addr.add (ai bV) 1) fun eX=>aq fV (ai ct) fun iF=>ay (fV.alloc (.cells #[.slice iF.a
 iF.len iF.cap] ah.cd)) fun gj=>NQ eX fV gj bV Da) (Da fV)) (fun eG=>aq eG (Addr.add (ai bV) 3) fun fP=>bA eG (Addr.add (ai ct) 1) fun j_=>ay (eG.alloc (.cells #[.int .i64 j_] ah.int)) fun k_=>∃ep:aa,
 ∃mc:World,Sem.run Tryz.prog (Builtin.append_ #[ah.fb,ah.fb] ah.fb #[.slice fP.a fP.len fP.cap, .slice (some (ai eG)) 1 1]) k_= .ok (.slice ep.a ep.len ep.cap) mc∧st mc (Addr.add (ai bV) 3) (.slice ep.a
 ep.len ep.cap) fun ud=>Ff (aC (kU+1)) ud∧Kt (aC (kU+1)) ud<Kt kU ct)) (ay (ct.drew) fun du=>¬False∧aq du (Addr.add (ai bV) 1) fun mY=>¬False∧aq du (Addr.add (ai w) 1) fun hJ=>((0:Int)≤(aC (to-
 1))∧(aC (to-1))≤(hJ.len:Int))∧∃h9:aa,∃jS:World,Sem.run Tryz.prog (Builtin.append_ #[ah.cC,ah.cC] ah.cC #[.slice mY.a mY.len mY.cap, .slice (a3 hJ.a 1 (Int.toNat (aC (to-1))) hJ.cap)
 (hJ.len-(Int.toNat (aC (to-1)))) (hJ.cap-(Int.toNat (aC (to-1))))]) du= .ok (.slice h9.a h9.len h9.cap) jS∧st jS (Addr.add (ai bV) 1) (.slice h9.a h9.len h9.cap) fun hU=>ay (hU.drew) fun dp=>¬False∧aq dp
 (Addr.add (ai bV) 3) fun nu=>¬False∧aq dp (Addr.add (ai w) 3) fun kt=>((0:Int)≤to∧to≤(kt.len:Int))∧∃fB:aa,∃rI:World,Sem.run Tryz.prog (Builtin.append_ #[ah.fb,ah.fb] ah.fb #[.slice nu.a nu.len
 nu.cap, .slice (a3 kt.a 1 (Int.toNat to) kt.cap) (kt.len-(Int.toNat to)) (kt.cap-(Int.toNat to))]) dp= .ok (.slice fB.a fB.len fB.cap) rI∧st rI (Addr.add (ai bV) 3) (.slice fB.a fB.len fB.cap) fun nR=>bP nR (ai
 bV) fun ta=>ND nR bV ag ta Q)
def Cs (Qh:Array Value) (kv:World) (BD:Nat→Prop) (Qi:Array Value) (ag:World) (aw:World) (Q:Value→World→Prop) (ia:aa):Prop:=ji F.fE #[.agg Qh] kv fun aev gN h_ po sE=>ao BD kv sE∧ji
 F.fE #[.agg Qi] sE fun aew zA q7 jj nj=>ao BD sE nj∧cM nj (ai ag) [.bool aev, .slice gN.a gN.len gN.cap, .slice h_.a h_.len h_.cap, .slice po.a po.len po.cap]∧(4:Nat)=4∧ay (setCells nj (ai ag) 0
 [.bool aev, .slice gN.a gN.len gN.cap, .slice h_.a h_.len h_.cap, .slice po.a po.len po.cap]) fun j6=>ao BD nj j6∧cM j6 (ai aw) [.bool aew, .slice zA.a zA.len zA.cap, .slice q7.a q7.len q7.cap, .slice jj.a
 jj.len jj.cap]∧(4:Nat)=4∧ay (setCells j6 (ai aw) 0 [.bool aew, .slice zA.a zA.len zA.cap, .slice q7.a q7.len q7.cap, .slice jj.a jj.len jj.cap]) fun jz=>bP jz (ai ag) fun NK=>aq jz (Addr.add (ai ag) 1) fun qa=>
 aq jz (Addr.add (ai ag) 2) fun kq=>aq jz (Addr.add (ai ag) 3) fun pK=>bP jz (ai aw) fun qM=>aq jz (Addr.add (ai aw) 1) fun iN=>aq jz (Addr.add (ai aw) 2) fun gT=>aq jz (Addr.add (ai aw) 3) fun gU=>Q (.tuple #[.agg
 #[.bool NK, .slice qa.a qa.len qa.cap, .slice kq.a kq.len kq.cap, .slice pK.a pK.len pK.cap], .slice ia.a ia.len ia.cap, .agg #[.bool qM, .slice iN.a iN.len iN.cap, .slice gT.a gT.len gT.cap, .slice gU.a gU.len
 gU.cap], .bool true]) jz
def G0 (cO:World) (ag:World) (Q:Value→World→Prop):Prop:=bP cO (ai ag) fun Ie=>JN cO ag Q Ie
def X6 (ld:World) (a5:World) (ag:World) (Q:Value→World→Prop):Prop:=bP ld (ai a5) fun V2=>ND ld a5 ag V2 Q
def Pk (m9:Nat→Prop) (cK:World) (cu:World) (ee:aa) (kg:aa) (fL:aa) (bq:Int) (m:Option Addr) (Q:Value→World→Prop):Prop:=ao m9 cK cu∧∃c4:aa,∃fp:World,Sem.run Tryz.prog (Builtin.append_
 #[ah.eR,ah.eR] ah.eR #[.slice ee.a ee.len ee.cap, .slice kg.a kg.len kg.cap]) cu= .ok (.slice c4.a c4.len c4.cap) fp∧ao m9 cu fp∧∃iF:aa,∃gj:World,Sem.run Tryz.prog (Builtin.append_
 #[ah.eR,ah.eR] ah.eR #[.slice c4.a c4.len c4.cap, .slice (a3 fL.a 2 (Int.toNat (aC (bq+1))) fL.cap) (fL.len-(Int.toNat (aC (bq+1)))) (fL.cap-(Int.toNat (aC (bq+1))))]) fp= .ok (.slice iF.a
 iF.len iF.cap) gj∧ao m9 fp gj∧∃nU:Addr,m=some nU∧(∃u:Value,gj.cell? nU=some u)∧gj.frozen? nU=false∧ay (gj.setCell nU (.slice iF.a iF.len iF.cap)) fun oQ=>Q (.tuple #[]) oQ
def Pl (pq:Nat→Prop) (rR:World) (tU:World) (rY:aa) (gN:aa) (m5:aa) (bq:Int) (m:Option Addr) (Q:Value→World→Prop):Prop:=ao pq rR tU∧∃po:aa,∃nj:World,Sem.run Tryz.prog (Builtin.append_
 #[ah.eR,ah.eR] ah.eR #[.slice rY.a rY.len rY.cap, .slice gN.a gN.len gN.cap]) tU= .ok (.slice po.a po.len po.cap) nj∧ao pq tU nj∧∃fZ:aa,∃tg:World,Sem.run Tryz.prog (Builtin.append_
 #[ah.eR,ah.eR] ah.eR #[.slice po.a po.len po.cap, .slice (a3 m5.a 2 (Int.toNat bq) m5.cap) (m5.len-(Int.toNat bq)) (m5.cap-(Int.toNat bq))]) nj= .ok (.slice fZ.a fZ.len fZ.cap) tg∧ao pq nj
 tg∧∃Qj:Addr,m=some Qj∧(∃u:Value,tg.cell? Qj=some u)∧tg.frozen? Qj=false∧ay (tg.setCell Qj (.slice fZ.a fZ.len fZ.cap)) fun nJ=>Q (.tuple #[]) nJ
def N8 (b9:World) (w:World) (Q:Value→World→Prop) (gF:Int):Prop:=bP b9 (ai w) fun ju=>aq b9 (Addr.add (ai w) 1) fun gi=>aq b9 (Addr.add (ai w) 2) fun dN=>aq b9 (Addr.add (ai w) 3) fun fc=>Q (.tuple #[.agg #[.bool
 ju, .slice gi.a gi.len gi.cap, .slice dN.a dN.len dN.cap, .slice fc.a fc.len fc.cap], .int .i64 gF]) b9
def X4 (dk:aa) (h6:Int) (fF:World) (a5:World) (uD:Int→World→Prop) (zB:Int→World→Nat):Prop:=∃tx:Addr,dk.a=some tx∧a8 h6 dk.len∧aq fF (tx.add (Int.toNat h6*1)) fun fL=>ay (fF.drew) fun dF
 =>∃wC:Nat→Prop,¬wC (Addr.add (ai a5) 1).block∧aq dF (Addr.add (ai a5) 1) fun ee=>dL F.l4 #[.slice fL.a fL.len fL.cap] dF fun fz cK=>ao wC dF cK∧ay (cK.alloc (.cells #[.slice fz.a
 fz.len fz.cap] ah.cd)) fun mT=>ao wC cK mT∧∃eX:aa,∃e7:World,Sem.run Tryz.prog (Builtin.append_ #[ah.cC,ah.cC] ah.cC #[.slice ee.a ee.len ee.cap, .slice (some (ai cK)) 1 1]) mT=
 .ok (.slice eX.a eX.len eX.cap) e7∧st e7 (Addr.add (ai a5) 1) (.slice eX.a eX.len eX.cap) fun gj=>uD (aC (h6+1)) gj∧zB (aC (h6+1)) gj<zB h6 fF
def X5 (iQ:aa) (xS:Int) (ld:World) (a5:World) (L4:Int→World→Prop) (Qk:Int→World→Nat):Prop:=∃DU:Addr,iQ.a=some DU∧a8 xS iQ.len∧aq ld (DU.add (Int.toNat xS*1)) fun jc=>ay (ld.drew) fun jD
 =>∃V3:Nat→Prop,¬V3 (Addr.add (ai a5) 2).block∧aq jD (Addr.add (ai a5) 2) fun eV=>dL F.l4 #[.slice jc.a jc.len jc.cap] jD fun hJ du=>ao V3 jD du∧ay (du.alloc (.cells #[.slice hJ.a
 hJ.len hJ.cap] ah.cd)) fun nq=>ao V3 du nq∧∃hX:aa,∃hU:World,Sem.run Tryz.prog (Builtin.append_ #[ah.cC,ah.cC] ah.cC #[.slice eV.a eV.len eV.cap, .slice (some (ai du)) 1 1]) nq=
 .ok (.slice hX.a hX.len hX.cap) hU∧st hU (Addr.add (ai a5) 2) (.slice hX.a hX.len hX.cap) fun dp=>L4 (aC (xS+1)) dp∧Qk (aC (xS+1)) dp<Qk xS ld
def GZ (rT:Bool) (p3:Bool→World→Prop) (a5:World) (w:World):Prop:=aE (!rT) (p3 true a5) (bP a5 (ai w) fun BE=>aq a5 (Addr.add (ai w) 1) fun dk=>aq a5 (Addr.add (ai w) 2) fun gz=>aq a5 (Addr.add (ai w) 3) fun dx
 =>a_ F.nG #[.agg #[.bool BE, .slice dk.a dk.len dk.cap, .slice gz.a gz.len gz.cap, .slice dx.a dx.len dx.cap]] a5 fun DA eQ=>p3 (!DA) eQ)
def RC (bF:World) (aw:World) (ag:World) (FD:World→Prop):Prop:=ay (bF.drew) fun bR=>∃V4:Nat→Prop,¬V4 (Addr.add (ai aw) 3).block∧aq bR (Addr.add (ai aw) 3) fun dN=>bc F.wo #[.pointer (some (ai
 ag)), .int .i64 2] bR fun mJ cG=>ao V4 bR cG∧ay (cG.alloc (.cells #[.int .i64 mJ] ah.int)) fun dY=>ao V4 cG dY∧∃dx:aa,∃eQ:World,Sem.run Tryz.prog (Builtin.append_ #[ah.fb,ah.fb] ah.fb #[.slice
 dN.a dN.len dN.cap, .slice (some (ai cG)) 1 1]) dY= .ok (.slice dx.a dx.len dx.cap) eQ∧st eQ (Addr.add (ai aw) 3) (.slice dx.a dx.len dx.cap) fun fF=>FD fF
def Jz (jD:World) (w:World) (Q:Value→World→Prop):Prop:=bP jD (ai w) fun V5=>aq jD (Addr.add (ai w) 1) fun eV=>aq jD (Addr.add (ai w) 2) fun qo=>aq jD (Addr.add (ai w) 3) fun mY=>Q (.tuple #[.agg #[.bool V5,
 .slice eV.a eV.len eV.cap, .slice qo.a qo.len qo.cap, .slice mY.a mY.len mY.cap], .int .i64 4]) jD
def Sb (dx:aa) (fW:aa) (c9:World) (xT:Nat→Prop) (L5:Option Nat) (i:Int) (d:Option Addr) (Q:Value→World→Prop):Prop:=∃fL:aa,∃dF:World,Sem.run Tryz.prog (Builtin.append_ #[ah.tY,
 ah.tY] ah.tY #[.slice dx.a dx.len dx.cap, .slice fW.a fW.len fW.cap]) c9= .ok (.slice fL.a fL.len fL.cap) dF∧ao xT c9 dF∧∃cO:World,Sem.run Tryz.prog (Instr.mapUpdate ah.Aj
 (.map L5) (.int .i64 i) (.slice fL.a fL.len fL.cap)) dF= .ok () cO∧∃oh:Addr,d=some oh∧bA cO (oh.add 6) fun s3=>∃sk:Addr,d=some sk∧st cO (sk.add 6) (.int .i64 (aC (s3+1))) fun cu=>Q (.int .i64 0) cu
def Vi (oR:Int) (cO:World) (dY:World) (gq:Option Addr) (ag:World) (zp:Bool→World→Prop):Prop:=aE (decide (oR≤1)) (bA cO (ai dY) fun zq=>aq cO (Addr.add (ai dY) 1) fun fz=>aq cO (Addr.add (ai dY) 2) fun
 c4=>bA cO (Addr.add (ai dY) 3) fun pX=>a_ F.zn #[.pointer gq, .pointer (some (ai ag)), .agg #[.int .i64 zq, .slice fz.a fz.len fz.cap, .slice c4.a c4.len c4.cap, .int .i64 pX]] cO fun Br e7=>zp (!Br)
 e7) (zp false cO)
def Rm (jc:aa):Prop:=(0:Int)≤(aC (232-(jc.len:Int)))∧((aC (232-(jc.len:Int))):Int)≤(aC (232-(jc.len:Int)))∧((aC (232-(jc.len:Int))):Int)≤x_∧((1:Nat):Int)*(aC (232-(jc.len:Int)))≤
 140737488355328
def Rn (mc:World) (c1:aa) (eG:World) (jE:aa) (jD:World) (jc:aa) (Gd:aa→World→Prop):Prop:=ay (mc.alloc (.cells #[.slice c1.a c1.len c1.cap, .slice (some (ai eG)) (Int.toNat 4) (Int.toNat 4), .slice jE.a
 jE.len jE.cap, .slice (some (ai jD)) (Int.toNat (aC (232-(jc.len:Int)))) (Int.toNat (aC (232-(jc.len:Int))))] ah.cd)) fun ud=>dL F.sO #[.slice (some (ai mc)) 4 4] ud fun hJ du=>Gd hJ du
def Rq (b9:World) (w:World) (Q:Value→World→Prop):Prop:=bA b9 (ai w) fun kT=>kF b9 (Addr.add (ai w) 1) fun gm=>aq b9 (Addr.add (ai w) 2) fun dN=>Q (.tuple #[.agg #[.int .i64 kT, .int .u64 gm, .slice dN.a dN.len
 dN.cap], .int .i64 4]) b9
def R_ (bF:World) (w:World) (IM:List Value) (Q:Value→World→Prop):Prop:=cM bF (ai w) (Array.toList IM.toArray)∧Array.size IM.toArray=256∧ay (setCells bF (ai w) 0 (Array.toList IM.toArray)) fun b9=>∃An:List
 Value,ey b9 (ai w) 0 256=some An∧Q (.agg An.toArray) b9
def OA (kv:World) (dp:World) (vY:Bool) (fB:aa) (m8:aa) (ia:aa) (y5:Int) (Q:Value→World→Prop) (c:Option Addr) (y4:Int) (w:World) (up:Option Addr) (j_:Int) (gM:Int):Prop:=cM kv (ai dp)
 [.bool vY, .slice fB.a fB.len fB.cap, .slice m8.a m8.len m8.cap, .slice ia.a ia.len ia.cap]∧(4:Nat)=4∧ay (setCells kv (ai dp) 0 [.bool vY, .slice fB.a fB.len fB.cap, .slice m8.a m8.len m8.cap, .slice ia.a ia.len
 ia.cap]) fun e_=>aE (y5 !=0) (Q (.tuple #[.slice none 0 0, .int .i64 0, .int .i64 0, .int .i64 y5]) e_) (∃KB:Addr,c=some KB∧aq e_ (KB.add 2) fun pV=>ay (e_.alloc (.cells #[.int .i64 y4] ah.int)) fun Di=>∃ih:
 aa,∃td:World,Sem.run Tryz.prog (Builtin.append_ #[ah.fb,ah.fb] ah.fb #[.slice pV.a pV.len pV.cap, .slice (some (ai e_)) 1 1]) Di= .ok (.slice ih.a ih.len ih.cap) td∧∃qZ:Addr,c=some qZ∧st td (qZ.add
 2) (.slice ih.a ih.len ih.cap) fun gv=>ay (gv.drew) fun c7=>∃ot:Nat→Prop,¬ot ((ai dp):Addr).block∧bP c7 (ai dp) fun um=>aq c7 (Addr.add (ai dp) 1) fun g_=>aq c7 (Addr.add (ai dp) 2) fun gN=>aq c7
 (Addr.add (ai dp) 3) fun h_=>¬ot ((ai w):Addr).block∧bP c7 (ai w) fun uo=>aq c7 (Addr.add (ai w) 1) fun fY=>aq c7 (Addr.add (ai w) 2) fun fZ=>aq c7 (Addr.add (ai w) 3) fun gD=>(ay (c7.alloc dt) fun gL=>ao ot
 c7 gL∧ay (gL.alloc dt) fun nJ=>ao ot gL nJ∧cW nJ c7 um g_ gN h_ ot gL uo fY fZ gD up j_ w dp gM Q c)∧(ay (c7.alloc dt) fun q0=>ao ot c7 q0∧ay (q0.alloc dt) fun Fq=>ao ot q0 Fq∧cW Fq
 q0 um g_ gN h_ ot c7 uo fY fZ gD up j_ w dp gM Q c))
def EV (sF:Bool) (ep:aa) (fS:aa) (eV:aa) (L6:World) (jd:Nat→Prop) (du:World) (uC:Bool) (h9:aa) (hX:aa) (p2:aa) (y6:World) (w:World) (key:aa) (aw:World) (Q:Value→World→Prop):Prop:=ji
 F.fE #[.agg #[.bool sF, .slice ep.a ep.len ep.cap, .slice fS.a fS.len fS.cap, .slice eV.a eV.len eV.cap]] L6 fun ase asf asg ash aex=>ao jd L6 aex∧cT aex du uC h9 hX p2 y6 ase asf asg ash w key aw
 Q
def RM (cG:World) (a5:World) (ji:Array Value) (w:World) (ag:World) (Q:Value→World→Prop):Prop:=cM cG (ai a5) (Array.toList ji)∧Array.size ji=4∧ay (setCells cG (ai a5) 0 (Array.toList ji)) fun bY=>aq
 bY (Addr.add (ai w) 1) fun dk=>∃ (uD:Int→World→Prop) (zB:Int→World→Nat),uD 0 bY∧∀ (h6:Int) (fF:World),uD h6 fF→aE (decide (h6<(dk.len:Int))) (X4 dk h6 fF a5 uD zB) (aq fF (Addr.add (ai w) 2) fun
 iQ=>∃ (L4:Int→World→Prop) (Qk:Int→World→Nat),L4 0 fF∧∀ (xS:Int) (ld:World),L4 xS ld→aE (decide (xS<(iQ.len:Int))) (X5 iQ xS ld a5 L4 Qk) (X6 ld a5 ag Q))
def SE (br:World) (w:World) (Q:Value→World→Prop) (gF:Int):Prop:=cM br (ai w) [.bool false, .slice none 0 0, .slice none 0 0, .slice none 0 0]∧(4:Nat)=4∧ay (setCells br (ai w) 0 [.bool false, .slice none 0 0,
 .slice none 0 0, .slice none 0 0]) fun b9=>N8 b9 w Q gF
end
section
set_option maxRecDepth 100000
def W.oI (a:aa) (b:aa) (w:World) (Q:Value→World→Prop):Prop:=∃di:Int,∃aw:World,Sem.run Tryz.prog (callFunc F.ar_ #[.slice a.a a.len a.cap, .slice b.a b.len b.cap]) w= .ok (.value (.int
 .i64 di)) aw∧Q (.int .i64 di) aw
def A.oI:bH:=(.s .r (.s .r .l))
theorem W.ahL (a:aa) (b:aa) (w:World) (Q:Value→World→Prop) (h:W.oI a b w Q):aQ Tryz.prog F.oI #[.slice a.a a.len a.cap, .slice b.a b.len b.cap] w Q:=okF A.oI Tryz.func64 (by kernel_rfl) (by kernel_rfl) h
def W.yq (s:aa) (i:Int) (j:Int) (w:World) (Q:Value→World→Prop):Prop:=((0:Int)≤(s.len:Int)∧(s.len:Int)≤((s.cap:Nat):Int))∧((0:Int)≤j∧j≤(((Int.toNat (s.len:Int)):Nat):
 Int))∧((0:Int)≤i∧i≤(((Int.toNat j):Nat):Int))∧aE (i==j) (Q (.slice s.a s.len s.cap) w) (ay (w.drew) fun ag=>((0:Int)≤i∧i≤((s.cap:Nat):Int))∧((0:Int)≤j∧j≤(s.len:Int))∧∃s2:aa,∃aZ:World,
 Sem.run Tryz.prog (Builtin.append_ #[ah.cC,ah.cC] ah.cC #[.slice (a3 s.a 1 0 s.cap) ((Int.toNat i)-0) (s.cap-0), .slice (a3 s.a 1 (Int.toNat j) s.cap) (s.len-(Int.toNat j)) (s.cap-(Int.toNat j))]) ag
 = .ok (.slice s2.a s2.len s2.cap) aZ∧((0:Int)≤(s.len:Int)∧(s.len:Int)≤((s2.cap:Nat):Int))∧((0:Int)≤(s2.len:Int)∧(s2.len:Int)≤(((Int.toNat (s.len:Int)):Nat):Int))∧∃ (iq:Value) (bF:World),Sem.run Tryz.prog
 (Builtin.clear_ #[ah.cC] ah.t #[.slice (a3 s2.a 1 (Int.toNat (s2.len:Int)) s2.cap) ((Int.toNat (s.len:Int))-(Int.toNat (s2.len:Int))) (s2.cap-(Int.toNat (s2.len:Int)))]) aZ= .ok iq bF∧Q (.slice s2.a s2.len s2.cap) bF)
def A.yq:bH:=(.s .r (.s .r (.s bj (.s .r (.s (.eS 6 false ⟨[0,0,3,0,0,24,36,127],[0,0,3,0,0,24,36,73]⟩ [1048576,2097152,4194304,8388608,16777216,33554432,67108864,1] [1,2,3145728,
 1,4,25165824,37748736,67108864] (.take 0 (.take 1 (.take 2 (.take 3 (.take 4 (.take 5 (.tail [.run, .run])))))))) (.s .r (.s .r .l)))))))
theorem W.aiG (s:aa) (i:Int) (j:Int) (w:World) (Q:Value→World→Prop) (h:W.yq s i j w Q):aQ Tryz.prog F.yq #[.slice s.a s.len s.cap, .int .i64 i, .int .i64 j] w Q:=okF A.yq Tryz.func109 (by kernel_rfl) (by kernel_rfl) h
def W.C0 (x:Int) (w:World) (Q:Value→World→Prop):Prop:=(0:Int)≤x∧∃cX:UInt8,Sz (ByteArray.mk #[0,1,1,2,1,2,2,3,1,2,2,3,2,3,3,4,1,2,2,3,2,3,3,4,2,3,3,4,3,4,4,5,1,2,
 2,3,2,3,3,4,2,3,3,4,3,4,4,5,2,3,3,4,3,4,4,5,3,4,4,5,4,5,5,6,1,2,2,3,2,3,3,4,2,3,3,4,3,4,4,5,2,3,3,4,3,4,4,5,3,4,4,5,4,5,5,6,2,3,3,4,3,4,4,5,3,4,4,5,4,5,5,6,3,4,
 4,5,4,5,5,6,4,5,5,6,5,6,6,7,1,2,2,3,2,3,3,4,2,3,3,4,3,4,4,5,2,3,3,4,3,4,4,5,3,4,4,5,4,5,5,6,2,3,3,4,3,4,4,5,3,4,4,5,4,5,5,6,3,4,4,5,4,5,5,6,4,5,5,6,5,6,6,7,2,3,
 3,4,3,4,4,5,3,4,4,5,4,5,5,6,3,4,4,5,4,5,5,6,4,5,5,6,5,6,6,7,3,4,4,5,4,5,5,6,4,5,5,6,5,6,6,7,4,5,5,6,5,6,6,7,5,6,6,7,6,7,7,8]) (Int.toNat x)=some cX∧Q (.int .i64 (aC ((cX.toNat
 :Nat):Int))) w
def A.C0:bH:=(.s .r (.s .r .l))
theorem W.als (x:Int) (w:World) (Q:Value→World→Prop) (h:W.C0 x w Q):aQ Tryz.prog F.C0 #[.int .u8 x] w Q:=okF A.C0 Tryz.func117 (by kernel_rfl) (by kernel_rfl) h
def W.l4 (s:aa) (w:World) (Q:Value→World→Prop):Prop:=aE (Option.isNone s.a) (Q (.slice none 0 0) w) (ay (w.alloc (.cells #[] ah.uint8)) fun ag=>∃s2:aa,∃aZ:World,Sem.run Tryz.prog
 (Builtin.append_ #[ah.cd,ah.cd] ah.cd #[.slice (some (ai w)) 0 0, .slice s.a s.len s.cap]) ag= .ok (.slice s2.a s2.len s2.cap) aZ∧Q (.slice s2.a s2.len s2.cap) aZ)
def A.l4:bH:=iH
theorem W.ag4 (s:aa) (w:World) (Q:Value→World→Prop) (h:W.l4 s w Q):aQ Tryz.prog F.l4 #[.slice s.a s.len s.cap] w Q:=okF A.l4 Tryz.func119 (by kernel_rfl) (by kernel_rfl) h
def W.yn (s:aa) (i:Int) (v:aa) (w:World) (Q:Value→World→Prop):Prop:=((0:Int)≤i∧i≤(s.len:Int))∧aE ((v.len:Int)==0) (Q (.slice s.a s.len s.cap) w) (aE (i==(s.len:Int)) (∃s1:aa,
 ∃aw:World,Sem.run Tryz.prog (Builtin.append_ #[ah.cC,ah.cC] ah.cC #[.slice s.a s.len s.cap, .slice v.a v.len v.cap]) w= .ok (.slice s1.a s1.len s1.cap) aw∧Q (.slice s1.a s1.len s1.cap) aw) (aE (decide
 (((aC ((s.len:Int)+(v.len:Int))):Int)>((s.cap:Nat):Int))) (((0:Int)≤i∧i≤((s.cap:Nat):Int))∧∃bQ:aa,∃br:World,Sem.run Tryz.prog (Builtin.append_ #[ah.cC,ah.int] ah.cC #[.slice (a3 s.a 1 0
 s.cap) ((Int.toNat i)-0) (s.cap-0), .int .i64 (aC ((aC ((s.len:Int)+(v.len:Int)))-i))]) w= .ok (.slice bQ.a bQ.len bQ.cap) br∧((0:Int)≤i∧i≤(bQ.len:Int))∧∃eT:Int,∃a4:World,Sem.run Tryz.prog (Builtin.copy_
 #[ah.cC,ah.cC] ah.int #[.slice (a3 bQ.a 1 (Int.toNat i) bQ.cap) (bQ.len-(Int.toNat i)) (bQ.cap-(Int.toNat i)), .slice v.a v.len v.cap]) br= .ok (.int .i64 eT) a4∧ay (a4.drew) fun a5=>((0:Int)≤(aC (i+
 (v.len:Int)))∧(aC (i+(v.len:Int)))≤(bQ.len:Int))∧((0:Int)≤i∧i≤(s.len:Int))∧∃gg:Int,∃bR:World,Sem.run Tryz.prog (Builtin.copy_ #[ah.cC,ah.cC] ah.int #[.slice (a3 bQ.a 1 (Int.toNat (aC (i+
 (v.len:Int)))) bQ.cap) (bQ.len-(Int.toNat (aC (i+(v.len:Int))))) (bQ.cap-(Int.toNat (aC (i+(v.len:Int))))), .slice (a3 s.a 1 (Int.toNat i) s.cap) (s.len-(Int.toNat i)) (s.cap-(Int.toNat i))]) a5= .ok (.int .i64 gg) bR∧Q
 (.slice bQ.a bQ.len bQ.cap) bR) (((0:Int)≤(aC ((s.len:Int)+(v.len:Int)))∧(aC ((s.len:Int)+(v.len:Int)))≤((s.cap:Nat):Int))∧((0:Int)≤(aC (i+(v.len:Int)))∧(aC (i+(v.len:Int)))≤((((Int.toNat (aC ((s.len:Int)+
 (v.len:Int))))-0):Nat):Int))∧∃oY:Bool,∃cq:World,Sem.run Tryz.prog (callFunc F.X0 #[.slice v.a v.len v.cap, .slice (a3 (a3 s.a 1 0 s.cap) 1 (Int.toNat (aC (i+(v.len:Int)))) (s.cap-0))
 (((Int.toNat (aC ((s.len:Int)+(v.len:Int))))-0)-(Int.toNat (aC (i+(v.len:Int))))) ((s.cap-0)-(Int.toNat (aC (i+(v.len:Int)))))]) w= .ok (.value (.bool oY)) cq∧aE (!oY) (ay (cq.drew) fun cG=>((0:Int)≤(aC (i+
 (v.len:Int)))∧(aC (i+(v.len:Int)))≤((((Int.toNat (aC ((s.len:Int)+(v.len:Int))))-0):Nat):Int))∧((0:Int)≤i∧i≤((((Int.toNat (aC ((s.len:Int)+(v.len:Int))))-0):Nat):Int))∧∃xU:Int,∃dy:World,Sem.run
 Tryz.prog (Builtin.copy_ #[ah.cC,ah.cC] ah.int #[.slice (a3 (a3 s.a 1 0 s.cap) 1 (Int.toNat (aC (i+(v.len:Int)))) (s.cap-0)) (((Int.toNat (aC ((s.len:Int)+(v.len:Int))))-0)-(Int.toNat (aC (i+
 (v.len:Int))))) ((s.cap-0)-(Int.toNat (aC (i+(v.len:Int))))), .slice (a3 (a3 s.a 1 0 s.cap) 1 (Int.toNat i) (s.cap-0)) (((Int.toNat (aC ((s.len:Int)+(v.len:Int))))-0)-(Int.toNat i)) ((s.cap-0)-(Int.toNat i))]) cG=
 .ok (.int .i64 xU) dy∧((0:Int)≤i∧i≤((((Int.toNat (aC ((s.len:Int)+(v.len:Int))))-0):Nat):Int))∧∃q8:Int,∃c0:World,Sem.run Tryz.prog (Builtin.copy_ #[ah.cC,ah.cC] ah.int #[.slice (a3 (a3
 s.a 1 0 s.cap) 1 (Int.toNat i) (s.cap-0)) (((Int.toNat (aC ((s.len:Int)+(v.len:Int))))-0)-(Int.toNat i)) ((s.cap-0)-(Int.toNat i)), .slice v.a v.len v.cap]) dy= .ok (.int .i64 q8) c0∧Q (.slice (a3 s.a 1 0 s.cap)
 ((Int.toNat (aC ((s.len:Int)+(v.len:Int))))-0) (s.cap-0)) c0) (((0:Int)≤(s.len:Int)∧(s.len:Int)≤((((Int.toNat (aC ((s.len:Int)+(v.len:Int))))-0):Nat):Int))∧∃h6:Int,∃fF:World,Sem.run Tryz.prog
 (Builtin.copy_ #[ah.cC,ah.cC] ah.int #[.slice (a3 (a3 s.a 1 0 s.cap) 1 (Int.toNat (s.len:Int)) (s.cap-0)) (((Int.toNat (aC ((s.len:Int)+(v.len:Int))))-0)-(Int.toNat (s.len:Int))) ((s.cap-0)-(Int.toNat
 (s.len:Int))), .slice v.a v.len v.cap]) cq= .ok (.int .i64 h6) fF∧((0:Int)≤i∧i≤((((Int.toNat (aC ((s.len:Int)+(v.len:Int))))-0):Nat):Int))∧bd F.asa #[.slice (a3 (a3 s.a 1 0 s.cap) 1
 (Int.toNat i) (s.cap-0)) (((Int.toNat (aC ((s.len:Int)+(v.len:Int))))-0)-(Int.toNat i)) ((s.cap-0)-(Int.toNat i)), .int .i64 (v.len:Int)] fF fun c9=>Q (.slice (a3 s.a 1 0 s.cap) ((Int.toNat (aC ((s.len:Int)+
 (v.len:Int))))-0) (s.cap-0)) c9))))
def A.yn:bH:=(.s .r (.s .r (.s .r (.s bj (.s .r (.s bj (.s (.s .r (.c (.s .r (.s .r (.s (.eS 8 false ⟨[0,0,0,6,9,0,0,96,144],[0,0,0,6,9,0,0,96,144]⟩ [70368744177664,140737488355328,
 281474976710656,562949953421312,1125899906842624,2251799813685248,4503599627370496,9007199254740992,18014398509481984] [512,2,128,422212465065984,633318697598976,1,2,6755399441055744,10133099161583616] (.take 0 (.take 1 (.take
 2 (.take 3 (.take 4 (.take 5 (.take 6 (.take 7 (.tail [.run])))))))))) (.s .r .l)))) .l)) (.s .r (.s (.s .r (.c (.s (.eS 8 false ⟨[0,0,0,6,9,0,0,96,144],[0,0,0,6,9,0,0,96,144]⟩ [590295810358705651712,
 1180591620717411303424,2361183241434822606848,4722366482869645213696,9444732965739290427392,18889465931478580854784,37778931862957161709568,75557863725914323419136,151115727451828646838272] [1,2,128,3541774862152233910272,
 5312662293228350865408,1,2,56668397794435742564352,85002596691653613846528] (.take 0 (.take 1 (.take 2 (.take 3 (.take 4 (.take 5 (.take 6 (.take 7 (.tail [.run])))))))))) (.s .r (.s .r .l))) .l)) dQ)))))))))
theorem W.aiw (s:aa) (i:Int) (v:aa) (w:World) (Q:Value→World→Prop) (h:W.yn s i v w Q):aQ Tryz.prog F.yn #[.slice s.a s.len s.cap, .int .i64 i, .slice v.a v.len v.cap] w Q:=okF A.yn Tryz.func120 (by kernel_rfl) (by kernel_rfl) h
def W.CZ (s:aa) (w:World) (Q:Value→World→Prop):Prop:=aE (Option.isNone s.a) (Q (.slice none 0 0) w) (ay (w.alloc (.cells #[] ah.uint8)) fun ag=>∃s2:aa,∃aZ:World,Sem.run Tryz.prog
 (Builtin.append_ #[ah.Kl,ah.Kl] ah.Kl #[.slice (some (ai w)) 0 0, .slice s.a s.len s.cap]) ag= .ok (.slice s2.a s2.len s2.cap) aZ∧Q (.slice s2.a s2.len s2.cap) aZ)
def A.CZ:bH:=iH
theorem W.alm (s:aa) (w:World) (Q:Value→World→Prop) (h:W.CZ s w Q):aQ Tryz.prog F.CZ #[.slice s.a s.len s.cap] w Q:=okF A.CZ Tryz.func122 (by kernel_rfl) (by kernel_rfl) h
def W.Cn (x:aa) (target:aa) (cmp:rV) (w:World) (Q:Value→World→Prop):Prop:=∃ (gQ:Int→Int→World→Prop) (iS:Int→Int→World→Nat),gQ 0 (x.len:Int) w∧∀ (bq:Int)
 (fT:Int) (bF:World),gQ bq fT bF→aE (decide (bq<fT)) ((0:Int)≤1∧∃ix:Addr,x.a=some ix∧((0:Int)≤(aC (Int.fdiv (IntKind.wrap .u64 (aC (bq+fT))) (2^(min (Int.toNat 1) 64))))∧(aC (Int.fdiv (IntKind.wrap .u64 (aC
 (bq+fT))) (2^(min (Int.toNat 1) 64))))<(x.len:Int))∧aq bF (ix.add (Int.toNat (aC (Int.fdiv (IntKind.wrap .u64 (aC (bq+fT))) (2^(min (Int.toNat 1) 64))))*1)) fun iY=>tL Tryz.prog cmp.f∧Calls Tryz.prog cmp.f (cmp.pre
 ++ #[.slice iY.a iY.len iY.cap, .slice target.a target.len target.cap]++cmp.cap) bF fun zZ b9=>∃gm:Int,zZ= .returned (.int .i64 gm)∧aE (decide (gm<0)) (gQ (aC ((aC (Int.fdiv (IntKind.wrap .u64 (aC (bq+fT))) (2^(min
 (Int.toNat 1) 64))))+1)) fT b9∧iS (aC ((aC (Int.fdiv (IntKind.wrap .u64 (aC (bq+fT))) (2^(min (Int.toNat 1) 64))))+1)) fT b9<iS bq fT bF) (gQ bq (aC (Int.fdiv (IntKind.wrap .u64 (aC (bq+fT))) (2^(min (Int.toNat 1) 64)))) b9
 ∧iS bq (aC (Int.fdiv (IntKind.wrap .u64 (aC (bq+fT))) (2^(min (Int.toNat 1) 64)))) b9<iS bq fT bF)) (c5 (fun Ql:Bool→World→Prop=>aE (decide (bq<(x.len:Int))) (∃iH:Addr,x.a=some iH∧a8 bq x.len∧aq bF (iH.add
 (Int.toNat bq*1)) fun gP=>tL Tryz.prog cmp.f∧Calls Tryz.prog cmp.f (cmp.pre++ #[.slice gP.a gP.len gP.cap, .slice target.a target.len target.cap]++cmp.cap) bF fun V6 dy=>∃nX:Int,V6= .returned (.int .i64 nX)∧
 Ql (nX==0) dy) (Ql false bF)) (fun (uE:Bool) fF=>Q (.tuple #[.int .i64 bq, .bool uE]) fF))
def A.Cn:bH:=(.s .r (.s .r (.s .r (.s (.dv (.loop [(9,(.int .i64)),(10,(.int .i64))] [0,1,2,8] (.s (.s .r (.c .l .l)) (.dv (.s .r (.s .r (.c .r .r))))))) (.s (.gn [.run, .run,
 .run, .run, .run, .split 8]) .l)))))
theorem W.aiP (x:aa) (target:aa) (cmp:rV) (w:World) (Q:Value→World→Prop) (h:W.Cn x target cmp w Q):aQ Tryz.prog F.Cn #[.slice x.a x.len x.cap, .slice target.a target.len target.cap, .func (.func cmp.f) cmp.pre cmp.cap] w Q:=okF A.Cn Tryz.func146 (by kernel_rfl) (by kernel_rfl) h
def W.Ce (s:aa) (f:rV) (w:World) (Q:Value→World→Prop):Prop:=bc F.EA #[.slice s.a s.len s.cap, .func (.func f.f) f.pre f.cap] w fun bq ag=>Q (.bool
 (decide (bq≥0))) ag
def A.Ce:bH:=(.s .r (.s .r .l))
theorem W.ahQ (s:aa) (f:rV) (w:World) (Q:Value→World→Prop) (h:W.Ce s f w Q):aQ Tryz.prog F.Ce #[.slice s.a s.len s.cap, .func (.func f.f) f.pre f.cap] w Q:=okF A.Ce Tryz.func148 (by kernel_rfl) (by kernel_rfl) h
def W.Cf (s:aa) (f:rV) (w:World) (Q:Value→World→Prop):Prop:=bc F.EB #[.slice s.a s.len s.cap, .func (.func f.f) f.pre f.cap] w fun bq ag=>Q (.bool (decide (bq≥0))) ag
def A.Cf:bH:=(.s .r (.s .r .l))
theorem W.ahU (s:aa) (f:rV) (w:World) (Q:Value→World→Prop) (h:W.Cf s f w Q):aQ Tryz.prog F.Cf #[.slice s.a s.len s.cap, .func (.func f.f) f.pre f.cap] w Q:=okF A.Cf Tryz.func150 (by kernel_rfl) (by kernel_rfl) h
def W.u7 (s:aa) (w:World) (Q:Value→World→Prop):Prop:=aE (Option.isNone s.a) (Q (.slice none 0 0) w) (ay (w.alloc (.cells #[] ah.int)) fun ag=>∃s2:aa,∃aZ:World,Sem.run Tryz.prog (Builtin.append_
 #[ah.fb,ah.fb] ah.fb #[.slice (some (ai w)) 0 0, .slice s.a s.len s.cap]) ag= .ok (.slice s2.a s2.len s2.cap) aZ∧Q (.slice s2.a s2.len s2.cap) aZ)
def A.u7:bH:=iH
theorem W.aiM (s:aa) (w:World) (Q:Value→World→Prop) (h:W.u7 s w Q):aQ Tryz.prog F.u7 #[.slice s.a s.len s.cap] w Q:=okF A.u7 Tryz.func151 (by kernel_rfl) (by kernel_rfl) h
def W.yh (a:aa) (b:aa) (w:World) (Q:Value→World→Prop):Prop:=∃s1:ByteArray,∃aw:World,Sem.run Tryz.prog (convert ah.cd ah.string (.slice a.a a.len a.cap)) w= .ok (.string s1) aw∧∃bQ:ByteArray,∃br
 :World,Sem.run Tryz.prog (convert ah.cd ah.string (.slice b.a b.len b.cap)) aw= .ok (.string bQ) br∧Q (.bool (ByteArray.toList s1==ByteArray.toList bQ)) br
def A.yh:bH:=(.s .r (.s .r .l))
theorem W.ahM (a:aa) (b:aa) (w:World) (Q:Value→World→Prop) (h:W.yh a b w Q):aQ Tryz.prog F.yh #[.slice a.a a.len a.cap, .slice b.a b.len b.cap] w Q:=okF A.yh Tryz.func167 (by kernel_rfl) (by kernel_rfl) h
end
section
set_option maxRecDepth 100000
def W.EA (s:aa) (f:rV) (w:World) (Q:Value→World→Prop):Prop:=∃ (gQ:Int→World→Prop) (iS:Int→World→Nat),gQ 0 w∧∀ (bq:Int) (br:World),gQ bq br→aE (decide (bq<(s.len:Int)))
 (∃gS:Addr,s.a=some gS∧a8 bq s.len∧aq br (gS.add (Int.toNat bq*1)) fun c8=>tL Tryz.prog f.f∧Calls Tryz.prog f.f (f.pre++ #[.slice c8.a c8.len c8.cap]++f.cap) br fun uV a5=>∃ju:Bool,uV= .returned (.bool ju)∧
 aE ju (Q (.int .i64 bq) a5) (gQ (aC (bq+1)) a5∧iS (aC (bq+1)) a5<iS bq br)) (Q (.int .i64 (-1)) br)
def A.EA:bH:=tw
theorem W.ahR (s:aa) (f:rV) (w:World) (Q:Value→World→Prop) (h:W.EA s f w Q):aQ Tryz.prog F.EA #[.slice s.a s.len s.cap, .func (.func f.f) f.pre f.cap] w Q:=okF A.EA Tryz.func186 (by kernel_rfl) (by kernel_rfl) h
def W.EB (s:aa) (f:rV) (w:World) (Q:Value→World→Prop):Prop:=∃ (gQ:Int→World→Prop) (iS:Int→World→Nat),gQ 0 w∧∀ (bq:Int) (br:World),gQ bq br→aE (decide (bq<(s.len:Int))) (∃gS:
 Addr,s.a=some gS∧a8 bq s.len∧bA br (gS.add (Int.toNat bq*1)) fun iA=>tL Tryz.prog f.f∧Calls Tryz.prog f.f (f.pre++ #[.int .i64 iA]++f.cap) br fun uV a5=>∃ju:Bool,uV= .returned (.bool ju)∧aE ju (Q (.int .i64
 bq) a5) (gQ (aC (bq+1)) a5∧iS (aC (bq+1)) a5<iS bq br)) (Q (.int .i64 (-1)) br)
def A.EB:bH:=tw
theorem W.ahV (s:aa) (f:rV) (w:World) (Q:Value→World→Prop) (h:W.EB s f w Q):aQ Tryz.prog F.EB #[.slice s.a s.len s.cap, .func (.func f.f) f.pre f.cap] w Q:=okF A.EB Tryz.func187 (by kernel_rfl) (by kernel_rfl) h
def W.AB (s:aa) (w:World) (Q:Value→World→Prop):Prop:=aE (Option.isNone s.a) (Q (.slice none 0 0) w) (ay (w.alloc (.cells #[] ah.cd)) fun ag=>∃s2:aa,∃aZ:World,Sem.run Tryz.prog
 (Builtin.append_ #[ah.cC,ah.cC] ah.cC #[.slice (some (ai w)) 0 0, .slice s.a s.len s.cap]) ag= .ok (.slice s2.a s2.len s2.cap) aZ∧Q (.slice s2.a s2.len s2.cap) aZ)
def A.AB:bH:=iH
theorem W.amt (s:aa) (w:World) (Q:Value→World→Prop) (h:W.AB s w Q):aQ Tryz.prog F.AB #[.slice s.a s.len s.cap] w Q:=okF A.AB Tryz.func193 (by kernel_rfl) (by kernel_rfl) h
end
section
set_option maxRecDepth 100000
def W.yP (n:Int) (w:World) (Q:Value→World→Prop):Prop:=aE ((decide (n<16))||(decide (n>1600))) (Q (.tuple #[.pointer none, .int .i64 1]) w) (((0:Int)≤n∧n≤n∧n≤x_∧((256:Nat):Int)*n≤
 140737488355328)∧ay (w.alloc (.cells (pC Tryz.prog ah.oL (Int.toNat n)) ah.oL)) fun ag=>∃sv:Option Nat,∃aZ:World,Sem.run Tryz.prog (Instr.makeMap ah.Aj none) ag= .ok (.map sv) aZ∧∃gu:
 Array Value,Sem.run Tryz.prog (Instr.build ah.NS #[(1, .slice (some (ai w)) (Int.toNat n) (Int.toNat n)),(2, .map sv)]) aZ= .ok (.agg gu) aZ∧ay (aZ.alloc (.cells gu ah.NS)) fun bF=>∃ix:Addr,(some (ai aZ):Option
 Addr)=some ix∧bd F.CJ #[.pointer (some ix)] bF fun a5=>Q (.tuple #[.pointer (some (ai aZ)), .int .i64 0]) a5)
def A.yP:bH:=(.s .r (.s ix dQ))
theorem W.aj2 (n:Int) (w:World) (Q:Value→World→Prop) (h:W.yP n w Q):aQ Tryz.prog F.yP #[.int .i64 n] w Q:=okF A.yP Tryz.func11 (by kernel_rfl) (by kernel_rfl) h
def W.CH (d:Option Addr) (i:Int) (b:aa) (w:World) (Q:Value→World→Prop):Prop:=a_ F.Al #[.pointer d, .int .i64 i] w fun eJ ag=>aE ((!eJ)||((b.len:Int) !=256)) (Q (.int .i64 1) ag) (∃dQ:Addr,
 d=some dQ∧a_ F.Am #[.pointer (some dQ), .int .i64 2] ag fun kS bF=>aE kS (Q (.int .i64 3) bF) (ay (bF.drew) fun b9=>∃xT:Nat→Prop,∃gO:Addr,d=some gO∧¬xT (gO.add 5).block∧∃L5:Option Nat,b9.cell?
 (gO.add 5)=some (.map L5)∧∃iH:Addr,d=some iH∧¬xT (iH.add 5).block∧∃V7:Option Nat,b9.cell? (iH.add 5)=some (.map V7)∧256≤b.len∧∃lB:Addr,b.a=some lB∧¬xT lB.block∧∃V8:List Value,ey b9
 lB 0 256=some V8∧(∃dx:aa,∃eQ:World,Sem.run Tryz.prog (Instr.lookup ah.Aj (.map V7) (.int .i64 i) false) b9= .ok (.slice dx.a dx.len dx.cap) eQ∧ao xT b9 eQ∧∃fW:aa,∃c9:World,Sem.run
 Tryz.prog (Instr.buildSlice ah.tY 1 #[(0, .agg V8.toArray)]) eQ= .ok (.slice fW.a fW.len fW.cap) c9∧ao xT eQ c9∧Sb dx fW c9 xT L5 i d Q)∧(∃c4:aa,∃fp:World,Sem.run Tryz.prog (Instr.buildSlice
 ah.tY 1 #[(0, .agg V8.toArray)]) b9= .ok (.slice c4.a c4.len c4.cap) fp∧ao xT b9 fp∧∃iF:aa,∃gj:World,Sem.run Tryz.prog (Instr.lookup ah.Aj (.map V7) (.int .i64 i) false) fp= .ok (.slice
 iF.a iF.len iF.cap) gj∧ao xT fp gj∧Sb iF c4 gj xT L5 i d Q)))
def A.CH:bH:=(.s .r (.s (.dv (.s (.gn [.run, .run, .run, .run, .run, .pure 3]) (.c (.s .r .l) bj))) (.s (.eS 16 true ⟨[0,1,2,4,0,0,32,64,128,0,768,0,2048,4096,8192,17408,65535],[0,1,2,4,0,0,32,
 64,128,0,768,0,2048,4096,8192,17408,32792]⟩ [4194304,8388608,16777216,33554432,67108864,134217728,268435456,536870912,1073741824,2147483648,4294967296,8589934592,17179869184,34359738368,68719476736,137438953472,0]
 [1,4194304,8388608,16777216,2,1,134217728,268435456,536870912,2,3221225472,4,8589934592,17179869184,34359738368,73014444032,137539616768] (.take 0 (.take 1 (.take 2 (.take 3 (.take 4 (.take 5 (.take 6 (.take 7 (.take 8
 (.take 9 (.take 11 (.take 12 (.take 13 (.two 10 (.cH 14 (.cH 15 (.tail [.run]))) 14 (.cH 10 (.cH 15 (.tail [.run])))))))))))))))))) (.s .r (.s .r .l)))))
theorem W.ajV (d:Option Addr) (i:Int) (b:aa) (w:World) (Q:Value→World→Prop) (h:W.CH d i b w Q):aQ Tryz.prog F.CH #[.pointer d, .int .i64 i, .slice b.a b.len b.cap] w Q:=okF A.CH Tryz.func14 (by kernel_rfl) (by kernel_rfl) h
def W.Bf (t:Option Addr) (key:aa) (w:World) (Q:Value→World→Prop):Prop:=c5 (fun dR:Bool→World→Prop=>aE (Option.isNone t) (dR true w) (a_ F.th #[.slice key.a key.len key.cap] w fun eW aw=>dR (!eW)
 aw)) (fun (iJ:Bool) a4=>aE iJ (aE (Option.isNone t) (Q (.tuple #[.slice none 0 0, .bool false, .int .i64 1]) a4) (Q (.tuple #[.slice none 0 0, .bool false, .int .i64 0]) a4)) (gu F.yX #[.pointer t, .slice key.a key.len
 key.cap] a4 fun db gm a5=>aE ((gm !=0)||((db.len:Int)==0)) (Q (.tuple #[.slice none 0 0, .bool false, .int .i64 gm]) a5) (∃kz:Addr,db.a=some kz∧((0:Int)≤(aC ((db.len:Int)-1))∧(aC ((db.len:Int)-1))<
 (db.len:Int))∧bP a5 ((kz.add (Int.toNat (aC ((db.len:Int)-1))*6)).add 1) fun DV=>aq a5 (((kz.add (Int.toNat (aC ((db.len:Int)-1))*6)).add 1).add 1) fun gP=>aq a5 (((kz.add (Int.toNat (aC ((db.len:Int)-1))*6)).add
 1).add 2) fun dk=>aq a5 (((kz.add (Int.toNat (aC ((db.len:Int)-1))*6)).add 1).add 3) fun gz=>ay (a5.alloc dt) fun c0=>cM c0 (ai a5) [.bool DV, .slice gP.a gP.len gP.cap, .slice dk.a dk.len dk.cap, .slice gz.a
 gz.len gz.cap]∧(4:Nat)=4∧ay (setCells c0 (ai a5) 0 [.bool DV, .slice gP.a gP.len gP.cap, .slice dk.a dk.len dk.cap, .slice gz.a gz.len gz.cap]) fun eQ=>bP eQ (ai a5) fun tz=>aq eQ (Addr.add (ai a5) 1) fun ek=>
 aq eQ (Addr.add (ai a5) 2) fun fL=>aq eQ (Addr.add (ai a5) 3) fun eU=>dO F.yt #[.agg #[.bool tz, .slice ek.a ek.len ek.cap, .slice fL.a fL.len fL.cap, .slice eU.a eU.len eU.cap], .slice key.a key.len key.cap] eQ
 fun s3 xC cO=>aE (!xC) (Q (.tuple #[.slice none 0 0, .bool false, .int .i64 0]) cO) (aq cO (Addr.add (ai a5) 2) fun fz=>∃L7:Addr,fz.a=some L7∧a8 s3 fz.len∧aq cO (L7.add (Int.toNat s3*1)) fun eX=>Q (.tuple
 #[.slice eX.a eX.len eX.cap, .bool true, .int .i64 0]) cO))))
def A.Bf:bH:=(.s .r (.s (.s (.gn [.run, .run, .run, .split 3]) (.c (.s bj (.s .r .l)) .l)) (.s .r (.s kz (.s .r iH)))))
theorem W.aoP (t:Option Addr) (key:aa) (w:World) (Q:Value→World→Prop) (h:W.Bf t key w Q):aQ Tryz.prog F.Bf #[.pointer t, .slice key.a key.len key.cap] w Q:=okF A.Bf Tryz.func21 (by kernel_rfl) (by kernel_rfl) h
def W.Dz (t:Option Addr) (key:aa) (w:World) (Q:Value→World→Prop):Prop:=c5 (fun dR:Bool→World→Prop=>aE (Option.isNone t) (dR true w) (a_ F.th #[.slice key.a key.len key.cap] w fun eW aw=>dR
 (!eW) aw)) (fun (iJ:Bool) a4=>aE iJ (Q (.tuple #[.bool false, .int .i64 1]) a4) (gu F.yX #[.pointer t, .slice key.a key.len key.cap] a4 fun db gm a5=>aE ((gm !=0)||((db.len:Int)==0)) (Q (.tuple #[.bool false, .int
 .i64 gm]) a5) (∃kz:Addr,db.a=some kz∧((0:Int)≤(aC ((db.len:Int)-1))∧(aC ((db.len:Int)-1))<(db.len:Int))∧bP a5 ((kz.add (Int.toNat (aC ((db.len:Int)-1))*6)).add 1) fun DV=>aq a5 (((kz.add (Int.toNat (aC
 ((db.len:Int)-1))*6)).add 1).add 1) fun gP=>aq a5 (((kz.add (Int.toNat (aC ((db.len:Int)-1))*6)).add 1).add 2) fun dk=>aq a5 (((kz.add (Int.toNat (aC ((db.len:Int)-1))*6)).add 1).add 3) fun gz=>ft F.yA #[.agg
 #[.bool DV, .slice gP.a gP.len gP.cap, .slice dk.a dk.len dk.cap, .slice gz.a gz.len gz.cap], .slice key.a key.len key.cap] a5 fun tz ek fL eU xV c0=>ay (c0.alloc dt) fun oX=>cM oX (ai c0) [.bool tz, .slice
 ek.a ek.len ek.cap, .slice fL.a fL.len fL.cap, .slice eU.a eU.len eU.cap]∧(4:Nat)=4∧ay (setCells oX (ai c0) 0 [.bool tz, .slice ek.a ek.len ek.cap, .slice fL.a fL.len fL.cap, .slice eU.a eU.len eU.cap]) fun cK
 =>aE (!xV) (Q (.tuple #[.bool false, .int .i64 0]) cK) (bP cK (ai c0) fun xC=>aq cK (Addr.add (ai c0) 1) fun fz=>aq cK (Addr.add (ai c0) 2) fun c4=>aq cK (Addr.add (ai c0) 3) fun eX=>bc F.xD #[.pointer t,
 .slice db.a db.len db.cap, .agg #[.bool xC, .slice fz.a fz.len fz.cap, .slice c4.a c4.len c4.cap, .slice eX.a eX.len eX.cap]] cK fun gM e7=>Q (.tuple #[.bool (gM==0), .int .i64 gM]) e7))))
def A.Dz:bH:=(.s .r (.s gO (.s .r (.s kz (.s .r lB)))))
theorem W.aoY (t:Option Addr) (key:aa) (w:World) (Q:Value→World→Prop) (h:W.Dz t key w Q):aQ Tryz.prog F.Dz #[.pointer t, .slice key.a key.len key.cap] w Q:=okF A.Dz Tryz.func22 (by kernel_rfl) (by kernel_rfl) h
def W.vI (t:Option Addr) (ik:aa) (to:aa) (most:Int) (w:World) (Q:Value→World→Prop):Prop:=ay (w.alloc (.cells #[.slice ik.a ik.len ik.cap] ah.cd)) fun ag=>ay (ag.alloc (.cells #[.slice
 to.a to.len to.cap] ah.cd)) fun aw=>ay (aw.alloc (.cells #[.int .i64 most] ah.int)) fun aZ=>aE (Option.isNone t) (Q (.tuple #[.slice none 0 0, .int .i64 1]) aZ) (∃dQ:Addr,t=some dQ∧bA aZ (dQ.add 4) fun eT=>c5 (fun FC:
 Bool→World→Prop=>aE (eT==0) (FC true aZ) (bA aZ (ai aw) fun gF=>FC (decide (gF<1)) aZ)) (fun (nS:Bool) bR=>aE nS (Q (.tuple #[.slice none 0 0, .int .i64 0]) bR) (ay (bR.alloc (.cells #[.slice none 0 0] ah.eR)) fun
 bV=>ay (bV.drew) fun cq=>∃Qm:Nat→Prop,∃kf:Addr,t=some kf∧¬Qm (kf.add 3).block∧bA cq (kf.add 3) fun mJ=>∃mK:Addr,t=some mK∧¬Qm (mK.add 4).block∧bA cq (mK.add 4) fun nX=>¬Qm ((ai w):
 Addr).block∧aq cq (ai w) fun hD=>ao Qm cq cq∧H6 F.Bi #[.pointer t, .int .i64 mJ, .int .i64 nX, .slice hD.a hD.len hD.cap, .func (.func F.xH) #[] #[.pointer (some (ai ag)), .pointer (some (ai w)),
 .pointer (some (ai bR)), .pointer (some (ai aw))]] cq fun vZ V9 fF=>aE (V9 !=0) (Q (.tuple #[.slice none 0 0, .int .i64 V9]) fF) (aq fF (ai bR) fun fO=>Q (.tuple #[.slice fO.a fO.len fO.cap, .int .i64 0]) fF))))
def A.vI:bH:=(.s .r (.s bj (.s (.s (.gn [.run, .run, .run, .run, .run, .run, .split 2]) (.c (.s .r .l) .l)) (.s .r (.s (.eS 16 true ⟨[0,0,2,4,8,0,32,64,128,0,0,1809,2048,4096,4096,16383,65535],[0,0,2,4,
 8,0,32,64,128,0,0,1809,2048,4096,4096,8192,16384]⟩ [33554432,67108864,134217728,268435456,536870912,1073741824,2147483648,4294967296,8589934592,17179869184,34359738368,68719476736,16777216,137438953472,
 274877906944,2048,4096] [1,1,67108864,134217728,268435456,1,1073741824,2147483648,4294967296,32,1248,60699967488,68719476736,16777216,16777216,137438953472,274877906944] (.take 0 (.take 1 (.take 2 (.take 3 (.take 4 (.take
 5 (.take 6 (.take 7 (.take 8 (.take 9 (.cH 10 (.out 11 false (.take 12 (.take 13 (.take 14 (.take 15 (.tail [.run])))))))))))))))))) (.s bj (.s .r .l)))))))
theorem W.apE (t:Option Addr) (ik:aa) (to:aa) (most:Int) (w:World) (Q:Value→World→Prop) (h:W.vI t ik to most w Q):aQ Tryz.prog F.vI #[.pointer t, .slice ik.a ik.len ik.cap, .slice to.a to.len to.cap, .int .i64 most] w Q:=okF A.vI Tryz.func23 (by kernel_rfl) (by kernel_rfl) h
def W.ux (c:Option Addr) (s:Option Addr) (gen:Int) (root:Int) (bl:Int) (w:World) (Q:Value→World→Prop):Prop:=c5 (fun dR:Bool→World→Prop=>aE (((((Option.isNone c)||(Option.isNone s))||(decide
 (bl<0)))||(decide (bl>12)))||(decide (root<0))) (dR true w) (∃cL:Addr,c=some cL∧∃gq:Option Addr,w.cell? cL=some (.pointer gq)∧bc F.Ak #[.pointer gq] w fun iA br=>dR (decide (root≥iA)) br))
 (fun (kS:Bool) b9=>aE (kS||(!((root==0)==(bl==0)))) (Q (.tuple #[.pointer none, .int .i64 1]) b9) (ay (b9.alloc (.cells #[.pointer c, .pointer s, .int .u64 gen, .int .i64 root, .int .i64 bl] ah.C3)) fun bR=>Q
 (.tuple #[.pointer (some (ai b9)), .int .i64 0]) bR))
def A.ux:bH:=(.s .r (.s (.s (.gn [.run, .run, .run, .pure 2, .run, .run, .run, .pure 2, .run, .run, .run, .pure 2, .run, .run, .run, .pure 2, .run, .run, .run, .split 7, .run, .run, .run, .run, .run, .run, .run, .run, .pure 5])
 (.c (.s .r .l) .l)) (.s .r .l)))
theorem W.ap5 (c:Option Addr) (s:Option Addr) (gen:Int) (root:Int) (bl:Int) (w:World) (Q:Value→World→Prop) (h:W.ux c s gen root bl w Q):aQ Tryz.prog F.ux #[.pointer c, .pointer s, .int .u64 gen, .int .i64 root, .int .i64 bl] w Q:=okF A.ux Tryz.func25 (by kernel_rfl) (by kernel_rfl) h
def W.Be (t:Option Addr) (key:aa) (val:aa) (w:World) (Q:Value→World→Prop):Prop:=c5 (fun dR:Bool→World→Prop=>aE (Option.isNone t) (dR true w) (a_ F.th #[.slice key.a key.len key.cap] w fun eW aw
 =>dR (!eW) aw)) (fun (iJ:Bool) a4=>aE (iJ||(decide ((val.len:Int)>24))) (Q (.int .i64 1) a4) (ay (a4.drew) fun a5=>∃V_:Nat→Prop,∃mL:Addr,t=some mL∧¬V_ (mL.add 1).block∧∃IN:Option Addr,a5.cell? (mL.add 1)=
 some (.pointer IN)∧∃kz:Addr,t=some kz∧¬V_ (kz.add 4).block∧bA a5 (kz.add 4) fun Ge=>bc F.yU #[.pointer IN] a5 fun q8 bY=>ao V_ a5 bY∧aE (decide (q8<(aC ((aC (2*Ge))+3)))) (Q (.int .i64 2)
 bY) (gu F.yX #[.pointer t, .slice key.a key.len key.cap] bY fun fW kU c0=>aE (kU !=0) (Q (.int .i64 kU) c0) (ay (c0.alloc dt) fun ct=>cM ct (ai c0) [.bool true, .slice none 0 0, .slice none 0 0, .slice none
 0 0]∧(4:Nat)=4∧ay (setCells ct (ai c0) 0 [.bool true, .slice none 0 0, .slice none 0 0, .slice none 0 0]) fun dF=>c5 (fun Qg:World→Prop=>aE (decide ((fW.len:Int)>0)) (∃oh:Addr,fW.a=some oh∧((0:Int)≤(aC
 ((fW.len:Int)-1))∧(aC ((fW.len:Int)-1))<(fW.len:Int))∧bP dF ((oh.add (Int.toNat (aC ((fW.len:Int)-1))*6)).add 1) fun zy=>aq dF (((oh.add (Int.toNat (aC ((fW.len:Int)-1))*6)).add 1).add 1) fun kg=>aq dF
 (((oh.add (Int.toNat (aC ((fW.len:Int)-1))*6)).add 1).add 2) fun fz=>aq dF (((oh.add (Int.toNat (aC ((fW.len:Int)-1))*6)).add 1).add 3) fun c4=>KF dF c0 zy kg fz c4 Qg) (Qg dF)) (fun e7=>bP e7 (ai c0) fun
 Wa=>aq e7 (Addr.add (ai c0) 1) fun iQ=>aq e7 (Addr.add (ai c0) 2) fun c1=>aq e7 (Addr.add (ai c0) 3) fun kK=>ft F.yx #[.agg #[.bool Wa, .slice iQ.a iQ.len iQ.cap, .slice c1.a c1.len c1.cap, .slice kK.a
 kK.len kK.cap], .slice key.a key.len key.cap, .slice val.a val.len val.cap] e7 fun IP jc ep fS Wb eG=>ay (eG.alloc dt) fun du=>cM du (ai eG) [.bool IP, .slice jc.a jc.len jc.cap, .slice ep.a ep.len ep.cap,
 .slice fS.a fS.len fS.cap]∧(4:Nat)=4∧ay (setCells du (ai eG) 0 [.bool IP, .slice jc.a jc.len jc.cap, .slice ep.a ep.len ep.cap, .slice fS.a fS.len fS.cap]) fun gy=>aE (!Wb) (Q (.int .i64 4) gy) (bP gy (ai eG)
 fun uC=>aq gy (Addr.add (ai eG) 1) fun h9=>aq gy (Addr.add (ai eG) 2) fun hX=>aq gy (Addr.add (ai eG) 3) fun p2=>bc F.xD #[.pointer t, .slice fW.a fW.len fW.cap, .agg #[.bool uC, .slice h9.a h9.len
 h9.cap, .slice hX.a hX.len hX.cap, .slice p2.a p2.len p2.cap]] gy fun Qn dp=>Q (.int .i64 Qn) dp))))))
def A.Be:bH:=(.s .r (.s (.dv (.s (.gn [.run, .run, .run, .split 3, .run, .run, .run, .run, .pure 3]) (.c (.s .r .l) (.s (.eS 11 true ⟨[0,1,2,4,8,0,32,64,128,256,512,1040,2064],[0,1,2,4,8,0,32,64,128,
 256,512,1040,2048]⟩ [67108864,134217728,268435456,536870912,1073741824,2147483648,4294967296,8589934592,17179869184,34359738368,68719476736,137438953472,33554432] [1,67108864,134217728,268435456,536870912,1,2147483648,
 4294967296,8589934592,17179869184,34359738368,69793218560,137438953472] (.take 0 (.take 1 (.take 2 (.take 3 (.take 5 (.take 6 (.take 7 (.take 8 (.take 9 (.take 10 (.cH 4 (.tail [.run, .run]))))))))))))) (.c (.s .r .l) .l))))) (.s .r
 (.s bj (.s .r (.s (.mi [] [0,1,2,7,9] (.s .r (.c .r .l))) iH))))))
theorem W.aoD (t:Option Addr) (key:aa) (val:aa) (w:World) (Q:Value→World→Prop) (h:W.Be t key val w Q):aQ Tryz.prog F.Be #[.pointer t, .slice key.a key.len key.cap, .slice val.a val.len val.cap] w Q:=okF A.Be Tryz.func26 (by kernel_rfl) (by kernel_rfl) h
def W.CE (d:Option Addr) (i:Int) (w:World) (Q:Value→World→Prop):Prop:=a_ F.Al #[.pointer d, .int .i64 i] w fun eJ ag=>aE (!eJ) (Q (.tuple #[.slice none 0 0, .int .i64 1]) ag) (∃dQ:Addr,d=some
 dQ∧a_ F.Am #[.pointer (some dQ), .int .i64 1] ag fun kS bF=>aE kS (Q (.tuple #[.slice none 0 0, .int .i64 3]) bF) (YT F.CD #[.pointer d, .int .i64 i] bF fun ji b9=>ay (b9.alloc pD) fun cq=>cM cq (ai
 b9) (Array.toList ji)∧Array.size ji=256∧ay (setCells cq (ai b9) 0 (Array.toList ji)) fun cG=>Q (.tuple #[.slice (a3 (some (ai b9)) 1 0 256) (256-0) (256-0), .int .i64 0]) cG))
def A.CE:bH:=mK
theorem W.ajQ (d:Option Addr) (i:Int) (w:World) (Q:Value→World→Prop) (h:W.CE d i w Q):aQ Tryz.prog F.CE #[.pointer d, .int .i64 i] w Q:=okF A.CE Tryz.func34 (by kernel_rfl) (by kernel_rfl) h
def W.Bj (t:Option Addr) (w:World) (Q:Value→World→Prop):Prop:=aE (Option.isNone t) (Q (.tuple #[.int .i64 0, .int .i64 0]) w) (ay (w.drew) fun ag=>∃cL:Addr,t=some cL∧¬False∧bA ag (cL.add 3) fun bq=>∃
 dQ:Addr,t=some dQ∧¬False∧bA ag (dQ.add 4) fun eT=>Q (.tuple #[.int .i64 bq, .int .i64 eT]) ag)
def A.Bj:bH:=(.s .r (.s bj (.s (.eS 9 false ⟨[0,1,2,4,0,16,32,64,15,511],[0,1,2,4,0,16,32,64,8,128]⟩ [64,128,256,512,1024,2048,4096,8192,4,8] [1,64,128,256,1,1024,2048,4096,512,8192]
 (.take 0 (.take 1 (.take 2 (.take 3 (.take 4 (.take 5 (.take 6 (.take 7 (.take 8 (.tail [.run]))))))))))) .l)))
theorem W.apI (t:Option Addr) (w:World) (Q:Value→World→Prop) (h:W.Bj t w Q):aQ Tryz.prog F.Bj #[.pointer t] w Q:=okF A.Bj Tryz.func36 (by kernel_rfl) (by kernel_rfl) h
def W.CJ (f:Option Addr) (w:World) (Q:Value→World→Prop):Prop:=∃ (gQ:Int→World→Prop) (iS:Int→World→Nat),gQ 0 w∧∀ (bq:Int) (br:World),gQ bq br→aE (decide (bq<4)) (∃gS:Addr,f=some gS∧
 ((0:Int)≤bq∧bq<((4:Nat):Int))∧st br (Addr.add gS (Int.toNat bq*1)) (.int .i64 (-1)) fun a4=>gQ (aC (bq+1)) a4∧iS (aC (bq+1)) a4<iS bq br) (Q (.tuple #[]) br)
def A.CJ:bH:=(.s .r (.dv (.loop [(3,(.int .i64))] [0] cL)))
theorem W.aj1 (f:Option Addr) (w:World) (Q:Value→World→Prop) (h:W.CJ f w Q):aQ Tryz.prog F.CJ #[.pointer f] w Q:=okF A.CJ Tryz.func39 (by kernel_rfl) (by kernel_rfl) h
def W.Al (d:Option Addr) (i:Int) (w:World) (Q:Value→World→Prop):Prop:=c5 (fun dR:Bool→World→Prop=>aE ((!(Option.isNone d))&&(decide (i≥0))) (∃cL:Addr,d=some cL∧aq w (cL.add 4) fun bQ=>dR
 (decide (i<(bQ.len:Int))) w) (dR false w)) (fun (eW:Bool) bF=>Q (.bool eW) bF)
def A.Al:bH:=jv
theorem W.ajI (d:Option Addr) (i:Int) (w:World) (Q:Value→World→Prop) (h:W.Al d i w Q):aQ Tryz.prog F.Al #[.pointer d, .int .i64 i] w Q:=okF A.Al Tryz.func43 (by kernel_rfl) (by kernel_rfl) h
def W.Am (f:Option Addr) (sG:Int) (w:World) (Q:Value→World→Prop):Prop:=∃bj:Addr,f=some bj∧((0:Int)≤sG∧sG<((4:Nat):Int))∧bA w (Addr.add bj (Int.toNat sG*1)) fun c_=>aE (c_==
 (-1)) (Q (.bool false) w) (aE (c_==0) (∃e6:Addr,f=some e6∧((0:Int)≤sG∧sG<((4:Nat):Int))∧st w (Addr.add e6 (Int.toNat sG*1)) (.int .i64 (-1)) fun br=>Q (.bool true) br) (ay (w.drew) fun bF=>∃ix:Addr,f
 =some ix∧((0:Int)≤sG∧sG<((4:Nat):Int))∧¬False∧bA bF (Addr.add ix (Int.toNat sG*1)) fun gF=>∃jv:Addr,f=some jv∧((0:Int)≤sG∧sG<((4:Nat):Int))∧st bF (Addr.add jv (Int.toNat sG*1))
 (.int .i64 (aC (gF-1))) fun bR=>Q (.bool false) bR))
def A.Am:bH:=(.s .r (.s (.s .r (.dv (.s .r (.c (.s .r .l) (.s .r mL))))) (.s (.eS 7 false ⟨[0,0,1,6,8,16,1,127,191],[0,0,1,6,8,16,1,66,160]⟩ [262144,524288,1048576,2097152,4194304,8388608,16777216,
 33554432,0] [1,2,262144,1572864,2097152,4194304,262144,17301504,41943040] (.take 0 (.take 1 (.take 2 (.take 3 (.take 4 (.take 5 (.take 6 (.tail [.run, .run]))))))))) (.s .r .l))))
theorem W.ajK (f:Option Addr) (sG:Int) (w:World) (Q:Value→World→Prop) (h:W.Am f sG w Q):aQ Tryz.prog F.Am #[.pointer f, .int .i64 sG] w Q:=okF A.Am Tryz.func44 (by kernel_rfl) (by kernel_rfl) h
def W.Ak (d:Option Addr) (w:World) (Q:Value→World→Prop):Prop:=aE (Option.isNone d) (Q (.int .i64 0) w) (∃bj:Addr,d=some bj∧aq w (bj.add 4) fun s2=>Q (.int .i64 (s2.len:Int)) w)
def A.Ak:bH:=iH
theorem W.ajH (d:Option Addr) (w:World) (Q:Value→World→Prop) (h:W.Ak d w Q):aQ Tryz.prog F.Ak #[.pointer d] w Q:=okF A.Ak Tryz.func45 (by kernel_rfl) (by kernel_rfl) h
def W.th (jX:aa) (w:World) (Q:Value→World→Prop):Prop:=Q (.bool ((decide ((jX.len:Int)≥1))&&(decide ((jX.len:Int)≤24)))) w
def A.th:bH:=k5
theorem W.aoC (jX:aa) (w:World) (Q:Value→World→Prop) (h:W.th jX w Q):aQ Tryz.prog F.th #[.slice jX.a jX.len jX.cap] w Q:=okF A.th Tryz.func57 (by kernel_rfl) (by kernel_rfl) h
def W.yX (t:Option Addr) (key:aa) (w:World) (Q:Value→World→Prop):Prop:=∃bj:Addr,t=some bj∧bA w (bj.add 3) fun c_=>∃e6:Addr,t=some e6∧bA w (e6.add 4) fun fT=>∃ (xW:aa→Int→Int→World→
 Prop) (DW:aa→Int→Int→World→Nat),xW ⟨none,0,0⟩ c_ fT w∧∀ (iY:aa) (gg:Int) (kT:Int) (bV:World),xW iY gg kT bV→aE (decide (kT>0)) (xj F.s6 #[.pointer t, .int .i64 gg, .bool (kT==1)] bV fun BE dk
 gz dx h6 cq=>ay (cq.alloc dt) fun fF=>cM fF (ai cq) [.bool BE, .slice dk.a dk.len dk.cap, .slice gz.a gz.len gz.cap, .slice dx.a dx.len dx.cap]∧(4:Nat)=4∧ay (setCells fF (ai cq) 0 [.bool BE, .slice
 dk.a dk.len dk.cap, .slice gz.a gz.len gz.cap, .slice dx.a dx.len dx.cap]) fun c9=>aE (h6 !=0) (Q (.tuple #[.slice none 0 0, .int .i64 h6]) c9) (bP c9 (ai cq) fun vZ=>aq c9 (Addr.add (ai cq) 1) fun eU=>aq c9
 (Addr.add (ai cq) 2) fun fO=>aq c9 (Addr.add (ai cq) 3) fun ee=>∃Ay:Array Value,Sem.run Tryz.prog (Instr.build ah.ua #[(0, .int .i64 gg),(1, .agg #[.bool vZ, .slice eU.a eU.len eU.cap, .slice fO.a fO.len fO.cap,
 .slice ee.a ee.len ee.cap])]) c9= .ok (.agg Ay) c9∧ay (c9.alloc (.cells #[.int .i64 0, .bool false, .slice none 0 0, .slice none 0 0, .slice none 0 0, .int .i64 0] ah.ua)) fun fV=>cM fV (ai c9) (Array.toList Ay)
 ∧Array.size Ay=6∧ay (setCells fV (ai c9) 0 (Array.toList Ay)) fun cu=>c5 (fun L8:Int→World→Prop=>aE (decide (kT>1)) (bP cu (ai cq) fun DB=>aq cu (Addr.add (ai cq) 1) fun iF=>aq cu (Addr.add (ai cq) 2) fun
 iD=>aq cu (Addr.add (ai cq) 3) fun iQ=>bc F.u9 #[.agg #[.bool DB, .slice iF.a iF.len iF.cap, .slice iD.a iD.len iD.cap, .slice iQ.a iQ.len iQ.cap], .slice key.a key.len key.cap] cu fun xS oQ=>st oQ (Addr.add
 (ai c9) 5) (.int .i64 xS) fun ld=>aq ld (Addr.add (ai cq) 3) fun jE=>bA ld (Addr.add (ai c9) 5) fun IQ=>∃BF:Addr,jE.a=some BF∧a8 IQ jE.len∧bA ld (BF.add (Int.toNat IQ*1)) fun Wc=>L8 Wc ld) (L8 gg
 cu)) (fun (qf:Int) du=>∃aey:List Value,ey du (ai c9) 0 6=some aey∧∃hJ:aa,∃nq:World,Sem.run Tryz.prog (Instr.buildSlice ah.E9 1 #[(0, .agg aey.toArray)]) du= .ok (.slice hJ.a hJ.len hJ.cap) nq
 ∧∃hX:aa,∃hU:World,Sem.run Tryz.prog (Builtin.append_ #[ah.E9,ah.E9] ah.E9 #[.slice iY.a iY.len iY.cap, .slice hJ.a hJ.len hJ.cap]) nq= .ok (.slice hX.a hX.len hX.cap) hU∧xW hX qf (aC
 (kT-1)) hU∧DW hX qf (aC (kT-1)) hU<DW iY gg kT bV))) (Q (.tuple #[.slice iY.a iY.len iY.cap, .int .i64 0]) bV)
def A.yX:bH:=(.s .r (.s .r (.s .r (.s (.s .r (.dv (.loop [(6, .slice),(7,(.int .i64)),(8,(.int .i64))] [0,1] (.s (.s .r (.c .l .l)) (.s (.dv (.s .r (.s bj (.s .r (.s (.mi [(7,(.int .i64))] [0,1,6,8,11] (.s .r (.c
 (.s .r .r) .l))) .r))))) .r))))) (.s .r .l)))))
theorem W.alQ (t:Option Addr) (key:aa) (w:World) (Q:Value→World→Prop) (h:W.yX t key w Q):aQ Tryz.prog F.yX #[.pointer t, .slice key.a key.len key.cap] w Q:=okF A.yX Tryz.func58 (by kernel_rfl) (by kernel_rfl) h
def W.yt (cD:Bool) (bn:aa) (bo:aa) (bp:aa) (key:aa) (w:World) (Q:Value→World→Prop):Prop:=ay (w.alloc (.cells #[.bool cD, .slice bn.a bn.len bn.cap, .slice bo.a bo.len
 bo.cap, .slice bp.a bp.len bp.cap] ah.cF)) fun ag=>bP ag (ai w) fun cy=>aq ag (Addr.add (ai w) 1) fun bQ=>aq ag (Addr.add (ai w) 2) fun cB=>aq ag (Addr.add (ai w) 3) fun bL=>dO F.rv #[.agg #[.bool cy,
 .slice bQ.a bQ.len bQ.cap, .slice cB.a cB.len cB.cap, .slice bL.a bL.len bL.cap], .slice key.a key.len key.cap] ag fun gg ju a4=>Q (.tuple #[.int .i64 gg, .bool ju]) a4
def A.yt:bH:=(.s .r (.s .r .l))
theorem W.aiV (cD:Bool) (bn:aa) (bo:aa) (bp:aa) (key:aa) (w:World) (Q:Value→World→Prop) (h:W.yt cD bn bo bp key w Q):aQ Tryz.prog F.yt #[.agg #[.bool cD, .slice bn.a bn.len bn.cap, .slice bo.a bo.len bo.cap, .slice bp.a bp.len bp.cap], .slice key.a key.len key.cap] w Q:=okF A.yt Tryz.func59 (by kernel_rfl) (by kernel_rfl) h
def W.yA (cD:Bool) (bn:aa) (bo:aa) (bp:aa) (key:aa) (w:World) (Q:Value→World→Prop):Prop:=ay (w.alloc (.cells #[.bool cD, .slice bn.a bn.len bn.cap, .slice bo.a bo.len
 bo.cap, .slice bp.a bp.len bp.cap] ah.cF)) fun ag=>ay (ag.alloc dt) fun aw=>bP aw (ai w) fun eJ=>aq aw (Addr.add (ai w) 1) fun cB=>aq aw (Addr.add (ai w) 2) fun bL=>aq aw (Addr.add (ai w) 3) fun c8=>dO
 F.rv #[.agg #[.bool eJ, .slice cB.a cB.len cB.cap, .slice bL.a bL.len bL.cap, .slice c8.a c8.len c8.cap], .slice key.a key.len key.cap] aw fun kT oY a5=>bP a5 (ai w) fun rT=>c5 (fun p3:Bool→World→Prop=>GZ rT p3 a5
 w) (fun (vZ:Bool) dF=>aE (vZ||(!oY)) (cM dF (ai ag) [.bool false, .slice none 0 0, .slice none 0 0, .slice none 0 0]∧(4:Nat)=4∧ay (setCells dF (ai ag) 0 [.bool false, .slice none 0 0, .slice none 0 0, .slice none 0
 0]) fun cO=>G0 cO ag Q) (bP dF (ai w) fun asi=>aq dF (Addr.add (ai w) 1) fun eX=>aq dF (Addr.add (ai w) 2) fun iF=>aq dF (Addr.add (ai w) 3) fun iD=>ji F.fE #[.agg #[.bool asi, .slice eX.a eX.len eX.cap, .slice
 iF.a iF.len iF.cap, .slice iD.a iD.len iD.cap]] dF fun DX gE fP jE fU=>ay (fU.alloc dt) fun k_=>cM k_ (ai fU) [.bool DX, .slice gE.a gE.len gE.cap, .slice fP.a fP.len fP.cap, .slice jE.a jE.len jE.cap]∧
 (4:Nat)=4∧ay (setCells k_ (ai fU) 0 [.bool DX, .slice gE.a gE.len gE.cap, .slice fP.a fP.len fP.cap, .slice jE.a jE.len jE.cap]) fun jD=>aq jD (Addr.add (ai fU) 1) fun fS=>dL F.yq
 #[.slice fS.a fS.len fS.cap, .int .i64 kT, .int .i64 (aC (kT+1))] jD fun mY ud=>st ud (Addr.add (ai fU) 1) (.slice mY.a mY.len mY.cap) fun mf=>aq mf (Addr.add (ai fU) 2) fun h9=>dL F.yq
 #[.slice h9.a h9.len h9.cap, .int .i64 kT, .int .i64 (aC (kT+1))] mf fun m_ jS=>st jS (Addr.add (ai fU) 2) (.slice m_.a m_.len m_.cap) fun zz=>fg zz fU ag Q))
def A.yA:bH:=(.s .r (.s .r (.s (.s (.gn [.run, .run, .run, .run, .split 3, .run, .run, .run, .run, .pure 2]) (.c (.s .r .l) .l)) (.s .r dQ))))
theorem W.ai_ (cD:Bool) (bn:aa) (bo:aa) (bp:aa) (key:aa) (w:World) (Q:Value→World→Prop) (h:W.yA cD bn bo bp key w Q):aQ Tryz.prog F.yA #[.agg #[.bool cD, .slice bn.a bn.len bn.cap, .slice bo.a bo.len bo.cap, .slice bp.a bp.len bp.cap], .slice key.a key.len key.cap] w Q:=okF A.yA Tryz.func60 (by kernel_rfl) (by kernel_rfl) h
def W.xD (t:Option Addr) (me:aa) (uF:Bool) (nY:aa) (nZ:aa) (n0:aa) (w:World) (Q:Value→World→Prop):Prop:=ay (w.alloc (.cells #[.bool uF, .slice nY.a nY.len
 nY.cap, .slice nZ.a nZ.len nZ.cap, .slice n0.a n0.len n0.cap] ah.cF)) fun ag=>ay (ag.alloc (.cells #[.int .i64 0] ah.asb)) fun aw=>ay (aw.drew) fun aZ=>∃mM:Nat→Prop,∃
 gS:Addr,t=some gS∧¬mM (gS.add 1).block∧∃m0:Option Addr,aZ.cell? (gS.add 1)=some (.pointer m0)∧∃k5:Addr,t=some k5∧¬mM (k5.add 4).block∧bA aZ (k5.add 4) fun gg=>bc F.yU #[.pointer m0] aZ fun mI bR
 =>ao mM aZ bR∧aE (decide (mI<(aC ((aC (2*gg))+3)))) (st bR (ai ag) (.int .i64 2) fun cG=>bA cG (ai ag) fun xU=>Q (.int .i64 xU) cG) (ay (bR.alloc (.cells #[.pointer t, .slice none 0 0, .slice none 0 0] ah.ZH))
 fun dy=>ay (dy.alloc (.cells #[.pointer none] ah.asc)) fun dY=>st dY (ai dy) (.pointer (some (ai bR))) fun c0=>∃L9:Option Addr,c0.cell? (ai dy)=some (.pointer L9)∧bP c0 (ai w) fun tz=>aq c0 (Addr.add
 (ai w) 1) fun ek=>aq c0 (Addr.add (ai w) 2) fun fL=>aq c0 (Addr.add (ai w) 3) fun eU=>HU F.xA #[.pointer L9, .slice me.a me.len me.cap, .agg #[.bool tz, .slice ek.a ek.len ek.cap, .slice fL.a fL.len
 fL.cap, .slice eU.a eU.len eU.cap]] c0 fun s3 zq BG cO=>st cO (ai ag) (.int .i64 BG) fun mT=>bA mT (ai ag) fun pX=>aE (pX !=0) (bA mT (ai ag) fun q9=>st mT (ai ag) (.int .i64 q9) fun gj=>IK Tryz.prog
 F.zg #[.pointer (some (ai ag)), .pointer (some (ai dy))] gj fun fU=>bA fU (ai ag) fun Gf=>Q (.int .i64 Gf) fU) (ay (mT.drew) fun eC=>¬False∧∃L_:Option Addr,eC.cell? (ai dy)=some (.pointer L_)∧¬
 False∧∃aez:Option Addr,eC.cell? (ai dy)=some (.pointer aez)∧∃DU:Addr,aez=some DU∧¬False∧aq eC (DU.add 2) fun jc=>bd F.A4 #[.pointer L_, .slice jc.a jc.len jc.cap] eC fun jD=>∃Ma:Addr,
 t=some Ma∧st jD (Ma.add 3) (.int .i64 s3) fun du=>∃DY:Addr,t=some DY∧st du (DY.add 4) (.int .i64 zq) fun mf=>st mf (ai ag) (.int .i64 0) fun nq=>IK Tryz.prog F.zg #[.pointer (some (ai ag)),
 .pointer (some (ai dy))] nq fun jS=>bA jS (ai ag) fun Wd=>Q (.int .i64 Wd) jS))
def A.xD:bH:=(.s .r (.s (.s (.eS 11 true ⟨[0,1,2,4,8,0,32,64,128,256,512,1040],[0,1,2,4,8,0,32,64,128,256,512,1040]⟩ [1024,2048,4096,8192,16384,32768,65536,131072,262144,524288,1048576,
 2097152] [1,1024,2048,4096,8192,1,32768,65536,131072,262144,524288,1064960] (.take 0 (.take 1 (.take 2 (.take 3 (.take 5 (.take 6 (.take 7 (.take 8 (.take 9 (.take 10 (.cH 4 (.tail [.run]))))))))))))) (.c (.s .r .l) .l)) (.s .r
 (.s .l (.s .r (.s bj (.s (.eS 5 false ⟨[0,0,2,4,8,17],[0,0,2,4,8,17]⟩ [137438953472,274877906944,549755813888,1099511627776,2199023255552,4398046511104] [128,128,274877906944,549755813888,1099511627776,2336462209024]
 (.take 0 (.take 1 (.take 2 (.take 3 (.take 4 (.tail [.run]))))))) (.s .r (.s .r .l)))))))))
theorem W.asj (t:Option Addr) (me:aa) (uF:Bool) (nY:aa) (nZ:aa) (n0:aa) (w:World) (Q:Value→World→Prop):W.xD t me uF nY nZ n0 w Q=VZ Tryz.prog aH A.xD Tryz.f61 [.pointer t, .slice me.a me.len me.cap, .agg #[.bool uF, .slice nY.a nY.len nY.cap, .slice nZ.a nZ.len nZ.cap, .slice n0.a n0.len n0.cap]] w Q:=by kernel_rfl
theorem W.aoc (t:Option Addr) (me:aa) (uF:Bool) (nY:aa) (nZ:aa) (n0:aa) (w:World) (Q:Value→World→Prop) (h:W.xD t me uF nY nZ n0 w Q):Calls Tryz.prog F.xD #[.pointer t, .slice me.a me.len me.cap, .agg #[.bool uF, .slice nY.a nY.len nY.cap, .slice nZ.a nZ.len nZ.cap, .slice n0.a n0.len n0.cap]] w fun e ag=>∃v,e= .returned v∧Q v ag:=
  ar4 V1 Tryz.func61 (by kernel_rfl) (Eq.mp (W.asj t me uF nY nZ n0 w Q) h)
def W.Bi (t:Option Addr) (no:Int) (level:Int) (ik:aa) (f:rV) (w:World) (Q:Value→World→Prop):Prop:=xj F.s6 #[.pointer t, .int .i64 no, .bool (level==1)] w fun eJ cB bL c8 gF ag=>ay
 (ag.alloc dt) fun b9=>cM b9 (ai ag) [.bool eJ, .slice cB.a cB.len cB.cap, .slice bL.a bL.len bL.cap, .slice c8.a c8.len c8.cap]∧(4:Nat)=4∧ay (setCells b9 (ai ag) 0 [.bool eJ, .slice cB.a cB.len cB.cap, .slice bL.a bL.len
 bL.cap, .slice c8.a c8.len c8.cap]) fun bR=>aE (gF !=0) (Q (.tuple #[.bool false, .int .i64 gF]) bR) (bP bR (ai ag) fun oY=>aq bR (Addr.add (ai ag) 1) fun dN=>aq bR (Addr.add (ai ag) 2) fun fc=>aq bR (Addr.add (ai ag) 3) fun gP
 =>tL Tryz.prog f.f∧Calls Tryz.prog f.f (f.pre++ #[.int .i64 no, .agg #[.bool oY, .slice dN.a dN.len dN.cap, .slice fc.a fc.len fc.cap, .slice gP.a gP.len gP.cap]]++f.cap) bR fun V6 dy=>∃aeA:Bool,V6= .returned
 (.bool aeA)∧aE (!aeA) (Q (.tuple #[.bool false, .int .i64 0]) dy) (aE (level==1) (Q (.tuple #[.bool true, .int .i64 0]) dy) (ay (dy.drew) fun eQ=>∃We:Nat→Prop,¬We (Addr.add (ai ag) 3).block∧aq eQ (Addr.add (ai ag) 3)
 fun ek=>¬We ((ai ag):Addr).block∧bP eQ (ai ag) fun vZ=>aq eQ (Addr.add (ai ag) 1) fun eU=>aq eQ (Addr.add (ai ag) 2) fun fO=>aq eQ (Addr.add (ai ag) 3) fun ee=>bc F.u9 #[.agg #[.bool vZ, .slice eU.a eU.len
 eU.cap, .slice fO.a fO.len fO.cap, .slice ee.a ee.len ee.cap], .slice ik.a ik.len ik.cap] eQ fun BG cK=>ao We eQ cK∧((0:Int)≤BG∧BG≤(ek.len:Int))∧∃ (Wf:Int→World→Prop) (aeB:Int→World→
 Nat),Wf 0 cK∧∀ (q9:Int) (gj:World),Wf q9 gj→aE (decide (q9<(((ek.len-(Int.toNat BG)):Nat):Int))) (∃nU:Addr,(a3 ek.a 1 (Int.toNat BG) ek.cap)=some nU∧((0:Int)≤q9∧q9<(((ek.len-(Int.toNat
 BG)):Nat):Int))∧bA gj (nU.add (Int.toNat q9*1)) fun Gf=>H6 F.Bi #[.pointer t, .int .i64 Gf, .int .i64 (aC (level-1)), .slice ik.a ik.len ik.cap, .func (.func f.f) f.pre f.cap] gj fun DZ j_ eC
 =>aE ((j_ !=0)||(!DZ)) (Q (.tuple #[.bool DZ, .int .i64 j_]) eC) (Wf (aC (q9+1)) eC∧aeB (aC (q9+1)) eC<aeB q9 gj)) (Q (.tuple #[.bool true, .int .i64 0]) gj))))
def A.Bi:bH:=(.s .r (.s .r (.s bj (.s bj (.s bj (.s (.s (.eS 8 true ⟨[0,1,0,0,12,18,32,0],[0,1,0,0,12,18,32,0]⟩ [68719476736,137438953472,274877906944,549755813888,1099511627776,2199023255552,
 4398046511104,8796093022208] [4096,68719476736,4096,8,824633720832,1236950581248,2199023255552,0] (.take 0 (.take 1 (.take 2 (.take 3 (.take 7 (.cH 4 (.take 5 (.take 6 .fin))))))))) (.dv (.loop [(43,(.int .i64))] [0,2,3,4,41,
 42] (.s .r (.s (.c .l .l) (.s (.dv (.s .r (.s .r ix))) .r)))))) (.s .r .l)))))))
theorem W.apg (t:Option Addr) (no:Int) (level:Int) (ik:aa) (f:rV) (w:World) (Q:Value→World→Prop) (h:W.Bi t no level ik f w Q):aQ Tryz.prog F.Bi #[.pointer t, .int .i64 no, .int .i64 level, .slice ik.a ik.len ik.cap, .func (.func f.f) f.pre f.cap] w Q:=okF A.Bi Tryz.func62 (by kernel_rfl) (by kernel_rfl) h
def W.xH (Wg:Int) (cD:Bool) (bn:aa) (bo:aa) (bp:aa) (x:Addr) (tA:Addr) (BH:Addr) (Qo:Addr) (w:World) (Q:Value→World→Prop):Prop:=ay (w.alloc (.cells #[.bool cD, .slice
 bn.a bn.len bn.cap, .slice bo.a bo.len bo.cap, .slice bp.a bp.len bp.cap] ah.cF)) fun ag=>aq ag (Addr.add (ai w) 1) fun s2=>∃ (mj:Int→World→Prop) (pr:Int→World→Nat),mj 0 ag∧∀ (eT
 :Int) (a4:World),mj eT a4→aE (decide (eT<(s2.len:Int))) (∃k5:Addr,s2.a=some k5∧a8 eT s2.len∧aq a4 (k5.add (Int.toNat eT*1)) fun fk=>aq a4 x fun db=>c5 (fun xX:Bool→World→Prop=>aE (decide ((db.len:Int)>0))
 (aq a4 x fun dN=>bc F.oI #[.slice fk.a fk.len fk.cap, .slice dN.a dN.len dN.cap] a4 fun mJ cG=>xX (decide (mJ≥0)) cG) (xX false a4)) (fun (vH:Bool) c0=>c5 (fun aeC:Bool→World→Prop=>aE vH (bP c0 (ai
 w) fun tz=>aeC tz c0) (aeC false c0)) (fun (DA:Bool) ct=>aE DA (Q (.bool false) ct) (c5 (fun Mb:World→Prop=>bP ct (ai w) fun xV=>c5 (fun Mc:Bool→World→Prop=>aE xV (aq ct tA fun q_=>bc F.oI
 #[.slice fk.a fk.len fk.cap, .slice q_.a q_.len q_.cap] ct fun pc fV=>Mc (decide (pc≥0)) fV) (Mc false ct)) (fun (DB:Bool) e7=>aE DB (ay (e7.drew) fun gj=>∃Qp:Nat→Prop,¬Qp BH.block∧aq gj BH fun c1=>
 ¬Qp (Addr.add (ai w) 2).block∧aq gj (Addr.add (ai w) 2) fun kK=>∃IS:Addr,kK.a=some IS∧a8 eT kK.len∧¬Qp (IS.add (Int.toNat eT*1)).block∧aq gj (IS.add (Int.toNat eT*1)) fun fP=>∃aeD:Array Value,(∀k_:
 World,Sem.run Tryz.prog (Instr.build ah.m3 #[(0, .slice fk.a fk.len fk.cap),(1, .slice fP.a fP.len fP.cap)]) k_= .ok (.agg aeD) k_)∧∃ep:aa,∃mc:World,Sem.run Tryz.prog (Instr.buildSlice ah.eR 1 #[(0, .agg
 aeD)]) gj= .ok (.slice ep.a ep.len ep.cap) mc∧ao Qp gj mc∧∃eV:aa,∃du:World,Sem.run Tryz.prog (Builtin.append_ #[ah.eR,ah.eR] ah.eR #[.slice c1.a c1.len c1.cap, .slice ep.a ep.len
 ep.cap]) mc= .ok (.slice eV.a eV.len eV.cap) du∧(∃u:Value,du.cell? BH=some u)∧du.frozen? BH=false∧ay (du.setCell BH (.slice eV.a eV.len eV.cap)) fun gy=>Mb gy) (Mb e7))) (fun mf=>aq mf BH fun h9=>
 bA mf Qo fun Wh=>aE ((h9.len:Int)==Wh) (Q (.bool false) mf) (mj (aC (eT+1)) mf∧pr (aC (eT+1)) mf<pr eT a4)))))) (Q (.bool true) a4)
def A.xH:bH:=(.s .r (.s (.s .r (.dv (.loop [(14,(.int .i64))] [2,3,4,5,7,12,13] (.s .r (.s (.c .l .l) (.s (.dv (.s .r (.s (.s (.gn [.run, .run, .run, .run, .split 4, .run, .run, .run, .run, .run, .split 2]) (.c
 (.s .r .l) .l)) (.s (.mi [] [2,3,4,5,7,12,13,14] (.s (.gn [.run, .run, .run, .split 4]) (.c (.eS 9 true ⟨[0,0,0,4,0,24,32,66,128,257,1023],[0,0,0,4,0,24,32,66,128,257,512]⟩ [1099511627776,2199023255552,
 4398046511104,8796093022208,17592186044416,35184372088832,70368744177664,140737488355328,281474976710656,562949953421312,0] [16,1024,128,4398046511104,512,26388279066624,35184372088832,72567767433216,140737488355328,
 282574488338432,562949953421328] (.take 0 (.take 1 (.take 2 (.take 3 (.take 4 (.take 5 (.take 6 (.take 7 (.cH 8 (.tail [.run, .run]))))))))))) .l))) bj)))) .r)))))) (.s .r .l)))
theorem W.ao6 (Wg:Int) (cD:Bool) (bn:aa) (bo:aa) (bp:aa) (x:Addr) (tA:Addr) (BH:Addr) (Qo:Addr) (w:World) (Q:Value→World→Prop) (h:W.xH Wg cD bn bo bp x tA BH Qo w Q):aQ Tryz.prog F.xH #[.int .i64 Wg, .agg #[.bool cD, .slice bn.a bn.len bn.cap, .slice bo.a bo.len bo.cap, .slice bp.a bp.len bp.cap], .pointer (some x), .pointer (some tA), .pointer (some BH), .pointer (some Qo)] w Q:=okF A.xH Tryz.func63 (by kernel_rfl) (by kernel_rfl) h
def W.yS (d:Option Addr) (aB:Int) (w:World) (Q:Value→World→Prop):Prop:=aE (((Option.isNone d)||(decide (aB<8)))||(decide (aB>64))) (Q (.tuple #[.pointer none, .int .i64 1]) w) (((0:Int)≤aB
 ∧aB≤aB∧aB≤x_∧((48:Nat):Int)*aB≤140737488355328)∧ay (w.alloc (.cells (pC Tryz.prog ah.rD (Int.toNat aB)) ah.rD)) fun ag=>ay (ag.alloc (.cells #[.pointer d, .slice (some (ai w))
 (Int.toNat aB) (Int.toNat aB), .int .i64 0] ah.Y1)) fun aw=>Q (.tuple #[.pointer (some (ai ag)), .int .i64 0]) aw)
def A.yS:bH:=(.s .r (.s (.s (.gn [.run, .run, .run, .pure 2, .run, .run, .run, .pure 2]) (.c (.s .r .l) .l)) (.s .r .l)))
theorem W.akL (d:Option Addr) (aB:Int) (w:World) (Q:Value→World→Prop) (h:W.yS d aB w Q):aQ Tryz.prog F.yS #[.pointer d, .int .i64 aB] w Q:=okF A.yS Tryz.func65 (by kernel_rfl) (by kernel_rfl) h
end
section
set_option maxRecDepth 100000
def W.yV (n:Int) (first:Int) (w:World) (Q:Value→World→Prop):Prop:=a_ F.C1 #[.int .i64 n] w fun eJ ag=>aE (((!eJ)||(decide (first<0)))||(decide (first>n))) (Q (.tuple #[.pointer none, .int .i64 1])
 ag) (bc F.C2 #[.int .i64 n] ag fun iA br=>((0:Int)≤iA∧iA≤iA∧iA≤x_∧((1:Nat):Int)*iA≤140737488355328)∧ay (br.alloc (.cells (pC Tryz.prog ah.uint8 (Int.toNat iA)) ah.uint8)) fun a5=>ay (a5.alloc (.cells
 #[.int .i64 n, .slice (some (ai br)) (Int.toNat iA) (Int.toNat iA), .slice none 0 0] ah.CU)) fun b9=>∃ (Wi:Int→World→Prop) (aeE:Int→World→Nat),Wi 0 b9∧∀ (mI:Int) (cG:World),Wi mI cG→aE (decide (mI<
 first)) (∃kf:Addr,(some (ai a5):Option Addr)=some kf∧aq cG (kf.add 1) fun dk=>bd F.As #[.slice dk.a dk.len dk.cap, .int .i64 mI] cG fun dY=>Wi (aC (mI+1)) dY∧aeE (aC (mI+1)) dY<aeE mI cG)
 (bd F.yT #[.pointer (some (ai a5))] cG fun eQ=>Q (.tuple #[.pointer (some (ai a5)), .int .i64 0]) eQ))
def A.yV:bH:=(.s .r (.s (.s (.gn [.run, .run, .run, .run, .pure 2, .run, .run, .run, .pure 3]) (.c (.s .r .l) .l)) (.s .r (.s (.s .r (.dv (.loop [(27,(.int .i64))] [6,26] cL))) (.s .r (.s .r .l))))))
theorem W.alB (n:Int) (first:Int) (w:World) (Q:Value→World→Prop) (h:W.yV n first w Q):aQ Tryz.prog F.yV #[.int .i64 n, .int .i64 first] w Q:=okF A.yV Tryz.func66 (by kernel_rfl) (by kernel_rfl) h
def W.yU (s:Option Addr) (w:World) (Q:Value→World→Prop):Prop:=aE (Option.isNone s) (Q (.int .i64 0) w) (∃bj:Addr,s=some bj∧bA w bj fun c_=>∃e6:Addr,s=some e6∧aq w (e6.add 1) fun cB=>∃ (xW:
 Int→Int→World→Prop) (DW:Int→Int→World→Nat),xW c_ 0 w∧∀ (gF:Int) (gg:Int) (bR:World),xW gF gg bR→aE (decide (gg<(cB.len:Int))) (ay (bR.drew) fun bV=>∃Md:Nat→Prop,∃iH:Addr,s=some iH∧¬Md
 (iH.add 1).block∧aq bV (iH.add 1) fun gP=>∃lB:Addr,gP.a=some lB∧a8 gg gP.len∧¬Md (lB.add (Int.toNat gg*1)).block∧iq bV (lB.add (Int.toNat gg*1)) fun q8=>∃oA:Addr,s=some oA∧¬Md (oA.add
 2).block∧aq bV (oA.add 2) fun hD=>∃n1:Addr,hD.a=some n1∧a8 gg hD.len∧¬Md (n1.add (Int.toNat gg*1)).block∧iq bV (n1.add (Int.toNat gg*1)) fun kU=>bc F.C0 #[.int .u8 (B0 .u8 q8 kU)] bV
 fun zC ct=>ao Md bV ct∧xW (aC (gF-zC)) (aC (gg+1)) ct∧DW (aC (gF-zC)) (aC (gg+1)) ct<DW gF gg bR) (Q (.int .i64 gF) bR))
def A.yU:bH:=(.s .r (.s bj (.s .r (.s (.s .r (.dv (.loop [(3,(.int .i64)),(16,(.int .i64))] [0,15] (.s .r (.s (.c .l .l) (.s (.dv (.s .r (.eS 17 true ⟨[0,0,2,4,8,0,48,64,0,256,512,1024,0,6144,8192,
 16512,32768,65537,262143],[0,0,2,4,8,0,48,64,0,256,512,1024,0,6144,8192,16512,32768,65537,131073]⟩ [524288,1048576,2097152,4194304,8388608,16777216,33554432,67108864,134217728,268435456,536870912,1073741824,
 2147483648,4294967296,8589934592,17179869184,34359738368,68719476736,8] [8,1,1048576,2097152,4194304,16,25165824,33554432,1,134217728,268435456,536870912,16,3221225472,4294967296,8657043456,17179869184,34360262656,
 68719476736] (.take 0 (.take 1 (.take 2 (.take 3 (.take 4 (.take 5 (.take 6 (.take 7 (.take 8 (.take 9 (.take 10 (.take 11 (.take 12 (.take 13 (.take 14 (.take 15 (.cH 16 (.tail [.run, .run]))))))))))))))))))))) .r)))))) (.s .r .l)))))
theorem W.alu (s:Option Addr) (w:World) (Q:Value→World→Prop) (h:W.yU s w Q):aQ Tryz.prog F.yU #[.pointer s] w Q:=okF A.yU Tryz.func67 (by kernel_rfl) (by kernel_rfl) h
def W.yx (cD:Bool) (bn:aa) (bo:aa) (bp:aa) (key:aa) (val:aa) (w:World) (Q:Value→World→Prop):Prop:=ay (w.alloc (.cells #[.bool cD, .slice bn.a bn.len bn.cap, .slice bo.a
 bo.len bo.cap, .slice bp.a bp.len bp.cap] ah.cF)) fun ag=>ay (ag.alloc dt) fun aw=>bP aw (ai w) fun eJ=>c5 (fun np:Bool→World→Prop=>GZ eJ np aw w) (fun (DV:Bool) bY=>c5 (fun aeF:Bool→World
 →Prop=>aE DV (aeF true bY) (a_ F.uY #[.slice key.a key.len key.cap] bY fun uE dY=>aeF (!uE) dY)) (fun (tz:Bool) c9=>aE (tz||(decide ((val.len:Int)>24))) (cM c9 (ai ag) [.bool false, .slice none 0 0,
 .slice none 0 0, .slice none 0 0]∧(4:Nat)=4∧ay (setCells c9 (ai ag) 0 [.bool false, .slice none 0 0, .slice none 0 0, .slice none 0 0]) fun ct=>G0 ct ag Q) (bP c9 (ai w) fun xC=>aq c9 (Addr.add (ai w) 1) fun fz=>aq c9
 (Addr.add (ai w) 2) fun c4=>aq c9 (Addr.add (ai w) 3) fun eX=>ji F.fE #[.agg #[.bool xC, .slice fz.a fz.len fz.cap, .slice c4.a c4.len c4.cap, .slice eX.a eX.len eX.cap]] c9 fun Br c1 kK gE e7=>ay (e7.alloc
 dt) fun ld=>cM ld (ai e7) [.bool Br, .slice c1.a c1.len c1.cap, .slice kK.a kK.len kK.cap, .slice gE.a gE.len gE.cap]∧(4:Nat)=4∧ay (setCells ld (ai e7) 0 [.bool Br, .slice c1.a c1.len c1.cap, .slice kK.a
 kK.len kK.cap, .slice gE.a gE.len gE.cap]) fun jF=>bP jF (ai w) fun sF=>aq jF (Addr.add (ai w) 1) fun ep=>aq jF (Addr.add (ai w) 2) fun fS=>aq jF (Addr.add (ai w) 3) fun eV=>dO F.rv #[.agg #[.bool sF, .slice
 ep.a ep.len ep.cap, .slice fS.a fS.len fS.cap, .slice eV.a eV.len eV.cap], .slice key.a key.len key.cap] jF fun D0 Wj du=>aE Wj (ay (du.drew) fun jS=>∃aeG:Nat→Prop,¬aeG (Addr.add (ai e7) 2).block∧aq jS
 (Addr.add (ai e7) 2) fun m_=>dL F.l4 #[.slice val.a val.len val.cap] jS fun fB zz=>ao aeG jS zz∧∃Me:Addr,m_.a=some Me∧a8 D0 m_.len∧st zz (Me.add (Int.toNat D0*1)) (.slice fB.a
 fB.len fB.cap) fun nR=>fg nR e7 ag Q) (ay (du.drew) fun gv=>∃Wk:Nat→Prop,¬Wk (Addr.add (ai e7) 1).block∧aq gv (Addr.add (ai e7) 1) fun ob=>dL F.l4 #[.slice key.a key.len key.cap] gv fun
 gN qb=>ao Wk gv qb∧ay (qb.alloc (.cells #[.slice gN.a gN.len gN.cap] ah.cd)) fun tU=>ao Wk qb tU∧dL F.yn #[.slice ob.a ob.len ob.cap, .int .i64 D0, .slice (some (ai qb)) 1 1]
 tU fun fZ sW=>st sW (Addr.add (ai e7) 1) (.slice fZ.a fZ.len fZ.cap) fun tg=>ay (tg.drew) fun gL=>∃Wl:Nat→Prop,¬Wl (Addr.add (ai e7) 2).block∧aq gL (Addr.add (ai e7) 2) fun jj=>dL
 F.l4 #[.slice val.a val.len val.cap] gL fun q4 j6=>ao Wl gL j6∧ay (j6.alloc (.cells #[.slice q4.a q4.len q4.cap] ah.cd)) fun sg=>ao Wl j6 sg∧dL F.yn
 #[.slice jj.a jj.len jj.cap, .int .i64 D0, .slice (some (ai j6)) 1 1] sg fun lK h5=>st h5 (Addr.add (ai e7) 2) (.slice lK.a lK.len lK.cap) fun sX=>fg sX e7 ag Q))))
def A.yx:bH:=(.s .r (.s (.s (.gn [.run, .run, .run, .run, .split 3, .run, .run, .run, .run, .split 3, .run, .run, .run, .run, .pure 3]) (.c (.s .r .l) .l)) (.s .r (.s .r (.s (.s .r (.c (.s (.eS 5 true ⟨[0,1,0,0,8,31,63],
 [0,1,0,0,8,6,48]⟩ [549755813888,1099511627776,2199023255552,4398046511104,8796093022208,17592186044416,0] [256,549755813888,512,4,4398046511104,3298534883328,26388279066624] (.take 0 (.take 1 (.take 2 (.take 3 (.cH 4
 (.tail [.run, .run]))))))) (.s .r .l)) .l)) (.s (.eS 6 true ⟨[0,1,0,0,8,16,54,127,255],[0,1,0,0,8,16,38,0,192]⟩ [70368744177664,140737488355328,281474976710656,562949953421312,1125899906842624,2251799813685248,
 4503599627370496,9007199254740992,0] [256,70368744177664,512,2,562949953421312,1125899906842624,2674012278751232,256,13510798882111488] (.take 0 (.take 1 (.take 2 (.take 3 (.cH 4 (.cH 5 (.tail [.run, .run, .run])))))))) (.s
 (.eS 6 true ⟨[0,1,0,0,8,16,54,127,255],[0,1,0,0,8,16,38,0,192]⟩ [18014398509481984,36028797018963968,72057594037927936,144115188075855872,288230376151711744,576460752303423488,1152921504606846976,
 2305843009213693952,0] [256,18014398509481984,512,4,144115188075855872,288230376151711744,684547143360315392,256,3458764513820540928] (.take 0 (.take 1 (.take 2 (.take 3 (.cH 4 (.cH 5 (.tail [.run, .run, .run])))))))) (.s .r
 .l))))))))
theorem W.ai1 (cD:Bool) (bn:aa) (bo:aa) (bp:aa) (key:aa) (val:aa) (w:World) (Q:Value→World→Prop) (h:W.yx cD bn bo bp key val w Q):aQ Tryz.prog F.yx #[.agg #[.bool cD, .slice bn.a bn.len bn.cap, .slice bo.a bo.len bo.cap, .slice bp.a bp.len bp.cap], .slice key.a key.len key.cap, .slice val.a val.len val.cap] w Q:=okF A.yx Tryz.func68 (by kernel_rfl) (by kernel_rfl) h
def W.yT (s:Option Addr) (w:World) (Q:Value→World→Prop):Prop:=aE (!(Option.isNone s)) (∃bj:Addr,s=some bj∧aq w (bj.add 1) fun s2=>dL F.CZ #[.slice s2.a s2.len s2.cap] w fun
 bL aZ=>∃ix:Addr,s=some ix∧st aZ (ix.add 2) (.slice bL.a bL.len bL.cap) fun a5=>Q (.tuple #[]) a5) (Q (.tuple #[]) w)
def A.yT:bH:=(.s .r (.c .r .l))
theorem W.aln (s:Option Addr) (w:World) (Q:Value→World→Prop) (h:W.yT s w Q):aQ Tryz.prog F.yT #[.pointer s] w Q:=okF A.yT Tryz.func74 (by kernel_rfl) (by kernel_rfl) h
def W.yQ (c:Option Addr) (no:Int) (w:World) (Q:Value→World→Prop):Prop:=aE (Option.isNone c) (Q (.pointer none) w) (∃bj:Addr,c=some bj∧aq w (bj.add 1) fun s2=>∃ (mj:Int→World→Prop) (pr:Int→
 World→Nat),mj 0 w∧∀ (eT:Int) (a4:World),mj eT a4→aE (decide (eT<(s2.len:Int))) (∃k5:Addr,c=some k5∧aq a4 (k5.add 1) fun fk=>∃mL:Addr,fk.a=some mL∧a8 eT fk.len∧∃gO:Addr,(some (mL.add (Int.toNat eT*6))
 :Option Addr)=some gO∧bP a4 gO fun rT=>c5 (fun p3:Bool→World→Prop=>aE rT (∃kf:Addr,(some (mL.add (Int.toNat eT*6)):Option Addr)=some kf∧bA a4 (kf.add 3) fun mJ=>p3 (mJ==no) a4) (p3 false a4)) (fun
 (vH:Bool) c0=>aE vH (Q (.pointer (some (mL.add (Int.toNat eT*6)))) c0) (mj (aC (eT+1)) c0∧pr (aC (eT+1)) c0<pr eT a4))) (Q (.pointer none) a4))
def A.yQ:bH:=(.s .r (.s bj (.s (.s .r (.dv (.loop [(14,(.int .i64))] [0,1,13] (.s .r (.s (.c .l .l) (.s (.dv (.s .r (.s .r (.s (.gn [.run, .run, .run, .run, .run, .split 6]) (.c (.s .r .l) .l))))) .r)))))) (.s .r
 .l))))
theorem W.aj4 (c:Option Addr) (no:Int) (w:World) (Q:Value→World→Prop) (h:W.yQ c no w Q):aQ Tryz.prog F.yQ #[.pointer c, .int .i64 no] w Q:=okF A.yQ Tryz.func76 (by kernel_rfl) (by kernel_rfl) h
def W.vr (s:aa) (no:Int) (w:World) (Q:Value→World→Prop):Prop:=(8:Int)≠0∧∃bj:Addr,s.a=some bj∧a8 (aC (Int.tdiv no 8)) s.len∧iq w (bj.add (Int.toNat (aC (Int.tdiv no 8))*1)) fun c_=>(8:Int)≠0
 ∧(0:Int)≤(Int.tmod no 8)∧Q (.bool (((tJ .u8 (Int.fdiv c_ (2^(min (Int.toNat (Int.tmod no 8)) 8))) 1):Int)==1)) w
def A.vr:bH:=(.s .r (.s .r .l))
theorem W.akY (s:aa) (no:Int) (w:World) (Q:Value→World→Prop) (h:W.vr s no w Q):aQ Tryz.prog F.vr #[.slice s.a s.len s.cap, .int .i64 no] w Q:=okF A.vr Tryz.func78 (by kernel_rfl) (by kernel_rfl) h
def W.CD (d:Option Addr) (i:Int) (w:World) (Q:Value→World→Prop):Prop:=ay (w.alloc pD) fun ag=>∃cL:Addr,d=some cL∧∃qY:Option Nat,ag.cell? (cL.add 5)=some (.map qY)∧∃cB:aa,∃bF:World,
 Sem.run Tryz.prog (Instr.lookup ah.Aj (.map qY) (.int .i64 i) false) ag= .ok (.slice cB.a cB.len cB.cap) bF∧aE (decide ((cB.len:Int)>0)) (∃ix:Addr,cB.a=some ix∧((0:Int)≤(aC ((cB.len:Int)-1))∧(aC
 ((cB.len:Int)-1))<(cB.len:Int))∧∃IM:List Value,ey bF (ix.add (Int.toNat (aC ((cB.len:Int)-1))*256)) 0 256=some IM∧R_ bF w IM Q) (∃gO:Addr,d=some gO∧aq bF (gO.add 4) fun dN=>NU dN i bF 256 fun ask=>
 R_ bF w ask Q)
def A.CD:bH:=(.s .r (.s (.s .r bj) (.s .r .l)))
theorem W.ajM (d:Option Addr) (i:Int) (w:World) (Q:Value→World→Prop) (h:W.CD d i w Q):aQ Tryz.prog F.CD #[.pointer d, .int .i64 i] w Q:=okF A.CD Tryz.func79 (by kernel_rfl) (by kernel_rfl) h
def W.ye (no:Int) (b:aa) (w:World) (Q:Value→World→Prop):Prop:=ay (w.alloc yf) fun ag=>aE ((b.len:Int) !=256) (cM ag (ai w) [.int .i64 0, .int .u64 0, .slice none 0 0]∧(3:Nat)=3∧ay (setCells ag (ai w)
 0 [.int .i64 0, .int .u64 0, .slice none 0 0]) fun aw=>bA aw (ai w) fun bq=>kF aw (Addr.add (ai w) 1) fun fT=>aq aw (Addr.add (ai w) 2) fun bL=>Q (.tuple #[.agg #[.int .i64 bq, .int .u64 fT, .slice bL.a bL.len bL.cap], .int .i64 9])
 aw) (((0:Int)≤4∧4≤((b.cap:Nat):Int))∧∃c8:ByteArray,∃a5:World,Sem.run Tryz.prog (convert ah.cd ah.string (.slice (a3 b.a 1 0 b.cap) ((Int.toNat 4)-0) (b.cap-0))) ag= .ok (.string c8) a5∧aE
 (!(ByteArray.toList c8==ByteArray.toList (ByteArray.mk #[83,84,78,67]))) (cM a5 (ai w) [.int .i64 0, .int .u64 0, .slice none 0 0]∧(3:Nat)=3∧ay (setCells a5 (ai w) 0 [.int .i64 0, .int .u64 0, .slice none 0 0]) fun b9=>
 Rq b9 w Q) (∃iH:Addr,b.a=some iH∧a8 4 b.len∧iq a5 (iH.add (Int.toNat 4*1)) fun xU=>aE (xU !=1) (cM a5 (ai w) [.int .i64 0, .int .u64 0, .slice none 0 0]∧(3:Nat)=3∧ay (setCells a5 (ai w) 0 [.int .i64 0, .int
 .u64 0, .slice none 0 0]) fun dy=>bA dy (ai w) fun q8=>kF dy (Addr.add (ai w) 1) fun nX=>aq dy (Addr.add (ai w) 2) fun hD=>Q (.tuple #[.agg #[.int .i64 q8, .int .u64 nX, .slice hD.a hD.len hD.cap], .int .i64 12]) dy)
 (nd F.uR #[.slice b.a b.len b.cap] a5 fun uy fF=>Ju F.rm #[.slice b.a b.len b.cap, .int .i64 20, .int .i64 24] fF fun oR dF=>aE (((IntKind.wrap .u64 uy):Int) !=oR) (cM dF (ai w) [.int .i64 0, .int .u64
 0, .slice none 0 0]∧(3:Nat)=3∧ay (setCells dF (ai w) 0 [.int .i64 0, .int .u64 0, .slice none 0 0]) fun cK=>bA cK (ai w) fun zq=>kF cK (Addr.add (ai w) 1) fun BG=>aq cK (Addr.add (ai w) 2) fun c4=>Q (.tuple #[.agg
 #[.int .i64 zq, .int .u64 BG, .slice c4.a c4.len c4.cap], .int .i64 5]) cK) (Ju F.rm #[.slice b.a b.len b.cap, .int .i64 6, .int .i64 8] dF fun u4 fp=>∃nU:Addr,b.a=some nU∧a8 5 b.len∧iq fp (nU.add
 (Int.toNat 5*1)) fun Gf=>a_ F.Ga #[.int .i64 (aC Gf)] fp fun DZ eC=>c5 (fun aeH:Bool→World→Prop=>aE ((!DZ)||(decide (((aC u4):Int)>232))) (aeH true eC) (((0:Int)≤(aC (24+(aC u4)))∧(aC (24+(aC
 u4)))≤(b.len:Int))∧a_ F.yd #[.slice (a3 b.a 1 (Int.toNat (aC (24+(aC u4)))) b.cap) (b.len-(Int.toNat (aC (24+(aC u4))))) (b.cap-(Int.toNat (aC (24+(aC u4)))))] eC fun V5 k_=>aeH (!V5) k_)) (fun (Wb:Bool)
 du=>aE Wb (cM du (ai w) [.int .i64 0, .int .u64 0, .slice none 0 0]∧(3:Nat)=3∧ay (setCells du (ai w) 0 [.int .i64 0, .int .u64 0, .slice none 0 0]) fun gy=>Rq gy w Q) (a_ F.Gb #[.int .i64 no] du fun V2 hU=>
 c5 (fun aeI:Bool→World→Prop=>aE (!V2) (aeI true hU) (Ju F.rm #[.slice b.a b.len b.cap, .int .i64 8, .int .i64 12] hU fun Qq ow=>aeI (Qq !=(IntKind.wrap .u64 no)) ow)) (fun (ta:Bool) kv=>aE ta (cM kv
 (ai w) [.int .i64 0, .int .u64 0, .slice none 0 0]∧(3:Nat)=3∧ay (setCells kv (ai w) 0 [.int .i64 0, .int .u64 0, .slice none 0 0]) fun e_=>bA e_ (ai w) fun Mf=>kF e_ (Addr.add (ai w) 1) fun asl=>aq e_ (Addr.add (ai w) 2)
 fun kJ=>Q (.tuple #[.agg #[.int .i64 Mf, .int .u64 asl, .slice kJ.a kJ.len kJ.cap], .int .i64 1]) e_) (Ex F.x7 #[.slice b.a b.len b.cap, .int .i64 24, .int .i64 (aC u4)] kv fun jB aeJ qO=>ay (qO.drew) fun c7=>∃ot:
 Nat→Prop,∃Wm:Addr,b.a=some Wm∧a8 5 b.len∧¬ot (Wm.add (Int.toNat 5*1)).block∧iq c7 (Wm.add (Int.toNat 5*1)) fun aeK=>Ju F.rm #[.slice b.a b.len b.cap, .int .i64 12, .int .i64 20] c7 fun Qr oJ=>ao
 ot c7 oJ∧cM oJ (ai w) [.int .i64 (aC aeK), .int .u64 Qr, .slice jB.a jB.len jB.cap]∧(3:Nat)=3∧ay (setCells oJ (ai w) 0 [.int .i64 (aC aeK), .int .u64 Qr, .slice jB.a jB.len jB.cap]) fun nj=>bA nj (ai w) fun
 asm=>kF nj (Addr.add (ai w) 1) fun asn=>aq nj (Addr.add (ai w) 2) fun zA=>Q (.tuple #[.agg #[.int .i64 asm, .int .u64 asn, .slice zA.a zA.len zA.cap], .int .i64 0]) nj))))))))
def A.ye:bH:=(.s .r (.s (.dv (.s .r (.c (.s .r .l) (.s .r (.c (.s .r .l) (.s .r (.c (.s .r .l) bj))))))) (.s .r (.s (.dv (.s (.gn [.run, .run, .run, .run, .run, .run, .run, .pure 2, .run, .run, .run, .split 6]) (.c (.s .r
 .l) oA))) (.s .r (.s (.eS 7 true ⟨[0,1,2,4,0,16,0,104,255,511],[0,1,2,4,0,16,0,104,128,0]⟩ [37778931862957161709568,75557863725914323419136,151115727451828646838272,302231454903657293676544,604462909807314587353088,
 1208925819614629174706176,2417851639229258349412352,4835703278458516698824704,0,32] [2,37778931862957161709568,75557863725914323419136,151115727451828646838272,2,604462909807314587353088,128,3929008913747544817795072,
 4835703278458516698824720,0] (.take 0 (.take 1 (.take 2 (.take 3 (.take 4 (.take 6 (.cH 5 (.tail [.run, .run, .run]))))))))) .l))))))
theorem W.ahB (no:Int) (b:aa) (w:World) (Q:Value→World→Prop) (h:W.ye no b w Q):aQ Tryz.prog F.ye #[.int .i64 no, .slice b.a b.len b.cap] w Q:=okF A.ye Tryz.func88 (by kernel_rfl) (by kernel_rfl) h
def W.B7 (no:Int) (Qs:Int) (Qt:Int) (D1:aa) (w:World) (Q:Value→World→Prop):Prop:=ay (w.alloc (.cells #[.int .i64 Qs, .int .u64 Qt, .slice D1.a D1.len D1.cap] ah.Jt)) fun ag=>
 a_ F.Gb #[.int .i64 no] ag fun eW aw=>c5 (fun oK:Bool→World→Prop=>aE (!eW) (oK true aw) (bA aw (ai w) fun iA=>a_ F.Ga #[.int .i64 iA] aw fun ju a5=>oK (!ju) a5)) (fun (oY:Bool) cq=>aE oY (Q (.tuple #[.slice
 none 0 0, .int .i64 1]) cq) (aq cq (Addr.add (ai w) 2) fun fc=>aE (decide ((fc.len:Int)>232)) (Q (.tuple #[.slice none 0 0, .int .i64 10]) cq) (ay (cq.alloc (.cells #[.int .u8 83, .int .u8 84, .int .u8 78, .int .u8 67] ah.uint8))
 fun bY=>∃dk:aa,∃dY:World,Sem.run Tryz.prog (convert ah.cd ah.cd (.slice (some (ai cq)) 4 4)) bY= .ok (.slice dk.a dk.len dk.cap) dY∧bA dY (ai w) fun nX=>ay (dY.alloc (.cells #[.int .u8 1, .int .u8
 (IntKind.wrap .u8 nX)] ah.uint8)) fun eQ=>ay (eQ.alloc (.cells #[.slice dk.a dk.len dk.cap, .slice (some (ai dY)) 2 2] ah.cd)) fun fF=>dL F.sO #[.slice (some (ai eQ)) 2 2] fF fun eU c9=>aq c9 (Addr.add (ai
 w) 2) fun fO=>dL F.o2 #[.slice eU.a eU.len eU.cap, .int .u64 (IntKind.wrap .u64 (fO.len:Int)), .int .i64 2] c9 fun kg oX=>dL F.o2 #[.slice kg.a kg.len kg.cap, .int .u64 (IntKind.wrap .u64 no), .int .i64 4] oX fun
 eX cu=>kF cu (Addr.add (ai w) 1) fun q9=>dL F.o2 #[.slice eX.a eX.len eX.cap, .int .u64 q9, .int .i64 8] cu fun c1 gj=>c5 (fun Gd:aa→World→Prop=>ay (gj.drew) fun eG=>∃IT:Nat→Prop,¬IT (Addr.add
 (ai w) 2).block∧aq eG (Addr.add (ai w) 2) fun jE=>¬IT (Addr.add (ai w) 2).block∧aq eG (Addr.add (ai w) 2) fun jc=>(((0:Int)≤4∧(4:Int)≤4∧(4:Int)≤x_∧((1:Nat):Int)*4≤140737488355328)∧ay (eG.alloc
 (.cells (pC Tryz.prog ah.uint8 (Int.toNat 4)) ah.uint8)) fun jD=>ao IT eG jD∧(Rm jc)∧ay (jD.alloc (.cells (pC Tryz.prog ah.uint8 (Int.toNat (aC (232-(jc.len:Int))))) ah.uint8)) fun mc=>ao IT jD mc∧Rn mc c1
 eG jE jD jc Gd)∧((Rm jc)∧ay (eG.alloc (.cells (pC Tryz.prog ah.uint8 (Int.toNat (aC (232-(jc.len:Int))))) ah.uint8)) fun nq=>ao IT eG nq∧((0:Int)≤4∧(4:Int)≤4∧(4:Int)≤x_∧((1:Nat):Int)*4≤
 140737488355328)∧ay (nq.alloc (.cells (pC Tryz.prog ah.uint8 (Int.toNat 4)) ah.uint8)) fun jS=>ao IT nq jS∧Rn jS c1 nq jE eG jc Gd)) (fun (fB:aa) rI=>ay (rI.drew) fun nR=>∃avq:Nat→Prop,((0:Int)≤20∧
 20≤(fB.len:Int))∧nd F.uR #[.slice fB.a fB.len fB.cap] nR fun Mf kv=>∃avr:Nat→Prop,dL F.o2 #[.slice none 0 0, .int .u64 (IntKind.wrap .u64 Mf), .int .i64 4] kv fun fl Di=>∃Wn:Int,∃gv:World,
 Sem.run Tryz.prog (Builtin.copy_ #[ah.cd,ah.cd] ah.int #[.slice (a3 fB.a 1 (Int.toNat 20) fB.cap) (fB.len-(Int.toNat 20)) (fB.cap-(Int.toNat 20)), .slice fl.a fl.len fl.cap]) Di= .ok (.int .i64 Wn) gv∧Q
 (.tuple #[.slice fB.a fB.len fB.cap, .int .i64 0]) gv))))
def A.B7:bH:=(.s .r (.s (.dv (.s (.gn [.run, .run, .run, .run, .split 4]) (.c (.s .r .l) bj))) (.s .r (.s .r (.s .r (.s .r (.s (.mi [(6, .slice)] [] (.eS 9 true ⟨[0,0,0,4,0,16,32,64,128,267,512,2047],[0,0,0,4,
 0,16,32,64,128,267,512,1025]⟩ [17592186044416,35184372088832,70368744177664,140737488355328,281474976710656,562949953421312,1125899906842624,2251799813685248,4503599627370496,9007199254740992,18014398509481984,64] [64,0,
 8,70368744177664,8,281474976710656,562949953421312,1125899906842624,2251799813685248,4697113673859072,9007199254740992,18014398509481984] (.take 0 (.take 2 (.take 3 (.take 4 (.take 5 (.take 6 (.take 7 (.two 1 (.cH 8 (.tail [.run,
 .run, .run])) 8 (.cH 1 (.tail [.run, .run, .run])))))))))))) (.s (.eS 6 true ⟨[0,1,0,4,8,24,34],[0,1,0,4,8,16,34]⟩ [36028797018963968,72057594037927936,144115188075855872,288230376151711744,576460752303423488,
 1152921504606846976,2305843009213693952] [64,36028797018963968,64,144115188075855872,288230376151711744,576460752303423488,1224979098644774912] (.take 0 (.take 1 (.take 2 (.out 3 true (.take 4 (.out 5 false (.tail [.run])))))))) (.s
 .r .l)))))))))
theorem W.ahu (no:Int) (Qs:Int) (Qt:Int) (D1:aa) (w:World) (Q:Value→World→Prop) (h:W.B7 no Qs Qt D1 w Q):aQ Tryz.prog F.B7 #[.int .i64 no, .agg #[.int .i64 Qs, .int .u64 Qt, .slice D1.a D1.len D1.cap]] w Q:=okF A.B7 Tryz.func99 (by kernel_rfl) (by kernel_rfl) h
def W.s6 (t:Option Addr) (no:Int) (leaf:Bool) (w:World) (Q:Value→World→Prop):Prop:=ay (w.alloc dt) fun ag=>∃cL:Addr,t=some cL∧∃gq:Option Addr,ag.cell? cL=some (.pointer gq)∧gu
 F.CP #[.pointer gq, .int .i64 no] ag fun c8 gF br=>aE (gF !=0) (SE br w Q gF) (Zw F.ye #[.int .i64 no, .slice c8.a c8.len c8.cap] br fun q8 nX hD kh bY=>ay (bY.alloc yf) fun c9=>cM c9 (ai bY)
 [.int .i64 q8, .int .u64 nX, .slice hD.a hD.len hD.cap]∧(3:Nat)=3∧ay (setCells c9 (ai bY) 0 [.int .i64 q8, .int .u64 nX, .slice hD.a hD.len hD.cap]) fun ct=>aE (kh !=0) (SE ct w Q kh) (ay (ct.drew) fun cu=>¬
 False∧kF cu (Addr.add (ai bY) 1) fun pc=>∃aeL:Addr,t=some aeL∧¬False∧kF cu (aeL.add 2) fun q9=>aE (decide (pc>q9)) (c5 (fun aeM:Bool→World→Prop=>aE true (aeM true cu) (bA cu (ai bY) fun gM=>c5 (fun
 aeN:Bool→World→Prop=>aE (gM !=1) (bA cu (ai bY) fun aso=>aeN (aso !=2) cu) (aeN false cu)) (fun (asp:Bool) ld=>aeM asp ld))) (fun (IP:Bool) k_=>aE IP (cM k_ (ai w) [.bool false, .slice none 0 0, .slice
 none 0 0, .slice none 0 0]∧(4:Nat)=4∧ay (setCells k_ (ai w) 0 [.bool false, .slice none 0 0, .slice none 0 0, .slice none 0 0]) fun jD=>Jz jD w Q) (aq k_ (Addr.add (ai bY) 2) fun hJ=>xj F.wv #[.bool leaf, .slice
 hJ.a hJ.len hJ.cap] k_ fun BI m_ nu kt asq nq=>cM nq (ai w) [.bool BI, .slice m_.a m_.len m_.cap, .slice nu.a nu.len nu.cap, .slice kt.a kt.len kt.cap]∧(4:Nat)=4∧ay (setCells nq (ai w) 0 [.bool BI,
 .slice m_.a m_.len m_.cap, .slice nu.a nu.len nu.cap, .slice kt.a kt.len kt.cap]) fun rI=>N8 rI w Q asq))) (¬False∧bA cu (ai bY) fun Mf=>c5 (fun yE:Bool→World→Prop=>aE (!((Mf==1)==leaf)) (yE true cu)
 (bA cu (ai bY) fun Wo=>c5 (fun aeO:Bool→World→Prop=>aE (Wo !=1) (bA cu (ai bY) fun Wp=>aeO (Wp !=2) cu) (aeO false cu)) (fun (asr:Bool) gv=>yE asr gv))) (fun (ass:Bool) sE=>aE ass (cM sE (ai w)
 [.bool false, .slice none 0 0, .slice none 0 0, .slice none 0 0]∧(4:Nat)=4∧ay (setCells sE (ai w) 0 [.bool false, .slice none 0 0, .slice none 0 0, .slice none 0 0]) fun qb=>Jz qb w Q) (aq sE (Addr.add (ai bY) 2) fun fY=>
 xj F.wv #[.bool leaf, .slice fY.a fY.len fY.cap] sE fun Qu q7 jj lJ ast rS=>cM rS (ai w) [.bool Qu, .slice q7.a q7.len q7.cap, .slice jj.a jj.len jj.cap, .slice lJ.a lJ.len lJ.cap]∧(4:Nat)=4∧ay
 (setCells rS (ai w) 0 [.bool Qu, .slice q7.a q7.len q7.cap, .slice jj.a jj.len jj.cap, .slice lJ.a lJ.len lJ.cap]) fun vg=>N8 vg w Q ast)))))
def A.s6:bH:=(.s .r (.s .r (.s bj (.s .r (.s bj (.s (.s (.eS 12 false ⟨[0,1,0,4,8,16,34,64,128,384,640,128,3200,4224,8320,16384,49152,81920,147456,262144,786432,1310720,2375680,4210688],[0,1,0,4,
 8,16,34,64,128,384,640,128,3200,4224,8192,16384,49152,81920,147456,262144,786432,1310720,2375680,4210688]⟩ [17179869184,34359738368,68719476736,137438953472,274877906944,549755813888,1099511627776,2199023255552,
 4398046511104,8796093022208,17592186044416,35184372088832,70368744177664,140737488355328,281474976710656,562949953421312,1125899906842624,2251799813685248,4503599627370496,9007199254740992,18014398509481984,36028797018963968,
 72057594037927936,144115188075855872] [1024,17179869184,1,68719476736,137438953472,274877906944,584115552256,1099511627776,2199023256576,6597069766656,10995116277760,2199023255556,54975581388800,72567767433216,
 140737488355328,281474976711680,844424930131968,1407374883553280,2533274790395904,4503599627371520,13510798882111488,22517998136852480,40813871623045120,72339069014638592] (.take 0 (.take 1 (.take 2 (.take 3 (.take 4 (.take 5
 (.take 6 (.take 7 (.sp 41 (.take 8 (.take 9 (.take 10 (.take 11 (.tail [.run, .run, .run, .split 8, .run, .run, .run, .split 3, .run, .run, .run, .run]))))) (.take 8 (.take 9 (.take 10 (.take 11 (.tail [.run, .run, .run, .split 8, .run,
 .run, .run, .split 3, .run, .run, .run, .run]))))))))))))))) (.c (.s .r .l) .l)) (.s .r .l)))))))
theorem W.alI (t:Option Addr) (no:Int) (leaf:Bool) (w:World) (Q:Value→World→Prop) (h:W.s6 t no leaf w Q):aQ Tryz.prog F.s6 #[.pointer t, .int .i64 no, .bool leaf] w Q:=okF A.s6 Tryz.func104 (by kernel_rfl) (by kernel_rfl) h
def W.u9 (cD:Bool) (bn:aa) (bo:aa) (bp:aa) (key:aa) (w:World) (Q:Value→World→Prop):Prop:=ay (w.alloc (.cells #[.bool cD, .slice bn.a bn.len bn.cap, .slice bo.a bo.len
 bo.cap, .slice bp.a bp.len bp.cap] ah.cF)) fun ag=>bP ag (ai w) fun cy=>aq ag (Addr.add (ai w) 1) fun bQ=>aq ag (Addr.add (ai w) 2) fun cB=>aq ag (Addr.add (ai w) 3) fun bL=>dO F.rv #[.agg #[.bool cy,
 .slice bQ.a bQ.len bQ.cap, .slice cB.a cB.len cB.cap, .slice bL.a bL.len bL.cap], .slice key.a key.len key.cap] ag fun gg ju a4=>c5 (fun xX:Int→World→Prop=>aE ju (xX (aC (gg+1)) a4) (xX gg a4)) (fun (mI:Int) cG=>Q (.int
 .i64 mI) cG)
def A.u9:bH:=(.s .r (.s .r (.s (.mi [(5,(.int .i64))] [] (.s .r (.c .r .l))) (.s .r .l))))
theorem W.aiX (cD:Bool) (bn:aa) (bo:aa) (bp:aa) (key:aa) (w:World) (Q:Value→World→Prop) (h:W.u9 cD bn bo bp key w Q):aQ Tryz.prog F.u9 #[.agg #[.bool cD, .slice bn.a bn.len bn.cap, .slice bo.a bo.len bo.cap, .slice bp.a bp.len bp.cap], .slice key.a key.len key.cap] w Q:=okF A.u9 Tryz.func105 (by kernel_rfl) (by kernel_rfl) h
def W.rv (cD:Bool) (bn:aa) (bo:aa) (bp:aa) (key:aa) (w:World) (Q:Value→World→Prop):Prop:=ay (w.alloc (.cells #[.bool cD, .slice bn.a bn.len bn.cap, .slice bo.a bo.len
 bo.cap, .slice bp.a bp.len bp.cap] ah.cF)) fun ag=>aq ag (Addr.add (ai w) 1) fun s2=>dO F.Cn #[.slice s2.a s2.len s2.cap, .slice key.a key.len key.cap, .func (.func
 F.oI) #[] #[]] ag fun eT k7 aZ=>Q (.tuple #[.int .i64 eT, .bool k7]) aZ
def A.rv:bH:=(.s .r (.s .r .l))
theorem W.aiU (cD:Bool) (bn:aa) (bo:aa) (bp:aa) (key:aa) (w:World) (Q:Value→World→Prop) (h:W.rv cD bn bo bp key w Q):aQ Tryz.prog F.rv #[.agg #[.bool cD, .slice bn.a bn.len bn.cap, .slice bo.a bo.len bo.cap, .slice bp.a bp.len bp.cap], .slice key.a key.len key.cap] w Q:=okF A.rv Tryz.func106 (by kernel_rfl) (by kernel_rfl) h
def W.nG (cD:Bool) (bn:aa) (bo:aa) (bp:aa) (w:World) (Q:Value→World→Prop):Prop:=ay (w.alloc (.cells #[.bool cD, .slice bn.a bn.len bn.cap, .slice bo.a bo.len bo.cap,
 .slice bp.a bp.len bp.cap] ah.cF)) fun ag=>aq ag (Addr.add (ai w) 1) fun s2=>∃ (mj:Int→World→Prop) (pr:Int→World→Nat),mj 0 ag∧∀ (eT:Int) (a4:World),mj eT a4→aE (decide (eT<(s2.len:Int))) (∃k5:
 Addr,s2.a=some k5∧a8 eT s2.len∧aq a4 (k5.add (Int.toNat eT*1)) fun fk=>a_ F.uY #[.slice fk.a fk.len fk.cap] a4 fun rT bR=>c5 (fun p3:Bool→World→Prop=>aE (!rT) (p3 true bR) (c5 (fun aeP:Bool→World→Prop
 =>aE (decide (eT>0)) (aq bR (Addr.add (ai w) 1) fun dk=>∃mK:Addr,dk.a=some mK∧a8 (aC (eT-1)) dk.len∧aq bR (mK.add (Int.toNat (aC (eT-1))*1)) fun dx=>bc F.oI #[.slice dx.a dx.len dx.cap, .slice
 fk.a fk.len fk.cap] bR fun kU eQ=>aeP (decide (kU≥0)) eQ) (aeP false bR)) (fun (vZ:Bool) dF=>p3 vZ dF))) (fun (xV:Bool) oX=>aE xV (Q (.bool false) oX) (mj (aC (eT+1)) oX∧pr (aC (eT+1)) oX<pr eT a4))) (bP
 a4 (ai w) fun zy=>aE zy (aq a4 (Addr.add (ai w) 2) fun kg=>aq a4 (Addr.add (ai w) 1) fun fz=>c5 (fun L8:Bool→World→Prop=>aE ((kg.len:Int)==(fz.len:Int)) (aq a4 (Addr.add (ai w) 3) fun eX=>L8 ((eX.len:Int)==0)
 a4) (L8 false a4)) (fun (Mg:Bool) gj=>c5 (fun aeQ:Bool→World→Prop=>aE Mg (aq gj (Addr.add (ai w) 2) fun c1=>a_ F.Ce #[.slice c1.a c1.len c1.cap, .func (.func F.wj) #[]
 #[]] gj fun DZ eC=>aeQ (!DZ) eC) (aeQ false gj)) (fun (IP:Bool) k_=>Q (.bool IP) k_))) (aq a4 (Addr.add (ai w) 1) fun ep=>c5 (fun aeR:Bool→World→Prop=>aE (decide ((ep.len:Int)>0)) (aq a4 (Addr.add (ai w) 3) fun
 eV=>aq a4 (Addr.add (ai w) 1) fun qo=>aeR ((eV.len:Int)==(aC ((qo.len:Int)+1))) a4) (aeR false a4)) (fun (asu:Bool) mf=>c5 (fun aeS:Bool→World→Prop=>aE asu (aq mf (Addr.add (ai w) 2) fun hX=>aeS ((hX.len:Int)
 ==0) mf) (aeS false mf)) (fun (BI:Bool) dp=>c5 (fun aeT:Bool→World→Prop=>aE BI (aq dp (Addr.add (ai w) 3) fun kt=>a_ F.Cf #[.slice kt.a kt.len kt.cap, .func (.func F.wk) #[]
 #[]] dp fun asv ow=>aeT (!asv) ow) (aeT false dp)) (fun (ta:Bool) kv=>Q (.bool ta) kv)))))
def A.nG:bH:=(.s .r (.s (.s .r (.dv (.loop [(10,(.int .i64))] [1,8,9] (.s .r (.s (.c .l .l) (.s (.dv (.s .r (.s (.gn [.run, .run, .run, .run, .split 13, .run, .run, .split 9]) (.c (.s .r .l) .l)))) .r)))))) (.s (.s .r (.c
 (.s .r (.s (.gn [.run, .run, .run, .run, .run, .run, .run, .run, .split 4, .run, .run, .run, .run, .run, .split 5]) .l)) .l)) (.s .r (.s (.gn [.run, .run, .run, .run, .run, .split 8, .run, .run, .run, .run, .run, .run, .run, .run, .run,
 .split 4, .run, .run, .run, .run, .run, .split 5]) .l)))))
theorem W.ahY (cD:Bool) (bn:aa) (bo:aa) (bp:aa) (w:World) (Q:Value→World→Prop) (h:W.nG cD bn bo bp w Q):aQ Tryz.prog F.nG #[.agg #[.bool cD, .slice bn.a bn.len bn.cap, .slice bo.a bo.len bo.cap, .slice bp.a bp.len bp.cap]] w Q:=okF A.nG Tryz.func107 (by kernel_rfl) (by kernel_rfl) h
def W.fE (cD:Bool) (bn:aa) (bo:aa) (bp:aa) (w:World) (Q:Value→World→Prop):Prop:=ay (w.alloc (.cells #[.bool cD, .slice bn.a bn.len bn.cap, .slice bo.a bo.len bo.cap,
 .slice bp.a bp.len bp.cap] ah.cF)) fun ag=>ay (ag.alloc dt) fun aw=>ay (aw.drew) fun aZ=>∃mM:Nat→Prop,¬mM ((ai w):Addr).block∧bP aZ (ai w) fun iJ=>¬mM (Addr.add (ai w) 3).block∧aq aZ (Addr.add (ai w)
 3) fun c8=>(dL F.u7 #[.slice c8.a c8.len c8.cap] aZ fun db a5=>ao mM aZ a5∧∃ji:Array Value,(∀cq:World,Sem.run Tryz.prog (Instr.build ah.cF #[(0, .bool iJ),(3, .slice db.a db.len db.cap)]) cq=
 .ok (.agg ji) cq)∧ay (a5.alloc dt) fun cG=>ao mM a5 cG∧RM cG a5 ji w ag Q)∧(ay (aZ.alloc dt) fun kV=>ao mM aZ kV∧dL F.u7 #[.slice c8.a c8.len c8.cap] kV fun fl Di=>ao mM kV Di∧∃aeU:
 Array Value,(∀gv:World,Sem.run Tryz.prog (Instr.build ah.cF #[(0, .bool iJ),(3, .slice fl.a fl.len fl.cap)]) gv= .ok (.agg aeU) gv)∧RM Di aZ aeU w ag Q)
def A.fE:bH:=(.s .r (.s (.eS 7 true ⟨[0,1,0,4,8,18,0,127],[0,1,0,4,8,18,0,96]⟩ [256,512,1024,2048,4096,8192,8,0] [2,256,2,1024,2048,4608,0,8200] (.take 0 (.take 1 (.take 2 (.take 3 (.two 4 (.take 5
 (.cH 6 (.tail [.run]))) 6 (.cH 4 (.take 5 (.tail [.run]))))))))) (.s (.s .r (.dv (.loop [(17,(.int .i64))] [1,2,3,15,16] (.s .r (.s (.c .l .l) (.s (.dv (.s .r (.eS 5 true ⟨[0,1,0,4,8,26,63,127],[0,1,0,4,8,18,0,96]⟩
 [2097152,4194304,8388608,16777216,33554432,67108864,134217728,0] [8,2097152,32,8388608,16777216,37748736,8,201326592] (.take 0 (.take 1 (.take 2 (.cH 3 (.cH 4 (.tail [.run, .run, .run]))))))))) .r)))))) (.s (.s .r (.dv
 (.loop [(32,(.int .i64))] [2,3,30,31] (.s .r (.s (.c .l .l) (.s (.dv (.s .r (.eS 5 true ⟨[0,1,0,4,8,26,63,127],[0,1,0,4,8,18,0,96]⟩ [68719476736,137438953472,274877906944,549755813888,1099511627776,2199023255552,
 4398046511104,0] [8,68719476736,128,274877906944,549755813888,1236950581248,8,6597069766656] (.take 0 (.take 1 (.take 2 (.cH 3 (.cH 4 (.tail [.run, .run, .run]))))))))) .r)))))) (.s .r .l)))))
theorem W.aiY (cD:Bool) (bn:aa) (bo:aa) (bp:aa) (w:World) (Q:Value→World→Prop) (h:W.fE cD bn bo bp w Q):aQ Tryz.prog F.fE #[.agg #[.bool cD, .slice bn.a bn.len bn.cap, .slice bo.a bo.len bo.cap, .slice bp.a bp.len bp.cap]] w Q:=okF A.fE Tryz.func108 (by kernel_rfl) (by kernel_rfl) h
def W.zg (x:Addr) (tA:Addr) (w:World) (Q:Value→World→Prop):Prop:=bA w x fun di=>aE (di !=0) (ay (w.drew) fun aw=>¬False∧∃gq:Option Addr,aw.cell? tA=some (.pointer gq)∧¬False∧∃tb:Option
 Addr,aw.cell? tA=some (.pointer tb)∧∃gS:Addr,tb=some gS∧¬False∧aq aw (gS.add 1) fun c8=>bd F.A4 #[.pointer gq, .slice c8.a c8.len c8.cap] aw fun a5=>Q (.tuple #[]) a5) (Q (.tuple #[]) w)
def A.zg:bH:=(.s .r (.c (.eS 5 false ⟨[0,0,2,4,8,17],[0,0,2,4,8,17]⟩ [16,32,64,128,256,512] [2,2,32,64,128,272] (.take 0 (.take 1 (.take 2 (.take 3 (.take 4 (.tail [.run]))))))) .l))
theorem W.asw (x:Addr) (tA:Addr) (w:World) (Q:Value→World→Prop):W.zg x tA w Q=IJ Tryz.prog aH A.zg Tryz.f110 [.pointer (some x), .pointer (some tA)] w Q:=by kernel_rfl
theorem W.abo (x:Addr) (tA:Addr) (w:World) (K:World→Prop) (h:W.zg x tA w fun _ ag=>K ag):IK Tryz.prog F.zg #[.pointer (some x), .pointer (some tA)] w K:=
  ar3 V1 ⟨_,Tryz.func110,by kernel_rfl,by kernel_rfl⟩ Tryz.func110 (by kernel_rfl) (Eq.mp (W.asw x tA w _) h)
def W.A4 (c:Option Addr) (l:aa) (w:World) (Q:Value→World→Prop):Prop:=∃ (gQ:Int→World→Prop) (iS:Int→World→Nat),gQ 0 w∧∀ (bq:Int) (br:World),gQ bq br→aE (decide (bq<(l.len:Int))) (c5 (fun
 oK:World→Prop=>∃ix:Addr,l.a=some ix∧a8 bq l.len∧bA br (ix.add (Int.toNat bq*1)) fun gF=>∃jv:Addr,c=some jv∧∃D2:Option Addr,br.cell? jv=some (.pointer D2)∧∃gO:Addr,D2=some gO∧∃BJ:Option Addr,
 br.cell? (gO.add 1)=some (.pointer BJ)∧a_ F.CY #[.pointer BJ, .int .i64 gF] br fun asx cG=>∃mK:Addr,c=some mK∧∃D3:Option Addr,cG.cell? mK=some (.pointer D3)∧∃tw:Addr,D3=some tw∧∃aeV
 :Option Addr,cG.cell? (tw.add 1)=some (.pointer aeV)∧bc F.CX #[.pointer aeV, .int .i64 gF] cG fun V9 c9=>aE asx (∃v3:Addr,c=some v3∧∃aeW:Option Addr,c9.cell? v3=some (.pointer aeW)∧∃IU:
 Addr,aeW=some IU∧∃aeX:Option Addr,c9.cell? IU=some (.pointer aeX)∧a_ F.CS #[.pointer aeX, .int .i64 gF] c9 fun DB cu=>oK cu) (oK c9)) (fun e7=>gQ (aC (bq+1)) e7∧iS (aC (bq+1)) e7<iS bq br))
 (Q (.tuple #[]) br)
def A.A4:bH:=(.s .r (.dv (.loop [(9,(.int .i64))] [0,7,8] (.s .r (.s (.c .l .l) (.s (.mi [] [0,7,8,9] (.dv (.s .r (.s .r (.s .r (.s .r (.c .r .l))))))) .r))))))
theorem W.anA (c:Option Addr) (l:aa) (w:World) (Q:Value→World→Prop) (h:W.A4 c l w Q):aQ Tryz.prog F.A4 #[.pointer c, .slice l.a l.len l.cap] w Q:=okF A.A4 Tryz.func111 (by kernel_rfl) (by kernel_rfl) h
def W.xA (c:Option Addr) (me:aa) (uF:Bool) (nY:aa) (nZ:aa) (n0:aa) (w:World) (Q:Value→World→Prop):Prop:=ay (w.alloc (.cells #[.bool uF, .slice nY.a nY.len
 nY.cap, .slice nZ.a nZ.len nZ.cap, .slice n0.a n0.len n0.cap] ah.cF)) fun ag=>bP ag (ai w) fun cy=>aq ag (Addr.add (ai w) 1) fun bQ=>aq ag (Addr.add (ai w) 2) fun cB=>aq ag
 (Addr.add (ai w) 3) fun bL=>ay (ag.alloc dt) fun a4=>cM a4 (ai ag) [.bool cy, .slice bQ.a bQ.len bQ.cap, .slice cB.a cB.len cB.cap, .slice bL.a bL.len bL.cap]∧(4:Nat)=4∧ay (setCells a4 (ai ag) 0 [.bool cy, .slice bQ.a
 bQ.len bQ.cap, .slice cB.a cB.len cB.cap, .slice bL.a bL.len bL.cap]) fun a5=>∃ (Gg:Int→World→Prop) (Mh:Int→World→Nat),Gg (aC ((me.len:Int)-1)) a5∧∀ (gm:Int) (cq:World),Gg gm cq→aE (decide (gm≥0)) (ay
 (cq.drew) fun cG=>∃Qv:Nat→Prop,∃lB:Addr,c=some lB∧¬Qv (lB.add 2).block∧aq cG (lB.add 2) fun gz=>∃oA:Addr,me.a=some oA∧a8 gm me.len∧¬Qv (oA.add (Int.toNat gm*6)).block∧bA cG (oA.add
 (Int.toNat gm*6)) fun h6=>ay (cG.alloc (.cells #[.int .i64 h6] ah.int)) fun fF=>ao Qv cG fF∧∃ek:aa,∃ct:World,Sem.run Tryz.prog (Builtin.append_ #[ah.fb,ah.fb] ah.fb #[.slice gz.a gz.len gz.cap,
 .slice (some (ai cG)) 1 1]) fF= .ok (.slice ek.a ek.len ek.cap) ct∧ao Qv fF ct∧∃k4:Addr,c=some k4∧st ct (k4.add 2) (.slice ek.a ek.len ek.cap) fun cO=>c5 (fun Mc:Bool→World→Prop=>aE (gm==0) (aq
 cO (Addr.add (ai ag) 1) fun q_=>Mc ((q_.len:Int)==0) cO) (Mc false cO)) (fun (xC:Bool) cu=>aE xC (ay (cu.drew) fun mT=>∃Qw:Nat→Prop,¬Qw ((ai ag):Addr).block∧bP mT (ai ag) fun Mg=>aq mT (Addr.add (ai
 ag) 1) fun iD=>aq mT (Addr.add (ai ag) 2) fun iQ=>aq mT (Addr.add (ai ag) 3) fun c1=>∃Wq:Addr,c=some Wq∧¬Qw Wq.block∧∃L_:Option Addr,mT.cell? Wq=some (.pointer L_)∧∃Wr:Addr,L_=some Wr∧¬Qw
 (Wr.add 4).block∧bA mT (Wr.add 4) fun j_=>HU F.y_ #[.agg #[.bool Mg, .slice iD.a iD.len iD.cap, .slice iQ.a iQ.len iQ.cap, .slice c1.a c1.len c1.cap], .int .i64 j_] mT fun Wc qf y4 k_=>ao Qw mT k_∧Q
 (.tuple #[.int .i64 Wc, .int .i64 qf, .int .i64 y4]) k_) (c5 (fun aeY:Option Addr→World→Prop=>aE (decide (gm>0)) (∃Mi:Addr,me.a=some Mi∧a8 (aC (gm-1)) me.len∧aeY (some (Mi.add (Int.toNat (aC (gm-1))*
 6))) cu) (aeY none cu)) (fun (aeZ:Option Addr) jS=>bP jS (ai ag) fun BI=>aq jS (Addr.add (ai ag) 1) fun m_=>aq jS (Addr.add (ai ag) 2) fun nu=>aq jS (Addr.add (ai ag) 3) fun kt=>FB F.y9 #[.pointer c,
 .agg #[.bool BI, .slice m_.a m_.len m_.cap, .slice nu.a nu.len nu.cap, .slice kt.a kt.len kt.cap], .pointer aeZ] jS fun ia y5 asy Qx ow=>aE (Qx !=0) (Q (.tuple #[.int .i64 0, .int .i64 0, .int .i64 Qx]) ow) (aE (gm==
 0) (HU F.Dn #[.pointer c, .slice ia.a ia.len ia.cap] ow fun Wo asz Wp yD=>Q (.tuple #[.int .i64 Wo, .int .i64 asz, .int .i64 Wp]) yD) (∃qZ:Addr,aeZ=some qZ∧bP ow (qZ.add 1) fun aeJ=>aq ow ((qZ.add
 1).add 1) fun uG=>aq ow ((qZ.add 1).add 2) fun ob=>aq ow ((qZ.add 1).add 3) fun rY=>ji F.yZ #[.agg #[.bool aeJ, .slice uG.a uG.len uG.cap, .slice ob.a ob.len ob.cap, .slice rY.a rY.len rY.cap], .int .i64
 y5, .int .i64 asy, .slice ia.a ia.len ia.cap] ow fun ae0 po fY fZ rR=>cM rR (ai ag) [.bool ae0, .slice po.a po.len po.cap, .slice fY.a fY.len fY.cap, .slice fZ.a fZ.len fZ.cap]∧(4:Nat)=4∧ay (setCells rR
 (ai ag) 0 [.bool ae0, .slice po.a po.len po.cap, .slice fY.a fY.len fY.cap, .slice fZ.a fZ.len fZ.cap]) fun tg=>Gg (aC (gm-1)) tg∧Mh (aC (gm-1)) tg<Mh gm cq)))))) (bP cq (ai ag) fun Qu=>aq cq (Addr.add (ai ag)
 1) fun q7=>aq cq (Addr.add (ai ag) 2) fun jj=>aq cq (Addr.add (ai ag) 3) fun lJ=>gu F.AA #[.pointer c, .agg #[.bool Qu, .slice q7.a q7.len q7.cap, .slice jj.a jj.len jj.cap, .slice lJ.a lJ.len lJ.cap]] cq
 fun qa ae1 jz=>aE (ae1 !=0) (Q (.tuple #[.int .i64 0, .int .i64 0, .int .i64 ae1]) jz) (∃ae2:Addr,qa.a=some ae2∧a8 0 qa.len∧bA jz ((ae2.add (Int.toNat 0*2)).add 1) fun asA=>Q (.tuple #[.int .i64 asA, .int .i64 1, .int
 .i64 0]) jz))
def A.xA:bH:=(.s .r (.s .r (.s (.s .r (.dv (.loop [(10,(.int .i64))] [0,1,9] (.s (.s .r (.c .l .l)) (.s (.dv (.s (.eS 12 true ⟨[0,0,2,4,8,0,0,96,128,256,512,1040,4095,8191,12287],[0,0,2,4,8,0,0,
 96,128,256,512,1040,1,4096,10240]⟩ [33554432,67108864,134217728,268435456,536870912,1073741824,2147483648,4294967296,8589934592,17179869184,34359738368,68719476736,137438953472,274877906944,0] [1,1,67108864,
 134217728,268435456,2,1024,3221225472,4294967296,8589934592,17179869184,34896609280,33554432,137438953472,343597383680] (.take 0 (.take 1 (.take 2 (.take 3 (.take 4 (.take 5 (.take 6 (.take 7 (.take 8 (.take 9 (.cH 10 (.cH 11
 (.tail [.run, .run, .run])))))))))))))) (.s (.s (.gn [.run, .run, .run, .split 4]) (.c (.s (.eS 12 true ⟨[0,0,2,4,8,16,32,64,129,256,256,256,4095,8191,16383],[0,0,2,4,8,16,32,64,129,256,256,256,512,1024,2048]⟩
 [140737488355328,281474976710656,562949953421312,1125899906842624,2251799813685248,4503599627370496,9007199254740992,18014398509481984,36028797018963968,72057594037927936,144115188075855872,288230376151711744,64,128,256] [512,
 1,281474976710656,562949953421312,1125899906842624,2251799813685248,4503599627370496,9007199254740992,18155135997837312,36028797018963968,36028797018963968,36028797018963968,72057594037927936,144115188075855872,
 288230376151711744] (.take 0 (.take 1 (.take 2 (.take 3 (.take 4 (.take 5 (.take 6 (.take 7 (.cH 8 (.take 9 (.take 10 (.take 11 (.tail [.run, .run, .run])))))))))))))) .l) .l)) (.s .r (.s (.mi [(11, .ptr)] [0,1,9,10] (.s .r (.c .r .l)))
 (.s .r (.s bj (.s bj .r)))))))) .r))))) iH)))
theorem W.aaV (c:Option Addr) (me:aa) (uF:Bool) (nY:aa) (nZ:aa) (n0:aa) (w:World) (Q:Value→World→Prop) (h:W.xA c me uF nY nZ n0 w Q):aQ Tryz.prog F.xA #[.pointer c, .slice me.a me.len me.cap, .agg #[.bool uF, .slice nY.a nY.len nY.cap, .slice nZ.a nZ.len nZ.cap, .slice n0.a n0.len n0.cap]] w Q:=okF A.xA Tryz.func112 (by kernel_rfl) (by kernel_rfl) h
def W.C1 (n:Int) (w:World) (Q:Value→World→Prop):Prop:=Q (.bool ((decide (n≥1))&&(decide (n≤1600)))) w
def A.C1:bH:=(.s .r e6)
theorem W.alw (n:Int) (w:World) (Q:Value→World→Prop) (h:W.C1 n w Q):aQ Tryz.prog F.C1 #[.int .i64 n] w Q:=okF A.C1 Tryz.func114 (by kernel_rfl) (by kernel_rfl) h
def W.C2 (n:Int) (w:World) (Q:Value→World→Prop):Prop:=(8:Int)≠0∧Q (.int .i64 (aC (Int.tdiv (aC ((aC (n+8))-1)) 8))) w
def A.C2:bH:=(.s .r (.s .r .l))
theorem W.aly (n:Int) (w:World) (Q:Value→World→Prop) (h:W.C2 n w Q):aQ Tryz.prog F.C2 #[.int .i64 n] w Q:=okF A.C2 Tryz.func115 (by kernel_rfl) (by kernel_rfl) h
end
section
set_option maxRecDepth 100000
def W.As (s:aa) (no:Int) (w:World) (Q:Value→World→Prop):Prop:=ay (w.drew) fun ag=>(8:Int)≠0∧∃cL:Addr,s.a=some cL∧a8 (aC (Int.tdiv no 8)) s.len∧¬False∧iq ag (cL.add (Int.toNat (aC (Int.tdiv no
 8))*1)) fun bq=>(8:Int)≠0∧(0:Int)≤(Int.tmod no 8)∧∃dQ:Addr,s.a=some dQ∧a8 (aC (Int.tdiv no 8)) s.len∧st ag (dQ.add (Int.toNat (aC (Int.tdiv no 8))*1)) (.int .u8 (B0 .u8 bq (IntKind.wrap .u8 (1*2^(min
 (Int.toNat (Int.tmod no 8)) 8))))) fun bF=>Q (.tuple #[]) bF
def A.As:bH:=(.eS 8 false ⟨[0,0,2,5,8,0,32,64,144,511,1023],[0,0,2,5,8,0,32,64,144,5,768]⟩ [16,32,64,128,256,512,1024,2048,4096,8192,0] [1,2,32,80,128,2,512,1024,2304,80,12288] (.take
 0 (.take 1 (.take 2 (.take 3 (.take 4 (.take 5 (.take 6 (.take 7 (.tail [.run, .run, .run]))))))))))
theorem W.akZ (s:aa) (no:Int) (w:World) (Q:Value→World→Prop) (h:W.As s no w Q):aQ Tryz.prog F.As #[.slice s.a s.len s.cap, .int .i64 no] w Q:=okF A.As Tryz.func116 (by kernel_rfl) (by kernel_rfl) h
def W.uY (jX:aa) (w:World) (Q:Value→World→Prop):Prop:=Q (.bool ((decide ((jX.len:Int)≥1))&&(decide ((jX.len:Int)≤24)))) w
def A.uY:bH:=k5
theorem W.ahX (jX:aa) (w:World) (Q:Value→World→Prop) (h:W.uY jX w Q):aQ Tryz.prog F.uY #[.slice jX.a jX.len jX.cap] w Q:=okF A.uY Tryz.func118 (by kernel_rfl) (by kernel_rfl) h
def W.wv (leaf:Bool) (b:aa) (w:World) (Q:Value→World→Prop):Prop:=ay (w.alloc dt) fun ag=>ay (ag.alloc (.cells #[.slice b.a b.len b.cap, .bool true] ah.XH)) fun aw=>ay (aw.alloc dt) fun aZ=>cM aZ
 (ai aw) [.bool leaf, .slice none 0 0, .slice none 0 0, .slice none 0 0]∧(4:Nat)=4∧ay (setCells aZ (ai aw) 0 [.bool leaf, .slice none 0 0, .slice none 0 0, .slice none 0 0]) fun br=>bc F.wo #[.pointer (some (ai
 ag)), .int .i64 1] br fun gF bF=>c5 (fun FD:World→Prop=>aE (!leaf) (RC bF aw ag FD) (FD bF)) (fun c9=>∃ (Ws:Int→World→Prop) (ae3:Int→World→Nat),Ws 0 c9∧∀ (zC:Int) (oX:World),Ws zC oX→aE (decide (zC
 <gF)) (c5 (fun zp:World→Prop=>ay (oX.drew) fun fV=>∃se:Nat→Prop,¬se (Addr.add (ai aw) 1).block∧aq fV (Addr.add (ai aw) 1) fun c4=>dL F.wq #[.pointer (some (ai ag))] fV fun iD fp=>ao se fV
 fp∧ay (fp.alloc (.cells #[.slice iD.a iD.len iD.cap] ah.cd)) fun fU=>ao se fp fU∧∃c1:aa,∃eC:World,Sem.run Tryz.prog (Builtin.append_ #[ah.cC,ah.cC] ah.cC #[.slice c4.a c4.len
 c4.cap, .slice (some (ai fp)) 1 1]) fU= .ok (.slice c1.a c1.len c1.cap) eC∧st eC (Addr.add (ai aw) 1) (.slice c1.a c1.len c1.cap) fun eG=>aE leaf (ay (eG.drew) fun ld=>∃Wt:Nat→Prop,¬Wt (Addr.add (ai aw)
 2).block∧aq ld (Addr.add (ai aw) 2) fun jc=>dL F.wq #[.pointer (some (ai ag))] ld fun eV jD=>ao Wt ld jD∧ay (jD.alloc (.cells #[.slice eV.a eV.len eV.cap] ah.cd)) fun du=>ao Wt jD du∧∃mY
 :aa,∃mf:World,Sem.run Tryz.prog (Builtin.append_ #[ah.cC,ah.cC] ah.cC #[.slice jc.a jc.len jc.cap, .slice (some (ai jD)) 1 1]) du= .ok (.slice mY.a mY.len mY.cap) mf∧st mf (Addr.add (ai aw) 2)
 (.slice mY.a mY.len mY.cap) fun nq=>zp nq) (RC eG aw ag zp)) (fun e_=>Ws (aC (zC+1)) e_∧ae3 (aC (zC+1)) e_<ae3 zC oX)) (bP oX (ai aw) fun asB=>aq oX (Addr.add (ai aw) 1) fun pV=>aq oX (Addr.add (ai aw)
 2) fun kJ=>aq oX (Addr.add (ai aw) 3) fun ih=>gu F.u3 #[.agg #[.bool asB, .slice pV.a pV.len pV.cap, .slice kJ.a kJ.len kJ.cap, .slice ih.a ih.len ih.cap]] oX fun m5 asC td=>∃ae4:Addr,(some (ai ag):Option
 Addr)=some ae4∧bP td (ae4.add 1) fun um=>c5 (fun Mj:Bool→World→Prop=>aE ((!um)||(asC !=0)) (Mj true td) (a_ F.yh #[.slice m5.a m5.len m5.cap, .slice b.a b.len b.cap] td fun uo oJ=>Mj (!uo) oJ))
 (fun (asD:Bool) rS=>aE asD (cM rS (ai w) [.bool false, .slice none 0 0, .slice none 0 0, .slice none 0 0]∧(4:Nat)=4∧ay (setCells rS (ai w) 0 [.bool false, .slice none 0 0, .slice none 0 0, .slice none 0 0]) fun tg=>
 Jz tg w Q) (bP rS (ai aw) fun ae5=>aq rS (Addr.add (ai aw) 1) fun q4=>aq rS (Addr.add (ai aw) 2) fun qa=>aq rS (Addr.add (ai aw) 3) fun kq=>cM rS (ai w) [.bool ae5, .slice q4.a q4.len q4.cap, .slice qa.a qa.len
 qa.cap, .slice kq.a kq.len kq.cap]∧(4:Nat)=4∧ay (setCells rS (ai w) 0 [.bool ae5, .slice q4.a q4.len q4.cap, .slice qa.a qa.len qa.cap, .slice kq.a kq.len kq.cap]) fun sy=>bP sy (ai w) fun qM=>aq sy (Addr.add
 (ai w) 1) fun iN=>aq sy (Addr.add (ai w) 2) fun gT=>aq sy (Addr.add (ai w) 3) fun gU=>Q (.tuple #[.agg #[.bool qM, .slice iN.a iN.len iN.cap, .slice gT.a gT.len gT.cap, .slice gU.a gU.len gU.cap], .int .i64 0]) sy))))
def A.wv:bH:=(.s .r (.s .r (.s .r (.s (.mi [] [0,1,4,6,7,8] (.s .r (.c (.eS 5 true ⟨[0,1,0,4,8,26,63,127],[0,1,0,4,8,18,0,96]⟩ [1048576,2097152,4194304,8388608,16777216,33554432,67108864,0] [128,
 1048576,64,4194304,8388608,18874368,128,100663296] (.take 0 (.take 1 (.take 2 (.cH 3 (.cH 4 (.tail [.run, .run, .run]))))))) .l))) (.s (.s .r (.dv (.loop [(28,(.int .i64))] [0,1,4,6,7,27] (.s .r (.s (.c .l .l) (.s (.mi [] [0,
 1,4,6,7,27,28] (.dv (.s (.eS 5 true ⟨[0,1,0,4,8,26,63,127],[0,1,0,4,8,18,0,96]⟩ [1073741824,2147483648,4294967296,8589934592,17179869184,34359738368,68719476736,0] [128,1073741824,64,4294967296,8589934592,
 19327352832,128,103079215104] (.take 0 (.take 1 (.take 2 (.cH 3 (.cH 4 (.tail [.run, .run, .run]))))))) (.s .r (.c (.eS 5 true ⟨[0,1,0,4,8,26,63,127],[0,1,0,4,8,18,0,96]⟩ [274877906944,549755813888,1099511627776,
 2199023255552,4398046511104,8796093022208,17592186044416,0] [128,274877906944,64,1099511627776,2199023255552,4947802324992,128,26388279066624] (.take 0 (.take 1 (.take 2 (.cH 3 (.cH 4 (.tail [.run, .run, .run]))))))) (.eS 5
 true ⟨[0,1,0,4,8,26,63,127],[0,1,0,4,8,18,0,96]⟩ [35184372088832,70368744177664,140737488355328,281474976710656,562949953421312,1125899906842624,2251799813685248,0] [128,35184372088832,64,140737488355328,
 281474976710656,633318697598976,128,3377699720527872] (.take 0 (.take 1 (.take 2 (.cH 3 (.cH 4 (.tail [.run, .run, .run])))))))))))) .r)))))) (.s .r (.s (.s (.gn [.run, .run, .run, .run, .run, .run, .pure 2, .run, .run, .run, .split
 4]) (.c (.s .r .l) .l)) (.s .r .l))))))))
theorem W.aic (leaf:Bool) (b:aa) (w:World) (Q:Value→World→Prop) (h:W.wv leaf b w Q):aQ Tryz.prog F.wv #[.bool leaf, .slice b.a b.len b.cap] w Q:=okF A.wv Tryz.func129 (by kernel_rfl) (by kernel_rfl) h
def W.uR (b:aa) (w:World) (Q:Value→World→Prop):Prop:=ay (w.drew) fun ag=>((0:Int)≤20∧20≤((b.cap:Nat):Int))∧((0:Int)≤24∧24≤(b.len:Int))∧ay (ag.alloc (.cells #[.slice (a3 b.a 1 0 b.cap)
 ((Int.toNat 20)-0) (b.cap-0), .slice (a3 b.a 1 (Int.toNat 24) b.cap) (b.len-(Int.toNat 24)) (b.cap-(Int.toNat 24))] ah.cd)) fun aw=>nd F.B5 #[.slice (some (ai ag)) 2 2] aw fun eT aZ=>Q (.int .u32 eT) aZ
def A.uR:bH:=(.s .r (.s (.eS 4 false ⟨[0,1,0,4,10,16,63],[0,1,0,4,10,16,32]⟩ [8,16,32,64,128,256,4] [1,8,1,32,80,128,256] (.take 0 (.take 1 (.take 2 (.take 3 (.tail [.run, .run, .run])))))) .l))
theorem W.ahq (b:aa) (w:World) (Q:Value→World→Prop) (h:W.uR b w Q):aQ Tryz.prog F.uR #[.slice b.a b.len b.cap] w Q:=okF A.uR Tryz.func130 (by kernel_rfl) (by kernel_rfl) h
def W.rm (b:aa) (kX:Int) (Qy:Int) (w:World) (Q:Value→World→Prop):Prop:=Nd F.sM #[.slice b.a b.len b.cap, .int .i64 kX, .int .i64 (aC (Qy-kX))] w fun bq eW ag=>Q (.int .u64 bq) ag
def A.rm:bH:=dQ
theorem W.ahz (b:aa) (kX:Int) (Qy:Int) (w:World) (Q:Value→World→Prop) (h:W.rm b kX Qy w Q):aQ Tryz.prog F.rm #[.slice b.a b.len b.cap, .int .i64 kX, .int .i64 Qy] w Q:=okF A.rm Tryz.func131 (by kernel_rfl) (by kernel_rfl) h
def W.Ga (jX:Int) (w:World) (Q:Value→World→Prop):Prop:=Q (.bool ((decide (jX≥1))&&(decide (jX≤4)))) w
def A.Ga:bH:=(.s .r e6)
theorem W.Xn (jX:Int) (w:World) (Q:Value→World→Prop) (h:W.Ga jX w Q):aQ Tryz.prog F.Ga #[.int .i64 jX] w Q:=okF A.Ga Tryz.func132 (by kernel_rfl) (by kernel_rfl) h
def W.yd (b:aa) (w:World) (Q:Value→World→Prop):Prop:=∃ (gQ:Int→World→Prop) (iS:Int→World→Nat),gQ 0 w∧∀ (bq:Int) (br:World),gQ bq br→aE (decide (bq<(b.len:Int))) (∃gS:Addr,b.a=some gS∧a8
 bq b.len∧iq br (gS.add (Int.toNat bq*1)) fun iA=>aE (iA !=0) (Q (.bool false) br) (gQ (aC (bq+1)) br∧iS (aC (bq+1)) br<iS bq br)) (Q (.bool true) br)
def A.yd:bH:=(.s .r (.s (.s .r (.dv (.loop [(7,(.int .i64))] [5,6] kf))) (.s .r .l)))
theorem W.ahA (b:aa) (w:World) (Q:Value→World→Prop) (h:W.yd b w Q):aQ Tryz.prog F.yd #[.slice b.a b.len b.cap] w Q:=okF A.yd Tryz.func133 (by kernel_rfl) (by kernel_rfl) h
def W.Gb (no:Int) (w:World) (Q:Value→World→Prop):Prop:=Q (.bool ((decide (no≥0))&&(decide (no<1600)))) w
def A.Gb:bH:=(.s .r e6)
theorem W.Xm (no:Int) (w:World) (Q:Value→World→Prop) (h:W.Gb no w Q):aQ Tryz.prog F.Gb #[.int .i64 no] w Q:=okF A.Gb Tryz.func134 (by kernel_rfl) (by kernel_rfl) h
def W.x7 (b:aa) (kX:Int) (size:Int) (w:World) (Q:Value→World→Prop):Prop:=Ex F.uP #[.slice b.a b.len b.cap, .int .i64 kX, .int .i64 size] w fun bQ eW ag=>dL F.l4 #[.slice bQ.a bQ.len
 bQ.cap] ag fun iY bF=>Q (.tuple #[.slice iY.a iY.len iY.cap, .bool eW]) bF
def A.x7:bH:=dQ
theorem W.ahi (b:aa) (kX:Int) (size:Int) (w:World) (Q:Value→World→Prop) (h:W.x7 b kX size w Q):aQ Tryz.prog F.x7 #[.slice b.a b.len b.cap, .int .i64 kX, .int .i64 size] w Q:=okF A.x7 Tryz.func135 (by kernel_rfl) (by kernel_rfl) h
def W.At (s:Option Addr) (no:Int) (w:World) (Q:Value→World→Prop):Prop:=c5 (fun dR:Bool→World→Prop=>aE ((!(Option.isNone s))&&(decide (no≥0))) (∃cL:Addr,s=some cL∧bA w cL fun bq=>dR (decide
 (no<bq)) w) (dR false w)) (fun (eW:Bool) bF=>Q (.bool eW) bF)
def A.At:bH:=(.s .r (.s (.gn [.run, .run, .run, .pure 2, .run, .run, .run, .split 6]) .l))
theorem W.ak4 (s:Option Addr) (no:Int) (w:World) (Q:Value→World→Prop) (h:W.At s no w Q):aQ Tryz.prog F.At #[.pointer s, .int .i64 no] w Q:=okF A.At Tryz.func138 (by kernel_rfl) (by kernel_rfl) h
def W.sO (parts:aa) (w:World) (Q:Value→World→Prop):Prop:=∃ (gQ:aa→Int→World→Prop) (iS:aa→Int→World→Nat),gQ ⟨none,0,0⟩ 0 w∧∀ (bQ:aa) (fT:Int) (bF:World),gQ bQ fT bF→aE (decide (fT<
 (parts.len:Int))) (∃ix:Addr,parts.a=some ix∧a8 fT parts.len∧aq bF (ix.add (Int.toNat fT*1)) fun iY=>∃fk:aa,∃bR:World,Sem.run Tryz.prog (Builtin.append_ #[ah.cd,ah.cd] ah.cd #[.slice bQ.a bQ.len
 bQ.cap, .slice iY.a iY.len iY.cap]) bF= .ok (.slice fk.a fk.len fk.cap) bR∧gQ fk (aC (fT+1)) bR∧iS fk (aC (fT+1)) bR<iS bQ fT bF) (Q (.slice bQ.a bQ.len bQ.cap) bF)
def A.sO:bH:=(.s .r (.s .r (.s (.s .r (.dv (.loop [(3, .slice),(8,(.int .i64))] [6,7] cL))) (.s .r .l))))
theorem W.ahf (parts:aa) (w:World) (Q:Value→World→Prop) (h:W.sO parts w Q):aQ Tryz.prog F.sO #[.slice parts.a parts.len parts.cap] w Q:=okF A.sO Tryz.func141 (by kernel_rfl) (by kernel_rfl) h
def W.o2 (b:aa) (n:Int) (size:Int) (w:World) (Q:Value→World→Prop):Prop:=dL F.l4 #[.slice b.a b.len b.cap] w fun bQ ag=>a_ F.Gc #[.int .i64 size] ag fun k7 br=>aE (!k7) (Q (.slice bQ.a
 bQ.len bQ.cap) br) (∃ (Wu:aa→Int→World→Prop) (ae6:aa→Int→World→Nat),Wu bQ (aC (size-1)) br∧∀ (db:aa) (gm:Int) (cq:World),Wu db gm cq→aE (decide (gm≥0)) ((0:Int)≤(aC (8*gm))∧ay (cq.alloc (.cells
 #[.int .u8 (IntKind.wrap .u8 (Int.fdiv n (2^(min (Int.toNat (aC (8*gm))) 64))))] ah.uint8)) fun cG=>∃gP:aa,∃dy:World,Sem.run Tryz.prog (Builtin.append_ #[ah.cd,ah.cd] ah.cd #[.slice db.a db.len db.cap,
 .slice (some (ai cq)) 1 1]) cG= .ok (.slice gP.a gP.len gP.cap) dy∧Wu gP (aC (gm-1)) dy∧ae6 gP (aC (gm-1)) dy<ae6 db gm cq) (Q (.slice db.a db.len db.cap) cq))
def A.o2:bH:=(.s .r (.s .r (.s bj (.s (.s .r (.dv (.loop [(7, .slice),(8,(.int .i64))] [1] (.s (.s .r (.c .l .l)) (.s (.dv .r) .r))))) (.s .r .l)))))
theorem W.ag6 (b:aa) (n:Int) (size:Int) (w:World) (Q:Value→World→Prop) (h:W.o2 b n size w Q):aQ Tryz.prog F.o2 #[.slice b.a b.len b.cap, .int .u64 n, .int .i64 size] w Q:=okF A.o2 Tryz.func142 (by kernel_rfl) (by kernel_rfl) h
def W.CP (c:Option Addr) (no:Int) (w:World) (Q:Value→World→Prop):Prop:=a_ F.Ap #[.pointer c, .int .i64 no] w fun eJ ag=>aE (!eJ) (Q (.tuple #[.slice none 0 0, .int .i64 1]) ag) (Ar
 F.yQ #[.pointer c, .int .i64 no] ag fun m0 br=>aE (!(Option.isNone m0)) (∃k5:Addr,m0=some k5∧st br (k5.add 2) (.bool true) fun b9=>∃mL:Addr,m0=some mL∧aq b9 (mL.add 5) fun gi=>dL
 F.l4 #[.slice gi.a gi.len gi.cap] b9 fun gP cq=>Q (.tuple #[.slice gP.a gP.len gP.cap, .int .i64 0]) cq) (xc F.Aq #[.pointer c] br fun D3 h6 dy=>aE (h6 !=0) (Q (.tuple #[.slice none 0
 0, .int .i64 h6]) dy) (∃n1:Addr,c=some n1∧∃ae7:Option Addr,dy.cell? n1=some (.pointer ae7)∧gu F.CE #[.pointer ae7, .int .i64 no] dy fun fO oR ct=>aE (oR !=0) (Q (.tuple #[.slice none 0 0, .int .i64
 oR]) ct) (∃IU:Addr,D3=some IU∧cM ct IU [.bool true, .bool false, .bool true, .int .i64 no, .int .i64 0, .slice fO.a fO.len fO.cap]∧(6:Nat)=6∧ay (setCells ct IU 0 [.bool true, .bool false, .bool true, .int
 .i64 no, .int .i64 0, .slice fO.a fO.len fO.cap]) fun fV=>dL F.l4 #[.slice fO.a fO.len fO.cap] fV fun eX cu=>Q (.tuple #[.slice eX.a eX.len eX.cap, .int .i64 0]) cu))))
def A.CP:bH:=(.s .r (.s bj (.s (.s .r (.s .r mL)) (.s .r (.s bj (.s .r lB))))))
theorem W.akp (c:Option Addr) (no:Int) (w:World) (Q:Value→World→Prop) (h:W.CP c no w Q):aQ Tryz.prog F.CP #[.pointer c, .int .i64 no] w Q:=okF A.CP Tryz.func145 (by kernel_rfl) (by kernel_rfl) h
def W.wj (v:aa) (w:World) (Q:Value→World→Prop):Prop:=Q (.bool (decide ((v.len:Int)>24))) w
def A.wj:bH:=(.s .r (.s .r .l))
theorem W.ahS (v:aa) (w:World) (Q:Value→World→Prop) (h:W.wj v w Q):aQ Tryz.prog F.wj #[.slice v.a v.len v.cap] w Q:=okF A.wj Tryz.func147 (by kernel_rfl) (by kernel_rfl) h
def W.wk (jX:Int) (w:World) (Q:Value→World→Prop):Prop:=Q (.bool ((decide (jX<0))||(decide (jX≥1600)))) w
def A.wk:bH:=(.s .r e6)
theorem W.ahW (jX:Int) (w:World) (Q:Value→World→Prop) (h:W.wk jX w Q):aQ Tryz.prog F.wk #[.int .i64 jX] w Q:=okF A.wk Tryz.func149 (by kernel_rfl) (by kernel_rfl) h
def W.CY (s:Option Addr) (no:Int) (w:World) (Q:Value→World→Prop):Prop:=a_ F.At #[.pointer s, .int .i64 no] w fun eJ ag=>c5 (fun np:Bool→World→Prop=>aE eJ (∃gS:Addr,s=some gS∧aq
 ag (gS.add 1) fun c8=>a_ F.vr #[.slice c8.a c8.len c8.cap, .int .i64 no] ag fun ju a5=>np ju a5) (np false ag)) (fun (oY:Bool) cq=>c5 (fun p3:Bool→World→Prop=>aE oY (∃kf:Addr,s=some kf∧aq cq
 (kf.add 2) fun dk=>a_ F.vr #[.slice dk.a dk.len dk.cap, .int .i64 no] cq fun uE dY=>p3 (!uE) dY) (p3 false cq)) (fun (tz:Bool) c9=>Q (.bool tz) c9))
def A.CY:bH:=(.s .r (.s (.gn [.run, .run, .run, .run, .split 6, .run, .run, .run, .run, .run, .run, .run, .split 7]) .l))
theorem W.alg (s:Option Addr) (no:Int) (w:World) (Q:Value→World→Prop) (h:W.CY s no w Q):aQ Tryz.prog F.CY #[.pointer s, .int .i64 no] w Q:=okF A.CY Tryz.func152 (by kernel_rfl) (by kernel_rfl) h
def W.CX (s:Option Addr) (no:Int) (w:World) (Q:Value→World→Prop):Prop:=a_ F.At #[.pointer s, .int .i64 no] w fun eJ ag=>aE (!eJ) (Q (.int .i64 1) ag) (∃dQ:Addr,s=some dQ∧aq ag (dQ.add 1)
 fun bL=>a_ F.vr #[.slice bL.a bL.len bL.cap, .int .i64 no] ag fun nS a4=>aE (!nS) (Q (.int .i64 6) a4) (∃mL:Addr,s=some mL∧aq a4 (mL.add 1) fun gi=>bd F.CT #[.slice gi.a gi.len gi.cap, .int .i64 no]
 a4 fun cq=>Q (.int .i64 0) cq))
def A.CX:bH:=mK
theorem W.ale (s:Option Addr) (no:Int) (w:World) (Q:Value→World→Prop) (h:W.CX s no w Q):aQ Tryz.prog F.CX #[.pointer s, .int .i64 no] w Q:=okF A.CX Tryz.func153 (by kernel_rfl) (by kernel_rfl) h
def W.CS (c:Option Addr) (no:Int) (w:World) (Q:Value→World→Prop):Prop:=Ar F.yQ #[.pointer c, .int .i64 no] w fun gq ag=>c5 (fun np:Bool→World→Prop=>aE (Option.isNone gq) (np true ag) (∃
 gS:Addr,gq=some gS∧bA ag (gS.add 4) fun iA=>np (decide (iA>0)) ag)) (fun (kS:Bool) b9=>aE kS (Q (.bool false) b9) (∃mL:Addr,gq=some mL∧cM b9 mL [.bool false, .bool false, .bool false, .int .i64 0, .int .i64 0,
 .slice none 0 0]∧(6:Nat)=6∧ay (setCells b9 mL 0 [.bool false, .bool false, .bool false, .int .i64 0, .int .i64 0, .slice none 0 0]) fun bV=>Q (.bool true) bV))
def A.CS:bH:=(.s .r (.s .r (.s (.s (.gn [.run, .run, .run, .split 5]) (.c (.s .r .l) .l)) (.s .r (.s .r .l)))))
theorem W.akJ (c:Option Addr) (no:Int) (w:World) (Q:Value→World→Prop) (h:W.CS c no w Q):aQ Tryz.prog F.CS #[.pointer c, .int .i64 no] w Q:=okF A.CS Tryz.func154 (by kernel_rfl) (by kernel_rfl) h
def W.y_ (cD:Bool) (bn:aa) (bo:aa) (bp:aa) (bl:Int) (w:World) (Q:Value→World→Prop):Prop:=ay (w.alloc (.cells #[.bool cD, .slice bn.a bn.len bn.cap, .slice bo.a bo.len
 bo.cap, .slice bp.a bp.len bp.cap] ah.cF)) fun ag=>bP ag (ai w) fun cy=>aE cy (Q (.tuple #[.int .i64 0, .int .i64 0, .int .i64 0]) ag) (aq ag (Addr.add (ai w) 3) fun bQ=>∃dQ:Addr,bQ.a=some dQ∧a8 0 bQ.len
 ∧bA ag (dQ.add (Int.toNat 0*1)) fun eT=>Q (.tuple #[.int .i64 eT, .int .i64 (aC (bl-1)), .int .i64 0]) ag)
def A.y_:bH:=iH
theorem W.anE (cD:Bool) (bn:aa) (bo:aa) (bp:aa) (bl:Int) (w:World) (Q:Value→World→Prop) (h:W.y_ cD bn bo bp bl w Q):aQ Tryz.prog F.y_ #[.agg #[.bool cD, .slice bn.a bn.len bn.cap, .slice bo.a bo.len bo.cap, .slice bp.a bp.len bp.cap], .int .i64 bl] w Q:=okF A.y_ Tryz.func155 (by kernel_rfl) (by kernel_rfl) h
def W.y9 (c:Option Addr) (cD:Bool) (bn:aa) (bo:aa) (bp:aa) (up:Option Addr) (w:World) (Q:Value→World→Prop):Prop:=ay (w.alloc (.cells #[.bool cD, .slice bn.a bn.len
 bn.cap, .slice bo.a bo.len bo.cap, .slice bp.a bp.len bp.cap] ah.cF)) fun ag=>c5 (fun e0:Bool→World→Prop=>aE (Option.isNone up) (e0 true ag) (bP ag (ai w) fun eJ=>aq ag (Addr.add (ai w) 1) fun
 cB=>aq ag (Addr.add (ai w) 2) fun bL=>aq ag (Addr.add (ai w) 3) fun c8=>bc F.u0 #[.agg #[.bool eJ, .slice cB.a cB.len cB.cap, .slice bL.a bL.len bL.cap, .slice c8.a c8.len c8.cap]] ag fun kT a5=>e0 (decide (kT≥80)) a5))
 (fun (oY:Bool) cq=>aE oY (c5 (fun p3:Int→Int→World→Prop=>aE (!(Option.isNone up)) (ay (cq.drew) fun bY=>∃lB:Addr,up=some lB∧¬False∧bA bY (lB.add 5) fun q8=>∃oA:Addr,up=some oA∧¬False∧bA
 bY (oA.add 5) fun h6=>p3 q8 (aC (h6+1)) bY) (p3 0 0 cq)) (fun (kh:Int) (kU:Int) ct=>bP ct (ai w) fun asE=>aq ct (Addr.add (ai w) 1) fun fO=>aq ct (Addr.add (ai w) 2) fun ee=>aq ct (Addr.add (ai w) 3) fun
 q_=>gu F.ss #[.pointer c, .agg #[.bool asE, .slice fO.a fO.len fO.cap, .slice ee.a ee.len ee.cap, .slice q_.a q_.len q_.cap]] ct fun c4 pX fV=>Q (.tuple #[.slice c4.a c4.len c4.cap, .int .i64 kh, .int
 .i64 kU, .int .i64 pX]) fV)) (∃BK:Addr,up=some BK∧bA cq (BK.add 5) fun u4=>∃gM:Int,∃oQ:World,Sem.run Tryz.prog (Builtin.max_ #[ah.int,ah.int] ah.int #[.int .i64 (aC (u4-1)), .int .i64 0]) cq= .ok (.int .i64
 gM) oQ∧c5 (fun Gd:Int→World→Prop=>∃IS:Addr,up=some IS∧bA oQ (IS.add 5) fun Wv=>aE (Wv==0) (Gd 1 oQ) (Gd gM oQ)) (fun (j_:Int) k_=>∃BF:Addr,up=some BF∧aq k_ ((BF.add 1).add 3) fun fS=>
 ∃Ma:Addr,fS.a=some Ma∧a8 j_ fS.len∧bA k_ (Ma.add (Int.toNat j_*1)) fun y4=>ay (k_.drew) fun gy=>∃Mk:Nat→Prop,∃Ww:Addr,c=some Ww∧¬Mk Ww.block∧∃Wx:Option Addr,gy.cell? Ww=some
 (.pointer Wx)∧¬Mk ((ai w):Addr).block∧bP gy (ai w) fun BI=>(xj F.s6 #[.pointer Wx, .int .i64 y4, .bool BI] gy fun vY fB m8 ia y5 dp=>ao Mk gy dp∧ay (dp.alloc dt) fun kv=>ao Mk dp kv∧OA
 kv dp vY fB m8 ia y5 Q c y4 w up j_ gM)∧(ay (gy.alloc dt) fun ae8=>ao Mk gy ae8∧xj F.s6 #[.pointer Wx, .int .i64 y4, .bool BI] ae8 fun asF asG IV IW asH asI=>OA asI gy asF asG IV IW
 asH Q c y4 w up j_ gM))))
def A.y9:bH:=(.s .r (.s (.s (.gn [.run, .run, .run, .split 3]) (.c (.s (.mi [(7,(.int .i64)),(8,(.int .i64))] [0,4] (.s .r (.c (.eS 10 false ⟨[0,1,2,4,0,16,32,64,128,15,1023],[0,1,2,4,0,16,32,64,
 128,8,256]⟩ [67108864,134217728,268435456,536870912,1073741824,2147483648,4294967296,8589934592,17179869184,128,256] [4,67108864,134217728,268435456,4,1073741824,2147483648,4294967296,8589934592,536870912,17179869184]
 (.take 0 (.take 1 (.take 2 (.take 3 (.take 4 (.take 5 (.take 6 (.take 7 (.take 8 (.take 9 (.tail [.run])))))))))))) .l))) (.s .r (.s .r .l))) .l)) (.s .r (.s .r (.s (.mi [(10,(.int .i64))] [0,2,4,7] (.s .r (.c .r .l))) (.s .r (.s (.eS
 13 true ⟨[0,1,2,4,0,0,32,88,128,256,256,0,3071,8191],[0,1,2,4,0,0,32,88,128,256,256,0,2560,1024]⟩ [73786976294838206464,147573952589676412928,295147905179352825856,590295810358705651712,1180591620717411303424,
 2361183241434822606848,4722366482869645213696,9444732965739290427392,36893488147419103232,18889465931478580854784,37778931862957161709568,4096,0,512] [1,73786976294838206464,147573952589676412928,295147905179352825856,2048,16,
 2361183241434822606848,6493253913945762168832,9444732965739290427392,36893488147419103232,36893488147419103232,0,18889465931478580858880,37778931862957161709568] (.take 0 (.take 1 (.take 2 (.take 3 (.take 4 (.take 5 (.take 6 (.two 7
 (.take 8 (.take 9 (.take 10 (.cH 11 (.out 12 false (.tail [.run])))))) 11 (.out 7 false (.take 8 (.take 9 (.take 10 (.out 12 false (.tail [.run]))))))))))))))) (.s bj (.s .r (.s (.eS 5 true ⟨[0,0,0,0,13,31],[0,0,0,0,5,10]⟩
 [618970019642690137449562112,1237940039285380274899124224,8192,16384,0,0] [4096,16,0,0,618970019642690137449570304,1237940039285380274899140608] (.take 0 (.take 1 (.two 2 (.cH 3 (.cH 4 (.tail [.run]))) 3 (.cH 2 (.cH 4 (.tail
 [.run]))))))) (.s (.mi [] [0,2,7,13,14] (.s .r (.c (.eS 3 true ⟨[0,0,1,7],[0,0,1,2]⟩ [158456325028528675187087900672,316912650057057350374175801344,0,0] [16,4096,158456325028528675187087908864,
 316912650057057350374175817728] (.take 0 (.take 1 (.cH 2 (.tail [.run]))))) .l))) (.s (.eS 16 true ⟨[0,0,2,4,8,16,0,96,128,0,769,1024,2048,2048,0,24575,65535],[0,0,2,4,8,16,0,96,128,0,769,1024,2048,2048,0,
 20480,8192]⟩ [1267650600228229401496703205376,2535301200456458802993406410752,5070602400912917605986812821504,10141204801825835211973625643008,20282409603651670423947251286016,40564819207303340847894502572032,
 81129638414606681695789005144064,162259276829213363391578010288128,324518553658426726783156020576256,649037107316853453566312041152512,1298074214633706907132624082305024,633825300114114700748351602688,
 2596148429267413814265248164610048,5192296858534827628530496329220096,32768,0,65536] [8192,4,2535301200456458802993406410752,5070602400912917605986812821504,10141204801825835211973625643008,20282409603651670423947251286016,128,
 121694457621910022543683507716096,162259276829213363391578010288128,16384,974823311575508409750964764934144,1298074214633706907132624082305024,633825300114114700748351602688,633825300114114700748351602688,0,
 2596148429267413814265248164642816,5192296858534827628530496329220096] (.take 0 (.take 1 (.take 2 (.take 3 (.take 4 (.take 5 (.take 6 (.take 7 (.take 8 (.take 9 (.two 10 (.take 11 (.take 12 (.take 13 (.cH 14 (.out 15 false (.tail
 [.run])))))) 14 (.cH 10 (.take 11 (.take 12 (.take 13 (.out 15 false (.tail [.run])))))))))))))))))) lB))))))))))))
theorem W.aaE (c:Option Addr) (cD:Bool) (bn:aa) (bo:aa) (bp:aa) (up:Option Addr) (w:World) (Q:Value→World→Prop) (h:W.y9 c cD bn bo bp up w Q):aQ Tryz.prog F.y9 #[.pointer c, .agg #[.bool cD, .slice bn.a bn.len bn.cap, .slice bo.a bo.len bo.cap, .slice bp.a bp.len bp.cap], .pointer up] w Q:=okF A.y9 Tryz.func156 (by kernel_rfl) (by kernel_rfl) h
def W.Dn (c:Option Addr) (l:aa) (w:World) (Q:Value→World→Prop):Prop:=aE ((l.len:Int)==1) (ay (w.drew) fun ag=>∃cL:Addr,l.a=some cL∧a8 0 l.len∧¬False∧bA ag ((cL.add (Int.toNat 0*2)).add 1) fun
 bq=>∃dQ:Addr,c=some dQ∧¬False∧∃Ba:Option Addr,ag.cell? dQ=some (.pointer Ba)∧∃ix:Addr,Ba=some ix∧¬False∧bA ag (ix.add 4) fun gF=>Q (.tuple #[.int .i64 bq, .int .i64 gF, .int .i64 0]) ag) (∃jv:Addr,c=
 some jv∧∃D2:Option Addr,w.cell? jv=some (.pointer D2)∧∃gO:Addr,D2=some gO∧bA w (gO.add 4) fun mI=>aE (mI==12) (Q (.tuple #[.int .i64 0, .int .i64 0, .int .i64 2]) w) (c5 (fun p3:Int→Int→World→Prop=>ay
 (w.drew) fun bY=>∃m9:Nat→Prop,∃mK:Addr,l.a=some mK∧a8 1 l.len∧¬m9 (mK.add (Int.toNat 1*2)).block∧aq bY (mK.add (Int.toNat 1*2)) fun dx=>∃tw:Addr,l.a=some tw∧a8 0 l.len∧¬m9 ((tw.add
 (Int.toNat 0*2)).add 1).block∧bA bY ((tw.add (Int.toNat 0*2)).add 1) fun kh=>∃tx:Addr,l.a=some tx∧a8 1 l.len∧¬m9 ((tx.add (Int.toNat 1*2)).add 1).block∧bA bY ((tx.add (Int.toNat 1*2)).add 1) fun uy=>(ay
 (bY.alloc (.cells #[.slice dx.a dx.len dx.cap] ah.cd)) fun dF=>ao m9 bY dF∧ay (dF.alloc (.cells #[.int .i64 kh, .int .i64 uy] ah.int)) fun cO=>ao m9 dF cO∧∃Dp:Array Value,(∀cK:World,Sem.run Tryz.prog
 (Instr.build ah.cF #[(1, .slice (some (ai bY)) 1 1),(3, .slice (some (ai dF)) 2 2)]) cK= .ok (.agg Dp) cK)∧s_ F.uc #[.pointer c, .agg Dp] cO fun pc pX fV=>ao m9 cO fV∧p3 pc pX fV)∧(ay
 (bY.alloc (.cells #[.int .i64 kh, .int .i64 uy] ah.int)) fun e7=>ao m9 bY e7∧ay (e7.alloc (.cells #[.slice dx.a dx.len dx.cap] ah.cd)) fun gj=>ao m9 e7 gj∧∃ae9:Array Value,(∀oQ:World,Sem.run Tryz.prog
 (Instr.build ah.cF #[(1, .slice (some (ai e7)) 1 1),(3, .slice (some (ai bY)) 2 2)]) oQ= .ok (.agg ae9) oQ)∧s_ F.uc #[.pointer c, .agg ae9] gj fun Wv j_ eC=>ao m9 gj eC∧p3 Wv j_ eC)) (fun (IQ:
 Int) (asJ:Int) mc=>ay (mc.drew) fun ud=>∃ae_:Addr,c=some ae_∧¬False∧∃afa:Option Addr,ud.cell? ae_=some (.pointer afa)∧∃Mi:Addr,afa=some Mi∧¬False∧bA ud (Mi.add 4) fun jG=>Q (.tuple #[.int .i64
 IQ, .int .i64 (aC (jG+1)), .int .i64 asJ]) ud)))
def A.Dn:bH:=(.s .r (.s (.s .r (.c (.s (.eS 12 false ⟨[0,1,2,4,0,16,32,64,128,256,512,15,4095,8191],[0,1,2,4,0,16,32,64,128,256,512,8,1024,0]⟩ [4096,8192,16384,32768,65536,131072,262144,
 524288,1048576,2097152,4194304,16,32,64] [2,4096,8192,16384,1,65536,131072,262144,524288,1048576,2097152,32768,4194304,0] (.take 0 (.take 1 (.take 2 (.take 3 (.take 4 (.take 5 (.take 6 (.take 7 (.take 8 (.take 9 (.take 10
 (.take 11 (.tail [.run, .run])))))))))))))) .l) .l)) (.s bj (.s (.mi [(7,(.int .i64)),(8,(.int .i64))] [0] (.eS 21 true ⟨[0,0,2,4,8,16,0,64,128,256,0,1024,2048,4096,8704,16416,32769,65536,131072,131072,524287,
 2097151],[0,0,2,4,8,16,0,64,128,256,0,1024,2048,4096,8704,16416,32769,65536,131072,131072,262144,524288]⟩ [4294967296,8589934592,17179869184,34359738368,68719476736,137438953472,274877906944,549755813888,
 1099511627776,2199023255552,4398046511104,8796093022208,17592186044416,35184372088832,70368744177664,140737488355328,281474976710656,2147483648,562949953421312,1125899906842624,128,256] [1,2,8589934592,17179869184,
 34359738368,68719476736,2,274877906944,549755813888,1099511627776,2,4398046511104,8796093022208,17592186044416,37383395344384,70506183131136,140741783322624,281474976710656,2147483648,2147483648,562949953421312,
 1125899906842624] (.take 0 (.take 1 (.take 2 (.take 3 (.take 4 (.take 6 (.take 7 (.take 8 (.take 9 (.take 10 (.take 11 (.take 12 (.take 13 (.two 5 (.cH 14 (.take 15 (.cH 16 (.take 17 (.take 18 (.take 19 (.take 20 (.tail [.run])))))))) 14
 (.cH 5 (.take 15 (.cH 16 (.take 17 (.take 18 (.take 19 (.take 20 (.tail [.run])))))))))))))))))))))))) (.s (.eS 12 false ⟨[0,0,2,4,8,16,32,64,128,0,1,1535,4095],[0,0,2,4,8,16,32,64,128,0,1,256,512]⟩
 [2251799813685248,4503599627370496,9007199254740992,18014398509481984,36028797018963968,72057594037927936,144115188075855872,288230376151711744,576460752303423488,1152921504606846976,16,32,64] [128,1,4503599627370496,
 9007199254740992,18014398509481984,36028797018963968,72057594037927936,144115188075855872,288230376151711744,256,2251799813685248,576460752303423488,1152921504606846976] (.take 0 (.take 1 (.take 2 (.take 3 (.take 4 (.take 5 (.take
 6 (.take 7 (.take 8 (.take 9 (.take 10 (.take 11 (.tail [.run])))))))))))))) .l)))))
theorem W.anI (c:Option Addr) (l:aa) (w:World) (Q:Value→World→Prop) (h:W.Dn c l w Q):aQ Tryz.prog F.Dn #[.pointer c, .slice l.a l.len l.cap] w Q:=okF A.Dn Tryz.func157 (by kernel_rfl) (by kernel_rfl) h
end
section
set_option maxRecDepth 100000
def W.yZ (cD:Bool) (bn:aa) (bo:aa) (bp:aa) (ik:Int) (to:Int) (l:aa) (w:World) (Q:Value→World→Prop):Prop:=ay (w.alloc (.cells #[.bool cD, .slice bn.a bn.len bn.cap,
 .slice bo.a bo.len bo.cap, .slice bp.a bp.len bp.cap] ah.cF)) fun ag=>ay (ag.alloc dt) fun aw=>ay (aw.drew) fun aZ=>∃mM:Nat→Prop,¬mM (Addr.add (ai w) 1).block∧aq aZ (Addr.add (ai w) 1) fun bL=>
 ((0:Int)≤ik∧ik≤((bL.cap:Nat):Int))∧¬mM (Addr.add (ai w) 3).block∧aq aZ (Addr.add (ai w) 3) fun c8=>((0:Int)≤ik∧ik≤((c8.cap:Nat):Int))∧(dL F.AB #[.slice (a3
 bL.a 1 0 bL.cap) ((Int.toNat ik)-0) (bL.cap-0)] aZ fun db a5=>ao mM aZ a5∧(dL F.u7 #[.slice (a3 c8.a 1 0 c8.cap) ((Int.toNat ik)-0) (c8.cap-0)] a5 fun fc bV=>ao mM a5 bV∧∃nd:Array
 Value,(∀dy:World,Sem.run Tryz.prog (Instr.build ah.cF #[(1, .slice db.a db.len db.cap),(3, .slice fc.a fc.len fc.cap)]) dy= .ok (.agg nd) dy)∧ay (bV.alloc dt) fun dY=>ao mM bV dY∧tc dY bV nd l w to ag Q)∧
 (ay (a5.alloc dt) fun gv=>ao mM a5 gv∧dL F.u7 #[.slice (a3 c8.a 1 0 c8.cap) ((Int.toNat ik)-0) (c8.cap-0)] gv fun rY c7=>ao mM gv c7∧∃afb:Array Value,(∀oJ:World,Sem.run Tryz.prog
 (Instr.build ah.cF #[(1, .slice db.a db.len db.cap),(3, .slice rY.a rY.len rY.cap)]) oJ= .ok (.agg afb) oJ)∧tc c7 a5 afb l w to ag Q))∧(ay (aZ.alloc dt) fun qg=>ao mM aZ qg∧dL F.AB
 #[.slice (a3 bL.a 1 0 bL.cap) ((Int.toNat ik)-0) (bL.cap-0)] qg fun oT lY=>ao mM qg lY∧dL F.u7 #[.slice (a3 c8.a 1 0 c8.cap) ((Int.toNat ik)-0) (c8.cap-0)] lY fun Wy IX=>ao
 mM lY IX∧∃afc:Array Value,(∀IY:World,Sem.run Tryz.prog (Instr.build ah.cF #[(1, .slice oT.a oT.len oT.cap),(3, .slice Wy.a Wy.len Wy.cap)]) IY= .ok (.agg afc) IY)∧tc IX aZ afc l w to ag Q)
def A.yZ:bH:=(.s .r (.s (.eS 12 true ⟨[0,1,0,6,8,0,32,0,192,272,528,0,4095],[0,1,0,6,8,0,32,0,192,256,528,0,3072]⟩ [4096,8192,16384,32768,65536,131072,262144,524288,1048576,2097152,4194304,
 512,0] [16,4096,2,24576,32768,16,131072,2,786432,1048576,2162688,0,4194816] (.take 0 (.take 1 (.take 2 (.take 3 (.take 5 (.take 6 (.take 7 (.take 8 (.two 4 (.two 9 (.take 10 (.cH 11 (.tail [.run]))) 11 (.cH 9 (.take 10 (.tail
 [.run])))) 11 (.cH 4 (.cH 9 (.take 10 (.tail [.run])))))))))))))) (.s (.s .r (.dv (.loop [(25,(.int .i64))] [2,4,8,9,23,24] (.s .r (.s (.c .l .l) (.s (.dv (.s .r (.s (.mi [] [2,4,8,9,11,23,24,25] (.s .r (.c .r .l))) .r)))
 .r)))))) (.s (.eS 7 false ⟨[0,1,0,4,0,16,40,66,255,511],[0,1,0,4,0,16,40,66,0,384]⟩ [140737488355328,281474976710656,562949953421312,1125899906842624,2251799813685248,4503599627370496,9007199254740992,
 18014398509481984,36028797018963968,0] [512,140737488355328,16,562949953421312,4,2251799813685248,5629499534213120,9288674231451648,512,54043195528445952] (.take 0 (.take 1 (.take 2 (.take 3 (.take 4 (.take 5 (.take 6 (.tail
 [.run, .run, .run]))))))))) (.s (.eS 6 false ⟨[0,1,0,4,0,24,34,127,255],[0,1,0,4,0,24,34,0,192]⟩ [72057594037927936,144115188075855872,288230376151711744,576460752303423488,1152921504606846976,2305843009213693952,
 4611686018427387904,9223372036854775808,0] [512,72057594037927936,16,288230376151711744,4,1729382256910270464,2449958197289549824,512,13835058055282163712] (.take 0 (.take 1 (.take 2 (.take 3 (.take 4 (.take 5 (.tail [.run, .run,
 .run])))))))) (.s .r .l))))))
theorem W.amN (cD:Bool) (bn:aa) (bo:aa) (bp:aa) (ik:Int) (to:Int) (l:aa) (w:World) (Q:Value→World→Prop) (h:W.yZ cD bn bo bp ik to l w Q):aQ Tryz.prog F.yZ #[.agg #[.bool cD, .slice bn.a bn.len bn.cap, .slice bo.a bo.len bo.cap, .slice bp.a bp.len bp.cap], .int .i64 ik, .int .i64 to, .slice l.a l.len l.cap] w Q:=okF A.yZ Tryz.func158 (by kernel_rfl) (by kernel_rfl) h
def W.AA (c:Option Addr) (cD:Bool) (bn:aa) (bo:aa) (bp:aa) (w:World) (Q:Value→World→Prop):Prop:=ay (w.alloc (.cells #[.bool cD, .slice bn.a bn.len bn.cap, .slice bo.a
 bo.len bo.cap, .slice bp.a bp.len bp.cap] ah.cF)) fun ag=>bP ag (ai w) fun cy=>aq ag (Addr.add (ai w) 1) fun bQ=>aq ag (Addr.add (ai w) 2) fun cB=>aq ag (Addr.add (ai w) 3) fun bL=>s_ F.uc
 #[.pointer c, .agg #[.bool cy, .slice bQ.a bQ.len bQ.cap, .slice cB.a cB.len cB.cap, .slice bL.a bL.len bL.cap]] ag fun gg kT a4=>∃gi:aa,∃cq:World,Sem.run Tryz.prog (Instr.buildSlice ah.Hy 1 #[(0, .agg #[.slice none 0
 0, .int .i64 gg])]) a4= .ok (.slice gi.a gi.len gi.cap) cq∧Q (.tuple #[.slice gi.a gi.len gi.cap, .int .i64 kT]) cq
def A.AA:bH:=dQ
theorem W.amg (c:Option Addr) (cD:Bool) (bn:aa) (bo:aa) (bp:aa) (w:World) (Q:Value→World→Prop) (h:W.AA c cD bn bo bp w Q):aQ Tryz.prog F.AA #[.pointer c, .agg #[.bool cD, .slice bn.a bn.len bn.cap, .slice bo.a bo.len bo.cap, .slice bp.a bp.len bp.cap]] w Q:=okF A.AA Tryz.func159 (by kernel_rfl) (by kernel_rfl) h
def W.wo (r:Option Addr) (size:Int) (w:World) (Q:Value→World→Prop):Prop:=dL F.z5 #[.pointer r, .int .i64 size] w fun bQ ag=>Nd F.sM #[.slice bQ.a bQ.len bQ.cap, .int .i64 0, .int .i64
 size] ag fun iA kS br=>Q (.int .i64 (aC iA)) br
def A.wo:bH:=dQ
theorem W.ah9 (r:Option Addr) (size:Int) (w:World) (Q:Value→World→Prop) (h:W.wo r size w Q):aQ Tryz.prog F.wo #[.pointer r, .int .i64 size] w Q:=okF A.wo Tryz.func164 (by kernel_rfl) (by kernel_rfl) h
def W.wq (r:Option Addr) (w:World) (Q:Value→World→Prop):Prop:=bc F.wo #[.pointer r, .int .i64 1] w fun bq ag=>dL F.z5 #[.pointer r, .int .i64 bq] ag fun c8 br=>Q (.slice c8.a
 c8.len c8.cap) br
def A.wq:bH:=(.s .r (.s .r .l))
theorem W.ah_ (r:Option Addr) (w:World) (Q:Value→World→Prop) (h:W.wq r w Q):aQ Tryz.prog F.wq #[.pointer r] w Q:=okF A.wq Tryz.func165 (by kernel_rfl) (by kernel_rfl) h
def W.u3 (cD:Bool) (bn:aa) (bo:aa) (bp:aa) (w:World) (Q:Value→World→Prop):Prop:=ay (w.alloc (.cells #[.bool cD, .slice bn.a bn.len bn.cap, .slice bo.a bo.len bo.cap,
 .slice bp.a bp.len bp.cap] ah.cF)) fun ag=>bP ag (ai w) fun cy=>aq ag (Addr.add (ai w) 1) fun bQ=>aq ag (Addr.add (ai w) 2) fun cB=>aq ag (Addr.add (ai w) 3) fun bL=>a_ F.nG #[.agg #[.bool cy, .slice bQ.a
 bQ.len bQ.cap, .slice cB.a cB.len cB.cap, .slice bL.a bL.len bL.cap]] ag fun nS a4=>c5 (fun HW:Bool→World→Prop=>aE (!nS) (HW true a4) (aq a4 (Addr.add (ai w) 1) fun gi=>HW (decide ((gi.len:Int)>255)) a4)) (fun (rT:Bool)
 cG=>aE rT (Q (.tuple #[.slice none 0 0, .int .i64 4]) cG) (bP cG (ai w) fun BE=>aq cG (Addr.add (ai w) 1) fun dk=>aq cG (Addr.add (ai w) 2) fun gz=>aq cG (Addr.add (ai w) 3) fun dx=>dL F.uZ #[.agg #[.bool
 BE, .slice dk.a dk.len dk.cap, .slice gz.a gz.len gz.cap, .slice dx.a dx.len dx.cap]] cG fun ek eQ=>aE (decide ((ek.len:Int)>232)) (Q (.tuple #[.slice none 0 0, .int .i64 10]) eQ) (Q (.tuple #[.slice ek.a ek.len
 ek.cap, .int .i64 0]) eQ)))
def A.u3:bH:=(.s .r (.s (.s (.gn [.run, .run, .run, .run, .split 4]) (.c (.s .r .l) .l)) iH))
theorem W.ah6 (cD:Bool) (bn:aa) (bo:aa) (bp:aa) (w:World) (Q:Value→World→Prop) (h:W.u3 cD bn bo bp w Q):aQ Tryz.prog F.u3 #[.agg #[.bool cD, .slice bn.a bn.len bn.cap, .slice bo.a bo.len bo.cap, .slice bp.a bp.len bp.cap]] w Q:=okF A.u3 Tryz.func166 (by kernel_rfl) (by kernel_rfl) h
def W.B5 (parts:aa) (w:World) (Q:Value→World→Prop):Prop:=∃ (gQ:Int→Int→World→Prop) (iS:Int→Int→World→Nat),gQ 4294967295 0 w∧∀ (bq:Int) (fT:Int) (bF:World),gQ bq fT bF→aE (decide (fT<
 (parts.len:Int))) (∃ix:Addr,parts.a=some ix∧a8 fT parts.len∧aq bF (ix.add (Int.toNat fT*1)) fun iY=>nd F.x8 #[.int .u32 bq, .slice iY.a iY.len iY.cap] bF fun gm b9=>gQ gm (aC (fT+1)) b9∧iS gm (aC (fT+1)) b9<
 iS bq fT bF) (Q (.int .u32 (Ez .u32 4294967295 bq)) bF)
def A.B5:bH:=(.s .r (.s .r (.s (.s .r (.dv (.loop [(3,(.int .u32)),(8,(.int .i64))] [6,7] cL))) (.s .r .l))))
theorem W.ahp (parts:aa) (w:World) (Q:Value→World→Prop) (h:W.B5 parts w Q):aQ Tryz.prog F.B5 #[.slice parts.a parts.len parts.cap] w Q:=okF A.B5 Tryz.func168 (by kernel_rfl) (by kernel_rfl) h
def W.sM (b:aa) (kX:Int) (size:Int) (w:World) (Q:Value→World→Prop):Prop:=Ex F.uP #[.slice b.a b.len b.cap, .int .i64 kX, .int .i64 size] w fun bQ eW ag=>c5 (fun oK:Bool→World→Prop=>aE (!eW) (oK
 true ag) (a_ F.Gc #[.int .i64 size] ag fun nS a4=>oK (!nS) a4)) (fun (ju:Bool) bV=>aE ju (Q (.tuple #[.int .u64 0, .bool false]) bV) (∃ (Wz:Int→Int→World→Prop) (afd:Int→Int→World→Nat),Wz 0 0 bV∧∀ (xU:
 Int) (mJ:Int) (dY:World),Wz xU mJ dY→aE (decide (mJ<(bQ.len:Int))) (∃oA:Addr,bQ.a=some oA∧a8 mJ bQ.len∧iq dY (oA.add (Int.toNat mJ*1)) fun h6=>(0:Int)≤8∧Wz (B0 .u64 (IntKind.wrap .u64 (xU*2^
 (min (Int.toNat 8) 64))) (IntKind.wrap .u64 h6)) (aC (mJ+1)) dY∧afd (B0 .u64 (IntKind.wrap .u64 (xU*2^(min (Int.toNat 8) 64))) (IntKind.wrap .u64 h6)) (aC (mJ+1)) dY<afd xU mJ dY) (Q (.tuple #[.int .u64 xU, .bool
 true]) dY)))
def A.sM:bH:=(.s .r (.s .r (.s gO (.s .r (.s (.s .r (.dv (.loop [(10,(.int .u64)),(29,(.int .i64))] [27,28] cL))) (.s .r .l))))))
theorem W.W_ (b:aa) (kX:Int) (size:Int) (w:World) (Q:Value→World→Prop) (h:W.sM b kX size w Q):aQ Tryz.prog F.sM #[.slice b.a b.len b.cap, .int .i64 kX, .int .i64 size] w Q:=okF A.sM Tryz.func169 (by kernel_rfl) (by kernel_rfl) h
def W.uP (b:aa) (kX:Int) (size:Int) (w:World) (Q:Value→World→Prop):Prop:=aE ((((decide (kX<0))||(decide (size<0)))||(decide (kX>(b.len:Int))))||(decide (size>(aC ((b.len:Int)-kX))))) (Q (.tuple
 #[.slice none 0 0, .bool false]) w) (((0:Int)≤(aC (kX+size))∧(aC (kX+size))≤((b.cap:Nat):Int))∧((0:Int)≤kX∧kX≤(((Int.toNat (aC (kX+size))):Nat):Int))∧Q (.tuple #[.slice (a3 b.a 1 (Int.toNat
 kX) b.cap) ((Int.toNat (aC (kX+size)))-(Int.toNat kX)) (b.cap-(Int.toNat kX)), .bool true]) w)
def A.uP:bH:=(.s .r (.s (.s (.gn [.run, .run, .run, .pure 2, .run, .run, .run, .pure 4, .run, .run, .run, .run, .run, .pure 6]) (.c (.s .r .l) .l)) (.s .r .l)))
theorem W.Q7 (b:aa) (kX:Int) (size:Int) (w:World) (Q:Value→World→Prop) (h:W.uP b kX size w Q):aQ Tryz.prog F.uP #[.slice b.a b.len b.cap, .int .i64 kX, .int .i64 size] w Q:=okF A.uP Tryz.func170 (by kernel_rfl) (by kernel_rfl) h
def W.Gc (size:Int) (w:World) (Q:Value→World→Prop):Prop:=Q (.bool ((decide (size≥1))&&(decide (size≤8)))) w
def A.Gc:bH:=(.s .r e6)
theorem W.Xa (size:Int) (w:World) (Q:Value→World→Prop) (h:W.Gc size w Q):aQ Tryz.prog F.Gc #[.int .i64 size] w Q:=okF A.Gc Tryz.func183 (by kernel_rfl) (by kernel_rfl) h
def W.Ap (c:Option Addr) (no:Int) (w:World) (Q:Value→World→Prop):Prop:=c5 (fun dR:Bool→World→Prop=>aE ((!(Option.isNone c))&&(decide (no≥0))) (∃cL:Addr,c=some cL∧∃gq:Option Addr,w.cell?
 cL=some (.pointer gq)∧bc F.Ak #[.pointer gq] w fun iA br=>dR (decide (no<iA)) br) (dR false w)) (fun (kS:Bool) b9=>Q (.bool kS) b9)
def A.Ap:bH:=jv
theorem W.aj3 (c:Option Addr) (no:Int) (w:World) (Q:Value→World→Prop) (h:W.Ap c no w Q):aQ Tryz.prog F.Ap #[.pointer c, .int .i64 no] w Q:=okF A.Ap Tryz.func184 (by kernel_rfl) (by kernel_rfl) h
def W.Aq (c:Option Addr) (w:World) (Q:Value→World→Prop):Prop:=Ar F.CK #[.pointer c] w fun gq ag=>aE (!(Option.isNone gq)) (Q (.tuple #[.pointer gq, .int .i64 0]) ag) (Ar F.CL
 #[.pointer c] ag fun m0 br=>aE (Option.isNone m0) (Q (.tuple #[.pointer none, .int .i64 11]) br) (c5 (fun tV:World→Prop=>∃jv:Addr,m0=some jv∧bP br (jv.add 1) fun ju=>aE ju (ay (br.drew) fun bV=>∃kz:Addr,c=some
 kz∧¬False∧∃afe:Option Addr,bV.cell? kz=some (.pointer afe)∧∃kf:Addr,m0=some kf∧¬False∧bA bV (kf.add 3) fun mJ=>∃mK:Addr,m0=some mK∧¬False∧aq bV (mK.add 5) fun dx=>bc F.CH
 #[.pointer afe, .int .i64 mJ, .slice dx.a dx.len dx.cap] bV fun kU eQ=>aE (kU !=0) (Q (.tuple #[.pointer none, .int .i64 kU]) eQ) (tV eQ)) (tV br)) (fun ct=>∃k4:Addr,m0=some k4∧cM ct k4 [.bool false, .bool
 false, .bool false, .int .i64 0, .int .i64 0, .slice none 0 0]∧(6:Nat)=6∧ay (setCells ct k4 0 [.bool false, .bool false, .bool false, .int .i64 0, .int .i64 0, .slice none 0 0]) fun cO=>Q (.tuple #[.pointer m0, .int .i64 0])
 cO)))
def A.Aq:bH:=(.s .r (.s (.s .r bj) (.s .r (.s bj (.s (.mi [] [5] (.s .r (.c (.s (.eS 12 false ⟨[0,1,2,4,0,16,32,64,0,256,512,1024,2184,8191],[0,1,2,4,0,16,32,64,0,256,512,1024,2184,4096]⟩
 [1048576,2097152,4194304,8388608,16777216,33554432,67108864,134217728,268435456,536870912,1073741824,2147483648,4294967296,64] [1,1048576,2097152,4194304,32,16777216,33554432,67108864,32,268435456,536870912,
 1073741824,2290089984,4294967296] (.take 0 (.take 1 (.take 2 (.take 3 (.take 4 (.take 5 (.take 6 (.take 7 (.take 8 (.take 9 (.take 10 (.take 11 (.tail [.run, .run])))))))))))))) bj) .l))) (.s .r (.s .r .l)))))))
theorem W.akc (c:Option Addr) (w:World) (Q:Value→World→Prop) (h:W.Aq c w Q):aQ Tryz.prog F.Aq #[.pointer c] w Q:=okF A.Aq Tryz.func185 (by kernel_rfl) (by kernel_rfl) h
def W.CT (s:aa) (no:Int) (w:World) (Q:Value→World→Prop):Prop:=ay (w.drew) fun ag=>(8:Int)≠0∧∃cL:Addr,s.a=some cL∧a8 (aC (Int.tdiv no 8)) s.len∧¬False∧iq ag (cL.add (Int.toNat (aC (Int.tdiv no
 8))*1)) fun bq=>(8:Int)≠0∧(0:Int)≤(Int.tmod no 8)∧∃dQ:Addr,s.a=some dQ∧a8 (aC (Int.tdiv no 8)) s.len∧st ag (dQ.add (Int.toNat (aC (Int.tdiv no 8))*1)) (.int .u8 (Zi .u8 bq (IntKind.wrap .u8 (1*2^(min
 (Int.toNat (Int.tmod no 8)) 8))))) fun bF=>Q (.tuple #[]) bF
def A.CT:bH:=(.eS 8 false ⟨[0,0,2,5,8,0,32,64,144,511,1023],[0,0,2,5,8,0,32,64,144,5,768]⟩ [16,32,64,128,256,512,1024,2048,4096,8192,0] [1,2,32,80,128,2,512,1024,2304,80,12288]
 (.take 0 (.take 1 (.take 2 (.take 3 (.take 4 (.take 5 (.take 6 (.take 7 (.tail [.run, .run, .run]))))))))))
theorem W.ak1 (s:aa) (no:Int) (w:World) (Q:Value→World→Prop) (h:W.CT s no w Q):aQ Tryz.prog F.CT #[.slice s.a s.len s.cap, .int .i64 no] w Q:=okF A.CT Tryz.func188 (by kernel_rfl) (by kernel_rfl) h
def W.u0 (cD:Bool) (bn:aa) (bo:aa) (bp:aa) (w:World) (Q:Value→World→Prop):Prop:=ay (w.alloc (.cells #[.bool cD, .slice bn.a bn.len bn.cap, .slice bo.a bo.len bo.cap,
 .slice bp.a bp.len bp.cap] ah.cF)) fun ag=>bP ag (ai w) fun cy=>aq ag (Addr.add (ai w) 1) fun bQ=>aq ag (Addr.add (ai w) 2) fun cB=>aq ag (Addr.add (ai w) 3) fun bL=>a_ F.nG #[.agg #[.bool cy, .slice bQ.a
 bQ.len bQ.cap, .slice cB.a cB.len cB.cap, .slice bL.a bL.len bL.cap]] ag fun nS a4=>aE (!nS) (Q (.int .i64 0) a4) (bP a4 (ai w) fun ju=>aq a4 (Addr.add (ai w) 1) fun gi=>aq a4 (Addr.add (ai w) 2) fun dN=>aq a4 (Addr.add (ai w) 3)
 fun fc=>dL F.uZ #[.agg #[.bool ju, .slice gi.a gi.len gi.cap, .slice dN.a dN.len dN.cap, .slice fc.a fc.len fc.cap]] a4 fun gz bY=>Q (.int .i64 (gz.len:Int)) bY)
def A.u0:bH:=iH
theorem W.ah5 (cD:Bool) (bn:aa) (bo:aa) (bp:aa) (w:World) (Q:Value→World→Prop) (h:W.u0 cD bn bo bp w Q):aQ Tryz.prog F.u0 #[.agg #[.bool cD, .slice bn.a bn.len bn.cap, .slice bo.a bo.len bo.cap, .slice bp.a bp.len bp.cap]] w Q:=okF A.u0 Tryz.func189 (by kernel_rfl) (by kernel_rfl) h
def W.ss (c:Option Addr) (cD:Bool) (bn:aa) (bo:aa) (bp:aa) (w:World) (Q:Value→World→Prop):Prop:=ay (w.alloc (.cells #[.bool cD, .slice bn.a bn.len bn.cap, .slice bo.a
 bo.len bo.cap, .slice bp.a bp.len bp.cap] ah.cF)) fun ag=>bP ag (ai w) fun cy=>aq ag (Addr.add (ai w) 1) fun bQ=>aq ag (Addr.add (ai w) 2) fun cB=>aq ag (Addr.add (ai w) 3) fun bL=>bc F.u0 #[.agg
 #[.bool cy, .slice bQ.a bQ.len bQ.cap, .slice cB.a cB.len cB.cap, .slice bL.a bL.len bL.cap]] ag fun gg a4=>aE (decide (gg>232)) (bP a4 (ai w) fun ju=>aq a4 (Addr.add (ai w) 1) fun gi=>aq a4 (Addr.add (ai w) 2) fun dN=>aq a4
 (Addr.add (ai w) 3) fun fc=>gu F.C_ #[.pointer c, .agg #[.bool ju, .slice gi.a gi.len gi.cap, .slice dN.a dN.len dN.cap, .slice fc.a fc.len fc.cap]] a4 fun gz nX bY=>Q (.tuple #[.slice gz.a gz.len gz.cap,
 .int .i64 nX]) bY) (bP a4 (ai w) fun uE=>aq a4 (Addr.add (ai w) 1) fun fW=>aq a4 (Addr.add (ai w) 2) fun ek=>aq a4 (Addr.add (ai w) 3) fun fL=>gu F.AA #[.pointer c, .agg #[.bool uE, .slice fW.a fW.len fW.cap,
 .slice ek.a ek.len ek.cap, .slice fL.a fL.len fL.cap]] a4 fun ee s3 dF=>Q (.tuple #[.slice ee.a ee.len ee.cap, .int .i64 s3]) dF)
def A.ss:bH:=iH
theorem W.ams (c:Option Addr) (cD:Bool) (bn:aa) (bo:aa) (bp:aa) (w:World) (Q:Value→World→Prop) (h:W.ss c cD bn bo bp w Q):aQ Tryz.prog F.ss #[.pointer c, .agg #[.bool cD, .slice bn.a bn.len bn.cap, .slice bo.a bo.len bo.cap, .slice bp.a bp.len bp.cap]] w Q:=okF A.ss Tryz.func190 (by kernel_rfl) (by kernel_rfl) h
end
end Go.Proofs.YtplieiecebljmaaGreat
