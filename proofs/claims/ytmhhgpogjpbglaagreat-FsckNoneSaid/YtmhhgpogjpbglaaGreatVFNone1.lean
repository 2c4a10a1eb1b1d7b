/- Printed by gen.py: functions of the program, each as what must be shown of it. -/
import Derived.Test.YtmhhgpogjpbglaaGreatProg
import Derived.Test.YtmhhgpogjpbglaaGreatKFNone2
namespace bl
abbrev bh.s:=bh.seq
abbrev bh.l:=bh.leaf
abbrev bh.c:=bh.cond
abbrev bh.r:=bh.dI []
end bl
namespace Go.Proofs.YtmhhgpogjpbglaaGreat
open Go bl
section
namespace F
abbrev rz:Nat:=4
abbrev kI:Nat:=12
abbrev nM:Nat:=15
abbrev ij:Nat:=16
abbrev p3:Nat:=19
abbrev pk:Nat:=20
abbrev m8:Nat:=21
abbrev m_:Nat:=22
abbrev kV:Nat:=52
abbrev pj:Nat:=53
abbrev nJ:Nat:=57
abbrev mF:Nat:=58
abbrev lC:Nat:=59
abbrev pe:Nat:=60
abbrev pt:Nat:=61
abbrev pU:Nat:=62
abbrev pL:Nat:=63
abbrev m4:Nat:=69
abbrev mO:Nat:=70
abbrev ny:Nat:=71
abbrev pE:Nat:=72
abbrev oe:Nat:=73
abbrev m6:Nat:=74
abbrev m7:Nat:=75
abbrev pI:Nat:=95
abbrev nK:Nat:=97
abbrev pr:Nat:=98
abbrev lG:Nat:=99
abbrev mN:Nat:=100
abbrev pQ:Nat:=101
abbrev jB:Nat:=102
abbrev lM:Nat:=103
abbrev FN:Nat:=104
abbrev pv:Nat:=105
abbrev pB:Nat:=106
abbrev pD:Nat:=107
abbrev nX:Nat:=113
abbrev nY:Nat:=114
abbrev pz:Nat:=115
abbrev nW:Nat:=116
abbrev rR:Nat:=117
abbrev rS:Nat:=118
abbrev jA:Nat:=119
abbrev dU:Nat:=120
abbrev kz:Nat:=121
abbrev iU:Nat:=122
abbrev mH:Nat:=123
abbrev mP:Nat:=124
abbrev mQ:Nat:=125
abbrev mI:Nat:=145
abbrev mo:Nat:=148
abbrev pH:Nat:=151
abbrev q5:Nat:=153
abbrev lz:Nat:=154
abbrev iC:Nat:=155
abbrev mm:Nat:=156
abbrev mi:Nat:=157
abbrev pA:Nat:=160
abbrev nV:Nat:=161
abbrev pC:Nat:=164
abbrev rT:Nat:=165
abbrev oU:Nat:=166
abbrev mw:Nat:=174
abbrev mv:Nat:=180
abbrev jg:Nat:=187
abbrev S2:Nat:=188
abbrev lq:Nat:=191
abbrev lr:Nat:=192
abbrev mB:Nat:=193
abbrev mq:Nat:=194
abbrev iz:Nat:=195
abbrev ky:Nat:=196
abbrev mj:Nat:=209
abbrev lk:Nat:=212
abbrev o0:Nat:=213
abbrev ll:Nat:=214
abbrev o2:Nat:=215
abbrev nE:Nat:=229
abbrev mA:Nat:=230
abbrev qL:Nat:=237
abbrev qM:Nat:=238
abbrev mx:Nat:=245
end F
namespace aj
abbrev t:Nat:=0
abbrev int:Nat:=3
abbrev bool:Nat:=4
abbrev uint8:Nat:=5
abbrev string:Nat:=9
abbrev cf:Nat:=27
abbrev nC:Nat:=32
abbrev hP:Nat:=40
abbrev fJ:Nat:=44
abbrev zm:Nat:=55
abbrev dD:Nat:=75
abbrev jf:Nat:=88
abbrev kb:Nat:=105
abbrev lB:Nat:=106
abbrev xQ:Nat:=110
abbrev fV:Nat:=117
abbrev pK:Nat:=119
abbrev sN:Nat:=121
abbrev mC:Nat:=132
abbrev S3:Nat:=145
abbrev BO:Nat:=151
abbrev pT:Nat:=170
abbrev vl:Nat:=171
abbrev u4:Nat:=182
abbrev lL:Nat:=185
abbrev A2:Nat:=203
abbrev F4:Nat:=234
abbrev lP:Nat:=240
abbrev x3:Nat:=260
abbrev EF:Nat:=264
end aj
namespace G
end G
def S4:List ez:=[(.dZ []),
  (.one (.one .fn)),
  (.one (.one (.int .i64))),
  (.one (.one (.int .i64))),
  (.one (.one .bool)),
  (.one (.one (.int .u8))),
  (.one (.one (.int .u8))),
  (.one (.flat [(.int .i64),(.int .i64), .bool,(.int .u8)])),
  (.one (.flat [(.int .i64),(.int .i64), .bool,(.int .u8)])),
  (.one (.one .str)),
  (.one (.one .str)),
  (.one (.one .str)),
  (.one (.one (.int .u64))),
  (.one (.flat [.str,(.int .u64)])),
  (.one (.flat [.str,(.int .u64)])),
  (.one (.one .ptr)),
  (.one (.one .ptr)),
  (.one (.one .ptr)),
  (.one (.flat [.ptr])),
  (.one (.flat [.ptr])),
  (.one (.one .any)),
  (.one (.one (.int .i32))),
  (.one (.one .slice)),
  (.one (.one .ptr)),
  (.one (.one (.int .i64))),
  (.dZ [(.one .ptr),(.one (.int .i64))]),
  (.one (.one .fn)),
  (.one (.one .slice)),
  (.dZ [(.one .slice),(.one (.int .i64))]),
  (.one (.one .fn)),
  (.one (.one (.int .u64))),
  (.one (.flat [(.int .i64),(.int .u64), .slice])),
  (.one (.flat [(.int .i64),(.int .u64), .slice])),
  (.one (.one .agg)),
  (.one (.one .agg)),
  (.one (.one .fn)),
  (.one (.one .fn)),
  (.one (.one .agg)),
  (.one (.one .agg)),
  (.one (.one .agg)),
  (.one (.one .agg)),
  (.dZ [(.one .agg),(.one (.int .i64))]),
  (.one (.one .fn)),
  (.one (.one .fn)),
  (.one (.one .slice)),
  (.one (.one .fn)),
  (.one (.one .fn)),
  (.one (.one .fn)),
  (.one (.one .fn)),
  (.one (.one .fn)),
  (.one (.one .slice)),
  (.one (.one .ptr)),
  (.dZ [(.one .ptr),(.one (.int .i64))]),
  (.one (.one .fn)),
  (.one (.flat [(.int .i64),(.int .i64),(.int .u64)])),
  (.one (.flat [(.int .i64),(.int .i64),(.int .u64)])),
  (.one (.one .fn)),
  (.one (.flat [(.int .i64), .slice, .slice,(.int .i64)])),
  (.one (.flat [(.int .i64), .slice, .slice,(.int .i64)])),
  (.one (.one .fn)),
  (.dZ [(.one .bool),(.one (.int .i64))]),
  (.one (.one .fn)),
  (.one (.one .fn)),
  (.one (.one .fn)),
  (.one (.one .fn)),
  (.one (.one .fn)),
  (.one (.one .slice)),
  (.one (.flat [(.int .i64),(.int .i64),(.int .u8)])),
  (.one (.flat [(.int .i64),(.int .i64),(.int .u8)])),
  (.one (.one .ptr)),
  (.one (.one .slice)),
  (.one (.flat [.slice])),
  (.one (.flat [.slice])),
  (.one (.one .agg)),
  (.one (.one .agg)),
  (.one (.one .slice)),
  (.one (.flat [(.int .i64),(.int .i64),(.int .i64), .slice, .slice, .slice])),
  (.one (.flat [(.int .i64),(.int .i64),(.int .i64), .slice, .slice, .slice])),
  (.one (.one .fn)),
  (.one (.one .fn)),
  (.one (.one .fn)),
  (.dZ [(.one .slice),(.one (.int .i64))]),
  (.one (.one .fn)),
  (.one (.one .fn)),
  (.one (.one .fn)),
  (.one (.one (.int .u64))),
  (.one (.one .fn)),
  (.one (.flat [(.int .i64),(.int .i64),(.int .i64),(.int .u64),(.int .u64),(.int .i64)])),
  (.one (.flat [(.int .i64),(.int .i64),(.int .i64),(.int .u64),(.int .u64),(.int .i64)])),
  (.one (.one .fn)),
  (.dZ [(.one .bool),(.one .agg)]),
  (.one (.one .fn)),
  (.one (.one .fn)),
  (.one (.one .fn)),
  (.one (.one .fn)),
  (.one (.one .fn)),
  (.one (.one .fn)),
  (.one (.one .fn)),
  (.one (.one .fn)),
  (.dZ [(.one .slice),(.one .bool),(.one (.int .i64))]),
  (.one (.one .fn)),
  (.one (.one .fn)),
  (.one (.one .fn)),
  (.one (.one .fn)),
  (.one (.one .fn)),
  (.one (.one .slice)),
  (.one (.one .map)),
  (.one (.one .agg)),
  (.one (.one .agg)),
  (.one (.one .agg)),
  (.one (.one .agg)),
  (.one (.one .fn)),
  (.one (.one .fn)),
  (.one (.one (.int .u32))),
  (.one (.one .fn)),
  (.one (.one .fn)),
  (.one (.one .agg)),
  (.one (.one .agg)),
  (.one (.one .ptr)),
  (.one (.one .map)),
  (.one (.one .agg)),
  (.one (.one .agg)),
  (.one (.one .fn)),
  (.dZ [(.flat [(.int .i64),(.int .i64),(.int .i64),(.int .u64),(.int .u64),(.int .i64)]),(.one (.int .u64)),(.one (.int .i64))]),
  (.one (.one .fn)),
  (.one (.one .fn)),
  (.one (.one .fn)),
  (.dZ [(.flat [(.int .i64),(.int .i64),(.int .i64),(.int .u64),(.int .u64),(.int .i64)]),(.one (.int .u64)),(.one (.int .i64))]),
  (.one (.one .fn)),
  (.dZ [(.flat [(.int .i64),(.int .u64), .slice]),(.one (.int .i64))]),
  (.one (.one .fn)),
  (.one (.flat [.bool, .slice, .slice, .slice])),
  (.one (.flat [.bool, .slice, .slice, .slice])),
  (.dZ [(.flat [.bool, .slice, .slice, .slice]),(.one .bool)]),
  (.one (.one .fn)),
  (.one (.one .ptr)),
  (.one (.one .fn)),
  (.one (.one .slice)),
  (.one (.flat [.slice, .slice])),
  (.one (.flat [.slice, .slice])),
  (.one (.one .fn)),
  (.one (.one .ptr)),
  (.dZ [(.one .ptr),(.one (.int .i64))]),
  (.one (.one .fn)),
  (.one (.one .fn)),
  (.one (.one .agg)),
  (.one (.one .fn)),
  (.one (.one .fn)),
  (.one (.one .ptr)),
  (.one (.one .ptr)),
  (.one (.one .agg)),
  (.one (.one .agg)),
  (.one (.one .fn)),
  (.one (.one .fn)),
  (.dZ [(.one (.int .i64)),(.one .bool)]),
  (.one (.one .fn)),
  (.one (.flat [.slice, .slice])),
  (.one (.flat [.slice, .slice])),
  (.one (.one .fn)),
  (.one (.one .fn)),
  (.one (.one .fn)),
  (.one (.one .fn)),
  (.one (.one .fn)),
  (.one (.one .ptr)),
  (.one (.one .fn)),
  (.one (.one .fn)),
  (.one (.one .ptr)),
  (.one (.one .fn)),
  (.one (.one .fn)),
  (.one (.flat [(.int .i64),(.int .i64)])),
  (.one (.flat [(.int .i64),(.int .i64)])),
  (.one (.one .slice)),
  (.one (.one .fn)),
  (.one (.one .fn)),
  (.one (.one .fn)),
  (.one (.one .fn)),
  (.dZ [(.one (.int .i64)),(.one (.int .i64))]),
  (.one (.one .fn)),
  (.dZ [(.one .slice),(.one (.int .i64))]),
  (.one (.one .fn)),
  (.one (.one .fn)),
  (.one (.one .fn)),
  (.one (.one .slice)),
  (.one (.one .fn)),
  (.one (.flat [(.int .i64), .slice, .slice])),
  (.one (.flat [(.int .i64), .slice, .slice])),
  (.one (.one .fn)),
  (.one (.one .fn)),
  (.one (.one .fn)),
  (.dZ [(.one .ptr),(.one (.int .i64))]),
  (.one (.one .fn)),
  (.dZ [(.one .ptr),(.one (.int .i64))]),
  (.one (.one .fn)),
  (.one (.one .slice)),
  (.dZ [(.one .slice),(.one (.int .i64))]),
  (.one (.one .fn)),
  (.one (.one .agg)),
  (.one (.one .agg)),
  (.one (.one .fn)),
  (.one (.one .fn)),
  (.one (.one .fn)),
  (.one (.one .fn)),
  (.one (.flat [.ptr, .ptr,(.int .u64),(.int .i64),(.int .i64)])),
  (.one (.flat [.ptr, .ptr,(.int .u64),(.int .i64),(.int .i64)])),
  (.one (.one .fn)),
  (.dZ [(.one .slice),(.one (.int .i64)),(.one (.int .i64))]),
  (.one (.one .fn)),
  (.one (.one .fn)),
  (.dZ [(.one (.int .i64)),(.one (.int .i64))]),
  (.one (.one .fn)),
  (.one (.one .fn)),
  (.dZ [(.flat [(.int .i64),(.int .i64),(.int .i64),(.int .u64),(.int .u64),(.int .i64)]),(.one (.int .i64)),(.one (.int .u64)),(.one (.int .i64))]),
  (.one (.one .fn)),
  (.one (.one .fn)),
  (.one (.one .fn)),
  (.one (.one .fn)),
  (.one (.one .fn)),
  (.one (.one .fn)),
  (.one (.one .fn)),
  (.one (.one .fn)),
  (.one (.one .fn)),
  (.one (.one .fn)),
  (.dZ [(.flat [.bool, .slice, .slice, .slice]),(.one (.int .i64))]),
  (.one (.one .fn)),
  (.dZ [(.one .slice),(.one .bool)]),
  (.one (.one .fn)),
  (.one (.one .fn)),
  (.one (.one .fn)),
  (.one (.one .fn)),
  (.one (.one .fn)),
  (.one (.one .fn)),
  (.one (.one .fn)),
  (.one (.one .slice)),
  (.one (.flat [.ptr, .slice,(.int .i64)])),
  (.one (.flat [.ptr, .slice,(.int .i64)])),
  (.one (.one .fn)),
  (.one (.one .fn)),
  (.one (.one .fn)),
  (.one (.one .fn)),
  (.one (.flat [.bool, .bool, .bool,(.int .i64),(.int .i64), .slice])),
  (.one (.flat [.bool, .bool, .bool,(.int .i64),(.int .i64), .slice])),
  (.one (.one .ptr)),
  (.one (.one .fn)),
  (.one (.one .fn)),
  (.one (.one .fn)),
  (.one (.one .fn)),
  (.one (.one .ptr)),
  (.one (.flat [.ptr, .slice, .slice])),
  (.one (.flat [.ptr, .slice, .slice])),
  (.dZ [(.one (.int .i64)),(.one (.int .i64)),(.one (.int .i64))]),
  (.one (.one .fn)),
  (.one (.one .fn)),
  (.one (.one .ptr)),
  (.one (.flat [.ptr, .slice,(.int .i64)])),
  (.one (.flat [.ptr, .slice,(.int .i64)])),
  (.one (.one .fn)),
  (.dZ [(.one .ptr),(.one (.int .i64))]),
  (.one (.one .fn)),
  (.one (.one .ptr)),
  (.one (.flat [.slice,(.int .i64)])),
  (.one (.flat [.slice,(.int .i64)])),
  (.one (.one .fn)),
  (.one (.one .ptr)),
  (.one (.flat [.slice, .bool])),
  (.one (.flat [.slice, .bool])),
  (.one (.one .fn)),
  (.dZ [(.one (.int .u64)),(.one .bool)]),
  (.one (.one .fn)),
  (.one (.one .fn)),
  (.one (.one (.int .i64))),
  (.dZ [(.one (.int .i64)),(.one (.int .i64))]),
  (.one (.one .fn)),
  (.one (.one .fn)),
  (.one (.one .fn)),
  (.one (.one .fn)),
  (.one (.one .fn)),
  (.one (.one .fn)),
  (.one (.one .fn)),
  (.one (.one .fn)),
  (.one (.one .fn)),
  (.one (.one .fn)),
  (.one (.one .fn)),
  (.one (.one .fn)),
  (.one (.one .fn)),
  (.one (.one .ptr)),
  (.one (.one .slice)),
  (.dZ [(.one .slice),(.one (.int .i64)),(.one (.int .i64)),(.one (.int .i64))]),
  (.one (.one .fn)),
  (.one (.one .fn)),
  (.one (.one .fn)),
  (.dZ [(.one .slice),(.one (.int .i64))]),
  (.one (.one .fn)),
  (.one (.flat [.slice,(.int .i64)])),
  (.one (.flat [.slice,(.int .i64)])),
  (.one (.one .fn)),
  (.one (.one .fn)),
  (.one (.one .fn)),
  (.one (.one .fn)),
  (.one (.one .fn)),
  (.one (.one .fn)),
  (.one (.one (.int .u64))),
  (.one (.one .fn)),
  (.one (.one .fn)),
  (.one (.one .ptr)),
  (.one (.one .fn)),
  (.one (.one .fn)),
  (.one (.one .fn)),
  (.one (.one .fn)),
  (.one (.one .fn)),
  (.one (.one .fn)),
  (.one (.one .fn)),
  (.one (.one .ptr)),
  (.one (.one .fn)),
  (.one (.one .fn)),
  (.dZ [(.flat [.bool, .slice, .slice, .slice]),(.one .slice),(.flat [.bool, .slice, .slice, .slice]),(.one .bool)]),
  (.one (.one .fn)),
  (.one (.one .fn)),
  (.one (.one .fn)),
  (.one (.flat [.ptr, .ptr, .ptr, .str])),
  (.one (.flat [.ptr, .ptr, .ptr, .str])),
  (.one (.one .agg)),
  (.one (.one .agg)),
  (.one (.one .agg)),
  (.one (.one (.int .u8))),
  (.one (.one (.int .u8))),
  (.one (.one .fn)),
  (.one (.one .ptr)),
  (.one (.one (.int .i32))),
  (.one (.one (.int .i32))),
  (.one (.one .agg)),
  (.one (.one .agg)),
  (.one (.one .ptr))]
def aO:TypeId→ez:=fun t=>S4.getD t (.one (.one .any))
theorem S5:Tryz.prog.follows .mixedOrders=true:=by kernel_rfl
def ah (w:World):Addr:=⟨w.heap.size,0,none⟩
def aK (n:Int):Int:=IntKind.wrap .i64 n
def bK (n:Int) (k:Nat):Prop:=(0:Int)≤n∧n<((k:Nat):Int)
def aA (c:Bool) (A B:Prop):Prop:=(c=true→A)∧(c=false→B)
def kB:Int:=9223372036854775807
def st (w:World) (A:Addr) (v:Value) (K:World→Prop):Prop:=(∃u:Value,w.cell? A=some u)∧w.frozen? A=false∧aG (w.setCell A v) fun ae=>K ae
def Vu (w:World) (z:Obj) (l:List Value) (k:Nat) (K:World→Prop):Prop:=aG (w.alloc z) fun ae=>cd ae (ah w) (Array.toList l.toArray)∧Array.size l.toArray=k∧aG (setCells ae (ah w) 0 (Array.toList l.toArray)) fun av=>K av
def E9 (s:ak) (n:Int) (w:World) (k:Nat) (K:List Value→Prop):Prop:=∃a:Addr,s.a=some a∧bK n s.len∧∃l:List Value,bR w (a.add (Int.toNat n*k)) 0 k=some l∧K l
def bN (f:Nat) (a:Array Value) (w:World) (K:Int→World→Prop):Prop:=Calls Tryz.prog f a w fun e J=>∃cz:Int,e= .returned (.int .i64 cz)∧K cz J
def cL (f:Nat) (a:Array Value) (w:World) (K:World→Prop):Prop:=Calls Tryz.prog f a w fun e J=>e= .returned (.tuple #[])∧K J
def b1 (f:Nat) (a:Array Value) (w:World) (K:Bool→World→Prop):Prop:=Calls Tryz.prog f a w fun e J=>∃cz:Bool,e= .returned (.bool cz)∧K cz J
def fO (f:Nat) (a:Array Value) (w:World) (K:ak→Int→World→Prop):Prop:=Calls Tryz.prog f a w fun e J=>∃cz:ak,∃ee:Int,e= .returned (.tuple #[.slice cz.a cz.len cz.cap, .int .i64 ee])∧K cz ee J
def kc (f:Nat) (a:Array Value) (w:World) (K:Int→Int→Int→Int→Int→Int→Int→Int→World→Prop):Prop:=Calls Tryz.prog f a w fun e J=>∃cz:Int,∃ee:Int,∃gG:Int,∃jn:Int,∃m5:Int,∃rq:Int,∃s9:Int,∃wv:Int,e= .returned (.tuple #[.agg #[.int .i64 cz, .int .i64 ee, .int .i64 gG, .int .u64 jn, .int .u64 m5, .int .i64 rq], .int .u64 s9, .int .i64 wv])∧K cz ee gG jn m5 rq s9 wv J
def hJ (f:Nat) (a:Array Value) (w:World) (K:Option Addr→Int→World→Prop):Prop:=Calls Tryz.prog f a w fun e J=>∃cz:Option Addr,∃ee:Int,e= .returned (.tuple #[.pointer cz, .int .i64 ee])∧K cz ee J
def b8 (f:Nat) (a:Array Value) (w:World) (K:ak→World→Prop):Prop:=Calls Tryz.prog f a w fun e J=>∃cz:ak,e= .returned (.slice cz.a cz.len cz.cap)∧K cz J
def pf (f:Nat) (a:Array Value) (w:World) (K:Array Value→World→Prop):Prop:=Calls Tryz.prog f a w fun e J=>∃cz:Array Value,e= .returned (.agg cz)∧K cz J
def mJ (f:Nat) (a:Array Value) (w:World) (K:Int→Int→ak→Int→World→Prop):Prop:=Calls Tryz.prog f a w fun e J=>∃cz:Int,∃ee:Int,∃gG:ak,∃jn:Int,e= .returned (.tuple #[.agg #[.int .i64 cz, .int .u64 ee, .slice gG.a gG.len gG.cap], .int .i64 jn])∧K cz ee gG jn J
def gQ (f:Nat) (a:Array Value) (w:World) (K:Int→World→Prop):Prop:=Calls Tryz.prog f a w fun e J=>∃cz:Int,e= .returned (.int .u32 cz)∧K cz J
def sM (f:Nat) (a:Array Value) (w:World) (K:Int→Int→Int→Int→Int→Int→Int→Int→Int→World→Prop):Prop:=Calls Tryz.prog f a w fun e J=>∃cz:Int,∃ee:Int,∃gG:Int,∃jn:Int,∃m5:Int,∃rq:Int,∃s9:Int,∃wv:Int,∃IZ:Int,e= .returned (.tuple #[.agg #[.int .i64 cz, .int .i64 ee, .int .i64 gG, .int .u64 jn, .int .u64 m5, .int .i64 rq], .int .i64 s9, .int .u64 wv, .int .i64 IZ])∧K cz ee gG jn m5 rq s9 wv IZ J
def A5 (f:Nat) (a:Array Value) (w:World) (K:Bool→ak→ak→ak→Int→World→Prop):Prop:=Calls Tryz.prog f a w fun e J=>∃cz:Bool,∃ee:ak,∃gG:ak,∃jn:ak,∃m5:Int,e= .returned (.tuple #[.agg #[.bool cz, .slice ee.a ee.len ee.cap, .slice gG.a gG.len gG.cap, .slice jn.a jn.len jn.cap], .int .i64 m5])∧K cz ee gG jn m5 J
def hC (f:Nat) (a:Array Value) (w:World) (K:Int→World→Prop):Prop:=Calls Tryz.prog f a w fun e J=>∃cz:Int,e= .returned (.int .u64 cz)∧K cz J
def qz (f:Nat) (a:Array Value) (w:World) (K:ak→Bool→World→Prop):Prop:=Calls Tryz.prog f a w fun e J=>∃cz:ak,∃ee:Bool,e= .returned (.tuple #[.slice cz.a cz.len cz.cap, .bool ee])∧K cz ee J
def su (f:Nat) (a:Array Value) (w:World) (K:Int→Bool→World→Prop):Prop:=Calls Tryz.prog f a w fun e J=>∃cz:Int,∃ee:Bool,e= .returned (.tuple #[.int .u64 cz, .bool ee])∧K cz ee J
def tc (f:Nat) (a:Array Value) (w:World) (K:Array Value→Int→World→Prop):Prop:=Calls Tryz.prog f a w fun e J=>∃cz:Array Value,∃ee:Int,e= .returned (.tuple #[.agg cz, .int .i64 ee])∧K cz ee J
def s_ (f:Nat) (a:Array Value) (w:World) (K:Int→Int→Int→World→Prop):Prop:=Calls Tryz.prog f a w fun e J=>∃cz:Int,∃ee:Int,∃gG:Int,e= .returned (.agg #[.int .i64 cz, .int .i64 ee, .int .u64 gG])∧K cz ee gG J
def aE (w:World) (A:Addr) (K:Int→Prop):Prop:=∃x:Int,w.cell? A=some (.int .i64 x)∧K x
def cU (w:World) (A:Addr) (K:Int→Prop):Prop:=∃x:Int,w.cell? A=some (.int .u8 x)∧K x
def aW (w:World) (A:Addr) (K:ak→Prop):Prop:=∃x:ak,w.cell? A=some (.slice x.a x.len x.cap)∧K x
def bE (w:World) (A:Addr) (K:Int→Prop):Prop:=∃x:Int,w.cell? A=some (.int .u64 x)∧K x
def fK (w:World) (A:Addr) (K:Bool→Prop):Prop:=∃x:Bool,w.cell? A=some (.bool x)∧K x
def gA:Obj:= .cells #[.int .i64 0, .int .i64 0, .int .u64 0, .int .u64 0, .int .i64 0, .int .i64 0, .int .i64 0, .int .i64 0, .int .i64 0, .int .i64 0] aj.hP
def fc:Obj:= .cells #[.int .i64 0, .int .i64 0, .int .i64 0, .int .u64 0, .int .u64 0, .int .i64 0] aj.jf
def z3:Obj:= .cells #[.int .u8 0, .int .u8 0, .int .u8 0, .int .u8 0, .int .u8 0, .int .u8 0, .int .u8 0, .int .u8 0, .int .u8 0, .int .u8 0, .int .u8 0, .int .u8 0, .int .u8 0, .int .u8 0, .int .u8 0, .int .u8 0, .int .u8 0, .int .u8 0, .int .u8 0, .int .u8 0, .int .u8 0, .int .u8 0, .int .u8 0, .int .u8 0, .int .u8 0, .int .u8 0, .int .u8 0, .int .u8 0, .int .u8 0, .int .u8 0, .int .u8 0, .int .u8 0, .int .u8 0, .int .u8 0, .int .u8 0, .int .u8 0, .int .u8 0, .int .u8 0, .int .u8 0, .int .u8 0, .int .u8 0, .int .u8 0, .int .u8 0, .int .u8 0, .int .u8 0, .int .u8 0, .int .u8 0, .int .u8 0, .int .u8 0, .int .u8 0, .int .u8 0, .int .u8 0, .int .u8 0, .int .u8 0, .int .u8 0, .int .u8 0, .int .u8 0, .int .u8 0, .int .u8 0, .int .u8 0, .int .u8 0, .int .u8 0, .int .u8 0, .int .u8 0, .int .u8 0, .int .u8 0, .int .u8 0, .int .u8 0, .int .u8 0, .int .u8 0, .int .u8 0, .int .u8 0, .int .u8 0, .int .u8 0, .int .u8 0, .int .u8 0, .int .u8 0, .int .u8 0, .int .u8 0, .int .u8 0, .int .u8 0, .int .u8 0, .int .u8 0, .int .u8 0, .int .u8 0, .int .u8 0, .int .u8 0, .int .u8 0, .int .u8 0, .int .u8 0, .int .u8 0, .int .u8 0, .int .u8 0, .int .u8 0, .int .u8 0, .int .u8 0, .int .u8 0, .int .u8 0, .int .u8 0, .int .u8 0, .int .u8 0, .int .u8 0, .int .u8 0, .int .u8 0, .int .u8 0, .int .u8 0, .int .u8 0, .int .u8 0, .int .u8 0, .int .u8 0, .int .u8 0, .int .u8 0, .int .u8 0, .int .u8 0, .int .u8 0, .int .u8 0, .int .u8 0, .int .u8 0, .int .u8 0, .int .u8 0, .int .u8 0, .int .u8 0, .int .u8 0, .int .u8 0, .int .u8 0, .int .u8 0, .int .u8 0, .int .u8 0, .int .u8 0, .int .u8 0, .int .u8 0, .int .u8 0, .int .u8 0, .int .u8 0, .int .u8 0, .int .u8 0, .int .u8 0, .int .u8 0, .int .u8 0, .int .u8 0, .int .u8 0, .int .u8 0, .int .u8 0, .int .u8 0, .int .u8 0, .int .u8 0, .int .u8 0, .int .u8 0, .int .u8 0, .int .u8 0, .int .u8 0, .int .u8 0, .int .u8 0, .int .u8 0, .int .u8 0, .int .u8 0, .int .u8 0, .int .u8 0, .int .u8 0, .int .u8 0, .int .u8 0, .int .u8 0, .int .u8 0, .int .u8 0, .int .u8 0, .int .u8 0, .int .u8 0, .int .u8 0, .int .u8 0, .int .u8 0, .int .u8 0, .int .u8 0, .int .u8 0, .int .u8 0, .int .u8 0, .int .u8 0, .int .u8 0, .int .u8 0, .int .u8 0, .int .u8 0, .int .u8 0, .int .u8 0, .int .u8 0, .int .u8 0, .int .u8 0, .int .u8 0, .int .u8 0, .int .u8 0, .int .u8 0, .int .u8 0, .int .u8 0, .int .u8 0, .int .u8 0, .int .u8 0, .int .u8 0, .int .u8 0, .int .u8 0, .int .u8 0, .int .u8 0, .int .u8 0, .int .u8 0, .int .u8 0, .int .u8 0, .int .u8 0, .int .u8 0, .int .u8 0, .int .u8 0, .int .u8 0, .int .u8 0, .int .u8 0, .int .u8 0, .int .u8 0, .int .u8 0, .int .u8 0, .int .u8 0, .int .u8 0, .int .u8 0, .int .u8 0, .int .u8 0, .int .u8 0, .int .u8 0, .int .u8 0, .int .u8 0, .int .u8 0, .int .u8 0, .int .u8 0, .int .u8 0, .int .u8 0, .int .u8 0, .int .u8 0, .int .u8 0, .int .u8 0, .int .u8 0, .int .u8 0, .int .u8 0, .int .u8 0, .int .u8 0, .int .u8 0, .int .u8 0, .int .u8 0, .int .u8 0, .int .u8 0, .int .u8 0, .int .u8 0, .int .u8 0, .int .u8 0, .int .u8 0, .int .u8 0, .int .u8 0, .int .u8 0, .int .u8 0, .int .u8 0, .int .u8 0, .int .u8 0, .int .u8 0, .int .u8 0] aj.fV
def z4:Obj:= .cells #[.int .i64 0, .int .u64 0, .slice none 0 0] aj.nC
def z5:Obj:= .cells #[.bool false, .slice none 0 0, .slice none 0 0, .slice none 0 0] aj.mC
def a7:bh:=(.s .r (.c (.s .r .l) .l))
def kt:bh:=(.s .r (.s (.s .r (.cn (.loop [(8,(.int .i64))] [0,1,7] (.s .r (.s (.c .l .l) (.s (.cn (.s .r a7)) .r)))))) (.s .r .l)))
def fT:bh:=(.s .r (.s a7 (.s .r .l)))
def bB:bh:=(.s .r (.s (.c .l .l) (.s (.cn (.s .r .r)) .r)))
def a3:bh:=(.s .r (.s (.dI [.run, .run, .run, .pure 2]) .l))
def a4:bh:=(.s .r (.s .r (.s .r .l)))
def a5:bh:=(.c (.s .r (.s .r .l)) .l)
def fa:bh:=(.s (.dI [.run, .run, .run, .run, .split 4]) (.c (.s .r .l) .l))
theorem okF {f:Nat} {fn:Func} (A:bh) {args:List Value} {w:World} {Q:Value→World→Prop} {p:Prop} (aI:Tryz.prog.funcs[f]? =some fn) (U:CM fn args.length=true) (ab:p=CL Tryz.prog aO A fn args w Q) (h:p):aN Tryz.prog f args.toArray w Q:=SI S5 aI U (Eq.mp ab h)
def yc (b3:World) (bH:World) (w:World) (Q:Value→World→Prop) (n24:Int):Prop:=aE b3 (ah bH) fun n36=>aE b3 (Addr.add (ah bH) 1) fun n37=>aE b3 (Addr.add (ah bH) 2) fun n38=>bE b3 (Addr.add (ah bH) 3) fun n39
 =>bE b3 (Addr.add (ah bH) 4) fun n40=>aE b3 (Addr.add (ah bH) 5) fun n41=>cd b3 (ah w) [.int .i64 n36, .int .i64 n37, .int .i64 n38, .int .u64 n39, .int .u64 n40, .int .i64 n41]∧(6:Nat)=6∧aG (setCells b3 (ah w) 0
 [.int .i64 n36, .int .i64 n37, .int .i64 n38, .int .u64 n39, .int .u64 n40, .int .i64 n41]) fun gX=>aE gX (ah w) fun zn=>aE gX (Addr.add (ah w) 1) fun zo=>aE gX (Addr.add (ah w) 2) fun oD=>bE gX (Addr.add (ah w) 3) fun qf
 =>bE gX (Addr.add (ah w) 4) fun tF=>aE gX (Addr.add (ah w) 5) fun wx=>Q (.tuple #[.agg #[.int .i64 zn, .int .i64 zo, .int .i64 oD, .int .u64 qf, .int .u64 tF, .int .i64 wx], .int .u64 n24, .int .i64 2]) gX
def vq (gq:World) (eT:World) (bq:World) (n35:Int) (cN:World) (l9:World→Prop):Prop:=aG (gq.drew) fun ih=>∃I0:Nat→Prop,¬I0 ((ah eT):Addr).block∧aE ih (ah eT) fun tG=>aE ih (Addr.add (ah eT) 1)
 fun I1=>aE ih (Addr.add (ah eT) 2) fun tH=>bE ih (Addr.add (ah eT) 3) fun I2=>bE ih (Addr.add (ah eT) 4) fun I3=>aE ih (Addr.add (ah eT) 5) fun oE=>∃I4:Addr,(some (ah bq):Option Addr)=some I4∧st ih
 (I4.add 4) (.int .i64 n35) fun sK=>aq I0 ih sK∧cd sK (ah cN) [.int .i64 tG, .int .i64 I1, .int .i64 tH, .int .u64 I2, .int .u64 I3, .int .i64 oE]∧(6:Nat)=6∧aG (setCells sK (ah cN) 0 [.int .i64 tG, .int .i64
 I1, .int .i64 tH, .int .u64 I2, .int .u64 I3, .int .i64 oE]) fun iI=>l9 iI
def yb (b3:World) (w:World) (Q:Value→World→Prop):Prop:=cd b3 (ah w) [.int .i64 0, .int .i64 0, .int .i64 0, .int .u64 0, .int .u64 0, .int .i64 0]∧(6:Nat)=6∧aG (setCells b3 (ah w) 0 [.int .i64 0, .int .i64 0,
 .int .i64 0, .int .u64 0, .int .u64 0, .int .i64 0]) fun ej=>aE ej (ah w) fun n30=>aE ej (Addr.add (ah w) 1) fun n31=>aE ej (Addr.add (ah w) 2) fun n32=>bE ej (Addr.add (ah w) 3) fun n33=>bE ej (Addr.add (ah w) 4) fun n34=>
 aE ej (Addr.add (ah w) 5) fun n35=>Q (.tuple #[.agg #[.int .i64 n30, .int .i64 n31, .int .i64 n32, .int .u64 n33, .int .u64 n34, .int .i64 n35], .int .u64 0, .int .i64 1]) ej
def Ao (aR:World) (av:World) (ae:World) (nj:World→Prop):Prop:=aG (aR.drew) fun bF=>∃CP:Nat→Prop,¬CP (Addr.add (ah av) 3).block∧aW bF (Addr.add (ah av) 3) fun hA=>bN F.lq #[.pointer (some (ah
 ae)), .int .i64 2] bF fun n14 bm=>aq CP bF bm∧aG (bm.alloc (.cells #[.int .i64 n14] aj.int)) fun cY=>aq CP bm cY∧∃ef:ak,∃ey:World,Sem.run Tryz.prog (Builtin.append_ #[aj.dD,aj.dD] aj.dD #[.slice
 hA.a hA.len hA.cap, .slice (some (ah bm)) 1 1]) cY= .ok (.slice ef.a ef.len ef.cap) ey∧st ey (Addr.add (ah av) 3) (.slice ef.a ef.len ef.cap) fun cp=>nj cp
def BE (rU:Value) (bm:World) (d:Option Addr) (nk:World→Prop) (qg:World→Nat) (b5:World):Prop:=∃n15:Int,∃S6:Value,∃ey:World,Sem.run Tryz.prog (Instr.entry (rU)) bm= .ok (.tuple #[.int .i64 n15,S6]) ey
 ∧aG (ey.drew) fun cp=>∃I5:Nat→Prop,∃tI:Addr,d=some tI∧¬I5 (tI.add 4).block∧aW cp (tI.add 4) fun g1=>pf F.nK #[.pointer d, .int .i64 n15] cp fun CQ c_=>aq I5 cp c_∧∃a25:Addr,g1.a=
 some a25∧bK n15 g1.len∧cd c_ (a25.add (Int.toNat n15*256)) (Array.toList CQ)∧Array.size CQ=256∧aG (setCells c_ (a25.add (Int.toNat n15*256)) 0 (Array.toList CQ)) fun de=>nk de∧qg de<qg b5
def AD (ef:ak) (hT:ak) (cJ:World) (l_:Nat→Prop) (wy:Option Nat) (i:Int) (d:Option Addr) (Q:Value→World→Prop):Prop:=∃fo:ak,∃eu:World,Sem.run Tryz.prog (Builtin.append_ #[aj.kb,
 aj.kb] aj.kb #[.slice ef.a ef.len ef.cap, .slice hT.a hT.len hT.cap]) cJ= .ok (.slice fo.a fo.len fo.cap) eu∧aq l_ cJ eu∧∃c_:World,Sem.run Tryz.prog (Instr.mapUpdate aj.lB
 (.map wy) (.int .i64 i) (.slice fo.a fo.len fo.cap)) eu= .ok () c_∧∃a23:Addr,d=some a23∧aE c_ (a23.add 6) fun n24=>∃a25:Addr,d=some a25∧st c_ (a25.add 6) (.int .i64 (aK (n24+1))) fun de=>Q (.int .i64 0) de
def AH (cO:World) (w:World) (Q:Value→World→Prop):Prop:=aE cO (ah w) fun n35=>aE cO (Addr.add (ah w) 1) fun n36=>aE cO (Addr.add (ah w) 2) fun n37=>bE cO (Addr.add (ah w) 3) fun n38=>bE cO (Addr.add (ah w) 4) fun
 n39=>aE cO (Addr.add (ah w) 5) fun n40=>Q (.tuple #[.agg #[.int .i64 n35, .int .i64 n36, .int .i64 n37, .int .u64 n38, .int .u64 n39, .int .i64 n40], .int .i64 0, .int .u64 0, .int .i64 4]) cO
def zV (ed:ak):Prop:=(0:Int)≤(aK (232-(ed.len:Int)))∧((aK (232-(ed.len:Int))):Int)≤(aK (232-(ed.len:Int)))∧((aK (232-(ed.len:Int))):Int)≤kB∧((1:Nat):Int)*(aK (232-(ed.len:Int)))≤
 140737488355328
def zW (iJ:World) (cm:ak) (cO:World) (tJ:ak) (eT:World) (ed:ak) (zp:ak→World→Prop):Prop:=aG (iJ.alloc (.cells #[.slice cm.a cm.len cm.cap, .slice (some (ah cO)) (Int.toNat 4) (Int.toNat 4), .slice tJ.a
 tJ.len tJ.cap, .slice (some (ah eT)) (Int.toNat (aK (232-(ed.len:Int)))) (Int.toNat (aK (232-(ed.len:Int))))] aj.cf)) fun oq=>b8 F.jA #[.slice (some (ah iJ)) 4 4] oq fun sr ml=>zp sr ml
def BF (d:Option Addr) (bm:World) (Q:Value→World→Prop):Prop:=∃a27:Addr,d=some a27∧∃I6:Option Nat,bm.cell? (a27.add 5)=some (.map I6)∧∃ (S7:Value) (jv:World),Sem.run Tryz.prog (Builtin.clear_
 #[aj.lB] aj.t #[.map I6]) bm= .ok S7 jv∧Q (.int .i64 0) jv
def z_ (bC:World) (w:World) (Q:Value→World→Prop):Prop:=aE bC (ah w) fun n9=>bE bC (Addr.add (ah w) 1) fun n10=>aW bC (Addr.add (ah w) 2) fun hA=>Q (.tuple #[.agg #[.int .i64 n9, .int .u64 n10, .slice hA.a hA.len
 hA.cap], .int .i64 4]) bC
def Ay (aR:World) (w:World) (tK:List Value) (Q:Value→World→Prop):Prop:=cd aR (ah w) (Array.toList tK.toArray)∧Array.size tK.toArray=256∧aG (setCells aR (ah w) 0 (Array.toList tK.toArray)) fun bC=>∃nL:List
 Value,bR bC (ah w) 0 256=some nL∧Q (.agg nL.toArray) bC
end
section
set_option maxRecDepth 100000
def W.pI (s:ak) (v:Int) (w:World) (Q:Value→World→Prop):Prop:=bN F.pH #[.slice s.a s.len s.cap, .int .i64 v] w fun aX ae=>Q (.bool (decide (aX≥0))) ae
def A.pI:bh:=(.s .r (.s .r .l))
theorem W.OM (s:ak) (v:Int) (w:World) (Q:Value→World→Prop) (h:W.pI s v w Q):aN Tryz.prog F.pI #[.slice s.a s.len s.cap, .int .i64 v] w Q:=okF A.pI Tryz.func95 (by kernel_rfl) (by kernel_rfl) h
def W.pr (s:ak) (f:iO) (w:World) (Q:Value→World→Prop):Prop:=bN F.q5 #[.slice s.a s.len s.cap, .func (.func f.f) f.pre f.cap] w fun aX ae=>Q (.bool (decide (aX≥0)))
 ae
def A.pr:bh:=(.s .r (.s .r .l))
theorem W.No (s:ak) (f:iO) (w:World) (Q:Value→World→Prop) (h:W.pr s f w Q):aN Tryz.prog F.pr #[.slice s.a s.len s.cap, .func (.func f.f) f.pre f.cap] w Q:=okF A.pr Tryz.func98 (by kernel_rfl) (by kernel_rfl) h
def W.pv (s:ak) (w:World) (Q:Value→World→Prop):Prop:=aA (decide ((s.len:Int)<2)) (Q (.slice s.a s.len s.cap) w) (∃ (dx:Int→World→Prop) (eJ:Int→World→Nat),dx 1 w∧∀ (aX:Int) (a_:
 World),dx aX a_→aA (decide (aX<(s.len:Int))) (aG (a_.drew) fun aR=>∃fa:Addr,s.a=some fa∧bK aX s.len∧¬False∧aE aR (fa.add (Int.toNat aX*1)) fun n7=>∃fT:Addr,s.a=some fT∧bK (aK (aX-1)) s.len∧¬False∧aE aR
 (fT.add (Int.toNat (aK (aX-1))*1)) fun n9=>aA (n7==n9) (((0:Int)≤aX∧aX≤(s.len:Int))∧∃ (CR:Int→Int→World→Prop) (I7:Int→Int→World→Nat),CR aX 1 aR∧∀ (n12:Int) (n13:Int) (dg:World),CR n12 n13 dg
 →aA (decide (n13<(((s.len-(Int.toNat aX)):Nat):Int))) (bZ (fun I8:Int→World→Prop=>aG (dg.drew) fun bH=>∃nm:Addr,(b7 s.a 1 (Int.toNat aX) s.cap)=some nm∧((0:Int)≤n13∧n13<(((s.len-(Int.toNat aX)):
 Nat):Int))∧¬False∧aE bH (nm.add (Int.toNat n13*1)) fun n18=>∃tL:Addr,(b7 s.a 1 (Int.toNat aX) s.cap)=some tL∧((0:Int)≤(aK (n13-1))∧(aK (n13-1))<(((s.len-(Int.toNat aX)):Nat):Int))∧¬False∧aE
 bH (tL.add (Int.toNat (aK (n13-1))*1)) fun n20=>aA (n18 !=n20) (∃I9:Addr,(b7 s.a 1 (Int.toNat aX) s.cap)=some I9∧((0:Int)≤n13∧n13<(((s.len-(Int.toNat aX)):Nat):Int))∧aE bH (I9.add (Int.toNat n13*1))
 fun n22=>∃a23:Addr,s.a=some a23∧bK n12 s.len∧st bH (a23.add (Int.toNat n12*1)) (.int .i64 n22) fun iq=>I8 (aK (n12+1)) iq) (I8 n12 bH)) (fun (n25:Int) de=>CR n25 (aK (n13+1)) de∧I7 n25 (aK (n13+1)) de
 <I7 n12 n13 dg)) (((0:Int)≤n12∧n12≤(s.len:Int))∧∃ (S8:Value) (b3:World),Sem.run Tryz.prog (Builtin.clear_ #[aj.dD] aj.t #[.slice (b7 s.a 1 (Int.toNat n12) s.cap) (s.len-(Int.toNat n12)) (s.cap-(Int.toNat
 n12))]) dg= .ok S8 b3∧((0:Int)≤n12∧n12≤((s.cap:Nat):Int))∧Q (.slice (b7 s.a 1 0 s.cap) ((Int.toNat n12)-0) (s.cap-0)) b3)) (dx (aK (aX+1)) aR∧eJ (aK (aX+1)) aR<eJ aX a_)) (Q (.slice s.a s.len s.cap) a_))
def A.pv:bh:=(.s .r (.s a7 (.s (.s .r (.cn (.loop [(3,(.int .i64))] [0] (.s (.s .r (.c .l .l)) (.s (.cn (.s (.eI 9 false ⟨[0,0,3,4,0,0,32,80,128,264],[0,0,3,4,0,0,32,80,128,264]⟩ [65536,
 131072,262144,524288,1048576,2097152,4194304,8388608,16777216,33554432] [1,8,196608,262144,1,8,2097152,5242880,8388608,17301504] (.take 0 (.take 1 (.take 2 (.take 3 (.take 4 (.take 5 (.take 6 (.take 7 (.take 8 (.tail
 [.run]))))))))))) (.c (.s .r (.s (.s .r (.cn (.loop [(3,(.int .i64)),(5,(.int .i64))] [0,4] (.s (.s .r (.c .l .l)) (.s (.jU [(3,(.int .i64))] [0,4,5] (.cn (.s (.eI 9 false ⟨[0,0,3,4,0,0,32,80,128,264],[0,0,3,4,0,0,
 32,80,128,264]⟩ [34359738368,68719476736,137438953472,274877906944,549755813888,1099511627776,2199023255552,4398046511104,8796093022208,17592186044416] [16,32,103079215104,137438953472,16,32,1099511627776,2748779069440,
 4398046511104,9070970929152] (.take 0 (.take 1 (.take 2 (.take 3 (.take 4 (.take 5 (.take 6 (.take 7 (.take 8 (.tail [.run]))))))))))) (.c (.s .r .r) .l)))) .r))))) (.s .r (.s .r .l)))) .l))) .r))))) (.s .r .l))))
theorem W.Nx (s:ak) (w:World) (Q:Value→World→Prop) (h:W.pv s w Q):aN Tryz.prog F.pv #[.slice s.a s.len s.cap] w Q:=okF A.pv Tryz.func105 (by kernel_rfl) (by kernel_rfl) h
def W.iU (s:ak) (w:World) (Q:Value→World→Prop):Prop:=aA (Option.isNone s.a) (Q (.slice none 0 0) w) (aG (w.alloc (.cells #[] aj.uint8)) fun ae=>∃s2:ak,∃bM:World,Sem.run Tryz.prog
 (Builtin.append_ #[aj.cf,aj.cf] aj.cf #[.slice (some (ah w)) 0 0, .slice s.a s.len s.cap]) ae= .ok (.slice s2.a s2.len s2.cap) bM∧Q (.slice s2.a s2.len s2.cap) bM)
def A.iU:bh:=fT
theorem W.DU (s:ak) (w:World) (Q:Value→World→Prop) (h:W.iU s w Q):aN Tryz.prog F.iU #[.slice s.a s.len s.cap] w Q:=okF A.iU Tryz.func122 (by kernel_rfl) (by kernel_rfl) h
def W.mo (a:ak) (b:ak) (w:World) (Q:Value→World→Prop):Prop:=∃dM:Int,∃av:World,Sem.run Tryz.prog (callFunc F.S2 #[.slice a.a a.len a.cap, .slice b.a b.len b.cap]) w= .ok (.value (.int
 .i64 dM)) av∧Q (.int .i64 dM) av
def A.mo:bh:=(.s .r (.s .r .l))
theorem W.Lq (a:ak) (b:ak) (w:World) (Q:Value→World→Prop) (h:W.mo a b w Q):aN Tryz.prog F.mo #[.slice a.a a.len a.cap, .slice b.a b.len b.cap] w Q:=okF A.mo Tryz.func148 (by kernel_rfl) (by kernel_rfl) h
def W.pH (s:ak) (v:Int) (w:World) (Q:Value→World→Prop):Prop:=∃ (dx:Int→World→Prop) (eJ:Int→World→Nat),dx 0 w∧∀ (aX:Int) (a_:World),dx aX a_→aA (decide (aX<(s.len:Int))) (∃a5:
 Addr,s.a=some a5∧bK aX s.len∧aE a_ (a5.add (Int.toNat aX*1)) fun n6=>aA (v==n6) (Q (.int .i64 aX) a_) (dx (aK (aX+1)) a_∧eJ (aK (aX+1)) a_<eJ aX a_)) (Q (.int .i64 (-1)) a_)
def A.pH:bh:=kt
theorem W.OK (s:ak) (v:Int) (w:World) (Q:Value→World→Prop) (h:W.pH s v w Q):aN Tryz.prog F.pH #[.slice s.a s.len s.cap, .int .i64 v] w Q:=okF A.pH Tryz.func151 (by kernel_rfl) (by kernel_rfl) h
def W.q5 (s:ak) (f:iO) (w:World) (Q:Value→World→Prop):Prop:=∃ (dx:Int→World→Prop) (eJ:Int→World→Nat),dx 0 w∧∀ (aX:Int) (a_:World),dx aX a_→aA (decide (aX<(s.len:Int))) (∃a5
 :Addr,s.a=some a5∧bK aX s.len∧cU a_ (a5.add (Int.toNat aX*1)) fun n6=>o1 Tryz.prog f.f∧Calls Tryz.prog f.f (f.pre++ #[.int .u8 n6]++f.cap) a_ fun qG cy=>∃g5:Bool,qG= .returned (.bool g5)∧aA g5 (Q (.int .i64
 aX) cy) (dx (aK (aX+1)) cy∧eJ (aK (aX+1)) cy<eJ aX a_)) (Q (.int .i64 (-1)) a_)
def A.q5:bh:=kt
theorem W.Np (s:ak) (f:iO) (w:World) (Q:Value→World→Prop) (h:W.q5 s f w Q):aN Tryz.prog F.q5 #[.slice s.a s.len s.cap, .func (.func f.f) f.pre f.cap] w Q:=okF A.q5 Tryz.func153 (by kernel_rfl) (by kernel_rfl) h
def W.pC (s:ak) (w:World) (Q:Value→World→Prop):Prop:=aA (Option.isNone s.a) (Q (.slice none 0 0) w) (aG (w.alloc (.cells #[] aj.uint8)) fun ae=>∃s2:ak,∃bM:World,Sem.run Tryz.prog
 (Builtin.append_ #[aj.u4,aj.u4] aj.u4 #[.slice (some (ah w)) 0 0, .slice s.a s.len s.cap]) ae= .ok (.slice s2.a s2.len s2.cap) bM∧Q (.slice s2.a s2.len s2.cap) bM)
def A.pC:bh:=fT
theorem W.Oe (s:ak) (w:World) (Q:Value→World→Prop) (h:W.pC s w Q):aN Tryz.prog F.pC #[.slice s.a s.len s.cap] w Q:=okF A.pC Tryz.func164 (by kernel_rfl) (by kernel_rfl) h
def W.mq (a:ak) (b:ak) (w:World) (Q:Value→World→Prop):Prop:=∃s1:ByteArray,∃av:World,Sem.run Tryz.prog (convert aj.cf aj.string (.slice a.a a.len a.cap)) w= .ok (.string s1) av∧∃cl:ByteArray,∃a_
 :World,Sem.run Tryz.prog (convert aj.cf aj.string (.slice b.a b.len b.cap)) av= .ok (.string cl) a_∧Q (.bool (ByteArray.toList s1==ByteArray.toList cl)) a_
def A.mq:bh:=(.s .r (.s .r .l))
theorem W.Lr (a:ak) (b:ak) (w:World) (Q:Value→World→Prop) (h:W.mq a b w Q):aN Tryz.prog F.mq #[.slice a.a a.len a.cap, .slice b.a b.len b.cap] w Q:=okF A.mq Tryz.func194 (by kernel_rfl) (by kernel_rfl) h
end
section
set_option maxRecDepth 100000
def W.o0 (s:ak) (f:iO) (w:World) (Q:Value→World→Prop):Prop:=bN F.qL #[.slice s.a s.len s.cap, .func (.func f.f) f.pre f.cap] w fun aX ae=>Q (.bool
 (decide (aX≥0))) ae
def A.o0:bh:=(.s .r (.s .r .l))
theorem W.Ly (s:ak) (f:iO) (w:World) (Q:Value→World→Prop) (h:W.o0 s f w Q):aN Tryz.prog F.o0 #[.slice s.a s.len s.cap, .func (.func f.f) f.pre f.cap] w Q:=okF A.o0 Tryz.func213 (by kernel_rfl) (by kernel_rfl) h
def W.o2 (s:ak) (f:iO) (w:World) (Q:Value→World→Prop):Prop:=bN F.qM #[.slice s.a s.len s.cap, .func (.func f.f) f.pre f.cap] w fun aX ae=>Q (.bool (decide (aX≥0))) ae
def A.o2:bh:=(.s .r (.s .r .l))
theorem W.LC (s:ak) (f:iO) (w:World) (Q:Value→World→Prop) (h:W.o2 s f w Q):aN Tryz.prog F.o2 #[.slice s.a s.len s.cap, .func (.func f.f) f.pre f.cap] w Q:=okF A.o2 Tryz.func215 (by kernel_rfl) (by kernel_rfl) h
def W.qL (s:ak) (f:iO) (w:World) (Q:Value→World→Prop):Prop:=∃ (dx:Int→World→Prop) (eJ:Int→World→Nat),dx 0 w∧∀ (aX:Int) (a_:World),dx aX a_→aA (decide (aX<(s.len:Int)))
 (∃a5:Addr,s.a=some a5∧bK aX s.len∧aW a_ (a5.add (Int.toNat aX*1)) fun dp=>o1 Tryz.prog f.f∧Calls Tryz.prog f.f (f.pre++ #[.slice dp.a dp.len dp.cap]++f.cap) a_ fun qG cy=>∃g5:Bool,qG= .returned (.bool g5)∧
 aA g5 (Q (.int .i64 aX) cy) (dx (aK (aX+1)) cy∧eJ (aK (aX+1)) cy<eJ aX a_)) (Q (.int .i64 (-1)) a_)
def A.qL:bh:=kt
theorem W.Lz (s:ak) (f:iO) (w:World) (Q:Value→World→Prop) (h:W.qL s f w Q):aN Tryz.prog F.qL #[.slice s.a s.len s.cap, .func (.func f.f) f.pre f.cap] w Q:=okF A.qL Tryz.func237 (by kernel_rfl) (by kernel_rfl) h
def W.qM (s:ak) (f:iO) (w:World) (Q:Value→World→Prop):Prop:=∃ (dx:Int→World→Prop) (eJ:Int→World→Nat),dx 0 w∧∀ (aX:Int) (a_:World),dx aX a_→aA (decide (aX<(s.len:Int))) (∃a5:
 Addr,s.a=some a5∧bK aX s.len∧aE a_ (a5.add (Int.toNat aX*1)) fun n6=>o1 Tryz.prog f.f∧Calls Tryz.prog f.f (f.pre++ #[.int .i64 n6]++f.cap) a_ fun qG cy=>∃g5:Bool,qG= .returned (.bool g5)∧aA g5 (Q (.int .i64
 aX) cy) (dx (aK (aX+1)) cy∧eJ (aK (aX+1)) cy<eJ aX a_)) (Q (.int .i64 (-1)) a_)
def A.qM:bh:=kt
theorem W.LD (s:ak) (f:iO) (w:World) (Q:Value→World→Prop) (h:W.qM s f w Q):aN Tryz.prog F.qM #[.slice s.a s.len s.cap, .func (.func f.f) f.pre f.cap] w Q:=okF A.qM Tryz.func238 (by kernel_rfl) (by kernel_rfl) h
end
section
set_option maxRecDepth 100000
def W.kI (n:Int) (w:World) (Q:Value→World→Prop):Prop:=aA ((decide (n<16))||(decide (n>1600))) (Q (.tuple #[.pointer none, .int .i64 1]) w) (((0:Int)≤n∧n≤n∧n≤kB∧((256:Nat):Int)*n≤
 140737488355328)∧aG (w.alloc (.cells (gy Tryz.prog aj.fV (Int.toNat n)) aj.fV)) fun ae=>∃vo:Option Nat,∃bM:World,Sem.run Tryz.prog (Instr.makeMap aj.lB none) ae= .ok (.map vo) bM∧∃fO:
 Array Value,Sem.run Tryz.prog (Instr.build aj.xQ #[(1, .slice (some (ah w)) (Int.toNat n) (Int.toNat n)),(2, .map vo)]) bM= .ok (.agg fO) bM∧aG (bM.alloc (.cells fO aj.xQ)) fun aR=>∃fa:Addr,(some (ah bM):Option
 Addr)=some fa∧cL F.pj #[.pointer (some fa)] aR fun cy=>Q (.tuple #[.pointer (some (ah bM)), .int .i64 0]) cy)
def A.kI:bh:=(.s .r (.s (.s (.dI [.run, .run, .run, .pure 2]) (.c (.s .r .l) .l)) a4))
theorem W.MR (n:Int) (w:World) (Q:Value→World→Prop) (h:W.kI n w Q):aN Tryz.prog F.kI #[.int .i64 n] w Q:=okF A.kI Tryz.func12 (by kernel_rfl) (by kernel_rfl) h
def W.nM (d:Option Addr) (i:Int) (b:ak) (w:World) (Q:Value→World→Prop):Prop:=b1 F.nJ #[.pointer d, .int .i64 i] w fun eR ae=>aA ((!eR)||((b.len:Int) !=256)) (Q (.int .i64 1) ae) (∃a4:Addr,
 d=some a4∧b1 F.mF #[.pointer (some a4), .int .i64 2] ae fun fy aR=>aA fy (Q (.int .i64 3) aR) (aG (aR.drew) fun bC=>∃l_:Nat→Prop,∃ku:Addr,d=some ku∧¬l_ (ku.add 5).block∧∃wy:Option Nat,bC.cell?
 (ku.add 5)=some (.map wy)∧∃tM:Addr,d=some tM∧¬l_ (tM.add 5).block∧∃CS:Option Nat,bC.cell? (tM.add 5)=some (.map CS)∧256≤b.len∧∃CT:Addr,b.a=some CT∧¬l_ CT.block∧∃CU:List Value,bR bC
 CT 0 256=some CU∧(∃ef:ak,∃ey:World,Sem.run Tryz.prog (Instr.lookup aj.lB (.map CS) (.int .i64 i) false) bC= .ok (.slice ef.a ef.len ef.cap) ey∧aq l_ bC ey∧∃hT:ak,∃cJ:World,Sem.run
 Tryz.prog (Instr.buildSlice aj.kb 1 #[(0, .agg CU.toArray)]) ey= .ok (.slice hT.a hT.len hT.cap) cJ∧aq l_ ey cJ∧AD ef hT cJ l_ wy i d Q)∧(∃dr:ak,∃b3:World,Sem.run Tryz.prog (Instr.buildSlice
 aj.kb 1 #[(0, .agg CU.toArray)]) bC= .ok (.slice dr.a dr.len dr.cap) b3∧aq l_ bC b3∧∃rV:ak,∃jv:World,Sem.run Tryz.prog (Instr.lookup aj.lB (.map CS) (.int .i64 i) false) b3= .ok (.slice
 rV.a rV.len rV.cap) jv∧aq l_ b3 jv∧AD rV dr jv l_ wy i d Q)))
def A.nM:bh:=(.s .r (.s (.cn (.s (.dI [.run, .run, .run, .run, .run, .pure 3]) (.c (.s .r .l) a7))) (.s (.eI 16 true ⟨[0,1,2,4,0,0,32,64,128,0,768,0,2048,4096,8192,17408,65535],[0,1,2,4,0,0,32,
 64,128,0,768,0,2048,4096,8192,17408,32792]⟩ [4194304,8388608,16777216,33554432,67108864,134217728,268435456,536870912,1073741824,2147483648,4294967296,8589934592,17179869184,34359738368,68719476736,137438953472,0]
 [1,4194304,8388608,16777216,2,1,134217728,268435456,536870912,2,3221225472,4,8589934592,17179869184,34359738368,73014444032,137539616768] (.take 0 (.take 1 (.take 2 (.take 3 (.take 4 (.take 5 (.take 6 (.take 7 (.take 8
 (.take 9 (.take 11 (.take 12 (.take 13 (.two 10 (.e_ 14 (.e_ 15 (.tail [.run]))) 14 (.e_ 10 (.e_ 15 (.tail [.run])))))))))))))))))) (.s .r (.s .r .l)))))
theorem W.MH (d:Option Addr) (i:Int) (b:ak) (w:World) (Q:Value→World→Prop) (h:W.nM d i b w Q):aN Tryz.prog F.nM #[.pointer d, .int .i64 i, .slice b.a b.len b.cap] w Q:=okF A.nM Tryz.func15 (by kernel_rfl) (by kernel_rfl) h
def W.ij (d:Option Addr) (w:World) (Q:Value→World→Prop):Prop:=aG (w.alloc gA) fun ae=>aA (Option.isNone d) (∃cL:Array Value,Sem.run Tryz.prog (Instr.build aj.hP #[]) ae= .ok (.agg cL) ae∧cd ae (ah w)
 (Array.toList cL)∧Array.size cL=10∧aG (setCells ae (ah w) 0 (Array.toList cL)) fun bM=>∃uI:List Value,bR bM (ah w) 0 10=some uI∧Q (.tuple #[.agg uI.toArray, .int .i64 1]) bM) (∃I_:Option Nat,∃bq:World,Sem.run
 Tryz.prog (Instr.makeMap aj.pK none) ae= .ok (.map I_) bq∧∃b8:Array Value,Sem.run Tryz.prog (Instr.build aj.sN #[(2, .map I_)]) bq= .ok (.agg b8) bq∧aG (bq.alloc (.cells b8 aj.sN)) fun bC=>bN
 F.lC #[.pointer d] bC fun n11 bF=>∃ (CV:Int→World→Prop) (Ja:Int→World→Nat),CV 0 bF∧∀ (n14:Int) (cY:World),CV n14 cY→aA (decide (n14<n11)) (fO F.pe #[.pointer d, .int .i64 n14] cY fun
 hT n19 bH=>aA (n19 !=0) (∃zq:Array Value,Sem.run Tryz.prog (Instr.build aj.hP #[]) bH= .ok (.agg zq) bH∧cd bH (ah w) (Array.toList zq)∧Array.size zq=10∧aG (setCells bH (ah w) 0 (Array.toList zq)) fun
 eu=>∃Jb:List Value,bR eu (ah w) 0 10=some Jb∧Q (.tuple #[.agg Jb.toArray, .int .i64 n19]) eu) (∃a23:Addr,(some (ah bq):Option Addr)=some a23∧aW bH (a23.add 10) fun nn=>aG (bH.alloc (.cells #[.slice hT.a
 hT.len hT.cap] aj.cf)) fun cP=>∃f_:ak,∃cM:World,Sem.run Tryz.prog (Builtin.append_ #[aj.fJ,aj.fJ] aj.fJ #[.slice nn.a nn.len nn.cap, .slice (some (ah bH)) 1 1]) cP= .ok (.slice f_.a
 f_.len f_.cap) cM∧∃a28:Addr,(some (ah bq):Option Addr)=some a28∧st cM (a28.add 10) (.slice f_.a f_.len f_.cap) fun ej=>CV (aK (n14+1)) ej∧Ja (aK (n14+1)) ej<Ja n14 cY)) (∃wz:Addr,(some (ah bq):
 Option Addr)=some wz∧st cY (wz.add 4) (.int .i64 (-1)) fun cN=>aG (cN.alloc fc) fun ew=>∃ (CW:Int→World→Prop) (Jc:Int→World→Nat),CW 0 ew∧∀ (n35:Int) (cX:World),CW n35 cX→aA (decide (n35<2)) (bZ
 (fun l9:World→Prop=>kc F.pt #[.pointer (some (ah bq)), .int .i64 n35] cX fun n40 n41 mX zn zo oD qf tF eT=>aG (eT.alloc fc) fun oa=>cd oa (ah eT) [.int .i64 n40, .int .i64 n41, .int .i64 mX, .int
 .u64 zn, .int .u64 zo, .int .i64 oD]∧(6:Nat)=6∧aG (setCells oa (ah eT) 0 [.int .i64 n40, .int .i64 n41, .int .i64 mX, .int .u64 zn, .int .u64 zo, .int .i64 oD]) fun pn=>aG (pn.drew) fun wA=>∃Vv:Nat→Prop,∃Jd
 :Addr,(some (ah bq):Option Addr)=some Jd∧((0:Int)≤n35∧n35<((2:Nat):Int))∧∃a53:Addr,(some (ah bq):Option Addr)=some a53∧st wA (Addr.add Jd (Int.toNat n35*1)) (.int .i64 tF) fun iH=>((0:Int)≤n35∧
 n35<((2:Nat):Int))∧st iH (Addr.add (a53.add 2) (Int.toNat n35*1)) (.int .u64 qf) fun e2=>aG (e2.drew) fun gq=>aA (tF==2) (∃a57:Addr,(some (ah bq):Option Addr)=some a57∧¬False∧aE gq (a57.add 4) fun CX=>
 aA (decide (CX<0)) (aA true (vq gq eT bq n35 cN l9) (l9 gq)) (∃wB:Addr,(some (ah bq):Option Addr)=some wB∧¬False∧aE gq (wB.add 4) fun rW=>∃Je:Addr,(some (ah bq):Option Addr)=some Je∧((0:Int)≤rW
 ∧rW<((2:Nat):Int))∧¬False∧bE gq (Addr.add (Je.add 2) (Int.toNat rW*1)) fun CY=>aA (decide (qf>CY)) (vq gq eT bq n35 cN l9) (l9 gq))) (aA false (vq gq eT bq n35 cN l9) (l9 gq))) (fun Jf=>CW (aK (n35+
 1)) Jf∧Jc (aK (n35+1)) Jf<Jc n35 cX)) (bZ (fun Jg:World→Prop=>∃Jh:Addr,(some (ah bq):Option Addr)=some Jh∧aE cX (Jh.add 4) fun zr=>aA (decide (zr≥0)) (bZ (fun Ji:World→Prop=>aE cX (Addr.add (ah
 cN) 1) fun zt=>aA (decide (zt>0)) (aE cX (ah cN) fun zu=>aE cX (Addr.add (ah cN) 1) fun CZ=>cL F.pU #[.pointer (some (ah bq)), .int .i64 zu, .int .i64 CZ] cX fun kh=>Ji kh) (Ji cX)) (fun
 Jj=>aE Jj (Addr.add (ah cN) 2) fun C0=>cL F.pL #[.pointer (some (ah bq)), .int .i64 C0] Jj fun vy=>Jg vy)) (Jg cX)) (fun C1=>∃vx:Addr,(some (ah bq):Option Addr)=some vx∧∃oc:List
 Value,bR C1 vx 0 10=some oc∧cd C1 (ah w) (Array.toList oc.toArray)∧Array.size oc.toArray=10∧aG (setCells C1 (ah w) 0 (Array.toList oc.toArray)) fun rn=>∃s3:List Value,bR rn (ah w) 0 10=
 some s3∧Q (.tuple #[.agg s3.toArray, .int .i64 0]) rn))))
def A.ij:bh:=(.s .r (.s a7 (.s .r (.s (.s .r (.cn (.loop [(21,(.int .i64))] [0,2,4,20] (.s .r (.s (.c .l .l) (.s (.cn (.s .r (.s .r (.s a7 .r)))) .r)))))) (.s .r (.s .r (.s (.s .r (.cn (.loop [(49,(.int .i64))] [2,4,8]
 (.s .r (.s (.c .l .l) (.s (.jU [] [2,4,8,49] (.cn (.s .r (.s .r (.s (.eI 14 true ⟨[0,0,0,0,0,0,1,64,128,275,531,4,2048,4096,10239,18431],[0,0,0,0,0,0,1,64,128,258,528,4,2048,4096,8200,16416]⟩
 [576460752303423488,1152921504606846976,2305843009213693952,4611686018427387904,9223372036854775808,18446744073709551616,36893488147419103232,73786976294838206464,147573952589676412928,295147905179352825856,0,
 590295810358705651712,1180591620717411303424,2361183241434822606848,4722366482869645213696,0] [16,512,16,512,4096,2048,576460752303423488,36893488147419103232,73786976294838206464,148726874094283259904,304371277216207601664,
 2305843009213693952,590295810358705651712,1180591620717411303424,2365794927453249994752,4740813226943354765312] (.take 0 (.take 1 (.take 2 (.take 3 (.take 4 (.take 5 (.take 6 (.take 7 (.take 8 (.take 9 (.take 11 (.take 12 (.take 13
 (.out 10 false (.tail [.run, .run])))))))))))))))) (.s (.eI 22 false ⟨[0,1,2,4,12,20,36,68,132,260,512,512,512,4608,8704,16896,33280,2560,131584,262656,590336,1049088,2098688,4194820,8388612],[0,1,2,4,12,20,
 36,68,132,260,512,512,512,4608,8704,16896,33280,2560,131584,262656,590336,1049088,2098688,4194820,8388612]⟩ [9444732965739290427392,18889465931478580854784,37778931862957161709568,75557863725914323419136,
 151115727451828646838272,302231454903657293676544,604462909807314587353088,1208925819614629174706176,2417851639229258349412352,4835703278458516698824704,9671406556917033397649408,19342813113834066795298816,
 38685626227668133590597632,77371252455336267181195264,154742504910672534362390528,309485009821345068724781056,618970019642690137449562112,1237940039285380274899124224,2475880078570760549798248448,4951760157141521099596496896,
 9903520314283042199192993792,19807040628566084398385987584,39614081257132168796771975168,79228162514264337593543950336,158456325028528675187087900672] [4096,9444732965739290427392,18889465931478580854784,37778931862957161709584,
 113336795588871485128704,188894659314785808547840,340010386766614455386112,642241841670271749062656,1246704751477586336415744,2455630571092215511121920,4835703278458516698826752,4835703278458516698824720,4835703278458516698824720,
 43521329506126650289422336,82206955733794783880019968,159578208189131051061215232,314320713099803585423605760,24178516392292583494123520,1242775742563838791597948928,2480715781849219066497073152,5575565880062669753744883712,
 9908356017561500715891818496,19821547738401459948482461696,39618954739342490270632509440,79228200293196200550705659904] (.take 0 (.take 1 (.take 2 (.sp 75 (.take 3 (.take 4 (.take 5 (.take 6 (.take 7 (.take 8 (.take 9 (.sp 82 (.take 10
 (.take 11 (.take 12 (.take 13 (.take 14 (.take 15 (.take 16 (.take 17 (.take 18 (.take 19 (.take 20 (.take 21 (.tail [.run, .run, .run]))))))))))))) (.take 10 (.take 11 (.take 12 (.take 13 (.take 14 (.take 15 (.take 16 (.take 17 (.take 18
 (.take 19 (.take 20 (.take 21 (.tail [.run, .run, .run]))))))))))))))))))))) (.take 3 (.take 4 (.take 5 (.take 6 (.take 7 (.take 8 (.take 9 (.take 10 (.take 11 (.take 12 (.take 13 (.take 14 (.take 15 (.take 16 (.take 17 (.take 18 (.take 19
 (.take 20 (.take 21 (.tail [.run, .run, .run]))))))))))))))))))))))))) (.c (.eI 7 true ⟨[0,0,0,3,11,19,35,127],[0,0,0,1,8,16,34,4]⟩ [316912650057057350374175801344,633825300114114700748351602688,
 1267650600228229401496703205376,2535301200456458802993406410752,5070602400912917605986812821504,10141204801825835211973625643008,0,0] [16,512,1024,316912650057057350374175801344,2535301200456458802993406410752,
 5070602400912917605986812821504,10775030101939949912721977245696,1267650600228229401496703205632] (.take 0 (.take 1 (.take 2 (.take 3 (.take 4 (.take 5 (.e_ 6 (.tail [.run]))))))))) .l))))))) .r)))))) (.s (.jU [] [2,4] (.s .r (.c (.s
 (.jU [] [2,4,8] (.s .r (.c .r .l))) .r) .l))) (.s .r .l)))))))))
theorem W.GA (d:Option Addr) (w:World) (Q:Value→World→Prop) (h:W.ij d w Q):aN Tryz.prog F.ij #[.pointer d] w Q:=okF A.ij Tryz.func16 (by kernel_rfl) (by kernel_rfl) h
def W.pk (d:Option Addr) (fD:Int) (after:Int) (w:World) (Q:Value→World→Prop):Prop:=aA ((((Option.isNone d)||(decide (fD<1)))||(decide (fD>3)))||(decide (after<0))) (Q (.int .i64 1) w) (∃a7:
 Addr,d=some a7∧((0:Int)≤fD∧fD<((4:Nat):Int))∧st w (Addr.add a7 (Int.toNat fD*1)) (.int .i64 after) fun av=>Q (.int .i64 0) av)
def A.pk:bh:=(.s .r (.s (.s (.dI [.run, .run, .run, .pure 2, .run, .run, .run, .pure 2, .run, .run, .run, .pure 2]) (.c (.s .r .l) .l)) (.s .r (.s .r .l))))
theorem W.MT (d:Option Addr) (fD:Int) (after:Int) (w:World) (Q:Value→World→Prop) (h:W.pk d fD after w Q):aN Tryz.prog F.pk #[.pointer d, .int .i64 fD, .int .i64 after] w Q:=okF A.pk Tryz.func20 (by kernel_rfl) (by kernel_rfl) h
def W.m8 (d:Option Addr) (jV:Int) (jW:Int) (jX:Int) (w:World) (Q:Value→World→Prop):Prop:=aG (w.alloc (.cells #[.int .i64 jV, .int .i64 jW, .int .u64 jX] aj.zm)) fun ae=>
 aE ae (ah w) fun cH=>aE ae (Addr.add (ah w) 1) fun aX=>bE ae (Addr.add (ah w) 2) fun cc=>b1 F.m4 #[.pointer d, .agg #[.int .i64 cH, .int .i64 aX, .int .u64 cc]] ae fun fy aR=>aA (!fy) (Q (.tuple #[.pointer none, .int .i64
 1]) aR) (bN F.lC #[.pointer d] aR fun n10 bC=>hJ F.mO #[.int .i64 n10, .int .i64 3] bC fun Jk n14 b5=>aA (n14 !=0) (Q (.tuple #[.pointer none, .int .i64 n14]) b5) (b8 F.pE #[.pointer Jk] b5 fun
 ct cY=>fO F.ny #[.int .i64 2, .agg #[.int .i64 4, .int .u64 1, .slice ct.a ct.len ct.cap]] cY fun fo n21 cp=>aA (n21 !=0) (Q (.tuple #[.pointer none, .int .i64 n21]) cp) (((0:Int)≤256∧(256:Int)≤256∧(256:
 Int)≤kB∧((1:Nat):Int)*256≤140737488355328)∧aG (cp.alloc (.cells (gy Tryz.prog aj.uint8 (Int.toNat 256)) aj.uint8)) fun c_=>∃Jl:Array Value,Sem.run Tryz.prog (Instr.build aj.S3 #[(0, .slice (some (ah cp))
 (Int.toNat 256) (Int.toNat 256)),(1, .slice (some (ah cp)) (Int.toNat 256) (Int.toNat 256)),(2, .slice fo.a fo.len fo.cap)]) c_= .ok (.agg Jl) c_∧∃ (C2:Int→World→Prop) (Jm:Int→World→Nat),C2 0 c_∧∀ (n26:Int)
 (cM:World),C2 n26 cM→aA (decide (n26<3)) (((0:Int)≤n26∧n26<((3:Nat):Int))∧∃eH:ak,cellAt Jl (Int.toNat n26*1)=some (.slice eH.a eH.len eH.cap)∧bN F.nM #[.pointer d, .int .i64 n26, .slice
 eH.a eH.len eH.cap] cM fun n31 ej=>aA (n31 !=0) (Q (.tuple #[.pointer none, .int .i64 n31]) ej) (C2 (aK (n26+1)) ej∧Jm (aK (n26+1)) ej<Jm n26 cM)) (bN F.oe #[.pointer d] cM fun n34 ew=>aA (n34 !=0)
 (Q (.tuple #[.pointer none, .int .i64 n34]) ew) (aG (ew.alloc fc) fun rv=>cd rv (ah ew) [.int .i64 0, .int .i64 0, .int .i64 2, .int .u64 0, .int .u64 0, .int .i64 0]∧(6:Nat)=6∧aG (setCells rv (ah ew) 0 [.int .i64 0,
 .int .i64 0, .int .i64 2, .int .u64 0, .int .u64 0, .int .i64 0]) fun cX=>aE cX (ah ew) fun n37=>aE cX (Addr.add (ah ew) 1) fun n38=>aE cX (Addr.add (ah ew) 2) fun n39=>bE cX (Addr.add (ah ew) 3) fun n40=>bE cX (Addr.add
 (ah ew) 4) fun n41=>aE cX (Addr.add (ah ew) 5) fun mX=>bN F.m6 #[.pointer d, .agg #[.int .i64 n37, .int .i64 n38, .int .i64 n39, .int .u64 n40, .int .u64 n41, .int .i64 mX], .int .u64 1] cX fun oD dF=>aA (oD !=0)
 (Q (.tuple #[.pointer none, .int .i64 oD]) dF) (aE dF (ah w) fun qf=>aE dF (Addr.add (ah w) 1) fun tF=>bE dF (Addr.add (ah w) 2) fun wx=>aE dF (ah ew) fun C3=>aE dF (Addr.add (ah ew) 1) fun ma=>aE dF (Addr.add (ah
 ew) 2) fun C4=>bE dF (Addr.add (ah ew) 3) fun C5=>bE dF (Addr.add (ah ew) 4) fun S9=>aE dF (Addr.add (ah ew) 5) fun C6=>hJ F.m7 #[.pointer d, .agg #[.int .i64 qf, .int .i64 tF, .int .u64 wx], .agg #[.int .i64
 C3, .int .i64 ma, .int .i64 C4, .int .u64 C5, .int .u64 S9, .int .i64 C6], .int .u64 1, .pointer Jk] dF fun S_ CX e2=>Q (.tuple #[.pointer S_, .int .i64 CX]) e2))))))
def A.m8:bh:=(.s .r (.s a7 (.s .r (.s a7 (.s .r (.s a7 (.s .r (.s (.s .r (.cn (.loop [(44,(.int .i64))] [0,3,6,43] (.s .r (.s (.c .l .l) (.s (.cn (.s .r (.s .r a7))) .r)))))) (.s (.s .r a7) (.s .r (.s (.s .r a7) (.s .r
 .l))))))))))))
theorem W.Q7 (d:Option Addr) (jV:Int) (jW:Int) (jX:Int) (w:World) (Q:Value→World→Prop) (h:W.m8 d jV jW jX w Q):aN Tryz.prog F.m8 #[.pointer d, .agg #[.int .i64 jV, .int .i64 jW, .int .u64 jX]] w Q:=okF A.m8 Tryz.func21 (by kernel_rfl) (by kernel_rfl) h
def W.kV (l:Array Value) (w:World) (Q:Value→World→Prop):Prop:=aG (w.alloc (.cells l aj.hP)) fun ae=>aE ae (Addr.add (ah w) 4) fun cH=>bZ (fun kg:Bool→World→Prop=>aA (decide (cH≥0)) (b1
 F.pI #[.slice (b7 (some (ah w)) 1 0 2) (2-0) (2-0), .int .i64 1] ae fun gY a_=>kg (!gY) a_) (kg false ae)) (fun (fy:Bool) bC=>bZ (fun wC:Bool→World→Prop=>aA fy (aE bC (Addr.add (ah w) 7) fun n10
 =>wC (n10==0) bC) (wC false bC)) (fun (oF:Bool) bm=>bZ (fun wD:Bool→World→Prop=>aA oF (aE bm (Addr.add (ah w) 8) fun n14=>wD (n14==0) bm) (wD false bm)) (fun (C7:Bool) bH=>bZ (fun Jn:Bool→World→Prop
 =>aA C7 (aE bH (Addr.add (ah w) 9) fun n18=>Jn (n18==0) bH) (Jn false bH)) (fun (Ta:Bool) na=>Q (.bool Ta) na))))
def A.kV:bh:=(.s .r (.s (.dI [.run, .run, .run, .run, .split 4, .run, .run, .run, .run, .run, .split 3, .run, .run, .run, .run, .split 3, .run, .run, .run, .run, .split 3]) .l))
theorem W.Rs (l:Array Value) (w:World) (Q:Value→World→Prop) (h:W.kV l w Q):aN Tryz.prog F.kV #[.agg l] w Q:=okF A.kV Tryz.func52 (by kernel_rfl) (by kernel_rfl) h
def W.pj (f:Option Addr) (w:World) (Q:Value→World→Prop):Prop:=∃ (dx:Int→World→Prop) (eJ:Int→World→Nat),dx 0 w∧∀ (aX:Int) (a_:World),dx aX a_→aA (decide (aX<4)) (∃a5:Addr,f=some a5∧
 ((0:Int)≤aX∧aX<((4:Nat):Int))∧st a_ (Addr.add a5 (Int.toNat aX*1)) (.int .i64 (-1)) fun bq=>dx (aK (aX+1)) bq∧eJ (aK (aX+1)) bq<eJ aX a_) (Q (.tuple #[]) a_)
def A.pj:bh:=(.s .r (.cn (.loop [(3,(.int .i64))] [0] bB)))
theorem W.MQ (f:Option Addr) (w:World) (Q:Value→World→Prop) (h:W.pj f w Q):aN Tryz.prog F.pj #[.pointer f] w Q:=okF A.pj Tryz.func53 (by kernel_rfl) (by kernel_rfl) h
def W.nJ (d:Option Addr) (i:Int) (w:World) (Q:Value→World→Prop):Prop:=bZ (fun eN:Bool→World→Prop=>aA ((!(Option.isNone d))&&(decide (i≥0))) (∃bB:Addr,d=some bB∧aW w (bB.add 4) fun cl=>eN
 (decide (i<(cl.len:Int))) w) (eN false w)) (fun (eh:Bool) aR=>Q (.bool eh) aR)
def A.nJ:bh:=(.s .r (.s (.dI [.run, .run, .run, .pure 2, .run, .run, .run, .split 7]) .l))
theorem W.Mu (d:Option Addr) (i:Int) (w:World) (Q:Value→World→Prop) (h:W.nJ d i w Q):aN Tryz.prog F.nJ #[.pointer d, .int .i64 i] w Q:=okF A.nJ Tryz.func57 (by kernel_rfl) (by kernel_rfl) h
def W.mF (f:Option Addr) (fD:Int) (w:World) (Q:Value→World→Prop):Prop:=∃a7:Addr,f=some a7∧((0:Int)≤fD∧fD<((4:Nat):Int))∧aE w (Addr.add a7 (Int.toNat fD*1)) fun cH=>aA (cH==
 (-1)) (Q (.bool false) w) (aA (cH==0) (∃a3:Addr,f=some a3∧((0:Int)≤fD∧fD<((4:Nat):Int))∧st w (Addr.add a3 (Int.toNat fD*1)) (.int .i64 (-1)) fun a_=>Q (.bool true) a_) (aG (w.drew) fun aR=>∃fa:Addr,f
 =some fa∧((0:Int)≤fD∧fD<((4:Nat):Int))∧¬False∧aE aR (Addr.add fa (Int.toNat fD*1)) fun n7=>∃fT:Addr,f=some fT∧((0:Int)≤fD∧fD<((4:Nat):Int))∧st aR (Addr.add fT (Int.toNat fD*1))
 (.int .i64 (aK (n7-1))) fun bF=>Q (.bool false) bF))
def A.mF:bh:=(.s .r (.s (.s .r (.cn (.s .r (.c (.s .r .l) (.s .r a5))))) (.s (.eI 7 false ⟨[0,0,1,6,8,16,1,127,191],[0,0,1,6,8,16,1,66,160]⟩ [262144,524288,1048576,2097152,4194304,8388608,16777216,
 33554432,0] [1,2,262144,1572864,2097152,4194304,262144,17301504,41943040] (.take 0 (.take 1 (.take 2 (.take 3 (.take 4 (.take 5 (.take 6 (.tail [.run, .run]))))))))) (.s .r .l))))
theorem W.Mw (f:Option Addr) (fD:Int) (w:World) (Q:Value→World→Prop) (h:W.mF f fD w Q):aN Tryz.prog F.mF #[.pointer f, .int .i64 fD] w Q:=okF A.mF Tryz.func58 (by kernel_rfl) (by kernel_rfl) h
def W.lC (d:Option Addr) (w:World) (Q:Value→World→Prop):Prop:=aA (Option.isNone d) (Q (.int .i64 0) w) (∃a7:Addr,d=some a7∧aW w (a7.add 4) fun s2=>Q (.int .i64 (s2.len:Int)) w)
def A.lC:bh:=fT
theorem W.Mt (d:Option Addr) (w:World) (Q:Value→World→Prop) (h:W.lC d w Q):aN Tryz.prog F.lC #[.pointer d] w Q:=okF A.lC Tryz.func59 (by kernel_rfl) (by kernel_rfl) h
def W.pe (d:Option Addr) (i:Int) (w:World) (Q:Value→World→Prop):Prop:=b1 F.nJ #[.pointer d, .int .i64 i] w fun eR ae=>aA (!eR) (Q (.tuple #[.slice none 0 0, .int .i64 1]) ae) (∃a4:Addr,d=some
 a4∧b1 F.mF #[.pointer (some a4), .int .i64 1] ae fun fy aR=>aA fy (Q (.tuple #[.slice none 0 0, .int .i64 3]) aR) (pf F.nK #[.pointer d, .int .i64 i] aR fun gQ bC=>aG (bC.alloc z3) fun b5=>cd b5 (ah
 bC) (Array.toList gQ)∧Array.size gQ=256∧aG (setCells b5 (ah bC) 0 (Array.toList gQ)) fun bm=>Q (.tuple #[.slice (b7 (some (ah bC)) 1 0 256) (256-0) (256-0), .int .i64 0]) bm))
def A.pe:bh:=(.s .r (.s (.cn (.s .r (.c (.s .r .l) a7))) (.s .r (.s .r .l))))
theorem W.MB (d:Option Addr) (i:Int) (w:World) (Q:Value→World→Prop) (h:W.pe d i w Q):aN Tryz.prog F.pe #[.pointer d, .int .i64 i] w Q:=okF A.pe Tryz.func60 (by kernel_rfl) (by kernel_rfl) h
def W.pt (l:Option Addr) (no:Int) (w:World) (Q:Value→World→Prop):Prop:=aG (w.alloc fc) fun ae=>∃bB:Addr,l=some bB∧aW ae (bB.add 10) fun cl=>∃a4:Addr,cl.a=some a4∧bK no cl.len∧aW ae
 (a4.add (Int.toNat no*1)) fun bQ=>b1 F.pr #[.slice bQ.a bQ.len bQ.cap, .func (.func F.lG) #[] #[]] ae fun rX bq=>aA (!rX) (cd bq (ah w) [.int .i64 0, .int .i64 0, .int .i64 0, .int
 .u64 0, .int .u64 0, .int .i64 0]∧(6:Nat)=6∧aG (setCells bq (ah w) 0 [.int .i64 0, .int .i64 0, .int .i64 0, .int .u64 0, .int .u64 0, .int .i64 0]) fun bF=>aE bF (ah w) fun n10=>aE bF (Addr.add (ah w) 1) fun n11=>aE bF
 (Addr.add (ah w) 2) fun n12=>bE bF (Addr.add (ah w) 3) fun n13=>bE bF (Addr.add (ah w) 4) fun n14=>aE bF (Addr.add (ah w) 5) fun n15=>Q (.tuple #[.agg #[.int .i64 n10, .int .i64 n11, .int .i64 n12, .int .u64 n13, .int .u64 n14, .int
 .i64 n15], .int .u64 0, .int .i64 0]) bF) (kc F.mN #[.int .i64 no, .slice bQ.a bQ.len bQ.cap] bq fun n18 n19 n20 n21 n22 n23 n24 n25 bH=>aG (bH.alloc fc) fun de=>cd de (ah bH) [.int .i64 n18, .int .i64 n19, .int
 .i64 n20, .int .u64 n21, .int .u64 n22, .int .i64 n23]∧(6:Nat)=6∧aG (setCells de (ah bH) 0 [.int .i64 n18, .int .i64 n19, .int .i64 n20, .int .u64 n21, .int .u64 n22, .int .i64 n23]) fun cM=>aG (cM.drew) fun b3=>aA (n25 !=
 0) (aA true (yb b3 w Q) (yc b3 bH w Q n24)) (¬False∧aE b3 (ah bH) fun C3=>∃Jo:Addr,l=some Jo∧¬False∧aW b3 (Jo.add 10) fun Tb=>aA (decide (C3≥(Tb.len:Int))) (aA true (yb b3 w Q) (yc b3 bH w Q n24)) (¬
 False∧aE b3 (Addr.add (ah bH) 2) fun C8=>∃Jp:Addr,l=some Jp∧¬False∧aW b3 (Jp.add 10) fun wE=>aA (decide (C8≥(wE.len:Int))) (yb b3 w Q) (yc b3 bH w Q n24))))
def A.pt:bh:=(.s .r (.s .r (.s a7 (.s .r (.s (.s (.eI 20 false ⟨[0,1,2,4,12,4,36,68,132,260,532,1028,2052,4096,12288,4096,36864,69632,135168,266240,544768,1052672],[0,1,2,4,12,4,36,68,132,
 260,532,1028,2048,4096,12288,4096,36864,69632,135168,266240,544768,1052672]⟩ [536870912,1073741824,2147483648,4294967296,8589934592,17179869184,34359738368,68719476736,137438953472,274877906944,549755813888,
 1099511627776,2199023255552,4398046511104,8796093022208,17592186044416,35184372088832,70368744177664,140737488355328,281474976710656,562949953421312,1125899906842624] [1024,536870912,1073741824,2147483904,6442450944,
 2147483649,19327352832,36507222016,70866960384,139586437120,285615325184,551903297536,1099511627776,2199023255808,6597069766656,2199023255553,19791209299968,37383395344384,72567767433216,142936511610880,292470092988416,
 565148976676864] (.take 0 (.take 1 (.take 2 (.sp 31 (.take 3 (.take 4 (.take 5 (.take 6 (.take 7 (.take 8 (.take 9 (.take 10 (.take 11 (.take 12 (.take 13 (.take 14 (.take 15 (.take 16 (.take 17 (.take 18 (.take 19 (.tail [.run,
 .run])))))))))))))))))) (.take 3 (.take 4 (.take 5 (.take 6 (.take 7 (.take 8 (.take 9 (.take 10 (.take 11 (.take 12 (.sp 41 (.take 13 (.take 14 (.take 15 (.take 16 (.take 17 (.take 18 (.take 19 (.tail [.run, .run])))))))) (.take 13 (.take
 14 (.take 15 (.take 16 (.take 17 (.take 18 (.take 19 (.tail [.run, .run])))))))))))))))))))))))) (.c (.s .r .l) .l)) (.s .r .l))))))
theorem W.Nt (l:Option Addr) (no:Int) (w:World) (Q:Value→World→Prop) (h:W.pt l no w Q):aN Tryz.prog F.pt #[.pointer l, .int .i64 no] w Q:=okF A.pt Tryz.func61 (by kernel_rfl) (by kernel_rfl) h
def W.pU (l:Option Addr) (root:Int) (bG:Int) (w:World) (Q:Value→World→Prop):Prop:=aG (w.alloc (.cells #[.int .i64 root, .int .i64 bG] aj.pT)) fun ae=>∃ (C9:ak→World→Prop) (Jq:ak→
 World→Nat),C9 ⟨(some (ah w)),1,1⟩ ae∧∀ (cE:ak) (aR:World),C9 cE aR→aA (decide ((cE.len:Int)>0)) (aG (aR.drew) fun bq=>∃Jr:Nat→Prop,∃fT:Addr,cE.a=some fT∧bK 0 cE.len∧¬Jr (fT.add (Int.toNat 0*2)).block∧
 aE bq (fT.add (Int.toNat 0*2)) fun n9=>∃ku:Addr,cE.a=some ku∧bK 0 cE.len∧¬Jr ((ku.add (Int.toNat 0*2)).add 1).block∧aE bq ((ku.add (Int.toNat 0*2)).add 1) fun n11=>b8 F.pQ #[.pointer l, .int .i64 n9,
 .int .i64 n11] bq fun c9 bm=>∃ (rY:ak→Int→World→Prop) (wF:ak→Int→World→Nat),rY cE 0 bm∧∀ (ct:ak) (n18:Int) (cJ:World),rY ct n18 cJ→aA (decide (n18<(c9.len:Int))) (∃tI:Addr,c9.a=some tI∧
 bK n18 c9.len∧aE cJ (tI.add (Int.toNat n18*1)) fun n21=>∃a22:Addr,ct.a=some a22∧bK 0 ct.len∧aE cJ ((a22.add (Int.toNat 0*2)).add 1) fun n23=>aG (cJ.alloc (.cells #[.int .i64 n21, .int .i64 (aK (n23-1))]
 aj.pT)) fun iq=>∃jl:ak,∃de:World,Sem.run Tryz.prog (Builtin.append_ #[aj.vl,aj.vl] aj.vl #[.slice ct.a ct.len ct.cap, .slice (some (ah cJ)) 1 1]) iq= .ok (.slice jl.a jl.len
 jl.cap) de∧rY jl (aK (n18+1)) de∧wF jl (aK (n18+1)) de<wF ct n18 cJ) (((0:Int)≤1∧1≤(ct.len:Int))∧C9 ⟨(b7 ct.a 2 (Int.toNat 1) ct.cap),(ct.len-(Int.toNat 1)),(ct.cap-(Int.toNat 1))⟩ cJ∧Jq ⟨(b7
 ct.a 2 (Int.toNat 1) ct.cap),(ct.len-(Int.toNat 1)),(ct.cap-(Int.toNat 1))⟩ cJ<Jq cE aR)) (Q (.tuple #[]) aR)
def A.pU:bh:=(.s .r (.cn (.loop [(6, .slice)] [0] (.s (.s .r (.c .l .l)) (.s (.cn (.s (.eI 12 true ⟨[0,0,2,4,8,0,32,64,128,273,512,0],[0,0,2,4,8,0,32,64,128,273,512,0]⟩ [262144,524288,1048576,
 2097152,4194304,8388608,16777216,33554432,67108864,134217728,268435456,536870912] [1,64,524288,1048576,2097152,64,8388608,16777216,33554432,71565312,134217728,0] (.take 0 (.take 1 (.take 2 (.take 3 (.take 4 (.take 5
 (.take 6 (.take 7 (.take 8 (.take 11 (.out 9 false (.take 10 .fin))))))))))))) (.cn (.loop [(6, .slice),(29,(.int .i64))] [0,27,28] bB)))) .r)))))
theorem W.PL (l:Option Addr) (root:Int) (bG:Int) (w:World) (Q:Value→World→Prop) (h:W.pU l root bG w Q):aN Tryz.prog F.pU #[.pointer l, .int .i64 root, .int .i64 bG] w Q:=okF A.pU Tryz.func62 (by kernel_rfl) (by kernel_rfl) h
def W.pL (l:Option Addr) (no:Int) (w:World) (Q:Value→World→Prop):Prop:=∃a7:Addr,l=some a7∧aW w (a7.add 10) fun s2=>∃a3:Addr,s2.a=some a3∧bK no s2.len∧aW w (a3.add (Int.toNat no*1)) fun cE
 =>mJ F.jB #[.int .i64 no, .slice cE.a cE.len cE.cap] w fun n7 n8 eZ n10 aR=>aG (aR.alloc z4) fun b5=>cd b5 (ah aR) [.int .i64 n7, .int .u64 n8, .slice eZ.a eZ.len eZ.cap]∧(3:Nat)=3∧aG (setCells b5 (ah aR) 0
 [.int .i64 n7, .int .u64 n8, .slice eZ.a eZ.len eZ.cap]) fun bm=>aG (bm.drew) fun fQ=>∃C_:Nat→Prop,¬C_ (Addr.add (ah aR) 2).block∧aW fQ (Addr.add (ah aR) 2) fun gb=>∃tN:Addr,l=some tN∧¬C_ (tN.add 10).block
 ∧aW fQ (tN.add 10) fun ct=>hJ F.lM #[.slice gb.a gb.len gb.cap, .int .i64 (ct.len:Int)] fQ fun sU n21 cp=>aq C_ fQ cp∧bZ (fun wG:Bool→World→Prop=>aA ((n10 !=0)||(n21 !=0)) (wG true cp) (aE cp (ah
 aR) fun n23=>wG (n23 !=4) cp)) (fun (wH:Bool) cP=>aA wH (∃a26:Addr,l=some a26∧aE cP (a26.add 9) fun n27=>∃a28:Addr,l=some a28∧st cP (a28.add 9) (.int .i64 (aK (n27+1))) fun ej=>Q (.tuple #[]) ej) (aG
 (cP.alloc (.cells #[.int .i64 no] aj.int)) fun jv=>∃wI:Addr,l=some wI∧aW jv (wI.add 12) fun cm=>∃sV:ak,∃cO:World,Sem.run Tryz.prog (Builtin.append_ #[aj.dD,aj.dD] aj.dD #[.slice (some (ah cP)) 1 1,
 .slice cm.a cm.len cm.cap]) jv= .ok (.slice sV.a sV.len sV.cap) cO∧∃ (Da:ak→Int→World→Prop) (Js:ak→Int→World→Nat),Da sV 0 cO∧∀ (ed:ak) (n38:Int) (iJ:World),Da ed n38 iJ→aA (decide (n38<2))
 (aG (iJ.alloc (.cells #[.int .i64 n38] aj.int)) fun oq=>∃gE:ak,∃gX:World,Sem.run Tryz.prog (Builtin.append_ #[aj.dD,aj.dD] aj.dD #[.slice ed.a ed.len ed.cap, .slice (some (ah iJ)) 1 1]) oq= .ok (.slice gE.a
 gE.len gE.cap) gX∧Da gE (aK (n38+1)) gX∧Js gE (aK (n38+1)) gX<Js ed n38 iJ) (cL F.FN #[.slice ed.a ed.len ed.cap] iJ fun dF=>b8 F.pv #[.slice ed.a ed.len ed.cap] dF
 fun kj sY=>∃ (Db:Int→World→Prop) (Jt:Int→World→Nat),Db 0 sY∧∀ (ma:Int) (n2:World),Db ma n2→aA (decide (ma<(kj.len:Int))) (bZ (fun Ju:World→Prop=>∃a53:Addr,kj.a=some a53∧bK ma kj.len∧
 aE n2 (a53.add (Int.toNat ma*1)) fun C6=>b1 F.pB #[.pointer sU, .int .i64 C6] n2 fun Tc e2=>aA (!Tc) (∃wJ:Addr,l=some wJ∧aE e2 (wJ.add 8) fun Td=>∃wK:Addr,l=some wK∧st e2 (wK.add 8)
 (.int .i64 (aK (Td+1))) fun x_=>Ju x_) (Ju e2)) (fun lQ=>Db (aK (ma+1)) lQ∧Jt (aK (ma+1)) lQ<Jt ma n2)) (aG (n2.drew) fun jN=>∃wL:Nat→Prop,∃rZ:Addr,l=some rZ∧¬wL (rZ.add 8).block∧aE
 jN (rZ.add 8) fun oE=>b8 F.pD #[.pointer sU] jN fun ve kL=>aq wL jN kL∧∃wB:Addr,l=some wB∧st kL (wB.add 7) (.int .i64 (aK ((ve.len:Int)-(aK ((kj.len:Int)-oE))))) fun fR=>Q (.tuple #[])
 fR))))
def A.pL:bh:=(.s .r (.s (.eI 12 true ⟨[0,1,0,4,8,16,32,66,128,256,256,1023,4095],[0,1,0,4,8,16,32,66,128,256,256,512,1024]⟩ [33554432,67108864,134217728,268435456,536870912,1073741824,
 2147483648,4294967296,16777216,8589934592,17179869184,64,128] [16,33554432,1,134217728,268435456,536870912,1073741824,2214592512,4294967296,16777216,16777216,8589934592,17179869184] (.take 0 (.take 1 (.take 2 (.take 3
 (.take 4 (.take 5 (.take 6 (.e_ 7 (.take 8 (.take 9 (.take 10 (.take 11 (.tail [.run])))))))))))))) (.s (.s (.dI [.run, .run, .run, .pure 2, .run, .run, .run, .split 3]) (.c (.s .r .l) .l)) (.s .r (.s (.s .r (.cn (.loop [(8, .slice),
 (62,(.int .i64))] [0,6] bB))) (.s .r (.s .r (.s (.s .r (.cn (.loop [(76,(.int .i64))] [0,6,8,74,75] (.s .r (.s (.c .l .l) (.s (.jU [] [0,6,8,74,75,76] (.cn (.s .r (.s .r (.c .r .l))))) .r)))))) (.eI 13 true ⟨[0,0,2,4,0,
 16,0,64,128,256,512,1056,2056,8191,16383,24575,40959],[0,0,2,4,0,16,0,64,128,256,512,1056,2056,1,8192,16384,36864]⟩ [19807040628566084398385987584,39614081257132168796771975168,79228162514264337593543950336,
 158456325028528675187087900672,316912650057057350374175801344,633825300114114700748351602688,1267650600228229401496703205376,2535301200456458802993406410752,5070602400912917605986812821504,10141204801825835211973625643008,
 20282409603651670423947251286016,40564819207303340847894502572032,81129638414606681695789005144064,162259276829213363391578010288128,324518553658426726783156020576256,649037107316853453566312041152512,0] [1,64,
 39614081257132168796771975168,79228162514264337593543950336,256,316912650057057350374175801344,1,1267650600228229401496703205376,2535301200456458802993406410752,5070602400912917605986812821504,10141204801825835211973625643008,
 20916234903765785124695602888704,40723275532331869523081590472704,19807040628566084398385987584,162259276829213363391578010288128,324518553658426726783156020576256,730166745731460135262101046296576] (.take 0 (.take 1 (.take 4 (.take 5
 (.take 6 (.take 7 (.take 8 (.take 9 (.take 10 (.take 11 (.e_ 2 (.take 3 (.take 12 (.tail [.run, .run, .run, .run])))))))))))))))))))))))
theorem W.OZ (l:Option Addr) (no:Int) (w:World) (Q:Value→World→Prop) (h:W.pL l no w Q):aN Tryz.prog F.pL #[.pointer l, .int .i64 no] w Q:=okF A.pL Tryz.func63 (by kernel_rfl) (by kernel_rfl) h
def W.m4 (d:Option Addr) (jV:Int) (jW:Int) (jX:Int) (w:World) (Q:Value→World→Prop):Prop:=aG (w.alloc (.cells #[.int .i64 jV, .int .i64 jW, .int .u64 jX] aj.zm)) fun ae=>
 bZ (fun gf:Bool→World→Prop=>aA (!(Option.isNone d)) (aE ae (ah w) fun aX=>gf (decide (aX≥8)) ae) (gf false ae)) (fun (eh:Bool) aR=>bZ (fun wM:Bool→World→Prop=>aA eh (aE aR (ah w) fun n7=>wM (decide (n7≤64)) aR)
 (wM false aR)) (fun (rX:Bool) bF=>bZ (fun Jv:Bool→World→Prop=>aA rX (aE bF (Addr.add (ah w) 1) fun n11=>Jv (decide (n11≥1)) bF) (Jv false bF)) (fun (Te:Bool) fQ=>bZ (fun Jw:Bool→World→Prop=>aA Te (aE fQ
 (Addr.add (ah w) 1) fun n15=>Jw (decide (n15≤1000)) fQ) (Jw false fQ)) (fun (Tf:Bool) ey=>bZ (fun Jx:Bool→World→Prop=>aA Tf (bE ey (Addr.add (ah w) 2) fun n19=>Jx (decide (n19≥1)) ey) (Jx false ey)) (fun
 (wN:Bool) eu=>bZ (fun wG:Bool→World→Prop=>aA wN (bE eu (Addr.add (ah w) 2) fun n23=>wG (decide (n23≤1048576)) eu) (wG false eu)) (fun (wH:Bool) cP=>Q (.bool wH) cP))))))
def A.m4:bh:=(.s .r (.s (.dI [.run, .run, .run, .split 3, .run, .run, .run, .run, .split 3, .run, .run, .run, .run, .split 3, .run, .run, .run, .run, .split 3, .run, .run, .run, .run, .split 3, .run, .run, .run, .run, .split
 3]) .l))
theorem W.QS (d:Option Addr) (jV:Int) (jW:Int) (jX:Int) (w:World) (Q:Value→World→Prop) (h:W.m4 d jV jW jX w Q):aN Tryz.prog F.m4 #[.pointer d, .agg #[.int .i64 jV, .int .i64 jW, .int .u64 jX]] w Q:=okF A.m4 Tryz.func69 (by kernel_rfl) (by kernel_rfl) h
def W.mO (n:Int) (first:Int) (w:World) (Q:Value→World→Prop):Prop:=b1 F.nX #[.int .i64 n] w fun eR ae=>aA (((!eR)||(decide (first<0)))||(decide (first>n))) (Q (.tuple #[.pointer none, .int .i64 1])
 ae) (bN F.nY #[.int .i64 n] ae fun n6 a_=>((0:Int)≤n6∧n6≤n6∧n6≤kB∧((1:Nat):Int)*n6≤140737488355328)∧aG (a_.alloc (.cells (gy Tryz.prog aj.uint8 (Int.toNat n6)) aj.uint8)) fun cy=>aG (cy.alloc (.cells
 #[.int .i64 n, .slice (some (ah a_)) (Int.toNat n6) (Int.toNat n6), .slice none 0 0] aj.lL)) fun bC=>∃ (nk:Int→World→Prop) (qg:Int→World→Nat),nk 0 bC∧∀ (n11:Int) (bm:World),nk n11 bm→aA (decide (n11<
 first)) (∃qh:Addr,(some (ah cy):Option Addr)=some qh∧aW bm (qh.add 1) fun c9=>cL F.pz #[.slice c9.a c9.len c9.cap, .int .i64 n11] bm fun cY=>nk (aK (n11+1)) cY∧qg (aK (n11+1)) cY<qg n11 bm)
 (cL F.nW #[.pointer (some (ah cy))] bm fun ey=>Q (.tuple #[.pointer (some (ah cy)), .int .i64 0]) ey))
def A.mO:bh:=(.s .r (.s (.s (.dI [.run, .run, .run, .run, .pure 2, .run, .run, .run, .pure 3]) (.c (.s .r .l) .l)) (.s .r (.s (.s .r (.cn (.loop [(27,(.int .i64))] [6,26] bB))) (.s .r (.s .r .l))))))
theorem W.Ov (n:Int) (first:Int) (w:World) (Q:Value→World→Prop) (h:W.mO n first w Q):aN Tryz.prog F.mO #[.int .i64 n, .int .i64 first] w Q:=okF A.mO Tryz.func70 (by kernel_rfl) (by kernel_rfl) h
def W.ny (no:Int) (zv:Int) (zw:Int) (qi:ak) (w:World) (Q:Value→World→Prop):Prop:=aG (w.alloc (.cells #[.int .i64 zv, .int .u64 zw, .slice qi.a qi.len qi.cap] aj.nC)) fun ae=>
 b1 F.rR #[.int .i64 no] ae fun eh av=>bZ (fun kK:Bool→World→Prop=>aA (!eh) (kK true av) (aE av (ah w) fun n6=>b1 F.rS #[.int .i64 n6] av fun g5 cy=>kK (!g5) cy)) (fun (zx:Bool) b5=>aA zx (Q (.tuple #[.slice
 none 0 0, .int .i64 1]) b5) (aW b5 (Addr.add (ah w) 2) fun Dc=>aA (decide ((Dc.len:Int)>232)) (Q (.tuple #[.slice none 0 0, .int .i64 10]) b5) (aG (b5.alloc (.cells #[.int .u8 83, .int .u8 84, .int .u8 78, .int .u8 67] aj.uint8))
 fun fQ=>∃c9:ak,∃cY:World,Sem.run Tryz.prog (convert aj.cf aj.cf (.slice (some (ah b5)) 4 4)) fQ= .ok (.slice c9.a c9.len c9.cap) cY∧aE cY (ah w) fun n16=>aG (cY.alloc (.cells #[.int .u8 1, .int .u8
 (IntKind.wrap .u8 n16)] aj.uint8)) fun ey=>aG (ey.alloc (.cells #[.slice c9.a c9.len c9.cap, .slice (some (ah cY)) 2 2] aj.cf)) fun cp=>b8 F.jA #[.slice (some (ah ey)) 2 2] cp fun g1 cJ=>aW cJ (Addr.add (ah w)
 2) fun wO=>b8 F.dU #[.slice g1.a g1.len g1.cap, .int .u64 (IntKind.wrap .u64 (wO.len:Int)), .int .i64 2] cJ fun jl g2=>b8 F.dU #[.slice jl.a jl.len jl.cap, .int .u64 (IntKind.wrap .u64 no), .int .i64 4] g2 fun eH
 de=>bE de (Addr.add (ah w) 1) fun n29=>b8 F.dU #[.slice eH.a eH.len eH.cap, .int .u64 n29, .int .i64 8] de fun cm jv=>bZ (fun zp:ak→World→Prop=>aG (jv.drew) fun cO=>∃tO:Nat→Prop,¬tO (Addr.add (ah w)
 2).block∧aW cO (Addr.add (ah w) 2) fun tJ=>¬tO (Addr.add (ah w) 2).block∧aW cO (Addr.add (ah w) 2) fun ed=>(((0:Int)≤4∧(4:Int)≤4∧(4:Int)≤kB∧((1:Nat):Int)*4≤140737488355328)∧aG (cO.alloc (.cells
 (gy Tryz.prog aj.uint8 (Int.toNat 4)) aj.uint8)) fun eT=>aq tO cO eT∧(zV ed)∧aG (eT.alloc (.cells (gy Tryz.prog aj.uint8 (Int.toNat (aK (232-(ed.len:Int))))) aj.uint8)) fun iJ=>aq tO eT iJ∧zW iJ cm cO tJ eT
 ed zp)∧((zV ed)∧aG (cO.alloc (.cells (gy Tryz.prog aj.uint8 (Int.toNat (aK (232-(ed.len:Int))))) aj.uint8)) fun gn=>aq tO cO gn∧((0:Int)≤4∧(4:Int)≤4∧(4:Int)≤kB∧((1:Nat):Int)*4≤140737488355328)
 ∧aG (gn.alloc (.cells (gy Tryz.prog aj.uint8 (Int.toNat 4)) aj.uint8)) fun sY=>aq tO gn sY∧zW sY cm gn tJ cO ed zp)) (fun (mb:ak) n2=>aG (n2.drew) fun sJ=>∃Vw:Nat→Prop,((0:Int)≤20∧20≤
 (mb.len:Int))∧gQ F.kz #[.slice mb.a mb.len mb.cap] sJ fun Dd iH=>∃Vx:Nat→Prop,b8 F.dU #[.slice none 0 0, .int .u64 (IntKind.wrap .u64 Dd), .int .i64 4] iH fun De x9=>∃tG:Int,∃lQ:World,Sem.run
 Tryz.prog (Builtin.copy_ #[aj.cf,aj.cf] aj.int #[.slice (b7 mb.a 1 (Int.toNat 20) mb.cap) (mb.len-(Int.toNat 20)) (mb.cap-(Int.toNat 20)), .slice De.a De.len De.cap]) x9= .ok (.int .i64 tG) lQ∧Q (.tuple
 #[.slice mb.a mb.len mb.cap, .int .i64 0]) lQ))))
def A.ny:bh:=(.s .r (.s (.cn (.s (.dI [.run, .run, .run, .run, .split 4]) (.c (.s .r .l) a7))) (.s .r (.s .r (.s .r (.s .r (.s (.jU [(6, .slice)] [] (.eI 9 true ⟨[0,0,0,4,0,16,32,64,128,267,512,2047],[0,0,0,4,
 0,16,32,64,128,267,512,1025]⟩ [17592186044416,35184372088832,70368744177664,140737488355328,281474976710656,562949953421312,1125899906842624,2251799813685248,4503599627370496,9007199254740992,18014398509481984,64] [64,0,
 8,70368744177664,8,281474976710656,562949953421312,1125899906842624,2251799813685248,4697113673859072,9007199254740992,18014398509481984] (.take 0 (.take 2 (.take 3 (.take 4 (.take 5 (.take 6 (.take 7 (.two 1 (.e_ 8 (.tail [.run,
 .run, .run])) 8 (.e_ 1 (.tail [.run, .run, .run])))))))))))) (.s (.eI 6 true ⟨[0,1,0,4,8,24,34],[0,1,0,4,8,16,34]⟩ [36028797018963968,72057594037927936,144115188075855872,288230376151711744,576460752303423488,
 1152921504606846976,2305843009213693952] [64,36028797018963968,64,144115188075855872,288230376151711744,576460752303423488,1224979098644774912] (.take 0 (.take 1 (.take 2 (.out 3 true (.take 4 (.out 5 false (.tail [.run])))))))) (.s
 .r .l)))))))))
theorem W.K7 (no:Int) (zv:Int) (zw:Int) (qi:ak) (w:World) (Q:Value→World→Prop) (h:W.ny no zv zw qi w Q):aN Tryz.prog F.ny #[.int .i64 no, .agg #[.int .i64 zv, .int .u64 zw, .slice qi.a qi.len qi.cap]] w Q:=okF A.ny Tryz.func71 (by kernel_rfl) (by kernel_rfl) h
def W.pE (s:Option Addr) (w:World) (Q:Value→World→Prop):Prop:=aA (Option.isNone s) (Q (.slice none 0 0) w) (∃a7:Addr,s=some a7∧aW w (a7.add 1) fun s2=>b8 F.iU #[.slice s2.a
 s2.len s2.cap] w fun bQ bM=>Q (.slice bQ.a bQ.len bQ.cap) bM)
def A.pE:bh:=fT
theorem W.On (s:Option Addr) (w:World) (Q:Value→World→Prop) (h:W.pE s w Q):aN Tryz.prog F.pE #[.pointer s] w Q:=okF A.pE Tryz.func72 (by kernel_rfl) (by kernel_rfl) h
def W.oe (d:Option Addr) (w:World) (Q:Value→World→Prop):Prop:=aA (Option.isNone d) (Q (.int .i64 1) w) (∃a7:Addr,d=some a7∧b1 F.mF #[.pointer (some a7), .int .i64 3] w fun eh av=>aA eh (Q
 (.int .i64 3) av) (∃a5:Addr,d=some a5∧∃Jy:Option Nat,av.cell? (a5.add 5)=some (.map Jy)∧∃ (rU:Value) (bC:World),Sem.run Tryz.prog (Instr.range aj.lB (.map Jy)) av= .ok rU bC∧∃ (nk:World→Prop)
 (qg:World→Nat),nk bC∧∀ (b5:World),nk b5→(∃ (Tg:Value) (Th:Value) (bm:World),Sem.run Tryz.prog (Instr.next (rU) false 0) b5= .ok (.tuple #[.bool true,Tg,Th]) bm∧aA true (BE rU bm d nk qg b5) (BF d bm
 Q))∨(∃cN:World,Sem.run Tryz.prog (Instr.next (rU) false 0) b5= .ok (.tuple #[.bool false]) cN∧aA false (BE rU cN d nk qg b5) (BF d cN Q))))
def A.oe:bh:=(.s .r (.s (.cn (.s .r (.c (.s .r .l) a7))) (.s (.s .r (.cn (.loop [] [0,16] (.s .r (.s (.c .l .l) (.cn (.s (.dI [.yZ [(.one (.int .i64)),(.one .any)]]) (.eI 8 true ⟨[0,1,2,4,0,0,0,96,255,
 511],[0,1,2,4,0,0,0,96,24,384]⟩ [2097152,4194304,8388608,16777216,33554432,67108864,134217728,268435456,536870912,0] [1,2097152,4194304,8388608,8,1,8,201326592,50331648,805306368] (.take 0 (.take 1 (.take 2
 (.take 3 (.take 4 (.take 5 (.take 6 (.e_ 7 (.tail [.run, .run]))))))))))))))))) (.s .r (.s .r .l)))))
theorem W.QE (d:Option Addr) (w:World) (Q:Value→World→Prop) (h:W.oe d w Q):aN Tryz.prog F.oe #[.pointer d] w Q:=okF A.oe Tryz.func73 (by kernel_rfl) (by kernel_rfl) h
def W.m6 (d:Option Addr) (jY:Int) (jZ:Int) (j0:Int) (j1:Int) (j2:Int) (j3:Int) (gen:Int) (w:World) (Q:Value→World→Prop):Prop:=aG (w.alloc (.cells #[.int .i64 jY, .int
 .i64 jZ, .int .i64 j0, .int .u64 j1, .int .u64 j2, .int .i64 j3] aj.jf)) fun ae=>(2:Int)≠0∧aG (ae.drew) fun av=>∃qj:Nat→Prop,¬qj ((ah w):Addr).block∧aE av (ah w) fun cc=>aE av (Addr.add
 (ah w) 1) fun n5=>aE av (Addr.add (ah w) 2) fun n6=>bE av (Addr.add (ah w) 3) fun n7=>bE av (Addr.add (ah w) 4) fun n8=>aE av (Addr.add (ah w) 5) fun n9=>bN F.lC #[.pointer d] av fun n12 dc=>aq qj av dc∧b8
 F.mH #[.agg #[.int .i64 cc, .int .i64 n5, .int .i64 n6, .int .u64 n7, .int .u64 n8, .int .i64 n9], .int .i64 n12] dc fun gb fQ=>∃Ti:Nat→Prop,∃s_:Array Value,(∀cp:World,Sem.run Tryz.prog (Instr.build aj.nC
 #[(0, .int .i64 3),(1, .int .u64 gen),(2, .slice gb.a gb.len gb.cap)]) cp= .ok (.agg s_) cp)∧fO F.ny #[.int .i64 (aK (Int.tmod gen 2)), .agg s_] fQ fun g1 n22 cJ=>aq Ti fQ cJ∧aA (n22 !=0) (Q (.int .i64 n22)
 cJ) (bN F.nM #[.pointer d, .int .i64 (aK (Int.tmod gen 2)), .slice g1.a g1.len g1.cap] cJ fun n25 g2=>aA (n25 !=0) (Q (.int .i64 n25) g2) (bN F.oe #[.pointer d] g2 fun n28 de=>Q (.int .i64 n28)
 de))
def A.m6:bh:=(.s .r (.s .r (.s (.eI 12 true ⟨[0,0,0,0,8,20,34,97,128,256,256,1023,4095],[0,0,0,0,8,20,34,65,128,256,256,512,1024]⟩ [32768,65536,131072,262144,524288,1048576,2097152,4194304,
 16384,8388608,16777216,256,512] [128,4,16,1,262144,655360,1114112,2129920,4194304,16384,16384,8388608,16777216] (.take 0 (.take 1 (.take 2 (.take 3 (.e_ 4 (.out 5 true (.take 6 (.e_ 7 (.take 8 (.take 9 (.take 10 (.take 11
 (.tail [.run])))))))))))))) (.s a7 (.s (.s .r a7) (.s .r .l))))))
theorem W.QU (d:Option Addr) (jY:Int) (jZ:Int) (j0:Int) (j1:Int) (j2:Int) (j3:Int) (gen:Int) (w:World) (Q:Value→World→Prop) (h:W.m6 d jY jZ j0 j1 j2 j3 gen w Q):aN Tryz.prog F.m6 #[.pointer d, .agg #[.int .i64 jY, .int .i64 jZ, .int .i64 j0, .int .u64 j1, .int .u64 j2, .int .i64 j3], .int .u64 gen] w Q:=okF A.m6 Tryz.func74 (by kernel_rfl) (by kernel_rfl) h
def W.m7 (d:Option Addr) (jV:Int) (jW:Int) (jX:Int) (jY:Int) (jZ:Int) (j0:Int) (j1:Int) (j2:Int) (j3:Int) (gen:Int) (s:Option Addr) (w:World) (Q:Value→World
 →Prop):Prop:=aG (w.alloc (.cells #[.int .i64 jV, .int .i64 jW, .int .u64 jX] aj.zm)) fun ae=>aG (ae.alloc (.cells #[.int .i64 jY, .int .i64 jZ, .int .i64 j0, .int .u64 j1, .int .u64 j2,
 .int .i64 j3] aj.jf)) fun av=>aE av (ah w) fun aX=>hJ F.mP #[.pointer d, .int .i64 aX] av fun Jz n7 a_=>aA (n7 !=0) (Q (.tuple #[.pointer none, .int .i64 n7]) a_) (aE a_ (ah ae) fun n8=>aE a_ (Addr.add (ah ae) 1)
 fun n9=>hJ F.mQ #[.pointer Jz, .pointer s, .int .u64 (IntKind.wrap .u64 (gen+1)), .int .i64 n8, .int .i64 n9] a_ fun Tj n13 dc=>aA (n13 !=0) (Q (.tuple #[.pointer none, .int .i64 n13]) dc) (aE dc (ah w) fun n14=>aE dc
 (Addr.add (ah w) 1) fun n15=>bE dc (Addr.add (ah w) 2) fun n16=>aE dc (ah ae) fun n17=>aE dc (Addr.add (ah ae) 1) fun n18=>aE dc (Addr.add (ah ae) 2) fun n19=>bE dc (Addr.add (ah ae) 3) fun n20=>bE dc (Addr.add (ah ae) 4)
 fun n21=>aE dc (Addr.add (ah ae) 5) fun n22=>bE dc (Addr.add (ah ae) 3) fun n23=>aE dc (Addr.add (ah ae) 5) fun n24=>∃JA:Array Value,Sem.run Tryz.prog (Instr.build aj.BO #[(0, .pointer Tj),(1, .pointer d),(2,
 .pointer Jz),(3, .pointer s),(4, .agg #[.int .i64 n14, .int .i64 n15, .int .u64 n16]),(5, .agg #[.int .i64 n17, .int .i64 n18, .int .i64 n19, .int .u64 n20, .int .u64 n21, .int .i64 n22]),(6, .int .u64 gen),(7, .int .u64 n23),(10,
 .int .i64 n24)]) dc= .ok (.agg JA) dc∧aG (dc.alloc (.cells JA aj.BO)) fun de=>Q (.tuple #[.pointer (some (ah dc)), .int .i64 0]) de))
def A.m7:bh:=(.s .r (.s .r (.s a7 fT)))
theorem W.Q0 (d:Option Addr) (jV:Int) (jW:Int) (jX:Int) (jY:Int) (jZ:Int) (j0:Int) (j1:Int) (j2:Int) (j3:Int) (gen:Int) (s:Option Addr) (w:World) (Q:Value→World→Prop) (h:W.m7 d jV jW jX jY jZ j0 j1 j2 j3 gen s w Q):aN Tryz.prog F.m7 #[.pointer d, .agg #[.int .i64 jV, .int .i64 jW, .int .u64 jX], .agg #[.int .i64 jY, .int .i64 jZ, .int .i64 j0, .int .u64 j1, .int .u64 j2, .int .i64 j3], .int .u64 gen, .pointer s] w Q:=okF A.m7 Tryz.func75 (by kernel_rfl) (by kernel_rfl) h
end
section
set_option maxRecDepth 100000
def W.nK (d:Option Addr) (i:Int) (w:World) (Q:Value→World→Prop):Prop:=aG (w.alloc z3) fun ae=>∃bB:Addr,d=some bB∧∃JB:Option Nat,ae.cell? (bB.add 5)=some (.map JB)∧∃cE:ak,∃aR:World,
 Sem.run Tryz.prog (Instr.lookup aj.lB (.map JB) (.int .i64 i) false) ae= .ok (.slice cE.a cE.len cE.cap) aR∧aA (decide ((cE.len:Int)>0)) (∃fa:Addr,cE.a=some fa∧((0:Int)≤(aK ((cE.len:Int)-1))∧(aK
 ((cE.len:Int)-1))<(cE.len:Int))∧∃tK:List Value,bR aR (fa.add (Int.toNat (aK ((cE.len:Int)-1))*256)) 0 256=some tK∧Ay aR w tK Q) (∃ku:Addr,d=some ku∧aW aR (ku.add 4) fun hA=>E9 hA i aR 256 fun Tk=>
 Ay aR w Tk Q)
def A.nK:bh:=(.s .r (.s (.s .r a7) (.s .r .l)))
theorem W.My (d:Option Addr) (i:Int) (w:World) (Q:Value→World→Prop) (h:W.nK d i w Q):aN Tryz.prog F.nK #[.pointer d, .int .i64 i] w Q:=okF A.nK Tryz.func97 (by kernel_rfl) (by kernel_rfl) h
def W.lG (c:Int) (w:World) (Q:Value→World→Prop):Prop:=Q (.bool (c !=0)) w
def A.lG:bh:=(.s .r (.s .r .l))
theorem W.Nq (c:Int) (w:World) (Q:Value→World→Prop) (h:W.lG c w Q):aN Tryz.prog F.lG #[.int .u8 c] w Q:=okF A.lG Tryz.func99 (by kernel_rfl) (by kernel_rfl) h
def W.mN (no:Int) (b:ak) (w:World) (Q:Value→World→Prop):Prop:=aG (w.alloc fc) fun ae=>sM F.mI #[.int .i64 no, .slice b.a b.len b.cap] ae fun cc n5 n6 n7 n8 n9 n10 n11 n12 av=>aG (av.alloc fc)
 fun fQ=>cd fQ (ah av) [.int .i64 cc, .int .i64 n5, .int .i64 n6, .int .u64 n7, .int .u64 n8, .int .i64 n9]∧(6:Nat)=6∧aG (setCells fQ (ah av) 0 [.int .i64 cc, .int .i64 n5, .int .i64 n6, .int .u64 n7, .int .u64 n8, .int
 .i64 n9]) fun dg=>aE dg (ah av) fun n15=>aE dg (Addr.add (ah av) 1) fun n16=>aE dg (Addr.add (ah av) 2) fun n17=>bE dg (Addr.add (ah av) 3) fun n18=>bE dg (Addr.add (ah av) 4) fun n19=>aE dg (Addr.add (ah av) 5) fun n20
 =>cd dg (ah w) [.int .i64 n15, .int .i64 n16, .int .i64 n17, .int .u64 n18, .int .u64 n19, .int .i64 n20]∧(6:Nat)=6∧aG (setCells dg (ah w) 0 [.int .i64 n15, .int .i64 n16, .int .i64 n17, .int .u64 n18, .int .u64 n19, .int
 .i64 n20]) fun eu=>aE eu (ah w) fun n22=>aE eu (Addr.add (ah w) 1) fun n23=>aE eu (Addr.add (ah w) 2) fun n24=>bE eu (Addr.add (ah w) 3) fun n25=>bE eu (Addr.add (ah w) 4) fun n26=>aE eu (Addr.add (ah w) 5) fun n27=>Q
 (.tuple #[.agg #[.int .i64 n22, .int .i64 n23, .int .i64 n24, .int .u64 n25, .int .u64 n26, .int .i64 n27], .int .u64 n11, .int .i64 n12]) eu
def A.mN:bh:=a4
theorem W.Nj (no:Int) (b:ak) (w:World) (Q:Value→World→Prop) (h:W.mN no b w Q):aN Tryz.prog F.mN #[.int .i64 no, .slice b.a b.len b.cap] w Q:=okF A.mN Tryz.func100 (by kernel_rfl) (by kernel_rfl) h
def W.pQ (l:Option Addr) (no:Int) (level:Int) (w:World) (Q:Value→World→Prop):Prop:=bZ (fun eN:Bool→World→Prop=>aA (decide (no<0)) (eN true w) (∃bB:Addr,l=some bB∧aW w (bB.add 10) fun cl=>
 eN (decide (no≥(cl.len:Int))) w)) (fun (eh:Bool) aR=>bZ (fun wM:Bool→World→Prop=>aA eh (wM true aR) (∃kt:Addr,l=some kt∧∃JC:Option Nat,aR.cell? (kt.add 11)=some (.map JC)∧∃g5:Bool,∃dc:World,Sem.run
 Tryz.prog (Instr.lookup aj.pK (.map JC) (.int .i64 no) false) aR= .ok (.bool g5) dc∧wM g5 dc)) (fun (oF:Bool) bm=>aA oF (∃qh:Addr,l=some qh∧aE bm (qh.add 9) fun n14=>∃qk:Addr,l=some qk∧st bm
 (qk.add 9) (.int .i64 (aK (n14+1))) fun bH=>Q (.slice none 0 0) bH) (∃nm:Addr,l=some nm∧∃JD:Option Nat,bm.cell? (nm.add 11)=some (.map JD)∧∃cJ:World,Sem.run Tryz.prog (Instr.mapUpdate aj.pK (.map
 JD) (.int .i64 no) (.bool true)) bm= .ok () cJ∧bZ (fun JE:Int→World→Prop=>aA (level==1) (JE 1 cJ) (JE 2 cJ)) (fun (n21:Int) c_=>∃a23:Addr,l=some a23∧aW c_ (a23.add 10) fun nn=>∃a25:Addr,nn.a=some
 a25∧bK no nn.len∧aW c_ (a25.add (Int.toNat no*1)) fun f_=>mJ F.jB #[.int .i64 no, .slice f_.a f_.len f_.cap] c_ fun n29 n30 tP n32 cM=>aG (cM.alloc z4) fun dP=>cd dP (ah cM) [.int .i64 n29, .int .u64
 n30, .slice tP.a tP.len tP.cap]∧(3:Nat)=3∧aG (setCells dP (ah cM) 0 [.int .i64 n29, .int .u64 n30, .slice tP.a tP.len tP.cap]) fun cO=>aW cO (Addr.add (ah cM) 2) fun Df=>A5 F.lz #[.bool (level==1), .slice
 Df.a Df.len Df.cap] cO fun JF tQ k5 gE mX cX=>aG (cX.alloc z5) fun dF=>cd dF (ah cX) [.bool JF, .slice tQ.a tQ.len tQ.cap, .slice k5.a k5.len k5.cap, .slice gE.a gE.len gE.cap]∧(4:Nat)=4∧aG (setCells
 dF (ah cX) 0 [.bool JF, .slice tQ.a tQ.len tQ.cap, .slice k5.a k5.len k5.cap, .slice gE.a gE.len gE.cap]) fun gn=>bZ (fun JG:Bool→World→Prop=>aA ((n32 !=0)||(mX !=0)) (JG true gn) (aE gn (ah cM) fun qf=>
 JG (qf !=n21) gn)) (fun (Tl:Bool) oa=>aA Tl (∃JH:Addr,l=some JH∧aE oa (JH.add 9) fun ma=>∃JI:Addr,l=some JI∧st oa (JI.add 9) (.int .i64 (aK (ma+1))) fun sJ=>Q (.slice none 0 0) sJ) (∃a53:Addr,
 l=some a53∧aW oa (a53.add 12) fun Dg=>aG (oa.alloc (.cells #[.int .i64 no] aj.int)) fun e2=>∃tR:ak,∃vg:World,Sem.run Tryz.prog (Builtin.append_ #[aj.dD,aj.dD] aj.dD #[.slice Dg.a Dg.len Dg.cap, .slice
 (some (ah oa)) 1 1]) e2= .ok (.slice tR.a tR.len tR.cap) vg∧∃wJ:Addr,l=some wJ∧st vg (wJ.add 12) (.slice tR.a tR.len tR.cap) fun ih=>∃wK:Addr,l=some wK∧aE ih (wK.add 5) fun tG=>∃JJ:Addr,l=
 some JJ∧st ih (JJ.add 5) (.int .i64 (aK (tG+1))) fun jN=>bZ (fun JK:World→Prop=>aA (level==1) (aG (jN.drew) fun Dh=>∃JL:Addr,l=some JL∧¬False∧aE Dh (JL.add 6) fun Tm=>¬False∧aW Dh (Addr.add (ah
 cX) 1) fun Tn=>∃JM:Addr,l=some JM∧st Dh (JM.add 6) (.int .i64 (aK (Tm+(Tn.len:Int)))) fun tS=>JK tS) (JK jN)) (fun fR=>aW fR (Addr.add (ah cX) 3) fun mY=>Q (.slice mY.a mY.len mY.cap) fR)))))))
def A.pQ:bh:=(.s .r (.s (.s (.dI [.run, .run, .run, .split 7, .run, .run, .run, .run, .run, .run, .run, .run, .split 6]) a5) (.s .r (.s .r (.s (.jU [(7,(.int .i64))] [0,1,2] (.s .r (.c .r .l))) (.s .r (.s .r (.s (.s
 (.dI [.run, .run, .run, .pure 2, .run, .run, .run, .split 4]) a5) (.s .r (.s .r (.s (.jU [] [10] (.s .r (.c (.eI 8 false ⟨[0,1,2,4,8,0,32,64,144,511,1023,1535,2559],[0,1,2,4,8,0,32,64,144,1,512,1024,2304]⟩
 [649037107316853453566312041152512,1298074214633706907132624082305024,2596148429267413814265248164610048,5192296858534827628530496329220096,10384593717069655257060992658440192,20769187434139310514121985316880384,
 41538374868278621028243970633760768,83076749736557242056487941267521536,166153499473114484112975882535043072,332306998946228968225951765070086144,664613997892457936451903530140172288,1329227995784915872903807060280344576,0] [1,
 649037107316853453566312041152512,1298074214633706907132624082305024,2596148429267413814265248164610048,5192296858534827628530496329220096,1024,20769187434139310514121985316880384,41538374868278621028243970633760768,
 93461343453626897313548933925961728,649037107316853453566312041152512,332306998946228968225951765070086144,664613997892457936451903530140172288,1495381495258030357016782942815387648] (.take 0 (.take 1 (.take 2 (.take 3 (.take 4 (.take 5
 (.take 6 (.take 7 (.tail [.run, .run, .run, .run, .run])))))))))) .l))) (.s .r .l))))))))))))
theorem W.Pq (l:Option Addr) (no:Int) (level:Int) (w:World) (Q:Value→World→Prop) (h:W.pQ l no level w Q):aN Tryz.prog F.pQ #[.pointer l, .int .i64 no, .int .i64 level] w Q:=okF A.pQ Tryz.func101 (by kernel_rfl) (by kernel_rfl) h
def W.jB (no:Int) (b:ak) (w:World) (Q:Value→World→Prop):Prop:=aG (w.alloc z4) fun ae=>aA ((b.len:Int) !=256) (cd ae (ah w) [.int .i64 0, .int .u64 0, .slice none 0 0]∧(3:Nat)=3∧aG (setCells ae (ah w)
 0 [.int .i64 0, .int .u64 0, .slice none 0 0]) fun av=>aE av (ah w) fun aX=>bE av (Addr.add (ah w) 1) fun cc=>aW av (Addr.add (ah w) 2) fun bQ=>Q (.tuple #[.agg #[.int .i64 aX, .int .u64 cc, .slice bQ.a bQ.len bQ.cap], .int .i64 9])
 av) (((0:Int)≤4∧4≤((b.cap:Nat):Int))∧∃dp:ByteArray,∃cy:World,Sem.run Tryz.prog (convert aj.cf aj.string (.slice (b7 b.a 1 0 b.cap) ((Int.toNat 4)-0) (b.cap-0))) ae= .ok (.string dp) cy∧aA
 (!(ByteArray.toList dp==ByteArray.toList (ByteArray.mk #[83,84,78,67]))) (cd cy (ah w) [.int .i64 0, .int .u64 0, .slice none 0 0]∧(3:Nat)=3∧aG (setCells cy (ah w) 0 [.int .i64 0, .int .u64 0, .slice none 0 0]) fun bC=>
 z_ bC w Q) (∃tM:Addr,b.a=some tM∧bK 4 b.len∧cU cy (tM.add (Int.toNat 4*1)) fun n13=>aA (n13 !=1) (cd cy (ah w) [.int .i64 0, .int .u64 0, .slice none 0 0]∧(3:Nat)=3∧aG (setCells cy (ah w) 0 [.int .i64 0, .int
 .u64 0, .slice none 0 0]) fun dg=>aE dg (ah w) fun n15=>bE dg (Addr.add (ah w) 1) fun n16=>aW dg (Addr.add (ah w) 2) fun ct=>Q (.tuple #[.agg #[.int .i64 n15, .int .u64 n16, .slice ct.a ct.len ct.cap], .int .i64 12]) dg)
 (gQ F.kz #[.slice b.a b.len b.cap] cy fun n20 cp=>hC F.iC #[.slice b.a b.len b.cap, .int .i64 20, .int .i64 24] cp fun n23 eu=>aA (((IntKind.wrap .u64 n20):Int) !=n23) (cd eu (ah w) [.int .i64 0, .int .u64
 0, .slice none 0 0]∧(3:Nat)=3∧aG (setCells eu (ah w) 0 [.int .i64 0, .int .u64 0, .slice none 0 0]) fun iq=>aE iq (ah w) fun n25=>bE iq (Addr.add (ah w) 1) fun n26=>aW iq (Addr.add (ah w) 2) fun dr=>Q (.tuple #[.agg
 #[.int .i64 n25, .int .u64 n26, .slice dr.a dr.len dr.cap], .int .i64 5]) iq) (hC F.iC #[.slice b.a b.len b.cap, .int .i64 6, .int .i64 8] eu fun n30 b3=>∃wI:Addr,b.a=some wI∧bK 5 b.len∧cU b3 (wI.add
 (Int.toNat 5*1)) fun n32=>b1 F.rS #[.int .i64 (aK n32)] b3 fun ql dP=>bZ (fun JN:Bool→World→Prop=>aA ((!ql)||(decide (((aK n30):Int)>232))) (JN true dP) (((0:Int)≤(aK (24+(aK n30)))∧(aK (24+(aK
 n30)))≤(b.len:Int))∧b1 F.mm #[.slice (b7 b.a 1 (Int.toNat (aK (24+(aK n30)))) b.cap) (b.len-(Int.toNat (aK (24+(aK n30))))) (b.cap-(Int.toNat (aK (24+(aK n30)))))] dP fun Di p4=>JN (!Di) p4)) (fun (To:Bool)
 ml=>aA To (cd ml (ah w) [.int .i64 0, .int .u64 0, .slice none 0 0]∧(3:Nat)=3∧aG (setCells ml (ah w) 0 [.int .i64 0, .int .u64 0, .slice none 0 0]) fun gX=>z_ gX w Q) (b1 F.rR #[.int .i64 no] ml fun Tp uU=>
 bZ (fun JO:Bool→World→Prop=>aA (!Tp) (JO true uU) (hC F.iC #[.slice b.a b.len b.cap, .int .i64 8, .int .i64 12] uU fun C5 wA=>JO (C5 !=(IntKind.wrap .u64 no)) wA)) (fun (Dj:Bool) iH=>aA Dj (cd iH
 (ah w) [.int .i64 0, .int .u64 0, .slice none 0 0]∧(3:Nat)=3∧aG (setCells iH (ah w) 0 [.int .i64 0, .int .u64 0, .slice none 0 0]) fun e2=>aE e2 (ah w) fun Dd=>bE e2 (Addr.add (ah w) 1) fun tT=>aW e2 (Addr.add (ah w) 2)
 fun r0=>Q (.tuple #[.agg #[.int .i64 Dd, .int .u64 tT, .slice r0.a r0.len r0.cap], .int .i64 1]) e2) (qz F.mi #[.slice b.a b.len b.cap, .int .i64 24, .int .i64 (aK n30)] iH fun tU Vy ih=>aG (ih.drew) fun jN=>∃wL:
 Nat→Prop,∃rZ:Addr,b.a=some rZ∧bK 5 b.len∧¬wL (rZ.add (Int.toNat 5*1)).block∧cU jN (rZ.add (Int.toNat 5*1)) fun oE=>hC F.iC #[.slice b.a b.len b.cap, .int .i64 12, .int .i64 20] jN fun JP kL=>aq
 wL jN kL∧cd kL (ah w) [.int .i64 (aK oE), .int .u64 JP, .slice tU.a tU.len tU.cap]∧(3:Nat)=3∧aG (setCells kL (ah w) 0 [.int .i64 (aK oE), .int .u64 JP, .slice tU.a tU.len tU.cap]) fun tS=>aE tS (ah w) fun
 rW=>bE tS (Addr.add (ah w) 1) fun C8=>aW tS (Addr.add (ah w) 2) fun Dk=>Q (.tuple #[.agg #[.int .i64 rW, .int .u64 C8, .slice Dk.a Dk.len Dk.cap], .int .i64 0]) tS))))))))
def A.jB:bh:=(.s .r (.s (.cn (.s .r (.c (.s .r .l) (.s .r (.c (.s .r .l) (.s .r (.c (.s .r .l) a7))))))) (.s .r (.s (.cn (.s (.dI [.run, .run, .run, .run, .run, .run, .run, .pure 2, .run, .run, .run, .split 6]) (.c (.s .r
 .l) (.s (.dI [.run, .run, .run, .run, .split 5]) (.c (.s .r .l) .l))))) (.s .r (.s (.eI 7 true ⟨[0,1,2,4,0,16,0,104,255,511],[0,1,2,4,0,16,0,104,128,0]⟩ [37778931862957161709568,75557863725914323419136,
 151115727451828646838272,302231454903657293676544,604462909807314587353088,1208925819614629174706176,2417851639229258349412352,4835703278458516698824704,0,32] [2,37778931862957161709568,75557863725914323419136,
 151115727451828646838272,2,604462909807314587353088,128,3929008913747544817795072,4835703278458516698824720,0] (.take 0 (.take 1 (.take 2 (.take 3 (.take 4 (.take 6 (.e_ 5 (.tail [.run, .run, .run]))))))))) .l))))))
theorem W.Le (no:Int) (b:ak) (w:World) (Q:Value→World→Prop) (h:W.jB no b w Q):aN Tryz.prog F.jB #[.int .i64 no, .slice b.a b.len b.cap] w Q:=okF A.jB Tryz.func102 (by kernel_rfl) (by kernel_rfl) h
def W.lM (b:ak) (n:Int) (w:World) (Q:Value→World→Prop):Prop:=b1 F.nX #[.int .i64 n] w fun eR ae=>aA (!eR) (Q (.tuple #[.pointer none, .int .i64 1]) ae) (bN F.nY #[.int .i64 n] ae fun n6 a_=>bZ
 (fun JQ:Bool→World→Prop=>aA ((b.len:Int) !=n6) (JQ true a_) ((8:Int)≠0∧bZ (fun nj:Bool→World→Prop=>aA (decide (((Int.tmod n 8):Int)>0)) (∃a9:Addr,b.a=some a9∧((0:Int)≤(aK ((b.len:Int)-1))∧(aK
 ((b.len:Int)-1))<(b.len:Int))∧cU a_ (a9.add (Int.toNat (aK ((b.len:Int)-1))*1)) fun n10=>(8:Int)≠0∧(0:Int)≤(Int.tmod n 8)∧nj (decide (((Int.fdiv n10 (2^(min (Int.toNat (Int.tmod n 8)) 8))):Int)>0)) a_) (nj
 false a_)) (fun (oF:Bool) bm=>JQ oF bm))) (fun (wP:Bool) dg=>aA wP (Q (.tuple #[.pointer none, .int .i64 4]) dg) (b8 F.iU #[.slice b.a b.len b.cap] dg fun ct cY=>aG (cY.alloc (.cells #[.int .i64
 n, .slice ct.a ct.len ct.cap, .slice none 0 0] aj.lL)) fun cp=>cL F.nW #[.pointer (some (ah cY))] cp fun cJ=>Q (.tuple #[.pointer (some (ah cY)), .int .i64 0]) cJ)))
def A.lM:bh:=(.s .r (.s (.cn (.s .r (.c (.s .r .l) (.s (.dI [.run, .run, .run, .run, .run, .run, .split 15, .run, .run, .run, .split 10]) (.c (.s .r .l) .l))))) a4))
theorem W.OB (b:ak) (n:Int) (w:World) (Q:Value→World→Prop) (h:W.lM b n w Q):aN Tryz.prog F.lM #[.slice b.a b.len b.cap, .int .i64 n] w Q:=okF A.lM Tryz.func103 (by kernel_rfl) (by kernel_rfl) h
def W.pB (s:Option Addr) (no:Int) (w:World) (Q:Value→World→Prop):Prop:=b1 F.pA #[.pointer s, .int .i64 no] w fun eR ae=>bZ (fun nR:Bool→World→Prop=>aA eR (∃a5:Addr,s=some a5∧aW
 ae (a5.add 1) fun dp=>b1 F.nV #[.slice dp.a dp.len dp.cap, .int .i64 no] ae fun g5 cy=>nR g5 cy) (nR false ae)) (fun (zx:Bool) b5=>Q (.bool zx) b5)
def A.pB:bh:=(.s .r (.s (.dI [.run, .run, .run, .run, .split 6]) .l))
theorem W.N9 (s:Option Addr) (no:Int) (w:World) (Q:Value→World→Prop) (h:W.pB s no w Q):aN Tryz.prog F.pB #[.pointer s, .int .i64 no] w Q:=okF A.pB Tryz.func106 (by kernel_rfl) (by kernel_rfl) h
def W.pD (s:Option Addr) (w:World) (Q:Value→World→Prop):Prop:=aA (Option.isNone s) (Q (.slice none 0 0) w) (∃a7:Addr,s=some a7∧aE w a7 fun cH=>∃ (r2:ak→Int→World→Prop) (wQ:ak→Int→World→
 Nat),r2 ⟨none,0,0⟩ 0 w∧∀ (bQ:ak) (n6:Int) (cy:World),r2 bQ n6 cy→aA (decide (n6<cH)) (bZ (fun nj:ak→World→Prop=>∃a9:Addr,s=some a9∧aW cy (a9.add 1) fun qH=>b1 F.nV #[.slice qH.a qH.len
 qH.cap, .int .i64 n6] cy fun wP b5=>aA wP (aG (b5.alloc (.cells #[.int .i64 n6] aj.int)) fun dg=>∃gb:ak,∃bH:World,Sem.run Tryz.prog (Builtin.append_ #[aj.dD,aj.dD] aj.dD #[.slice bQ.a bQ.len bQ.cap, .slice
 (some (ah b5)) 1 1]) dg= .ok (.slice gb.a gb.len gb.cap) bH∧nj gb bH) (nj bQ b5)) (fun (ct:ak) cp=>r2 ct (aK (n6+1)) cp∧wQ ct (aK (n6+1)) cp<wQ bQ n6 cy)) (Q (.slice bQ.a bQ.len bQ.cap) cy))
def A.pD:bh:=(.s .r (.s a7 (.s .r (.s (.s .r (.cn (.loop [(3, .slice),(11,(.int .i64))] [0,10] (.s .r (.s (.c .l .l) (.s (.jU [(3, .slice)] [0,10,11] (.cn (.s .r (.s .r (.c .r .l))))) .r)))))) (.s .r .l)))))
theorem W.Oi (s:Option Addr) (w:World) (Q:Value→World→Prop) (h:W.pD s w Q):aN Tryz.prog F.pD #[.pointer s] w Q:=okF A.pD Tryz.func107 (by kernel_rfl) (by kernel_rfl) h
def W.nX (n:Int) (w:World) (Q:Value→World→Prop):Prop:=Q (.bool ((decide (n≥1))&&(decide (n≤1600)))) w
def A.nX:bh:=a3
theorem W.Oo (n:Int) (w:World) (Q:Value→World→Prop) (h:W.nX n w Q):aN Tryz.prog F.nX #[.int .i64 n] w Q:=okF A.nX Tryz.func113 (by kernel_rfl) (by kernel_rfl) h
def W.nY (n:Int) (w:World) (Q:Value→World→Prop):Prop:=(8:Int)≠0∧Q (.int .i64 (aK (Int.tdiv (aK ((aK (n+8))-1)) 8))) w
def A.nY:bh:=(.s .r (.s .r .l))
theorem W.Oq (n:Int) (w:World) (Q:Value→World→Prop) (h:W.nY n w Q):aN Tryz.prog F.nY #[.int .i64 n] w Q:=okF A.nY Tryz.func114 (by kernel_rfl) (by kernel_rfl) h
def W.pz (s:ak) (no:Int) (w:World) (Q:Value→World→Prop):Prop:=aG (w.drew) fun ae=>(8:Int)≠0∧∃bB:Addr,s.a=some bB∧bK (aK (Int.tdiv no 8)) s.len∧¬False∧cU ae (bB.add (Int.toNat (aK (Int.tdiv no
 8))*1)) fun aX=>(8:Int)≠0∧(0:Int)≤(Int.tmod no 8)∧∃a4:Addr,s.a=some a4∧bK (aK (Int.tdiv no 8)) s.len∧st ae (a4.add (Int.toNat (aK (Int.tdiv no 8))*1)) (.int .u8 (sh .u8 aX (IntKind.wrap .u8 (1*2^(min
 (Int.toNat (Int.tmod no 8)) 8))))) fun aR=>Q (.tuple #[]) aR
def A.pz:bh:=(.eI 8 false ⟨[0,0,2,5,8,0,32,64,144,511,1023],[0,0,2,5,8,0,32,64,144,5,768]⟩ [16,32,64,128,256,512,1024,2048,4096,8192,0] [1,2,32,80,128,2,512,1024,2304,80,12288] (.take
 0 (.take 1 (.take 2 (.take 3 (.take 4 (.take 5 (.take 6 (.take 7 (.tail [.run, .run, .run]))))))))))
theorem W.N3 (s:ak) (no:Int) (w:World) (Q:Value→World→Prop) (h:W.pz s no w Q):aN Tryz.prog F.pz #[.slice s.a s.len s.cap, .int .i64 no] w Q:=okF A.pz Tryz.func115 (by kernel_rfl) (by kernel_rfl) h
def W.nW (s:Option Addr) (w:World) (Q:Value→World→Prop):Prop:=aA (!(Option.isNone s)) (∃a7:Addr,s=some a7∧aW w (a7.add 1) fun s2=>b8 F.pC #[.slice s2.a s2.len s2.cap] w fun bQ
 bM=>∃fa:Addr,s=some fa∧st bM (fa.add 2) (.slice bQ.a bQ.len bQ.cap) fun cy=>Q (.tuple #[]) cy) (Q (.tuple #[]) w)
def A.nW:bh:=(.s .r (.c .r .l))
theorem W.Of (s:Option Addr) (w:World) (Q:Value→World→Prop) (h:W.nW s w Q):aN Tryz.prog F.nW #[.pointer s] w Q:=okF A.nW Tryz.func116 (by kernel_rfl) (by kernel_rfl) h
def W.rR (no:Int) (w:World) (Q:Value→World→Prop):Prop:=Q (.bool ((decide (no≥0))&&(decide (no<1600)))) w
def A.rR:bh:=a3
theorem W.D_ (no:Int) (w:World) (Q:Value→World→Prop) (h:W.rR no w Q):aN Tryz.prog F.rR #[.int .i64 no] w Q:=okF A.rR Tryz.func117 (by kernel_rfl) (by kernel_rfl) h
def W.rS (g6:Int) (w:World) (Q:Value→World→Prop):Prop:=Q (.bool ((decide (g6≥1))&&(decide (g6≤4)))) w
def A.rS:bh:=a3
theorem W.Ea (g6:Int) (w:World) (Q:Value→World→Prop) (h:W.rS g6 w Q):aN Tryz.prog F.rS #[.int .i64 g6] w Q:=okF A.rS Tryz.func118 (by kernel_rfl) (by kernel_rfl) h
def W.jA (parts:ak) (w:World) (Q:Value→World→Prop):Prop:=∃ (dx:ak→Int→World→Prop) (eJ:ak→Int→World→Nat),dx ⟨none,0,0⟩ 0 w∧∀ (cl:ak) (cc:Int) (aR:World),dx cl cc aR→aA (decide (cc<
 (parts.len:Int))) (∃fa:Addr,parts.a=some fa∧bK cc parts.len∧aW aR (fa.add (Int.toNat cc*1)) fun gR=>∃eO:ak,∃bF:World,Sem.run Tryz.prog (Builtin.append_ #[aj.cf,aj.cf] aj.cf #[.slice cl.a cl.len
 cl.cap, .slice gR.a gR.len gR.cap]) aR= .ok (.slice eO.a eO.len eO.cap) bF∧dx eO (aK (cc+1)) bF∧eJ eO (aK (cc+1)) bF<eJ cl cc aR) (Q (.slice cl.a cl.len cl.cap) aR)
def A.jA:bh:=(.s .r (.s .r (.s (.s .r (.cn (.loop [(3, .slice),(8,(.int .i64))] [6,7] bB))) (.s .r .l))))
theorem W.KR (parts:ak) (w:World) (Q:Value→World→Prop) (h:W.jA parts w Q):aN Tryz.prog F.jA #[.slice parts.a parts.len parts.cap] w Q:=okF A.jA Tryz.func119 (by kernel_rfl) (by kernel_rfl) h
def W.dU (b:ak) (n:Int) (size:Int) (w:World) (Q:Value→World→Prop):Prop:=b8 F.iU #[.slice b.a b.len b.cap] w fun cl ae=>b1 F.rT #[.int .i64 size] ae fun gY a_=>aA (!gY) (Q (.slice cl.a
 cl.len cl.cap) a_) (∃ (Dl:ak→Int→World→Prop) (JR:ak→Int→World→Nat),Dl cl (aK (size-1)) a_∧∀ (eZ:ak) (n10:Int) (b5:World),Dl eZ n10 b5→aA (decide (n10≥0)) ((0:Int)≤(aK (8*n10))∧aG (b5.alloc (.cells
 #[.int .u8 (IntKind.wrap .u8 (Int.fdiv n (2^(min (Int.toNat (aK (8*n10))) 64))))] aj.uint8)) fun bm=>∃oG:ak,∃dg:World,Sem.run Tryz.prog (Builtin.append_ #[aj.cf,aj.cf] aj.cf #[.slice eZ.a eZ.len eZ.cap,
 .slice (some (ah b5)) 1 1]) bm= .ok (.slice oG.a oG.len oG.cap) dg∧Dl oG (aK (n10-1)) dg∧JR oG (aK (n10-1)) dg<JR eZ n10 b5) (Q (.slice eZ.a eZ.len eZ.cap) b5))
def A.dU:bh:=(.s .r (.s .r (.s a7 (.s (.s .r (.cn (.loop [(7, .slice),(8,(.int .i64))] [1] (.s (.s .r (.c .l .l)) (.s (.cn .r) .r))))) (.s .r .l)))))
theorem W.KG (b:ak) (n:Int) (size:Int) (w:World) (Q:Value→World→Prop) (h:W.dU b n size w Q):aN Tryz.prog F.dU #[.slice b.a b.len b.cap, .int .u64 n, .int .i64 size] w Q:=okF A.dU Tryz.func120 (by kernel_rfl) (by kernel_rfl) h
def W.kz (b:ak) (w:World) (Q:Value→World→Prop):Prop:=aG (w.drew) fun ae=>((0:Int)≤20∧20≤((b.cap:Nat):Int))∧((0:Int)≤24∧24≤(b.len:Int))∧aG (ae.alloc (.cells #[.slice (b7 b.a 1 0 b.cap)
 ((Int.toNat 20)-0) (b.cap-0), .slice (b7 b.a 1 (Int.toNat 24) b.cap) (b.len-(Int.toNat 24)) (b.cap-(Int.toNat 24))] aj.cf)) fun av=>gQ F.oU #[.slice (some (ah ae)) 2 2] av fun n5 bM=>Q (.int .u32 n5) bM
def A.kz:bh:=(.s .r (.s (.eI 4 false ⟨[0,1,0,4,10,16,63],[0,1,0,4,10,16,32]⟩ [8,16,32,64,128,256,4] [1,8,1,32,80,128,256] (.take 0 (.take 1 (.take 2 (.take 3 (.tail [.run, .run, .run])))))) .l))
theorem W.K2 (b:ak) (w:World) (Q:Value→World→Prop) (h:W.kz b w Q):aN Tryz.prog F.kz #[.slice b.a b.len b.cap] w Q:=okF A.kz Tryz.func121 (by kernel_rfl) (by kernel_rfl) h
def W.mH (jY:Int) (jZ:Int) (j0:Int) (j1:Int) (j2:Int) (j3:Int) (zy:Int) (w:World) (Q:Value→World→Prop):Prop:=aG (w.alloc (.cells #[.int .i64 jY, .int .i64 jZ, .int
 .i64 j0, .int .u64 j1, .int .u64 j2, .int .i64 j3] aj.jf)) fun ae=>aE ae (ah w) fun cH=>b8 F.dU #[.slice none 0 0, .int .u64 (IntKind.wrap .u64 cH), .int .i64 4] ae fun bQ bM=>aE bM (Addr.add (ah w) 1)
 fun n6=>b8 F.dU #[.slice bQ.a bQ.len bQ.cap, .int .u64 (IntKind.wrap .u64 n6), .int .i64 1] bM fun eZ cy=>aE cy (Addr.add (ah w) 2) fun n10=>b8 F.dU #[.slice eZ.a eZ.len eZ.cap, .int .u64 (IntKind.wrap .u64 n10), .int .i64
 4] cy fun oG b5=>b8 F.dU #[.slice oG.a oG.len oG.cap, .int .u64 (IntKind.wrap .u64 zy), .int .i64 4] b5 fun ef dg=>bE dg (Addr.add (ah w) 3) fun n17=>b8 F.dU #[.slice ef.a ef.len ef.cap, .int .u64 n17, .int
 .i64 8] dg fun fo cp=>bE cp (Addr.add (ah w) 4) fun n21=>b8 F.dU #[.slice fo.a fo.len fo.cap, .int .u64 n21, .int .i64 8] cp fun nn c_=>aE c_ (Addr.add (ah w) 5) fun n25=>b8 F.dU #[.slice nn.a nn.len nn.cap,
 .int .u64 (IntKind.wrap .u64 n25), .int .i64 4] c_ fun eH de=>Q (.slice eH.a eH.len eH.cap) de
def A.mH:bh:=(.s .r (.s .r (.s .r (.s .r (.s .r a4)))))
theorem W.MW (jY:Int) (jZ:Int) (j0:Int) (j1:Int) (j2:Int) (j3:Int) (zy:Int) (w:World) (Q:Value→World→Prop) (h:W.mH jY jZ j0 j1 j2 j3 zy w Q):aN Tryz.prog F.mH #[.agg #[.int .i64 jY, .int .i64 jZ, .int .i64 j0, .int .u64 j1, .int .u64 j2, .int .i64 j3], .int .i64 zy] w Q:=okF A.mH Tryz.func123 (by kernel_rfl) (by kernel_rfl) h
def W.mP (d:Option Addr) (dh:Int) (w:World) (Q:Value→World→Prop):Prop:=aA (((Option.isNone d)||(decide (dh<8)))||(decide (dh>64))) (Q (.tuple #[.pointer none, .int .i64 1]) w) (((0:Int)≤dh
 ∧dh≤dh∧dh≤kB∧((48:Nat):Int)*dh≤140737488355328)∧aG (w.alloc (.cells (gy Tryz.prog aj.lP (Int.toNat dh)) aj.lP)) fun ae=>aG (ae.alloc (.cells #[.pointer d, .slice (some (ah w))
 (Int.toNat dh) (Int.toNat dh), .int .i64 0] aj.F4)) fun av=>Q (.tuple #[.pointer (some (ah ae)), .int .i64 0]) av)
def A.mP:bh:=(.s .r (.s (.s (.dI [.run, .run, .run, .pure 2, .run, .run, .run, .pure 2]) (.c (.s .r .l) .l)) (.s .r .l)))
theorem W.OI (d:Option Addr) (dh:Int) (w:World) (Q:Value→World→Prop) (h:W.mP d dh w Q):aN Tryz.prog F.mP #[.pointer d, .int .i64 dh] w Q:=okF A.mP Tryz.func124 (by kernel_rfl) (by kernel_rfl) h
def W.mQ (c:Option Addr) (s:Option Addr) (gen:Int) (root:Int) (bG:Int) (w:World) (Q:Value→World→Prop):Prop:=bZ (fun eN:Bool→World→Prop=>aA (((((Option.isNone c)||(Option.isNone s))||(decide
 (bG<0)))||(decide (bG>12)))||(decide (root<0))) (eN true w) (∃bB:Addr,c=some bB∧∃fZ:Option Addr,w.cell? bB=some (.pointer fZ)∧bN F.lC #[.pointer fZ] w fun n6 a_=>eN (decide (root≥n6)) a_))
 (fun (fy:Bool) bC=>aA (fy||(!((root==0)==(bG==0)))) (Q (.tuple #[.pointer none, .int .i64 1]) bC) (aG (bC.alloc (.cells #[.pointer c, .pointer s, .int .u64 gen, .int .i64 root, .int .i64 bG] aj.A2)) fun bF=>Q
 (.tuple #[.pointer (some (ah bC)), .int .i64 0]) bF))
def A.mQ:bh:=(.s .r (.s (.s (.dI [.run, .run, .run, .pure 2, .run, .run, .run, .pure 2, .run, .run, .run, .pure 2, .run, .run, .run, .pure 2, .run, .run, .run, .split 7, .run, .run, .run, .run, .run, .run, .run, .run, .pure 5])
 (.c (.s .r .l) .l)) (.s .r .l)))
theorem W.ON (c:Option Addr) (s:Option Addr) (gen:Int) (root:Int) (bG:Int) (w:World) (Q:Value→World→Prop) (h:W.mQ c s gen root bG w Q):aN Tryz.prog F.mQ #[.pointer c, .pointer s, .int .u64 gen, .int .i64 root, .int .i64 bG] w Q:=okF A.mQ Tryz.func125 (by kernel_rfl) (by kernel_rfl) h
end
section
set_option maxRecDepth 100000
def W.mI (no:Int) (b:ak) (w:World) (Q:Value→World→Prop):Prop:=aG (w.alloc fc) fun ae=>mJ F.jB #[.int .i64 no, .slice b.a b.len b.cap] ae fun cc n5 dp n7 av=>aG (av.alloc z4) fun bC=>cd bC (ah
 av) [.int .i64 cc, .int .u64 n5, .slice dp.a dp.len dp.cap]∧(3:Nat)=3∧aG (setCells bC (ah av) 0 [.int .i64 cc, .int .u64 n5, .slice dp.a dp.len dp.cap]) fun bF=>aA (n7 !=0) (aE bF (ah w) fun n10=>aE bF (Addr.add (ah w) 1) fun
 n11=>aE bF (Addr.add (ah w) 2) fun n12=>bE bF (Addr.add (ah w) 3) fun n13=>bE bF (Addr.add (ah w) 4) fun n14=>aE bF (Addr.add (ah w) 5) fun n15=>cd bF (ah w) [.int .i64 n10, .int .i64 n11, .int .i64 n12, .int .u64 n13, .int
 .u64 n14, .int .i64 n15]∧(6:Nat)=6∧aG (setCells bF (ah w) 0 [.int .i64 n10, .int .i64 n11, .int .i64 n12, .int .u64 n13, .int .u64 n14, .int .i64 n15]) fun bH=>aE bH (ah w) fun n17=>aE bH (Addr.add (ah w) 1) fun n18=>aE bH
 (Addr.add (ah w) 2) fun n19=>bE bH (Addr.add (ah w) 3) fun n20=>bE bH (Addr.add (ah w) 4) fun n21=>aE bH (Addr.add (ah w) 5) fun n22=>Q (.tuple #[.agg #[.int .i64 n17, .int .i64 n18, .int .i64 n19, .int .u64 n20, .int .u64 n21,
 .int .i64 n22], .int .i64 0, .int .u64 0, .int .i64 n7]) bH) (aE bF (ah av) fun n23=>bZ (fun qm:Bool→World→Prop=>aA (n23 !=3) (qm true bF) (aW bF (Addr.add (ah av) 2) fun jl=>qm ((jl.len:Int) !=33) bF)) (fun (Tq:Bool)
 cM=>aA Tq (aE cM (ah w) fun n28=>aE cM (Addr.add (ah w) 1) fun n29=>aE cM (Addr.add (ah w) 2) fun n30=>bE cM (Addr.add (ah w) 3) fun n31=>bE cM (Addr.add (ah w) 4) fun n32=>aE cM (Addr.add (ah w) 5) fun n33=>cd
 cM (ah w) [.int .i64 n28, .int .i64 n29, .int .i64 n30, .int .u64 n31, .int .u64 n32, .int .i64 n33]∧(6:Nat)=6∧aG (setCells cM (ah w) 0 [.int .i64 n28, .int .i64 n29, .int .i64 n30, .int .u64 n31, .int .u64 n32, .int .i64 n33])
 fun cO=>AH cO w Q) (aW cM (Addr.add (ah av) 2) fun gE=>aG (cM.alloc (.cells #[.slice gE.a gE.len gE.cap, .int .i64 0] aj.x3)) fun gX=>hC F.jg #[.pointer (some (ah cM)), .int .i64 4] gX fun oD dF
 =>hC F.jg #[.pointer (some (ah cM)), .int .i64 1] dF fun wx uU=>hC F.jg #[.pointer (some (ah cM)), .int .i64 4] uU fun C4 pn=>st pn (ah w) (.int .i64 (aK oD)) fun sJ=>st sJ (Addr.add (ah w)
 1) (.int .i64 (aK wx)) fun Fx=>st Fx (Addr.add (ah w) 2) (.int .i64 (aK C4)) fun iH=>hC F.jg #[.pointer (some (ah cM)), .int .i64 4] iH fun tT e2=>hC F.jg #[.pointer (some (ah cM)), .int .i64
 8] e2 fun Tr x9=>hC F.jg #[.pointer (some (ah cM)), .int .i64 8] x9 fun tH x_=>hC F.jg #[.pointer (some (ah cM)), .int .i64 4] x_ fun oE Fy=>st Fy (Addr.add (ah w) 3) (.int .u64 Tr) fun kL
 =>st kL (Addr.add (ah w) 4) (.int .u64 tH) fun sK=>st sK (Addr.add (ah w) 5) (.int .i64 (aK oE)) fun iI=>aE iI (ah w) fun Ts=>aE iI (Addr.add (ah w) 1) fun rW=>bZ (fun JS:Bool→World→Prop=>aA (!((Ts==0)==(rW
 ==0))) (JS true iI) (aE iI (Addr.add (ah w) 1) fun CY=>JS (decide (CY>12)) iI)) (fun (Tt:Bool) Dm=>bZ (fun JT:Bool→World→Prop=>aA Tt (JT true Dm) (aE Dm (ah w) fun Tu=>JT (decide (Tu≥(aK tT))) Dm))
 (fun (Tv:Bool) Dn=>bZ (fun JU:Bool→World→Prop=>aA Tv (JU true Dn) (aE Dn (Addr.add (ah w) 2) fun Tw=>JU (decide (Tw≥(aK tT))) Dn)) (fun (Dp:Bool) Dq=>bZ (fun JV:Bool→World→Prop=>aA Dp (JV true
 Dq) (aE Dq (Addr.add (ah w) 2) fun Tx=>JV (decide (Tx<2)) Dq)) (fun (Ty:Bool) Dr=>aA (Ty||(decide (((aK tT):Int)>1600))) (cd Dr (ah w) [.int .i64 0, .int .i64 0, .int .i64 0, .int .u64 0, .int .u64 0, .int .i64
 0]∧(6:Nat)=6∧aG (setCells Dr (ah w) 0 [.int .i64 0, .int .i64 0, .int .i64 0, .int .u64 0, .int .u64 0, .int .i64 0]) fun mL=>AH mL w Q) (aG (Dr.drew) fun np=>∃Ds:Nat→Prop,¬Ds ((ah w):Addr).block∧aE np (ah w)
 fun JW=>aE np (Addr.add (ah w) 1) fun JX=>aE np (Addr.add (ah w) 2) fun zr=>bE np (Addr.add (ah w) 3) fun JY=>bE np (Addr.add (ah w) 4) fun zt=>aE np (Addr.add (ah w) 5) fun zu=>¬Ds (Addr.add (ah av) 1).block∧
 bE np (Addr.add (ah av) 1) fun CZ=>cd np (ah w) [.int .i64 JW, .int .i64 JX, .int .i64 zr, .int .u64 JY, .int .u64 zt, .int .i64 zu]∧(6:Nat)=6∧aG (setCells np (ah w) 0 [.int .i64 JW, .int .i64 JX, .int .i64
 zr, .int .u64 JY, .int .u64 zt, .int .i64 zu]) fun kh=>aq Ds np kh∧aE kh (ah w) fun Tz=>aE kh (Addr.add (ah w) 1) fun TA=>aE kh (Addr.add (ah w) 2) fun C0=>bE kh (Addr.add (ah w) 3) fun TB=>bE kh
 (Addr.add (ah w) 4) fun TC=>aE kh (Addr.add (ah w) 5) fun TD=>Q (.tuple #[.agg #[.int .i64 Tz, .int .i64 TA, .int .i64 C0, .int .u64 TB, .int .u64 TC, .int .i64 TD], .int .i64 (aK tT), .int .u64 CZ, .int .i64 0])
 kh))))))))
def A.mI:bh:=(.s .r (.s .r (.s a7 (.s fa (.s .r (.s .r (.s .r (.s .r (.s (.s (.dI [.run, .run, .run, .run, .run, .run, .run, .run, .split 3, .run, .run, .run, .run, .split 4, .run, .run, .run, .run, .run, .split 4, .run,
 .run, .run, .run, .run, .split 3, .run, .run, .run, .run, .pure 2]) (.c (.s .r .l) .l)) (.s (.eI 6 true ⟨[0,0,0,4,1,19,63,127],[0,0,0,4,1,2,8,0]⟩ [9903520314283042199192993792,19807040628566084398385987584,
 39614081257132168796771975168,79228162514264337593543950336,0,32,64,128] [16,32,256,39614081257132168796771975168,9903520314283042199192993808,19807040628566084398385987584,79228162514264337593543950336,0] (.take 0 (.take 1
 (.take 2 (.take 3 (.e_ 4 (.take 5 (.tail [.run, .run])))))))) .l))))))))))
theorem W.MZ (no:Int) (b:ak) (w:World) (Q:Value→World→Prop) (h:W.mI no b w Q):aN Tryz.prog F.mI #[.int .i64 no, .slice b.a b.len b.cap] w Q:=okF A.mI Tryz.func145 (by kernel_rfl) (by kernel_rfl) h
def W.lz (leaf:Bool) (b:ak) (w:World) (Q:Value→World→Prop):Prop:=aG (w.alloc z5) fun ae=>aG (ae.alloc (.cells #[.slice b.a b.len b.cap, .bool true] aj.EF)) fun av=>aG (av.alloc z5) fun bM=>cd bM
 (ah av) [.bool leaf, .slice none 0 0, .slice none 0 0, .slice none 0 0]∧(4:Nat)=4∧aG (setCells bM (ah av) 0 [.bool leaf, .slice none 0 0, .slice none 0 0, .slice none 0 0]) fun a_=>bN F.lq #[.pointer (some (ah
 ae)), .int .i64 1] a_ fun n7 aR=>bZ (fun nj:World→Prop=>aA (!leaf) (Ao aR av ae nj) (nj aR)) (fun cJ=>∃ (Dt:Int→World→Prop) (JZ:Int→World→Nat),Dt 0 cJ∧∀ (n22:Int) (g2:World),Dt n22 g2→aA (decide (n22
 <n7)) (bZ (fun qm:World→Prop=>aG (g2.drew) fun cP=>∃jd:Nat→Prop,¬jd (Addr.add (ah av) 1).block∧aW cP (Addr.add (ah av) 1) fun dr=>b8 F.lr #[.pointer (some (ah ae))] cP fun h9 b3=>aq jd cP b3
 ∧aG (b3.alloc (.cells #[.slice h9.a h9.len h9.cap] aj.cf)) fun cN=>aq jd b3 cN∧∃cm:ak,∃dP:World,Sem.run Tryz.prog (Builtin.append_ #[aj.fJ,aj.fJ] aj.fJ #[.slice dr.a dr.len
 dr.cap, .slice (some (ah b3)) 1 1]) cN= .ok (.slice cm.a cm.len cm.cap) dP∧st dP (Addr.add (ah av) 1) (.slice cm.a cm.len cm.cap) fun cO=>aA leaf (aG (cO.drew) fun rv=>∃Du:Nat→Prop,¬Du (Addr.add (ah av)
 2).block∧aW rv (Addr.add (ah av) 2) fun ed=>b8 F.lr #[.pointer (some (ah ae))] rv fun k5 eT=>aq Du rv eT∧aG (eT.alloc (.cells #[.slice k5.a k5.len k5.cap] aj.cf)) fun ml=>aq Du eT ml∧∃tV:
 ak,∃dF:World,Sem.run Tryz.prog (Builtin.append_ #[aj.fJ,aj.fJ] aj.fJ #[.slice ed.a ed.len ed.cap, .slice (some (ah eT)) 1 1]) ml= .ok (.slice tV.a tV.len tV.cap) dF∧st dF (Addr.add (ah av) 2)
 (.slice tV.a tV.len tV.cap) fun gn=>qm gn) (Ao cO av ae qm)) (fun e2=>Dt (aK (n22+1)) e2∧JZ (aK (n22+1)) e2<JZ n22 g2)) (fK g2 (ah av) fun TE=>aW g2 (Addr.add (ah av) 1) fun Dv=>aW g2 (Addr.add (ah av) 2)
 fun r0=>aW g2 (Addr.add (ah av) 3) fun Dw=>fO F.mB #[.agg #[.bool TE, .slice Dv.a Dv.len Dv.cap, .slice r0.a r0.len r0.cap, .slice Dw.a Dw.len Dw.cap]] g2 fun Dx tH Dy=>∃a64:Addr,(some (ah ae):Option
 Addr)=some a64∧fK Dy (a64.add 1) fun TF=>bZ (fun J0:Bool→World→Prop=>aA ((!TF)||(tH !=0)) (J0 true Dy) (b1 F.mq #[.slice Dx.a Dx.len Dx.cap, .slice b.a b.len b.cap] Dy fun TG kL=>J0 (!TG) kL))
 (fun (TH:Bool) fR=>aA TH (cd fR (ah w) [.bool false, .slice none 0 0, .slice none 0 0, .slice none 0 0]∧(4:Nat)=4∧aG (setCells fR (ah w) 0 [.bool false, .slice none 0 0, .slice none 0 0, .slice none 0 0]) fun wR=>fK
 wR (ah w) fun TI=>aW wR (Addr.add (ah w) 1) fun wE=>aW wR (Addr.add (ah w) 2) fun Dz=>aW wR (Addr.add (ah w) 3) fun DA=>Q (.tuple #[.agg #[.bool TI, .slice wE.a wE.len wE.cap, .slice Dz.a Dz.len Dz.cap, .slice DA.a
 DA.len DA.cap], .int .i64 4]) wR) (fK fR (ah av) fun J1=>aW fR (Addr.add (ah av) 1) fun tW=>aW fR (Addr.add (ah av) 2) fun tX=>aW fR (Addr.add (ah av) 3) fun tY=>cd fR (ah w) [.bool J1, .slice tW.a tW.len
 tW.cap, .slice tX.a tX.len tX.cap, .slice tY.a tY.len tY.cap]∧(4:Nat)=4∧aG (setCells fR (ah w) 0 [.bool J1, .slice tW.a tW.len tW.cap, .slice tX.a tX.len tX.cap, .slice tY.a tY.len tY.cap]) fun wS=>fK wS (ah w)
 fun Dp=>aW wS (Addr.add (ah w) 1) fun DB=>aW wS (Addr.add (ah w) 2) fun DC=>aW wS (Addr.add (ah w) 3) fun DD=>Q (.tuple #[.agg #[.bool Dp, .slice DB.a DB.len DB.cap, .slice DC.a DC.len DC.cap, .slice DD.a DD.len
 DD.cap], .int .i64 0]) wS))))
def A.lz:bh:=(.s .r (.s .r (.s .r (.s (.jU [] [0,1,4,6,7,8] (.s .r (.c (.eI 5 true ⟨[0,1,0,4,8,26,63,127],[0,1,0,4,8,18,0,96]⟩ [1048576,2097152,4194304,8388608,16777216,33554432,67108864,0] [128,
 1048576,64,4194304,8388608,18874368,128,100663296] (.take 0 (.take 1 (.take 2 (.e_ 3 (.e_ 4 (.tail [.run, .run, .run]))))))) .l))) (.s (.s .r (.cn (.loop [(28,(.int .i64))] [0,1,4,6,7,27] (.s .r (.s (.c .l .l) (.s (.jU [] [0,
 1,4,6,7,27,28] (.cn (.s (.eI 5 true ⟨[0,1,0,4,8,26,63,127],[0,1,0,4,8,18,0,96]⟩ [1073741824,2147483648,4294967296,8589934592,17179869184,34359738368,68719476736,0] [128,1073741824,64,4294967296,8589934592,
 19327352832,128,103079215104] (.take 0 (.take 1 (.take 2 (.e_ 3 (.e_ 4 (.tail [.run, .run, .run]))))))) (.s .r (.c (.eI 5 true ⟨[0,1,0,4,8,26,63,127],[0,1,0,4,8,18,0,96]⟩ [274877906944,549755813888,1099511627776,
 2199023255552,4398046511104,8796093022208,17592186044416,0] [128,274877906944,64,1099511627776,2199023255552,4947802324992,128,26388279066624] (.take 0 (.take 1 (.take 2 (.e_ 3 (.e_ 4 (.tail [.run, .run, .run]))))))) (.eI 5
 true ⟨[0,1,0,4,8,26,63,127],[0,1,0,4,8,18,0,96]⟩ [35184372088832,70368744177664,140737488355328,281474976710656,562949953421312,1125899906842624,2251799813685248,0] [128,35184372088832,64,140737488355328,
 281474976710656,633318697598976,128,3377699720527872] (.take 0 (.take 1 (.take 2 (.e_ 3 (.e_ 4 (.tail [.run, .run, .run])))))))))))) .r)))))) (.s .r (.s (.s (.dI [.run, .run, .run, .run, .run, .run, .pure 2, .run, .run, .run, .split
 4]) (.c (.s .r .l) .l)) (.s .r .l))))))))
theorem W.L1 (leaf:Bool) (b:ak) (w:World) (Q:Value→World→Prop) (h:W.lz leaf b w Q):aN Tryz.prog F.lz #[.bool leaf, .slice b.a b.len b.cap] w Q:=okF A.lz Tryz.func154 (by kernel_rfl) (by kernel_rfl) h
def W.iC (b:ak) (ek:Int) (zz:Int) (w:World) (Q:Value→World→Prop):Prop:=su F.iz #[.slice b.a b.len b.cap, .int .i64 ek, .int .i64 (aK (zz-ek))] w fun aX eh ae=>Q (.int .u64 aX) ae
def A.iC:bh:=a4
theorem W.Lc (b:ak) (ek:Int) (zz:Int) (w:World) (Q:Value→World→Prop) (h:W.iC b ek zz w Q):aN Tryz.prog F.iC #[.slice b.a b.len b.cap, .int .i64 ek, .int .i64 zz] w Q:=okF A.iC Tryz.func155 (by kernel_rfl) (by kernel_rfl) h
def W.mm (b:ak) (w:World) (Q:Value→World→Prop):Prop:=∃ (dx:Int→World→Prop) (eJ:Int→World→Nat),dx 0 w∧∀ (aX:Int) (a_:World),dx aX a_→aA (decide (aX<(b.len:Int))) (∃a5:Addr,b.a=some a5∧bK
 aX b.len∧cU a_ (a5.add (Int.toNat aX*1)) fun n6=>aA (n6 !=0) (Q (.bool false) a_) (dx (aK (aX+1)) a_∧eJ (aK (aX+1)) a_<eJ aX a_)) (Q (.bool true) a_)
def A.mm:bh:=(.s .r (.s (.s .r (.cn (.loop [(7,(.int .i64))] [5,6] (.s .r (.s (.c .l .l) (.s (.cn (.s .r a7)) .r)))))) (.s .r .l)))
theorem W.Ld (b:ak) (w:World) (Q:Value→World→Prop) (h:W.mm b w Q):aN Tryz.prog F.mm #[.slice b.a b.len b.cap] w Q:=okF A.mm Tryz.func156 (by kernel_rfl) (by kernel_rfl) h
def W.mi (b:ak) (ek:Int) (size:Int) (w:World) (Q:Value→World→Prop):Prop:=qz F.ky #[.slice b.a b.len b.cap, .int .i64 ek, .int .i64 size] w fun cl eh ae=>b8 F.iU #[.slice cl.a cl.len
 cl.cap] ae fun gR aR=>Q (.tuple #[.slice gR.a gR.len gR.cap, .bool eh]) aR
def A.mi:bh:=a4
theorem W.KU (b:ak) (ek:Int) (size:Int) (w:World) (Q:Value→World→Prop) (h:W.mi b ek size w Q):aN Tryz.prog F.mi #[.slice b.a b.len b.cap, .int .i64 ek, .int .i64 size] w Q:=okF A.mi Tryz.func157 (by kernel_rfl) (by kernel_rfl) h
def W.pA (s:Option Addr) (no:Int) (w:World) (Q:Value→World→Prop):Prop:=bZ (fun eN:Bool→World→Prop=>aA ((!(Option.isNone s))&&(decide (no≥0))) (∃bB:Addr,s=some bB∧aE w bB fun aX=>eN (decide
 (no<aX)) w) (eN false w)) (fun (eh:Bool) aR=>Q (.bool eh) aR)
def A.pA:bh:=(.s .r (.s (.dI [.run, .run, .run, .pure 2, .run, .run, .run, .split 6]) .l))
theorem W.N7 (s:Option Addr) (no:Int) (w:World) (Q:Value→World→Prop) (h:W.pA s no w Q):aN Tryz.prog F.pA #[.pointer s, .int .i64 no] w Q:=okF A.pA Tryz.func160 (by kernel_rfl) (by kernel_rfl) h
def W.nV (s:ak) (no:Int) (w:World) (Q:Value→World→Prop):Prop:=(8:Int)≠0∧∃a7:Addr,s.a=some a7∧bK (aK (Int.tdiv no 8)) s.len∧cU w (a7.add (Int.toNat (aK (Int.tdiv no 8))*1)) fun cH=>(8:Int)≠0
 ∧(0:Int)≤(Int.tmod no 8)∧Q (.bool (((j5 .u8 (Int.fdiv cH (2^(min (Int.toNat (Int.tmod no 8)) 8))) 1):Int)==1)) w
def A.nV:bh:=(.s .r (.s .r .l))
theorem W.N1 (s:ak) (no:Int) (w:World) (Q:Value→World→Prop) (h:W.nV s no w Q):aN Tryz.prog F.nV #[.slice s.a s.len s.cap, .int .i64 no] w Q:=okF A.nV Tryz.func161 (by kernel_rfl) (by kernel_rfl) h
def W.rT (size:Int) (w:World) (Q:Value→World→Prop):Prop:=Q (.bool ((decide (size≥1))&&(decide (size≤8)))) w
def A.rT:bh:=a3
theorem W.DT (size:Int) (w:World) (Q:Value→World→Prop) (h:W.rT size w Q):aN Tryz.prog F.rT #[.int .i64 size] w Q:=okF A.rT Tryz.func165 (by kernel_rfl) (by kernel_rfl) h
def W.oU (parts:ak) (w:World) (Q:Value→World→Prop):Prop:=∃ (dx:Int→Int→World→Prop) (eJ:Int→Int→World→Nat),dx 4294967295 0 w∧∀ (aX:Int) (cc:Int) (aR:World),dx aX cc aR→aA (decide (cc<
 (parts.len:Int))) (∃fa:Addr,parts.a=some fa∧bK cc parts.len∧aW aR (fa.add (Int.toNat cc*1)) fun gR=>gQ F.mj #[.int .u32 aX, .slice gR.a gR.len gR.cap] aR fun n10 bC=>dx n10 (aK (cc+1)) bC∧eJ n10 (aK (cc+1)) bC<
 eJ aX cc aR) (Q (.int .u32 (qC .u32 4294967295 aX)) aR)
def A.oU:bh:=(.s .r (.s .r (.s (.s .r (.cn (.loop [(3,(.int .u32)),(8,(.int .i64))] [6,7] bB))) (.s .r .l))))
theorem W.K1 (parts:ak) (w:World) (Q:Value→World→Prop) (h:W.oU parts w Q):aN Tryz.prog F.oU #[.slice parts.a parts.len parts.cap] w Q:=okF A.oU Tryz.func166 (by kernel_rfl) (by kernel_rfl) h
def W.mw (g7:Bool) (dQ:ak) (dR:ak) (dS:ak) (w:World) (Q:Value→World→Prop):Prop:=aG (w.alloc (.cells #[.bool g7, .slice dQ.a dQ.len dQ.cap, .slice dR.a dR.len dR.cap,
 .slice dS.a dS.len dS.cap] aj.mC)) fun ae=>aW ae (Addr.add (ah w) 1) fun s2=>∃ (r2:Int→World→Prop) (wQ:Int→World→Nat),r2 0 ae∧∀ (n5:Int) (bq:World),r2 n5 bq→aA (decide (n5<(s2.len:Int))) (∃kt:
 Addr,s2.a=some kt∧bK n5 s2.len∧aW bq (kt.add (Int.toNat n5*1)) fun eO=>b1 F.mv #[.slice eO.a eO.len eO.cap] bq fun oF bF=>bZ (fun J2:Bool→World→Prop=>aA (!oF) (J2 true bF) (bZ (fun wD:Bool→World→Prop
 =>aA (decide (n5>0)) (aW bF (Addr.add (ah w) 1) fun c9=>∃qk:Addr,c9.a=some qk∧bK (aK (n5-1)) c9.len∧aW bF (qk.add (Int.toNat (aK (n5-1))*1)) fun ef=>bN F.mo #[.slice ef.a ef.len ef.cap, .slice
 eO.a eO.len eO.cap] bF fun n19 ey=>wD (decide (n19≥0)) ey) (wD false bF)) (fun (wN:Bool) eu=>J2 wN eu))) (fun (TJ:Bool) g2=>aA TJ (Q (.bool false) g2) (r2 (aK (n5+1)) g2∧wQ (aK (n5+1)) g2<wQ n5 bq))) (fK
 bq (ah w) fun wH=>aA wH (aW bq (Addr.add (ah w) 2) fun jl=>aW bq (Addr.add (ah w) 1) fun f_=>bZ (fun J3:Bool→World→Prop=>aA ((jl.len:Int)==(f_.len:Int)) (aW bq (Addr.add (ah w) 3) fun eH=>J3 ((eH.len:Int)==0)
 bq) (J3 false bq)) (fun (TK:Bool) jv=>bZ (fun J4:Bool→World→Prop=>aA TK (aW jv (Addr.add (ah w) 2) fun cm=>b1 F.o0 #[.slice cm.a cm.len cm.cap, .func (.func F.lk) #[]
 #[]] jv fun ql dP=>J4 (!ql) dP) (J4 false jv)) (fun (DE:Bool) p4=>Q (.bool DE) p4))) (aW bq (Addr.add (ah w) 1) fun TL=>bZ (fun J5:Bool→World→Prop=>aA (decide ((TL.len:Int)>0)) (aW bq (Addr.add (ah w) 3) fun
 k5=>aW bq (Addr.add (ah w) 1) fun gE=>J5 ((k5.len:Int)==(aK ((gE.len:Int)+1))) bq) (J5 false bq)) (fun (DF:Bool) dF=>bZ (fun J6:Bool→World→Prop=>aA DF (aW dF (Addr.add (ah w) 2) fun TM=>J6 ((TM.len:Int)
 ==0) dF) (J6 false dF)) (fun (DG:Bool) pZ=>bZ (fun J7:Bool→World→Prop=>aA DG (aW pZ (Addr.add (ah w) 3) fun DH=>b1 F.o2 #[.slice DH.a DH.len DH.cap, .func (.func F.ll) #[]
 #[]] pZ fun TN wA=>J7 (!TN) wA) (J7 false pZ)) (fun (Dj:Bool) iH=>Q (.bool Dj) iH)))))
def A.mw:bh:=(.s .r (.s (.s .r (.cn (.loop [(10,(.int .i64))] [1,8,9] (.s .r (.s (.c .l .l) (.s (.cn (.s .r (.s (.dI [.run, .run, .run, .run, .split 13, .run, .run, .split 9]) (.c (.s .r .l) .l)))) .r)))))) (.s (.s .r (.c
 (.s .r (.s (.dI [.run, .run, .run, .run, .run, .run, .run, .run, .split 4, .run, .run, .run, .run, .run, .split 5]) .l)) .l)) (.s .r (.s (.dI [.run, .run, .run, .run, .run, .split 8, .run, .run, .run, .run, .run, .run, .run, .run, .run,
 .split 4, .run, .run, .run, .run, .run, .split 5]) .l)))))
theorem W.LH (g7:Bool) (dQ:ak) (dR:ak) (dS:ak) (w:World) (Q:Value→World→Prop) (h:W.mw g7 dQ dR dS w Q):aN Tryz.prog F.mw #[.agg #[.bool g7, .slice dQ.a dQ.len dQ.cap, .slice dR.a dR.len dR.cap, .slice dS.a dS.len dS.cap]] w Q:=okF A.mw Tryz.func174 (by kernel_rfl) (by kernel_rfl) h
end
section
set_option maxRecDepth 100000
def W.mv (g6:ak) (w:World) (Q:Value→World→Prop):Prop:=Q (.bool ((decide ((g6.len:Int)≥1))&&(decide ((g6.len:Int)≤24)))) w
def A.mv:bh:=(.s .r (.s (.dI [.run, .run, .run, .run, .pure 3]) .l))
theorem W.LG (g6:ak) (w:World) (Q:Value→World→Prop) (h:W.mv g6 w Q):aN Tryz.prog F.mv #[.slice g6.a g6.len g6.cap] w Q:=okF A.mv Tryz.func180 (by kernel_rfl) (by kernel_rfl) h
def W.jg (f:Option Addr) (size:Int) (w:World) (Q:Value→World→Prop):Prop:=aG (w.drew) fun ae=>∃J8:Nat→Prop,∃a3:Addr,f=some a3∧¬J8 a3.block∧aW ae a3 fun cE=>∃a5:Addr,f=some a5∧¬J8
 (a5.add 1).block∧aE ae (a5.add 1) fun n6=>su F.iz #[.slice cE.a cE.len cE.cap, .int .i64 n6, .int .i64 size] ae fun n9 zx cy=>∃J9:Addr,f=some J9∧aE cy (J9.add 1) fun n12=>∃qh:Addr,f=some qh∧st cy (qh.add
 1) (.int .i64 (aK (n12+size))) fun dg=>Q (.int .u64 n9) dg
def A.jg:bh:=(.s .r (.s (.eI 14 true ⟨[0,1,2,4,0,16,32,64,0,392,512,1024,1024,4095,16383],[0,1,2,4,0,16,32,64,0,392,512,1024,1024,2048,4096]⟩ [256,512,1024,2048,4096,8192,16384,32768,
 65536,131072,128,262144,524288,32,64] [1,256,512,1024,1,4096,8192,16384,2,100352,131072,128,128,262144,524288] (.take 0 (.take 1 (.take 2 (.take 3 (.take 4 (.take 5 (.take 6 (.take 7 (.take 8 (.out 9 false (.take 10
 (.take 11 (.take 12 (.take 13 (.tail [.run])))))))))))))))) (.s .r (.s .r .l))))
theorem W.MY (f:Option Addr) (size:Int) (w:World) (Q:Value→World→Prop) (h:W.jg f size w Q):aN Tryz.prog F.jg #[.pointer f, .int .i64 size] w Q:=okF A.jg Tryz.func187 (by kernel_rfl) (by kernel_rfl) h
def W.lq (r:Option Addr) (size:Int) (w:World) (Q:Value→World→Prop):Prop:=b8 F.nE #[.pointer r, .int .i64 size] w fun cl ae=>su F.iz #[.slice cl.a cl.len cl.cap, .int .i64 0, .int .i64
 size] ae fun n6 fy a_=>Q (.int .i64 (aK n6)) a_
def A.lq:bh:=a4
theorem W.LS (r:Option Addr) (size:Int) (w:World) (Q:Value→World→Prop) (h:W.lq r size w Q):aN Tryz.prog F.lq #[.pointer r, .int .i64 size] w Q:=okF A.lq Tryz.func191 (by kernel_rfl) (by kernel_rfl) h
def W.lr (r:Option Addr) (w:World) (Q:Value→World→Prop):Prop:=bN F.lq #[.pointer r, .int .i64 1] w fun aX ae=>b8 F.nE #[.pointer r, .int .i64 aX] ae fun dp a_=>Q (.slice dp.a
 dp.len dp.cap) a_
def A.lr:bh:=(.s .r (.s .r .l))
theorem W.LU (r:Option Addr) (w:World) (Q:Value→World→Prop) (h:W.lr r w Q):aN Tryz.prog F.lr #[.pointer r] w Q:=okF A.lr Tryz.func192 (by kernel_rfl) (by kernel_rfl) h
def W.mB (g7:Bool) (dQ:ak) (dR:ak) (dS:ak) (w:World) (Q:Value→World→Prop):Prop:=aG (w.alloc (.cells #[.bool g7, .slice dQ.a dQ.len dQ.cap, .slice dR.a dR.len dR.cap,
 .slice dS.a dS.len dS.cap] aj.mC)) fun ae=>fK ae (ah w) fun gC=>aW ae (Addr.add (ah w) 1) fun cl=>aW ae (Addr.add (ah w) 2) fun cE=>aW ae (Addr.add (ah w) 3) fun bQ=>b1 F.mw #[.agg #[.bool gC, .slice cl.a
 cl.len cl.cap, .slice cE.a cE.len cE.cap, .slice bQ.a bQ.len bQ.cap]] ae fun rX bq=>bZ (fun wC:Bool→World→Prop=>aA (!rX) (wC true bq) (aW bq (Addr.add (ah w) 1) fun qH=>wC (decide ((qH.len:Int)>255)) bq)) (fun (oF:Bool)
 bm=>aA oF (Q (.tuple #[.slice none 0 0, .int .i64 4]) bm) (fK bm (ah w) fun wP=>aW bm (Addr.add (ah w) 1) fun c9=>aW bm (Addr.add (ah w) 2) fun gb=>aW bm (Addr.add (ah w) 3) fun ef=>b8 F.mA #[.agg #[.bool wP,
 .slice c9.a c9.len c9.cap, .slice gb.a gb.len gb.cap, .slice ef.a ef.len ef.cap]] bm fun zA ey=>aA (decide ((zA.len:Int)>232)) (Q (.tuple #[.slice none 0 0, .int .i64 10]) ey) (Q (.tuple #[.slice zA.a zA.len zA.cap,
 .int .i64 0]) ey)))
def A.mB:bh:=(.s .r (.s fa fT))
theorem W.LP (g7:Bool) (dQ:ak) (dR:ak) (dS:ak) (w:World) (Q:Value→World→Prop) (h:W.mB g7 dQ dR dS w Q):aN Tryz.prog F.mB #[.agg #[.bool g7, .slice dQ.a dQ.len dQ.cap, .slice dR.a dR.len dR.cap, .slice dS.a dS.len dS.cap]] w Q:=okF A.mB Tryz.func193 (by kernel_rfl) (by kernel_rfl) h
def W.iz (b:ak) (ek:Int) (size:Int) (w:World) (Q:Value→World→Prop):Prop:=qz F.ky #[.slice b.a b.len b.cap, .int .i64 ek, .int .i64 size] w fun cl eh ae=>bZ (fun kK:Bool→World→Prop=>aA (!eh) (kK
 true ae) (b1 F.rT #[.int .i64 size] ae fun rX bq=>kK (!rX) bq)) (fun (g5:Bool) dc=>aA g5 (Q (.tuple #[.int .u64 0, .bool false]) dc) (∃ (DI:Int→Int→World→Prop) (J_:Int→Int→World→Nat),DI 0 0 dc∧∀ (n13:
 Int) (n14:Int) (cY:World),DI n13 n14 cY→aA (decide (n14<(cl.len:Int))) (∃tN:Addr,cl.a=some tN∧bK n14 cl.len∧cU cY (tN.add (Int.toNat n14*1)) fun n17=>(0:Int)≤8∧DI (sh .u64 (IntKind.wrap .u64 (n13*2^
 (min (Int.toNat 8) 64))) (IntKind.wrap .u64 n17)) (aK (n14+1)) cY∧J_ (sh .u64 (IntKind.wrap .u64 (n13*2^(min (Int.toNat 8) 64))) (IntKind.wrap .u64 n17)) (aK (n14+1)) cY<J_ n13 n14 cY) (Q (.tuple #[.int .u64 n13, .bool
 true]) cY)))
def A.iz:bh:=(.s .r (.s .r (.s (.s (.dI [.run, .run, .run, .split 3]) (.c (.s .r .l) .l)) (.s .r (.s (.s .r (.cn (.loop [(10,(.int .u64)),(29,(.int .i64))] [27,28] bB))) (.s .r .l))))))
theorem W.DS (b:ak) (ek:Int) (size:Int) (w:World) (Q:Value→World→Prop) (h:W.iz b ek size w Q):aN Tryz.prog F.iz #[.slice b.a b.len b.cap, .int .i64 ek, .int .i64 size] w Q:=okF A.iz Tryz.func195 (by kernel_rfl) (by kernel_rfl) h
def W.ky (b:ak) (ek:Int) (size:Int) (w:World) (Q:Value→World→Prop):Prop:=aA ((((decide (ek<0))||(decide (size<0)))||(decide (ek>(b.len:Int))))||(decide (size>(aK ((b.len:Int)-ek))))) (Q (.tuple
 #[.slice none 0 0, .bool false]) w) (((0:Int)≤(aK (ek+size))∧(aK (ek+size))≤((b.cap:Nat):Int))∧((0:Int)≤ek∧ek≤(((Int.toNat (aK (ek+size))):Nat):Int))∧Q (.tuple #[.slice (b7 b.a 1 (Int.toNat
 ek) b.cap) ((Int.toNat (aK (ek+size)))-(Int.toNat ek)) (b.cap-(Int.toNat ek)), .bool true]) w)
def A.ky:bh:=(.s .r (.s (.s (.dI [.run, .run, .run, .pure 2, .run, .run, .run, .pure 4, .run, .run, .run, .run, .run, .pure 6]) (.c (.s .r .l) .l)) (.s .r .l)))
theorem W.zI (b:ak) (ek:Int) (size:Int) (w:World) (Q:Value→World→Prop) (h:W.ky b ek size w Q):aN Tryz.prog F.ky #[.slice b.a b.len b.cap, .int .i64 ek, .int .i64 size] w Q:=okF A.ky Tryz.func196 (by kernel_rfl) (by kernel_rfl) h
def W.mj (n:Int) (b:ak) (w:World) (Q:Value→World→Prop):Prop:=∃ (dx:Int→Int→World→Prop) (eJ:Int→Int→World→Nat),dx n 0 w∧∀ (aX:Int) (cc:Int) (aR:World),dx aX cc aR→aA (decide (cc<
 (b.len:Int))) (∃fa:Addr,b.a=some fa∧bK cc b.len∧cU aR (fa.add (Int.toNat cc*1)) fun n7=>∃ (DJ:Int→Int→World→Prop) (Ka:Int→Int→World→Nat),DJ (qC .u32 aX (IntKind.wrap .u32 n7)) 0 aR∧∀ (n10:Int) (n11:
 Int) (bm:World),DJ n10 n11 bm→aA (decide (n11<8)) ((0:Int)≤1∧DJ (qC .u32 (Int.fdiv n10 (2^(min (Int.toNat 1) 32))) (j5 .u32 2197175160 (IntKind.wrap .u32 (0-(j5 .u32 n10 1))))) (aK (n11+1)) bm∧Ka (qC .u32
 (Int.fdiv n10 (2^(min (Int.toNat 1) 32))) (j5 .u32 2197175160 (IntKind.wrap .u32 (0-(j5 .u32 n10 1))))) (aK (n11+1)) bm<Ka n10 n11 bm) (dx n10 (aK (cc+1)) bm∧eJ n10 (aK (cc+1)) bm<eJ aX cc aR)) (Q (.int .u32 aX) aR)
def A.mj:bh:=(.s .r (.s (.s .r (.cn (.loop [(0,(.int .u32)),(9,(.int .i64))] [7,8] (.s .r (.s (.c .l .l) (.s (.cn (.s .r (.s .r (.s .r (.cn (.loop [(0,(.int .u32)),(17,(.int .i64))] [7,8,9] (.s .r (.s (.c .l .l) (.s
 (.cn .r) .r))))))))) .r)))))) (.s .r .l)))
theorem W.KY (n:Int) (b:ak) (w:World) (Q:Value→World→Prop) (h:W.mj n b w Q):aN Tryz.prog F.mj #[.int .u32 n, .slice b.a b.len b.cap] w Q:=okF A.mj Tryz.func209 (by kernel_rfl) (by kernel_rfl) h
def W.lk (v:ak) (w:World) (Q:Value→World→Prop):Prop:=Q (.bool (decide ((v.len:Int)>24))) w
def A.lk:bh:=(.s .r (.s .r .l))
theorem W.LA (v:ak) (w:World) (Q:Value→World→Prop) (h:W.lk v w Q):aN Tryz.prog F.lk #[.slice v.a v.len v.cap] w Q:=okF A.lk Tryz.func212 (by kernel_rfl) (by kernel_rfl) h
def W.ll (g6:Int) (w:World) (Q:Value→World→Prop):Prop:=Q (.bool ((decide (g6<0))||(decide (g6≥1600)))) w
def A.ll:bh:=a3
theorem W.LF (g6:Int) (w:World) (Q:Value→World→Prop) (h:W.ll g6 w Q):aN Tryz.prog F.ll #[.int .i64 g6] w Q:=okF A.ll Tryz.func214 (by kernel_rfl) (by kernel_rfl) h
end
section
set_option maxRecDepth 100000
def W.nE (r:Option Addr) (n:Int) (w:World) (Q:Value→World→Prop):Prop:=∃a7:Addr,r=some a7∧fK w (a7.add 1) fun gC=>bZ (fun kg:Bool→World→Prop=>aA (!gC) (kg true w) (∃a4:Addr,r=some a4∧aW
 w a4 fun bQ=>kg (decide (n>(bQ.len:Int))) w)) (fun (gY:Bool) cy=>aA gY (∃fT:Addr,r=some fT∧st cy (fT.add 1) (.bool false) fun bF=>Q (.slice none 0 0) bF) (∃ku:Addr,r=some ku∧aW cy ku fun hA=>((0:Int)≤n∧
 n≤((hA.cap:Nat):Int))∧b8 F.iU #[.slice (b7 hA.a 1 0 hA.cap) ((Int.toNat n)-0) (hA.cap-0)] cy fun c9 bm=>∃qk:Addr,r=some qk∧aW bm qk fun ef=>((0:Int)≤n∧n≤(ef.len:Int))∧∃
 nm:Addr,r=some nm∧(∃u:Value,bm.cell? nm=some u)∧bm.frozen? nm=false∧aG (bm.setCell nm (.slice (b7 ef.a 1 (Int.toNat n) ef.cap) (ef.len-(Int.toNat n)) (ef.cap-(Int.toNat n)))) fun cp=>Q (.slice c9.a
 c9.len c9.cap) cp))
def A.nE:bh:=(.s .r (.s (.s (.dI [.run, .run, .run, .run, .run, .run, .split 7]) a5) a4))
theorem W.LR (r:Option Addr) (n:Int) (w:World) (Q:Value→World→Prop) (h:W.nE r n w Q):aN Tryz.prog F.nE #[.pointer r, .int .i64 n] w Q:=okF A.nE Tryz.func229 (by kernel_rfl) (by kernel_rfl) h
def W.mA (g7:Bool) (dQ:ak) (dR:ak) (dS:ak) (w:World) (Q:Value→World→Prop):Prop:=aG (w.alloc (.cells #[.bool g7, .slice dQ.a dQ.len dQ.cap, .slice dR.a dR.len dR.cap,
 .slice dS.a dS.len dS.cap] aj.mC)) fun ae=>aW ae (Addr.add (ah w) 1) fun s2=>aG (ae.alloc (.cells #[.int .u8 (IntKind.wrap .u8 (s2.len:Int))] aj.uint8)) fun bM=>bZ (fun nR:ak→World→Prop=>fK bM (ah w) fun ji
 =>aA (!ji) (aW bM (Addr.add (ah w) 3) fun dp=>∃kt:Addr,dp.a=some kt∧bK 0 dp.len∧aE bM (kt.add (Int.toNat 0*1)) fun n8=>b8 F.dU #[.slice (some (ah ae)) 1 1, .int .u64 (IntKind.wrap .u64 n8), .int .i64 2] bM fun hA bF
 =>nR hA bF) (nR ⟨(some (ah ae)),1,1⟩ bM)) (fun (Dc:ak) fQ=>aW fQ (Addr.add (ah w) 1) fun c9=>∃ (rY:ak→Int→World→Prop) (wF:ak→Int→World→Nat),rY Dc 0 fQ∧∀ (ct:ak) (n18:Int) (cJ:World),rY ct n18
 cJ→aA (decide (n18<(c9.len:Int))) (fK cJ (ah w) fun wN=>aW cJ (Addr.add (ah w) 1) fun g1=>aW cJ (Addr.add (ah w) 2) fun wO=>aW cJ (Addr.add (ah w) 3) fun r3=>b8 F.mx #[.agg #[.bool wN, .slice g1.a g1.len
 g1.cap, .slice wO.a wO.len wO.cap, .slice r3.a r3.len r3.cap], .int .i64 n18] cJ fun f_ iq=>∃dr:ak,∃b3:World,Sem.run Tryz.prog (Builtin.append_ #[aj.cf,aj.cf] aj.cf #[.slice ct.a ct.len ct.cap,
 .slice f_.a f_.len f_.cap]) iq= .ok (.slice dr.a dr.len dr.cap) b3∧rY dr (aK (n18+1)) b3∧wF dr (aK (n18+1)) b3<wF ct n18 cJ) (Q (.slice ct.a ct.len ct.cap) cJ))
def A.mA:bh:=(.s .r (.s .r (.s (.jU [(3, .slice)] [1] (.s .r (.c .r .l))) (.s (.s .r (.cn (.loop [(3, .slice),(23,(.int .i64))] [1,22] bB))) (.s .r .l)))))
theorem W.LN (g7:Bool) (dQ:ak) (dR:ak) (dS:ak) (w:World) (Q:Value→World→Prop) (h:W.mA g7 dQ dR dS w Q):aN Tryz.prog F.mA #[.agg #[.bool g7, .slice dQ.a dQ.len dQ.cap, .slice dR.a dR.len dR.cap, .slice dS.a dS.len dS.cap]] w Q:=okF A.mA Tryz.func230 (by kernel_rfl) (by kernel_rfl) h
end
section
set_option maxRecDepth 100000
def W.mx (g7:Bool) (dQ:ak) (dR:ak) (dS:ak) (i:Int) (w:World) (Q:Value→World→Prop):Prop:=aG (w.alloc (.cells #[.bool g7, .slice dQ.a dQ.len dQ.cap, .slice dR.a dR.len
 dR.cap, .slice dS.a dS.len dS.cap] aj.mC)) fun ae=>aG (ae.drew) fun av=>∃qj:Nat→Prop,¬qj (Addr.add (ah w) 1).block∧aW av (Addr.add (ah w) 1) fun cE=>∃a5:Addr,cE.a=some a5∧bK i cE.len∧¬qj
 (a5.add (Int.toNat i*1)).block∧aW av (a5.add (Int.toNat i*1)) fun dp=>¬qj (Addr.add (ah w) 1).block∧aW av (Addr.add (ah w) 1) fun gR=>∃fT:Addr,gR.a=some fT∧bK i gR.len∧¬qj (fT.add (Int.toNat i*1)).block∧aW av
 (fT.add (Int.toNat i*1)) fun eZ=>aG (av.alloc (.cells #[.int .u8 (IntKind.wrap .u8 (dp.len:Int))] aj.uint8)) fun dc=>aq qj av dc∧aG (dc.alloc (.cells #[.slice (some (ah av)) 1 1, .slice eZ.a eZ.len eZ.cap] aj.cf)) fun b5
 =>b8 F.jA #[.slice (some (ah dc)) 2 2] b5 fun c9 bm=>fK bm (ah w) fun C7=>aA C7 (aG (bm.drew) fun bH=>∃wT:Nat→Prop,¬wT (Addr.add (ah w) 2).block∧aW bH (Addr.add (ah w) 2) fun hT=>∃tL:Addr,hT.a=
 some tL∧bK i hT.len∧¬wT (tL.add (Int.toNat i*1)).block∧aW bH (tL.add (Int.toNat i*1)) fun fo=>¬wT (Addr.add (ah w) 2).block∧aW bH (Addr.add (ah w) 2) fun g1=>∃a22:Addr,g1.a=some a22∧bK i g1.len∧¬wT
 (a22.add (Int.toNat i*1)).block∧aW bH (a22.add (Int.toNat i*1)) fun r3=>aG (bH.alloc (.cells #[.int .u8 (IntKind.wrap .u8 (fo.len:Int))] aj.uint8)) fun iq=>aq wT bH iq∧aG (iq.alloc (.cells #[.slice c9.a c9.len
 c9.cap, .slice (some (ah bH)) 1 1, .slice r3.a r3.len r3.cap] aj.cf)) fun cP=>b8 F.jA #[.slice (some (ah iq)) 3 3] cP fun eH de=>Q (.slice eH.a eH.len eH.cap) de) (aW bm (Addr.add (ah w) 3) fun rV=>∃wz:
 Addr,rV.a=some wz∧bK (aK (i+1)) rV.len∧aE bm (wz.add (Int.toNat (aK (i+1))*1)) fun n31=>b8 F.dU #[.slice c9.a c9.len c9.cap, .int .u64 (IntKind.wrap .u64 n31), .int .i64 2] bm fun DK ew=>Q (.slice DK.a
 DK.len DK.cap) ew)
def A.mx:bh:=(.s .r (.s (.eI 13 true ⟨[0,1,0,6,8,16,32,64,0,256,0,1536,2048,4224,8192,32767],[0,1,0,6,8,16,32,64,0,256,0,1536,2048,4224,8192,16384]⟩ [64,128,256,512,1024,2048,4096,8192,
 16384,32768,65536,131072,262144,524288,1048576,32] [4,64,2,384,512,1024,2048,4096,4,16384,2,98304,131072,270336,524288,1048576] (.take 0 (.take 1 (.take 2 (.take 3 (.take 4 (.take 5 (.take 6 (.take 8 (.take 9 (.take 10
 (.take 11 (.take 12 (.e_ 7 (.tail [.run, .run, .run]))))))))))))))) (.s (.s .r (.c (.s (.eI 14 true ⟨[0,0,2,0,12,16,32,64,128,0,512,0,3072,4096,8449,16384,65535],[0,0,2,0,12,16,32,64,128,0,512,0,3072,4096,
 8449,16384,32768]⟩ [8388608,16777216,33554432,67108864,134217728,268435456,536870912,1073741824,2147483648,4294967296,8589934592,17179869184,34359738368,68719476736,137438953472,274877906944,16] [32,4,16777216,2,
 100663296,134217728,268435456,536870912,1073741824,4,4294967296,2,25769803776,34359738368,70875348992,137438953472,274877906944] (.take 0 (.take 1 (.take 2 (.take 3 (.take 4 (.take 5 (.take 6 (.take 7 (.take 9 (.take 10 (.take
 11 (.take 12 (.take 13 (.e_ 8 (.tail [.run, .run, .run])))))))))))))))) .l) .l)) (.s .r .l))))
theorem W.LK (g7:Bool) (dQ:ak) (dR:ak) (dS:ak) (i:Int) (w:World) (Q:Value→World→Prop) (h:W.mx g7 dQ dR dS i w Q):aN Tryz.prog F.mx #[.agg #[.bool g7, .slice dQ.a dQ.len dQ.cap, .slice dR.a dR.len dR.cap, .slice dS.a dS.len dS.cap], .int .i64 i] w Q:=okF A.mx Tryz.func245 (by kernel_rfl) (by kernel_rfl) h
end
section
set_option maxRecDepth 100000
def W.rz (after:Int) (w:World) (Q:Value→World→Prop):Prop:=hJ F.kI #[.int .i64 20] w fun fZ cc ae=>bZ (fun kK:Bool→World→Prop=>aA (Option.isNone fZ) (kK true ae) ((30:Int)≠0∧bN F.pk
 #[.pointer fZ, .int .i64 1, .int .i64 (aK (Int.tmod after 30))] ae fun n8 bq=>kK (n8 !=0) bq)) (fun (g5:Bool) dc=>aA g5 (Q (.bool false) dc) (tc F.ij #[.pointer fZ] dc fun hC n14 b5=>aG (b5.alloc gA) fun cY=>
 cd cY (ah b5) (Array.toList hC)∧Array.size hC=10∧aG (setCells cY (ah b5) 0 (Array.toList hC)) fun bH=>tc F.ij #[.pointer none] bH fun DL n20 ey=>aG (ey.alloc gA) fun eu=>cd eu (ah ey)
 (Array.toList DL)∧Array.size DL=10∧aG (setCells eu (ah ey) 0 (Array.toList DL)) fun c_=>(30:Int)≠0∧bZ (fun Kb:Bool→World→Prop=>aA ((n14==3)==(decide (((Int.tmod after 30):Int)<20))) (bZ (fun qm:Bool→
 World→Prop=>aA (n14==0) (qm true c_) (∃Kc:List Value,bR c_ (ah b5) 0 10=some Kc∧∃Ke:Array Value,Sem.run Tryz.prog (Instr.build aj.hP #[]) c_= .ok (.agg Ke) c_∧∃Kf:Bool,p2 Tryz.prog
 aj.hP Kc.toArray Ke Kf∧qm Kf c_)) (fun (DM:Bool) ej=>Kb DM ej)) (Kb false c_)) (fun (TO:Bool) cN=>bZ (fun Kg:Bool→World→Prop=>aA TO (∃Kh:List Value,bR cN (ah ey) 0 10=some Kh∧∃Ki:
 Array Value,Sem.run Tryz.prog (Instr.build aj.hP #[]) cN= .ok (.agg Ki) cN∧∃ql:Bool,p2 Tryz.prog aj.hP Kh.toArray Ki ql∧Kg ql cN) (Kg false cN)) (fun (DE:Bool) p4=>bZ (fun Kj:Bool→World→Prop
 =>aA (DE&&(n20==1)) (b1 F.p3 #[] p4 fun TP iJ=>Kj TP iJ) (Kj false p4)) (fun (DF:Bool) dF=>Q (.bool DF) dF)))))
def A.rz:bh:=(.s .r (.s .r (.s (.s (.dI [.run, .run, .run, .split 6]) (.c (.s .r .l) .l)) (.s .r (.s .r (.s (.dI [.run, .run, .run, .run, .run, .run, .run, .split 7, .run, .run, .split 3, .run, .run, .run, .run, .run,
 .split 3, .run, .run, .run, .run, .pure 2, .run, .run, .run, .split 1]) .l))))))
theorem W.RE (after:Int) (w:World) (Q:Value→World→Prop) (h:W.rz after w Q):aN Tryz.prog F.rz #[.int .u8 after] w Q:=okF A.rz Tryz.func4 (by kernel_rfl) (by kernel_rfl) h
def W.p3 (w:World) (Q:Value→World→Prop):Prop:=hJ F.kI #[.int .i64 20] w fun fZ cc ae=>tc F.ij #[.pointer fZ] ae fun b8 n8 aR=>aG (aR.alloc gA) fun bF=>cd bF (ah aR) (Array.toList b8)∧
 Array.size b8=10∧aG (setCells bF (ah aR) 0 (Array.toList b8)) fun dc=>s_ F.m_ #[.int .u8 1, .int .u8 1] dc fun n13 n14 n15 b5=>hJ F.m8 #[.pointer fZ, .agg #[.int .i64 n13, .int .i64 n14, .int .u64 n15]] b5
 fun TQ n19 bH=>tc F.ij #[.pointer fZ] bH fun DN n23 na=>aG (na.alloc gA) fun iq=>cd iq (ah na) (Array.toList DN)∧Array.size DN=10∧aG (setCells iq (ah na) 0 (Array.toList DN)) fun cP=>bZ (fun Kk:
 Bool→World→Prop=>aA ((((!(Option.isNone TQ))&&(n8==0))&&(n19==0))&&(n23==0)) (aE cP (Addr.add (ah aR) 4) fun n27=>Kk (n27==(-1)) cP) (Kk false cP)) (fun (DM:Bool) ej=>bZ (fun Kl:Bool→World→Prop=>aA
 DM (∃Km:List Value,bR ej (ah aR) 0 10=some Km∧b1 F.kV #[.agg Km.toArray] ej fun TR ew=>Kl (!TR) ew) (Kl false ej)) (fun (ql:Bool) cX=>bZ (fun l9:Bool→World→Prop=>aA ql (aE cX (Addr.add
 (ah na) 4) fun n38=>l9 (n38==1) cX) (l9 false cX)) (fun (Di:Bool) oq=>bZ (fun Kn:Bool→World→Prop=>aA Di (∃Ko:List Value,bR oq (ah na) 0 10=some Ko∧b1 F.kV #[.agg Ko.toArray] oq fun TS dF
 =>Kn TS dF) (Kn false oq)) (fun (DG:Bool) pZ=>Q (.bool DG) pZ))))
def A.p3:bh:=(.s .r (.s .r (.s .r (.s .r (.s .r (.s (.dI [.run, .run, .run, .pure 2, .run, .run, .run, .pure 2, .run, .run, .run, .pure 2, .run, .run, .run, .split 3, .run, .run, .run, .run, .split 3, .run, .run, .run, .run,
 .split 3, .run, .run, .run, .run, .split 2]) .l))))))
theorem W.Ry (w:World) (Q:Value→World→Prop) (h:W.p3 w Q):aN Tryz.prog F.p3 #[] w Q:=okF A.p3 Tryz.func19 (by kernel_rfl) (by kernel_rfl) h
def W.m_ (batch:Int) (lY:Int) (w:World) (Q:Value→World→Prop):Prop:=aG (w.alloc (.cells #[.int .i64 0, .int .i64 0, .int .u64 0] aj.zm)) fun ae=>(12:Int)≠0∧(12:Int)≠0∧cd ae (ah w) [.int
 .i64 8, .int .i64 (aK (1+(aK (Int.tmod batch 12)))), .int .u64 (IntKind.wrap .u64 (1+(IntKind.wrap .u64 (Int.tmod lY 12))))]∧(3:Nat)=3∧aG (setCells ae (ah w) 0 [.int .i64 8, .int .i64 (aK (1+(aK (Int.tmod batch 12)))), .int
 .u64 (IntKind.wrap .u64 (1+(IntKind.wrap .u64 (Int.tmod lY 12))))]) fun av=>aE av (ah w) fun aX=>aE av (Addr.add (ah w) 1) fun cc=>bE av (Addr.add (ah w) 2) fun n5=>Q (.agg #[.int .i64 aX, .int .i64 cc, .int .u64 n5]) av
def A.m_:bh:=(.s .r (.s .r .l))
theorem W.Rt (batch:Int) (lY:Int) (w:World) (Q:Value→World→Prop) (h:W.m_ batch lY w Q):aN Tryz.prog F.m_ #[.int .u8 batch, .int .u8 lY] w Q:=okF A.m_ Tryz.func22 (by kernel_rfl) (by kernel_rfl) h
end
end Go.Proofs.YtmhhgpogjpbglaaGreat
