/- Printed by gen.py: functions of the program, each as what must be shown of it. -/
import Derived.Test.YtkdhdlfonmgheaaGreatProg
import Derived.Test.YtkdhdlfonmgheaaGreatKAFew2
namespace aR
abbrev aO.s:=aO.seq
abbrev aO.l:=aO.leaf
abbrev aO.c:=aO.cond
abbrev aO.r:=aO.di []
abbrev aP.t:=aP.take
abbrev jO.r:=jO.run
end aR
namespace Go.Proofs.YtkdhdlfonmgheaaGreat
noncomputable abbrev aj:=Tryz.prog
open Go aR Go.Proofs.Tryz
namespace F
end F
namespace B9
end B9
namespace G
end G
abbrev aN:dr:=.one (.one .fn)
abbrev ez:dr:=.one (.one .agg)
abbrev fC:dr:=.one (.one .ptr)
abbrev ib:dr:=.one (.one .slice)
abbrev mB:dr:=.eM [(.one .ptr),(.one (.int .i64))]
abbrev nV:dr:=.eM [(.one .slice),(.one (.int .i64))]
abbrev rH:dr:=.one (.one (.int .i64))
abbrev rI:dr:=.one (.one (.int .u8))
abbrev rJ:dr:=.one (.one (.int .u64))
abbrev rK:dr:=.one (.flat [.slice,.slice])
abbrev rL:dr:=.one (.flat [.ptr,.slice,(.int .i64)])
abbrev rM:dr:=.one (.flat [.slice,(.int .i64)])
def B_:O dr:=[(.eM []),aN,rH,rH,(.one (.one .bool)),rI,rI,(.one (.flat [(.int .i64),(.int .i64),.bool,(.int .u8)])),(.one (.flat [(.int .i64),(.int .i64),.bool,(.int .u8)])),(.one (.one .str)),(.one (.one .str)),(.one (.one .str)),rJ,(.one (.flat [.str,(.int .u64)])),(.one (.flat [.str,(.int .u64)])),fC,fC,fC,(.one (.flat [.ptr])),(.one (.flat [.ptr])),(.one (.one .any)),(.one (.one (.int .i32))),ez,ez,ez,ez,ez,rJ,ez,ez,fC,fC,(.eM [(.one .ptr),(.one .ptr),(.one .bool)]),aN,rH,aN,aN,aN,aN,ib,mB,aN,fC,mB,aN,(.one (.flat [(.int .i64),(.int .i64),(.int .u64)])),(.one (.flat [(.int .i64),(.int .i64),(.int .u64)])),aN,ib,(.one (.flat [(.int .i64),.slice,.slice,(.int .i64)])),(.one (.flat [(.int .i64),.slice,.slice,(.int .i64)])),aN,(.eM [(.one .bool),(.one (.int .i64))]),aN,aN,aN,aN,aN,ib,ez,ez,(.eM [(.one .agg),(.one .bool),(.one (.int .i64))]),aN,aN,(.eM [(.one (.int .i64)),(.one (.int .i64))]),aN,(.eM [(.one .slice),(.one (.int .i64)),(.one (.int .i64))]),aN,ib,nV,aN,aN,mB,aN,aN,ib,fC,(.one (.flat [(.int .i64),.slice])),(.one (.flat [(.int .i64),.slice])),aN,aN,aN,ib,(.one (.flat [(.int .i64),(.int .i64),(.int .u8)])),(.one (.flat [(.int .i64),(.int .i64),(.int .u8)])),fC,ib,(.one (.flat [.slice])),(.one (.flat [.slice])),ez,ez,(.one (.flat [(.int .i64),(.int .i64),(.int .i64),.slice,.slice,.slice])),(.one (.flat [(.int .i64),(.int .i64),(.int .i64),.slice,.slice,.slice])),aN,aN,aN,nV,aN,aN,aN,aN,rJ,aN,(.one (.flat [(.int .i64),(.int .i64),(.int .i64),(.int .u64),(.int .u64),(.int .i64)])),(.one (.flat [(.int .i64),(.int .i64),(.int .i64),(.int .u64),(.int .u64),(.int .i64)])),aN,(.eM [(.one .bool),(.one .agg)]),aN,aN,aN,aN,aN,aN,aN,(.eM [(.one .slice),(.one .bool),(.one (.int .i64))]),aN,aN,aN,aN,ez,ez,ez,ez,(.eM [(.one .agg),(.one (.int .i64))]),aN,aN,aN,ib,aN,aN,(.eM [(.one .slice),(.one .bool)]),aN,aN,(.one (.flat [.ptr,(.int .i64)])),(.one (.flat [.ptr,(.int .i64)])),aN,ib,(.one (.one .map)),ez,ez,ez,ez,aN,fC,mB,aN,nV,aN,aN,(.one (.flat [(.int .i64),(.int .u64),.slice])),(.one (.flat [(.int .i64),(.int .u64),.slice])),ez,aN,aN,aN,fC,fC,ez,ez,aN,aN,(.eM [(.one .agg),(.one .bool)]),aN,aN,aN,aN,rK,rK,aN,aN,aN,nV,aN,aN,aN,(.eM [(.one (.int .i64)),(.one .bool)]),aN,aN,aN,aN,aN,ez,ez,(.eM [(.flat [(.int .i64),(.int .i64),(.int .i64),(.int .u64),(.int .u64),(.int .i64)]),(.one (.int .u64)),(.one (.int .i64))]),aN,aN,aN,fC,aN,fC,(.one (.one .map)),ez,ez,aN,(.eM [(.flat [(.int .i64),(.int .i64),(.int .i64),(.int .u64),(.int .u64),(.int .i64)]),(.one (.int .u64)),(.one (.int .i64))]),aN,aN,aN,aN,(.eM [(.flat [(.int .i64),(.int .u64),.slice]),(.one (.int .i64))]),aN,(.one (.flat [.bool,.slice,.slice,.slice])),(.one (.flat [.bool,.slice,.slice,.slice])),(.eM [(.flat [.bool,.slice,.slice,.slice]),(.one .bool)]),aN,fC,aN,ib,rK,rK,(.eM [(.one .agg),(.one .bool)]),aN,aN,aN,fC,ib,aN,(.one (.flat [(.int .i64),.slice,.slice])),(.one (.flat [(.int .i64),.slice,.slice])),(.one (.one (.int .u32))),aN,aN,aN,aN,mB,aN,mB,aN,ib,nV,aN,ez,ez,aN,(.eM [(.one (.int .i64)),(.one (.int .i64))]),aN,aN,aN,(.one (.flat [.ptr,.ptr,(.int .u64),(.int .i64),(.int .i64)])),(.one (.flat [.ptr,.ptr,(.int .u64),(.int .i64),(.int .i64)])),aN,(.eM [(.one .slice),(.one (.int .i64)),(.one (.int .i64))]),aN,aN,(.eM [(.one (.int .u64)),(.one .bool)]),aN,(.eM [(.one .agg),(.one .bool)]),aN,aN,(.eM [(.one .slice),(.one .slice)]),aN,aN,aN,aN,aN,aN,aN,(.eM [(.flat [(.int .i64),(.int .i64),(.int .i64),(.int .u64),(.int .u64),(.int .i64)]),(.one (.int .i64)),(.one (.int .u64)),(.one (.int .i64))]),aN,aN,aN,aN,aN,aN,aN,aN,(.one (.flat [(.int .i64),(.int .i64)])),(.one (.flat [(.int .i64),(.int .i64)])),ib,aN,aN,aN,aN,aN,aN,aN,aN,aN,aN,ib,rL,rL,(.eM [(.flat [.bool,.slice,.slice,.slice]),(.one (.int .i64))]),aN,aN,aN,aN,(.one (.flat [.bool,.bool,.bool,(.int .i64),(.int .i64),.slice])),(.one (.flat [.bool,.bool,.bool,(.int .i64),(.int .i64),.slice])),fC,aN,aN,aN,aN,aN,fC,(.one (.flat [.ptr,.slice,.slice])),(.one (.flat [.ptr,.slice,.slice])),(.eM [(.one (.int .i64)),(.one (.int .i64)),(.one (.int .i64))]),aN,aN,fC,rL,rL,aN,aN,aN,aN,mB,aN,aN,aN,aN,aN,fC,rM,rM,aN,aN,aN,aN,aN,aN,aN,aN,fC,ib,(.eM [(.one .slice),(.one (.int .i64)),(.one (.int .i64)),(.one (.int .i64))]),aN,aN,aN,nV,aN,rM,rM,aN,aN,aN,aN,rH,(.eM [(.one (.int .i64)),(.one (.int .i64))]),aN,aN,aN,aN,aN,aN,aN,aN,aN,aN,aN,fC,(.one (.flat [.slice,.bool])),(.one (.flat [.slice,.bool])),aN,aN,ez,aN,aN,aN,aN,aN,aN,rJ,aN,aN,fC,aN,aN,aN,fC,aN,(.eM [(.flat [.bool,.slice,.slice,.slice]),(.one .slice),(.flat [.bool,.slice,.slice,.slice]),(.one .bool)]),aN,aN,aN,(.one (.flat [.ptr,.ptr,.ptr,.str])),(.one (.flat [.ptr,.ptr,.ptr,.str])),ez,ez,ez,rI,rI,aN,fC,(.one (.one (.int .i32))),(.one (.one (.int .i32))),ez,ez,fC]
def tk:TypeId->dr:=λt=>B_.getD t (.one (.one .any))
theorem u7:Tryz.prog.follows .mixedOrders=true:=by kernel_rfl
def aa(w:J):ag:=w.heap.size
def au(n:Int):Int:=IntKind.wrap .i64 n
def aK(n:Int)(k:Nat):Prop:=(0:Int)<=n/\n<(k:Int)
def ao(c:al)(A B:Prop):Prop:=(c=true->A)/\(c=false->B)
def jt:Int:=9223372036854775807
def st(w:J)(A:ag)(v:Y)(K:J->Prop):Prop:=(∃u:Y,w.cell? A=some u)/\w.frozen? A=false/\an (w.setCell A v) λw1=>K w1
def GB(w:J)(z:Obj)(l:O Y)(k:Nat)(K:J->Prop):Prop:=an (w.alloc z) λw1=>bh w1 (aa w) (Array.toList l.toArray)/\Array.size l.toArray=k/\an (setCells w1 (aa w) 0 (Array.toList l.toArray)) λai=>K ai
def rN(s:ad)(n:Int)(w:J)(k:Nat)(K:O Y->Prop):Prop:=∃a:ag,s.a=some a/\aK n s.len/\∃l:O Y,bE w (a.add (n.toNat*k)) 0 k=some l/\K l
def fS(f:Nat)(a:Array Y)(w:J)(K:J->Prop):Prop:=Calls aj f a w λe w'=>e=.returned (.tuple #[])/\K w'
def b7(f:Nat)(a:Array Y)(w:J)(K:Int->J->Prop):Prop:=Calls aj f a w λe w'=>∃b:Int,e=.returned b/\K b w'
def cc(f:Nat)(a:Array Y)(w:J)(K:al->J->Prop):Prop:=Calls aj f a w λe w'=>∃b:al,e=.returned b/\K b w'
def gU(f:Nat)(a:Array Y)(w:J)(K:ad->al->J->Prop):Prop:=Calls aj f a w λe w'=>∃b:ad,∃c:al,e=.returned (.tuple #[b,c])/\K b c w'
def lE(f:Nat)(a:Array Y)(w:J)(K:ad->al->Int->J->Prop):Prop:=Calls aj f a w λe w'=>∃b:ad,∃c:al,∃d:Int,e=.returned (.tuple #[b,c,d])/\K b c d w'
def iV(f:Nat)(a:Array Y)(w:J)(K:ar ag->J->Prop):Prop:=Calls aj f a w λe w'=>∃b:ar ag,e=.returned (b)/\K b w'
def hO(f:Nat)(a:Array Y)(w:J)(K:ar ag->Int->J->Prop):Prop:=Calls aj f a w λe w'=>∃b:ar ag,∃c:Int,e=.returned (.tuple #[b,c])/\K b c w'
def bJ(f:Nat)(a:Array Y)(w:J)(K:ad->J->Prop):Prop:=Calls aj f a w λe w'=>∃b:ad,e=.returned b/\K b w'
def eR(f:Nat)(a:Array Y)(w:J)(K:ad->Int->J->Prop):Prop:=Calls aj f a w λe w'=>∃b:ad,∃c:Int,e=.returned (.tuple #[b,c])/\K b c w'
def ju(f:Nat)(a:Array Y)(w:J)(K:Array Y->al->J->Prop):Prop:=Calls aj f a w λe w'=>∃b:Array Y,∃c:al,e=.returned (.tuple #[.agg b,c])/\K b c w'
def lF(f:Nat)(a:Array Y)(w:J)(K:Int->J->Prop):Prop:=Calls aj f a w λe w'=>∃b:Int,e=.returned (.int .u32 b)/\K b w'
def jU(f:Nat)(a:Array Y)(w:J)(K:Array Y->J->Prop):Prop:=Calls aj f a w λe w'=>∃b:Array Y,e=.returned (.agg b)/\K b w'
def kj(f:Nat)(a:Array Y)(w:J)(K:Int->al->J->Prop):Prop:=Calls aj f a w λe w'=>∃b:Int,∃c:al,e=.returned (.tuple #[b,c])/\K b c w'
def ic(f:Nat)(a:Array Y)(w:J)(K:Int->Int->J->Prop):Prop:=Calls aj f a w λe w'=>∃b:Int,∃c:Int,e=.returned (.tuple #[b,c])/\K b c w'
def nW(f:Nat)(a:Array Y)(w:J)(K:al->ad->ad->ad->al->J->Prop):Prop:=Calls aj f a w λe w'=>∃b:al,∃c:ad,∃d:ad,∃g:ad,∃h:al,e=.returned (.tuple #[.agg #[b,c,d,g],h])/\K b c d g h w'
def lG(f:Nat)(a:Array Y)(w:J)(K:Int->al->J->Prop):Prop:=Calls aj f a w λe w'=>∃b:Int,∃c:al,e=.returned (.tuple #[.int .u64 b,c])/\K b c w'
def kT(f:Nat)(a:Array Y)(w:J)(K:al->ad->ad->ad->Int->J->Prop):Prop:=Calls aj f a w λe w'=>∃b:al,∃c:ad,∃d:ad,∃g:ad,∃h:Int,e=.returned (.tuple #[.agg #[b,c,d,g],h])/\K b c d g h w'
def nX(f:Nat)(a:Array Y)(w:J)(K:Int->Int->Int->J->Prop):Prop:=Calls aj f a w λe w'=>∃b:Int,∃c:Int,∃d:Int,e=.returned (.tuple #[b,c,d])/\K b c d w'
def f_(f:Nat)(a:Array Y)(w:J)(K:al->ad->ad->ad->J->Prop):Prop:=Calls aj f a w λe w'=>∃b:al,∃c:ad,∃d:ad,∃g:ad,e=.returned (.agg #[b,c,d,g])/\K b c d g w'
def pQ(f:Nat)(a:Array Y)(w:J)(K:Int->J->Prop):Prop:=Calls aj f a w λe w'=>∃b:Int,e=.returned (.int .u64 b)/\K b w'
def yt(f:Nat)(a:Array Y)(w:J)(K:Int->Int->ad->Int->J->Prop):Prop:=Calls aj f a w λe w'=>∃b:Int,∃c:Int,∃d:ad,∃g:Int,e=.returned (.tuple #[.agg #[b,.int .u64 c,d],g])/\K b c d g w'
def u9(f:Nat)(a:Array Y)(w:J)(K:ad->Int->Int->Int->J->Prop):Prop:=Calls aj f a w λe w'=>∃b:ad,∃c:Int,∃d:Int,∃g:Int,e=.returned (.tuple #[b,c,d,g])/\K b c d g w'
def yu(f:Nat)(a:Array Y)(w:J)(K:al->ad->ad->ad->ad->al->ad->ad->ad->al->J->Prop):Prop:=Calls aj f a w λe w'=>∃b:al,∃c:ad,∃d:ad,∃g:ad,∃h:ad,∃i:al,∃j:ad,∃k:ad,∃l:ad,∃m:al,e=.returned (.tuple #[.agg #[b,c,d,g],h,.agg #[i,j,k,l],m])/\K b c d g h i j k l m w'
def rO(f:Nat)(a:Array Y)(w:J)(K:ar ag->ar ag->al->J->Prop):Prop:=Calls aj f a w λe w'=>∃b:ar ag,∃c:ar ag,∃d:al,e=.returned (.tuple #[b,c,d])/\K b c d w'
def yv(f:Nat)(a:Array Y)(w:J)(K:Int->Int->Int->J->Prop):Prop:=Calls aj f a w λe w'=>∃b:Int,∃c:Int,∃d:Int,e=.returned (.agg #[b,c,.int .u64 d])/\K b c d w'
def u_(f:Nat)(a:Array Y)(w:J)(K:Array Y->al->Int->J->Prop):Prop:=Calls aj f a w λe w'=>∃b:Array Y,∃c:al,∃d:Int,e=.returned (.tuple #[.agg b,c,d])/\K b c d w'
def r1(w:J)(A:ag)(K:ad->Prop):Prop:=∃x:ad,w.cell? A=some (.slice x.a x.len x.cap)/\K x
def aF(w:J)(A:ag)(K:Int->Prop):Prop:=∃x:Int,w.cell? A=some (.int .i64 x)/\K x
def cd(w:J)(A:ag)(K:Int->Prop):Prop:=∃x:Int,w.cell? A=some (.int .u64 x)/\K x
def aW(w:J)(A:ag)(K:al->Prop):Prop:=∃x:al,w.cell? A=some (.bool x)/\K x
def en(w:J)(A:ag)(K:Int->Prop):Prop:=∃x:Int,w.cell? A=some (.int .u8 x)/\K x
def iW:Obj:=.cells #[(0:Int),(0:Int),(0:Int),.int .u64 0,.int .u64 0,(0:Int)] 104
def fD:Obj:=.cells #[(0:Int),false,.int .u8 0,.int .u8 0,.int .u8 0,.int .u8 0,.int .u8 0,.int .u8 0,.int .u8 0,.int .u8 0,.int .u8 0,.int .u8 0,.int .u8 0,.int .u8 0,.int .u8 0,.int .u8 0,.int .u8 0,.int .u8 0,(0:Int),(0:Int),.int .u64 0] 29
def z3:Obj:=.cells #[false,.int .u8 0,.int .u8 0,.int .u8 0,.int .u8 0,.int .u8 0,.int .u8 0,.int .u8 0,.int .u8 0,.int .u8 0,.int .u8 0,.int .u8 0,.int .u8 0,.int .u8 0,.int .u8 0,.int .u8 0,.int .u8 0,(0:Int)] 26
def z4:Obj:=.cells #[false,(),(),()] 202
def z5:Obj:=.cells #[false,.int .u8 0,.int .u8 0,.int .u8 0,.int .u8 0,.int .u8 0,.int .u8 0,.int .u8 0,.int .u8 0,.int .u8 0,.int .u8 0,.int .u8 0,.int .u8 0,.int .u8 0,.int .u8 0,.int .u8 0,.int .u8 0] 24
def rP:Obj:=.cells #[.int .u8 0,.int .u8 0,.int .u8 0,.int .u8 0,.int .u8 0,.int .u8 0,.int .u8 0,.int .u8 0,.int .u8 0,.int .u8 0,.int .u8 0,.int .u8 0,.int .u8 0,.int .u8 0,.int .u8 0,.int .u8 0,.int .u8 0,.int .u8 0,.int .u8 0,.int .u8 0,.int .u8 0,.int .u8 0,.int .u8 0,.int .u8 0,.int .u8 0,.int .u8 0,.int .u8 0,.int .u8 0,.int .u8 0,.int .u8 0,.int .u8 0,.int .u8 0,.int .u8 0,.int .u8 0,.int .u8 0,.int .u8 0,.int .u8 0,.int .u8 0,.int .u8 0,.int .u8 0,.int .u8 0,.int .u8 0,.int .u8 0,.int .u8 0,.int .u8 0,.int .u8 0,.int .u8 0,.int .u8 0,.int .u8 0,.int .u8 0,.int .u8 0,.int .u8 0,.int .u8 0,.int .u8 0,.int .u8 0,.int .u8 0,.int .u8 0,.int .u8 0,.int .u8 0,.int .u8 0,.int .u8 0,.int .u8 0,.int .u8 0,.int .u8 0,.int .u8 0,.int .u8 0,.int .u8 0,.int .u8 0,.int .u8 0,.int .u8 0,.int .u8 0,.int .u8 0,.int .u8 0,.int .u8 0,.int .u8 0,.int .u8 0,.int .u8 0,.int .u8 0,.int .u8 0,.int .u8 0,.int .u8 0,.int .u8 0,.int .u8 0,.int .u8 0,.int .u8 0,.int .u8 0,.int .u8 0,.int .u8 0,.int .u8 0,.int .u8 0,.int .u8 0,.int .u8 0,.int .u8 0,.int .u8 0,.int .u8 0,.int .u8 0,.int .u8 0,.int .u8 0,.int .u8 0,.int .u8 0,.int .u8 0,.int .u8 0,.int .u8 0,.int .u8 0,.int .u8 0,.int .u8 0,.int .u8 0,.int .u8 0,.int .u8 0,.int .u8 0,.int .u8 0,.int .u8 0,.int .u8 0,.int .u8 0,.int .u8 0,.int .u8 0,.int .u8 0,.int .u8 0,.int .u8 0,.int .u8 0,.int .u8 0,.int .u8 0,.int .u8 0,.int .u8 0,.int .u8 0,.int .u8 0,.int .u8 0,.int .u8 0,.int .u8 0,.int .u8 0,.int .u8 0,.int .u8 0,.int .u8 0,.int .u8 0,.int .u8 0,.int .u8 0,.int .u8 0,.int .u8 0,.int .u8 0,.int .u8 0,.int .u8 0,.int .u8 0,.int .u8 0,.int .u8 0,.int .u8 0,.int .u8 0,.int .u8 0,.int .u8 0,.int .u8 0,.int .u8 0,.int .u8 0,.int .u8 0,.int .u8 0,.int .u8 0,.int .u8 0,.int .u8 0,.int .u8 0,.int .u8 0,.int .u8 0,.int .u8 0,.int .u8 0,.int .u8 0,.int .u8 0,.int .u8 0,.int .u8 0,.int .u8 0,.int .u8 0,.int .u8 0,.int .u8 0,.int .u8 0,.int .u8 0,.int .u8 0,.int .u8 0,.int .u8 0,.int .u8 0,.int .u8 0,.int .u8 0,.int .u8 0,.int .u8 0,.int .u8 0,.int .u8 0,.int .u8 0,.int .u8 0,.int .u8 0,.int .u8 0,.int .u8 0,.int .u8 0,.int .u8 0,.int .u8 0,.int .u8 0,.int .u8 0,.int .u8 0,.int .u8 0,.int .u8 0,.int .u8 0,.int .u8 0,.int .u8 0,.int .u8 0,.int .u8 0,.int .u8 0,.int .u8 0,.int .u8 0,.int .u8 0,.int .u8 0,.int .u8 0,.int .u8 0,.int .u8 0,.int .u8 0,.int .u8 0,.int .u8 0,.int .u8 0,.int .u8 0,.int .u8 0,.int .u8 0,.int .u8 0,.int .u8 0,.int .u8 0,.int .u8 0,.int .u8 0,.int .u8 0,.int .u8 0,.int .u8 0,.int .u8 0,.int .u8 0,.int .u8 0,.int .u8 0,.int .u8 0,.int .u8 0,.int .u8 0,.int .u8 0,.int .u8 0,.int .u8 0,.int .u8 0,.int .u8 0,.int .u8 0,.int .u8 0,.int .u8 0,.int .u8 0,.int .u8 0,.int .u8 0,.int .u8 0,.int .u8 0,.int .u8 0,.int .u8 0,.int .u8 0,.int .u8 0,.int .u8 0,.int .u8 0,.int .u8 0,.int .u8 0,.int .u8 0,.int .u8 0,.int .u8 0,.int .u8 0,.int .u8 0,.int .u8 0] 182
def rQ:Obj:=.cells #[(0:Int),.int .u64 0,()] 150
def yw:Obj:=.cells #[(),(0:Int)] 334
def a1:aO:=(.s .r (.c (.s .r .l) .l))
def e8:aO:=(.s .r (.s (.c .l .l) (.s (.b2 (.s .r a1)) .r)))
def gk:aO:=(.s .r (.s (.s .r (.b2 (.loop [(8,(.int .i64))] [0,1,7] e8))) (.s .r .l)))
def dt:aO:=(.s .r (.s a1 (.s .r .l)))
def eA:aO:=(.s .r (.c (.s .r .l) a1))
def ft:aO:=(.s .r (.s (.c .l .l) (.s (.b2 (.s .r (.s .r a1))) .r)))
def a2:aO:=(.s .r (.s (.c .l .l) (.s (.b2 (.s .r .r)) .r)))
def a3:aO:=(.s .r (.s (.di [.r,.r,.r,.pure 2]) .l))
def a4:aO:=(.s .r (.s .r (.s .r .l)))
def a5:aO:=(.s .r (.s (.s (.di [.r,.r,.r,.pure 2,.r,.r,.r,.pure 2]) (.c (.s .r .l) .l)) (.s .r .l)))
def dH:aO:=(.s .r (.s (.di [.r,.r,.r,.r,.pure 3]) .l))
def dX:aO:=(.c (.s .r (.s .r .l)) .l)
def e1:aO:=(.s .r (.s (.di [.r,.r,.r,.pure 2,.r,.r,.r,.split 7]) .l))
def a9:aO:=(.s (.di [.r,.r,.r,.split 3]) (.c (.s .r .l) .l))
def dQ:aO:=(.s (.di [.r,.r,.r,.pure 2]) (.c (.s .r .l) .l))
theorem okF{f:Nat}{fn:Func}(p:J->(Y->J->Prop)->Prop)(A:aO){args:O Y}{w:J}{Q:Y->J->Prop}(hf:Tryz.prog.funcs[f]? =some fn)(h:p w Q)(h1:mw fn args.length=true:=by kernel_rfl)(a:p w Q=nP aj tk A fn args w Q:=by kernel_rfl):aL aj f args.toArray w Q:=BM u7 hf h1 (Eq.mp a h)
def rT(c:ad)(d:J)(e:J)(f:J)(g:J->Prop):Prop:=∃a:ad,∃b:J,Sem.run aj (Builtin.append_ #[127,127] 127 #[c,
 .slice (some (aa d)) 1 1]) e=.ok a b/\st b ((aa f).add 1) a λh=>g h
def rR(a:J)(c:J)(ai:J)(d:al)(Q:Y->J->Prop):Prop:=r1 a ((aa c).add 1) λe=>r1 a ((aa c).add 2) λf=>r1 a ((aa c).add 3) λg=>bh a (aa ai)
 [d,e,f,g]/\(4:Nat)=4/\an (setCells a (aa ai) 0 [d,e,f,g]) λb=>aW b (aa ai) λh=>r1 b ((aa ai).add 1) λi=>r1 b ((aa ai).add 2) λj=>r1 b ((aa ai).add 3) λk=>Q (.tuple #[.agg #[h,i,j,k],true]) b
def rS(a:J)(ai:J)(Q:Y->J->Prop)(b:al):Prop:=r1 a ((aa ai).add 1) λc=>r1 a ((aa ai).add 2) λd=>r1 a ((aa ai).add 3) λe=>Q (.tuple #[.agg #[b,c,d,e],false]) a
def bR(l:J)(a:J)(m:al)(n:ad)(o:ad)(p:ad)(b:J)(q:al)(r:ad)(s:ad)(t:ad)(w:J)(key:ad)(ai:J)(Q:Y->J->Prop):Prop:=bh l (aa a)
 [m,n,o,p]/\(4:Nat)=4/\an (setCells l (aa a) 0 [m,n,o,p]) λu=>bh u (aa b) [q,r,s,t]/\(4:Nat)=4/\an (setCells u (aa b) 0 [q,r,s,t]) λf=>b1 (λv:J->Prop=>aW f (aa w) λF=>ao (!F) (an (f.drew) λg=>∃h:Nat->Prop,¬h ((aa a).add 1).block/\r1 g ((aa a).add 1)
 λG=>bJ 135 #[key] g λH d=>ae h g d/\an (d.alloc (.cells #[H] 48)) λx=>ae h d x/\rT G d x a v) (v
 f)) (λi=>r1 i ((aa a).add 1) λI=>r1 i ((aa b).add 1) λK=>∃y:ad,∃z:J,Sem.run aj (Builtin.append_ #[127,127] 127 #[I,
 K]) i=.ok y z/\st z ((aa a).add 1) y λj=>r1 j ((aa a).add 2) λL=>r1 j ((aa b).add 2) λM=>∃A:ad,
 ∃B:J,Sem.run aj (Builtin.append_ #[127,127] 127 #[L,M]) j=.ok A B/\st B ((aa a).add 2)
 A λk=>r1 k ((aa a).add 3) λN=>r1 k ((aa b).add 3) λO=>∃C:ad,∃D:J,Sem.run aj (Builtin.append_ #[58,58] 58 #[N,O]) k=.ok C D/\st D ((aa a).add 3) C λc=>aW c (aa a) λP=>r1 c ((aa a).add 1) λR=>r1 c
 ((aa a).add 2) λS=>r1 c ((aa a).add 3) λT=>cc 203 #[.agg #[P,R,S,T]] c λU e=>ao (!U) (bh
 e (aa ai) [false,(),(),()]/\(4:Nat)=4/\an (setCells e (aa ai) 0 [false,(),(),()]) λE=>aW E (aa ai) λV=>rS E ai Q
 V) (aW e (aa a) λW=>rR e a ai W Q))
def pR(a:J)(b:J)(c:al)(d:ad)(e:ad)(f:ad)(g:J->Prop):Prop:=bh a (aa b) [c,d,e,f]/\(4
 :Nat)=4/\an (setCells a (aa b) 0 [c,d,e,f]) λh=>g h
def rU(d:J)(a:J)(e:al)(f:ad)(g:ad)(h:ad)(i:al)(Q:Y->J->Prop)(c:ar ag)(n31:Int):Prop:=bh d (aa a) [e,f,
 g,h]/\(4:Nat)=4/\an (setCells d (aa a) 0 [e,f,g,h]) λb=>
 ao (!i) (Q (.tuple #[(),(0:Int),(0:Int),(4:Int)]) b) (aW b (aa a) λj=>r1 b ((aa a).add 1) λk=>r1 b ((aa a).add 2) λl=>r1 b ((aa a).add 3) λ
 m=>eR 281 #[c,.agg #[j,k,l,m]] b λn o p=>Q (.tuple #[n,n31,.int .i64 (au (n31+2)),o]) p)
def bZ(j:J)(e:J)(q:al)(r:ad)(s:ad)(t:ad)(U:Nat->Prop)(f:J)(u:al)(v:ad)(x:ad)(y:ad)(up:ar ag)(n36:Int)(w:J)(h:J)(n31:Int)(Q:Y
 ->J->Prop)(c:ar ag):Prop:=bh j (aa e) [q,r,s,t]/\(4:Nat)=4/\an (setCells j (aa e) 0 [q,r,s,t]) λk=>ae U j k/\bh k (aa f) [u,v,x,y]/\(4:
 Nat)=4/\an (setCells k (aa f) 0 [u,v,x,y]) λl=>b1 (λz:J->Prop=>∃A:ag,up=some A/\aF l (A.add 5) λV
 =>ao (decide (n36>V)) (an (l.drew) λd=>∃m:Nat->Prop,¬m ((aa w):ag).block/\aW d (aa w) λB=>r1 d ((aa w).add 1) λC=>r1 d ((aa w).add 2) λD=>r1 d ((aa w).add 3) λE
 =>¬m ((aa h):ag).block/\aW d (aa h) λW=>r1 d ((aa h).add 1) λX=>r1 d ((aa h).add 2) λZ=>r1 d ((aa h).add 3) λab=>bh d (aa e) [B,C,D,E]/\(4:Nat)=4/\an (setCells d (aa e) 0 [B,C,D,E]) λF=>ae m d
 F/\pR F f W X Z ab z) (z l)) (λac=>an (ac.drew) λb=>∃g:Nat->Prop,¬g ((aa e):ag).block/\aW b (aa e) λG=>r1 b ((aa e).add 1) λH=>r1 b ((aa e).add 2) λ
 I=>r1 b ((aa e).add 3) λK=>∃n:ag,up=some n/\¬g ((n.add 1).add 1).block/\r1 b ((n.add 1).add 1) λL=>∃o:ag,L.a=some o/\aK n31 L.len/\¬g (o.add (n31.toNat*
 1)).block/\r1 b (o.add (n31.toNat*1)) λM=>¬g ((aa f):ag).block/\aW b (aa f) λN=>r1 b ((aa f).add 1) λO=>r1 b ((aa f).add 2) λP=>r1 b ((aa f).add 3) λ
 R=>(nW 282 #[.agg #[G,H,I,K],M,.agg #[N,O,P,R]] b λaf ah ai aj ak i=>ae g b i/\an (i.alloc z4) λS=>ae g i S/\rU S i af ah ai aj ak Q c n31)/\(an (b.alloc z4) λ
 p=>ae g b p/\nW 282 #[.agg #[G,H,I,K],M,.agg #[N,O,
 P,R]] p λam ap aq au av T=>ae g p T/\rU T b am ap aq au av Q c n31))
def dk(a:J)(b:J)(w1:J)(Q:Y->J->Prop):Prop:=aW a (aa b) λc=>rR a b w1 c Q
def rV(a:J)(c:J)(w1:J)(d:al)(Q:Y->J->Prop):Prop:=r1 a ((aa c).add 1) λe=>r1 a ((aa c).add 2) λf=>r1 a ((aa c).add 3) λg=>bh a (aa w1)
 [d,e,f,g]/\(4:Nat)=4/\an (setCells a (aa w1) 0 [d,e,f,g]) λb=>aW b (aa w1) λh=>r1 b ((aa w1).add 1) λi=>r1 b ((aa w1).add 2) λj=>r1 b ((aa w1).add 3) λk=>Q (.agg #[h,i,j,k]) b
def lH(n:J)(b:J)(h:Array Y)(l:ad)(w:J)(to:Int)(w1:J)(Q:Y->J->Prop):Prop:=bh n (aa b) (Array.toList h)/\Array.size h=4/\an (setCells n (aa b) 0
 (Array.toList h)) λB=>∃ (i:Int->J->Prop) (o:Int->J->Nat),i 0 B/\∀ (n19:Int) (c:J),i n19 c->ao (decide (n19<(l.len:Int))) (∃j:ag,l.a=some j/\aK n19 l.len/\r1 c (j.add
 (n19.toNat*2)) λp=>aF c ((j.add (n19.toNat*2)).add 1) λn23=>an (c.alloc yw) λq=>bh q (aa c) [p,n23]/\(2:Nat)=2/\an (setCells q (aa c) 0 [p,n23]) λd=>b1 (λr:J->Prop=>r1 d (aa c) λC=>ao (!(Option.isNone C.a)) (r1 d ((aa b).add 1) λD=>r1 d (aa c) λE=>an (d.alloc (.cells #[E] 48)) λF=>rT D d F b r) (r d)) (λg=>r1 g ((aa b).add 3) λG=>aF g ((aa c).add 1) λn36=>an (g.alloc (.cells #[n36] 3)) λH=>∃s:ad,
 ∃t:J,Sem.run aj (Builtin.append_ #[58,58] 58 #[G,.slice (some (aa g)) 1 1]) H=.ok s t/\st t ((aa b).add 3) s λu=>i (au (n19+1)) u/\o (au (n19+1)) u<o n19 c)) (an (c.drew) λk=>¬False/\r1 k ((aa b).add 1) λI=>¬False/\r1 k ((aa w).add 1) λe=>((0:Int)<=(au (to-
 1))/\(au (to-1))<=(e.len:Int))/\∃v:ad,∃x:J,Sem.run aj (Builtin.append_ #[127,127] 127 #[I,.slice (aJ e.a 1 ((au (to-1)).toNat) e.cap)
 (e.len-((au (to-1)).toNat)) (e.cap-((au (to-1)).toNat))]) k=.ok v x/\st x ((aa b).add 1) v λK=>an (K.drew) λm=>¬False/\r1 m
 ((aa b).add 3) λL=>¬False/\r1 m ((aa w).add 3) λf=>((0:Int)<=to/\to<=(f.len:Int))/\∃y:ad,∃z:J,Sem.run aj (Builtin.append_ #[58,58] 58 #[L,.slice (aJ f.a 1 (to.toNat) f.cap) (f.len-(to.toNat)) (f.cap-(to.toNat))]) m=.ok y z/\st z ((aa b).add 3) y λA=>aW A (aa
 b) λM=>rV A b w1 M Q)
def mC(o:Array Y)(f:J)(c:Nat->Prop)(p:Array Y)(w1:J)(ai:J)(Q:Y->J->Prop)(q:ad):Prop:=f_ 204 #[.agg o] f λg h i j d=>ae c f d/\f_
 204 #[.agg p] d λk l m n b=>ae c d b/\bh b (aa w1) [g,h,i,j]/\(4:Nat)=4/\an (setCells b (aa w1) 0
 [g,h,i,j]) λe=>ae c b e/\bh e (aa ai) [k,l,m,n]/\(4:Nat)=4/\an (setCells e (aa ai) 0 [k,l,m,n]) λa=>aW a (aa w1) λr=>r1 a ((aa w1).add 1) λs=>
 r1 a ((aa w1).add 2) λt=>r1 a ((aa w1).add 3) λu=>aW a (aa ai) λv=>r1 a ((aa ai).add 1) λw=>r1 a ((aa ai).add 2) λx=>r1 a ((aa ai).add 3) λy=>Q (.tuple #[.agg
 #[r,s,t,u],q,.agg #[v,w,x,y],true]) a
def rW(a:J)(w1:J)(Q:Y->J->Prop):Prop:=aW a (aa w1) λb=>rS a w1 Q b
def gH(a:J)(b:J)(w1:J)(Q:Y->J->Prop):Prop:=aW a (aa b) λc=>rV a b w1 c Q
def rX(a:J)(w:J)(Q:Y->J->Prop)(n7:Int):Prop:=aW a (aa w) λb=>r1 a ((aa w).add 1) λc=>r1 a ((aa w).add 2) λd=>r1 a ((aa w).add 3) λe=>Q (.tuple #[.agg #[b,c,d,e],n7]) a
def fE(g:ad)(n17:Int)(c:J)(d:J)(n:Int->J->Prop)(h:Int->J->Nat):Prop:=∃i:ag,g.a=some i/\aK n17 g.len/\r1 c (i.add (n17.toNat*1)) λo=>an (c.drew) λe
 =>∃f:Nat->Prop,¬f ((aa d).add 1).block/\r1 e ((aa d).add 1) λp=>bJ 135 #[o] e λq b=>ae f e b/\an (b.alloc (.cells #[q] 48)) λj=>ae f b j/\∃k:ad,∃l:J,Sem.run aj (Builtin.append_ #[127,127] 127 #[p,.slice (some (aa b)) 1 1]) j=
 .ok k l/\st l ((aa d).add 1) k λm=>n (au (n17+1)) m/\h (au (n17+1)) m<h n17 c
def yx(g:ad)(n34:Int)(c:J)(d:J)(n:Int->J->Prop)(h:Int->J->Nat):Prop:=∃i:ag,g.a=some i/\aK n34 g.len/\r1 c (i.add (n34.toNat*1)) λo=>an (c.drew) λe
 =>∃f:Nat->Prop,¬f ((aa d).add 2).block/\r1 e ((aa d).add 2) λp=>bJ 135 #[o] e λq b=>ae f e b/\an (b.alloc (.cells #[q] 48)) λj=>ae f b j/\∃k:ad,∃l:J,Sem.run aj (Builtin.append_ #[127,127] 127 #[p,.slice (some (aa b)) 1 1]) j=
 .ok k l/\st l ((aa d).add 2) k λm=>n (au (n34+1)) m/\h (au (n34+1)) m<h n34 c
def va(g:J)(ai:J)(w1:J)(h:J->Prop):Prop:=an (g.drew) λb=>∃c:Nat->Prop,¬c ((aa ai).add 3).block/\r1 b ((aa ai).add 3) λi=>b7 272 #[.pointer (some (aa
 w1)),(2:Int)] b λn14 a=>ae c b a/\an (a.alloc (.cells #[n14] 3)) λd=>ae c a d/\∃e:ad,∃f:J,Sem.run aj (Builtin.append_ #[58,58] 58 #[i,.slice (some (aa a)) 1 1]) d=.ok e f/\st f ((aa ai).add 3) e λj=>h j
def pS(a:J)(w:J)(Q:Y->J->Prop):Prop:=aW a (aa w) λb=>r1 a ((aa w).add 1) λc=>r1 a ((aa w).add 2) λd=>r1 a ((aa w).add 3) λe=>Q (.tuple #[.agg #[b,
 c,d,e],(4:Int)]) a
def vb(m:Y)(n:J)(d:ar ag)(o:J->Prop)(h:J->Nat)(p:J):Prop:=∃n15:Int,∃q:Y,∃i:J,Sem.run aj (Instr.entry (m)) n=.ok (.tuple #[n15,q])
 i/\an (i.drew) λb=>∃j:Nat->Prop,∃c:ag,d=some c/\¬j (c.add 4).block/\r1 b (c.add 4) λk=>jU 137 #[d,n15] b λe f=>ae j b f/\∃g:ag,
 k.a=some g/\aK n15 k.len/\bh f (g.add (n15.toNat*256)) (Array.toList e)/\Array.size e=256/\an (setCells f (g.add (n15.toNat*256)) 0 (Array.toList e)) λl=>o l/\h l<h p
def rY(a:J)(b:ad)(c:J)(d:ad)(Q:Y->J->Prop):Prop:=an (a.alloc (.cells #[b,.slice (some (aa c)) 2 2,d] 48)) λe=>bJ
 92 #[.slice (some (aa a)) 3 3] e λf g=>Q (.tuple #[f,true]) g
def vc(h:ad)(j:ad)(c:J)(k:Nat->Prop)(l:ar Nat)(i:Int)(d:ar ag)(Q:Y->J->Prop):Prop:=∃e:ad,∃a:J,Sem.run aj (Builtin.append_ #[136,
 136] 136 #[h,j]) c=.ok e a/\ae k c a/\∃b:J,Sem.run aj (Instr.mapUpdate 137
 (.map l) i e) a=.ok () b/\∃f:ag,d=some f/\aF b (f.add 6) λn24=>∃g:ag,d=some g/\st b (g.add 6) (.int .i64 (au (n24+1))) λm=>Q (0:Int) m
def rZ(b:al)(a:al->J->Prop)(ai:J)(w:J):Prop:=ao (!b) (a true ai) (aW ai (aa w) λc=>r1 ai ((aa w).add 1) λd=>r1 ai ((aa w).add 2) λe=>r1 ai ((aa w).add 3) λf=>cc
 203 #[.agg #[c,d,e,f]] ai λg h=>a (!g) h)
def eS(a:ad):Prop:=(0:Int)<=(au (232-(a.len:Int)))/\((au (232-(a.len:Int))):Int)<=(au (232-(a.len:Int)))/\((au (232-(a.len:Int))):Int)<=jt/\((1:Nat):Int)*(au (232-(a.len:Int)))<=
 140737488355328
def vd(a:J)(c:ad)(d:J)(e:ad)(f:J)(b:ad)(g:ad->J->Prop):Prop:=an (a.alloc (.cells #[c,.slice (some (aa d)) (Int.toNat 4) (Int.toNat 4),e,.slice (some (aa f)) ((au (232-(b.len:Int))).toNat) ((au (232-(b.len:Int))).toNat)] 48)) λh=>bJ 92 #[.slice (some (aa a)) 4 4] h λi j=>g i j
def ve(d:ar ag)(a:J)(Q:Y->J->Prop):Prop:=∃b:ag,d=some b/\∃c:ar Nat,a.cell? (b.add 5)=some (.map c)/\∃ (f:Y) (e:J),Sem.run aj (Builtin.clear_
 #[137] 0 #[.map c]) a=.ok f e/\Q (0:Int) e
def vf(a:J)(w:J)(Q:Y->J->Prop):Prop:=aF a (aa w) λn9=>cd a ((aa w).add 1) λn10=>r1 a ((aa w).add 2) λb=>Q (.tuple #[.agg #[n9,.int .u64 n10,b],(4:Int)]) a
def vg(b:J)(w:J)(a:O Y)(Q:Y->J->Prop):Prop:=bh b (aa w) (Array.toList a.toArray)/\Array.size a.toArray=256/\an (setCells b (aa w) 0 (Array.toList a.toArray)) λc=>∃d:O
 Y,bE c (aa w) 0 256=some d/\Q (.agg d.toArray) c
def vh(ai:J)(w:J)(eZ:Array Y)(Q:Y->J->Prop):Prop:=bh ai (aa w) (Array.toList eZ)/\Array.size eZ=17/\an (setCells ai (aa w) 0 (Array.toList eZ)) λa=>∃b:O Y,bE a (aa w) 0
 17=some b/\Q (.tuple #[.agg b.toArray,true]) a
def r0(h:J)(b:J)(i:al)(j:ad)(k:ad)(l:ad)(m:Int)(Q:Y->J->Prop)(c:ar ag)(n41:Int)(w:J)(up:ar ag)(n36:Int)(n31:Int):Prop:=bh h (aa b)
 [i,j,k,l]/\(4:Nat)=4/\an (setCells h (aa b) 0 [i,j,k,l]) λe=>ao (m !=0) (Q (.tuple #[(),(0:Int),(0:Int),m]) e) (∃n:ag,c=some n/\r1 e (n.add 2) λC=>an (e.alloc (.cells #[n41] 3)) λD=>∃o:
 ad,∃p:J,Sem.run aj (Builtin.append_ #[58,58] 58 #[C,.slice (some (aa e)) 1 1]) D=.ok o p/\∃q:ag,c=some q/\st p (q.add
 2) o λE=>an (E.drew) λa=>∃d:Nat->Prop,¬d ((aa b):ag).block/\aW a (aa b) λr=>r1 a ((aa b).add 1) λs=>r1 a ((aa b).add 2) λt=>r1 a
 ((aa b).add 3) λu=>¬d ((aa w):ag).block/\aW a (aa w) λv=>r1 a ((aa w).add 1) λx=>r1 a ((aa w).add 2) λy=>r1 a ((aa w).add 3) λz=>(an (a.alloc z4) λf=>ae d
 a f/\an (f.alloc z4) λA=>ae d f A/\bZ A a r s t u d f v x y z up n36 w b n31 Q c)/\(an (a.alloc z4) λg=>ae d a g/\an (g.alloc z4) λB=>ae d g B/\bZ B
 g r s t u d a v x y z up n36 w b n31 Q c))
def mD(c:al)(d:ad)(e:ad)(f:ad)(a:J)(g:Nat->Prop)(h:J)(i:al)(j:ad)(k:ad)(l:ad)(m:J)(w:J)(key:ad)(ai:J)(Q:Y->J->Prop):Prop:=f_
 204 #[.agg #[c,d,e,f]] a λn o p q b=>ae g a b/\bR b h i j k l m n o p q w key ai
 Q
def vi(g:J)(a:J)(c:Array Y)(w:J)(w1:J)(Q:Y->J->Prop):Prop:=bh g (aa a) (Array.toList c)/\Array.size c=4/\an (setCells g (aa a) 0 (Array.toList c)) λh=>r1
 h ((aa w).add 1) λi=>∃ (d:Int->J->Prop) (k:Int->J->Nat),d 0 h/\∀ (n17:Int) (b:J),d n17 b->ao (decide (n17<(i.len:Int))) (fE i n17 b a d k) (r1 b ((aa w).add 2) λ
 j=>∃ (e:Int->J->Prop) (l:Int->J->Nat),e 0 b/\∀ (n34:Int) (f:J),e n34 f->ao (decide (n34<(j.len:Int))) (yx j n34 f a e l) (gH f a w1 Q))
def vj(a:J)(w:J)(Q:Y->J->Prop)(n7:Int):Prop:=bh a (aa w) [false,(),(),()]/\(4:Nat)=4/\an (setCells a (aa w) 0 [false,(),
 (),()]) λb=>rX b w Q n7
set_option maxRecDepth 100000
def ah.mE(s:ad)(w:J)(Q:Y->J->Prop):Prop:=ao (Option.isNone s.a) (Q () w) (an (w.alloc (.cells #[] 5)) λw1=>∃s2:ad,∃b:J,Sem.run aj
 (Builtin.append_ #[48,48] 48 #[.slice (some (aa w)) 0 0,s]) w1=.ok s2 b/\Q s2 b)
def az.mE:aO:=dt
def ah.mF(a:ad)(b:ad)(w:J)(Q:Y->J->Prop):Prop:=∃s1:ByteArray,∃ai:J,Sem.run aj (convert 48 9 a) w=.ok (.string s1) ai/\∃c:ByteArray,∃d
 :J,Sem.run aj (convert 48 9 b) ai=.ok (.string c) d/\Q (.bool (ByteArray.toList s1==ByteArray.toList c)) d
def az.mF:aO:=(.s .r (.s .r .l))
def ah.lI(a:ad)(b:ad)(w:J)(Q:Y->J->Prop):Prop:=∃bL:Int,∃ai:J,Sem.run aj (callFunc 230 #[a,b]) w=.ok (.value bL) ai/\Q bL ai
def az.lI:aO:=(.s .r (.s .r .l))
def ah.r2(s:ad)(w:J)(Q:Y->J->Prop):Prop:=ao (Option.isNone s.a) (Q () w) (an (w.alloc (.cells #[] 5)) λw1=>∃s2:ad,∃b:J,Sem.run aj
 (Builtin.append_ #[215,215] 215 #[.slice (some (aa w)) 0 0,s]) w1=.ok s2 b/\Q s2 b)
def az.r2:aO:=dt
def ah.r3(x:Int)(w:J)(Q:Y->J->Prop):Prop:=(0:Int)<=x/\∃cf:UInt8,uA (ByteArray.mk #[0,1,1,2,1,2,2,3,1,2,2,3,2,3,3,4,1,2,2,3,2,3,3,4,2,3,3,4,3,4,4,5,1,2,
 2,3,2,3,3,4,2,3,3,4,3,4,4,5,2,3,3,4,3,4,4,5,3,4,4,5,4,5,5,6,1,2,2,3,2,3,3,4,2,3,3,4,3,4,4,5,2,3,3,4,3,4,4,5,3,4,4,5,4,5,5,6,2,3,3,4,3,4,4,5,3,4,4,5,4,5,5,6,3,4,
 4,5,4,5,5,6,4,5,5,6,5,6,6,7,1,2,2,3,2,3,3,4,2,3,3,4,3,4,4,5,2,3,3,4,3,4,4,5,3,4,4,5,4,5,5,6,2,3,3,4,3,4,4,5,3,4,4,5,4,5,5,6,3,4,4,5,4,5,5,6,4,5,5,6,5,6,6,7,2,3,
 3,4,3,4,4,5,3,4,4,5,4,5,5,6,3,4,4,5,4,5,5,6,4,5,5,6,5,6,6,7,3,4,4,5,4,5,5,6,4,5,5,6,5,6,6,7,4,5,5,6,5,6,6,7,5,6,6,7,6,7,7,8]) (x.toNat)=some cf/\Q (.int .i64 (au ((cf.toNat
 :Nat):Int))) w
def az.r3:aO:=(.s .r (.s .r .l))
def ah.r4(s:ad)(i:Int)(v:ad)(w:J)(Q:Y->J->Prop):Prop:=((0:Int)<=i/\i<=(s.len:Int))/\ao ((v.len:Int)==0) (Q s w) (ao (i==(s.len:Int)) (∃s1:ad,
 ∃ai:J,Sem.run aj (Builtin.append_ #[127,127] 127 #[s,v]) w=.ok s1 ai/\Q s1 ai) (ao (decide
 (((au ((s.len:Int)+(v.len:Int))):Int)>(s.cap:Int))) (((0:Int)<=i/\i<=(s.cap:Int))/\∃b:ad,∃d:J,Sem.run aj (Builtin.append_ #[127,3] 127 #[.slice (aJ s.a 1 0
 s.cap) ((i.toNat)-0) (s.cap-0),.int .i64 (au ((au ((s.len:Int)+(v.len:Int)))-i))]) w=.ok b d/\((0:Int)<=i/\i<=(b.len:Int))/\∃n5:Int,∃e:J,Sem.run aj (Builtin.copy_
 #[127,127] 3 #[.slice (aJ b.a 1 (i.toNat) b.cap) (b.len-(i.toNat)) (b.cap-(i.toNat)),v]) d=.ok n5 e/\an (e.drew) λl=>((0:Int)<=(au (i+
 (v.len:Int)))/\(au (i+(v.len:Int)))<=(b.len:Int))/\((0:Int)<=i/\i<=(s.len:Int))/\∃n8:Int,∃f:J,Sem.run aj (Builtin.copy_ #[127,127] 3 #[.slice (aJ b.a 1 ((au (i+
 (v.len:Int))).toNat) b.cap) (b.len-((au (i+(v.len:Int))).toNat)) (b.cap-((au (i+(v.len:Int))).toNat)),.slice (aJ s.a 1 (i.toNat) s.cap) (s.len-(i.toNat)) (s.cap-(i.toNat))]) l=.ok n8 f/\Q
 b f) (((0:Int)<=(au ((s.len:Int)+(v.len:Int)))/\(au ((s.len:Int)+(v.len:Int)))<=(s.cap:Int))/\((0:Int)<=(au (i+(v.len:Int)))/\(au (i+(v.len:Int)))<=(((((au ((s.len:Int)+
 (v.len:Int))).toNat)-0):Nat):Int))/\∃g:al,∃c:J,Sem.run aj (callFunc 252 #[v,.slice (aJ (aJ s.a 1 0 s.cap) 1 ((au (i+(v.len:Int))).toNat) (s.cap-0))
 ((((au ((s.len:Int)+(v.len:Int))).toNat)-0)-((au (i+(v.len:Int))).toNat)) ((s.cap-0)-((au (i+(v.len:Int))).toNat))]) w=.ok (.value g) c/\ao (!g) (an (c.drew) λm=>((0:Int)<=(au (i+
 (v.len:Int)))/\(au (i+(v.len:Int)))<=(((((au ((s.len:Int)+(v.len:Int))).toNat)-0):Nat):Int))/\((0:Int)<=i/\i<=(((((au ((s.len:Int)+(v.len:Int))).toNat)-0):Nat):Int))/\∃n13:Int,∃h:J,Sem.run
 aj (Builtin.copy_ #[127,127] 3 #[.slice (aJ (aJ s.a 1 0 s.cap) 1 ((au (i+(v.len:Int))).toNat) (s.cap-0)) ((((au ((s.len:Int)+(v.len:Int))).toNat)-0)-((au (i+
 (v.len:Int))).toNat)) ((s.cap-0)-((au (i+(v.len:Int))).toNat)),.slice (aJ (aJ s.a 1 0 s.cap) 1 (i.toNat) (s.cap-0)) ((((au ((s.len:Int)+(v.len:Int))).toNat)-0)-(i.toNat)) ((s.cap-0)-(i.toNat))]) m=
 .ok n13 h/\((0:Int)<=i/\i<=(((((au ((s.len:Int)+(v.len:Int))).toNat)-0):Nat):Int))/\∃n15:Int,∃j:J,Sem.run aj (Builtin.copy_ #[127,127] 3 #[.slice (aJ (aJ
 s.a 1 0 s.cap) 1 (i.toNat) (s.cap-0)) ((((au ((s.len:Int)+(v.len:Int))).toNat)-0)-(i.toNat)) ((s.cap-0)-(i.toNat)),v]) h=.ok n15 j/\Q (.slice (aJ s.a 1 0 s.cap)
 (((au ((s.len:Int)+(v.len:Int))).toNat)-0) (s.cap-0)) j) (((0:Int)<=(s.len:Int)/\(s.len:Int)<=(((((au ((s.len:Int)+(v.len:Int))).toNat)-0):Nat):Int))/\∃n17:Int,∃k:J,Sem.run aj
 (Builtin.copy_ #[127,127] 3 #[.slice (aJ (aJ s.a 1 0 s.cap) 1 (Int.toNat (s.len:Int)) (s.cap-0)) ((((au ((s.len:Int)+(v.len:Int))).toNat)-0)-(Int.toNat (s.len:Int))) ((s.cap-0)-(Int.toNat
 (s.len:Int))),v]) c=.ok n17 k/\((0:Int)<=i/\i<=(((((au ((s.len:Int)+(v.len:Int))).toNat)-0):Nat):Int))/\fS 253 #[.slice (aJ (aJ s.a 1 0 s.cap) 1
 (i.toNat) (s.cap-0)) ((((au ((s.len:Int)+(v.len:Int))).toNat)-0)-(i.toNat)) ((s.cap-0)-(i.toNat)),.int .i64 (v.len:Int)] k λn=>Q (.slice (aJ s.a 1 0 s.cap) (((au ((s.len:Int)+
 (v.len:Int))).toNat)-0) (s.cap-0)) n))))
def az.r4:aO:=(.s .r (.s .r (.s .r (.s a1 (.s .r (.s a1 (.s (.s .r (.c (.s .r (.s .r (.s (.cE 8 false ⟨[0,0,0,6,9,0,0,96,144],[0,0,0,6,9,0,0,96,144]⟩ [70368744177664,140737488355328,
 281474976710656,562949953421312,1125899906842624,2251799813685248,4503599627370496,9007199254740992,18014398509481984] [512,2,128,422212465065984,633318697598976,1,2,6755399441055744,10133099161583616] (.t 0 (.t 1 (.t 2 (.t 3
 (.t 4 (.t 5 (.t 6 (.t 7 (.tail [.r])))))))))) (.s .r .l)))) .l)) (.s .r (.s (.s .r (.c (.s (.cE 8 false ⟨[0,0,0,6,9,0,0,96,144],[0,0,0,6,9,0,0,96,144]⟩ [590295810358705651712,1180591620717411303424,
 2361183241434822606848,4722366482869645213696,9444732965739290427392,18889465931478580854784,37778931862957161709568,75557863725914323419136,151115727451828646838272] [1,2,128,3541774862152233910272,5312662293228350865408,1,2,
 56668397794435742564352,85002596691653613846528] (.t 0 (.t 1 (.t 2 (.t 3 (.t 4 (.t 5 (.t 6 (.t 7 (.tail [.r])))))))))) (.s .r (.s .r .l))) .l)) a4)))))))))
def ah.r5(x:ad)(target:ad)(cmp:iQ)(w:J)(Q:Y->J->Prop):Prop:=∃ (d:Int->Int->J->Prop) (e:Int->Int->J->Nat),d 0 (x.len:Int) w/\∀ (b:Int)
 (cv:Int) (c:J),d b cv c->ao (decide (b<cv)) ((0:Int)<=1/\∃dH:ag,x.a=some dH/\((0:Int)<=(au (Int.fdiv (IntKind.wrap .u64 (au (b+cv))) (2^(min (Int.toNat 1) 64))))/\(au (Int.fdiv (IntKind.wrap .u64 (au
 (b+cv))) (2^(min (Int.toNat 1) 64))))<(x.len:Int))/\r1 c (dH.add (Int.toNat (au (Int.fdiv (IntKind.wrap .u64 (au (b+cv))) (2^(min (Int.toNat 1) 64))))*1)) λh=>iT aj cmp.f/\Calls aj cmp.f (cmp.pre
 ++ #[.slice h.a h.len h.cap,.slice target.a target.len target.cap]++cmp.cap) c λk g=>∃n10:Int,k=.returned (.int .i64 n10)/\ao (decide (n10<0)) (d (au ((au (Int.fdiv (IntKind.wrap .u64 (au (b+cv))) (2^(min
 (Int.toNat 1) 64))))+1)) cv g/\e (au ((au (Int.fdiv (IntKind.wrap .u64 (au (b+cv))) (2^(min (Int.toNat 1) 64))))+1)) cv g<e b cv c) (d b (au (Int.fdiv (IntKind.wrap .u64 (au (b+cv))) (2^(min (Int.toNat 1) 64)))) g
 /\e b (au (Int.fdiv (IntKind.wrap .u64 (au (b+cv))) (2^(min (Int.toNat 1) 64)))) g<e b cv c)) (b1 (λj:al->J->Prop=>ao (decide (b<(x.len:Int))) (∃e8:ag,x.a=some e8/\aK b x.len/\r1 c (e8.add
 (Int.toNat b*1)) λi=>iT aj cmp.f/\Calls aj cmp.f (cmp.pre++ #[.slice i.a i.len i.cap,.slice target.a target.len target.cap]++cmp.cap) c λl m=>∃n16:Int,l=.returned (.int .i64 n16)/\
 j (n16==0) m) (j false c)) (λ(n:al) o=>Q (.tuple #[.int .i64 b,.bool n]) o))
def az.r5:aO:=(.s .r (.s .r (.s .r (.s (.b2 (.loop [(9,(.int .i64)),(10,(.int .i64))] [0,1,2,8] (.s (.s .r (.c .l .l)) (.b2 (.s .r (.s .r (.c .r .r))))))) (.s (.di [.r,.r,.r,.r,
 .r,.split 8]) .l)))))
def ah.r6(s:ad)(f:iQ)(w:J)(Q:Y->J->Prop):Prop:=b7 278 #[s,.func (.func f.f) f.pre f.cap] w λa w1=>Q (.bool
 (decide (a>=0))) w1
def az.r6:aO:=(.s .r (.s .r .l))
def ah.r7(s:ad)(f:iQ)(w:J)(Q:Y->J->Prop):Prop:=b7 279 #[s,.func (.func f.f) f.pre f.cap] w λa w1=>Q (.bool (decide (a>=0))) w1
def az.r7:aO:=(.s .r (.s .r .l))
def ah.r8(s:ad)(w:J)(Q:Y->J->Prop):Prop:=ao (Option.isNone s.a) (Q () w) (an (w.alloc (.cells #[] 3)) λw1=>∃s2:ad,∃b:J,Sem.run aj (Builtin.append_
 #[58,58] 58 #[.slice (some (aa w)) 0 0,s]) w1=.ok s2 b/\Q s2 b)
def az.r8:aO:=dt
set_option maxRecDepth 100000
def ah.pT(s:ad)(f:iQ)(w:J)(Q:Y->J->Prop):Prop:=∃ (d:Int->J->Prop) (h:Int->J->Nat),d 0 w/\∀ (b:Int) (c:J),d b c->ao (decide (b<(s.len:Int)))
 (∃a5:ag,s.a=some a5/\aK b s.len/\r1 c (a5.add (Int.toNat b*1)) λe=>iT aj f.f/\Calls aj f.f (f.pre++ #[.slice e.a e.len e.cap]++f.cap) c λj g=>∃i:al,j=.returned (.bool i)/\
 ao i (Q (.int .i64 b) g) (d (au (b+1)) g/\h (au (b+1)) g<h b c)) (Q (.int .i64 (-1)) c)
def az.pT:aO:=gk
theorem ah.Ca(s:ad)(f:iQ)(w:J)(Q:Y->J->Prop)(h:ah.pT s f w Q):aL aj 278 #[.slice s.a s.len s.cap,.func (.func f.f) f.pre f.cap] w Q:=okF (λw Q=>ah.pT s f w Q) az.pT func278 h
def ah.pU(s:ad)(f:iQ)(w:J)(Q:Y->J->Prop):Prop:=∃ (d:Int->J->Prop) (g:Int->J->Nat),d 0 w/\∀ (b:Int) (c:J),d b c->ao (decide (b<(s.len:Int))) (∃a5:
 ag,s.a=some a5/\aK b s.len/\aF c (a5.add (Int.toNat b*1)) λn6=>iT aj f.f/\Calls aj f.f (f.pre++ #[.int .i64 n6]++f.cap) c λi e=>∃h:al,i=.returned (.bool h)/\ao h (Q (.int .i64
 b) e) (d (au (b+1)) e/\g (au (b+1)) e<g b c)) (Q (.int .i64 (-1)) c)
def az.pU:aO:=gk
theorem ah.Cb(s:ad)(f:iQ)(w:J)(Q:Y->J->Prop)(h:ah.pU s f w Q):aL aj 279 #[.slice s.a s.len s.cap,.func (.func f.f) f.pre f.cap] w Q:=okF (λw Q=>ah.pU s f w Q) az.pU func279 h
def ah.r9(s:ad)(w:J)(Q:Y->J->Prop):Prop:=ao (Option.isNone s.a) (Q () w) (an (w.alloc (.cells #[] 48)) λw1=>∃s2:ad,∃b:J,Sem.run aj
 (Builtin.append_ #[127,127] 127 #[.slice (some (aa w)) 0 0,s]) w1=.ok s2 b/\Q s2 b)
def az.r9:aO:=dt
set_option maxRecDepth 100000
def ah.pV(a:ar ag)(t:Array Y)(w:J)(Q:Y->J->Prop):Prop:=an (w.alloc (.cells t 29)) λw1=>b1 (λcp:al->J->Prop=>ao (Option.isNone a) (cp true w1) (∃h:O
 Y,bE w1 (aa w) 0 21=some h/\cc 65 #[.agg h.toArray] w1 λu v=>cp (!u) v)) (λ(x:al) c=>ao x (Q (1:Int) c) (aF c (aa w) λn9=>∃i:O Y,bE c ((aa w).add 1) 0 18=
 some i/\gU 66 #[n9,.agg i.toArray] c λe C f=>aF f ((aa w).add 19) λn15=>cd f ((aa w).add 20) λn16=>gU 67 #[n15,.int .u64 n16] f λj D k=>∃l:
 ag,a=some l/\∃m:ar ag,k.cell? l=some (m)/\lE 55 #[m,e] k λE y n27 n=>ao (n27 !=0) (Q n27 n) (an (n.drew) λb=>∃
 o:Nat->Prop,ao (!y) (∃g:ag,a=some g/\¬o (g.add 1).block/\aF b (g.add 1) λn31=>b7 16 #[a] b λn34 d=>ae o b d/\ao (decide (n34>=n31)) (Q (2:Int) d) (∃p
 :ag,a=some p/\∃q:ar ag,d.cell? p=some (q)/\b7 23 #[q,e,j] d λn39 z=>Q n39 z)) (ao false (Q
 (2:Int) b) (∃r:ag,a=some r/\∃s:ar ag,b.cell? r=some (s)/\b7 23 #[s,e,j] b λA B=>Q A B)))))
def az.pV:aO:=(.s .r (.s a9 (.s .r (.s .r (.s .r (.s (.b2 (.s .r (.c (.s .r .l) (.s (.cE 9 true ⟨[0,1,2,4,12,4,36,68,132,276,516,1040],[0,1,2,4,12,4,36,68,132,276,516,1024]⟩ [1125899906842624,
 2251799813685248,4503599627370496,9007199254740992,18014398509481984,36028797018963968,72057594037927936,144115188075855872,288230376151711744,576460752303423488,1152921504606846976,562949953421312] [1024,1125899906842624,
 2251799813685248,4503599627370497,13510798882111488,4503599627370497,40532396646334464,76561193665298432,148618787703226368,310748374288564224,580964351930793984,1152921504606846976] (.t 0 (.t 1 (.t 2 (.sp 52 (.t 3 (.t 5 (.t 6 (.t
 7 (.t 8 (.bY 4 (.tail [.r,.r,.r]))))))) (.t 3 (.t 4 (.t 5 (.t 6 (.t 7 (.t 8 (.tail [.r,.r,.r])))))))))))) (.c (.s .r .l) .l))))) (.s .r .l)))))))
theorem ah.Cc(a:ar ag)(t:Array Y)(w:J)(Q:Y->J->Prop)(h:ah.pV a t w Q):aL aj 15 #[a,.agg t] w Q:=okF (λw Q=>ah.pV a t w Q) az.pV func15 h
def ah.r_(a:ar ag)(w:J)(Q:Y->J->Prop):Prop:=iV 32 #[a] w λb w1=>b7 56 #[b] w1 λn6 c=>Q n6 c
def az.r_:aO:=(.s .r (.s .r .l))
def ah.nY(n:Int)(w:J)(Q:Y->J->Prop):Prop:=ao ((decide (n<16))||(decide (n>1600))) (Q (.tuple #[.pointer none,(1:Int)]) w) (((0:Int)<=n/\n<=n/\n<=jt/\((256:Nat):Int)*n<=
 140737488355328)/\an (w.alloc (.cells (gw aj 182 (n.toNat)) 182)) λw1=>∃b:ar Nat,∃a:J,Sem.run aj (Instr.makeMap 137 none) w1=.ok (.map b) a/\∃eZ:
 Array Y,Sem.run aj (Instr.build 141 #[(1,.slice (some (aa w)) (n.toNat) (n.toNat)),(2,.map b)]) a=.ok (.agg eZ) a/\an (a.alloc (.cells eZ 141)) λc=>∃dH:ag,(some (aa a):ar
 ag)=some dH/\fS 69 #[.pointer (some dH)] c λd=>Q (.tuple #[.pointer (some (aa a)),(0:Int)]) d)
def az.nY:aO:=(.s .r (.s dQ a4))
def ah.mG(d:ar ag)(s:Int)(t:Int)(u:Int)(w:J)(Q:Y->J->Prop):Prop:=an (w.alloc (.cells #[s,t,.int .u64 u] 46)) λw1=>
 aF w1 (aa w) λbx=>aF w1 ((aa w).add 1) λv=>cd w1 ((aa w).add 2) λcv=>cc 70 #[d,.agg #[bx,v,.int .u64 cv]] w1 λx l=>ao (!x) (Q (.tuple #[.pointer none,(1:Int)]) l) (b7 72 #[d] l λn10 y=>hO 71 #[n10,(3:Int)] y λm n14 n=>ao (n14 !=0) (Q (.tuple #[.pointer none,n14]) n) (bJ 74 #[m] n λ
 z A=>eR 73 #[(2:Int),.agg #[(4:Int),.int .u64 1,z]] A λB n21 f=>ao (n21 !=0) (Q (.tuple #[.pointer none,n21]) f) (((0:Int)<=256/\(256:Int)<=256/\(256:
 Int)<=jt/\((1:Nat):Int)*256<=140737488355328)/\an (f.alloc (.cells (gw aj 5 (Int.toNat 256)) 5)) λi=>∃o:Array Y,Sem.run aj (Instr.build 151 #[(0,.slice (some (aa f))
 (Int.toNat 256) (Int.toNat 256)),(1,.slice (some (aa f)) (Int.toNat 256) (Int.toNat 256)),(2,B)]) i=.ok (.agg o) i/\∃ (j:Int->J->Prop) (p:Int->J->Nat),j 0 i/\∀ (n26:Int)
 (g:J),j n26 g->ao (decide (n26<3)) (((0:Int)<=n26/\n26<((3:Nat):Int))/\∃h:ad,cellAt o (n26.toNat*1)=some (.slice h.a h.len h.cap)/\b7 75 #[d,n26,h] g λn31 k=>ao (n31 !=0) (Q (.tuple #[.pointer none,n31]) k) (j (au (n26+1)) k/\p (au (n26+1)) k<p n26 g)) (b7 76 #[d] g λn34 b=>ao (n34 !=0)
 (Q (.tuple #[.pointer none,n34]) b) (an (b.alloc iW) λq=>bh q (aa b) [(0:Int),(0:Int),(2:Int),.int .u64 0,.int .u64 0,(0:Int)]/\(6:Nat)=6/\an (setCells q (aa b) 0 [(0:Int),
 .int .i64 0,(2:Int),.int .u64 0,.int .u64 0,(0:Int)]) λe=>aF e (aa b) λn37=>aF e ((aa b).add 1) λn38=>aF e ((aa b).add 2) λn39=>cd e ((aa b).add 3) λn40=>cd e (Addr.add
 (aa b) 4) λn41=>aF e ((aa b).add 5) λC=>b7 77 #[d,.agg #[n37,n38,n39,.int .u64 n40,.int .u64 n41,C],.int .u64 1] e λr c=>ao (r !=0)
 (Q (.tuple #[.pointer none,r]) c) (aF c (aa w) λD=>aF c ((aa w).add 1) λE=>cd c ((aa w).add 2) λF=>aF c (aa b) λG=>aF c ((aa b).add 1) λH=>aF c ((aa
 b).add 2) λI=>cd c ((aa b).add 3) λK=>cd c ((aa b).add 4) λL=>aF c ((aa b).add 5) λM=>hO 78 #[d,.agg #[D,E,.int .u64 F],.agg #[G,H,I,.int .u64 K,.int .u64 L,M],.int .u64 1,m] c λN O P=>Q (.tuple #[N,O]) P))))))
def az.mG:aO:=(.s .r (.s a1 (.s .r (.s a1 (.s .r (.s a1 (.s .r (.s (.s .r (.b2 (.loop [(44,(.int .i64))] [0,3,6,43] ft))) (.s (.s .r a1) (.s .r (.s (.s .r a1) (.s .r .l))))))))))))
theorem ah.Cd(d:ar ag)(a:Int)(b:Int)(c:Int)(w:J)(Q:Y->J->Prop)(h:ah.mG d a b c w Q):aL aj 19 #[d,.agg #[a,b,.int .u64 c]] w Q:=okF (λw Q=>ah.mG d a b c w Q) az.mG func19 h
def ah.sd(s:ar ag)(key:ad)(val:ad)(w:J)(Q:Y->J->Prop):Prop:=b1 (λcn:al->J->Prop=>ao (Option.isNone s) (cn true w) (cc 79 #[key] w λh
 ai=>cn (!h) ai)) (λ(i:al) a=>ao (i||(decide ((val.len:Int)>24))) (Q (1:Int) a) (∃dX:ag,s=some dX/\aW a (dX.add 18) λj=>ao j (Q (8:Int) a) (b7 82 #[s] a λn11 b
 =>ao (n11==0) (Q (2:Int) b) (∃e8:ag,s=some e8/\∃e:ar ag,b.cell? e8=some (e)/\lE 80 #[e,key] b λp k n18 c=>ao (n18 !=0) (b7
 81 #[s,n18] c λn21 l=>Q n21 l) (∃f:ag,s=some f/\∃g:ar ag,c.cell? f=some (g)/\b7 85 #[g,key,val] c λn26 d=>ao (n26 !=0) (b7 81 #[s,n26] d λn29 m=>Q n29 m) (ao k (b7 84 #[s,(0:Int)] d λn32
 n=>Q n32 n) (b7 84 #[s,(1:Int)] d λn35 o=>Q n35 o)))))))
def az.sd:aO:=(.s .r (.s (.b2 (.s (.di [.r,.r,.r,.split 3,.r,.r,.r,.r,.pure 3]) (.c (.s .r .l) eA))) (.s .r (.s a1 (.s (.s .r a1) (.s a1 (.s .r .l)))))))
def ah.pW(a:ar ag)(service:Int)(p:Array Y)(now:Int)(w:J)(Q:Y->J->Prop):Prop:=an (w.alloc (.cells p 26)) λw1=>an (w1.alloc fD) λai=>∃l:O Y,bE ai
 (aa w) 0 18=some l/\gU 87 #[a,service,.agg l.toArray] ai λm B c=>ao (!B) (∃f:Array Y,Sem.run aj (Instr.build 29 #[]) c=.ok (.agg f) c/\bh c (aa w1)
 (Array.toList f)/\Array.size f=21/\an (setCells c (aa w1) 0 (Array.toList f)) λn=>∃o:O Y,bE n (aa w1) 0 21=some o/\Q (.tuple #[.agg o.toArray,false,(1:Int)]) n) (∃dt:ag,a=some
 dt/\∃q:ar ag,c.cell? dt=some (q)/\lE 55 #[q,m] c λC D n17 d=>ao ((n17 !=0)||(!D)) (∃g:Array Y,Sem.run aj (Instr.build
 29 #[]) d=.ok (.agg g) d/\bh d (aa w1) (Array.toList g)/\Array.size g=21/\an (setCells d (aa w1) 0 (Array.toList g)) λr=>∃s:O Y,bE r (aa w1) 0 21=some s/\Q (.tuple
 #[.agg s.toArray,false,n17]) r) (ju 88 #[m,C] d λk E e=>an (e.alloc fD) λt=>bh t (aa e) (Array.toList k)/\Array.size k=
 21/\an (setCells t (aa e) 0 (Array.toList k)) λb=>ao (!E) (∃h:Array Y,Sem.run aj (Instr.build 29 #[]) b=.ok (.agg h) b/\bh b (aa w1) (Array.toList h)/\Array.size h=21/\an
 (setCells b (aa w1) 0 (Array.toList h)) λu=>∃v:O Y,bE u (aa w1) 0 21=some v/\Q (.tuple #[.agg v.toArray,false,(4:Int)]) u) (cd b ((aa e).add 20) λn30=>ao (decide (n30<=now))
 (∃i:Array Y,Sem.run aj (Instr.build 29 #[]) b=.ok (.agg i) b/\bh b (aa w1) (Array.toList i)/\Array.size i=21/\an (setCells b (aa w1) 0 (Array.toList i)) λx=>∃y:O
 Y,bE x (aa w1) 0 21=some y/\Q (.tuple #[.agg y.toArray,false,(0:Int)]) x) (∃j:O Y,bE b (aa e) 0 21=some j/\bh b (aa w1) (Array.toList j.toArray)/\Array.size j.toArray=
 21/\an (setCells b (aa w1) 0 (Array.toList j.toArray)) λz=>∃A:O Y,bE z (aa w1) 0 21=some A/\Q (.tuple #[.agg A.toArray,true,(0:Int)]) z))))
def az.pW:aO:=(.s .r (.s .r (.s a1 (.s .r (.s dQ (.s .r (.s (.b2 eA) (.s .r .l))))))))
theorem ah.Ce(a:ar ag)(service:Int)(p:Array Y)(now:Int)(w:J)(Q:Y->J->Prop)(h:ah.pW a service p now w Q):aL aj 27 #[a,service,.agg p,.int .u64 now] w Q:=okF (λw Q=>ah.pW a service p now w Q) az.pW func27 h
def ah.se(a:ar ag)(w:J)(Q:Y->J->Prop):Prop:=ao (Option.isNone a) (Q (.pointer none) w) (∃a1:ag,a=some a1/\∃bj:ar ag,w.cell? a1=some (bj)/\Q (bj) w)
def az.se:aO:=dt
def ah.nZ(s:ar ag)(most:Int)(w:J)(Q:Y->J->Prop):Prop:=ao (((Option.isNone s)||(decide (most<1)))||(decide (most>400))) (Q (.tuple #[.pointer none,(1:Int)]) w) (an (w.alloc (.cells
 #[s,most] 134)) λw1=>Q (.tuple #[.pointer (some (aa w)),(0:Int)]) w1)
def az.nZ:aO:=a5
def ah.sf(s:ar ag)(key:ad)(w:J)(Q:Y->J->Prop):Prop:=ao (Option.isNone s) (Q (.tuple #[(),false,(1:Int)]) w) (∃a1:ag,s=some a1/\∃bj:ar ag,w.cell? a1
 =some (bj)/\lE 80 #[bj,key] w λa b n7 c=>Q (.tuple #[a,b,n7]) c)
def az.sf:aO:=dt
def ah.vk(s:ar ag)(w:J)(Q:Y->J->Prop):Prop:=ao (Option.isNone s) (Q (0:Int) w) (∃a1:ag,s=some a1/\aF w (a1.add 17) λbx=>Q bx w)
def az.vk:aO:=dt
def ah.mH(t:Array Y)(w:J)(Q:Y->J->Prop):Prop:=an (w.alloc (.cells t 29)) λw1=>aF w1 (aa w) λbx=>∃b:O Y,bE w1 ((aa w).add 1) 0 18=some b/\gU 66
 #[bx,.agg b.toArray] w1 λi d a=>b1 (λc:al->J->Prop=>ao d (aF a ((aa w).add 19) λn9=>cc 124 #[n9] a λe f=>c e f) (c false a)) (λ(g:al) h=>Q g h)
def az.mH:aO:=(.s .r (.s .r (.s (.di [.r,.r,.split 3]) .l)))
theorem ah.Cf(t:Array Y)(w:J)(Q:Y->J->Prop)(h:ah.mH t w Q):aL aj 65 #[.agg t] w Q:=okF (λw Q=>ah.mH t w Q) az.mH func65 h
def ah.kk(service:Int)(p:Array Y)(w:J)(Q:Y->J->Prop):Prop:=an (w.alloc (.cells p 26)) λw1=>∃m:O Y,bE w1 (aa w) 0 17=some m/\aF w1 ((aa w).add 17) λB=>
 ju 125 #[.agg m.toArray,B] w1 λi C d=>an (d.alloc z3) λn=>bh n (aa d) (Array.toList i)/\Array.size i=18/\an (setCells n (aa d) 0 (Array.toList i)) λe=>b1 (λo:al->J->
 Prop=>ao (!C) (o true e) (∃q:O Y,bE e (aa d) 0 18=some q/\∃r:O Y,bE e (aa w) 0 18=some r/\∃s:al,iR aj 26 q.toArray r.toArray s/\o (!s) e)) (λ
 (D:al) t=>b1 (λu:al->J->Prop=>ao D (u true t) (cc 124 #[service] t λE F=>u (!E) F)) (λ(G:al) f=>ao G (Q (.tuple #[(),false]) f) (b1 (λ
 v:Int->J->Prop=>aW f (aa w) λH=>ao H (v 6 f) (v 4 f)) (λ(n24:Int) I=>an (I.drew) λb=>∃a:Nat->Prop,¬a ((aa w).add 17).block/\aF b ((aa w).add 17) λn28=>¬a ((aa
 w):ag).block/\∃g:O Y,bE b (aa w) 0 17=some g/\(bJ 126 #[(),.int .u64 (IntKind.wrap .u64 service),(2:Int)] b λx c=>ae a b c/\(an (c.alloc (.cells #[.int .u8 n24,
 .int .u8 (IntKind.wrap .u8 n28)] 5)) λj=>ae a c j/\bJ 127 #[.agg g.toArray] j λK y=>ae a j y/\rY y x c K Q)/\(bJ 127 #[.agg g.toArray] c λL h=>ae a c
 h/\an (h.alloc (.cells #[.int .u8 n24,.int .u8 (IntKind.wrap .u8 n28)] 5)) λz=>ae a h z/\rY z x h L Q))/\(an (b.alloc (.cells #[.int .u8 n24,.int .u8 (IntKind.wrap .u8 n28)] 5)) λk=>ae
 a b k/\bJ 126 #[(),.int .u64 (IntKind.wrap .u64 service),(2:Int)] k λM l=>ae a k l/\bJ 127 #[.agg g.toArray] l λN A=>ae a l A/\rY A M b N Q)))))
def az.kk:aO:=(.s .r (.s .r (.s (.s (.di [.r,.r,.r,.split 3,.r,.r,.r,.r,.split 3]) (.c (.s .r .l) .l)) (.s .r (.s (.fq [(8,(.int .u8))] [0,3] (.s .r (.c .r .l))) (.s (.cE 11 true ⟨[0,1,2,0,0,16,32,72,0,256,
 516,1156,3072,8191,16383],[0,1,2,0,0,16,32,72,0,256,512,1156,2048,4096,0]⟩ [4294967296,8589934592,17179869184,34359738368,68719476736,137438953472,274877906944,549755813888,1099511627776,2199023255552,
 4398046511104,8796093022208,17592186044416,16,32] [1,4294967296,8589934592,256,8,68719476736,137438953472,309237645312,8,1099511627776,2199023255552,4964982194176,8796093022208,17592186044416,0] (.t 0 (.t 1 (.t 3 (.t 4 (.t
 5 (.t 6 (.t 8 (.t 9 (.two 2 (.two 7 (.bY 10 (.tail [.r,.r,.r,.r])) 10 (.bY 7 (.tail [.r,.r,.r,.r]))) 7 (.bY 2 (.bY 10 (.tail [.r,.r,.r,.r]))))))))))))) .l))))))
theorem ah.Cg(service:Int)(p:Array Y)(w:J)(Q:Y->J->Prop)(h:ah.kk service p w Q):aL aj 66 #[service,.agg p] w Q:=okF (λw Q=>ah.kk service p w Q) az.kk func66 h
def ah.n0(backend:Int)(a:Int)(w:J)(Q:Y->J->Prop):Prop:=cc 124 #[backend] w λb w1=>ao (!b) (Q (.tuple #[(),false]) w1) (bJ 126 #[(),
 .int .u64 (IntKind.wrap .u64 backend),(2:Int)] w1 λc d=>bJ 126 #[c,.int .u64 a,(8:Int)] d λe f=>Q (.tuple #[e,true]) f)
def az.n0:aO:=dt
def ah.sg(f:ar ag)(w:J)(Q:Y->J->Prop):Prop:=∃ (c:Int->J->Prop) (d:Int->J->Nat),c 0 w/\∀ (a:Int) (b:J),c a b->ao (decide (a<4)) (∃a5:ag,f=some a5/\
 ((0:Int)<=a/\a<((4:Nat):Int))/\st b (Addr.add a5 (a.toNat*1)) (.int .i64 (-1)) λe=>c (au (a+1)) e/\d (au (a+1)) e<d a b) (Q (.tuple #[]) b)
def az.sg:aO:=(.s .r (.b2 (.loop [(3,(.int .i64))] [0] a2)))
def ah.n1(d:ar ag)(l:Int)(m:Int)(n:Int)(w:J)(Q:Y->J->Prop):Prop:=an (w.alloc (.cells #[l,m,.int .u64 n] 46)) λw1=>
 b1 (λcp:al->J->Prop=>ao (!(Option.isNone d)) (aF w1 (aa w) λo=>cp (decide (o>=8)) w1) (cp false w1)) (λ(p:al) a=>b1 (λg:al->J->Prop=>ao p (aF a (aa w) λn7=>g (decide (n7<=64)) a)
 (g false a)) (λ(q:al) b=>b1 (λh:al->J->Prop=>ao q (aF b ((aa w).add 1) λn11=>h (decide (n11>=1)) b) (h false b)) (λ(r:al) c=>b1 (λi:al->J->Prop=>ao r (aF c
 ((aa w).add 1) λn15=>i (decide (n15<=1000)) c) (i false c)) (λ(s:al) e=>b1 (λj:al->J->Prop=>ao s (cd e ((aa w).add 2) λn19=>j (decide (n19>=1)) e) (j false e)) (λ
 (t:al) f=>b1 (λk:al->J->Prop=>ao t (cd f ((aa w).add 2) λn23=>k (decide (n23<=1048576)) f) (k false f)) (λ(u:al) v=>Q u v))))))
def az.n1:aO:=(.s .r (.s (.di [.r,.r,.r,.split 3,.r,.r,.r,.r,.split 3,.r,.r,.r,.r,.split 3,.r,.r,.r,.r,.split 3,.r,.r,.r,.r,.split 3,.r,.r,.r,.r,.split 3]) .l))
def ah.n2(n:Int)(first:Int)(w:J)(Q:Y->J->Prop):Prop:=cc 128 #[n] w λg w1=>ao (((!g)||(decide (first<0)))||(decide (first>n))) (Q (.tuple #[.pointer none,(1:Int)])
 w1) (b7 129 #[n] w1 λn6 d=>((0:Int)<=n6/\n6<=n6/\n6<=jt/\((1:Nat):Int)*n6<=140737488355328)/\an (d.alloc (.cells (gw aj 5 (n6.toNat)) 5)) λb=>an (b.alloc (.cells
 #[n,.slice (some (aa d)) (n6.toNat) (n6.toNat),()] 218)) λh=>∃ (c:Int->J->Prop) (e:Int->J->Nat),c 0 h/\∀ (n11:Int) (a:J),c n11 a->ao (decide (n11<
 first)) (∃eA:ag,(some (aa b):ar ag)=some eA/\r1 a (eA.add 1) λi=>fS 130 #[i,n11] a λf=>c (au (n11+1)) f/\e (au (n11+1)) f<e n11 a)
 (fS 131 #[.pointer (some (aa b))] a λj=>Q (.tuple #[.pointer (some (aa b)),(0:Int)]) j))
def az.n2:aO:=(.s .r (.s (.s (.di [.r,.r,.r,.r,.pure 2,.r,.r,.r,.pure 3]) (.c (.s .r .l) .l)) (.s .r (.s (.s .r (.b2 (.loop [(27,(.int .i64))] [6,26] a2))) (.s .r (.s .r .l))))))
def ah.sh(d:ar ag)(w:J)(Q:Y->J->Prop):Prop:=ao (Option.isNone d) (Q (0:Int) w) (∃a1:ag,d=some a1/\r1 w (a1.add 4) λs2=>Q (.int .i64 (s2.len:Int)) w)
def az.sh:aO:=dt
def ah.si(no:Int)(u:Int)(v:Int)(x:ad)(w:J)(Q:Y->J->Prop):Prop:=an (w.alloc (.cells #[u,.int .u64 v,x] 150)) λw1=>
 cc 132 #[no] w1 λy ai=>b1 (λj:al->J->Prop=>ao (!y) (j true ai) (aF ai (aa w) λn6=>cc 133 #[n6] ai λz A=>j (!z) A)) (λ(B:al) f=>ao B (Q (.tuple
 #[(),(1:Int)]) f) (r1 f ((aa w).add 2) λC=>ao (decide ((C.len:Int)>232)) (Q (.tuple #[(),(10:Int)]) f) (an (f.alloc (.cells #[.int .u8 83,.int .u8 84,.int .u8 78,.int .u8 67]
 5)) λD=>∃k:ad,∃g:J,Sem.run aj (convert 48 48 (.slice (some (aa f)) 4 4)) D=.ok k g/\aF g (aa w) λn16=>an (g.alloc (.cells #[.int .u8 1,
 .int .u8 (IntKind.wrap .u8 n16)] 5)) λl=>an (l.alloc (.cells #[k,.slice (some (aa g)) 2 2] 48)) λE=>bJ 92 #[.slice (some (aa l)) 2 2] E λF m=>r1 m
 ((aa w).add 2) λG=>bJ 126 #[F,.int .u64 (IntKind.wrap .u64 (G.len:Int)),(2:Int)] m λH I=>bJ 126 #[H,.int .u64 (IntKind.wrap .u64 no),(4:Int)] I λK n=>cd n ((aa w).add 1) λn29=>bJ 126 #[K,.int .u64 n29,(8:Int)] n λo L=>b1 (λp:ad->J->Prop=>an (L.drew) λb=>∃d:Nat->Prop,¬
 d ((aa w).add 2).block/\r1 b ((aa w).add 2) λq=>¬d ((aa w).add 2).block/\r1 b ((aa w).add 2) λe=>(((0:Int)<=4/\(4:Int)<=4/\(4:Int)<=jt/\((1:Nat):Int)*4<=140737488355328)/\an
 (b.alloc (.cells (gw aj 5 (Int.toNat 4)) 5)) λh=>ae d b h/\(eS e)/\an (h.alloc (.cells (gw aj 5 ((au (232-(e.len:Int))).toNat)) 5)) λr=>ae d h r/\
 vd r o b q h e p)/\((eS e)/\an (b.alloc (.cells (gw aj 5 ((au (232-(e.len:Int))).toNat)) 5)) λi=>ae d b i/\((0:Int)<=4/\(4:Int)<=4/\(4:Int)<=jt/\((1:Nat):
 Int)*4<=140737488355328)/\an (i.alloc (.cells (gw aj 5 (Int.toNat 4)) 5)) λs=>ae d i s/\vd s o i q b e p)) (λ(c:ad) M=>an (M.drew) λN=>∃U:Nat->Prop,((0:
 Int)<=20/\20<=(c.len:Int))/\lF 134 #[c] N λO P=>∃V:Nat->Prop,bJ 126 #[(),.int .u64 (IntKind.wrap .u64 O),(4:Int)] P λR S=>∃T:Int,∃t
 :J,Sem.run aj (Builtin.copy_ #[48,48] 3 #[.slice (aJ c.a 1 (Int.toNat 20) c.cap) (c.len-(Int.toNat 20)) (c.cap-(Int.toNat 20)),R]) S=.ok T t
 /\Q (.tuple #[c,(0:Int)]) t))))
def az.si:aO:=(.s .r (.s (.b2 (.s (.di [.r,.r,.r,.r,.split 4]) (.c (.s .r .l) a1))) (.s .r (.s .r (.s .r (.s .r (.s (.fq [(6,.slice)] [] (.cE 9 true ⟨[0,0,0,4,0,16,32,64,128,267,512,2047],[0,0,0,4,0,16,
 32,64,128,267,512,1025]⟩ [17592186044416,35184372088832,70368744177664,140737488355328,281474976710656,562949953421312,1125899906842624,2251799813685248,4503599627370496,9007199254740992,18014398509481984,64] [64,0,8,
 70368744177664,8,281474976710656,562949953421312,1125899906842624,2251799813685248,4697113673859072,9007199254740992,18014398509481984] (.t 0 (.t 2 (.t 3 (.t 4 (.t 5 (.t 6 (.t 7 (.two 1 (.bY 8 (.tail [.r,.r,.r])) 8 (.bY 1 (.tail
 [.r,.r,.r])))))))))))) (.s (.cE 6 true ⟨[0,1,0,4,8,24,34],[0,1,0,4,8,16,34]⟩ [36028797018963968,72057594037927936,144115188075855872,288230376151711744,576460752303423488,1152921504606846976,2305843009213693952] [64,
 36028797018963968,64,144115188075855872,288230376151711744,576460752303423488,1224979098644774912] (.t 0 (.t 1 (.t 2 (.out 3 true (.t 4 (.out 5 false (.tail [.r])))))))) (.s .r .l)))))))))
def ah.pX(s:ar ag)(w:J)(Q:Y->J->Prop):Prop:=ao (Option.isNone s) (Q () w) (∃a1:ag,s=some a1/\r1 w (a1.add 1) λs2=>bJ 135 #[s2] w λa b=>Q a b)
def az.pX:aO:=dt
theorem ah.Ch(s:ar ag)(w:J)(Q:Y->J->Prop)(h:ah.pX s w Q):aL aj 74 #[s] w Q:=okF (λw Q=>ah.pX s w Q) az.pX func74 h
def ah.sj(d:ar ag)(i:Int)(b:ad)(w:J)(Q:Y->J->Prop):Prop:=cc 108 #[d,i] w λs w1=>ao ((!s)||((b.len:Int) !=256)) (Q (1:Int) w1) (∃a4:
 ag,d=some a4/\cc 136 #[.pointer (some a4),(2:Int)] w1 λt n=>ao t (Q (3:Int) n) (an (n.drew) λe=>∃c:Nat->Prop,∃dQ:ag,d=some dQ/\¬c (dQ.add 5).block/\∃h:ar Nat,
 e.cell? (dQ.add 5)=some (.map h)/\∃e8:ag,d=some e8/\¬c (e8.add 5).block/\∃j:ar Nat,e.cell? (e8.add 5)=some (.map j)/\256<=b.len/\∃ft:ag,b.a=some ft/\¬c ft.block/\∃k:O Y,
 bE e ft 0 256=some k/\(∃o:ad,∃f:J,Sem.run aj (Instr.lookup 137 (.map j) i false) e=.ok o f/\ae c e f/\∃p:ad,∃l:J,
 Sem.run aj (Instr.buildSlice 136 1 #[(0,.agg k.toArray)]) f=.ok p l/\ae c f l/\vc o p l c h i d Q)/\(∃q:ad,∃g:J,Sem.run aj (Instr.buildSlice
 136 1 #[(0,.agg k.toArray)]) e=.ok q g/\ae c e g/\∃r:ad,∃m:J,Sem.run aj (Instr.lookup 137 (.map j) i false) g=.ok r m/\ae c g m/\vc r q m c h i d Q)))
def az.sj:aO:=(.s .r (.s (.b2 (.s (.di [.r,.r,.r,.r,.r,.pure 3]) (.c (.s .r .l) a1))) (.s (.cE 16 true ⟨[0,1,2,4,0,0,32,64,128,0,768,0,2048,4096,8192,17408,65535],[0,1,2,4,0,0,32,64,128,0,
 768,0,2048,4096,8192,17408,32792]⟩ [4194304,8388608,16777216,33554432,67108864,134217728,268435456,536870912,1073741824,2147483648,4294967296,8589934592,17179869184,34359738368,68719476736,137438953472,0] [1,4194304,
 8388608,16777216,2,1,134217728,268435456,536870912,2,3221225472,4,8589934592,17179869184,34359738368,73014444032,137539616768] (.t 0 (.t 1 (.t 2 (.t 3 (.t 4 (.t 5 (.t 6 (.t 7 (.t 8 (.t 9 (.t 11 (.t 12 (.t 13 (.two 10 (.bY 14
 (.bY 15 (.tail [.r]))) 14 (.bY 10 (.bY 15 (.tail [.r])))))))))))))))))) (.s .r (.s .r .l)))))
def ah.sk(d:ar ag)(w:J)(Q:Y->J->Prop):Prop:=ao (Option.isNone d) (Q (1:Int) w) (∃a1:ag,d=some a1/\cc 136 #[.pointer (some a1),(3:Int)] w λj ai=>ao j (Q
 (3:Int) ai) (∃a5:ag,d=some a5/\∃g:ar Nat,ai.cell? (a5.add 5)=some (.map g)/\∃ (a:Y) (h:J),Sem.run aj (Instr.range 137 (.map g)) ai=.ok a h/\∃ (c:J->Prop)
 (i:J->Nat),c h/\∀ (b:J),c b->(∃ (k:Y) (l:Y) (e:J),Sem.run aj (Instr.next (a) false 0) b=.ok (.tuple #[true,k,l]) e/\ao true (vb a e d c i b) (ve d e
 Q))\/(∃f:J,Sem.run aj (Instr.next (a) false 0) b=.ok (.tuple #[false]) f/\ao false (vb a f d c i b) (ve d f Q))))
def az.sk:aO:=(.s .r (.s (.b2 eA) (.s (.s .r (.b2 (.loop [] [0,16] (.s .r (.s (.c .l .l) (.b2 (.s (.di [.rf [(.one (.int .i64)),(.one .any)]]) (.cE 8 true ⟨[0,1,2,4,0,0,0,96,255,511],[0,1,2,4,0,0,0,
 96,24,384]⟩ [2097152,4194304,8388608,16777216,33554432,67108864,134217728,268435456,536870912,0] [1,2097152,4194304,8388608,8,1,8,201326592,50331648,805306368] (.t 0 (.t 1 (.t 2 (.t 3 (.t 4 (.t 5 (.t 6 (.bY 7 (.tail
 [.r,.r]))))))))))))))))) (.s .r (.s .r .l)))))
def ah.lJ(d:ar ag)(i:Int)(j:Int)(k:Int)(l:Int)(m:Int)(n:Int)(gen:Int)(w:J)(Q:Y->J->Prop):Prop:=an (w.alloc (.cells #[i,j,k,.int .u64 l,.int .u64 m,n] 104)) λw1=>(2:Int)≠0/\an (w1.drew) λai=>∃b:Nat->Prop,¬b ((aa w):ag).block/\aF ai (aa w) λcv=>aF ai (Addr.add
 (aa w) 1) λn5=>aF ai ((aa w).add 2) λn6=>cd ai ((aa w).add 3) λn7=>cd ai ((aa w).add 4) λn8=>aF ai ((aa w).add 5) λn9=>b7 72 #[d] ai λn12 c=>ae b ai c/\bJ
 138 #[.agg #[cv,n5,n6,.int .u64 n7,.int .u64 n8,n9],n12] c λo e=>∃p:Nat->Prop,∃f:Array Y,(∀g:J,Sem.run aj (Instr.build 150
 #[(0,.int .i64 3),(1,.int .u64 gen),(2,o)]) g=.ok (.agg f) g)/\eR 73 #[.int .i64 (au (Int.tmod gen 2)),.agg f] e λq n22 a=>ae p e a/\ao (n22 !=0) (Q n22
 a) (b7 75 #[d,.int .i64 (au (Int.tmod gen 2)),q] a λn25 h=>ao (n25 !=0) (Q n25 h) (b7 76 #[d] h λn28 r=>Q n28
 r))
def az.lJ:aO:=(.s .r (.s .r (.s (.cE 12 true ⟨[0,0,0,0,8,20,34,97,128,256,256,1023,4095],[0,0,0,0,8,20,34,65,128,256,256,512,1024]⟩ [32768,65536,131072,262144,524288,1048576,2097152,4194304,
 16384,8388608,16777216,256,512] [128,4,16,1,262144,655360,1114112,2129920,4194304,16384,16384,8388608,16777216] (.t 0 (.t 1 (.t 2 (.t 3 (.bY 4 (.out 5 true (.t 6 (.bY 7 (.t 8 (.t 9 (.t 10 (.t 11 (.tail [.r]))))))))))))))
 (.s a1 (.s (.s .r a1) (.s .r .l))))))
theorem ah.Ci(d:ar ag)(a:Int)(b:Int)(c:Int)(e:Int)(f:Int)(g:Int)(gen:Int)(w:J)(Q:Y->J->Prop)(h:ah.lJ d a b c e f g gen w Q):aL aj 77 #[d,.agg #[a,b,c,.int .u64 e,.int .u64 f,g],.int .u64 gen] w Q:=okF (λw Q=>ah.lJ d a b c e f g gen w Q) az.lJ func77 h
set_option maxRecDepth 100000
def ah.mI(d:ar ag)(f:Int)(g:Int)(h:Int)(i:Int)(j:Int)(k:Int)(l:Int)(m:Int)(n:Int)(gen:Int)(s:ar ag)(w:J)(Q:Y->J
 ->Prop):Prop:=an (w.alloc (.cells #[f,g,.int .u64 h] 46)) λw1=>an (w1.alloc (.cells #[i,j,k,.int .u64 l,.int .u64 m,
 n] 104)) λai=>aF ai (aa w) λo=>hO 139 #[d,o] ai λc n7 b=>ao (n7 !=0) (Q (.tuple #[.pointer none,n7]) b) (aF b (aa w1) λn8=>aF b ((aa w1).add 1)
 λn9=>hO 140 #[c,s,.int .u64 (IntKind.wrap .u64 (gen+1)),n8,n9] b λp n13 a=>ao (n13 !=0) (Q (.tuple #[.pointer none,n13]) a) (aF a (aa w) λn14=>aF a
 ((aa w).add 1) λn15=>cd a ((aa w).add 2) λn16=>aF a (aa w1) λn17=>aF a ((aa w1).add 1) λn18=>aF a ((aa w1).add 2) λn19=>cd a ((aa w1).add 3) λn20=>cd a ((aa w1).add 4)
 λn21=>aF a ((aa w1).add 5) λn22=>cd a ((aa w1).add 3) λn23=>aF a ((aa w1).add 5) λn24=>∃e:Array Y,Sem.run aj (Instr.build 158 #[(0,p),(1,d),(2,
 c),(3,s),(4,.agg #[n14,n15,.int .u64 n16]),(5,.agg #[n17,n18,n19,.int .u64 n20,.int .u64 n21,n22]),(6,.int .u64 gen),(7,.int .u64 n23),(10,
 n24)]) a=.ok (.agg e) a/\an (a.alloc (.cells e 158)) λq=>Q (.tuple #[.pointer (some (aa a)),(0:Int)]) q))
def az.mI:aO:=(.s .r (.s .r (.s a1 dt)))
theorem ah.Cj(d:ar ag)(a:Int)(b:Int)(c:Int)(e:Int)(f:Int)(g:Int)(i:Int)(j:Int)(k:Int)(gen:Int)(s:ar ag)(w:J)(Q:Y->J->Prop)(h:ah.mI d a b c e f g i j k gen s w Q):aL aj 78 #[d,.agg #[a,b,.int .u64 c],.agg #[e,f,g,.int .u64 i,.int .u64 j,k],.int .u64 gen,s] w Q:=okF (λw Q=>ah.mI d a b c e f g i j k gen s w Q) az.mI func78 h
def ah.pY(a:ad)(w:J)(Q:Y->J->Prop):Prop:=Q (.bool ((decide ((a.len:Int)>=1))&&(decide ((a.len:Int)<=24)))) w
def az.pY:aO:=dH
def ah.sm(t:ar ag)(key:ad)(w:J)(Q:Y->J->Prop):Prop:=b1 (λcn:al->J->Prop=>ao (Option.isNone t) (cn true w) (cc 141 #[key] w λn ai=>cn (!n)
 ai)) (λ(o:al) f=>ao o (ao (Option.isNone t) (Q (.tuple #[(),false,(1:Int)]) f) (Q (.tuple #[(),false,(0:Int)]) f)) (eR 142 #[t,key] f λc n10 b=>ao ((n10 !=0)||((c.len:Int)==0)) (Q (.tuple #[(),false,n10]) b) (∃dt:ag,c.a=some dt/\((0:Int)<=(au ((c.len:Int)-1))/\(au ((c.len:Int)-1))<
 (c.len:Int))/\aW b ((dt.add ((au ((c.len:Int)-1)).toNat*6)).add 1) λg=>r1 b (((dt.add ((au ((c.len:Int)-1)).toNat*6)).add 1).add 1) λh=>r1 b (((dt.add ((au ((c.len:Int)-1)).toNat*6)).add
 1).add 2) λi=>r1 b (((dt.add ((au ((c.len:Int)-1)).toNat*6)).add 1).add 3) λj=>an (b.alloc z4) λk=>bh k (aa b) [g,h,i,j]/\(4:Nat)=4/\an (setCells k (aa b) 0 [g,h,i,j]) λd=>aW d (aa b) λp=>r1 d ((aa b).add 1) λq=>
 r1 d ((aa b).add 2) λr=>r1 d ((aa b).add 3) λs=>kj 143 #[.agg #[p,q,r,s],key] d
 λn24 u e=>ao (!u) (Q (.tuple #[(),false,(0:Int)]) e) (r1 e ((aa b).add 2) λl=>∃m:ag,l.a=some m/\aK n24 l.len/\r1 e (m.add (n24.toNat*1)) λv=>Q (.tuple
 #[v,true,(0:Int)]) e))))
def az.sm:aO:=(.s .r (.s (.s (.di [.r,.r,.r,.split 3]) (.c (.s a1 (.s .r .l)) .l)) (.s .r (.s (.s (.di [.r,.r,.r,.pure 3]) (.c (.s .r .l) .l)) (.s .r dt)))))
def ah.sn(s:ar ag)(F:Int)(w:J)(Q:Y->J->Prop):Prop:=∃a1:ag,s=some a1/\st w (a1.add 18) true λai=>∃a3:ag,s=some a3/\st ai (a3.add 16) (0:Int) λn=>∃
 a5:ag,s=some a5/\∃o:ar ag,n.cell? (a5.add 3)=some (o)/\fS 144 #[o] n λp=>∃a9:ag,s=some a9/\∃q:ar ag,p.cell? (a9.add 2)=some (q)/\bJ
 145 #[q] p λg G=>∃ (h:Int->J->Prop) (r:Int->J->Nat),h 0 G/\∀ (n16:Int) (c:J),h n16 c->ao (decide (n16<(g.len:Int))) (∃t:ag,g.a=some t/\aK n16
 g.len/\aF c (t.add (n16.toNat*1)) λn19=>∃v:ag,s=some v/\∃x:ar ag,c.cell? (v.add 2)=some (x)/\cc 146 #[x,n19] c λM y=>h (au (n16
 +1)) y/\r (au (n16+1)) y<r n16 c) (b1 (λz:J->Prop=>an (c.drew) λb=>∃d:Nat->Prop,∃i:ag,s=some i/\¬d (i.add 2).block/\∃A:ar ag,b.cell? (i.add 2)=some (.pointer
 A)/\∃j:ag,s=some j/\¬d (j.add 3).block/\∃B:ar ag,b.cell? (j.add 3)=some (B)/\∃k:ag,s=some k/\¬d (k.add 13).block/\cd b (k.add 13) λn33=>∃l:ag,s=some
 l/\¬d (l.add 7).block/\aF b (l.add 7) λn35=>∃m:ag,s=some m/\¬d ((m.add 7).add 1).block/\aF b ((m.add 7).add 1) λn37=>hO 140 #[A,B,.int .u64 (IntKind.wrap .u64
 (n33+1)),n35,n37] b λH n41 e=>ae d b e/\ao (n41==0) (∃f:ag,s=some f/\(∃u:Y,e.cell? f=some u)/\e.frozen? f=false/\an (e.setCell f (H)) λI=>
 z I) (z e)) (λC=>∃D:ag,s=some D/\aF C ((D.add 7).add 5) λK=>∃E:ag,s=some E/\st C (E.add 17) K λL=>Q F L))
def az.sn:aO:=(.s .r (.s .r (.s .r (.s (.s .r (.b2 (.loop [(26,(.int .i64))] [0,1,24,25] a2))) (.s (.fq [] [0,1] (.s (.cE 28 true ⟨[0,1,2,4,0,16,32,64,0,256,512,1024,2048,0,8192,16384,32768,65536,
 0,262144,524288,1048576,2097152,4329608,8388608,16777216,16777216,67108863,268435455],[0,1,2,4,0,16,32,64,0,256,512,1024,2048,0,8192,16384,32768,65536,0,262144,524288,1048576,2097152,4329608,8388608,
 16777216,16777216,33554432,67108864]⟩ [274877906944,549755813888,1099511627776,2199023255552,4398046511104,8796093022208,17592186044416,35184372088832,70368744177664,140737488355328,281474976710656,562949953421312,
 1125899906842624,2251799813685248,4503599627370496,9007199254740992,18014398509481984,36028797018963968,72057594037927936,144115188075855872,288230376151711744,576460752303423488,1152921504606846976,2305843009213693952,
 137438953472,4611686018427387904,9223372036854775808,128,256] [1,274877906944,549755813888,1099511627776,1,4398046511104,8796093022208,17592186044416,1,70368744177664,140737488355328,281474976710656,562949953421312,1,
 2251799813685248,4503599627370496,9007199254740992,18014398509481984,1,72057594037927936,144115188075855872,288230376151711744,576460752303423488,1190113584927997952,2305843009213693952,137438953472,137438953472,
 4611686018427387904,9223372036854775808] (.t 0 (.t 1 (.t 2 (.t 3 (.t 4 (.t 5 (.t 6 (.t 7 (.t 8 (.t 9 (.t 10 (.t 11 (.t 12 (.t 13 (.t 14 (.t 15 (.t 16 (.t 17 (.t 18 (.t 19 (.t 20 (.t 21 (.t 22 (.bY 23 (.t 24 (.t 25 (.t 26 (.t 27 (.tail
 [.r])))))))))))))))))))))))))))))) (.s .r (.c .r .l)))) (.s .r (.s .r .l)))))))
def ah.so(s:ar ag)(w:J)(Q:Y->J->Prop):Prop:=∃a1:ag,s=some a1/\∃bj:ar ag,w.cell? a1=some (bj)/\ic 147 #[bj] w λn5 n6 a=>∃dX:ag,s
 =some dX/\∃b:ar ag,a.cell? (dX.add 3)=some (b)/\b7 148 #[b] a λn11 d=>∃n12:Int,∃c:J,Sem.run aj (Builtin.max_ #[3,3] 3 #[.int .i64 (au ((au (n11
 -(au (2*n6))))-4)),(0:Int)]) d=.ok n12 c/\Q n12 c
def az.so:aO:=a4
def ah.sq(s:ar ag)(keys:Int)(w:J)(Q:Y->J->Prop):Prop:=∃a1:ag,s=some a1/\aF w (a1.add 17) λbx=>∃a3:ag,s=some a3/\st w (a3.add 17) (.int .i64 (au (bx+keys))) λa=>
 b1 (λc:J->Prop=>∃dH:ag,s=some dH/\aF a (dH.add 16) λn7=>ao (n7==0) (∃e1:ag,s=some e1/\cd a (e1.add 14) λn9=>∃dQ:ag,s=some dQ/\st a (dQ.add 15) (.int .u64 n9) λg=>c g) (c
 a)) (λd=>∃eA:ag,s=some eA/\aF d (eA.add 16) λn14=>∃gk:ag,s=some gk/\st d (gk.add 16) (.int .i64 (au (n14+1))) λh=>an (h.drew) λb=>∃e:ag,s=some e/\¬False/\aF b
 (e.add 16) λn19=>∃f:ag,s=some f/\¬False/\aF b ((f.add 4).add 1) λn21=>ao (decide (n19>=n21)) (b7 94 #[s] b λn24 i=>Q n24 i) (Q (0:Int) b))
def az.sq:aO:=(.s .r (.s .r (.s (.fq [] [0] (.s .r (.c .r .l))) (.s .r (.s (.s (.cE 9 false ⟨[0,1,2,4,0,16,32,64,128,264],[0,1,2,4,0,16,32,64,128,264]⟩ [4294967296,8589934592,17179869184,34359738368,
 68719476736,137438953472,274877906944,549755813888,1099511627776,2199023255552] [1,4294967296,8589934592,17179869184,1,68719476736,137438953472,274877906944,549755813888,1133871366144] (.t 0 (.t 1 (.t 2 (.t 3 (.t 4 (.t 5 (.t 6
 (.t 7 (.t 8 (.tail [.r]))))))))))) (.c (.s .r .l) .l)) (.s .r .l))))))
def ah.sr(t:ar ag)(key:ad)(val:ad)(w:J)(Q:Y->J->Prop):Prop:=b1 (λcn:al->J->Prop=>ao (Option.isNone t) (cn true w) (cc 141 #[key] w λv ai
 =>cn (!v) ai)) (λ(x:al) l=>ao (x||(decide ((val.len:Int)>24))) (Q (1:Int) l) (an (l.drew) λi=>∃j:Nat->Prop,∃a9:ag,t=some a9/\¬j (a9.add 1).block/\∃m:ar ag,i.cell? (a9.add 1)=
 some (m)/\∃dt:ag,t=some dt/\¬j (dt.add 4).block/\aF i (dt.add 4) λn12=>b7 148 #[m] i λn15 k=>ae j i k/\ao (decide (n15<(au ((au (2*n12))+3)))) (Q (2:Int)
 k) (eR 142 #[t,key] k λb n19 c=>ao (n19 !=0) (Q n19 c) (an (c.alloc z4) λn=>bh n (aa c) [true,(),(),()]/\(4:Nat)=4/\an (setCells n (aa c) 0 [true,(),(),()]) λe=>b1 (λo:J->Prop=>ao (decide ((b.len:Int)>0)) (∃g:ag,b.a=some g/\((0:Int)<=(au
 ((b.len:Int)-1))/\(au ((b.len:Int)-1))<(b.len:Int))/\aW e ((g.add ((au ((b.len:Int)-1)).toNat*6)).add 1) λy=>r1 e (((g.add ((au ((b.len:Int)-1)).toNat*6)).add 1).add 1) λz=>r1 e
 (((g.add ((au ((b.len:Int)-1)).toNat*6)).add 1).add 2) λA=>r1 e (((g.add ((au ((b.len:Int)-1)).toNat*6)).add 1).add 3) λB=>pR e c y z A B o) (o e)) (λh=>aW h (aa c) λ
 C=>r1 h ((aa c).add 1) λD=>r1 h ((aa c).add 2) λE=>r1 h ((aa c).add 3) λF=>nW 151 #[.agg #[C,D,E,F],key,val] h λp q r s G d=>an (d.alloc z4) λu=>bh u (aa d) [p,q,r,
 s]/\(4:Nat)=4/\an (setCells u (aa d) 0 [p,q,r,s]) λf=>ao (!G) (Q (4:Int) f) (aW f (aa d)
 λH=>r1 f ((aa d).add 1) λI=>r1 f ((aa d).add 2) λK=>r1 f ((aa d).add 3) λL=>b7 150 #[t,b,.agg #[H,I,K,L]] f λM N=>Q M N))))))
def az.sr:aO:=(.s .r (.s (.b2 (.s (.di [.r,.r,.r,.split 3,.r,.r,.r,.r,.pure 3]) (.c (.s .r .l) (.s (.cE 11 true ⟨[0,1,2,4,8,0,32,64,128,256,512,1040,2064],[0,1,2,4,8,0,32,64,128,256,512,1040,
 2048]⟩ [67108864,134217728,268435456,536870912,1073741824,2147483648,4294967296,8589934592,17179869184,34359738368,68719476736,137438953472,33554432] [1,67108864,134217728,268435456,536870912,1,2147483648,4294967296,
 8589934592,17179869184,34359738368,69793218560,137438953472] (.t 0 (.t 1 (.t 2 (.t 3 (.t 5 (.t 6 (.t 7 (.t 8 (.t 9 (.t 10 (.bY 4 (.tail [.r,.r]))))))))))))) (.c (.s .r .l) .l))))) (.s .r (.s a1 (.s .r (.s (.fq [] [0,1,2,7,9] (.s
 .r (.c .r .l))) dt))))))
def ah.pZ(a:ar ag)(service:Int)(p:Array Y)(w:J)(Q:Y->J->Prop):Prop:=an (w.alloc (.cells p 26)) λw1=>ao (Option.isNone a) (Q (.tuple #[(),false]) w1)
 (∃b:O Y,bE w1 (aa w) 0 18=some b/\gU 66 #[service,.agg b.toArray] w1 λc d e=>Q (.tuple #[c,d]) e)
def az.pZ:aO:=dt
theorem ah.Ck(a:ar ag)(service:Int)(p:Array Y)(w:J)(Q:Y->J->Prop)(h:ah.pZ a service p w Q):aL aj 87 #[a,service,.agg p] w Q:=okF (λw Q=>ah.pZ a service p w Q) az.pZ func87 h
def ah.n3(key:ad)(val:ad)(w:J)(Q:Y->J->Prop):Prop:=an (w.alloc fD) λw1=>lG 156 #[key,(0:Int),(2:Int)] w1 λcv C ai=>ao (((!C)||(decide ((key.len:Int)
 <4)))||((val.len:Int) !=10)) (∃e:Array Y,Sem.run aj (Instr.build 29 #[]) ai=.ok (.agg e) ai/\bh ai (aa w) (Array.toList e)/\Array.size e=21/\an (setCells ai (aa w) 0 (Array.toList e)) λn
 =>∃o:O Y,bE n (aa w) 0 21=some o/\Q (.tuple #[.agg o.toArray,false]) n) (((0:Int)<=4/\4<=(key.len:Int))/\ju 157 #[.slice (aJ key.a 1 (Int.toNat 4) key.cap) (key.len-(Int.toNat 4)) (key.cap-
 (Int.toNat 4))] ai λi M d=>an (d.alloc z5) λp=>bh p (aa d) (Array.toList i)/\Array.size i=17/\an (setCells p (aa d) 0 (Array.toList i)) λD=>lG 156 #[val,(0:Int),(2:Int)] D λn17 N E=>lG 156 #[val,(2:Int),(8:Int)] E λn21 P F=>an (F.drew) λb=>∃j:Nat->Prop,¬j ((aa d):ag).block/\∃q:O Y,
 bE b (aa d) 0 17=some q/\∃k:ag,key.a=some k/\aK 3 key.len/\¬j (k.add (Int.toNat 3*1)).block/\en b (k.add (Int.toNat 3*1)) λn27=>∃r:Array Y,(∀s:J,Sem.run aj
 (Instr.build 26 #[(0,.agg q.toArray),(1,.int .i64 (au n27))]) s=.ok (.agg r) s)/\∃f:Array Y,(∀t:J,Sem.run aj (Instr.build 29 #[(0,.int .i64 (au cv)),(1,.agg r),(2,.int
 .i64 (au n17)),(3,.int .u64 n21)]) t=.ok (.agg f) t)/\an (b.alloc fD) λl=>ae j b l/\bh l (aa b) (Array.toList f)/\Array.size f=21/\an (setCells l (aa b) 0 (Array.toList f)) λm=>aF
 m (aa b) λn34=>∃u:O Y,bE m ((aa b).add 1) 0 18=some u/\gU 66 #[n34,.agg u.toArray] m λG H v=>b1 (λx:al->J->Prop=>ao (!H) (x true v) (cc
 158 #[G,key] v λI K=>x (!I) K)) (λ(L:al) c=>ao L (∃g:Array Y,Sem.run aj (Instr.build 29 #[]) c=.ok (.agg g)
 c/\bh c (aa w) (Array.toList g)/\Array.size g=21/\an (setCells c (aa w) 0 (Array.toList g)) λy=>∃z:O Y,bE y (aa w) 0 21=some z/\Q (.tuple #[.agg z.toArray,false]) y) (∃h:
 O Y,bE c (aa b) 0 21=some h/\bh c (aa w) (Array.toList h.toArray)/\Array.size h.toArray=21/\an (setCells c (aa w) 0 (Array.toList h.toArray)) λA=>∃B:O Y,bE A (aa w) 0 21=
 some B/\Q (.tuple #[.agg B.toArray,true]) A)))
def az.n3:aO:=(.s .r (.s .r (.s (.s (.di [.r,.r,.r,.pure 3,.r,.r,.r,.r,.pure 3]) (.c (.s .r .l) .l)) (.s .r (.s .r (.s .r (.s (.cE 13 true ⟨[0,1,0,0,8,16,32,68,0,256,0,1666,0,8191],[0,1,0,0,8,16,32,68,
 0,256,0,1666,0,6144]⟩ [1125899906842624,2251799813685248,4503599627370496,9007199254740992,18014398509481984,36028797018963968,72057594037927936,144115188075855872,288230376151711744,576460752303423488,1152921504606846976,
 2305843009213693952,16384,0] [64,1125899906842624,256,1,9007199254740992,18014398509481984,36028797018963968,76561193665298432,1024,288230376151711744,4096,1875749244799811584,0,2305843009213710336] (.t 0 (.t 1 (.t 2 (.t 3
 (.t 4 (.t 5 (.t 6 (.t 7 (.t 8 (.t 9 (.t 10 (.t 11 (.bY 12 (.tail [.r]))))))))))))))) (.s .r (.s (.s (.di [.r,.r,.r,.split 4]) (.c (.s .r .l) .l)) (.s .r .l))))))))))
def ah.lK(parts:ad)(w:J)(Q:Y->J->Prop):Prop:=∃ (d:ad->Int->J->Prop) (g:ad->Int->J->Nat),d ⟨none,0,0⟩ 0 w/\∀ (c:ad) (cv:Int) (b:J),d c cv b->ao (decide (cv<
 (parts.len:Int))) (∃dH:ag,parts.a=some dH/\aK cv parts.len/\r1 b (dH.add (cv.toNat*1)) λh=>∃e:ad,∃f:J,Sem.run aj (Builtin.append_ #[48,48] 48 #[c,h]) b=.ok e f/\d e (au (cv+1)) f/\g e (au (cv+1)) f<g c cv b) (Q c b)
def az.lK:aO:=(.s .r (.s .r (.s (.s .r (.b2 (.loop [(3,.slice),(8,(.int .i64))] [6,7] a2))) (.s .r .l))))
theorem ah.Cl(parts:ad)(w:J)(Q:Y->J->Prop)(h:ah.lK parts w Q):aL aj 92 #[parts] w Q:=okF (λw Q=>ah.lK parts w Q) az.lK func92 h
def ah.ss(s:ar ag)(w:J)(Q:Y->J->Prop):Prop:=∃a1:ag,s=some a1/\∃bj:ar ag,w.cell? (a1.add 3)=some (bj)/\ic 160 #[bj] w λn5 n6 y=>
 ao (n6 !=0) (b7 81 #[s,n6] y λn9 al=>Q n9 al) (an (y.drew) λi=>∃dt:ag,s=some dt/\¬False/\∃z:ar ag,i.cell? (dt.add 3)=some (z)/\∃eA
 :ag,s=some eA/\¬False/\aF i ((eA.add 7).add 2) λn14=>b7 161 #[z,n14] i λn17 am=>an (am.drew) λd=>∃e:Nat->Prop,∃j:ag,s=some j/\¬e (j.add
 13).block/\cd d (j.add 13) λn21=>∃k:ag,s=some k/\¬e (k.add 3).block/\∃A:ar ag,d.cell? (k.add 3)=some (A)/\bJ 74 #[A] d λap l=>ae e d l
 /\∃B:Array Y,(∀C:J,Sem.run aj (Instr.build 150 #[(0,.int .i64 4),(1,.int .u64 (IntKind.wrap .u64 (n21+1))),(2,ap)]) C=.ok (.agg B) C)/\eR 73 #[n5,.agg B] l λaq n32 f=>ae e l f/\ao (n32 !=0) (b7 81 #[s,n32] f λn35 au=>Q n35 au) (∃D:ag,s=some D/\∃E:ar ag,f.cell? (D.add
 2)=some (E)/\b7 162 #[E,n5,aq] f λn40 m=>ao (n40 !=0) (b7 81 #[s,n40] m λav aw=>Q av aw) (∃
 F:ag,s=some F/\∃G:ar ag,m.cell? (F.add 2)=some (G)/\b7 163 #[G] m λH n=>ao (H !=0) (b7 81 #[s,H] n λax ay=>Q
 ax ay) (∃I:ag,s=some I/\∃K:ar ag,n.cell? I=some (K)/\ic 147 #[K] n λaz aA aB=>an (aB.drew) λa=>∃g:Nat->Prop,∃o:ag,s=some
 o/\¬g (o.add 14).block/\cd a (o.add 14) λaC=>∃p:ag,s=some p/\¬g ((p.add 7).add 4).block/\cd a ((p.add 7).add 4) λaD=>∃q:ag,s=some q/\¬g (q.add 17).block/\aF a (q.add 17)
 λaE=>∃h:Array Y,(∀L:J,Sem.run aj (Instr.build 104 #[(0,az),(1,aA),(2,n5),(3,.int .u64 aC),(4,.int .u64 (IntKind.wrap .u64 (aD+1))),(5,aE)])
 L=.ok (.agg h) L)/\an (a.alloc iW) λr=>ae g a r/\bh r (aa a) (Array.toList h)/\Array.size h=6/\an (setCells r (aa a) 0 (Array.toList h)) λaG=>an (aG.drew) λb=>∃M:ag,s=
 some M/\¬False/\∃N:ar ag,b.cell? (M.add 1)=some (N)/\¬False/\aF b (aa a) λaH=>aF b ((aa a).add 1) λaI=>aF b ((aa a).add 2) λaJ=>cd b ((aa a).add 3) λ
 aK=>cd b ((aa a).add 4) λaL=>aF b ((aa a).add 5) λaM=>∃O:ag,s=some O/\¬False/\cd b (O.add 13) λaN=>b7 77 #[N,.agg #[aH,aI,aJ,.int .u64 aK,.int .u64 aL,aM],.int .u64 (IntKind.wrap .u64 (aN+1))] b λP t=>ao (P !=0) (b7 81 #[s,P] t λaO aP=>Q aO aP) (∃R:ag,s=
 some R/\∃S:ar ag,t.cell? (R.add 3)=some (S)/\fS 131 #[S] t λaQ=>an (aQ.drew) λc=>∃T:Nat->Prop,¬T ((aa a):ag).block/\aF c (aa a) λU=>aF
 c ((aa a).add 1) λV=>aF c ((aa a).add 2) λW=>cd c ((aa a).add 3) λX=>cd c ((aa a).add 4) λZ=>aF c ((aa a).add 5) λab=>∃u:ag,s=some u/\¬T (u.add
 13).block/\cd c (u.add 13) λaR=>∃v:ag,s=some v/\bh c (v.add 7) [U,V,W,.int .u64 X,.int .u64 Z,ab]/\(6:Nat)=6/\an (setCells c (v.add 7) 0
 [U,V,W,.int .u64 X,.int .u64 Z,ab]) λaS=>∃ac:ag,s=some ac/\st aS (ac.add 13) (.int .u64 (IntKind.wrap .u64 (aR+1))) λaT=>∃ad:ag,s=some ad
 /\st aT (ad.add 16) (0:Int) λaU=>an (aU.drew) λx=>∃af:ag,s=some af/\¬False/\∃ai:ar ag,x.cell? af=some (ai)/\∃ak:ag,s=some ak/\¬False/\cd x (ak.add
 13) λaV=>fS 164 #[ai,.int .u64 (IntKind.wrap .u64 (aV+1))] x λaW=>Q (0:Int) aW)))))
def az.ss:aO:=(.s .r (.s .r (.s a1 (.s (.cE 9 false ⟨[0,1,2,4,0,16,32,64,128,264],[0,1,2,4,0,16,32,64,128,264]⟩ [33554432,67108864,134217728,268435456,536870912,1073741824,2147483648,
 4294967296,8589934592,17179869184] [1,33554432,67108864,134217728,1,536870912,1073741824,2147483648,4294967296,8858370048] (.t 0 (.t 1 (.t 2 (.t 3 (.t 4 (.t 5 (.t 6 (.t 7 (.t 8 (.tail [.r]))))))))))) (.s (.cE 17 true ⟨[0,0,2,
 4,8,16,0,64,128,256,512,1056,3073,4096,8192,8192,32767,131071],[0,0,2,4,8,16,0,64,128,256,512,1056,2049,4096,8192,8192,16384,32768]⟩ [68719476736,137438953472,274877906944,549755813888,1099511627776,
 2199023255552,4398046511104,8796093022208,17592186044416,35184372088832,70368744177664,140737488355328,281474976710656,34359738368,562949953421312,1125899906842624,32,16] [8,1,137438953472,274877906944,549755813888,
 1099511627776,1,4398046511104,8796093022208,17592186044416,35184372088832,72567767433216,140806207832064,281474976710656,34359738368,34359738368,562949953421312,1125899906842624] (.t 0 (.t 1 (.t 2 (.t 3 (.t 4 (.t 5 (.t 6 (.t 7
 (.t 8 (.t 9 (.bY 10 (.t 11 (.bY 12 (.t 13 (.t 14 (.t 15 (.t 16 (.tail [.r]))))))))))))))))))) (.s a1 (.s (.s .r a1) (.s (.s .r a1) (.s .r (.s (.cE 19 true ⟨[0,0,0,0,8,16,32,0,128,256,512,1024,2048,0,8192,16384,32768,
 69703,0,524287],[0,0,0,0,8,16,32,0,128,256,512,1024,2048,0,8192,16384,32768,69703,0,393216]⟩ [77371252455336267181195264,154742504910672534362390528,309485009821345068724781056,618970019642690137449562112,
 1237940039285380274899124224,2475880078570760549798248448,4951760157141521099596496896,9903520314283042199192993792,19807040628566084398385987584,39614081257132168796771975168,79228162514264337593543950336,
 158456325028528675187087900672,316912650057057350374175801344,633825300114114700748351602688,1267650600228229401496703205376,2535301200456458802993406410752,5070602400912917605986812821504,10141204801825835211973625643008,1024,0]
 [256,512,8,1,618970019642690137449562112,1237940039285380274899124224,2475880078570760549798248448,1,9903520314283042199192993792,19807040628566084398385987584,39614081257132168796771975168,79228162514264337593543950336,
 158456325028528675187087900672,1,633825300114114700748351602688,1267650600228229401496703205376,2535301200456458802993406410752,5393008409894303831330853486592,0,10141204801825835211973625644032] (.t 0 (.t 1 (.t 2 (.t 3 (.t 4 (.t 5
 (.t 6 (.t 7 (.t 8 (.t 9 (.t 10 (.t 11 (.t 12 (.t 13 (.t 14 (.t 15 (.t 16 (.t 17 (.bY 18 (.tail [.r]))))))))))))))))))))) (.s (.s (.cE 10 false ⟨[0,1,2,4,0,0,32,64,128,256,536,2047],[0,1,2,4,0,0,32,64,128,256,536,
 1024]⟩ [20282409603651670423947251286016,40564819207303340847894502572032,81129638414606681695789005144064,162259276829213363391578010288128,324518553658426726783156020576256,649037107316853453566312041152512,
 1298074214633706907132624082305024,2596148429267413814265248164610048,5192296858534827628530496329220096,10384593717069655257060992658440192,20769187434139310514121985316880384,2048] [1,20282409603651670423947251286016,
 40564819207303340847894502572032,81129638414606681695789005144064,1024,1,649037107316853453566312041152512,1298074214633706907132624082305024,2596148429267413814265248164610048,5192296858534827628530496329220096,
 10871371547557295347235726689304576,20769187434139310514121985316880384] (.t 0 (.t 1 (.t 2 (.t 3 (.t 4 (.t 5 (.t 6 (.t 7 (.t 8 (.t 9 (.tail [.r,.r])))))))))))) a1) (.s .r (.s (.cE 15 true ⟨[0,0,0,0,0,16,32,64,128,137,649,1161,
 4091,8187,12283,32767,65535,98303],[0,0,0,0,0,16,32,64,128,1,512,1032,2,4096,8448,4,32768,65536]⟩ [42535295865117307932921825928971026432,85070591730234615865843651857942052864,
 170141183460469231731687303715884105728,340282366920938463463374607431768211456,680564733841876926926749214863536422912,1361129467683753853853498429727072845824,2722258935367507707706996859454145691648,
 5444517870735015415413993718908291383296,10889035741470030830827987437816582766592,21778071482940061661655974875633165533184,43556142965880123323311949751266331066368,0,87112285931760246646623899502532662132736,
 174224571863520493293247799005065324265472,0,348449143727040986586495598010130648530944,696898287454081973172991196020261297061888,0] [1,1,1,1024,1,680564733841876926926749214863536422912,1361129467683753853853498429727072845824,
 2722258935367507707706996859454145691648,5444517870735015415413993718908291383296,42535295865117307932921825928971026432,21778071482940061661655974875633165533184,43896425332801061786775324358698099277824,
 85070591730234615865843651857942052864,87112285931760246646623899502532662132736,185113607604990524124075786442881907032064,170141183460469231731687303715884105728,348449143727040986586495598010130648530944,
 696898287454081973172991196020261297061888] (.t 0 (.t 1 (.t 2 (.t 3 (.t 4 (.t 5 (.t 6 (.t 7 (.t 8 (.t 9 (.t 10 (.out 11 false (.t 12 (.t 13 (.out 14 false (.tail [.r,.r,.r]))))))))))))))))) (.s (.cE 9 false ⟨[0,1,2,4,0,16,32,64,
 128,264],[0,1,2,4,0,16,32,64,128,264]⟩ [1393796574908163946345982392040522594123776,2787593149816327892691964784081045188247552,5575186299632655785383929568162090376495104,11150372599265311570767859136324180752990208,
 22300745198530623141535718272648361505980416,44601490397061246283071436545296723011960832,89202980794122492566142873090593446023921664,178405961588244985132285746181186892047843328,356811923176489970264571492362373784095686656,
 713623846352979940529142984724747568191373312] [1,1393796574908163946345982392040522594123776,2787593149816327892691964784081045188247552,5575186299632655785383929568162090376495104,1,22300745198530623141535718272648361505980416,
 44601490397061246283071436545296723011960832,89202980794122492566142873090593446023921664,178405961588244985132285746181186892047843328,367962295775755281835339351498697964848676864] (.t 0 (.t 1 (.t 2 (.t 3 (.t 4 (.t 5 (.t 6 (.t 7 (.t 8
 (.tail [.r]))))))))))) (.s .r .l)))))))))))))))
def ah.su(d:ar ag)(i:Int)(w:J)(Q:Y->J->Prop):Prop:=b1 (λcn:al->J->Prop=>ao ((!(Option.isNone d))&&(decide (i>=0))) (∃a2:ag,d=some a2/\r1 w (a2.add 4) λa=>cn
 (decide (i<(a.len:Int))) w) (cn false w)) (λ(b:al) c=>Q b c)
def az.su:aO:=e1
def ah.sw(d:ar ag)(i:Int)(w:J)(Q:Y->J->Prop):Prop:=cc 108 #[d,i] w λf w1=>ao (!f) (Q (.tuple #[(),(1:Int)]) w1) (∃a4:ag,d=
 some a4/\cc 136 #[.pointer (some a4),(1:Int)] w1 λg c=>ao g (Q (.tuple #[(),(3:Int)]) c) (jU 137 #[d,i] c λb a=>an (a.alloc rP) λe=>bh
 e (aa a) (Array.toList b)/\Array.size b=256/\an (setCells e (aa a) 0 (Array.toList b)) λh=>Q (.tuple #[.slice (aJ (some (aa a)) 1 0 256) (256-0) (256-0),(0:Int)]) h))
def az.sw:aO:=(.s .r (.s (.b2 eA) (.s .r (.s .r .l))))
def ah.lL(n:Int)(w:J)(Q:Y->J->Prop):Prop:=Q (.bool ((decide (n>=0))&&(decide (n<=65535)))) w
def az.lL:aO:=a3
def ah.mJ(a:Array Y)(bits:Int)(w:J)(Q:Y->J->Prop):Prop:=an (w.alloc (.cells a 24)) λw1=>an (w1.alloc z3) λai=>∃c:O Y,bE ai (aa w) 0 17=some c/\ju 191
 #[.agg c.toArray,bits] ai λb g d=>bh d (aa w1) (Array.toList b)/\Array.size b=18/\an (setCells d (aa w1) 0 (Array.toList b)) λe=>∃f:O Y,bE e (aa w1) 0 18=some f/\Q (.tuple #[.agg
 f.toArray,g]) e
def az.mJ:aO:=(.s .r (.s .r .l))
theorem ah.Cm(a:Array Y)(bits:Int)(w:J)(Q:Y->J->Prop)(h:ah.mJ a bits w Q):aL aj 125 #[.agg a,bits] w Q:=okF (λw Q=>ah.mJ a bits w Q) az.mJ func125 h
def ah.gl(b:ad)(n:Int)(size:Int)(w:J)(Q:Y->J->Prop):Prop:=bJ 135 #[b] w λg w1=>cc 192 #[size] w1 λj h=>ao (!j) (Q g h) (∃ (d:ad->Int->J->Prop) (i:ad->Int->J->Nat),d g (au (size-1)) h/\∀ (c:ad) (n10:Int) (a:J),d c n10 a->ao (decide (n10>=0)) ((0:Int)<=(au (8*n10))/\an (a.alloc
 (.cells #[.int .u8 (IntKind.wrap .u8 (Int.fdiv n (2^(min ((au (8*n10)).toNat) 64))))] 5)) λk=>∃e:ad,∃f:J,Sem.run aj (Builtin.append_ #[48,48] 48 #[c,.slice (some (aa a)) 1 1]) k=.ok e f/\d e (au (n10-1)) f/\i e (au (n10-1)) f<i c n10 a) (Q c a))
def az.gl:aO:=(.s .r (.s .r (.s a1 (.s (.s .r (.b2 (.loop [(7,.slice),(8,(.int .i64))] [1] (.s (.s .r (.c .l .l)) (.s (.b2 .r) .r))))) (.s .r .l)))))
def ah.kl(a:Array Y)(w:J)(Q:Y->J->Prop):Prop:=an (w.alloc (.cells a 24)) λw1=>∃b:O Y,bE w1 (aa w) 0 17=some b/\bJ 193 #[.agg b.toArray] w1 λd c=>an
 (c.alloc (.cells #[d] 48)) λe=>bJ 92 #[.slice (some (aa c)) 1 1] e λf g=>Q f g
def az.kl:aO:=(.s .r (.s .r .l))
theorem ah.Cn(a:Array Y)(w:J)(Q:Y->J->Prop)(h:ah.kl a w Q):aL aj 127 #[.agg a] w Q:=okF (λw Q=>ah.kl a w Q) az.kl func127 h
def ah.sx(n:Int)(w:J)(Q:Y->J->Prop):Prop:=Q (.bool ((decide (n>=1))&&(decide (n<=1600)))) w
def az.sx:aO:=a3
def ah.sy(n:Int)(w:J)(Q:Y->J->Prop):Prop:=(8:Int)≠0/\Q (.int .i64 (au (Int.tdiv (au ((au (n+8))-1)) 8))) w
def az.sy:aO:=(.s .r (.s .r .l))
def ah.sA(s:ad)(no:Int)(w:J)(Q:Y->J->Prop):Prop:=an (w.drew) λw1=>(8:Int)≠0/\∃a2:ag,s.a=some a2/\aK (au (Int.tdiv no 8)) s.len/\¬False/\en w1 (a2.add ((au (Int.tdiv no
 8)).toNat*1)) λb=>(8:Int)≠0/\(0:Int)<=(Int.tmod no 8)/\∃a4:ag,s.a=some a4/\aK (au (Int.tdiv no 8)) s.len/\st w1 (a4.add ((au (Int.tdiv no 8)).toNat*1)) (.int .u8 (lr .u8 b (IntKind.wrap .u8 (1*2^(min
 ((Int.tmod no 8).toNat) 8))))) λc=>Q (.tuple #[]) c
def az.sA:aO:=(.cE 8 false ⟨[0,0,2,5,8,0,32,64,144,511,1023],[0,0,2,5,8,0,32,64,144,5,768]⟩ [16,32,64,128,256,512,1024,2048,4096,8192,0] [1,2,32,80,128,2,512,1024,2304,80,12288] (.t 0
 (.t 1 (.t 2 (.t 3 (.t 4 (.t 5 (.t 6 (.t 7 (.tail [.r,.r,.r]))))))))))
def ah.p0(s:ar ag)(w:J)(Q:Y->J->Prop):Prop:=ao (!(Option.isNone s)) (∃a1:ag,s=some a1/\r1 w (a1.add 1) λs2=>bJ 194 #[s2] w λ
 a b=>∃dH:ag,s=some dH/\st b (dH.add 2) a λc=>Q (.tuple #[]) c) (Q (.tuple #[]) w)
def az.p0:aO:=(.s .r (.c .r .l))
theorem ah.Co(s:ar ag)(w:J)(Q:Y->J->Prop)(h:ah.p0 s w Q):aL aj 131 #[s] w Q:=okF (λw Q=>ah.p0 s w Q) az.p0 func131 h
def ah.sB(no:Int)(w:J)(Q:Y->J->Prop):Prop:=Q (.bool ((decide (no>=0))&&(decide (no<1600)))) w
def az.sB:aO:=a3
theorem ah.yy(no:Int)(w:J)(Q:Y->J->Prop)(h:ah.sB no w Q):aL aj 132 #[no] w Q:=okF (λw Q=>ah.sB no w Q) az.sB func132 h
def ah.sC(a:Int)(w:J)(Q:Y->J->Prop):Prop:=Q (.bool ((decide (a>=1))&&(decide (a<=4)))) w
def az.sC:aO:=a3
theorem ah.yz(a:Int)(w:J)(Q:Y->J->Prop)(h:ah.sC a w Q):aL aj 133 #[a] w Q:=okF (λw Q=>ah.sC a w Q) az.sC func133 h
def ah.mK(b:ad)(w:J)(Q:Y->J->Prop):Prop:=an (w.drew) λw1=>((0:Int)<=20/\20<=(b.cap:Int))/\((0:Int)<=24/\24<=(b.len:Int))/\an (w1.alloc (.cells #[.slice (aJ b.a 1 0 b.cap)
 ((Int.toNat 20)-0) (b.cap-0),.slice (aJ b.a 1 (Int.toNat 24) b.cap) (b.len-(Int.toNat 24)) (b.cap-(Int.toNat 24))] 48)) λai=>lF 195 #[.slice (some (aa w1)) 2 2] ai λn5 c=>Q (.int .u32 n5) c
def az.mK:aO:=(.s .r (.s (.cE 4 false ⟨[0,1,0,4,10,16,63],[0,1,0,4,10,16,32]⟩ [8,16,32,64,128,256,4] [1,8,1,32,80,128,256] (.t 0 (.t 1 (.t 2 (.t 3 (.tail [.r,.r,.r])))))) .l))
def ah.sD(f:ar ag)(a:Int)(w:J)(Q:Y->J->Prop):Prop:=∃a1:ag,f=some a1/\((0:Int)<=a/\a<((4:Nat):Int))/\aF w (Addr.add a1 (a.toNat*1)) λbx=>ao (bx==
 (-1)) (Q false w) (ao (bx==0) (∃a3:ag,f=some a3/\((0:Int)<=a/\a<((4:Nat):Int))/\st w (Addr.add a3 (a.toNat*1)) (.int .i64 (-1)) λc=>Q true c) (an (w.drew) λb=>∃dH:ag,f
 =some dH/\((0:Int)<=a/\a<((4:Nat):Int))/\¬False/\aF b (Addr.add dH (a.toNat*1)) λn7=>∃e1:ag,f=some e1/\((0:Int)<=a/\a<((4:Nat):Int))/\st b (Addr.add e1 (a.toNat*1))
 (.int .i64 (au (n7-1))) λd=>Q false d))
def az.sD:aO:=(.s .r (.s (.s .r (.b2 (.s .r (.c (.s .r .l) (.s .r dX))))) (.s (.cE 7 false ⟨[0,0,1,6,8,16,1,127,191],[0,0,1,6,8,16,1,66,160]⟩ [262144,524288,1048576,2097152,4194304,8388608,16777216,
 33554432,0] [1,2,262144,1572864,2097152,4194304,262144,17301504,41943040] (.t 0 (.t 1 (.t 2 (.t 3 (.t 4 (.t 5 (.t 6 (.tail [.r,.r]))))))))) (.s .r .l))))
set_option maxRecDepth 100000
def ah.sE(d:ar ag)(i:Int)(w:J)(Q:Y->J->Prop):Prop:=an (w.alloc rP) λw1=>∃a2:ag,d=some a2/\∃e:ar Nat,w1.cell? (a2.add 5)=some (.map e)/\∃b:ad,∃c:J,
 Sem.run aj (Instr.lookup 137 (.map e) i false) w1=.ok b c/\ao (decide ((b.len:Int)>0)) (∃dH:ag,b.a=some dH/\((0:Int)<=(au ((b.len:Int)-1))/\(au
 ((b.len:Int)-1))<(b.len:Int))/\∃f:O Y,bE c (dH.add ((au ((b.len:Int)-1)).toNat*256)) 0 256=some f/\vg c w f Q) (∃dQ:ag,d=some dQ/\r1 c (dQ.add 4) λg=>rN g i c 256 λh=>
 vg c w h Q)
def az.sE:aO:=(.s .r (.s (.s .r a1) (.s .r .l)))
def ah.n4(f:Int)(g:Int)(h:Int)(i:Int)(j:Int)(k:Int)(l:Int)(w:J)(Q:Y->J->Prop):Prop:=an (w.alloc (.cells #[f,g,h,.int .u64 i,.int .u64 j,k] 104)) λw1=>aF w1 (aa w) λbx=>bJ 126 #[(),.int .u64 (IntKind.wrap .u64 bx),(4:Int)] w1 λm a=>aF a ((aa w).add 1)
 λn6=>bJ 126 #[m,.int .u64 (IntKind.wrap .u64 n6),(1:Int)] a λn b=>aF b ((aa w).add 2) λn10=>bJ 126 #[n,.int .u64 (IntKind.wrap .u64 n10),(4:Int)] b λo p=>bJ 126 #[o,.int .u64 (IntKind.wrap .u64 l),(4:Int)] p λq c=>cd c ((aa w).add 3) λn17=>bJ 126 #[q,.int .u64 n17,
 .int .i64 8] c λr d=>cd d ((aa w).add 4) λn21=>bJ 126 #[r,.int .u64 n21,(8:Int)] d λs e=>aF e ((aa w).add 5) λn25=>bJ 126 #[s,.int .u64 (IntKind.wrap .u64 n25),(4:Int)] e λt u=>Q t u
def az.n4:aO:=(.s .r (.s .r (.s .r (.s .r (.s .r a4)))))
def ah.n_(d:ar ag)(ak:Int)(w:J)(Q:Y->J->Prop):Prop:=ao (((Option.isNone d)||(decide (ak<8)))||(decide (ak>64))) (Q (.tuple #[.pointer none,(1:Int)]) w) (((0:Int)<=ak
 /\ak<=ak/\ak<=jt/\((48:Nat):Int)*ak<=140737488355328)/\an (w.alloc (.cells (gw aj 288 (ak.toNat)) 288)) λw1=>an (w1.alloc (.cells #[d,.slice (some (aa w))
 (ak.toNat) (ak.toNat),(0:Int)] 281)) λai=>Q (.tuple #[.pointer (some (aa w1)),(0:Int)]) ai)
def az.n_:aO:=a5
def ah.mL(c:ar ag)(s:ar ag)(gen:Int)(root:Int)(aH:Int)(w:J)(Q:Y->J->Prop):Prop:=b1 (λcn:al->J->Prop=>ao (((((Option.isNone c)||(Option.isNone s))||(decide
 (aH<0)))||(decide (aH>12)))||(decide (root<0))) (cn true w) (∃a2:ag,c=some a2/\∃b:ar ag,w.cell? a2=some (b)/\b7 72 #[b] w λn6 d=>cn (decide (root>=n6)) d))
 (λ(e:al) a=>ao (e||(!((root==0)==(aH==0)))) (Q (.tuple #[.pointer none,(1:Int)]) a) (an (a.alloc (.cells #[c,s,.int .u64 gen,root,aH] 239)) λf=>Q
 (.tuple #[.pointer (some (aa a)),(0:Int)]) f))
def az.mL:aO:=(.s .r (.s (.s (.di [.r,.r,.r,.pure 2,.r,.r,.r,.pure 2,.r,.r,.r,.pure 2,.r,.r,.r,.pure 2,.r,.r,.r,.split 7,.r,.r,.r,.r,.r,.r,.r,.r,.pure 5]) (.c (.s .r .l) .l)) (.s .r .l)))
def ah.mM(a:ad)(w:J)(Q:Y->J->Prop):Prop:=Q (.bool ((decide ((a.len:Int)>=1))&&(decide ((a.len:Int)<=24)))) w
def az.mM:aO:=dH
def ah.sF(t:ar ag)(key:ad)(w:J)(Q:Y->J->Prop):Prop:=∃a1:ag,t=some a1/\aF w (a1.add 3) λbx=>∃a3:ag,t=some a3/\aF w (a3.add 4) λcv=>∃ (i:ad->Int->Int->J->
 Prop) (l:ad->Int->Int->J->Nat),i ⟨none,0,0⟩ bx cv w/\∀ (e:ad) (n8:Int) (n9:Int) (f:J),i e n8 n9 f->ao (decide (n9>0)) (kT 196 #[t,n8,.bool (n9==1)] f λm n
 o p n17 c=>an (c.alloc z4) λq=>bh q (aa c) [m,n,o,p]/\(4:Nat)=4/\an (setCells q (aa c) 0 [m,n,o,p]) λb=>ao (n17 !=0) (Q (.tuple #[(),n17]) b) (aW b (aa c) λB=>r1 b ((aa c).add 1) λC=>r1 b
 ((aa c).add 2) λD=>r1 b ((aa c).add 3) λE=>∃g:Array Y,Sem.run aj (Instr.build 232 #[(0,n8),(1,.agg #[B,C,D,
 E])]) b=.ok (.agg g) b/\an (b.alloc (.cells #[(0:Int),false,(),(),(),(0:Int)] 232)) λr=>bh r (aa b) (Array.toList g)
 /\Array.size g=6/\an (setCells r (aa b) 0 (Array.toList g)) λd=>b1 (λs:Int->J->Prop=>ao (decide (n9>1)) (aW d (aa c) λF=>r1 d ((aa c).add 1) λG=>r1 d ((aa c).add 2) λ
 H=>r1 d ((aa c).add 3) λI=>b7 197 #[.agg #[F,G,H,I],key] d λn34 K=>st K (Addr.add
 (aa b) 5) n34 λh=>r1 h ((aa c).add 3) λu=>aF h ((aa b).add 5) λn37=>∃v:ag,u.a=some v/\aK n37 u.len/\aF h (v.add (n37.toNat*1)) λn39=>s n39 h) (s n8
 d)) (λ(n40:Int) x=>∃y:O Y,bE x (aa b) 0 6=some y/\∃z:ad,∃A:J,Sem.run aj (Instr.buildSlice 228 1 #[(0,.agg y.toArray)]) x=.ok z A
 /\∃j:ad,∃k:J,Sem.run aj (Builtin.append_ #[228,228] 228 #[e,z]) A=.ok j k/\i j n40 (au
 (n9-1)) k/\l j n40 (au (n9-1)) k<l e n8 n9 f))) (Q (.tuple #[e,(0:Int)]) f)
def az.sF:aO:=(.s .r (.s .r (.s .r (.s (.s .r (.b2 (.loop [(6,.slice),(7,(.int .i64)),(8,(.int .i64))] [0,1] (.s (.s .r (.c .l .l)) (.s (.b2 (.s .r (.s a1 (.s .r (.s (.fq [(7,(.int .i64))] [0,1,6,8,11] (.s .r (.c
 (.s .r .r) .l))) .r))))) .r))))) (.s .r .l)))))
def ah.oa(a:al)(b:ad)(c:ad)(d:ad)(key:ad)(w:J)(Q:Y->J->Prop):Prop:=an (w.alloc (.cells #[a,b,c,d] 202)) λw1=>aW w1 (aa w) λbH=>r1 w1 ((aa w).add 1) λe=>r1 w1 ((aa w).add 2) λf=>r1 w1 ((aa w).add 3) λg=>kj 198 #[.agg #[bH,e,f,g],key] w1 λn8 h i=>Q (.tuple #[n8,h]) i
def az.oa:aO:=(.s .r (.s .r .l))
def ah.p1(s:ar ag)(w:J)(Q:Y->J->Prop):Prop:=ao (!(Option.isNone s)) (∃a1:ag,s=some a1/\r1 w (a1.add 2) λs2=>bJ 194 #[s2] w λa
 b=>∃dH:ag,s=some dH/\st b (dH.add 1) a λc=>Q (.tuple #[]) c) (Q (.tuple #[]) w)
def az.p1:aO:=(.s .r (.c .r .l))
theorem ah.Cp(s:ar ag)(w:J)(Q:Y->J->Prop)(h:ah.p1 s w Q):aL aj 144 #[s] w Q:=okF (λw Q=>ah.p1 s w Q) az.p1 func144 h
def ah.sG(c:ar ag)(w:J)(Q:Y->J->Prop):Prop:=bJ 199 #[c,.func (.func 200) #[] #[]] w λa w1=>Q a w1
def az.sG:aO:=(.s .r (.s .r .l))
def ah.sH(c:ar ag)(no:Int)(w:J)(Q:Y->J->Prop):Prop:=iV 201 #[c,no] w λa w1=>b1 (λd:al->J->Prop=>ao (Option.isNone a) (d true w1) (∃
 a5:ag,a=some a5/\aF w1 (a5.add 4) λn6=>d (decide (n6>0)) w1)) (λ(e:al) b=>ao e (Q false b) (∃a9:ag,a=some a9/\bh b a9 [false,false,false,(0:Int),(0:Int),
 ()]/\(6:Nat)=6/\an (setCells b a9 0 [false,false,false,(0:Int),(0:Int),()]) λf=>Q true f))
def az.sH:aO:=(.s .r (.s .r (.s (.s (.di [.r,.r,.r,.split 5]) (.c (.s .r .l) .l)) (.s .r (.s .r .l)))))
def ah.sI(t:ar ag)(w:J)(Q:Y->J->Prop):Prop:=ao (Option.isNone t) (Q (.tuple #[(0:Int),(0:Int)]) w) (an (w.drew) λw1=>∃a2:ag,t=some a2/\¬False/\aF w1 (a2.add 3) λa=>∃
 a4:ag,t=some a4/\¬False/\aF w1 (a4.add 4) λn5=>Q (.tuple #[a,n5]) w1)
def az.sI:aO:=(.s .r (.s a1 (.s (.cE 9 false ⟨[0,1,2,4,0,16,32,64,15,511],[0,1,2,4,0,16,32,64,8,128]⟩ [64,128,256,512,1024,2048,4096,8192,4,8] [1,64,128,256,1,1024,2048,4096,512,8192] (.t
 0 (.t 1 (.t 2 (.t 3 (.t 4 (.t 5 (.t 6 (.t 7 (.t 8 (.tail [.r]))))))))))) .l)))
def ah.p2(s:ar ag)(w:J)(Q:Y->J->Prop):Prop:=ao (Option.isNone s) (Q (0:Int) w) (∃a1:ag,s=some a1/\aF w a1 λbx=>∃a3:ag,s=some a3/\r1 w (a3.add 1) λl=>∃ (e:
 Int->Int->J->Prop) (i:Int->Int->J->Nat),e bx 0 w/\∀ (n7:Int) (n8:Int) (d:J),e n7 n8 d->ao (decide (n8<(l.len:Int))) (an (d.drew) λb=>∃c:Nat->Prop,∃e8:ag,s=some e8/\¬c
 (e8.add 1).block/\r1 b (e8.add 1) λj=>∃ft:ag,j.a=some ft/\aK n8 j.len/\¬c (ft.add (n8.toNat*1)).block/\en b (ft.add (n8.toNat*1)) λn15=>∃f:ag,s=some f/\¬c (f.add
 2).block/\r1 b (f.add 2) λk=>∃g:ag,k.a=some g/\aK n8 k.len/\¬c (g.add (n8.toNat*1)).block/\en b (g.add (n8.toNat*1)) λn19=>b7 202 #[.int .u8 (lr .u8 n15 n19)] b
 λn22 h=>ae c b h/\e (au (n7-n22)) (au (n8+1)) h/\i (au (n7-n22)) (au (n8+1)) h<i n7 n8 d) (Q n7 d))
def az.p2:aO:=(.s .r (.s a1 (.s .r (.s (.s .r (.b2 (.loop [(3,(.int .i64)),(16,(.int .i64))] [0,15] (.s .r (.s (.c .l .l) (.s (.b2 (.s .r (.cE 17 true ⟨[0,0,2,4,8,0,48,64,0,256,512,1024,0,6144,8192,
 16512,32768,65537,262143],[0,0,2,4,8,0,48,64,0,256,512,1024,0,6144,8192,16512,32768,65537,131073]⟩ [524288,1048576,2097152,4194304,8388608,16777216,33554432,67108864,134217728,268435456,536870912,1073741824,
 2147483648,4294967296,8589934592,17179869184,34359738368,68719476736,8] [8,1,1048576,2097152,4194304,16,25165824,33554432,1,134217728,268435456,536870912,16,3221225472,4294967296,8657043456,17179869184,34360262656,
 68719476736] (.t 0 (.t 1 (.t 2 (.t 3 (.t 4 (.t 5 (.t 6 (.t 7 (.t 8 (.t 9 (.t 10 (.t 11 (.t 12 (.t 13 (.t 14 (.t 15 (.bY 16 (.tail [.r,.r]))))))))))))))))))))) .r)))))) (.s .r .l)))))
theorem ah.Cq(s:ar ag)(w:J)(Q:Y->J->Prop)(h:ah.p2 s w Q):aL aj 148 #[s] w Q:=okF (λw Q=>ah.p2 s w Q) az.p2 func148 h
def ah.p3(t:ar ag)(gV:ad)(r:al)(s:ad)(u:ad)(v:ad)(w:J)(Q:Y->J->Prop):Prop:=an (w.alloc (.cells #[r,s,u,v] 202)) λw1=>an (w1.alloc (.cells #[(0:Int)] 34)) λai=>an (ai.drew) λc=>∃g:Nat->Prop,∃
 a5:ag,t=some a5/\¬g (a5.add 1).block/\∃h:ar ag,c.cell? (a5.add 1)=some (h)/\∃dX:ag,t=some dX/\¬g (dX.add 4).block/\aF c (dX.add 4) λn8=>b7 148 #[h] c λn11
 d=>ae g c d/\ao (decide (n11<(au ((au (2*n8))+3)))) (st d (aa w1) (2:Int) λi=>aF i (aa w1) λn13=>Q n13 i) (an (d.alloc (.cells #[t,(),()]
 297)) λa=>an (a.alloc (.cells #[.pointer none] 295)) λx=>st x (aa a) (.pointer (some (aa d))) λb=>∃j:ar ag,b.cell? (aa a)=some (j)/\aW b (aa w) λy=>
 r1 b ((aa w).add 1) λz=>r1 b ((aa w).add 2) λA=>r1 b ((aa w).add 3) λB=>nX 208 #[j,gV,.agg #[y,z,A,B]] b λn24 n25 n26 C=>st C (aa w1) n26 λe=>aF e (aa w1) λn28=>ao (n28 !=0) (aF e (aa w1) λn29=>st e (aa w1) n29 λD=>nU
 aj 206 #[.pointer (some (aa w1)),.pointer (some (aa a))] D λk=>aF k (aa w1) λn32=>Q n32 k) (an (e.drew) λf=>¬False/\∃l:ar ag,f.cell? (aa a)=some (.pointer
 l)/\¬False/\∃m:ar ag,f.cell? (aa a)=some (m)/\∃n:ag,m=some n/\¬False/\r1 f (n.add 2) λE=>fS 207 #[l,E] f λF=>∃
 o:ag,t=some o/\st F (o.add 3) n24 λG=>∃p:ag,t=some p/\st G (p.add 4) n25 λH=>st H (aa w1) (0:Int) λI=>nU aj 206 #[.pointer (some
 (aa w1)),.pointer (some (aa a))] I λq=>aF q (aa w1) λK=>Q K q))
def az.p3:aO:=(.s .r (.s (.s (.cE 11 true ⟨[0,1,2,4,8,0,32,64,128,256,512,1040],[0,1,2,4,8,0,32,64,128,256,512,1040]⟩ [1024,2048,4096,8192,16384,32768,65536,131072,262144,524288,1048576,
 2097152] [1,1024,2048,4096,8192,1,32768,65536,131072,262144,524288,1064960] (.t 0 (.t 1 (.t 2 (.t 3 (.t 5 (.t 6 (.t 7 (.t 8 (.t 9 (.t 10 (.bY 4 (.tail [.r]))))))))))))) (.c (.s .r .l) .l)) (.s .r (.s .l (.s .r (.s a1 (.s (.cE 5
 false ⟨[0,0,2,4,8,17],[0,0,2,4,8,17]⟩ [137438953472,274877906944,549755813888,1099511627776,2199023255552,4398046511104] [128,128,274877906944,549755813888,1099511627776,2336462209024] (.t 0 (.t 1 (.t 2 (.t 3 (.t 4
 (.tail [.r]))))))) (.s .r (.s .r .l)))))))))
theorem ah.Cr(t:ar ag)(gV:ad)(a:al)(b:ad)(c:ad)(d:ad)(w:J)(Q:Y->J->Prop):ah.p3 t gV a b c d w Q=uZ aj tk az.p3 Tryz.f150 [t,gV,.agg #[a,b,c,d]] w Q:=by kernel_rfl
theorem ah.Cs(t:ar ag)(gV:ad)(a:al)(b:ad)(c:ad)(d:ad)(w:J)(Q:Y->J->Prop)(h:ah.p3 t gV a b c d w Q):Calls aj 150 #[t,gV,.agg #[a,b,c,d]] w λe w1=>∃v,e=.returned v/\Q v w1:=
 BZ u7 func150 (by kernel_rfl) (Eq.mp (ah.Cr t gV a b c d w Q) h)
def ah.ob(B:al)(C:ad)(D:ad)(E:ad)(key:ad)(val:ad)(w:J)(Q:Y->J->Prop):Prop:=an (w.alloc (.cells #[B,C,D,E] 202)) λw1=>an (w1.alloc z4) λai=>aW ai (aa w) λF=>b1 (λG:al->J->Prop=>rZ F G ai w) (λ(H:al) m=>b1 (λn:al->J
 ->Prop=>ao H (n true m) (cc 209 #[key] m λI K=>n (!I) K)) (λ(L:al) c=>ao (L||(decide ((val.len:Int)>24))) (bh c (aa w1) [false,(),
 (),()]/\(4:Nat)=4/\an (setCells c (aa w1) 0 [false,(),(),()]) λM=>rW M w1 Q) (aW c (aa w) λN=>r1 c ((aa w).add 1) λO=>r1 c
 ((aa w).add 2) λP=>r1 c ((aa w).add 3) λR=>f_ 204 #[.agg #[N,O,P,R]] c λo p q r b=>an (b.alloc
 z4) λs=>bh s (aa b) [o,p,q,r]/\(4:Nat)=4/\an (setCells s (aa b) 0 [o,p,q,r]) λd=>aW d (aa w) λS=>r1 d ((aa w).add 1) λT=>r1 d ((aa w).add 2) λU=>r1 d ((aa w).add 3) λV=>kj 198 #[.agg #[S,
 T,U,V],key] d λe W t=>ao W (an (t.drew) λh=>∃u:Nat->Prop,¬u ((aa b).add 2).block/\r1 h
 ((aa b).add 2) λv=>bJ 135 #[val] h λX x=>ae u h x/\∃y:ag,v.a=some y/\aK e v.len/\st x (y.add (e.toNat*1)) X λZ=>dk Z b w1 Q) (an (t.drew) λi=>∃j:Nat->Prop,¬j ((aa b).add 1).block/\r1 i ((aa b).add 1) λab=>bJ 135 #[key] i λ
 ac f=>ae j i f/\an (f.alloc (.cells #[ac] 48)) λz=>ae j f z/\bJ 210 #[ab,e,.slice (some (aa f)) 1 1]
 z λaf aj=>st aj ((aa b).add 1) af λak=>an (ak.drew) λk=>∃l:Nat->Prop,¬l ((aa b).add 2).block/\r1 k ((aa b).add 2) λam=>bJ
 135 #[val] k λap g=>ae l k g/\an (g.alloc (.cells #[ap] 48)) λA=>ae l g A/\bJ 210
 #[am,e,.slice (some (aa g)) 1 1] A λaq ar=>st ar ((aa b).add 2) aq λau=>dk au b w1 Q))))
def az.ob:aO:=(.s .r (.s (.s (.di [.r,.r,.r,.r,.split 3,.r,.r,.r,.r,.split 3,.r,.r,.r,.r,.pure 3]) (.c (.s .r .l) .l)) (.s .r (.s .r (.s (.s .r (.c (.s (.cE 5 true ⟨[0,1,0,0,8,31,63],[0,1,0,0,8,6,48]⟩
 [549755813888,1099511627776,2199023255552,4398046511104,8796093022208,17592186044416,0] [256,549755813888,512,4,4398046511104,3298534883328,26388279066624] (.t 0 (.t 1 (.t 2 (.t 3 (.bY 4 (.tail [.r,.r]))))))) (.s .r .l)) .l))
 (.s (.cE 6 true ⟨[0,1,0,0,8,16,54,127,255],[0,1,0,0,8,16,38,0,192]⟩ [70368744177664,140737488355328,281474976710656,562949953421312,1125899906842624,2251799813685248,4503599627370496,9007199254740992,0] [256,
 70368744177664,512,2,562949953421312,1125899906842624,2674012278751232,256,13510798882111488] (.t 0 (.t 1 (.t 2 (.t 3 (.bY 4 (.bY 5 (.tail [.r,.r,.r])))))))) (.s (.cE 6 true ⟨[0,1,0,0,8,16,54,127,255],[0,1,0,0,8,
 16,38,0,192]⟩ [18014398509481984,36028797018963968,72057594037927936,144115188075855872,288230376151711744,576460752303423488,1152921504606846976,2305843009213693952,0] [256,18014398509481984,512,4,144115188075855872,
 288230376151711744,684547143360315392,256,3458764513820540928] (.t 0 (.t 1 (.t 2 (.t 3 (.bY 4 (.bY 5 (.tail [.r,.r,.r])))))))) (.s .r .l))))))))
def ah.iX(b:ad)(j:Int)(size:Int)(w:J)(Q:Y->J->Prop):Prop:=gU 215 #[b,j,size] w λd k w1=>b1 (λf:al->J->Prop=>ao (!k) (f
 true w1) (cc 192 #[size] w1 λl m=>f (!l) m)) (λ(n:al) g=>ao n (Q (.tuple #[.int .u64 0,false]) g) (∃ (e:Int->Int->J->Prop) (h:Int->Int->J->Nat),e 0 0 g/\∀ (n13:
 Int) (n14:Int) (c:J),e n13 n14 c->ao (decide (n14<(d.len:Int))) (∃i:ag,d.a=some i/\aK n14 d.len/\en c (i.add (n14.toNat*1)) λn17=>(0:Int)<=8/\e (lr .u64 (IntKind.wrap .u64 (n13*2^
 (min (Int.toNat 8) 64))) (IntKind.wrap .u64 n17)) (au (n14+1)) c/\h (lr .u64 (IntKind.wrap .u64 (n13*2^(min (Int.toNat 8) 64))) (IntKind.wrap .u64 n17)) (au (n14+1)) c<h n13 n14 c) (Q (.tuple #[.int .u64 n13,true]) c)))
def az.iX:aO:=(.s .r (.s .r (.s a9 (.s .r (.s (.s .r (.b2 (.loop [(10,(.int .u64)),(29,(.int .i64))] [27,28] a2))) (.s .r .l))))))
def ah.oc(b:ad)(w:J)(Q:Y->J->Prop):Prop:=an (w.alloc z5) λw1=>ju 216 #[b] w1 λeZ d ai=>bh ai (aa w) (Array.toList eZ)/\Array.size eZ=17/\an (setCells ai (aa w)
 0 (Array.toList eZ)) λa=>∃c:O Y,bE a (aa w) 0 17=some c/\Q (.tuple #[.agg c.toArray,d]) a
def az.oc:aO:=(.s .r (.s .r .l))
def ah.p4(s:ar ag)(w:J)(Q:Y->J->Prop):Prop:=ao (Option.isNone s) (Q (.tuple #[.int .i64 (-1),(1:Int)]) w) (∃a1:ag,s=some a1/\aF w a1 λbx=>∃ (c:Int->J->Prop) (d:
 Int->J->Nat),c 0 w/\∀ (n5:Int) (a:J),c n5 a->ao (decide (n5<bx)) (cc 217 #[s,n5] a λe b=>ao (!e) (∃dQ:ag,s=some dQ/\r1 b (dQ.add 1) λf=>fS
 130 #[f,n5] b λg=>Q (.tuple #[n5,(0:Int)]) g) (c (au (n5+1)) b/\d (au (n5+1)) b<d n5 a)) (Q (.tuple #[.int .i64 (-1),(2:Int)]) a))
def az.p4:aO:=(.s .r (.s a1 (.s (.s .r (.b2 (.loop [(11,(.int .i64))] [0,10] (.s .r (.s (.c .l .l) (.s (.b2 (.s .r (.s .r dX))) .r)))))) (.s .r .l))))
theorem ah.Ct(s:ar ag)(w:J)(Q:Y->J->Prop)(h:ah.p4 s w Q):aL aj 160 #[s] w Q:=okF (λw Q=>ah.p4 s w Q) az.p4 func160 h
def ah.p5(s:ar ag)(no:Int)(w:J)(Q:Y->J->Prop):Prop:=cc 218 #[s,no] w λb w1=>ao (!b) (Q (1:Int) w1) (∃a4:ag,s=some a4/\r1 w1 (a4.add 1)
 λc=>cc 214 #[c,no] w1 λd a=>ao (!d) (Q (6:Int) a) (∃a9:ag,s=some a9/\r1 a (a9.add 1) λe=>fS 219 #[e,no] a λf=>Q (0:Int) f))
def az.p5:aO:=(.s .r (.s (.b2 eA) (.s .r (.s .r .l))))
theorem ah.Cu(s:ar ag)(no:Int)(w:J)(Q:Y->J->Prop)(h:ah.p5 s no w Q):aL aj 161 #[s,no] w Q:=okF (λw Q=>ah.p5 s no w Q) az.p5 func161 h
def ah.sJ(c:ar ag)(no:Int)(b:ad)(w:J)(Q:Y->J->Prop):Prop:=cc 220 #[c,no] w λl w1=>ao ((!l)||((b.len:Int) !=256)) (Q (1:Int) w1) (iV
 201 #[c,no] w1 λf g=>b1 (λh:ar ag->J->Prop=>ao (Option.isNone f) (hO 221 #[c] g λd n11 a=>ao (n11 !=0) (Q n11 a) (∃e8:ag,d
 =some e8/\(∃u:Y,a.cell? e8=some u)/\a.frozen? e8=false/\an (a.setCell e8 true) λm=>∃ft:ag,d=some ft/\st m (ft.add 3) no λn=>h d n)) (h f g)) (λ(e:ar
 ag) o=>bJ 135 #[b] o λp q=>∃i:ag,e=some i/\st q (i.add 5) p λr=>∃j:ag,e=some j/\st r (j.add 1) true λs=>∃k:ag,e=some k/\st s (k.add 2) true λt=>Q (0:Int) t))
def az.sJ:aO:=(.s .r (.s (.s (.di [.r,.r,.r,.r,.r,.pure 3]) (.c (.s .r .l) .l)) (.s .r (.s (.fq [(7,.ptr)] [2] (.s .r (.c (.s .r (.s a1 (.s .r .r))) .l))) (.s .r (.s .r .l))))))
def ah.sK(c:ar ag)(w:J)(Q:Y->J->Prop):Prop:=ao (Option.isNone c) (Q (1:Int) w) (bJ 145 #[c] w λd w1=>∃ (e:Int->J->Prop) (g:Int->J->Nat),
 e 0 w1/\∀ (n6:Int) (b:J),e n6 b->ao (decide (n6<(d.len:Int))) (∃e1:ag,d.a=some e1/\aK n6 d.len/\aF b (e1.add (n6.toNat*1)) λn9=>iV 201 #[c,n9] b λh p=>an
 (p.drew) λf=>∃ft:ag,c=some ft/\¬False/\∃i:ar ag,f.cell? ft=some (i)/\∃j:ag,h=some j/\¬False/\r1 f (j.add 5) λq=>b7 75 #[i,n9,q] f λn20 k=>ao (n20 !=0) (Q n20 k) (∃l:ag,h=some l/\st k (l.add 1) false λm=>e (au (n6+1)) m/\g (au (n6+1)) m<g n6 b)) (∃n:ag,c
 =some n/\∃o:ar ag,b.cell? n=some (o)/\b7 76 #[o] b λn27 r=>Q n27 r))
def az.sK:aO:=(.s .r (.s a1 (.s (.s .r (.b2 (.loop [(12,(.int .i64))] [0,10,11] (.s .r (.s (.c .l .l) (.s (.b2 (.s .r (.s .r (.s (.s (.cE 9 false ⟨[0,1,2,4,0,0,32,64,128,280,1023],[0,1,2,4,0,0,32,64,
 128,280,512]⟩ [524288,1048576,2097152,4194304,8388608,16777216,33554432,67108864,134217728,268435456,64] [1,524288,1048576,2097152,16,32,16777216,33554432,67108864,146800640,268435456] (.t 0 (.t 1 (.t 2 (.t 3 (.t 4 (.t
 5 (.t 6 (.t 7 (.t 8 (.tail [.r,.r]))))))))))) a1) .r)))) .r)))))) (.s .r .l))))
def ah.p6(t:ar ag)(gen:Int)(w:J)(Q:Y->J->Prop):Prop:=ao (!(Option.isNone t)) (∃a1:ag,t=some a1/\st w (a1.add 2) (.int .u64 gen) λai=>Q (.tuple #[]) ai) (Q (.tuple #[]) w)
def az.p6:aO:=(.s .r (.c .r .l))
theorem ah.Cv(t:ar ag)(gen:Int)(w:J)(Q:Y->J->Prop)(h:ah.p6 t gen w Q):aL aj 164 #[t,.int .u64 gen] w Q:=okF (λw Q=>ah.p6 t gen w Q) az.p6 func164 h
def ah.od(no:Int)(b:ad)(w:J)(Q:Y->J->Prop):Prop:=an (w.alloc rQ) λw1=>ao ((b.len:Int) !=256) (bh w1 (aa w) [(0:Int),.int .u64 0,()]/\(3:Nat)=3/\an (setCells w1 (aa w)
 0 [(0:Int),.int .u64 0,()]) λai=>aF ai (aa w) λz=>cd ai ((aa w).add 1) λcv=>r1 ai ((aa w).add 2) λA=>Q (.tuple #[.agg #[z,.int .u64 cv,A],(9:Int)])
 ai) (((0:Int)<=4/\4<=(b.cap:Int))/\∃n:ByteArray,∃c:J,Sem.run aj (convert 48 9 (.slice (aJ b.a 1 0 b.cap) ((Int.toNat 4)-0) (b.cap-0))) w1=.ok (.string n) c/\ao
 (!(ByteArray.toList n==ByteArray.toList (ByteArray.mk #[83,84,78,67]))) (bh c (aa w) [(0:Int),.int .u64 0,()]/\(3:Nat)=3/\an (setCells c (aa w) 0 [(0:Int),.int .u64 0,()]) λB=>
 vf B w Q) (∃e8:ag,b.a=some e8/\aK 4 b.len/\en c (e8.add (Int.toNat 4*1)) λn13=>ao (n13 !=1) (bh c (aa w) [(0:Int),.int .u64 0,()]/\(3:Nat)=3/\an (setCells c (aa w) 0 [(0:Int),.int
 .u64 0,()]) λd=>aF d (aa w) λn15=>cd d ((aa w).add 1) λn16=>r1 d ((aa w).add 2) λC=>Q (.tuple #[.agg #[n15,.int .u64 n16,C],(12:Int)]) d)
 (lF 134 #[b] c λn20 D=>pQ 227 #[b,(20:Int),(24:Int)] D λn23 h=>ao (((IntKind.wrap .u64 n20):Int) !=n23) (bh h (aa w) [(0:Int),.int .u64
 0,()]/\(3:Nat)=3/\an (setCells h (aa w) 0 [(0:Int),.int .u64 0,()]) λe=>aF e (aa w) λn25=>cd e ((aa w).add 1) λn26=>r1 e ((aa w).add 2) λE=>Q (.tuple #[.agg
 #[n25,.int .u64 n26,E],(5:Int)]) e) (pQ 227 #[b,(6:Int),(8:Int)] h λn30 o=>∃p:ag,b.a=some p/\aK 5 b.len/\en o (p.add
 (Int.toNat 5*1)) λn32=>cc 133 #[.int .i64 (au n32)] o λF q=>b1 (λr:al->J->Prop=>ao ((!F)||(decide (((au n30):Int)>232))) (r true q) (((0:Int)<=(au (24+(au n30)))/\(au (24+(au
 n30)))<=(b.len:Int))/\cc 228 #[.slice (aJ b.a 1 ((au (24+(au n30))).toNat) b.cap) (b.len-((au (24+(au n30))).toNat)) (b.cap-((au (24+(au n30))).toNat))] q λG H=>r (!G) H)) (λ(I:
 al) i=>ao I (bh i (aa w) [(0:Int),.int .u64 0,()]/\(3:Nat)=3/\an (setCells i (aa w) 0 [(0:Int),.int .u64 0,()]) λK=>vf K w Q) (cc 132 #[no] i λL
 s=>b1 (λt:al->J->Prop=>ao (!L) (t true s) (pQ 227 #[b,(8:Int),(12:Int)] s λM N=>t (M !=(IntKind.wrap .u64 no)) N)) (λ(O:al) j=>ao O
 (bh j (aa w) [(0:Int),.int .u64 0,()]/\(3:Nat)=3/\an (setCells j (aa w) 0 [(0:Int),.int .u64 0,()]) λf=>aF f (aa w) λP=>cd f ((aa w).add 1) λR=>r1 f
 ((aa w).add 2) λS=>Q (.tuple #[.agg #[P,.int .u64 R,S],(1:Int)]) f) (gU 229 #[b,(24:Int),.int .i64 (au n30)] j λu X T=>an
 (T.drew) λk=>∃v:Nat->Prop,∃l:ag,b.a=some l/\aK 5 b.len/\¬v (l.add (Int.toNat 5*1)).block/\en k (l.add (Int.toNat 5*1)) λx=>pQ 227 #[b,(12:Int),(20:Int)] k λy m=>ae v k m/\bh m (aa w) [.int .i64 (au x),.int .u64 y,u]/\(3:Nat)=3/\an (setCells m (aa w) 0 [.int .i64 (au x),.int .u64 y,u]) λg=>aF g (aa w) λU=>cd g ((aa w).add 1) λV=>r1 g ((aa w).add 2) λW=>Q (.tuple #[.agg #[U,.int .u64 V,W],(0:Int)]) g))))))))
def az.od:aO:=(.s .r (.s (.b2 (.s .r (.c (.s .r .l) (.s .r (.c (.s .r .l) eA))))) (.s .r (.s (.b2 (.s (.di [.r,.r,.r,.r,.r,.r,.r,.pure 2,.r,.r,.r,.split 6]) (.c (.s .r .l) (.s (.di [.r,.r,.r,.r,.split 5]) (.c
 (.s .r .l) .l))))) (.s .r (.s (.cE 7 true ⟨[0,1,2,4,0,16,0,104,255,511],[0,1,2,4,0,16,0,104,128,0]⟩ [37778931862957161709568,75557863725914323419136,151115727451828646838272,302231454903657293676544,
 604462909807314587353088,1208925819614629174706176,2417851639229258349412352,4835703278458516698824704,0,32] [2,37778931862957161709568,75557863725914323419136,151115727451828646838272,2,604462909807314587353088,128,
 3929008913747544817795072,4835703278458516698824720,0] (.t 0 (.t 1 (.t 2 (.t 3 (.t 4 (.t 6 (.bY 5 (.tail [.r,.r,.r]))))))))) .l))))))
def ah.mN(a:Array Y)(bits:Int)(w:J)(Q:Y->J->Prop):Prop:=an (w.alloc (.cells a 24)) λw1=>an (w1.alloc z3) λai=>∃k:O Y,bE ai (aa w) 0 17=some k/\bJ 127
 #[.agg k.toArray] ai λb l=>∃m:O Y,bE l (aa w) 0 17=some m/\cc 237 #[.agg m.toArray] l λB c=>ao (((!B)||(decide (bits<0)))||(decide (bits>(au (8*(b.len:Int)))))) (∃e:Array
 Y,Sem.run aj (Instr.build 26 #[]) c=.ok (.agg e) c/\bh c (aa w1) (Array.toList e)/\Array.size e=18/\an (setCells c (aa w1) 0 (Array.toList e)) λn=>∃o:O Y,bE n (aa w1)
 0 18=some o/\Q (.tuple #[.agg o.toArray,false]) n) (∃ (i:Int->J->Prop) (p:Int->J->Nat),i 0 c/\∀ (n16:Int) (f:J),i n16 f->ao (decide (n16<(b.len:Int))) (∃n18:Int,∃q:J,
 Sem.run aj (Builtin.max_ #[3,3] 3 #[.int .i64 (au (bits-(au (8*n16)))),(0:Int)]) f=.ok n18 q/\∃n20:Int,∃r:J,Sem.run aj (Builtin.min_ #[3,3] 3 #[n18,(8:Int)]) q=.ok n20 r/\an (r.drew) λs=>∃t:ag,b.a=some t/\aK n16 b.len/\¬False/\en s (t.add (n16.toNat*1)) λn24=>(0:Int)<=(au (8-n20))/\∃u:ag,b.a=
 some u/\aK n16 b.len/\st s (u.add (n16.toNat*1)) (.int .u8 (h8 .u8 n24 (IntKind.wrap .u8 (255*2^(min ((au (8-n20)).toNat) 8))))) λv=>i (au (n16+1)) v/\p (au (n16+1)) v<p n16 f) (ju
 216 #[b] f λj C g=>an (g.alloc z5) λx=>bh x (aa g) (Array.toList j)/\Array.size j=17/\an (setCells x (aa g) 0 (Array.toList j)) λd=>∃y:O Y,
 bE d (aa g) 0 17=some y/\∃h:Array Y,Sem.run aj (Instr.build 26 #[(0,.agg y.toArray),(1,bits)]) d=.ok (.agg h) d/\bh d (aa w1) (Array.toList h)/\Array.size h=18
 /\an (setCells d (aa w1) 0 (Array.toList h)) λz=>∃A:O Y,bE z (aa w1) 0 18=some A/\Q (.tuple #[.agg A.toArray,true]) z))
def az.mN:aO:=(.s .r (.s .r (.s (.s (.di [.r,.r,.r,.r,.pure 2,.r,.r,.r,.pure 5]) (.c (.s .r .l) .l)) (.s (.s .r (.b2 (.loop [(30,(.int .i64))] [1,4,6,29] (.s .r (.s (.c .l .l) (.s (.b2 (.s .r (.s .r (.cE 7 false
 ⟨[0,0,3,4,0,16,32,72,255,511],[0,0,3,4,0,16,32,72,3,384]⟩ [549755813888,1099511627776,2199023255552,4398046511104,8796093022208,17592186044416,35184372088832,70368744177664,140737488355328,0] [64,128,
 1649267441664,2199023255552,256,8796093022208,17592186044416,39582418599936,1649267441664,211106232532992] (.t 0 (.t 1 (.t 2 (.t 3 (.t 4 (.t 5 (.t 6 (.tail [.r,.r,.r])))))))))))) .r)))))) (.s .r (.s .r .l))))))
theorem ah.Cw(a:Array Y)(bits:Int)(w:J)(Q:Y->J->Prop)(h:ah.mN a bits w Q):aL aj 191 #[.agg a,bits] w Q:=okF (λw Q=>ah.mN a bits w Q) az.mN func191 h
def ah.sL(size:Int)(w:J)(Q:Y->J->Prop):Prop:=Q (.bool ((decide (size>=1))&&(decide (size<=8)))) w
def az.sL:aO:=a3
theorem ah.yA(size:Int)(w:J)(Q:Y->J->Prop)(h:ah.sL size w Q):aL aj 192 #[size] w Q:=okF (λw Q=>ah.sL size w Q) az.sL func192 h
def ah.mO(a:Array Y)(w:J)(Q:Y->J->Prop):Prop:=an (w.alloc (.cells a 24)) λw1=>aW w1 (aa w) λbH=>ao bH (Q (.slice (aJ (some ((aa w).add 1)) 1 0 16) (16-0) (16-0)) w1) (((0:
 Int)<=12/\12<=((16:Nat):Int))/\Q (.slice (aJ (some ((aa w).add 1)) 1 (Int.toNat 12) 16) (16-(Int.toNat 12)) (16-(Int.toNat 12))) w1)
def az.mO:aO:=dt
theorem ah.Cx(a:Array Y)(w:J)(Q:Y->J->Prop)(h:ah.mO a w Q):aL aj 193 #[.agg a] w Q:=okF (λw Q=>ah.mO a w Q) az.mO func193 h
set_option maxRecDepth 100000
def ah.sM(parts:ad)(w:J)(Q:Y->J->Prop):Prop:=∃ (d:Int->Int->J->Prop) (e:Int->Int->J->Nat),d 4294967295 0 w/\∀ (c:Int) (cv:Int) (b:J),d c cv b->ao (decide (cv<
 (parts.len:Int))) (∃dH:ag,parts.a=some dH/\aK cv parts.len/\r1 b (dH.add (cv.toNat*1)) λg=>lF 238 #[.int .u32 c,g] b λn10 f=>d n10 (au (cv+1)) f/\e n10 (au (cv+1)) f
 <e c cv b) (Q (.int .u32 (mm .u32 4294967295 c)) b)
def az.sM:aO:=(.s .r (.s .r (.s (.s .r (.b2 (.loop [(3,(.int .u32)),(8,(.int .i64))] [6,7] a2))) (.s .r .l))))
def ah.sN(t:ar ag)(no:Int)(leaf:al)(w:J)(Q:Y->J->Prop):Prop:=an (w.alloc z4) λw1=>∃a2:ag,t=some a2/\∃e:ar ag,w1.cell? a2=some (e)/\eR
 239 #[e,no] w1 λA n7 f=>ao (n7 !=0) (vj f w Q n7) (yt 172 #[no,A] f λn15 n16 g n18 b=>an (b.alloc rQ) λh=>bh h (aa b)
 [n15,.int .u64 n16,g]/\(3:Nat)=3/\an (setCells h (aa b) 0 [n15,.int .u64 n16,g]) λi=>ao (n18 !=0) (vj i w Q n18) (an (i.drew) λa=>¬
 False/\cd a ((aa b).add 1) λn27=>∃j:ag,t=some j/\¬False/\cd a (j.add 2) λn29=>ao (decide (n27>n29)) (b1 (λk:al->J->Prop=>ao true (k true a) (aF a (aa b) λn31=>b1 (λ
 l:al->J->Prop=>ao (n31 !=1) (aF a (aa b) λn33=>l (n33 !=2) a) (l false a)) (λ(B:al) C=>k B C))) (λ(D:al) c=>ao D (bh c (aa w) [false,(),(),()]/\(4:Nat)=4/\an (setCells c (aa w) 0 [false,(),(),()]) λE=>pS E w Q) (r1 c ((aa b).add 2) λF=>kT 233 #[leaf,
 F] c λm n o p G q=>bh q (aa w) [m,n,o,p]/\(4:Nat)=4/\an (setCells q (aa w) 0 [m,n,o,p]) λH=>rX H w Q G))) (¬False/\aF a (aa b) λI=>b1 (λr:al->J->Prop=>ao (!((I==1)==leaf)) (r true
 a) (aF a (aa b) λK=>b1 (λs:al->J->Prop=>ao (K !=1) (aF a (aa b) λL=>s (L !=2) a) (s false a)) (λ(M:al) N=>r M N))) (λ(O:al) d=>ao O (bh d (aa w)
 [false,(),(),()]/\(4:Nat)=4/\an (setCells d (aa w) 0 [false,(),(),()]) λP=>pS P w Q) (r1 d ((aa b).add 2) λR=>
 kT 233 #[leaf,R] d λu v x y S z=>bh z (aa w) [u,v,x,y]/\(4:Nat)=4/\an
 (setCells z (aa w) 0 [u,v,x,y]) λT=>rX T w Q S)))))
def az.sN:aO:=(.s .r (.s .r (.s a1 (.s .r (.s a1 (.s (.s (.cE 12 false ⟨[0,1,0,4,8,16,34,64,128,384,640,128,3200,4224,8320,16384,49152,81920,147456,262144,786432,1310720,2375680,4210688],[0,1,0,4,
 8,16,34,64,128,384,640,128,3200,4224,8192,16384,49152,81920,147456,262144,786432,1310720,2375680,4210688]⟩ [17179869184,34359738368,68719476736,137438953472,274877906944,549755813888,1099511627776,2199023255552,
 4398046511104,8796093022208,17592186044416,35184372088832,70368744177664,140737488355328,281474976710656,562949953421312,1125899906842624,2251799813685248,4503599627370496,9007199254740992,18014398509481984,36028797018963968,
 72057594037927936,144115188075855872] [1024,17179869184,1,68719476736,137438953472,274877906944,584115552256,1099511627776,2199023256576,6597069766656,10995116277760,2199023255556,54975581388800,72567767433216,
 140737488355328,281474976711680,844424930131968,1407374883553280,2533274790395904,4503599627371520,13510798882111488,22517998136852480,40813871623045120,72339069014638592] (.t 0 (.t 1 (.t 2 (.t 3 (.t 4 (.t 5 (.t 6 (.t 7 (.sp 41 (.t
 8 (.t 9 (.t 10 (.t 11 (.tail [.r,.r,.r,.split 8,.r,.r,.r,.split 3,.r,.r,.r,.r]))))) (.t 8 (.t 9 (.t 10 (.t 11 (.tail [.r,.r,.r,.split 8,.r,.r,.r,.split 3,.r,.r,.r,.r]))))))))))))))) (.c (.s .r .l) .l)) (.s .r .l)))))))
def ah.oe(c:al)(d:ad)(e:ad)(f:ad)(key:ad)(w:J)(Q:Y->J->Prop):Prop:=an (w.alloc (.cells #[c,d,e,f] 202)) λw1=>aW w1 (aa w) λbH=>r1 w1 ((aa w).add 1) λg=>r1 w1 ((aa w).add 2) λh=>r1 w1 ((aa w).add 3) λi=>kj 198 #[.agg #[bH,g,h,i],key] w1 λn8 j a=>b1 (λb:Int->J->Prop=>ao j (b (au (n8+1)) a) (b n8 a)) (λ(n11:Int) k=>Q
 n11 k)
def az.oe:aO:=(.s .r (.s .r (.s (.fq [(5,(.int .i64))] [] (.s .r (.c .r .l))) (.s .r .l))))
def ah.lM(a:al)(b:ad)(c:ad)(d:ad)(key:ad)(w:J)(Q:Y->J->Prop):Prop:=an (w.alloc (.cells #[a,b,c,d] 202)) λw1=>r1 w1 ((aa w).add 1) λs2=>kj 240 #[s2,key,.func (.func
 176) #[] #[]] w1 λn5 e f=>Q (.tuple #[n5,e]) f
def az.lM:aO:=(.s .r (.s .r .l))
def ah.p7(c:ar ag)(choose:iQ)(w:J)(Q:Y->J->Prop):Prop:=ao (Option.isNone c) (Q () w) (∃a1:ag,c=some a1/\r1 w (a1.add 1) λs2=>∃ (h:ad->Int->J->Prop) (i
 :ad->Int->J->Nat),h ⟨none,0,0⟩ 0 w/\∀ (e:ad) (n6:Int) (b:J),h e n6 b->ao (decide (n6<(s2.len:Int))) (b1 (λj:ad->J->Prop=>∃a9:ag,s2.a=some a9/\aK n6 s2.len/\aW b (a9.add (Int.toNat n6
 *6)) λk=>aW b ((a9.add (n6.toNat*6)).add 1) λl=>aW b ((a9.add (n6.toNat*6)).add 2) λm=>aF b ((a9.add (n6.toNat*6)).add 3) λn13=>aF b ((a9.add (n6.toNat*6)).add 4) λn14=>r1 b
 ((a9.add (n6.toNat*6)).add 5) λn=>an (b.alloc (.cells #[false,false,false,(0:Int),(0:Int),()] 288)) λo=>bh o (aa b) [k,l,m,n13,n14,n]/\(6:Nat)=6/\an (setCells o (aa b) 0 [k,l,m,n13,n14,n]) λd=>aW d (aa b) λu=>aW d
 ((aa b).add 1) λv=>aW d ((aa b).add 2) λx=>aF d ((aa b).add 3) λn21=>aF d ((aa b).add 4) λn22=>r1 d ((aa b).add 5) λy=>iT aj choose.f/\Calls aj
 choose.f (choose.pre++ #[.agg #[u,v,x,n21,n22,y]]++choose.cap) d λz g=>∃p:al,z=.returned p/\ao p (aF g ((aa b).add 3)
 λn27=>an (g.alloc (.cells #[n27] 3)) λA=>∃q:ad,∃r:J,Sem.run aj (Builtin.append_ #[58,58] 58 #[e,.slice (some (aa g)) 1 1]) A=.ok
 q r/\j q r) (j e g)) (λ(s:ad) t=>h s (au (n6+1)) t/\i s (au (n6+1)) t<i e n6 b)) (fS 153 #[e] b λB=>Q e B))
def az.p7:aO:=(.s .r (.s .r (.s a1 (.s (.s .r (.b2 (.loop [(5,.slice),(15,(.int .i64))] [1,13,14] (.s .r (.s (.c .l .l) (.s (.fq [(5,.slice)] [1,13,14,15] (.b2 (.s .r (.s .r (.c .r .l))))) .r)))))) (.s .r (.s .r
 .l))))))
theorem ah.Cy(c:ar ag)(choose:iQ)(w:J)(Q:Y->J->Prop)(h:ah.p7 c choose w Q):aL aj 199 #[c,.func (.func choose.f) choose.pre choose.cap] w Q:=okF (λw Q=>ah.p7 c choose w Q) az.p7 func199 h
def ah.sO(b:al)(c:al)(d:al)(e:Int)(f:Int)(g:ad)(w:J)(Q:Y->J->Prop):Prop:=an (w.alloc (.cells #[b,c,d,e,f,g] 288)) λw1=>aW w1 (aa w) λbH=>b1 (λa:al->J->Prop=>ao bH (aW w1 ((aa w).add 1) λh=>a h w1) (a false w1)) (λ(i:al) j=>Q i j)
def az.sO:aO:=(.s .r (.s (.di [.r,.r,.r,.split 2]) .l))
def ah.sP(c:ar ag)(no:Int)(w:J)(Q:Y->J->Prop):Prop:=ao (Option.isNone c) (Q (.pointer none) w) (∃a1:ag,c=some a1/\r1 w (a1.add 1) λs2=>∃ (d:Int->J->Prop) (f:Int->
 J->Nat),d 0 w/\∀ (n5:Int) (b:J),d n5 b->ao (decide (n5<(s2.len:Int))) (∃dX:ag,c=some dX/\r1 b (dX.add 1) λg=>∃a9:ag,g.a=some a9/\aK n5 g.len/\∃dQ:ag,(some (a9.add (n5.toNat*6))
 :ar ag)=some dQ/\aW b dQ λi=>b1 (λh:al->J->Prop=>ao i (∃eA:ag,(some (a9.add (n5.toNat*6)):ar ag)=some eA/\aF b (eA.add 3) λn14=>h (n14==no) b) (h false b)) (λ
 (j:al) e=>ao j (Q (.pointer (some (a9.add (n5.toNat*6)))) e) (d (au (n5+1)) e/\f (au (n5+1)) e<f n5 b))) (Q (.pointer none) b))
def az.sP:aO:=(.s .r (.s a1 (.s (.s .r (.b2 (.loop [(14,(.int .i64))] [0,1,13] (.s .r (.s (.c .l .l) (.s (.b2 (.s .r (.s .r (.s (.di [.r,.r,.r,.r,.r,.split 6]) (.c (.s .r .l) .l))))) .r)))))) (.s .r .l))))
def ah.jv(s:al)(t:ad)(u:ad)(v:ad)(w:J)(Q:Y->J->Prop):Prop:=an (w.alloc (.cells #[s,t,u,
 v] 202)) λw1=>r1 w1 ((aa w).add 1) λs2=>∃ (d:Int->J->Prop) (i:Int->J->Nat),d 0 w1/\∀ (n5:Int) (b:J),d n5 b->ao (decide (n5<(s2.len:Int))) (∃dX:
 ag,s2.a=some dX/\aK n5 s2.len/\r1 b (dX.add (n5.toNat*1)) λj=>cc 209 #[j] b λx c=>b1 (λk:al->J->Prop=>ao (!x) (k true c) (b1 (λl:al->J->Prop
 =>ao (decide (n5>0)) (r1 c ((aa w).add 1) λm=>∃gk:ag,m.a=some gk/\aK (au (n5-1)) m.len/\r1 c (gk.add ((au (n5-1)).toNat*1)) λy=>b7 176 #[y,j] c λn19 z=>l (decide (n19>=0)) z) (l false c)) (λ(A:al) B=>k A B))) (λ(C:al) e=>ao C (Q false e) (d (au (n5+1)) e/\i (au (n5+1)) e<i n5 b))) (aW
 b (aa w) λD=>ao D (r1 b ((aa w).add 2) λE=>r1 b ((aa w).add 1) λF=>b1 (λn:al->J->Prop=>ao ((E.len:Int)==(F.len:Int)) (r1 b ((aa w).add 3) λG=>n ((G.len:Int)==0)
 b) (n false b)) (λ(H:al) f=>b1 (λo:al->J->Prop=>ao H (r1 f ((aa w).add 2) λI=>cc 242 #[I,.func (.func 241) #[]
 #[]] f λK L=>o (!K) L) (o false f)) (λ(M:al) N=>Q M N))) (r1 b ((aa w).add 1) λO=>b1 (λp:al->J->Prop=>ao (decide ((O.len:Int)>0)) (r1 b ((aa w).add 3) λ
 P=>r1 b ((aa w).add 1) λR=>p ((P.len:Int)==(au ((R.len:Int)+1))) b) (p false b)) (λ(S:al) g=>b1 (λq:al->J->Prop=>ao S (r1 g ((aa w).add 2) λT=>q ((T.len:Int)
 ==0) g) (q false g)) (λ(U:al) h=>b1 (λr:al->J->Prop=>ao U (r1 h ((aa w).add 3) λV=>cc 244 #[V,.func (.func 243) #[]
 #[]] h λW X=>r (!W) X) (r false h)) (λ(Z:al) ab=>Q Z ab)))))
def az.jv:aO:=(.s .r (.s (.s .r (.b2 (.loop [(10,(.int .i64))] [1,8,9] (.s .r (.s (.c .l .l) (.s (.b2 (.s .r (.s (.di [.r,.r,.r,.r,.split 13,.r,.r,.split 9]) (.c (.s .r .l) .l)))) .r)))))) (.s (.s .r (.c (.s .r (.s
 (.di [.r,.r,.r,.r,.r,.r,.r,.r,.split 4,.r,.r,.r,.r,.r,.split 5]) .l)) .l)) (.s .r (.s (.di [.r,.r,.r,.r,.r,.split 8,.r,.r,.r,.r,.r,.r,.r,.r,.r,.split 4,.r,.r,.r,.r,.r,.split 5]) .l)))))
def ah.eo(m:al)(n:ad)(o:ad)(p:ad)(w:J)(Q:Y->J->Prop):Prop:=an (w.alloc (.cells #[m,n,o,
 p] 202)) λw1=>an (w1.alloc z4) λai=>an (ai.drew) λa=>∃b:Nat->Prop,¬b ((aa w):ag).block/\aW a (aa w) λe=>¬b ((aa w).add 3).block/\r1 a ((aa w).add
 3) λf=>(bJ 245 #[f] a λq c=>ae b a c/\∃g:Array Y,(∀h:J,Sem.run aj (Instr.build 202 #[(0,e),(3,q)]) h=
 .ok (.agg g) h)/\an (c.alloc z4) λi=>ae b c i/\vi i c g w w1 Q)/\(an (a.alloc z4) λd=>ae b a d/\bJ 245 #[f] d λr j=>ae b d j/\∃k:
 Array Y,(∀l:J,Sem.run aj (Instr.build 202 #[(0,e),(3,r)]) l=.ok (.agg k) l)/\vi j a k w w1 Q)
def az.eo:aO:=(.s .r (.s (.cE 7 true ⟨[0,1,0,4,8,18,0,127],[0,1,0,4,8,18,0,96]⟩ [256,512,1024,2048,4096,8192,8,0] [2,256,2,1024,2048,4608,0,8200] (.t 0 (.t 1 (.t 2 (.t 3 (.two 4 (.t 5 (.bY 6 (.tail
 [.r]))) 6 (.bY 4 (.t 5 (.tail [.r]))))))))) (.s (.s .r (.b2 (.loop [(17,(.int .i64))] [1,2,3,15,16] (.s .r (.s (.c .l .l) (.s (.b2 (.s .r (.cE 5 true ⟨[0,1,0,4,8,26,63,127],[0,1,0,4,8,18,0,96]⟩ [2097152,4194304,
 8388608,16777216,33554432,67108864,134217728,0] [8,2097152,32,8388608,16777216,37748736,8,201326592] (.t 0 (.t 1 (.t 2 (.bY 3 (.bY 4 (.tail [.r,.r,.r]))))))))) .r)))))) (.s (.s .r (.b2 (.loop [(32,(.int .i64))] [2,3,30,
 31] (.s .r (.s (.c .l .l) (.s (.b2 (.s .r (.cE 5 true ⟨[0,1,0,4,8,26,63,127],[0,1,0,4,8,18,0,96]⟩ [68719476736,137438953472,274877906944,549755813888,1099511627776,2199023255552,4398046511104,0] [8,68719476736,128,
 274877906944,549755813888,1236950581248,8,6597069766656] (.t 0 (.t 1 (.t 2 (.bY 3 (.bY 4 (.tail [.r,.r,.r]))))))))) .r)))))) (.s .r .l)))))
def ah.og(x:ag)(a:ag)(w:J)(Q:Y->J->Prop):Prop:=aF w x λbL=>ao (bL !=0) (an (w.drew) λai=>¬False/\∃b:ar ag,ai.cell? a=some (b)/\¬False/\∃c:ar
 ag,ai.cell? a=some (c)/\∃a5:ag,c=some a5/\¬False/\r1 ai (a5.add 1) λd=>fS 207 #[b,d] ai λe=>Q (.tuple #[]) e) (Q (.tuple #[]) w)
def az.og:aO:=(.s .r (.c (.cE 5 false ⟨[0,0,2,4,8,17],[0,0,2,4,8,17]⟩ [16,32,64,128,256,512] [2,2,32,64,128,272] (.t 0 (.t 1 (.t 2 (.t 3 (.t 4 (.tail [.r]))))))) .l))
theorem ah.Cz(x:ag)(a:ag)(w:J)(Q:Y->J->Prop):ah.og x a w Q=nP aj tk az.og Tryz.f206 [.pointer (some x),.pointer (some a)] w Q:=by kernel_rfl
theorem ah.yB(x:ag)(a:ag)(w:J)(K:J->Prop)(h:ah.og x a w λ_ w1=>K w1):nU aj 206 #[.pointer (some x),.pointer (some a)] w K:=
 BY u7 ⟨_,func206,by kernel_rfl,by kernel_rfl⟩ func206 (by kernel_rfl) (Eq.mp (ah.Cz x a w _) h)
def ah.sQ(c:ar ag)(l:ad)(w:J)(Q:Y->J->Prop):Prop:=∃ (f:Int->J->Prop) (h:Int->J->Nat),f 0 w/\∀ (b:Int) (d:J),f b d->ao (decide (b<(l.len:Int))) (b1 (λ
 i:J->Prop=>∃dH:ag,l.a=some dH/\aK b l.len/\aF d (dH.add (b.toNat*1)) λn7=>∃e1:ag,c=some e1/\∃j:ar ag,d.cell? e1=some (j)/\∃dQ:ag,j=some dQ/\∃k:ar ag,
 d.cell? (dQ.add 1)=some (k)/\cc 246 #[k,n7] d λu g=>∃gk:ag,c=some gk/\∃m:ar ag,g.cell? gk=some (m)/\∃n:ag,m=some n/\∃
 o:ar ag,g.cell? (n.add 1)=some (o)/\b7 161 #[o,n7] g λn21 e=>ao u (∃p:ag,c=some p/\∃q:ar ag,e.cell? p=some (q)/\∃r:
 ag,q=some r/\∃s:ar ag,e.cell? r=some (s)/\cc 146 #[s,n7] e λx v=>i v) (i e)) (λt=>f (au (b+1)) t/\h (au (b+1)) t<h b d))
 (Q (.tuple #[]) d)
def az.sQ:aO:=(.s .r (.b2 (.loop [(9,(.int .i64))] [0,7,8] (.s .r (.s (.c .l .l) (.s (.fq [] [0,7,8,9] (.b2 (.s .r (.s .r (.s .r (.s .r (.c .r .l))))))) .r))))))
def ah.mP(c:ar ag)(gV:ad)(U:al)(V:ad)(W:ad)(X:ad)(w:J)(Q:Y->J->Prop):Prop:=an (w.alloc (.cells #[U,V,W,X] 202)) λw1=>aW w1 (aa w) λbH=>r1 w1 ((aa w).add 1) λt=>r1 w1 ((aa w).add 2) λu=>r1 w1
 ((aa w).add 3) λv=>an (w1.alloc z4) λx=>bh x (aa w1) [bH,t,u,v]/\(4:Nat)=4/\an (setCells x (aa w1) 0 [bH,t,u,v]) λZ=>∃ (k:Int->J->Prop) (y:Int->J->Nat),k (au ((gV.len:Int)-1)) Z/\∀ (n10:Int) (b:J),k n10 b->ao (decide (n10>=0)) (an
 (b.drew) λf=>∃i:Nat->Prop,∃ft:ag,c=some ft/\¬i (ft.add 2).block/\r1 f (ft.add 2) λab=>∃l:ag,gV.a=some l/\aK n10 gV.len/\¬i (l.add (n10.toNat*6)).block/\aF f (l.add
 (n10.toNat*6)) λn17=>an (f.alloc (.cells #[n17] 3)) λm=>ae i f m/\∃z:ad,∃n:J,Sem.run aj (Builtin.append_ #[58,58] 58 #[ab,
 .slice (some (aa f)) 1 1]) m=.ok z n/\ae i m n/\∃A:ag,c=some A/\st n (A.add 2) z λo=>b1 (λB:al->J->Prop=>ao (n10==0) (r1
 o ((aa w1).add 1) λac=>B ((ac.len:Int)==0) o) (B false o)) (λ(af:al) p=>ao af (an (p.drew) λd=>∃j:Nat->Prop,¬j ((aa w1):ag).block/\aW d (aa w1) λai=>r1 d ((aa
 w1).add 1) λak=>r1 d ((aa w1).add 2) λam=>r1 d ((aa w1).add 3) λap=>∃q:ag,c=some q/\¬j q.block/\∃C:ar ag,d.cell? q=some (C)/\∃r:ag,C=some r/\¬j
 (r.add 4).block/\aF d (r.add 4) λn36=>nX 247 #[.agg #[ai,ak,am,ap],n36] d λn39 n40 n41 D=>ae j d D/\Q
 (.tuple #[n39,n40,n41]) D) (b1 (λE:ar ag->J->Prop=>ao (decide (n10>0)) (∃F:ag,gV.a=some F/\aK (au (n10-1)) gV.len/\E (some (F.add ((au (n10-1)).toNat*
 6))) p) (E none p)) (λ(G:ar ag) g=>aW g (aa w1) λaq=>r1 g ((aa w1).add 1) λav=>r1 g ((aa w1).add 2) λaw=>r1 g ((aa w1).add 3) λax=>u9 248 #[c,
 .agg #[aq,av,aw,ax],G] g λH ay az I e=>ao (I !=0) (Q (.tuple #[(0:Int),(0:Int),I]) e) (ao (n10==
 0) (nX 249 #[c,H] e λaA aB aC aD=>Q (.tuple #[aA,aB,aC]) aD) (∃h:ag,G=some h/\aW e (h.add 1) λaE=>r1 e ((h.add
 1).add 1) λaG=>r1 e ((h.add 1).add 2) λaH=>r1 e ((h.add 1).add 3) λaI=>f_ 250 #[.agg #[aE,aG,aH,aI],ay,az,H] e λK L M N O=>bh O (aa w1) [K,L,M,N]/\(4:Nat)=4/\an (setCells O
 (aa w1) 0 [K,L,M,N]) λP=>k (au (n10-1)) P/\y (au (n10-1)) P<y n10 b)))))) (aW b (aa w1) λaJ=>r1 b ((aa w1).add
 1) λaL=>r1 b ((aa w1).add 2) λaM=>r1 b ((aa w1).add 3) λaN=>eR 251 #[c,.agg #[aJ,aL,aM,aN]] b
 λR S s=>ao (S !=0) (Q (.tuple #[(0:Int),(0:Int),S]) s) (∃T:ag,R.a=some T/\aK 0 R.len/\aF s ((T.add (Int.toNat 0*2)).add 1) λaO=>Q (.tuple #[aO,(1:Int),(0:Int)]) s))
def az.mP:aO:=(.s .r (.s .r (.s (.s .r (.b2 (.loop [(10,(.int .i64))] [0,1,9] (.s (.s .r (.c .l .l)) (.s (.b2 (.s (.cE 12 true ⟨[0,0,2,4,8,0,0,96,128,256,512,1040,4095,8191,12287],[0,0,2,4,8,0,0,
 96,128,256,512,1040,1,4096,10240]⟩ [33554432,67108864,134217728,268435456,536870912,1073741824,2147483648,4294967296,8589934592,17179869184,34359738368,68719476736,137438953472,274877906944,0] [1,1,67108864,
 134217728,268435456,2,1024,3221225472,4294967296,8589934592,17179869184,34896609280,33554432,137438953472,343597383680] (.t 0 (.t 1 (.t 2 (.t 3 (.t 4 (.t 5 (.t 6 (.t 7 (.t 8 (.t 9 (.bY 10 (.bY 11 (.tail [.r,.r,
 .r])))))))))))))) (.s (.s (.di [.r,.r,.r,.split 4]) (.c (.s (.cE 12 true ⟨[0,0,2,4,8,16,32,64,129,256,256,256,4095,8191,16383],[0,0,2,4,8,16,32,64,129,256,256,256,512,1024,2048]⟩ [140737488355328,
 281474976710656,562949953421312,1125899906842624,2251799813685248,4503599627370496,9007199254740992,18014398509481984,36028797018963968,72057594037927936,144115188075855872,288230376151711744,64,128,256] [512,1,
 281474976710656,562949953421312,1125899906842624,2251799813685248,4503599627370496,9007199254740992,18155135997837312,36028797018963968,36028797018963968,36028797018963968,72057594037927936,144115188075855872,288230376151711744]
 (.t 0 (.t 1 (.t 2 (.t 3 (.t 4 (.t 5 (.t 6 (.t 7 (.bY 8 (.t 9 (.t 10 (.t 11 (.tail [.r,.r,.r])))))))))))))) .l) .l)) (.s .r (.s (.fq [(11,.ptr)] [0,1,9,10] (.s .r (.c .r .l))) (.s .r (.s a1 (.s a1 .r)))))))) .r))))) dt)))
def ah.mQ(a:ad)(w:J)(Q:Y->J->Prop):Prop:=Q (.bool ((decide ((a.len:Int)>=1))&&(decide ((a.len:Int)<=24)))) w
def az.mQ:aO:=dH
def ah.sR(s:ad)(no:Int)(w:J)(Q:Y->J->Prop):Prop:=(8:Int)≠0/\∃a1:ag,s.a=some a1/\aK (au (Int.tdiv no 8)) s.len/\en w (a1.add ((au (Int.tdiv no 8)).toNat*1)) λbx=>(8:Int)≠0
 /\(0:Int)<=(Int.tmod no 8)/\Q (.bool (((h8 .u8 (Int.fdiv bx (2^(min ((Int.tmod no 8).toNat) 8))) 1):Int)==1)) w
def az.sR:aO:=(.s .r (.s .r .l))
def ah.jV(b:ad)(c:Int)(size:Int)(w:J)(Q:Y->J->Prop):Prop:=ao ((((decide (c<0))||(decide (size<0)))||(decide (c>(b.len:Int))))||(decide (size>(au ((b.len:Int)-c))))) (Q (.tuple
 #[(),false]) w) (((0:Int)<=(au (c+size))/\(au (c+size))<=(b.cap:Int))/\((0:Int)<=c/\c<=((((au (c+size)).toNat):Nat):Int))/\Q (.tuple #[.slice (aJ b.a 1 (Int.toNat
 c) b.cap) (((au (c+size)).toNat)-(c.toNat)) (b.cap-(c.toNat)),true]) w)
def az.jV:aO:=(.s .r (.s (.s (.di [.r,.r,.r,.pure 2,.r,.r,.r,.pure 4,.r,.r,.r,.r,.r,.pure 6]) (.c (.s .r .l) .l)) (.s .r .l)))
theorem ah.CA(b:ad)(a:Int)(size:Int)(w:J)(Q:Y->J->Prop)(h:ah.jV b a size w Q):aL aj 215 #[b,a,size] w Q:=okF (λw Q=>ah.jV b a size w Q) az.jV func215 h
def ah.mR(b:ad)(w:J)(Q:Y->J->Prop):Prop:=an (w.alloc z5) λw1=>ao ((b.len:Int)==4) (jU 266 #[b] w1 λeZ ai=>vh ai w eZ Q) (ao ((b.len:Int)==16) (16<=b.len/\∃dX:
 ag,b.a=some dX/\∃d:O Y,bE w1 dX 0 16=some d/\∃e:Array Y,Sem.run aj (Instr.build 24 #[(0,true),(1,.agg d.toArray)]) w1=.ok (.agg e) w1/\vh w1 w e Q) (∃c:Array Y,
 Sem.run aj (Instr.build 24 #[]) w1=.ok (.agg c) w1/\bh w1 (aa w) (Array.toList c)/\Array.size c=17/\an (setCells w1 (aa w) 0 (Array.toList c)) λf=>∃g:O Y,bE f (aa w) 0 17=some
 g/\Q (.tuple #[.agg g.toArray,false]) f))
def az.mR:aO:=(.s .r (.s (.s .r (.b2 eA)) (.s .r .l)))
def ah.p8(s:ar ag)(no:Int)(w:J)(Q:Y->J->Prop):Prop:=∃a1:ag,s=some a1/\r1 w (a1.add 1) λs2=>cc 214 #[s2,no] w λc a=>b1 (λ
 b:al->J->Prop=>ao c (b true a) (∃dX:ag,s=some dX/\r1 a (dX.add 2) λd=>cc 214 #[d,no] a λe f=>b e f)) (λ(g:al) h=>Q g h)
def az.p8:aO:=(.s .r (.s (.di [.r,.r,.r,.r,.r,.r,.r,.split 6]) .l))
theorem ah.CB(s:ar ag)(no:Int)(w:J)(Q:Y->J->Prop)(h:ah.p8 s no w Q):aL aj 217 #[s,no] w Q:=okF (λw Q=>ah.p8 s no w Q) az.p8 func217 h
def ah.p9(s:ar ag)(no:Int)(w:J)(Q:Y->J->Prop):Prop:=b1 (λcn:al->J->Prop=>ao ((!(Option.isNone s))&&(decide (no>=0))) (∃a2:ag,s=some a2/\aF w a2 λa=>cn (decide
 (no<a)) w) (cn false w)) (λ(b:al) c=>Q b c)
def az.p9:aO:=(.s .r (.s (.di [.r,.r,.r,.pure 2,.r,.r,.r,.split 6]) .l))
theorem ah.CC(s:ar ag)(no:Int)(w:J)(Q:Y->J->Prop)(h:ah.p9 s no w Q):aL aj 218 #[s,no] w Q:=okF (λw Q=>ah.p9 s no w Q) az.p9 func218 h
def ah.sS(s:ad)(no:Int)(w:J)(Q:Y->J->Prop):Prop:=an (w.drew) λw1=>(8:Int)≠0/\∃a2:ag,s.a=some a2/\aK (au (Int.tdiv no 8)) s.len/\¬False/\en w1 (a2.add ((au (Int.tdiv no
 8)).toNat*1)) λb=>(8:Int)≠0/\(0:Int)<=(Int.tmod no 8)/\∃a4:ag,s.a=some a4/\aK (au (Int.tdiv no 8)) s.len/\st w1 (a4.add ((au (Int.tdiv no 8)).toNat*1)) (.int .u8 (xn .u8 b (IntKind.wrap .u8 (1*2^(min
 ((Int.tmod no 8).toNat) 8))))) λc=>Q (.tuple #[]) c
def az.sS:aO:=(.cE 8 false ⟨[0,0,2,5,8,0,32,64,144,511,1023],[0,0,2,5,8,0,32,64,144,5,768]⟩ [16,32,64,128,256,512,1024,2048,4096,8192,0] [1,2,32,80,128,2,512,1024,2304,80,12288] (.t 0
 (.t 1 (.t 2 (.t 3 (.t 4 (.t 5 (.t 6 (.t 7 (.tail [.r,.r,.r]))))))))))
def ah.sT(c:ar ag)(no:Int)(w:J)(Q:Y->J->Prop):Prop:=b1 (λcn:al->J->Prop=>ao ((!(Option.isNone c))&&(decide (no>=0))) (∃a2:ag,c=some a2/\∃a:ar ag,w.cell?
 a2=some (a)/\b7 72 #[a] w λn6 b=>cn (decide (no<n6)) b) (cn false w)) (λ(d:al) e=>Q d e)
def az.sT:aO:=e1
def ah.sU(c:ar ag)(w:J)(Q:Y->J->Prop):Prop:=iV 267 #[c] w λf w1=>ao (!(Option.isNone f)) (Q (.tuple #[f,(0:Int)]) w1) (iV 268
 #[c] w1 λa b=>ao (Option.isNone a) (Q (.tuple #[.pointer none,(11:Int)]) b) (b1 (λg:J->Prop=>∃e1:ag,a=some e1/\aW b (e1.add 1) λk=>ao k (an (b.drew) λd=>∃dt:ag,c=some
 dt/\¬False/\∃h:ar ag,d.cell? dt=some (h)/\∃eA:ag,a=some eA/\¬False/\aF d (eA.add 3) λn14=>∃gk:ag,a=some gk/\¬False/\r1 d (gk.add 5) λl=>b7 75
 #[h,n14,l] d λn19 i=>ao (n19 !=0) (Q (.tuple #[.pointer none,n19]) i) (g i)) (g b)) (λj=>∃e:ag,a=some e/\bh j e [false,false,false,(0:Int),(0:Int),()]/\(6:Nat)=6/\an (setCells j e 0 [false,false,false,(0:Int),(0:Int),()]) λm=>Q (.tuple #[a,(0:Int)])
 m)))
def az.sU:aO:=(.s .r (.s (.s .r a1) (.s .r (.s a1 (.s (.fq [] [5] (.s .r (.c (.s (.cE 12 false ⟨[0,1,2,4,0,16,32,64,0,256,512,1024,2184,8191],[0,1,2,4,0,16,32,64,0,256,512,1024,2184,4096]⟩
 [1048576,2097152,4194304,8388608,16777216,33554432,67108864,134217728,268435456,536870912,1073741824,2147483648,4294967296,64] [1,1048576,2097152,4194304,32,16777216,33554432,67108864,32,268435456,536870912,
 1073741824,2290089984,4294967296] (.t 0 (.t 1 (.t 2 (.t 3 (.t 4 (.t 5 (.t 6 (.t 7 (.t 8 (.t 9 (.t 10 (.t 11 (.tail [.r,.r])))))))))))))) a1) .l))) (.s .r (.s .r .l)))))))
def ah.kU(b:ad)(a:Int)(c:Int)(w:J)(Q:Y->J->Prop):Prop:=lG 156 #[b,a,.int .i64 (au (c-a))] w λd e w1=>Q (.int .u64 d) w1
def az.kU:aO:=a4
def ah.oh(b:ad)(w:J)(Q:Y->J->Prop):Prop:=∃ (e:Int->J->Prop) (f:Int->J->Nat),e 0 w/\∀ (c:Int) (d:J),e c d->ao (decide (c<(b.len:Int))) (∃a5:ag,b.a=some a5/\aK
 c b.len/\en d (a5.add (c.toNat*1)) λn6=>ao (n6 !=0) (Q false d) (e (au (c+1)) d/\f (au (c+1)) d<f c d)) (Q true d)
def az.oh:aO:=(.s .r (.s (.s .r (.b2 (.loop [(7,(.int .i64))] [5,6] e8))) (.s .r .l)))
def ah.om(b:ad)(a:Int)(size:Int)(w:J)(Q:Y->J->Prop):Prop:=gU 215 #[b,a,size] w λc d w1=>bJ 135 #[c] w1 λe f=>Q (.tuple #[e,d]) f
def az.om:aO:=a4
def ah.oo(leaf:al)(b:ad)(w:J)(Q:Y->J->Prop):Prop:=an (w.alloc z4) λw1=>an (w1.alloc (.cells #[b,true] 354)) λai=>an (ai.alloc z4) λm=>bh m
 (aa ai) [leaf,(),(),()]/\(4:Nat)=4/\an (setCells m (aa ai) 0 [leaf,(),(),()]) λG=>b7 272 #[.pointer (some (aa
 w1)),(1:Int)] G λn7 n=>b1 (λo:J->Prop=>ao (!leaf) (va n ai w1 o) (o n)) (λH=>∃ (g:Int->J->Prop) (p:Int->J->Nat),g 0 H/\∀ (n22:Int) (a:J),g n22 a->ao (decide (n22
 <n7)) (b1 (λq:J->Prop=>an (a.drew) λh=>∃i:Nat->Prop,¬i ((aa ai).add 1).block/\r1 h ((aa ai).add 1) λI=>bJ 273 #[.pointer (some (aa w1))] h λK e=>ae i h
 e/\an (e.alloc (.cells #[K] 48)) λr=>ae i e r/\∃s:ad,∃t:J,Sem.run aj (Builtin.append_ #[127,127] 127 #[I,.slice (some (aa e)) 1 1]) r=.ok s t/\st t ((aa ai).add 1) s λu=>ao leaf (an (u.drew) λj=>∃k:Nat->Prop,¬k ((aa ai).add
 2).block/\r1 j ((aa ai).add 2) λL=>bJ 273 #[.pointer (some (aa w1))] j λM f=>ae k j f/\an (f.alloc (.cells #[M] 48)) λv=>ae k f v/\∃x
 :ad,∃y:J,Sem.run aj (Builtin.append_ #[127,127] 127 #[L,.slice (some (aa f)) 1 1]) v=.ok x y/\st y ((aa ai).add 2)
 x λN=>q N) (va u ai w1 q)) (λz=>g (au (n22+1)) z/\p (au (n22+1)) z<p n22 a)) (aW a (aa ai) λO=>r1 a ((aa ai).add 1) λP=>r1 a ((aa ai).add
 2) λR=>r1 a ((aa ai).add 3) λS=>eR 274 #[.agg #[O,P,R,S]] a λT U l=>∃A:ag,(some (aa w1):
 ar ag)=some A/\aW l (A.add 1) λV=>b1 (λB:al->J->Prop=>ao ((!V)||(U !=0)) (B true l) (cc 158 #[T,b] l λW X=>B (!W)
 X)) (λ(Z:al) c=>ao Z (bh c (aa w) [false,(),(),()]/\(4:Nat)=4/\an (setCells c (aa w) 0 [false,(),(),()]) λab
 =>pS ab w Q) (aW c (aa ai) λC=>r1 c ((aa ai).add 1) λD=>r1 c ((aa ai).add 2) λE=>r1 c ((aa ai).add 3) λF=>bh c (aa w) [C,D,E,F]/\(4:Nat)=4/\an (setCells c (aa w) 0 [C,D,E,F]) λd=>aW d (aa w) λac=>r1 d
 ((aa w).add 1) λaf=>r1 d ((aa w).add 2) λak=>r1 d ((aa w).add 3) λam=>Q (.tuple #[.agg #[ac,af,ak,am],(0:Int)]) d))))
def az.oo:aO:=(.s .r (.s .r (.s .r (.s (.fq [] [0,1,4,6,7,8] (.s .r (.c (.cE 5 true ⟨[0,1,0,4,8,26,63,127],[0,1,0,4,8,18,0,96]⟩ [1048576,2097152,4194304,8388608,16777216,33554432,67108864,0] [128,
 1048576,64,4194304,8388608,18874368,128,100663296] (.t 0 (.t 1 (.t 2 (.bY 3 (.bY 4 (.tail [.r,.r,.r]))))))) .l))) (.s (.s .r (.b2 (.loop [(28,(.int .i64))] [0,1,4,6,7,27] (.s .r (.s (.c .l .l) (.s (.fq [] [0,1,4,6,7,
 27,28] (.b2 (.s (.cE 5 true ⟨[0,1,0,4,8,26,63,127],[0,1,0,4,8,18,0,96]⟩ [1073741824,2147483648,4294967296,8589934592,17179869184,34359738368,68719476736,0] [128,1073741824,64,4294967296,8589934592,19327352832,
 128,103079215104] (.t 0 (.t 1 (.t 2 (.bY 3 (.bY 4 (.tail [.r,.r,.r]))))))) (.s .r (.c (.cE 5 true ⟨[0,1,0,4,8,26,63,127],[0,1,0,4,8,18,0,96]⟩ [274877906944,549755813888,1099511627776,2199023255552,4398046511104,
 8796093022208,17592186044416,0] [128,274877906944,64,1099511627776,2199023255552,4947802324992,128,26388279066624] (.t 0 (.t 1 (.t 2 (.bY 3 (.bY 4 (.tail [.r,.r,.r]))))))) (.cE 5 true ⟨[0,1,0,4,8,26,63,127],[0,1,0,
 4,8,18,0,96]⟩ [35184372088832,70368744177664,140737488355328,281474976710656,562949953421312,1125899906842624,2251799813685248,0] [128,35184372088832,64,140737488355328,281474976710656,633318697598976,128,3377699720527872]
 (.t 0 (.t 1 (.t 2 (.bY 3 (.bY 4 (.tail [.r,.r,.r])))))))))))) .r)))))) (.s .r (.s (.s (.di [.r,.r,.r,.r,.r,.r,.pure 2,.r,.r,.r,.split 4]) (.c (.s .r .l) .l)) (.s .r .l))))))))
def ah.mS(a:Array Y)(w:J)(Q:Y->J->Prop):Prop:=an (w.alloc (.cells a 24)) λw1=>aW w1 (aa w) λbH=>b1 (λb:al->J->Prop=>ao bH (b true w1) (((0:Int)<=12/\12<=((16:
 Nat):Int))/\12<=((Int.toNat 12)-0)/\∃a4:ag,(aJ (some ((aa w).add 1)) 1 0 16)=some a4/\∃c:O Y,bE w1 a4 0 12=some c/\∃d:Array Y,Sem.run aj (Instr.build 357 #[]) w1=.ok
 (.agg d) w1/\∃e:al,iR aj 357 c.toArray d e/\b e w1)) (λ(f:al) g=>Q f g)
def az.mS:aO:=(.s .r (.s (.di [.r,.r,.r,.split 6]) .l))
theorem ah.CD(a:Array Y)(w:J)(Q:Y->J->Prop)(h:ah.mS a w Q):aL aj 237 #[.agg a] w Q:=okF (λw Q=>ah.mS a w Q) az.mS func237 h
def ah.oq(n:Int)(b:ad)(w:J)(Q:Y->J->Prop):Prop:=∃ (f:Int->Int->J->Prop) (h:Int->Int->J->Nat),f n 0 w/\∀ (e:Int) (cv:Int) (d:J),f e cv d->ao (decide (cv<
 (b.len:Int))) (∃dH:ag,b.a=some dH/\aK cv b.len/\en d (dH.add (cv.toNat*1)) λn7=>∃ (g:Int->Int->J->Prop) (i:Int->Int->J->Nat),g (mm .u32 e (IntKind.wrap .u32 n7)) 0 d/\∀ (n10:Int) (n11:
 Int) (c:J),g n10 n11 c->ao (decide (n11<8)) ((0:Int)<=1/\g (mm .u32 (Int.fdiv n10 (2^(min (Int.toNat 1) 32))) (h8 .u32 2197175160 (IntKind.wrap .u32 (0-(h8 .u32 n10 1))))) (au (n11+1)) c/\i (mm .u32
 (Int.fdiv n10 (2^(min (Int.toNat 1) 32))) (h8 .u32 2197175160 (IntKind.wrap .u32 (0-(h8 .u32 n10 1))))) (au (n11+1)) c<i n10 n11 c) (f n10 (au (cv+1)) c/\h n10 (au (cv+1)) c<h e cv d)) (Q (.int .u32 e) d)
def az.oq:aO:=(.s .r (.s (.s .r (.b2 (.loop [(0,(.int .u32)),(9,(.int .i64))] [7,8] (.s .r (.s (.c .l .l) (.s (.b2 (.s .r (.s .r (.s .r (.b2 (.loop [(0,(.int .u32)),(17,(.int .i64))] [7,8,9] (.s .r (.s (.c .l .l) (.s
 (.b2 .r) .r))))))))) .r)))))) (.s .r .l)))
def ah.sV(c:ar ag)(no:Int)(w:J)(Q:Y->J->Prop):Prop:=cc 220 #[c,no] w λk w1=>ao (!k) (Q (.tuple #[(),(1:Int)]) w1) (iV
 201 #[c,no] w1 λa g=>ao (!(Option.isNone a)) (∃dX:ag,a=some dX/\st g (dX.add 2) true λh=>∃a9:ag,a=some a9/\r1 h (a9.add 5) λl=>bJ
 135 #[l] h λm n=>Q (.tuple #[m,(0:Int)]) n) (hO 221 #[c] g λo n17 b=>ao (n17 !=0) (Q (.tuple #[(),n17]) b) (∃i:ag,c=some i/\∃j:ar ag,b.cell? i=some (j)/\eR 114 #[j,no] b λd n23 e=>ao (n23 !=0) (Q (.tuple #[(),n23]) e) (∃f:ag,o=some f/\bh e f [true,false,true,no,(0:Int),d]/\(6:Nat)=6/\an (setCells e f 0 [true,false,true,
 no,(0:Int),d]) λp=>bJ 135 #[d] p λq r=>Q (.tuple #[q,(0:Int)]) r))))
def az.sV:aO:=(.s .r (.s a1 (.s (.s .r (.s .r dX)) (.s .r (.s a1 (.s .r (.s a1 (.s .r (.s .r .l)))))))))
def ah.sW(v:ad)(w:J)(Q:Y->J->Prop):Prop:=Q (.bool (decide ((v.len:Int)>24))) w
def az.sW:aO:=(.s .r (.s .r .l))
theorem ah.CE(v:ad)(w:J)(Q:Y->J->Prop)(h:ah.sW v w Q):aL aj 241 #[v] w Q:=okF (λw Q=>ah.sW v w Q) az.sW func241 h
def ah.sX(a:Int)(w:J)(Q:Y->J->Prop):Prop:=Q (.bool ((decide (a<0))||(decide (a>=1600)))) w
def az.sX:aO:=a3
theorem ah.CF(a:Int)(w:J)(Q:Y->J->Prop)(h:ah.sX a w Q):aL aj 243 #[a] w Q:=okF (λw Q=>ah.sX a w Q) az.sX func243 h
def ah.p_(s:ar ag)(no:Int)(w:J)(Q:Y->J->Prop):Prop:=cc 218 #[s,no] w λd w1=>b1 (λb:al->J->Prop=>ao d (∃a5:ag,s=some a5/\r1
 w1 (a5.add 1) λe=>cc 214 #[e,no] w1 λf g=>b f g) (b false w1)) (λ(h:al) a=>b1 (λc:al->J->Prop=>ao h (∃eA:ag,s=some eA/\r1 a
 (eA.add 2) λi=>cc 214 #[i,no] a λj k=>c (!j) k) (c false a)) (λ(l:al) m=>Q l m))
def az.p_:aO:=(.s .r (.s (.di [.r,.r,.r,.r,.split 6,.r,.r,.r,.r,.r,.r,.r,.split 7]) .l))
theorem ah.CG(s:ar ag)(no:Int)(w:J)(Q:Y->J->Prop)(h:ah.p_ s no w Q):aL aj 246 #[s,no] w Q:=okF (λw Q=>ah.p_ s no w Q) az.p_ func246 h
def ah.ot(c:al)(d:ad)(e:ad)(f:ad)(aH:Int)(w:J)(Q:Y->J->Prop):Prop:=an (w.alloc (.cells #[c,d,e,f] 202)) λw1=>aW w1 (aa w) λbH=>ao bH (Q (.tuple #[(0:Int),(0:Int),(0:Int)]) w1) (r1 w1 ((aa w).add 3) λb=>∃a4:ag,b.a=some a4/\aK 0 b.len
 /\aF w1 (a4.add (Int.toNat 0*1)) λn5=>Q (.tuple #[n5,.int .i64 (au (aH-1)),(0:Int)]) w1)
def az.ot:aO:=dt
end Go.Proofs.YtkdhdlfonmgheaaGreat
