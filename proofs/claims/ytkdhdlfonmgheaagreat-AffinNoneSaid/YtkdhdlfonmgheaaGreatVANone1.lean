/- Printed by gen.py: functions of the program, each as what must be shown of it. -/
import Derived.Test.YtkdhdlfonmgheaaGreatProg
import Derived.Test.YtkdhdlfonmgheaaGreatKANone2
namespace aQ
abbrev aO.s:=aO.seq
abbrev aO.l:=aO.leaf
abbrev aO.c:=aO.cond
abbrev aO.r:=aO.dh []
abbrev aP.t:=aP.take
abbrev jS.r:=jS.run
end aQ
namespace Go.Proofs.YtkdhdlfonmgheaaGreat
noncomputable abbrev ai:=Tryz.prog
open Go aQ Go.Proofs.Tryz
namespace F
end F
namespace Cs
end Cs
namespace G
end G
abbrev aN:dv:=.one (.one .fn)
abbrev eA:dv:=.one (.one .agg)
abbrev fF:dv:=.one (.one .ptr)
abbrev ie:dv:=.one (.one .slice)
abbrev mG:dv:=.eM [(.one .ptr),(.one (.int .i64))]
abbrev n3:dv:=.eM [(.one .slice),(.one (.int .i64))]
abbrev rZ:dv:=.one (.one (.int .i64))
abbrev r0:dv:=.one (.one (.int .u8))
abbrev r2:dv:=.one (.one (.int .u64))
abbrev r3:dv:=.one (.flat [.slice,.slice])
abbrev r4:dv:=.one (.flat [.ptr,.slice,(.int .i64)])
abbrev r5:dv:=.one (.flat [.slice,(.int .i64)])
def Ct:O dv:=[(.eM []),aN,rZ,rZ,(.one (.one .bool)),r0,r0,(.one (.flat [(.int .i64),(.int .i64),.bool,(.int .u8)])),(.one (.flat [(.int .i64),(.int .i64),.bool,(.int .u8)])),(.one (.one .str)),(.one (.one .str)),(.one (.one .str)),r2,(.one (.flat [.str,(.int .u64)])),(.one (.flat [.str,(.int .u64)])),fF,fF,fF,(.one (.flat [.ptr])),(.one (.flat [.ptr])),(.one (.one .any)),(.one (.one (.int .i32))),eA,eA,eA,eA,eA,r2,eA,eA,fF,fF,(.eM [(.one .ptr),(.one .ptr),(.one .bool)]),aN,rZ,aN,aN,aN,aN,ie,mG,aN,fF,mG,aN,(.one (.flat [(.int .i64),(.int .i64),(.int .u64)])),(.one (.flat [(.int .i64),(.int .i64),(.int .u64)])),aN,ie,(.one (.flat [(.int .i64),.slice,.slice,(.int .i64)])),(.one (.flat [(.int .i64),.slice,.slice,(.int .i64)])),aN,(.eM [(.one .bool),(.one (.int .i64))]),aN,aN,aN,aN,aN,ie,eA,eA,(.eM [(.one .agg),(.one .bool),(.one (.int .i64))]),aN,aN,(.eM [(.one (.int .i64)),(.one (.int .i64))]),aN,(.eM [(.one .slice),(.one (.int .i64)),(.one (.int .i64))]),aN,ie,n3,aN,aN,mG,aN,aN,ie,fF,(.one (.flat [(.int .i64),.slice])),(.one (.flat [(.int .i64),.slice])),aN,aN,aN,ie,(.one (.flat [(.int .i64),(.int .i64),(.int .u8)])),(.one (.flat [(.int .i64),(.int .i64),(.int .u8)])),fF,ie,(.one (.flat [.slice])),(.one (.flat [.slice])),eA,eA,(.one (.flat [(.int .i64),(.int .i64),(.int .i64),.slice,.slice,.slice])),(.one (.flat [(.int .i64),(.int .i64),(.int .i64),.slice,.slice,.slice])),aN,aN,aN,n3,aN,aN,aN,aN,r2,aN,(.one (.flat [(.int .i64),(.int .i64),(.int .i64),(.int .u64),(.int .u64),(.int .i64)])),(.one (.flat [(.int .i64),(.int .i64),(.int .i64),(.int .u64),(.int .u64),(.int .i64)])),aN,(.eM [(.one .bool),(.one .agg)]),aN,aN,aN,aN,aN,aN,aN,(.eM [(.one .slice),(.one .bool),(.one (.int .i64))]),aN,aN,aN,aN,eA,eA,eA,eA,(.eM [(.one .agg),(.one (.int .i64))]),aN,aN,aN,ie,aN,aN,(.eM [(.one .slice),(.one .bool)]),aN,aN,(.one (.flat [.ptr,(.int .i64)])),(.one (.flat [.ptr,(.int .i64)])),aN,ie,(.one (.one .map)),eA,eA,eA,eA,aN,fF,mG,aN,n3,aN,aN,(.one (.flat [(.int .i64),(.int .u64),.slice])),(.one (.flat [(.int .i64),(.int .u64),.slice])),eA,aN,aN,aN,fF,fF,eA,eA,aN,aN,(.eM [(.one .agg),(.one .bool)]),aN,aN,aN,aN,r3,r3,aN,aN,aN,n3,aN,aN,aN,(.eM [(.one (.int .i64)),(.one .bool)]),aN,aN,aN,aN,aN,eA,eA,(.eM [(.flat [(.int .i64),(.int .i64),(.int .i64),(.int .u64),(.int .u64),(.int .i64)]),(.one (.int .u64)),(.one (.int .i64))]),aN,aN,aN,fF,aN,fF,(.one (.one .map)),eA,eA,aN,(.eM [(.flat [(.int .i64),(.int .i64),(.int .i64),(.int .u64),(.int .u64),(.int .i64)]),(.one (.int .u64)),(.one (.int .i64))]),aN,aN,aN,aN,(.eM [(.flat [(.int .i64),(.int .u64),.slice]),(.one (.int .i64))]),aN,(.one (.flat [.bool,.slice,.slice,.slice])),(.one (.flat [.bool,.slice,.slice,.slice])),(.eM [(.flat [.bool,.slice,.slice,.slice]),(.one .bool)]),aN,fF,aN,ie,r3,r3,(.eM [(.one .agg),(.one .bool)]),aN,aN,aN,fF,ie,aN,(.one (.flat [(.int .i64),.slice,.slice])),(.one (.flat [(.int .i64),.slice,.slice])),(.one (.one (.int .u32))),aN,aN,aN,aN,mG,aN,mG,aN,ie,n3,aN,eA,eA,aN,(.eM [(.one (.int .i64)),(.one (.int .i64))]),aN,aN,aN,(.one (.flat [.ptr,.ptr,(.int .u64),(.int .i64),(.int .i64)])),(.one (.flat [.ptr,.ptr,(.int .u64),(.int .i64),(.int .i64)])),aN,(.eM [(.one .slice),(.one (.int .i64)),(.one (.int .i64))]),aN,aN,(.eM [(.one (.int .u64)),(.one .bool)]),aN,(.eM [(.one .agg),(.one .bool)]),aN,aN,(.eM [(.one .slice),(.one .slice)]),aN,aN,aN,aN,aN,aN,aN,(.eM [(.flat [(.int .i64),(.int .i64),(.int .i64),(.int .u64),(.int .u64),(.int .i64)]),(.one (.int .i64)),(.one (.int .u64)),(.one (.int .i64))]),aN,aN,aN,aN,aN,aN,aN,aN,(.one (.flat [(.int .i64),(.int .i64)])),(.one (.flat [(.int .i64),(.int .i64)])),ie,aN,aN,aN,aN,aN,aN,aN,aN,aN,aN,ie,r4,r4,(.eM [(.flat [.bool,.slice,.slice,.slice]),(.one (.int .i64))]),aN,aN,aN,aN,(.one (.flat [.bool,.bool,.bool,(.int .i64),(.int .i64),.slice])),(.one (.flat [.bool,.bool,.bool,(.int .i64),(.int .i64),.slice])),fF,aN,aN,aN,aN,aN,fF,(.one (.flat [.ptr,.slice,.slice])),(.one (.flat [.ptr,.slice,.slice])),(.eM [(.one (.int .i64)),(.one (.int .i64)),(.one (.int .i64))]),aN,aN,fF,r4,r4,aN,aN,aN,aN,mG,aN,aN,aN,aN,aN,fF,r5,r5,aN,aN,aN,aN,aN,aN,aN,aN,fF,ie,(.eM [(.one .slice),(.one (.int .i64)),(.one (.int .i64)),(.one (.int .i64))]),aN,aN,aN,n3,aN,r5,r5,aN,aN,aN,aN,rZ,(.eM [(.one (.int .i64)),(.one (.int .i64))]),aN,aN,aN,aN,aN,aN,aN,aN,aN,aN,aN,fF,(.one (.flat [.slice,.bool])),(.one (.flat [.slice,.bool])),aN,aN,eA,aN,aN,aN,aN,aN,aN,r2,aN,aN,fF,aN,aN,aN,fF,aN,(.eM [(.flat [.bool,.slice,.slice,.slice]),(.one .slice),(.flat [.bool,.slice,.slice,.slice]),(.one .bool)]),aN,aN,aN,(.one (.flat [.ptr,.ptr,.ptr,.str])),(.one (.flat [.ptr,.ptr,.ptr,.str])),eA,eA,eA,r0,r0,aN,fF,(.one (.one (.int .i32))),(.one (.one (.int .i32))),eA,eA,fF]
def tk:TypeId->dv:=λt=>Ct.getD t (.one (.one .any))
theorem vq:Tryz.prog.follows .mixedOrders=true:=by kernel_rfl
def aa(w:J):ah:=w.heap.size
def au(n:Int):Int:=IntKind.wrap .i64 n
def aL(n:Int)(k:Nat):Prop:=(0:Int)<=n/\n<(k:Int)
def ao(c:an)(A B:Prop):Prop:=(c=true->A)/\(c=false->B)
def jx:Int:=9223372036854775807
def st(w:J)(A:ah)(v:Y)(K:J->Prop):Prop:=(∃u:Y,w.cell? A=some u)/\w.frozen? A=false/\al (w.setCell A v) λw1=>K w1
def G8(w:J)(z:Obj)(l:O Y)(k:Nat)(K:J->Prop):Prop:=al (w.alloc z) λw1=>bj w1 (aa w) (Array.toList l.toArray)/\Array.size l.toArray=k/\al (setCells w1 (aa w) 0 (Array.toList l.toArray)) λaj=>K aj
def r6(s:ad)(n:Int)(w:J)(k:Nat)(K:O Y->Prop):Prop:=∃a:ah,s.a=some a/\aL n s.len/\∃l:O Y,bz w (a.add (n.toNat*k)) 0 k=some l/\K l
def fV(f:Nat)(a:Array Y)(w:J)(K:J->Prop):Prop:=Calls ai f a w λe w'=>e=.returned (.tuple #[])/\K w'
def b9(f:Nat)(a:Array Y)(w:J)(K:Int->J->Prop):Prop:=Calls ai f a w λe w'=>∃b1:Int,e=.returned b1/\K b1 w'
def b_(f:Nat)(a:Array Y)(w:J)(K:an->J->Prop):Prop:=Calls ai f a w λe w'=>∃b1:an,e=.returned b1/\K b1 w'
def fW(f:Nat)(a:Array Y)(w:J)(K:ad->an->J->Prop):Prop:=Calls ai f a w λe w'=>∃b1:ad,∃b:an,e=.returned (.tuple #[b1,b])/\K b1 b w'
def kp(f:Nat)(a:Array Y)(w:J)(K:ad->an->Int->J->Prop):Prop:=Calls ai f a w λe w'=>∃b1:ad,∃b:an,∃c:Int,e=.returned (.tuple #[b1,b,c])/\K b1 b c w'
def g9(f:Nat)(a:Array Y)(w:J)(K:aq ah->J->Prop):Prop:=Calls ai f a w λe w'=>∃b1:aq ah,e=.returned (b1)/\K b1 w'
def gK(f:Nat)(a:Array Y)(w:J)(K:aq ah->Int->J->Prop):Prop:=Calls ai f a w λe w'=>∃b1:aq ah,∃b:Int,e=.returned (.tuple #[b1,b])/\K b1 b w'
def bG(f:Nat)(a:Array Y)(w:J)(K:ad->J->Prop):Prop:=Calls ai f a w λe w'=>∃b1:ad,e=.returned b1/\K b1 w'
def dS(f:Nat)(a:Array Y)(w:J)(K:ad->Int->J->Prop):Prop:=Calls ai f a w λe w'=>∃b1:ad,∃b:Int,e=.returned (.tuple #[b1,b])/\K b1 b w'
def ig(f:Nat)(a:Array Y)(w:J)(K:Array Y->an->J->Prop):Prop:=Calls ai f a w λe w'=>∃b1:Array Y,∃b:an,e=.returned (.tuple #[.agg b1,b])/\K b1 b w'
def r7(f:Nat)(a:Array Y)(w:J)(K:an->Int->J->Prop):Prop:=Calls ai f a w λe w'=>∃b1:an,∃b:Int,e=.returned (.tuple #[b1,b])/\K b1 b w'
def gk(f:Nat)(a:Array Y)(w:J)(K:Int->Int->J->Prop):Prop:=Calls ai f a w λe w'=>∃b1:Int,∃b:Int,e=.returned (.tuple #[b1,b])/\K b1 b w'
def lI(f:Nat)(a:Array Y)(w:J)(K:Int->J->Prop):Prop:=Calls ai f a w λe w'=>∃b1:Int,e=.returned (.int .u32 b1)/\K b1 w'
def jY(f:Nat)(a:Array Y)(w:J)(K:Array Y->J->Prop):Prop:=Calls ai f a w λe w'=>∃b1:Array Y,e=.returned (.agg b1)/\K b1 w'
def kq(f:Nat)(a:Array Y)(w:J)(K:Int->an->J->Prop):Prop:=Calls ai f a w λe w'=>∃b1:Int,∃b:an,e=.returned (.tuple #[b1,b])/\K b1 b w'
def n4(f:Nat)(a:Array Y)(w:J)(K:an->ad->ad->ad->an->J->Prop):Prop:=Calls ai f a w λe w'=>∃b1:an,∃b:ad,∃c:ad,∃d:ad,∃g:an,e=.returned (.tuple #[.agg #[b1,b,c,d],g])/\K b1 b c d g w'
def lJ(f:Nat)(a:Array Y)(w:J)(K:Int->an->J->Prop):Prop:=Calls ai f a w λe w'=>∃b1:Int,∃b:an,e=.returned (.tuple #[.int .u64 b1,b])/\K b1 b w'
def yL(f:Nat)(a:Array Y)(w:J)(K:ad->ad->J->Prop):Prop:=Calls ai f a w λe w'=>∃b1:ad,∃b:ad,e=.returned (.tuple #[b1,b])/\K b1 b w'
def kX(f:Nat)(a:Array Y)(w:J)(K:an->ad->ad->ad->Int->J->Prop):Prop:=Calls ai f a w λe w'=>∃b1:an,∃b:ad,∃c:ad,∃d:ad,∃g:Int,e=.returned (.tuple #[.agg #[b1,b,c,d],g])/\K b1 b c d g w'
def n_(f:Nat)(a:Array Y)(w:J)(K:Int->Int->Int->J->Prop):Prop:=Calls ai f a w λe w'=>∃b1:Int,∃b:Int,∃c:Int,e=.returned (.tuple #[b1,b,c])/\K b1 b c w'
def gg(f:Nat)(a:Array Y)(w:J)(K:an->ad->ad->ad->J->Prop):Prop:=Calls ai f a w λe w'=>∃b1:an,∃b:ad,∃c:ad,∃d:ad,e=.returned (.agg #[b1,b,c,d])/\K b1 b c d w'
def qa(f:Nat)(a:Array Y)(w:J)(K:Int->J->Prop):Prop:=Calls ai f a w λe w'=>∃b1:Int,e=.returned (.int .u64 b1)/\K b1 w'
def yM(f:Nat)(a:Array Y)(w:J)(K:Int->Int->ad->Int->J->Prop):Prop:=Calls ai f a w λe w'=>∃b1:Int,∃b:Int,∃c:ad,∃d:Int,e=.returned (.tuple #[.agg #[b1,.int .u64 b,c],d])/\K b1 b c d w'
def vr(f:Nat)(a:Array Y)(w:J)(K:ad->Int->Int->Int->J->Prop):Prop:=Calls ai f a w λe w'=>∃b1:ad,∃b:Int,∃c:Int,∃d:Int,e=.returned (.tuple #[b1,b,c,d])/\K b1 b c d w'
def yN(f:Nat)(a:Array Y)(w:J)(K:an->ad->ad->ad->ad->an->ad->ad->ad->an->J->Prop):Prop:=Calls ai f a w λe w'=>∃b1:an,∃b:ad,∃c:ad,∃d:ad,∃g:ad,∃h:an,∃i:ad,∃j:ad,∃k:ad,∃l:an,e=.returned (.tuple #[.agg #[b1,b,c,d],g,.agg #[h,i,j,k],l])/\K b1 b c d g h i j k l w'
def qb(f:Nat)(a:Array Y)(w:J)(K:Array Y->an->Int->J->Prop):Prop:=Calls ai f a w λe w'=>∃b1:Array Y,∃b:an,∃c:Int,e=.returned (.tuple #[.agg b1,b,c])/\K b1 b c w'
def yO(f:Nat)(a:Array Y)(w:J)(K:ad->Int->Int->J->Prop):Prop:=Calls ai f a w λe w'=>∃b1:ad,∃b:Int,∃c:Int,e=.returned (.tuple #[b1,b,c])/\K b1 b c w'
def r8(f:Nat)(a:Array Y)(w:J)(K:aq ah->aq ah->an->J->Prop):Prop:=Calls ai f a w λe w'=>∃b1:aq ah,∃b:aq ah,∃c:an,e=.returned (.tuple #[b1,b,c])/\K b1 b c w'
def yP(f:Nat)(a:Array Y)(w:J)(K:Int->Int->Int->J->Prop):Prop:=Calls ai f a w λe w'=>∃b1:Int,∃b:Int,∃c:Int,e=.returned (.agg #[b1,b,.int .u64 c])/\K b1 b c w'
def r1(w:J)(A:ah)(K:ad->Prop):Prop:=∃x:ad,w.cell? A=some (.slice x.a x.len x.cap)/\K x
def aE(w:J)(A:ah)(K:Int->Prop):Prop:=∃x:Int,w.cell? A=some (.int .i64 x)/\K x
def b4(w:J)(A:ah)(K:Int->Prop):Prop:=∃x:Int,w.cell? A=some (.int .u64 x)/\K x
def aX(w:J)(A:ah)(K:an->Prop):Prop:=∃x:an,w.cell? A=some (.bool x)/\K x
def ee(w:J)(A:ah)(K:Int->Prop):Prop:=∃x:Int,w.cell? A=some (.int .u8 x)/\K x
def iV:Obj:=.cells #[(0:Int),(0:Int),(0:Int),.int .u64 0,.int .u64 0,(0:Int)] 104
def fm:Obj:=.cells #[(0:Int),false,.int .u8 0,.int .u8 0,.int .u8 0,.int .u8 0,.int .u8 0,.int .u8 0,.int .u8 0,.int .u8 0,.int .u8 0,.int .u8 0,.int .u8 0,.int .u8 0,.int .u8 0,.int .u8 0,.int .u8 0,.int .u8 0,(0:Int),(0:Int),.int .u64 0] 29
def z3:Obj:=.cells #[false,.int .u8 0,.int .u8 0,.int .u8 0,.int .u8 0,.int .u8 0,.int .u8 0,.int .u8 0,.int .u8 0,.int .u8 0,.int .u8 0,.int .u8 0,.int .u8 0,.int .u8 0,.int .u8 0,.int .u8 0,.int .u8 0,(0:Int)] 26
def z4:Obj:=.cells #[false,(),(),()] 202
def z5:Obj:=.cells #[false,.int .u8 0,.int .u8 0,.int .u8 0,.int .u8 0,.int .u8 0,.int .u8 0,.int .u8 0,.int .u8 0,.int .u8 0,.int .u8 0,.int .u8 0,.int .u8 0,.int .u8 0,.int .u8 0,.int .u8 0,.int .u8 0] 24
def r9:Obj:=.cells #[.int .u8 0,.int .u8 0,.int .u8 0,.int .u8 0,.int .u8 0,.int .u8 0,.int .u8 0,.int .u8 0,.int .u8 0,.int .u8 0,.int .u8 0,.int .u8 0,.int .u8 0,.int .u8 0,.int .u8 0,.int .u8 0,.int .u8 0,.int .u8 0,.int .u8 0,.int .u8 0,.int .u8 0,.int .u8 0,.int .u8 0,.int .u8 0,.int .u8 0,.int .u8 0,.int .u8 0,.int .u8 0,.int .u8 0,.int .u8 0,.int .u8 0,.int .u8 0,.int .u8 0,.int .u8 0,.int .u8 0,.int .u8 0,.int .u8 0,.int .u8 0,.int .u8 0,.int .u8 0,.int .u8 0,.int .u8 0,.int .u8 0,.int .u8 0,.int .u8 0,.int .u8 0,.int .u8 0,.int .u8 0,.int .u8 0,.int .u8 0,.int .u8 0,.int .u8 0,.int .u8 0,.int .u8 0,.int .u8 0,.int .u8 0,.int .u8 0,.int .u8 0,.int .u8 0,.int .u8 0,.int .u8 0,.int .u8 0,.int .u8 0,.int .u8 0,.int .u8 0,.int .u8 0,.int .u8 0,.int .u8 0,.int .u8 0,.int .u8 0,.int .u8 0,.int .u8 0,.int .u8 0,.int .u8 0,.int .u8 0,.int .u8 0,.int .u8 0,.int .u8 0,.int .u8 0,.int .u8 0,.int .u8 0,.int .u8 0,.int .u8 0,.int .u8 0,.int .u8 0,.int .u8 0,.int .u8 0,.int .u8 0,.int .u8 0,.int .u8 0,.int .u8 0,.int .u8 0,.int .u8 0,.int .u8 0,.int .u8 0,.int .u8 0,.int .u8 0,.int .u8 0,.int .u8 0,.int .u8 0,.int .u8 0,.int .u8 0,.int .u8 0,.int .u8 0,.int .u8 0,.int .u8 0,.int .u8 0,.int .u8 0,.int .u8 0,.int .u8 0,.int .u8 0,.int .u8 0,.int .u8 0,.int .u8 0,.int .u8 0,.int .u8 0,.int .u8 0,.int .u8 0,.int .u8 0,.int .u8 0,.int .u8 0,.int .u8 0,.int .u8 0,.int .u8 0,.int .u8 0,.int .u8 0,.int .u8 0,.int .u8 0,.int .u8 0,.int .u8 0,.int .u8 0,.int .u8 0,.int .u8 0,.int .u8 0,.int .u8 0,.int .u8 0,.int .u8 0,.int .u8 0,.int .u8 0,.int .u8 0,.int .u8 0,.int .u8 0,.int .u8 0,.int .u8 0,.int .u8 0,.int .u8 0,.int .u8 0,.int .u8 0,.int .u8 0,.int .u8 0,.int .u8 0,.int .u8 0,.int .u8 0,.int .u8 0,.int .u8 0,.int .u8 0,.int .u8 0,.int .u8 0,.int .u8 0,.int .u8 0,.int .u8 0,.int .u8 0,.int .u8 0,.int .u8 0,.int .u8 0,.int .u8 0,.int .u8 0,.int .u8 0,.int .u8 0,.int .u8 0,.int .u8 0,.int .u8 0,.int .u8 0,.int .u8 0,.int .u8 0,.int .u8 0,.int .u8 0,.int .u8 0,.int .u8 0,.int .u8 0,.int .u8 0,.int .u8 0,.int .u8 0,.int .u8 0,.int .u8 0,.int .u8 0,.int .u8 0,.int .u8 0,.int .u8 0,.int .u8 0,.int .u8 0,.int .u8 0,.int .u8 0,.int .u8 0,.int .u8 0,.int .u8 0,.int .u8 0,.int .u8 0,.int .u8 0,.int .u8 0,.int .u8 0,.int .u8 0,.int .u8 0,.int .u8 0,.int .u8 0,.int .u8 0,.int .u8 0,.int .u8 0,.int .u8 0,.int .u8 0,.int .u8 0,.int .u8 0,.int .u8 0,.int .u8 0,.int .u8 0,.int .u8 0,.int .u8 0,.int .u8 0,.int .u8 0,.int .u8 0,.int .u8 0,.int .u8 0,.int .u8 0,.int .u8 0,.int .u8 0,.int .u8 0,.int .u8 0,.int .u8 0,.int .u8 0,.int .u8 0,.int .u8 0,.int .u8 0,.int .u8 0,.int .u8 0,.int .u8 0,.int .u8 0,.int .u8 0,.int .u8 0,.int .u8 0,.int .u8 0,.int .u8 0,.int .u8 0,.int .u8 0,.int .u8 0,.int .u8 0,.int .u8 0,.int .u8 0,.int .u8 0,.int .u8 0,.int .u8 0,.int .u8 0,.int .u8 0,.int .u8 0,.int .u8 0,.int .u8 0,.int .u8 0] 182
def r_:Obj:=.cells #[(0:Int),.int .u64 0,()] 150
def yQ:Obj:=.cells #[(),(0:Int)] 334
def a1:aO:=(.s .r (.c (.s .r .l) .l))
def fa:aO:=(.s .r (.s (.c .l .l) (.s (.b3 (.s .r a1)) .r)))
def gl:aO:=(.s .r (.s (.s .r (.b3 (.loop [(8,(.int .i64))] [0,1,7] fa))) (.s .r .l)))
def db:aO:=(.s .r (.s a1 (.s .r .l)))
def eB:aO:=(.s .r (.c (.s .r .l) a1))
def fv:aO:=(.s .r (.s (.c .l .l) (.s (.b3 (.s .r (.s .r a1))) .r)))
def a2:aO:=(.s .r (.s (.c .l .l) (.s (.b3 (.s .r .r)) .r)))
def a3:aO:=(.s .r (.s (.dh [.r,.r,.r,.pure 2]) .l))
def a4:aO:=(.s .r (.s .r (.s .r .l)))
def a5:aO:=(.s (.dh [.r,.r,.r,.pure 2]) (.c (.s .r .l) .l))
def dL:aO:=(.s .r (.s (.s (.dh [.r,.r,.r,.pure 2,.r,.r,.r,.pure 2]) (.c (.s .r .l) .l)) (.s .r .l)))
def dT:aO:=(.s .r (.s (.dh [.r,.r,.r,.r,.pure 3]) .l))
def eT:aO:=(.c (.s .r (.s .r .l)) .l)
def a9:aO:=(.s .r (.s (.dh [.r,.r,.r,.pure 2,.r,.r,.r,.split 7]) .l))
def eC:aO:=(.s (.dh [.r,.r,.r,.split 3]) (.c (.s .r .l) .l))
theorem okF{f:Nat}{fn:Func}(p:J->(Y->J->Prop)->Prop)(A:aO){args:O Y}{w:J}{Q:Y->J->Prop}(hf:Tryz.prog.funcs[f]? =some fn)(h:p w Q)(h1:mB fn args.length=true:=by kernel_rfl)(a:p w Q=nW ai tk A fn args w Q:=by kernel_rfl):aH ai f args.toArray w Q:=B8 vq hf h1 (Eq.mp a h)
def sf(a:J)(c:J)(aj:J)(d:an)(Q:Y->J->Prop):Prop:=r1 a ((aa c).add 1) λe=>r1 a ((aa c).add 2) λf=>r1 a ((aa c).add 3) λg=>bj a (aa aj)
 [d,e,f,g]/\(4:Nat)=4/\al (setCells a (aa aj) 0 [d,e,f,g]) λb=>aX b (aa aj) λh=>r1 b ((aa aj).add 1) λi=>r1 b ((aa aj).add 2) λj=>r1 b ((aa aj).add 3) λk=>Q (.tuple #[.agg #[h,i,j,k],true]) b
def se(c:ad)(d:J)(e:J)(f:J)(g:J->Prop):Prop:=∃a:ad,∃b:J,Sem.run ai (Builtin.append_ #[127,127] 127 #[c,
 .slice (some (aa d)) 1 1]) e=.ok a b/\st b ((aa f).add 1) a λh=>g h
def sd(a:J)(aj:J)(Q:Y->J->Prop)(b:an):Prop:=r1 a ((aa aj).add 1) λc=>r1 a ((aa aj).add 2) λd=>r1 a ((aa aj).add 3) λe=>Q (.tuple #[.agg #[b,c,d,e],false]) a
def bX(l:J)(a:J)(m:an)(n:ad)(o:ad)(p:ad)(b:J)(q:an)(r:ad)(s:ad)(t:ad)(w:J)(key:ad)(aj:J)(Q:Y->J->Prop):Prop:=bj l (aa a)
 [m,n,o,p]/\(4:Nat)=4/\al (setCells l (aa a) 0 [m,n,o,p]) λu=>bj u (aa b) [q,r,s,t]/\(4:Nat)=4/\al (setCells u (aa b) 0 [q,r,s,t]) λf=>bY (λv:J->Prop=>aX f (aa w) λF=>ao (!F) (al (f.drew) λg=>∃h:Nat->Prop,¬h ((aa a).add 1).block/\r1 g ((aa a).add 1)
 λG=>bG 135 #[key] g λH d=>ae h g d/\al (d.alloc (.cells #[H] 48)) λx=>ae h d x/\se G d x a v) (v
 f)) (λi=>r1 i ((aa a).add 1) λI=>r1 i ((aa b).add 1) λK=>∃y:ad,∃z:J,Sem.run ai (Builtin.append_ #[127,127] 127 #[I,
 K]) i=.ok y z/\st z ((aa a).add 1) y λj=>r1 j ((aa a).add 2) λL=>r1 j ((aa b).add 2) λM=>∃A:ad,
 ∃B:J,Sem.run ai (Builtin.append_ #[127,127] 127 #[L,M]) j=.ok A B/\st B ((aa a).add 2)
 A λk=>r1 k ((aa a).add 3) λN=>r1 k ((aa b).add 3) λO=>∃C:ad,∃D:J,Sem.run ai (Builtin.append_ #[58,58] 58 #[N,O]) k=.ok C D/\st D ((aa a).add 3) C λc=>aX c (aa a) λP=>r1 c ((aa a).add 1) λR=>r1 c
 ((aa a).add 2) λS=>r1 c ((aa a).add 3) λT=>b_ 203 #[.agg #[P,R,S,T]] c λU e=>ao (!U) (bj
 e (aa aj) [false,(),(),()]/\(4:Nat)=4/\al (setCells e (aa aj) 0 [false,(),(),()]) λE=>aX E (aa aj) λV=>sd E aj Q
 V) (aX e (aa a) λW=>sf e a aj W Q))
def sg(d:J)(a:J)(e:an)(f:ad)(g:ad)(h:ad)(i:an)(Q:Y->J->Prop)(c:aq ah)(n31:Int):Prop:=bj d (aa a) [e,f,
 g,h]/\(4:Nat)=4/\al (setCells d (aa a) 0 [e,f,g,h]) λb=>
 ao (!i) (Q (.tuple #[(),(0:Int),(0:Int),(4:Int)]) b) (aX b (aa a) λj=>r1 b ((aa a).add 1) λk=>r1 b ((aa a).add 2) λl=>r1 b ((aa a).add 3) λ
 m=>dS 281 #[c,.agg #[j,k,l,m]] b λn o p=>Q (.tuple #[n,n31,.int .i64 (au (n31+2)),o]) p)
def qc(a:J)(b:J)(c:an)(d:ad)(e:ad)(f:ad)(g:J->Prop):Prop:=bj a (aa b) [c,d,e,f]/\(4
 :Nat)=4/\al (setCells a (aa b) 0 [c,d,e,f]) λh=>g h
def b2(j:J)(e:J)(q:an)(r:ad)(s:ad)(t:ad)(U:Nat->Prop)(f:J)(u:an)(v:ad)(x:ad)(y:ad)(up:aq ah)(n36:Int)(w:J)(h:J)(n31:Int)(Q:Y
 ->J->Prop)(c:aq ah):Prop:=bj j (aa e) [q,r,s,t]/\(4:Nat)=4/\al (setCells j (aa e) 0 [q,r,s,t]) λk=>ae U j k/\bj k (aa f) [u,v,x,y]/\(4:
 Nat)=4/\al (setCells k (aa f) 0 [u,v,x,y]) λl=>bY (λz:J->Prop=>∃A:ah,up=some A/\aE l (A.add 5) λV
 =>ao (decide (n36>V)) (al (l.drew) λd=>∃m:Nat->Prop,¬m ((aa w):ah).block/\aX d (aa w) λB=>r1 d ((aa w).add 1) λC=>r1 d ((aa w).add 2) λD=>r1 d ((aa w).add 3) λE
 =>¬m ((aa h):ah).block/\aX d (aa h) λW=>r1 d ((aa h).add 1) λX=>r1 d ((aa h).add 2) λZ=>r1 d ((aa h).add 3) λab=>bj d (aa e) [B,C,D,E]/\(4:Nat)=4/\al (setCells d (aa e) 0 [B,C,D,E]) λF=>ae m d
 F/\qc F f W X Z ab z) (z l)) (λac=>al (ac.drew) λb=>∃g:Nat->Prop,¬g ((aa e):ah).block/\aX b (aa e) λG=>r1 b ((aa e).add 1) λH=>r1 b ((aa e).add 2) λ
 I=>r1 b ((aa e).add 3) λK=>∃n:ah,up=some n/\¬g ((n.add 1).add 1).block/\r1 b ((n.add 1).add 1) λL=>∃o:ah,L.a=some o/\aL n31 L.len/\¬g (o.add (n31.toNat*
 1)).block/\r1 b (o.add (n31.toNat*1)) λM=>¬g ((aa f):ah).block/\aX b (aa f) λN=>r1 b ((aa f).add 1) λO=>r1 b ((aa f).add 2) λP=>r1 b ((aa f).add 3) λ
 R=>(n4 282 #[.agg #[G,H,I,K],M,.agg #[N,O,P,R]] b λaf ag ai aj ak i=>ae g b i/\al (i.alloc z4) λS=>ae g i S/\sg S i af ag ai aj ak Q c n31)/\(al (b.alloc z4) λ
 p=>ae g b p/\n4 282 #[.agg #[G,H,I,K],M,.agg #[N,O,
 P,R]] p λam ap ar au av T=>ae g p T/\sg T b am ap ar au av Q c n31))
def dp(a:J)(b:J)(w1:J)(Q:Y->J->Prop):Prop:=aX a (aa b) λc=>sf a b w1 c Q
def sh(a:J)(c:J)(w1:J)(d:an)(Q:Y->J->Prop):Prop:=r1 a ((aa c).add 1) λe=>r1 a ((aa c).add 2) λf=>r1 a ((aa c).add 3) λg=>bj a (aa w1)
 [d,e,f,g]/\(4:Nat)=4/\al (setCells a (aa w1) 0 [d,e,f,g]) λb=>aX b (aa w1) λh=>r1 b ((aa w1).add 1) λi=>r1 b ((aa w1).add 2) λj=>r1 b ((aa w1).add 3) λk=>Q (.agg #[h,i,j,k]) b
def lK(n:J)(b:J)(h:Array Y)(l:ad)(w:J)(to:Int)(w1:J)(Q:Y->J->Prop):Prop:=bj n (aa b) (Array.toList h)/\Array.size h=4/\al (setCells n (aa b) 0
 (Array.toList h)) λB=>∃ (i:Int->J->Prop) (o:Int->J->Nat),i 0 B/\∀ (n19:Int) (c:J),i n19 c->ao (decide (n19<(l.len:Int))) (∃j:ah,l.a=some j/\aL n19 l.len/\r1 c (j.add
 (n19.toNat*2)) λp=>aE c ((j.add (n19.toNat*2)).add 1) λn23=>al (c.alloc yQ) λq=>bj q (aa c) [p,n23]/\(2:Nat)=2/\al (setCells q (aa c) 0 [p,n23]) λd=>bY (λr:J->Prop=>r1 d (aa c) λC=>ao (!(Option.isNone C.a)) (r1 d ((aa b).add 1) λD=>r1 d (aa c) λE=>al (d.alloc (.cells #[E] 48)) λF=>se D d F b r) (r d)) (λg=>r1 g ((aa b).add 3) λG=>aE g ((aa c).add 1) λn36=>al (g.alloc (.cells #[n36] 3)) λH=>∃s:ad,
 ∃t:J,Sem.run ai (Builtin.append_ #[58,58] 58 #[G,.slice (some (aa g)) 1 1]) H=.ok s t/\st t ((aa b).add 3) s λu=>i (au (n19+1)) u/\o (au (n19+1)) u<o n19 c)) (al (c.drew) λk=>¬False/\r1 k ((aa b).add 1) λI=>¬False/\r1 k ((aa w).add 1) λe=>((0:Int)<=(au (to-
 1))/\(au (to-1))<=(e.len:Int))/\∃v:ad,∃x:J,Sem.run ai (Builtin.append_ #[127,127] 127 #[I,.slice (aJ e.a 1 ((au (to-1)).toNat) e.cap)
 (e.len-((au (to-1)).toNat)) (e.cap-((au (to-1)).toNat))]) k=.ok v x/\st x ((aa b).add 1) v λK=>al (K.drew) λm=>¬False/\r1 m
 ((aa b).add 3) λL=>¬False/\r1 m ((aa w).add 3) λf=>((0:Int)<=to/\to<=(f.len:Int))/\∃y:ad,∃z:J,Sem.run ai (Builtin.append_ #[58,58] 58 #[L,.slice (aJ f.a 1 (to.toNat) f.cap) (f.len-(to.toNat)) (f.cap-(to.toNat))]) m=.ok y z/\st z ((aa b).add 3) y λA=>aX A (aa
 b) λM=>sh A b w1 M Q)
def mH(o:Array Y)(f:J)(c:Nat->Prop)(p:Array Y)(w1:J)(aj:J)(Q:Y->J->Prop)(q:ad):Prop:=gg 204 #[.agg o] f λg h i j d=>ae c f d/\gg
 204 #[.agg p] d λk l m n b=>ae c d b/\bj b (aa w1) [g,h,i,j]/\(4:Nat)=4/\al (setCells b (aa w1) 0
 [g,h,i,j]) λe=>ae c b e/\bj e (aa aj) [k,l,m,n]/\(4:Nat)=4/\al (setCells e (aa aj) 0 [k,l,m,n]) λa=>aX a (aa w1) λr=>r1 a ((aa w1).add 1) λs=>
 r1 a ((aa w1).add 2) λt=>r1 a ((aa w1).add 3) λu=>aX a (aa aj) λv=>r1 a ((aa aj).add 1) λw=>r1 a ((aa aj).add 2) λx=>r1 a ((aa aj).add 3) λy=>Q (.tuple #[.agg
 #[r,s,t,u],q,.agg #[v,w,x,y],true]) a
def si(a:J)(w1:J)(Q:Y->J->Prop):Prop:=aX a (aa w1) λb=>sd a w1 Q b
def gL(a:J)(b:J)(w1:J)(Q:Y->J->Prop):Prop:=aX a (aa b) λc=>sh a b w1 c Q
def sj(a:J)(w:J)(Q:Y->J->Prop)(n7:Int):Prop:=aX a (aa w) λb=>r1 a ((aa w).add 1) λc=>r1 a ((aa w).add 2) λd=>r1 a ((aa w).add 3) λe=>Q (.tuple #[.agg #[b,c,d,e],n7]) a
def fG(g:ad)(n17:Int)(c:J)(d:J)(n:Int->J->Prop)(h:Int->J->Nat):Prop:=∃i:ah,g.a=some i/\aL n17 g.len/\r1 c (i.add (n17.toNat*1)) λo=>al (c.drew) λe
 =>∃f:Nat->Prop,¬f ((aa d).add 1).block/\r1 e ((aa d).add 1) λp=>bG 135 #[o] e λq b=>ae f e b/\al (b.alloc (.cells #[q] 48)) λj=>ae f b j/\∃k:ad,∃l:J,Sem.run ai (Builtin.append_ #[127,127] 127 #[p,.slice (some (aa b)) 1 1]) j=
 .ok k l/\st l ((aa d).add 1) k λm=>n (au (n17+1)) m/\h (au (n17+1)) m<h n17 c
def yR(g:ad)(n34:Int)(c:J)(d:J)(n:Int->J->Prop)(h:Int->J->Nat):Prop:=∃i:ah,g.a=some i/\aL n34 g.len/\r1 c (i.add (n34.toNat*1)) λo=>al (c.drew) λe
 =>∃f:Nat->Prop,¬f ((aa d).add 2).block/\r1 e ((aa d).add 2) λp=>bG 135 #[o] e λq b=>ae f e b/\al (b.alloc (.cells #[q] 48)) λj=>ae f b j/\∃k:ad,∃l:J,Sem.run ai (Builtin.append_ #[127,127] 127 #[p,.slice (some (aa b)) 1 1]) j=
 .ok k l/\st l ((aa d).add 2) k λm=>n (au (n34+1)) m/\h (au (n34+1)) m<h n34 c
def vt(g:J)(aj:J)(w1:J)(h:J->Prop):Prop:=al (g.drew) λb=>∃c:Nat->Prop,¬c ((aa aj).add 3).block/\r1 b ((aa aj).add 3) λi=>b9 272 #[.pointer (some (aa
 w1)),(2:Int)] b λn14 a=>ae c b a/\al (a.alloc (.cells #[n14] 3)) λd=>ae c a d/\∃e:ad,∃f:J,Sem.run ai (Builtin.append_ #[58,58] 58 #[i,.slice (some (aa a)) 1 1]) d=.ok e f/\st f ((aa aj).add 3) e λj=>h j
def qd(a:J)(w:J)(Q:Y->J->Prop):Prop:=aX a (aa w) λb=>r1 a ((aa w).add 1) λc=>r1 a ((aa w).add 2) λd=>r1 a ((aa w).add 3) λe=>Q (.tuple #[.agg #[b,
 c,d,e],(4:Int)]) a
def vu(m:Y)(n:J)(d:aq ah)(o:J->Prop)(h:J->Nat)(p:J):Prop:=∃n15:Int,∃q:Y,∃i:J,Sem.run ai (Instr.entry (m)) n=.ok (.tuple #[n15,q])
 i/\al (i.drew) λb=>∃j:Nat->Prop,∃c:ah,d=some c/\¬j (c.add 4).block/\r1 b (c.add 4) λk=>jY 137 #[d,n15] b λe f=>ae j b f/\∃g:ah,
 k.a=some g/\aL n15 k.len/\bj f (g.add (n15.toNat*256)) (Array.toList e)/\Array.size e=256/\al (setCells f (g.add (n15.toNat*256)) 0 (Array.toList e)) λl=>o l/\h l<h p
def sk(a:J)(b:ad)(c:J)(d:ad)(Q:Y->J->Prop):Prop:=al (a.alloc (.cells #[b,.slice (some (aa c)) 2 2,d] 48)) λe=>bG
 92 #[.slice (some (aa a)) 3 3] e λf g=>Q (.tuple #[f,true]) g
def vv(h:ad)(j:ad)(c:J)(k:Nat->Prop)(l:aq Nat)(i:Int)(d:aq ah)(Q:Y->J->Prop):Prop:=∃e:ad,∃a:J,Sem.run ai (Builtin.append_ #[136,
 136] 136 #[h,j]) c=.ok e a/\ae k c a/\∃b:J,Sem.run ai (Instr.mapUpdate 137
 (.map l) i e) a=.ok () b/\∃f:ah,d=some f/\aE b (f.add 6) λn24=>∃g:ah,d=some g/\st b (g.add 6) (.int .i64 (au (n24+1))) λm=>Q (0:Int) m
def sm(b:an)(a:an->J->Prop)(aj:J)(w:J):Prop:=ao (!b) (a true aj) (aX aj (aa w) λc=>r1 aj ((aa w).add 1) λd=>r1 aj ((aa w).add 2) λe=>r1 aj ((aa w).add 3) λdM=>b_
 203 #[.agg #[c,d,e,dM]] aj λf g=>a (!f) g)
def eU(a:ad):Prop:=(0:Int)<=(au (232-(a.len:Int)))/\((au (232-(a.len:Int))):Int)<=(au (232-(a.len:Int)))/\((au (232-(a.len:Int))):Int)<=jx/\((1:Nat):Int)*(au (232-(a.len:Int)))<=
 140737488355328
def vw(a:J)(c:ad)(d:J)(e:ad)(f:J)(b:ad)(g:ad->J->Prop):Prop:=al (a.alloc (.cells #[c,.slice (some (aa d)) (Int.toNat 4) (Int.toNat 4),e,.slice (some (aa f)) ((au (232-(b.len:Int))).toNat) ((au (232-(b.len:Int))).toNat)] 48)) λh=>bG 92 #[.slice (some (aa a)) 4 4] h λi j=>g i j
def vx(d:aq ah)(a:J)(Q:Y->J->Prop):Prop:=∃b:ah,d=some b/\∃c:aq Nat,a.cell? (b.add 5)=some (.map c)/\∃ (f:Y) (e:J),Sem.run ai (Builtin.clear_
 #[137] 0 #[.map c]) a=.ok f e/\Q (0:Int) e
def vy(a:J)(w:J)(Q:Y->J->Prop):Prop:=aE a (aa w) λn9=>b4 a ((aa w).add 1) λn10=>r1 a ((aa w).add 2) λb=>Q (.tuple #[.agg #[n9,.int .u64 n10,b],(4:Int)]) a
def vz(b:J)(w:J)(a:O Y)(Q:Y->J->Prop):Prop:=bj b (aa w) (Array.toList a.toArray)/\Array.size a.toArray=256/\al (setCells b (aa w) 0 (Array.toList a.toArray)) λc=>∃d:O
 Y,bz c (aa w) 0 256=some d/\Q (.agg d.toArray) c
def vA(aj:J)(w:J)(e1:Array Y)(Q:Y->J->Prop):Prop:=bj aj (aa w) (Array.toList e1)/\Array.size e1=17/\al (setCells aj (aa w) 0 (Array.toList e1)) λa=>∃b:O Y,bz a (aa w) 0
 17=some b/\Q (.tuple #[.agg b.toArray,true]) a
def sn(h:J)(b:J)(i:an)(j:ad)(k:ad)(l:ad)(m:Int)(Q:Y->J->Prop)(c:aq ah)(n41:Int)(w:J)(up:aq ah)(n36:Int)(n31:Int):Prop:=bj h (aa b)
 [i,j,k,l]/\(4:Nat)=4/\al (setCells h (aa b) 0 [i,j,k,l]) λe=>ao (m !=0) (Q (.tuple #[(),(0:Int),(0:Int),m]) e) (∃n:ah,c=some n/\r1 e (n.add 2) λC=>al (e.alloc (.cells #[n41] 3)) λD=>∃o:
 ad,∃p:J,Sem.run ai (Builtin.append_ #[58,58] 58 #[C,.slice (some (aa e)) 1 1]) D=.ok o p/\∃q:ah,c=some q/\st p (q.add
 2) o λE=>al (E.drew) λa=>∃d:Nat->Prop,¬d ((aa b):ah).block/\aX a (aa b) λr=>r1 a ((aa b).add 1) λs=>r1 a ((aa b).add 2) λt=>r1 a
 ((aa b).add 3) λu=>¬d ((aa w):ah).block/\aX a (aa w) λv=>r1 a ((aa w).add 1) λx=>r1 a ((aa w).add 2) λy=>r1 a ((aa w).add 3) λz=>(al (a.alloc z4) λf=>ae d
 a f/\al (f.alloc z4) λA=>ae d f A/\b2 A a r s t u d f v x y z up n36 w b n31 Q c)/\(al (a.alloc z4) λg=>ae d a g/\al (g.alloc z4) λB=>ae d g B/\b2 B
 g r s t u d a v x y z up n36 w b n31 Q c))
def mI(c:an)(d:ad)(e:ad)(f:ad)(a:J)(g:Nat->Prop)(h:J)(i:an)(j:ad)(k:ad)(l:ad)(m:J)(w:J)(key:ad)(aj:J)(Q:Y->J->Prop):Prop:=gg
 204 #[.agg #[c,d,e,f]] a λn o p q b=>ae g a b/\bX b h i j k l m n o p q w key aj
 Q
def vB(g:J)(a:J)(c:Array Y)(w:J)(w1:J)(Q:Y->J->Prop):Prop:=bj g (aa a) (Array.toList c)/\Array.size c=4/\al (setCells g (aa a) 0 (Array.toList c)) λh=>r1
 h ((aa w).add 1) λi=>∃ (d:Int->J->Prop) (k:Int->J->Nat),d 0 h/\∀ (n17:Int) (b:J),d n17 b->ao (decide (n17<(i.len:Int))) (fG i n17 b a d k) (r1 b ((aa w).add 2) λ
 j=>∃ (e:Int->J->Prop) (l:Int->J->Nat),e 0 b/\∀ (n34:Int) (f:J),e n34 f->ao (decide (n34<(j.len:Int))) (yR j n34 f a e l) (gL f a w1 Q))
def vC(a:J)(w:J)(Q:Y->J->Prop)(n7:Int):Prop:=bj a (aa w) [false,(),(),()]/\(4:Nat)=4/\al (setCells a (aa w) 0 [false,(),
 (),()]) λb=>sj b w Q n7
set_option maxRecDepth 100000
def ag.mJ(s:ad)(w:J)(Q:Y->J->Prop):Prop:=ao (Option.isNone s.a) (Q () w) (al (w.alloc (.cells #[] 5)) λw1=>∃s2:ad,∃b:J,Sem.run ai
 (Builtin.append_ #[48,48] 48 #[.slice (some (aa w)) 0 0,s]) w1=.ok s2 b/\Q s2 b)
def az.mJ:aO:=db
def ag.mK(a:ad)(b:ad)(w:J)(Q:Y->J->Prop):Prop:=∃s1:ByteArray,∃aj:J,Sem.run ai (convert 48 9 a) w=.ok (.string s1) aj/\∃c:ByteArray,∃d
 :J,Sem.run ai (convert 48 9 b) aj=.ok (.string c) d/\Q (.bool (ByteArray.toList s1==ByteArray.toList c)) d
def az.mK:aO:=(.s .r (.s .r .l))
def ag.lL(a:ad)(b:ad)(w:J)(Q:Y->J->Prop):Prop:=∃bM:Int,∃aj:J,Sem.run ai (callFunc 230 #[a,b]) w=.ok (.value bM) aj/\Q bM aj
def az.lL:aO:=(.s .r (.s .r .l))
def ag.so(s:ad)(w:J)(Q:Y->J->Prop):Prop:=ao (Option.isNone s.a) (Q () w) (al (w.alloc (.cells #[] 5)) λw1=>∃s2:ad,∃b:J,Sem.run ai
 (Builtin.append_ #[215,215] 215 #[.slice (some (aa w)) 0 0,s]) w1=.ok s2 b/\Q s2 b)
def az.so:aO:=db
def ag.sq(x:Int)(w:J)(Q:Y->J->Prop):Prop:=(0:Int)<=x/\∃cg:UInt8,uR (ByteArray.mk #[0,1,1,2,1,2,2,3,1,2,2,3,2,3,3,4,1,2,2,3,2,3,3,4,2,3,3,4,3,4,4,5,1,2,
 2,3,2,3,3,4,2,3,3,4,3,4,4,5,2,3,3,4,3,4,4,5,3,4,4,5,4,5,5,6,1,2,2,3,2,3,3,4,2,3,3,4,3,4,4,5,2,3,3,4,3,4,4,5,3,4,4,5,4,5,5,6,2,3,3,4,3,4,4,5,3,4,4,5,4,5,5,6,3,4,
 4,5,4,5,5,6,4,5,5,6,5,6,6,7,1,2,2,3,2,3,3,4,2,3,3,4,3,4,4,5,2,3,3,4,3,4,4,5,3,4,4,5,4,5,5,6,2,3,3,4,3,4,4,5,3,4,4,5,4,5,5,6,3,4,4,5,4,5,5,6,4,5,5,6,5,6,6,7,2,3,
 3,4,3,4,4,5,3,4,4,5,4,5,5,6,3,4,4,5,4,5,5,6,4,5,5,6,5,6,6,7,3,4,4,5,4,5,5,6,4,5,5,6,5,6,6,7,4,5,5,6,5,6,6,7,5,6,6,7,6,7,7,8]) (x.toNat)=some cg/\Q (.int .i64 (au ((cg.toNat
 :Nat):Int))) w
def az.sq:aO:=(.s .r (.s .r .l))
def ag.sr(s:ad)(i:Int)(v:ad)(w:J)(Q:Y->J->Prop):Prop:=((0:Int)<=i/\i<=(s.len:Int))/\ao ((v.len:Int)==0) (Q s w) (ao (i==(s.len:Int)) (∃s1:ad,
 ∃aj:J,Sem.run ai (Builtin.append_ #[127,127] 127 #[s,v]) w=.ok s1 aj/\Q s1 aj) (ao (decide
 (((au ((s.len:Int)+(v.len:Int))):Int)>(s.cap:Int))) (((0:Int)<=i/\i<=(s.cap:Int))/\∃b:ad,∃d:J,Sem.run ai (Builtin.append_ #[127,3] 127 #[.slice (aJ s.a 1 0
 s.cap) ((i.toNat)-0) (s.cap-0),.int .i64 (au ((au ((s.len:Int)+(v.len:Int)))-i))]) w=.ok b d/\((0:Int)<=i/\i<=(b.len:Int))/\∃n5:Int,∃e:J,Sem.run ai (Builtin.copy_
 #[127,127] 3 #[.slice (aJ b.a 1 (i.toNat) b.cap) (b.len-(i.toNat)) (b.cap-(i.toNat)),v]) d=.ok n5 e/\al (e.drew) λl=>((0:Int)<=(au (i+
 (v.len:Int)))/\(au (i+(v.len:Int)))<=(b.len:Int))/\((0:Int)<=i/\i<=(s.len:Int))/\∃n8:Int,∃f:J,Sem.run ai (Builtin.copy_ #[127,127] 3 #[.slice (aJ b.a 1 ((au (i+
 (v.len:Int))).toNat) b.cap) (b.len-((au (i+(v.len:Int))).toNat)) (b.cap-((au (i+(v.len:Int))).toNat)),.slice (aJ s.a 1 (i.toNat) s.cap) (s.len-(i.toNat)) (s.cap-(i.toNat))]) l=.ok n8 f/\Q
 b f) (((0:Int)<=(au ((s.len:Int)+(v.len:Int)))/\(au ((s.len:Int)+(v.len:Int)))<=(s.cap:Int))/\((0:Int)<=(au (i+(v.len:Int)))/\(au (i+(v.len:Int)))<=(((((au ((s.len:Int)+
 (v.len:Int))).toNat)-0):Nat):Int))/\∃g:an,∃c:J,Sem.run ai (callFunc 252 #[v,.slice (aJ (aJ s.a 1 0 s.cap) 1 ((au (i+(v.len:Int))).toNat) (s.cap-0))
 ((((au ((s.len:Int)+(v.len:Int))).toNat)-0)-((au (i+(v.len:Int))).toNat)) ((s.cap-0)-((au (i+(v.len:Int))).toNat))]) w=.ok (.value g) c/\ao (!g) (al (c.drew) λm=>((0:Int)<=(au (i+
 (v.len:Int)))/\(au (i+(v.len:Int)))<=(((((au ((s.len:Int)+(v.len:Int))).toNat)-0):Nat):Int))/\((0:Int)<=i/\i<=(((((au ((s.len:Int)+(v.len:Int))).toNat)-0):Nat):Int))/\∃n13:Int,∃h:J,Sem.run
 ai (Builtin.copy_ #[127,127] 3 #[.slice (aJ (aJ s.a 1 0 s.cap) 1 ((au (i+(v.len:Int))).toNat) (s.cap-0)) ((((au ((s.len:Int)+(v.len:Int))).toNat)-0)-((au (i+
 (v.len:Int))).toNat)) ((s.cap-0)-((au (i+(v.len:Int))).toNat)),.slice (aJ (aJ s.a 1 0 s.cap) 1 (i.toNat) (s.cap-0)) ((((au ((s.len:Int)+(v.len:Int))).toNat)-0)-(i.toNat)) ((s.cap-0)-(i.toNat))]) m=
 .ok n13 h/\((0:Int)<=i/\i<=(((((au ((s.len:Int)+(v.len:Int))).toNat)-0):Nat):Int))/\∃n15:Int,∃j:J,Sem.run ai (Builtin.copy_ #[127,127] 3 #[.slice (aJ (aJ
 s.a 1 0 s.cap) 1 (i.toNat) (s.cap-0)) ((((au ((s.len:Int)+(v.len:Int))).toNat)-0)-(i.toNat)) ((s.cap-0)-(i.toNat)),v]) h=.ok n15 j/\Q (.slice (aJ s.a 1 0 s.cap)
 (((au ((s.len:Int)+(v.len:Int))).toNat)-0) (s.cap-0)) j) (((0:Int)<=(s.len:Int)/\(s.len:Int)<=(((((au ((s.len:Int)+(v.len:Int))).toNat)-0):Nat):Int))/\∃n17:Int,∃k:J,Sem.run ai
 (Builtin.copy_ #[127,127] 3 #[.slice (aJ (aJ s.a 1 0 s.cap) 1 (Int.toNat (s.len:Int)) (s.cap-0)) ((((au ((s.len:Int)+(v.len:Int))).toNat)-0)-(Int.toNat (s.len:Int))) ((s.cap-0)-(Int.toNat
 (s.len:Int))),v]) c=.ok n17 k/\((0:Int)<=i/\i<=(((((au ((s.len:Int)+(v.len:Int))).toNat)-0):Nat):Int))/\fV 253 #[.slice (aJ (aJ s.a 1 0 s.cap) 1
 (i.toNat) (s.cap-0)) ((((au ((s.len:Int)+(v.len:Int))).toNat)-0)-(i.toNat)) ((s.cap-0)-(i.toNat)),.int .i64 (v.len:Int)] k λn=>Q (.slice (aJ s.a 1 0 s.cap) (((au ((s.len:Int)+
 (v.len:Int))).toNat)-0) (s.cap-0)) n))))
def az.sr:aO:=(.s .r (.s .r (.s .r (.s a1 (.s .r (.s a1 (.s (.s .r (.c (.s .r (.s .r (.s (.cG 8 false ⟨[0,0,0,6,9,0,0,96,144],[0,0,0,6,9,0,0,96,144]⟩ [70368744177664,140737488355328,
 281474976710656,562949953421312,1125899906842624,2251799813685248,4503599627370496,9007199254740992,18014398509481984] [512,2,128,422212465065984,633318697598976,1,2,6755399441055744,10133099161583616] (.t 0 (.t 1 (.t 2 (.t 3
 (.t 4 (.t 5 (.t 6 (.t 7 (.tail [.r])))))))))) (.s .r .l)))) .l)) (.s .r (.s (.s .r (.c (.s (.cG 8 false ⟨[0,0,0,6,9,0,0,96,144],[0,0,0,6,9,0,0,96,144]⟩ [590295810358705651712,1180591620717411303424,
 2361183241434822606848,4722366482869645213696,9444732965739290427392,18889465931478580854784,37778931862957161709568,75557863725914323419136,151115727451828646838272] [1,2,128,3541774862152233910272,5312662293228350865408,1,2,
 56668397794435742564352,85002596691653613846528] (.t 0 (.t 1 (.t 2 (.t 3 (.t 4 (.t 5 (.t 6 (.t 7 (.tail [.r])))))))))) (.s .r (.s .r .l))) .l)) a4)))))))))
def ag.ss(x:ad)(target:ad)(cmp:iP)(w:J)(Q:Y->J->Prop):Prop:=∃ (d:Int->Int->J->Prop) (e:Int->Int->J->Nat),d 0 (x.len:Int) w/\∀ (b:Int)
 (cp:Int) (c:J),d b cp c->ao (decide (b<cp)) ((0:Int)<=1/\∃dL:ah,x.a=some dL/\((0:Int)<=(au (Int.fdiv (IntKind.wrap .u64 (au (b+cp))) (2^(min (Int.toNat 1) 64))))/\(au (Int.fdiv (IntKind.wrap .u64 (au
 (b+cp))) (2^(min (Int.toNat 1) 64))))<(x.len:Int))/\r1 c (dL.add (Int.toNat (au (Int.fdiv (IntKind.wrap .u64 (au (b+cp))) (2^(min (Int.toNat 1) 64))))*1)) λh=>iS ai cmp.f/\Calls ai cmp.f (cmp.pre
 ++ #[.slice h.a h.len h.cap,.slice target.a target.len target.cap]++cmp.cap) c λk g=>∃n10:Int,k=.returned (.int .i64 n10)/\ao (decide (n10<0)) (d (au ((au (Int.fdiv (IntKind.wrap .u64 (au (b+cp))) (2^(min
 (Int.toNat 1) 64))))+1)) cp g/\e (au ((au (Int.fdiv (IntKind.wrap .u64 (au (b+cp))) (2^(min (Int.toNat 1) 64))))+1)) cp g<e b cp c) (d b (au (Int.fdiv (IntKind.wrap .u64 (au (b+cp))) (2^(min (Int.toNat 1) 64)))) g
 /\e b (au (Int.fdiv (IntKind.wrap .u64 (au (b+cp))) (2^(min (Int.toNat 1) 64)))) g<e b cp c)) (bY (λj:an->J->Prop=>ao (decide (b<(x.len:Int))) (∃fa:ah,x.a=some fa/\aL b x.len/\r1 c (fa.add
 (Int.toNat b*1)) λi=>iS ai cmp.f/\Calls ai cmp.f (cmp.pre++ #[.slice i.a i.len i.cap,.slice target.a target.len target.cap]++cmp.cap) c λl m=>∃n16:Int,l=.returned (.int .i64 n16)/\
 j (n16==0) m) (j false c)) (λ(n:an) o=>Q (.tuple #[.int .i64 b,.bool n]) o))
def az.ss:aO:=(.s .r (.s .r (.s .r (.s (.b3 (.loop [(9,(.int .i64)),(10,(.int .i64))] [0,1,2,8] (.s (.s .r (.c .l .l)) (.b3 (.s .r (.s .r (.c .r .r))))))) (.s (.dh [.r,.r,.r,.r,
 .r,.split 8]) .l)))))
def ag.su(s:ad)(f:iP)(w:J)(Q:Y->J->Prop):Prop:=b9 278 #[s,.func (.func f.f) f.pre f.cap] w λa w1=>Q (.bool
 (decide (a>=0))) w1
def az.su:aO:=(.s .r (.s .r .l))
def ag.sw(s:ad)(f:iP)(w:J)(Q:Y->J->Prop):Prop:=b9 279 #[s,.func (.func f.f) f.pre f.cap] w λa w1=>Q (.bool (decide (a>=0))) w1
def az.sw:aO:=(.s .r (.s .r .l))
def ag.sx(s:ad)(w:J)(Q:Y->J->Prop):Prop:=ao (Option.isNone s.a) (Q () w) (al (w.alloc (.cells #[] 3)) λw1=>∃s2:ad,∃b:J,Sem.run ai (Builtin.append_
 #[58,58] 58 #[.slice (some (aa w)) 0 0,s]) w1=.ok s2 b/\Q s2 b)
def az.sx:aO:=db
set_option maxRecDepth 100000
def ag.qe(s:ad)(f:iP)(w:J)(Q:Y->J->Prop):Prop:=∃ (d:Int->J->Prop) (h:Int->J->Nat),d 0 w/\∀ (b:Int) (c:J),d b c->ao (decide (b<(s.len:Int)))
 (∃a5:ah,s.a=some a5/\aL b s.len/\r1 c (a5.add (Int.toNat b*1)) λe=>iS ai f.f/\Calls ai f.f (f.pre++ #[.slice e.a e.len e.cap]++f.cap) c λj g=>∃i:an,j=.returned (.bool i)/\
 ao i (Q (.int .i64 b) g) (d (au (b+1)) g/\h (au (b+1)) g<h b c)) (Q (.int .i64 (-1)) c)
def az.qe:aO:=gl
theorem ag.Cu(s:ad)(f:iP)(w:J)(Q:Y->J->Prop)(h:ag.qe s f w Q):aH ai 278 #[.slice s.a s.len s.cap,.func (.func f.f) f.pre f.cap] w Q:=okF (λw Q=>ag.qe s f w Q) az.qe func278 h
def ag.qf(s:ad)(f:iP)(w:J)(Q:Y->J->Prop):Prop:=∃ (d:Int->J->Prop) (g:Int->J->Nat),d 0 w/\∀ (b:Int) (c:J),d b c->ao (decide (b<(s.len:Int))) (∃a5:
 ah,s.a=some a5/\aL b s.len/\aE c (a5.add (Int.toNat b*1)) λn6=>iS ai f.f/\Calls ai f.f (f.pre++ #[.int .i64 n6]++f.cap) c λi e=>∃h:an,i=.returned (.bool h)/\ao h (Q (.int .i64
 b) e) (d (au (b+1)) e/\g (au (b+1)) e<g b c)) (Q (.int .i64 (-1)) c)
def az.qf:aO:=gl
theorem ag.Cv(s:ad)(f:iP)(w:J)(Q:Y->J->Prop)(h:ag.qf s f w Q):aH ai 279 #[.slice s.a s.len s.cap,.func (.func f.f) f.pre f.cap] w Q:=okF (λw Q=>ag.qf s f w Q) az.qf func279 h
def ag.sy(s:ad)(w:J)(Q:Y->J->Prop):Prop:=ao (Option.isNone s.a) (Q () w) (al (w.alloc (.cells #[] 48)) λw1=>∃s2:ad,∃b:J,Sem.run ai
 (Builtin.append_ #[127,127] 127 #[.slice (some (aa w)) 0 0,s]) w1=.ok s2 b/\Q s2 b)
def az.sy:aO:=db
set_option maxRecDepth 100000
def ag.lM(a:aq ah)(t:Array Y)(w:J)(Q:Y->J->Prop):Prop:=al (w.alloc (.cells t 29)) λw1=>bY (λcq:an->J->Prop=>ao (Option.isNone a) (cq true w1) (∃h:O
 Y,bz w1 (aa w) 0 21=some h/\b_ 65 #[.agg h.toArray] w1 λu v=>cq (!u) v)) (λ(x:an) c=>ao x (Q (1:Int) c) (aE c (aa w) λn9=>∃i:O Y,bz c ((aa w).add 1) 0 18=
 some i/\fW 66 #[n9,.agg i.toArray] c λe C f=>aE f ((aa w).add 19) λn15=>b4 f ((aa w).add 20) λn16=>fW 67 #[n15,.int .u64 n16] f λj D k=>∃l:
 ah,a=some l/\∃m:aq ah,k.cell? l=some (m)/\kp 55 #[m,e] k λE y n27 n=>ao (n27 !=0) (Q n27 n) (al (n.drew) λb=>∃
 o:Nat->Prop,ao (!y) (∃g:ah,a=some g/\¬o (g.add 1).block/\aE b (g.add 1) λn31=>b9 16 #[a] b λn34 d=>ae o b d/\ao (decide (n34>=n31)) (Q (2:Int) d) (∃p
 :ah,a=some p/\∃q:aq ah,d.cell? p=some (q)/\b9 23 #[q,e,j] d λn39 z=>Q n39 z)) (ao false (Q
 (2:Int) b) (∃r:ah,a=some r/\∃s:aq ah,b.cell? r=some (s)/\b9 23 #[s,e,j] b λA B=>Q A B)))))
def az.lM:aO:=(.s .r (.s eC (.s .r (.s .r (.s .r (.s (.b3 (.s .r (.c (.s .r .l) (.s (.cG 9 true ⟨[0,1,2,4,12,4,36,68,132,276,516,1040],[0,1,2,4,12,4,36,68,132,276,516,1024]⟩ [1125899906842624,
 2251799813685248,4503599627370496,9007199254740992,18014398509481984,36028797018963968,72057594037927936,144115188075855872,288230376151711744,576460752303423488,1152921504606846976,562949953421312] [1024,1125899906842624,
 2251799813685248,4503599627370497,13510798882111488,4503599627370497,40532396646334464,76561193665298432,148618787703226368,310748374288564224,580964351930793984,1152921504606846976] (.t 0 (.t 1 (.t 2 (.sp 52 (.t 3 (.t 5 (.t 6 (.t
 7 (.t 8 (.bZ 4 (.tail [.r,.r,.r]))))))) (.t 3 (.t 4 (.t 5 (.t 6 (.t 7 (.t 8 (.tail [.r,.r,.r])))))))))))) (.c (.s .r .l) .l))))) (.s .r .l)))))))
theorem ag.Cw(a:aq ah)(t:Array Y)(w:J)(Q:Y->J->Prop)(h:ag.lM a t w Q):aH ai 15 #[a,.agg t] w Q:=okF (λw Q=>ag.lM a t w Q) az.lM func15 h
def ag.mL(a:aq ah)(w:J)(Q:Y->J->Prop):Prop:=g9 32 #[a] w λb w1=>b9 56 #[b] w1 λn6 c=>Q n6 c
def az.mL:aO:=(.s .r (.s .r .l))
def ag.oa(n:Int)(w:J)(Q:Y->J->Prop):Prop:=ao ((decide (n<16))||(decide (n>1600))) (Q (.tuple #[.pointer none,(1:Int)]) w) (((0:Int)<=n/\n<=n/\n<=jx/\((256:Nat):Int)*n<=
 140737488355328)/\al (w.alloc (.cells (gx ai 182 (n.toNat)) 182)) λw1=>∃b:aq Nat,∃a:J,Sem.run ai (Instr.makeMap 137 none) w1=.ok (.map b) a/\∃e1:
 Array Y,Sem.run ai (Instr.build 141 #[(1,.slice (some (aa w)) (n.toNat) (n.toNat)),(2,.map b)]) a=.ok (.agg e1) a/\al (a.alloc (.cells e1 141)) λc=>∃dL:ah,(some (aa a):aq
 ah)=some dL/\fV 69 #[.pointer (some dL)] c λd=>Q (.tuple #[.pointer (some (aa a)),(0:Int)]) d)
def az.oa:aO:=(.s .r (.s a5 a4))
def ag.mM(d:aq ah)(s:Int)(t:Int)(u:Int)(w:J)(Q:Y->J->Prop):Prop:=al (w.alloc (.cells #[s,t,.int .u64 u] 46)) λw1=>
 aE w1 (aa w) λbf=>aE w1 ((aa w).add 1) λv=>b4 w1 ((aa w).add 2) λcp=>b_ 70 #[d,.agg #[bf,v,.int .u64 cp]] w1 λx l=>ao (!x) (Q (.tuple #[.pointer none,(1:Int)]) l) (b9 72 #[d] l λn10 y=>gK 71 #[n10,(3:Int)] y λm n14 n=>ao (n14 !=0) (Q (.tuple #[.pointer none,n14]) n) (bG 74 #[m] n λ
 z A=>dS 73 #[(2:Int),.agg #[(4:Int),.int .u64 1,z]] A λB n21 f=>ao (n21 !=0) (Q (.tuple #[.pointer none,n21]) f) (((0:Int)<=256/\(256:Int)<=256/\(256:
 Int)<=jx/\((1:Nat):Int)*256<=140737488355328)/\al (f.alloc (.cells (gx ai 5 (Int.toNat 256)) 5)) λi=>∃o:Array Y,Sem.run ai (Instr.build 151 #[(0,.slice (some (aa f))
 (Int.toNat 256) (Int.toNat 256)),(1,.slice (some (aa f)) (Int.toNat 256) (Int.toNat 256)),(2,B)]) i=.ok (.agg o) i/\∃ (j:Int->J->Prop) (p:Int->J->Nat),j 0 i/\∀ (n26:Int)
 (g:J),j n26 g->ao (decide (n26<3)) (((0:Int)<=n26/\n26<((3:Nat):Int))/\∃h:ad,cellAt o (n26.toNat*1)=some (.slice h.a h.len h.cap)/\b9 75 #[d,n26,h] g λn31 k=>ao (n31 !=0) (Q (.tuple #[.pointer none,n31]) k) (j (au (n26+1)) k/\p (au (n26+1)) k<p n26 g)) (b9 76 #[d] g λn34 b=>ao (n34 !=0)
 (Q (.tuple #[.pointer none,n34]) b) (al (b.alloc iV) λq=>bj q (aa b) [(0:Int),(0:Int),(2:Int),.int .u64 0,.int .u64 0,(0:Int)]/\(6:Nat)=6/\al (setCells q (aa b) 0 [(0:Int),
 .int .i64 0,(2:Int),.int .u64 0,.int .u64 0,(0:Int)]) λe=>aE e (aa b) λn37=>aE e ((aa b).add 1) λn38=>aE e ((aa b).add 2) λn39=>b4 e ((aa b).add 3) λn40=>b4 e (Addr.add
 (aa b) 4) λn41=>aE e ((aa b).add 5) λC=>b9 77 #[d,.agg #[n37,n38,n39,.int .u64 n40,.int .u64 n41,C],.int .u64 1] e λr c=>ao (r !=0)
 (Q (.tuple #[.pointer none,r]) c) (aE c (aa w) λD=>aE c ((aa w).add 1) λE=>b4 c ((aa w).add 2) λF=>aE c (aa b) λG=>aE c ((aa b).add 1) λH=>aE c ((aa
 b).add 2) λI=>b4 c ((aa b).add 3) λK=>b4 c ((aa b).add 4) λL=>aE c ((aa b).add 5) λM=>gK 78 #[d,.agg #[D,E,.int .u64 F],.agg #[G,H,I,.int .u64 K,.int .u64 L,M],.int .u64 1,m] c λN O P=>Q (.tuple #[N,O]) P))))))
def az.mM:aO:=(.s .r (.s a1 (.s .r (.s a1 (.s .r (.s a1 (.s .r (.s (.s .r (.b3 (.loop [(44,(.int .i64))] [0,3,6,43] fv))) (.s (.s .r a1) (.s .r (.s (.s .r a1) (.s .r .l))))))))))))
theorem ag.Cx(d:aq ah)(a:Int)(b:Int)(c:Int)(w:J)(Q:Y->J->Prop)(h:ag.mM d a b c w Q):aH ai 19 #[d,.agg #[a,b,.int .u64 c]] w Q:=okF (λw Q=>ag.mM d a b c w Q) az.mM func19 h
def ag.sA(s:aq ah)(key:ad)(val:ad)(w:J)(Q:Y->J->Prop):Prop:=bY (λcr:an->J->Prop=>ao (Option.isNone s) (cr true w) (b_ 79 #[key] w λh
 aj=>cr (!h) aj)) (λ(i:an) a=>ao (i||(decide ((val.len:Int)>24))) (Q (1:Int) a) (∃dT:ah,s=some dT/\aX a (dT.add 18) λj=>ao j (Q (8:Int) a) (b9 82 #[s] a λn11 b
 =>ao (n11==0) (Q (2:Int) b) (∃fa:ah,s=some fa/\∃e:aq ah,b.cell? fa=some (e)/\kp 80 #[e,key] b λp k n18 c=>ao (n18 !=0) (b9
 81 #[s,n18] c λn21 l=>Q n21 l) (∃f:ah,s=some f/\∃g:aq ah,c.cell? f=some (g)/\b9 85 #[g,key,val] c λn26 d=>ao (n26 !=0) (b9 81 #[s,n26] d λn29 m=>Q n29 m) (ao k (b9 84 #[s,(0:Int)] d λn32
 n=>Q n32 n) (b9 84 #[s,(1:Int)] d λn35 o=>Q n35 o)))))))
def az.sA:aO:=(.s .r (.s (.b3 (.s (.dh [.r,.r,.r,.split 3,.r,.r,.r,.r,.pure 3]) (.c (.s .r .l) eB))) (.s .r (.s a1 (.s (.s .r a1) (.s a1 (.s .r .l)))))))
def ag.ob(a:aq ah)(service:Int)(p:Array Y)(now:Int)(w:J)(Q:Y->J->Prop):Prop:=al (w.alloc (.cells p 26)) λw1=>al (w1.alloc fm) λaj=>∃l:O Y,bz aj
 (aa w) 0 18=some l/\fW 87 #[a,service,.agg l.toArray] aj λm B c=>ao (!B) (∃f:Array Y,Sem.run ai (Instr.build 29 #[]) c=.ok (.agg f) c/\bj c (aa w1)
 (Array.toList f)/\Array.size f=21/\al (setCells c (aa w1) 0 (Array.toList f)) λn=>∃o:O Y,bz n (aa w1) 0 21=some o/\Q (.tuple #[.agg o.toArray,false,(1:Int)]) n) (∃db:ah,a=some
 db/\∃q:aq ah,c.cell? db=some (q)/\kp 55 #[q,m] c λC D n17 d=>ao ((n17 !=0)||(!D)) (∃g:Array Y,Sem.run ai (Instr.build
 29 #[]) d=.ok (.agg g) d/\bj d (aa w1) (Array.toList g)/\Array.size g=21/\al (setCells d (aa w1) 0 (Array.toList g)) λr=>∃s:O Y,bz r (aa w1) 0 21=some s/\Q (.tuple
 #[.agg s.toArray,false,n17]) r) (ig 88 #[m,C] d λk E e=>al (e.alloc fm) λt=>bj t (aa e) (Array.toList k)/\Array.size k=
 21/\al (setCells t (aa e) 0 (Array.toList k)) λb=>ao (!E) (∃h:Array Y,Sem.run ai (Instr.build 29 #[]) b=.ok (.agg h) b/\bj b (aa w1) (Array.toList h)/\Array.size h=21/\al
 (setCells b (aa w1) 0 (Array.toList h)) λu=>∃v:O Y,bz u (aa w1) 0 21=some v/\Q (.tuple #[.agg v.toArray,false,(4:Int)]) u) (b4 b ((aa e).add 20) λn30=>ao (decide (n30<=now))
 (∃i:Array Y,Sem.run ai (Instr.build 29 #[]) b=.ok (.agg i) b/\bj b (aa w1) (Array.toList i)/\Array.size i=21/\al (setCells b (aa w1) 0 (Array.toList i)) λx=>∃y:O
 Y,bz x (aa w1) 0 21=some y/\Q (.tuple #[.agg y.toArray,false,(0:Int)]) x) (∃j:O Y,bz b (aa e) 0 21=some j/\bj b (aa w1) (Array.toList j.toArray)/\Array.size j.toArray=
 21/\al (setCells b (aa w1) 0 (Array.toList j.toArray)) λz=>∃A:O Y,bz z (aa w1) 0 21=some A/\Q (.tuple #[.agg A.toArray,true,(0:Int)]) z))))
def az.ob:aO:=(.s .r (.s .r (.s a1 (.s .r (.s a5 (.s .r (.s (.b3 eB) (.s .r .l))))))))
theorem ag.yS(a:aq ah)(service:Int)(p:Array Y)(now:Int)(w:J)(Q:Y->J->Prop)(h:ag.ob a service p now w Q):aH ai 27 #[a,service,.agg p,.int .u64 now] w Q:=okF (λw Q=>ag.ob a service p now w Q) az.ob func27 h
def ag.qg(a:aq ah)(service:Int)(p:Array Y)(w:J)(Q:Y->J->Prop):Prop:=al (w.alloc (.cells p 26)) λw1=>∃c:O Y,bz w1 (aa w) 0 18=some c/\fW
 87 #[a,service,.agg c.toArray] w1 λe f b=>ao (!f) (Q (.tuple #[false,(1:Int)]) b) (∃dT:ah,a=some dT/\∃d:aq ah,b.cell? dT=some (d)/\r7
 22 #[d,e] b λg n12 h=>Q (.tuple #[g,n12]) h)
def az.qg:aO:=(.s .r db)
theorem ag.Cy(a:aq ah)(service:Int)(p:Array Y)(w:J)(Q:Y->J->Prop)(h:ag.qg a service p w Q):aH ai 28 #[a,service,.agg p] w Q:=okF (λw Q=>ag.qg a service p w Q) az.qg func28 h
def ag.sB(a:aq ah)(service:Int)(backend:Int)(w:J)(Q:Y->J->Prop):Prop:=al (w.alloc (.cells #[backend] 3)) λw1=>dS 89 #[a,service]
 w1 λb n5 aj=>ao (n5 !=0) (Q (.tuple #[(0:Int),n5]) aj) (gk 90 #[a,b,.func (.func 91) #[] #[.pointer (some (aa w))]] aj λn8 n9 c=>Q (.tuple
 #[n8,n9]) c)
def az.sB:aO:=(.s .r db)
def ag.sC(a:aq ah)(h:ad)(now:Int)(most:Int)(w:J)(Q:Y->J->Prop):Prop:=al (w.alloc (.cells #[.int .u64 now] 27)) λw1=>ao (Option.isNone a) (Q (.tuple #[(),
 .int .i64 0,(1:Int)]) w1) (∃bf:Int,∃c:J,Sem.run ai (Builtin.min_ #[3,3] 3 #[most,(64:Int)]) w1=.ok bf c/\ao (decide (bf<1)) (Q (.tuple #[(),(0:Int),
 .int .i64 0]) c) (∃a4:ah,a=some a4/\∃d:aq ah,c.cell? a4=some (d)/\dS 42 #[d,h,(),.int .i64 (au (bf+1))] c λdM n9 b=>
 ao (n9 !=0) (Q (.tuple #[(),(0:Int),n9]) b) (bY (λe:ad->ad->J->Prop=>ao (decide ((dM.len:Int)>bf)) (((0:Int)<=bf/\bf<=(dM.cap:Int))/\∃db:ah,(aJ dM.a 2 0 dM.cap)=
 some db/\((0:Int)<=(au (bf-1))/\(au (bf-1))<((((bf.toNat)-0):Nat):Int))/\r1 b (db.add ((au (bf-1)).toNat*2)) λi=>al (b.alloc (.cells #[.int .u8 0] 5)) λf=>al (f.alloc (.cells #[i,.slice (some (aa b)) 1 1] 48)) λj=>bG 92 #[.slice (some (aa f)) 2 2] j λk l=>e k ⟨(aJ dM.a 2 0 dM.cap),((bf.toNat)-0),(dM.cap-0)⟩ l) (e ⟨none,0,0⟩ dM b))
 (λ(m:ad) (n:ad) o=>gk 90 #[a,n,.func (.func 93) #[] #[.pointer (some (aa w))]] o λn23 n24 g=>ao (n24 !=0) (Q (.tuple #[(),
 .int .i64 0,n24]) g) (Q (.tuple #[m,n23,(0:Int)]) g)))))
def az.sC:aO:=(.s .r (.s a1 (.s .r (.s a1 (.s .r (.s a1 (.s (.e_ [(8,.slice),(11,.slice)] [0,6] (.s .r (.c (.s .r .r) .l))) db)))))))
def ag.sD(a:aq ah)(service:Int)(w:J)(Q:Y->J->Prop):Prop:=dS 89 #[a,service] w λe cp w1=>ao (cp !=0) (Q (.tuple #[(),cp])
 w1) (∃ (f:ad->Int->J->Prop) (l:ad->Int->J->Nat),f ⟨none,0,0⟩ 0 w1/\∀ (c:ad) (n8:Int) (b:J),f c n8 b->ao (decide (n8<(e.len:Int))) (∃eC:ah,e.a=some eC/\aL n8 e.len/\r1 b (eC.add
 (n8.toNat*2)) λm=>r1 b ((eC.add (n8.toNat*2)).add 1) λn=>al (b.alloc (.cells #[(),()] 167)) λo=>bj o (aa b) [m,n]/\(2:Nat)=2/\al (setCells o (aa b) 0 [m,n]) λg=>r1 g (aa b) λt=>r1 g ((aa b).add 1) λu=>ig 88 #[t,
 u] g λh v d=>al (d.alloc fm) λp=>bj p (aa d) (Array.toList h)/\Array.size h=21/\al (setCells p (aa d) 0 (Array.toList h)) λi=>ao (!v) (Q (.tuple #[(),(4:Int)]) i) (∃q:O Y,bz i (aa d) 0 21=some q/\∃r:ad,∃s:J,Sem.run ai (Instr.buildSlice 68 1 #[(0,.agg q.toArray)]) i=.ok r s/\
 ∃j:ad,∃k:J,Sem.run ai (Builtin.append_ #[68,68] 68 #[c,r]) s=.ok j k/\f j (au
 (n8+1)) k/\l j (au (n8+1)) k<l c n8 b)) (Q (.tuple #[c,(0:Int)]) b))
def az.sD:aO:=(.s .r (.s .r (.s a1 (.s .r (.s (.s .r (.b3 (.loop [(8,.slice),(24,(.int .i64))] [22,23] (.s .r (.s (.c .l .l) (.s (.b3 (.s .r (.s .r (.s a1 .r)))) .r)))))) (.s .r .l))))))
def ag.mN(a:aq ah)(w:J)(Q:Y->J->Prop):Prop:=ao (Option.isNone a) (Q (.pointer none) w) (∃a1:ah,a=some a1/\∃bl:aq ah,w.cell? a1=some (bl)/\Q (bl) w)
def az.mN:aO:=db
def ag.lN(s:aq ah)(most:Int)(w:J)(Q:Y->J->Prop):Prop:=ao (((Option.isNone s)||(decide (most<1)))||(decide (most>400))) (Q (.tuple #[.pointer none,(1:Int)]) w) (al (w.alloc (.cells
 #[s,most] 134)) λw1=>Q (.tuple #[.pointer (some (aa w)),(0:Int)]) w1)
def az.lN:aO:=dL
def ag.sE(s:aq ah)(key:ad)(w:J)(Q:Y->J->Prop):Prop:=ao (Option.isNone s) (Q (.tuple #[(),false,(1:Int)]) w) (∃a1:ah,s=some a1/\∃bl:aq ah,w.cell? a1
 =some (bl)/\kp 80 #[bl,key] w λa b n7 c=>Q (.tuple #[a,b,n7]) c)
def az.sE:aO:=db
def ag.oc(s:aq ah)(w:J)(Q:Y->J->Prop):Prop:=ao (Option.isNone s) (Q (0:Int) w) (∃a1:ah,s=some a1/\aE w (a1.add 17) λbf=>Q bf w)
def az.oc:aO:=db
def ag.mO(t:Array Y)(w:J)(Q:Y->J->Prop):Prop:=al (w.alloc (.cells t 29)) λw1=>aE w1 (aa w) λbf=>∃b:O Y,bz w1 ((aa w).add 1) 0 18=some b/\fW 66
 #[bf,.agg b.toArray] w1 λi d a=>bY (λc:an->J->Prop=>ao d (aE a ((aa w).add 19) λn9=>b_ 124 #[n9] a λe f=>c e f) (c false a)) (λ(g:an) h=>Q g h)
def az.mO:aO:=(.s .r (.s .r (.s (.dh [.r,.r,.split 3]) .l)))
theorem ag.Cz(t:Array Y)(w:J)(Q:Y->J->Prop)(h:ag.mO t w Q):aH ai 65 #[.agg t] w Q:=okF (λw Q=>ag.mO t w Q) az.mO func65 h
def ag.kr(service:Int)(p:Array Y)(w:J)(Q:Y->J->Prop):Prop:=al (w.alloc (.cells p 26)) λw1=>∃m:O Y,bz w1 (aa w) 0 17=some m/\aE w1 ((aa w).add 17) λB=>
 ig 125 #[.agg m.toArray,B] w1 λi C d=>al (d.alloc z3) λn=>bj n (aa d) (Array.toList i)/\Array.size i=18/\al (setCells n (aa d) 0 (Array.toList i)) λe=>bY (λo:an->J->
 Prop=>ao (!C) (o true e) (∃q:O Y,bz e (aa d) 0 18=some q/\∃r:O Y,bz e (aa w) 0 18=some r/\∃s:an,iQ ai 26 q.toArray r.toArray s/\o (!s) e)) (λ
 (D:an) t=>bY (λu:an->J->Prop=>ao D (u true t) (b_ 124 #[service] t λE F=>u (!E) F)) (λ(G:an) f=>ao G (Q (.tuple #[(),false]) f) (bY (λ
 v:Int->J->Prop=>aX f (aa w) λH=>ao H (v 6 f) (v 4 f)) (λ(n24:Int) I=>al (I.drew) λb=>∃a:Nat->Prop,¬a ((aa w).add 17).block/\aE b ((aa w).add 17) λn28=>¬a ((aa
 w):ah).block/\∃g:O Y,bz b (aa w) 0 17=some g/\(bG 126 #[(),.int .u64 (IntKind.wrap .u64 service),(2:Int)] b λx c=>ae a b c/\(al (c.alloc (.cells #[.int .u8 n24,
 .int .u8 (IntKind.wrap .u8 n28)] 5)) λj=>ae a c j/\bG 127 #[.agg g.toArray] j λK y=>ae a j y/\sk y x c K Q)/\(bG 127 #[.agg g.toArray] c λL h=>ae a c
 h/\al (h.alloc (.cells #[.int .u8 n24,.int .u8 (IntKind.wrap .u8 n28)] 5)) λz=>ae a h z/\sk z x h L Q))/\(al (b.alloc (.cells #[.int .u8 n24,.int .u8 (IntKind.wrap .u8 n28)] 5)) λk=>ae
 a b k/\bG 126 #[(),.int .u64 (IntKind.wrap .u64 service),(2:Int)] k λM l=>ae a k l/\bG 127 #[.agg g.toArray] l λN A=>ae a l A/\sk A M b N Q)))))
def az.kr:aO:=(.s .r (.s .r (.s (.s (.dh [.r,.r,.r,.split 3,.r,.r,.r,.r,.split 3]) (.c (.s .r .l) .l)) (.s .r (.s (.e_ [(8,(.int .u8))] [0,3] (.s .r (.c .r .l))) (.s (.cG 11 true ⟨[0,1,2,0,0,16,32,72,0,256,
 516,1156,3072,8191,16383],[0,1,2,0,0,16,32,72,0,256,512,1156,2048,4096,0]⟩ [4294967296,8589934592,17179869184,34359738368,68719476736,137438953472,274877906944,549755813888,1099511627776,2199023255552,
 4398046511104,8796093022208,17592186044416,16,32] [1,4294967296,8589934592,256,8,68719476736,137438953472,309237645312,8,1099511627776,2199023255552,4964982194176,8796093022208,17592186044416,0] (.t 0 (.t 1 (.t 3 (.t 4 (.t
 5 (.t 6 (.t 8 (.t 9 (.two 2 (.two 7 (.bZ 10 (.tail [.r,.r,.r,.r])) 10 (.bZ 7 (.tail [.r,.r,.r,.r]))) 7 (.bZ 2 (.bZ 10 (.tail [.r,.r,.r,.r]))))))))))))) .l))))))
theorem ag.CA(service:Int)(p:Array Y)(w:J)(Q:Y->J->Prop)(h:ag.kr service p w Q):aH ai 66 #[service,.agg p] w Q:=okF (λw Q=>ag.kr service p w Q) az.kr func66 h
def ag.od(backend:Int)(a:Int)(w:J)(Q:Y->J->Prop):Prop:=b_ 124 #[backend] w λb w1=>ao (!b) (Q (.tuple #[(),false]) w1) (bG 126 #[(),
 .int .u64 (IntKind.wrap .u64 backend),(2:Int)] w1 λc d=>bG 126 #[c,.int .u64 a,(8:Int)] d λe f=>Q (.tuple #[e,true]) f)
def az.od:aO:=db
def ag.sF(f:aq ah)(w:J)(Q:Y->J->Prop):Prop:=∃ (c:Int->J->Prop) (d:Int->J->Nat),c 0 w/\∀ (a:Int) (b:J),c a b->ao (decide (a<4)) (∃a5:ah,f=some a5/\
 ((0:Int)<=a/\a<((4:Nat):Int))/\st b (Addr.add a5 (a.toNat*1)) (.int .i64 (-1)) λe=>c (au (a+1)) e/\d (au (a+1)) e<d a b) (Q (.tuple #[]) b)
def az.sF:aO:=(.s .r (.b3 (.loop [(3,(.int .i64))] [0] a2)))
def ag.oe(d:aq ah)(l:Int)(m:Int)(n:Int)(w:J)(Q:Y->J->Prop):Prop:=al (w.alloc (.cells #[l,m,.int .u64 n] 46)) λw1=>
 bY (λcq:an->J->Prop=>ao (!(Option.isNone d)) (aE w1 (aa w) λo=>cq (decide (o>=8)) w1) (cq false w1)) (λ(p:an) a=>bY (λg:an->J->Prop=>ao p (aE a (aa w) λn7=>g (decide (n7<=64)) a)
 (g false a)) (λ(q:an) b=>bY (λh:an->J->Prop=>ao q (aE b ((aa w).add 1) λn11=>h (decide (n11>=1)) b) (h false b)) (λ(r:an) c=>bY (λi:an->J->Prop=>ao r (aE c
 ((aa w).add 1) λn15=>i (decide (n15<=1000)) c) (i false c)) (λ(s:an) e=>bY (λj:an->J->Prop=>ao s (b4 e ((aa w).add 2) λn19=>j (decide (n19>=1)) e) (j false e)) (λ
 (t:an) f=>bY (λk:an->J->Prop=>ao t (b4 f ((aa w).add 2) λn23=>k (decide (n23<=1048576)) f) (k false f)) (λ(u:an) v=>Q u v))))))
def az.oe:aO:=(.s .r (.s (.dh [.r,.r,.r,.split 3,.r,.r,.r,.r,.split 3,.r,.r,.r,.r,.split 3,.r,.r,.r,.r,.split 3,.r,.r,.r,.r,.split 3,.r,.r,.r,.r,.split 3]) .l))
def ag.og(n:Int)(first:Int)(w:J)(Q:Y->J->Prop):Prop:=b_ 128 #[n] w λg w1=>ao (((!g)||(decide (first<0)))||(decide (first>n))) (Q (.tuple #[.pointer none,(1:Int)])
 w1) (b9 129 #[n] w1 λn6 d=>((0:Int)<=n6/\n6<=n6/\n6<=jx/\((1:Nat):Int)*n6<=140737488355328)/\al (d.alloc (.cells (gx ai 5 (n6.toNat)) 5)) λb=>al (b.alloc (.cells
 #[n,.slice (some (aa d)) (n6.toNat) (n6.toNat),()] 218)) λh=>∃ (c:Int->J->Prop) (e:Int->J->Nat),c 0 h/\∀ (n11:Int) (a:J),c n11 a->ao (decide (n11<
 first)) (∃eB:ah,(some (aa b):aq ah)=some eB/\r1 a (eB.add 1) λi=>fV 130 #[i,n11] a λf=>c (au (n11+1)) f/\e (au (n11+1)) f<e n11 a)
 (fV 131 #[.pointer (some (aa b))] a λj=>Q (.tuple #[.pointer (some (aa b)),(0:Int)]) j))
def az.og:aO:=(.s .r (.s (.s (.dh [.r,.r,.r,.r,.pure 2,.r,.r,.r,.pure 3]) (.c (.s .r .l) .l)) (.s .r (.s (.s .r (.b3 (.loop [(27,(.int .i64))] [6,26] a2))) (.s .r (.s .r .l))))))
def ag.sG(d:aq ah)(w:J)(Q:Y->J->Prop):Prop:=ao (Option.isNone d) (Q (0:Int) w) (∃a1:ah,d=some a1/\r1 w (a1.add 4) λs2=>Q (.int .i64 (s2.len:Int)) w)
def az.sG:aO:=db
def ag.sH(no:Int)(u:Int)(v:Int)(x:ad)(w:J)(Q:Y->J->Prop):Prop:=al (w.alloc (.cells #[u,.int .u64 v,x] 150)) λw1=>
 b_ 132 #[no] w1 λy aj=>bY (λj:an->J->Prop=>ao (!y) (j true aj) (aE aj (aa w) λn6=>b_ 133 #[n6] aj λz A=>j (!z) A)) (λ(B:an) f=>ao B (Q (.tuple
 #[(),(1:Int)]) f) (r1 f ((aa w).add 2) λC=>ao (decide ((C.len:Int)>232)) (Q (.tuple #[(),(10:Int)]) f) (al (f.alloc (.cells #[.int .u8 83,.int .u8 84,.int .u8 78,.int .u8 67]
 5)) λD=>∃k:ad,∃g:J,Sem.run ai (convert 48 48 (.slice (some (aa f)) 4 4)) D=.ok k g/\aE g (aa w) λn16=>al (g.alloc (.cells #[.int .u8 1,
 .int .u8 (IntKind.wrap .u8 n16)] 5)) λl=>al (l.alloc (.cells #[k,.slice (some (aa g)) 2 2] 48)) λE=>bG 92 #[.slice (some (aa l)) 2 2] E λF m=>r1 m
 ((aa w).add 2) λG=>bG 126 #[F,.int .u64 (IntKind.wrap .u64 (G.len:Int)),(2:Int)] m λH I=>bG 126 #[H,.int .u64 (IntKind.wrap .u64 no),(4:Int)] I λK n=>b4 n ((aa w).add 1) λn29=>bG 126 #[K,.int .u64 n29,(8:Int)] n λo L=>bY (λp:ad->J->Prop=>al (L.drew) λb=>∃d:Nat->Prop,¬
 d ((aa w).add 2).block/\r1 b ((aa w).add 2) λq=>¬d ((aa w).add 2).block/\r1 b ((aa w).add 2) λe=>(((0:Int)<=4/\(4:Int)<=4/\(4:Int)<=jx/\((1:Nat):Int)*4<=140737488355328)/\al
 (b.alloc (.cells (gx ai 5 (Int.toNat 4)) 5)) λh=>ae d b h/\(eU e)/\al (h.alloc (.cells (gx ai 5 ((au (232-(e.len:Int))).toNat)) 5)) λr=>ae d h r/\
 vw r o b q h e p)/\((eU e)/\al (b.alloc (.cells (gx ai 5 ((au (232-(e.len:Int))).toNat)) 5)) λi=>ae d b i/\((0:Int)<=4/\(4:Int)<=4/\(4:Int)<=jx/\((1:Nat):
 Int)*4<=140737488355328)/\al (i.alloc (.cells (gx ai 5 (Int.toNat 4)) 5)) λs=>ae d i s/\vw s o i q b e p)) (λ(c:ad) M=>al (M.drew) λN=>∃U:Nat->Prop,((0:
 Int)<=20/\20<=(c.len:Int))/\lI 134 #[c] N λO P=>∃V:Nat->Prop,bG 126 #[(),.int .u64 (IntKind.wrap .u64 O),(4:Int)] P λR S=>∃T:Int,∃t
 :J,Sem.run ai (Builtin.copy_ #[48,48] 3 #[.slice (aJ c.a 1 (Int.toNat 20) c.cap) (c.len-(Int.toNat 20)) (c.cap-(Int.toNat 20)),R]) S=.ok T t
 /\Q (.tuple #[c,(0:Int)]) t))))
def az.sH:aO:=(.s .r (.s (.b3 (.s (.dh [.r,.r,.r,.r,.split 4]) (.c (.s .r .l) a1))) (.s .r (.s .r (.s .r (.s .r (.s (.e_ [(6,.slice)] [] (.cG 9 true ⟨[0,0,0,4,0,16,32,64,128,267,512,2047],[0,0,0,4,0,16,
 32,64,128,267,512,1025]⟩ [17592186044416,35184372088832,70368744177664,140737488355328,281474976710656,562949953421312,1125899906842624,2251799813685248,4503599627370496,9007199254740992,18014398509481984,64] [64,0,8,
 70368744177664,8,281474976710656,562949953421312,1125899906842624,2251799813685248,4697113673859072,9007199254740992,18014398509481984] (.t 0 (.t 2 (.t 3 (.t 4 (.t 5 (.t 6 (.t 7 (.two 1 (.bZ 8 (.tail [.r,.r,.r])) 8 (.bZ 1 (.tail
 [.r,.r,.r])))))))))))) (.s (.cG 6 true ⟨[0,1,0,4,8,24,34],[0,1,0,4,8,16,34]⟩ [36028797018963968,72057594037927936,144115188075855872,288230376151711744,576460752303423488,1152921504606846976,2305843009213693952] [64,
 36028797018963968,64,144115188075855872,288230376151711744,576460752303423488,1224979098644774912] (.t 0 (.t 1 (.t 2 (.out 3 true (.t 4 (.out 5 false (.tail [.r])))))))) (.s .r .l)))))))))
def ag.qh(s:aq ah)(w:J)(Q:Y->J->Prop):Prop:=ao (Option.isNone s) (Q () w) (∃a1:ah,s=some a1/\r1 w (a1.add 1) λs2=>bG 135 #[s2] w λa b=>Q a b)
def az.qh:aO:=db
theorem ag.CB(s:aq ah)(w:J)(Q:Y->J->Prop)(h:ag.qh s w Q):aH ai 74 #[s] w Q:=okF (λw Q=>ag.qh s w Q) az.qh func74 h
def ag.sI(d:aq ah)(i:Int)(b:ad)(w:J)(Q:Y->J->Prop):Prop:=b_ 108 #[d,i] w λs w1=>ao ((!s)||((b.len:Int) !=256)) (Q (1:Int) w1) (∃a4:
 ah,d=some a4/\b_ 136 #[.pointer (some a4),(2:Int)] w1 λt n=>ao t (Q (3:Int) n) (al (n.drew) λe=>∃c:Nat->Prop,∃eC:ah,d=some eC/\¬c (eC.add 5).block/\∃h:aq Nat,
 e.cell? (eC.add 5)=some (.map h)/\∃fa:ah,d=some fa/\¬c (fa.add 5).block/\∃j:aq Nat,e.cell? (fa.add 5)=some (.map j)/\256<=b.len/\∃fv:ah,b.a=some fv/\¬c fv.block/\∃k:O Y,
 bz e fv 0 256=some k/\(∃o:ad,∃f:J,Sem.run ai (Instr.lookup 137 (.map j) i false) e=.ok o f/\ae c e f/\∃p:ad,∃l:J,
 Sem.run ai (Instr.buildSlice 136 1 #[(0,.agg k.toArray)]) f=.ok p l/\ae c f l/\vv o p l c h i d Q)/\(∃q:ad,∃g:J,Sem.run ai (Instr.buildSlice
 136 1 #[(0,.agg k.toArray)]) e=.ok q g/\ae c e g/\∃r:ad,∃m:J,Sem.run ai (Instr.lookup 137 (.map j) i false) g=.ok r m/\ae c g m/\vv r q m c h i d Q)))
def az.sI:aO:=(.s .r (.s (.b3 (.s (.dh [.r,.r,.r,.r,.r,.pure 3]) (.c (.s .r .l) a1))) (.s (.cG 16 true ⟨[0,1,2,4,0,0,32,64,128,0,768,0,2048,4096,8192,17408,65535],[0,1,2,4,0,0,32,64,128,0,
 768,0,2048,4096,8192,17408,32792]⟩ [4194304,8388608,16777216,33554432,67108864,134217728,268435456,536870912,1073741824,2147483648,4294967296,8589934592,17179869184,34359738368,68719476736,137438953472,0] [1,4194304,
 8388608,16777216,2,1,134217728,268435456,536870912,2,3221225472,4,8589934592,17179869184,34359738368,73014444032,137539616768] (.t 0 (.t 1 (.t 2 (.t 3 (.t 4 (.t 5 (.t 6 (.t 7 (.t 8 (.t 9 (.t 11 (.t 12 (.t 13 (.two 10 (.bZ 14
 (.bZ 15 (.tail [.r]))) 14 (.bZ 10 (.bZ 15 (.tail [.r])))))))))))))))))) (.s .r (.s .r .l)))))
def ag.sJ(d:aq ah)(w:J)(Q:Y->J->Prop):Prop:=ao (Option.isNone d) (Q (1:Int) w) (∃a1:ah,d=some a1/\b_ 136 #[.pointer (some a1),(3:Int)] w λj aj=>ao j (Q
 (3:Int) aj) (∃a5:ah,d=some a5/\∃g:aq Nat,aj.cell? (a5.add 5)=some (.map g)/\∃ (a:Y) (h:J),Sem.run ai (Instr.range 137 (.map g)) aj=.ok a h/\∃ (c:J->Prop)
 (i:J->Nat),c h/\∀ (b:J),c b->(∃ (k:Y) (l:Y) (e:J),Sem.run ai (Instr.next (a) false 0) b=.ok (.tuple #[true,k,l]) e/\ao true (vu a e d c i b) (vx d e
 Q))\/(∃f:J,Sem.run ai (Instr.next (a) false 0) b=.ok (.tuple #[false]) f/\ao false (vu a f d c i b) (vx d f Q))))
def az.sJ:aO:=(.s .r (.s (.b3 eB) (.s (.s .r (.b3 (.loop [] [0,16] (.s .r (.s (.c .l .l) (.b3 (.s (.dh [.rF [(.one (.int .i64)),(.one .any)]]) (.cG 8 true ⟨[0,1,2,4,0,0,0,96,255,511],[0,1,2,4,0,0,0,
 96,24,384]⟩ [2097152,4194304,8388608,16777216,33554432,67108864,134217728,268435456,536870912,0] [1,2097152,4194304,8388608,8,1,8,201326592,50331648,805306368] (.t 0 (.t 1 (.t 2 (.t 3 (.t 4 (.t 5 (.t 6 (.bZ 7 (.tail
 [.r,.r]))))))))))))))))) (.s .r (.s .r .l)))))
def ag.lO(d:aq ah)(i:Int)(j:Int)(k:Int)(l:Int)(m:Int)(n:Int)(gen:Int)(w:J)(Q:Y->J->Prop):Prop:=al (w.alloc (.cells #[i,j,k,.int .u64 l,.int .u64 m,n] 104)) λw1=>(2:Int)≠0/\al (w1.drew) λaj=>∃b:Nat->Prop,¬b ((aa w):ah).block/\aE aj (aa w) λcp=>aE aj (Addr.add
 (aa w) 1) λn5=>aE aj ((aa w).add 2) λn6=>b4 aj ((aa w).add 3) λn7=>b4 aj ((aa w).add 4) λn8=>aE aj ((aa w).add 5) λn9=>b9 72 #[d] aj λn12 c=>ae b aj c/\bG
 138 #[.agg #[cp,n5,n6,.int .u64 n7,.int .u64 n8,n9],n12] c λo e=>∃p:Nat->Prop,∃f:Array Y,(∀g:J,Sem.run ai (Instr.build 150
 #[(0,.int .i64 3),(1,.int .u64 gen),(2,o)]) g=.ok (.agg f) g)/\dS 73 #[.int .i64 (au (Int.tmod gen 2)),.agg f] e λq n22 a=>ae p e a/\ao (n22 !=0) (Q n22
 a) (b9 75 #[d,.int .i64 (au (Int.tmod gen 2)),q] a λn25 h=>ao (n25 !=0) (Q n25 h) (b9 76 #[d] h λn28 r=>Q n28
 r))
def az.lO:aO:=(.s .r (.s .r (.s (.cG 12 true ⟨[0,0,0,0,8,20,34,97,128,256,256,1023,4095],[0,0,0,0,8,20,34,65,128,256,256,512,1024]⟩ [32768,65536,131072,262144,524288,1048576,2097152,4194304,
 16384,8388608,16777216,256,512] [128,4,16,1,262144,655360,1114112,2129920,4194304,16384,16384,8388608,16777216] (.t 0 (.t 1 (.t 2 (.t 3 (.bZ 4 (.out 5 true (.t 6 (.bZ 7 (.t 8 (.t 9 (.t 10 (.t 11 (.tail [.r]))))))))))))))
 (.s a1 (.s (.s .r a1) (.s .r .l))))))
theorem ag.CC(d:aq ah)(a:Int)(b:Int)(c:Int)(e:Int)(f:Int)(g:Int)(gen:Int)(w:J)(Q:Y->J->Prop)(h:ag.lO d a b c e f g gen w Q):aH ai 77 #[d,.agg #[a,b,c,.int .u64 e,.int .u64 f,g],.int .u64 gen] w Q:=okF (λw Q=>ag.lO d a b c e f g gen w Q) az.lO func77 h
set_option maxRecDepth 100000
def ag.mP(d:aq ah)(f:Int)(g:Int)(h:Int)(i:Int)(j:Int)(k:Int)(l:Int)(m:Int)(n:Int)(gen:Int)(s:aq ah)(w:J)(Q:Y->J
 ->Prop):Prop:=al (w.alloc (.cells #[f,g,.int .u64 h] 46)) λw1=>al (w1.alloc (.cells #[i,j,k,.int .u64 l,.int .u64 m,
 n] 104)) λaj=>aE aj (aa w) λo=>gK 139 #[d,o] aj λc n7 b=>ao (n7 !=0) (Q (.tuple #[.pointer none,n7]) b) (aE b (aa w1) λn8=>aE b ((aa w1).add 1)
 λn9=>gK 140 #[c,s,.int .u64 (IntKind.wrap .u64 (gen+1)),n8,n9] b λp n13 a=>ao (n13 !=0) (Q (.tuple #[.pointer none,n13]) a) (aE a (aa w) λn14=>aE a
 ((aa w).add 1) λn15=>b4 a ((aa w).add 2) λn16=>aE a (aa w1) λn17=>aE a ((aa w1).add 1) λn18=>aE a ((aa w1).add 2) λn19=>b4 a ((aa w1).add 3) λn20=>b4 a ((aa w1).add 4)
 λn21=>aE a ((aa w1).add 5) λn22=>b4 a ((aa w1).add 3) λn23=>aE a ((aa w1).add 5) λn24=>∃e:Array Y,Sem.run ai (Instr.build 158 #[(0,p),(1,d),(2,
 c),(3,s),(4,.agg #[n14,n15,.int .u64 n16]),(5,.agg #[n17,n18,n19,.int .u64 n20,.int .u64 n21,n22]),(6,.int .u64 gen),(7,.int .u64 n23),(10,
 n24)]) a=.ok (.agg e) a/\al (a.alloc (.cells e 158)) λq=>Q (.tuple #[.pointer (some (aa a)),(0:Int)]) q))
def az.mP:aO:=(.s .r (.s .r (.s a1 db)))
theorem ag.CD(d:aq ah)(a:Int)(b:Int)(c:Int)(e:Int)(f:Int)(g:Int)(i:Int)(j:Int)(k:Int)(gen:Int)(s:aq ah)(w:J)(Q:Y->J->Prop)(h:ag.mP d a b c e f g i j k gen s w Q):aH ai 78 #[d,.agg #[a,b,.int .u64 c],.agg #[e,f,g,.int .u64 i,.int .u64 j,k],.int .u64 gen,s] w Q:=okF (λw Q=>ag.mP d a b c e f g i j k gen s w Q) az.mP func78 h
def ag.qi(a:ad)(w:J)(Q:Y->J->Prop):Prop:=Q (.bool ((decide ((a.len:Int)>=1))&&(decide ((a.len:Int)<=24)))) w
def az.qi:aO:=dT
def ag.sK(t:aq ah)(key:ad)(w:J)(Q:Y->J->Prop):Prop:=bY (λcr:an->J->Prop=>ao (Option.isNone t) (cr true w) (b_ 141 #[key] w λn aj=>cr (!n)
 aj)) (λ(o:an) f=>ao o (ao (Option.isNone t) (Q (.tuple #[(),false,(1:Int)]) f) (Q (.tuple #[(),false,(0:Int)]) f)) (dS 142 #[t,key] f λc n10 b=>ao ((n10 !=0)||((c.len:Int)==0)) (Q (.tuple #[(),false,n10]) b) (∃db:ah,c.a=some db/\((0:Int)<=(au ((c.len:Int)-1))/\(au ((c.len:Int)-1))<
 (c.len:Int))/\aX b ((db.add ((au ((c.len:Int)-1)).toNat*6)).add 1) λg=>r1 b (((db.add ((au ((c.len:Int)-1)).toNat*6)).add 1).add 1) λh=>r1 b (((db.add ((au ((c.len:Int)-1)).toNat*6)).add
 1).add 2) λi=>r1 b (((db.add ((au ((c.len:Int)-1)).toNat*6)).add 1).add 3) λj=>al (b.alloc z4) λk=>bj k (aa b) [g,h,i,j]/\(4:Nat)=4/\al (setCells k (aa b) 0 [g,h,i,j]) λd=>aX d (aa b) λp=>r1 d ((aa b).add 1) λq=>
 r1 d ((aa b).add 2) λr=>r1 d ((aa b).add 3) λs=>kq 143 #[.agg #[p,q,r,s],key] d
 λn24 u e=>ao (!u) (Q (.tuple #[(),false,(0:Int)]) e) (r1 e ((aa b).add 2) λl=>∃m:ah,l.a=some m/\aL n24 l.len/\r1 e (m.add (n24.toNat*1)) λv=>Q (.tuple
 #[v,true,(0:Int)]) e))))
def az.sK:aO:=(.s .r (.s (.s (.dh [.r,.r,.r,.split 3]) (.c (.s a1 (.s .r .l)) .l)) (.s .r (.s (.s (.dh [.r,.r,.r,.pure 3]) (.c (.s .r .l) .l)) (.s .r db)))))
def ag.sL(s:aq ah)(F:Int)(w:J)(Q:Y->J->Prop):Prop:=∃a1:ah,s=some a1/\st w (a1.add 18) true λaj=>∃a3:ah,s=some a3/\st aj (a3.add 16) (0:Int) λn=>∃
 a5:ah,s=some a5/\∃o:aq ah,n.cell? (a5.add 3)=some (o)/\fV 144 #[o] n λp=>∃a9:ah,s=some a9/\∃q:aq ah,p.cell? (a9.add 2)=some (q)/\bG
 145 #[q] p λg G=>∃ (h:Int->J->Prop) (r:Int->J->Nat),h 0 G/\∀ (n16:Int) (c:J),h n16 c->ao (decide (n16<(g.len:Int))) (∃t:ah,g.a=some t/\aL n16
 g.len/\aE c (t.add (n16.toNat*1)) λn19=>∃v:ah,s=some v/\∃x:aq ah,c.cell? (v.add 2)=some (x)/\b_ 146 #[x,n19] c λM y=>h (au (n16
 +1)) y/\r (au (n16+1)) y<r n16 c) (bY (λz:J->Prop=>al (c.drew) λb=>∃d:Nat->Prop,∃i:ah,s=some i/\¬d (i.add 2).block/\∃A:aq ah,b.cell? (i.add 2)=some (.pointer
 A)/\∃j:ah,s=some j/\¬d (j.add 3).block/\∃B:aq ah,b.cell? (j.add 3)=some (B)/\∃k:ah,s=some k/\¬d (k.add 13).block/\b4 b (k.add 13) λn33=>∃l:ah,s=some
 l/\¬d (l.add 7).block/\aE b (l.add 7) λn35=>∃m:ah,s=some m/\¬d ((m.add 7).add 1).block/\aE b ((m.add 7).add 1) λn37=>gK 140 #[A,B,.int .u64 (IntKind.wrap .u64
 (n33+1)),n35,n37] b λH n41 e=>ae d b e/\ao (n41==0) (∃f:ah,s=some f/\(∃u:Y,e.cell? f=some u)/\e.frozen? f=false/\al (e.setCell f (H)) λI=>
 z I) (z e)) (λC=>∃D:ah,s=some D/\aE C ((D.add 7).add 5) λK=>∃E:ah,s=some E/\st C (E.add 17) K λL=>Q F L))
def az.sL:aO:=(.s .r (.s .r (.s .r (.s (.s .r (.b3 (.loop [(26,(.int .i64))] [0,1,24,25] a2))) (.s (.e_ [] [0,1] (.s (.cG 28 true ⟨[0,1,2,4,0,16,32,64,0,256,512,1024,2048,0,8192,16384,32768,65536,
 0,262144,524288,1048576,2097152,4329608,8388608,16777216,16777216,67108863,268435455],[0,1,2,4,0,16,32,64,0,256,512,1024,2048,0,8192,16384,32768,65536,0,262144,524288,1048576,2097152,4329608,8388608,
 16777216,16777216,33554432,67108864]⟩ [274877906944,549755813888,1099511627776,2199023255552,4398046511104,8796093022208,17592186044416,35184372088832,70368744177664,140737488355328,281474976710656,562949953421312,
 1125899906842624,2251799813685248,4503599627370496,9007199254740992,18014398509481984,36028797018963968,72057594037927936,144115188075855872,288230376151711744,576460752303423488,1152921504606846976,2305843009213693952,
 137438953472,4611686018427387904,9223372036854775808,128,256] [1,274877906944,549755813888,1099511627776,1,4398046511104,8796093022208,17592186044416,1,70368744177664,140737488355328,281474976710656,562949953421312,1,
 2251799813685248,4503599627370496,9007199254740992,18014398509481984,1,72057594037927936,144115188075855872,288230376151711744,576460752303423488,1190113584927997952,2305843009213693952,137438953472,137438953472,
 4611686018427387904,9223372036854775808] (.t 0 (.t 1 (.t 2 (.t 3 (.t 4 (.t 5 (.t 6 (.t 7 (.t 8 (.t 9 (.t 10 (.t 11 (.t 12 (.t 13 (.t 14 (.t 15 (.t 16 (.t 17 (.t 18 (.t 19 (.t 20 (.t 21 (.t 22 (.bZ 23 (.t 24 (.t 25 (.t 26 (.t 27 (.tail
 [.r])))))))))))))))))))))))))))))) (.s .r (.c .r .l)))) (.s .r (.s .r .l)))))))
def ag.sM(s:aq ah)(w:J)(Q:Y->J->Prop):Prop:=∃a1:ah,s=some a1/\∃bl:aq ah,w.cell? a1=some (bl)/\gk 147 #[bl] w λn5 n6 a=>∃dT:ah,s
 =some dT/\∃b:aq ah,a.cell? (dT.add 3)=some (b)/\b9 148 #[b] a λn11 d=>∃n12:Int,∃c:J,Sem.run ai (Builtin.max_ #[3,3] 3 #[.int .i64 (au ((au (n11
 -(au (2*n6))))-4)),(0:Int)]) d=.ok n12 c/\Q n12 c
def az.sM:aO:=a4
def ag.sN(s:aq ah)(keys:Int)(w:J)(Q:Y->J->Prop):Prop:=∃a1:ah,s=some a1/\aE w (a1.add 17) λbf=>∃a3:ah,s=some a3/\st w (a3.add 17) (.int .i64 (au (bf+keys))) λa=>
 bY (λc:J->Prop=>∃dL:ah,s=some dL/\aE a (dL.add 16) λn7=>ao (n7==0) (∃eT:ah,s=some eT/\b4 a (eT.add 14) λn9=>∃eC:ah,s=some eC/\st a (eC.add 15) (.int .u64 n9) λg=>c g) (c
 a)) (λd=>∃eB:ah,s=some eB/\aE d (eB.add 16) λn14=>∃gl:ah,s=some gl/\st d (gl.add 16) (.int .i64 (au (n14+1))) λh=>al (h.drew) λb=>∃e:ah,s=some e/\¬False/\aE b
 (e.add 16) λn19=>∃f:ah,s=some f/\¬False/\aE b ((f.add 4).add 1) λn21=>ao (decide (n19>=n21)) (b9 94 #[s] b λn24 i=>Q n24 i) (Q (0:Int) b))
def az.sN:aO:=(.s .r (.s .r (.s (.e_ [] [0] (.s .r (.c .r .l))) (.s .r (.s (.s (.cG 9 false ⟨[0,1,2,4,0,16,32,64,128,264],[0,1,2,4,0,16,32,64,128,264]⟩ [4294967296,8589934592,17179869184,34359738368,
 68719476736,137438953472,274877906944,549755813888,1099511627776,2199023255552] [1,4294967296,8589934592,17179869184,1,68719476736,137438953472,274877906944,549755813888,1133871366144] (.t 0 (.t 1 (.t 2 (.t 3 (.t 4 (.t 5 (.t 6
 (.t 7 (.t 8 (.tail [.r]))))))))))) (.c (.s .r .l) .l)) (.s .r .l))))))
def ag.sO(t:aq ah)(key:ad)(val:ad)(w:J)(Q:Y->J->Prop):Prop:=bY (λcr:an->J->Prop=>ao (Option.isNone t) (cr true w) (b_ 141 #[key] w λv aj
 =>cr (!v) aj)) (λ(x:an) l=>ao (x||(decide ((val.len:Int)>24))) (Q (1:Int) l) (al (l.drew) λi=>∃j:Nat->Prop,∃a9:ah,t=some a9/\¬j (a9.add 1).block/\∃m:aq ah,i.cell? (a9.add 1)=
 some (m)/\∃db:ah,t=some db/\¬j (db.add 4).block/\aE i (db.add 4) λn12=>b9 148 #[m] i λn15 k=>ae j i k/\ao (decide (n15<(au ((au (2*n12))+3)))) (Q (2:Int)
 k) (dS 142 #[t,key] k λb n19 c=>ao (n19 !=0) (Q n19 c) (al (c.alloc z4) λn=>bj n (aa c) [true,(),(),()]/\(4:Nat)=4/\al (setCells n (aa c) 0 [true,(),(),()]) λe=>bY (λo:J->Prop=>ao (decide ((b.len:Int)>0)) (∃g:ah,b.a=some g/\((0:Int)<=(au
 ((b.len:Int)-1))/\(au ((b.len:Int)-1))<(b.len:Int))/\aX e ((g.add ((au ((b.len:Int)-1)).toNat*6)).add 1) λy=>r1 e (((g.add ((au ((b.len:Int)-1)).toNat*6)).add 1).add 1) λz=>r1 e
 (((g.add ((au ((b.len:Int)-1)).toNat*6)).add 1).add 2) λA=>r1 e (((g.add ((au ((b.len:Int)-1)).toNat*6)).add 1).add 3) λB=>qc e c y z A B o) (o e)) (λh=>aX h (aa c) λ
 C=>r1 h ((aa c).add 1) λD=>r1 h ((aa c).add 2) λE=>r1 h ((aa c).add 3) λF=>n4 151 #[.agg #[C,D,E,F],key,val] h λp q r s G d=>al (d.alloc z4) λu=>bj u (aa d) [p,q,r,
 s]/\(4:Nat)=4/\al (setCells u (aa d) 0 [p,q,r,s]) λf=>ao (!G) (Q (4:Int) f) (aX f (aa d)
 λH=>r1 f ((aa d).add 1) λI=>r1 f ((aa d).add 2) λK=>r1 f ((aa d).add 3) λL=>b9 150 #[t,b,.agg #[H,I,K,L]] f λM N=>Q M N))))))
def az.sO:aO:=(.s .r (.s (.b3 (.s (.dh [.r,.r,.r,.split 3,.r,.r,.r,.r,.pure 3]) (.c (.s .r .l) (.s (.cG 11 true ⟨[0,1,2,4,8,0,32,64,128,256,512,1040,2064],[0,1,2,4,8,0,32,64,128,256,512,1040,
 2048]⟩ [67108864,134217728,268435456,536870912,1073741824,2147483648,4294967296,8589934592,17179869184,34359738368,68719476736,137438953472,33554432] [1,67108864,134217728,268435456,536870912,1,2147483648,4294967296,
 8589934592,17179869184,34359738368,69793218560,137438953472] (.t 0 (.t 1 (.t 2 (.t 3 (.t 5 (.t 6 (.t 7 (.t 8 (.t 9 (.t 10 (.bZ 4 (.tail [.r,.r]))))))))))))) (.c (.s .r .l) .l))))) (.s .r (.s a1 (.s .r (.s (.e_ [] [0,1,2,7,9] (.s
 .r (.c .r .l))) db))))))
def ag.oh(a:aq ah)(service:Int)(p:Array Y)(w:J)(Q:Y->J->Prop):Prop:=al (w.alloc (.cells p 26)) λw1=>ao (Option.isNone a) (Q (.tuple #[(),false]) w1)
 (∃b:O Y,bz w1 (aa w) 0 18=some b/\fW 66 #[service,.agg b.toArray] w1 λc d e=>Q (.tuple #[c,d]) e)
def az.oh:aO:=db
theorem ag.yT(a:aq ah)(service:Int)(p:Array Y)(w:J)(Q:Y->J->Prop)(h:ag.oh a service p w Q):aH ai 87 #[a,service,.agg p] w Q:=okF (λw Q=>ag.oh a service p w Q) az.oh func87 h
def ag.om(key:ad)(val:ad)(w:J)(Q:Y->J->Prop):Prop:=al (w.alloc fm) λw1=>lJ 156 #[key,(0:Int),(2:Int)] w1 λcp C aj=>ao (((!C)||(decide ((key.len:Int)
 <4)))||((val.len:Int) !=10)) (∃e:Array Y,Sem.run ai (Instr.build 29 #[]) aj=.ok (.agg e) aj/\bj aj (aa w) (Array.toList e)/\Array.size e=21/\al (setCells aj (aa w) 0 (Array.toList e)) λn
 =>∃o:O Y,bz n (aa w) 0 21=some o/\Q (.tuple #[.agg o.toArray,false]) n) (((0:Int)<=4/\4<=(key.len:Int))/\ig 157 #[.slice (aJ key.a 1 (Int.toNat 4) key.cap) (key.len-(Int.toNat 4)) (key.cap-
 (Int.toNat 4))] aj λi M d=>al (d.alloc z5) λp=>bj p (aa d) (Array.toList i)/\Array.size i=17/\al (setCells p (aa d) 0 (Array.toList i)) λD=>lJ 156 #[val,(0:Int),(2:Int)] D λn17 N E=>lJ 156 #[val,(2:Int),(8:Int)] E λn21 P F=>al (F.drew) λb=>∃j:Nat->Prop,¬j ((aa d):ah).block/\∃q:O Y,
 bz b (aa d) 0 17=some q/\∃k:ah,key.a=some k/\aL 3 key.len/\¬j (k.add (Int.toNat 3*1)).block/\ee b (k.add (Int.toNat 3*1)) λn27=>∃r:Array Y,(∀s:J,Sem.run ai
 (Instr.build 26 #[(0,.agg q.toArray),(1,.int .i64 (au n27))]) s=.ok (.agg r) s)/\∃f:Array Y,(∀t:J,Sem.run ai (Instr.build 29 #[(0,.int .i64 (au cp)),(1,.agg r),(2,.int
 .i64 (au n17)),(3,.int .u64 n21)]) t=.ok (.agg f) t)/\al (b.alloc fm) λl=>ae j b l/\bj l (aa b) (Array.toList f)/\Array.size f=21/\al (setCells l (aa b) 0 (Array.toList f)) λm=>aE
 m (aa b) λn34=>∃u:O Y,bz m ((aa b).add 1) 0 18=some u/\fW 66 #[n34,.agg u.toArray] m λG H v=>bY (λx:an->J->Prop=>ao (!H) (x true v) (b_
 158 #[G,key] v λI K=>x (!I) K)) (λ(L:an) c=>ao L (∃g:Array Y,Sem.run ai (Instr.build 29 #[]) c=.ok (.agg g)
 c/\bj c (aa w) (Array.toList g)/\Array.size g=21/\al (setCells c (aa w) 0 (Array.toList g)) λy=>∃z:O Y,bz y (aa w) 0 21=some z/\Q (.tuple #[.agg z.toArray,false]) y) (∃h:
 O Y,bz c (aa b) 0 21=some h/\bj c (aa w) (Array.toList h.toArray)/\Array.size h.toArray=21/\al (setCells c (aa w) 0 (Array.toList h.toArray)) λA=>∃B:O Y,bz A (aa w) 0 21=
 some B/\Q (.tuple #[.agg B.toArray,true]) A)))
def az.om:aO:=(.s .r (.s .r (.s (.s (.dh [.r,.r,.r,.pure 3,.r,.r,.r,.r,.pure 3]) (.c (.s .r .l) .l)) (.s .r (.s .r (.s .r (.s (.cG 13 true ⟨[0,1,0,0,8,16,32,68,0,256,0,1666,0,8191],[0,1,0,0,8,16,32,68,
 0,256,0,1666,0,6144]⟩ [1125899906842624,2251799813685248,4503599627370496,9007199254740992,18014398509481984,36028797018963968,72057594037927936,144115188075855872,288230376151711744,576460752303423488,1152921504606846976,
 2305843009213693952,16384,0] [64,1125899906842624,256,1,9007199254740992,18014398509481984,36028797018963968,76561193665298432,1024,288230376151711744,4096,1875749244799811584,0,2305843009213710336] (.t 0 (.t 1 (.t 2 (.t 3
 (.t 4 (.t 5 (.t 6 (.t 7 (.t 8 (.t 9 (.t 10 (.t 11 (.bZ 12 (.tail [.r]))))))))))))))) (.s .r (.s (.s (.dh [.r,.r,.r,.split 4]) (.c (.s .r .l) .l)) (.s .r .l))))))))))
def ag.sP(a:aq ah)(service:Int)(w:J)(Q:Y->J->Prop):Prop:=yL 159 #[service] w λb d w1=>ao ((Option.isNone a)||(Option.isNone b.a)) (Q (.tuple #[(),
 .int .i64 1]) w1) (∃a5:ah,a=some a5/\∃c:aq ah,w1.cell? a5=some (c)/\dS 42 #[c,b,d,(1048576:Int)] w1 λe n10 f=>Q
 (.tuple #[e,n10]) f)
def az.sP:aO:=(.s .r (.s .r (.s a5 (.s .r .l))))
def ag.lP(parts:ad)(w:J)(Q:Y->J->Prop):Prop:=∃ (d:ad->Int->J->Prop) (f:ad->Int->J->Nat),d ⟨none,0,0⟩ 0 w/\∀ (c:ad) (cp:Int) (b:J),d c cp b->ao (decide (cp<
 (parts.len:Int))) (∃dL:ah,parts.a=some dL/\aL cp parts.len/\r1 b (dL.add (cp.toNat*1)) λg=>∃dM:ad,∃e:J,Sem.run ai (Builtin.append_ #[48,48] 48 #[c,g]) b=.ok dM e/\d dM (au (cp+1)) e/\f dM (au (cp+1)) e<f c cp b) (Q c b)
def az.lP:aO:=(.s .r (.s .r (.s (.s .r (.b3 (.loop [(3,.slice),(8,(.int .i64))] [6,7] a2))) (.s .r .l))))
theorem ag.CE(parts:ad)(w:J)(Q:Y->J->Prop)(h:ag.lP parts w Q):aH ai 92 #[parts] w Q:=okF (λw Q=>ag.lP parts w Q) az.lP func92 h
def ag.sQ(s:aq ah)(w:J)(Q:Y->J->Prop):Prop:=∃a1:ah,s=some a1/\∃bl:aq ah,w.cell? (a1.add 3)=some (bl)/\gk 160 #[bl] w λn5 n6 y=>
 ao (n6 !=0) (b9 81 #[s,n6] y λn9 am=>Q n9 am) (al (y.drew) λi=>∃db:ah,s=some db/\¬False/\∃z:aq ah,i.cell? (db.add 3)=some (z)/\∃eB
 :ah,s=some eB/\¬False/\aE i ((eB.add 7).add 2) λn14=>b9 161 #[z,n14] i λn17 an=>al (an.drew) λd=>∃e:Nat->Prop,∃j:ah,s=some j/\¬e (j.add
 13).block/\b4 d (j.add 13) λn21=>∃k:ah,s=some k/\¬e (k.add 3).block/\∃A:aq ah,d.cell? (k.add 3)=some (A)/\bG 74 #[A] d λap l=>ae e d l
 /\∃B:Array Y,(∀C:J,Sem.run ai (Instr.build 150 #[(0,.int .i64 4),(1,.int .u64 (IntKind.wrap .u64 (n21+1))),(2,ap)]) C=.ok (.agg B) C)/\dS 73 #[n5,.agg B] l λar n32 f=>ae e l f/\ao (n32 !=0) (b9 81 #[s,n32] f λn35 au=>Q n35 au) (∃D:ah,s=some D/\∃E:aq ah,f.cell? (D.add
 2)=some (E)/\b9 162 #[E,n5,ar] f λn40 m=>ao (n40 !=0) (b9 81 #[s,n40] m λav aw=>Q av aw) (∃
 F:ah,s=some F/\∃G:aq ah,m.cell? (F.add 2)=some (G)/\b9 163 #[G] m λH n=>ao (H !=0) (b9 81 #[s,H] n λax ay=>Q
 ax ay) (∃I:ah,s=some I/\∃K:aq ah,n.cell? I=some (K)/\gk 147 #[K] n λaz aA aB=>al (aB.drew) λa=>∃g:Nat->Prop,∃o:ah,s=some
 o/\¬g (o.add 14).block/\b4 a (o.add 14) λaC=>∃p:ah,s=some p/\¬g ((p.add 7).add 4).block/\b4 a ((p.add 7).add 4) λaD=>∃q:ah,s=some q/\¬g (q.add 17).block/\aE a (q.add 17)
 λaF=>∃h:Array Y,(∀L:J,Sem.run ai (Instr.build 104 #[(0,az),(1,aA),(2,n5),(3,.int .u64 aC),(4,.int .u64 (IntKind.wrap .u64 (aD+1))),(5,aF)])
 L=.ok (.agg h) L)/\al (a.alloc iV) λr=>ae g a r/\bj r (aa a) (Array.toList h)/\Array.size h=6/\al (setCells r (aa a) 0 (Array.toList h)) λaG=>al (aG.drew) λb=>∃M:ah,s=
 some M/\¬False/\∃N:aq ah,b.cell? (M.add 1)=some (N)/\¬False/\aE b (aa a) λaH=>aE b ((aa a).add 1) λaI=>aE b ((aa a).add 2) λaJ=>b4 b ((aa a).add 3) λ
 aK=>b4 b ((aa a).add 4) λaL=>aE b ((aa a).add 5) λaM=>∃O:ah,s=some O/\¬False/\b4 b (O.add 13) λaN=>b9 77 #[N,.agg #[aH,aI,aJ,.int .u64 aK,.int .u64 aL,aM],.int .u64 (IntKind.wrap .u64 (aN+1))] b λP t=>ao (P !=0) (b9 81 #[s,P] t λaO aP=>Q aO aP) (∃R:ah,s=
 some R/\∃S:aq ah,t.cell? (R.add 3)=some (S)/\fV 131 #[S] t λaQ=>al (aQ.drew) λc=>∃T:Nat->Prop,¬T ((aa a):ah).block/\aE c (aa a) λU=>aE
 c ((aa a).add 1) λV=>aE c ((aa a).add 2) λW=>b4 c ((aa a).add 3) λX=>b4 c ((aa a).add 4) λZ=>aE c ((aa a).add 5) λab=>∃u:ah,s=some u/\¬T (u.add
 13).block/\b4 c (u.add 13) λaR=>∃v:ah,s=some v/\bj c (v.add 7) [U,V,W,.int .u64 X,.int .u64 Z,ab]/\(6:Nat)=6/\al (setCells c (v.add 7) 0
 [U,V,W,.int .u64 X,.int .u64 Z,ab]) λaS=>∃ac:ah,s=some ac/\st aS (ac.add 13) (.int .u64 (IntKind.wrap .u64 (aR+1))) λaT=>∃ad:ah,s=some ad
 /\st aT (ad.add 16) (0:Int) λaU=>al (aU.drew) λx=>∃af:ah,s=some af/\¬False/\∃aj:aq ah,x.cell? af=some (aj)/\∃ak:ah,s=some ak/\¬False/\b4 x (ak.add
 13) λaV=>fV 164 #[aj,.int .u64 (IntKind.wrap .u64 (aV+1))] x λaW=>Q (0:Int) aW)))))
def az.sQ:aO:=(.s .r (.s .r (.s a1 (.s (.cG 9 false ⟨[0,1,2,4,0,16,32,64,128,264],[0,1,2,4,0,16,32,64,128,264]⟩ [33554432,67108864,134217728,268435456,536870912,1073741824,2147483648,
 4294967296,8589934592,17179869184] [1,33554432,67108864,134217728,1,536870912,1073741824,2147483648,4294967296,8858370048] (.t 0 (.t 1 (.t 2 (.t 3 (.t 4 (.t 5 (.t 6 (.t 7 (.t 8 (.tail [.r]))))))))))) (.s (.cG 17 true ⟨[0,0,2,
 4,8,16,0,64,128,256,512,1056,3073,4096,8192,8192,32767,131071],[0,0,2,4,8,16,0,64,128,256,512,1056,2049,4096,8192,8192,16384,32768]⟩ [68719476736,137438953472,274877906944,549755813888,1099511627776,
 2199023255552,4398046511104,8796093022208,17592186044416,35184372088832,70368744177664,140737488355328,281474976710656,34359738368,562949953421312,1125899906842624,32,16] [8,1,137438953472,274877906944,549755813888,
 1099511627776,1,4398046511104,8796093022208,17592186044416,35184372088832,72567767433216,140806207832064,281474976710656,34359738368,34359738368,562949953421312,1125899906842624] (.t 0 (.t 1 (.t 2 (.t 3 (.t 4 (.t 5 (.t 6 (.t 7
 (.t 8 (.t 9 (.bZ 10 (.t 11 (.bZ 12 (.t 13 (.t 14 (.t 15 (.t 16 (.tail [.r]))))))))))))))))))) (.s a1 (.s (.s .r a1) (.s (.s .r a1) (.s .r (.s (.cG 19 true ⟨[0,0,0,0,8,16,32,0,128,256,512,1024,2048,0,8192,16384,32768,
 69703,0,524287],[0,0,0,0,8,16,32,0,128,256,512,1024,2048,0,8192,16384,32768,69703,0,393216]⟩ [77371252455336267181195264,154742504910672534362390528,309485009821345068724781056,618970019642690137449562112,
 1237940039285380274899124224,2475880078570760549798248448,4951760157141521099596496896,9903520314283042199192993792,19807040628566084398385987584,39614081257132168796771975168,79228162514264337593543950336,
 158456325028528675187087900672,316912650057057350374175801344,633825300114114700748351602688,1267650600228229401496703205376,2535301200456458802993406410752,5070602400912917605986812821504,10141204801825835211973625643008,1024,0]
 [256,512,8,1,618970019642690137449562112,1237940039285380274899124224,2475880078570760549798248448,1,9903520314283042199192993792,19807040628566084398385987584,39614081257132168796771975168,79228162514264337593543950336,
 158456325028528675187087900672,1,633825300114114700748351602688,1267650600228229401496703205376,2535301200456458802993406410752,5393008409894303831330853486592,0,10141204801825835211973625644032] (.t 0 (.t 1 (.t 2 (.t 3 (.t 4 (.t 5
 (.t 6 (.t 7 (.t 8 (.t 9 (.t 10 (.t 11 (.t 12 (.t 13 (.t 14 (.t 15 (.t 16 (.t 17 (.bZ 18 (.tail [.r]))))))))))))))))))))) (.s (.s (.cG 10 false ⟨[0,1,2,4,0,0,32,64,128,256,536,2047],[0,1,2,4,0,0,32,64,128,256,536,
 1024]⟩ [20282409603651670423947251286016,40564819207303340847894502572032,81129638414606681695789005144064,162259276829213363391578010288128,324518553658426726783156020576256,649037107316853453566312041152512,
 1298074214633706907132624082305024,2596148429267413814265248164610048,5192296858534827628530496329220096,10384593717069655257060992658440192,20769187434139310514121985316880384,2048] [1,20282409603651670423947251286016,
 40564819207303340847894502572032,81129638414606681695789005144064,1024,1,649037107316853453566312041152512,1298074214633706907132624082305024,2596148429267413814265248164610048,5192296858534827628530496329220096,
 10871371547557295347235726689304576,20769187434139310514121985316880384] (.t 0 (.t 1 (.t 2 (.t 3 (.t 4 (.t 5 (.t 6 (.t 7 (.t 8 (.t 9 (.tail [.r,.r])))))))))))) a1) (.s .r (.s (.cG 15 true ⟨[0,0,0,0,0,16,32,64,128,137,649,1161,
 4091,8187,12283,32767,65535,98303],[0,0,0,0,0,16,32,64,128,1,512,1032,2,4096,8448,4,32768,65536]⟩ [42535295865117307932921825928971026432,85070591730234615865843651857942052864,
 170141183460469231731687303715884105728,340282366920938463463374607431768211456,680564733841876926926749214863536422912,1361129467683753853853498429727072845824,2722258935367507707706996859454145691648,
 5444517870735015415413993718908291383296,10889035741470030830827987437816582766592,21778071482940061661655974875633165533184,43556142965880123323311949751266331066368,0,87112285931760246646623899502532662132736,
 174224571863520493293247799005065324265472,0,348449143727040986586495598010130648530944,696898287454081973172991196020261297061888,0] [1,1,1,1024,1,680564733841876926926749214863536422912,1361129467683753853853498429727072845824,
 2722258935367507707706996859454145691648,5444517870735015415413993718908291383296,42535295865117307932921825928971026432,21778071482940061661655974875633165533184,43896425332801061786775324358698099277824,
 85070591730234615865843651857942052864,87112285931760246646623899502532662132736,185113607604990524124075786442881907032064,170141183460469231731687303715884105728,348449143727040986586495598010130648530944,
 696898287454081973172991196020261297061888] (.t 0 (.t 1 (.t 2 (.t 3 (.t 4 (.t 5 (.t 6 (.t 7 (.t 8 (.t 9 (.t 10 (.out 11 false (.t 12 (.t 13 (.out 14 false (.tail [.r,.r,.r]))))))))))))))))) (.s (.cG 9 false ⟨[0,1,2,4,0,16,32,64,
 128,264],[0,1,2,4,0,16,32,64,128,264]⟩ [1393796574908163946345982392040522594123776,2787593149816327892691964784081045188247552,5575186299632655785383929568162090376495104,11150372599265311570767859136324180752990208,
 22300745198530623141535718272648361505980416,44601490397061246283071436545296723011960832,89202980794122492566142873090593446023921664,178405961588244985132285746181186892047843328,356811923176489970264571492362373784095686656,
 713623846352979940529142984724747568191373312] [1,1393796574908163946345982392040522594123776,2787593149816327892691964784081045188247552,5575186299632655785383929568162090376495104,1,22300745198530623141535718272648361505980416,
 44601490397061246283071436545296723011960832,89202980794122492566142873090593446023921664,178405961588244985132285746181186892047843328,367962295775755281835339351498697964848676864] (.t 0 (.t 1 (.t 2 (.t 3 (.t 4 (.t 5 (.t 6 (.t 7 (.t 8
 (.tail [.r]))))))))))) (.s .r .l)))))))))))))))
def ag.sR(d:aq ah)(i:Int)(w:J)(Q:Y->J->Prop):Prop:=bY (λcr:an->J->Prop=>ao ((!(Option.isNone d))&&(decide (i>=0))) (∃a2:ah,d=some a2/\r1 w (a2.add 4) λa=>cr
 (decide (i<(a.len:Int))) w) (cr false w)) (λ(b:an) c=>Q b c)
def az.sR:aO:=a9
def ag.sS(d:aq ah)(i:Int)(w:J)(Q:Y->J->Prop):Prop:=b_ 108 #[d,i] w λf w1=>ao (!f) (Q (.tuple #[(),(1:Int)]) w1) (∃a4:ah,d=
 some a4/\b_ 136 #[.pointer (some a4),(1:Int)] w1 λg c=>ao g (Q (.tuple #[(),(3:Int)]) c) (jY 137 #[d,i] c λb a=>al (a.alloc r9) λe=>bj
 e (aa a) (Array.toList b)/\Array.size b=256/\al (setCells e (aa a) 0 (Array.toList b)) λh=>Q (.tuple #[.slice (aJ (some (aa a)) 1 0 256) (256-0) (256-0),(0:Int)]) h))
def az.sS:aO:=(.s .r (.s (.b3 eB) (.s .r (.s .r .l))))
def ag.kY(n:Int)(w:J)(Q:Y->J->Prop):Prop:=Q (.bool ((decide (n>=0))&&(decide (n<=65535)))) w
def az.kY:aO:=a3
def ag.mQ(a:Array Y)(bits:Int)(w:J)(Q:Y->J->Prop):Prop:=al (w.alloc (.cells a 24)) λw1=>al (w1.alloc z3) λaj=>∃c:O Y,bz aj (aa w) 0 17=some c/\ig 191
 #[.agg c.toArray,bits] aj λb g d=>bj d (aa w1) (Array.toList b)/\Array.size b=18/\al (setCells d (aa w1) 0 (Array.toList b)) λe=>∃f:O Y,bz e (aa w1) 0 18=some f/\Q (.tuple #[.agg
 f.toArray,g]) e
def az.mQ:aO:=(.s .r (.s .r .l))
theorem ag.CF(a:Array Y)(bits:Int)(w:J)(Q:Y->J->Prop)(h:ag.mQ a bits w Q):aH ai 125 #[.agg a,bits] w Q:=okF (λw Q=>ag.mQ a bits w Q) az.mQ func125 h
def ag.fX(b:ad)(n:Int)(size:Int)(w:J)(Q:Y->J->Prop):Prop:=bG 135 #[b] w λg w1=>b_ 192 #[size] w1 λj h=>ao (!j) (Q g h) (∃ (d:ad->Int->J->Prop) (i:ad->Int->J->Nat),d g (au (size-1)) h/\∀ (c:ad) (n10:Int) (a:J),d c n10 a->ao (decide (n10>=0)) ((0:Int)<=(au (8*n10))/\al (a.alloc
 (.cells #[.int .u8 (IntKind.wrap .u8 (Int.fdiv n (2^(min ((au (8*n10)).toNat) 64))))] 5)) λk=>∃e:ad,∃f:J,Sem.run ai (Builtin.append_ #[48,48] 48 #[c,.slice (some (aa a)) 1 1]) k=.ok e f/\d e (au (n10-1)) f/\i e (au (n10-1)) f<i c n10 a) (Q c a))
def az.fX:aO:=(.s .r (.s .r (.s a1 (.s (.s .r (.b3 (.loop [(7,.slice),(8,(.int .i64))] [1] (.s (.s .r (.c .l .l)) (.s (.b3 .r) .r))))) (.s .r .l)))))
def ag.kt(a:Array Y)(w:J)(Q:Y->J->Prop):Prop:=al (w.alloc (.cells a 24)) λw1=>∃b:O Y,bz w1 (aa w) 0 17=some b/\bG 193 #[.agg b.toArray] w1 λd c=>al
 (c.alloc (.cells #[d] 48)) λe=>bG 92 #[.slice (some (aa c)) 1 1] e λf g=>Q f g
def az.kt:aO:=(.s .r (.s .r .l))
theorem ag.CG(a:Array Y)(w:J)(Q:Y->J->Prop)(h:ag.kt a w Q):aH ai 127 #[.agg a] w Q:=okF (λw Q=>ag.kt a w Q) az.kt func127 h
def ag.sT(n:Int)(w:J)(Q:Y->J->Prop):Prop:=Q (.bool ((decide (n>=1))&&(decide (n<=1600)))) w
def az.sT:aO:=a3
def ag.sU(n:Int)(w:J)(Q:Y->J->Prop):Prop:=(8:Int)≠0/\Q (.int .i64 (au (Int.tdiv (au ((au (n+8))-1)) 8))) w
def az.sU:aO:=(.s .r (.s .r .l))
def ag.sV(s:ad)(no:Int)(w:J)(Q:Y->J->Prop):Prop:=al (w.drew) λw1=>(8:Int)≠0/\∃a2:ah,s.a=some a2/\aL (au (Int.tdiv no 8)) s.len/\¬False/\ee w1 (a2.add ((au (Int.tdiv no
 8)).toNat*1)) λb=>(8:Int)≠0/\(0:Int)<=(Int.tmod no 8)/\∃a4:ah,s.a=some a4/\aL (au (Int.tdiv no 8)) s.len/\st w1 (a4.add ((au (Int.tdiv no 8)).toNat*1)) (.int .u8 (ly .u8 b (IntKind.wrap .u8 (1*2^(min
 ((Int.tmod no 8).toNat) 8))))) λc=>Q (.tuple #[]) c
def az.sV:aO:=(.cG 8 false ⟨[0,0,2,5,8,0,32,64,144,511,1023],[0,0,2,5,8,0,32,64,144,5,768]⟩ [16,32,64,128,256,512,1024,2048,4096,8192,0] [1,2,32,80,128,2,512,1024,2304,80,12288] (.t 0
 (.t 1 (.t 2 (.t 3 (.t 4 (.t 5 (.t 6 (.t 7 (.tail [.r,.r,.r]))))))))))
def ag.qj(s:aq ah)(w:J)(Q:Y->J->Prop):Prop:=ao (!(Option.isNone s)) (∃a1:ah,s=some a1/\r1 w (a1.add 1) λs2=>bG 194 #[s2] w λ
 a b=>∃dL:ah,s=some dL/\st b (dL.add 2) a λc=>Q (.tuple #[]) c) (Q (.tuple #[]) w)
def az.qj:aO:=(.s .r (.c .r .l))
theorem ag.CH(s:aq ah)(w:J)(Q:Y->J->Prop)(h:ag.qj s w Q):aH ai 131 #[s] w Q:=okF (λw Q=>ag.qj s w Q) az.qj func131 h
def ag.sW(no:Int)(w:J)(Q:Y->J->Prop):Prop:=Q (.bool ((decide (no>=0))&&(decide (no<1600)))) w
def az.sW:aO:=a3
theorem ag.yU(no:Int)(w:J)(Q:Y->J->Prop)(h:ag.sW no w Q):aH ai 132 #[no] w Q:=okF (λw Q=>ag.sW no w Q) az.sW func132 h
def ag.sX(a:Int)(w:J)(Q:Y->J->Prop):Prop:=Q (.bool ((decide (a>=1))&&(decide (a<=4)))) w
def az.sX:aO:=a3
theorem ag.yV(a:Int)(w:J)(Q:Y->J->Prop)(h:ag.sX a w Q):aH ai 133 #[a] w Q:=okF (λw Q=>ag.sX a w Q) az.sX func133 h
def ag.mR(b:ad)(w:J)(Q:Y->J->Prop):Prop:=al (w.drew) λw1=>((0:Int)<=20/\20<=(b.cap:Int))/\((0:Int)<=24/\24<=(b.len:Int))/\al (w1.alloc (.cells #[.slice (aJ b.a 1 0 b.cap)
 ((Int.toNat 20)-0) (b.cap-0),.slice (aJ b.a 1 (Int.toNat 24) b.cap) (b.len-(Int.toNat 24)) (b.cap-(Int.toNat 24))] 48)) λaj=>lI 195 #[.slice (some (aa w1)) 2 2] aj λn5 c=>Q (.int .u32 n5) c
def az.mR:aO:=(.s .r (.s (.cG 4 false ⟨[0,1,0,4,10,16,63],[0,1,0,4,10,16,32]⟩ [8,16,32,64,128,256,4] [1,8,1,32,80,128,256] (.t 0 (.t 1 (.t 2 (.t 3 (.tail [.r,.r,.r])))))) .l))
def ag.sY(f:aq ah)(a:Int)(w:J)(Q:Y->J->Prop):Prop:=∃a1:ah,f=some a1/\((0:Int)<=a/\a<((4:Nat):Int))/\aE w (Addr.add a1 (a.toNat*1)) λbf=>ao (bf==
 (-1)) (Q false w) (ao (bf==0) (∃a3:ah,f=some a3/\((0:Int)<=a/\a<((4:Nat):Int))/\st w (Addr.add a3 (a.toNat*1)) (.int .i64 (-1)) λc=>Q true c) (al (w.drew) λb=>∃dL:ah,f
 =some dL/\((0:Int)<=a/\a<((4:Nat):Int))/\¬False/\aE b (Addr.add dL (a.toNat*1)) λn7=>∃eT:ah,f=some eT/\((0:Int)<=a/\a<((4:Nat):Int))/\st b (Addr.add eT (a.toNat*1))
 (.int .i64 (au (n7-1))) λd=>Q false d))
def az.sY:aO:=(.s .r (.s (.s .r (.b3 (.s .r (.c (.s .r .l) (.s .r eT))))) (.s (.cG 7 false ⟨[0,0,1,6,8,16,1,127,191],[0,0,1,6,8,16,1,66,160]⟩ [262144,524288,1048576,2097152,4194304,8388608,16777216,
 33554432,0] [1,2,262144,1572864,2097152,4194304,262144,17301504,41943040] (.t 0 (.t 1 (.t 2 (.t 3 (.t 4 (.t 5 (.t 6 (.tail [.r,.r]))))))))) (.s .r .l))))
set_option maxRecDepth 100000
def ag.sZ(d:aq ah)(i:Int)(w:J)(Q:Y->J->Prop):Prop:=al (w.alloc r9) λw1=>∃a2:ah,d=some a2/\∃e:aq Nat,w1.cell? (a2.add 5)=some (.map e)/\∃b:ad,∃c:J,
 Sem.run ai (Instr.lookup 137 (.map e) i false) w1=.ok b c/\ao (decide ((b.len:Int)>0)) (∃dL:ah,b.a=some dL/\((0:Int)<=(au ((b.len:Int)-1))/\(au
 ((b.len:Int)-1))<(b.len:Int))/\∃f:O Y,bz c (dL.add ((au ((b.len:Int)-1)).toNat*256)) 0 256=some f/\vz c w f Q) (∃eC:ah,d=some eC/\r1 c (eC.add 4) λg=>r6 g i c 256 λh=>
 vz c w h Q)
def az.sZ:aO:=(.s .r (.s (.s .r a1) (.s .r .l)))
def ag.oo(f:Int)(g:Int)(h:Int)(i:Int)(j:Int)(k:Int)(l:Int)(w:J)(Q:Y->J->Prop):Prop:=al (w.alloc (.cells #[f,g,h,.int .u64 i,.int .u64 j,k] 104)) λw1=>aE w1 (aa w) λbf=>bG 126 #[(),.int .u64 (IntKind.wrap .u64 bf),(4:Int)] w1 λm a=>aE a ((aa w).add 1)
 λn6=>bG 126 #[m,.int .u64 (IntKind.wrap .u64 n6),(1:Int)] a λn b=>aE b ((aa w).add 2) λn10=>bG 126 #[n,.int .u64 (IntKind.wrap .u64 n10),(4:Int)] b λo p=>bG 126 #[o,.int .u64 (IntKind.wrap .u64 l),(4:Int)] p λq c=>b4 c ((aa w).add 3) λn17=>bG 126 #[q,.int .u64 n17,
 .int .i64 8] c λr d=>b4 d ((aa w).add 4) λn21=>bG 126 #[r,.int .u64 n21,(8:Int)] d λs e=>aE e ((aa w).add 5) λn25=>bG 126 #[s,.int .u64 (IntKind.wrap .u64 n25),(4:Int)] e λt u=>Q t u
def az.oo:aO:=(.s .r (.s .r (.s .r (.s .r (.s .r a4)))))
def ag.oq(d:aq ah)(ak:Int)(w:J)(Q:Y->J->Prop):Prop:=ao (((Option.isNone d)||(decide (ak<8)))||(decide (ak>64))) (Q (.tuple #[.pointer none,(1:Int)]) w) (((0:Int)<=ak
 /\ak<=ak/\ak<=jx/\((48:Nat):Int)*ak<=140737488355328)/\al (w.alloc (.cells (gx ai 288 (ak.toNat)) 288)) λw1=>al (w1.alloc (.cells #[d,.slice (some (aa w))
 (ak.toNat) (ak.toNat),(0:Int)] 281)) λaj=>Q (.tuple #[.pointer (some (aa w1)),(0:Int)]) aj)
def az.oq:aO:=dL
def ag.mS(c:aq ah)(s:aq ah)(gen:Int)(root:Int)(aI:Int)(w:J)(Q:Y->J->Prop):Prop:=bY (λcr:an->J->Prop=>ao (((((Option.isNone c)||(Option.isNone s))||(decide
 (aI<0)))||(decide (aI>12)))||(decide (root<0))) (cr true w) (∃a2:ah,c=some a2/\∃b:aq ah,w.cell? a2=some (b)/\b9 72 #[b] w λn6 d=>cr (decide (root>=n6)) d))
 (λ(e:an) a=>ao (e||(!((root==0)==(aI==0)))) (Q (.tuple #[.pointer none,(1:Int)]) a) (al (a.alloc (.cells #[c,s,.int .u64 gen,root,aI] 239)) λf=>Q
 (.tuple #[.pointer (some (aa a)),(0:Int)]) f))
def az.mS:aO:=(.s .r (.s (.s (.dh [.r,.r,.r,.pure 2,.r,.r,.r,.pure 2,.r,.r,.r,.pure 2,.r,.r,.r,.pure 2,.r,.r,.r,.split 7,.r,.r,.r,.r,.r,.r,.r,.r,.pure 5]) (.c (.s .r .l) .l)) (.s .r .l)))
def ag.mT(a:ad)(w:J)(Q:Y->J->Prop):Prop:=Q (.bool ((decide ((a.len:Int)>=1))&&(decide ((a.len:Int)<=24)))) w
def az.mT:aO:=dT
def ag.s0(t:aq ah)(key:ad)(w:J)(Q:Y->J->Prop):Prop:=∃a1:ah,t=some a1/\aE w (a1.add 3) λbf=>∃a3:ah,t=some a3/\aE w (a3.add 4) λcp=>∃ (i:ad->Int->Int->J->
 Prop) (l:ad->Int->Int->J->Nat),i ⟨none,0,0⟩ bf cp w/\∀ (e:ad) (n8:Int) (n9:Int) (f:J),i e n8 n9 f->ao (decide (n9>0)) (kX 196 #[t,n8,.bool (n9==1)] f λm n
 o p n17 c=>al (c.alloc z4) λq=>bj q (aa c) [m,n,o,p]/\(4:Nat)=4/\al (setCells q (aa c) 0 [m,n,o,p]) λb=>ao (n17 !=0) (Q (.tuple #[(),n17]) b) (aX b (aa c) λB=>r1 b ((aa c).add 1) λC=>r1 b
 ((aa c).add 2) λD=>r1 b ((aa c).add 3) λE=>∃g:Array Y,Sem.run ai (Instr.build 232 #[(0,n8),(1,.agg #[B,C,D,
 E])]) b=.ok (.agg g) b/\al (b.alloc (.cells #[(0:Int),false,(),(),(),(0:Int)] 232)) λr=>bj r (aa b) (Array.toList g)
 /\Array.size g=6/\al (setCells r (aa b) 0 (Array.toList g)) λd=>bY (λs:Int->J->Prop=>ao (decide (n9>1)) (aX d (aa c) λF=>r1 d ((aa c).add 1) λG=>r1 d ((aa c).add 2) λ
 H=>r1 d ((aa c).add 3) λI=>b9 197 #[.agg #[F,G,H,I],key] d λn34 K=>st K (Addr.add
 (aa b) 5) n34 λh=>r1 h ((aa c).add 3) λu=>aE h ((aa b).add 5) λn37=>∃v:ah,u.a=some v/\aL n37 u.len/\aE h (v.add (n37.toNat*1)) λn39=>s n39 h) (s n8
 d)) (λ(n40:Int) x=>∃y:O Y,bz x (aa b) 0 6=some y/\∃z:ad,∃A:J,Sem.run ai (Instr.buildSlice 228 1 #[(0,.agg y.toArray)]) x=.ok z A
 /\∃j:ad,∃k:J,Sem.run ai (Builtin.append_ #[228,228] 228 #[e,z]) A=.ok j k/\i j n40 (au
 (n9-1)) k/\l j n40 (au (n9-1)) k<l e n8 n9 f))) (Q (.tuple #[e,(0:Int)]) f)
def az.s0:aO:=(.s .r (.s .r (.s .r (.s (.s .r (.b3 (.loop [(6,.slice),(7,(.int .i64)),(8,(.int .i64))] [0,1] (.s (.s .r (.c .l .l)) (.s (.b3 (.s .r (.s a1 (.s .r (.s (.e_ [(7,(.int .i64))] [0,1,6,8,11] (.s .r (.c
 (.s .r .r) .l))) .r))))) .r))))) (.s .r .l)))))
def ag.ot(a:an)(b:ad)(c:ad)(d:ad)(key:ad)(w:J)(Q:Y->J->Prop):Prop:=al (w.alloc (.cells #[a,b,c,d] 202)) λw1=>aX w1 (aa w) λbH=>r1 w1 ((aa w).add 1) λe=>r1 w1 ((aa w).add 2) λf=>r1 w1 ((aa w).add 3) λg=>kq 198 #[.agg #[bH,e,f,g],key] w1 λn8 h i=>Q (.tuple #[n8,h]) i
def az.ot:aO:=(.s .r (.s .r .l))
def ag.qk(s:aq ah)(w:J)(Q:Y->J->Prop):Prop:=ao (!(Option.isNone s)) (∃a1:ah,s=some a1/\r1 w (a1.add 2) λs2=>bG 194 #[s2] w λa
 b=>∃dL:ah,s=some dL/\st b (dL.add 1) a λc=>Q (.tuple #[]) c) (Q (.tuple #[]) w)
def az.qk:aO:=(.s .r (.c .r .l))
theorem ag.CI(s:aq ah)(w:J)(Q:Y->J->Prop)(h:ag.qk s w Q):aH ai 144 #[s] w Q:=okF (λw Q=>ag.qk s w Q) az.qk func144 h
def ag.s3(c:aq ah)(w:J)(Q:Y->J->Prop):Prop:=bG 199 #[c,.func (.func 200) #[] #[]] w λa w1=>Q a w1
def az.s3:aO:=(.s .r (.s .r .l))
def ag.s4(c:aq ah)(no:Int)(w:J)(Q:Y->J->Prop):Prop:=g9 201 #[c,no] w λa w1=>bY (λd:an->J->Prop=>ao (Option.isNone a) (d true w1) (∃
 a5:ah,a=some a5/\aE w1 (a5.add 4) λn6=>d (decide (n6>0)) w1)) (λ(e:an) b=>ao e (Q false b) (∃a9:ah,a=some a9/\bj b a9 [false,false,false,(0:Int),(0:Int),
 ()]/\(6:Nat)=6/\al (setCells b a9 0 [false,false,false,(0:Int),(0:Int),()]) λf=>Q true f))
def az.s4:aO:=(.s .r (.s .r (.s (.s (.dh [.r,.r,.r,.split 5]) (.c (.s .r .l) .l)) (.s .r (.s .r .l)))))
def ag.s5(t:aq ah)(w:J)(Q:Y->J->Prop):Prop:=ao (Option.isNone t) (Q (.tuple #[(0:Int),(0:Int)]) w) (al (w.drew) λw1=>∃a2:ah,t=some a2/\¬False/\aE w1 (a2.add 3) λa=>∃
 a4:ah,t=some a4/\¬False/\aE w1 (a4.add 4) λn5=>Q (.tuple #[a,n5]) w1)
def az.s5:aO:=(.s .r (.s a1 (.s (.cG 9 false ⟨[0,1,2,4,0,16,32,64,15,511],[0,1,2,4,0,16,32,64,8,128]⟩ [64,128,256,512,1024,2048,4096,8192,4,8] [1,64,128,256,1,1024,2048,4096,512,8192] (.t
 0 (.t 1 (.t 2 (.t 3 (.t 4 (.t 5 (.t 6 (.t 7 (.t 8 (.tail [.r]))))))))))) .l)))
def ag.ql(s:aq ah)(w:J)(Q:Y->J->Prop):Prop:=ao (Option.isNone s) (Q (0:Int) w) (∃a1:ah,s=some a1/\aE w a1 λbf=>∃a3:ah,s=some a3/\r1 w (a3.add 1) λl=>∃ (e:
 Int->Int->J->Prop) (i:Int->Int->J->Nat),e bf 0 w/\∀ (n7:Int) (n8:Int) (d:J),e n7 n8 d->ao (decide (n8<(l.len:Int))) (al (d.drew) λb=>∃c:Nat->Prop,∃fa:ah,s=some fa/\¬c
 (fa.add 1).block/\r1 b (fa.add 1) λj=>∃fv:ah,j.a=some fv/\aL n8 j.len/\¬c (fv.add (n8.toNat*1)).block/\ee b (fv.add (n8.toNat*1)) λn15=>∃f:ah,s=some f/\¬c (f.add
 2).block/\r1 b (f.add 2) λk=>∃g:ah,k.a=some g/\aL n8 k.len/\¬c (g.add (n8.toNat*1)).block/\ee b (g.add (n8.toNat*1)) λn19=>b9 202 #[.int .u8 (ly .u8 n15 n19)] b
 λn22 h=>ae c b h/\e (au (n7-n22)) (au (n8+1)) h/\i (au (n7-n22)) (au (n8+1)) h<i n7 n8 d) (Q n7 d))
def az.ql:aO:=(.s .r (.s a1 (.s .r (.s (.s .r (.b3 (.loop [(3,(.int .i64)),(16,(.int .i64))] [0,15] (.s .r (.s (.c .l .l) (.s (.b3 (.s .r (.cG 17 true ⟨[0,0,2,4,8,0,48,64,0,256,512,1024,0,6144,8192,
 16512,32768,65537,262143],[0,0,2,4,8,0,48,64,0,256,512,1024,0,6144,8192,16512,32768,65537,131073]⟩ [524288,1048576,2097152,4194304,8388608,16777216,33554432,67108864,134217728,268435456,536870912,1073741824,
 2147483648,4294967296,8589934592,17179869184,34359738368,68719476736,8] [8,1,1048576,2097152,4194304,16,25165824,33554432,1,134217728,268435456,536870912,16,3221225472,4294967296,8657043456,17179869184,34360262656,
 68719476736] (.t 0 (.t 1 (.t 2 (.t 3 (.t 4 (.t 5 (.t 6 (.t 7 (.t 8 (.t 9 (.t 10 (.t 11 (.t 12 (.t 13 (.t 14 (.t 15 (.bZ 16 (.tail [.r,.r]))))))))))))))))))))) .r)))))) (.s .r .l)))))
theorem ag.CJ(s:aq ah)(w:J)(Q:Y->J->Prop)(h:ag.ql s w Q):aH ai 148 #[s] w Q:=okF (λw Q=>ag.ql s w Q) az.ql func148 h
def ag.qm(t:aq ah)(gY:ad)(r:an)(s:ad)(u:ad)(v:ad)(w:J)(Q:Y->J->Prop):Prop:=al (w.alloc (.cells #[r,s,u,v] 202)) λw1=>al (w1.alloc (.cells #[(0:Int)] 34)) λaj=>al (aj.drew) λc=>∃g:Nat->Prop,∃
 a5:ah,t=some a5/\¬g (a5.add 1).block/\∃h:aq ah,c.cell? (a5.add 1)=some (h)/\∃dT:ah,t=some dT/\¬g (dT.add 4).block/\aE c (dT.add 4) λn8=>b9 148 #[h] c λn11
 d=>ae g c d/\ao (decide (n11<(au ((au (2*n8))+3)))) (st d (aa w1) (2:Int) λi=>aE i (aa w1) λn13=>Q n13 i) (al (d.alloc (.cells #[t,(),()]
 297)) λa=>al (a.alloc (.cells #[.pointer none] 295)) λx=>st x (aa a) (.pointer (some (aa d))) λb=>∃j:aq ah,b.cell? (aa a)=some (j)/\aX b (aa w) λy=>
 r1 b ((aa w).add 1) λz=>r1 b ((aa w).add 2) λA=>r1 b ((aa w).add 3) λB=>n_ 208 #[j,gY,.agg #[y,z,A,B]] b λn24 n25 n26 C=>st C (aa w1) n26 λe=>aE e (aa w1) λn28=>ao (n28 !=0) (aE e (aa w1) λn29=>st e (aa w1) n29 λD=>n1
 ai 206 #[.pointer (some (aa w1)),.pointer (some (aa a))] D λk=>aE k (aa w1) λn32=>Q n32 k) (al (e.drew) λf=>¬False/\∃l:aq ah,f.cell? (aa a)=some (.pointer
 l)/\¬False/\∃m:aq ah,f.cell? (aa a)=some (m)/\∃n:ah,m=some n/\¬False/\r1 f (n.add 2) λE=>fV 207 #[l,E] f λF=>∃
 o:ah,t=some o/\st F (o.add 3) n24 λG=>∃p:ah,t=some p/\st G (p.add 4) n25 λH=>st H (aa w1) (0:Int) λI=>n1 ai 206 #[.pointer (some
 (aa w1)),.pointer (some (aa a))] I λq=>aE q (aa w1) λK=>Q K q))
def az.qm:aO:=(.s .r (.s (.s (.cG 11 true ⟨[0,1,2,4,8,0,32,64,128,256,512,1040],[0,1,2,4,8,0,32,64,128,256,512,1040]⟩ [1024,2048,4096,8192,16384,32768,65536,131072,262144,524288,1048576,
 2097152] [1,1024,2048,4096,8192,1,32768,65536,131072,262144,524288,1064960] (.t 0 (.t 1 (.t 2 (.t 3 (.t 5 (.t 6 (.t 7 (.t 8 (.t 9 (.t 10 (.bZ 4 (.tail [.r]))))))))))))) (.c (.s .r .l) .l)) (.s .r (.s .l (.s .r (.s a1 (.s (.cG 5
 false ⟨[0,0,2,4,8,17],[0,0,2,4,8,17]⟩ [137438953472,274877906944,549755813888,1099511627776,2199023255552,4398046511104] [128,128,274877906944,549755813888,1099511627776,2336462209024] (.t 0 (.t 1 (.t 2 (.t 3 (.t 4
 (.tail [.r]))))))) (.s .r (.s .r .l)))))))))
theorem ag.CK(t:aq ah)(gY:ad)(a:an)(b:ad)(c:ad)(d:ad)(w:J)(Q:Y->J->Prop):ag.qm t gY a b c d w Q=vi ai tk az.qm Tryz.f150 [t,gY,.agg #[a,b,c,d]] w Q:=by kernel_rfl
theorem ag.CL(t:aq ah)(gY:ad)(a:an)(b:ad)(c:ad)(d:ad)(w:J)(Q:Y->J->Prop)(h:ag.qm t gY a b c d w Q):Calls ai 150 #[t,gY,.agg #[a,b,c,d]] w λe w1=>∃v,e=.returned v/\Q v w1:=
 Ck vq func150 (by kernel_rfl) (Eq.mp (ag.CK t gY a b c d w Q) h)
def ag.ou(B:an)(C:ad)(D:ad)(E:ad)(key:ad)(val:ad)(w:J)(Q:Y->J->Prop):Prop:=al (w.alloc (.cells #[B,C,D,E] 202)) λw1=>al (w1.alloc z4) λaj=>aX aj (aa w) λF=>bY (λG:an->J->Prop=>sm F G aj w) (λ(H:an) m=>bY (λn:an->J
 ->Prop=>ao H (n true m) (b_ 209 #[key] m λI K=>n (!I) K)) (λ(L:an) c=>ao (L||(decide ((val.len:Int)>24))) (bj c (aa w1) [false,(),
 (),()]/\(4:Nat)=4/\al (setCells c (aa w1) 0 [false,(),(),()]) λM=>si M w1 Q) (aX c (aa w) λN=>r1 c ((aa w).add 1) λO=>r1 c
 ((aa w).add 2) λP=>r1 c ((aa w).add 3) λR=>gg 204 #[.agg #[N,O,P,R]] c λo p q r b=>al (b.alloc
 z4) λs=>bj s (aa b) [o,p,q,r]/\(4:Nat)=4/\al (setCells s (aa b) 0 [o,p,q,r]) λd=>aX d (aa w) λS=>r1 d ((aa w).add 1) λT=>r1 d ((aa w).add 2) λU=>r1 d ((aa w).add 3) λV=>kq 198 #[.agg #[S,
 T,U,V],key] d λe W t=>ao W (al (t.drew) λh=>∃u:Nat->Prop,¬u ((aa b).add 2).block/\r1 h
 ((aa b).add 2) λv=>bG 135 #[val] h λX x=>ae u h x/\∃y:ah,v.a=some y/\aL e v.len/\st x (y.add (e.toNat*1)) X λZ=>dp Z b w1 Q) (al (t.drew) λi=>∃j:Nat->Prop,¬j ((aa b).add 1).block/\r1 i ((aa b).add 1) λab=>bG 135 #[key] i λ
 ac f=>ae j i f/\al (f.alloc (.cells #[ac] 48)) λz=>ae j f z/\bG 210 #[ab,e,.slice (some (aa f)) 1 1]
 z λaf ai=>st ai ((aa b).add 1) af λak=>al (ak.drew) λk=>∃l:Nat->Prop,¬l ((aa b).add 2).block/\r1 k ((aa b).add 2) λam=>bG
 135 #[val] k λap g=>ae l k g/\al (g.alloc (.cells #[ap] 48)) λA=>ae l g A/\bG 210
 #[am,e,.slice (some (aa g)) 1 1] A λaq ar=>st ar ((aa b).add 2) aq λau=>dp au b w1 Q))))
def az.ou:aO:=(.s .r (.s (.s (.dh [.r,.r,.r,.r,.split 3,.r,.r,.r,.r,.split 3,.r,.r,.r,.r,.pure 3]) (.c (.s .r .l) .l)) (.s .r (.s .r (.s (.s .r (.c (.s (.cG 5 true ⟨[0,1,0,0,8,31,63],[0,1,0,0,8,6,48]⟩
 [549755813888,1099511627776,2199023255552,4398046511104,8796093022208,17592186044416,0] [256,549755813888,512,4,4398046511104,3298534883328,26388279066624] (.t 0 (.t 1 (.t 2 (.t 3 (.bZ 4 (.tail [.r,.r]))))))) (.s .r .l)) .l))
 (.s (.cG 6 true ⟨[0,1,0,0,8,16,54,127,255],[0,1,0,0,8,16,38,0,192]⟩ [70368744177664,140737488355328,281474976710656,562949953421312,1125899906842624,2251799813685248,4503599627370496,9007199254740992,0] [256,
 70368744177664,512,2,562949953421312,1125899906842624,2674012278751232,256,13510798882111488] (.t 0 (.t 1 (.t 2 (.t 3 (.bZ 4 (.bZ 5 (.tail [.r,.r,.r])))))))) (.s (.cG 6 true ⟨[0,1,0,0,8,16,54,127,255],[0,1,0,0,8,
 16,38,0,192]⟩ [18014398509481984,36028797018963968,72057594037927936,144115188075855872,288230376151711744,576460752303423488,1152921504606846976,2305843009213693952,0] [256,18014398509481984,512,4,144115188075855872,
 288230376151711744,684547143360315392,256,3458764513820540928] (.t 0 (.t 1 (.t 2 (.t 3 (.bZ 4 (.bZ 5 (.tail [.r,.r,.r])))))))) (.s .r .l))))))))
def ag.iW(b:ad)(j:Int)(size:Int)(w:J)(Q:Y->J->Prop):Prop:=fW 215 #[b,j,size] w λd k w1=>bY (λf:an->J->Prop=>ao (!k) (f
 true w1) (b_ 192 #[size] w1 λl m=>f (!l) m)) (λ(n:an) g=>ao n (Q (.tuple #[.int .u64 0,false]) g) (∃ (e:Int->Int->J->Prop) (h:Int->Int->J->Nat),e 0 0 g/\∀ (n13:
 Int) (n14:Int) (c:J),e n13 n14 c->ao (decide (n14<(d.len:Int))) (∃i:ah,d.a=some i/\aL n14 d.len/\ee c (i.add (n14.toNat*1)) λn17=>(0:Int)<=8/\e (ly .u64 (IntKind.wrap .u64 (n13*2^
 (min (Int.toNat 8) 64))) (IntKind.wrap .u64 n17)) (au (n14+1)) c/\h (ly .u64 (IntKind.wrap .u64 (n13*2^(min (Int.toNat 8) 64))) (IntKind.wrap .u64 n17)) (au (n14+1)) c<h n13 n14 c) (Q (.tuple #[.int .u64 n13,true]) c)))
def az.iW:aO:=(.s .r (.s .r (.s eC (.s .r (.s (.s .r (.b3 (.loop [(10,(.int .u64)),(29,(.int .i64))] [27,28] a2))) (.s .r .l))))))
def ag.ov(b:ad)(w:J)(Q:Y->J->Prop):Prop:=al (w.alloc z5) λw1=>ig 216 #[b] w1 λe1 d aj=>bj aj (aa w) (Array.toList e1)/\Array.size e1=17/\al (setCells aj (aa w)
 0 (Array.toList e1)) λa=>∃c:O Y,bz a (aa w) 0 17=some c/\Q (.tuple #[.agg c.toArray,d]) a
def az.ov:aO:=(.s .r (.s .r .l))
def ag.ow(service:Int)(w:J)(Q:Y->J->Prop):Prop:=b_ 124 #[service] w λc w1=>ao (!c) (Q (.tuple #[(),()]) w1) (bG 126 #[(),.int .u64
 (IntKind.wrap .u64 service),(2:Int)] w1 λd a=>bY (λb:ad->J->Prop=>ao (decide (service<65535)) (bG 126 #[(),.int .u64 (IntKind.wrap .u64 ((IntKind.wrap .u64 service)+1)),(2:Int)] a λ
 e f=>b e f) (b ⟨none,0,0⟩ a)) (λ(g:ad) h=>Q (.tuple #[d,g]) h))
def az.ow:aO:=(.s .r (.s a1 (.s .r (.s (.e_ [(3,.slice)] [2] (.s .r (.c .r .l))) (.s .r .l)))))
def ag.qn(s:aq ah)(w:J)(Q:Y->J->Prop):Prop:=ao (Option.isNone s) (Q (.tuple #[.int .i64 (-1),(1:Int)]) w) (∃a1:ah,s=some a1/\aE w a1 λbf=>∃ (c:Int->J->Prop) (d:
 Int->J->Nat),c 0 w/\∀ (n5:Int) (a:J),c n5 a->ao (decide (n5<bf)) (b_ 217 #[s,n5] a λe b=>ao (!e) (∃eC:ah,s=some eC/\r1 b (eC.add 1) λf=>fV
 130 #[f,n5] b λg=>Q (.tuple #[n5,(0:Int)]) g) (c (au (n5+1)) b/\d (au (n5+1)) b<d n5 a)) (Q (.tuple #[.int .i64 (-1),(2:Int)]) a))
def az.qn:aO:=(.s .r (.s a1 (.s (.s .r (.b3 (.loop [(11,(.int .i64))] [0,10] (.s .r (.s (.c .l .l) (.s (.b3 (.s .r (.s .r eT))) .r)))))) (.s .r .l))))
theorem ag.CM(s:aq ah)(w:J)(Q:Y->J->Prop)(h:ag.qn s w Q):aH ai 160 #[s] w Q:=okF (λw Q=>ag.qn s w Q) az.qn func160 h
def ag.qo(s:aq ah)(no:Int)(w:J)(Q:Y->J->Prop):Prop:=b_ 218 #[s,no] w λb w1=>ao (!b) (Q (1:Int) w1) (∃a4:ah,s=some a4/\r1 w1 (a4.add 1)
 λc=>b_ 214 #[c,no] w1 λd a=>ao (!d) (Q (6:Int) a) (∃a9:ah,s=some a9/\r1 a (a9.add 1) λe=>fV 219 #[e,no] a λf=>Q (0:Int) f))
def az.qo:aO:=(.s .r (.s (.b3 eB) (.s .r (.s .r .l))))
theorem ag.CN(s:aq ah)(no:Int)(w:J)(Q:Y->J->Prop)(h:ag.qo s no w Q):aH ai 161 #[s,no] w Q:=okF (λw Q=>ag.qo s no w Q) az.qo func161 h
def ag.s6(c:aq ah)(no:Int)(b:ad)(w:J)(Q:Y->J->Prop):Prop:=b_ 220 #[c,no] w λl w1=>ao ((!l)||((b.len:Int) !=256)) (Q (1:Int) w1) (g9
 201 #[c,no] w1 λf g=>bY (λh:aq ah->J->Prop=>ao (Option.isNone f) (gK 221 #[c] g λd n11 a=>ao (n11 !=0) (Q n11 a) (∃fa:ah,d
 =some fa/\(∃u:Y,a.cell? fa=some u)/\a.frozen? fa=false/\al (a.setCell fa true) λm=>∃fv:ah,d=some fv/\st m (fv.add 3) no λn=>h d n)) (h f g)) (λ(e:aq
 ah) o=>bG 135 #[b] o λp q=>∃i:ah,e=some i/\st q (i.add 5) p λr=>∃j:ah,e=some j/\st r (j.add 1) true λs=>∃k:ah,e=some k/\st s (k.add 2) true λt=>Q (0:Int) t))
def az.s6:aO:=(.s .r (.s (.s (.dh [.r,.r,.r,.r,.r,.pure 3]) (.c (.s .r .l) .l)) (.s .r (.s (.e_ [(7,.ptr)] [2] (.s .r (.c (.s .r (.s a1 (.s .r .r))) .l))) (.s .r (.s .r .l))))))
def ag.s7(c:aq ah)(w:J)(Q:Y->J->Prop):Prop:=ao (Option.isNone c) (Q (1:Int) w) (bG 145 #[c] w λd w1=>∃ (e:Int->J->Prop) (g:Int->J->Nat),
 e 0 w1/\∀ (n6:Int) (b:J),e n6 b->ao (decide (n6<(d.len:Int))) (∃eT:ah,d.a=some eT/\aL n6 d.len/\aE b (eT.add (n6.toNat*1)) λn9=>g9 201 #[c,n9] b λh p=>al
 (p.drew) λf=>∃fv:ah,c=some fv/\¬False/\∃i:aq ah,f.cell? fv=some (i)/\∃j:ah,h=some j/\¬False/\r1 f (j.add 5) λq=>b9 75 #[i,n9,q] f λn20 k=>ao (n20 !=0) (Q n20 k) (∃l:ah,h=some l/\st k (l.add 1) false λm=>e (au (n6+1)) m/\g (au (n6+1)) m<g n6 b)) (∃n:ah,c
 =some n/\∃o:aq ah,b.cell? n=some (o)/\b9 76 #[o] b λn27 r=>Q n27 r))
def az.s7:aO:=(.s .r (.s a1 (.s (.s .r (.b3 (.loop [(12,(.int .i64))] [0,10,11] (.s .r (.s (.c .l .l) (.s (.b3 (.s .r (.s .r (.s (.s (.cG 9 false ⟨[0,1,2,4,0,0,32,64,128,280,1023],[0,1,2,4,0,0,32,64,
 128,280,512]⟩ [524288,1048576,2097152,4194304,8388608,16777216,33554432,67108864,134217728,268435456,64] [1,524288,1048576,2097152,16,32,16777216,33554432,67108864,146800640,268435456] (.t 0 (.t 1 (.t 2 (.t 3 (.t 4 (.t
 5 (.t 6 (.t 7 (.t 8 (.tail [.r,.r]))))))))))) a1) .r)))) .r)))))) (.s .r .l))))
def ag.qp(t:aq ah)(gen:Int)(w:J)(Q:Y->J->Prop):Prop:=ao (!(Option.isNone t)) (∃a1:ah,t=some a1/\st w (a1.add 2) (.int .u64 gen) λaj=>Q (.tuple #[]) aj) (Q (.tuple #[]) w)
def az.qp:aO:=(.s .r (.c .r .l))
theorem ag.CO(t:aq ah)(gen:Int)(w:J)(Q:Y->J->Prop)(h:ag.qp t gen w Q):aH ai 164 #[t,.int .u64 gen] w Q:=okF (λw Q=>ag.qp t gen w Q) az.qp func164 h
def ag.ox(no:Int)(b:ad)(w:J)(Q:Y->J->Prop):Prop:=al (w.alloc r_) λw1=>ao ((b.len:Int) !=256) (bj w1 (aa w) [(0:Int),.int .u64 0,()]/\(3:Nat)=3/\al (setCells w1 (aa w)
 0 [(0:Int),.int .u64 0,()]) λaj=>aE aj (aa w) λz=>b4 aj ((aa w).add 1) λcp=>r1 aj ((aa w).add 2) λA=>Q (.tuple #[.agg #[z,.int .u64 cp,A],(9:Int)])
 aj) (((0:Int)<=4/\4<=(b.cap:Int))/\∃n:ByteArray,∃c:J,Sem.run ai (convert 48 9 (.slice (aJ b.a 1 0 b.cap) ((Int.toNat 4)-0) (b.cap-0))) w1=.ok (.string n) c/\ao
 (!(ByteArray.toList n==ByteArray.toList (ByteArray.mk #[83,84,78,67]))) (bj c (aa w) [(0:Int),.int .u64 0,()]/\(3:Nat)=3/\al (setCells c (aa w) 0 [(0:Int),.int .u64 0,()]) λB=>
 vy B w Q) (∃fa:ah,b.a=some fa/\aL 4 b.len/\ee c (fa.add (Int.toNat 4*1)) λn13=>ao (n13 !=1) (bj c (aa w) [(0:Int),.int .u64 0,()]/\(3:Nat)=3/\al (setCells c (aa w) 0 [(0:Int),.int
 .u64 0,()]) λd=>aE d (aa w) λn15=>b4 d ((aa w).add 1) λn16=>r1 d ((aa w).add 2) λC=>Q (.tuple #[.agg #[n15,.int .u64 n16,C],(12:Int)]) d)
 (lI 134 #[b] c λn20 D=>qa 227 #[b,(20:Int),(24:Int)] D λn23 h=>ao (((IntKind.wrap .u64 n20):Int) !=n23) (bj h (aa w) [(0:Int),.int .u64
 0,()]/\(3:Nat)=3/\al (setCells h (aa w) 0 [(0:Int),.int .u64 0,()]) λe=>aE e (aa w) λn25=>b4 e ((aa w).add 1) λn26=>r1 e ((aa w).add 2) λE=>Q (.tuple #[.agg
 #[n25,.int .u64 n26,E],(5:Int)]) e) (qa 227 #[b,(6:Int),(8:Int)] h λn30 o=>∃p:ah,b.a=some p/\aL 5 b.len/\ee o (p.add
 (Int.toNat 5*1)) λn32=>b_ 133 #[.int .i64 (au n32)] o λF q=>bY (λr:an->J->Prop=>ao ((!F)||(decide (((au n30):Int)>232))) (r true q) (((0:Int)<=(au (24+(au n30)))/\(au (24+(au
 n30)))<=(b.len:Int))/\b_ 228 #[.slice (aJ b.a 1 ((au (24+(au n30))).toNat) b.cap) (b.len-((au (24+(au n30))).toNat)) (b.cap-((au (24+(au n30))).toNat))] q λG H=>r (!G) H)) (λ(I:
 an) i=>ao I (bj i (aa w) [(0:Int),.int .u64 0,()]/\(3:Nat)=3/\al (setCells i (aa w) 0 [(0:Int),.int .u64 0,()]) λK=>vy K w Q) (b_ 132 #[no] i λL
 s=>bY (λt:an->J->Prop=>ao (!L) (t true s) (qa 227 #[b,(8:Int),(12:Int)] s λM N=>t (M !=(IntKind.wrap .u64 no)) N)) (λ(O:an) j=>ao O
 (bj j (aa w) [(0:Int),.int .u64 0,()]/\(3:Nat)=3/\al (setCells j (aa w) 0 [(0:Int),.int .u64 0,()]) λf=>aE f (aa w) λP=>b4 f ((aa w).add 1) λR=>r1 f
 ((aa w).add 2) λS=>Q (.tuple #[.agg #[P,.int .u64 R,S],(1:Int)]) f) (fW 229 #[b,(24:Int),.int .i64 (au n30)] j λu X T=>al
 (T.drew) λk=>∃v:Nat->Prop,∃l:ah,b.a=some l/\aL 5 b.len/\¬v (l.add (Int.toNat 5*1)).block/\ee k (l.add (Int.toNat 5*1)) λx=>qa 227 #[b,(12:Int),(20:Int)] k λy m=>ae v k m/\bj m (aa w) [.int .i64 (au x),.int .u64 y,u]/\(3:Nat)=3/\al (setCells m (aa w) 0 [.int .i64 (au x),.int .u64 y,u]) λg=>aE g (aa w) λU=>b4 g ((aa w).add 1) λV=>r1 g ((aa w).add 2) λW=>Q (.tuple #[.agg #[U,.int .u64 V,W],(0:Int)]) g))))))))
def az.ox:aO:=(.s .r (.s (.b3 (.s .r (.c (.s .r .l) (.s .r (.c (.s .r .l) eB))))) (.s .r (.s (.b3 (.s (.dh [.r,.r,.r,.r,.r,.r,.r,.pure 2,.r,.r,.r,.split 6]) (.c (.s .r .l) (.s (.dh [.r,.r,.r,.r,.split 5]) (.c
 (.s .r .l) .l))))) (.s .r (.s (.cG 7 true ⟨[0,1,2,4,0,16,0,104,255,511],[0,1,2,4,0,16,0,104,128,0]⟩ [37778931862957161709568,75557863725914323419136,151115727451828646838272,302231454903657293676544,
 604462909807314587353088,1208925819614629174706176,2417851639229258349412352,4835703278458516698824704,0,32] [2,37778931862957161709568,75557863725914323419136,151115727451828646838272,2,604462909807314587353088,128,
 3929008913747544817795072,4835703278458516698824720,0] (.t 0 (.t 1 (.t 2 (.t 3 (.t 4 (.t 6 (.bZ 5 (.tail [.r,.r,.r]))))))))) .l))))))
def ag.mU(a:Array Y)(bits:Int)(w:J)(Q:Y->J->Prop):Prop:=al (w.alloc (.cells a 24)) λw1=>al (w1.alloc z3) λaj=>∃k:O Y,bz aj (aa w) 0 17=some k/\bG 127
 #[.agg k.toArray] aj λb l=>∃m:O Y,bz l (aa w) 0 17=some m/\b_ 237 #[.agg m.toArray] l λB c=>ao (((!B)||(decide (bits<0)))||(decide (bits>(au (8*(b.len:Int)))))) (∃e:Array
 Y,Sem.run ai (Instr.build 26 #[]) c=.ok (.agg e) c/\bj c (aa w1) (Array.toList e)/\Array.size e=18/\al (setCells c (aa w1) 0 (Array.toList e)) λn=>∃o:O Y,bz n (aa w1)
 0 18=some o/\Q (.tuple #[.agg o.toArray,false]) n) (∃ (i:Int->J->Prop) (p:Int->J->Nat),i 0 c/\∀ (n16:Int) (f:J),i n16 f->ao (decide (n16<(b.len:Int))) (∃n18:Int,∃q:J,
 Sem.run ai (Builtin.max_ #[3,3] 3 #[.int .i64 (au (bits-(au (8*n16)))),(0:Int)]) f=.ok n18 q/\∃n20:Int,∃r:J,Sem.run ai (Builtin.min_ #[3,3] 3 #[n18,(8:Int)]) q=.ok n20 r/\al (r.drew) λs=>∃t:ah,b.a=some t/\aL n16 b.len/\¬False/\ee s (t.add (n16.toNat*1)) λn24=>(0:Int)<=(au (8-n20))/\∃u:ah,b.a=
 some u/\aL n16 b.len/\st s (u.add (n16.toNat*1)) (.int .u8 (h_ .u8 n24 (IntKind.wrap .u8 (255*2^(min ((au (8-n20)).toNat) 8))))) λv=>i (au (n16+1)) v/\p (au (n16+1)) v<p n16 f) (ig
 216 #[b] f λj C g=>al (g.alloc z5) λx=>bj x (aa g) (Array.toList j)/\Array.size j=17/\al (setCells x (aa g) 0 (Array.toList j)) λd=>∃y:O Y,
 bz d (aa g) 0 17=some y/\∃h:Array Y,Sem.run ai (Instr.build 26 #[(0,.agg y.toArray),(1,bits)]) d=.ok (.agg h) d/\bj d (aa w1) (Array.toList h)/\Array.size h=18
 /\al (setCells d (aa w1) 0 (Array.toList h)) λz=>∃A:O Y,bz z (aa w1) 0 18=some A/\Q (.tuple #[.agg A.toArray,true]) z))
def az.mU:aO:=(.s .r (.s .r (.s (.s (.dh [.r,.r,.r,.r,.pure 2,.r,.r,.r,.pure 5]) (.c (.s .r .l) .l)) (.s (.s .r (.b3 (.loop [(30,(.int .i64))] [1,4,6,29] (.s .r (.s (.c .l .l) (.s (.b3 (.s .r (.s .r (.cG 7 false
 ⟨[0,0,3,4,0,16,32,72,255,511],[0,0,3,4,0,16,32,72,3,384]⟩ [549755813888,1099511627776,2199023255552,4398046511104,8796093022208,17592186044416,35184372088832,70368744177664,140737488355328,0] [64,128,
 1649267441664,2199023255552,256,8796093022208,17592186044416,39582418599936,1649267441664,211106232532992] (.t 0 (.t 1 (.t 2 (.t 3 (.t 4 (.t 5 (.t 6 (.tail [.r,.r,.r])))))))))))) .r)))))) (.s .r (.s .r .l))))))
theorem ag.CP(a:Array Y)(bits:Int)(w:J)(Q:Y->J->Prop)(h:ag.mU a bits w Q):aH ai 191 #[.agg a,bits] w Q:=okF (λw Q=>ag.mU a bits w Q) az.mU func191 h
def ag.s8(size:Int)(w:J)(Q:Y->J->Prop):Prop:=Q (.bool ((decide (size>=1))&&(decide (size<=8)))) w
def az.s8:aO:=a3
theorem ag.yW(size:Int)(w:J)(Q:Y->J->Prop)(h:ag.s8 size w Q):aH ai 192 #[size] w Q:=okF (λw Q=>ag.s8 size w Q) az.s8 func192 h
def ag.mV(a:Array Y)(w:J)(Q:Y->J->Prop):Prop:=al (w.alloc (.cells a 24)) λw1=>aX w1 (aa w) λbH=>ao bH (Q (.slice (aJ (some ((aa w).add 1)) 1 0 16) (16-0) (16-0)) w1) (((0:
 Int)<=12/\12<=((16:Nat):Int))/\Q (.slice (aJ (some ((aa w).add 1)) 1 (Int.toNat 12) 16) (16-(Int.toNat 12)) (16-(Int.toNat 12))) w1)
def az.mV:aO:=db
theorem ag.CQ(a:Array Y)(w:J)(Q:Y->J->Prop)(h:ag.mV a w Q):aH ai 193 #[.agg a] w Q:=okF (λw Q=>ag.mV a w Q) az.mV func193 h
end Go.Proofs.YtkdhdlfonmgheaaGreat
