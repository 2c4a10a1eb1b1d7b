/- Printed by gen.py: functions of the program, each as what must be shown of it. -/
import Derived.Test.YtkdhdlfonmgheaaGreatProg
import Derived.Test.YtkdhdlfonmgheaaGreatKSpoilt2
namespace a_
abbrev aQ.s:=aQ.seq
abbrev aQ.l:=aQ.leaf
abbrev aQ.c:=aQ.cond
abbrev aQ.r:=aQ.cV []
abbrev aM.t:=aM.take
abbrev kX.r:=kX.run
end a_
namespace Go.Proofs.YtkdhdlfonmgheaaGreat
noncomputable abbrev ai:=Tryz.prog
open Go a_ Go.Proofs.Tryz
namespace F
end F
namespace En
end En
namespace G
end G
abbrev aV:dS:=.one (.one .fn)
abbrev e7:dS:=.one (.one .agg)
abbrev gk:dS:=.one (.one .ptr)
abbrev jr:dS:=.one (.one .slice)
abbrev nZ:dS:=.fj [(.one .ptr),(.one (.int .i64))]
abbrev pD:dS:=.fj [(.one .slice),(.one (.int .i64))]
abbrev tn:dS:=.one (.one (.int .i64))
abbrev tp:dS:=.one (.one (.int .u8))
abbrev tq:dS:=.one (.one (.int .u64))
abbrev tr:dS:=.one (.flat [.slice,.slice])
abbrev tu:dS:=.one (.flat [.ptr,.slice,(.int .i64)])
abbrev tv:dS:=.one (.flat [.slice,(.int .i64)])
def Eo:O dS:=[(.fj []),aV,tn,tn,(.one (.one .bool)),tp,tp,(.one (.flat [(.int .i64),(.int .i64),.bool,(.int .u8)])),(.one (.flat [(.int .i64),(.int .i64),.bool,(.int .u8)])),(.one (.one .str)),(.one (.one .str)),(.one (.one .str)),tq,(.one (.flat [.str,(.int .u64)])),(.one (.flat [.str,(.int .u64)])),gk,gk,gk,(.one (.flat [.ptr])),(.one (.flat [.ptr])),(.one (.one .any)),(.one (.one (.int .i32))),e7,e7,e7,e7,e7,tq,e7,e7,gk,gk,(.fj [(.one .ptr),(.one .ptr),(.one .bool)]),aV,tn,aV,aV,aV,aV,jr,nZ,aV,gk,nZ,aV,(.one (.flat [(.int .i64),(.int .i64),(.int .u64)])),(.one (.flat [(.int .i64),(.int .i64),(.int .u64)])),aV,jr,(.one (.flat [(.int .i64),.slice,.slice,(.int .i64)])),(.one (.flat [(.int .i64),.slice,.slice,(.int .i64)])),aV,(.fj [(.one .bool),(.one (.int .i64))]),aV,aV,aV,aV,aV,jr,e7,e7,(.fj [(.one .agg),(.one .bool),(.one (.int .i64))]),aV,aV,(.fj [(.one (.int .i64)),(.one (.int .i64))]),aV,(.fj [(.one .slice),(.one (.int .i64)),(.one (.int .i64))]),aV,jr,pD,aV,aV,nZ,aV,aV,jr,gk,(.one (.flat [(.int .i64),.slice])),(.one (.flat [(.int .i64),.slice])),aV,aV,aV,jr,(.one (.flat [(.int .i64),(.int .i64),(.int .u8)])),(.one (.flat [(.int .i64),(.int .i64),(.int .u8)])),gk,jr,(.one (.flat [.slice])),(.one (.flat [.slice])),e7,e7,(.one (.flat [(.int .i64),(.int .i64),(.int .i64),.slice,.slice,.slice])),(.one (.flat [(.int .i64),(.int .i64),(.int .i64),.slice,.slice,.slice])),aV,aV,aV,pD,aV,aV,aV,aV,tq,aV,(.one (.flat [(.int .i64),(.int .i64),(.int .i64),(.int .u64),(.int .u64),(.int .i64)])),(.one (.flat [(.int .i64),(.int .i64),(.int .i64),(.int .u64),(.int .u64),(.int .i64)])),aV,(.fj [(.one .bool),(.one .agg)]),aV,aV,aV,aV,aV,aV,aV,(.fj [(.one .slice),(.one .bool),(.one (.int .i64))]),aV,aV,aV,aV,e7,e7,e7,e7,(.fj [(.one .agg),(.one (.int .i64))]),aV,aV,aV,jr,aV,aV,(.fj [(.one .slice),(.one .bool)]),aV,aV,(.one (.flat [.ptr,(.int .i64)])),(.one (.flat [.ptr,(.int .i64)])),aV,jr,(.one (.one .map)),e7,e7,e7,e7,aV,gk,nZ,aV,pD,aV,aV,(.one (.flat [(.int .i64),(.int .u64),.slice])),(.one (.flat [(.int .i64),(.int .u64),.slice])),e7,aV,aV,aV,gk,gk,e7,e7,aV,aV,(.fj [(.one .agg),(.one .bool)]),aV,aV,aV,aV,tr,tr,aV,aV,aV,pD,aV,aV,aV,(.fj [(.one (.int .i64)),(.one .bool)]),aV,aV,aV,aV,aV,e7,e7,(.fj [(.flat [(.int .i64),(.int .i64),(.int .i64),(.int .u64),(.int .u64),(.int .i64)]),(.one (.int .u64)),(.one (.int .i64))]),aV,aV,aV,gk,aV,gk,(.one (.one .map)),e7,e7,aV,(.fj [(.flat [(.int .i64),(.int .i64),(.int .i64),(.int .u64),(.int .u64),(.int .i64)]),(.one (.int .u64)),(.one (.int .i64))]),aV,aV,aV,aV,(.fj [(.flat [(.int .i64),(.int .u64),.slice]),(.one (.int .i64))]),aV,(.one (.flat [.bool,.slice,.slice,.slice])),(.one (.flat [.bool,.slice,.slice,.slice])),(.fj [(.flat [.bool,.slice,.slice,.slice]),(.one .bool)]),aV,gk,aV,jr,tr,tr,(.fj [(.one .agg),(.one .bool)]),aV,aV,aV,gk,jr,aV,(.one (.flat [(.int .i64),.slice,.slice])),(.one (.flat [(.int .i64),.slice,.slice])),(.one (.one (.int .u32))),aV,aV,aV,aV,nZ,aV,nZ,aV,jr,pD,aV,e7,e7,aV,(.fj [(.one (.int .i64)),(.one (.int .i64))]),aV,aV,aV,(.one (.flat [.ptr,.ptr,(.int .u64),(.int .i64),(.int .i64)])),(.one (.flat [.ptr,.ptr,(.int .u64),(.int .i64),(.int .i64)])),aV,(.fj [(.one .slice),(.one (.int .i64)),(.one (.int .i64))]),aV,aV,(.fj [(.one (.int .u64)),(.one .bool)]),aV,(.fj [(.one .agg),(.one .bool)]),aV,aV,(.fj [(.one .slice),(.one .slice)]),aV,aV,aV,aV,aV,aV,aV,(.fj [(.flat [(.int .i64),(.int .i64),(.int .i64),(.int .u64),(.int .u64),(.int .i64)]),(.one (.int .i64)),(.one (.int .u64)),(.one (.int .i64))]),aV,aV,aV,aV,aV,aV,aV,aV,(.one (.flat [(.int .i64),(.int .i64)])),(.one (.flat [(.int .i64),(.int .i64)])),jr,aV,aV,aV,aV,aV,aV,aV,aV,aV,aV,jr,tu,tu,(.fj [(.flat [.bool,.slice,.slice,.slice]),(.one (.int .i64))]),aV,aV,aV,aV,(.one (.flat [.bool,.bool,.bool,(.int .i64),(.int .i64),.slice])),(.one (.flat [.bool,.bool,.bool,(.int .i64),(.int .i64),.slice])),gk,aV,aV,aV,aV,aV,gk,(.one (.flat [.ptr,.slice,.slice])),(.one (.flat [.ptr,.slice,.slice])),(.fj [(.one (.int .i64)),(.one (.int .i64)),(.one (.int .i64))]),aV,aV,gk,tu,tu,aV,aV,aV,aV,nZ,aV,aV,aV,aV,aV,gk,tv,tv,aV,aV,aV,aV,aV,aV,aV,aV,gk,jr,(.fj [(.one .slice),(.one (.int .i64)),(.one (.int .i64)),(.one (.int .i64))]),aV,aV,aV,pD,aV,tv,tv,aV,aV,aV,aV,tn,(.fj [(.one (.int .i64)),(.one (.int .i64))]),aV,aV,aV,aV,aV,aV,aV,aV,aV,aV,aV,gk,(.one (.flat [.slice,.bool])),(.one (.flat [.slice,.bool])),aV,aV,e7,aV,aV,aV,aV,aV,aV,tq,aV,aV,gk,aV,aV,aV,gk,aV,(.fj [(.flat [.bool,.slice,.slice,.slice]),(.one .slice),(.flat [.bool,.slice,.slice,.slice]),(.one .bool)]),aV,aV,aV,(.one (.flat [.ptr,.ptr,.ptr,.str])),(.one (.flat [.ptr,.ptr,.ptr,.str])),e7,e7,e7,tp,tp,aV,gk,(.one (.one (.int .i32))),(.one (.one (.int .i32))),e7,e7,gk]
def tk:TypeId->dS:=λt=>Eo.getD t (.one (.one .any))
theorem xi:Tryz.prog.follows .mixedOrders=true:=by kernel_rfl
def Y(w:J):ae:=w.heap.size
def av(n:Int):Int:=IntKind.wrap .i64 n
def aI(n:Int)(k:Nat):Prop:=(0:Int)<=n/\n<(k:Int)
def ak(c:aj)(A B:Prop):Prop:=(c=true->A)/\(c=false->B)
def kz:Int:=9223372036854775807
def st(w:J)(A:ae)(v:aa)(K:J->Prop):Prop:=(∃u:aa,w.cell? A=some u)/\w.frozen? A=false/\al (w.setCell A v) λw1=>K w1
def lE(w:J)(z:Obj)(l:O aa)(k:Nat)(K:J->Prop):Prop:=al (w.alloc z) λw1=>bA w1 (Y w) (Array.toList l.toArray)/\Array.size l.toArray=k/\al (setCells w1 (Y w) 0 (Array.toList l.toArray)) λah=>K ah
def tw(s:U)(n:Int)(w:J)(k:Nat)(K:O aa->Prop):Prop:=∃a:ae,s.a=some a/\aI n s.len/\∃l:O aa,cL w (a.add (n.toNat*k)) 0 k=some l/\K l
def aA(f:Nat)(a:Array aa)(w:J)(K:Int->J->Prop):Prop:=Calls ai f a w λe w'=>∃b:Int,e=.returned b/\K b w'
def aR(f:Nat)(a:Array aa)(w:J)(K:J->Prop):Prop:=Calls ai f a w λe w'=>e=.returned (.tuple #[])/\K w'
def aK(f:Nat)(a:Array aa)(w:J)(K:aj->J->Prop):Prop:=Calls ai f a w λe w'=>∃b:aj,e=.returned b/\K b w'
def de(f:Nat)(a:Array aa)(w:J)(K:aq ae->Int->J->Prop):Prop:=Calls ai f a w λe w'=>∃b:aq ae,∃c:Int,e=.returned (.tuple #[b,c])/\K b c w'
def ba(f:Nat)(a:Array aa)(w:J)(K:U->J->Prop):Prop:=Calls ai f a w λe w'=>∃b:U,e=.returned b/\K b w'
def b8(f:Nat)(a:Array aa)(w:J)(K:U->Int->J->Prop):Prop:=Calls ai f a w λe w'=>∃b:U,∃c:Int,e=.returned (.tuple #[b,c])/\K b c w'
def jI(f:Nat)(a:Array aa)(w:J)(K:U->aj->Int->J->Prop):Prop:=Calls ai f a w λe w'=>∃b:U,∃c:aj,∃d:Int,e=.returned (.tuple #[b,c,d])/\K b c d w'
def k2(f:Nat)(a:Array aa)(w:J)(K:aj->Int->J->Prop):Prop:=Calls ai f a w λe w'=>∃b:aj,∃c:Int,e=.returned (.tuple #[b,c])/\K b c w'
def Ax(f:Nat)(a:Array aa)(w:J)(K:Int->Int->Int->Int->Int->Int->Int->Int->J->Prop):Prop:=Calls ai f a w λe w'=>∃b:Int,∃c:Int,∃d:Int,∃g:Int,∃h:Int,∃i:Int,∃j:Int,∃k:Int,e=.returned (.tuple #[.agg #[b,c,d,.int .u64 g,.int .u64 h,i],.int .u64 j,k])/\K b c d g h i j k w'
def gl(f:Nat)(a:Array aa)(w:J)(K:Int->J->Prop):Prop:=Calls ai f a w λe w'=>∃b:Int,e=.returned (.int .u32 b)/\K b w'
def tx(f:Nat)(a:Array aa)(w:J)(K:Array aa->J->Prop):Prop:=Calls ai f a w λe w'=>∃b:Array aa,e=.returned (.agg b)/\K b w'
def gX(f:Nat)(a:Array aa)(w:J)(K:Int->aj->J->Prop):Prop:=Calls ai f a w λe w'=>∃b:Int,∃c:aj,e=.returned (.tuple #[b,c])/\K b c w'
def eI(f:Nat)(a:Array aa)(w:J)(K:Int->Int->J->Prop):Prop:=Calls ai f a w λe w'=>∃b:Int,∃c:Int,e=.returned (.tuple #[b,c])/\K b c w'
def iG(f:Nat)(a:Array aa)(w:J)(K:aj->U->U->U->aj->J->Prop):Prop:=Calls ai f a w λe w'=>∃b:aj,∃c:U,∃d:U,∃g:U,∃h:aj,e=.returned (.tuple #[.agg #[b,c,d,g],h])/\K b c d g h w'
def pE(f:Nat)(a:Array aa)(w:J)(K:U->Int->Int->J->Prop):Prop:=Calls ai f a w λe w'=>∃b:U,∃c:Int,∃d:Int,e=.returned (.tuple #[b,c,d])/\K b c d w'
def Ay(f:Nat)(a:Array aa)(w:J)(K:Int->Int->Int->Int->Int->Int->Int->Int->Int->J->Prop):Prop:=Calls ai f a w λe w'=>∃b:Int,∃c:Int,∃d:Int,∃g:Int,∃h:Int,∃i:Int,∃j:Int,∃k:Int,∃l:Int,e=.returned (.tuple #[.agg #[b,c,d,.int .u64 g,.int .u64 h,i],j,.int .u64 k,l])/\K b c d g h i j k l w'
def lF(f:Nat)(a:Array aa)(w:J)(K:Int->Int->U->Int->J->Prop):Prop:=Calls ai f a w λe w'=>∃b:Int,∃c:Int,∃d:U,∃g:Int,e=.returned (.tuple #[.agg #[b,.int .u64 c,d],g])/\K b c d g w'
def mg(f:Nat)(a:Array aa)(w:J)(K:hK->J->Prop):Prop:=Calls ai f a w λe w'=>∃b:hK,e=.returned (.func (.func b.f) b.pre b.cap)/\K b w'
def g6(f:Nat)(a:Array aa)(w:J)(K:aj->U->U->U->Int->J->Prop):Prop:=Calls ai f a w λe w'=>∃b:aj,∃c:U,∃d:U,∃g:U,∃h:Int,e=.returned (.tuple #[.agg #[b,c,d,g],h])/\K b c d g h w'
def js(f:Nat)(a:Array aa)(w:J)(K:aq ae->J->Prop):Prop:=Calls ai f a w λe w'=>∃b:aq ae,e=.returned (b)/\K b w'
def gv(f:Nat)(a:Array aa)(w:J)(K:aj->U->U->U->J->Prop):Prop:=Calls ai f a w λe w'=>∃b:aj,∃c:U,∃d:U,∃g:U,e=.returned (.agg #[b,c,d,g])/\K b c d g w'
def pF(f:Nat)(a:Array aa)(w:J)(K:Int->Int->Int->J->Prop):Prop:=Calls ai f a w λe w'=>∃b:Int,∃c:Int,∃d:Int,e=.returned (.tuple #[b,c,d])/\K b c d w'
def jt(f:Nat)(a:Array aa)(w:J)(K:U->aj->J->Prop):Prop:=Calls ai f a w λe w'=>∃b:U,∃c:aj,e=.returned (.tuple #[b,c])/\K b c w'
def gw(f:Nat)(a:Array aa)(w:J)(K:Int->J->Prop):Prop:=Calls ai f a w λe w'=>∃b:Int,e=.returned (.int .u64 b)/\K b w'
def n0(f:Nat)(a:Array aa)(w:J)(K:U->Int->Int->Int->J->Prop):Prop:=Calls ai f a w λe w'=>∃b:U,∃c:Int,∃d:Int,∃g:Int,e=.returned (.tuple #[b,c,d,g])/\K b c d g w'
def k3(f:Nat)(a:Array aa)(w:J)(K:Int->aj->J->Prop):Prop:=Calls ai f a w λe w'=>∃b:Int,∃c:aj,e=.returned (.tuple #[.int .u64 b,c])/\K b c w'
def pG(f:Nat)(a:Array aa)(w:J)(K:aj->U->U->U->U->aj->U->U->U->aj->J->Prop):Prop:=Calls ai f a w λe w'=>∃b:aj,∃c:U,∃d:U,∃g:U,∃h:U,∃i:aj,∃j:U,∃k:U,∃l:U,∃m:aj,e=.returned (.tuple #[.agg #[b,c,d,g],h,.agg #[i,j,k,l],m])/\K b c d g h i j k l m w'
def ru(f:Nat)(a:Array aa)(w:J)(K:Int->Int->Int->J->Prop):Prop:=Calls ai f a w λe w'=>∃b:Int,∃c:Int,∃d:Int,e=.returned (.agg #[b,c,.int .u64 d])/\K b c d w'
def tz(f:Nat)(a:Array aa)(w:J)(K:Int->Int->Int->U->U->U->J->Prop):Prop:=Calls ai f a w λe w'=>∃b:Int,∃c:Int,∃d:Int,∃g:U,∃h:U,∃i:U,e=.returned (.agg #[b,c,d,g,h,i])/\K b c d g h i w'
def r1(w:J)(A:ae)(K:Int->Prop):Prop:=∃x:Int,w.cell? A=some (.int .i64 x)/\K x
def bX(w:J)(A:ae)(K:Int->Prop):Prop:=∃x:Int,w.cell? A=some (.int .u8 x)/\K x
def ag(w:J)(A:ae)(K:U->Prop):Prop:=∃x:U,w.cell? A=some (.slice x.a x.len x.cap)/\K x
def bw(w:J)(A:ae)(K:Int->Prop):Prop:=∃x:Int,w.cell? A=some (.int .u64 x)/\K x
def bc(w:J)(A:ae)(K:aj->Prop):Prop:=∃x:aj,w.cell? A=some (.bool x)/\K x
def g7:Obj:=.cells #[(0:Int),(0:Int),(0:Int),.int .u64 0,.int .u64 0,(0:Int)] 104
def cp:Obj:=.cells #[false,(),(),()] 202
def z3:Obj:=.cells #[(0:Int),.int .u64 0,()] 150
def z4:Obj:=.cells #[.int .u8 0,.int .u8 0,.int .u8 0,.int .u8 0,.int .u8 0,.int .u8 0,.int .u8 0,.int .u8 0,.int .u8 0,.int .u8 0,.int .u8 0,.int .u8 0,.int .u8 0,.int .u8 0,.int .u8 0,.int .u8 0,.int .u8 0,.int .u8 0,.int .u8 0,.int .u8 0,.int .u8 0,.int .u8 0,.int .u8 0,.int .u8 0,.int .u8 0,.int .u8 0,.int .u8 0,.int .u8 0,.int .u8 0,.int .u8 0,.int .u8 0,.int .u8 0,.int .u8 0,.int .u8 0,.int .u8 0,.int .u8 0,.int .u8 0,.int .u8 0,.int .u8 0,.int .u8 0,.int .u8 0,.int .u8 0,.int .u8 0,.int .u8 0,.int .u8 0,.int .u8 0,.int .u8 0,.int .u8 0,.int .u8 0,.int .u8 0,.int .u8 0,.int .u8 0,.int .u8 0,.int .u8 0,.int .u8 0,.int .u8 0,.int .u8 0,.int .u8 0,.int .u8 0,.int .u8 0,.int .u8 0,.int .u8 0,.int .u8 0,.int .u8 0,.int .u8 0,.int .u8 0,.int .u8 0,.int .u8 0,.int .u8 0,.int .u8 0,.int .u8 0,.int .u8 0,.int .u8 0,.int .u8 0,.int .u8 0,.int .u8 0,.int .u8 0,.int .u8 0,.int .u8 0,.int .u8 0,.int .u8 0,.int .u8 0,.int .u8 0,.int .u8 0,.int .u8 0,.int .u8 0,.int .u8 0,.int .u8 0,.int .u8 0,.int .u8 0,.int .u8 0,.int .u8 0,.int .u8 0,.int .u8 0,.int .u8 0,.int .u8 0,.int .u8 0,.int .u8 0,.int .u8 0,.int .u8 0,.int .u8 0,.int .u8 0,.int .u8 0,.int .u8 0,.int .u8 0,.int .u8 0,.int .u8 0,.int .u8 0,.int .u8 0,.int .u8 0,.int .u8 0,.int .u8 0,.int .u8 0,.int .u8 0,.int .u8 0,.int .u8 0,.int .u8 0,.int .u8 0,.int .u8 0,.int .u8 0,.int .u8 0,.int .u8 0,.int .u8 0,.int .u8 0,.int .u8 0,.int .u8 0,.int .u8 0,.int .u8 0,.int .u8 0,.int .u8 0,.int .u8 0,.int .u8 0,.int .u8 0,.int .u8 0,.int .u8 0,.int .u8 0,.int .u8 0,.int .u8 0,.int .u8 0,.int .u8 0,.int .u8 0,.int .u8 0,.int .u8 0,.int .u8 0,.int .u8 0,.int .u8 0,.int .u8 0,.int .u8 0,.int .u8 0,.int .u8 0,.int .u8 0,.int .u8 0,.int .u8 0,.int .u8 0,.int .u8 0,.int .u8 0,.int .u8 0,.int .u8 0,.int .u8 0,.int .u8 0,.int .u8 0,.int .u8 0,.int .u8 0,.int .u8 0,.int .u8 0,.int .u8 0,.int .u8 0,.int .u8 0,.int .u8 0,.int .u8 0,.int .u8 0,.int .u8 0,.int .u8 0,.int .u8 0,.int .u8 0,.int .u8 0,.int .u8 0,.int .u8 0,.int .u8 0,.int .u8 0,.int .u8 0,.int .u8 0,.int .u8 0,.int .u8 0,.int .u8 0,.int .u8 0,.int .u8 0,.int .u8 0,.int .u8 0,.int .u8 0,.int .u8 0,.int .u8 0,.int .u8 0,.int .u8 0,.int .u8 0,.int .u8 0,.int .u8 0,.int .u8 0,.int .u8 0,.int .u8 0,.int .u8 0,.int .u8 0,.int .u8 0,.int .u8 0,.int .u8 0,.int .u8 0,.int .u8 0,.int .u8 0,.int .u8 0,.int .u8 0,.int .u8 0,.int .u8 0,.int .u8 0,.int .u8 0,.int .u8 0,.int .u8 0,.int .u8 0,.int .u8 0,.int .u8 0,.int .u8 0,.int .u8 0,.int .u8 0,.int .u8 0,.int .u8 0,.int .u8 0,.int .u8 0,.int .u8 0,.int .u8 0,.int .u8 0,.int .u8 0,.int .u8 0,.int .u8 0,.int .u8 0,.int .u8 0,.int .u8 0,.int .u8 0,.int .u8 0,.int .u8 0,.int .u8 0,.int .u8 0,.int .u8 0,.int .u8 0,.int .u8 0,.int .u8 0,.int .u8 0,.int .u8 0,.int .u8 0,.int .u8 0,.int .u8 0,.int .u8 0,.int .u8 0,.int .u8 0,.int .u8 0,.int .u8 0,.int .u8 0,.int .u8 0] 182
def z5:Obj:=.cells #[(),(0:Int)] 334
def tA:Obj:=.cells #[(0:Int),(0:Int),.int .u64 0] 46
def tB:Obj:=.cells #[(0:Int),(0:Int),(0:Int),(),(),()] 92
def xj:Obj:=.cells #[.int .u8 97] 5
def a1:aQ:=(.s .r (.c (.s .r .l) .l))
def gY:aQ:=(.s .r (.s (.c .l .l) (.s (.bN (.s .r a1)) .r)))
def cP:aQ:=(.s .r (.s a1 (.s .r .l)))
def e8:aQ:=(.s .r (.s (.s .r (.bN (.loop [(8,(.int .i64))] [0,1,7] gY))) (.s .r .l)))
def eM:aQ:=(.s .r (.c (.s .r .l) a1))
def fB:aQ:=(.s a1 (.s .r (.s .r .l)))
def hU:aQ:=(.s (.s .r a1) (.s .r .l))
def e1:aQ:=(.s .r (.s (.c .l .l) (.s (.bN (.s .r (.s .r a1))) .r)))
def a2:aQ:=(.s .r (.s (.c .l .l) (.s (.bN (.s .r .r)) .r)))
def a3:aQ:=(.s .r (.s .r (.s .r .l)))
def a4:aQ:=(.s (.cV [.r,.r,.r,.pure 2]) .l)
def a5:aQ:=(.s (.cV [.r,.r,.r,.pure 2]) (.c (.s .r .l) .l))
def c1:aQ:=(.s .r (.s (.cV [.r,.r,.r,.r,.pure 3]) .l))
def dx:aQ:=(.s .r (.s .r (.c .r .l)))
def c2:aQ:=(.c (.s .r (.s .r .l)) .l)
def a9:aQ:=(.s .r (.s (.cV [.r,.r,.r,.pure 2,.r,.r,.r,.split 7]) .l))
def dT:aQ:=(.s (.cV [.r,.r,.r,.r,.split 4]) (.c (.s .r .l) .l))
def dA:aQ:=(.s (.cV [.r,.r,.r,.split 3]) (.c (.s .r .l) .l))
def ez:aQ:=(.s (.cV [.r,.r,.r,.pure 3]) (.c (.s .r .l) .l))
theorem okF{f:Nat}{fn:Func}(p:J->(aa->J->Prop)->Prop)(A:aQ){args:O aa}{w:J}{Q:aa->J->Prop}(hf:Tryz.prog.funcs[f]? =some fn)(h:p w Q)(h1:nV fn args.length=true:=by kernel_rfl)(a:p w Q=py ai tk A fn args w Q:=by kernel_rfl):aP ai f args.toArray w Q:=D4 xi hf h1 (Eq.mp a h)
def rv(a:J)(c:J)(ah:J)(d:aj)(Q:aa->J->Prop):Prop:=ag a ((Y c).add 1) λe=>ag a ((Y c).add 2) λf=>ag a ((Y c).add 3) λg=>bA a (Y ah)
 [d,e,f,g]/\(4:Nat)=4/\al (setCells a (Y ah) 0 [d,e,f,g]) λb=>bc b (Y ah) λh=>ag b ((Y ah).add 1) λi=>ag b ((Y ah).add 2) λj=>ag b ((Y ah).add 3) λk=>Q (.tuple #[.agg #[h,i,j,k],true]) b
def ry(a:J)(ah:J)(Q:aa->J->Prop)(b:aj):Prop:=ag a ((Y ah).add 1) λc=>ag a ((Y ah).add 2) λd=>ag a ((Y ah).add 3) λe=>Q (.tuple #[.agg #[b,c,d,e],false]) a
def tC(c:U)(d:J)(e:J)(f:J)(g:J->Prop):Prop:=∃a:U,∃b:J,Sem.run ai (Builtin.append_ #[127,127] 127 #[c,
 .slice (some (Y d)) 1 1]) e=.ok a b/\st b ((Y f).add 1) a λh=>g h
def bL(l:J)(a:J)(m:aj)(n:U)(o:U)(p:U)(b:J)(q:aj)(r:U)(s:U)(t:U)(w:J)(key:U)(ah:J)(Q:aa->J->Prop):Prop:=bA l (Y a)
 [m,n,o,p]/\(4:Nat)=4/\al (setCells l (Y a) 0 [m,n,o,p]) λu=>bA u (Y b) [q,r,s,t]/\(4:Nat)=4/\al (setCells u (Y b) 0 [q,r,s,t]) λf=>bF (λv:J->Prop=>bc f (Y w) λF=>ak (!F) (al (f.drew) λg=>∃h:Nat->Prop,¬h ((Y a).add 1).block/\ag g ((Y a).add 1)
 λG=>ba 135 #[key] g λH d=>ab h g d/\al (d.alloc (.cells #[H] 48)) λx=>ab h d x/\tC G d x a v) (v
 f)) (λi=>ag i ((Y a).add 1) λI=>ag i ((Y b).add 1) λK=>∃y:U,∃z:J,Sem.run ai (Builtin.append_ #[127,127] 127 #[I,
 K]) i=.ok y z/\st z ((Y a).add 1) y λj=>ag j ((Y a).add 2) λL=>ag j ((Y b).add 2) λM=>∃A:U,
 ∃B:J,Sem.run ai (Builtin.append_ #[127,127] 127 #[L,M]) j=.ok A B/\st B ((Y a).add 2)
 A λk=>ag k ((Y a).add 3) λN=>ag k ((Y b).add 3) λO=>∃C:U,∃D:J,Sem.run ai (Builtin.append_ #[58,58] 58 #[N,O]) k=.ok C D/\st D ((Y a).add 3) C λc=>bc c (Y a) λP=>ag c ((Y a).add 1) λR=>ag c
 ((Y a).add 2) λS=>ag c ((Y a).add 3) λT=>aK 203 #[.agg #[P,R,S,T]] c λV e=>ak (!V) (bA
 e (Y ah) [false,(),(),()]/\(4:Nat)=4/\al (setCells e (Y ah) 0 [false,(),(),()]) λE=>bc E (Y ah) λW=>ry E ah Q
 W) (bc e (Y a) λX=>rv e a ah X Q))
def rz(a:J)(b:J)(c:aj)(d:U)(e:U)(f:U)(g:J->Prop):Prop:=bA a (Y b) [c,d,e,f]/\(4
 :Nat)=4/\al (setCells a (Y b) 0 [c,d,e,f]) λh=>g h
def tD(d:J)(a:J)(e:aj)(f:U)(g:U)(h:U)(i:aj)(Q:aa->J->Prop)(c:aq ae)(n31:Int):Prop:=bA d (Y a) [e,f,
 g,h]/\(4:Nat)=4/\al (setCells d (Y a) 0 [e,f,g,h]) λb=>
 ak (!i) (Q (.tuple #[(),(0:Int),(0:Int),(4:Int)]) b) (bc b (Y a) λj=>ag b ((Y a).add 1) λk=>ag b ((Y a).add 2) λl=>ag b ((Y a).add 3) λ
 m=>b8 281 #[c,.agg #[j,k,l,m]] b λn o p=>Q (.tuple #[n,n31,.int .i64 (av (n31+2)),o]) p)
def bZ(j:J)(e:J)(q:aj)(r:U)(s:U)(t:U)(V:Nat->Prop)(f:J)(u:aj)(v:U)(x:U)(y:U)(up:aq ae)(n36:Int)(w:J)(h:J)(n31:Int)(Q:aa
 ->J->Prop)(c:aq ae):Prop:=bA j (Y e) [q,r,s,t]/\(4:Nat)=4/\al (setCells j (Y e) 0 [q,r,s,t]) λk=>ab V j k/\bA k (Y f) [u,v,x,y]/\(4:
 Nat)=4/\al (setCells k (Y f) 0 [u,v,x,y]) λl=>bF (λz:J->Prop=>∃A:ae,up=some A/\r1 l (A.add 5) λW
 =>ak (decide (n36>W)) (al (l.drew) λd=>∃m:Nat->Prop,¬m ((Y w):ae).block/\bc d (Y w) λB=>ag d ((Y w).add 1) λC=>ag d ((Y w).add 2) λD=>ag d ((Y w).add 3) λE
 =>¬m ((Y h):ae).block/\bc d (Y h) λX=>ag d ((Y h).add 1) λZ=>ag d ((Y h).add 2) λac=>ag d ((Y h).add 3) λad=>bA d (Y e) [B,C,D,E]/\(4:Nat)=4/\al (setCells d (Y e) 0 [B,C,D,E]) λF=>ab m d
 F/\rz F f X Z ac ad z) (z l)) (λaf=>al (af.drew) λb=>∃g:Nat->Prop,¬g ((Y e):ae).block/\bc b (Y e) λG=>ag b ((Y e).add 1) λH=>ag b ((Y e).add 2) λ
 I=>ag b ((Y e).add 3) λK=>∃n:ae,up=some n/\¬g ((n.add 1).add 1).block/\ag b ((n.add 1).add 1) λL=>∃o:ae,L.a=some o/\aI n31 L.len/\¬g (o.add (n31.toNat*
 1)).block/\ag b (o.add (n31.toNat*1)) λM=>¬g ((Y f):ae).block/\bc b (Y f) λN=>ag b ((Y f).add 1) λO=>ag b ((Y f).add 2) λP=>ag b ((Y f).add 3) λ
 R=>(iG 282 #[.agg #[G,H,I,K],M,.agg #[N,O,P,R]] b λah ai am an ao i=>ab g b i/\al (i.alloc cp) λS=>ab g i S/\tD S i ah ai am an ao Q c n31)/\(al (b.alloc cp) λ
 p=>ab g b p/\iG 282 #[.agg #[G,H,I,K],M,.agg #[N,O,
 P,R]] p λap ar au av aw T=>ab g p T/\tD T b ap ar au av aw Q c n31))
def c9(a:J)(b:J)(w1:J)(Q:aa->J->Prop):Prop:=bc a (Y b) λc=>rv a b w1 c Q
def tE(a:J)(c:J)(w1:J)(d:aj)(Q:aa->J->Prop):Prop:=ag a ((Y c).add 1) λe=>ag a ((Y c).add 2) λf=>ag a ((Y c).add 3) λg=>bA a (Y w1)
 [d,e,f,g]/\(4:Nat)=4/\al (setCells a (Y w1) 0 [d,e,f,g]) λb=>bc b (Y w1) λh=>ag b ((Y w1).add 1) λi=>ag b ((Y w1).add 2) λj=>ag b ((Y w1).add 3) λk=>Q (.agg #[h,i,j,k]) b
def jJ(m:J)(b:J)(eI:Array aa)(l:U)(w:J)(to:Int)(w1:J)(Q:aa->J->Prop):Prop:=bA m (Y b) (Array.toList eI)/\Array.size eI=4/\al (setCells m (Y b) 0
 (Array.toList eI)) λA=>∃ (h:Int->J->Prop) (n:Int->J->Nat),h 0 A/\∀ (n19:Int) (c:J),h n19 c->ak (decide (n19<(l.len:Int))) (∃i:ae,l.a=some i/\aI n19 l.len/\ag c (i.add
 (n19.toNat*2)) λo=>r1 c ((i.add (n19.toNat*2)).add 1) λn23=>al (c.alloc z5) λp=>bA p (Y c) [o,n23]/\(2:Nat)=2/\al (setCells p (Y c) 0 [o,n23]) λd=>bF (λq:J->Prop=>ag d (Y c) λB=>ak (!(Option.isNone B.a)) (ag d ((Y b).add 1) λC=>ag d (Y c) λD=>al (d.alloc (.cells #[D] 48)) λE=>tC C d E b q) (q d)) (λg=>ag g ((Y b).add 3) λF=>r1 g ((Y c).add 1) λn36=>al (g.alloc (.cells #[n36] 3)) λG=>∃r:U,
 ∃s:J,Sem.run ai (Builtin.append_ #[58,58] 58 #[F,.slice (some (Y g)) 1 1]) G=.ok r s/\st s ((Y b).add 3) r λt=>h (av (n19+1)) t/\n (av (n19+1)) t<n n19 c)) (al (c.drew) λj=>¬False/\ag j ((Y b).add 1) λH=>¬False/\ag j ((Y w).add 1) λe=>((0:Int)<=(av (to-
 1))/\(av (to-1))<=(e.len:Int))/\∃u:U,∃v:J,Sem.run ai (Builtin.append_ #[127,127] 127 #[H,.slice (aO e.a 1 ((av (to-1)).toNat) e.cap)
 (e.len-((av (to-1)).toNat)) (e.cap-((av (to-1)).toNat))]) j=.ok u v/\st v ((Y b).add 1) u λI=>al (I.drew) λk=>¬False/\ag k
 ((Y b).add 3) λK=>¬False/\ag k ((Y w).add 3) λf=>((0:Int)<=to/\to<=(f.len:Int))/\∃x:U,∃y:J,Sem.run ai (Builtin.append_ #[58,58] 58 #[K,.slice (aO f.a 1 (to.toNat) f.cap) (f.len-(to.toNat)) (f.cap-(to.toNat))]) k=.ok x y/\st y ((Y b).add 3) x λz=>bc z (Y
 b) λL=>tE z b w1 L Q)
def iY(o:Array aa)(f:J)(c:Nat->Prop)(p:Array aa)(w1:J)(ah:J)(Q:aa->J->Prop)(q:U):Prop:=gv 204 #[.agg o] f λg h i j d=>ab c f d/\gv
 204 #[.agg p] d λk l m n b=>ab c d b/\bA b (Y w1) [g,h,i,j]/\(4:Nat)=4/\al (setCells b (Y w1) 0
 [g,h,i,j]) λe=>ab c b e/\bA e (Y ah) [k,l,m,n]/\(4:Nat)=4/\al (setCells e (Y ah) 0 [k,l,m,n]) λa=>bc a (Y w1) λr=>ag a ((Y w1).add 1) λs=>
 ag a ((Y w1).add 2) λt=>ag a ((Y w1).add 3) λu=>bc a (Y ah) λv=>ag a ((Y ah).add 1) λw=>ag a ((Y ah).add 2) λx=>ag a ((Y ah).add 3) λy=>Q (.tuple #[.agg
 #[r,s,t,u],q,.agg #[v,w,x,y],true]) a
def iZ(a:J)(w1:J)(Q:aa->J->Prop):Prop:=bc a (Y w1) λb=>ry a w1 Q b
def gI(a:J)(b:J)(w1:J)(Q:aa->J->Prop):Prop:=bc a (Y b) λc=>tE a b w1 c Q
def tF(f:Nat->Prop)(k:J)(g:J)(l:U)(n:U)(c:U)(h:Int)(m:aq ae)(Q:aa->J->Prop):Prop:=ab f k g/\∃i:U,∃d:J,Sem.run ai (Builtin.append_
 #[86,86] 86 #[l,n]) g=.ok i d/\ab f g d/\∃j:U,∃b:J,Sem.run ai (Builtin.append_
 #[86,86] 86 #[i,.slice (aO c.a 2 ((av (h+1)).toNat) c.cap) (c.len-((av (h+1)).toNat)) (c.cap-((av (h+1)).toNat))]) d=.ok j b/\ab f d b/\∃e:ae,m=some e/\(∃u:aa,b.cell? e=some u)/\b.frozen? e=false/\al (b.setCell e j) λo=>Q (.tuple #[]) o
def fZ(f:Nat->Prop)(k:J)(g:J)(l:U)(n:U)(c:U)(h:Int)(m:aq ae)(Q:aa->J->Prop):Prop:=ab f k g/\∃i:U,∃d:J,Sem.run ai (Builtin.append_
 #[86,86] 86 #[l,n]) g=.ok i d/\ab f g d/\∃j:U,∃b:J,Sem.run ai (Builtin.append_
 #[86,86] 86 #[i,.slice (aO c.a 2 (h.toNat) c.cap) (c.len-(h.toNat)) (c.cap-(h.toNat))]) d=.ok j b/\ab f d
 b/\∃e:ae,m=some e/\(∃u:aa,b.cell? e=some u)/\b.frozen? e=false/\al (b.setCell e j) λo=>Q (.tuple #[]) o
def xk(a:J)(w:J)(Q:aa->J->Prop)(n12:Int):Prop:=r1 a (Y w) λn13=>r1 a ((Y w).add 1) λn14=>r1 a ((Y w).add 2) λn15=>bw a ((Y w).add 3) λn16=>bw a ((Y w).add
 4) λn17=>r1 a ((Y w).add 5) λn18=>bA a (Y w) [n13,n14,n15,.int .u64 n16,.int .u64 n17,n18]/\(6:Nat)=6/\al (setCells a (Y w) 0 [n13,n14,n15,.int .u64 n16,.int .u64 n17,n18]) λb=>r1 b (Y w) λn20=>r1 b ((Y w).add 1) λn21=>r1 b ((Y w).add 2) λn22=>bw b ((Y w).add 3) λn23=>bw b ((Y w).add 4) λn24
 =>r1 b ((Y w).add 5) λn25=>Q (.tuple #[.agg #[n20,n21,n22,.int .u64 n23,.int .u64 n24,n25],.int .u64 0,n12]) b
def tG(a:J)(w:J)(Q:aa->J->Prop)(n7:Int):Prop:=bc a (Y w) λb=>ag a ((Y w).add 1) λc=>ag a ((Y w).add 2) λd=>ag a ((Y w).add 3) λe=>Q (.tuple #[.agg #[b,c,d,e],n7]) a
def Az(g:U)(n34:Int)(c:J)(d:J)(n:Int->J->Prop)(h:Int->J->Nat):Prop:=∃i:ae,g.a=some i/\aI n34 g.len/\ag c (i.add (n34.toNat*1)) λo=>al (c.drew) λe
 =>∃f:Nat->Prop,¬f ((Y d).add 2).block/\ag e ((Y d).add 2) λp=>ba 135 #[o] e λq b=>ab f e b/\al (b.alloc (.cells #[q] 48)) λj=>ab f b j/\∃k:U,∃l:J,Sem.run ai (Builtin.append_ #[127,127] 127 #[p,.slice (some (Y b)) 1 1]) j=
 .ok k l/\st l ((Y d).add 2) k λm=>n (av (n34+1)) m/\h (av (n34+1)) m<h n34 c
def AA(g:U)(n17:Int)(c:J)(d:J)(m:Int->J->Prop)(h:Int->J->Nat):Prop:=∃gY:ae,g.a=some gY/\aI n17 g.len/\ag c (gY.add (n17.toNat*1)) λn=>al (c.drew) λe
 =>∃f:Nat->Prop,¬f ((Y d).add 1).block/\ag e ((Y d).add 1) λo=>ba 135 #[n] e λp b=>ab f e b/\al (b.alloc (.cells #[p] 48)) λi=>ab f b i/\∃j:U,∃k:J,Sem.run ai (Builtin.append_ #[127,127] 127 #[o,.slice (some (Y b)) 1 1]) i=
 .ok j k/\st k ((Y d).add 1) j λl=>m (av (n17+1)) l/\h (av (n17+1)) l<h n17 c
def pH(c:aj)(b:aj->J->Prop)(a:J)(w:J):Prop:=ak (!c) (b true a) (bc a (Y w) λd=>ag a ((Y w).add 1) λe=>ag a ((Y w).add 2) λf=>ag a ((Y w).add 3) λg
 =>aK 203 #[.agg #[d,e,f,g]] a λh i=>b (!h) i)
def xl(g:J)(ah:J)(w1:J)(h:J->Prop):Prop:=al (g.drew) λb=>∃c:Nat->Prop,¬c ((Y ah).add 3).block/\ag b ((Y ah).add 3) λi=>aA 272 #[.pointer (some (Y
 w1)),(2:Int)] b λn14 a=>ab c b a/\al (a.alloc (.cells #[n14] 3)) λd=>ab c a d/\∃e:U,∃f:J,Sem.run ai (Builtin.append_ #[58,58] 58 #[i,.slice (some (Y a)) 1 1]) d=.ok e f/\st f ((Y ah).add 3) e λj=>h j
def rA(a:J)(w:J)(Q:aa->J->Prop):Prop:=bc a (Y w) λb=>ag a ((Y w).add 1) λc=>ag a ((Y w).add 2) λd=>ag a ((Y w).add 3) λe=>Q (.tuple #[.agg #[b,
 c,d,e],(4:Int)]) a
def fu(l:aa)(m:J)(d:aq ae)(n:J->Prop)(g:J->Nat)(o:J):Prop:=∃n15:Int,∃p:aa,∃h:J,Sem.run ai (Instr.entry (l)) m=.ok (.tuple #[n15,p])
 h/\al (h.drew) λb=>∃i:Nat->Prop,∃c:ae,d=some c/\¬i (c.add 4).block/\ag b (c.add 4) λj=>tx 137 #[d,n15] b λgw e=>ab i b e/\∃f:ae,
 j.a=some f/\aI n15 j.len/\bA e (f.add (n15.toNat*256)) (Array.toList gw)/\Array.size gw=256/\al (setCells e (f.add (n15.toNat*256)) 0 (Array.toList gw)) λk=>n k/\g k<g o
def xm(h:U)(j:U)(c:J)(k:Nat->Prop)(l:aq Nat)(i:Int)(d:aq ae)(Q:aa->J->Prop):Prop:=∃e:U,∃a:J,Sem.run ai (Builtin.append_ #[136,
 136] 136 #[h,j]) c=.ok e a/\ab k c a/\∃b:J,Sem.run ai (Instr.mapUpdate 137
 (.map l) i e) a=.ok () b/\∃f:ae,d=some f/\r1 b (f.add 6) λn24=>∃g:ae,d=some g/\st b (g.add 6) (.int .i64 (av (n24+1))) λm=>Q (0:Int) m
def xn(a:J)(w:J)(Q:aa->J->Prop):Prop:=r1 a (Y w) λn35=>r1 a ((Y w).add 1) λn36=>r1 a ((Y w).add 2) λn37=>bw a ((Y w).add 3) λn38=>bw a ((Y w).add 4) λ
 n39=>r1 a ((Y w).add 5) λn40=>Q (.tuple #[.agg #[n35,n36,n37,.int .u64 n38,.int .u64 n39,n40],(0:Int),.int .u64 0,(4:Int)]) a
def xo(a:U):Prop:=(0:Int)<=(av (232-(a.len:Int)))/\((av (232-(a.len:Int))):Int)<=(av (232-(a.len:Int)))/\((av (232-(a.len:Int))):Int)<=kz/\((1:Nat):Int)*(av (232-(a.len:Int)))<=
 140737488355328
def tH(a:J)(n6:Int)(d:U)(e:U->J->Prop):Prop:=al (a.alloc (.cells #[n6] 3)) λf=>∃b:U,∃c:J,Sem.run ai (Builtin.append_ #[58,58] 58 #[d,.slice (some (Y a)) 1 1]) f=.ok b c/\e b c
def xp(a:J)(c:U)(d:J)(e:U)(f:J)(b:U)(g:U->J->Prop):Prop:=al (a.alloc (.cells #[c,.slice (some (Y d)) (Int.toNat 4) (Int.toNat 4),e,.slice (some (Y f)) ((av (232-(b.len:Int))).toNat) ((av (232-(b.len:Int))).toNat)] 48)) λh=>ba 92 #[.slice (some (Y a)) 4 4] h λi j=>g i j
def xq(d:aq ae)(a:J)(Q:aa->J->Prop):Prop:=∃b:ae,d=some b/\∃c:aq Nat,a.cell? (b.add 5)=some (.map c)/\∃ (f:aa) (e:J),Sem.run ai (Builtin.clear_
 #[137] 0 #[.map c]) a=.ok f e/\Q (0:Int) e
def xr(a:J)(w:J)(Q:aa->J->Prop):Prop:=r1 a (Y w) λn9=>bw a ((Y w).add 1) λn10=>ag a ((Y w).add 2) λb=>Q (.tuple #[.agg #[n9,.int .u64 n10,b],(4:Int)]) a
def xt(b:J)(w:J)(a:O aa)(Q:aa->J->Prop):Prop:=bA b (Y w) (Array.toList a.toArray)/\Array.size a.toArray=256/\al (setCells b (Y w) 0 (Array.toList a.toArray)) λc=>∃d:O
 aa,cL c (Y w) 0 256=some d/\Q (.agg d.toArray) c
def tI(h:J)(b:J)(i:aj)(j:U)(k:U)(l:U)(m:Int)(Q:aa->J->Prop)(c:aq ae)(n41:Int)(w:J)(up:aq ae)(n36:Int)(n31:Int):Prop:=bA h (Y b)
 [i,j,k,l]/\(4:Nat)=4/\al (setCells h (Y b) 0 [i,j,k,l]) λe=>ak (m !=0) (Q (.tuple #[(),(0:Int),(0:Int),m]) e) (∃n:ae,c=some n/\ag e (n.add 2) λC=>al (e.alloc (.cells #[n41] 3)) λD=>∃o:
 U,∃p:J,Sem.run ai (Builtin.append_ #[58,58] 58 #[C,.slice (some (Y e)) 1 1]) D=.ok o p/\∃q:ae,c=some q/\st p (q.add
 2) o λE=>al (E.drew) λa=>∃d:Nat->Prop,¬d ((Y b):ae).block/\bc a (Y b) λr=>ag a ((Y b).add 1) λs=>ag a ((Y b).add 2) λt=>ag a
 ((Y b).add 3) λu=>¬d ((Y w):ae).block/\bc a (Y w) λv=>ag a ((Y w).add 1) λx=>ag a ((Y w).add 2) λy=>ag a ((Y w).add 3) λz=>(al (a.alloc cp) λf=>ab d
 a f/\al (f.alloc cp) λA=>ab d f A/\bZ A a r s t u d f v x y z up n36 w b n31 Q c)/\(al (a.alloc cp) λg=>ab d a g/\al (g.alloc cp) λB=>ab d g B/\bZ B
 g r s t u d a v x y z up n36 w b n31 Q c))
def n1(c:aj)(d:U)(e:U)(f:U)(a:J)(g:Nat->Prop)(h:J)(i:aj)(j:U)(k:U)(l:U)(m:J)(w:J)(key:U)(ah:J)(Q:aa->J->Prop):Prop:=gv
 204 #[.agg #[c,d,e,f]] a λn o p q b=>ab g a b/\bL b h i j k l m n o p q w key ah
 Q
def xu(f:J)(a:J)(gl:Array aa)(w:J)(w1:J)(Q:aa->J->Prop):Prop:=bA f (Y a) (Array.toList gl)/\Array.size gl=4/\al (setCells f (Y a) 0 (Array.toList gl)) λg=>ag
 g ((Y w).add 1) λh=>∃ (c:Int->J->Prop) (j:Int->J->Nat),c 0 g/\∀ (n17:Int) (b:J),c n17 b->ak (decide (n17<(h.len:Int))) (AA h n17 b a c j) (ag b ((Y w).add 2) λ
 i=>∃ (d:Int->J->Prop) (k:Int->J->Nat),d 0 b/\∀ (n34:Int) (e:J),d n34 e->ak (decide (n34<(i.len:Int))) (Az i n34 e a d k) (gI e a w1 Q))
def xv(a:J)(w:J)(Q:aa->J->Prop)(n7:Int):Prop:=bA a (Y w) [false,(),(),()]/\(4:Nat)=4/\al (setCells a (Y w) 0 [false,(),
 (),()]) λb=>tG b w Q n7
set_option maxRecDepth 100000
def af.tJ(s:U)(v:Int)(w:J)(Q:aa->J->Prop):Prop:=aA 184 #[s,v] w λa w1=>Q (.bool (decide (a>=0))) w1
def ay.tJ:aQ:=(.s .r (.s .r .l))
def af.n2(s:U)(w:J)(Q:aa->J->Prop):Prop:=ak (Option.isNone s.a) (Q () w) (al (w.alloc (.cells #[] 5)) λw1=>∃s2:U,∃b:J,Sem.run ai
 (Builtin.append_ #[48,48] 48 #[.slice (some (Y w)) 0 0,s]) w1=.ok s2 b/\Q s2 b)
def ay.n2:aQ:=cP
def af.tK(d:U)(f:U)(w:J)(Q:aa->J->Prop):Prop:=ak ((d.len:Int) !=(f.len:Int)) (Q false w) (∃ (g:Int->J->Prop) (h:Int->J->Nat),g 0 w/\∀ (b:Int)
 (e:J),g b e->ak (decide (b<(d.len:Int))) (al (e.drew) λc=>∃c1:ae,d.a=some c1/\aI b d.len/\¬False/\r1 c (c1.add (b.toNat*1)) λn7=>∃c2:ae,f.a=some c2/\aI b f.len/\¬
 False/\r1 c (c2.add (b.toNat*1)) λn9=>ak (n7 !=n9) (Q false c) (g (av (b+1)) c/\h (av (b+1)) c<h b e)) (Q true e))
def ay.tK:aQ:=(.s .r (.s a1 (.s (.s .r (.bN (.loop [(13,(.int .i64))] [0,1,12] (.s .r (.s (.c .l .l) (.s (.bN (.s .r (.s (.cj 8 false ⟨[0,0,3,4,0,0,48,64,136],[0,0,3,4,0,0,48,64,136]⟩ [65536,
 131072,262144,524288,1048576,2097152,4194304,8388608,16777216] [1,32,196608,262144,2,32,3145728,4194304,8912896] (.t 0 (.t 1 (.t 2 (.t 3 (.t 4 (.t 5 (.t 6 (.t 7 (.tail [.r])))))))))) (.c (.s .r .l) .l)))) .r)))))) (.s .r
 .l))))
def af.pI(a:U)(b:U)(w:J)(Q:aa->J->Prop):Prop:=∃s1:ByteArray,∃ah:J,Sem.run ai (convert 48 9 a) w=.ok (.string s1) ah/\∃c:ByteArray,∃d
 :J,Sem.run ai (convert 48 9 b) ah=.ok (.string c) d/\Q (.bool (ByteArray.toList s1==ByteArray.toList c)) d
def ay.pI:aQ:=(.s .r (.s .r .l))
def af.tL(s:U)(f:hK)(w:J)(Q:aa->J->Prop):Prop:=aA 225 #[s,.func (.func f.f) f.pre f.cap] w λa w1=>Q (.bool (decide (a>=0)))
 w1
def ay.tL:aQ:=(.s .r (.s .r .l))
def af.kA(a:U)(b:U)(w:J)(Q:aa->J->Prop):Prop:=∃bS:Int,∃ah:J,Sem.run ai (callFunc 230 #[a,b]) w=.ok (.value bS) ah/\Q bS ah
def ay.kA:aQ:=(.s .r (.s .r .l))
def af.tM(m:aq Nat)(w:J)(Q:aa->J->Prop):Prop:=al (w.alloc (.cells #[.map m] 137)) λw1=>Q (.func (.func
 232) #[] #[.pointer (some (Y w))]) w1
def ay.tM:aQ:=(.s .r (.s .r .l))
theorem af.Ep(m:aq Nat)(w:J)(Q:aa->J->Prop)(h:af.tM m w Q):aP ai 178 #[.map m] w Q:=okF (λw Q=>af.tM m w Q) ay.tM func178 h
def af.tN(s:U)(v:Int)(w:J)(Q:aa->J->Prop):Prop:=∃ (d:Int->J->Prop) (e:Int->J->Nat),d 0 w/\∀ (b:Int) (c:J),d b c->ak (decide (b<(s.len:Int))) (∃a5:
 ae,s.a=some a5/\aI b s.len/\r1 c (a5.add (b.toNat*1)) λn6=>ak (v==n6) (Q b c) (d (av (b+1)) c/\e (av (b+1)) c<e b c)) (Q (.int .i64 (-1)) c)
def ay.tN:aQ:=e8
def af.tO(s:U)(w:J)(Q:aa->J->Prop):Prop:=ak (Option.isNone s.a) (Q () w) (al (w.alloc (.cells #[] 5)) λw1=>∃s2:U,∃b:J,Sem.run ai
 (Builtin.append_ #[215,215] 215 #[.slice (some (Y w)) 0 0,s]) w1=.ok s2 b/\Q s2 b)
def ay.tO:aQ:=cP
def af.tP(x:Int)(w:J)(Q:aa->J->Prop):Prop:=(0:Int)<=x/\∃b9:UInt8,wM (ByteArray.mk #[0,1,1,2,1,2,2,3,1,2,2,3,2,3,3,4,1,2,2,3,2,3,3,4,2,3,3,4,3,4,4,5,1,2,
 2,3,2,3,3,4,2,3,3,4,3,4,4,5,2,3,3,4,3,4,4,5,3,4,4,5,4,5,5,6,1,2,2,3,2,3,3,4,2,3,3,4,3,4,4,5,2,3,3,4,3,4,4,5,3,4,4,5,4,5,5,6,2,3,3,4,3,4,4,5,3,4,4,5,4,5,5,6,3,4,
 4,5,4,5,5,6,4,5,5,6,5,6,6,7,1,2,2,3,2,3,3,4,2,3,3,4,3,4,4,5,2,3,3,4,3,4,4,5,3,4,4,5,4,5,5,6,2,3,3,4,3,4,4,5,3,4,4,5,4,5,5,6,3,4,4,5,4,5,5,6,4,5,5,6,5,6,6,7,2,3,
 3,4,3,4,4,5,3,4,4,5,4,5,5,6,3,4,4,5,4,5,5,6,4,5,5,6,5,6,6,7,3,4,4,5,4,5,5,6,4,5,5,6,5,6,6,7,4,5,5,6,5,6,6,7,5,6,6,7,6,7,7,8]) (x.toNat)=some b9/\Q (.int .i64 (av ((b9.toNat
 :Nat):Int))) w
def ay.tP:aQ:=(.s .r (.s .r .l))
def af.tQ(s:U)(i:Int)(j:Int)(w:J)(Q:aa->J->Prop):Prop:=((0:Int)<=(s.len:Int)/\(s.len:Int)<=(s.cap:Int))/\((0:Int)<=j/\j<=(((Int.toNat (s.len:Int)):Nat):
 Int))/\((0:Int)<=i/\i<=(((j.toNat):Nat):Int))/\ak (i==j) (Q s w) (al (w.drew) λw1=>((0:Int)<=i/\i<=(s.cap:Int))/\((0:Int)<=j/\j<=(s.len:Int))/\∃s2:U,∃b:J,
 Sem.run ai (Builtin.append_ #[127,127] 127 #[.slice (aO s.a 1 0 s.cap) ((i.toNat)-0) (s.cap-0),.slice (aO s.a 1 (j.toNat) s.cap) (s.len-(j.toNat)) (s.cap-(j.toNat))]) w1
 =.ok s2 b/\((0:Int)<=(s.len:Int)/\(s.len:Int)<=(s2.cap:Int))/\((0:Int)<=(s2.len:Int)/\(s2.len:Int)<=(((Int.toNat (s.len:Int)):Nat):Int))/\∃ (bw:aa) (c:J),Sem.run ai
 (Builtin.clear_ #[127] 0 #[.slice (aO s2.a 1 (Int.toNat (s2.len:Int)) s2.cap) ((Int.toNat (s.len:Int))-(Int.toNat (s2.len:Int))) (s2.cap-(Int.toNat (s2.len:Int)))]) b=.ok bw c/\Q s2 c)
def ay.tQ:aQ:=(.s .r (.s .r (.s a1 (.s .r (.s (.cj 6 false ⟨[0,0,3,0,0,24,36,127],[0,0,3,0,0,24,36,73]⟩ [1048576,2097152,4194304,8388608,16777216,33554432,67108864,1] [1,2,3145728,
 1,4,25165824,37748736,67108864] (.t 0 (.t 1 (.t 2 (.t 3 (.t 4 (.t 5 (.tail [.r,.r])))))))) (.s .r (.s .r .l)))))))
def af.tR(s:U)(i:Int)(v:U)(w:J)(Q:aa->J->Prop):Prop:=((0:Int)<=i/\i<=(s.len:Int))/\ak ((v.len:Int)==0) (Q s w) (ak (i==(s.len:Int)) (∃s1:U,
 ∃ah:J,Sem.run ai (Builtin.append_ #[127,127] 127 #[s,v]) w=.ok s1 ah/\Q s1 ah) (ak (decide
 (((av ((s.len:Int)+(v.len:Int))):Int)>(s.cap:Int))) (((0:Int)<=i/\i<=(s.cap:Int))/\∃b:U,∃d:J,Sem.run ai (Builtin.append_ #[127,3] 127 #[.slice (aO s.a 1 0
 s.cap) ((i.toNat)-0) (s.cap-0),.int .i64 (av ((av ((s.len:Int)+(v.len:Int)))-i))]) w=.ok b d/\((0:Int)<=i/\i<=(b.len:Int))/\∃n5:Int,∃e:J,Sem.run ai (Builtin.copy_
 #[127,127] 3 #[.slice (aO b.a 1 (i.toNat) b.cap) (b.len-(i.toNat)) (b.cap-(i.toNat)),v]) d=.ok n5 e/\al (e.drew) λl=>((0:Int)<=(av (i+
 (v.len:Int)))/\(av (i+(v.len:Int)))<=(b.len:Int))/\((0:Int)<=i/\i<=(s.len:Int))/\∃n8:Int,∃f:J,Sem.run ai (Builtin.copy_ #[127,127] 3 #[.slice (aO b.a 1 ((av (i+
 (v.len:Int))).toNat) b.cap) (b.len-((av (i+(v.len:Int))).toNat)) (b.cap-((av (i+(v.len:Int))).toNat)),.slice (aO s.a 1 (i.toNat) s.cap) (s.len-(i.toNat)) (s.cap-(i.toNat))]) l=.ok n8 f/\Q
 b f) (((0:Int)<=(av ((s.len:Int)+(v.len:Int)))/\(av ((s.len:Int)+(v.len:Int)))<=(s.cap:Int))/\((0:Int)<=(av (i+(v.len:Int)))/\(av (i+(v.len:Int)))<=(((((av ((s.len:Int)+
 (v.len:Int))).toNat)-0):Nat):Int))/\∃g:aj,∃c:J,Sem.run ai (callFunc 252 #[v,.slice (aO (aO s.a 1 0 s.cap) 1 ((av (i+(v.len:Int))).toNat) (s.cap-0))
 ((((av ((s.len:Int)+(v.len:Int))).toNat)-0)-((av (i+(v.len:Int))).toNat)) ((s.cap-0)-((av (i+(v.len:Int))).toNat))]) w=.ok (.value g) c/\ak (!g) (al (c.drew) λm=>((0:Int)<=(av (i+
 (v.len:Int)))/\(av (i+(v.len:Int)))<=(((((av ((s.len:Int)+(v.len:Int))).toNat)-0):Nat):Int))/\((0:Int)<=i/\i<=(((((av ((s.len:Int)+(v.len:Int))).toNat)-0):Nat):Int))/\∃n13:Int,∃h:J,Sem.run
 ai (Builtin.copy_ #[127,127] 3 #[.slice (aO (aO s.a 1 0 s.cap) 1 ((av (i+(v.len:Int))).toNat) (s.cap-0)) ((((av ((s.len:Int)+(v.len:Int))).toNat)-0)-((av (i+
 (v.len:Int))).toNat)) ((s.cap-0)-((av (i+(v.len:Int))).toNat)),.slice (aO (aO s.a 1 0 s.cap) 1 (i.toNat) (s.cap-0)) ((((av ((s.len:Int)+(v.len:Int))).toNat)-0)-(i.toNat)) ((s.cap-0)-(i.toNat))]) m=
 .ok n13 h/\((0:Int)<=i/\i<=(((((av ((s.len:Int)+(v.len:Int))).toNat)-0):Nat):Int))/\∃n15:Int,∃j:J,Sem.run ai (Builtin.copy_ #[127,127] 3 #[.slice (aO (aO
 s.a 1 0 s.cap) 1 (i.toNat) (s.cap-0)) ((((av ((s.len:Int)+(v.len:Int))).toNat)-0)-(i.toNat)) ((s.cap-0)-(i.toNat)),v]) h=.ok n15 j/\Q (.slice (aO s.a 1 0 s.cap)
 (((av ((s.len:Int)+(v.len:Int))).toNat)-0) (s.cap-0)) j) (((0:Int)<=(s.len:Int)/\(s.len:Int)<=(((((av ((s.len:Int)+(v.len:Int))).toNat)-0):Nat):Int))/\∃n17:Int,∃k:J,Sem.run ai
 (Builtin.copy_ #[127,127] 3 #[.slice (aO (aO s.a 1 0 s.cap) 1 (Int.toNat (s.len:Int)) (s.cap-0)) ((((av ((s.len:Int)+(v.len:Int))).toNat)-0)-(Int.toNat (s.len:Int))) ((s.cap-0)-(Int.toNat
 (s.len:Int))),v]) c=.ok n17 k/\((0:Int)<=i/\i<=(((((av ((s.len:Int)+(v.len:Int))).toNat)-0):Nat):Int))/\aR 253 #[.slice (aO (aO s.a 1 0 s.cap) 1
 (i.toNat) (s.cap-0)) ((((av ((s.len:Int)+(v.len:Int))).toNat)-0)-(i.toNat)) ((s.cap-0)-(i.toNat)),.int .i64 (v.len:Int)] k λn=>Q (.slice (aO s.a 1 0 s.cap) (((av ((s.len:Int)+
 (v.len:Int))).toNat)-0) (s.cap-0)) n))))
def ay.tR:aQ:=(.s .r (.s .r (.s .r (.s a1 (.s .r (.s a1 (.s (.s .r (.c (.s .r (.s .r (.s (.cj 8 false ⟨[0,0,0,6,9,0,0,96,144],[0,0,0,6,9,0,0,96,144]⟩ [70368744177664,140737488355328,
 281474976710656,562949953421312,1125899906842624,2251799813685248,4503599627370496,9007199254740992,18014398509481984] [512,2,128,422212465065984,633318697598976,1,2,6755399441055744,10133099161583616] (.t 0 (.t 1 (.t 2 (.t 3
 (.t 4 (.t 5 (.t 6 (.t 7 (.tail [.r])))))))))) (.s .r .l)))) .l)) (.s .r (.s (.s .r (.c (.s (.cj 8 false ⟨[0,0,0,6,9,0,0,96,144],[0,0,0,6,9,0,0,96,144]⟩ [590295810358705651712,1180591620717411303424,
 2361183241434822606848,4722366482869645213696,9444732965739290427392,18889465931478580854784,37778931862957161709568,75557863725914323419136,151115727451828646838272] [1,2,128,3541774862152233910272,5312662293228350865408,1,2,
 56668397794435742564352,85002596691653613846528] (.t 0 (.t 1 (.t 2 (.t 3 (.t 4 (.t 5 (.t 6 (.t 7 (.tail [.r])))))))))) (.s .r (.s .r .l))) .l)) a3)))))))))
def af.rB(s:U)(f:hK)(w:J)(Q:aa->J->Prop):Prop:=∃ (d:Int->J->Prop) (g:Int->J->Nat),d 0 w/\∀ (b:Int) (c:J),d b c->ak (decide (b<(s.len:Int))) (∃a5
 :ae,s.a=some a5/\aI b s.len/\bX c (a5.add (b.toNat*1)) λn6=>iD ai f.f/\Calls ai f.f (f.pre++ #[.int .u8 n6]++f.cap) c λi e=>∃h:aj,i=.returned h/\ak h (Q b e) (d (av (b+1)) e/\g (av (b+1)) e<g b c)) (Q (.int .i64 (-1)) c)
def ay.rB:aQ:=e8
theorem af.Er(s:U)(f:hK)(w:J)(Q:aa->J->Prop)(h:af.rB s f w Q):aP ai 225 #[s,.func (.func f.f) f.pre f.cap] w Q:=okF (λw Q=>af.rB s f w Q) ay.rB func225 h
def af.tS(x:U)(target:U)(cmp:hK)(w:J)(Q:aa->J->Prop):Prop:=∃ (e:Int->Int->J->Prop) (g:Int->Int->J->Nat),e 0 (x.len:Int) w/\∀ (b:Int)
 (c:Int) (d:J),e b c d->ak (decide (b<c)) ((0:Int)<=1/\∃c1:ae,x.a=some c1/\((0:Int)<=(av (Int.fdiv (IntKind.wrap .u64 (av (b+c))) (2^(min (Int.toNat 1) 64))))/\(av (Int.fdiv (IntKind.wrap .u64 (av
 (b+c))) (2^(min (Int.toNat 1) 64))))<(x.len:Int))/\ag d (c1.add (Int.toNat (av (Int.fdiv (IntKind.wrap .u64 (av (b+c))) (2^(min (Int.toNat 1) 64))))*1)) λi=>iD ai cmp.f/\Calls ai cmp.f (cmp.pre
 ++ #[.slice i.a i.len i.cap,.slice target.a target.len target.cap]++cmp.cap) d λl h=>∃n10:Int,l=.returned (.int .i64 n10)/\ak (decide (n10<0)) (e (av ((av (Int.fdiv (IntKind.wrap .u64 (av (b+c))) (2^(min
 (Int.toNat 1) 64))))+1)) c h/\g (av ((av (Int.fdiv (IntKind.wrap .u64 (av (b+c))) (2^(min (Int.toNat 1) 64))))+1)) c h<g b c d) (e b (av (Int.fdiv (IntKind.wrap .u64 (av (b+c))) (2^(min (Int.toNat 1) 64)))) h
 /\g b (av (Int.fdiv (IntKind.wrap .u64 (av (b+c))) (2^(min (Int.toNat 1) 64)))) h<g b c d)) (bF (λk:aj->J->Prop=>ak (decide (b<(x.len:Int))) (∃ez:ae,x.a=some ez/\aI b x.len/\ag d (ez.add
 (Int.toNat b*1)) λj=>iD ai cmp.f/\Calls ai cmp.f (cmp.pre++ #[.slice j.a j.len j.cap,.slice target.a target.len target.cap]++cmp.cap) d λm n=>∃n16:Int,m=.returned (.int .i64 n16)/\
 k (n16==0) n) (k false d)) (λ(o:aj) p=>Q (.tuple #[.int .i64 b,.bool o]) p))
def ay.tS:aQ:=(.s .r (.s .r (.s .r (.s (.bN (.loop [(9,(.int .i64)),(10,(.int .i64))] [0,1,2,8] (.s (.s .r (.c .l .l)) (.bN (.s .r (.s .r (.c .r .r))))))) (.s (.cV [.r,.r,.r,.r,
 .r,.split 8]) .l)))))
def af.tT(s:U)(f:hK)(w:J)(Q:aa->J->Prop):Prop:=aA 278 #[s,.func (.func f.f) f.pre f.cap] w λa w1=>Q (.bool
 (decide (a>=0))) w1
def ay.tT:aQ:=(.s .r (.s .r .l))
def af.tU(s:U)(f:hK)(w:J)(Q:aa->J->Prop):Prop:=aA 279 #[s,.func (.func f.f) f.pre f.cap] w λa w1=>Q (.bool (decide (a>=0))) w1
def ay.tU:aQ:=(.s .r (.s .r .l))
def af.tV(s:U)(w:J)(Q:aa->J->Prop):Prop:=ak (Option.isNone s.a) (Q () w) (al (w.alloc (.cells #[] 3)) λw1=>∃s2:U,∃b:J,Sem.run ai (Builtin.append_
 #[58,58] 58 #[.slice (some (Y w)) 0 0,s]) w1=.ok s2 b/\Q s2 b)
def ay.tV:aQ:=cP
set_option maxRecDepth 100000
def af.rC(s:U)(f:hK)(w:J)(Q:aa->J->Prop):Prop:=∃ (d:Int->J->Prop) (h:Int->J->Nat),d 0 w/\∀ (b:Int) (c:J),d b c->ak (decide (b<(s.len:Int)))
 (∃a5:ae,s.a=some a5/\aI b s.len/\ag c (a5.add (Int.toNat b*1)) λe=>iD ai f.f/\Calls ai f.f (f.pre++ #[.slice e.a e.len e.cap]++f.cap) c λj g=>∃i:aj,j=.returned (.bool i)/\
 ak i (Q (.int .i64 b) g) (d (av (b+1)) g/\h (av (b+1)) g<h b c)) (Q (.int .i64 (-1)) c)
def ay.rC:aQ:=e8
theorem af.Es(s:U)(f:hK)(w:J)(Q:aa->J->Prop)(h:af.rC s f w Q):aP ai 278 #[.slice s.a s.len s.cap,.func (.func f.f) f.pre f.cap] w Q:=okF (λw Q=>af.rC s f w Q) ay.rC func278 h
def af.rD(s:U)(f:hK)(w:J)(Q:aa->J->Prop):Prop:=∃ (d:Int->J->Prop) (g:Int->J->Nat),d 0 w/\∀ (b:Int) (c:J),d b c->ak (decide (b<(s.len:Int))) (∃a5:
 ae,s.a=some a5/\aI b s.len/\r1 c (a5.add (Int.toNat b*1)) λn6=>iD ai f.f/\Calls ai f.f (f.pre++ #[.int .i64 n6]++f.cap) c λi e=>∃h:aj,i=.returned (.bool h)/\ak h (Q (.int .i64
 b) e) (d (av (b+1)) e/\g (av (b+1)) e<g b c)) (Q (.int .i64 (-1)) c)
def ay.rD:aQ:=e8
theorem af.Et(s:U)(f:hK)(w:J)(Q:aa->J->Prop)(h:af.rD s f w Q):aP ai 279 #[.slice s.a s.len s.cap,.func (.func f.f) f.pre f.cap] w Q:=okF (λw Q=>af.rD s f w Q) ay.rD func279 h
def af.tW(s:U)(w:J)(Q:aa->J->Prop):Prop:=ak (Option.isNone s.a) (Q () w) (al (w.alloc (.cells #[] 48)) λw1=>∃s2:U,∃b:J,Sem.run ai
 (Builtin.append_ #[127,127] 127 #[.slice (some (Y w)) 0 0,s]) w1=.ok s2 b/\Q s2 b)
def ay.tW:aQ:=cP
set_option maxRecDepth 100000
def af.n3(n:Int)(w:J)(Q:aa->J->Prop):Prop:=ak ((decide (n<16))||(decide (n>1600))) (Q (.tuple #[.pointer none,(1:Int)]) w) (((0:Int)<=n/\n<=n/\n<=kz/\((256:Nat):Int)*n<=
 140737488355328)/\al (w.alloc (.cells (g5 ai 182 (n.toNat)) 182)) λw1=>∃b:aq Nat,∃a:J,Sem.run ai (Instr.makeMap 137 none) w1=.ok (.map b) a/\∃de:
 Array aa,Sem.run ai (Instr.build 141 #[(1,.slice (some (Y w)) (n.toNat) (n.toNat)),(2,.map b)]) a=.ok (.agg de) a/\al (a.alloc (.cells de 141)) λc=>∃c1:ae,(some (Y a):aq
 ae)=some c1/\aR 69 #[.pointer (some c1)] c λd=>Q (.tuple #[.pointer (some (Y a)),(0:Int)]) d)
def ay.n3:aQ:=(.s .r (.s a5 a3))
def af.n4(d:aq ae)(r:Int)(s:Int)(t:Int)(w:J)(Q:aa->J->Prop):Prop:=al (w.alloc (.cells #[r,s,.int .u64 t] 46)) λw1=>
 r1 w1 (Y w) λbp=>r1 w1 ((Y w).add 1) λu=>bw w1 ((Y w).add 2) λv=>aK 70 #[d,.agg #[bp,u,.int .u64 v]] w1 λx l=>ak (!x) (Q (.tuple #[.pointer none,(1:Int)]) l) (aA 72 #[d] l λn10 y=>de 71 #[n10,(3:Int)] y λm n14 n=>ak (n14 !=0) (Q (.tuple #[.pointer none,n14]) n) (ba 74 #[m] n λ
 z A=>b8 73 #[(2:Int),.agg #[(4:Int),.int .u64 1,z]] A λB n21 f=>ak (n21 !=0) (Q (.tuple #[.pointer none,n21]) f) (((0:Int)<=256/\(256:Int)<=256/\(256:
 Int)<=kz/\((1:Nat):Int)*256<=140737488355328)/\al (f.alloc (.cells (g5 ai 5 (Int.toNat 256)) 5)) λi=>∃jt:Array aa,Sem.run ai (Instr.build 151 #[(0,.slice (some (Y f))
 (Int.toNat 256) (Int.toNat 256)),(1,.slice (some (Y f)) (Int.toNat 256) (Int.toNat 256)),(2,B)]) i=.ok (.agg jt) i/\∃ (j:Int->J->Prop) (o:Int->J->Nat),j 0 i/\∀ (n26:Int)
 (g:J),j n26 g->ak (decide (n26<3)) (((0:Int)<=n26/\n26<((3:Nat):Int))/\∃h:U,cellAt jt (n26.toNat*1)=some (.slice h.a h.len h.cap)/\aA 75 #[d,n26,h] g λn31 k=>ak (n31 !=0) (Q (.tuple #[.pointer none,n31]) k) (j (av (n26+1)) k/\o (av (n26+1)) k<o n26 g)) (aA 76 #[d] g λn34 b=>ak (n34 !=0)
 (Q (.tuple #[.pointer none,n34]) b) (al (b.alloc g7) λp=>bA p (Y b) [(0:Int),(0:Int),(2:Int),.int .u64 0,.int .u64 0,(0:Int)]/\(6:Nat)=6/\al (setCells p (Y b) 0 [(0:Int),
 .int .i64 0,(2:Int),.int .u64 0,.int .u64 0,(0:Int)]) λe=>r1 e (Y b) λn37=>r1 e ((Y b).add 1) λn38=>r1 e ((Y b).add 2) λn39=>bw e ((Y b).add 3) λn40=>bw e (Addr.add
 (Y b) 4) λn41=>r1 e ((Y b).add 5) λC=>aA 77 #[d,.agg #[n37,n38,n39,.int .u64 n40,.int .u64 n41,C],.int .u64 1] e λq c=>ak (q !=0)
 (Q (.tuple #[.pointer none,q]) c) (r1 c (Y w) λD=>r1 c ((Y w).add 1) λE=>bw c ((Y w).add 2) λF=>r1 c (Y b) λG=>r1 c ((Y b).add 1) λH=>r1 c ((Y
 b).add 2) λI=>bw c ((Y b).add 3) λK=>bw c ((Y b).add 4) λL=>r1 c ((Y b).add 5) λM=>de 78 #[d,.agg #[D,E,.int .u64 F],.agg #[G,H,I,.int .u64 K,.int .u64 L,M],.int .u64 1,m] c λN O P=>Q (.tuple #[N,O]) P))))))
def ay.n4:aQ:=(.s .r (.s a1 (.s .r (.s a1 (.s .r (.s a1 (.s .r (.s (.s .r (.bN (.loop [(44,(.int .i64))] [0,3,6,43] e1))) (.s (.s .r a1) (.s .r hU))))))))))
theorem af.Eu(d:aq ae)(a:Int)(b:Int)(c:Int)(w:J)(Q:aa->J->Prop)(h:af.n4 d a b c w Q):aP ai 19 #[d,.agg #[a,b,.int .u64 c]] w Q:=okF (λw Q=>af.n4 d a b c w Q) ay.n4 func19 h
def af.tX(s:aq ae)(key:U)(w:J)(Q:aa->J->Prop):Prop:=bF (λbx:aj->J->Prop=>ak (Option.isNone s) (bx true w) (aK 79 #[key] w λh ah=>bx
 (!h) ah)) (λ(i:aj) a=>ak i (Q (.tuple #[false,(1:Int)]) a) (∃dx:ae,s=some dx/\bc a (dx.add 18) λj=>ak j (Q (.tuple #[false,(8:Int)]) a) (∃a9:ae,s=some a9/\∃d:aq ae,
 a.cell? a9=some (d)/\jI 80 #[d,key] a λo k n15 b=>ak (n15 !=0) (aA 81 #[s,n15] b λn18 l=>Q (.tuple #[false,
 n18]) l) (ak (!k) (Q (.tuple #[false,(0:Int)]) b) (aA 82 #[s] b λn21 c=>ak (n21==0) (Q (.tuple #[false,(2:Int)]) c) (∃e:ae,s=some e/\∃f:aq
 ae,c.cell? e=some (f)/\k2 83 #[f,key] c λp n27 g=>ak (n27 !=0) (aA 81 #[s,n27] g λn30 m=>Q (.tuple #[false,n30]) m) (aA 84 #[s,.int .i64 (-1)] g λn33 n=>Q (.tuple #[.bool (n33==0),n33]) n)))))))
def ay.tX:aQ:=(.s .r (.s (.bN (.s (.cV [.r,.r,.r,.split 3]) (.c (.s .r .l) a1))) (.s .r (.s (.bN (.s .r (.c (.s .r .l) eM))) (.s (.s .r a1) (.s .r (.s .r .l)))))))
def af.tY(s:aq ae)(key:U)(val:U)(w:J)(Q:aa->J->Prop):Prop:=bF (λbx:aj->J->Prop=>ak (Option.isNone s) (bx true w) (aK 79 #[key] w λh
 ah=>bx (!h) ah)) (λ(i:aj) a=>ak (i||(decide ((val.len:Int)>24))) (Q (1:Int) a) (∃dx:ae,s=some dx/\bc a (dx.add 18) λj=>ak j (Q (8:Int) a) (aA 82 #[s] a λn11 b
 =>ak (n11==0) (Q (2:Int) b) (∃ez:ae,s=some ez/\∃e:aq ae,b.cell? ez=some (e)/\jI 80 #[e,key] b λp k n18 c=>ak (n18 !=0) (aA
 81 #[s,n18] c λn21 l=>Q n21 l) (∃f:ae,s=some f/\∃g:aq ae,c.cell? f=some (g)/\aA 85 #[g,key,val] c λn26 d=>ak (n26 !=0) (aA 81 #[s,n26] d λn29 m=>Q n29 m) (ak k (aA 84 #[s,(0:Int)] d λn32 n
 =>Q n32 n) (aA 84 #[s,(1:Int)] d λn35 o=>Q n35 o)))))))
def ay.tY:aQ:=(.s .r (.s (.bN (.s (.cV [.r,.r,.r,.split 3,.r,.r,.r,.r,.pure 3]) (.c (.s .r .l) eM))) (.s .r (.s a1 (.s (.s .r a1) (.s a1 (.s .r .l)))))))
def af.tZ(s:aq ae)(w:J)(Q:aa->J->Prop):Prop:=ak (Option.isNone s) (Q (1:Int) w) (∃a1:ae,s=some a1/\bc w (a1.add 18) λbQ=>ak bQ (Q (8:Int) w) (aA 94
 #[s] w λn5 a=>Q n5 a))
def ay.tZ:aQ:=(.s .r (.s (.bN eM) (.s .r .l)))
def af.rE(d:aq ae)(i:Int)(b:Int)(m:Int)(w:J)(Q:aa->J->Prop):Prop:=aK 108 #[d,i] w λx w1=>ak (((!x)||(decide (b<0)))||(decide (b
 >=256))) (Q false w1) (al (w1.drew) λg=>∃a5:ae,d=some a5/\¬False/\ag g (a5.add 4) λe=>∃dx:ae,e.a=some dx/\aI i e.len/\((0:Int)<=b/\b<((256:Nat):Int))/\¬False/\bX g (Addr.add
 (dx.add (i.toNat*256)) (b.toNat*1)) λn8=>∃a9:ae,e.a=some a9/\aI i e.len/\((0:Int)<=b/\b<((256:Nat):Int))/\st g ((a9.add (Int.toNat i*256)).add (b.toNat*1)) (.int .u8 (kq
 .u8 n8 m)) λn=>∃dA:ae,d=some dA/\∃o:aq Nat,n.cell? (dA.add 5)=some (.map o)/\∃p:U,∃q:J,Sem.run ai (Instr.lookup 137 (.map o) i false) n=
 .ok p q/\∃ (h:Int->J->Prop) (r:Int->J->Nat),h 0 q/\∀ (n17:Int) (f:J),h n17 f->ak (decide (n17<(p.len:Int))) (al (f.drew) λs=>∃y:Nat->Prop,∃j:
 ae,d=some j/\¬y (j.add 5).block/\∃t:aq Nat,s.cell? (j.add 5)=some (.map t)/\∃c:U,∃k:J,Sem.run ai (Instr.lookup 137 (.map t) i false) s=.ok
 c k/\∃z:Nat->Prop,∃l:ae,c.a=some l/\aI n17 c.len/\((0:Int)<=b/\b<((256:Nat):Int))/\¬z ((l.add (Int.toNat n17*256)).add (b.toNat*1)).block/\bX
 k ((l.add (Int.toNat n17*256)).add (b.toNat*1)) λn27=>∃u:ae,c.a=some u/\aI n17 c.len/\((0:Int)<=b/\b<((256:Nat):Int))/\st k ((u.add (Int.toNat n17*256)).add (Int.toNat
 b*1)) (.int .u8 (kq .u8 n27 m)) λv=>h (av (n17+1)) v/\r (av (n17+1)) v<r n17 f) (Q true f))
def ay.rE:aQ:=(.s .r (.s (.s (.cV [.r,.r,.r,.r,.r,.pure 2,.r,.r,.r,.pure 2]) (.c (.s .r .l) .l)) (.s (.cj 12 false ⟨[0,1,2,4,0,0,24,96,128,0,768,24,4095,6143],[0,1,2,4,0,0,24,96,128,0,768,
 24,2080,5120]⟩ [4194304,8388608,16777216,33554432,67108864,134217728,268435456,536870912,1073741824,2147483648,4294967296,8589934592,17179869184,0] [1,4194304,8388608,16777216,2,4,100663296,402653184,536870912,8,
 3221225472,100663296,8724152320,21474836480] (.t 0 (.t 1 (.t 2 (.t 3 (.t 4 (.t 5 (.t 6 (.t 7 (.t 8 (.t 9 (.t 10 (.t 11 (.tail [.r,.r])))))))))))))) (.s (.s .r (.bN (.loop [(42,(.int .i64))] [0,1,2,3,41] (.s .r (.s (.c .l .l) (.s
 (.bN (.s .r (.cj 14 true ⟨[0,1,2,4,0,24,0,0,96,384,512,0,3072,96,16383,24575],[0,1,2,4,0,24,0,0,96,384,512,0,3072,96,8320,20480]⟩ [35184372088832,70368744177664,140737488355328,281474976710656,
 562949953421312,1125899906842624,2251799813685248,4503599627370496,9007199254740992,18014398509481984,36028797018963968,72057594037927936,144115188075855872,288230376151711744,576460752303423488,0] [1,35184372088832,
 70368744177664,140737488355328,2,844424930131968,512,4,3377699720527872,13510798882111488,18014398509481984,8,108086391056891904,3377699720527872,292733975779082240,720575940379279360] (.t 0 (.t 1 (.t 2 (.t 3 (.t 4 (.t 6 (.t 7
 (.t 11 (.out 5 true (.t 8 (.t 9 (.t 10 (.t 12 (.t 13 (.tail [.r,.r])))))))))))))))))) .r)))))) (.s .r .l)))))
theorem af.Ev(d:aq ae)(i:Int)(a:Int)(b:Int)(w:J)(Q:aa->J->Prop)(h:af.rE d i a b w Q):aP ai 40 #[d,i,a,.int .u8 b] w Q:=okF (λw Q=>af.rE d i a b w Q) ay.rE func40 h
def af.n_(d:aq ae)(j:Int)(k:Int)(l:Int)(w:J)(Q:aa->J->Prop):Prop:=al (w.alloc (.cells #[j,k,.int .u64 l] 46)) λw1=>
 r1 w1 (Y w) λbp=>r1 w1 ((Y w).add 1) λm=>bw w1 ((Y w).add 2) λn=>aK 70 #[d,.agg #[bp,m,.int .u64 n]] w1 λo f=>ak (!o) (Q (.tuple #[.pointer none,(1:Int)]) f) (Ax 109 #[d] f λn10 n11 n12 n13 n14 n15 n16 n17 a=>al (a.alloc g7) λg=>bA g (Y a) [n10,n11,n12,.int .u64 n13,.int .u64 n14,n15]/\(6:Nat)=6
 /\al (setCells g (Y a) 0 [n10,n11,n12,.int .u64 n13,.int .u64 n14,n15]) λc=>ak (n17 !=0) (Q (.tuple #[.pointer none,n17]) c) (r1 c ((Y a).add 2) λn20=>de
 110 #[d,n20] c λp n24 b=>ak (n24 !=0) (Q (.tuple #[.pointer none,n24]) b) (r1 b (Y w) λn25=>r1 b ((Y w).add 1) λn26=>bw b ((Y w).add 2) λn27=>r1 b
 (Y a) λn28=>r1 b ((Y a).add 1) λn29=>r1 b ((Y a).add 2) λn30=>bw b ((Y a).add 3) λn31=>bw b ((Y a).add 4) λn32=>r1 b ((Y a).add 5) λn33=>de 78
 #[d,.agg #[n25,n26,.int .u64 n27],.agg #[n28,n29,n30,.int .u64 n31,.int .u64 n32,n33],.int .u64 n16,p] b λh n37 e=>ak (n37 !=0) (Q
 (.tuple #[.pointer none,(4:Int)]) e) (r1 e ((Y a).add 5) λn38=>aA 86 #[h,n38] e λn41 i=>ak (n41 !=0) (Q (.tuple #[.pointer none,n41]) i) (Q (.tuple
 #[h,(0:Int)]) i)))))
def ay.n_:aQ:=(.s .r (.s a1 (.s .r (.s a1 (.s .r (.s a1 (.s .r (.s a1 hU))))))))
def af.t_(s:aq ae)(a:U)(to:U)(most:Int)(w:J)(Q:aa->J->Prop):Prop:=ak (Option.isNone s) (Q (.tuple #[(),(1:Int)]) w) (∃a1:ae,s=some a1/\∃bt:aq
 ae,w.cell? a1=some (bt)/\b8 111 #[bt,a,to,most] w λb n6 c=>Q (.tuple #[b,n6]) c)
def ay.t_:aQ:=cP
def af.ua(d:aq ae)(l:U)(w:J)(Q:aa->J->Prop):Prop:=ak (Option.isNone d) (Q (.tuple #[]) w) (ba 112 #[d] w λi w1=>∃ (j:Int->J->Prop) (q:Int->J->
 Nat),j 0 w1/\∀ (n6:Int) (b:J),j n6 b->ak (decide (n6<(i.len:Int))) (bF (λr:J->Prop=>∃a9:ae,i.a=some a9/\aI n6 i.len/\r1 b (a9.add (n6.toNat*1)) λn10=>bF (λs:aj->J->Prop
 =>ak (decide (n6>=(l.len:Int))) (s true b) (∃ez:ae,l.a=some ez/\aI n6 l.len/\r1 b (ez.add (n6.toNat*1)) λn13=>s (decide (n13<=0)) b)) (λ(C:aj) k=>ak C (r k) (∃fB:ae,d=some fB/\∃
 t:aq Nat,k.cell? (fB.add 5)=some (.map t)/\∃e:U,∃u:J,Sem.run ai (Instr.lookup 137 (.map t) n10 false) k=.ok e u/\al (u.drew)
 λf=>∃g:Nat->Prop,∃m:ae,d=some m/\¬g (m.add 4).block/\ag f (m.add 4) λv=>∃n:ae,l.a=some n/\aI n6 l.len/\¬g (n.add (n6.toNat*1)).block/\r1 f (n.add (n6.toNat*1))
 λn25=>∃n26:Int,∃c:J,Sem.run ai (Builtin.min_ #[3,3] 3 #[n25,.int .i64 (e.len:Int)]) f=.ok n26 c/\ab g f c/\∃o:ae,e.a=some o/\aI (av (n26-1))
 e.len/\¬g (o.add ((av (n26-1)).toNat*256)).block/\∃h:O aa,cL c (o.add ((av (n26-1)).toNat*256)) 0 256=some h/\∃p:ae,v.a=some p/\aI n10 v.len/\bA c (p.add
 (n10.toNat*256)) (Array.toList h.toArray)/\Array.size h.toArray=256/\al (setCells c (p.add (n10.toNat*256)) 0 (Array.toList h.toArray)) λD=>r D))) (λx=>j (av (n6+1)) x/\q (av (n6+1)) x<
 q n6 b)) (∃y:ae,d=some y/\∃z:aq Nat,b.cell? (y.add 5)=some (.map z)/\∃ (E:aa) (A:J),Sem.run ai (Builtin.clear_ #[137] 0 #[.map z]) b=.ok E A/\∃B:
 ae,d=some B/\aR 69 #[.pointer (some B)] A λF=>Q (.tuple #[]) F))
def ay.ua:aQ:=(.s (.s .r (.c .l .l)) (.s (.s .r (.bN (.loop [(12,(.int .i64))] [0,1,10,11] (.s .r (.s (.c .l .l) (.s (.eH [] [0,1,10,11,12] (.bN (.s .r (.s (.s (.cV [.r,.r,.r,.r,.r,.split 5]) (.c .l .l)) (.s
 .r (.cj 16 true ⟨[0,1,2,4,0,0,0,0,192,256,0,1024,2560,4096,8224,16384,65535,131071],[0,1,2,4,0,0,0,0,192,256,0,1024,2560,4096,8224,16384,24,98304]⟩ [17179869184,34359738368,68719476736,137438953472,
 274877906944,549755813888,1099511627776,2199023255552,4398046511104,8796093022208,17592186044416,35184372088832,70368744177664,140737488355328,281474976710656,562949953421312,1125899906842624,0] [1,17179869184,34359738368,
 68719476736,32,64,2,16,3298534883328,4398046511104,64,17592186044416,43980465111040,70368744177664,141287244169216,281474976710656,412316860416,1688849860263936] (.t 0 (.t 1 (.t 2 (.t 3 (.t 4 (.t 5 (.t 6 (.t 7 (.t 8 (.t 9 (.t
 10 (.t 11 (.bP 12 (.t 13 (.t 14 (.t 15 (.tail [.r,.r]))))))))))))))))))))))) .r)))))) (.s .r .r)))
def af.uc(s:aq ae)(now:Int)(w:J)(Q:aa->J->Prop):Prop:=ak (Option.isNone s) (Q (1:Int) w) (∃a1:ae,s=some a1/\bw w (a1.add 14) λbp=>∃b:Int,∃c:J,Sem.run
 ai (Builtin.max_ #[27,27] 27 #[.int .u64 bp,.int .u64 now]) w=.ok (.int .u64 b) c/\∃a5:ae,s=some a5/\st c (a5.add 14) (.int .u64 b) λd=>al (d.drew) λa=>∃c2:ae,s=some c2/\¬
 False/\r1 a (c2.add 16) λn9=>ak (n9==0) (ak true (Q (0:Int) a) (aA 94 #[s] a λn12 e=>Q n12 e)) (∃cP:ae,s=some cP/\¬False/\bw a (cP.add 14) λn14=>∃eM:
 ae,s=some eM/\¬False/\bw a (eM.add 15) λn16=>∃hU:ae,s=some hU/\¬False/\bw a ((hU.add 4).add 2) λn18=>ak (decide (((IntKind.wrap .u64 (n14-n16)):Int)<n18)) (Q (0:Int) a) (aA
 94 #[s] a λn21 f=>Q n21 f)))
def ay.uc:aQ:=(.s .r (.s a1 (.s .r (.s (.s (.cj 20 false ⟨[0,1,2,4,8,16,32,96,160,288,32,1056,2080,4128,8736,32,32800,65568,131104,262176,540704,1048608],[0,1,2,4,8,16,32,96,160,288,32,
 1056,2080,4128,8736,32,32800,65568,131104,262176,540704,1048608]⟩ [65536,131072,262144,524288,1048576,2097152,4194304,8388608,16777216,33554432,67108864,134217728,268435456,536870912,1073741824,2147483648,
 4294967296,8589934592,17179869184,34359738368,68719476736,137438953472] [1,65536,131072,262144,524288,1048576,2097153,6291456,10485760,18874368,2097153,69206016,136314880,270532608,572522496,2097153,2149580800,
 4297064448,8592031744,17181966336,35435577344,68721573888] (.t 0 (.t 1 (.t 2 (.t 3 (.t 4 (.t 5 (.sp 21 (.t 6 (.t 7 (.t 8 (.t 9 (.t 10 (.t 11 (.t 12 (.t 13 (.t 14 (.t 15 (.t 16 (.t 17 (.t 18 (.t 19 (.tail [.r,.r]))))))))))))))) (.t 6
 (.t 7 (.t 8 (.t 9 (.t 10 (.t 11 (.t 12 (.t 13 (.t 14 (.t 15 (.t 16 (.t 17 (.t 18 (.t 19 (.tail [.r,.r]))))))))))))))))))))))) (.c (.s .r .l) .l)) (.s .r .l)))))
def af.ud(s:aq ae)(key:U)(w:J)(Q:aa->J->Prop):Prop:=ak (Option.isNone s) (Q (.tuple #[(),false,(1:Int)]) w) (∃a1:ae,s=some a1/\∃bt:aq ae,w.cell? a1
 =some (bt)/\jI 80 #[bt,key] w λa b n7 c=>Q (.tuple #[a,b,n7]) c)
def ay.ud:aQ:=cP
def af.xw(s:aq ae)(w:J)(Q:aa->J->Prop):Prop:=ak (Option.isNone s) (Q (0:Int) w) (aA 82 #[s] w λa w1=>Q a w1)
def ay.xw:aQ:=cP
def af.ue(f:aq ae)(w:J)(Q:aa->J->Prop):Prop:=∃ (c:Int->J->Prop) (d:Int->J->Nat),c 0 w/\∀ (a:Int) (b:J),c a b->ak (decide (a<4)) (∃a5:ae,f=some a5/\
 ((0:Int)<=a/\a<((4:Nat):Int))/\st b (Addr.add a5 (a.toNat*1)) (.int .i64 (-1)) λe=>c (av (a+1)) e/\d (av (a+1)) e<d a b) (Q (.tuple #[]) b)
def ay.ue:aQ:=(.s .r (.bN (.loop [(3,(.int .i64))] [0] a2)))
def af.oa(d:aq ae)(l:Int)(m:Int)(n:Int)(w:J)(Q:aa->J->Prop):Prop:=al (w.alloc (.cells #[l,m,.int .u64 n] 46)) λw1=>
 bF (λbG:aj->J->Prop=>ak (!(Option.isNone d)) (r1 w1 (Y w) λo=>bG (decide (o>=8)) w1) (bG false w1)) (λ(p:aj) a=>bF (λg:aj->J->Prop=>ak p (r1 a (Y w) λn7=>g (decide (n7<=64)) a)
 (g false a)) (λ(q:aj) b=>bF (λh:aj->J->Prop=>ak q (r1 b ((Y w).add 1) λn11=>h (decide (n11>=1)) b) (h false b)) (λ(r:aj) c=>bF (λi:aj->J->Prop=>ak r (r1 c
 ((Y w).add 1) λn15=>i (decide (n15<=1000)) c) (i false c)) (λ(s:aj) e=>bF (λj:aj->J->Prop=>ak s (bw e ((Y w).add 2) λn19=>j (decide (n19>=1)) e) (j false e)) (λ
 (t:aj) f=>bF (λk:aj->J->Prop=>ak t (bw f ((Y w).add 2) λn23=>k (decide (n23<=1048576)) f) (k false f)) (λ(u:aj) v=>Q u v))))))
def ay.oa:aQ:=(.s .r (.s (.cV [.r,.r,.r,.split 3,.r,.r,.r,.r,.split 3,.r,.r,.r,.r,.split 3,.r,.r,.r,.r,.split 3,.r,.r,.r,.r,.split 3,.r,.r,.r,.r,.split 3]) .l))
def af.pJ(n:Int)(first:Int)(w:J)(Q:aa->J->Prop):Prop:=aK 128 #[n] w λg w1=>ak (((!g)||(decide (first<0)))||(decide (first>n))) (Q (.tuple #[.pointer none,(1:Int)])
 w1) (aA 129 #[n] w1 λn6 d=>((0:Int)<=n6/\n6<=n6/\n6<=kz/\((1:Nat):Int)*n6<=140737488355328)/\al (d.alloc (.cells (g5 ai 5 (n6.toNat)) 5)) λb=>al (b.alloc (.cells
 #[n,.slice (some (Y d)) (n6.toNat) (n6.toNat),()] 218)) λh=>∃ (c:Int->J->Prop) (e:Int->J->Nat),c 0 h/\∀ (n11:Int) (a:J),c n11 a->ak (decide (n11<
 first)) (∃cP:ae,(some (Y b):aq ae)=some cP/\ag a (cP.add 1) λi=>aR 130 #[i,n11] a λf=>c (av (n11+1)) f/\e (av (n11+1)) f<e n11 a)
 (aR 131 #[.pointer (some (Y b))] a λj=>Q (.tuple #[.pointer (some (Y b)),(0:Int)]) j))
def ay.pJ:aQ:=(.s .r (.s (.s (.cV [.r,.r,.r,.r,.pure 2,.r,.r,.r,.pure 3]) (.c (.s .r .l) .l)) (.s .r (.s (.s .r (.bN (.loop [(27,(.int .i64))] [6,26] a2))) (.s .r (.s .r .l))))))
def af.uf(d:aq ae)(w:J)(Q:aa->J->Prop):Prop:=ak (Option.isNone d) (Q (0:Int) w) (∃a1:ae,d=some a1/\ag w (a1.add 4) λs2=>Q (.int .i64 (s2.len:Int)) w)
def ay.uf:aQ:=cP
def af.ug(no:Int)(u:Int)(v:Int)(x:U)(w:J)(Q:aa->J->Prop):Prop:=al (w.alloc (.cells #[u,.int .u64 v,x] 150)) λw1=>
 aK 132 #[no] w1 λy ah=>bF (λj:aj->J->Prop=>ak (!y) (j true ah) (r1 ah (Y w) λn6=>aK 133 #[n6] ah λz A=>j (!z) A)) (λ(B:aj) f=>ak B (Q (.tuple #[(),(1:Int)]) f) (ag f ((Y w).add 2) λC=>ak (decide ((C.len:Int)>232)) (Q (.tuple #[(),(10:Int)]) f) (al (f.alloc (.cells #[.int .u8 83,.int .u8 84,.int .u8 78,.int .u8 67] 5))
 λD=>∃k:U,∃g:J,Sem.run ai (convert 48 48 (.slice (some (Y f)) 4 4)) D=.ok k g/\r1 g (Y w) λn16=>al (g.alloc (.cells #[.int .u8 1,.int .u8
 (IntKind.wrap .u8 n16)] 5)) λl=>al (l.alloc (.cells #[k,.slice (some (Y g)) 2 2] 48)) λE=>ba 92 #[.slice (some (Y l)) 2 2] E λF m=>ag m ((Y w).add
 2) λG=>ba 126 #[F,.int .u64 (IntKind.wrap .u64 (G.len:Int)),(2:Int)] m λH I=>ba 126 #[H,.int .u64 (IntKind.wrap .u64 no),(4:Int)] I λK
 n=>bw n ((Y w).add 1) λn29=>ba 126 #[K,.int .u64 n29,(8:Int)] n λo L=>bF (λp:U->J->Prop=>al (L.drew) λb=>∃d:Nat->Prop,¬d ((Y w).add
 2).block/\ag b ((Y w).add 2) λq=>¬d ((Y w).add 2).block/\ag b ((Y w).add 2) λe=>(((0:Int)<=4/\(4:Int)<=4/\(4:Int)<=kz/\((1:Nat):Int)*4<=140737488355328)/\al (b.alloc (.cells
 (g5 ai 5 (Int.toNat 4)) 5)) λh=>ab d b h/\(xo e)/\al (h.alloc (.cells (g5 ai 5 ((av (232-(e.len:Int))).toNat)) 5)) λr=>ab d h r/\xp r o b q
 h e p)/\((xo e)/\al (b.alloc (.cells (g5 ai 5 ((av (232-(e.len:Int))).toNat)) 5)) λi=>ab d b i/\((0:Int)<=4/\(4:Int)<=4/\(4:Int)<=kz/\((1:Nat):Int)*4<=
 140737488355328)/\al (i.alloc (.cells (g5 ai 5 (Int.toNat 4)) 5)) λs=>ab d i s/\xp s o i q b e p)) (λ(c:U) M=>al (M.drew) λN=>∃V:Nat->Prop,((0:Int)<=20/\
 20<=(c.len:Int))/\gl 134 #[c] N λO P=>∃W:Nat->Prop,ba 126 #[(),.int .u64 (IntKind.wrap .u64 O),(4:Int)] P λR S=>∃T:Int,∃t:J,
 Sem.run ai (Builtin.copy_ #[48,48] 3 #[.slice (aO c.a 1 (Int.toNat 20) c.cap) (c.len-(Int.toNat 20)) (c.cap-(Int.toNat 20)),R]) S=.ok T t/\Q
 (.tuple #[c,(0:Int)]) t))))
def ay.ug:aQ:=(.s .r (.s (.bN (.s (.cV [.r,.r,.r,.r,.split 4]) (.c (.s .r .l) a1))) (.s .r (.s .r (.s .r (.s .r (.s (.eH [(6,.slice)] [] (.cj 9 true ⟨[0,0,0,4,0,16,32,64,128,267,512,2047],[0,0,0,4,0,16,
 32,64,128,267,512,1025]⟩ [17592186044416,35184372088832,70368744177664,140737488355328,281474976710656,562949953421312,1125899906842624,2251799813685248,4503599627370496,9007199254740992,18014398509481984,64] [64,0,8,
 70368744177664,8,281474976710656,562949953421312,1125899906842624,2251799813685248,4697113673859072,9007199254740992,18014398509481984] (.t 0 (.t 2 (.t 3 (.t 4 (.t 5 (.t 6 (.t 7 (.two 1 (.bP 8 (.tail [.r,.r,.r])) 8 (.bP 1 (.tail
 [.r,.r,.r])))))))))))) (.s (.cj 6 true ⟨[0,1,0,4,8,24,34],[0,1,0,4,8,16,34]⟩ [36028797018963968,72057594037927936,144115188075855872,288230376151711744,576460752303423488,1152921504606846976,2305843009213693952] [64,
 36028797018963968,64,144115188075855872,288230376151711744,576460752303423488,1224979098644774912] (.t 0 (.t 1 (.t 2 (.out 3 true (.t 4 (.out 5 false (.tail [.r])))))))) (.s .r .l)))))))))
def af.rF(s:aq ae)(w:J)(Q:aa->J->Prop):Prop:=ak (Option.isNone s) (Q () w) (∃a1:ae,s=some a1/\ag w (a1.add 1) λs2=>ba 135 #[s2] w λa b=>Q a b)
def ay.rF:aQ:=cP
theorem af.Ew(s:aq ae)(w:J)(Q:aa->J->Prop)(h:af.rF s w Q):aP ai 74 #[s] w Q:=okF (λw Q=>af.rF s w Q) ay.rF func74 h
def af.uh(d:aq ae)(i:Int)(b:U)(w:J)(Q:aa->J->Prop):Prop:=aK 108 #[d,i] w λs w1=>ak ((!s)||((b.len:Int) !=256)) (Q (1:Int) w1) (∃a4:ae,
 d=some a4/\aK 136 #[.pointer (some a4),(2:Int)] w1 λt n=>ak t (Q (3:Int) n) (al (n.drew) λe=>∃c:Nat->Prop,∃dT:ae,d=some dT/\¬c (dT.add 5).block/\∃h:aq Nat,e.cell?
 (dT.add 5)=some (.map h)/\∃ez:ae,d=some ez/\¬c (ez.add 5).block/\∃j:aq Nat,e.cell? (ez.add 5)=some (.map j)/\256<=b.len/\∃e8:ae,b.a=some e8/\¬c e8.block/\∃k:O aa,cL e
 e8 0 256=some k/\(∃o:U,∃f:J,Sem.run ai (Instr.lookup 137 (.map j) i false) e=.ok o f/\ab c e f/\∃p:U,∃l:J,Sem.run
 ai (Instr.buildSlice 136 1 #[(0,.agg k.toArray)]) f=.ok p l/\ab c f l/\xm o p l c h i d Q)/\(∃q:U,∃g:J,Sem.run ai (Instr.buildSlice
 136 1 #[(0,.agg k.toArray)]) e=.ok q g/\ab c e g/\∃r:U,∃m:J,Sem.run ai (Instr.lookup 137 (.map j) i false) g=.ok r m/\ab c g m/\xm r q m c h i d Q)))
def ay.uh:aQ:=(.s .r (.s (.bN (.s (.cV [.r,.r,.r,.r,.r,.pure 3]) (.c (.s .r .l) a1))) (.s (.cj 16 true ⟨[0,1,2,4,0,0,32,64,128,0,768,0,2048,4096,8192,17408,65535],[0,1,2,4,0,0,32,64,128,0,
 768,0,2048,4096,8192,17408,32792]⟩ [4194304,8388608,16777216,33554432,67108864,134217728,268435456,536870912,1073741824,2147483648,4294967296,8589934592,17179869184,34359738368,68719476736,137438953472,0] [1,4194304,
 8388608,16777216,2,1,134217728,268435456,536870912,2,3221225472,4,8589934592,17179869184,34359738368,73014444032,137539616768] (.t 0 (.t 1 (.t 2 (.t 3 (.t 4 (.t 5 (.t 6 (.t 7 (.t 8 (.t 9 (.t 11 (.t 12 (.t 13 (.two 10 (.bP 14
 (.bP 15 (.tail [.r]))) 14 (.bP 10 (.bP 15 (.tail [.r])))))))))))))))))) (.s .r (.s .r .l)))))
def af.ui(d:aq ae)(w:J)(Q:aa->J->Prop):Prop:=ak (Option.isNone d) (Q (1:Int) w) (∃a1:ae,d=some a1/\aK 136 #[.pointer (some a1),(3:Int)] w λj ah=>ak j (Q
 (3:Int) ah) (∃a5:ae,d=some a5/\∃g:aq Nat,ah.cell? (a5.add 5)=some (.map g)/\∃ (a:aa) (h:J),Sem.run ai (Instr.range 137 (.map g)) ah=.ok a h/\∃ (c:J->Prop)
 (i:J->Nat),c h/\∀ (b:J),c b->(∃ (k:aa) (l:aa) (e:J),Sem.run ai (Instr.next (a) false 0) b=.ok (.tuple #[true,k,l]) e/\ak true (fu a e d c i b) (xq d e
 Q))\/(∃f:J,Sem.run ai (Instr.next (a) false 0) b=.ok (.tuple #[false]) f/\ak false (fu a f d c i b) (xq d f Q))))
def ay.ui:aQ:=(.s .r (.s (.bN eM) (.s (.s .r (.bN (.loop [] [0,16] (.s .r (.s (.c .l .l) (.bN (.s (.cV [.sZ [(.one (.int .i64)),(.one .any)]]) (.cj 8 true ⟨[0,1,2,4,0,0,0,96,255,511],[0,1,2,4,0,0,0,
 96,24,384]⟩ [2097152,4194304,8388608,16777216,33554432,67108864,134217728,268435456,536870912,0] [1,2097152,4194304,8388608,8,1,8,201326592,50331648,805306368] (.t 0 (.t 1 (.t 2 (.t 3 (.t 4 (.t 5 (.t 6 (.bP 7 (.tail
 [.r,.r]))))))))))))))))) (.s .r (.s .r .l)))))
def af.m3(d:aq ae)(h:Int)(i:Int)(j:Int)(k:Int)(l:Int)(m:Int)(gen:Int)(w:J)(Q:aa->J->Prop):Prop:=al (w.alloc (.cells #[h,i,j,.int .u64 k,.int .u64 l,m] 104)) λw1=>(2:Int)≠0/\al (w1.drew) λah=>∃b:Nat->Prop,¬b ((Y w):ae).block/\r1 ah (Y w) λn=>r1 ah (Addr.add
 (Y w) 1) λn5=>r1 ah ((Y w).add 2) λn6=>bw ah ((Y w).add 3) λn7=>bw ah ((Y w).add 4) λn8=>r1 ah ((Y w).add 5) λn9=>aA 72 #[d] ah λn12 c=>ab b ah c/\ba
 138 #[.agg #[n,n5,n6,.int .u64 n7,.int .u64 n8,n9],n12] c λo e=>∃p:Nat->Prop,∃lF:Array aa,(∀f:J,Sem.run ai (Instr.build 150
 #[(0,.int .i64 3),(1,.int .u64 gen),(2,o)]) f=.ok (.agg lF) f)/\b8 73 #[.int .i64 (av (Int.tmod gen 2)),.agg lF] e λq n22 a=>ab p e a/\ak (n22 !=0) (Q n22
 a) (aA 75 #[d,.int .i64 (av (Int.tmod gen 2)),q] a λn25 g=>ak (n25 !=0) (Q n25 g) (aA 76 #[d] g λn28 r=>Q n28
 r))
def ay.m3:aQ:=(.s .r (.s .r (.s (.cj 12 true ⟨[0,0,0,0,8,20,34,97,128,256,256,1023,4095],[0,0,0,0,8,20,34,65,128,256,256,512,1024]⟩ [32768,65536,131072,262144,524288,1048576,2097152,4194304,
 16384,8388608,16777216,256,512] [128,4,16,1,262144,655360,1114112,2129920,4194304,16384,16384,8388608,16777216] (.t 0 (.t 1 (.t 2 (.t 3 (.bP 4 (.out 5 true (.t 6 (.bP 7 (.t 8 (.t 9 (.t 10 (.t 11 (.tail [.r]))))))))))))))
 (.s a1 hU))))
theorem af.Ex(d:aq ae)(a:Int)(b:Int)(c:Int)(e:Int)(f:Int)(g:Int)(gen:Int)(w:J)(Q:aa->J->Prop)(h:af.m3 d a b c e f g gen w Q):aP ai 77 #[d,.agg #[a,b,c,.int .u64 e,.int .u64 f,g],.int .u64 gen] w Q:=okF (λw Q=>af.m3 d a b c e f g gen w Q) ay.m3 func77 h
set_option maxRecDepth 100000
def af.m4(d:aq ae)(e:Int)(f:Int)(g:Int)(h:Int)(i:Int)(j:Int)(k:Int)(l:Int)(m:Int)(gen:Int)(s:aq ae)(w:J)(Q:aa->J
 ->Prop):Prop:=al (w.alloc (.cells #[e,f,.int .u64 g] 46)) λw1=>al (w1.alloc (.cells #[h,i,j,.int .u64 k,.int .u64 l,
 m] 104)) λah=>r1 ah (Y w) λn=>de 139 #[d,n] ah λc n7 b=>ak (n7 !=0) (Q (.tuple #[.pointer none,n7]) b) (r1 b (Y w1) λn8=>r1 b ((Y w1).add 1)
 λn9=>de 140 #[c,s,.int .u64 (IntKind.wrap .u64 (gen+1)),n8,n9] b λo n13 a=>ak (n13 !=0) (Q (.tuple #[.pointer none,n13]) a) (r1 a (Y w) λn14=>r1 a
 ((Y w).add 1) λn15=>bw a ((Y w).add 2) λn16=>r1 a (Y w1) λn17=>r1 a ((Y w1).add 1) λn18=>r1 a ((Y w1).add 2) λn19=>bw a ((Y w1).add 3) λn20=>bw a ((Y w1).add 4)
 λn21=>r1 a ((Y w1).add 5) λn22=>bw a ((Y w1).add 3) λn23=>r1 a ((Y w1).add 5) λn24=>∃n0:Array aa,Sem.run ai (Instr.build 158 #[(0,o),(1,d),(2,
 c),(3,s),(4,.agg #[n14,n15,.int .u64 n16]),(5,.agg #[n17,n18,n19,.int .u64 n20,.int .u64 n21,n22]),(6,.int .u64 gen),(7,.int .u64 n23),(10,
 n24)]) a=.ok (.agg n0) a/\al (a.alloc (.cells n0 158)) λp=>Q (.tuple #[.pointer (some (Y a)),(0:Int)]) p))
def ay.m4:aQ:=(.s .r (.s .r (.s a1 cP)))
theorem af.Ey(d:aq ae)(a:Int)(b:Int)(c:Int)(e:Int)(f:Int)(g:Int)(i:Int)(j:Int)(k:Int)(gen:Int)(s:aq ae)(w:J)(Q:aa->J->Prop)(h:af.m4 d a b c e f g i j k gen s w Q):aP ai 78 #[d,.agg #[a,b,.int .u64 c],.agg #[e,f,g,.int .u64 i,.int .u64 j,k],.int .u64 gen,s] w Q:=okF (λw Q=>af.m4 d a b c e f g i j k gen s w Q) ay.m4 func78 h
def af.pK(a:U)(w:J)(Q:aa->J->Prop):Prop:=Q (.bool ((decide ((a.len:Int)>=1))&&(decide ((a.len:Int)<=24)))) w
def ay.pK:aQ:=c1
def af.uj(t:aq ae)(key:U)(w:J)(Q:aa->J->Prop):Prop:=bF (λbx:aj->J->Prop=>ak (Option.isNone t) (bx true w) (aK 141 #[key] w λn ah=>bx (!n)
 ah)) (λ(o:aj) f=>ak o (ak (Option.isNone t) (Q (.tuple #[(),false,(1:Int)]) f) (Q (.tuple #[(),false,(0:Int)]) f)) (b8 142 #[t,key] f λc n10 b=>ak ((n10 !=0)||((c.len:Int)==0)) (Q (.tuple #[(),false,n10]) b) (∃dA:ae,c.a=some dA/\((0:Int)<=(av ((c.len:Int)-1))/\(av ((c.len:Int)-1))<
 (c.len:Int))/\bc b ((dA.add ((av ((c.len:Int)-1)).toNat*6)).add 1) λg=>ag b (((dA.add ((av ((c.len:Int)-1)).toNat*6)).add 1).add 1) λh=>ag b (((dA.add ((av ((c.len:Int)-1)).toNat*6)).add
 1).add 2) λi=>ag b (((dA.add ((av ((c.len:Int)-1)).toNat*6)).add 1).add 3) λj=>al (b.alloc cp) λk=>bA k (Y b) [g,h,i,j]/\(4:Nat)=4/\al (setCells k (Y b) 0 [g,h,i,j]) λd=>bc d (Y b) λp=>ag d ((Y b).add 1) λq=>
 ag d ((Y b).add 2) λr=>ag d ((Y b).add 3) λs=>gX 143 #[.agg #[p,q,r,s],key] d
 λn24 u e=>ak (!u) (Q (.tuple #[(),false,(0:Int)]) e) (ag e ((Y b).add 2) λl=>∃m:ae,l.a=some m/\aI n24 l.len/\ag e (m.add (n24.toNat*1)) λv=>Q (.tuple
 #[v,true,(0:Int)]) e))))
def ay.uj:aQ:=(.s .r (.s (.s (.cV [.r,.r,.r,.split 3]) (.c (.s a1 (.s .r .l)) .l)) (.s .r (.s ez (.s .r cP)))))
def af.uk(s:aq ae)(E:Int)(w:J)(Q:aa->J->Prop):Prop:=∃a1:ae,s=some a1/\st w (a1.add 18) true λah=>∃a3:ae,s=some a3/\st ah (a3.add 16) (0:Int) λn=>∃
 a5:ae,s=some a5/\∃o:aq ae,n.cell? (a5.add 3)=some (o)/\aR 144 #[o] n λp=>∃a9:ae,s=some a9/\∃q:aq ae,p.cell? (a9.add 2)=some (q)/\ba
 145 #[q] p λg F=>∃ (h:Int->J->Prop) (r:Int->J->Nat),h 0 F/\∀ (n16:Int) (c:J),h n16 c->ak (decide (n16<(g.len:Int))) (∃e1:ae,g.a=some e1/\aI n16
 g.len/\r1 c (e1.add (n16.toNat*1)) λn19=>∃t:ae,s=some t/\∃v:aq ae,c.cell? (t.add 2)=some (v)/\aK 146 #[v,n19] c λL x=>h (av (n16+
 1)) x/\r (av (n16+1)) x<r n16 c) (bF (λy:J->Prop=>al (c.drew) λb=>∃d:Nat->Prop,∃i:ae,s=some i/\¬d (i.add 2).block/\∃z:aq ae,b.cell? (i.add 2)=some (.pointer
 z)/\∃j:ae,s=some j/\¬d (j.add 3).block/\∃A:aq ae,b.cell? (j.add 3)=some (A)/\∃k:ae,s=some k/\¬d (k.add 13).block/\bw b (k.add 13) λn33=>∃l:ae,s=some
 l/\¬d (l.add 7).block/\r1 b (l.add 7) λn35=>∃m:ae,s=some m/\¬d ((m.add 7).add 1).block/\r1 b ((m.add 7).add 1) λn37=>de 140 #[z,A,.int .u64 (IntKind.wrap .u64 (n33
 +1)),n35,n37] b λG n41 e=>ab d b e/\ak (n41==0) (∃f:ae,s=some f/\(∃u:aa,e.cell? f=some u)/\e.frozen? f=false/\al (e.setCell f (G)) λH=>y
 H) (y e)) (λB=>∃C:ae,s=some C/\r1 B ((C.add 7).add 5) λI=>∃D:ae,s=some D/\st B (D.add 17) I λK=>Q E K))
def ay.uk:aQ:=(.s .r (.s .r (.s .r (.s (.s .r (.bN (.loop [(26,(.int .i64))] [0,1,24,25] a2))) (.s (.eH [] [0,1] (.s (.cj 28 true ⟨[0,1,2,4,0,16,32,64,0,256,512,1024,2048,0,8192,16384,32768,65536,
 0,262144,524288,1048576,2097152,4329608,8388608,16777216,16777216,67108863,268435455],[0,1,2,4,0,16,32,64,0,256,512,1024,2048,0,8192,16384,32768,65536,0,262144,524288,1048576,2097152,4329608,8388608,
 16777216,16777216,33554432,67108864]⟩ [274877906944,549755813888,1099511627776,2199023255552,4398046511104,8796093022208,17592186044416,35184372088832,70368744177664,140737488355328,281474976710656,562949953421312,
 1125899906842624,2251799813685248,4503599627370496,9007199254740992,18014398509481984,36028797018963968,72057594037927936,144115188075855872,288230376151711744,576460752303423488,1152921504606846976,2305843009213693952,
 137438953472,4611686018427387904,9223372036854775808,128,256] [1,274877906944,549755813888,1099511627776,1,4398046511104,8796093022208,17592186044416,1,70368744177664,140737488355328,281474976710656,562949953421312,1,
 2251799813685248,4503599627370496,9007199254740992,18014398509481984,1,72057594037927936,144115188075855872,288230376151711744,576460752303423488,1190113584927997952,2305843009213693952,137438953472,137438953472,
 4611686018427387904,9223372036854775808] (.t 0 (.t 1 (.t 2 (.t 3 (.t 4 (.t 5 (.t 6 (.t 7 (.t 8 (.t 9 (.t 10 (.t 11 (.t 12 (.t 13 (.t 14 (.t 15 (.t 16 (.t 17 (.t 18 (.t 19 (.t 20 (.t 21 (.t 22 (.bP 23 (.t 24 (.t 25 (.t 26 (.t 27 (.tail
 [.r])))))))))))))))))))))))))))))) (.s .r (.c .r .l)))) (.s .r (.s .r .l)))))))
def af.um(s:aq ae)(w:J)(Q:aa->J->Prop):Prop:=∃a1:ae,s=some a1/\∃bt:aq ae,w.cell? a1=some (bt)/\eI 147 #[bt] w λn5 n6 a=>∃dx:ae,s
 =some dx/\∃b:aq ae,a.cell? (dx.add 3)=some (b)/\aA 148 #[b] a λn11 d=>∃n12:Int,∃c:J,Sem.run ai (Builtin.max_ #[3,3] 3 #[.int .i64 (av ((av (n11
 -(av (2*n6))))-4)),(0:Int)]) d=.ok n12 c/\Q n12 c
def ay.um:aQ:=a3
def af.uo(t:aq ae)(key:U)(w:J)(Q:aa->J->Prop):Prop:=bF (λbx:aj->J->Prop=>ak (Option.isNone t) (bx true w) (aK 141 #[key] w λl ah=>bx
 (!l) ah)) (λ(m:aj) f=>ak m (Q (.tuple #[false,(1:Int)]) f) (b8 142 #[t,key] f λb n10 d=>ak ((n10 !=0)||((b.len:Int)==0)) (Q (.tuple #[false,n10]) d) (∃dA:ae,b.a=some dA/\((0:Int)<=(av ((b.len:Int)-1))/\(av ((b.len:Int)-1))<(b.len:Int))/\bc d ((dA.add ((av ((b.len:Int)-1)).toNat*6)).add 1) λn=>ag d (((dA.add ((av
 ((b.len:Int)-1)).toNat*6)).add 1).add 1) λo=>ag d (((dA.add ((av ((b.len:Int)-1)).toNat*6)).add 1).add 2) λp=>ag d (((dA.add ((av ((b.len:Int)-1)).toNat*6)).add 1).add 3) λq=>iG 149
 #[.agg #[n,o,p,q],key] d λg h i j r c=>al (c.alloc cp) λk=>bA k (Y c) [g,
 h,i,j]/\(4:Nat)=4/\al (setCells k (Y c) 0 [g,h,i,j])
 λe=>ak (!r) (Q (.tuple #[false,(0:Int)]) e) (bc e (Y c) λs=>ag e ((Y c).add 1) λu=>ag e ((Y c).add 2) λv=>ag e ((Y c).add 3) λx=>aA 150
 #[t,b,.agg #[s,u,v,x]] e λn31 y=>Q (.tuple #[.bool (n31==0),n31]) y))))
def ay.uo:aQ:=(.s .r (.s dA (.s .r (.s ez (.s .r fB)))))
def af.uq(s:aq ae)(keys:Int)(w:J)(Q:aa->J->Prop):Prop:=∃a1:ae,s=some a1/\r1 w (a1.add 17) λbp=>∃a3:ae,s=some a3/\st w (a3.add 17) (.int .i64 (av (bp+keys))) λa=>
 bF (λc:J->Prop=>∃c1:ae,s=some c1/\r1 a (c1.add 16) λn7=>ak (n7==0) (∃c2:ae,s=some c2/\bw a (c2.add 14) λn9=>∃dT:ae,s=some dT/\st a (dT.add 15) (.int .u64 n9) λf=>c f) (c
 a)) (λd=>∃cP:ae,s=some cP/\r1 d (cP.add 16) λn14=>∃eM:ae,s=some eM/\st d (eM.add 16) (.int .i64 (av (n14+1))) λg=>al (g.drew) λb=>∃e1:ae,s=some e1/\¬False/\r1 b
 (e1.add 16) λn19=>∃e:ae,s=some e/\¬False/\r1 b ((e.add 4).add 1) λn21=>ak (decide (n19>=n21)) (aA 94 #[s] b λn24 h=>Q n24 h) (Q (0:Int) b))
def ay.uq:aQ:=(.s .r (.s .r (.s (.eH [] [0] (.s .r (.c .r .l))) (.s .r (.s (.s (.cj 9 false ⟨[0,1,2,4,0,16,32,64,128,264],[0,1,2,4,0,16,32,64,128,264]⟩ [4294967296,8589934592,17179869184,34359738368,
 68719476736,137438953472,274877906944,549755813888,1099511627776,2199023255552] [1,4294967296,8589934592,17179869184,1,68719476736,137438953472,274877906944,549755813888,1133871366144] (.t 0 (.t 1 (.t 2 (.t 3 (.t 4 (.t 5 (.t 6
 (.t 7 (.t 8 (.tail [.r]))))))))))) (.c (.s .r .l) .l)) (.s .r .l))))))
def af.ur(t:aq ae)(key:U)(val:U)(w:J)(Q:aa->J->Prop):Prop:=bF (λbx:aj->J->Prop=>ak (Option.isNone t) (bx true w) (aK 141 #[key] w λv ah
 =>bx (!v) ah)) (λ(x:aj) l=>ak (x||(decide ((val.len:Int)>24))) (Q (1:Int) l) (al (l.drew) λi=>∃j:Nat->Prop,∃a9:ae,t=some a9/\¬j (a9.add 1).block/\∃m:aq ae,i.cell? (a9.add 1)=
 some (m)/\∃dA:ae,t=some dA/\¬j (dA.add 4).block/\r1 i (dA.add 4) λn12=>aA 148 #[m] i λn15 k=>ab j i k/\ak (decide (n15<(av ((av (2*n12))+3)))) (Q (2:Int)
 k) (b8 142 #[t,key] k λb n19 c=>ak (n19 !=0) (Q n19 c) (al (c.alloc cp) λn=>bA n (Y c) [true,(),(),()]/\(4:Nat)=4/\al (setCells n (Y c) 0 [true,(),(),()]) λe=>bF (λo:J->Prop=>ak (decide ((b.len:Int)>0)) (∃g:ae,b.a=some g/\((0:Int)<=(av
 ((b.len:Int)-1))/\(av ((b.len:Int)-1))<(b.len:Int))/\bc e ((g.add ((av ((b.len:Int)-1)).toNat*6)).add 1) λy=>ag e (((g.add ((av ((b.len:Int)-1)).toNat*6)).add 1).add 1) λz=>ag e
 (((g.add ((av ((b.len:Int)-1)).toNat*6)).add 1).add 2) λA=>ag e (((g.add ((av ((b.len:Int)-1)).toNat*6)).add 1).add 3) λB=>rz e c y z A B o) (o e)) (λh=>bc h (Y c) λ
 C=>ag h ((Y c).add 1) λD=>ag h ((Y c).add 2) λE=>ag h ((Y c).add 3) λF=>iG 151 #[.agg #[C,D,E,F],key,val] h λp q r s G d=>al (d.alloc cp) λu=>bA u (Y d) [p,q,r,
 s]/\(4:Nat)=4/\al (setCells u (Y d) 0 [p,q,r,s]) λf=>ak (!G) (Q (4:Int) f) (bc f (Y d)
 λH=>ag f ((Y d).add 1) λI=>ag f ((Y d).add 2) λK=>ag f ((Y d).add 3) λL=>aA 150 #[t,b,.agg #[H,I,K,L]] f λM N=>Q M N))))))
def ay.ur:aQ:=(.s .r (.s (.bN (.s (.cV [.r,.r,.r,.split 3,.r,.r,.r,.r,.pure 3]) (.c (.s .r .l) (.s (.cj 11 true ⟨[0,1,2,4,8,0,32,64,128,256,512,1040,2064],[0,1,2,4,8,0,32,64,128,256,512,1040,
 2048]⟩ [67108864,134217728,268435456,536870912,1073741824,2147483648,4294967296,8589934592,17179869184,34359738368,68719476736,137438953472,33554432] [1,67108864,134217728,268435456,536870912,1,2147483648,4294967296,
 8589934592,17179869184,34359738368,69793218560,137438953472] (.t 0 (.t 1 (.t 2 (.t 3 (.t 5 (.t 6 (.t 7 (.t 8 (.t 9 (.t 10 (.bP 4 (.tail [.r,.r]))))))))))))) (.c (.s .r .l) .l))))) (.s .r (.s a1 (.s .r (.s (.eH [] [0,1,2,7,9] (.s
 .r (.c .r .l))) cP))))))
def af.uu(s:aq ae)(keys:Int)(w:J)(Q:aa->J->Prop):Prop:=∃a1:ae,s=some a1/\∃bt:aq ae,w.cell? a1=some (bt)/\pE 152 #[bt] w λh n6 n7 a
 =>ak (n7==3) (Q n7 a) (∃c2:ae,s=some c2/\r1 a ((c2.add 7).add 2) λn9=>al (a.alloc (.cells #[(0:Int),(1:Int),n9] 3)) λi=>∃b:U,∃d:J,Sem.run ai
 (Builtin.append_ #[58,58] 58 #[h,.slice (some (Y a)) 3 3]) i=.ok b d/\aR 153 #[b] d λc=>bF (λ
 e:aj->J->Prop=>ak ((n7 !=0)||(n6 !=keys)) (e true c) (∃fB:ae,s=some fB/\∃f:aq ae,c.cell? (fB.add 3)=some (f)/\ba 155 #[f] c λj k=>aK
 154 #[b,j] k λl m=>e (!l) m)) (λ(n:aj) g=>ak n (Q (4:Int) g) (Q (0:Int) g)))
def ay.uu:aQ:=(.s .r (.s .r (.s a1 (.s .r (.s .r (.s (.s (.cV [.r,.r,.r,.pure 3,.r,.r,.r,.r,.split 8]) (.c (.s .r .l) .l)) (.s .r .l)))))))
def af.uv(parts:U)(w:J)(Q:aa->J->Prop):Prop:=∃ (e:U->Int->J->Prop) (h:U->Int->J->Nat),e ⟨none,0,0⟩ 0 w/\∀ (d:U) (b:Int) (c:J),e d b c->ak (decide (b<
 (parts.len:Int))) (∃c1:ae,parts.a=some c1/\aI b parts.len/\ag c (c1.add (b.toNat*1)) λi=>∃f:U,∃g:J,Sem.run ai (Builtin.append_ #[48,48] 48 #[d,i]) c=.ok f g/\e f (av (b+1)) g/\h f (av (b+1)) g<h d b c) (Q d c)
def ay.uv:aQ:=(.s .r (.s .r (.s (.s .r (.bN (.loop [(3,.slice),(8,(.int .i64))] [6,7] a2))) (.s .r .l))))
def af.uw(s:aq ae)(w:J)(Q:aa->J->Prop):Prop:=∃a1:ae,s=some a1/\∃bt:aq ae,w.cell? (a1.add 3)=some (bt)/\eI 160 #[bt] w λn5 n6 y=>
 ak (n6 !=0) (aA 81 #[s,n6] y λn9 am=>Q n9 am) (al (y.drew) λi=>∃dA:ae,s=some dA/\¬False/\∃z:aq ae,i.cell? (dA.add 3)=some (z)/\∃cP:
 ae,s=some cP/\¬False/\r1 i ((cP.add 7).add 2) λn14=>aA 161 #[z,n14] i λn17 an=>al (an.drew) λd=>∃e:Nat->Prop,∃j:ae,s=some j/\¬e (j.add 13).block
 /\bw d (j.add 13) λn21=>∃k:ae,s=some k/\¬e (k.add 3).block/\∃A:aq ae,d.cell? (k.add 3)=some (A)/\ba 74 #[A] d λao l=>ab e d l/\∃pG:
 Array aa,(∀B:J,Sem.run ai (Instr.build 150 #[(0,.int .i64 4),(1,.int .u64 (IntKind.wrap .u64 (n21+1))),(2,ao)]) B=.ok (.agg pG) B)/\b8 73 #[n5,.agg
 pG] l λap n32 f=>ab e l f/\ak (n32 !=0) (aA 81 #[s,n32] f λn35 ar=>Q n35 ar) (∃C:ae,s=some C/\∃D:aq ae,f.cell? (C.add 2)=some
 (D)/\aA 162 #[D,n5,ap] f λn40 m=>ak (n40 !=0) (aA 81 #[s,n40] m λau av=>Q au av) (∃E:ae,
 s=some E/\∃F:aq ae,m.cell? (E.add 2)=some (F)/\aA 163 #[F] m λG n=>ak (G !=0) (aA 81 #[s,G] n λaw ax=>Q aw ax) (∃H:ae,s=some H/\∃I:aq ae,n.cell? H=some (I)/\eI 147 #[I] n λay az aB=>al (aB.drew) λa=>∃g:Nat->Prop,∃o:ae,s=some o/\¬g
 (o.add 14).block/\bw a (o.add 14) λaC=>∃p:ae,s=some p/\¬g ((p.add 7).add 4).block/\bw a ((p.add 7).add 4) λaD=>∃q:ae,s=some q/\¬g (q.add 17).block/\r1 a (q.add 17) λaE=>
 ∃h:Array aa,(∀K:J,Sem.run ai (Instr.build 104 #[(0,ay),(1,az),(2,n5),(3,.int .u64 aC),(4,.int .u64 (IntKind.wrap .u64 (aD+1))),(5,aE)]) K=.ok
 (.agg h) K)/\al (a.alloc g7) λr=>ab g a r/\bA r (Y a) (Array.toList h)/\Array.size h=6/\al (setCells r (Y a) 0 (Array.toList h)) λaF=>al (aF.drew) λb=>∃L:ae,s=some L/\
 ¬False/\∃M:aq ae,b.cell? (L.add 1)=some (M)/\¬False/\r1 b (Y a) λaG=>r1 b ((Y a).add 1) λaH=>r1 b ((Y a).add 2) λaI=>bw b ((Y a).add 3) λaJ=>bw b
 ((Y a).add 4) λaK=>r1 b ((Y a).add 5) λaL=>∃N:ae,s=some N/\¬False/\bw b (N.add 13) λaM=>aA 77 #[M,.agg #[aG,aH,aI,.int .u64
 aJ,.int .u64 aK,aL],.int .u64 (IntKind.wrap .u64 (aM+1))] b λO t=>ak (O !=0) (aA 81 #[s,O] t λaN aO=>Q aN aO) (∃P:ae,s=some P/\∃R
 :aq ae,t.cell? (P.add 3)=some (R)/\aR 131 #[R] t λaP=>al (aP.drew) λc=>∃S:Nat->Prop,¬S ((Y a):ae).block/\r1 c (Y a) λT=>r1 c ((Y
 a).add 1) λU=>r1 c ((Y a).add 2) λV=>bw c ((Y a).add 3) λW=>bw c ((Y a).add 4) λX=>r1 c ((Y a).add 5) λZ=>∃u:ae,s=some u/\¬S (u.add 13).block/\bw
 c (u.add 13) λaQ=>∃v:ae,s=some v/\bA c (v.add 7) [T,U,V,.int .u64 W,.int .u64 X,Z]/\(6:Nat)=6/\al (setCells c (v.add 7) 0 [T,U,V,.int .u64 W,.int .u64 X,Z]) λaS=>∃ac:ae,s=some ac/\st aS (ac.add 13) (.int .u64 (IntKind.wrap .u64 (aQ+1))) λaT=>∃ad:ae,s=some ad/\st aT
 (ad.add 16) (0:Int) λaU=>al (aU.drew) λx=>∃ag:ae,s=some ag/\¬False/\∃ah:aq ae,x.cell? ag=some (ah)/\∃aj:ae,s=some aj/\¬False/\bw x (aj.add 13) λ
 aV=>aR 164 #[ah,.int .u64 (IntKind.wrap .u64 (aV+1))] x λaW=>Q (0:Int) aW)))))
def ay.uw:aQ:=(.s .r (.s .r (.s a1 (.s (.cj 9 false ⟨[0,1,2,4,0,16,32,64,128,264],[0,1,2,4,0,16,32,64,128,264]⟩ [33554432,67108864,134217728,268435456,536870912,1073741824,2147483648,
 4294967296,8589934592,17179869184] [1,33554432,67108864,134217728,1,536870912,1073741824,2147483648,4294967296,8858370048] (.t 0 (.t 1 (.t 2 (.t 3 (.t 4 (.t 5 (.t 6 (.t 7 (.t 8 (.tail [.r]))))))))))) (.s (.cj 17 true ⟨[0,0,2,
 4,8,16,0,64,128,256,512,1056,3073,4096,8192,8192,32767,131071],[0,0,2,4,8,16,0,64,128,256,512,1056,2049,4096,8192,8192,16384,32768]⟩ [68719476736,137438953472,274877906944,549755813888,1099511627776,
 2199023255552,4398046511104,8796093022208,17592186044416,35184372088832,70368744177664,140737488355328,281474976710656,34359738368,562949953421312,1125899906842624,32,16] [8,1,137438953472,274877906944,549755813888,
 1099511627776,1,4398046511104,8796093022208,17592186044416,35184372088832,72567767433216,140806207832064,281474976710656,34359738368,34359738368,562949953421312,1125899906842624] (.t 0 (.t 1 (.t 2 (.t 3 (.t 4 (.t 5 (.t 6 (.t 7
 (.t 8 (.t 9 (.bP 10 (.t 11 (.bP 12 (.t 13 (.t 14 (.t 15 (.t 16 (.tail [.r]))))))))))))))))))) (.s a1 (.s (.s .r a1) (.s (.s .r a1) (.s .r (.s (.cj 19 true ⟨[0,0,0,0,8,16,32,0,128,256,512,1024,2048,0,8192,16384,32768,
 69703,0,524287],[0,0,0,0,8,16,32,0,128,256,512,1024,2048,0,8192,16384,32768,69703,0,393216]⟩ [77371252455336267181195264,154742504910672534362390528,309485009821345068724781056,618970019642690137449562112,
 1237940039285380274899124224,2475880078570760549798248448,4951760157141521099596496896,9903520314283042199192993792,19807040628566084398385987584,39614081257132168796771975168,79228162514264337593543950336,
 158456325028528675187087900672,316912650057057350374175801344,633825300114114700748351602688,1267650600228229401496703205376,2535301200456458802993406410752,5070602400912917605986812821504,10141204801825835211973625643008,1024,0]
 [256,512,8,1,618970019642690137449562112,1237940039285380274899124224,2475880078570760549798248448,1,9903520314283042199192993792,19807040628566084398385987584,39614081257132168796771975168,79228162514264337593543950336,
 158456325028528675187087900672,1,633825300114114700748351602688,1267650600228229401496703205376,2535301200456458802993406410752,5393008409894303831330853486592,0,10141204801825835211973625644032] (.t 0 (.t 1 (.t 2 (.t 3 (.t 4 (.t 5
 (.t 6 (.t 7 (.t 8 (.t 9 (.t 10 (.t 11 (.t 12 (.t 13 (.t 14 (.t 15 (.t 16 (.t 17 (.bP 18 (.tail [.r]))))))))))))))))))))) (.s (.s (.cj 10 false ⟨[0,1,2,4,0,0,32,64,128,256,536,2047],[0,1,2,4,0,0,32,64,128,256,536,
 1024]⟩ [20282409603651670423947251286016,40564819207303340847894502572032,81129638414606681695789005144064,162259276829213363391578010288128,324518553658426726783156020576256,649037107316853453566312041152512,
 1298074214633706907132624082305024,2596148429267413814265248164610048,5192296858534827628530496329220096,10384593717069655257060992658440192,20769187434139310514121985316880384,2048] [1,20282409603651670423947251286016,
 40564819207303340847894502572032,81129638414606681695789005144064,1024,1,649037107316853453566312041152512,1298074214633706907132624082305024,2596148429267413814265248164610048,5192296858534827628530496329220096,
 10871371547557295347235726689304576,20769187434139310514121985316880384] (.t 0 (.t 1 (.t 2 (.t 3 (.t 4 (.t 5 (.t 6 (.t 7 (.t 8 (.t 9 (.tail [.r,.r])))))))))))) a1) (.s .r (.s (.cj 15 true ⟨[0,0,0,0,0,16,32,64,128,137,649,1161,
 4091,8187,12283,32767,65535,98303],[0,0,0,0,0,16,32,64,128,1,512,1032,2,4096,8448,4,32768,65536]⟩ [42535295865117307932921825928971026432,85070591730234615865843651857942052864,
 170141183460469231731687303715884105728,340282366920938463463374607431768211456,680564733841876926926749214863536422912,1361129467683753853853498429727072845824,2722258935367507707706996859454145691648,
 5444517870735015415413993718908291383296,10889035741470030830827987437816582766592,21778071482940061661655974875633165533184,43556142965880123323311949751266331066368,0,87112285931760246646623899502532662132736,
 174224571863520493293247799005065324265472,0,348449143727040986586495598010130648530944,696898287454081973172991196020261297061888,0] [1,1,1,1024,1,680564733841876926926749214863536422912,1361129467683753853853498429727072845824,
 2722258935367507707706996859454145691648,5444517870735015415413993718908291383296,42535295865117307932921825928971026432,21778071482940061661655974875633165533184,43896425332801061786775324358698099277824,
 85070591730234615865843651857942052864,87112285931760246646623899502532662132736,185113607604990524124075786442881907032064,170141183460469231731687303715884105728,348449143727040986586495598010130648530944,
 696898287454081973172991196020261297061888] (.t 0 (.t 1 (.t 2 (.t 3 (.t 4 (.t 5 (.t 6 (.t 7 (.t 8 (.t 9 (.t 10 (.out 11 false (.t 12 (.t 13 (.out 14 false (.tail [.r,.r,.r]))))))))))))))))) (.s (.cj 9 false ⟨[0,1,2,4,0,16,32,64,
 128,264],[0,1,2,4,0,16,32,64,128,264]⟩ [1393796574908163946345982392040522594123776,2787593149816327892691964784081045188247552,5575186299632655785383929568162090376495104,11150372599265311570767859136324180752990208,
 22300745198530623141535718272648361505980416,44601490397061246283071436545296723011960832,89202980794122492566142873090593446023921664,178405961588244985132285746181186892047843328,356811923176489970264571492362373784095686656,
 713623846352979940529142984724747568191373312] [1,1393796574908163946345982392040522594123776,2787593149816327892691964784081045188247552,5575186299632655785383929568162090376495104,1,22300745198530623141535718272648361505980416,
 44601490397061246283071436545296723011960832,89202980794122492566142873090593446023921664,178405961588244985132285746181186892047843328,367962295775755281835339351498697964848676864] (.t 0 (.t 1 (.t 2 (.t 3 (.t 4 (.t 5 (.t 6 (.t 7 (.t 8
 (.tail [.r]))))))))))) (.s .r .l)))))))))))))))
def af.ux(d:aq ae)(i:Int)(w:J)(Q:aa->J->Prop):Prop:=bF (λbx:aj->J->Prop=>ak ((!(Option.isNone d))&&(decide (i>=0))) (∃a2:ae,d=some a2/\ag w (a2.add 4) λa=>bx
 (decide (i<(a.len:Int))) w) (bx false w)) (λ(b:aj) c=>Q b c)
def ay.ux:aQ:=a9
def af.pL(d:aq ae)(w:J)(Q:aa->J->Prop):Prop:=al (w.alloc g7) λw1=>∃ (j:Int->aj->Int->J->Prop) (l:Int->aj->Int->J->Nat),j 0 false 0 w1/\∀ (h:Int) (i:aj) (n6:
 Int) (a:J),j h i n6 a->ak (decide (n6<2)) (bF (λk:Int->aj->J->Prop=>b8 114 #[d,n6] a λm n12 n=>ak (n12 !=0) (xk n w Q n12) (aK 169
 #[m,.func (.func 170) #[] #[]] n λV o=>ak (!V) (k h i o) (Ay 171 #[n6,m] o λn31 n32 n33 n34 n35 n36 n37 n38 n39 c=>al
 (c.alloc g7) λp=>bA p (Y c) [n31,n32,n33,.int .u64 n34,.int .u64 n35,n36]/\(6:Nat)=6/\al (setCells p (Y c) 0 [n31,n32,n33,.int .u64
 n34,.int .u64 n35,n36]) λq=>ak (n39 !=0) (xk q w Q n39) (aA 72 #[d] q λW b=>ak (n37 !=W) (r1 b (Y w) λr=>r1 b ((Y w).add 1) λs=>r1 b ((Y w).add 2)
 λt=>bw b ((Y w).add 3) λu=>bw b ((Y w).add 4) λv=>r1 b ((Y w).add 5) λx=>bA b (Y w) [r,s,t,.int .u64 u,.int .u64 v,x]/\(6
 :Nat)=6/\al (setCells b (Y w) 0 [r,s,t,.int .u64 u,.int .u64 v,x]) λe=>r1 e (Y w) λX=>r1 e ((Y w).add 1) λZ=>r1 e ((Y w).add 2) λab
 =>bw e ((Y w).add 3) λac=>bw e ((Y w).add 4) λad=>r1 e ((Y w).add 5) λag=>Q (.tuple #[.agg #[X,Z,ab,.int .u64 ac,.int .u64 ad,ag],.int .u64 0,
 .int .i64 4]) e) (ak ((!i)||(decide (n38>h))) (r1 b (Y c) λy=>r1 b ((Y c).add 1) λz=>r1 b ((Y c).add 2) λA=>bw b ((Y c).add 3) λB=>bw b ((Y c).add 4) λC
 =>r1 b ((Y c).add 5) λD=>bA b (Y w) [y,z,A,.int .u64 B,.int .u64 C,D]/\(6:Nat)=6/\al (setCells b (Y w) 0 [y,z,A,.int .u64 B,.int .u64 C,D]) λah=>k n38 true ah) (k h i b)))))) (λ(E:Int) (F:aj) G=>j E F (av (n6+1)) G/\l E F (av (n6+1)) G<l h i n6 a)) (ak (!i) (r1 a (Y w)
 λH=>r1 a ((Y w).add 1) λI=>r1 a ((Y w).add 2) λK=>bw a ((Y w).add 3) λL=>bw a ((Y w).add 4) λM=>r1 a ((Y w).add 5) λN=>bA a (Y w) [H,I,K,.int .u64 L,.int .u64 M,N]/\(6:Nat)=6/\al (setCells a (Y w) 0 [H,I,K,.int .u64 L,.int .u64 M,N]) λf=>r1 f (Y w) λai=>r1
 f ((Y w).add 1) λam=>r1 f ((Y w).add 2) λan=>bw f ((Y w).add 3) λao=>bw f ((Y w).add 4) λap=>r1 f ((Y w).add 5) λar=>Q (.tuple #[.agg #[ai,am,an,.int .u64 ao,.int .u64 ap,ar],.int .u64 0,(6:Int)]) f) (r1 a (Y w) λO=>r1 a ((Y w).add 1) λP=>r1 a ((Y w).add 2) λR=>bw a ((Y w).add 3) λS=>bw a (Addr.add
 (Y w) 4) λT=>r1 a ((Y w).add 5) λU=>bA a (Y w) [O,P,R,.int .u64 S,.int .u64 T,U]/\(6:Nat)=6/\al (setCells a (Y w) 0 [O,P,
 R,.int .u64 S,.int .u64 T,U]) λg=>r1 g (Y w) λau=>r1 g ((Y w).add 1) λaw=>r1 g ((Y w).add 2) λax=>bw g ((Y w).add 3) λay=>bw g (Addr.add
 (Y w) 4) λaz=>r1 g ((Y w).add 5) λaB=>Q (.tuple #[.agg #[au,aw,ax,.int .u64 ay,.int .u64 az,aB],.int .u64 h,(0:Int)]) g))
def ay.pL:aQ:=(.s .r (.s .r (.s (.s .r (.bN (.loop [(3,(.int .u64)),(5,.bool),(12,(.int .i64))] [0,2] (.s .r (.s (.c .l .l) (.s (.eH [(3,(.int .u64)),(5,.bool)] [0,2,12] (.bN (.s .r (.s .r (.s a1 (.s (.s .r (.c .l
 .l)) (.s .r (.bN (.s .r (.c (.s .r .l) (.s .r (.c (.s .r .l) (.s (.cV [.r,.r,.r,.pure 3]) (.c .r .l)))))))))))))) .r)))))) (.s a1 (.s .r .l)))))
def af.pM(d:aq ae)(no:Int)(w:J)(Q:aa->J->Prop):Prop:=b8 114 #[d,no] w λj e w1=>ak (e !=0) (Q (.tuple #[.pointer none,e]) w1) (lF
 172 #[no,j] w1 λn7 n8 f n10 a=>al (a.alloc z3) λg=>bA g (Y a) [n7,.int .u64 n8,f]/\(3:Nat)=3/\al (setCells g (Y a) 0 [n7,.int .u64 n8,f]) λb=>ak (n10 !=0) (Q (.tuple #[.pointer none,n10]) b) (r1 b (Y a) λn13=>ak (n13 !=4) (Q (.tuple #[.pointer none,(4:Int)]) b) (al (b.drew) λc=>∃
 h:Nat->Prop,¬h ((Y a).add 2).block/\ag c ((Y a).add 2) λk=>aA 72 #[d] c λn19 i=>ab h c i/\de 173 #[k,n19] i λl
 n23 m=>Q (.tuple #[l,n23]) m)))
def ay.pM:aQ:=(.s .r (.s .r (.s a1 (.s .r (.s a1 (.s a1 (.s (.cj 7 true ⟨[0,1,0,4,10,16,16,127,255],[0,1,0,4,10,16,16,32,64]⟩ [1073741824,2147483648,4294967296,8589934592,17179869184,34359738368,
 68719476736,16,32] [256,1073741824,1,4294967296,10737418240,17179869184,17179869184,34359738368,68719476736] (.t 0 (.t 1 (.t 2 (.bP 3 (.out 4 false (.t 5 (.t 6 (.tail [.r,.r]))))))))) .l)))))))
def af.uy(t:aq ae)(g:U)(to:U)(most:Int)(w:J)(Q:aa->J->Prop):Prop:=al (w.alloc (.cells #[g] 48)) λw1=>al (w1.alloc (.cells #[to] 48)) λah=>al (ah.alloc (.cells #[most] 3)) λb=>ak (Option.isNone t) (Q (.tuple #[(),(1:Int)]) b) (∃a4:ae,t=some a4/\r1 b (a4.add 4) λn5=>bF (λf:
 aj->J->Prop=>ak (n5==0) (f true b) (r1 b (Y ah) λn7=>f (decide (n7<1)) b)) (λ(h:aj) c=>ak h (Q (.tuple #[(),(0:Int)]) c) (al (c.alloc (.cells #[()] 86)) λ
 i=>al (i.drew) λa=>∃d:Nat->Prop,∃cP:ae,t=some cP/\¬d (cP.add 3).block/\r1 a (cP.add 3) λn14=>∃eM:ae,t=some eM/\¬d (eM.add 4).block/\r1 a (eM.add 4) λn16=>¬d ((Y w):
 ae).block/\ag a (Y w) λj=>ab d a a/\k2 174 #[t,n14,n16,j,.func (.func 175) #[] #[.pointer (some (Y w1)),.pointer (some (Y w)),
 .pointer (some (Y c)),.pointer (some (Y ah))]] a λl n21 e=>ak (n21 !=0) (Q (.tuple #[(),n21]) e) (ag e (Y c) λk=>Q (.tuple #[k,(0:Int)]) e))))
def ay.uy:aQ:=(.s .r (.s a1 (.s (.s (.cV [.r,.r,.r,.r,.r,.r,.split 2]) (.c (.s .r .l) .l)) (.s .r (.s (.cj 16 true ⟨[0,0,2,4,8,0,32,64,128,0,0,1809,2048,4096,4096,16383,65535],[0,0,2,4,8,0,32,
 64,128,0,0,1809,2048,4096,4096,8192,16384]⟩ [33554432,67108864,134217728,268435456,536870912,1073741824,2147483648,4294967296,8589934592,17179869184,34359738368,68719476736,16777216,137438953472,274877906944,2048,
 4096] [1,1,67108864,134217728,268435456,1,1073741824,2147483648,4294967296,32,1248,60699967488,68719476736,16777216,16777216,137438953472,274877906944] (.t 0 (.t 1 (.t 2 (.t 3 (.t 4 (.t 5 (.t 6 (.t 7 (.t 8 (.t 9 (.bP 10
 (.out 11 false (.t 12 (.t 13 (.t 14 (.t 15 (.tail [.r])))))))))))))))))) (.s a1 (.s .r .l)))))))
def af.uz(d:aq ae)(w:J)(Q:aa->J->Prop):Prop:=∃a1:ae,d=some a1/\∃b:aq Nat,w.cell? (a1.add 5)=some (.map b)/\mg 178 #[.map
 b] w λa c=>ba 177 #[.func (.func a.f) a.pre a.cap] c λe g=>Q e g
def ay.uz:aQ:=(.s .r (.s .r .l))
def af.uA(d:aq ae)(i:Int)(w:J)(Q:aa->J->Prop):Prop:=aK 108 #[d,i] w λe w1=>ak (!e) (Q (.tuple #[(),(1:Int)]) w1) (∃a4:ae,d=some
 a4/\aK 136 #[.pointer (some a4),(1:Int)] w1 λf b=>ak f (Q (.tuple #[(),(3:Int)]) b) (tx 137 #[d,i] b λgl a=>al (a.alloc z4) λc=>bA c (Y
 a) (Array.toList gl)/\Array.size gl=256/\al (setCells c (Y a) 0 (Array.toList gl)) λg=>Q (.tuple #[.slice (aO (some (Y a)) 1 0 256) (256-0) (256-0),(0:Int)]) g))
def ay.uA:aQ:=(.s .r (.s (.bN eM) (.s .r (.s .r .l))))
def af.ik(b:U)(n:Int)(size:Int)(w:J)(Q:aa->J->Prop):Prop:=ba 135 #[b] w λg w1=>aK 192 #[size] w1 λj h=>ak (!j) (Q g h) (∃ (d:U->Int->J->Prop) (i:U->Int->J->Nat),d g (av (size-1)) h/\∀ (c:U) (n10:Int) (a:J),d c n10 a->ak (decide (n10>=0)) ((0:Int)<=(av (8*n10))/\al (a.alloc (.cells
 #[.int .u8 (IntKind.wrap .u8 (Int.fdiv n (2^(min ((av (8*n10)).toNat) 64))))] 5)) λk=>∃e:U,∃f:J,Sem.run ai (Builtin.append_ #[48,48] 48 #[c,
 .slice (some (Y a)) 1 1]) k=.ok e f/\d e (av (n10-1)) f/\i e (av (n10-1)) f<i c n10 a) (Q c a))
def ay.ik:aQ:=(.s .r (.s .r (.s a1 (.s (.s .r (.bN (.loop [(7,.slice),(8,(.int .i64))] [1] (.s (.s .r (.c .l .l)) (.s (.bN .r) .r))))) (.s .r .l)))))
def af.uB(n:Int)(w:J)(Q:aa->J->Prop):Prop:=Q (.bool ((decide (n>=1))&&(decide (n<=1600)))) w
def ay.uB:aQ:=(.s .r a4)
def af.uC(n:Int)(w:J)(Q:aa->J->Prop):Prop:=(8:Int)≠0/\Q (.int .i64 (av (Int.tdiv (av ((av (n+8))-1)) 8))) w
def ay.uC:aQ:=(.s .r (.s .r .l))
def af.uD(s:U)(no:Int)(w:J)(Q:aa->J->Prop):Prop:=al (w.drew) λw1=>(8:Int)≠0/\∃a2:ae,s.a=some a2/\aI (av (Int.tdiv no 8)) s.len/\¬False/\bX w1 (a2.add ((av (Int.tdiv no
 8)).toNat*1)) λb=>(8:Int)≠0/\(0:Int)<=(Int.tmod no 8)/\∃a4:ae,s.a=some a4/\aI (av (Int.tdiv no 8)) s.len/\st w1 (a4.add ((av (Int.tdiv no 8)).toNat*1)) (.int .u8 (mT .u8 b (IntKind.wrap .u8 (1*2^(min
 ((Int.tmod no 8).toNat) 8))))) λc=>Q (.tuple #[]) c
def ay.uD:aQ:=(.cj 8 false ⟨[0,0,2,5,8,0,32,64,144,511,1023],[0,0,2,5,8,0,32,64,144,5,768]⟩ [16,32,64,128,256,512,1024,2048,4096,8192,0] [1,2,32,80,128,2,512,1024,2304,80,12288] (.t 0
 (.t 1 (.t 2 (.t 3 (.t 4 (.t 5 (.t 6 (.t 7 (.tail [.r,.r,.r]))))))))))
def af.rG(s:aq ae)(w:J)(Q:aa->J->Prop):Prop:=ak (!(Option.isNone s)) (∃a1:ae,s=some a1/\ag w (a1.add 1) λs2=>ba 194 #[s2] w λa
 b=>∃c1:ae,s=some c1/\st b (c1.add 2) a λc=>Q (.tuple #[]) c) (Q (.tuple #[]) w)
def ay.rG:aQ:=(.s .r (.c .r .l))
theorem af.Ez(s:aq ae)(w:J)(Q:aa->J->Prop)(h:af.rG s w Q):aP ai 131 #[s] w Q:=okF (λw Q=>af.rG s w Q) ay.rG func131 h
def af.uE(no:Int)(w:J)(Q:aa->J->Prop):Prop:=Q (.bool ((decide (no>=0))&&(decide (no<1600)))) w
def ay.uE:aQ:=(.s .r a4)
theorem af.AB(no:Int)(w:J)(Q:aa->J->Prop)(h:af.uE no w Q):aP ai 132 #[no] w Q:=okF (λw Q=>af.uE no w Q) ay.uE func132 h
def af.uF(a:Int)(w:J)(Q:aa->J->Prop):Prop:=Q (.bool ((decide (a>=1))&&(decide (a<=4)))) w
def ay.uF:aQ:=(.s .r a4)
theorem af.AD(a:Int)(w:J)(Q:aa->J->Prop)(h:af.uF a w Q):aP ai 133 #[a] w Q:=okF (λw Q=>af.uF a w Q) ay.uF func133 h
def af.ob(b:U)(w:J)(Q:aa->J->Prop):Prop:=al (w.drew) λw1=>((0:Int)<=20/\20<=(b.cap:Int))/\((0:Int)<=24/\24<=(b.len:Int))/\al (w1.alloc (.cells #[.slice (aO b.a 1 0 b.cap)
 ((Int.toNat 20)-0) (b.cap-0),.slice (aO b.a 1 (Int.toNat 24) b.cap) (b.len-(Int.toNat 24)) (b.cap-(Int.toNat 24))] 48)) λah=>gl 195 #[.slice (some (Y w1)) 2 2] ah λn5 c=>Q (.int .u32 n5) c
def ay.ob:aQ:=(.s .r (.s (.cj 4 false ⟨[0,1,0,4,10,16,63],[0,1,0,4,10,16,32]⟩ [8,16,32,64,128,256,4] [1,8,1,32,80,128,256] (.t 0 (.t 1 (.t 2 (.t 3 (.tail [.r,.r,.r])))))) .l))
def af.uG(f:aq ae)(a:Int)(w:J)(Q:aa->J->Prop):Prop:=∃a1:ae,f=some a1/\((0:Int)<=a/\a<((4:Nat):Int))/\r1 w (Addr.add a1 (a.toNat*1)) λbp=>ak (bp==
 (-1)) (Q false w) (ak (bp==0) (∃a3:ae,f=some a3/\((0:Int)<=a/\a<((4:Nat):Int))/\st w (Addr.add a3 (a.toNat*1)) (.int .i64 (-1)) λc=>Q true c) (al (w.drew) λb=>∃c1:ae,f
 =some c1/\((0:Int)<=a/\a<((4:Nat):Int))/\¬False/\r1 b (Addr.add c1 (a.toNat*1)) λn7=>∃c2:ae,f=some c2/\((0:Int)<=a/\a<((4:Nat):Int))/\st b (Addr.add c2 (a.toNat*1))
 (.int .i64 (av (n7-1))) λd=>Q false d))
def ay.uG:aQ:=(.s .r (.s (.s .r (.bN (.s .r (.c (.s .r .l) (.s .r c2))))) (.s (.cj 7 false ⟨[0,0,1,6,8,16,1,127,191],[0,0,1,6,8,16,1,66,160]⟩ [262144,524288,1048576,2097152,4194304,8388608,16777216,
 33554432,0] [1,2,262144,1572864,2097152,4194304,262144,17301504,41943040] (.t 0 (.t 1 (.t 2 (.t 3 (.t 4 (.t 5 (.t 6 (.tail [.r,.r]))))))))) (.s .r .l))))
set_option maxRecDepth 100000
def af.uH(d:aq ae)(i:Int)(w:J)(Q:aa->J->Prop):Prop:=al (w.alloc z4) λw1=>∃a2:ae,d=some a2/\∃e:aq Nat,w1.cell? (a2.add 5)=some (.map e)/\∃b:U,∃c:J,
 Sem.run ai (Instr.lookup 137 (.map e) i false) w1=.ok b c/\ak (decide ((b.len:Int)>0)) (∃c1:ae,b.a=some c1/\((0:Int)<=(av ((b.len:Int)-1))/\(av
 ((b.len:Int)-1))<(b.len:Int))/\∃f:O aa,cL c (c1.add ((av ((b.len:Int)-1)).toNat*256)) 0 256=some f/\xt c w f Q) (∃dT:ae,d=some dT/\ag c (dT.add 4) λg=>tw g i c 256 λh=>
 xt c w h Q)
def ay.uH:aQ:=(.s .r hU)
def af.pN(f:Int)(g:Int)(h:Int)(i:Int)(j:Int)(k:Int)(l:Int)(w:J)(Q:aa->J->Prop):Prop:=al (w.alloc (.cells #[f,g,h,.int .u64 i,.int .u64 j,k] 104)) λw1=>r1 w1 (Y w) λbp=>ba 126 #[(),.int .u64 (IntKind.wrap .u64 bp),(4:Int)] w1 λm a=>r1 a ((Y w).add 1)
 λn6=>ba 126 #[m,.int .u64 (IntKind.wrap .u64 n6),(1:Int)] a λn b=>r1 b ((Y w).add 2) λn10=>ba 126 #[n,.int .u64 (IntKind.wrap .u64 n10),(4:Int)] b λo p=>ba 126 #[o,.int .u64 (IntKind.wrap .u64 l),(4:Int)] p λq c=>bw c ((Y w).add 3) λn17=>ba 126 #[q,.int .u64 n17,(8:Int)] c λr d=>bw d ((Y w).add 4) λn21=>ba 126 #[r,.int .u64 n21,(8:Int)] d λs e=>r1 e ((Y w).add 5) λn25=>ba 126 #[s,
 .int .u64 (IntKind.wrap .u64 n25),(4:Int)] e λt u=>Q t u
def ay.pN:aQ:=(.s .r (.s .r (.s .r (.s .r (.s .r a3)))))
def af.pO(d:aq ae)(an:Int)(w:J)(Q:aa->J->Prop):Prop:=ak (((Option.isNone d)||(decide (an<8)))||(decide (an>64))) (Q (.tuple #[.pointer none,(1:Int)]) w) (((0:Int)<=an
 /\an<=an/\an<=kz/\((48:Nat):Int)*an<=140737488355328)/\al (w.alloc (.cells (g5 ai 288 (an.toNat)) 288)) λw1=>al (w1.alloc (.cells #[d,.slice (some (Y w))
 (an.toNat) (an.toNat),(0:Int)] 281)) λah=>Q (.tuple #[.pointer (some (Y w1)),(0:Int)]) ah)
def ay.pO:aQ:=(.s .r (.s (.s (.cV [.r,.r,.r,.pure 2,.r,.r,.r,.pure 2]) (.c (.s .r .l) .l)) (.s .r .l)))
def af.oc(c:aq ae)(s:aq ae)(gen:Int)(root:Int)(aG:Int)(w:J)(Q:aa->J->Prop):Prop:=bF (λbx:aj->J->Prop=>ak (((((Option.isNone c)||(Option.isNone s))||(decide
 (aG<0)))||(decide (aG>12)))||(decide (root<0))) (bx true w) (∃a2:ae,c=some a2/\∃b:aq ae,w.cell? a2=some (b)/\aA 72 #[b] w λn6 d=>bx (decide (root>=n6)) d))
 (λ(e:aj) a=>ak (e||(!((root==0)==(aG==0)))) (Q (.tuple #[.pointer none,(1:Int)]) a) (al (a.alloc (.cells #[c,s,.int .u64 gen,root,aG] 239)) λf=>Q
 (.tuple #[.pointer (some (Y a)),(0:Int)]) f))
def ay.oc:aQ:=(.s .r (.s (.s (.cV [.r,.r,.r,.pure 2,.r,.r,.r,.pure 2,.r,.r,.r,.pure 2,.r,.r,.r,.pure 2,.r,.r,.r,.split 7,.r,.r,.r,.r,.r,.r,.r,.r,.pure 5]) (.c (.s .r .l) .l)) (.s .r .l)))
def af.m5(a:U)(w:J)(Q:aa->J->Prop):Prop:=Q (.bool ((decide ((a.len:Int)>=1))&&(decide ((a.len:Int)<=24)))) w
def ay.m5:aQ:=c1
def af.uI(t:aq ae)(key:U)(w:J)(Q:aa->J->Prop):Prop:=∃a1:ae,t=some a1/\r1 w (a1.add 3) λbp=>∃a3:ae,t=some a3/\r1 w (a3.add 4) λA=>∃ (h:U->Int->Int->J->
 Prop) (k:U->Int->Int->J->Nat),h ⟨none,0,0⟩ bp A w/\∀ (e:U) (n8:Int) (n9:Int) (f:J),h e n8 n9 f->ak (decide (n9>0)) (g6 196 #[t,n8,.bool (n9==1)] f λl m
 n o n17 c=>al (c.alloc cp) λp=>bA p (Y c) [l,m,n,o]/\(4:Nat)=4/\al (setCells p (Y c) 0 [l,m,n,o]) λb=>ak (n17 !=0) (Q (.tuple #[(),n17]) b) (bc b (Y c) λB=>ag b ((Y c).add 1) λC=>ag b
 ((Y c).add 2) λD=>ag b ((Y c).add 3) λE=>∃gw:Array aa,Sem.run ai (Instr.build 232 #[(0,n8),(1,.agg #[B,C,D,
 E])]) b=.ok (.agg gw) b/\al (b.alloc (.cells #[(0:Int),false,(),(),(),(0:Int)] 232)) λq=>bA q (Y b) (Array.toList gw)
 /\Array.size gw=6/\al (setCells q (Y b) 0 (Array.toList gw)) λd=>bF (λr:Int->J->Prop=>ak (decide (n9>1)) (bc d (Y c) λF=>ag d ((Y c).add 1) λG=>ag d ((Y c).add 2) λ
 H=>ag d ((Y c).add 3) λI=>aA 197 #[.agg #[F,G,H,I],key] d λn34 K=>st K (Addr.add
 (Y b) 5) n34 λg=>ag g ((Y c).add 3) λs=>r1 g ((Y b).add 5) λn37=>∃u:ae,s.a=some u/\aI n37 s.len/\r1 g (u.add (n37.toNat*1)) λn39=>r n39 g) (r n8
 d)) (λ(n40:Int) v=>∃x:O aa,cL v (Y b) 0 6=some x/\∃y:U,∃z:J,Sem.run ai (Instr.buildSlice 228 1 #[(0,.agg x.toArray)]) v=.ok y z
 /\∃i:U,∃j:J,Sem.run ai (Builtin.append_ #[228,228] 228 #[e,y]) z=.ok i j/\h i n40 (av
 (n9-1)) j/\k i n40 (av (n9-1)) j<k e n8 n9 f))) (Q (.tuple #[e,(0:Int)]) f)
def ay.uI:aQ:=(.s .r (.s .r (.s .r (.s (.s .r (.bN (.loop [(6,.slice),(7,(.int .i64)),(8,(.int .i64))] [0,1] (.s (.s .r (.c .l .l)) (.s (.bN (.s .r (.s a1 (.s .r (.s (.eH [(7,(.int .i64))] [0,1,6,8,11] (.s .r (.c
 (.s .r .r) .l))) .r))))) .r))))) (.s .r .l)))))
def af.pP(a:aj)(b:U)(c:U)(d:U)(key:U)(w:J)(Q:aa->J->Prop):Prop:=al (w.alloc (.cells #[a,b,c,d] 202)) λw1=>bc w1 (Y w) λbQ=>ag w1 ((Y w).add 1) λe=>ag w1 ((Y w).add 2) λf=>ag w1 ((Y w).add 3) λg=>gX 198 #[.agg #[bQ,
 e,f,g],key] w1 λn8 h i=>Q (.tuple #[n8,h]) i
def ay.pP:aQ:=(.s .r (.s .r .l))
def af.rH(s:aq ae)(w:J)(Q:aa->J->Prop):Prop:=ak (!(Option.isNone s)) (∃a1:ae,s=some a1/\ag w (a1.add 2) λs2=>ba 194 #[s2] w λa
 b=>∃c1:ae,s=some c1/\st b (c1.add 1) a λc=>Q (.tuple #[]) c) (Q (.tuple #[]) w)
def ay.rH:aQ:=(.s .r (.c .r .l))
theorem af.EA(s:aq ae)(w:J)(Q:aa->J->Prop)(h:af.rH s w Q):aP ai 144 #[s] w Q:=okF (λw Q=>af.rH s w Q) ay.rH func144 h
def af.uJ(c:aq ae)(w:J)(Q:aa->J->Prop):Prop:=ba 199 #[c,.func (.func 200) #[] #[]] w λa w1=>Q a w1
def ay.uJ:aQ:=(.s .r (.s .r .l))
def af.uK(c:aq ae)(no:Int)(w:J)(Q:aa->J->Prop):Prop:=js 201 #[c,no] w λa w1=>bF (λd:aj->J->Prop=>ak (Option.isNone a) (d true w1) (∃
 a5:ae,a=some a5/\r1 w1 (a5.add 4) λn6=>d (decide (n6>0)) w1)) (λ(e:aj) b=>ak e (Q false b) (∃a9:ae,a=some a9/\bA b a9 [false,false,false,(0:Int),(0:Int),
 ()]/\(6:Nat)=6/\al (setCells b a9 0 [false,false,false,(0:Int),(0:Int),()]) λf=>Q true f))
def ay.uK:aQ:=(.s .r (.s .r (.s (.s (.cV [.r,.r,.r,.split 5]) (.c (.s .r .l) .l)) (.s .r (.s .r .l)))))
def af.uL(t:aq ae)(w:J)(Q:aa->J->Prop):Prop:=ak (Option.isNone t) (Q (.tuple #[(0:Int),(0:Int)]) w) (al (w.drew) λw1=>∃a2:ae,t=some a2/\¬False/\r1 w1 (a2.add 3) λa=>∃
 a4:ae,t=some a4/\¬False/\r1 w1 (a4.add 4) λn5=>Q (.tuple #[a,n5]) w1)
def ay.uL:aQ:=(.s .r (.s a1 (.s (.cj 9 false ⟨[0,1,2,4,0,16,32,64,15,511],[0,1,2,4,0,16,32,64,8,128]⟩ [64,128,256,512,1024,2048,4096,8192,4,8] [1,64,128,256,1,1024,2048,4096,512,8192] (.t
 0 (.t 1 (.t 2 (.t 3 (.t 4 (.t 5 (.t 6 (.t 7 (.t 8 (.tail [.r]))))))))))) .l)))
def af.rI(s:aq ae)(w:J)(Q:aa->J->Prop):Prop:=ak (Option.isNone s) (Q (0:Int) w) (∃a1:ae,s=some a1/\r1 w a1 λbp=>∃a3:ae,s=some a3/\ag w (a3.add 1) λj=>∃ (e:
 Int->Int->J->Prop) (g:Int->Int->J->Nat),e bp 0 w/\∀ (n7:Int) (n8:Int) (d:J),e n7 n8 d->ak (decide (n8<(j.len:Int))) (al (d.drew) λb=>∃c:Nat->Prop,∃ez:ae,s=some ez/\¬c
 (ez.add 1).block/\ag b (ez.add 1) λh=>∃e8:ae,h.a=some e8/\aI n8 h.len/\¬c (e8.add (n8.toNat*1)).block/\bX b (e8.add (n8.toNat*1)) λn15=>∃fB:ae,s=some fB/\¬c (fB.add
 2).block/\ag b (fB.add 2) λi=>∃e1:ae,i.a=some e1/\aI n8 i.len/\¬c (e1.add (n8.toNat*1)).block/\bX b (e1.add (n8.toNat*1)) λn19=>aA 202 #[.int .u8 (mT .u8 n15 n19)] b
 λn22 f=>ab c b f/\e (av (n7-n22)) (av (n8+1)) f/\g (av (n7-n22)) (av (n8+1)) f<g n7 n8 d) (Q n7 d))
def ay.rI:aQ:=(.s .r (.s a1 (.s .r (.s (.s .r (.bN (.loop [(3,(.int .i64)),(16,(.int .i64))] [0,15] (.s .r (.s (.c .l .l) (.s (.bN (.s .r (.cj 17 true ⟨[0,0,2,4,8,0,48,64,0,256,512,1024,0,6144,8192,
 16512,32768,65537,262143],[0,0,2,4,8,0,48,64,0,256,512,1024,0,6144,8192,16512,32768,65537,131073]⟩ [524288,1048576,2097152,4194304,8388608,16777216,33554432,67108864,134217728,268435456,536870912,1073741824,
 2147483648,4294967296,8589934592,17179869184,34359738368,68719476736,8] [8,1,1048576,2097152,4194304,16,25165824,33554432,1,134217728,268435456,536870912,16,3221225472,4294967296,8657043456,17179869184,34360262656,
 68719476736] (.t 0 (.t 1 (.t 2 (.t 3 (.t 4 (.t 5 (.t 6 (.t 7 (.t 8 (.t 9 (.t 10 (.t 11 (.t 12 (.t 13 (.t 14 (.t 15 (.bP 16 (.tail [.r,.r]))))))))))))))))))))) .r)))))) (.s .r .l)))))
theorem af.EB(s:aq ae)(w:J)(Q:aa->J->Prop)(h:af.rI s w Q):aP ai 148 #[s] w Q:=okF (λw Q=>af.rI s w Q) ay.rI func148 h
def af.pQ(k:aj)(l:U)(m:U)(n:U)(key:U)(w:J)(Q:aa->J->Prop):Prop:=al (w.alloc (.cells #[k,l,m,n] 202)) λw1=>al (w1.alloc cp) λah=>bc ah (Y w) λo=>ag ah ((Y w).add 1) λp=>ag ah ((Y w).add 2) λq=>ag ah ((Y w).add 3) λr=>gX
 198 #[.agg #[o,p,q,r],key] ah λn9 s c=>bc c (Y w) λt=>bF (λu:aj->J->Prop=>pH t u c
 w) (λ(v:aj) b=>ak (v||(!s)) (bA b (Y w1) [false,(),(),()]/\(4:Nat)=4/\al (setCells b (Y w1) 0 [false,(),(),()]) λx=>iZ x w1 Q) (bc b (Y w) λy=>ag b ((Y w).add 1) λz=>ag b ((Y w).add 2) λA=>ag b ((Y w).add 3) λB=>gv 204 #[.agg #[y,z,A,B]] b λd e f g a=>al (a.alloc cp) λh=>bA h (Y a) [d,e,f,g]/\
 (4:Nat)=4/\al (setCells h (Y a) 0 [d,e,f,g]) λi=>ag i ((Y a).add 1) λC=>ba 205
 #[C,n9,.int .i64 (av (n9+1))] i λD E=>st E ((Y a).add 1) D λj=>ag j ((Y a).add 2) λF=>ba 205
 #[F,n9,.int .i64 (av (n9+1))] j λG H=>st H ((Y a).add 2) G λI=>c9 I a w1 Q))
def ay.pQ:aQ:=(.s .r (.s .r (.s (.s (.cV [.r,.r,.r,.r,.split 3,.r,.r,.r,.r,.pure 2]) (.c (.s .r .l) .l)) (.s .r a3))))
def af.rJ(t:aq ae)(il:U)(r:aj)(s:U)(u:U)(v:U)(w:J)(Q:aa->J->Prop):Prop:=al (w.alloc (.cells #[r,s,u,v] 202)) λw1=>al (w1.alloc (.cells #[(0:Int)] 34)) λah=>al (ah.drew) λc=>∃g:Nat->Prop,∃
 a5:ae,t=some a5/\¬g (a5.add 1).block/\∃h:aq ae,c.cell? (a5.add 1)=some (h)/\∃dx:ae,t=some dx/\¬g (dx.add 4).block/\r1 c (dx.add 4) λn8=>aA 148 #[h] c λn11 d
 =>ab g c d/\ak (decide (n11<(av ((av (2*n8))+3)))) (st d (Y w1) (2:Int) λi=>r1 i (Y w1) λn13=>Q n13 i) (al (d.alloc (.cells #[t,(),()] 297))
 λa=>al (a.alloc (.cells #[.pointer none] 295)) λx=>st x (Y a) (.pointer (some (Y d))) λb=>∃j:aq ae,b.cell? (Y a)=some (j)/\bc b (Y w) λy=>ag b (Addr.add
 (Y w) 1) λz=>ag b ((Y w).add 2) λA=>ag b ((Y w).add 3) λB=>pF 208 #[j,il,.agg #[y,z,A,B]] b λn24 n25 n26 C=>st C (Y w1) n26 λe=>r1 e (Y w1) λn28=>ak (n28 !=0) (r1 e (Y w1) λn29=>st e (Y w1) n29 λD=>pC ai
 206 #[.pointer (some (Y w1)),.pointer (some (Y a))] D λk=>r1 k (Y w1) λn32=>Q n32 k) (al (e.drew) λf=>¬False/\∃l:aq ae,f.cell? (Y a)=some (l)/\¬
 False/\∃m:aq ae,f.cell? (Y a)=some (m)/\∃n:ae,m=some n/\¬False/\ag f (n.add 2) λE=>aR 207 #[l,E] f λF=>∃o:ae,
 t=some o/\st F (o.add 3) n24 λG=>∃p:ae,t=some p/\st G (p.add 4) n25 λH=>st H (Y w1) (0:Int) λI=>pC ai 206 #[.pointer (some (Y w1)),
 .pointer (some (Y a))] I λq=>r1 q (Y w1) λK=>Q K q))
def ay.rJ:aQ:=(.s .r (.s (.s (.cj 11 true ⟨[0,1,2,4,8,0,32,64,128,256,512,1040],[0,1,2,4,8,0,32,64,128,256,512,1040]⟩ [1024,2048,4096,8192,16384,32768,65536,131072,262144,524288,1048576,
 2097152] [1,1024,2048,4096,8192,1,32768,65536,131072,262144,524288,1064960] (.t 0 (.t 1 (.t 2 (.t 3 (.t 5 (.t 6 (.t 7 (.t 8 (.t 9 (.t 10 (.bP 4 (.tail [.r]))))))))))))) (.c (.s .r .l) .l)) (.s .r (.s .l (.s .r (.s a1 (.s (.cj 5
 false ⟨[0,0,2,4,8,17],[0,0,2,4,8,17]⟩ [137438953472,274877906944,549755813888,1099511627776,2199023255552,4398046511104] [128,128,274877906944,549755813888,1099511627776,2336462209024] (.t 0 (.t 1 (.t 2 (.t 3 (.t 4
 (.tail [.r]))))))) (.s .r (.s .r .l)))))))))
theorem af.EC(t:aq ae)(il:U)(a:aj)(b:U)(c:U)(d:U)(w:J)(Q:aa->J->Prop):af.rJ t il a b c d w Q=xb ai tk ay.rJ Tryz.f150 [t,il,.agg #[a,b,c,d]] w Q:=by kernel_rfl
theorem af.ED(t:aq ae)(il:U)(a:aj)(b:U)(c:U)(d:U)(w:J)(Q:aa->J->Prop)(h:af.rJ t il a b c d w Q):Calls ai 150 #[t,il,.agg #[a,b,c,d]] w λe w1=>∃v,e=.returned v/\Q v w1:=
 Eg xi func150 (by kernel_rfl) (Eq.mp (af.EC t il a b c d w Q) h)
def af.pR(B:aj)(C:U)(D:U)(E:U)(key:U)(val:U)(w:J)(Q:aa->J->Prop):Prop:=al (w.alloc (.cells #[B,C,D,E] 202)) λw1=>al (w1.alloc cp) λah=>bc ah (Y w) λF=>bF (λG:aj->J->Prop=>pH F G ah w) (λ(H:aj) m=>bF (λn:aj->J
 ->Prop=>ak H (n true m) (aK 209 #[key] m λI K=>n (!I) K)) (λ(L:aj) c=>ak (L||(decide ((val.len:Int)>24))) (bA c (Y w1) [false,(),
 (),()]/\(4:Nat)=4/\al (setCells c (Y w1) 0 [false,(),(),()]) λM=>iZ M w1 Q) (bc c (Y w) λN=>ag c ((Y w).add 1) λO=>ag c
 ((Y w).add 2) λP=>ag c ((Y w).add 3) λR=>gv 204 #[.agg #[N,O,P,R]] c λo p q r b=>al (b.alloc
 cp) λs=>bA s (Y b) [o,p,q,r]/\(4:Nat)=4/\al (setCells s (Y b) 0 [o,p,q,r]) λd=>bc d (Y w) λS=>ag d ((Y w).add 1) λT=>ag d ((Y w).add 2) λV=>ag d ((Y w).add 3) λW=>gX 198 #[.agg #[S,T,V,W],key] d λe X t=>ak X (al (t.drew) λh=>∃u:Nat->Prop,¬u ((Y b).add 2).block/\ag h
 ((Y b).add 2) λv=>ba 135 #[val] h λZ x=>ab u h x/\∃y:ae,v.a=some y/\aI e v.len/\st x (y.add (e.toNat*1)) Z λac=>c9 ac b w1 Q) (al (t.drew) λi=>∃j:Nat->Prop,¬j ((Y b).add 1).block/\ag i ((Y b).add 1) λad=>ba 135 #[key] i λ
 ai f=>ab j i f/\al (f.alloc (.cells #[ai] 48)) λz=>ab j f z/\ba 210 #[ad,e,.slice (some (Y f)) 1 1]
 z λam an=>st an ((Y b).add 1) am λao=>al (ao.drew) λk=>∃l:Nat->Prop,¬l ((Y b).add 2).block/\ag k ((Y b).add 2) λap=>ba
 135 #[val] k λaq g=>ab l k g/\al (g.alloc (.cells #[aq] 48)) λA=>ab l g A/\ba 210 #[ap,e,.slice (some (Y g)) 1 1] A λar au=>st au ((Y b).add 2) ar λav=>c9 av b w1 Q))))
def ay.pR:aQ:=(.s .r (.s (.s (.cV [.r,.r,.r,.r,.split 3,.r,.r,.r,.r,.split 3,.r,.r,.r,.r,.pure 3]) (.c (.s .r .l) .l)) (.s .r (.s .r (.s (.s .r (.c (.s (.cj 5 true ⟨[0,1,0,0,8,31,63],[0,1,0,0,8,6,48]⟩
 [549755813888,1099511627776,2199023255552,4398046511104,8796093022208,17592186044416,0] [256,549755813888,512,4,4398046511104,3298534883328,26388279066624] (.t 0 (.t 1 (.t 2 (.t 3 (.bP 4 (.tail [.r,.r]))))))) (.s .r .l)) .l))
 (.s (.cj 6 true ⟨[0,1,0,0,8,16,54,127,255],[0,1,0,0,8,16,38,0,192]⟩ [70368744177664,140737488355328,281474976710656,562949953421312,1125899906842624,2251799813685248,4503599627370496,9007199254740992,0] [256,
 70368744177664,512,2,562949953421312,1125899906842624,2674012278751232,256,13510798882111488] (.t 0 (.t 1 (.t 2 (.t 3 (.bP 4 (.bP 5 (.tail [.r,.r,.r])))))))) (.s (.cj 6 true ⟨[0,1,0,0,8,16,54,127,255],[0,1,0,0,8,
 16,38,0,192]⟩ [18014398509481984,36028797018963968,72057594037927936,144115188075855872,288230376151711744,576460752303423488,1152921504606846976,2305843009213693952,0] [256,18014398509481984,512,4,144115188075855872,
 288230376151711744,684547143360315392,256,3458764513820540928] (.t 0 (.t 1 (.t 2 (.t 3 (.bP 4 (.bP 5 (.tail [.r,.r,.r])))))))) (.s .r .l))))))))
def af.uM(t:aq ae)(w:J)(Q:aa->J->Prop):Prop:=ak (Option.isNone t) (Q (.tuple #[(),(0:Int),(1:Int)]) w) (al (w.alloc (.cells #[t,(),(0:Int)]
 303)) λw1=>bF (λbG:J->Prop=>∃a3:ae,t=some a3/\r1 w1 (a3.add 4) λf=>ak (decide (f>0)) (al (w1.drew) λa=>∃c1:ae,t=some c1/\¬False/\r1 a (c1.add 3) λn7=>∃c2:ae,t=some
 c2/\¬False/\r1 a (c2.add 4) λn9=>aA 211 #[.pointer (some (Y w)),n7,n9,(),()] a λn12 c=>ak (n12 !=0) (Q (.tuple #[(),(0:Int),n12]) c) (bG c)) (bG w1)) (λd=>∃e8:ae,(some (Y w):aq ae)=some e8/\ag d (e8.add 1) λg=>aR 153 #[g] d λh=>al (h.drew) λb=>∃gY:ae,
 (some (Y w):aq ae)=some gY/\¬False/\ag b (gY.add 1) λi=>∃e:ae,(some (Y w):aq ae)=some e/\¬False/\r1 b (e.add 2) λn22=>Q (.tuple #[i,n22,(0:Int)]) b))
def ay.uM:aQ:=(.s .r (.s a1 (.s .r (.s (.eH [] [5] (.s .r (.c (.s (.cj 9 false ⟨[0,0,2,4,8,0,32,64,128,273,1023],[0,0,2,4,8,0,32,64,128,273,512]⟩ [131072,262144,524288,1048576,2097152,4194304,
 8388608,16777216,33554432,67108864,64] [32,1,262144,524288,1048576,1,4194304,8388608,16777216,35782656,67108864] (.t 0 (.t 1 (.t 2 (.t 3 (.t 4 (.t 5 (.t 6 (.t 7 (.t 8 (.tail [.r,.r]))))))))))) a1) .l))) (.s .r (.s (.cj 9
 false ⟨[0,1,2,4,0,16,32,64,15,511,1023],[0,1,2,4,0,16,32,64,8,128,0]⟩ [34359738368,68719476736,137438953472,274877906944,549755813888,1099511627776,2199023255552,4398046511104,4,8,16] [32,34359738368,
 68719476736,137438953472,32,549755813888,1099511627776,2199023255552,274877906944,4398046511104,0] (.t 0 (.t 1 (.t 2 (.t 3 (.t 4 (.t 5 (.t 6 (.t 7 (.t 8 (.tail [.r,.r]))))))))))) .l))))))
def af.rK(s:aq ae)(w:J)(Q:aa->J->Prop):Prop:=ak (Option.isNone s) (Q () w) (∃a1:ae,s=some a1/\r1 w a1 λbp=>∃ (c:U->Int->J->Prop) (d:U->Int->J->
 Nat),c ⟨none,0,0⟩ 0 w/\∀ (a:U) (n6:Int) (b:J),c a n6 b->ak (decide (n6<bp)) (bF (λe:U->J->Prop=>∃a9:ae,s=some a9/\ag b (a9.add 1) λi=>aK 214 #[i,n6] b λj f=>ak j (tH f n6 a e) (e a f)) (λ(g:U) h=>c g (av (n6+1)) h/\d g (av (n6+1)) h<d a n6 b)) (Q a b))
def ay.rK:aQ:=(.s .r (.s a1 (.s .r (.s (.s .r (.bN (.loop [(3,.slice),(11,(.int .i64))] [0,10] (.s .r (.s (.c .l .l) (.s (.eH [(3,.slice)] [0,10,11] (.bN dx)) .r)))))) (.s .r .l)))))
theorem af.EE(s:aq ae)(w:J)(Q:aa->J->Prop)(h:af.rK s w Q):aP ai 155 #[s] w Q:=okF (λw Q=>af.rK s w Q) ay.rK func155 h
def af.k4(b:U)(i:Int)(size:Int)(w:J)(Q:aa->J->Prop):Prop:=jt 215 #[b,i,size] w λd j w1=>bF (λf:aj->J->Prop=>ak (!j) (f
 true w1) (aK 192 #[size] w1 λk l=>f (!k) l)) (λ(m:aj) g=>ak m (Q (.tuple #[.int .u64 0,false]) g) (∃ (e:Int->Int->J->Prop) (h:Int->Int->J->Nat),e 0 0 g/\∀ (n13:
 Int) (n14:Int) (c:J),e n13 n14 c->ak (decide (n14<(d.len:Int))) (∃fB:ae,d.a=some fB/\aI n14 d.len/\bX c (fB.add (n14.toNat*1)) λn17=>(0:Int)<=8/\e (mT .u64 (IntKind.wrap .u64 (n13*2^
 (min (Int.toNat 8) 64))) (IntKind.wrap .u64 n17)) (av (n14+1)) c/\h (mT .u64 (IntKind.wrap .u64 (n13*2^(min (Int.toNat 8) 64))) (IntKind.wrap .u64 n17)) (av (n14+1)) c<h n13 n14 c) (Q (.tuple #[.int .u64 n13,true]) c)))
def ay.k4:aQ:=(.s .r (.s .r (.s dA (.s .r (.s (.s .r (.bN (.loop [(10,(.int .u64)),(29,(.int .i64))] [27,28] a2))) (.s .r .l))))))
def af.rL(s:aq ae)(w:J)(Q:aa->J->Prop):Prop:=ak (Option.isNone s) (Q (.tuple #[.int .i64 (-1),(1:Int)]) w) (∃a1:ae,s=some a1/\r1 w a1 λbp=>∃ (c:Int->J->Prop) (d:
 Int->J->Nat),c 0 w/\∀ (n5:Int) (a:J),c n5 a->ak (decide (n5<bp)) (aK 217 #[s,n5] a λe b=>ak (!e) (∃dT:ae,s=some dT/\ag b (dT.add 1) λf=>aR
 130 #[f,n5] b λg=>Q (.tuple #[n5,(0:Int)]) g) (c (av (n5+1)) b/\d (av (n5+1)) b<d n5 a)) (Q (.tuple #[.int .i64 (-1),(2:Int)]) a))
def ay.rL:aQ:=(.s .r (.s a1 (.s (.s .r (.bN (.loop [(11,(.int .i64))] [0,10] (.s .r (.s (.c .l .l) (.s (.bN (.s .r (.s .r c2))) .r)))))) (.s .r .l))))
theorem af.EF(s:aq ae)(w:J)(Q:aa->J->Prop)(h:af.rL s w Q):aP ai 160 #[s] w Q:=okF (λw Q=>af.rL s w Q) ay.rL func160 h
def af.rM(s:aq ae)(no:Int)(w:J)(Q:aa->J->Prop):Prop:=aK 218 #[s,no] w λb w1=>ak (!b) (Q (1:Int) w1) (∃a4:ae,s=some a4/\ag w1 (a4.add 1)
 λc=>aK 214 #[c,no] w1 λd a=>ak (!d) (Q (6:Int) a) (∃a9:ae,s=some a9/\ag a (a9.add 1) λe=>aR 219 #[e,no]
 a λf=>Q (0:Int) f))
def ay.rM:aQ:=(.s .r (.s (.bN eM) (.s .r (.s .r .l))))
theorem af.EG(s:aq ae)(no:Int)(w:J)(Q:aa->J->Prop)(h:af.rM s no w Q):aP ai 161 #[s,no] w Q:=okF (λw Q=>af.rM s no w Q) ay.rM func161 h
def af.uN(c:aq ae)(no:Int)(b:U)(w:J)(Q:aa->J->Prop):Prop:=aK 220 #[c,no] w λl w1=>ak ((!l)||((b.len:Int) !=256)) (Q (1:Int) w1) (js
 201 #[c,no] w1 λf g=>bF (λh:aq ae->J->Prop=>ak (Option.isNone f) (de 221 #[c] g λd n11 a=>ak (n11 !=0) (Q n11 a) (∃ez:ae,d
 =some ez/\(∃u:aa,a.cell? ez=some u)/\a.frozen? ez=false/\al (a.setCell ez true) λm=>∃e8:ae,d=some e8/\st m (e8.add 3) no λn=>h d n)) (h f g)) (λ(e:aq
 ae) o=>ba 135 #[b] o λp q=>∃i:ae,e=some i/\st q (i.add 5) p λr=>∃j:ae,e=some j/\st r (j.add 1) true λs=>∃k:ae,e=some k/\st s (k.add 2) true λt=>Q (0:Int) t))
def ay.uN:aQ:=(.s .r (.s (.s (.cV [.r,.r,.r,.r,.r,.pure 3]) (.c (.s .r .l) .l)) (.s .r (.s (.eH [(7,.ptr)] [2] (.s .r (.c (.s .r (.s a1 (.s .r .r))) .l))) (.s .r (.s .r .l))))))
def af.uO(c:aq ae)(w:J)(Q:aa->J->Prop):Prop:=ak (Option.isNone c) (Q (1:Int) w) (ba 145 #[c] w λd w1=>∃ (e:Int->J->Prop) (g:Int->J->Nat),e
 0 w1/\∀ (n6:Int) (b:J),e n6 b->ak (decide (n6<(d.len:Int))) (∃c2:ae,d.a=some c2/\aI n6 d.len/\r1 b (c2.add (n6.toNat*1)) λn9=>js 201 #[c,n9] b λh o=>al
 (o.drew) λf=>∃e8:ae,c=some e8/\¬False/\∃i:aq ae,f.cell? e8=some (i)/\∃fB:ae,h=some fB/\¬False/\ag f (fB.add 5) λp=>aA 75 #[i,n9,p] f λn20 j=>ak (n20 !=0) (Q n20 j) (∃k:ae,h=some k/\st j (k.add 1) false λl=>e (av (n6+1)) l/\g (av (n6+1)) l<g n6 b)) (∃m:ae,c
 =some m/\∃n:aq ae,b.cell? m=some (n)/\aA 76 #[n] b λn27 q=>Q n27 q))
def ay.uO:aQ:=(.s .r (.s a1 (.s (.s .r (.bN (.loop [(12,(.int .i64))] [0,10,11] (.s .r (.s (.c .l .l) (.s (.bN (.s .r (.s .r (.s (.s (.cj 9 false ⟨[0,1,2,4,0,0,32,64,128,280,1023],[0,1,2,4,0,0,32,64,
 128,280,512]⟩ [524288,1048576,2097152,4194304,8388608,16777216,33554432,67108864,134217728,268435456,64] [1,524288,1048576,2097152,16,32,16777216,33554432,67108864,146800640,268435456] (.t 0 (.t 1 (.t 2 (.t 3 (.t 4 (.t
 5 (.t 6 (.t 7 (.t 8 (.tail [.r,.r]))))))))))) a1) .r)))) .r)))))) (.s .r .l))))
def af.rN(t:aq ae)(gen:Int)(w:J)(Q:aa->J->Prop):Prop:=ak (!(Option.isNone t)) (∃a1:ae,t=some a1/\st w (a1.add 2) (.int .u64 gen) λah=>Q (.tuple #[]) ah) (Q (.tuple #[]) w)
def ay.rN:aQ:=(.s .r (.c .r .l))
theorem af.EH(t:aq ae)(gen:Int)(w:J)(Q:aa->J->Prop)(h:af.rN t gen w Q):aP ai 164 #[t,.int .u64 gen] w Q:=okF (λw Q=>af.rN t gen w Q) ay.rN func164 h
def af.uP(c:Int)(w:J)(Q:aa->J->Prop):Prop:=Q (.bool (c !=0)) w
def ay.uP:aQ:=(.s .r (.s .r .l))
theorem af.EI(c:Int)(w:J)(Q:aa->J->Prop)(h:af.uP c w Q):aP ai 170 #[.int .u8 c] w Q:=okF (λw Q=>af.uP c w Q) ay.uP func170 h
def af.pS(no:Int)(b:U)(w:J)(Q:aa->J->Prop):Prop:=al (w.alloc g7) λw1=>lF 172 #[no,b] w1 λn n5 o n7 ah=>al (ah.alloc z3) λp=>bA p
 (Y ah) [n,.int .u64 n5,o]/\(3:Nat)=3/\al (setCells p (Y ah) 0 [n,.int .u64 n5,o]) λc=>ak (n7 !=0) (r1 c (Y w) λn10=>r1 c ((Y w).add 1)
 λn11=>r1 c ((Y w).add 2) λn12=>bw c ((Y w).add 3) λn13=>bw c ((Y w).add 4) λn14=>r1 c ((Y w).add 5) λn15=>bA c (Y w) [n10,n11,n12,.int .u64 n13,
 .int .u64 n14,n15]/\(6:Nat)=6/\al (setCells c (Y w) 0 [n10,n11,n12,.int .u64 n13,.int .u64 n14,n15]) λf=>r1 f (Y w) λn17=>r1 f ((Y w).add 1) λn18=>
 r1 f ((Y w).add 2) λn19=>bw f ((Y w).add 3) λn20=>bw f ((Y w).add 4) λn21=>r1 f ((Y w).add 5) λn22=>Q (.tuple #[.agg #[n17,n18,n19,.int .u64 n20,.int .u64
 n21,n22],(0:Int),.int .u64 0,n7]) f) (r1 c (Y ah) λn23=>bF (λq:aj->J->Prop=>ak (n23 !=3) (q true c) (ag c ((Y ah).add 2) λC=>q ((C.len:Int) !=33) c)) (λ(D:
 aj) a=>ak D (r1 a (Y w) λn28=>r1 a ((Y w).add 1) λn29=>r1 a ((Y w).add 2) λn30=>bw a ((Y w).add 3) λn31=>bw a ((Y w).add 4) λn32=>r1 a ((Y w).add 5) λn33=>
 bA a (Y w) [n28,n29,n30,.int .u64 n31,.int .u64 n32,n33]/\(6:Nat)=6/\al (setCells a (Y w) 0 [n28,n29,n30,.int .u64 n31,.int .u64 n32,n33]) λE=>xn E w Q) (ag a ((Y ah).add 2) λF=>al (a.alloc (.cells #[F,(0:Int)] 316)) λG=>gw 226 #[.pointer (some (Y a)),(4:Int)] G λ
 H I=>gw 226 #[.pointer (some (Y a)),(1:Int)] I λK L=>gw 226 #[.pointer (some (Y a)),(4:Int)] L λM N=>st N (Y w) (.int .i64 (av H)) λO=>st O
 ((Y w).add 1) (.int .i64 (av K)) λP=>st P ((Y w).add 2) (.int .i64 (av M)) λR=>gw 226 #[.pointer (some (Y a)),(4:Int)] R λh S=>gw 226 #[.pointer (some (Y
 a)),(8:Int)] S λT V=>gw 226 #[.pointer (some (Y a)),(8:Int)] V λW X=>gw 226 #[.pointer (some (Y a)),(4:Int)] X λZ ac=>st ac ((Y w).add 3) (.int
 .u64 T) λad=>st ad ((Y w).add 4) (.int .u64 W) λai=>st ai ((Y w).add 5) (.int .i64 (av Z)) λg=>r1 g (Y w) λam=>r1 g ((Y w).add 1) λan=>bF (λr:aj->J->Prop=>ak
 (!((am==0)==(an==0))) (r true g) (r1 g ((Y w).add 1) λao=>r (decide (ao>12)) g)) (λ(ap:aj) i=>bF (λs:aj->J->Prop=>ak ap (s true i) (r1 i (Y w) λaq=>s (decide (aq
 >=(av h))) i)) (λ(ar:aj) j=>bF (λt:aj->J->Prop=>ak ar (t true j) (r1 j ((Y w).add 2) λau=>t (decide (au>=(av h))) j)) (λ(aw:aj) k=>bF (λu:aj->J->Prop=>
 ak aw (u true k) (r1 k ((Y w).add 2) λax=>u (decide (ax<2)) k)) (λ(ay:aj) l=>ak (ay||(decide (((av h):Int)>1600))) (bA l (Y w) [(0:Int),(0:Int),(0:Int),.int .u64 0,.int
 .u64 0,(0:Int)]/\(6:Nat)=6/\al (setCells l (Y w) 0 [(0:Int),(0:Int),(0:Int),.int .u64 0,.int .u64 0,(0:Int)]) λaz=>xn az w Q) (al (l.drew) λd=>∃m:Nat->Prop,¬m ((Y w):
 ae).block/\r1 d (Y w) λv=>r1 d ((Y w).add 1) λx=>r1 d ((Y w).add 2) λy=>bw d ((Y w).add 3) λz=>bw d ((Y w).add 4) λA=>r1 d ((Y w).add 5) λB=>¬m
 ((Y ah).add 1).block/\bw d ((Y ah).add 1) λaA=>bA d (Y w) [v,x,y,.int .u64 z,.int .u64 A,B]/\(6:Nat)=6/\al (setCells d (Y w) 0 [v,x,y,.int .u64 z,.int .u64 A,B]) λe=>ab m d e/\r1 e (Y w) λaB=>r1 e ((Y w).add 1) λaC=>r1 e ((Y w).add 2) λaD=>bw e (Addr.add
 (Y w) 3) λaE=>bw e ((Y w).add 4) λaF=>r1 e ((Y w).add 5) λaG=>Q (.tuple #[.agg #[aB,aC,aD,.int .u64 aE,.int .u64 aF,aG],.int .i64 (av h),
 .int .u64 aA,(0:Int)]) e))))))))
def ay.pS:aQ:=(.s .r (.s .r (.s a1 (.s dT (.s .r (.s .r (.s .r (.s .r (.s (.s (.cV [.r,.r,.r,.r,.r,.r,.r,.r,.split 3,.r,.r,.r,.r,.split 4,.r,.r,.r,.r,.r,.split 4,.r,.r,.r,.r,.r,.split 3,.r,.r,
 .r,.r,.pure 2]) (.c (.s .r .l) .l)) (.s (.cj 6 true ⟨[0,0,0,4,1,19,63,127],[0,0,0,4,1,2,8,0]⟩ [9903520314283042199192993792,19807040628566084398385987584,39614081257132168796771975168,79228162514264337593543950336,0,
 32,64,128] [16,32,256,39614081257132168796771975168,9903520314283042199192993808,19807040628566084398385987584,79228162514264337593543950336,0] (.t 0 (.t 1 (.t 2 (.t 3 (.bP 4 (.t 5 (.tail [.r,.r])))))))) .l))))))))))
def af.m6(no:Int)(b:U)(w:J)(Q:aa->J->Prop):Prop:=al (w.alloc z3) λw1=>ak ((b.len:Int) !=256) (bA w1 (Y w) [(0:Int),.int .u64 0,()]/\(3:Nat)=3/\al (setCells w1 (Y w)
 0 [(0:Int),.int .u64 0,()]) λah=>r1 ah (Y w) λz=>bw ah ((Y w).add 1) λA=>ag ah ((Y w).add 2) λB=>Q (.tuple #[.agg #[z,.int .u64 A,B],(9:Int)])
 ah) (((0:Int)<=4/\4<=(b.cap:Int))/\∃n:ByteArray,∃c:J,Sem.run ai (convert 48 9 (.slice (aO b.a 1 0 b.cap) ((Int.toNat 4)-0) (b.cap-0))) w1=.ok (.string n) c/\ak
 (!(ByteArray.toList n==ByteArray.toList (ByteArray.mk #[83,84,78,67]))) (bA c (Y w) [(0:Int),.int .u64 0,()]/\(3:Nat)=3/\al (setCells c (Y w) 0 [(0:Int),.int .u64 0,()]) λC=>
 xr C w Q) (∃ez:ae,b.a=some ez/\aI 4 b.len/\bX c (ez.add (Int.toNat 4*1)) λn13=>ak (n13 !=1) (bA c (Y w) [(0:Int),.int .u64 0,()]/\(3:Nat)=3/\al (setCells c (Y w) 0 [(0:Int),.int
 .u64 0,()]) λd=>r1 d (Y w) λn15=>bw d ((Y w).add 1) λn16=>ag d ((Y w).add 2) λD=>Q (.tuple #[.agg #[n15,.int .u64 n16,D],(12:Int)]) d)
 (gl 134 #[b] c λn20 E=>gw 227 #[b,(20:Int),(24:Int)] E λn23 h=>ak (((IntKind.wrap .u64 n20):Int) !=n23) (bA h (Y w) [(0:Int),.int .u64
 0,()]/\(3:Nat)=3/\al (setCells h (Y w) 0 [(0:Int),.int .u64 0,()]) λe=>r1 e (Y w) λn25=>bw e ((Y w).add 1) λn26=>ag e ((Y w).add 2) λF=>Q (.tuple #[.agg
 #[n25,.int .u64 n26,F],(5:Int)]) e) (gw 227 #[b,(6:Int),(8:Int)] h λn30 o=>∃p:ae,b.a=some p/\aI 5 b.len/\bX o (p.add
 (Int.toNat 5*1)) λn32=>aK 133 #[.int .i64 (av n32)] o λG q=>bF (λr:aj->J->Prop=>ak ((!G)||(decide (((av n30):Int)>232))) (r true q) (((0:Int)<=(av (24+(av n30)))/\(av (24+(av
 n30)))<=(b.len:Int))/\aK 228 #[.slice (aO b.a 1 ((av (24+(av n30))).toNat) b.cap) (b.len-((av (24+(av n30))).toNat)) (b.cap-((av (24+(av n30))).toNat))] q λH I=>r (!H) I)) (λ(K:aj)
 i=>ak K (bA i (Y w) [(0:Int),.int .u64 0,()]/\(3:Nat)=3/\al (setCells i (Y w) 0 [(0:Int),.int .u64 0,()]) λL=>xr L w Q) (aK 132 #[no] i λM s=>
 bF (λt:aj->J->Prop=>ak (!M) (t true s) (gw 227 #[b,(8:Int),(12:Int)] s λN O=>t (N !=(IntKind.wrap .u64 no)) O)) (λ(P:aj) j=>ak P (bA j
 (Y w) [(0:Int),.int .u64 0,()]/\(3:Nat)=3/\al (setCells j (Y w) 0 [(0:Int),.int .u64 0,()]) λf=>r1 f (Y w) λR=>bw f ((Y w).add 1) λS=>ag f ((Y w).add 2)
 λT=>Q (.tuple #[.agg #[R,.int .u64 S,T],(1:Int)]) f) (jt 229 #[b,(24:Int),.int .i64 (av n30)] j λu ac V=>al (V.drew) λk=>∃v:
 Nat->Prop,∃l:ae,b.a=some l/\aI 5 b.len/\¬v (l.add (Int.toNat 5*1)).block/\bX k (l.add (Int.toNat 5*1)) λx=>gw 227 #[b,(12:Int),(20:Int)] k λy m=>ab
 v k m/\bA m (Y w) [.int .i64 (av x),.int .u64 y,u]/\(3:Nat)=3/\al (setCells m (Y w) 0 [.int .i64 (av x),.int .u64 y,u]) λg=>r1 g (Y w) λ
 W=>bw g ((Y w).add 1) λX=>ag g ((Y w).add 2) λZ=>Q (.tuple #[.agg #[W,.int .u64 X,Z],(0:Int)]) g))))))))
def ay.m6:aQ:=(.s .r (.s (.bN (.s .r (.c (.s .r .l) (.s .r (.c (.s .r .l) eM))))) (.s .r (.s (.bN (.s (.cV [.r,.r,.r,.r,.r,.r,.r,.pure 2,.r,.r,.r,.split 6]) (.c (.s .r .l) (.s (.cV [.r,.r,.r,.r,.split 5]) (.c
 (.s .r .l) .l))))) (.s .r (.s (.cj 7 true ⟨[0,1,2,4,0,16,0,104,255,511],[0,1,2,4,0,16,0,104,128,0]⟩ [37778931862957161709568,75557863725914323419136,151115727451828646838272,302231454903657293676544,
 604462909807314587353088,1208925819614629174706176,2417851639229258349412352,4835703278458516698824704,0,32] [2,37778931862957161709568,75557863725914323419136,151115727451828646838272,2,604462909807314587353088,128,
 3929008913747544817795072,4835703278458516698824720,0] (.t 0 (.t 1 (.t 2 (.t 3 (.t 4 (.t 6 (.bP 5 (.tail [.r,.r,.r]))))))))) .l))))))
def af.pT(b:U)(n:Int)(w:J)(Q:aa->J->Prop):Prop:=aK 128 #[n] w λh w1=>ak (!h) (Q (.tuple #[.pointer none,(1:Int)]) w1) (aA 129 #[n] w1 λn6 c=>bF
 (λe:aj->J->Prop=>ak ((b.len:Int) !=n6) (e true c) ((8:Int)≠0/\bF (λf:aj->J->Prop=>ak (decide (((Int.tmod n 8):Int)>0)) (∃a9:ae,b.a=some a9/\((0:Int)<=(av ((b.len:Int)-1))/\(av
 ((b.len:Int)-1))<(b.len:Int))/\bX c (a9.add ((av ((b.len:Int)-1)).toNat*1)) λn10=>(8:Int)≠0/\(0:Int)<=(Int.tmod n 8)/\f (decide (((Int.fdiv n10 (2^(min ((Int.tmod n 8).toNat) 8))):Int)>0)) c) (f
 false c)) (λ(i:aj) j=>e i j))) (λ(k:aj) g=>ak k (Q (.tuple #[.pointer none,(4:Int)]) g) (ba 135 #[b] g λl d=>al (d.alloc (.cells #[n,l,()] 218)) λm=>aR 131 #[.pointer (some (Y d))] m λo=>Q (.tuple #[.pointer (some (Y d)),(0:Int)]) o)))
def ay.pT:aQ:=(.s .r (.s (.bN (.s .r (.c (.s .r .l) (.s (.cV [.r,.r,.r,.r,.r,.r,.split 15,.r,.r,.r,.split 10]) (.c (.s .r .l) .l))))) a3))
def af.uQ(t:aq ae)(no:Int)(level:Int)(c:U)(f:hK)(w:J)(Q:aa->J->Prop):Prop:=g6 196 #[.pointer t,.int .i64 no,.bool (level==1)] w λv d e g n7 w1=>al
 (w1.alloc cp) λx=>bA x (Y w1) [.bool v,.slice d.a d.len d.cap,.slice e.a e.len e.cap,.slice g.a g.len g.cap]/\(4:Nat)=4/\al (setCells x (Y w1) 0 [.bool v,.slice d.a d.len d.cap,.slice e.a e.len
 e.cap,.slice g.a g.len g.cap]) λh=>ak (n7 !=0) (Q (.tuple #[.bool false,.int .i64 n7]) h) (bc h (Y w1) λD=>ag h (Addr.add (Y w1) 1) λk=>ag h (Addr.add (Y w1) 2) λl=>ag h (Addr.add (Y w1) 3) λm
 =>iD ai f.f/\Calls ai f.f (f.pre++ #[.int .i64 no,.agg #[.bool D,.slice k.a k.len k.cap,.slice l.a l.len l.cap,.slice m.a m.len m.cap]]++f.cap) h λE n=>∃y:aj,E=.returned
 (.bool y)/\ak (!y) (Q (.tuple #[.bool false,.int .i64 0]) n) (ak (level==1) (Q (.tuple #[.bool true,.int .i64 0]) n) (al (n.drew) λb=>∃o:Nat->Prop,¬o (Addr.add (Y w1) 3).block/\ag b (Addr.add (Y w1) 3)
 λi=>¬o ((Y w1):ae).block/\bc b (Y w1) λF=>ag b (Addr.add (Y w1) 1) λp=>ag b (Addr.add (Y w1) 2) λq=>ag b (Addr.add (Y w1) 3) λr=>aA 197 #[.agg #[.bool F,.slice p.a p.len
 p.cap,.slice q.a q.len q.cap,.slice r.a r.len r.cap],.slice c.a c.len c.cap] b λn26 z=>ab o b z/\((0:Int)<=n26/\n26<=(i.len:Int))/\∃ (s:Int->J->Prop) (A:Int->J->
 Nat),s 0 z/\∀ (n29:Int) (j:J),s n29 j->ak (decide (n29<(((i.len-(Int.toNat n26)):Nat):Int))) (∃B:ae,(aO i.a 1 (Int.toNat n26) i.cap)=some B/\((0:Int)<=n29/\n29<(((i.len-(Int.toNat
 n26)):Nat):Int))/\r1 j (B.add (Int.toNat n29*1)) λn32=>k2 174 #[.pointer t,.int .i64 n32,.int .i64 (av (level-1)),.slice c.a c.len c.cap,.func (.func f.f) f.pre f.cap] j λC n36 u
 =>ak ((n36 !=0)||(!C)) (Q (.tuple #[.bool C,.int .i64 n36]) u) (s (av (n29+1)) u/\A (av (n29+1)) u<A n29 j)) (Q (.tuple #[.bool true,.int .i64 0]) j))))
def ay.uQ:aQ:=(.s .r (.s .r (.s a1 (.s a1 (.s a1 (.s (.s (.cj 8 true ⟨[0,1,0,0,12,18,32,0],[0,1,0,0,12,18,32,0]⟩ [68719476736,137438953472,274877906944,549755813888,1099511627776,2199023255552,
 4398046511104,8796093022208] [4096,68719476736,4096,8,824633720832,1236950581248,2199023255552,0] (.t 0 (.t 1 (.t 2 (.t 3 (.t 7 (.bP 4 (.t 5 (.t 6 .fin))))))))) (.bN (.loop [(43,(.int .i64))] [0,2,3,4,41,42] (.s .r (.s (.c
 .l .l) (.s (.bN (.s .r (.s .r a5))) .r)))))) (.s .r .l)))))))
def af.uR(ac:Int)(B:aj)(C:U)(D:U)(E:U)(x:ae)(F:ae)(c:ae)(G:ae)(w:J)(Q:aa->J->Prop):Prop:=al (w.alloc (.cells #[B,C,D,E] 202)) λw1=>ag w1 ((Y w).add 1) λs2=>∃ (i:Int->J->Prop) (n:Int->J->Nat),i 0 w1/\∀ (n5
 :Int) (b:J),i n5 b->ak (decide (n5<(s2.len:Int))) (∃dx:ae,s2.a=some dx/\aI n5 s2.len/\ag b (dx.add (n5.toNat*1)) λj=>ag b x λH=>bF (λo:aj->J->Prop=>ak (decide ((H.len:Int)>0))
 (ag b x λI=>aA 176 #[j,I] b λn14 K=>o (decide (n14>=0)) K) (o false b)) (λ(L:aj) k=>bF (λp:aj->J->Prop=>ak L (bc k (Y
 w) λM=>p M k) (p false k)) (λ(N:aj) d=>ak N (Q false d) (bF (λq:J->Prop=>bc d (Y w) λO=>bF (λr:aj->J->Prop=>ak O (ag d F λP=>aA 176
 #[j,P] d λn27 R=>r (decide (n27>=0)) R) (r false d)) (λ(S:aj) s=>ak S (al (s.drew) λe=>∃g:Nat->Prop,¬g c.block/\ag e c λT=>
 ¬g ((Y w).add 2).block/\ag e ((Y w).add 2) λt=>∃l:ae,t.a=some l/\aI n5 t.len/\¬g (l.add (n5.toNat*1)).block/\ag e (l.add (n5.toNat*1)) λV=>∃v:Array aa,(∀y:
 J,Sem.run ai (Instr.build 167 #[(0,j),(1,V)]) y=.ok (.agg v) y)/\∃z:U,∃m:J,Sem.run ai (Instr.buildSlice 86 1 #[(0,.agg
 v)]) e=.ok z m/\ab g e m/\∃A:U,∃h:J,Sem.run ai (Builtin.append_ #[86,86] 86 #[T,z]) m=.ok A h/\(∃u:aa,h.cell? c=some u)/\h.frozen? c=false/\al (h.setCell c A) λW=>q W) (q s))) (λf=>ag f c λX=>
 r1 f G λZ=>ak ((X.len:Int)==Z) (Q false f) (i (av (n5+1)) f/\n (av (n5+1)) f<n n5 b)))))) (Q true b)
def ay.uR:aQ:=(.s .r (.s (.s .r (.bN (.loop [(14,(.int .i64))] [2,3,4,5,7,12,13] (.s .r (.s (.c .l .l) (.s (.bN (.s .r (.s (.s (.cV [.r,.r,.r,.r,.split 4,.r,.r,.r,.r,.r,.split 2]) (.c (.s .r .l) .l)) (.s
 (.eH [] [2,3,4,5,7,12,13,14] (.s (.cV [.r,.r,.r,.split 4]) (.c (.cj 9 true ⟨[0,0,0,4,0,24,32,66,128,257,1023],[0,0,0,4,0,24,32,66,128,257,512]⟩ [1099511627776,2199023255552,4398046511104,8796093022208,
 17592186044416,35184372088832,70368744177664,140737488355328,281474976710656,562949953421312,0] [16,1024,128,4398046511104,512,26388279066624,35184372088832,72567767433216,140737488355328,282574488338432,562949953421328] (.t
 0 (.t 1 (.t 2 (.t 3 (.t 4 (.t 5 (.t 6 (.t 7 (.bP 8 (.tail [.r,.r]))))))))))) .l))) a1)))) .r)))))) (.s .r .l)))
def af.rO(s:aq ae)(no:Int)(w:J)(Q:aa->J->Prop):Prop:=aK 218 #[s,no] w λb w1=>bF (λa:aj->J->Prop=>ak b (∃a5:ae,s=some a5/\ag
 w1 (a5.add 1) λc=>aK 214 #[c,no] w1 λd e=>a d e) (a false w1)) (λ(f:aj) g=>Q f g)
def ay.rO:aQ:=(.s .r (.s (.cV [.r,.r,.r,.r,.split 6]) .l))
theorem af.EJ(s:aq ae)(no:Int)(w:J)(Q:aa->J->Prop)(h:af.rO s no w Q):aP ai 183 #[s,no] w Q:=okF (λw Q=>af.rO s no w Q) ay.rO func183 h
def af.uS(size:Int)(w:J)(Q:aa->J->Prop):Prop:=Q (.bool ((decide (size>=1))&&(decide (size<=8)))) w
def ay.uS:aQ:=(.s .r a4)
theorem af.AE(size:Int)(w:J)(Q:aa->J->Prop)(h:af.uS size w Q):aP ai 192 #[size] w Q:=okF (λw Q=>af.uS size w Q) ay.uS func192 h
end Go.Proofs.YtkdhdlfonmgheaaGreat
