/- Printed by gen.py: functions of the program, each as what must be shown of it. -/
import Derived.Test.YtkdhdlfonmgheaaGreatProg
import Derived.Test.YtkdhdlfonmgheaaGreatKFails2
namespace a7
abbrev aS.s:=aS.seq
abbrev aS.l:=aS.leaf
abbrev aS.c:=aS.cond
abbrev aS.r:=aS.cY []
abbrev aN.t:=aN.take
abbrev kS.r:=kS.run
end a7
namespace Go.Proofs.YtkdhdlfonmgheaaGreat
noncomputable abbrev aj:=Tryz.prog
open Go a7 Go.Proofs.Tryz
namespace F
end F
namespace El
end El
namespace G
end G
abbrev aV:d_:=.one (.one .fn)
abbrev e_:d_:=.one (.one .agg)
abbrev gl:d_:=.one (.one .ptr)
abbrev jn:d_:=.one (.one .slice)
abbrev nQ:d_:=.ft [(.one .ptr),(.one (.int .i64))]
abbrev pn:d_:=.ft [(.one .slice),(.one (.int .i64))]
abbrev s9:d_:=.one (.one (.int .i64))
abbrev s_:d_:=.one (.one (.int .u8))
abbrev ta:d_:=.one (.one (.int .u64))
abbrev tb:d_:=.one (.flat [.slice,.slice])
abbrev tc:d_:=.one (.flat [.ptr,.slice,(.int .i64)])
abbrev td:d_:=.one (.flat [.slice,(.int .i64)])
def Em:O d_:=[(.ft []),aV,s9,s9,(.one (.one .bool)),s_,s_,(.one (.flat [(.int .i64),(.int .i64),.bool,(.int .u8)])),(.one (.flat [(.int .i64),(.int .i64),.bool,(.int .u8)])),(.one (.one .str)),(.one (.one .str)),(.one (.one .str)),ta,(.one (.flat [.str,(.int .u64)])),(.one (.flat [.str,(.int .u64)])),gl,gl,gl,(.one (.flat [.ptr])),(.one (.flat [.ptr])),(.one (.one .any)),(.one (.one (.int .i32))),e_,e_,e_,e_,e_,ta,e_,e_,gl,gl,(.ft [(.one .ptr),(.one .ptr),(.one .bool)]),aV,s9,aV,aV,aV,aV,jn,nQ,aV,gl,nQ,aV,(.one (.flat [(.int .i64),(.int .i64),(.int .u64)])),(.one (.flat [(.int .i64),(.int .i64),(.int .u64)])),aV,jn,(.one (.flat [(.int .i64),.slice,.slice,(.int .i64)])),(.one (.flat [(.int .i64),.slice,.slice,(.int .i64)])),aV,(.ft [(.one .bool),(.one (.int .i64))]),aV,aV,aV,aV,aV,jn,e_,e_,(.ft [(.one .agg),(.one .bool),(.one (.int .i64))]),aV,aV,(.ft [(.one (.int .i64)),(.one (.int .i64))]),aV,(.ft [(.one .slice),(.one (.int .i64)),(.one (.int .i64))]),aV,jn,pn,aV,aV,nQ,aV,aV,jn,gl,(.one (.flat [(.int .i64),.slice])),(.one (.flat [(.int .i64),.slice])),aV,aV,aV,jn,(.one (.flat [(.int .i64),(.int .i64),(.int .u8)])),(.one (.flat [(.int .i64),(.int .i64),(.int .u8)])),gl,jn,(.one (.flat [.slice])),(.one (.flat [.slice])),e_,e_,(.one (.flat [(.int .i64),(.int .i64),(.int .i64),.slice,.slice,.slice])),(.one (.flat [(.int .i64),(.int .i64),(.int .i64),.slice,.slice,.slice])),aV,aV,aV,pn,aV,aV,aV,aV,ta,aV,(.one (.flat [(.int .i64),(.int .i64),(.int .i64),(.int .u64),(.int .u64),(.int .i64)])),(.one (.flat [(.int .i64),(.int .i64),(.int .i64),(.int .u64),(.int .u64),(.int .i64)])),aV,(.ft [(.one .bool),(.one .agg)]),aV,aV,aV,aV,aV,aV,aV,(.ft [(.one .slice),(.one .bool),(.one (.int .i64))]),aV,aV,aV,aV,e_,e_,e_,e_,(.ft [(.one .agg),(.one (.int .i64))]),aV,aV,aV,jn,aV,aV,(.ft [(.one .slice),(.one .bool)]),aV,aV,(.one (.flat [.ptr,(.int .i64)])),(.one (.flat [.ptr,(.int .i64)])),aV,jn,(.one (.one .map)),e_,e_,e_,e_,aV,gl,nQ,aV,pn,aV,aV,(.one (.flat [(.int .i64),(.int .u64),.slice])),(.one (.flat [(.int .i64),(.int .u64),.slice])),e_,aV,aV,aV,gl,gl,e_,e_,aV,aV,(.ft [(.one .agg),(.one .bool)]),aV,aV,aV,aV,tb,tb,aV,aV,aV,pn,aV,aV,aV,(.ft [(.one (.int .i64)),(.one .bool)]),aV,aV,aV,aV,aV,e_,e_,(.ft [(.flat [(.int .i64),(.int .i64),(.int .i64),(.int .u64),(.int .u64),(.int .i64)]),(.one (.int .u64)),(.one (.int .i64))]),aV,aV,aV,gl,aV,gl,(.one (.one .map)),e_,e_,aV,(.ft [(.flat [(.int .i64),(.int .i64),(.int .i64),(.int .u64),(.int .u64),(.int .i64)]),(.one (.int .u64)),(.one (.int .i64))]),aV,aV,aV,aV,(.ft [(.flat [(.int .i64),(.int .u64),.slice]),(.one (.int .i64))]),aV,(.one (.flat [.bool,.slice,.slice,.slice])),(.one (.flat [.bool,.slice,.slice,.slice])),(.ft [(.flat [.bool,.slice,.slice,.slice]),(.one .bool)]),aV,gl,aV,jn,tb,tb,(.ft [(.one .agg),(.one .bool)]),aV,aV,aV,gl,jn,aV,(.one (.flat [(.int .i64),.slice,.slice])),(.one (.flat [(.int .i64),.slice,.slice])),(.one (.one (.int .u32))),aV,aV,aV,aV,nQ,aV,nQ,aV,jn,pn,aV,e_,e_,aV,(.ft [(.one (.int .i64)),(.one (.int .i64))]),aV,aV,aV,(.one (.flat [.ptr,.ptr,(.int .u64),(.int .i64),(.int .i64)])),(.one (.flat [.ptr,.ptr,(.int .u64),(.int .i64),(.int .i64)])),aV,(.ft [(.one .slice),(.one (.int .i64)),(.one (.int .i64))]),aV,aV,(.ft [(.one (.int .u64)),(.one .bool)]),aV,(.ft [(.one .agg),(.one .bool)]),aV,aV,(.ft [(.one .slice),(.one .slice)]),aV,aV,aV,aV,aV,aV,aV,(.ft [(.flat [(.int .i64),(.int .i64),(.int .i64),(.int .u64),(.int .u64),(.int .i64)]),(.one (.int .i64)),(.one (.int .u64)),(.one (.int .i64))]),aV,aV,aV,aV,aV,aV,aV,aV,(.one (.flat [(.int .i64),(.int .i64)])),(.one (.flat [(.int .i64),(.int .i64)])),jn,aV,aV,aV,aV,aV,aV,aV,aV,aV,aV,jn,tc,tc,(.ft [(.flat [.bool,.slice,.slice,.slice]),(.one (.int .i64))]),aV,aV,aV,aV,(.one (.flat [.bool,.bool,.bool,(.int .i64),(.int .i64),.slice])),(.one (.flat [.bool,.bool,.bool,(.int .i64),(.int .i64),.slice])),gl,aV,aV,aV,aV,aV,gl,(.one (.flat [.ptr,.slice,.slice])),(.one (.flat [.ptr,.slice,.slice])),(.ft [(.one (.int .i64)),(.one (.int .i64)),(.one (.int .i64))]),aV,aV,gl,tc,tc,aV,aV,aV,aV,nQ,aV,aV,aV,aV,aV,gl,td,td,aV,aV,aV,aV,aV,aV,aV,aV,gl,jn,(.ft [(.one .slice),(.one (.int .i64)),(.one (.int .i64)),(.one (.int .i64))]),aV,aV,aV,pn,aV,td,td,aV,aV,aV,aV,s9,(.ft [(.one (.int .i64)),(.one (.int .i64))]),aV,aV,aV,aV,aV,aV,aV,aV,aV,aV,aV,gl,(.one (.flat [.slice,.bool])),(.one (.flat [.slice,.bool])),aV,aV,e_,aV,aV,aV,aV,aV,aV,ta,aV,aV,gl,aV,aV,aV,gl,aV,(.ft [(.flat [.bool,.slice,.slice,.slice]),(.one .slice),(.flat [.bool,.slice,.slice,.slice]),(.one .bool)]),aV,aV,aV,(.one (.flat [.ptr,.ptr,.ptr,.str])),(.one (.flat [.ptr,.ptr,.ptr,.str])),e_,e_,e_,s_,s_,aV,gl,(.one (.one (.int .i32))),(.one (.one (.int .i32))),e_,e_,gl]
def tk:TypeId->d_:=λt=>Em.getD t (.one (.one .any))
theorem w4:Tryz.prog.follows .mixedOrders=true:=by kernel_rfl
def U(w:J):ae:=w.heap.size
def au(n:Int):Int:=IntKind.wrap .i64 n
def aL(n:Int)(k:Nat):Prop:=(0:Int)<=n/\n<(k:Int)
def ak(c:ai)(A B:Prop):Prop:=(c=true->A)/\(c=false->B)
def ku:Int:=9223372036854775807
def st(w:J)(A:ae)(v:aa)(K:J->Prop):Prop:=(∃u:aa,w.cell? A=some u)/\w.frozen? A=false/\al (w.setCell A v) λw1=>K w1
def kv(w:J)(z:Obj)(l:O aa)(k:Nat)(K:J->Prop):Prop:=al (w.alloc z) λw1=>bA w1 (U w) (Array.toList l.toArray)/\Array.size l.toArray=k/\al (setCells w1 (U w) 0 (Array.toList l.toArray)) λah=>K ah
def te(s:Y)(n:Int)(w:J)(k:Nat)(K:O aa->Prop):Prop:=∃a:ae,s.a=some a/\aL n s.len/\∃l:O aa,cD w (a.add (n.toNat*k)) 0 k=some l/\K l
def aC(f:Nat)(a:Array aa)(w:J)(K:Int->J->Prop):Prop:=Calls aj f a w λe w'=>∃b:Int,e=.returned b/\K b w'
def aU(f:Nat)(a:Array aa)(w:J)(K:J->Prop):Prop:=Calls aj f a w λe w'=>e=.returned (.tuple #[])/\K w'
def aM(f:Nat)(a:Array aa)(w:J)(K:ai->J->Prop):Prop:=Calls aj f a w λe w'=>∃b:ai,e=.returned b/\K b w'
def du(f:Nat)(a:Array aa)(w:J)(K:aq ae->Int->J->Prop):Prop:=Calls aj f a w λe w'=>∃b:aq ae,∃c:Int,e=.returned (.tuple #[b,c])/\K b c w'
def bc(f:Nat)(a:Array aa)(w:J)(K:Y->J->Prop):Prop:=Calls aj f a w λe w'=>∃b:Y,e=.returned b/\K b w'
def b_(f:Nat)(a:Array aa)(w:J)(K:Y->Int->J->Prop):Prop:=Calls aj f a w λe w'=>∃b:Y,∃c:Int,e=.returned (.tuple #[b,c])/\K b c w'
def kx(f:Nat)(a:Array aa)(w:J)(K:Y->ai->Int->J->Prop):Prop:=Calls aj f a w λe w'=>∃b:Y,∃c:ai,∃d:Int,e=.returned (.tuple #[b,c,d])/\K b c d w'
def jZ(f:Nat)(a:Array aa)(w:J)(K:ai->Int->J->Prop):Prop:=Calls aj f a w λe w'=>∃b:ai,∃c:Int,e=.returned (.tuple #[b,c])/\K b c w'
def Al(f:Nat)(a:Array aa)(w:J)(K:Int->Int->Int->Int->Int->Int->Int->Int->J->Prop):Prop:=Calls aj f a w λe w'=>∃b:Int,∃c:Int,∃d:Int,∃g:Int,∃h:Int,∃i:Int,∃j:Int,∃k:Int,e=.returned (.tuple #[.agg #[b,c,d,.int .u64 g,.int .u64 h,i],.int .u64 j,k])/\K b c d g h i j k w'
def gG(f:Nat)(a:Array aa)(w:J)(K:Int->J->Prop):Prop:=Calls aj f a w λe w'=>∃b:Int,e=.returned (.int .u32 b)/\K b w'
def tf(f:Nat)(a:Array aa)(w:J)(K:Array aa->J->Prop):Prop:=Calls aj f a w λe w'=>∃b:Array aa,e=.returned (.agg b)/\K b w'
def gZ(f:Nat)(a:Array aa)(w:J)(K:Int->ai->J->Prop):Prop:=Calls aj f a w λe w'=>∃b:Int,∃c:ai,e=.returned (.tuple #[b,c])/\K b c w'
def eP(f:Nat)(a:Array aa)(w:J)(K:Int->Int->J->Prop):Prop:=Calls aj f a w λe w'=>∃b:Int,∃c:Int,e=.returned (.tuple #[b,c])/\K b c w'
def iF(f:Nat)(a:Array aa)(w:J)(K:ai->Y->Y->Y->ai->J->Prop):Prop:=Calls aj f a w λe w'=>∃b:ai,∃c:Y,∃d:Y,∃g:Y,∃h:ai,e=.returned (.tuple #[.agg #[b,c,d,g],h])/\K b c d g h w'
def po(f:Nat)(a:Array aa)(w:J)(K:Y->Int->Int->J->Prop):Prop:=Calls aj f a w λe w'=>∃b:Y,∃c:Int,∃d:Int,e=.returned (.tuple #[b,c,d])/\K b c d w'
def Am(f:Nat)(a:Array aa)(w:J)(K:Int->Int->Int->Int->Int->Int->Int->Int->Int->J->Prop):Prop:=Calls aj f a w λe w'=>∃b:Int,∃c:Int,∃d:Int,∃g:Int,∃h:Int,∃i:Int,∃j:Int,∃k:Int,∃l:Int,e=.returned (.tuple #[.agg #[b,c,d,.int .u64 g,.int .u64 h,i],j,.int .u64 k,l])/\K b c d g h i j k l w'
def lB(f:Nat)(a:Array aa)(w:J)(K:Int->Int->Y->Int->J->Prop):Prop:=Calls aj f a w λe w'=>∃b:Int,∃c:Int,∃d:Y,∃g:Int,e=.returned (.tuple #[.agg #[b,.int .u64 c,d],g])/\K b c d g w'
def pq(f:Nat)(a:Array aa)(w:J)(K:hK->J->Prop):Prop:=Calls aj f a w λe w'=>∃b:hK,e=.returned (.func (.func b.f) b.pre b.cap)/\K b w'
def g0(f:Nat)(a:Array aa)(w:J)(K:ai->Y->Y->Y->Int->J->Prop):Prop:=Calls aj f a w λe w'=>∃b:ai,∃c:Y,∃d:Y,∃g:Y,∃h:Int,e=.returned (.tuple #[.agg #[b,c,d,g],h])/\K b c d g h w'
def kX(f:Nat)(a:Array aa)(w:J)(K:aq ae->J->Prop):Prop:=Calls aj f a w λe w'=>∃b:aq ae,e=.returned (b)/\K b w'
def gv(f:Nat)(a:Array aa)(w:J)(K:ai->Y->Y->Y->J->Prop):Prop:=Calls aj f a w λe w'=>∃b:ai,∃c:Y,∃d:Y,∃g:Y,e=.returned (.agg #[b,c,d,g])/\K b c d g w'
def pr(f:Nat)(a:Array aa)(w:J)(K:Int->Int->Int->J->Prop):Prop:=Calls aj f a w λe w'=>∃b:Int,∃c:Int,∃d:Int,e=.returned (.tuple #[b,c,d])/\K b c d w'
def jo(f:Nat)(a:Array aa)(w:J)(K:Y->ai->J->Prop):Prop:=Calls aj f a w λe w'=>∃b:Y,∃c:ai,e=.returned (.tuple #[b,c])/\K b c w'
def gw(f:Nat)(a:Array aa)(w:J)(K:Int->J->Prop):Prop:=Calls aj f a w λe w'=>∃b:Int,e=.returned (.int .u64 b)/\K b w'
def nR(f:Nat)(a:Array aa)(w:J)(K:Y->Int->Int->Int->J->Prop):Prop:=Calls aj f a w λe w'=>∃b:Y,∃c:Int,∃d:Int,∃g:Int,e=.returned (.tuple #[b,c,d,g])/\K b c d g w'
def kY(f:Nat)(a:Array aa)(w:J)(K:Int->ai->J->Prop):Prop:=Calls aj f a w λe w'=>∃b:Int,∃c:ai,e=.returned (.tuple #[.int .u64 b,c])/\K b c w'
def pt(f:Nat)(a:Array aa)(w:J)(K:ai->Y->Y->Y->Y->ai->Y->Y->Y->ai->J->Prop):Prop:=Calls aj f a w λe w'=>∃b:ai,∃c:Y,∃d:Y,∃g:Y,∃h:Y,∃i:ai,∃j:Y,∃k:Y,∃l:Y,∃m:ai,e=.returned (.tuple #[.agg #[b,c,d,g],h,.agg #[i,j,k,l],m])/\K b c d g h i j k l m w'
def q6(f:Nat)(a:Array aa)(w:J)(K:Int->Int->Int->J->Prop):Prop:=Calls aj f a w λe w'=>∃b:Int,∃c:Int,∃d:Int,e=.returned (.agg #[b,c,.int .u64 d])/\K b c d w'
def w5(f:Nat)(a:Array aa)(w:J)(K:Int->Int->Int->Y->Y->Y->J->Prop):Prop:=Calls aj f a w λe w'=>∃b:Int,∃c:Int,∃d:Int,∃g:Y,∃h:Y,∃i:Y,e=.returned (.agg #[b,c,d,g,h,i])/\K b c d g h i w'
def An(f:Nat)(a:Array aa)(w:J)(K:ai->Array aa->J->Prop):Prop:=Calls aj f a w λe w'=>∃b:ai,∃c:Array aa,e=.returned (.tuple #[b,.agg c])/\K b c w'
def r1(w:J)(A:ae)(K:Int->Prop):Prop:=∃x:Int,w.cell? A=some (.int .i64 x)/\K x
def b5(w:J)(A:ae)(K:Int->Prop):Prop:=∃x:Int,w.cell? A=some (.int .u8 x)/\K x
def ag(w:J)(A:ae)(K:Y->Prop):Prop:=∃x:Y,w.cell? A=some (.slice x.a x.len x.cap)/\K x
def bD(w:J)(A:ae)(K:Int->Prop):Prop:=∃x:Int,w.cell? A=some (.int .u64 x)/\K x
def a_(w:J)(A:ae)(K:ai->Prop):Prop:=∃x:ai,w.cell? A=some (.bool x)/\K x
def g8:Obj:=.cells #[(0:Int),(0:Int),(0:Int),.int .u64 0,.int .u64 0,(0:Int)] 104
def ct:Obj:=.cells #[false,(),(),()] 202
def z3:Obj:=.cells #[(0:Int),.int .u64 0,()] 150
def z4:Obj:=.cells #[.int .u8 0,.int .u8 0,.int .u8 0,.int .u8 0,.int .u8 0,.int .u8 0,.int .u8 0,.int .u8 0,.int .u8 0,.int .u8 0,.int .u8 0,.int .u8 0,.int .u8 0,.int .u8 0,.int .u8 0,.int .u8 0,.int .u8 0,.int .u8 0,.int .u8 0,.int .u8 0,.int .u8 0,.int .u8 0,.int .u8 0,.int .u8 0,.int .u8 0,.int .u8 0,.int .u8 0,.int .u8 0,.int .u8 0,.int .u8 0,.int .u8 0,.int .u8 0,.int .u8 0,.int .u8 0,.int .u8 0,.int .u8 0,.int .u8 0,.int .u8 0,.int .u8 0,.int .u8 0,.int .u8 0,.int .u8 0,.int .u8 0,.int .u8 0,.int .u8 0,.int .u8 0,.int .u8 0,.int .u8 0,.int .u8 0,.int .u8 0,.int .u8 0,.int .u8 0,.int .u8 0,.int .u8 0,.int .u8 0,.int .u8 0,.int .u8 0,.int .u8 0,.int .u8 0,.int .u8 0,.int .u8 0,.int .u8 0,.int .u8 0,.int .u8 0,.int .u8 0,.int .u8 0,.int .u8 0,.int .u8 0,.int .u8 0,.int .u8 0,.int .u8 0,.int .u8 0,.int .u8 0,.int .u8 0,.int .u8 0,.int .u8 0,.int .u8 0,.int .u8 0,.int .u8 0,.int .u8 0,.int .u8 0,.int .u8 0,.int .u8 0,.int .u8 0,.int .u8 0,.int .u8 0,.int .u8 0,.int .u8 0,.int .u8 0,.int .u8 0,.int .u8 0,.int .u8 0,.int .u8 0,.int .u8 0,.int .u8 0,.int .u8 0,.int .u8 0,.int .u8 0,.int .u8 0,.int .u8 0,.int .u8 0,.int .u8 0,.int .u8 0,.int .u8 0,.int .u8 0,.int .u8 0,.int .u8 0,.int .u8 0,.int .u8 0,.int .u8 0,.int .u8 0,.int .u8 0,.int .u8 0,.int .u8 0,.int .u8 0,.int .u8 0,.int .u8 0,.int .u8 0,.int .u8 0,.int .u8 0,.int .u8 0,.int .u8 0,.int .u8 0,.int .u8 0,.int .u8 0,.int .u8 0,.int .u8 0,.int .u8 0,.int .u8 0,.int .u8 0,.int .u8 0,.int .u8 0,.int .u8 0,.int .u8 0,.int .u8 0,.int .u8 0,.int .u8 0,.int .u8 0,.int .u8 0,.int .u8 0,.int .u8 0,.int .u8 0,.int .u8 0,.int .u8 0,.int .u8 0,.int .u8 0,.int .u8 0,.int .u8 0,.int .u8 0,.int .u8 0,.int .u8 0,.int .u8 0,.int .u8 0,.int .u8 0,.int .u8 0,.int .u8 0,.int .u8 0,.int .u8 0,.int .u8 0,.int .u8 0,.int .u8 0,.int .u8 0,.int .u8 0,.int .u8 0,.int .u8 0,.int .u8 0,.int .u8 0,.int .u8 0,.int .u8 0,.int .u8 0,.int .u8 0,.int .u8 0,.int .u8 0,.int .u8 0,.int .u8 0,.int .u8 0,.int .u8 0,.int .u8 0,.int .u8 0,.int .u8 0,.int .u8 0,.int .u8 0,.int .u8 0,.int .u8 0,.int .u8 0,.int .u8 0,.int .u8 0,.int .u8 0,.int .u8 0,.int .u8 0,.int .u8 0,.int .u8 0,.int .u8 0,.int .u8 0,.int .u8 0,.int .u8 0,.int .u8 0,.int .u8 0,.int .u8 0,.int .u8 0,.int .u8 0,.int .u8 0,.int .u8 0,.int .u8 0,.int .u8 0,.int .u8 0,.int .u8 0,.int .u8 0,.int .u8 0,.int .u8 0,.int .u8 0,.int .u8 0,.int .u8 0,.int .u8 0,.int .u8 0,.int .u8 0,.int .u8 0,.int .u8 0,.int .u8 0,.int .u8 0,.int .u8 0,.int .u8 0,.int .u8 0,.int .u8 0,.int .u8 0,.int .u8 0,.int .u8 0,.int .u8 0,.int .u8 0,.int .u8 0,.int .u8 0,.int .u8 0,.int .u8 0,.int .u8 0,.int .u8 0,.int .u8 0,.int .u8 0,.int .u8 0,.int .u8 0,.int .u8 0,.int .u8 0,.int .u8 0,.int .u8 0,.int .u8 0,.int .u8 0,.int .u8 0,.int .u8 0,.int .u8 0,.int .u8 0,.int .u8 0,.int .u8 0,.int .u8 0,.int .u8 0,.int .u8 0,.int .u8 0,.int .u8 0] 182
def z5:Obj:=.cells #[(),(0:Int)] 334
def tg:Obj:=.cells #[(0:Int),(0:Int),.int .u64 0] 46
def q7:Obj:=.cells #[(0:Int),(0:Int),(0:Int),(),(),()] 92
def q8:Obj:=.cells #[(),(),(0:Int),.int .u64 0,.int .u64 0,.int .u64 0,.int .u64 0] 90
def z9:Obj:=.cells #[.int .u8 97] 5
def a1:aS:=(.s .r (.c (.s .r .l) .l))
def gg:aS:=(.s .r (.s (.c .l .l) (.s (.bP (.s .r a1)) .r)))
def dz:aS:=(.s .r (.s a1 (.s .r .l)))
def fa:aS:=(.s .r (.s (.s .r (.bP (.loop [(8,(.int .i64))] [0,1,7] gg))) (.s .r .l)))
def fj:aS:=(.s .r (.c (.s .r .l) a1))
def hU:aS:=(.s a1 (.s .r (.s .r .l)))
def eW:aS:=(.s (.s .r a1) (.s .r .l))
def g9:aS:=(.s .r (.s (.c .l .l) (.s (.bP (.s .r (.s .r a1))) .r)))
def a2:aS:=(.s .r (.s (.c .l .l) (.s (.bP (.s .r .r)) .r)))
def a3:aS:=(.s .r (.s .r (.s .r .l)))
def a4:aS:=(.s .r (.s (.cY [.r,.r,.r,.pure 2]) .l))
def a5:aS:=(.s (.cY [.r,.r,.r,.pure 2]) (.c (.s .r .l) .l))
def c8:aS:=(.s .r (.s (.cY [.r,.r,.r,.r,.pure 3]) .l))
def dF:aS:=(.s .r (.s .r (.c .r .l)))
def c9:aS:=(.c (.s .r (.s .r .l)) .l)
def a9:aS:=(.s .r (.s (.cY [.r,.r,.r,.pure 2,.r,.r,.r,.split 7]) .l))
def dW:aS:=(.s (.cY [.r,.r,.r,.r,.split 4]) (.c (.s .r .l) .l))
def ec:aS:=(.s (.cY [.r,.r,.r,.r,.pure 2]) (.c (.s .r .l) .l))
def eQ:aS:=(.s (.cY [.r,.r,.r,.split 3]) (.c (.s .r .l) .l))
def dA:aS:=(.s (.cY [.r,.r,.r,.pure 3]) (.c (.s .r .l) .l))
theorem okF{f:Nat}{fn:Func}(p:J->(aa->J->Prop)->Prop)(A:aS){args:O aa}{w:J}{Q:aa->J->Prop}(hf:Tryz.prog.funcs[f]? =some fn)(h:p w Q)(h1:nM fn args.length=true:=by kernel_rfl)(h2:p w Q=pd aj tk A fn args w Q:=by kernel_rfl):aQ aj f args.toArray w Q:=D3 w4 hf h1 (Eq.mp h2 h)
def th(c:Y)(d:J)(e:J)(f:J)(g:J->Prop):Prop:=∃a:Y,∃b:J,Sem.run aj (Builtin.append_ #[127,127] 127 #[c,
 .slice (some (U d)) 1 1]) e=.ok a b/\st b ((U f).add 1) a λh=>g h
def q9(a:J)(ah:J)(Q:aa->J->Prop)(b:ai):Prop:=ag a ((U ah).add 1) λc=>ag a ((U ah).add 2) λd=>ag a ((U ah).add 3) λe=>Q (.tuple #[.agg #[b,c,d,e],false]) a
def q_(a:J)(c:J)(ah:J)(d:ai)(Q:aa->J->Prop):Prop:=ag a ((U c).add 1) λe=>ag a ((U c).add 2) λf=>ag a ((U c).add 3) λg=>bA a (U ah)
 [d,e,f,g]/\(4:Nat)=4/\al (setCells a (U ah) 0 [d,e,f,g]) λb=>a_ b (U ah) λh=>ag b ((U ah).add 1) λi=>ag b ((U ah).add 2) λj=>ag b ((U ah).add 3) λk=>Q (.tuple #[.agg #[h,i,j,k],true]) b
def bO(l:J)(a:J)(m:ai)(n:Y)(o:Y)(p:Y)(b:J)(q:ai)(r:Y)(s:Y)(t:Y)(w:J)(key:Y)(ah:J)(Q:aa->J->Prop):Prop:=bA l (U a)
 [m,n,o,p]/\(4:Nat)=4/\al (setCells l (U a) 0 [m,n,o,p]) λu=>bA u (U b) [q,r,s,t]/\(4:Nat)=4/\al (setCells u (U b) 0 [q,r,s,t]) λf=>bt (λv:J->Prop=>a_ f (U w) λF=>ak (!F) (al (f.drew) λg=>∃h:Nat->Prop,¬h ((U a).add 1).block/\ag g ((U a).add 1)
 λG=>bc 135 #[key] g λH d=>ad h g d/\al (d.alloc (.cells #[H] 48)) λx=>ad h d x/\th G d x a v) (v
 f)) (λi=>ag i ((U a).add 1) λI=>ag i ((U b).add 1) λK=>∃y:Y,∃z:J,Sem.run aj (Builtin.append_ #[127,127] 127 #[I,
 K]) i=.ok y z/\st z ((U a).add 1) y λj=>ag j ((U a).add 2) λL=>ag j ((U b).add 2) λM=>∃A:Y,
 ∃B:J,Sem.run aj (Builtin.append_ #[127,127] 127 #[L,M]) j=.ok A B/\st B ((U a).add 2)
 A λk=>ag k ((U a).add 3) λN=>ag k ((U b).add 3) λO=>∃C:Y,∃D:J,Sem.run aj (Builtin.append_ #[58,58] 58 #[N,O]) k=.ok C D/\st D ((U a).add 3) C λc=>a_ c (U a) λP=>ag c ((U a).add 1) λR=>ag c
 ((U a).add 2) λS=>ag c ((U a).add 3) λT=>aM 203 #[.agg #[P,R,S,T]] c λV e=>ak (!V) (bA
 e (U ah) [false,(),(),()]/\(4:Nat)=4/\al (setCells e (U ah) 0 [false,(),(),()]) λE=>a_ E (U ah) λW=>q9 E ah Q
 W) (a_ e (U a) λX=>q_ e a ah X Q))
def ra(a:J)(b:J)(c:ai)(d:Y)(e:Y)(f:Y)(g:J->Prop):Prop:=bA a (U b) [c,d,e,f]/\(4
 :Nat)=4/\al (setCells a (U b) 0 [c,d,e,f]) λh=>g h
def ti(d:J)(a:J)(e:ai)(f:Y)(g:Y)(h:Y)(i:ai)(Q:aa->J->Prop)(c:aq ae)(n31:Int):Prop:=bA d (U a) [e,f,
 g,h]/\(4:Nat)=4/\al (setCells d (U a) 0 [e,f,g,h]) λb=>
 ak (!i) (Q (.tuple #[(),(0:Int),(0:Int),(4:Int)]) b) (a_ b (U a) λj=>ag b ((U a).add 1) λk=>ag b ((U a).add 2) λl=>ag b ((U a).add 3) λ
 m=>b_ 281 #[c,.agg #[j,k,l,m]] b λn o p=>Q (.tuple #[n,n31,.int .i64 (au (n31+2)),o]) p)
def b6(j:J)(e:J)(q:ai)(r:Y)(s:Y)(t:Y)(V:Nat->Prop)(f:J)(u:ai)(v:Y)(x:Y)(y:Y)(up:aq ae)(n36:Int)(w:J)(h:J)(n31:Int)(Q:aa
 ->J->Prop)(c:aq ae):Prop:=bA j (U e) [q,r,s,t]/\(4:Nat)=4/\al (setCells j (U e) 0 [q,r,s,t]) λk=>ad V j k/\bA k (U f) [u,v,x,y]/\(4:
 Nat)=4/\al (setCells k (U f) 0 [u,v,x,y]) λl=>bt (λz:J->Prop=>∃A:ae,up=some A/\r1 l (A.add 5) λW
 =>ak (decide (n36>W)) (al (l.drew) λd=>∃m:Nat->Prop,¬m ((U w):ae).block/\a_ d (U w) λB=>ag d ((U w).add 1) λC=>ag d ((U w).add 2) λD=>ag d ((U w).add 3) λE
 =>¬m ((U h):ae).block/\a_ d (U h) λX=>ag d ((U h).add 1) λZ=>ag d ((U h).add 2) λab=>ag d ((U h).add 3) λac=>bA d (U e) [B,C,D,E]/\(4:Nat)=4/\al (setCells d (U e) 0 [B,C,D,E]) λF=>ad m d
 F/\ra F f X Z ab ac z) (z l)) (λaf=>al (af.drew) λb=>∃g:Nat->Prop,¬g ((U e):ae).block/\a_ b (U e) λG=>ag b ((U e).add 1) λH=>ag b ((U e).add 2) λ
 I=>ag b ((U e).add 3) λK=>∃n:ae,up=some n/\¬g ((n.add 1).add 1).block/\ag b ((n.add 1).add 1) λL=>∃o:ae,L.a=some o/\aL n31 L.len/\¬g (o.add (n31.toNat*
 1)).block/\ag b (o.add (n31.toNat*1)) λM=>¬g ((U f):ae).block/\a_ b (U f) λN=>ag b ((U f).add 1) λO=>ag b ((U f).add 2) λP=>ag b ((U f).add 3) λ
 R=>(iF 282 #[.agg #[G,H,I,K],M,.agg #[N,O,P,R]] b λah aj am an ao i=>ad g b i/\al (i.alloc ct) λS=>ad g i S/\ti S i ah aj am an ao Q c n31)/\(al (b.alloc ct) λ
 p=>ad g b p/\iF 282 #[.agg #[G,H,I,K],M,.agg #[N,O,
 P,R]] p λap ar au av aw T=>ad g p T/\ti T b ap ar au av aw Q c n31))
def db(a:J)(b:J)(w1:J)(Q:aa->J->Prop):Prop:=a_ a (U b) λc=>q_ a b w1 c Q
def tj(a:J)(c:J)(w1:J)(d:ai)(Q:aa->J->Prop):Prop:=ag a ((U c).add 1) λe=>ag a ((U c).add 2) λf=>ag a ((U c).add 3) λg=>bA a (U w1)
 [d,e,f,g]/\(4:Nat)=4/\al (setCells a (U w1) 0 [d,e,f,g]) λb=>a_ b (U w1) λh=>ag b ((U w1).add 1) λi=>ag b ((U w1).add 2) λj=>ag b ((U w1).add 3) λk=>Q (.agg #[h,i,j,k]) b
def j0(m:J)(b:J)(eP:Array aa)(l:Y)(w:J)(to:Int)(w1:J)(Q:aa->J->Prop):Prop:=bA m (U b) (Array.toList eP)/\Array.size eP=4/\al (setCells m (U b) 0
 (Array.toList eP)) λA=>∃ (h:Int->J->Prop) (n:Int->J->Nat),h 0 A/\∀ (n19:Int) (c:J),h n19 c->ak (decide (n19<(l.len:Int))) (∃i:ae,l.a=some i/\aL n19 l.len/\ag c (i.add
 (n19.toNat*2)) λo=>r1 c ((i.add (n19.toNat*2)).add 1) λn23=>al (c.alloc z5) λp=>bA p (U c) [o,n23]/\(2:Nat)=2/\al (setCells p (U c) 0 [o,n23]) λd=>bt (λq:J->Prop=>ag d (U c) λB=>ak (!(Option.isNone B.a)) (ag d ((U b).add 1) λC=>ag d (U c) λD=>al (d.alloc (.cells #[D] 48)) λE=>th C d E b q) (q d)) (λg=>ag g ((U b).add 3) λF=>r1 g ((U c).add 1) λn36=>al (g.alloc (.cells #[n36] 3)) λG=>∃r:Y,
 ∃s:J,Sem.run aj (Builtin.append_ #[58,58] 58 #[F,.slice (some (U g)) 1 1]) G=.ok r s/\st s ((U b).add 3) r λt=>h (au (n19+1)) t/\n (au (n19+1)) t<n n19 c)) (al (c.drew) λj=>¬False/\ag j ((U b).add 1) λH=>¬False/\ag j ((U w).add 1) λe=>((0:Int)<=(au (to-
 1))/\(au (to-1))<=(e.len:Int))/\∃u:Y,∃v:J,Sem.run aj (Builtin.append_ #[127,127] 127 #[H,.slice (aO e.a 1 ((au (to-1)).toNat) e.cap)
 (e.len-((au (to-1)).toNat)) (e.cap-((au (to-1)).toNat))]) j=.ok u v/\st v ((U b).add 1) u λI=>al (I.drew) λk=>¬False/\ag k
 ((U b).add 3) λK=>¬False/\ag k ((U w).add 3) λf=>((0:Int)<=to/\to<=(f.len:Int))/\∃x:Y,∃y:J,Sem.run aj (Builtin.append_ #[58,58] 58 #[K,.slice (aO f.a 1 (to.toNat) f.cap) (f.len-(to.toNat)) (f.cap-(to.toNat))]) k=.ok x y/\st y ((U b).add 3) x λz=>a_ z (U
 b) λL=>tj z b w1 L Q)
def iZ(o:Array aa)(f:J)(c:Nat->Prop)(p:Array aa)(w1:J)(ah:J)(Q:aa->J->Prop)(q:Y):Prop:=gv 204 #[.agg o] f λg h i j d=>ad c f d/\gv
 204 #[.agg p] d λk l m n b=>ad c d b/\bA b (U w1) [g,h,i,j]/\(4:Nat)=4/\al (setCells b (U w1) 0
 [g,h,i,j]) λe=>ad c b e/\bA e (U ah) [k,l,m,n]/\(4:Nat)=4/\al (setCells e (U ah) 0 [k,l,m,n]) λa=>a_ a (U w1) λr=>ag a ((U w1).add 1) λs=>
 ag a ((U w1).add 2) λt=>ag a ((U w1).add 3) λu=>a_ a (U ah) λv=>ag a ((U ah).add 1) λw=>ag a ((U ah).add 2) λx=>ag a ((U ah).add 3) λy=>Q (.tuple #[.agg
 #[r,s,t,u],q,.agg #[v,w,x,y],true]) a
def gH(a:J)(w1:J)(Q:aa->J->Prop):Prop:=a_ a (U w1) λb=>q9 a w1 Q b
def gI(a:J)(b:J)(w1:J)(Q:aa->J->Prop):Prop:=a_ a (U b) λc=>tj a b w1 c Q
def tm(f:Nat->Prop)(k:J)(g:J)(l:Y)(n:Y)(c:Y)(h:Int)(m:aq ae)(Q:aa->J->Prop):Prop:=ad f k g/\∃i:Y,∃d:J,Sem.run aj (Builtin.append_
 #[86,86] 86 #[l,n]) g=.ok i d/\ad f g d/\∃j:Y,∃b:J,Sem.run aj (Builtin.append_
 #[86,86] 86 #[i,.slice (aO c.a 2 ((au (h+1)).toNat) c.cap) (c.len-((au (h+1)).toNat)) (c.cap-((au (h+1)).toNat))]) d=.ok j b/\ad f d b/\∃e:ae,m=some e/\(∃u:aa,b.cell? e=some u)/\b.frozen? e=false/\al (b.setCell e j) λo=>Q (.tuple #[]) o
def f_(f:Nat->Prop)(k:J)(g:J)(l:Y)(n:Y)(c:Y)(h:Int)(m:aq ae)(Q:aa->J->Prop):Prop:=ad f k g/\∃i:Y,∃d:J,Sem.run aj (Builtin.append_
 #[86,86] 86 #[l,n]) g=.ok i d/\ad f g d/\∃j:Y,∃b:J,Sem.run aj (Builtin.append_
 #[86,86] 86 #[i,.slice (aO c.a 2 (h.toNat) c.cap) (c.len-(h.toNat)) (c.cap-(h.toNat))]) d=.ok j b/\ad f d
 b/\∃e:ae,m=some e/\(∃u:aa,b.cell? e=some u)/\b.frozen? e=false/\al (b.setCell e j) λo=>Q (.tuple #[]) o
def w6(a:J)(w:J)(Q:aa->J->Prop)(n12:Int):Prop:=r1 a (U w) λn13=>r1 a ((U w).add 1) λn14=>r1 a ((U w).add 2) λn15=>bD a ((U w).add 3) λn16=>bD a ((U w).add
 4) λn17=>r1 a ((U w).add 5) λn18=>bA a (U w) [n13,n14,n15,.int .u64 n16,.int .u64 n17,n18]/\(6:Nat)=6/\al (setCells a (U w) 0 [n13,n14,n15,.int .u64 n16,.int .u64 n17,n18]) λb=>r1 b (U w) λn20=>r1 b ((U w).add 1) λn21=>r1 b ((U w).add 2) λn22=>bD b ((U w).add 3) λn23=>bD b ((U w).add 4) λn24
 =>r1 b ((U w).add 5) λn25=>Q (.tuple #[.agg #[n20,n21,n22,.int .u64 n23,.int .u64 n24,n25],.int .u64 0,n12]) b
def tn(a:J)(w:J)(Q:aa->J->Prop)(n7:Int):Prop:=a_ a (U w) λb=>ag a ((U w).add 1) λc=>ag a ((U w).add 2) λd=>ag a ((U w).add 3) λe=>Q (.tuple #[.agg #[b,c,d,e],n7]) a
def Ao(g:Y)(n34:Int)(c:J)(d:J)(n:Int->J->Prop)(h:Int->J->Nat):Prop:=∃i:ae,g.a=some i/\aL n34 g.len/\ag c (i.add (n34.toNat*1)) λo=>al (c.drew) λe
 =>∃f:Nat->Prop,¬f ((U d).add 2).block/\ag e ((U d).add 2) λp=>bc 135 #[o] e λq b=>ad f e b/\al (b.alloc (.cells #[q] 48)) λj=>ad f b j/\∃k:Y,∃l:J,Sem.run aj (Builtin.append_ #[127,127] 127 #[p,.slice (some (U b)) 1 1]) j=
 .ok k l/\st l ((U d).add 2) k λm=>n (au (n34+1)) m/\h (au (n34+1)) m<h n34 c
def Ap(g:Y)(n17:Int)(c:J)(d:J)(m:Int->J->Prop)(h:Int->J->Nat):Prop:=∃g9:ae,g.a=some g9/\aL n17 g.len/\ag c (g9.add (n17.toNat*1)) λn=>al (c.drew) λe
 =>∃f:Nat->Prop,¬f ((U d).add 1).block/\ag e ((U d).add 1) λo=>bc 135 #[n] e λp b=>ad f e b/\al (b.alloc (.cells #[p] 48)) λi=>ad f b i/\∃j:Y,∃k:J,Sem.run aj (Builtin.append_ #[127,127] 127 #[o,.slice (some (U b)) 1 1]) i=
 .ok j k/\st k ((U d).add 1) j λl=>m (au (n17+1)) l/\h (au (n17+1)) l<h n17 c
def pv(c:ai)(b:ai->J->Prop)(a:J)(w:J):Prop:=ak (!c) (b true a) (a_ a (U w) λd=>ag a ((U w).add 1) λe=>ag a ((U w).add 2) λf=>ag a ((U w).add 3) λg
 =>aM 203 #[.agg #[d,e,f,g]] a λh i=>b (!h) i)
def w7(g:J)(ah:J)(w1:J)(h:J->Prop):Prop:=al (g.drew) λb=>∃c:Nat->Prop,¬c ((U ah).add 3).block/\ag b ((U ah).add 3) λi=>aC 272 #[.pointer (some (U
 w1)),(2:Int)] b λn14 a=>ad c b a/\al (a.alloc (.cells #[n14] 3)) λd=>ad c a d/\∃e:Y,∃f:J,Sem.run aj (Builtin.append_ #[58,58] 58 #[i,.slice (some (U a)) 1 1]) d=.ok e f/\st f ((U ah).add 3) e λj=>h j
def rf(a:J)(w:J)(Q:aa->J->Prop):Prop:=a_ a (U w) λb=>ag a ((U w).add 1) λc=>ag a ((U w).add 2) λd=>ag a ((U w).add 3) λe=>Q (.tuple #[.agg #[b,
 c,d,e],(4:Int)]) a
def fD(k:aa)(l:J)(d:aq ae)(m:J->Prop)(f:J->Nat)(n:J):Prop:=∃n15:Int,∃o:aa,∃g:J,Sem.run aj (Instr.entry (k)) l=.ok (.tuple #[n15,o])
 g/\al (g.drew) λb=>∃h:Nat->Prop,∃gg:ae,d=some gg/\¬h (gg.add 4).block/\ag b (gg.add 4) λi=>tf 137 #[d,n15] b λgw c=>ad h b c/\∃e:ae,
 i.a=some e/\aL n15 i.len/\bA c (e.add (n15.toNat*256)) (Array.toList gw)/\Array.size gw=256/\al (setCells c (e.add (n15.toNat*256)) 0 (Array.toList gw)) λj=>m j/\f j<f n
def w8(h:Y)(j:Y)(c:J)(k:Nat->Prop)(l:aq Nat)(i:Int)(d:aq ae)(Q:aa->J->Prop):Prop:=∃e:Y,∃a:J,Sem.run aj (Builtin.append_ #[136,
 136] 136 #[h,j]) c=.ok e a/\ad k c a/\∃b:J,Sem.run aj (Instr.mapUpdate 137
 (.map l) i e) a=.ok () b/\∃f:ae,d=some f/\r1 b (f.add 6) λn24=>∃g:ae,d=some g/\st b (g.add 6) (.int .i64 (au (n24+1))) λm=>Q (0:Int) m
def w9(a:J)(w:J)(Q:aa->J->Prop):Prop:=r1 a (U w) λn35=>r1 a ((U w).add 1) λn36=>r1 a ((U w).add 2) λn37=>bD a ((U w).add 3) λn38=>bD a ((U w).add 4) λ
 n39=>r1 a ((U w).add 5) λn40=>Q (.tuple #[.agg #[n35,n36,n37,.int .u64 n38,.int .u64 n39,n40],(0:Int),.int .u64 0,(4:Int)]) a
def w_(a:Y):Prop:=(0:Int)<=(au (232-(a.len:Int)))/\((au (232-(a.len:Int))):Int)<=(au (232-(a.len:Int)))/\((au (232-(a.len:Int))):Int)<=ku/\((1:Nat):Int)*(au (232-(a.len:Int)))<=
 140737488355328
def tp(a:J)(n6:Int)(d:Y)(e:Y->J->Prop):Prop:=al (a.alloc (.cells #[n6] 3)) λf=>∃b:Y,∃c:J,Sem.run aj (Builtin.append_ #[58,58] 58 #[d,.slice (some (U a)) 1 1]) f=.ok b c/\e b c
def xa(a:J)(c:Y)(d:J)(e:Y)(f:J)(b:Y)(g:Y->J->Prop):Prop:=al (a.alloc (.cells #[c,.slice (some (U d)) (Int.toNat 4) (Int.toNat 4),e,.slice (some (U f)) ((au (232-(b.len:Int))).toNat) ((au (232-(b.len:Int))).toNat)] 48)) λh=>bc 92 #[.slice (some (U a)) 4 4] h λi j=>g i j
def xb(d:aq ae)(a:J)(Q:aa->J->Prop):Prop:=∃b:ae,d=some b/\∃c:aq Nat,a.cell? (b.add 5)=some (.map c)/\∃ (f:aa) (e:J),Sem.run aj (Builtin.clear_
 #[137] 0 #[.map c]) a=.ok f e/\Q (0:Int) e
def xc(b:J)(ah:J)(a:O aa)(Q:aa->J->Prop):Prop:=bA b (U ah) (Array.toList a.toArray)/\Array.size a.toArray=7/\al (setCells b (U ah) 0 (Array.toList a.toArray)) λc=>∃d
 :O aa,cD c (U ah) 0 7=some d/\Q (.tuple #[true,.agg d.toArray]) c
def xd(a:J)(w:J)(Q:aa->J->Prop):Prop:=r1 a (U w) λn9=>bD a ((U w).add 1) λn10=>ag a ((U w).add 2) λb=>Q (.tuple #[.agg #[n9,.int .u64 n10,b],(4:Int)]) a
def xe(b:J)(w:J)(a:O aa)(Q:aa->J->Prop):Prop:=bA b (U w) (Array.toList a.toArray)/\Array.size a.toArray=256/\al (setCells b (U w) 0 (Array.toList a.toArray)) λc=>∃d:O
 aa,cD c (U w) 0 256=some d/\Q (.agg d.toArray) c
def tq(h:J)(b:J)(i:ai)(j:Y)(k:Y)(l:Y)(m:Int)(Q:aa->J->Prop)(c:aq ae)(n41:Int)(w:J)(up:aq ae)(n36:Int)(n31:Int):Prop:=bA h (U b)
 [i,j,k,l]/\(4:Nat)=4/\al (setCells h (U b) 0 [i,j,k,l]) λe=>ak (m !=0) (Q (.tuple #[(),(0:Int),(0:Int),m]) e) (∃n:ae,c=some n/\ag e (n.add 2) λC=>al (e.alloc (.cells #[n41] 3)) λD=>∃o:
 Y,∃p:J,Sem.run aj (Builtin.append_ #[58,58] 58 #[C,.slice (some (U e)) 1 1]) D=.ok o p/\∃q:ae,c=some q/\st p (q.add
 2) o λE=>al (E.drew) λa=>∃d:Nat->Prop,¬d ((U b):ae).block/\a_ a (U b) λr=>ag a ((U b).add 1) λs=>ag a ((U b).add 2) λt=>ag a
 ((U b).add 3) λu=>¬d ((U w):ae).block/\a_ a (U w) λv=>ag a ((U w).add 1) λx=>ag a ((U w).add 2) λy=>ag a ((U w).add 3) λz=>(al (a.alloc ct) λf=>ad d
 a f/\al (f.alloc ct) λA=>ad d f A/\b6 A a r s t u d f v x y z up n36 w b n31 Q c)/\(al (a.alloc ct) λg=>ad d a g/\al (g.alloc ct) λB=>ad d g B/\b6 B
 g r s t u d a v x y z up n36 w b n31 Q c))
def nS(c:ai)(d:Y)(e:Y)(f:Y)(a:J)(g:Nat->Prop)(h:J)(i:ai)(j:Y)(k:Y)(l:Y)(m:J)(w:J)(key:Y)(ah:J)(Q:aa->J->Prop):Prop:=gv
 204 #[.agg #[c,d,e,f]] a λn o p q b=>ad g a b/\bO b h i j k l m n o p q w key ah
 Q
def xf(f:J)(a:J)(gG:Array aa)(w:J)(w1:J)(Q:aa->J->Prop):Prop:=bA f (U a) (Array.toList gG)/\Array.size gG=4/\al (setCells f (U a) 0 (Array.toList gG)) λg=>ag
 g ((U w).add 1) λh=>∃ (c:Int->J->Prop) (j:Int->J->Nat),c 0 g/\∀ (n17:Int) (b:J),c n17 b->ak (decide (n17<(h.len:Int))) (Ap h n17 b a c j) (ag b ((U w).add 2) λ
 i=>∃ (d:Int->J->Prop) (k:Int->J->Nat),d 0 b/\∀ (n34:Int) (e:J),d n34 e->ak (decide (n34<(i.len:Int))) (Ao i n34 e a d k) (gI e a w1 Q))
def xg(a:J)(w:J)(Q:aa->J->Prop)(n7:Int):Prop:=bA a (U w) [false,(),(),()]/\(4:Nat)=4/\al (setCells a (U w) 0 [false,(),
 (),()]) λb=>tn b w Q n7
set_option maxRecDepth 100000
def af.tr(s:Y)(v:Int)(w:J)(Q:aa->J->Prop):Prop:=aC 184 #[s,v] w λa w1=>Q (.bool (decide (a>=0))) w1
def aA.tr:aS:=(.s .r (.s .r .l))
def af.nT(s:Y)(w:J)(Q:aa->J->Prop):Prop:=ak (Option.isNone s.a) (Q () w) (al (w.alloc (.cells #[] 5)) λw1=>∃s2:Y,∃b:J,Sem.run aj
 (Builtin.append_ #[48,48] 48 #[.slice (some (U w)) 0 0,s]) w1=.ok s2 b/\Q s2 b)
def aA.nT:aS:=dz
def af.tu(d:Y)(f:Y)(w:J)(Q:aa->J->Prop):Prop:=ak ((d.len:Int) !=(f.len:Int)) (Q false w) (∃ (g:Int->J->Prop) (h:Int->J->Nat),g 0 w/\∀ (b:Int)
 (e:J),g b e->ak (decide (b<(d.len:Int))) (al (e.drew) λc=>∃c8:ae,d.a=some c8/\aL b d.len/\¬False/\r1 c (c8.add (b.toNat*1)) λn7=>∃c9:ae,f.a=some c9/\aL b f.len/\¬
 False/\r1 c (c9.add (b.toNat*1)) λn9=>ak (n7 !=n9) (Q false c) (g (au (b+1)) c/\h (au (b+1)) c<h b e)) (Q true e))
def aA.tu:aS:=(.s .r (.s a1 (.s (.s .r (.bP (.loop [(13,(.int .i64))] [0,1,12] (.s .r (.s (.c .l .l) (.s (.bP (.s .r (.s (.cr 8 false ⟨[0,0,3,4,0,0,48,64,136],[0,0,3,4,0,0,48,64,136]⟩ [65536,
 131072,262144,524288,1048576,2097152,4194304,8388608,16777216] [1,32,196608,262144,2,32,3145728,4194304,8912896] (.t 0 (.t 1 (.t 2 (.t 3 (.t 4 (.t 5 (.t 6 (.t 7 (.tail [.r])))))))))) (.c (.s .r .l) .l)))) .r)))))) (.s .r
 .l))))
def af.pw(a:Y)(b:Y)(w:J)(Q:aa->J->Prop):Prop:=∃s1:ByteArray,∃ah:J,Sem.run aj (convert 48 9 a) w=.ok (.string s1) ah/\∃c:ByteArray,∃d
 :J,Sem.run aj (convert 48 9 b) ah=.ok (.string c) d/\Q (.bool (ByteArray.toList s1==ByteArray.toList c)) d
def aA.pw:aS:=(.s .r (.s .r .l))
def af.tv(s:Y)(f:hK)(w:J)(Q:aa->J->Prop):Prop:=aC 225 #[s,.func (.func f.f) f.pre f.cap] w λa w1=>Q (.bool (decide (a>=0)))
 w1
def aA.tv:aS:=(.s .r (.s .r .l))
def af.ky(a:Y)(b:Y)(w:J)(Q:aa->J->Prop):Prop:=∃bW:Int,∃ah:J,Sem.run aj (callFunc 230 #[a,b]) w=.ok (.value bW) ah/\Q bW ah
def aA.ky:aS:=(.s .r (.s .r .l))
def af.tw(m:aq Nat)(w:J)(Q:aa->J->Prop):Prop:=al (w.alloc (.cells #[.map m] 137)) λw1=>Q (.func (.func
 232) #[] #[.pointer (some (U w))]) w1
def aA.tw:aS:=(.s .r (.s .r .l))
theorem af.En(m:aq Nat)(w:J)(Q:aa->J->Prop)(h:af.tw m w Q):aQ aj 178 #[.map m] w Q:=okF (λw Q=>af.tw m w Q) aA.tw func178 h
def af.tx(s:Y)(v:Int)(w:J)(Q:aa->J->Prop):Prop:=∃ (d:Int->J->Prop) (e:Int->J->Nat),d 0 w/\∀ (b:Int) (c:J),d b c->ak (decide (b<(s.len:Int))) (∃a5:
 ae,s.a=some a5/\aL b s.len/\r1 c (a5.add (b.toNat*1)) λn6=>ak (v==n6) (Q b c) (d (au (b+1)) c/\e (au (b+1)) c<e b c)) (Q (.int .i64 (-1)) c)
def aA.tx:aS:=fa
def af.tz(s:Y)(w:J)(Q:aa->J->Prop):Prop:=ak (Option.isNone s.a) (Q () w) (al (w.alloc (.cells #[] 5)) λw1=>∃s2:Y,∃b:J,Sem.run aj
 (Builtin.append_ #[215,215] 215 #[.slice (some (U w)) 0 0,s]) w1=.ok s2 b/\Q s2 b)
def aA.tz:aS:=dz
def af.tA(x:Int)(w:J)(Q:aa->J->Prop):Prop:=(0:Int)<=x/\∃cf:UInt8,wu (ByteArray.mk #[0,1,1,2,1,2,2,3,1,2,2,3,2,3,3,4,1,2,2,3,2,3,3,4,2,3,3,4,3,4,4,5,1,2,
 2,3,2,3,3,4,2,3,3,4,3,4,4,5,2,3,3,4,3,4,4,5,3,4,4,5,4,5,5,6,1,2,2,3,2,3,3,4,2,3,3,4,3,4,4,5,2,3,3,4,3,4,4,5,3,4,4,5,4,5,5,6,2,3,3,4,3,4,4,5,3,4,4,5,4,5,5,6,3,4,
 4,5,4,5,5,6,4,5,5,6,5,6,6,7,1,2,2,3,2,3,3,4,2,3,3,4,3,4,4,5,2,3,3,4,3,4,4,5,3,4,4,5,4,5,5,6,2,3,3,4,3,4,4,5,3,4,4,5,4,5,5,6,3,4,4,5,4,5,5,6,4,5,5,6,5,6,6,7,2,3,
 3,4,3,4,4,5,3,4,4,5,4,5,5,6,3,4,4,5,4,5,5,6,4,5,5,6,5,6,6,7,3,4,4,5,4,5,5,6,4,5,5,6,5,6,6,7,4,5,5,6,5,6,6,7,5,6,6,7,6,7,7,8]) (x.toNat)=some cf/\Q (.int .i64 (au ((cf.toNat
 :Nat):Int))) w
def aA.tA:aS:=(.s .r (.s .r .l))
def af.tB(s:Y)(i:Int)(j:Int)(w:J)(Q:aa->J->Prop):Prop:=((0:Int)<=(s.len:Int)/\(s.len:Int)<=(s.cap:Int))/\((0:Int)<=j/\j<=(((Int.toNat (s.len:Int)):Nat):
 Int))/\((0:Int)<=i/\i<=(((j.toNat):Nat):Int))/\ak (i==j) (Q s w) (al (w.drew) λw1=>((0:Int)<=i/\i<=(s.cap:Int))/\((0:Int)<=j/\j<=(s.len:Int))/\∃s2:Y,∃b:J,
 Sem.run aj (Builtin.append_ #[127,127] 127 #[.slice (aO s.a 1 0 s.cap) ((i.toNat)-0) (s.cap-0),.slice (aO s.a 1 (j.toNat) s.cap) (s.len-(j.toNat)) (s.cap-(j.toNat))]) w1
 =.ok s2 b/\((0:Int)<=(s.len:Int)/\(s.len:Int)<=(s2.cap:Int))/\((0:Int)<=(s2.len:Int)/\(s2.len:Int)<=(((Int.toNat (s.len:Int)):Nat):Int))/\∃ (bD:aa) (c:J),Sem.run aj
 (Builtin.clear_ #[127] 0 #[.slice (aO s2.a 1 (Int.toNat (s2.len:Int)) s2.cap) ((Int.toNat (s.len:Int))-(Int.toNat (s2.len:Int))) (s2.cap-(Int.toNat (s2.len:Int)))]) b=.ok bD c/\Q s2 c)
def aA.tB:aS:=(.s .r (.s .r (.s a1 (.s .r (.s (.cr 6 false ⟨[0,0,3,0,0,24,36,127],[0,0,3,0,0,24,36,73]⟩ [1048576,2097152,4194304,8388608,16777216,33554432,67108864,1] [1,2,3145728,
 1,4,25165824,37748736,67108864] (.t 0 (.t 1 (.t 2 (.t 3 (.t 4 (.t 5 (.tail [.r,.r])))))))) (.s .r (.s .r .l)))))))
def af.tC(s:Y)(i:Int)(v:Y)(w:J)(Q:aa->J->Prop):Prop:=((0:Int)<=i/\i<=(s.len:Int))/\ak ((v.len:Int)==0) (Q s w) (ak (i==(s.len:Int)) (∃s1:Y,
 ∃ah:J,Sem.run aj (Builtin.append_ #[127,127] 127 #[s,v]) w=.ok s1 ah/\Q s1 ah) (ak (decide
 (((au ((s.len:Int)+(v.len:Int))):Int)>(s.cap:Int))) (((0:Int)<=i/\i<=(s.cap:Int))/\∃b:Y,∃d:J,Sem.run aj (Builtin.append_ #[127,3] 127 #[.slice (aO s.a 1 0
 s.cap) ((i.toNat)-0) (s.cap-0),.int .i64 (au ((au ((s.len:Int)+(v.len:Int)))-i))]) w=.ok b d/\((0:Int)<=i/\i<=(b.len:Int))/\∃n5:Int,∃e:J,Sem.run aj (Builtin.copy_
 #[127,127] 3 #[.slice (aO b.a 1 (i.toNat) b.cap) (b.len-(i.toNat)) (b.cap-(i.toNat)),v]) d=.ok n5 e/\al (e.drew) λl=>((0:Int)<=(au (i+
 (v.len:Int)))/\(au (i+(v.len:Int)))<=(b.len:Int))/\((0:Int)<=i/\i<=(s.len:Int))/\∃n8:Int,∃f:J,Sem.run aj (Builtin.copy_ #[127,127] 3 #[.slice (aO b.a 1 ((au (i+
 (v.len:Int))).toNat) b.cap) (b.len-((au (i+(v.len:Int))).toNat)) (b.cap-((au (i+(v.len:Int))).toNat)),.slice (aO s.a 1 (i.toNat) s.cap) (s.len-(i.toNat)) (s.cap-(i.toNat))]) l=.ok n8 f/\Q
 b f) (((0:Int)<=(au ((s.len:Int)+(v.len:Int)))/\(au ((s.len:Int)+(v.len:Int)))<=(s.cap:Int))/\((0:Int)<=(au (i+(v.len:Int)))/\(au (i+(v.len:Int)))<=(((((au ((s.len:Int)+
 (v.len:Int))).toNat)-0):Nat):Int))/\∃g:ai,∃c:J,Sem.run aj (callFunc 252 #[v,.slice (aO (aO s.a 1 0 s.cap) 1 ((au (i+(v.len:Int))).toNat) (s.cap-0))
 ((((au ((s.len:Int)+(v.len:Int))).toNat)-0)-((au (i+(v.len:Int))).toNat)) ((s.cap-0)-((au (i+(v.len:Int))).toNat))]) w=.ok (.value g) c/\ak (!g) (al (c.drew) λm=>((0:Int)<=(au (i+
 (v.len:Int)))/\(au (i+(v.len:Int)))<=(((((au ((s.len:Int)+(v.len:Int))).toNat)-0):Nat):Int))/\((0:Int)<=i/\i<=(((((au ((s.len:Int)+(v.len:Int))).toNat)-0):Nat):Int))/\∃n13:Int,∃h:J,Sem.run
 aj (Builtin.copy_ #[127,127] 3 #[.slice (aO (aO s.a 1 0 s.cap) 1 ((au (i+(v.len:Int))).toNat) (s.cap-0)) ((((au ((s.len:Int)+(v.len:Int))).toNat)-0)-((au (i+
 (v.len:Int))).toNat)) ((s.cap-0)-((au (i+(v.len:Int))).toNat)),.slice (aO (aO s.a 1 0 s.cap) 1 (i.toNat) (s.cap-0)) ((((au ((s.len:Int)+(v.len:Int))).toNat)-0)-(i.toNat)) ((s.cap-0)-(i.toNat))]) m=
 .ok n13 h/\((0:Int)<=i/\i<=(((((au ((s.len:Int)+(v.len:Int))).toNat)-0):Nat):Int))/\∃n15:Int,∃j:J,Sem.run aj (Builtin.copy_ #[127,127] 3 #[.slice (aO (aO
 s.a 1 0 s.cap) 1 (i.toNat) (s.cap-0)) ((((au ((s.len:Int)+(v.len:Int))).toNat)-0)-(i.toNat)) ((s.cap-0)-(i.toNat)),v]) h=.ok n15 j/\Q (.slice (aO s.a 1 0 s.cap)
 (((au ((s.len:Int)+(v.len:Int))).toNat)-0) (s.cap-0)) j) (((0:Int)<=(s.len:Int)/\(s.len:Int)<=(((((au ((s.len:Int)+(v.len:Int))).toNat)-0):Nat):Int))/\∃n17:Int,∃k:J,Sem.run aj
 (Builtin.copy_ #[127,127] 3 #[.slice (aO (aO s.a 1 0 s.cap) 1 (Int.toNat (s.len:Int)) (s.cap-0)) ((((au ((s.len:Int)+(v.len:Int))).toNat)-0)-(Int.toNat (s.len:Int))) ((s.cap-0)-(Int.toNat
 (s.len:Int))),v]) c=.ok n17 k/\((0:Int)<=i/\i<=(((((au ((s.len:Int)+(v.len:Int))).toNat)-0):Nat):Int))/\aU 253 #[.slice (aO (aO s.a 1 0 s.cap) 1
 (i.toNat) (s.cap-0)) ((((au ((s.len:Int)+(v.len:Int))).toNat)-0)-(i.toNat)) ((s.cap-0)-(i.toNat)),.int .i64 (v.len:Int)] k λn=>Q (.slice (aO s.a 1 0 s.cap) (((au ((s.len:Int)+
 (v.len:Int))).toNat)-0) (s.cap-0)) n))))
def aA.tC:aS:=(.s .r (.s .r (.s .r (.s a1 (.s .r (.s a1 (.s (.s .r (.c (.s .r (.s .r (.s (.cr 8 false ⟨[0,0,0,6,9,0,0,96,144],[0,0,0,6,9,0,0,96,144]⟩ [70368744177664,140737488355328,
 281474976710656,562949953421312,1125899906842624,2251799813685248,4503599627370496,9007199254740992,18014398509481984] [512,2,128,422212465065984,633318697598976,1,2,6755399441055744,10133099161583616] (.t 0 (.t 1 (.t 2 (.t 3
 (.t 4 (.t 5 (.t 6 (.t 7 (.tail [.r])))))))))) (.s .r .l)))) .l)) (.s .r (.s (.s .r (.c (.s (.cr 8 false ⟨[0,0,0,6,9,0,0,96,144],[0,0,0,6,9,0,0,96,144]⟩ [590295810358705651712,1180591620717411303424,
 2361183241434822606848,4722366482869645213696,9444732965739290427392,18889465931478580854784,37778931862957161709568,75557863725914323419136,151115727451828646838272] [1,2,128,3541774862152233910272,5312662293228350865408,1,2,
 56668397794435742564352,85002596691653613846528] (.t 0 (.t 1 (.t 2 (.t 3 (.t 4 (.t 5 (.t 6 (.t 7 (.tail [.r])))))))))) (.s .r (.s .r .l))) .l)) a3)))))))))
def af.rh(s:Y)(f:hK)(w:J)(Q:aa->J->Prop):Prop:=∃ (d:Int->J->Prop) (g:Int->J->Nat),d 0 w/\∀ (b:Int) (c:J),d b c->ak (decide (b<(s.len:Int))) (∃a5
 :ae,s.a=some a5/\aL b s.len/\b5 c (a5.add (b.toNat*1)) λn6=>iD aj f.f/\Calls aj f.f (f.pre++ #[.int .u8 n6]++f.cap) c λi e=>∃h:ai,i=.returned h/\ak h (Q b e) (d (au (b+1)) e/\g (au (b+1)) e<g b c)) (Q (.int .i64 (-1)) c)
def aA.rh:aS:=fa
theorem af.Eo(s:Y)(f:hK)(w:J)(Q:aa->J->Prop)(h:af.rh s f w Q):aQ aj 225 #[s,.func (.func f.f) f.pre f.cap] w Q:=okF (λw Q=>af.rh s f w Q) aA.rh func225 h
def af.tD(x:Y)(target:Y)(cmp:hK)(w:J)(Q:aa->J->Prop):Prop:=∃ (e:Int->Int->J->Prop) (g:Int->Int->J->Nat),e 0 (x.len:Int) w/\∀ (b:Int)
 (c:Int) (d:J),e b c d->ak (decide (b<c)) ((0:Int)<=1/\∃c8:ae,x.a=some c8/\((0:Int)<=(au (Int.fdiv (IntKind.wrap .u64 (au (b+c))) (2^(min (Int.toNat 1) 64))))/\(au (Int.fdiv (IntKind.wrap .u64 (au
 (b+c))) (2^(min (Int.toNat 1) 64))))<(x.len:Int))/\ag d (c8.add (Int.toNat (au (Int.fdiv (IntKind.wrap .u64 (au (b+c))) (2^(min (Int.toNat 1) 64))))*1)) λi=>iD aj cmp.f/\Calls aj cmp.f (cmp.pre
 ++ #[.slice i.a i.len i.cap,.slice target.a target.len target.cap]++cmp.cap) d λl h=>∃n10:Int,l=.returned (.int .i64 n10)/\ak (decide (n10<0)) (e (au ((au (Int.fdiv (IntKind.wrap .u64 (au (b+c))) (2^(min
 (Int.toNat 1) 64))))+1)) c h/\g (au ((au (Int.fdiv (IntKind.wrap .u64 (au (b+c))) (2^(min (Int.toNat 1) 64))))+1)) c h<g b c d) (e b (au (Int.fdiv (IntKind.wrap .u64 (au (b+c))) (2^(min (Int.toNat 1) 64)))) h
 /\g b (au (Int.fdiv (IntKind.wrap .u64 (au (b+c))) (2^(min (Int.toNat 1) 64)))) h<g b c d)) (bt (λk:ai->J->Prop=>ak (decide (b<(x.len:Int))) (∃eQ:ae,x.a=some eQ/\aL b x.len/\ag d (eQ.add
 (Int.toNat b*1)) λj=>iD aj cmp.f/\Calls aj cmp.f (cmp.pre++ #[.slice j.a j.len j.cap,.slice target.a target.len target.cap]++cmp.cap) d λm n=>∃n16:Int,m=.returned (.int .i64 n16)/\
 k (n16==0) n) (k false d)) (λ(o:ai) p=>Q (.tuple #[.int .i64 b,.bool o]) p))
def aA.tD:aS:=(.s .r (.s .r (.s .r (.s (.bP (.loop [(9,(.int .i64)),(10,(.int .i64))] [0,1,2,8] (.s (.s .r (.c .l .l)) (.bP (.s .r (.s .r (.c .r .r))))))) (.s (.cY [.r,.r,.r,.r,
 .r,.split 8]) .l)))))
def af.tE(s:Y)(f:hK)(w:J)(Q:aa->J->Prop):Prop:=aC 278 #[s,.func (.func f.f) f.pre f.cap] w λa w1=>Q (.bool
 (decide (a>=0))) w1
def aA.tE:aS:=(.s .r (.s .r .l))
def af.tF(s:Y)(f:hK)(w:J)(Q:aa->J->Prop):Prop:=aC 279 #[s,.func (.func f.f) f.pre f.cap] w λa w1=>Q (.bool (decide (a>=0))) w1
def aA.tF:aS:=(.s .r (.s .r .l))
def af.tG(s:Y)(w:J)(Q:aa->J->Prop):Prop:=ak (Option.isNone s.a) (Q () w) (al (w.alloc (.cells #[] 3)) λw1=>∃s2:Y,∃b:J,Sem.run aj (Builtin.append_
 #[58,58] 58 #[.slice (some (U w)) 0 0,s]) w1=.ok s2 b/\Q s2 b)
def aA.tG:aS:=dz
set_option maxRecDepth 100000
def af.ri(s:Y)(f:hK)(w:J)(Q:aa->J->Prop):Prop:=∃ (d:Int->J->Prop) (h:Int->J->Nat),d 0 w/\∀ (b:Int) (c:J),d b c->ak (decide (b<(s.len:Int)))
 (∃a5:ae,s.a=some a5/\aL b s.len/\ag c (a5.add (Int.toNat b*1)) λe=>iD aj f.f/\Calls aj f.f (f.pre++ #[.slice e.a e.len e.cap]++f.cap) c λj g=>∃i:ai,j=.returned (.bool i)/\
 ak i (Q (.int .i64 b) g) (d (au (b+1)) g/\h (au (b+1)) g<h b c)) (Q (.int .i64 (-1)) c)
def aA.ri:aS:=fa
theorem af.Ep(s:Y)(f:hK)(w:J)(Q:aa->J->Prop)(h:af.ri s f w Q):aQ aj 278 #[.slice s.a s.len s.cap,.func (.func f.f) f.pre f.cap] w Q:=okF (λw Q=>af.ri s f w Q) aA.ri func278 h
def af.rj(s:Y)(f:hK)(w:J)(Q:aa->J->Prop):Prop:=∃ (d:Int->J->Prop) (g:Int->J->Nat),d 0 w/\∀ (b:Int) (c:J),d b c->ak (decide (b<(s.len:Int))) (∃a5:
 ae,s.a=some a5/\aL b s.len/\r1 c (a5.add (Int.toNat b*1)) λn6=>iD aj f.f/\Calls aj f.f (f.pre++ #[.int .i64 n6]++f.cap) c λi e=>∃h:ai,i=.returned (.bool h)/\ak h (Q (.int .i64
 b) e) (d (au (b+1)) e/\g (au (b+1)) e<g b c)) (Q (.int .i64 (-1)) c)
def aA.rj:aS:=fa
theorem af.Er(s:Y)(f:hK)(w:J)(Q:aa->J->Prop)(h:af.rj s f w Q):aQ aj 279 #[.slice s.a s.len s.cap,.func (.func f.f) f.pre f.cap] w Q:=okF (λw Q=>af.rj s f w Q) aA.rj func279 h
def af.tH(s:Y)(w:J)(Q:aa->J->Prop):Prop:=ak (Option.isNone s.a) (Q () w) (al (w.alloc (.cells #[] 48)) λw1=>∃s2:Y,∃b:J,Sem.run aj
 (Builtin.append_ #[127,127] 127 #[.slice (some (U w)) 0 0,s]) w1=.ok s2 b/\Q s2 b)
def aA.tH:aS:=dz
set_option maxRecDepth 100000
def af.nU(n:Int)(w:J)(Q:aa->J->Prop):Prop:=ak ((decide (n<16))||(decide (n>1600))) (Q (.tuple #[.pointer none,(1:Int)]) w) (((0:Int)<=n/\n<=n/\n<=ku/\((256:Nat):Int)*n<=
 140737488355328)/\al (w.alloc (.cells (g7 aj 182 (n.toNat)) 182)) λw1=>∃b:aq Nat,∃a:J,Sem.run aj (Instr.makeMap 137 none) w1=.ok (.map b) a/\∃du:
 Array aa,Sem.run aj (Instr.build 141 #[(1,.slice (some (U w)) (n.toNat) (n.toNat)),(2,.map b)]) a=.ok (.agg du) a/\al (a.alloc (.cells du 141)) λc=>∃c8:ae,(some (U a):aq
 ae)=some c8/\aU 69 #[.pointer (some c8)] c λd=>Q (.tuple #[.pointer (some (U a)),(0:Int)]) d)
def aA.nU:aS:=(.s .r (.s a5 a3))
def af.nV(d:aq ae)(r:Int)(s:Int)(t:Int)(w:J)(Q:aa->J->Prop):Prop:=al (w.alloc (.cells #[r,s,.int .u64 t] 46)) λw1=>
 r1 w1 (U w) λbw=>r1 w1 ((U w).add 1) λu=>bD w1 ((U w).add 2) λv=>aM 70 #[d,.agg #[bw,u,.int .u64 v]] w1 λx l=>ak (!x) (Q (.tuple #[.pointer none,(1:Int)]) l) (aC 72 #[d] l λn10 y=>du 71 #[n10,(3:Int)] y λm n14 n=>ak (n14 !=0) (Q (.tuple #[.pointer none,n14]) n) (bc 74 #[m] n λ
 z A=>b_ 73 #[(2:Int),.agg #[(4:Int),.int .u64 1,z]] A λB n21 f=>ak (n21 !=0) (Q (.tuple #[.pointer none,n21]) f) (((0:Int)<=256/\(256:Int)<=256/\(256:
 Int)<=ku/\((1:Nat):Int)*256<=140737488355328)/\al (f.alloc (.cells (g7 aj 5 (Int.toNat 256)) 5)) λi=>∃jo:Array aa,Sem.run aj (Instr.build 151 #[(0,.slice (some (U f))
 (Int.toNat 256) (Int.toNat 256)),(1,.slice (some (U f)) (Int.toNat 256) (Int.toNat 256)),(2,B)]) i=.ok (.agg jo) i/\∃ (j:Int->J->Prop) (o:Int->J->Nat),j 0 i/\∀ (n26:Int)
 (g:J),j n26 g->ak (decide (n26<3)) (((0:Int)<=n26/\n26<((3:Nat):Int))/\∃h:Y,cellAt jo (n26.toNat*1)=some (.slice h.a h.len h.cap)/\aC 75 #[d,n26,h] g λn31 k=>ak (n31 !=0) (Q (.tuple #[.pointer none,n31]) k) (j (au (n26+1)) k/\o (au (n26+1)) k<o n26 g)) (aC 76 #[d] g λn34 b=>ak (n34 !=0)
 (Q (.tuple #[.pointer none,n34]) b) (al (b.alloc g8) λp=>bA p (U b) [(0:Int),(0:Int),(2:Int),.int .u64 0,.int .u64 0,(0:Int)]/\(6:Nat)=6/\al (setCells p (U b) 0 [(0:Int),
 .int .i64 0,(2:Int),.int .u64 0,.int .u64 0,(0:Int)]) λe=>r1 e (U b) λn37=>r1 e ((U b).add 1) λn38=>r1 e ((U b).add 2) λn39=>bD e ((U b).add 3) λn40=>bD e (Addr.add
 (U b) 4) λn41=>r1 e ((U b).add 5) λC=>aC 77 #[d,.agg #[n37,n38,n39,.int .u64 n40,.int .u64 n41,C],.int .u64 1] e λq c=>ak (q !=0)
 (Q (.tuple #[.pointer none,q]) c) (r1 c (U w) λD=>r1 c ((U w).add 1) λE=>bD c ((U w).add 2) λF=>r1 c (U b) λG=>r1 c ((U b).add 1) λH=>r1 c ((U
 b).add 2) λI=>bD c ((U b).add 3) λK=>bD c ((U b).add 4) λL=>r1 c ((U b).add 5) λM=>du 78 #[d,.agg #[D,E,.int .u64 F],.agg #[G,H,I,.int .u64 K,.int .u64 L,M],.int .u64 1,m] c λN O P=>Q (.tuple #[N,O]) P))))))
def aA.nV:aS:=(.s .r (.s a1 (.s .r (.s a1 (.s .r (.s a1 (.s .r (.s (.s .r (.bP (.loop [(44,(.int .i64))] [0,3,6,43] g9))) (.s (.s .r a1) (.s .r eW))))))))))
theorem af.Es(d:aq ae)(a:Int)(b:Int)(c:Int)(w:J)(Q:aa->J->Prop)(h:af.nV d a b c w Q):aQ aj 19 #[d,.agg #[a,b,.int .u64 c]] w Q:=okF (λw Q=>af.nV d a b c w Q) aA.nV func19 h
def af.tI(s:aq ae)(key:Y)(w:J)(Q:aa->J->Prop):Prop:=bt (λbE:ai->J->Prop=>ak (Option.isNone s) (bE true w) (aM 79 #[key] w λh ah=>bE
 (!h) ah)) (λ(i:ai) a=>ak i (Q (.tuple #[false,(1:Int)]) a) (∃dF:ae,s=some dF/\a_ a (dF.add 18) λj=>ak j (Q (.tuple #[false,(8:Int)]) a) (∃a9:ae,s=some a9/\∃d:aq ae,
 a.cell? a9=some (d)/\kx 80 #[d,key] a λo k n15 b=>ak (n15 !=0) (aC 81 #[s,n15] b λn18 l=>Q (.tuple #[false,
 n18]) l) (ak (!k) (Q (.tuple #[false,(0:Int)]) b) (aC 82 #[s] b λn21 c=>ak (n21==0) (Q (.tuple #[false,(2:Int)]) c) (∃e:ae,s=some e/\∃f:aq
 ae,c.cell? e=some (f)/\jZ 83 #[f,key] c λp n27 g=>ak (n27 !=0) (aC 81 #[s,n27] g λn30 m=>Q (.tuple #[false,n30]) m) (aC 84 #[s,.int .i64 (-1)] g λn33 n=>Q (.tuple #[.bool (n33==0),n33]) n)))))))
def aA.tI:aS:=(.s .r (.s (.bP (.s (.cY [.r,.r,.r,.split 3]) (.c (.s .r .l) a1))) (.s .r (.s (.bP (.s .r (.c (.s .r .l) fj))) (.s (.s .r a1) (.s .r (.s .r .l)))))))
def af.tJ(s:aq ae)(key:Y)(val:Y)(w:J)(Q:aa->J->Prop):Prop:=bt (λbE:ai->J->Prop=>ak (Option.isNone s) (bE true w) (aM 79 #[key] w λh
 ah=>bE (!h) ah)) (λ(i:ai) a=>ak (i||(decide ((val.len:Int)>24))) (Q (1:Int) a) (∃dF:ae,s=some dF/\a_ a (dF.add 18) λj=>ak j (Q (8:Int) a) (aC 82 #[s] a λn11 b
 =>ak (n11==0) (Q (2:Int) b) (∃eQ:ae,s=some eQ/\∃e:aq ae,b.cell? eQ=some (e)/\kx 80 #[e,key] b λp k n18 c=>ak (n18 !=0) (aC
 81 #[s,n18] c λn21 l=>Q n21 l) (∃f:ae,s=some f/\∃g:aq ae,c.cell? f=some (g)/\aC 85 #[g,key,val] c λn26 d=>ak (n26 !=0) (aC 81 #[s,n26] d λn29 m=>Q n29 m) (ak k (aC 84 #[s,(0:Int)] d λn32 n
 =>Q n32 n) (aC 84 #[s,(1:Int)] d λn35 o=>Q n35 o)))))))
def aA.tJ:aS:=(.s .r (.s (.bP (.s (.cY [.r,.r,.r,.split 3,.r,.r,.r,.r,.pure 3]) (.c (.s .r .l) fj))) (.s .r (.s a1 (.s (.s .r a1) (.s a1 (.s .r .l)))))))
def af.tK(s:aq ae)(w:J)(Q:aa->J->Prop):Prop:=ak (Option.isNone s) (Q (1:Int) w) (∃a1:ae,s=some a1/\a_ w (a1.add 18) λbS=>ak bS (Q (8:Int) w) (aC 94
 #[s] w λn5 a=>Q n5 a))
def aA.tK:aS:=(.s .r (.s (.bP fj) (.s .r .l)))
def af.px(d:aq ae)(j:Int)(k:Int)(l:Int)(w:J)(Q:aa->J->Prop):Prop:=al (w.alloc (.cells #[j,k,.int .u64 l] 46)) λw1=>
 r1 w1 (U w) λbw=>r1 w1 ((U w).add 1) λm=>bD w1 ((U w).add 2) λn=>aM 70 #[d,.agg #[bw,m,.int .u64 n]] w1 λo f=>ak (!o) (Q (.tuple #[.pointer none,(1:Int)]) f) (Al 109 #[d] f λn10 n11 n12 n13 n14 n15 n16 n17 a=>al (a.alloc g8) λg=>bA g (U a) [n10,n11,n12,.int .u64 n13,.int .u64 n14,n15]/\(6:Nat)=6
 /\al (setCells g (U a) 0 [n10,n11,n12,.int .u64 n13,.int .u64 n14,n15]) λc=>ak (n17 !=0) (Q (.tuple #[.pointer none,n17]) c) (r1 c ((U a).add 2) λn20=>du
 110 #[d,n20] c λp n24 b=>ak (n24 !=0) (Q (.tuple #[.pointer none,n24]) b) (r1 b (U w) λn25=>r1 b ((U w).add 1) λn26=>bD b ((U w).add 2) λn27=>r1 b
 (U a) λn28=>r1 b ((U a).add 1) λn29=>r1 b ((U a).add 2) λn30=>bD b ((U a).add 3) λn31=>bD b ((U a).add 4) λn32=>r1 b ((U a).add 5) λn33=>du 78
 #[d,.agg #[n25,n26,.int .u64 n27],.agg #[n28,n29,n30,.int .u64 n31,.int .u64 n32,n33],.int .u64 n16,p] b λh n37 e=>ak (n37 !=0) (Q
 (.tuple #[.pointer none,(4:Int)]) e) (r1 e ((U a).add 5) λn38=>aC 86 #[h,n38] e λn41 i=>ak (n41 !=0) (Q (.tuple #[.pointer none,n41]) i) (Q (.tuple
 #[h,(0:Int)]) i)))))
def aA.px:aS:=(.s .r (.s a1 (.s .r (.s a1 (.s .r (.s a1 (.s .r (.s a1 eW))))))))
def af.tL(s:aq ae)(a:Y)(to:Y)(most:Int)(w:J)(Q:aa->J->Prop):Prop:=ak (Option.isNone s) (Q (.tuple #[(),(1:Int)]) w) (∃a1:ae,s=some a1/\∃bq:aq
 ae,w.cell? a1=some (bq)/\b_ 111 #[bq,a,to,most] w λb n6 c=>Q (.tuple #[b,n6]) c)
def aA.tL:aS:=dz
def af.nW(d:aq ae)(a:Int)(after:Int)(w:J)(Q:aa->J->Prop):Prop:=ak ((((Option.isNone d)||(decide (a<1)))||(decide (a>3)))||(decide (after<0))) (Q (1:Int) w) (∃a1:
 ae,d=some a1/\((0:Int)<=a/\a<((4:Nat):Int))/\st w (Addr.add a1 (a.toNat*1)) after λah=>Q (0:Int) ah)
def aA.nW:aS:=(.s .r (.s (.s (.cY [.r,.r,.r,.pure 2,.r,.r,.r,.pure 2,.r,.r,.r,.pure 2]) (.c (.s .r .l) .l)) (.s .r (.s .r .l))))
def af.tM(d:aq ae)(l:Y)(w:J)(Q:aa->J->Prop):Prop:=ak (Option.isNone d) (Q (.tuple #[]) w) (bc 112 #[d] w λi w1=>∃ (j:Int->J->Prop) (q:Int->J->
 Nat),j 0 w1/\∀ (n6:Int) (b:J),j n6 b->ak (decide (n6<(i.len:Int))) (bt (λr:J->Prop=>∃a9:ae,i.a=some a9/\aL n6 i.len/\r1 b (a9.add (n6.toNat*1)) λn10=>bt (λs:ai->J->Prop
 =>ak (decide (n6>=(l.len:Int))) (s true b) (∃eQ:ae,l.a=some eQ/\aL n6 l.len/\r1 b (eQ.add (n6.toNat*1)) λn13=>s (decide (n13<=0)) b)) (λ(C:ai) k=>ak C (r k) (∃fj:ae,d=some fj/\∃
 t:aq Nat,k.cell? (fj.add 5)=some (.map t)/\∃e:Y,∃u:J,Sem.run aj (Instr.lookup 137 (.map t) n10 false) k=.ok e u/\al (u.drew)
 λf=>∃g:Nat->Prop,∃m:ae,d=some m/\¬g (m.add 4).block/\ag f (m.add 4) λv=>∃n:ae,l.a=some n/\aL n6 l.len/\¬g (n.add (n6.toNat*1)).block/\r1 f (n.add (n6.toNat*1))
 λn25=>∃n26:Int,∃c:J,Sem.run aj (Builtin.min_ #[3,3] 3 #[n25,.int .i64 (e.len:Int)]) f=.ok n26 c/\ad g f c/\∃o:ae,e.a=some o/\aL (au (n26-1))
 e.len/\¬g (o.add ((au (n26-1)).toNat*256)).block/\∃h:O aa,cD c (o.add ((au (n26-1)).toNat*256)) 0 256=some h/\∃p:ae,v.a=some p/\aL n10 v.len/\bA c (p.add
 (n10.toNat*256)) (Array.toList h.toArray)/\Array.size h.toArray=256/\al (setCells c (p.add (n10.toNat*256)) 0 (Array.toList h.toArray)) λD=>r D))) (λx=>j (au (n6+1)) x/\q (au (n6+1)) x<
 q n6 b)) (∃y:ae,d=some y/\∃z:aq Nat,b.cell? (y.add 5)=some (.map z)/\∃ (E:aa) (A:J),Sem.run aj (Builtin.clear_ #[137] 0 #[.map z]) b=.ok E A/\∃B:
 ae,d=some B/\aU 69 #[.pointer (some B)] A λF=>Q (.tuple #[]) F))
def aA.tM:aS:=(.s (.s .r (.c .l .l)) (.s (.s .r (.bP (.loop [(12,(.int .i64))] [0,1,10,11] (.s .r (.s (.c .l .l) (.s (.eF [] [0,1,10,11,12] (.bP (.s .r (.s (.s (.cY [.r,.r,.r,.r,.r,.split 5]) (.c .l .l)) (.s
 .r (.cr 16 true ⟨[0,1,2,4,0,0,0,0,192,256,0,1024,2560,4096,8224,16384,65535,131071],[0,1,2,4,0,0,0,0,192,256,0,1024,2560,4096,8224,16384,24,98304]⟩ [17179869184,34359738368,68719476736,137438953472,
 274877906944,549755813888,1099511627776,2199023255552,4398046511104,8796093022208,17592186044416,35184372088832,70368744177664,140737488355328,281474976710656,562949953421312,1125899906842624,0] [1,17179869184,34359738368,
 68719476736,32,64,2,16,3298534883328,4398046511104,64,17592186044416,43980465111040,70368744177664,141287244169216,281474976710656,412316860416,1688849860263936] (.t 0 (.t 1 (.t 2 (.t 3 (.t 4 (.t 5 (.t 6 (.t 7 (.t 8 (.t 9 (.t
 10 (.t 11 (.bR 12 (.t 13 (.t 14 (.t 15 (.tail [.r,.r]))))))))))))))))))))))) .r)))))) (.s .r .r)))
def af.xh(s:aq ae)(w:J)(Q:aa->J->Prop):Prop:=bt (λbE:ai->J->Prop=>ak (!(Option.isNone s)) (∃a2:ae,s=some a2/\a_ w (a2.add 18) λa=>bE a w) (bE false w)) (λ(b:
 ai) c=>Q b c)
def aA.xh:aS:=(.s .r (.s (.cY [.r,.r,.r,.split 4]) .l))
def af.xi(d:aq ae)(w:J)(Q:aa->J->Prop):Prop:=ak (Option.isNone d) (Q (0:Int) w) (∃a1:ae,d=some a1/\r1 w (a1.add 6) λbw=>Q bw w)
def aA.xi:aS:=dz
def af.tN(s:aq ae)(now:Int)(w:J)(Q:aa->J->Prop):Prop:=ak (Option.isNone s) (Q (1:Int) w) (∃a1:ae,s=some a1/\bD w (a1.add 14) λbw=>∃b:Int,∃c:J,Sem.run
 aj (Builtin.max_ #[27,27] 27 #[.int .u64 bw,.int .u64 now]) w=.ok (.int .u64 b) c/\∃a5:ae,s=some a5/\st c (a5.add 14) (.int .u64 b) λd=>al (d.drew) λa=>∃c9:ae,s=some c9/\¬
 False/\r1 a (c9.add 16) λn9=>ak (n9==0) (ak true (Q (0:Int) a) (aC 94 #[s] a λn12 e=>Q n12 e)) (∃dA:ae,s=some dA/\¬False/\bD a (dA.add 14) λn14=>∃fa:
 ae,s=some fa/\¬False/\bD a (fa.add 15) λn16=>∃hU:ae,s=some hU/\¬False/\bD a ((hU.add 4).add 2) λn18=>ak (decide (((IntKind.wrap .u64 (n14-n16)):Int)<n18)) (Q (0:Int) a) (aC
 94 #[s] a λn21 f=>Q n21 f)))
def aA.tN:aS:=(.s .r (.s a1 (.s .r (.s (.s (.cr 20 false ⟨[0,1,2,4,8,16,32,96,160,288,32,1056,2080,4128,8736,32,32800,65568,131104,262176,540704,1048608],[0,1,2,4,8,16,32,96,160,288,32,
 1056,2080,4128,8736,32,32800,65568,131104,262176,540704,1048608]⟩ [65536,131072,262144,524288,1048576,2097152,4194304,8388608,16777216,33554432,67108864,134217728,268435456,536870912,1073741824,2147483648,
 4294967296,8589934592,17179869184,34359738368,68719476736,137438953472] [1,65536,131072,262144,524288,1048576,2097153,6291456,10485760,18874368,2097153,69206016,136314880,270532608,572522496,2097153,2149580800,
 4297064448,8592031744,17181966336,35435577344,68721573888] (.t 0 (.t 1 (.t 2 (.t 3 (.t 4 (.t 5 (.sp 21 (.t 6 (.t 7 (.t 8 (.t 9 (.t 10 (.t 11 (.t 12 (.t 13 (.t 14 (.t 15 (.t 16 (.t 17 (.t 18 (.t 19 (.tail [.r,.r]))))))))))))))) (.t 6
 (.t 7 (.t 8 (.t 9 (.t 10 (.t 11 (.t 12 (.t 13 (.t 14 (.t 15 (.t 16 (.t 17 (.t 18 (.t 19 (.tail [.r,.r]))))))))))))))))))))))) (.c (.s .r .l) .l)) (.s .r .l)))))
def af.xj(s:aq ae)(w:J)(Q:aa->J->Prop):Prop:=ak (Option.isNone s) (Q (0:Int) w) (∃a1:ae,s=some a1/\r1 w (a1.add 16) λbw=>Q bw w)
def aA.xj:aS:=dz
def af.tO(s:aq ae)(key:Y)(w:J)(Q:aa->J->Prop):Prop:=ak (Option.isNone s) (Q (.tuple #[(),false,(1:Int)]) w) (∃a1:ae,s=some a1/\∃bq:aq ae,w.cell? a1
 =some (bq)/\kx 80 #[bq,key] w λa b n7 c=>Q (.tuple #[a,b,n7]) c)
def aA.tO:aS:=dz
def af.xk(s:aq ae)(w:J)(Q:aa->J->Prop):Prop:=ak (Option.isNone s) (Q (0:Int) w) (aC 82 #[s] w λa w1=>Q a w1)
def aA.xk:aS:=dz
def af.tP(f:aq ae)(w:J)(Q:aa->J->Prop):Prop:=∃ (c:Int->J->Prop) (d:Int->J->Nat),c 0 w/\∀ (a:Int) (b:J),c a b->ak (decide (a<4)) (∃a5:ae,f=some a5/\
 ((0:Int)<=a/\a<((4:Nat):Int))/\st b (Addr.add a5 (a.toNat*1)) (.int .i64 (-1)) λe=>c (au (a+1)) e/\d (au (a+1)) e<d a b) (Q (.tuple #[]) b)
def aA.tP:aS:=(.s .r (.bP (.loop [(3,(.int .i64))] [0] a2)))
def af.nX(d:aq ae)(l:Int)(m:Int)(n:Int)(w:J)(Q:aa->J->Prop):Prop:=al (w.alloc (.cells #[l,m,.int .u64 n] 46)) λw1=>
 bt (λbG:ai->J->Prop=>ak (!(Option.isNone d)) (r1 w1 (U w) λo=>bG (decide (o>=8)) w1) (bG false w1)) (λ(p:ai) a=>bt (λg:ai->J->Prop=>ak p (r1 a (U w) λn7=>g (decide (n7<=64)) a)
 (g false a)) (λ(q:ai) b=>bt (λh:ai->J->Prop=>ak q (r1 b ((U w).add 1) λn11=>h (decide (n11>=1)) b) (h false b)) (λ(r:ai) c=>bt (λi:ai->J->Prop=>ak r (r1 c
 ((U w).add 1) λn15=>i (decide (n15<=1000)) c) (i false c)) (λ(s:ai) e=>bt (λj:ai->J->Prop=>ak s (bD e ((U w).add 2) λn19=>j (decide (n19>=1)) e) (j false e)) (λ
 (t:ai) f=>bt (λk:ai->J->Prop=>ak t (bD f ((U w).add 2) λn23=>k (decide (n23<=1048576)) f) (k false f)) (λ(u:ai) v=>Q u v))))))
def aA.nX:aS:=(.s .r (.s (.cY [.r,.r,.r,.split 3,.r,.r,.r,.r,.split 3,.r,.r,.r,.r,.split 3,.r,.r,.r,.r,.split 3,.r,.r,.r,.r,.split 3,.r,.r,.r,.r,.split 3]) .l))
def af.py(n:Int)(first:Int)(w:J)(Q:aa->J->Prop):Prop:=aM 128 #[n] w λg w1=>ak (((!g)||(decide (first<0)))||(decide (first>n))) (Q (.tuple #[.pointer none,(1:Int)])
 w1) (aC 129 #[n] w1 λn6 d=>((0:Int)<=n6/\n6<=n6/\n6<=ku/\((1:Nat):Int)*n6<=140737488355328)/\al (d.alloc (.cells (g7 aj 5 (n6.toNat)) 5)) λb=>al (b.alloc (.cells
 #[n,.slice (some (U d)) (n6.toNat) (n6.toNat),()] 218)) λh=>∃ (c:Int->J->Prop) (e:Int->J->Nat),c 0 h/\∀ (n11:Int) (a:J),c n11 a->ak (decide (n11<
 first)) (∃dA:ae,(some (U b):aq ae)=some dA/\ag a (dA.add 1) λi=>aU 130 #[i,n11] a λf=>c (au (n11+1)) f/\e (au (n11+1)) f<e n11 a)
 (aU 131 #[.pointer (some (U b))] a λj=>Q (.tuple #[.pointer (some (U b)),(0:Int)]) j))
def aA.py:aS:=(.s .r (.s (.s (.cY [.r,.r,.r,.r,.pure 2,.r,.r,.r,.pure 3]) (.c (.s .r .l) .l)) (.s .r (.s (.s .r (.bP (.loop [(27,(.int .i64))] [6,26] a2))) (.s .r (.s .r .l))))))
def af.tQ(d:aq ae)(w:J)(Q:aa->J->Prop):Prop:=ak (Option.isNone d) (Q (0:Int) w) (∃a1:ae,d=some a1/\ag w (a1.add 4) λs2=>Q (.int .i64 (s2.len:Int)) w)
def aA.tQ:aS:=dz
def af.tR(no:Int)(u:Int)(v:Int)(x:Y)(w:J)(Q:aa->J->Prop):Prop:=al (w.alloc (.cells #[u,.int .u64 v,x] 150)) λw1=>
 aM 132 #[no] w1 λy ah=>bt (λj:ai->J->Prop=>ak (!y) (j true ah) (r1 ah (U w) λn6=>aM 133 #[n6] ah λz A=>j (!z) A)) (λ(B:ai) f=>ak B (Q (.tuple #[(),(1:Int)]) f) (ag f ((U w).add 2) λC=>ak (decide ((C.len:Int)>232)) (Q (.tuple #[(),(10:Int)]) f) (al (f.alloc (.cells #[.int .u8 83,.int .u8 84,.int .u8 78,.int .u8 67] 5))
 λD=>∃k:Y,∃g:J,Sem.run aj (convert 48 48 (.slice (some (U f)) 4 4)) D=.ok k g/\r1 g (U w) λn16=>al (g.alloc (.cells #[.int .u8 1,.int .u8
 (IntKind.wrap .u8 n16)] 5)) λl=>al (l.alloc (.cells #[k,.slice (some (U g)) 2 2] 48)) λE=>bc 92 #[.slice (some (U l)) 2 2] E λF m=>ag m ((U w).add
 2) λG=>bc 126 #[F,.int .u64 (IntKind.wrap .u64 (G.len:Int)),(2:Int)] m λH I=>bc 126 #[H,.int .u64 (IntKind.wrap .u64 no),(4:Int)] I λK
 n=>bD n ((U w).add 1) λn29=>bc 126 #[K,.int .u64 n29,(8:Int)] n λo L=>bt (λp:Y->J->Prop=>al (L.drew) λb=>∃d:Nat->Prop,¬d ((U w).add
 2).block/\ag b ((U w).add 2) λq=>¬d ((U w).add 2).block/\ag b ((U w).add 2) λe=>(((0:Int)<=4/\(4:Int)<=4/\(4:Int)<=ku/\((1:Nat):Int)*4<=140737488355328)/\al (b.alloc (.cells
 (g7 aj 5 (Int.toNat 4)) 5)) λh=>ad d b h/\(w_ e)/\al (h.alloc (.cells (g7 aj 5 ((au (232-(e.len:Int))).toNat)) 5)) λr=>ad d h r/\xa r o b q
 h e p)/\((w_ e)/\al (b.alloc (.cells (g7 aj 5 ((au (232-(e.len:Int))).toNat)) 5)) λi=>ad d b i/\((0:Int)<=4/\(4:Int)<=4/\(4:Int)<=ku/\((1:Nat):Int)*4<=
 140737488355328)/\al (i.alloc (.cells (g7 aj 5 (Int.toNat 4)) 5)) λs=>ad d i s/\xa s o i q b e p)) (λ(c:Y) M=>al (M.drew) λN=>∃V:Nat->Prop,((0:Int)<=20/\
 20<=(c.len:Int))/\gG 134 #[c] N λO P=>∃W:Nat->Prop,bc 126 #[(),.int .u64 (IntKind.wrap .u64 O),(4:Int)] P λR S=>∃T:Int,∃t:J,
 Sem.run aj (Builtin.copy_ #[48,48] 3 #[.slice (aO c.a 1 (Int.toNat 20) c.cap) (c.len-(Int.toNat 20)) (c.cap-(Int.toNat 20)),R]) S=.ok T t/\Q
 (.tuple #[c,(0:Int)]) t))))
def aA.tR:aS:=(.s .r (.s (.bP (.s (.cY [.r,.r,.r,.r,.split 4]) (.c (.s .r .l) a1))) (.s .r (.s .r (.s .r (.s .r (.s (.eF [(6,.slice)] [] (.cr 9 true ⟨[0,0,0,4,0,16,32,64,128,267,512,2047],[0,0,0,4,0,16,
 32,64,128,267,512,1025]⟩ [17592186044416,35184372088832,70368744177664,140737488355328,281474976710656,562949953421312,1125899906842624,2251799813685248,4503599627370496,9007199254740992,18014398509481984,64] [64,0,8,
 70368744177664,8,281474976710656,562949953421312,1125899906842624,2251799813685248,4697113673859072,9007199254740992,18014398509481984] (.t 0 (.t 2 (.t 3 (.t 4 (.t 5 (.t 6 (.t 7 (.two 1 (.bR 8 (.tail [.r,.r,.r])) 8 (.bR 1 (.tail
 [.r,.r,.r])))))))))))) (.s (.cr 6 true ⟨[0,1,0,4,8,24,34],[0,1,0,4,8,16,34]⟩ [36028797018963968,72057594037927936,144115188075855872,288230376151711744,576460752303423488,1152921504606846976,2305843009213693952] [64,
 36028797018963968,64,144115188075855872,288230376151711744,576460752303423488,1224979098644774912] (.t 0 (.t 1 (.t 2 (.out 3 true (.t 4 (.out 5 false (.tail [.r])))))))) (.s .r .l)))))))))
def af.rk(s:aq ae)(w:J)(Q:aa->J->Prop):Prop:=ak (Option.isNone s) (Q () w) (∃a1:ae,s=some a1/\ag w (a1.add 1) λs2=>bc 135 #[s2] w λa b=>Q a b)
def aA.rk:aS:=dz
theorem af.Et(s:aq ae)(w:J)(Q:aa->J->Prop)(h:af.rk s w Q):aQ aj 74 #[s] w Q:=okF (λw Q=>af.rk s w Q) aA.rk func74 h
def af.tS(d:aq ae)(i:Int)(b:Y)(w:J)(Q:aa->J->Prop):Prop:=aM 108 #[d,i] w λs w1=>ak ((!s)||((b.len:Int) !=256)) (Q (1:Int) w1) (∃a4:ae,
 d=some a4/\aM 136 #[.pointer (some a4),(2:Int)] w1 λt n=>ak t (Q (3:Int) n) (al (n.drew) λe=>∃c:Nat->Prop,∃dW:ae,d=some dW/\¬c (dW.add 5).block/\∃h:aq Nat,e.cell?
 (dW.add 5)=some (.map h)/\∃eQ:ae,d=some eQ/\¬c (eQ.add 5).block/\∃j:aq Nat,e.cell? (eQ.add 5)=some (.map j)/\256<=b.len/\∃dz:ae,b.a=some dz/\¬c dz.block/\∃k:O aa,cD e
 dz 0 256=some k/\(∃o:Y,∃f:J,Sem.run aj (Instr.lookup 137 (.map j) i false) e=.ok o f/\ad c e f/\∃p:Y,∃l:J,Sem.run
 aj (Instr.buildSlice 136 1 #[(0,.agg k.toArray)]) f=.ok p l/\ad c f l/\w8 o p l c h i d Q)/\(∃q:Y,∃g:J,Sem.run aj (Instr.buildSlice
 136 1 #[(0,.agg k.toArray)]) e=.ok q g/\ad c e g/\∃r:Y,∃m:J,Sem.run aj (Instr.lookup 137 (.map j) i false) g=.ok r m/\ad c g m/\w8 r q m c h i d Q)))
def aA.tS:aS:=(.s .r (.s (.bP (.s (.cY [.r,.r,.r,.r,.r,.pure 3]) (.c (.s .r .l) a1))) (.s (.cr 16 true ⟨[0,1,2,4,0,0,32,64,128,0,768,0,2048,4096,8192,17408,65535],[0,1,2,4,0,0,32,64,128,0,
 768,0,2048,4096,8192,17408,32792]⟩ [4194304,8388608,16777216,33554432,67108864,134217728,268435456,536870912,1073741824,2147483648,4294967296,8589934592,17179869184,34359738368,68719476736,137438953472,0] [1,4194304,
 8388608,16777216,2,1,134217728,268435456,536870912,2,3221225472,4,8589934592,17179869184,34359738368,73014444032,137539616768] (.t 0 (.t 1 (.t 2 (.t 3 (.t 4 (.t 5 (.t 6 (.t 7 (.t 8 (.t 9 (.t 11 (.t 12 (.t 13 (.two 10 (.bR 14
 (.bR 15 (.tail [.r]))) 14 (.bR 10 (.bR 15 (.tail [.r])))))))))))))))))) (.s .r (.s .r .l)))))
def af.tT(d:aq ae)(w:J)(Q:aa->J->Prop):Prop:=ak (Option.isNone d) (Q (1:Int) w) (∃a1:ae,d=some a1/\aM 136 #[.pointer (some a1),(3:Int)] w λj ah=>ak j (Q
 (3:Int) ah) (∃a5:ae,d=some a5/\∃g:aq Nat,ah.cell? (a5.add 5)=some (.map g)/\∃ (a:aa) (h:J),Sem.run aj (Instr.range 137 (.map g)) ah=.ok a h/\∃ (c:J->Prop)
 (i:J->Nat),c h/\∀ (b:J),c b->(∃ (k:aa) (l:aa) (e:J),Sem.run aj (Instr.next (a) false 0) b=.ok (.tuple #[true,k,l]) e/\ak true (fD a e d c i b) (xb d e
 Q))\/(∃f:J,Sem.run aj (Instr.next (a) false 0) b=.ok (.tuple #[false]) f/\ak false (fD a f d c i b) (xb d f Q))))
def aA.tT:aS:=(.s .r (.s (.bP fj) (.s (.s .r (.bP (.loop [] [0,16] (.s .r (.s (.c .l .l) (.bP (.s (.cY [.sN [(.one (.int .i64)),(.one .any)]]) (.cr 8 true ⟨[0,1,2,4,0,0,0,96,255,511],[0,1,2,4,0,0,0,
 96,24,384]⟩ [2097152,4194304,8388608,16777216,33554432,67108864,134217728,268435456,536870912,0] [1,2097152,4194304,8388608,8,1,8,201326592,50331648,805306368] (.t 0 (.t 1 (.t 2 (.t 3 (.t 4 (.t 5 (.t 6 (.bR 7 (.tail
 [.r,.r]))))))))))))))))) (.s .r (.s .r .l)))))
def af.mV(d:aq ae)(h:Int)(i:Int)(j:Int)(k:Int)(l:Int)(m:Int)(gen:Int)(w:J)(Q:aa->J->Prop):Prop:=al (w.alloc (.cells #[h,i,j,.int .u64 k,.int .u64 l,m] 104)) λw1=>(2:Int)≠0/\al (w1.drew) λah=>∃b:Nat->Prop,¬b ((U w):ae).block/\r1 ah (U w) λn=>r1 ah (Addr.add
 (U w) 1) λn5=>r1 ah ((U w).add 2) λn6=>bD ah ((U w).add 3) λn7=>bD ah ((U w).add 4) λn8=>r1 ah ((U w).add 5) λn9=>aC 72 #[d] ah λn12 c=>ad b ah c/\bc
 138 #[.agg #[n,n5,n6,.int .u64 n7,.int .u64 n8,n9],n12] c λo e=>∃p:Nat->Prop,∃lB:Array aa,(∀f:J,Sem.run aj (Instr.build 150
 #[(0,.int .i64 3),(1,.int .u64 gen),(2,o)]) f=.ok (.agg lB) f)/\b_ 73 #[.int .i64 (au (Int.tmod gen 2)),.agg lB] e λq n22 a=>ad p e a/\ak (n22 !=0) (Q n22
 a) (aC 75 #[d,.int .i64 (au (Int.tmod gen 2)),q] a λn25 g=>ak (n25 !=0) (Q n25 g) (aC 76 #[d] g λn28 r=>Q n28
 r))
def aA.mV:aS:=(.s .r (.s .r (.s (.cr 12 true ⟨[0,0,0,0,8,20,34,97,128,256,256,1023,4095],[0,0,0,0,8,20,34,65,128,256,256,512,1024]⟩ [32768,65536,131072,262144,524288,1048576,2097152,4194304,
 16384,8388608,16777216,256,512] [128,4,16,1,262144,655360,1114112,2129920,4194304,16384,16384,8388608,16777216] (.t 0 (.t 1 (.t 2 (.t 3 (.bR 4 (.out 5 true (.t 6 (.bR 7 (.t 8 (.t 9 (.t 10 (.t 11 (.tail [.r]))))))))))))))
 (.s a1 eW))))
theorem af.Eu(d:aq ae)(a:Int)(b:Int)(c:Int)(e:Int)(f:Int)(g:Int)(gen:Int)(w:J)(Q:aa->J->Prop)(h:af.mV d a b c e f g gen w Q):aQ aj 77 #[d,.agg #[a,b,c,.int .u64 e,.int .u64 f,g],.int .u64 gen] w Q:=okF (λw Q=>af.mV d a b c e f g gen w Q) aA.mV func77 h
set_option maxRecDepth 100000
def af.mW(d:aq ae)(e:Int)(f:Int)(g:Int)(h:Int)(i:Int)(j:Int)(k:Int)(l:Int)(m:Int)(gen:Int)(s:aq ae)(w:J)(Q:aa->J
 ->Prop):Prop:=al (w.alloc (.cells #[e,f,.int .u64 g] 46)) λw1=>al (w1.alloc (.cells #[h,i,j,.int .u64 k,.int .u64 l,
 m] 104)) λah=>r1 ah (U w) λn=>du 139 #[d,n] ah λc n7 b=>ak (n7 !=0) (Q (.tuple #[.pointer none,n7]) b) (r1 b (U w1) λn8=>r1 b ((U w1).add 1)
 λn9=>du 140 #[c,s,.int .u64 (IntKind.wrap .u64 (gen+1)),n8,n9] b λo n13 a=>ak (n13 !=0) (Q (.tuple #[.pointer none,n13]) a) (r1 a (U w) λn14=>r1 a
 ((U w).add 1) λn15=>bD a ((U w).add 2) λn16=>r1 a (U w1) λn17=>r1 a ((U w1).add 1) λn18=>r1 a ((U w1).add 2) λn19=>bD a ((U w1).add 3) λn20=>bD a ((U w1).add 4)
 λn21=>r1 a ((U w1).add 5) λn22=>bD a ((U w1).add 3) λn23=>r1 a ((U w1).add 5) λn24=>∃nR:Array aa,Sem.run aj (Instr.build 158 #[(0,o),(1,d),(2,
 c),(3,s),(4,.agg #[n14,n15,.int .u64 n16]),(5,.agg #[n17,n18,n19,.int .u64 n20,.int .u64 n21,n22]),(6,.int .u64 gen),(7,.int .u64 n23),(10,
 n24)]) a=.ok (.agg nR) a/\al (a.alloc (.cells nR 158)) λp=>Q (.tuple #[.pointer (some (U a)),(0:Int)]) p))
def aA.mW:aS:=(.s .r (.s .r (.s a1 dz)))
theorem af.Ev(d:aq ae)(a:Int)(b:Int)(c:Int)(e:Int)(f:Int)(g:Int)(i:Int)(j:Int)(k:Int)(gen:Int)(s:aq ae)(w:J)(Q:aa->J->Prop)(h:af.mW d a b c e f g i j k gen s w Q):aQ aj 78 #[d,.agg #[a,b,.int .u64 c],.agg #[e,f,g,.int .u64 i,.int .u64 j,k],.int .u64 gen,s] w Q:=okF (λw Q=>af.mW d a b c e f g i j k gen s w Q) aA.mW func78 h
def af.pz(a:Y)(w:J)(Q:aa->J->Prop):Prop:=Q (.bool ((decide ((a.len:Int)>=1))&&(decide ((a.len:Int)<=24)))) w
def aA.pz:aS:=c8
def af.tU(t:aq ae)(key:Y)(w:J)(Q:aa->J->Prop):Prop:=bt (λbE:ai->J->Prop=>ak (Option.isNone t) (bE true w) (aM 141 #[key] w λn ah=>bE (!n)
 ah)) (λ(o:ai) f=>ak o (ak (Option.isNone t) (Q (.tuple #[(),false,(1:Int)]) f) (Q (.tuple #[(),false,(0:Int)]) f)) (b_ 142 #[t,key] f λc n10 b=>ak ((n10 !=0)||((c.len:Int)==0)) (Q (.tuple #[(),false,n10]) b) (∃ec:ae,c.a=some ec/\((0:Int)<=(au ((c.len:Int)-1))/\(au ((c.len:Int)-1))<
 (c.len:Int))/\a_ b ((ec.add ((au ((c.len:Int)-1)).toNat*6)).add 1) λg=>ag b (((ec.add ((au ((c.len:Int)-1)).toNat*6)).add 1).add 1) λh=>ag b (((ec.add ((au ((c.len:Int)-1)).toNat*6)).add
 1).add 2) λi=>ag b (((ec.add ((au ((c.len:Int)-1)).toNat*6)).add 1).add 3) λj=>al (b.alloc ct) λk=>bA k (U b) [g,h,i,j]/\(4:Nat)=4/\al (setCells k (U b) 0 [g,h,i,j]) λd=>a_ d (U b) λp=>ag d ((U b).add 1) λq=>
 ag d ((U b).add 2) λr=>ag d ((U b).add 3) λs=>gZ 143 #[.agg #[p,q,r,s],key] d
 λn24 u e=>ak (!u) (Q (.tuple #[(),false,(0:Int)]) e) (ag e ((U b).add 2) λl=>∃m:ae,l.a=some m/\aL n24 l.len/\ag e (m.add (n24.toNat*1)) λv=>Q (.tuple
 #[v,true,(0:Int)]) e))))
def aA.tU:aS:=(.s .r (.s (.s (.cY [.r,.r,.r,.split 3]) (.c (.s a1 (.s .r .l)) .l)) (.s .r (.s dA (.s .r dz)))))
def af.tV(s:aq ae)(D:Int)(w:J)(Q:aa->J->Prop):Prop:=∃a1:ae,s=some a1/\st w (a1.add 18) true λah=>∃a3:ae,s=some a3/\st ah (a3.add 16) (0:Int) λn=>∃
 a5:ae,s=some a5/\∃o:aq ae,n.cell? (a5.add 3)=some (o)/\aU 144 #[o] n λp=>∃a9:ae,s=some a9/\∃q:aq ae,p.cell? (a9.add 2)=some (q)/\bc
 145 #[q] p λg E=>∃ (h:Int->J->Prop) (r:Int->J->Nat),h 0 E/\∀ (n16:Int) (c:J),h n16 c->ak (decide (n16<(g.len:Int))) (∃eW:ae,g.a=some eW/\aL n16
 g.len/\r1 c (eW.add (n16.toNat*1)) λn19=>∃gg:ae,s=some gg/\∃t:aq ae,c.cell? (gg.add 2)=some (t)/\aM 146 #[t,n19] c λK v=>h (au (n16+
 1)) v/\r (au (n16+1)) v<r n16 c) (bt (λx:J->Prop=>al (c.drew) λb=>∃d:Nat->Prop,∃i:ae,s=some i/\¬d (i.add 2).block/\∃y:aq ae,b.cell? (i.add 2)=some (.pointer
 y)/\∃j:ae,s=some j/\¬d (j.add 3).block/\∃z:aq ae,b.cell? (j.add 3)=some (z)/\∃k:ae,s=some k/\¬d (k.add 13).block/\bD b (k.add 13) λn33=>∃l:ae,s=some
 l/\¬d (l.add 7).block/\r1 b (l.add 7) λn35=>∃m:ae,s=some m/\¬d ((m.add 7).add 1).block/\r1 b ((m.add 7).add 1) λn37=>du 140 #[y,z,.int .u64 (IntKind.wrap .u64 (n33
 +1)),n35,n37] b λF n41 e=>ad d b e/\ak (n41==0) (∃f:ae,s=some f/\(∃u:aa,e.cell? f=some u)/\e.frozen? f=false/\al (e.setCell f (F)) λG=>x
 G) (x e)) (λA=>∃B:ae,s=some B/\r1 A ((B.add 7).add 5) λH=>∃C:ae,s=some C/\st A (C.add 17) H λI=>Q D I))
def aA.tV:aS:=(.s .r (.s .r (.s .r (.s (.s .r (.bP (.loop [(26,(.int .i64))] [0,1,24,25] a2))) (.s (.eF [] [0,1] (.s (.cr 28 true ⟨[0,1,2,4,0,16,32,64,0,256,512,1024,2048,0,8192,16384,32768,65536,
 0,262144,524288,1048576,2097152,4329608,8388608,16777216,16777216,67108863,268435455],[0,1,2,4,0,16,32,64,0,256,512,1024,2048,0,8192,16384,32768,65536,0,262144,524288,1048576,2097152,4329608,8388608,
 16777216,16777216,33554432,67108864]⟩ [274877906944,549755813888,1099511627776,2199023255552,4398046511104,8796093022208,17592186044416,35184372088832,70368744177664,140737488355328,281474976710656,562949953421312,
 1125899906842624,2251799813685248,4503599627370496,9007199254740992,18014398509481984,36028797018963968,72057594037927936,144115188075855872,288230376151711744,576460752303423488,1152921504606846976,2305843009213693952,
 137438953472,4611686018427387904,9223372036854775808,128,256] [1,274877906944,549755813888,1099511627776,1,4398046511104,8796093022208,17592186044416,1,70368744177664,140737488355328,281474976710656,562949953421312,1,
 2251799813685248,4503599627370496,9007199254740992,18014398509481984,1,72057594037927936,144115188075855872,288230376151711744,576460752303423488,1190113584927997952,2305843009213693952,137438953472,137438953472,
 4611686018427387904,9223372036854775808] (.t 0 (.t 1 (.t 2 (.t 3 (.t 4 (.t 5 (.t 6 (.t 7 (.t 8 (.t 9 (.t 10 (.t 11 (.t 12 (.t 13 (.t 14 (.t 15 (.t 16 (.t 17 (.t 18 (.t 19 (.t 20 (.t 21 (.t 22 (.bR 23 (.t 24 (.t 25 (.t 26 (.t 27 (.tail
 [.r])))))))))))))))))))))))))))))) (.s .r (.c .r .l)))) (.s .r (.s .r .l)))))))
def af.tW(s:aq ae)(w:J)(Q:aa->J->Prop):Prop:=∃a1:ae,s=some a1/\∃bq:aq ae,w.cell? a1=some (bq)/\eP 147 #[bq] w λn5 n6 a=>∃dF:ae,s
 =some dF/\∃b:aq ae,a.cell? (dF.add 3)=some (b)/\aC 148 #[b] a λn11 d=>∃n12:Int,∃c:J,Sem.run aj (Builtin.max_ #[3,3] 3 #[.int .i64 (au ((au (n11
 -(au (2*n6))))-4)),(0:Int)]) d=.ok n12 c/\Q n12 c
def aA.tW:aS:=a3
def af.tX(t:aq ae)(key:Y)(w:J)(Q:aa->J->Prop):Prop:=bt (λbE:ai->J->Prop=>ak (Option.isNone t) (bE true w) (aM 141 #[key] w λl ah=>bE
 (!l) ah)) (λ(m:ai) f=>ak m (Q (.tuple #[false,(1:Int)]) f) (b_ 142 #[t,key] f λb n10 d=>ak ((n10 !=0)||((b.len:Int)==0)) (Q (.tuple #[false,n10]) d) (∃ec:ae,b.a=some ec/\((0:Int)<=(au ((b.len:Int)-1))/\(au ((b.len:Int)-1))<(b.len:Int))/\a_ d ((ec.add ((au ((b.len:Int)-1)).toNat*6)).add 1) λn=>ag d (((ec.add ((au
 ((b.len:Int)-1)).toNat*6)).add 1).add 1) λo=>ag d (((ec.add ((au ((b.len:Int)-1)).toNat*6)).add 1).add 2) λp=>ag d (((ec.add ((au ((b.len:Int)-1)).toNat*6)).add 1).add 3) λq=>iF 149
 #[.agg #[n,o,p,q],key] d λg h i j r c=>al (c.alloc ct) λk=>bA k (U c) [g,
 h,i,j]/\(4:Nat)=4/\al (setCells k (U c) 0 [g,h,i,j])
 λe=>ak (!r) (Q (.tuple #[false,(0:Int)]) e) (a_ e (U c) λs=>ag e ((U c).add 1) λu=>ag e ((U c).add 2) λv=>ag e ((U c).add 3) λx=>aC 150
 #[t,b,.agg #[s,u,v,x]] e λn31 y=>Q (.tuple #[.bool (n31==0),n31]) y))))
def aA.tX:aS:=(.s .r (.s eQ (.s .r (.s dA (.s .r hU)))))
def af.tY(s:aq ae)(keys:Int)(w:J)(Q:aa->J->Prop):Prop:=∃a1:ae,s=some a1/\r1 w (a1.add 17) λbw=>∃a3:ae,s=some a3/\st w (a3.add 17) (.int .i64 (au (bw+keys))) λa=>
 bt (λc:J->Prop=>∃c8:ae,s=some c8/\r1 a (c8.add 16) λn7=>ak (n7==0) (∃c9:ae,s=some c9/\bD a (c9.add 14) λn9=>∃dW:ae,s=some dW/\st a (dW.add 15) (.int .u64 n9) λe=>c e) (c
 a)) (λd=>∃dA:ae,s=some dA/\r1 d (dA.add 16) λn14=>∃fa:ae,s=some fa/\st d (fa.add 16) (.int .i64 (au (n14+1))) λf=>al (f.drew) λb=>∃eW:ae,s=some eW/\¬False/\r1 b
 (eW.add 16) λn19=>∃gg:ae,s=some gg/\¬False/\r1 b ((gg.add 4).add 1) λn21=>ak (decide (n19>=n21)) (aC 94 #[s] b λn24 g=>Q n24 g) (Q (0:Int) b))
def aA.tY:aS:=(.s .r (.s .r (.s (.eF [] [0] (.s .r (.c .r .l))) (.s .r (.s (.s (.cr 9 false ⟨[0,1,2,4,0,16,32,64,128,264],[0,1,2,4,0,16,32,64,128,264]⟩ [4294967296,8589934592,17179869184,34359738368,
 68719476736,137438953472,274877906944,549755813888,1099511627776,2199023255552] [1,4294967296,8589934592,17179869184,1,68719476736,137438953472,274877906944,549755813888,1133871366144] (.t 0 (.t 1 (.t 2 (.t 3 (.t 4 (.t 5 (.t 6
 (.t 7 (.t 8 (.tail [.r]))))))))))) (.c (.s .r .l) .l)) (.s .r .l))))))
def af.tZ(t:aq ae)(key:Y)(val:Y)(w:J)(Q:aa->J->Prop):Prop:=bt (λbE:ai->J->Prop=>ak (Option.isNone t) (bE true w) (aM 141 #[key] w λv ah
 =>bE (!v) ah)) (λ(x:ai) l=>ak (x||(decide ((val.len:Int)>24))) (Q (1:Int) l) (al (l.drew) λi=>∃j:Nat->Prop,∃a9:ae,t=some a9/\¬j (a9.add 1).block/\∃m:aq ae,i.cell? (a9.add 1)=
 some (m)/\∃ec:ae,t=some ec/\¬j (ec.add 4).block/\r1 i (ec.add 4) λn12=>aC 148 #[m] i λn15 k=>ad j i k/\ak (decide (n15<(au ((au (2*n12))+3)))) (Q (2:Int)
 k) (b_ 142 #[t,key] k λb n19 c=>ak (n19 !=0) (Q n19 c) (al (c.alloc ct) λn=>bA n (U c) [true,(),(),()]/\(4:Nat)=4/\al (setCells n (U c) 0 [true,(),(),()]) λe=>bt (λo:J->Prop=>ak (decide ((b.len:Int)>0)) (∃g:ae,b.a=some g/\((0:Int)<=(au
 ((b.len:Int)-1))/\(au ((b.len:Int)-1))<(b.len:Int))/\a_ e ((g.add ((au ((b.len:Int)-1)).toNat*6)).add 1) λy=>ag e (((g.add ((au ((b.len:Int)-1)).toNat*6)).add 1).add 1) λz=>ag e
 (((g.add ((au ((b.len:Int)-1)).toNat*6)).add 1).add 2) λA=>ag e (((g.add ((au ((b.len:Int)-1)).toNat*6)).add 1).add 3) λB=>ra e c y z A B o) (o e)) (λh=>a_ h (U c) λ
 C=>ag h ((U c).add 1) λD=>ag h ((U c).add 2) λE=>ag h ((U c).add 3) λF=>iF 151 #[.agg #[C,D,E,F],key,val] h λp q r s G d=>al (d.alloc ct) λu=>bA u (U d) [p,q,r,
 s]/\(4:Nat)=4/\al (setCells u (U d) 0 [p,q,r,s]) λf=>ak (!G) (Q (4:Int) f) (a_ f (U d)
 λH=>ag f ((U d).add 1) λI=>ag f ((U d).add 2) λK=>ag f ((U d).add 3) λL=>aC 150 #[t,b,.agg #[H,I,K,L]] f λM N=>Q M N))))))
def aA.tZ:aS:=(.s .r (.s (.bP (.s (.cY [.r,.r,.r,.split 3,.r,.r,.r,.r,.pure 3]) (.c (.s .r .l) (.s (.cr 11 true ⟨[0,1,2,4,8,0,32,64,128,256,512,1040,2064],[0,1,2,4,8,0,32,64,128,256,512,1040,
 2048]⟩ [67108864,134217728,268435456,536870912,1073741824,2147483648,4294967296,8589934592,17179869184,34359738368,68719476736,137438953472,33554432] [1,67108864,134217728,268435456,536870912,1,2147483648,4294967296,
 8589934592,17179869184,34359738368,69793218560,137438953472] (.t 0 (.t 1 (.t 2 (.t 3 (.t 5 (.t 6 (.t 7 (.t 8 (.t 9 (.t 10 (.bR 4 (.tail [.r,.r]))))))))))))) (.c (.s .r .l) .l))))) (.s .r (.s a1 (.s .r (.s (.eF [] [0,1,2,7,9] (.s
 .r (.c .r .l))) dz))))))
def af.t_(s:aq ae)(keys:Int)(w:J)(Q:aa->J->Prop):Prop:=∃a1:ae,s=some a1/\∃bq:aq ae,w.cell? a1=some (bq)/\po 152 #[bq] w λh n6 n7 a
 =>ak (n7==3) (Q n7 a) (∃c9:ae,s=some c9/\r1 a ((c9.add 7).add 2) λn9=>al (a.alloc (.cells #[(0:Int),(1:Int),n9] 3)) λi=>∃b:Y,∃d:J,Sem.run aj
 (Builtin.append_ #[58,58] 58 #[h,.slice (some (U a)) 3 3]) i=.ok b d/\aU 153 #[b] d λc=>bt (λ
 e:ai->J->Prop=>ak ((n7 !=0)||(n6 !=keys)) (e true c) (∃fj:ae,s=some fj/\∃f:aq ae,c.cell? (fj.add 3)=some (f)/\bc 155 #[f] c λj k=>aM
 154 #[b,j] k λl m=>e (!l) m)) (λ(n:ai) g=>ak n (Q (4:Int) g) (Q (0:Int) g)))
def aA.t_:aS:=(.s .r (.s .r (.s a1 (.s .r (.s .r (.s (.s (.cY [.r,.r,.r,.pure 3,.r,.r,.r,.r,.split 8]) (.c (.s .r .l) .l)) (.s .r .l)))))))
def af.ua(parts:Y)(w:J)(Q:aa->J->Prop):Prop:=∃ (e:Y->Int->J->Prop) (h:Y->Int->J->Nat),e ⟨none,0,0⟩ 0 w/\∀ (d:Y) (b:Int) (c:J),e d b c->ak (decide (b<
 (parts.len:Int))) (∃c8:ae,parts.a=some c8/\aL b parts.len/\ag c (c8.add (b.toNat*1)) λi=>∃f:Y,∃g:J,Sem.run aj (Builtin.append_ #[48,48] 48 #[d,i]) c=.ok f g/\e f (au (b+1)) g/\h f (au (b+1)) g<h d b c) (Q d c)
def aA.ua:aS:=(.s .r (.s .r (.s (.s .r (.bP (.loop [(3,.slice),(8,(.int .i64))] [6,7] a2))) (.s .r .l))))
def af.uc(s:aq ae)(w:J)(Q:aa->J->Prop):Prop:=∃a1:ae,s=some a1/\∃bq:aq ae,w.cell? (a1.add 3)=some (bq)/\eP 160 #[bq] w λn5 n6 x=>
 ak (n6 !=0) (aC 81 #[s,n6] x λn9 ai=>Q n9 ai) (al (x.drew) λi=>∃ec:ae,s=some ec/\¬False/\∃y:aq ae,i.cell? (ec.add 3)=some (y)/\∃dA:
 ae,s=some dA/\¬False/\r1 i ((dA.add 7).add 2) λn14=>aC 161 #[y,n14] i λn17 am=>al (am.drew) λd=>∃e:Nat->Prop,∃gg:ae,s=some gg/\¬e (gg.add 13).block
 /\bD d (gg.add 13) λn21=>∃j:ae,s=some j/\¬e (j.add 3).block/\∃z:aq ae,d.cell? (j.add 3)=some (z)/\bc 74 #[z] d λan k=>ad e d k/\∃pt:
 Array aa,(∀A:J,Sem.run aj (Instr.build 150 #[(0,.int .i64 4),(1,.int .u64 (IntKind.wrap .u64 (n21+1))),(2,an)]) A=.ok (.agg pt) A)/\b_ 73 #[n5,.agg
 pt] k λao n32 f=>ad e k f/\ak (n32 !=0) (aC 81 #[s,n32] f λn35 ap=>Q n35 ap) (∃B:ae,s=some B/\∃C:aq ae,f.cell? (B.add 2)=some
 (C)/\aC 162 #[C,n5,ao] f λn40 l=>ak (n40 !=0) (aC 81 #[s,n40] l λar au=>Q ar au) (∃D:ae,
 s=some D/\∃E:aq ae,l.cell? (D.add 2)=some (E)/\aC 163 #[E] l λF m=>ak (F !=0) (aC 81 #[s,F] m λav aw=>Q av aw) (∃G:ae,s=some G/\∃H:aq ae,m.cell? G=some (H)/\eP 147 #[H] m λax ay az=>al (az.drew) λa=>∃g:Nat->Prop,∃n:ae,s=some n/\¬g
 (n.add 14).block/\bD a (n.add 14) λaA=>∃o:ae,s=some o/\¬g ((o.add 7).add 4).block/\bD a ((o.add 7).add 4) λaB=>∃p:ae,s=some p/\¬g (p.add 17).block/\r1 a (p.add 17) λaD=>
 ∃h:Array aa,(∀I:J,Sem.run aj (Instr.build 104 #[(0,ax),(1,ay),(2,n5),(3,.int .u64 aA),(4,.int .u64 (IntKind.wrap .u64 (aB+1))),(5,aD)]) I=.ok
 (.agg h) I)/\al (a.alloc g8) λq=>ad g a q/\bA q (U a) (Array.toList h)/\Array.size h=6/\al (setCells q (U a) 0 (Array.toList h)) λaE=>al (aE.drew) λb=>∃K:ae,s=some K/\
 ¬False/\∃L:aq ae,b.cell? (K.add 1)=some (L)/\¬False/\r1 b (U a) λaF=>r1 b ((U a).add 1) λaG=>r1 b ((U a).add 2) λaH=>bD b ((U a).add 3) λaI=>bD b
 ((U a).add 4) λaJ=>r1 b ((U a).add 5) λaK=>∃M:ae,s=some M/\¬False/\bD b (M.add 13) λaL=>aC 77 #[L,.agg #[aF,aG,aH,.int .u64
 aI,.int .u64 aJ,aK],.int .u64 (IntKind.wrap .u64 (aL+1))] b λN r=>ak (N !=0) (aC 81 #[s,N] r λaM aN=>Q aM aN) (∃O:ae,s=some O/\∃P
 :aq ae,r.cell? (O.add 3)=some (P)/\aU 131 #[P] r λaO=>al (aO.drew) λc=>∃R:Nat->Prop,¬R ((U a):ae).block/\r1 c (U a) λS=>r1 c ((U
 a).add 1) λT=>r1 c ((U a).add 2) λV=>bD c ((U a).add 3) λW=>bD c ((U a).add 4) λX=>r1 c ((U a).add 5) λY=>∃t:ae,s=some t/\¬R (t.add 13).block/\bD
 c (t.add 13) λaP=>∃u:ae,s=some u/\bA c (u.add 7) [S,T,V,.int .u64 W,.int .u64 X,Y]/\(6:Nat)=6/\al (setCells c (u.add 7) 0 [S,T,V,.int .u64 W,.int .u64 X,Y]) λaQ=>∃Z:ae,s=some Z/\st aQ (Z.add 13) (.int .u64 (IntKind.wrap .u64 (aP+1))) λaR=>∃ab:ae,s=some ab/\st aR
 (ab.add 16) (0:Int) λaS=>al (aS.drew) λv=>∃ac:ae,s=some ac/\¬False/\∃ag:aq ae,v.cell? ac=some (ag)/\∃ah:ae,s=some ah/\¬False/\bD v (ah.add 13) λ
 aT=>aU 164 #[ag,.int .u64 (IntKind.wrap .u64 (aT+1))] v λaV=>Q (0:Int) aV)))))
def aA.uc:aS:=(.s .r (.s .r (.s a1 (.s (.cr 9 false ⟨[0,1,2,4,0,16,32,64,128,264],[0,1,2,4,0,16,32,64,128,264]⟩ [33554432,67108864,134217728,268435456,536870912,1073741824,2147483648,
 4294967296,8589934592,17179869184] [1,33554432,67108864,134217728,1,536870912,1073741824,2147483648,4294967296,8858370048] (.t 0 (.t 1 (.t 2 (.t 3 (.t 4 (.t 5 (.t 6 (.t 7 (.t 8 (.tail [.r]))))))))))) (.s (.cr 17 true ⟨[0,0,2,
 4,8,16,0,64,128,256,512,1056,3073,4096,8192,8192,32767,131071],[0,0,2,4,8,16,0,64,128,256,512,1056,2049,4096,8192,8192,16384,32768]⟩ [68719476736,137438953472,274877906944,549755813888,1099511627776,
 2199023255552,4398046511104,8796093022208,17592186044416,35184372088832,70368744177664,140737488355328,281474976710656,34359738368,562949953421312,1125899906842624,32,16] [8,1,137438953472,274877906944,549755813888,
 1099511627776,1,4398046511104,8796093022208,17592186044416,35184372088832,72567767433216,140806207832064,281474976710656,34359738368,34359738368,562949953421312,1125899906842624] (.t 0 (.t 1 (.t 2 (.t 3 (.t 4 (.t 5 (.t 6 (.t 7
 (.t 8 (.t 9 (.bR 10 (.t 11 (.bR 12 (.t 13 (.t 14 (.t 15 (.t 16 (.tail [.r]))))))))))))))))))) (.s a1 (.s (.s .r a1) (.s (.s .r a1) (.s .r (.s (.cr 19 true ⟨[0,0,0,0,8,16,32,0,128,256,512,1024,2048,0,8192,16384,32768,
 69703,0,524287],[0,0,0,0,8,16,32,0,128,256,512,1024,2048,0,8192,16384,32768,69703,0,393216]⟩ [77371252455336267181195264,154742504910672534362390528,309485009821345068724781056,618970019642690137449562112,
 1237940039285380274899124224,2475880078570760549798248448,4951760157141521099596496896,9903520314283042199192993792,19807040628566084398385987584,39614081257132168796771975168,79228162514264337593543950336,
 158456325028528675187087900672,316912650057057350374175801344,633825300114114700748351602688,1267650600228229401496703205376,2535301200456458802993406410752,5070602400912917605986812821504,10141204801825835211973625643008,1024,0]
 [256,512,8,1,618970019642690137449562112,1237940039285380274899124224,2475880078570760549798248448,1,9903520314283042199192993792,19807040628566084398385987584,39614081257132168796771975168,79228162514264337593543950336,
 158456325028528675187087900672,1,633825300114114700748351602688,1267650600228229401496703205376,2535301200456458802993406410752,5393008409894303831330853486592,0,10141204801825835211973625644032] (.t 0 (.t 1 (.t 2 (.t 3 (.t 4 (.t 5
 (.t 6 (.t 7 (.t 8 (.t 9 (.t 10 (.t 11 (.t 12 (.t 13 (.t 14 (.t 15 (.t 16 (.t 17 (.bR 18 (.tail [.r]))))))))))))))))))))) (.s (.s (.cr 10 false ⟨[0,1,2,4,0,0,32,64,128,256,536,2047],[0,1,2,4,0,0,32,64,128,256,536,
 1024]⟩ [20282409603651670423947251286016,40564819207303340847894502572032,81129638414606681695789005144064,162259276829213363391578010288128,324518553658426726783156020576256,649037107316853453566312041152512,
 1298074214633706907132624082305024,2596148429267413814265248164610048,5192296858534827628530496329220096,10384593717069655257060992658440192,20769187434139310514121985316880384,2048] [1,20282409603651670423947251286016,
 40564819207303340847894502572032,81129638414606681695789005144064,1024,1,649037107316853453566312041152512,1298074214633706907132624082305024,2596148429267413814265248164610048,5192296858534827628530496329220096,
 10871371547557295347235726689304576,20769187434139310514121985316880384] (.t 0 (.t 1 (.t 2 (.t 3 (.t 4 (.t 5 (.t 6 (.t 7 (.t 8 (.t 9 (.tail [.r,.r])))))))))))) a1) (.s .r (.s (.cr 15 true ⟨[0,0,0,0,0,16,32,64,128,137,649,1161,
 4091,8187,12283,32767,65535,98303],[0,0,0,0,0,16,32,64,128,1,512,1032,2,4096,8448,4,32768,65536]⟩ [42535295865117307932921825928971026432,85070591730234615865843651857942052864,
 170141183460469231731687303715884105728,340282366920938463463374607431768211456,680564733841876926926749214863536422912,1361129467683753853853498429727072845824,2722258935367507707706996859454145691648,
 5444517870735015415413993718908291383296,10889035741470030830827987437816582766592,21778071482940061661655974875633165533184,43556142965880123323311949751266331066368,0,87112285931760246646623899502532662132736,
 174224571863520493293247799005065324265472,0,348449143727040986586495598010130648530944,696898287454081973172991196020261297061888,0] [1,1,1,1024,1,680564733841876926926749214863536422912,1361129467683753853853498429727072845824,
 2722258935367507707706996859454145691648,5444517870735015415413993718908291383296,42535295865117307932921825928971026432,21778071482940061661655974875633165533184,43896425332801061786775324358698099277824,
 85070591730234615865843651857942052864,87112285931760246646623899502532662132736,185113607604990524124075786442881907032064,170141183460469231731687303715884105728,348449143727040986586495598010130648530944,
 696898287454081973172991196020261297061888] (.t 0 (.t 1 (.t 2 (.t 3 (.t 4 (.t 5 (.t 6 (.t 7 (.t 8 (.t 9 (.t 10 (.out 11 false (.t 12 (.t 13 (.out 14 false (.tail [.r,.r,.r]))))))))))))))))) (.s (.cr 9 false ⟨[0,1,2,4,0,16,32,64,
 128,264],[0,1,2,4,0,16,32,64,128,264]⟩ [1393796574908163946345982392040522594123776,2787593149816327892691964784081045188247552,5575186299632655785383929568162090376495104,11150372599265311570767859136324180752990208,
 22300745198530623141535718272648361505980416,44601490397061246283071436545296723011960832,89202980794122492566142873090593446023921664,178405961588244985132285746181186892047843328,356811923176489970264571492362373784095686656,
 713623846352979940529142984724747568191373312] [1,1393796574908163946345982392040522594123776,2787593149816327892691964784081045188247552,5575186299632655785383929568162090376495104,1,22300745198530623141535718272648361505980416,
 44601490397061246283071436545296723011960832,89202980794122492566142873090593446023921664,178405961588244985132285746181186892047843328,367962295775755281835339351498697964848676864] (.t 0 (.t 1 (.t 2 (.t 3 (.t 4 (.t 5 (.t 6 (.t 7 (.t 8
 (.tail [.r]))))))))))) (.s .r .l)))))))))))))))
def af.ud(d:aq ae)(i:Int)(w:J)(Q:aa->J->Prop):Prop:=bt (λbE:ai->J->Prop=>ak ((!(Option.isNone d))&&(decide (i>=0))) (∃a2:ae,d=some a2/\ag w (a2.add 4) λa=>bE
 (decide (i<(a.len:Int))) w) (bE false w)) (λ(b:ai) c=>Q b c)
def aA.ud:aS:=a9
def af.pA(d:aq ae)(w:J)(Q:aa->J->Prop):Prop:=al (w.alloc g8) λw1=>∃ (j:Int->ai->Int->J->Prop) (l:Int->ai->Int->J->Nat),j 0 false 0 w1/\∀ (h:Int) (i:ai) (n6:
 Int) (a:J),j h i n6 a->ak (decide (n6<2)) (bt (λk:Int->ai->J->Prop=>b_ 114 #[d,n6] a λm n12 n=>ak (n12 !=0) (w6 n w Q n12) (aM 169
 #[m,.func (.func 170) #[] #[]] n λW o=>ak (!W) (k h i o) (Am 171 #[n6,m] o λn31 n32 n33 n34 n35 n36 n37 n38 n39 c=>al
 (c.alloc g8) λp=>bA p (U c) [n31,n32,n33,.int .u64 n34,.int .u64 n35,n36]/\(6:Nat)=6/\al (setCells p (U c) 0 [n31,n32,n33,.int .u64
 n34,.int .u64 n35,n36]) λq=>ak (n39 !=0) (w6 q w Q n39) (aC 72 #[d] q λX b=>ak (n37 !=X) (r1 b (U w) λr=>r1 b ((U w).add 1) λs=>r1 b ((U w).add 2)
 λt=>bD b ((U w).add 3) λu=>bD b ((U w).add 4) λv=>r1 b ((U w).add 5) λx=>bA b (U w) [r,s,t,.int .u64 u,.int .u64 v,x]/\(6
 :Nat)=6/\al (setCells b (U w) 0 [r,s,t,.int .u64 u,.int .u64 v,x]) λe=>r1 e (U w) λY=>r1 e ((U w).add 1) λZ=>r1 e ((U w).add 2) λab
 =>bD e ((U w).add 3) λac=>bD e ((U w).add 4) λad=>r1 e ((U w).add 5) λag=>Q (.tuple #[.agg #[Y,Z,ab,.int .u64 ac,.int .u64 ad,ag],.int .u64 0,
 .int .i64 4]) e) (ak ((!i)||(decide (n38>h))) (r1 b (U c) λy=>r1 b ((U c).add 1) λz=>r1 b ((U c).add 2) λA=>bD b ((U c).add 3) λB=>bD b ((U c).add 4) λC
 =>r1 b ((U c).add 5) λD=>bA b (U w) [y,z,A,.int .u64 B,.int .u64 C,D]/\(6:Nat)=6/\al (setCells b (U w) 0 [y,z,A,.int .u64 B,.int .u64 C,D]) λah=>k n38 true ah) (k h i b)))))) (λ(E:Int) (F:ai) G=>j E F (au (n6+1)) G/\l E F (au (n6+1)) G<l h i n6 a)) (ak (!i) (r1 a (U w)
 λH=>r1 a ((U w).add 1) λI=>r1 a ((U w).add 2) λK=>bD a ((U w).add 3) λL=>bD a ((U w).add 4) λM=>r1 a ((U w).add 5) λN=>bA a (U w) [H,I,K,.int .u64 L,.int .u64 M,N]/\(6:Nat)=6/\al (setCells a (U w) 0 [H,I,K,.int .u64 L,.int .u64 M,N]) λf=>r1 f (U w) λaj=>r1
 f ((U w).add 1) λam=>r1 f ((U w).add 2) λan=>bD f ((U w).add 3) λao=>bD f ((U w).add 4) λap=>r1 f ((U w).add 5) λar=>Q (.tuple #[.agg #[aj,am,an,.int .u64 ao,.int .u64 ap,ar],.int .u64 0,(6:Int)]) f) (r1 a (U w) λO=>r1 a ((U w).add 1) λP=>r1 a ((U w).add 2) λR=>bD a ((U w).add 3) λS=>bD a (Addr.add
 (U w) 4) λT=>r1 a ((U w).add 5) λV=>bA a (U w) [O,P,R,.int .u64 S,.int .u64 T,V]/\(6:Nat)=6/\al (setCells a (U w) 0 [O,P,
 R,.int .u64 S,.int .u64 T,V]) λg=>r1 g (U w) λav=>r1 g ((U w).add 1) λaw=>r1 g ((U w).add 2) λax=>bD g ((U w).add 3) λay=>bD g (Addr.add
 (U w) 4) λaz=>r1 g ((U w).add 5) λaA=>Q (.tuple #[.agg #[av,aw,ax,.int .u64 ay,.int .u64 az,aA],.int .u64 h,(0:Int)]) g))
def aA.pA:aS:=(.s .r (.s .r (.s (.s .r (.bP (.loop [(3,(.int .u64)),(5,.bool),(12,(.int .i64))] [0,2] (.s .r (.s (.c .l .l) (.s (.eF [(3,(.int .u64)),(5,.bool)] [0,2,12] (.bP (.s .r (.s .r (.s a1 (.s (.s .r (.c .l
 .l)) (.s .r (.bP (.s .r (.c (.s .r .l) (.s .r (.c (.s .r .l) (.s (.cY [.r,.r,.r,.pure 3]) (.c .r .l)))))))))))))) .r)))))) (.s a1 (.s .r .l)))))
def af.pB(d:aq ae)(no:Int)(w:J)(Q:aa->J->Prop):Prop:=b_ 114 #[d,no] w λj e w1=>ak (e !=0) (Q (.tuple #[.pointer none,e]) w1) (lB
 172 #[no,j] w1 λn7 n8 f n10 a=>al (a.alloc z3) λg=>bA g (U a) [n7,.int .u64 n8,f]/\(3:Nat)=3/\al (setCells g (U a) 0 [n7,.int .u64 n8,f]) λb=>ak (n10 !=0) (Q (.tuple #[.pointer none,n10]) b) (r1 b (U a) λn13=>ak (n13 !=4) (Q (.tuple #[.pointer none,(4:Int)]) b) (al (b.drew) λc=>∃
 h:Nat->Prop,¬h ((U a).add 2).block/\ag c ((U a).add 2) λk=>aC 72 #[d] c λn19 i=>ad h c i/\du 173 #[k,n19] i λl
 n23 m=>Q (.tuple #[l,n23]) m)))
def aA.pB:aS:=(.s .r (.s .r (.s a1 (.s .r (.s a1 (.s a1 (.s (.cr 7 true ⟨[0,1,0,4,10,16,16,127,255],[0,1,0,4,10,16,16,32,64]⟩ [1073741824,2147483648,4294967296,8589934592,17179869184,34359738368,
 68719476736,16,32] [256,1073741824,1,4294967296,10737418240,17179869184,17179869184,34359738368,68719476736] (.t 0 (.t 1 (.t 2 (.bR 3 (.out 4 false (.t 5 (.t 6 (.tail [.r,.r]))))))))) .l)))))))
def af.ue(t:aq ae)(g:Y)(to:Y)(most:Int)(w:J)(Q:aa->J->Prop):Prop:=al (w.alloc (.cells #[g] 48)) λw1=>al (w1.alloc (.cells #[to] 48)) λah=>al (ah.alloc (.cells #[most] 3)) λb=>ak (Option.isNone t) (Q (.tuple #[(),(1:Int)]) b) (∃a4:ae,t=some a4/\r1 b (a4.add 4) λn5=>bt (λf:
 ai->J->Prop=>ak (n5==0) (f true b) (r1 b (U ah) λn7=>f (decide (n7<1)) b)) (λ(h:ai) c=>ak h (Q (.tuple #[(),(0:Int)]) c) (al (c.alloc (.cells #[()] 86)) λ
 i=>al (i.drew) λa=>∃d:Nat->Prop,∃dA:ae,t=some dA/\¬d (dA.add 3).block/\r1 a (dA.add 3) λn14=>∃fa:ae,t=some fa/\¬d (fa.add 4).block/\r1 a (fa.add 4) λn16=>¬d ((U w):
 ae).block/\ag a (U w) λj=>ad d a a/\jZ 174 #[t,n14,n16,j,.func (.func 175) #[] #[.pointer (some (U w1)),.pointer (some (U w)),
 .pointer (some (U c)),.pointer (some (U ah))]] a λl n21 e=>ak (n21 !=0) (Q (.tuple #[(),n21]) e) (ag e (U c) λk=>Q (.tuple #[k,(0:Int)]) e))))
def aA.ue:aS:=(.s .r (.s a1 (.s (.s (.cY [.r,.r,.r,.r,.r,.r,.split 2]) (.c (.s .r .l) .l)) (.s .r (.s (.cr 16 true ⟨[0,0,2,4,8,0,32,64,128,0,0,1809,2048,4096,4096,16383,65535],[0,0,2,4,8,0,32,
 64,128,0,0,1809,2048,4096,4096,8192,16384]⟩ [33554432,67108864,134217728,268435456,536870912,1073741824,2147483648,4294967296,8589934592,17179869184,34359738368,68719476736,16777216,137438953472,274877906944,2048,
 4096] [1,1,67108864,134217728,268435456,1,1073741824,2147483648,4294967296,32,1248,60699967488,68719476736,16777216,16777216,137438953472,274877906944] (.t 0 (.t 1 (.t 2 (.t 3 (.t 4 (.t 5 (.t 6 (.t 7 (.t 8 (.t 9 (.bR 10
 (.out 11 false (.t 12 (.t 13 (.t 14 (.t 15 (.tail [.r])))))))))))))))))) (.s a1 (.s .r .l)))))))
def af.uf(d:aq ae)(w:J)(Q:aa->J->Prop):Prop:=∃a1:ae,d=some a1/\∃b:aq Nat,w.cell? (a1.add 5)=some (.map b)/\pq 178 #[.map
 b] w λa c=>bc 177 #[.func (.func a.f) a.pre a.cap] c λe g=>Q e g
def aA.uf:aS:=(.s .r (.s .r .l))
def af.ug(d:aq ae)(i:Int)(w:J)(Q:aa->J->Prop):Prop:=aM 108 #[d,i] w λe w1=>ak (!e) (Q (.tuple #[(),(1:Int)]) w1) (∃a4:ae,d=some
 a4/\aM 136 #[.pointer (some a4),(1:Int)] w1 λf b=>ak f (Q (.tuple #[(),(3:Int)]) b) (tf 137 #[d,i] b λgG a=>al (a.alloc z4) λc=>bA c (U
 a) (Array.toList gG)/\Array.size gG=256/\al (setCells c (U a) 0 (Array.toList gG)) λg=>Q (.tuple #[.slice (aO (some (U a)) 1 0 256) (256-0) (256-0),(0:Int)]) g))
def aA.ug:aS:=(.s .r (.s (.bP fj) (.s .r (.s .r .l))))
def af.ik(b:Y)(n:Int)(size:Int)(w:J)(Q:aa->J->Prop):Prop:=bc 135 #[b] w λg w1=>aM 192 #[size] w1 λj h=>ak (!j) (Q g h) (∃ (d:Y->Int->J->Prop) (i:Y->Int->J->Nat),d g (au (size-1)) h/\∀ (c:Y) (n10:Int) (a:J),d c n10 a->ak (decide (n10>=0)) ((0:Int)<=(au (8*n10))/\al (a.alloc (.cells
 #[.int .u8 (IntKind.wrap .u8 (Int.fdiv n (2^(min ((au (8*n10)).toNat) 64))))] 5)) λk=>∃e:Y,∃f:J,Sem.run aj (Builtin.append_ #[48,48] 48 #[c,
 .slice (some (U a)) 1 1]) k=.ok e f/\d e (au (n10-1)) f/\i e (au (n10-1)) f<i c n10 a) (Q c a))
def aA.ik:aS:=(.s .r (.s .r (.s a1 (.s (.s .r (.bP (.loop [(7,.slice),(8,(.int .i64))] [1] (.s (.s .r (.c .l .l)) (.s (.bP .r) .r))))) (.s .r .l)))))
def af.uh(n:Int)(w:J)(Q:aa->J->Prop):Prop:=Q (.bool ((decide (n>=1))&&(decide (n<=1600)))) w
def aA.uh:aS:=a4
def af.ui(n:Int)(w:J)(Q:aa->J->Prop):Prop:=(8:Int)≠0/\Q (.int .i64 (au (Int.tdiv (au ((au (n+8))-1)) 8))) w
def aA.ui:aS:=(.s .r (.s .r .l))
def af.uj(s:Y)(no:Int)(w:J)(Q:aa->J->Prop):Prop:=al (w.drew) λw1=>(8:Int)≠0/\∃a2:ae,s.a=some a2/\aL (au (Int.tdiv no 8)) s.len/\¬False/\b5 w1 (a2.add ((au (Int.tdiv no
 8)).toNat*1)) λb=>(8:Int)≠0/\(0:Int)<=(Int.tmod no 8)/\∃a4:ae,s.a=some a4/\aL (au (Int.tdiv no 8)) s.len/\st w1 (a4.add ((au (Int.tdiv no 8)).toNat*1)) (.int .u8 (mO .u8 b (IntKind.wrap .u8 (1*2^(min
 ((Int.tmod no 8).toNat) 8))))) λc=>Q (.tuple #[]) c
def aA.uj:aS:=(.cr 8 false ⟨[0,0,2,5,8,0,32,64,144,511,1023],[0,0,2,5,8,0,32,64,144,5,768]⟩ [16,32,64,128,256,512,1024,2048,4096,8192,0] [1,2,32,80,128,2,512,1024,2304,80,12288] (.t 0
 (.t 1 (.t 2 (.t 3 (.t 4 (.t 5 (.t 6 (.t 7 (.tail [.r,.r,.r]))))))))))
def af.rl(s:aq ae)(w:J)(Q:aa->J->Prop):Prop:=ak (!(Option.isNone s)) (∃a1:ae,s=some a1/\ag w (a1.add 1) λs2=>bc 194 #[s2] w λa
 b=>∃c8:ae,s=some c8/\st b (c8.add 2) a λc=>Q (.tuple #[]) c) (Q (.tuple #[]) w)
def aA.rl:aS:=(.s .r (.c .r .l))
theorem af.Ew(s:aq ae)(w:J)(Q:aa->J->Prop)(h:af.rl s w Q):aQ aj 131 #[s] w Q:=okF (λw Q=>af.rl s w Q) aA.rl func131 h
def af.uk(no:Int)(w:J)(Q:aa->J->Prop):Prop:=Q (.bool ((decide (no>=0))&&(decide (no<1600)))) w
def aA.uk:aS:=a4
theorem af.Aq(no:Int)(w:J)(Q:aa->J->Prop)(h:af.uk no w Q):aQ aj 132 #[no] w Q:=okF (λw Q=>af.uk no w Q) aA.uk func132 h
def af.um(a:Int)(w:J)(Q:aa->J->Prop):Prop:=Q (.bool ((decide (a>=1))&&(decide (a<=4)))) w
def aA.um:aS:=a4
theorem af.Ar(a:Int)(w:J)(Q:aa->J->Prop)(h:af.um a w Q):aQ aj 133 #[a] w Q:=okF (λw Q=>af.um a w Q) aA.um func133 h
def af.nY(b:Y)(w:J)(Q:aa->J->Prop):Prop:=al (w.drew) λw1=>((0:Int)<=20/\20<=(b.cap:Int))/\((0:Int)<=24/\24<=(b.len:Int))/\al (w1.alloc (.cells #[.slice (aO b.a 1 0 b.cap)
 ((Int.toNat 20)-0) (b.cap-0),.slice (aO b.a 1 (Int.toNat 24) b.cap) (b.len-(Int.toNat 24)) (b.cap-(Int.toNat 24))] 48)) λah=>gG 195 #[.slice (some (U w1)) 2 2] ah λn5 c=>Q (.int .u32 n5) c
def aA.nY:aS:=(.s .r (.s (.cr 4 false ⟨[0,1,0,4,10,16,63],[0,1,0,4,10,16,32]⟩ [8,16,32,64,128,256,4] [1,8,1,32,80,128,256] (.t 0 (.t 1 (.t 2 (.t 3 (.tail [.r,.r,.r])))))) .l))
def af.uo(f:aq ae)(a:Int)(w:J)(Q:aa->J->Prop):Prop:=∃a1:ae,f=some a1/\((0:Int)<=a/\a<((4:Nat):Int))/\r1 w (Addr.add a1 (a.toNat*1)) λbw=>ak (bw==
 (-1)) (Q false w) (ak (bw==0) (∃a3:ae,f=some a3/\((0:Int)<=a/\a<((4:Nat):Int))/\st w (Addr.add a3 (a.toNat*1)) (.int .i64 (-1)) λc=>Q true c) (al (w.drew) λb=>∃c8:ae,f
 =some c8/\((0:Int)<=a/\a<((4:Nat):Int))/\¬False/\r1 b (Addr.add c8 (a.toNat*1)) λn7=>∃c9:ae,f=some c9/\((0:Int)<=a/\a<((4:Nat):Int))/\st b (Addr.add c9 (a.toNat*1))
 (.int .i64 (au (n7-1))) λd=>Q false d))
def aA.uo:aS:=(.s .r (.s (.s .r (.bP (.s .r (.c (.s .r .l) (.s .r c9))))) (.s (.cr 7 false ⟨[0,0,1,6,8,16,1,127,191],[0,0,1,6,8,16,1,66,160]⟩ [262144,524288,1048576,2097152,4194304,8388608,16777216,
 33554432,0] [1,2,262144,1572864,2097152,4194304,262144,17301504,41943040] (.t 0 (.t 1 (.t 2 (.t 3 (.t 4 (.t 5 (.t 6 (.tail [.r,.r]))))))))) (.s .r .l))))
set_option maxRecDepth 100000
def af.uq(d:aq ae)(i:Int)(w:J)(Q:aa->J->Prop):Prop:=al (w.alloc z4) λw1=>∃a2:ae,d=some a2/\∃e:aq Nat,w1.cell? (a2.add 5)=some (.map e)/\∃b:Y,∃c:J,
 Sem.run aj (Instr.lookup 137 (.map e) i false) w1=.ok b c/\ak (decide ((b.len:Int)>0)) (∃c8:ae,b.a=some c8/\((0:Int)<=(au ((b.len:Int)-1))/\(au
 ((b.len:Int)-1))<(b.len:Int))/\∃f:O aa,cD c (c8.add ((au ((b.len:Int)-1)).toNat*256)) 0 256=some f/\xe c w f Q) (∃dW:ae,d=some dW/\ag c (dW.add 4) λg=>te g i c 256 λh=>
 xe c w h Q)
def aA.uq:aS:=(.s .r eW)
def af.pC(f:Int)(g:Int)(h:Int)(i:Int)(j:Int)(k:Int)(l:Int)(w:J)(Q:aa->J->Prop):Prop:=al (w.alloc (.cells #[f,g,h,.int .u64 i,.int .u64 j,k] 104)) λw1=>r1 w1 (U w) λbw=>bc 126 #[(),.int .u64 (IntKind.wrap .u64 bw),(4:Int)] w1 λm a=>r1 a ((U w).add 1)
 λn6=>bc 126 #[m,.int .u64 (IntKind.wrap .u64 n6),(1:Int)] a λn b=>r1 b ((U w).add 2) λn10=>bc 126 #[n,.int .u64 (IntKind.wrap .u64 n10),(4:Int)] b λo p=>bc 126 #[o,.int .u64 (IntKind.wrap .u64 l),(4:Int)] p λq c=>bD c ((U w).add 3) λn17=>bc 126 #[q,.int .u64 n17,(8:Int)] c λr d=>bD d ((U w).add 4) λn21=>bc 126 #[r,.int .u64 n21,(8:Int)] d λs e=>r1 e ((U w).add 5) λn25=>bc 126 #[s,
 .int .u64 (IntKind.wrap .u64 n25),(4:Int)] e λt u=>Q t u
def aA.pC:aS:=(.s .r (.s .r (.s .r (.s .r (.s .r a3)))))
def af.pD(d:aq ae)(an:Int)(w:J)(Q:aa->J->Prop):Prop:=ak (((Option.isNone d)||(decide (an<8)))||(decide (an>64))) (Q (.tuple #[.pointer none,(1:Int)]) w) (((0:Int)<=an
 /\an<=an/\an<=ku/\((48:Nat):Int)*an<=140737488355328)/\al (w.alloc (.cells (g7 aj 288 (an.toNat)) 288)) λw1=>al (w1.alloc (.cells #[d,.slice (some (U w))
 (an.toNat) (an.toNat),(0:Int)] 281)) λah=>Q (.tuple #[.pointer (some (U w1)),(0:Int)]) ah)
def aA.pD:aS:=(.s .r (.s (.s (.cY [.r,.r,.r,.pure 2,.r,.r,.r,.pure 2]) (.c (.s .r .l) .l)) (.s .r .l)))
def af.nZ(c:aq ae)(s:aq ae)(gen:Int)(root:Int)(aH:Int)(w:J)(Q:aa->J->Prop):Prop:=bt (λbE:ai->J->Prop=>ak (((((Option.isNone c)||(Option.isNone s))||(decide
 (aH<0)))||(decide (aH>12)))||(decide (root<0))) (bE true w) (∃a2:ae,c=some a2/\∃b:aq ae,w.cell? a2=some (b)/\aC 72 #[b] w λn6 d=>bE (decide (root>=n6)) d))
 (λ(e:ai) a=>ak (e||(!((root==0)==(aH==0)))) (Q (.tuple #[.pointer none,(1:Int)]) a) (al (a.alloc (.cells #[c,s,.int .u64 gen,root,aH] 239)) λf=>Q
 (.tuple #[.pointer (some (U a)),(0:Int)]) f))
def aA.nZ:aS:=(.s .r (.s (.s (.cY [.r,.r,.r,.pure 2,.r,.r,.r,.pure 2,.r,.r,.r,.pure 2,.r,.r,.r,.pure 2,.r,.r,.r,.split 7,.r,.r,.r,.r,.r,.r,.r,.r,.pure 5]) (.c (.s .r .l) .l)) (.s .r .l)))
def af.mX(a:Y)(w:J)(Q:aa->J->Prop):Prop:=Q (.bool ((decide ((a.len:Int)>=1))&&(decide ((a.len:Int)<=24)))) w
def aA.mX:aS:=c8
def af.ur(t:aq ae)(key:Y)(w:J)(Q:aa->J->Prop):Prop:=∃a1:ae,t=some a1/\r1 w (a1.add 3) λbw=>∃a3:ae,t=some a3/\r1 w (a3.add 4) λA=>∃ (h:Y->Int->Int->J->
 Prop) (k:Y->Int->Int->J->Nat),h ⟨none,0,0⟩ bw A w/\∀ (e:Y) (n8:Int) (n9:Int) (f:J),h e n8 n9 f->ak (decide (n9>0)) (g0 196 #[t,n8,.bool (n9==1)] f λl m
 n o n17 c=>al (c.alloc ct) λp=>bA p (U c) [l,m,n,o]/\(4:Nat)=4/\al (setCells p (U c) 0 [l,m,n,o]) λb=>ak (n17 !=0) (Q (.tuple #[(),n17]) b) (a_ b (U c) λB=>ag b ((U c).add 1) λC=>ag b
 ((U c).add 2) λD=>ag b ((U c).add 3) λE=>∃gw:Array aa,Sem.run aj (Instr.build 232 #[(0,n8),(1,.agg #[B,C,D,
 E])]) b=.ok (.agg gw) b/\al (b.alloc (.cells #[(0:Int),false,(),(),(),(0:Int)] 232)) λq=>bA q (U b) (Array.toList gw)
 /\Array.size gw=6/\al (setCells q (U b) 0 (Array.toList gw)) λd=>bt (λr:Int->J->Prop=>ak (decide (n9>1)) (a_ d (U c) λF=>ag d ((U c).add 1) λG=>ag d ((U c).add 2) λ
 H=>ag d ((U c).add 3) λI=>aC 197 #[.agg #[F,G,H,I],key] d λn34 K=>st K (Addr.add
 (U b) 5) n34 λg=>ag g ((U c).add 3) λs=>r1 g ((U b).add 5) λn37=>∃u:ae,s.a=some u/\aL n37 s.len/\r1 g (u.add (n37.toNat*1)) λn39=>r n39 g) (r n8
 d)) (λ(n40:Int) v=>∃x:O aa,cD v (U b) 0 6=some x/\∃y:Y,∃z:J,Sem.run aj (Instr.buildSlice 228 1 #[(0,.agg x.toArray)]) v=.ok y z
 /\∃i:Y,∃j:J,Sem.run aj (Builtin.append_ #[228,228] 228 #[e,y]) z=.ok i j/\h i n40 (au
 (n9-1)) j/\k i n40 (au (n9-1)) j<k e n8 n9 f))) (Q (.tuple #[e,(0:Int)]) f)
def aA.ur:aS:=(.s .r (.s .r (.s .r (.s (.s .r (.bP (.loop [(6,.slice),(7,(.int .i64)),(8,(.int .i64))] [0,1] (.s (.s .r (.c .l .l)) (.s (.bP (.s .r (.s a1 (.s .r (.s (.eF [(7,(.int .i64))] [0,1,6,8,11] (.s .r (.c
 (.s .r .r) .l))) .r))))) .r))))) (.s .r .l)))))
def af.pE(a:ai)(b:Y)(c:Y)(d:Y)(key:Y)(w:J)(Q:aa->J->Prop):Prop:=al (w.alloc (.cells #[a,b,c,d] 202)) λw1=>a_ w1 (U w) λbS=>ag w1 ((U w).add 1) λe=>ag w1 ((U w).add 2) λf=>ag w1 ((U w).add 3) λg=>gZ 198 #[.agg #[bS,
 e,f,g],key] w1 λn8 h i=>Q (.tuple #[n8,h]) i
def aA.pE:aS:=(.s .r (.s .r .l))
def af.rm(s:aq ae)(w:J)(Q:aa->J->Prop):Prop:=ak (!(Option.isNone s)) (∃a1:ae,s=some a1/\ag w (a1.add 2) λs2=>bc 194 #[s2] w λa
 b=>∃c8:ae,s=some c8/\st b (c8.add 1) a λc=>Q (.tuple #[]) c) (Q (.tuple #[]) w)
def aA.rm:aS:=(.s .r (.c .r .l))
theorem af.Ex(s:aq ae)(w:J)(Q:aa->J->Prop)(h:af.rm s w Q):aQ aj 144 #[s] w Q:=okF (λw Q=>af.rm s w Q) aA.rm func144 h
def af.uu(c:aq ae)(w:J)(Q:aa->J->Prop):Prop:=bc 199 #[c,.func (.func 200) #[] #[]] w λa w1=>Q a w1
def aA.uu:aS:=(.s .r (.s .r .l))
def af.uv(c:aq ae)(no:Int)(w:J)(Q:aa->J->Prop):Prop:=kX 201 #[c,no] w λa w1=>bt (λd:ai->J->Prop=>ak (Option.isNone a) (d true w1) (∃
 a5:ae,a=some a5/\r1 w1 (a5.add 4) λn6=>d (decide (n6>0)) w1)) (λ(e:ai) b=>ak e (Q false b) (∃a9:ae,a=some a9/\bA b a9 [false,false,false,(0:Int),(0:Int),
 ()]/\(6:Nat)=6/\al (setCells b a9 0 [false,false,false,(0:Int),(0:Int),()]) λf=>Q true f))
def aA.uv:aS:=(.s .r (.s .r (.s (.s (.cY [.r,.r,.r,.split 5]) (.c (.s .r .l) .l)) (.s .r (.s .r .l)))))
def af.uw(t:aq ae)(w:J)(Q:aa->J->Prop):Prop:=ak (Option.isNone t) (Q (.tuple #[(0:Int),(0:Int)]) w) (al (w.drew) λw1=>∃a2:ae,t=some a2/\¬False/\r1 w1 (a2.add 3) λa=>∃
 a4:ae,t=some a4/\¬False/\r1 w1 (a4.add 4) λn5=>Q (.tuple #[a,n5]) w1)
def aA.uw:aS:=(.s .r (.s a1 (.s (.cr 9 false ⟨[0,1,2,4,0,16,32,64,15,511],[0,1,2,4,0,16,32,64,8,128]⟩ [64,128,256,512,1024,2048,4096,8192,4,8] [1,64,128,256,1,1024,2048,4096,512,8192] (.t
 0 (.t 1 (.t 2 (.t 3 (.t 4 (.t 5 (.t 6 (.t 7 (.t 8 (.tail [.r]))))))))))) .l)))
def af.rn(s:aq ae)(w:J)(Q:aa->J->Prop):Prop:=ak (Option.isNone s) (Q (0:Int) w) (∃a1:ae,s=some a1/\r1 w a1 λbw=>∃a3:ae,s=some a3/\ag w (a3.add 1) λj=>∃ (e:
 Int->Int->J->Prop) (g:Int->Int->J->Nat),e bw 0 w/\∀ (n7:Int) (n8:Int) (d:J),e n7 n8 d->ak (decide (n8<(j.len:Int))) (al (d.drew) λb=>∃c:Nat->Prop,∃eQ:ae,s=some eQ/\¬c
 (eQ.add 1).block/\ag b (eQ.add 1) λh=>∃dz:ae,h.a=some dz/\aL n8 h.len/\¬c (dz.add (n8.toNat*1)).block/\b5 b (dz.add (n8.toNat*1)) λn15=>∃fj:ae,s=some fj/\¬c (fj.add
 2).block/\ag b (fj.add 2) λi=>∃eW:ae,i.a=some eW/\aL n8 i.len/\¬c (eW.add (n8.toNat*1)).block/\b5 b (eW.add (n8.toNat*1)) λn19=>aC 202 #[.int .u8 (mO .u8 n15 n19)] b
 λn22 f=>ad c b f/\e (au (n7-n22)) (au (n8+1)) f/\g (au (n7-n22)) (au (n8+1)) f<g n7 n8 d) (Q n7 d))
def aA.rn:aS:=(.s .r (.s a1 (.s .r (.s (.s .r (.bP (.loop [(3,(.int .i64)),(16,(.int .i64))] [0,15] (.s .r (.s (.c .l .l) (.s (.bP (.s .r (.cr 17 true ⟨[0,0,2,4,8,0,48,64,0,256,512,1024,0,6144,8192,
 16512,32768,65537,262143],[0,0,2,4,8,0,48,64,0,256,512,1024,0,6144,8192,16512,32768,65537,131073]⟩ [524288,1048576,2097152,4194304,8388608,16777216,33554432,67108864,134217728,268435456,536870912,1073741824,
 2147483648,4294967296,8589934592,17179869184,34359738368,68719476736,8] [8,1,1048576,2097152,4194304,16,25165824,33554432,1,134217728,268435456,536870912,16,3221225472,4294967296,8657043456,17179869184,34360262656,
 68719476736] (.t 0 (.t 1 (.t 2 (.t 3 (.t 4 (.t 5 (.t 6 (.t 7 (.t 8 (.t 9 (.t 10 (.t 11 (.t 12 (.t 13 (.t 14 (.t 15 (.bR 16 (.tail [.r,.r]))))))))))))))))))))) .r)))))) (.s .r .l)))))
theorem af.Ey(s:aq ae)(w:J)(Q:aa->J->Prop)(h:af.rn s w Q):aQ aj 148 #[s] w Q:=okF (λw Q=>af.rn s w Q) aA.rn func148 h
def af.pF(k:ai)(l:Y)(m:Y)(n:Y)(key:Y)(w:J)(Q:aa->J->Prop):Prop:=al (w.alloc (.cells #[k,l,m,n] 202)) λw1=>al (w1.alloc ct) λah=>a_ ah (U w) λo=>ag ah ((U w).add 1) λp=>ag ah ((U w).add 2) λq=>ag ah ((U w).add 3) λr=>gZ
 198 #[.agg #[o,p,q,r],key] ah λn9 s c=>a_ c (U w) λt=>bt (λu:ai->J->Prop=>pv t u c
 w) (λ(v:ai) b=>ak (v||(!s)) (bA b (U w1) [false,(),(),()]/\(4:Nat)=4/\al (setCells b (U w1) 0 [false,(),(),()]) λx=>gH x w1 Q) (a_ b (U w) λy=>ag b ((U w).add 1) λz=>ag b ((U w).add 2) λA=>ag b ((U w).add 3) λB=>gv 204 #[.agg #[y,z,A,B]] b λd e f g a=>al (a.alloc ct) λh=>bA h (U a) [d,e,f,g]/\
 (4:Nat)=4/\al (setCells h (U a) 0 [d,e,f,g]) λi=>ag i ((U a).add 1) λC=>bc 205
 #[C,n9,.int .i64 (au (n9+1))] i λD E=>st E ((U a).add 1) D λj=>ag j ((U a).add 2) λF=>bc 205
 #[F,n9,.int .i64 (au (n9+1))] j λG H=>st H ((U a).add 2) G λI=>db I a w1 Q))
def aA.pF:aS:=(.s .r (.s .r (.s (.s (.cY [.r,.r,.r,.r,.split 3,.r,.r,.r,.r,.pure 2]) (.c (.s .r .l) .l)) (.s .r a3))))
def af.rp(t:aq ae)(il:Y)(r:ai)(s:Y)(u:Y)(v:Y)(w:J)(Q:aa->J->Prop):Prop:=al (w.alloc (.cells #[r,s,u,v] 202)) λw1=>al (w1.alloc (.cells #[(0:Int)] 34)) λah=>al (ah.drew) λc=>∃g:Nat->Prop,∃
 a5:ae,t=some a5/\¬g (a5.add 1).block/\∃h:aq ae,c.cell? (a5.add 1)=some (h)/\∃dF:ae,t=some dF/\¬g (dF.add 4).block/\r1 c (dF.add 4) λn8=>aC 148 #[h] c λn11 d
 =>ad g c d/\ak (decide (n11<(au ((au (2*n8))+3)))) (st d (U w1) (2:Int) λi=>r1 i (U w1) λn13=>Q n13 i) (al (d.alloc (.cells #[t,(),()] 297))
 λa=>al (a.alloc (.cells #[.pointer none] 295)) λx=>st x (U a) (.pointer (some (U d))) λb=>∃j:aq ae,b.cell? (U a)=some (j)/\a_ b (U w) λy=>ag b (Addr.add
 (U w) 1) λz=>ag b ((U w).add 2) λA=>ag b ((U w).add 3) λB=>pr 208 #[j,il,.agg #[y,z,A,B]] b λn24 n25 n26 C=>st C (U w1) n26 λe=>r1 e (U w1) λn28=>ak (n28 !=0) (r1 e (U w1) λn29=>st e (U w1) n29 λD=>pj aj
 206 #[.pointer (some (U w1)),.pointer (some (U a))] D λk=>r1 k (U w1) λn32=>Q n32 k) (al (e.drew) λf=>¬False/\∃l:aq ae,f.cell? (U a)=some (l)/\¬
 False/\∃m:aq ae,f.cell? (U a)=some (m)/\∃n:ae,m=some n/\¬False/\ag f (n.add 2) λE=>aU 207 #[l,E] f λF=>∃o:ae,
 t=some o/\st F (o.add 3) n24 λG=>∃p:ae,t=some p/\st G (p.add 4) n25 λH=>st H (U w1) (0:Int) λI=>pj aj 206 #[.pointer (some (U w1)),
 .pointer (some (U a))] I λq=>r1 q (U w1) λK=>Q K q))
def aA.rp:aS:=(.s .r (.s (.s (.cr 11 true ⟨[0,1,2,4,8,0,32,64,128,256,512,1040],[0,1,2,4,8,0,32,64,128,256,512,1040]⟩ [1024,2048,4096,8192,16384,32768,65536,131072,262144,524288,1048576,
 2097152] [1,1024,2048,4096,8192,1,32768,65536,131072,262144,524288,1064960] (.t 0 (.t 1 (.t 2 (.t 3 (.t 5 (.t 6 (.t 7 (.t 8 (.t 9 (.t 10 (.bR 4 (.tail [.r]))))))))))))) (.c (.s .r .l) .l)) (.s .r (.s .l (.s .r (.s a1 (.s (.cr 5
 false ⟨[0,0,2,4,8,17],[0,0,2,4,8,17]⟩ [137438953472,274877906944,549755813888,1099511627776,2199023255552,4398046511104] [128,128,274877906944,549755813888,1099511627776,2336462209024] (.t 0 (.t 1 (.t 2 (.t 3 (.t 4
 (.tail [.r]))))))) (.s .r (.s .r .l)))))))))
theorem af.Ez(t:aq ae)(il:Y)(a:ai)(b:Y)(c:Y)(d:Y)(w:J)(Q:aa->J->Prop):af.rp t il a b c d w Q=wV aj tk aA.rp Tryz.f150 [t,il,.agg #[a,b,c,d]] w Q:=by kernel_rfl
theorem af.EA(t:aq ae)(il:Y)(a:ai)(b:Y)(c:Y)(d:Y)(w:J)(Q:aa->J->Prop)(h:af.rp t il a b c d w Q):Calls aj 150 #[t,il,.agg #[a,b,c,d]] w λe w1=>∃v,e=.returned v/\Q v w1:=
 Ee w4 func150 (by kernel_rfl) (Eq.mp (af.Ez t il a b c d w Q) h)
def af.pG(B:ai)(C:Y)(D:Y)(E:Y)(key:Y)(val:Y)(w:J)(Q:aa->J->Prop):Prop:=al (w.alloc (.cells #[B,C,D,E] 202)) λw1=>al (w1.alloc ct) λah=>a_ ah (U w) λF=>bt (λG:ai->J->Prop=>pv F G ah w) (λ(H:ai) m=>bt (λn:ai->J
 ->Prop=>ak H (n true m) (aM 209 #[key] m λI K=>n (!I) K)) (λ(L:ai) c=>ak (L||(decide ((val.len:Int)>24))) (bA c (U w1) [false,(),
 (),()]/\(4:Nat)=4/\al (setCells c (U w1) 0 [false,(),(),()]) λM=>gH M w1 Q) (a_ c (U w) λN=>ag c ((U w).add 1) λO=>ag c
 ((U w).add 2) λP=>ag c ((U w).add 3) λR=>gv 204 #[.agg #[N,O,P,R]] c λo p q r b=>al (b.alloc
 ct) λs=>bA s (U b) [o,p,q,r]/\(4:Nat)=4/\al (setCells s (U b) 0 [o,p,q,r]) λd=>a_ d (U w) λS=>ag d ((U w).add 1) λT=>ag d ((U w).add 2) λV=>ag d ((U w).add 3) λW=>gZ 198 #[.agg #[S,T,V,W],key] d λe X t=>ak X (al (t.drew) λh=>∃u:Nat->Prop,¬u ((U b).add 2).block/\ag h
 ((U b).add 2) λv=>bc 135 #[val] h λZ x=>ad u h x/\∃y:ae,v.a=some y/\aL e v.len/\st x (y.add (e.toNat*1)) Z λab=>db ab b w1 Q) (al (t.drew) λi=>∃j:Nat->Prop,¬j ((U b).add 1).block/\ag i ((U b).add 1) λac=>bc 135 #[key] i λ
 aj f=>ad j i f/\al (f.alloc (.cells #[aj] 48)) λz=>ad j f z/\bc 210 #[ac,e,.slice (some (U f)) 1 1]
 z λam an=>st an ((U b).add 1) am λao=>al (ao.drew) λk=>∃l:Nat->Prop,¬l ((U b).add 2).block/\ag k ((U b).add 2) λap=>bc
 135 #[val] k λaq g=>ad l k g/\al (g.alloc (.cells #[aq] 48)) λA=>ad l g A/\bc 210 #[ap,e,.slice (some (U g)) 1 1] A λar au=>st au ((U b).add 2) ar λav=>db av b w1 Q))))
def aA.pG:aS:=(.s .r (.s (.s (.cY [.r,.r,.r,.r,.split 3,.r,.r,.r,.r,.split 3,.r,.r,.r,.r,.pure 3]) (.c (.s .r .l) .l)) (.s .r (.s .r (.s (.s .r (.c (.s (.cr 5 true ⟨[0,1,0,0,8,31,63],[0,1,0,0,8,6,48]⟩
 [549755813888,1099511627776,2199023255552,4398046511104,8796093022208,17592186044416,0] [256,549755813888,512,4,4398046511104,3298534883328,26388279066624] (.t 0 (.t 1 (.t 2 (.t 3 (.bR 4 (.tail [.r,.r]))))))) (.s .r .l)) .l))
 (.s (.cr 6 true ⟨[0,1,0,0,8,16,54,127,255],[0,1,0,0,8,16,38,0,192]⟩ [70368744177664,140737488355328,281474976710656,562949953421312,1125899906842624,2251799813685248,4503599627370496,9007199254740992,0] [256,
 70368744177664,512,2,562949953421312,1125899906842624,2674012278751232,256,13510798882111488] (.t 0 (.t 1 (.t 2 (.t 3 (.bR 4 (.bR 5 (.tail [.r,.r,.r])))))))) (.s (.cr 6 true ⟨[0,1,0,0,8,16,54,127,255],[0,1,0,0,8,
 16,38,0,192]⟩ [18014398509481984,36028797018963968,72057594037927936,144115188075855872,288230376151711744,576460752303423488,1152921504606846976,2305843009213693952,0] [256,18014398509481984,512,4,144115188075855872,
 288230376151711744,684547143360315392,256,3458764513820540928] (.t 0 (.t 1 (.t 2 (.t 3 (.bR 4 (.bR 5 (.tail [.r,.r,.r])))))))) (.s .r .l))))))))
def af.ux(t:aq ae)(w:J)(Q:aa->J->Prop):Prop:=ak (Option.isNone t) (Q (.tuple #[(),(0:Int),(1:Int)]) w) (al (w.alloc (.cells #[t,(),(0:Int)]
 303)) λw1=>bt (λbG:J->Prop=>∃a3:ae,t=some a3/\r1 w1 (a3.add 4) λf=>ak (decide (f>0)) (al (w1.drew) λa=>∃c8:ae,t=some c8/\¬False/\r1 a (c8.add 3) λn7=>∃c9:ae,t=some
 c9/\¬False/\r1 a (c9.add 4) λn9=>aC 211 #[.pointer (some (U w)),n7,n9,(),()] a λn12 c=>ak (n12 !=0) (Q (.tuple #[(),(0:Int),n12]) c) (bG c)) (bG w1)) (λd=>∃dz:ae,(some (U w):aq ae)=some dz/\ag d (dz.add 1) λg=>aU 153 #[g] d λh=>al (h.drew) λb=>∃g9:ae,
 (some (U w):aq ae)=some g9/\¬False/\ag b (g9.add 1) λi=>∃e:ae,(some (U w):aq ae)=some e/\¬False/\r1 b (e.add 2) λn22=>Q (.tuple #[i,n22,(0:Int)]) b))
def aA.ux:aS:=(.s .r (.s a1 (.s .r (.s (.eF [] [5] (.s .r (.c (.s (.cr 9 false ⟨[0,0,2,4,8,0,32,64,128,273,1023],[0,0,2,4,8,0,32,64,128,273,512]⟩ [131072,262144,524288,1048576,2097152,4194304,
 8388608,16777216,33554432,67108864,64] [32,1,262144,524288,1048576,1,4194304,8388608,16777216,35782656,67108864] (.t 0 (.t 1 (.t 2 (.t 3 (.t 4 (.t 5 (.t 6 (.t 7 (.t 8 (.tail [.r,.r]))))))))))) a1) .l))) (.s .r (.s (.cr 9
 false ⟨[0,1,2,4,0,16,32,64,15,511,1023],[0,1,2,4,0,16,32,64,8,128,0]⟩ [34359738368,68719476736,137438953472,274877906944,549755813888,1099511627776,2199023255552,4398046511104,4,8,16] [32,34359738368,
 68719476736,137438953472,32,549755813888,1099511627776,2199023255552,274877906944,4398046511104,0] (.t 0 (.t 1 (.t 2 (.t 3 (.t 4 (.t 5 (.t 6 (.t 7 (.t 8 (.tail [.r,.r]))))))))))) .l))))))
def af.rq(s:aq ae)(w:J)(Q:aa->J->Prop):Prop:=ak (Option.isNone s) (Q () w) (∃a1:ae,s=some a1/\r1 w a1 λbw=>∃ (c:Y->Int->J->Prop) (d:Y->Int->J->
 Nat),c ⟨none,0,0⟩ 0 w/\∀ (a:Y) (n6:Int) (b:J),c a n6 b->ak (decide (n6<bw)) (bt (λe:Y->J->Prop=>∃a9:ae,s=some a9/\ag b (a9.add 1) λi=>aM 214 #[i,n6] b λj f=>ak j (tp f n6 a e) (e a f)) (λ(g:Y) h=>c g (au (n6+1)) h/\d g (au (n6+1)) h<d a n6 b)) (Q a b))
def aA.rq:aS:=(.s .r (.s a1 (.s .r (.s (.s .r (.bP (.loop [(3,.slice),(11,(.int .i64))] [0,10] (.s .r (.s (.c .l .l) (.s (.eF [(3,.slice)] [0,10,11] (.bP dF)) .r)))))) (.s .r .l)))))
theorem af.EB(s:aq ae)(w:J)(Q:aa->J->Prop)(h:af.rq s w Q):aQ aj 155 #[s] w Q:=okF (λw Q=>af.rq s w Q) aA.rq func155 h
def af.kZ(b:Y)(i:Int)(size:Int)(w:J)(Q:aa->J->Prop):Prop:=jo 215 #[b,i,size] w λd j w1=>bt (λf:ai->J->Prop=>ak (!j) (f
 true w1) (aM 192 #[size] w1 λk l=>f (!k) l)) (λ(m:ai) g=>ak m (Q (.tuple #[.int .u64 0,false]) g) (∃ (e:Int->Int->J->Prop) (h:Int->Int->J->Nat),e 0 0 g/\∀ (n13:
 Int) (n14:Int) (c:J),e n13 n14 c->ak (decide (n14<(d.len:Int))) (∃fj:ae,d.a=some fj/\aL n14 d.len/\b5 c (fj.add (n14.toNat*1)) λn17=>(0:Int)<=8/\e (mO .u64 (IntKind.wrap .u64 (n13*2^
 (min (Int.toNat 8) 64))) (IntKind.wrap .u64 n17)) (au (n14+1)) c/\h (mO .u64 (IntKind.wrap .u64 (n13*2^(min (Int.toNat 8) 64))) (IntKind.wrap .u64 n17)) (au (n14+1)) c<h n13 n14 c) (Q (.tuple #[.int .u64 n13,true]) c)))
def aA.kZ:aS:=(.s .r (.s .r (.s eQ (.s .r (.s (.s .r (.bP (.loop [(10,(.int .u64)),(29,(.int .i64))] [27,28] a2))) (.s .r .l))))))
def af.ru(s:aq ae)(w:J)(Q:aa->J->Prop):Prop:=ak (Option.isNone s) (Q (.tuple #[.int .i64 (-1),(1:Int)]) w) (∃a1:ae,s=some a1/\r1 w a1 λbw=>∃ (c:Int->J->Prop) (d:
 Int->J->Nat),c 0 w/\∀ (n5:Int) (a:J),c n5 a->ak (decide (n5<bw)) (aM 217 #[s,n5] a λe b=>ak (!e) (∃dW:ae,s=some dW/\ag b (dW.add 1) λf=>aU
 130 #[f,n5] b λg=>Q (.tuple #[n5,(0:Int)]) g) (c (au (n5+1)) b/\d (au (n5+1)) b<d n5 a)) (Q (.tuple #[.int .i64 (-1),(2:Int)]) a))
def aA.ru:aS:=(.s .r (.s a1 (.s (.s .r (.bP (.loop [(11,(.int .i64))] [0,10] (.s .r (.s (.c .l .l) (.s (.bP (.s .r (.s .r c9))) .r)))))) (.s .r .l))))
theorem af.EC(s:aq ae)(w:J)(Q:aa->J->Prop)(h:af.ru s w Q):aQ aj 160 #[s] w Q:=okF (λw Q=>af.ru s w Q) aA.ru func160 h
def af.rv(s:aq ae)(no:Int)(w:J)(Q:aa->J->Prop):Prop:=aM 218 #[s,no] w λb w1=>ak (!b) (Q (1:Int) w1) (∃a4:ae,s=some a4/\ag w1 (a4.add 1)
 λc=>aM 214 #[c,no] w1 λd a=>ak (!d) (Q (6:Int) a) (∃a9:ae,s=some a9/\ag a (a9.add 1) λe=>aU 219 #[e,no]
 a λf=>Q (0:Int) f))
def aA.rv:aS:=(.s .r (.s (.bP fj) (.s .r (.s .r .l))))
theorem af.ED(s:aq ae)(no:Int)(w:J)(Q:aa->J->Prop)(h:af.rv s no w Q):aQ aj 161 #[s,no] w Q:=okF (λw Q=>af.rv s no w Q) aA.rv func161 h
def af.uy(c:aq ae)(no:Int)(b:Y)(w:J)(Q:aa->J->Prop):Prop:=aM 220 #[c,no] w λl w1=>ak ((!l)||((b.len:Int) !=256)) (Q (1:Int) w1) (kX
 201 #[c,no] w1 λf g=>bt (λh:aq ae->J->Prop=>ak (Option.isNone f) (du 221 #[c] g λd n11 a=>ak (n11 !=0) (Q n11 a) (∃eQ:ae,d
 =some eQ/\(∃u:aa,a.cell? eQ=some u)/\a.frozen? eQ=false/\al (a.setCell eQ true) λm=>∃dz:ae,d=some dz/\st m (dz.add 3) no λn=>h d n)) (h f g)) (λ(e:aq
 ae) o=>bc 135 #[b] o λp q=>∃i:ae,e=some i/\st q (i.add 5) p λr=>∃j:ae,e=some j/\st r (j.add 1) true λs=>∃k:ae,e=some k/\st s (k.add 2) true λt=>Q (0:Int) t))
def aA.uy:aS:=(.s .r (.s (.s (.cY [.r,.r,.r,.r,.r,.pure 3]) (.c (.s .r .l) .l)) (.s .r (.s (.eF [(7,.ptr)] [2] (.s .r (.c (.s .r (.s a1 (.s .r .r))) .l))) (.s .r (.s .r .l))))))
def af.uz(c:aq ae)(w:J)(Q:aa->J->Prop):Prop:=ak (Option.isNone c) (Q (1:Int) w) (bc 145 #[c] w λd w1=>∃ (e:Int->J->Prop) (g:Int->J->Nat),e
 0 w1/\∀ (n6:Int) (b:J),e n6 b->ak (decide (n6<(d.len:Int))) (∃c9:ae,d.a=some c9/\aL n6 d.len/\r1 b (c9.add (n6.toNat*1)) λn9=>kX 201 #[c,n9] b λh o=>al
 (o.drew) λf=>∃dz:ae,c=some dz/\¬False/\∃i:aq ae,f.cell? dz=some (i)/\∃fj:ae,h=some fj/\¬False/\ag f (fj.add 5) λp=>aC 75 #[i,n9,p] f λn20 j=>ak (n20 !=0) (Q n20 j) (∃k:ae,h=some k/\st j (k.add 1) false λl=>e (au (n6+1)) l/\g (au (n6+1)) l<g n6 b)) (∃m:ae,c
 =some m/\∃n:aq ae,b.cell? m=some (n)/\aC 76 #[n] b λn27 q=>Q n27 q))
def aA.uz:aS:=(.s .r (.s a1 (.s (.s .r (.bP (.loop [(12,(.int .i64))] [0,10,11] (.s .r (.s (.c .l .l) (.s (.bP (.s .r (.s .r (.s (.s (.cr 9 false ⟨[0,1,2,4,0,0,32,64,128,280,1023],[0,1,2,4,0,0,32,64,
 128,280,512]⟩ [524288,1048576,2097152,4194304,8388608,16777216,33554432,67108864,134217728,268435456,64] [1,524288,1048576,2097152,16,32,16777216,33554432,67108864,146800640,268435456] (.t 0 (.t 1 (.t 2 (.t 3 (.t 4 (.t
 5 (.t 6 (.t 7 (.t 8 (.tail [.r,.r]))))))))))) a1) .r)))) .r)))))) (.s .r .l))))
def af.ry(t:aq ae)(gen:Int)(w:J)(Q:aa->J->Prop):Prop:=ak (!(Option.isNone t)) (∃a1:ae,t=some a1/\st w (a1.add 2) (.int .u64 gen) λah=>Q (.tuple #[]) ah) (Q (.tuple #[]) w)
def aA.ry:aS:=(.s .r (.c .r .l))
theorem af.EE(t:aq ae)(gen:Int)(w:J)(Q:aa->J->Prop)(h:af.ry t gen w Q):aQ aj 164 #[t,.int .u64 gen] w Q:=okF (λw Q=>af.ry t gen w Q) aA.ry func164 h
def af.uA(c:Int)(w:J)(Q:aa->J->Prop):Prop:=Q (.bool (c !=0)) w
def aA.uA:aS:=(.s .r (.s .r .l))
theorem af.EF(c:Int)(w:J)(Q:aa->J->Prop)(h:af.uA c w Q):aQ aj 170 #[.int .u8 c] w Q:=okF (λw Q=>af.uA c w Q) aA.uA func170 h
def af.pH(no:Int)(b:Y)(w:J)(Q:aa->J->Prop):Prop:=al (w.alloc g8) λw1=>lB 172 #[no,b] w1 λn n5 o n7 ah=>al (ah.alloc z3) λp=>bA p
 (U ah) [n,.int .u64 n5,o]/\(3:Nat)=3/\al (setCells p (U ah) 0 [n,.int .u64 n5,o]) λc=>ak (n7 !=0) (r1 c (U w) λn10=>r1 c ((U w).add 1)
 λn11=>r1 c ((U w).add 2) λn12=>bD c ((U w).add 3) λn13=>bD c ((U w).add 4) λn14=>r1 c ((U w).add 5) λn15=>bA c (U w) [n10,n11,n12,.int .u64 n13,
 .int .u64 n14,n15]/\(6:Nat)=6/\al (setCells c (U w) 0 [n10,n11,n12,.int .u64 n13,.int .u64 n14,n15]) λf=>r1 f (U w) λn17=>r1 f ((U w).add 1) λn18=>
 r1 f ((U w).add 2) λn19=>bD f ((U w).add 3) λn20=>bD f ((U w).add 4) λn21=>r1 f ((U w).add 5) λn22=>Q (.tuple #[.agg #[n17,n18,n19,.int .u64 n20,.int .u64
 n21,n22],(0:Int),.int .u64 0,n7]) f) (r1 c (U ah) λn23=>bt (λq:ai->J->Prop=>ak (n23 !=3) (q true c) (ag c ((U ah).add 2) λC=>q ((C.len:Int) !=33) c)) (λ(D:
 ai) a=>ak D (r1 a (U w) λn28=>r1 a ((U w).add 1) λn29=>r1 a ((U w).add 2) λn30=>bD a ((U w).add 3) λn31=>bD a ((U w).add 4) λn32=>r1 a ((U w).add 5) λn33=>
 bA a (U w) [n28,n29,n30,.int .u64 n31,.int .u64 n32,n33]/\(6:Nat)=6/\al (setCells a (U w) 0 [n28,n29,n30,.int .u64 n31,.int .u64 n32,n33]) λE=>w9 E w Q) (ag a ((U ah).add 2) λF=>al (a.alloc (.cells #[F,(0:Int)] 316)) λG=>gw 226 #[.pointer (some (U a)),(4:Int)] G λ
 H I=>gw 226 #[.pointer (some (U a)),(1:Int)] I λK L=>gw 226 #[.pointer (some (U a)),(4:Int)] L λM N=>st N (U w) (.int .i64 (au H)) λO=>st O
 ((U w).add 1) (.int .i64 (au K)) λP=>st P ((U w).add 2) (.int .i64 (au M)) λR=>gw 226 #[.pointer (some (U a)),(4:Int)] R λh S=>gw 226 #[.pointer (some (U
 a)),(8:Int)] S λT V=>gw 226 #[.pointer (some (U a)),(8:Int)] V λW X=>gw 226 #[.pointer (some (U a)),(4:Int)] X λZ ab=>st ab ((U w).add 3) (.int
 .u64 T) λac=>st ac ((U w).add 4) (.int .u64 W) λaj=>st aj ((U w).add 5) (.int .i64 (au Z)) λg=>r1 g (U w) λam=>r1 g ((U w).add 1) λan=>bt (λr:ai->J->Prop=>ak
 (!((am==0)==(an==0))) (r true g) (r1 g ((U w).add 1) λao=>r (decide (ao>12)) g)) (λ(ap:ai) i=>bt (λs:ai->J->Prop=>ak ap (s true i) (r1 i (U w) λaq=>s (decide (aq
 >=(au h))) i)) (λ(ar:ai) j=>bt (λt:ai->J->Prop=>ak ar (t true j) (r1 j ((U w).add 2) λav=>t (decide (av>=(au h))) j)) (λ(aw:ai) k=>bt (λu:ai->J->Prop=>
 ak aw (u true k) (r1 k ((U w).add 2) λax=>u (decide (ax<2)) k)) (λ(ay:ai) l=>ak (ay||(decide (((au h):Int)>1600))) (bA l (U w) [(0:Int),(0:Int),(0:Int),.int .u64 0,.int
 .u64 0,(0:Int)]/\(6:Nat)=6/\al (setCells l (U w) 0 [(0:Int),(0:Int),(0:Int),.int .u64 0,.int .u64 0,(0:Int)]) λaz=>w9 az w Q) (al (l.drew) λd=>∃m:Nat->Prop,¬m ((U w):
 ae).block/\r1 d (U w) λv=>r1 d ((U w).add 1) λx=>r1 d ((U w).add 2) λy=>bD d ((U w).add 3) λz=>bD d ((U w).add 4) λA=>r1 d ((U w).add 5) λB=>¬m
 ((U ah).add 1).block/\bD d ((U ah).add 1) λaA=>bA d (U w) [v,x,y,.int .u64 z,.int .u64 A,B]/\(6:Nat)=6/\al (setCells d (U w) 0 [v,x,y,.int .u64 z,.int .u64 A,B]) λe=>ad m d e/\r1 e (U w) λaB=>r1 e ((U w).add 1) λaC=>r1 e ((U w).add 2) λaD=>bD e (Addr.add
 (U w) 3) λaE=>bD e ((U w).add 4) λaF=>r1 e ((U w).add 5) λaG=>Q (.tuple #[.agg #[aB,aC,aD,.int .u64 aE,.int .u64 aF,aG],.int .i64 (au h),
 .int .u64 aA,(0:Int)]) e))))))))
def aA.pH:aS:=(.s .r (.s .r (.s a1 (.s dW (.s .r (.s .r (.s .r (.s .r (.s (.s (.cY [.r,.r,.r,.r,.r,.r,.r,.r,.split 3,.r,.r,.r,.r,.split 4,.r,.r,.r,.r,.r,.split 4,.r,.r,.r,.r,.r,.split 3,.r,.r,
 .r,.r,.pure 2]) (.c (.s .r .l) .l)) (.s (.cr 6 true ⟨[0,0,0,4,1,19,63,127],[0,0,0,4,1,2,8,0]⟩ [9903520314283042199192993792,19807040628566084398385987584,39614081257132168796771975168,79228162514264337593543950336,0,
 32,64,128] [16,32,256,39614081257132168796771975168,9903520314283042199192993808,19807040628566084398385987584,79228162514264337593543950336,0] (.t 0 (.t 1 (.t 2 (.t 3 (.bR 4 (.t 5 (.tail [.r,.r])))))))) .l))))))))))
def af.mY(no:Int)(b:Y)(w:J)(Q:aa->J->Prop):Prop:=al (w.alloc z3) λw1=>ak ((b.len:Int) !=256) (bA w1 (U w) [(0:Int),.int .u64 0,()]/\(3:Nat)=3/\al (setCells w1 (U w)
 0 [(0:Int),.int .u64 0,()]) λah=>r1 ah (U w) λz=>bD ah ((U w).add 1) λA=>ag ah ((U w).add 2) λB=>Q (.tuple #[.agg #[z,.int .u64 A,B],(9:Int)])
 ah) (((0:Int)<=4/\4<=(b.cap:Int))/\∃n:ByteArray,∃c:J,Sem.run aj (convert 48 9 (.slice (aO b.a 1 0 b.cap) ((Int.toNat 4)-0) (b.cap-0))) w1=.ok (.string n) c/\ak
 (!(ByteArray.toList n==ByteArray.toList (ByteArray.mk #[83,84,78,67]))) (bA c (U w) [(0:Int),.int .u64 0,()]/\(3:Nat)=3/\al (setCells c (U w) 0 [(0:Int),.int .u64 0,()]) λC=>
 xd C w Q) (∃eQ:ae,b.a=some eQ/\aL 4 b.len/\b5 c (eQ.add (Int.toNat 4*1)) λn13=>ak (n13 !=1) (bA c (U w) [(0:Int),.int .u64 0,()]/\(3:Nat)=3/\al (setCells c (U w) 0 [(0:Int),.int
 .u64 0,()]) λd=>r1 d (U w) λn15=>bD d ((U w).add 1) λn16=>ag d ((U w).add 2) λD=>Q (.tuple #[.agg #[n15,.int .u64 n16,D],(12:Int)]) d)
 (gG 134 #[b] c λn20 E=>gw 227 #[b,(20:Int),(24:Int)] E λn23 h=>ak (((IntKind.wrap .u64 n20):Int) !=n23) (bA h (U w) [(0:Int),.int .u64
 0,()]/\(3:Nat)=3/\al (setCells h (U w) 0 [(0:Int),.int .u64 0,()]) λe=>r1 e (U w) λn25=>bD e ((U w).add 1) λn26=>ag e ((U w).add 2) λF=>Q (.tuple #[.agg
 #[n25,.int .u64 n26,F],(5:Int)]) e) (gw 227 #[b,(6:Int),(8:Int)] h λn30 o=>∃p:ae,b.a=some p/\aL 5 b.len/\b5 o (p.add
 (Int.toNat 5*1)) λn32=>aM 133 #[.int .i64 (au n32)] o λG q=>bt (λr:ai->J->Prop=>ak ((!G)||(decide (((au n30):Int)>232))) (r true q) (((0:Int)<=(au (24+(au n30)))/\(au (24+(au
 n30)))<=(b.len:Int))/\aM 228 #[.slice (aO b.a 1 ((au (24+(au n30))).toNat) b.cap) (b.len-((au (24+(au n30))).toNat)) (b.cap-((au (24+(au n30))).toNat))] q λH I=>r (!H) I)) (λ(K:ai)
 i=>ak K (bA i (U w) [(0:Int),.int .u64 0,()]/\(3:Nat)=3/\al (setCells i (U w) 0 [(0:Int),.int .u64 0,()]) λL=>xd L w Q) (aM 132 #[no] i λM s=>
 bt (λt:ai->J->Prop=>ak (!M) (t true s) (gw 227 #[b,(8:Int),(12:Int)] s λN O=>t (N !=(IntKind.wrap .u64 no)) O)) (λ(P:ai) j=>ak P (bA j
 (U w) [(0:Int),.int .u64 0,()]/\(3:Nat)=3/\al (setCells j (U w) 0 [(0:Int),.int .u64 0,()]) λf=>r1 f (U w) λR=>bD f ((U w).add 1) λS=>ag f ((U w).add 2)
 λT=>Q (.tuple #[.agg #[R,.int .u64 S,T],(1:Int)]) f) (jo 229 #[b,(24:Int),.int .i64 (au n30)] j λu ab V=>al (V.drew) λk=>∃v:
 Nat->Prop,∃l:ae,b.a=some l/\aL 5 b.len/\¬v (l.add (Int.toNat 5*1)).block/\b5 k (l.add (Int.toNat 5*1)) λx=>gw 227 #[b,(12:Int),(20:Int)] k λy m=>ad
 v k m/\bA m (U w) [.int .i64 (au x),.int .u64 y,u]/\(3:Nat)=3/\al (setCells m (U w) 0 [.int .i64 (au x),.int .u64 y,u]) λg=>r1 g (U w) λ
 W=>bD g ((U w).add 1) λX=>ag g ((U w).add 2) λZ=>Q (.tuple #[.agg #[W,.int .u64 X,Z],(0:Int)]) g))))))))
def aA.mY:aS:=(.s .r (.s (.bP (.s .r (.c (.s .r .l) (.s .r (.c (.s .r .l) fj))))) (.s .r (.s (.bP (.s (.cY [.r,.r,.r,.r,.r,.r,.r,.pure 2,.r,.r,.r,.split 6]) (.c (.s .r .l) (.s (.cY [.r,.r,.r,.r,.split 5]) (.c
 (.s .r .l) .l))))) (.s .r (.s (.cr 7 true ⟨[0,1,2,4,0,16,0,104,255,511],[0,1,2,4,0,16,0,104,128,0]⟩ [37778931862957161709568,75557863725914323419136,151115727451828646838272,302231454903657293676544,
 604462909807314587353088,1208925819614629174706176,2417851639229258349412352,4835703278458516698824704,0,32] [2,37778931862957161709568,75557863725914323419136,151115727451828646838272,2,604462909807314587353088,128,
 3929008913747544817795072,4835703278458516698824720,0] (.t 0 (.t 1 (.t 2 (.t 3 (.t 4 (.t 6 (.bR 5 (.tail [.r,.r,.r]))))))))) .l))))))
def af.pI(b:Y)(n:Int)(w:J)(Q:aa->J->Prop):Prop:=aM 128 #[n] w λh w1=>ak (!h) (Q (.tuple #[.pointer none,(1:Int)]) w1) (aC 129 #[n] w1 λn6 c=>bt
 (λe:ai->J->Prop=>ak ((b.len:Int) !=n6) (e true c) ((8:Int)≠0/\bt (λf:ai->J->Prop=>ak (decide (((Int.tmod n 8):Int)>0)) (∃a9:ae,b.a=some a9/\((0:Int)<=(au ((b.len:Int)-1))/\(au
 ((b.len:Int)-1))<(b.len:Int))/\b5 c (a9.add ((au ((b.len:Int)-1)).toNat*1)) λn10=>(8:Int)≠0/\(0:Int)<=(Int.tmod n 8)/\f (decide (((Int.fdiv n10 (2^(min ((Int.tmod n 8).toNat) 8))):Int)>0)) c) (f
 false c)) (λ(i:ai) j=>e i j))) (λ(k:ai) g=>ak k (Q (.tuple #[.pointer none,(4:Int)]) g) (bc 135 #[b] g λl d=>al (d.alloc (.cells #[n,l,()] 218)) λm=>aU 131 #[.pointer (some (U d))] m λo=>Q (.tuple #[.pointer (some (U d)),(0:Int)]) o)))
def aA.pI:aS:=(.s .r (.s (.bP (.s .r (.c (.s .r .l) (.s (.cY [.r,.r,.r,.r,.r,.r,.split 15,.r,.r,.r,.split 10]) (.c (.s .r .l) .l))))) a3))
def af.uB(t:aq ae)(no:Int)(level:Int)(c:Y)(f:hK)(w:J)(Q:aa->J->Prop):Prop:=g0 196 #[.pointer t,.int .i64 no,.bool (level==1)] w λv d e g n7 w1=>al
 (w1.alloc ct) λx=>bA x (U w1) [.bool v,.slice d.a d.len d.cap,.slice e.a e.len e.cap,.slice g.a g.len g.cap]/\(4:Nat)=4/\al (setCells x (U w1) 0 [.bool v,.slice d.a d.len d.cap,.slice e.a e.len
 e.cap,.slice g.a g.len g.cap]) λh=>ak (n7 !=0) (Q (.tuple #[.bool false,.int .i64 n7]) h) (a_ h (U w1) λD=>ag h (Addr.add (U w1) 1) λk=>ag h (Addr.add (U w1) 2) λl=>ag h (Addr.add (U w1) 3) λm
 =>iD aj f.f/\Calls aj f.f (f.pre++ #[.int .i64 no,.agg #[.bool D,.slice k.a k.len k.cap,.slice l.a l.len l.cap,.slice m.a m.len m.cap]]++f.cap) h λE n=>∃y:ai,E=.returned
 (.bool y)/\ak (!y) (Q (.tuple #[.bool false,.int .i64 0]) n) (ak (level==1) (Q (.tuple #[.bool true,.int .i64 0]) n) (al (n.drew) λb=>∃o:Nat->Prop,¬o (Addr.add (U w1) 3).block/\ag b (Addr.add (U w1) 3)
 λi=>¬o ((U w1):ae).block/\a_ b (U w1) λF=>ag b (Addr.add (U w1) 1) λp=>ag b (Addr.add (U w1) 2) λq=>ag b (Addr.add (U w1) 3) λr=>aC 197 #[.agg #[.bool F,.slice p.a p.len
 p.cap,.slice q.a q.len q.cap,.slice r.a r.len r.cap],.slice c.a c.len c.cap] b λn26 z=>ad o b z/\((0:Int)<=n26/\n26<=(i.len:Int))/\∃ (s:Int->J->Prop) (A:Int->J->
 Nat),s 0 z/\∀ (n29:Int) (j:J),s n29 j->ak (decide (n29<(((i.len-(Int.toNat n26)):Nat):Int))) (∃B:ae,(aO i.a 1 (Int.toNat n26) i.cap)=some B/\((0:Int)<=n29/\n29<(((i.len-(Int.toNat
 n26)):Nat):Int))/\r1 j (B.add (Int.toNat n29*1)) λn32=>jZ 174 #[.pointer t,.int .i64 n32,.int .i64 (au (level-1)),.slice c.a c.len c.cap,.func (.func f.f) f.pre f.cap] j λC n36 u
 =>ak ((n36 !=0)||(!C)) (Q (.tuple #[.bool C,.int .i64 n36]) u) (s (au (n29+1)) u/\A (au (n29+1)) u<A n29 j)) (Q (.tuple #[.bool true,.int .i64 0]) j))))
def aA.uB:aS:=(.s .r (.s .r (.s a1 (.s a1 (.s a1 (.s (.s (.cr 8 true ⟨[0,1,0,0,12,18,32,0],[0,1,0,0,12,18,32,0]⟩ [68719476736,137438953472,274877906944,549755813888,1099511627776,2199023255552,
 4398046511104,8796093022208] [4096,68719476736,4096,8,824633720832,1236950581248,2199023255552,0] (.t 0 (.t 1 (.t 2 (.t 3 (.t 7 (.bR 4 (.t 5 (.t 6 .fin))))))))) (.bP (.loop [(43,(.int .i64))] [0,2,3,4,41,42] (.s .r (.s (.c
 .l .l) (.s (.bP (.s .r (.s .r a5))) .r)))))) (.s .r .l)))))))
def af.uC(ab:Int)(B:ai)(C:Y)(D:Y)(E:Y)(x:ae)(F:ae)(c:ae)(G:ae)(w:J)(Q:aa->J->Prop):Prop:=al (w.alloc (.cells #[B,C,D,E] 202)) λw1=>ag w1 ((U w).add 1) λs2=>∃ (i:Int->J->Prop) (n:Int->J->Nat),i 0 w1/\∀ (n5
 :Int) (b:J),i n5 b->ak (decide (n5<(s2.len:Int))) (∃dF:ae,s2.a=some dF/\aL n5 s2.len/\ag b (dF.add (n5.toNat*1)) λj=>ag b x λH=>bt (λo:ai->J->Prop=>ak (decide ((H.len:Int)>0))
 (ag b x λI=>aC 176 #[j,I] b λn14 K=>o (decide (n14>=0)) K) (o false b)) (λ(L:ai) k=>bt (λp:ai->J->Prop=>ak L (a_ k (U
 w) λM=>p M k) (p false k)) (λ(N:ai) d=>ak N (Q false d) (bt (λq:J->Prop=>a_ d (U w) λO=>bt (λr:ai->J->Prop=>ak O (ag d F λP=>aC 176
 #[j,P] d λn27 R=>r (decide (n27>=0)) R) (r false d)) (λ(S:ai) s=>ak S (al (s.drew) λe=>∃g:Nat->Prop,¬g c.block/\ag e c λT=>
 ¬g ((U w).add 2).block/\ag e ((U w).add 2) λt=>∃l:ae,t.a=some l/\aL n5 t.len/\¬g (l.add (n5.toNat*1)).block/\ag e (l.add (n5.toNat*1)) λV=>∃v:Array aa,(∀y:
 J,Sem.run aj (Instr.build 167 #[(0,j),(1,V)]) y=.ok (.agg v) y)/\∃z:Y,∃m:J,Sem.run aj (Instr.buildSlice 86 1 #[(0,.agg
 v)]) e=.ok z m/\ad g e m/\∃A:Y,∃h:J,Sem.run aj (Builtin.append_ #[86,86] 86 #[T,z]) m=.ok A h/\(∃u:aa,h.cell? c=some u)/\h.frozen? c=false/\al (h.setCell c A) λW=>q W) (q s))) (λf=>ag f c λX=>
 r1 f G λZ=>ak ((X.len:Int)==Z) (Q false f) (i (au (n5+1)) f/\n (au (n5+1)) f<n n5 b)))))) (Q true b)
def aA.uC:aS:=(.s .r (.s (.s .r (.bP (.loop [(14,(.int .i64))] [2,3,4,5,7,12,13] (.s .r (.s (.c .l .l) (.s (.bP (.s .r (.s (.s (.cY [.r,.r,.r,.r,.split 4,.r,.r,.r,.r,.r,.split 2]) (.c (.s .r .l) .l)) (.s
 (.eF [] [2,3,4,5,7,12,13,14] (.s (.cY [.r,.r,.r,.split 4]) (.c (.cr 9 true ⟨[0,0,0,4,0,24,32,66,128,257,1023],[0,0,0,4,0,24,32,66,128,257,512]⟩ [1099511627776,2199023255552,4398046511104,8796093022208,
 17592186044416,35184372088832,70368744177664,140737488355328,281474976710656,562949953421312,0] [16,1024,128,4398046511104,512,26388279066624,35184372088832,72567767433216,140737488355328,282574488338432,562949953421328] (.t
 0 (.t 1 (.t 2 (.t 3 (.t 4 (.t 5 (.t 6 (.t 7 (.bR 8 (.tail [.r,.r]))))))))))) .l))) a1)))) .r)))))) (.s .r .l)))
def af.rz(s:aq ae)(no:Int)(w:J)(Q:aa->J->Prop):Prop:=aM 218 #[s,no] w λb w1=>bt (λa:ai->J->Prop=>ak b (∃a5:ae,s=some a5/\ag
 w1 (a5.add 1) λc=>aM 214 #[c,no] w1 λd e=>a d e) (a false w1)) (λ(f:ai) g=>Q f g)
def aA.rz:aS:=(.s .r (.s (.cY [.r,.r,.r,.r,.split 6]) .l))
theorem af.EG(s:aq ae)(no:Int)(w:J)(Q:aa->J->Prop)(h:af.rz s no w Q):aQ aj 183 #[s,no] w Q:=okF (λw Q=>af.rz s no w Q) aA.rz func183 h
def af.uD(size:Int)(w:J)(Q:aa->J->Prop):Prop:=Q (.bool ((decide (size>=1))&&(decide (size<=8)))) w
def aA.uD:aS:=a4
theorem af.As(size:Int)(w:J)(Q:aa->J->Prop)(h:af.uD size w Q):aQ aj 192 #[size] w Q:=okF (λw Q=>af.uD size w Q) aA.uD func192 h
end Go.Proofs.YtkdhdlfonmgheaaGreat
