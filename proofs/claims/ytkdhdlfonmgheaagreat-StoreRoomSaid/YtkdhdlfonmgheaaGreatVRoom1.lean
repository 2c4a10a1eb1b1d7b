/- Printed by gen.py: functions of the program, each as what must be shown of it. -/
import Derived.Test.YtkdhdlfonmgheaaGreatProg
import Derived.Test.YtkdhdlfonmgheaaGreatKRoom2
namespace a6
abbrev aS.s:=aS.seq
abbrev aS.l:=aS.leaf
abbrev aS.c:=aS.cond
abbrev aS.r:=aS.c7 []
abbrev aL.t:=aL.take
abbrev jS.r:=jS.run
end a6
namespace Go.Proofs.YtkdhdlfonmgheaaGreat
noncomputable abbrev ak:=Tryz.prog
open Go a6 Go.Proofs.Tryz
namespace F
end F
namespace Ca
end Ca
namespace G
end G
abbrev aQ:dt:=.one (.one .fn)
abbrev eF:dt:=.one (.one .agg)
abbrev fE:dt:=.one (.one .ptr)
abbrev ik:dt:=.one (.one .slice)
abbrev mI:dt:=.eT [(.one .ptr),(.one (.int .i64))]
abbrev n2:dt:=.eT [(.one .slice),(.one (.int .i64))]
abbrev rN:dt:=.one (.one (.int .i64))
abbrev rO:dt:=.one (.one (.int .u8))
abbrev rP:dt:=.one (.one (.int .u64))
abbrev rQ:dt:=.one (.flat [.slice,.slice])
abbrev rR:dt:=.one (.flat [.ptr,.slice,(.int .i64)])
abbrev rS:dt:=.one (.flat [.slice,(.int .i64)])
def Cb:O dt:=[(.eT []),aQ,rN,rN,(.one (.one .bool)),rO,rO,(.one (.flat [(.int .i64),(.int .i64),.bool,(.int .u8)])),(.one (.flat [(.int .i64),(.int .i64),.bool,(.int .u8)])),(.one (.one .str)),(.one (.one .str)),(.one (.one .str)),rP,(.one (.flat [.str,(.int .u64)])),(.one (.flat [.str,(.int .u64)])),fE,fE,fE,(.one (.flat [.ptr])),(.one (.flat [.ptr])),(.one (.one .any)),(.one (.one (.int .i32))),eF,eF,eF,eF,eF,rP,eF,eF,fE,fE,(.eT [(.one .ptr),(.one .ptr),(.one .bool)]),aQ,rN,aQ,aQ,aQ,aQ,ik,mI,aQ,fE,mI,aQ,(.one (.flat [(.int .i64),(.int .i64),(.int .u64)])),(.one (.flat [(.int .i64),(.int .i64),(.int .u64)])),aQ,ik,(.one (.flat [(.int .i64),.slice,.slice,(.int .i64)])),(.one (.flat [(.int .i64),.slice,.slice,(.int .i64)])),aQ,(.eT [(.one .bool),(.one (.int .i64))]),aQ,aQ,aQ,aQ,aQ,ik,eF,eF,(.eT [(.one .agg),(.one .bool),(.one (.int .i64))]),aQ,aQ,(.eT [(.one (.int .i64)),(.one (.int .i64))]),aQ,(.eT [(.one .slice),(.one (.int .i64)),(.one (.int .i64))]),aQ,ik,n2,aQ,aQ,mI,aQ,aQ,ik,fE,(.one (.flat [(.int .i64),.slice])),(.one (.flat [(.int .i64),.slice])),aQ,aQ,aQ,ik,(.one (.flat [(.int .i64),(.int .i64),(.int .u8)])),(.one (.flat [(.int .i64),(.int .i64),(.int .u8)])),fE,ik,(.one (.flat [.slice])),(.one (.flat [.slice])),eF,eF,(.one (.flat [(.int .i64),(.int .i64),(.int .i64),.slice,.slice,.slice])),(.one (.flat [(.int .i64),(.int .i64),(.int .i64),.slice,.slice,.slice])),aQ,aQ,aQ,n2,aQ,aQ,aQ,aQ,rP,aQ,(.one (.flat [(.int .i64),(.int .i64),(.int .i64),(.int .u64),(.int .u64),(.int .i64)])),(.one (.flat [(.int .i64),(.int .i64),(.int .i64),(.int .u64),(.int .u64),(.int .i64)])),aQ,(.eT [(.one .bool),(.one .agg)]),aQ,aQ,aQ,aQ,aQ,aQ,aQ,(.eT [(.one .slice),(.one .bool),(.one (.int .i64))]),aQ,aQ,aQ,aQ,eF,eF,eF,eF,(.eT [(.one .agg),(.one (.int .i64))]),aQ,aQ,aQ,ik,aQ,aQ,(.eT [(.one .slice),(.one .bool)]),aQ,aQ,(.one (.flat [.ptr,(.int .i64)])),(.one (.flat [.ptr,(.int .i64)])),aQ,ik,(.one (.one .map)),eF,eF,eF,eF,aQ,fE,mI,aQ,n2,aQ,aQ,(.one (.flat [(.int .i64),(.int .u64),.slice])),(.one (.flat [(.int .i64),(.int .u64),.slice])),eF,aQ,aQ,aQ,fE,fE,eF,eF,aQ,aQ,(.eT [(.one .agg),(.one .bool)]),aQ,aQ,aQ,aQ,rQ,rQ,aQ,aQ,aQ,n2,aQ,aQ,aQ,(.eT [(.one (.int .i64)),(.one .bool)]),aQ,aQ,aQ,aQ,aQ,eF,eF,(.eT [(.flat [(.int .i64),(.int .i64),(.int .i64),(.int .u64),(.int .u64),(.int .i64)]),(.one (.int .u64)),(.one (.int .i64))]),aQ,aQ,aQ,fE,aQ,fE,(.one (.one .map)),eF,eF,aQ,(.eT [(.flat [(.int .i64),(.int .i64),(.int .i64),(.int .u64),(.int .u64),(.int .i64)]),(.one (.int .u64)),(.one (.int .i64))]),aQ,aQ,aQ,aQ,(.eT [(.flat [(.int .i64),(.int .u64),.slice]),(.one (.int .i64))]),aQ,(.one (.flat [.bool,.slice,.slice,.slice])),(.one (.flat [.bool,.slice,.slice,.slice])),(.eT [(.flat [.bool,.slice,.slice,.slice]),(.one .bool)]),aQ,fE,aQ,ik,rQ,rQ,(.eT [(.one .agg),(.one .bool)]),aQ,aQ,aQ,fE,ik,aQ,(.one (.flat [(.int .i64),.slice,.slice])),(.one (.flat [(.int .i64),.slice,.slice])),(.one (.one (.int .u32))),aQ,aQ,aQ,aQ,mI,aQ,mI,aQ,ik,n2,aQ,eF,eF,aQ,(.eT [(.one (.int .i64)),(.one (.int .i64))]),aQ,aQ,aQ,(.one (.flat [.ptr,.ptr,(.int .u64),(.int .i64),(.int .i64)])),(.one (.flat [.ptr,.ptr,(.int .u64),(.int .i64),(.int .i64)])),aQ,(.eT [(.one .slice),(.one (.int .i64)),(.one (.int .i64))]),aQ,aQ,(.eT [(.one (.int .u64)),(.one .bool)]),aQ,(.eT [(.one .agg),(.one .bool)]),aQ,aQ,(.eT [(.one .slice),(.one .slice)]),aQ,aQ,aQ,aQ,aQ,aQ,aQ,(.eT [(.flat [(.int .i64),(.int .i64),(.int .i64),(.int .u64),(.int .u64),(.int .i64)]),(.one (.int .i64)),(.one (.int .u64)),(.one (.int .i64))]),aQ,aQ,aQ,aQ,aQ,aQ,aQ,aQ,(.one (.flat [(.int .i64),(.int .i64)])),(.one (.flat [(.int .i64),(.int .i64)])),ik,aQ,aQ,aQ,aQ,aQ,aQ,aQ,aQ,aQ,aQ,ik,rR,rR,(.eT [(.flat [.bool,.slice,.slice,.slice]),(.one (.int .i64))]),aQ,aQ,aQ,aQ,(.one (.flat [.bool,.bool,.bool,(.int .i64),(.int .i64),.slice])),(.one (.flat [.bool,.bool,.bool,(.int .i64),(.int .i64),.slice])),fE,aQ,aQ,aQ,aQ,aQ,fE,(.one (.flat [.ptr,.slice,.slice])),(.one (.flat [.ptr,.slice,.slice])),(.eT [(.one (.int .i64)),(.one (.int .i64)),(.one (.int .i64))]),aQ,aQ,fE,rR,rR,aQ,aQ,aQ,aQ,mI,aQ,aQ,aQ,aQ,aQ,fE,rS,rS,aQ,aQ,aQ,aQ,aQ,aQ,aQ,aQ,fE,ik,(.eT [(.one .slice),(.one (.int .i64)),(.one (.int .i64)),(.one (.int .i64))]),aQ,aQ,aQ,n2,aQ,rS,rS,aQ,aQ,aQ,aQ,rN,(.eT [(.one (.int .i64)),(.one (.int .i64))]),aQ,aQ,aQ,aQ,aQ,aQ,aQ,aQ,aQ,aQ,aQ,fE,(.one (.flat [.slice,.bool])),(.one (.flat [.slice,.bool])),aQ,aQ,eF,aQ,aQ,aQ,aQ,aQ,aQ,rP,aQ,aQ,fE,aQ,aQ,aQ,fE,aQ,(.eT [(.flat [.bool,.slice,.slice,.slice]),(.one .slice),(.flat [.bool,.slice,.slice,.slice]),(.one .bool)]),aQ,aQ,aQ,(.one (.flat [.ptr,.ptr,.ptr,.str])),(.one (.flat [.ptr,.ptr,.ptr,.str])),eF,eF,eF,rO,rO,aQ,fE,(.one (.one (.int .i32))),(.one (.one (.int .i32))),eF,eF,fE]
def tk:TypeId->dt:=λt=>Cb.getD t (.one (.one .any))
theorem vg:Tryz.prog.follows .mixedOrders=true:=by kernel_rfl
def U(w:J):ae:=w.heap.size
def au(n:Int):Int:=IntKind.wrap .i64 n
def aI(n:Int)(k:Nat):Prop:=(0:Int)<=n/\n<(k:Int)
def al(c:ai)(A B:Prop):Prop:=(c=true->A)/\(c=false->B)
def jy:Int:=9223372036854775807
def st(w:J)(A:ae)(v:aa)(K:J->Prop):Prop:=(∃u:aa,w.cell? A=some u)/\w.frozen? A=false/\an (w.setCell A v) λw1=>K w1
def Gy(w:J)(z:Obj)(l:O aa)(k:Nat)(K:J->Prop):Prop:=an (w.alloc z) λw1=>bt w1 (U w) (Array.toList l.toArray)/\Array.size l.toArray=k/\an (setCells w1 (U w) 0 (Array.toList l.toArray)) λah=>K ah
def rT(s:Y)(n:Int)(w:J)(k:Nat)(K:O aa->Prop):Prop:=∃a:ae,s.a=some a/\aI n s.len/\∃l:O aa,cz w (a.add (n.toNat*k)) 0 k=some l/\K l
def aB(f:Nat)(a:Array aa)(w:J)(K:Int->J->Prop):Prop:=Calls ak f a w λe w'=>∃b:Int,e=.returned b/\K b w'
def aT(f:Nat)(a:Array aa)(w:J)(K:J->Prop):Prop:=Calls ak f a w λe w'=>e=.returned (.tuple #[])/\K w'
def aH(f:Nat)(a:Array aa)(w:J)(K:ai->J->Prop):Prop:=Calls ak f a w λe w'=>∃b:ai,e=.returned b/\K b w'
def dj(f:Nat)(a:Array aa)(w:J)(K:aq ae->Int->J->Prop):Prop:=Calls ak f a w λe w'=>∃b:aq ae,∃c:Int,e=.returned (.tuple #[b,c])/\K b c w'
def aW(f:Nat)(a:Array aa)(w:J)(K:Y->J->Prop):Prop:=Calls ak f a w λe w'=>∃b:Y,e=.returned b/\K b w'
def b8(f:Nat)(a:Array aa)(w:J)(K:Y->Int->J->Prop):Prop:=Calls ak f a w λe w'=>∃b:Y,∃c:Int,e=.returned (.tuple #[b,c])/\K b c w'
def lP(f:Nat)(a:Array aa)(w:J)(K:Y->ai->Int->J->Prop):Prop:=Calls ak f a w λe w'=>∃b:Y,∃c:ai,∃d:Int,e=.returned (.tuple #[b,c,d])/\K b c d w'
def rU(f:Nat)(a:Array aa)(w:J)(K:ai->Int->J->Prop):Prop:=Calls ak f a w λe w'=>∃b:ai,∃c:Int,e=.returned (.tuple #[b,c])/\K b c w'
def yy(f:Nat)(a:Array aa)(w:J)(K:Int->Int->Int->Int->Int->Int->Int->Int->J->Prop):Prop:=Calls ak f a w λe w'=>∃b:Int,∃c:Int,∃d:Int,∃g:Int,∃h:Int,∃i:Int,∃j:Int,∃k:Int,e=.returned (.tuple #[.agg #[b,c,d,.int .u64 g,.int .u64 h,i],.int .u64 j,k])/\K b c d g h i j k w'
def gv(f:Nat)(a:Array aa)(w:J)(K:Int->J->Prop):Prop:=Calls ak f a w λe w'=>∃b:Int,e=.returned (.int .u32 b)/\K b w'
def rV(f:Nat)(a:Array aa)(w:J)(K:Array aa->J->Prop):Prop:=Calls ak f a w λe w'=>∃b:Array aa,e=.returned (.agg b)/\K b w'
def jz(f:Nat)(a:Array aa)(w:J)(K:Int->ai->J->Prop):Prop:=Calls ak f a w λe w'=>∃b:Int,∃c:ai,e=.returned (.tuple #[b,c])/\K b c w'
def e2(f:Nat)(a:Array aa)(w:J)(K:Int->Int->J->Prop):Prop:=Calls ak f a w λe w'=>∃b:Int,∃c:Int,e=.returned (.tuple #[b,c])/\K b c w'
def lQ(f:Nat)(a:Array aa)(w:J)(K:ai->Y->Y->Y->ai->J->Prop):Prop:=Calls ak f a w λe w'=>∃b:ai,∃c:Y,∃d:Y,∃g:Y,∃h:ai,e=.returned (.tuple #[.agg #[b,c,d,g],h])/\K b c d g h w'
def yz(f:Nat)(a:Array aa)(w:J)(K:Y->Int->Int->J->Prop):Prop:=Calls ak f a w λe w'=>∃b:Y,∃c:Int,∃d:Int,e=.returned (.tuple #[b,c,d])/\K b c d w'
def yA(f:Nat)(a:Array aa)(w:J)(K:Int->Int->Int->Int->Int->Int->Int->Int->Int->J->Prop):Prop:=Calls ak f a w λe w'=>∃b:Int,∃c:Int,∃d:Int,∃g:Int,∃h:Int,∃i:Int,∃j:Int,∃k:Int,∃l:Int,e=.returned (.tuple #[.agg #[b,c,d,.int .u64 g,.int .u64 h,i],j,.int .u64 k,l])/\K b c d g h i j k l w'
def kv(f:Nat)(a:Array aa)(w:J)(K:Int->Int->Y->Int->J->Prop):Prop:=Calls ak f a w λe w'=>∃b:Int,∃c:Int,∃d:Y,∃g:Int,e=.returned (.tuple #[.agg #[b,.int .u64 c,d],g])/\K b c d g w'
def yB(f:Nat)(a:Array aa)(w:J)(K:gX->J->Prop):Prop:=Calls ak f a w λe w'=>∃b:gX,e=.returned (.func (.func b.f) b.pre b.cap)/\K b w'
def jX(f:Nat)(a:Array aa)(w:J)(K:ai->Y->Y->Y->Int->J->Prop):Prop:=Calls ak f a w λe w'=>∃b:ai,∃c:Y,∃d:Y,∃g:Y,∃h:Int,e=.returned (.tuple #[.agg #[b,c,d,g],h])/\K b c d g h w'
def jY(f:Nat)(a:Array aa)(w:J)(K:aq ae->J->Prop):Prop:=Calls ak f a w λe w'=>∃b:aq ae,e=.returned (b)/\K b w'
def fO(f:Nat)(a:Array aa)(w:J)(K:ai->Y->Y->Y->J->Prop):Prop:=Calls ak f a w λe w'=>∃b:ai,∃c:Y,∃d:Y,∃g:Y,e=.returned (.agg #[b,c,d,g])/\K b c d g w'
def n3(f:Nat)(a:Array aa)(w:J)(K:Int->Int->Int->J->Prop):Prop:=Calls ak f a w λe w'=>∃b:Int,∃c:Int,∃d:Int,e=.returned (.tuple #[b,c,d])/\K b c d w'
def il(f:Nat)(a:Array aa)(w:J)(K:Y->ai->J->Prop):Prop:=Calls ak f a w λe w'=>∃b:Y,∃c:ai,e=.returned (.tuple #[b,c])/\K b c w'
def fP(f:Nat)(a:Array aa)(w:J)(K:Int->J->Prop):Prop:=Calls ak f a w λe w'=>∃b:Int,e=.returned (.int .u64 b)/\K b w'
def mJ(f:Nat)(a:Array aa)(w:J)(K:Y->Int->Int->Int->J->Prop):Prop:=Calls ak f a w λe w'=>∃b:Y,∃c:Int,∃d:Int,∃g:Int,e=.returned (.tuple #[b,c,d,g])/\K b c d g w'
def n4(f:Nat)(a:Array aa)(w:J)(K:Int->ai->J->Prop):Prop:=Calls ak f a w λe w'=>∃b:Int,∃c:ai,e=.returned (.tuple #[.int .u64 b,c])/\K b c w'
def n_(f:Nat)(a:Array aa)(w:J)(K:ai->Y->Y->Y->Y->ai->Y->Y->Y->ai->J->Prop):Prop:=Calls ak f a w λe w'=>∃b:ai,∃c:Y,∃d:Y,∃g:Y,∃h:Y,∃i:ai,∃j:Y,∃k:Y,∃l:Y,∃m:ai,e=.returned (.tuple #[.agg #[b,c,d,g],h,.agg #[i,j,k,l],m])/\K b c d g h i j k l m w'
def pZ(f:Nat)(a:Array aa)(w:J)(K:Int->Int->Int->J->Prop):Prop:=Calls ak f a w λe w'=>∃b:Int,∃c:Int,∃d:Int,e=.returned (.agg #[b,c,.int .u64 d])/\K b c d w'
def yC(f:Nat)(a:Array aa)(w:J)(K:Int->Y->Y->Int->J->Prop):Prop:=Calls ak f a w λe w'=>∃b:Int,∃c:Y,∃d:Y,∃g:Int,e=.returned (.agg #[b,c,d,g])/\K b c d g w'
def r1(w:J)(A:ae)(K:Int->Prop):Prop:=∃x:Int,w.cell? A=some (.int .i64 x)/\K x
def bW(w:J)(A:ae)(K:Int->Prop):Prop:=∃x:Int,w.cell? A=some (.int .u8 x)/\K x
def ag(w:J)(A:ae)(K:Y->Prop):Prop:=∃x:Y,w.cell? A=some (.slice x.a x.len x.cap)/\K x
def bF(w:J)(A:ae)(K:Int->Prop):Prop:=∃x:Int,w.cell? A=some (.int .u64 x)/\K x
def a8(w:J)(A:ae)(K:ai->Prop):Prop:=∃x:ai,w.cell? A=some (.bool x)/\K x
def gD:Obj:=.cells #[(0:Int),(0:Int),(0:Int),.int .u64 0,.int .u64 0,(0:Int)] 104
def cc:Obj:=.cells #[false,(),(),()] 202
def z3:Obj:=.cells #[(0:Int),.int .u64 0,()] 150
def z4:Obj:=.cells #[.int .u8 0,.int .u8 0,.int .u8 0,.int .u8 0,.int .u8 0,.int .u8 0,.int .u8 0,.int .u8 0,.int .u8 0,.int .u8 0,.int .u8 0,.int .u8 0,.int .u8 0,.int .u8 0,.int .u8 0,.int .u8 0,.int .u8 0,.int .u8 0,.int .u8 0,.int .u8 0,.int .u8 0,.int .u8 0,.int .u8 0,.int .u8 0,.int .u8 0,.int .u8 0,.int .u8 0,.int .u8 0,.int .u8 0,.int .u8 0,.int .u8 0,.int .u8 0,.int .u8 0,.int .u8 0,.int .u8 0,.int .u8 0,.int .u8 0,.int .u8 0,.int .u8 0,.int .u8 0,.int .u8 0,.int .u8 0,.int .u8 0,.int .u8 0,.int .u8 0,.int .u8 0,.int .u8 0,.int .u8 0,.int .u8 0,.int .u8 0,.int .u8 0,.int .u8 0,.int .u8 0,.int .u8 0,.int .u8 0,.int .u8 0,.int .u8 0,.int .u8 0,.int .u8 0,.int .u8 0,.int .u8 0,.int .u8 0,.int .u8 0,.int .u8 0,.int .u8 0,.int .u8 0,.int .u8 0,.int .u8 0,.int .u8 0,.int .u8 0,.int .u8 0,.int .u8 0,.int .u8 0,.int .u8 0,.int .u8 0,.int .u8 0,.int .u8 0,.int .u8 0,.int .u8 0,.int .u8 0,.int .u8 0,.int .u8 0,.int .u8 0,.int .u8 0,.int .u8 0,.int .u8 0,.int .u8 0,.int .u8 0,.int .u8 0,.int .u8 0,.int .u8 0,.int .u8 0,.int .u8 0,.int .u8 0,.int .u8 0,.int .u8 0,.int .u8 0,.int .u8 0,.int .u8 0,.int .u8 0,.int .u8 0,.int .u8 0,.int .u8 0,.int .u8 0,.int .u8 0,.int .u8 0,.int .u8 0,.int .u8 0,.int .u8 0,.int .u8 0,.int .u8 0,.int .u8 0,.int .u8 0,.int .u8 0,.int .u8 0,.int .u8 0,.int .u8 0,.int .u8 0,.int .u8 0,.int .u8 0,.int .u8 0,.int .u8 0,.int .u8 0,.int .u8 0,.int .u8 0,.int .u8 0,.int .u8 0,.int .u8 0,.int .u8 0,.int .u8 0,.int .u8 0,.int .u8 0,.int .u8 0,.int .u8 0,.int .u8 0,.int .u8 0,.int .u8 0,.int .u8 0,.int .u8 0,.int .u8 0,.int .u8 0,.int .u8 0,.int .u8 0,.int .u8 0,.int .u8 0,.int .u8 0,.int .u8 0,.int .u8 0,.int .u8 0,.int .u8 0,.int .u8 0,.int .u8 0,.int .u8 0,.int .u8 0,.int .u8 0,.int .u8 0,.int .u8 0,.int .u8 0,.int .u8 0,.int .u8 0,.int .u8 0,.int .u8 0,.int .u8 0,.int .u8 0,.int .u8 0,.int .u8 0,.int .u8 0,.int .u8 0,.int .u8 0,.int .u8 0,.int .u8 0,.int .u8 0,.int .u8 0,.int .u8 0,.int .u8 0,.int .u8 0,.int .u8 0,.int .u8 0,.int .u8 0,.int .u8 0,.int .u8 0,.int .u8 0,.int .u8 0,.int .u8 0,.int .u8 0,.int .u8 0,.int .u8 0,.int .u8 0,.int .u8 0,.int .u8 0,.int .u8 0,.int .u8 0,.int .u8 0,.int .u8 0,.int .u8 0,.int .u8 0,.int .u8 0,.int .u8 0,.int .u8 0,.int .u8 0,.int .u8 0,.int .u8 0,.int .u8 0,.int .u8 0,.int .u8 0,.int .u8 0,.int .u8 0,.int .u8 0,.int .u8 0,.int .u8 0,.int .u8 0,.int .u8 0,.int .u8 0,.int .u8 0,.int .u8 0,.int .u8 0,.int .u8 0,.int .u8 0,.int .u8 0,.int .u8 0,.int .u8 0,.int .u8 0,.int .u8 0,.int .u8 0,.int .u8 0,.int .u8 0,.int .u8 0,.int .u8 0,.int .u8 0,.int .u8 0,.int .u8 0,.int .u8 0,.int .u8 0,.int .u8 0,.int .u8 0,.int .u8 0,.int .u8 0,.int .u8 0,.int .u8 0,.int .u8 0,.int .u8 0,.int .u8 0,.int .u8 0,.int .u8 0,.int .u8 0,.int .u8 0,.int .u8 0,.int .u8 0,.int .u8 0,.int .u8 0,.int .u8 0,.int .u8 0,.int .u8 0,.int .u8 0,.int .u8 0,.int .u8 0] 182
def z5:Obj:=.cells #[(),(0:Int)] 334
def rW:Obj:=.cells #[(0:Int),(),(),(0:Int)] 50
def vh:Obj:=.cells #[.int .u8 97] 5
def a1:aS:=(.s .r (.c (.s .r .l) .l))
def fF:aS:=(.s .r (.s (.c .l .l) (.s (.bR (.s .r a1)) .r)))
def dd:aS:=(.s .r (.s a1 (.s .r .l)))
def er:aS:=(.s .r (.s (.s .r (.bR (.loop [(8,(.int .i64))] [0,1,7] fF))) (.s .r .l)))
def eG:aS:=(.s .r (.c (.s .r .l) a1))
def f_:aS:=(.s a1 (.s .r (.s .r .l)))
def e8:aS:=(.s (.s .r a1) (.s .r .l))
def iJ:aS:=(.s .r (.s (.c .l .l) (.s (.bR (.s .r (.s .r a1))) .r)))
def a2:aS:=(.s .r (.s (.c .l .l) (.s (.bR (.s .r .r)) .r)))
def a3:aS:=(.s .r (.s .r (.s .r .l)))
def a4:aS:=(.s .r (.s (.c7 [.r,.r,.r,.pure 2]) .l))
def a5:aS:=(.s (.c7 [.r,.r,.r,.pure 2]) (.c (.s .r .l) .l))
def de:aS:=(.s .r (.s (.c7 [.r,.r,.r,.r,.pure 3]) .l))
def dN:aS:=(.c (.s .r (.s .r .l)) .l)
def dY:aS:=(.s .r (.s (.c7 [.r,.r,.r,.pure 2,.r,.r,.r,.split 7]) .l))
def a9:aS:=(.s (.c7 [.r,.r,.r,.r,.split 4]) (.c (.s .r .l) .l))
def eU:aS:=(.s (.c7 [.r,.r,.r,.split 3]) (.c (.s .r .l) .l))
def ez:aS:=(.s (.c7 [.r,.r,.r,.pure 3]) (.c (.s .r .l) .l))
theorem okF{f:Nat}{fn:Func}(p:J->(aa->J->Prop)->Prop)(A:aS){args:O aa}{w:J}{Q:aa->J->Prop}(hf:Tryz.prog.funcs[f]? =some fn)(h:p w Q)(h1:mD fn args.length=true:=by kernel_rfl)(h2:p w Q=nY ak tk A fn args w Q:=by kernel_rfl):aP ak f args.toArray w Q:=BS vg hf h1 (Eq.mp h2 h)
def p0(a:J)(c:J)(ah:J)(d:ai)(Q:aa->J->Prop):Prop:=ag a ((U c).add 1) λe=>ag a ((U c).add 2) λf=>ag a ((U c).add 3) λg=>bt a (U ah)
 [d,e,f,g]/\(4:Nat)=4/\an (setCells a (U ah) 0 [d,e,f,g]) λb=>a8 b (U ah) λh=>ag b ((U ah).add 1) λi=>ag b ((U ah).add 2) λj=>ag b ((U ah).add 3) λk=>Q (.tuple #[.agg #[h,i,j,k],true]) b
def rX(c:Y)(d:J)(e:J)(f:J)(g:J->Prop):Prop:=∃a:Y,∃b:J,Sem.run ak (Builtin.append_ #[127,127] 127 #[c,
 .slice (some (U d)) 1 1]) e=.ok a b/\st b ((U f).add 1) a λh=>g h
def p1(a:J)(ah:J)(Q:aa->J->Prop)(b:ai):Prop:=ag a ((U ah).add 1) λc=>ag a ((U ah).add 2) λd=>ag a ((U ah).add 3) λe=>Q (.tuple #[.agg #[b,c,d,e],false]) a
def bK(l:J)(a:J)(m:ai)(n:Y)(o:Y)(p:Y)(b:J)(q:ai)(r:Y)(s:Y)(t:Y)(w:J)(key:Y)(ah:J)(Q:aa->J->Prop):Prop:=bt l (U a)
 [m,n,o,p]/\(4:Nat)=4/\an (setCells l (U a) 0 [m,n,o,p]) λu=>bt u (U b) [q,r,s,t]/\(4:Nat)=4/\an (setCells u (U b) 0 [q,r,s,t]) λf=>bL (λv:J->Prop=>a8 f (U w) λF=>al (!F) (an (f.drew) λg=>∃h:Nat->Prop,¬h ((U a).add 1).block/\ag g ((U a).add 1)
 λG=>aW 135 #[key] g λH d=>ad h g d/\an (d.alloc (.cells #[H] 48)) λx=>ad h d x/\rX G d x a v) (v
 f)) (λi=>ag i ((U a).add 1) λI=>ag i ((U b).add 1) λK=>∃y:Y,∃z:J,Sem.run ak (Builtin.append_ #[127,127] 127 #[I,
 K]) i=.ok y z/\st z ((U a).add 1) y λj=>ag j ((U a).add 2) λL=>ag j ((U b).add 2) λM=>∃A:Y,
 ∃B:J,Sem.run ak (Builtin.append_ #[127,127] 127 #[L,M]) j=.ok A B/\st B ((U a).add 2)
 A λk=>ag k ((U a).add 3) λN=>ag k ((U b).add 3) λO=>∃C:Y,∃D:J,Sem.run ak (Builtin.append_ #[58,58] 58 #[N,O]) k=.ok C D/\st D ((U a).add 3) C λc=>a8 c (U a) λP=>ag c ((U a).add 1) λR=>ag c
 ((U a).add 2) λS=>ag c ((U a).add 3) λT=>aH 203 #[.agg #[P,R,S,T]] c λV e=>al (!V) (bt
 e (U ah) [false,(),(),()]/\(4:Nat)=4/\an (setCells e (U ah) 0 [false,(),(),()]) λE=>a8 E (U ah) λW=>p1 E ah Q
 W) (a8 e (U a) λX=>p0 e a ah X Q))
def p2(a:J)(b:J)(c:ai)(d:Y)(e:Y)(f:Y)(g:J->Prop):Prop:=bt a (U b) [c,d,e,f]/\(4
 :Nat)=4/\an (setCells a (U b) 0 [c,d,e,f]) λh=>g h
def rY(d:J)(a:J)(e:ai)(f:Y)(g:Y)(h:Y)(i:ai)(Q:aa->J->Prop)(c:aq ae)(n31:Int):Prop:=bt d (U a) [e,f,
 g,h]/\(4:Nat)=4/\an (setCells d (U a) 0 [e,f,g,h]) λb=>
 al (!i) (Q (.tuple #[(),(0:Int),(0:Int),(4:Int)]) b) (a8 b (U a) λj=>ag b ((U a).add 1) λk=>ag b ((U a).add 2) λl=>ag b ((U a).add 3) λ
 m=>b8 281 #[c,.agg #[j,k,l,m]] b λn o p=>Q (.tuple #[n,n31,.int .i64 (au (n31+2)),o]) p)
def b7(j:J)(e:J)(q:ai)(r:Y)(s:Y)(t:Y)(V:Nat->Prop)(f:J)(u:ai)(v:Y)(x:Y)(y:Y)(up:aq ae)(n36:Int)(w:J)(h:J)(n31:Int)(Q:aa
 ->J->Prop)(c:aq ae):Prop:=bt j (U e) [q,r,s,t]/\(4:Nat)=4/\an (setCells j (U e) 0 [q,r,s,t]) λk=>ad V j k/\bt k (U f) [u,v,x,y]/\(4:
 Nat)=4/\an (setCells k (U f) 0 [u,v,x,y]) λl=>bL (λz:J->Prop=>∃A:ae,up=some A/\r1 l (A.add 5) λW
 =>al (decide (n36>W)) (an (l.drew) λd=>∃m:Nat->Prop,¬m ((U w):ae).block/\a8 d (U w) λB=>ag d ((U w).add 1) λC=>ag d ((U w).add 2) λD=>ag d ((U w).add 3) λE
 =>¬m ((U h):ae).block/\a8 d (U h) λX=>ag d ((U h).add 1) λZ=>ag d ((U h).add 2) λab=>ag d ((U h).add 3) λac=>bt d (U e) [B,C,D,E]/\(4:Nat)=4/\an (setCells d (U e) 0 [B,C,D,E]) λF=>ad m d
 F/\p2 F f X Z ab ac z) (z l)) (λaf=>an (af.drew) λb=>∃g:Nat->Prop,¬g ((U e):ae).block/\a8 b (U e) λG=>ag b ((U e).add 1) λH=>ag b ((U e).add 2) λ
 I=>ag b ((U e).add 3) λK=>∃n:ae,up=some n/\¬g ((n.add 1).add 1).block/\ag b ((n.add 1).add 1) λL=>∃o:ae,L.a=some o/\aI n31 L.len/\¬g (o.add (n31.toNat*
 1)).block/\ag b (o.add (n31.toNat*1)) λM=>¬g ((U f):ae).block/\a8 b (U f) λN=>ag b ((U f).add 1) λO=>ag b ((U f).add 2) λP=>ag b ((U f).add 3) λ
 R=>(lQ 282 #[.agg #[G,H,I,K],M,.agg #[N,O,P,R]] b λah aj ak am ao i=>ad g b i/\an (i.alloc cc) λS=>ad g i S/\rY S i ah aj ak am ao Q c n31)/\(an (b.alloc cc) λ
 p=>ad g b p/\lQ 282 #[.agg #[G,H,I,K],M,.agg #[N,O,
 P,R]] p λap ar au av aw T=>ad g p T/\rY T b ap ar au av aw Q c n31))
def df(a:J)(b:J)(w1:J)(Q:aa->J->Prop):Prop:=a8 a (U b) λc=>p0 a b w1 c Q
def rZ(a:J)(c:J)(w1:J)(d:ai)(Q:aa->J->Prop):Prop:=ag a ((U c).add 1) λe=>ag a ((U c).add 2) λf=>ag a ((U c).add 3) λg=>bt a (U w1)
 [d,e,f,g]/\(4:Nat)=4/\an (setCells a (U w1) 0 [d,e,f,g]) λb=>a8 b (U w1) λh=>ag b ((U w1).add 1) λi=>ag b ((U w1).add 2) λj=>ag b ((U w1).add 3) λk=>Q (.agg #[h,i,j,k]) b
def lR(m:J)(b:J)(e2:Array aa)(l:Y)(w:J)(to:Int)(w1:J)(Q:aa->J->Prop):Prop:=bt m (U b) (Array.toList e2)/\Array.size e2=4/\an (setCells m (U b) 0
 (Array.toList e2)) λA=>∃ (h:Int->J->Prop) (n:Int->J->Nat),h 0 A/\∀ (n19:Int) (c:J),h n19 c->al (decide (n19<(l.len:Int))) (∃i:ae,l.a=some i/\aI n19 l.len/\ag c (i.add
 (n19.toNat*2)) λo=>r1 c ((i.add (n19.toNat*2)).add 1) λn23=>an (c.alloc z5) λp=>bt p (U c) [o,n23]/\(2:Nat)=2/\an (setCells p (U c) 0 [o,n23]) λd=>bL (λq:J->Prop=>ag d (U c) λB=>al (!(Option.isNone B.a)) (ag d ((U b).add 1) λC=>ag d (U c) λD=>an (d.alloc (.cells #[D] 48)) λE=>rX C d E b q) (q d)) (λg=>ag g ((U b).add 3) λF=>r1 g ((U c).add 1) λn36=>an (g.alloc (.cells #[n36] 3)) λG=>∃r:Y,
 ∃s:J,Sem.run ak (Builtin.append_ #[58,58] 58 #[F,.slice (some (U g)) 1 1]) G=.ok r s/\st s ((U b).add 3) r λt=>h (au (n19+1)) t/\n (au (n19+1)) t<n n19 c)) (an (c.drew) λj=>¬False/\ag j ((U b).add 1) λH=>¬False/\ag j ((U w).add 1) λe=>((0:Int)<=(au (to-
 1))/\(au (to-1))<=(e.len:Int))/\∃u:Y,∃v:J,Sem.run ak (Builtin.append_ #[127,127] 127 #[H,.slice (aO e.a 1 ((au (to-1)).toNat) e.cap)
 (e.len-((au (to-1)).toNat)) (e.cap-((au (to-1)).toNat))]) j=.ok u v/\st v ((U b).add 1) u λI=>an (I.drew) λk=>¬False/\ag k
 ((U b).add 3) λK=>¬False/\ag k ((U w).add 3) λf=>((0:Int)<=to/\to<=(f.len:Int))/\∃x:Y,∃y:J,Sem.run ak (Builtin.append_ #[58,58] 58 #[K,.slice (aO f.a 1 (to.toNat) f.cap) (f.len-(to.toNat)) (f.cap-(to.toNat))]) k=.ok x y/\st y ((U b).add 3) x λz=>a8 z (U
 b) λL=>rZ z b w1 L Q)
def hX(o:Array aa)(f:J)(c:Nat->Prop)(p:Array aa)(w1:J)(ah:J)(Q:aa->J->Prop)(q:Y):Prop:=fO 204 #[.agg o] f λg h i j d=>ad c f d/\fO
 204 #[.agg p] d λk l m n b=>ad c d b/\bt b (U w1) [g,h,i,j]/\(4:Nat)=4/\an (setCells b (U w1) 0
 [g,h,i,j]) λe=>ad c b e/\bt e (U ah) [k,l,m,n]/\(4:Nat)=4/\an (setCells e (U ah) 0 [k,l,m,n]) λa=>a8 a (U w1) λr=>ag a ((U w1).add 1) λs=>
 ag a ((U w1).add 2) λt=>ag a ((U w1).add 3) λu=>a8 a (U ah) λv=>ag a ((U ah).add 1) λw=>ag a ((U ah).add 2) λx=>ag a ((U ah).add 3) λy=>Q (.tuple #[.agg
 #[r,s,t,u],q,.agg #[v,w,x,y],true]) a
def hY(a:J)(w1:J)(Q:aa->J->Prop):Prop:=a8 a (U w1) λb=>p1 a w1 Q b
def ga(a:J)(b:J)(w1:J)(Q:aa->J->Prop):Prop:=a8 a (U b) λc=>rZ a b w1 c Q
def vi(a:J)(w:J)(Q:aa->J->Prop)(n12:Int):Prop:=r1 a (U w) λn13=>r1 a ((U w).add 1) λn14=>r1 a ((U w).add 2) λn15=>bF a ((U w).add 3) λn16=>bF a ((U w).add
 4) λn17=>r1 a ((U w).add 5) λn18=>bt a (U w) [n13,n14,n15,.int .u64 n16,.int .u64 n17,n18]/\(6:Nat)=6/\an (setCells a (U w) 0 [n13,n14,n15,.int .u64 n16,.int .u64 n17,n18]) λb=>r1 b (U w) λn20=>r1 b ((U w).add 1) λn21=>r1 b ((U w).add 2) λn22=>bF b ((U w).add 3) λn23=>bF b ((U w).add 4) λn24
 =>r1 b ((U w).add 5) λn25=>Q (.tuple #[.agg #[n20,n21,n22,.int .u64 n23,.int .u64 n24,n25],.int .u64 0,n12]) b
def fq(a:J)(w:J)(Q:aa->J->Prop)(n7:Int):Prop:=a8 a (U w) λb=>ag a ((U w).add 1) λc=>ag a ((U w).add 2) λd=>ag a ((U w).add 3) λe=>Q (.tuple #[.agg #[b,c,d,e],n7]) a
def yD(g:Y)(n34:Int)(c:J)(d:J)(n:Int->J->Prop)(h:Int->J->Nat):Prop:=∃i:ae,g.a=some i/\aI n34 g.len/\ag c (i.add (n34.toNat*1)) λo=>an (c.drew) λe
 =>∃f:Nat->Prop,¬f ((U d).add 2).block/\ag e ((U d).add 2) λp=>aW 135 #[o] e λq b=>ad f e b/\an (b.alloc (.cells #[q] 48)) λj=>ad f b j/\∃k:Y,∃l:J,Sem.run ak (Builtin.append_ #[127,127] 127 #[p,.slice (some (U b)) 1 1]) j=
 .ok k l/\st l ((U d).add 2) k λm=>n (au (n34+1)) m/\h (au (n34+1)) m<h n34 c
def yE(g:Y)(n17:Int)(c:J)(d:J)(n:Int->J->Prop)(h:Int->J->Nat):Prop:=∃i:ae,g.a=some i/\aI n17 g.len/\ag c (i.add (n17.toNat*1)) λo=>an (c.drew) λe
 =>∃f:Nat->Prop,¬f ((U d).add 1).block/\ag e ((U d).add 1) λp=>aW 135 #[o] e λq b=>ad f e b/\an (b.alloc (.cells #[q] 48)) λj=>ad f b j/\∃k:Y,∃l:J,Sem.run ak (Builtin.append_ #[127,127] 127 #[p,.slice (some (U b)) 1 1]) j=
 .ok k l/\st l ((U d).add 1) k λm=>n (au (n17+1)) m/\h (au (n17+1)) m<h n17 c
def oa(c:ai)(b:ai->J->Prop)(a:J)(w:J):Prop:=al (!c) (b true a) (a8 a (U w) λd=>ag a ((U w).add 1) λe=>ag a ((U w).add 2) λf=>ag a ((U w).add 3) λg
 =>aH 203 #[.agg #[d,e,f,g]] a λh i=>b (!h) i)
def vj(g:J)(ah:J)(w1:J)(h:J->Prop):Prop:=an (g.drew) λb=>∃c:Nat->Prop,¬c ((U ah).add 3).block/\ag b ((U ah).add 3) λi=>aB 272 #[.pointer (some (U
 w1)),(2:Int)] b λn14 a=>ad c b a/\an (a.alloc (.cells #[n14] 3)) λd=>ad c a d/\∃e:Y,∃f:J,Sem.run ak (Builtin.append_ #[58,58] 58 #[i,.slice (some (U a)) 1 1]) d=.ok e f/\st f ((U ah).add 3) e λj=>h j
def p3(a:J)(w:J)(Q:aa->J->Prop):Prop:=a8 a (U w) λb=>ag a ((U w).add 1) λc=>ag a ((U w).add 2) λd=>ag a ((U w).add 3) λe=>Q (.tuple #[.agg #[b,
 c,d,e],(4:Int)]) a
def vk(l:aa)(m:J)(d:aq ae)(n:J->Prop)(g:J->Nat)(o:J):Prop:=∃n15:Int,∃p:aa,∃h:J,Sem.run ak (Instr.entry (l)) m=.ok (.tuple #[n15,p])
 h/\an (h.drew) λb=>∃i:Nat->Prop,∃c:ae,d=some c/\¬i (c.add 4).block/\ag b (c.add 4) λj=>rV 137 #[d,n15] b λfP e=>ad i b e/\∃f:ae,
 j.a=some f/\aI n15 j.len/\bt e (f.add (n15.toNat*256)) (Array.toList fP)/\Array.size fP=256/\an (setCells e (f.add (n15.toNat*256)) 0 (Array.toList fP)) λk=>n k/\g k<g o
def vl(h:Y)(j:Y)(c:J)(k:Nat->Prop)(l:aq Nat)(i:Int)(d:aq ae)(Q:aa->J->Prop):Prop:=∃e:Y,∃a:J,Sem.run ak (Builtin.append_ #[136,
 136] 136 #[h,j]) c=.ok e a/\ad k c a/\∃b:J,Sem.run ak (Instr.mapUpdate 137
 (.map l) i e) a=.ok () b/\∃f:ae,d=some f/\r1 b (f.add 6) λn24=>∃g:ae,d=some g/\st b (g.add 6) (.int .i64 (au (n24+1))) λm=>Q (0:Int) m
def e3(a:J)(w:J)(Q:aa->J->Prop):Prop:=r1 a (U w) λn35=>r1 a ((U w).add 1) λn36=>r1 a ((U w).add 2) λn37=>bF a ((U w).add 3) λn38=>bF a ((U w).add 4) λ
 n39=>r1 a ((U w).add 5) λn40=>Q (.tuple #[.agg #[n35,n36,n37,.int .u64 n38,.int .u64 n39,n40],(0:Int),.int .u64 0,(4:Int)]) a
def vm(a:Y):Prop:=(0:Int)<=(au (232-(a.len:Int)))/\((au (232-(a.len:Int))):Int)<=(au (232-(a.len:Int)))/\((au (232-(a.len:Int))):Int)<=jy/\((1:Nat):Int)*(au (232-(a.len:Int)))<=
 140737488355328
def r0(a:J)(n6:Int)(d:Y)(e:Y->J->Prop):Prop:=an (a.alloc (.cells #[n6] 3)) λf=>∃b:Y,∃c:J,Sem.run ak (Builtin.append_ #[58,58] 58 #[d,.slice (some (U a)) 1 1]) f=.ok b c/\e b c
def vn(a:J)(c:Y)(d:J)(e:Y)(f:J)(b:Y)(g:Y->J->Prop):Prop:=an (a.alloc (.cells #[c,.slice (some (U d)) (Int.toNat 4) (Int.toNat 4),e,.slice (some (U f)) ((au (232-(b.len:Int))).toNat) ((au (232-(b.len:Int))).toNat)] 48)) λh=>aW 92 #[.slice (some (U a)) 4 4] h λi j=>g i j
def vo(d:aq ae)(a:J)(Q:aa->J->Prop):Prop:=∃b:ae,d=some b/\∃c:aq Nat,a.cell? (b.add 5)=some (.map c)/\∃ (f:aa) (e:J),Sem.run ak (Builtin.clear_
 #[137] 0 #[.map c]) a=.ok f e/\Q (0:Int) e
def vp(a:J)(w:J)(Q:aa->J->Prop):Prop:=r1 a (U w) λn9=>bF a ((U w).add 1) λn10=>ag a ((U w).add 2) λb=>Q (.tuple #[.agg #[n9,.int .u64 n10,b],(4:Int)]) a
def vq(b:J)(w:J)(a:O aa)(Q:aa->J->Prop):Prop:=bt b (U w) (Array.toList a.toArray)/\Array.size a.toArray=256/\an (setCells b (U w) 0 (Array.toList a.toArray)) λc=>∃d:O
 aa,cz c (U w) 0 256=some d/\Q (.agg d.toArray) c
def r2(h:J)(b:J)(i:ai)(j:Y)(k:Y)(l:Y)(m:Int)(Q:aa->J->Prop)(c:aq ae)(n41:Int)(w:J)(up:aq ae)(n36:Int)(n31:Int):Prop:=bt h (U b)
 [i,j,k,l]/\(4:Nat)=4/\an (setCells h (U b) 0 [i,j,k,l]) λe=>al (m !=0) (Q (.tuple #[(),(0:Int),(0:Int),m]) e) (∃n:ae,c=some n/\ag e (n.add 2) λC=>an (e.alloc (.cells #[n41] 3)) λD=>∃o:
 Y,∃p:J,Sem.run ak (Builtin.append_ #[58,58] 58 #[C,.slice (some (U e)) 1 1]) D=.ok o p/\∃q:ae,c=some q/\st p (q.add
 2) o λE=>an (E.drew) λa=>∃d:Nat->Prop,¬d ((U b):ae).block/\a8 a (U b) λr=>ag a ((U b).add 1) λs=>ag a ((U b).add 2) λt=>ag a
 ((U b).add 3) λu=>¬d ((U w):ae).block/\a8 a (U w) λv=>ag a ((U w).add 1) λx=>ag a ((U w).add 2) λy=>ag a ((U w).add 3) λz=>(an (a.alloc cc) λf=>ad d
 a f/\an (f.alloc cc) λA=>ad d f A/\b7 A a r s t u d f v x y z up n36 w b n31 Q c)/\(an (a.alloc cc) λg=>ad d a g/\an (g.alloc cc) λB=>ad d g B/\b7 B
 g r s t u d a v x y z up n36 w b n31 Q c))
def mK(c:ai)(d:Y)(e:Y)(f:Y)(a:J)(g:Nat->Prop)(h:J)(i:ai)(j:Y)(k:Y)(l:Y)(m:J)(w:J)(key:Y)(ah:J)(Q:aa->J->Prop):Prop:=fO
 204 #[.agg #[c,d,e,f]] a λn o p q b=>ad g a b/\bK b h i j k l m n o p q w key ah
 Q
def vr(f:J)(a:J)(gv:Array aa)(w:J)(w1:J)(Q:aa->J->Prop):Prop:=bt f (U a) (Array.toList gv)/\Array.size gv=4/\an (setCells f (U a) 0 (Array.toList gv)) λg=>ag
 g ((U w).add 1) λh=>∃ (c:Int->J->Prop) (j:Int->J->Nat),c 0 g/\∀ (n17:Int) (b:J),c n17 b->al (decide (n17<(h.len:Int))) (yE h n17 b a c j) (ag b ((U w).add 2) λ
 i=>∃ (d:Int->J->Prop) (k:Int->J->Nat),d 0 b/\∀ (n34:Int) (e:J),d n34 e->al (decide (n34<(i.len:Int))) (yD i n34 e a d k) (ga e a w1 Q))
def vt(a:J)(w:J)(Q:aa->J->Prop)(n7:Int):Prop:=bt a (U w) [false,(),(),()]/\(4:Nat)=4/\an (setCells a (U w) 0 [false,(),
 (),()]) λb=>fq b w Q n7
set_option maxRecDepth 100000
def af.r3(s:Y)(v:Int)(w:J)(Q:aa->J->Prop):Prop:=aB 184 #[s,v] w λa w1=>Q (.bool (decide (a>=0))) w1
def az.r3:aS:=(.s .r (.s .r .l))
def af.mL(s:Y)(w:J)(Q:aa->J->Prop):Prop:=al (Option.isNone s.a) (Q () w) (an (w.alloc (.cells #[] 5)) λw1=>∃s2:Y,∃b:J,Sem.run ak
 (Builtin.append_ #[48,48] 48 #[.slice (some (U w)) 0 0,s]) w1=.ok s2 b/\Q s2 b)
def az.mL:aS:=dd
def af.r4(d:Y)(f:Y)(w:J)(Q:aa->J->Prop):Prop:=al ((d.len:Int) !=(f.len:Int)) (Q false w) (∃ (g:Int->J->Prop) (h:Int->J->Nat),g 0 w/\∀ (b:Int)
 (e:J),g b e->al (decide (b<(d.len:Int))) (an (e.drew) λc=>∃de:ae,d.a=some de/\aI b d.len/\¬False/\r1 c (de.add (b.toNat*1)) λn7=>∃dY:ae,f.a=some dY/\aI b f.len/\¬
 False/\r1 c (dY.add (b.toNat*1)) λn9=>al (n7 !=n9) (Q false c) (g (au (b+1)) c/\h (au (b+1)) c<h b e)) (Q true e))
def az.r4:aS:=(.s .r (.s a1 (.s (.s .r (.bR (.loop [(13,(.int .i64))] [0,1,12] (.s .r (.s (.c .l .l) (.s (.bR (.s .r (.s (.cA 8 false ⟨[0,0,3,4,0,0,48,64,136],[0,0,3,4,0,0,48,64,136]⟩ [65536,
 131072,262144,524288,1048576,2097152,4194304,8388608,16777216] [1,32,196608,262144,2,32,3145728,4194304,8912896] (.t 0 (.t 1 (.t 2 (.t 3 (.t 4 (.t 5 (.t 6 (.t 7 (.tail [.r])))))))))) (.c (.s .r .l) .l)))) .r)))))) (.s .r
 .l))))
def af.ob(a:Y)(b:Y)(w:J)(Q:aa->J->Prop):Prop:=∃s1:ByteArray,∃ah:J,Sem.run ak (convert 48 9 a) w=.ok (.string s1) ah/\∃c:ByteArray,∃d
 :J,Sem.run ak (convert 48 9 b) ah=.ok (.string c) d/\Q (.bool (ByteArray.toList s1==ByteArray.toList c)) d
def az.ob:aS:=(.s .r (.s .r .l))
def af.r5(s:Y)(f:gX)(w:J)(Q:aa->J->Prop):Prop:=aB 225 #[s,.func (.func f.f) f.pre f.cap] w λa w1=>Q (.bool (decide (a>=0)))
 w1
def az.r5:aS:=(.s .r (.s .r .l))
def af.kx(a:Y)(b:Y)(w:J)(Q:aa->J->Prop):Prop:=∃bJ:Int,∃ah:J,Sem.run ak (callFunc 230 #[a,b]) w=.ok (.value bJ) ah/\Q bJ ah
def az.kx:aS:=(.s .r (.s .r .l))
def af.r6(m:aq Nat)(w:J)(Q:aa->J->Prop):Prop:=an (w.alloc (.cells #[.map m] 137)) λw1=>Q (.func (.func
 232) #[] #[.pointer (some (U w))]) w1
def az.r6:aS:=(.s .r (.s .r .l))
theorem af.Cc(m:aq Nat)(w:J)(Q:aa->J->Prop)(h:af.r6 m w Q):aP ak 178 #[.map m] w Q:=okF (λw Q=>af.r6 m w Q) az.r6 func178 h
def af.r7(s:Y)(v:Int)(w:J)(Q:aa->J->Prop):Prop:=∃ (d:Int->J->Prop) (e:Int->J->Nat),d 0 w/\∀ (b:Int) (c:J),d b c->al (decide (b<(s.len:Int))) (∃a5:
 ae,s.a=some a5/\aI b s.len/\r1 c (a5.add (b.toNat*1)) λn6=>al (v==n6) (Q b c) (d (au (b+1)) c/\e (au (b+1)) c<e b c)) (Q (.int .i64 (-1)) c)
def az.r7:aS:=er
def af.r8(s:Y)(w:J)(Q:aa->J->Prop):Prop:=al (Option.isNone s.a) (Q () w) (an (w.alloc (.cells #[] 5)) λw1=>∃s2:Y,∃b:J,Sem.run ak
 (Builtin.append_ #[215,215] 215 #[.slice (some (U w)) 0 0,s]) w1=.ok s2 b/\Q s2 b)
def az.r8:aS:=dd
def af.r9(x:Int)(w:J)(Q:aa->J->Prop):Prop:=(0:Int)<=x/\∃cd:UInt8,uG (ByteArray.mk #[0,1,1,2,1,2,2,3,1,2,2,3,2,3,3,4,1,2,2,3,2,3,3,4,2,3,3,4,3,4,4,5,1,2,
 2,3,2,3,3,4,2,3,3,4,3,4,4,5,2,3,3,4,3,4,4,5,3,4,4,5,4,5,5,6,1,2,2,3,2,3,3,4,2,3,3,4,3,4,4,5,2,3,3,4,3,4,4,5,3,4,4,5,4,5,5,6,2,3,3,4,3,4,4,5,3,4,4,5,4,5,5,6,3,4,
 4,5,4,5,5,6,4,5,5,6,5,6,6,7,1,2,2,3,2,3,3,4,2,3,3,4,3,4,4,5,2,3,3,4,3,4,4,5,3,4,4,5,4,5,5,6,2,3,3,4,3,4,4,5,3,4,4,5,4,5,5,6,3,4,4,5,4,5,5,6,4,5,5,6,5,6,6,7,2,3,
 3,4,3,4,4,5,3,4,4,5,4,5,5,6,3,4,4,5,4,5,5,6,4,5,5,6,5,6,6,7,3,4,4,5,4,5,5,6,4,5,5,6,5,6,6,7,4,5,5,6,5,6,6,7,5,6,6,7,6,7,7,8]) (x.toNat)=some cd/\Q (.int .i64 (au ((cd.toNat
 :Nat):Int))) w
def az.r9:aS:=(.s .r (.s .r .l))
def af.r_(s:Y)(i:Int)(j:Int)(w:J)(Q:aa->J->Prop):Prop:=((0:Int)<=(s.len:Int)/\(s.len:Int)<=(s.cap:Int))/\((0:Int)<=j/\j<=(((Int.toNat (s.len:Int)):Nat):
 Int))/\((0:Int)<=i/\i<=(((j.toNat):Nat):Int))/\al (i==j) (Q s w) (an (w.drew) λw1=>((0:Int)<=i/\i<=(s.cap:Int))/\((0:Int)<=j/\j<=(s.len:Int))/\∃s2:Y,∃b:J,
 Sem.run ak (Builtin.append_ #[127,127] 127 #[.slice (aO s.a 1 0 s.cap) ((i.toNat)-0) (s.cap-0),.slice (aO s.a 1 (j.toNat) s.cap) (s.len-(j.toNat)) (s.cap-(j.toNat))]) w1
 =.ok s2 b/\((0:Int)<=(s.len:Int)/\(s.len:Int)<=(s2.cap:Int))/\((0:Int)<=(s2.len:Int)/\(s2.len:Int)<=(((Int.toNat (s.len:Int)):Nat):Int))/\∃ (bF:aa) (c:J),Sem.run ak
 (Builtin.clear_ #[127] 0 #[.slice (aO s2.a 1 (Int.toNat (s2.len:Int)) s2.cap) ((Int.toNat (s.len:Int))-(Int.toNat (s2.len:Int))) (s2.cap-(Int.toNat (s2.len:Int)))]) b=.ok bF c/\Q s2 c)
def az.r_:aS:=(.s .r (.s .r (.s a1 (.s .r (.s (.cA 6 false ⟨[0,0,3,0,0,24,36,127],[0,0,3,0,0,24,36,73]⟩ [1048576,2097152,4194304,8388608,16777216,33554432,67108864,1] [1,2,3145728,
 1,4,25165824,37748736,67108864] (.t 0 (.t 1 (.t 2 (.t 3 (.t 4 (.t 5 (.tail [.r,.r])))))))) (.s .r (.s .r .l)))))))
def af.sd(s:Y)(i:Int)(v:Y)(w:J)(Q:aa->J->Prop):Prop:=((0:Int)<=i/\i<=(s.len:Int))/\al ((v.len:Int)==0) (Q s w) (al (i==(s.len:Int)) (∃s1:Y,
 ∃ah:J,Sem.run ak (Builtin.append_ #[127,127] 127 #[s,v]) w=.ok s1 ah/\Q s1 ah) (al (decide
 (((au ((s.len:Int)+(v.len:Int))):Int)>(s.cap:Int))) (((0:Int)<=i/\i<=(s.cap:Int))/\∃b:Y,∃d:J,Sem.run ak (Builtin.append_ #[127,3] 127 #[.slice (aO s.a 1 0
 s.cap) ((i.toNat)-0) (s.cap-0),.int .i64 (au ((au ((s.len:Int)+(v.len:Int)))-i))]) w=.ok b d/\((0:Int)<=i/\i<=(b.len:Int))/\∃n5:Int,∃e:J,Sem.run ak (Builtin.copy_
 #[127,127] 3 #[.slice (aO b.a 1 (i.toNat) b.cap) (b.len-(i.toNat)) (b.cap-(i.toNat)),v]) d=.ok n5 e/\an (e.drew) λl=>((0:Int)<=(au (i+
 (v.len:Int)))/\(au (i+(v.len:Int)))<=(b.len:Int))/\((0:Int)<=i/\i<=(s.len:Int))/\∃n8:Int,∃f:J,Sem.run ak (Builtin.copy_ #[127,127] 3 #[.slice (aO b.a 1 ((au (i+
 (v.len:Int))).toNat) b.cap) (b.len-((au (i+(v.len:Int))).toNat)) (b.cap-((au (i+(v.len:Int))).toNat)),.slice (aO s.a 1 (i.toNat) s.cap) (s.len-(i.toNat)) (s.cap-(i.toNat))]) l=.ok n8 f/\Q
 b f) (((0:Int)<=(au ((s.len:Int)+(v.len:Int)))/\(au ((s.len:Int)+(v.len:Int)))<=(s.cap:Int))/\((0:Int)<=(au (i+(v.len:Int)))/\(au (i+(v.len:Int)))<=(((((au ((s.len:Int)+
 (v.len:Int))).toNat)-0):Nat):Int))/\∃g:ai,∃c:J,Sem.run ak (callFunc 252 #[v,.slice (aO (aO s.a 1 0 s.cap) 1 ((au (i+(v.len:Int))).toNat) (s.cap-0))
 ((((au ((s.len:Int)+(v.len:Int))).toNat)-0)-((au (i+(v.len:Int))).toNat)) ((s.cap-0)-((au (i+(v.len:Int))).toNat))]) w=.ok (.value g) c/\al (!g) (an (c.drew) λm=>((0:Int)<=(au (i+
 (v.len:Int)))/\(au (i+(v.len:Int)))<=(((((au ((s.len:Int)+(v.len:Int))).toNat)-0):Nat):Int))/\((0:Int)<=i/\i<=(((((au ((s.len:Int)+(v.len:Int))).toNat)-0):Nat):Int))/\∃n13:Int,∃h:J,Sem.run
 ak (Builtin.copy_ #[127,127] 3 #[.slice (aO (aO s.a 1 0 s.cap) 1 ((au (i+(v.len:Int))).toNat) (s.cap-0)) ((((au ((s.len:Int)+(v.len:Int))).toNat)-0)-((au (i+
 (v.len:Int))).toNat)) ((s.cap-0)-((au (i+(v.len:Int))).toNat)),.slice (aO (aO s.a 1 0 s.cap) 1 (i.toNat) (s.cap-0)) ((((au ((s.len:Int)+(v.len:Int))).toNat)-0)-(i.toNat)) ((s.cap-0)-(i.toNat))]) m=
 .ok n13 h/\((0:Int)<=i/\i<=(((((au ((s.len:Int)+(v.len:Int))).toNat)-0):Nat):Int))/\∃n15:Int,∃j:J,Sem.run ak (Builtin.copy_ #[127,127] 3 #[.slice (aO (aO
 s.a 1 0 s.cap) 1 (i.toNat) (s.cap-0)) ((((au ((s.len:Int)+(v.len:Int))).toNat)-0)-(i.toNat)) ((s.cap-0)-(i.toNat)),v]) h=.ok n15 j/\Q (.slice (aO s.a 1 0 s.cap)
 (((au ((s.len:Int)+(v.len:Int))).toNat)-0) (s.cap-0)) j) (((0:Int)<=(s.len:Int)/\(s.len:Int)<=(((((au ((s.len:Int)+(v.len:Int))).toNat)-0):Nat):Int))/\∃n17:Int,∃k:J,Sem.run ak
 (Builtin.copy_ #[127,127] 3 #[.slice (aO (aO s.a 1 0 s.cap) 1 (Int.toNat (s.len:Int)) (s.cap-0)) ((((au ((s.len:Int)+(v.len:Int))).toNat)-0)-(Int.toNat (s.len:Int))) ((s.cap-0)-(Int.toNat
 (s.len:Int))),v]) c=.ok n17 k/\((0:Int)<=i/\i<=(((((au ((s.len:Int)+(v.len:Int))).toNat)-0):Nat):Int))/\aT 253 #[.slice (aO (aO s.a 1 0 s.cap) 1
 (i.toNat) (s.cap-0)) ((((au ((s.len:Int)+(v.len:Int))).toNat)-0)-(i.toNat)) ((s.cap-0)-(i.toNat)),.int .i64 (v.len:Int)] k λn=>Q (.slice (aO s.a 1 0 s.cap) (((au ((s.len:Int)+
 (v.len:Int))).toNat)-0) (s.cap-0)) n))))
def az.sd:aS:=(.s .r (.s .r (.s .r (.s a1 (.s .r (.s a1 (.s (.s .r (.c (.s .r (.s .r (.s (.cA 8 false ⟨[0,0,0,6,9,0,0,96,144],[0,0,0,6,9,0,0,96,144]⟩ [70368744177664,140737488355328,
 281474976710656,562949953421312,1125899906842624,2251799813685248,4503599627370496,9007199254740992,18014398509481984] [512,2,128,422212465065984,633318697598976,1,2,6755399441055744,10133099161583616] (.t 0 (.t 1 (.t 2 (.t 3
 (.t 4 (.t 5 (.t 6 (.t 7 (.tail [.r])))))))))) (.s .r .l)))) .l)) (.s .r (.s (.s .r (.c (.s (.cA 8 false ⟨[0,0,0,6,9,0,0,96,144],[0,0,0,6,9,0,0,96,144]⟩ [590295810358705651712,1180591620717411303424,
 2361183241434822606848,4722366482869645213696,9444732965739290427392,18889465931478580854784,37778931862957161709568,75557863725914323419136,151115727451828646838272] [1,2,128,3541774862152233910272,5312662293228350865408,1,2,
 56668397794435742564352,85002596691653613846528] (.t 0 (.t 1 (.t 2 (.t 3 (.t 4 (.t 5 (.t 6 (.t 7 (.tail [.r])))))))))) (.s .r (.s .r .l))) .l)) a3)))))))))
def af.p4(s:Y)(f:gX)(w:J)(Q:aa->J->Prop):Prop:=∃ (d:Int->J->Prop) (g:Int->J->Nat),d 0 w/\∀ (b:Int) (c:J),d b c->al (decide (b<(s.len:Int))) (∃a5
 :ae,s.a=some a5/\aI b s.len/\bW c (a5.add (b.toNat*1)) λn6=>ih ak f.f/\Calls ak f.f (f.pre++ #[.int .u8 n6]++f.cap) c λi e=>∃h:ai,i=.returned h/\al h (Q b e) (d (au (b+1)) e/\g (au (b+1)) e<g b c)) (Q (.int .i64 (-1)) c)
def az.p4:aS:=er
theorem af.Cd(s:Y)(f:gX)(w:J)(Q:aa->J->Prop)(h:af.p4 s f w Q):aP ak 225 #[s,.func (.func f.f) f.pre f.cap] w Q:=okF (λw Q=>af.p4 s f w Q) az.p4 func225 h
def af.se(x:Y)(target:Y)(cmp:gX)(w:J)(Q:aa->J->Prop):Prop:=∃ (e:Int->Int->J->Prop) (g:Int->Int->J->Nat),e 0 (x.len:Int) w/\∀ (b:Int)
 (c:Int) (d:J),e b c d->al (decide (b<c)) ((0:Int)<=1/\∃de:ae,x.a=some de/\((0:Int)<=(au (Int.fdiv (IntKind.wrap .u64 (au (b+c))) (2^(min (Int.toNat 1) 64))))/\(au (Int.fdiv (IntKind.wrap .u64 (au
 (b+c))) (2^(min (Int.toNat 1) 64))))<(x.len:Int))/\ag d (de.add (Int.toNat (au (Int.fdiv (IntKind.wrap .u64 (au (b+c))) (2^(min (Int.toNat 1) 64))))*1)) λi=>ih ak cmp.f/\Calls ak cmp.f (cmp.pre
 ++ #[.slice i.a i.len i.cap,.slice target.a target.len target.cap]++cmp.cap) d λl h=>∃n10:Int,l=.returned (.int .i64 n10)/\al (decide (n10<0)) (e (au ((au (Int.fdiv (IntKind.wrap .u64 (au (b+c))) (2^(min
 (Int.toNat 1) 64))))+1)) c h/\g (au ((au (Int.fdiv (IntKind.wrap .u64 (au (b+c))) (2^(min (Int.toNat 1) 64))))+1)) c h<g b c d) (e b (au (Int.fdiv (IntKind.wrap .u64 (au (b+c))) (2^(min (Int.toNat 1) 64)))) h
 /\g b (au (Int.fdiv (IntKind.wrap .u64 (au (b+c))) (2^(min (Int.toNat 1) 64)))) h<g b c d)) (bL (λk:ai->J->Prop=>al (decide (b<(x.len:Int))) (∃dd:ae,x.a=some dd/\aI b x.len/\ag d (dd.add
 (Int.toNat b*1)) λj=>ih ak cmp.f/\Calls ak cmp.f (cmp.pre++ #[.slice j.a j.len j.cap,.slice target.a target.len target.cap]++cmp.cap) d λm n=>∃n16:Int,m=.returned (.int .i64 n16)/\
 k (n16==0) n) (k false d)) (λ(o:ai) p=>Q (.tuple #[.int .i64 b,.bool o]) p))
def az.se:aS:=(.s .r (.s .r (.s .r (.s (.bR (.loop [(9,(.int .i64)),(10,(.int .i64))] [0,1,2,8] (.s (.s .r (.c .l .l)) (.bR (.s .r (.s .r (.c .r .r))))))) (.s (.c7 [.r,.r,.r,.r,
 .r,.split 8]) .l)))))
def af.sf(s:Y)(f:gX)(w:J)(Q:aa->J->Prop):Prop:=aB 278 #[s,.func (.func f.f) f.pre f.cap] w λa w1=>Q (.bool
 (decide (a>=0))) w1
def az.sf:aS:=(.s .r (.s .r .l))
def af.sg(s:Y)(f:gX)(w:J)(Q:aa->J->Prop):Prop:=aB 279 #[s,.func (.func f.f) f.pre f.cap] w λa w1=>Q (.bool (decide (a>=0))) w1
def az.sg:aS:=(.s .r (.s .r .l))
def af.sh(s:Y)(w:J)(Q:aa->J->Prop):Prop:=al (Option.isNone s.a) (Q () w) (an (w.alloc (.cells #[] 3)) λw1=>∃s2:Y,∃b:J,Sem.run ak (Builtin.append_
 #[58,58] 58 #[.slice (some (U w)) 0 0,s]) w1=.ok s2 b/\Q s2 b)
def az.sh:aS:=dd
set_option maxRecDepth 100000
def af.p5(s:Y)(f:gX)(w:J)(Q:aa->J->Prop):Prop:=∃ (d:Int->J->Prop) (h:Int->J->Nat),d 0 w/\∀ (b:Int) (c:J),d b c->al (decide (b<(s.len:Int)))
 (∃a5:ae,s.a=some a5/\aI b s.len/\ag c (a5.add (Int.toNat b*1)) λe=>ih ak f.f/\Calls ak f.f (f.pre++ #[.slice e.a e.len e.cap]++f.cap) c λj g=>∃i:ai,j=.returned (.bool i)/\
 al i (Q (.int .i64 b) g) (d (au (b+1)) g/\h (au (b+1)) g<h b c)) (Q (.int .i64 (-1)) c)
def az.p5:aS:=er
theorem af.Ce(s:Y)(f:gX)(w:J)(Q:aa->J->Prop)(h:af.p5 s f w Q):aP ak 278 #[.slice s.a s.len s.cap,.func (.func f.f) f.pre f.cap] w Q:=okF (λw Q=>af.p5 s f w Q) az.p5 func278 h
def af.p6(s:Y)(f:gX)(w:J)(Q:aa->J->Prop):Prop:=∃ (d:Int->J->Prop) (g:Int->J->Nat),d 0 w/\∀ (b:Int) (c:J),d b c->al (decide (b<(s.len:Int))) (∃a5:
 ae,s.a=some a5/\aI b s.len/\r1 c (a5.add (Int.toNat b*1)) λn6=>ih ak f.f/\Calls ak f.f (f.pre++ #[.int .i64 n6]++f.cap) c λi e=>∃h:ai,i=.returned (.bool h)/\al h (Q (.int .i64
 b) e) (d (au (b+1)) e/\g (au (b+1)) e<g b c)) (Q (.int .i64 (-1)) c)
def az.p6:aS:=er
theorem af.Cf(s:Y)(f:gX)(w:J)(Q:aa->J->Prop)(h:af.p6 s f w Q):aP ak 279 #[.slice s.a s.len s.cap,.func (.func f.f) f.pre f.cap] w Q:=okF (λw Q=>af.p6 s f w Q) az.p6 func279 h
def af.si(s:Y)(w:J)(Q:aa->J->Prop):Prop:=al (Option.isNone s.a) (Q () w) (an (w.alloc (.cells #[] 48)) λw1=>∃s2:Y,∃b:J,Sem.run ak
 (Builtin.append_ #[127,127] 127 #[.slice (some (U w)) 0 0,s]) w1=.ok s2 b/\Q s2 b)
def az.si:aS:=dd
set_option maxRecDepth 100000
def af.mM(n:Int)(w:J)(Q:aa->J->Prop):Prop:=al ((decide (n<16))||(decide (n>1600))) (Q (.tuple #[.pointer none,(1:Int)]) w) (((0:Int)<=n/\n<=n/\n<=jy/\((256:Nat):Int)*n<=
 140737488355328)/\an (w.alloc (.cells (gC ak 182 (n.toNat)) 182)) λw1=>∃b:aq Nat,∃a:J,Sem.run ak (Instr.makeMap 137 none) w1=.ok (.map b) a/\∃dj:
 Array aa,Sem.run ak (Instr.build 141 #[(1,.slice (some (U w)) (n.toNat) (n.toNat)),(2,.map b)]) a=.ok (.agg dj) a/\an (a.alloc (.cells dj 141)) λc=>∃de:ae,(some (U a):aq
 ae)=some de/\aT 69 #[.pointer (some de)] c λd=>Q (.tuple #[.pointer (some (U a)),(0:Int)]) d)
def az.mM:aS:=(.s .r (.s a5 a3))
def af.mN(d:aq ae)(r:Int)(s:Int)(t:Int)(w:J)(Q:aa->J->Prop):Prop:=an (w.alloc (.cells #[r,s,.int .u64 t] 46)) λw1=>
 r1 w1 (U w) λbp=>r1 w1 ((U w).add 1) λu=>bF w1 ((U w).add 2) λv=>aH 70 #[d,.agg #[bp,u,.int .u64 v]] w1 λx l=>al (!x) (Q (.tuple #[.pointer none,(1:Int)]) l) (aB 72 #[d] l λn10 y=>dj 71 #[n10,(3:Int)] y λm n14 n=>al (n14 !=0) (Q (.tuple #[.pointer none,n14]) n) (aW 74 #[m] n λ
 z A=>b8 73 #[(2:Int),.agg #[(4:Int),.int .u64 1,z]] A λB n21 f=>al (n21 !=0) (Q (.tuple #[.pointer none,n21]) f) (((0:Int)<=256/\(256:Int)<=256/\(256:
 Int)<=jy/\((1:Nat):Int)*256<=140737488355328)/\an (f.alloc (.cells (gC ak 5 (Int.toNat 256)) 5)) λi=>∃il:Array aa,Sem.run ak (Instr.build 151 #[(0,.slice (some (U f))
 (Int.toNat 256) (Int.toNat 256)),(1,.slice (some (U f)) (Int.toNat 256) (Int.toNat 256)),(2,B)]) i=.ok (.agg il) i/\∃ (j:Int->J->Prop) (o:Int->J->Nat),j 0 i/\∀ (n26:Int)
 (g:J),j n26 g->al (decide (n26<3)) (((0:Int)<=n26/\n26<((3:Nat):Int))/\∃h:Y,cellAt il (n26.toNat*1)=some (.slice h.a h.len h.cap)/\aB 75 #[d,n26,h] g λn31 k=>al (n31 !=0) (Q (.tuple #[.pointer none,n31]) k) (j (au (n26+1)) k/\o (au (n26+1)) k<o n26 g)) (aB 76 #[d] g λn34 b=>al (n34 !=0)
 (Q (.tuple #[.pointer none,n34]) b) (an (b.alloc gD) λp=>bt p (U b) [(0:Int),(0:Int),(2:Int),.int .u64 0,.int .u64 0,(0:Int)]/\(6:Nat)=6/\an (setCells p (U b) 0 [(0:Int),
 .int .i64 0,(2:Int),.int .u64 0,.int .u64 0,(0:Int)]) λe=>r1 e (U b) λn37=>r1 e ((U b).add 1) λn38=>r1 e ((U b).add 2) λn39=>bF e ((U b).add 3) λn40=>bF e (Addr.add
 (U b) 4) λn41=>r1 e ((U b).add 5) λC=>aB 77 #[d,.agg #[n37,n38,n39,.int .u64 n40,.int .u64 n41,C],.int .u64 1] e λq c=>al (q !=0)
 (Q (.tuple #[.pointer none,q]) c) (r1 c (U w) λD=>r1 c ((U w).add 1) λE=>bF c ((U w).add 2) λF=>r1 c (U b) λG=>r1 c ((U b).add 1) λH=>r1 c ((U
 b).add 2) λI=>bF c ((U b).add 3) λK=>bF c ((U b).add 4) λL=>r1 c ((U b).add 5) λM=>dj 78 #[d,.agg #[D,E,.int .u64 F],.agg #[G,H,I,.int .u64 K,.int .u64 L,M],.int .u64 1,m] c λN O P=>Q (.tuple #[N,O]) P))))))
def az.mN:aS:=(.s .r (.s a1 (.s .r (.s a1 (.s .r (.s a1 (.s .r (.s (.s .r (.bR (.loop [(44,(.int .i64))] [0,3,6,43] iJ))) (.s (.s .r a1) (.s .r e8))))))))))
theorem af.Cg(d:aq ae)(a:Int)(b:Int)(c:Int)(w:J)(Q:aa->J->Prop)(h:af.mN d a b c w Q):aP ak 19 #[d,.agg #[a,b,.int .u64 c]] w Q:=okF (λw Q=>af.mN d a b c w Q) az.mN func19 h
def af.sj(s:aq ae)(key:Y)(w:J)(Q:aa->J->Prop):Prop:=bL (λbN:ai->J->Prop=>al (Option.isNone s) (bN true w) (aH 79 #[key] w λh ah=>bN
 (!h) ah)) (λ(i:ai) a=>al i (Q (.tuple #[false,(1:Int)]) a) (∃dN:ae,s=some dN/\a8 a (dN.add 18) λj=>al j (Q (.tuple #[false,(8:Int)]) a) (∃a9:ae,s=some a9/\∃d:aq ae,
 a.cell? a9=some (d)/\lP 80 #[d,key] a λo k n15 b=>al (n15 !=0) (aB 81 #[s,n15] b λn18 l=>Q (.tuple #[false,
 n18]) l) (al (!k) (Q (.tuple #[false,(0:Int)]) b) (aB 82 #[s] b λn21 c=>al (n21==0) (Q (.tuple #[false,(2:Int)]) c) (∃e:ae,s=some e/\∃f:aq
 ae,c.cell? e=some (f)/\rU 83 #[f,key] c λp n27 g=>al (n27 !=0) (aB 81 #[s,n27] g λn30 m=>Q (.tuple #[false,n30]) m) (aB 84 #[s,.int .i64 (-1)] g λn33 n=>Q (.tuple #[.bool (n33==0),n33]) n)))))))
def az.sj:aS:=(.s .r (.s (.bR (.s (.c7 [.r,.r,.r,.split 3]) (.c (.s .r .l) a1))) (.s .r (.s (.bR (.s .r (.c (.s .r .l) eG))) (.s (.s .r a1) (.s .r (.s .r .l)))))))
def af.sk(s:aq ae)(key:Y)(val:Y)(w:J)(Q:aa->J->Prop):Prop:=bL (λbN:ai->J->Prop=>al (Option.isNone s) (bN true w) (aH 79 #[key] w λh
 ah=>bN (!h) ah)) (λ(i:ai) a=>al (i||(decide ((val.len:Int)>24))) (Q (1:Int) a) (∃dN:ae,s=some dN/\a8 a (dN.add 18) λj=>al j (Q (8:Int) a) (aB 82 #[s] a λn11 b
 =>al (n11==0) (Q (2:Int) b) (∃dd:ae,s=some dd/\∃e:aq ae,b.cell? dd=some (e)/\lP 80 #[e,key] b λp k n18 c=>al (n18 !=0) (aB
 81 #[s,n18] c λn21 l=>Q n21 l) (∃f:ae,s=some f/\∃g:aq ae,c.cell? f=some (g)/\aB 85 #[g,key,val] c λn26 d=>al (n26 !=0) (aB 81 #[s,n26] d λn29 m=>Q n29 m) (al k (aB 84 #[s,(0:Int)] d λn32 n
 =>Q n32 n) (aB 84 #[s,(1:Int)] d λn35 o=>Q n35 o)))))))
def az.sk:aS:=(.s .r (.s (.bR (.s (.c7 [.r,.r,.r,.split 3,.r,.r,.r,.r,.pure 3]) (.c (.s .r .l) eG))) (.s .r (.s a1 (.s (.s .r a1) (.s a1 (.s .r .l)))))))
def af.sm(s:aq ae)(w:J)(Q:aa->J->Prop):Prop:=al (Option.isNone s) (Q (1:Int) w) (∃a1:ae,s=some a1/\r1 w (a1.add 17) λbp=>aB 86 #[s,bp] w
 λn5 a=>Q n5 a)
def az.sm:aS:=dd
def af.sn(s:aq ae)(w:J)(Q:aa->J->Prop):Prop:=al (Option.isNone s) (Q (1:Int) w) (∃a1:ae,s=some a1/\a8 w (a1.add 18) λbQ=>al bQ (Q (8:Int) w) (aB 94
 #[s] w λn5 a=>Q n5 a))
def az.sn:aS:=(.s .r (.s (.bR eG) (.s .r .l)))
def af.oc(d:aq ae)(j:Int)(k:Int)(l:Int)(w:J)(Q:aa->J->Prop):Prop:=an (w.alloc (.cells #[j,k,.int .u64 l] 46)) λw1=>
 r1 w1 (U w) λbp=>r1 w1 ((U w).add 1) λm=>bF w1 ((U w).add 2) λn=>aH 70 #[d,.agg #[bp,m,.int .u64 n]] w1 λo f=>al (!o) (Q (.tuple #[.pointer none,(1:Int)]) f) (yy 109 #[d] f λn10 n11 n12 n13 n14 n15 n16 n17 a=>an (a.alloc gD) λg=>bt g (U a) [n10,n11,n12,.int .u64 n13,.int .u64 n14,n15]/\(6:Nat)=6
 /\an (setCells g (U a) 0 [n10,n11,n12,.int .u64 n13,.int .u64 n14,n15]) λc=>al (n17 !=0) (Q (.tuple #[.pointer none,n17]) c) (r1 c ((U a).add 2) λn20=>dj
 110 #[d,n20] c λp n24 b=>al (n24 !=0) (Q (.tuple #[.pointer none,n24]) b) (r1 b (U w) λn25=>r1 b ((U w).add 1) λn26=>bF b ((U w).add 2) λn27=>r1 b
 (U a) λn28=>r1 b ((U a).add 1) λn29=>r1 b ((U a).add 2) λn30=>bF b ((U a).add 3) λn31=>bF b ((U a).add 4) λn32=>r1 b ((U a).add 5) λn33=>dj 78
 #[d,.agg #[n25,n26,.int .u64 n27],.agg #[n28,n29,n30,.int .u64 n31,.int .u64 n32,n33],.int .u64 n16,p] b λh n37 e=>al (n37 !=0) (Q
 (.tuple #[.pointer none,(4:Int)]) e) (r1 e ((U a).add 5) λn38=>aB 86 #[h,n38] e λn41 i=>al (n41 !=0) (Q (.tuple #[.pointer none,n41]) i) (Q (.tuple
 #[h,(0:Int)]) i)))))
def az.oc:aS:=(.s .r (.s a1 (.s .r (.s a1 (.s .r (.s a1 (.s .r (.s a1 e8))))))))
def af.so(d:aq ae)(l:Y)(w:J)(Q:aa->J->Prop):Prop:=al (Option.isNone d) (Q (.tuple #[]) w) (aW 112 #[d] w λi w1=>∃ (j:Int->J->Prop) (q:Int->J->
 Nat),j 0 w1/\∀ (n6:Int) (b:J),j n6 b->al (decide (n6<(i.len:Int))) (bL (λr:J->Prop=>∃a9:ae,i.a=some a9/\aI n6 i.len/\r1 b (a9.add (n6.toNat*1)) λn10=>bL (λs:ai->J->Prop
 =>al (decide (n6>=(l.len:Int))) (s true b) (∃dd:ae,l.a=some dd/\aI n6 l.len/\r1 b (dd.add (n6.toNat*1)) λn13=>s (decide (n13<=0)) b)) (λ(C:ai) k=>al C (r k) (∃e8:ae,d=some e8/\∃
 t:aq Nat,k.cell? (e8.add 5)=some (.map t)/\∃e:Y,∃u:J,Sem.run ak (Instr.lookup 137 (.map t) n10 false) k=.ok e u/\an (u.drew)
 λf=>∃g:Nat->Prop,∃m:ae,d=some m/\¬g (m.add 4).block/\ag f (m.add 4) λv=>∃n:ae,l.a=some n/\aI n6 l.len/\¬g (n.add (n6.toNat*1)).block/\r1 f (n.add (n6.toNat*1))
 λn25=>∃n26:Int,∃c:J,Sem.run ak (Builtin.min_ #[3,3] 3 #[n25,.int .i64 (e.len:Int)]) f=.ok n26 c/\ad g f c/\∃o:ae,e.a=some o/\aI (au (n26-1))
 e.len/\¬g (o.add ((au (n26-1)).toNat*256)).block/\∃h:O aa,cz c (o.add ((au (n26-1)).toNat*256)) 0 256=some h/\∃p:ae,v.a=some p/\aI n10 v.len/\bt c (p.add
 (n10.toNat*256)) (Array.toList h.toArray)/\Array.size h.toArray=256/\an (setCells c (p.add (n10.toNat*256)) 0 (Array.toList h.toArray)) λD=>r D))) (λx=>j (au (n6+1)) x/\q (au (n6+1)) x<
 q n6 b)) (∃y:ae,d=some y/\∃z:aq Nat,b.cell? (y.add 5)=some (.map z)/\∃ (E:aa) (A:J),Sem.run ak (Builtin.clear_ #[137] 0 #[.map z]) b=.ok E A/\∃B:
 ae,d=some B/\aT 69 #[.pointer (some B)] A λF=>Q (.tuple #[]) F))
def az.so:aS:=(.s (.s .r (.c .l .l)) (.s (.s .r (.bR (.loop [(12,(.int .i64))] [0,1,10,11] (.s .r (.s (.c .l .l) (.s (.eN [] [0,1,10,11,12] (.bR (.s .r (.s (.s (.c7 [.r,.r,.r,.r,.r,.split 5]) (.c .l .l)) (.s
 .r (.cA 16 true ⟨[0,1,2,4,0,0,0,0,192,256,0,1024,2560,4096,8224,16384,65535,131071],[0,1,2,4,0,0,0,0,192,256,0,1024,2560,4096,8224,16384,24,98304]⟩ [17179869184,34359738368,68719476736,137438953472,
 274877906944,549755813888,1099511627776,2199023255552,4398046511104,8796093022208,17592186044416,35184372088832,70368744177664,140737488355328,281474976710656,562949953421312,1125899906842624,0] [1,17179869184,34359738368,
 68719476736,32,64,2,16,3298534883328,4398046511104,64,17592186044416,43980465111040,70368744177664,141287244169216,281474976710656,412316860416,1688849860263936] (.t 0 (.t 1 (.t 2 (.t 3 (.t 4 (.t 5 (.t 6 (.t 7 (.t 8 (.t 9 (.t
 10 (.t 11 (.b1 12 (.t 13 (.t 14 (.t 15 (.tail [.r,.r]))))))))))))))))))))))) .r)))))) (.s .r .r)))
def af.sq(s:aq ae)(key:Y)(w:J)(Q:aa->J->Prop):Prop:=al (Option.isNone s) (Q (.tuple #[(),false,(1:Int)]) w) (∃a1:ae,s=some a1/\∃bx:aq ae,w.cell? a1
 =some (bx)/\lP 80 #[bx,key] w λa b n7 c=>Q (.tuple #[a,b,n7]) c)
def az.sq:aS:=dd
def af.sr(f:aq ae)(w:J)(Q:aa->J->Prop):Prop:=∃ (c:Int->J->Prop) (d:Int->J->Nat),c 0 w/\∀ (a:Int) (b:J),c a b->al (decide (a<4)) (∃a5:ae,f=some a5/\
 ((0:Int)<=a/\a<((4:Nat):Int))/\st b (Addr.add a5 (a.toNat*1)) (.int .i64 (-1)) λe=>c (au (a+1)) e/\d (au (a+1)) e<d a b) (Q (.tuple #[]) b)
def az.sr:aS:=(.s .r (.bR (.loop [(3,(.int .i64))] [0] a2)))
def af.mO(d:aq ae)(l:Int)(m:Int)(n:Int)(w:J)(Q:aa->J->Prop):Prop:=an (w.alloc (.cells #[l,m,.int .u64 n] 46)) λw1=>
 bL (λbZ:ai->J->Prop=>al (!(Option.isNone d)) (r1 w1 (U w) λo=>bZ (decide (o>=8)) w1) (bZ false w1)) (λ(p:ai) a=>bL (λg:ai->J->Prop=>al p (r1 a (U w) λn7=>g (decide (n7<=64)) a)
 (g false a)) (λ(q:ai) b=>bL (λh:ai->J->Prop=>al q (r1 b ((U w).add 1) λn11=>h (decide (n11>=1)) b) (h false b)) (λ(r:ai) c=>bL (λi:ai->J->Prop=>al r (r1 c
 ((U w).add 1) λn15=>i (decide (n15<=1000)) c) (i false c)) (λ(s:ai) e=>bL (λj:ai->J->Prop=>al s (bF e ((U w).add 2) λn19=>j (decide (n19>=1)) e) (j false e)) (λ
 (t:ai) f=>bL (λk:ai->J->Prop=>al t (bF f ((U w).add 2) λn23=>k (decide (n23<=1048576)) f) (k false f)) (λ(u:ai) v=>Q u v))))))
def az.mO:aS:=(.s .r (.s (.c7 [.r,.r,.r,.split 3,.r,.r,.r,.r,.split 3,.r,.r,.r,.r,.split 3,.r,.r,.r,.r,.split 3,.r,.r,.r,.r,.split 3,.r,.r,.r,.r,.split 3]) .l))
def af.od(n:Int)(first:Int)(w:J)(Q:aa->J->Prop):Prop:=aH 128 #[n] w λg w1=>al (((!g)||(decide (first<0)))||(decide (first>n))) (Q (.tuple #[.pointer none,(1:Int)])
 w1) (aB 129 #[n] w1 λn6 d=>((0:Int)<=n6/\n6<=n6/\n6<=jy/\((1:Nat):Int)*n6<=140737488355328)/\an (d.alloc (.cells (gC ak 5 (n6.toNat)) 5)) λb=>an (b.alloc (.cells
 #[n,.slice (some (U d)) (n6.toNat) (n6.toNat),()] 218)) λh=>∃ (c:Int->J->Prop) (e:Int->J->Nat),c 0 h/\∀ (n11:Int) (a:J),c n11 a->al (decide (n11<
 first)) (∃er:ae,(some (U b):aq ae)=some er/\ag a (er.add 1) λi=>aT 130 #[i,n11] a λf=>c (au (n11+1)) f/\e (au (n11+1)) f<e n11 a)
 (aT 131 #[.pointer (some (U b))] a λj=>Q (.tuple #[.pointer (some (U b)),(0:Int)]) j))
def az.od:aS:=(.s .r (.s (.s (.c7 [.r,.r,.r,.r,.pure 2,.r,.r,.r,.pure 3]) (.c (.s .r .l) .l)) (.s .r (.s (.s .r (.bR (.loop [(27,(.int .i64))] [6,26] a2))) (.s .r (.s .r .l))))))
def af.su(d:aq ae)(w:J)(Q:aa->J->Prop):Prop:=al (Option.isNone d) (Q (0:Int) w) (∃a1:ae,d=some a1/\ag w (a1.add 4) λs2=>Q (.int .i64 (s2.len:Int)) w)
def az.su:aS:=dd
def af.sw(no:Int)(u:Int)(v:Int)(x:Y)(w:J)(Q:aa->J->Prop):Prop:=an (w.alloc (.cells #[u,.int .u64 v,x] 150)) λw1=>
 aH 132 #[no] w1 λy ah=>bL (λj:ai->J->Prop=>al (!y) (j true ah) (r1 ah (U w) λn6=>aH 133 #[n6] ah λz A=>j (!z) A)) (λ(B:ai) f=>al B (Q (.tuple #[(),(1:Int)]) f) (ag f ((U w).add 2) λC=>al (decide ((C.len:Int)>232)) (Q (.tuple #[(),(10:Int)]) f) (an (f.alloc (.cells #[.int .u8 83,.int .u8 84,.int .u8 78,.int .u8 67] 5))
 λD=>∃k:Y,∃g:J,Sem.run ak (convert 48 48 (.slice (some (U f)) 4 4)) D=.ok k g/\r1 g (U w) λn16=>an (g.alloc (.cells #[.int .u8 1,.int .u8
 (IntKind.wrap .u8 n16)] 5)) λl=>an (l.alloc (.cells #[k,.slice (some (U g)) 2 2] 48)) λE=>aW 92 #[.slice (some (U l)) 2 2] E λF m=>ag m ((U w).add
 2) λG=>aW 126 #[F,.int .u64 (IntKind.wrap .u64 (G.len:Int)),(2:Int)] m λH I=>aW 126 #[H,.int .u64 (IntKind.wrap .u64 no),(4:Int)] I λK
 n=>bF n ((U w).add 1) λn29=>aW 126 #[K,.int .u64 n29,(8:Int)] n λo L=>bL (λp:Y->J->Prop=>an (L.drew) λb=>∃d:Nat->Prop,¬d ((U w).add
 2).block/\ag b ((U w).add 2) λq=>¬d ((U w).add 2).block/\ag b ((U w).add 2) λe=>(((0:Int)<=4/\(4:Int)<=4/\(4:Int)<=jy/\((1:Nat):Int)*4<=140737488355328)/\an (b.alloc (.cells
 (gC ak 5 (Int.toNat 4)) 5)) λh=>ad d b h/\(vm e)/\an (h.alloc (.cells (gC ak 5 ((au (232-(e.len:Int))).toNat)) 5)) λr=>ad d h r/\vn r o b q
 h e p)/\((vm e)/\an (b.alloc (.cells (gC ak 5 ((au (232-(e.len:Int))).toNat)) 5)) λi=>ad d b i/\((0:Int)<=4/\(4:Int)<=4/\(4:Int)<=jy/\((1:Nat):Int)*4<=
 140737488355328)/\an (i.alloc (.cells (gC ak 5 (Int.toNat 4)) 5)) λs=>ad d i s/\vn s o i q b e p)) (λ(c:Y) M=>an (M.drew) λN=>∃V:Nat->Prop,((0:Int)<=20/\
 20<=(c.len:Int))/\gv 134 #[c] N λO P=>∃W:Nat->Prop,aW 126 #[(),.int .u64 (IntKind.wrap .u64 O),(4:Int)] P λR S=>∃T:Int,∃t:J,
 Sem.run ak (Builtin.copy_ #[48,48] 3 #[.slice (aO c.a 1 (Int.toNat 20) c.cap) (c.len-(Int.toNat 20)) (c.cap-(Int.toNat 20)),R]) S=.ok T t/\Q
 (.tuple #[c,(0:Int)]) t))))
def az.sw:aS:=(.s .r (.s (.bR (.s (.c7 [.r,.r,.r,.r,.split 4]) (.c (.s .r .l) a1))) (.s .r (.s .r (.s .r (.s .r (.s (.eN [(6,.slice)] [] (.cA 9 true ⟨[0,0,0,4,0,16,32,64,128,267,512,2047],[0,0,0,4,0,16,
 32,64,128,267,512,1025]⟩ [17592186044416,35184372088832,70368744177664,140737488355328,281474976710656,562949953421312,1125899906842624,2251799813685248,4503599627370496,9007199254740992,18014398509481984,64] [64,0,8,
 70368744177664,8,281474976710656,562949953421312,1125899906842624,2251799813685248,4697113673859072,9007199254740992,18014398509481984] (.t 0 (.t 2 (.t 3 (.t 4 (.t 5 (.t 6 (.t 7 (.two 1 (.b1 8 (.tail [.r,.r,.r])) 8 (.b1 1 (.tail
 [.r,.r,.r])))))))))))) (.s (.cA 6 true ⟨[0,1,0,4,8,24,34],[0,1,0,4,8,16,34]⟩ [36028797018963968,72057594037927936,144115188075855872,288230376151711744,576460752303423488,1152921504606846976,2305843009213693952] [64,
 36028797018963968,64,144115188075855872,288230376151711744,576460752303423488,1224979098644774912] (.t 0 (.t 1 (.t 2 (.out 3 true (.t 4 (.out 5 false (.tail [.r])))))))) (.s .r .l)))))))))
def af.p7(s:aq ae)(w:J)(Q:aa->J->Prop):Prop:=al (Option.isNone s) (Q () w) (∃a1:ae,s=some a1/\ag w (a1.add 1) λs2=>aW 135 #[s2] w λa b=>Q a b)
def az.p7:aS:=dd
theorem af.Ch(s:aq ae)(w:J)(Q:aa->J->Prop)(h:af.p7 s w Q):aP ak 74 #[s] w Q:=okF (λw Q=>af.p7 s w Q) az.p7 func74 h
def af.sx(d:aq ae)(i:Int)(b:Y)(w:J)(Q:aa->J->Prop):Prop:=aH 108 #[d,i] w λs w1=>al ((!s)||((b.len:Int) !=256)) (Q (1:Int) w1) (∃a4:ae,
 d=some a4/\aH 136 #[.pointer (some a4),(2:Int)] w1 λt n=>al t (Q (3:Int) n) (an (n.drew) λe=>∃c:Nat->Prop,∃eU:ae,d=some eU/\¬c (eU.add 5).block/\∃h:aq Nat,e.cell?
 (eU.add 5)=some (.map h)/\∃dd:ae,d=some dd/\¬c (dd.add 5).block/\∃j:aq Nat,e.cell? (dd.add 5)=some (.map j)/\256<=b.len/\∃eG:ae,b.a=some eG/\¬c eG.block/\∃k:O aa,cz e
 eG 0 256=some k/\(∃o:Y,∃f:J,Sem.run ak (Instr.lookup 137 (.map j) i false) e=.ok o f/\ad c e f/\∃p:Y,∃l:J,Sem.run
 ak (Instr.buildSlice 136 1 #[(0,.agg k.toArray)]) f=.ok p l/\ad c f l/\vl o p l c h i d Q)/\(∃q:Y,∃g:J,Sem.run ak (Instr.buildSlice
 136 1 #[(0,.agg k.toArray)]) e=.ok q g/\ad c e g/\∃r:Y,∃m:J,Sem.run ak (Instr.lookup 137 (.map j) i false) g=.ok r m/\ad c g m/\vl r q m c h i d Q)))
def az.sx:aS:=(.s .r (.s (.bR (.s (.c7 [.r,.r,.r,.r,.r,.pure 3]) (.c (.s .r .l) a1))) (.s (.cA 16 true ⟨[0,1,2,4,0,0,32,64,128,0,768,0,2048,4096,8192,17408,65535],[0,1,2,4,0,0,32,64,128,0,
 768,0,2048,4096,8192,17408,32792]⟩ [4194304,8388608,16777216,33554432,67108864,134217728,268435456,536870912,1073741824,2147483648,4294967296,8589934592,17179869184,34359738368,68719476736,137438953472,0] [1,4194304,
 8388608,16777216,2,1,134217728,268435456,536870912,2,3221225472,4,8589934592,17179869184,34359738368,73014444032,137539616768] (.t 0 (.t 1 (.t 2 (.t 3 (.t 4 (.t 5 (.t 6 (.t 7 (.t 8 (.t 9 (.t 11 (.t 12 (.t 13 (.two 10 (.b1 14
 (.b1 15 (.tail [.r]))) 14 (.b1 10 (.b1 15 (.tail [.r])))))))))))))))))) (.s .r (.s .r .l)))))
def af.sy(d:aq ae)(w:J)(Q:aa->J->Prop):Prop:=al (Option.isNone d) (Q (1:Int) w) (∃a1:ae,d=some a1/\aH 136 #[.pointer (some a1),(3:Int)] w λj ah=>al j (Q
 (3:Int) ah) (∃a5:ae,d=some a5/\∃g:aq Nat,ah.cell? (a5.add 5)=some (.map g)/\∃ (a:aa) (h:J),Sem.run ak (Instr.range 137 (.map g)) ah=.ok a h/\∃ (c:J->Prop)
 (i:J->Nat),c h/\∀ (b:J),c b->(∃ (k:aa) (l:aa) (e:J),Sem.run ak (Instr.next (a) false 0) b=.ok (.tuple #[true,k,l]) e/\al true (vk a e d c i b) (vo d e
 Q))\/(∃f:J,Sem.run ak (Instr.next (a) false 0) b=.ok (.tuple #[false]) f/\al false (vk a f d c i b) (vo d f Q))))
def az.sy:aS:=(.s .r (.s (.bR eG) (.s (.s .r (.bR (.loop [] [0,16] (.s .r (.s (.c .l .l) (.bR (.s (.c7 [.rm [(.one (.int .i64)),(.one .any)]]) (.cA 8 true ⟨[0,1,2,4,0,0,0,96,255,511],[0,1,2,4,0,0,0,
 96,24,384]⟩ [2097152,4194304,8388608,16777216,33554432,67108864,134217728,268435456,536870912,0] [1,2097152,4194304,8388608,8,1,8,201326592,50331648,805306368] (.t 0 (.t 1 (.t 2 (.t 3 (.t 4 (.t 5 (.t 6 (.b1 7 (.tail
 [.r,.r]))))))))))))))))) (.s .r (.s .r .l)))))
def af.lS(d:aq ae)(h:Int)(i:Int)(j:Int)(k:Int)(l:Int)(m:Int)(gen:Int)(w:J)(Q:aa->J->Prop):Prop:=an (w.alloc (.cells #[h,i,j,.int .u64 k,.int .u64 l,m] 104)) λw1=>(2:Int)≠0/\an (w1.drew) λah=>∃b:Nat->Prop,¬b ((U w):ae).block/\r1 ah (U w) λn=>r1 ah (Addr.add
 (U w) 1) λn5=>r1 ah ((U w).add 2) λn6=>bF ah ((U w).add 3) λn7=>bF ah ((U w).add 4) λn8=>r1 ah ((U w).add 5) λn9=>aB 72 #[d] ah λn12 c=>ad b ah c/\aW
 138 #[.agg #[n,n5,n6,.int .u64 n7,.int .u64 n8,n9],n12] c λo e=>∃p:Nat->Prop,∃kv:Array aa,(∀f:J,Sem.run ak (Instr.build 150
 #[(0,.int .i64 3),(1,.int .u64 gen),(2,o)]) f=.ok (.agg kv) f)/\b8 73 #[.int .i64 (au (Int.tmod gen 2)),.agg kv] e λq n22 a=>ad p e a/\al (n22 !=0) (Q n22
 a) (aB 75 #[d,.int .i64 (au (Int.tmod gen 2)),q] a λn25 g=>al (n25 !=0) (Q n25 g) (aB 76 #[d] g λn28 r=>Q n28
 r))
def az.lS:aS:=(.s .r (.s .r (.s (.cA 12 true ⟨[0,0,0,0,8,20,34,97,128,256,256,1023,4095],[0,0,0,0,8,20,34,65,128,256,256,512,1024]⟩ [32768,65536,131072,262144,524288,1048576,2097152,4194304,
 16384,8388608,16777216,256,512] [128,4,16,1,262144,655360,1114112,2129920,4194304,16384,16384,8388608,16777216] (.t 0 (.t 1 (.t 2 (.t 3 (.b1 4 (.out 5 true (.t 6 (.b1 7 (.t 8 (.t 9 (.t 10 (.t 11 (.tail [.r]))))))))))))))
 (.s a1 e8))))
theorem af.Ci(d:aq ae)(a:Int)(b:Int)(c:Int)(e:Int)(f:Int)(g:Int)(gen:Int)(w:J)(Q:aa->J->Prop)(h:af.lS d a b c e f g gen w Q):aP ak 77 #[d,.agg #[a,b,c,.int .u64 e,.int .u64 f,g],.int .u64 gen] w Q:=okF (λw Q=>af.lS d a b c e f g gen w Q) az.lS func77 h
set_option maxRecDepth 100000
def af.lT(d:aq ae)(e:Int)(f:Int)(g:Int)(h:Int)(i:Int)(j:Int)(k:Int)(l:Int)(m:Int)(gen:Int)(s:aq ae)(w:J)(Q:aa->J
 ->Prop):Prop:=an (w.alloc (.cells #[e,f,.int .u64 g] 46)) λw1=>an (w1.alloc (.cells #[h,i,j,.int .u64 k,.int .u64 l,
 m] 104)) λah=>r1 ah (U w) λn=>dj 139 #[d,n] ah λc n7 b=>al (n7 !=0) (Q (.tuple #[.pointer none,n7]) b) (r1 b (U w1) λn8=>r1 b ((U w1).add 1)
 λn9=>dj 140 #[c,s,.int .u64 (IntKind.wrap .u64 (gen+1)),n8,n9] b λo n13 a=>al (n13 !=0) (Q (.tuple #[.pointer none,n13]) a) (r1 a (U w) λn14=>r1 a
 ((U w).add 1) λn15=>bF a ((U w).add 2) λn16=>r1 a (U w1) λn17=>r1 a ((U w1).add 1) λn18=>r1 a ((U w1).add 2) λn19=>bF a ((U w1).add 3) λn20=>bF a ((U w1).add 4)
 λn21=>r1 a ((U w1).add 5) λn22=>bF a ((U w1).add 3) λn23=>r1 a ((U w1).add 5) λn24=>∃mJ:Array aa,Sem.run ak (Instr.build 158 #[(0,o),(1,d),(2,
 c),(3,s),(4,.agg #[n14,n15,.int .u64 n16]),(5,.agg #[n17,n18,n19,.int .u64 n20,.int .u64 n21,n22]),(6,.int .u64 gen),(7,.int .u64 n23),(10,
 n24)]) a=.ok (.agg mJ) a/\an (a.alloc (.cells mJ 158)) λp=>Q (.tuple #[.pointer (some (U a)),(0:Int)]) p))
def az.lT:aS:=(.s .r (.s .r (.s a1 dd)))
theorem af.Cj(d:aq ae)(a:Int)(b:Int)(c:Int)(e:Int)(f:Int)(g:Int)(i:Int)(j:Int)(k:Int)(gen:Int)(s:aq ae)(w:J)(Q:aa->J->Prop)(h:af.lT d a b c e f g i j k gen s w Q):aP ak 78 #[d,.agg #[a,b,.int .u64 c],.agg #[e,f,g,.int .u64 i,.int .u64 j,k],.int .u64 gen,s] w Q:=okF (λw Q=>af.lT d a b c e f g i j k gen s w Q) az.lT func78 h
def af.oe(a:Y)(w:J)(Q:aa->J->Prop):Prop:=Q (.bool ((decide ((a.len:Int)>=1))&&(decide ((a.len:Int)<=24)))) w
def az.oe:aS:=de
def af.sA(t:aq ae)(key:Y)(w:J)(Q:aa->J->Prop):Prop:=bL (λbN:ai->J->Prop=>al (Option.isNone t) (bN true w) (aH 141 #[key] w λn ah=>bN (!n)
 ah)) (λ(o:ai) f=>al o (al (Option.isNone t) (Q (.tuple #[(),false,(1:Int)]) f) (Q (.tuple #[(),false,(0:Int)]) f)) (b8 142 #[t,key] f λc n10 b=>al ((n10 !=0)||((c.len:Int)==0)) (Q (.tuple #[(),false,n10]) b) (∃ez:ae,c.a=some ez/\((0:Int)<=(au ((c.len:Int)-1))/\(au ((c.len:Int)-1))<
 (c.len:Int))/\a8 b ((ez.add ((au ((c.len:Int)-1)).toNat*6)).add 1) λg=>ag b (((ez.add ((au ((c.len:Int)-1)).toNat*6)).add 1).add 1) λh=>ag b (((ez.add ((au ((c.len:Int)-1)).toNat*6)).add
 1).add 2) λi=>ag b (((ez.add ((au ((c.len:Int)-1)).toNat*6)).add 1).add 3) λj=>an (b.alloc cc) λk=>bt k (U b) [g,h,i,j]/\(4:Nat)=4/\an (setCells k (U b) 0 [g,h,i,j]) λd=>a8 d (U b) λp=>ag d ((U b).add 1) λq=>
 ag d ((U b).add 2) λr=>ag d ((U b).add 3) λs=>jz 143 #[.agg #[p,q,r,s],key] d
 λn24 u e=>al (!u) (Q (.tuple #[(),false,(0:Int)]) e) (ag e ((U b).add 2) λl=>∃m:ae,l.a=some m/\aI n24 l.len/\ag e (m.add (n24.toNat*1)) λv=>Q (.tuple
 #[v,true,(0:Int)]) e))))
def az.sA:aS:=(.s .r (.s (.s (.c7 [.r,.r,.r,.split 3]) (.c (.s a1 (.s .r .l)) .l)) (.s .r (.s ez (.s .r dd)))))
def af.sB(s:aq ae)(E:Int)(w:J)(Q:aa->J->Prop):Prop:=∃a1:ae,s=some a1/\st w (a1.add 18) true λah=>∃a3:ae,s=some a3/\st ah (a3.add 16) (0:Int) λn=>∃
 a5:ae,s=some a5/\∃o:aq ae,n.cell? (a5.add 3)=some (o)/\aT 144 #[o] n λp=>∃a9:ae,s=some a9/\∃q:aq ae,p.cell? (a9.add 2)=some (q)/\aW
 145 #[q] p λg F=>∃ (h:Int->J->Prop) (r:Int->J->Nat),h 0 F/\∀ (n16:Int) (c:J),h n16 c->al (decide (n16<(g.len:Int))) (∃fF:ae,g.a=some fF/\aI n16
 g.len/\r1 c (fF.add (n16.toNat*1)) λn19=>∃t:ae,s=some t/\∃v:aq ae,c.cell? (t.add 2)=some (v)/\aH 146 #[v,n19] c λL x=>h (au (n16+
 1)) x/\r (au (n16+1)) x<r n16 c) (bL (λy:J->Prop=>an (c.drew) λb=>∃d:Nat->Prop,∃i:ae,s=some i/\¬d (i.add 2).block/\∃z:aq ae,b.cell? (i.add 2)=some (.pointer
 z)/\∃j:ae,s=some j/\¬d (j.add 3).block/\∃A:aq ae,b.cell? (j.add 3)=some (A)/\∃k:ae,s=some k/\¬d (k.add 13).block/\bF b (k.add 13) λn33=>∃l:ae,s=some
 l/\¬d (l.add 7).block/\r1 b (l.add 7) λn35=>∃m:ae,s=some m/\¬d ((m.add 7).add 1).block/\r1 b ((m.add 7).add 1) λn37=>dj 140 #[z,A,.int .u64 (IntKind.wrap .u64 (n33
 +1)),n35,n37] b λG n41 e=>ad d b e/\al (n41==0) (∃f:ae,s=some f/\(∃u:aa,e.cell? f=some u)/\e.frozen? f=false/\an (e.setCell f (G)) λH=>y
 H) (y e)) (λB=>∃C:ae,s=some C/\r1 B ((C.add 7).add 5) λI=>∃D:ae,s=some D/\st B (D.add 17) I λK=>Q E K))
def az.sB:aS:=(.s .r (.s .r (.s .r (.s (.s .r (.bR (.loop [(26,(.int .i64))] [0,1,24,25] a2))) (.s (.eN [] [0,1] (.s (.cA 28 true ⟨[0,1,2,4,0,16,32,64,0,256,512,1024,2048,0,8192,16384,32768,65536,
 0,262144,524288,1048576,2097152,4329608,8388608,16777216,16777216,67108863,268435455],[0,1,2,4,0,16,32,64,0,256,512,1024,2048,0,8192,16384,32768,65536,0,262144,524288,1048576,2097152,4329608,8388608,
 16777216,16777216,33554432,67108864]⟩ [274877906944,549755813888,1099511627776,2199023255552,4398046511104,8796093022208,17592186044416,35184372088832,70368744177664,140737488355328,281474976710656,562949953421312,
 1125899906842624,2251799813685248,4503599627370496,9007199254740992,18014398509481984,36028797018963968,72057594037927936,144115188075855872,288230376151711744,576460752303423488,1152921504606846976,2305843009213693952,
 137438953472,4611686018427387904,9223372036854775808,128,256] [1,274877906944,549755813888,1099511627776,1,4398046511104,8796093022208,17592186044416,1,70368744177664,140737488355328,281474976710656,562949953421312,1,
 2251799813685248,4503599627370496,9007199254740992,18014398509481984,1,72057594037927936,144115188075855872,288230376151711744,576460752303423488,1190113584927997952,2305843009213693952,137438953472,137438953472,
 4611686018427387904,9223372036854775808] (.t 0 (.t 1 (.t 2 (.t 3 (.t 4 (.t 5 (.t 6 (.t 7 (.t 8 (.t 9 (.t 10 (.t 11 (.t 12 (.t 13 (.t 14 (.t 15 (.t 16 (.t 17 (.t 18 (.t 19 (.t 20 (.t 21 (.t 22 (.b1 23 (.t 24 (.t 25 (.t 26 (.t 27 (.tail
 [.r])))))))))))))))))))))))))))))) (.s .r (.c .r .l)))) (.s .r (.s .r .l)))))))
def af.sC(s:aq ae)(w:J)(Q:aa->J->Prop):Prop:=∃a1:ae,s=some a1/\∃bx:aq ae,w.cell? a1=some (bx)/\e2 147 #[bx] w λn5 n6 a=>∃dN:ae,s
 =some dN/\∃b:aq ae,a.cell? (dN.add 3)=some (b)/\aB 148 #[b] a λn11 d=>∃n12:Int,∃c:J,Sem.run ak (Builtin.max_ #[3,3] 3 #[.int .i64 (au ((au (n11
 -(au (2*n6))))-4)),(0:Int)]) d=.ok n12 c/\Q n12 c
def az.sC:aS:=a3
def af.sD(t:aq ae)(key:Y)(w:J)(Q:aa->J->Prop):Prop:=bL (λbN:ai->J->Prop=>al (Option.isNone t) (bN true w) (aH 141 #[key] w λl ah=>bN
 (!l) ah)) (λ(m:ai) f=>al m (Q (.tuple #[false,(1:Int)]) f) (b8 142 #[t,key] f λb n10 d=>al ((n10 !=0)||((b.len:Int)==0)) (Q (.tuple #[false,n10]) d) (∃ez:ae,b.a=some ez/\((0:Int)<=(au ((b.len:Int)-1))/\(au ((b.len:Int)-1))<(b.len:Int))/\a8 d ((ez.add ((au ((b.len:Int)-1)).toNat*6)).add 1) λn=>ag d (((ez.add ((au
 ((b.len:Int)-1)).toNat*6)).add 1).add 1) λo=>ag d (((ez.add ((au ((b.len:Int)-1)).toNat*6)).add 1).add 2) λp=>ag d (((ez.add ((au ((b.len:Int)-1)).toNat*6)).add 1).add 3) λq=>lQ 149
 #[.agg #[n,o,p,q],key] d λg h i j r c=>an (c.alloc cc) λk=>bt k (U c) [g,
 h,i,j]/\(4:Nat)=4/\an (setCells k (U c) 0 [g,h,i,j])
 λe=>al (!r) (Q (.tuple #[false,(0:Int)]) e) (a8 e (U c) λs=>ag e ((U c).add 1) λu=>ag e ((U c).add 2) λv=>ag e ((U c).add 3) λx=>aB 150
 #[t,b,.agg #[s,u,v,x]] e λn31 y=>Q (.tuple #[.bool (n31==0),n31]) y))))
def az.sD:aS:=(.s .r (.s eU (.s .r (.s ez (.s .r f_)))))
def af.sE(s:aq ae)(keys:Int)(w:J)(Q:aa->J->Prop):Prop:=∃a1:ae,s=some a1/\r1 w (a1.add 17) λbp=>∃a3:ae,s=some a3/\st w (a3.add 17) (.int .i64 (au (bp+keys))) λa=>
 bL (λc:J->Prop=>∃de:ae,s=some de/\r1 a (de.add 16) λn7=>al (n7==0) (∃dY:ae,s=some dY/\bF a (dY.add 14) λn9=>∃eU:ae,s=some eU/\st a (eU.add 15) (.int .u64 n9) λf=>c f) (c
 a)) (λd=>∃er:ae,s=some er/\r1 d (er.add 16) λn14=>∃f_:ae,s=some f_/\st d (f_.add 16) (.int .i64 (au (n14+1))) λg=>an (g.drew) λb=>∃fF:ae,s=some fF/\¬False/\r1 b
 (fF.add 16) λn19=>∃e:ae,s=some e/\¬False/\r1 b ((e.add 4).add 1) λn21=>al (decide (n19>=n21)) (aB 94 #[s] b λn24 h=>Q n24 h) (Q (0:Int) b))
def az.sE:aS:=(.s .r (.s .r (.s (.eN [] [0] (.s .r (.c .r .l))) (.s .r (.s (.s (.cA 9 false ⟨[0,1,2,4,0,16,32,64,128,264],[0,1,2,4,0,16,32,64,128,264]⟩ [4294967296,8589934592,17179869184,34359738368,
 68719476736,137438953472,274877906944,549755813888,1099511627776,2199023255552] [1,4294967296,8589934592,17179869184,1,68719476736,137438953472,274877906944,549755813888,1133871366144] (.t 0 (.t 1 (.t 2 (.t 3 (.t 4 (.t 5 (.t 6
 (.t 7 (.t 8 (.tail [.r]))))))))))) (.c (.s .r .l) .l)) (.s .r .l))))))
def af.sF(t:aq ae)(key:Y)(val:Y)(w:J)(Q:aa->J->Prop):Prop:=bL (λbN:ai->J->Prop=>al (Option.isNone t) (bN true w) (aH 141 #[key] w λv ah
 =>bN (!v) ah)) (λ(x:ai) l=>al (x||(decide ((val.len:Int)>24))) (Q (1:Int) l) (an (l.drew) λi=>∃j:Nat->Prop,∃a9:ae,t=some a9/\¬j (a9.add 1).block/\∃m:aq ae,i.cell? (a9.add 1)=
 some (m)/\∃ez:ae,t=some ez/\¬j (ez.add 4).block/\r1 i (ez.add 4) λn12=>aB 148 #[m] i λn15 k=>ad j i k/\al (decide (n15<(au ((au (2*n12))+3)))) (Q (2:Int)
 k) (b8 142 #[t,key] k λb n19 c=>al (n19 !=0) (Q n19 c) (an (c.alloc cc) λn=>bt n (U c) [true,(),(),()]/\(4:Nat)=4/\an (setCells n (U c) 0 [true,(),(),()]) λe=>bL (λo:J->Prop=>al (decide ((b.len:Int)>0)) (∃g:ae,b.a=some g/\((0:Int)<=(au
 ((b.len:Int)-1))/\(au ((b.len:Int)-1))<(b.len:Int))/\a8 e ((g.add ((au ((b.len:Int)-1)).toNat*6)).add 1) λy=>ag e (((g.add ((au ((b.len:Int)-1)).toNat*6)).add 1).add 1) λz=>ag e
 (((g.add ((au ((b.len:Int)-1)).toNat*6)).add 1).add 2) λA=>ag e (((g.add ((au ((b.len:Int)-1)).toNat*6)).add 1).add 3) λB=>p2 e c y z A B o) (o e)) (λh=>a8 h (U c) λ
 C=>ag h ((U c).add 1) λD=>ag h ((U c).add 2) λE=>ag h ((U c).add 3) λF=>lQ 151 #[.agg #[C,D,E,F],key,val] h λp q r s G d=>an (d.alloc cc) λu=>bt u (U d) [p,q,r,
 s]/\(4:Nat)=4/\an (setCells u (U d) 0 [p,q,r,s]) λf=>al (!G) (Q (4:Int) f) (a8 f (U d)
 λH=>ag f ((U d).add 1) λI=>ag f ((U d).add 2) λK=>ag f ((U d).add 3) λL=>aB 150 #[t,b,.agg #[H,I,K,L]] f λM N=>Q M N))))))
def az.sF:aS:=(.s .r (.s (.bR (.s (.c7 [.r,.r,.r,.split 3,.r,.r,.r,.r,.pure 3]) (.c (.s .r .l) (.s (.cA 11 true ⟨[0,1,2,4,8,0,32,64,128,256,512,1040,2064],[0,1,2,4,8,0,32,64,128,256,512,1040,
 2048]⟩ [67108864,134217728,268435456,536870912,1073741824,2147483648,4294967296,8589934592,17179869184,34359738368,68719476736,137438953472,33554432] [1,67108864,134217728,268435456,536870912,1,2147483648,4294967296,
 8589934592,17179869184,34359738368,69793218560,137438953472] (.t 0 (.t 1 (.t 2 (.t 3 (.t 5 (.t 6 (.t 7 (.t 8 (.t 9 (.t 10 (.b1 4 (.tail [.r,.r]))))))))))))) (.c (.s .r .l) .l))))) (.s .r (.s a1 (.s .r (.s (.eN [] [0,1,2,7,9] (.s
 .r (.c .r .l))) dd))))))
def af.sG(s:aq ae)(keys:Int)(w:J)(Q:aa->J->Prop):Prop:=∃a1:ae,s=some a1/\∃bx:aq ae,w.cell? a1=some (bx)/\yz 152 #[bx] w λh n6 n7 a
 =>al (n7==3) (Q n7 a) (∃dY:ae,s=some dY/\r1 a ((dY.add 7).add 2) λn9=>an (a.alloc (.cells #[(0:Int),(1:Int),n9] 3)) λi=>∃b:Y,∃d:J,Sem.run ak
 (Builtin.append_ #[58,58] 58 #[h,.slice (some (U a)) 3 3]) i=.ok b d/\aT 153 #[b] d λc=>bL (λ
 e:ai->J->Prop=>al ((n7 !=0)||(n6 !=keys)) (e true c) (∃e8:ae,s=some e8/\∃f:aq ae,c.cell? (e8.add 3)=some (f)/\aW 155 #[f] c λj k=>aH
 154 #[b,j] k λl m=>e (!l) m)) (λ(n:ai) g=>al n (Q (4:Int) g) (Q (0:Int) g)))
def az.sG:aS:=(.s .r (.s .r (.s a1 (.s .r (.s .r (.s (.s (.c7 [.r,.r,.r,.pure 3,.r,.r,.r,.r,.split 8]) (.c (.s .r .l) .l)) (.s .r .l)))))))
def af.sH(parts:Y)(w:J)(Q:aa->J->Prop):Prop:=∃ (e:Y->Int->J->Prop) (h:Y->Int->J->Nat),e ⟨none,0,0⟩ 0 w/\∀ (d:Y) (b:Int) (c:J),e d b c->al (decide (b<
 (parts.len:Int))) (∃de:ae,parts.a=some de/\aI b parts.len/\ag c (de.add (b.toNat*1)) λi=>∃f:Y,∃g:J,Sem.run ak (Builtin.append_ #[48,48] 48 #[d,i]) c=.ok f g/\e f (au (b+1)) g/\h f (au (b+1)) g<h d b c) (Q d c)
def az.sH:aS:=(.s .r (.s .r (.s (.s .r (.bR (.loop [(3,.slice),(8,(.int .i64))] [6,7] a2))) (.s .r .l))))
def af.sI(s:aq ae)(w:J)(Q:aa->J->Prop):Prop:=∃a1:ae,s=some a1/\∃bx:aq ae,w.cell? (a1.add 3)=some (bx)/\e2 160 #[bx] w λn5 n6 y=>
 al (n6 !=0) (aB 81 #[s,n6] y λn9 aj=>Q n9 aj) (an (y.drew) λi=>∃ez:ae,s=some ez/\¬False/\∃z:aq ae,i.cell? (ez.add 3)=some (z)/\∃er:
 ae,s=some er/\¬False/\r1 i ((er.add 7).add 2) λn14=>aB 161 #[z,n14] i λn17 am=>an (am.drew) λd=>∃e:Nat->Prop,∃j:ae,s=some j/\¬e (j.add 13).block
 /\bF d (j.add 13) λn21=>∃k:ae,s=some k/\¬e (k.add 3).block/\∃A:aq ae,d.cell? (k.add 3)=some (A)/\aW 74 #[A] d λao l=>ad e d l/\∃n_:
 Array aa,(∀B:J,Sem.run ak (Instr.build 150 #[(0,.int .i64 4),(1,.int .u64 (IntKind.wrap .u64 (n21+1))),(2,ao)]) B=.ok (.agg n_) B)/\b8 73 #[n5,.agg
 n_] l λap n32 f=>ad e l f/\al (n32 !=0) (aB 81 #[s,n32] f λn35 ar=>Q n35 ar) (∃C:ae,s=some C/\∃D:aq ae,f.cell? (C.add 2)=some
 (D)/\aB 162 #[D,n5,ap] f λn40 m=>al (n40 !=0) (aB 81 #[s,n40] m λau av=>Q au av) (∃E:ae,
 s=some E/\∃F:aq ae,m.cell? (E.add 2)=some (F)/\aB 163 #[F] m λG n=>al (G !=0) (aB 81 #[s,G] n λaw ax=>Q aw ax) (∃H:ae,s=some H/\∃I:aq ae,n.cell? H=some (I)/\e2 147 #[I] n λay az aA=>an (aA.drew) λa=>∃g:Nat->Prop,∃o:ae,s=some o/\¬g
 (o.add 14).block/\bF a (o.add 14) λaC=>∃p:ae,s=some p/\¬g ((p.add 7).add 4).block/\bF a ((p.add 7).add 4) λaD=>∃q:ae,s=some q/\¬g (q.add 17).block/\r1 a (q.add 17) λaE=>
 ∃h:Array aa,(∀K:J,Sem.run ak (Instr.build 104 #[(0,ay),(1,az),(2,n5),(3,.int .u64 aC),(4,.int .u64 (IntKind.wrap .u64 (aD+1))),(5,aE)]) K=.ok
 (.agg h) K)/\an (a.alloc gD) λr=>ad g a r/\bt r (U a) (Array.toList h)/\Array.size h=6/\an (setCells r (U a) 0 (Array.toList h)) λaF=>an (aF.drew) λb=>∃L:ae,s=some L/\
 ¬False/\∃M:aq ae,b.cell? (L.add 1)=some (M)/\¬False/\r1 b (U a) λaG=>r1 b ((U a).add 1) λaH=>r1 b ((U a).add 2) λaI=>bF b ((U a).add 3) λaJ=>bF b
 ((U a).add 4) λaK=>r1 b ((U a).add 5) λaL=>∃N:ae,s=some N/\¬False/\bF b (N.add 13) λaM=>aB 77 #[M,.agg #[aG,aH,aI,.int .u64
 aJ,.int .u64 aK,aL],.int .u64 (IntKind.wrap .u64 (aM+1))] b λO t=>al (O !=0) (aB 81 #[s,O] t λaN aO=>Q aN aO) (∃P:ae,s=some P/\∃R
 :aq ae,t.cell? (P.add 3)=some (R)/\aT 131 #[R] t λaP=>an (aP.drew) λc=>∃S:Nat->Prop,¬S ((U a):ae).block/\r1 c (U a) λT=>r1 c ((U
 a).add 1) λV=>r1 c ((U a).add 2) λW=>bF c ((U a).add 3) λX=>bF c ((U a).add 4) λY=>r1 c ((U a).add 5) λZ=>∃u:ae,s=some u/\¬S (u.add 13).block/\bF
 c (u.add 13) λaQ=>∃v:ae,s=some v/\bt c (v.add 7) [T,V,W,.int .u64 X,.int .u64 Y,Z]/\(6:Nat)=6/\an (setCells c (v.add 7) 0 [T,V,W,.int .u64 X,.int .u64 Y,Z]) λaR=>∃ab:ae,s=some ab/\st aR (ab.add 13) (.int .u64 (IntKind.wrap .u64 (aQ+1))) λaS=>∃ac:ae,s=some ac/\st aS
 (ac.add 16) (0:Int) λaU=>an (aU.drew) λx=>∃ag:ae,s=some ag/\¬False/\∃ah:aq ae,x.cell? ag=some (ah)/\∃ai:ae,s=some ai/\¬False/\bF x (ai.add 13) λ
 aV=>aT 164 #[ah,.int .u64 (IntKind.wrap .u64 (aV+1))] x λaX=>Q (0:Int) aX)))))
def az.sI:aS:=(.s .r (.s .r (.s a1 (.s (.cA 9 false ⟨[0,1,2,4,0,16,32,64,128,264],[0,1,2,4,0,16,32,64,128,264]⟩ [33554432,67108864,134217728,268435456,536870912,1073741824,2147483648,
 4294967296,8589934592,17179869184] [1,33554432,67108864,134217728,1,536870912,1073741824,2147483648,4294967296,8858370048] (.t 0 (.t 1 (.t 2 (.t 3 (.t 4 (.t 5 (.t 6 (.t 7 (.t 8 (.tail [.r]))))))))))) (.s (.cA 17 true ⟨[0,0,2,
 4,8,16,0,64,128,256,512,1056,3073,4096,8192,8192,32767,131071],[0,0,2,4,8,16,0,64,128,256,512,1056,2049,4096,8192,8192,16384,32768]⟩ [68719476736,137438953472,274877906944,549755813888,1099511627776,
 2199023255552,4398046511104,8796093022208,17592186044416,35184372088832,70368744177664,140737488355328,281474976710656,34359738368,562949953421312,1125899906842624,32,16] [8,1,137438953472,274877906944,549755813888,
 1099511627776,1,4398046511104,8796093022208,17592186044416,35184372088832,72567767433216,140806207832064,281474976710656,34359738368,34359738368,562949953421312,1125899906842624] (.t 0 (.t 1 (.t 2 (.t 3 (.t 4 (.t 5 (.t 6 (.t 7
 (.t 8 (.t 9 (.b1 10 (.t 11 (.b1 12 (.t 13 (.t 14 (.t 15 (.t 16 (.tail [.r]))))))))))))))))))) (.s a1 (.s (.s .r a1) (.s (.s .r a1) (.s .r (.s (.cA 19 true ⟨[0,0,0,0,8,16,32,0,128,256,512,1024,2048,0,8192,16384,32768,
 69703,0,524287],[0,0,0,0,8,16,32,0,128,256,512,1024,2048,0,8192,16384,32768,69703,0,393216]⟩ [77371252455336267181195264,154742504910672534362390528,309485009821345068724781056,618970019642690137449562112,
 1237940039285380274899124224,2475880078570760549798248448,4951760157141521099596496896,9903520314283042199192993792,19807040628566084398385987584,39614081257132168796771975168,79228162514264337593543950336,
 158456325028528675187087900672,316912650057057350374175801344,633825300114114700748351602688,1267650600228229401496703205376,2535301200456458802993406410752,5070602400912917605986812821504,10141204801825835211973625643008,1024,0]
 [256,512,8,1,618970019642690137449562112,1237940039285380274899124224,2475880078570760549798248448,1,9903520314283042199192993792,19807040628566084398385987584,39614081257132168796771975168,79228162514264337593543950336,
 158456325028528675187087900672,1,633825300114114700748351602688,1267650600228229401496703205376,2535301200456458802993406410752,5393008409894303831330853486592,0,10141204801825835211973625644032] (.t 0 (.t 1 (.t 2 (.t 3 (.t 4 (.t 5
 (.t 6 (.t 7 (.t 8 (.t 9 (.t 10 (.t 11 (.t 12 (.t 13 (.t 14 (.t 15 (.t 16 (.t 17 (.b1 18 (.tail [.r]))))))))))))))))))))) (.s (.s (.cA 10 false ⟨[0,1,2,4,0,0,32,64,128,256,536,2047],[0,1,2,4,0,0,32,64,128,256,536,
 1024]⟩ [20282409603651670423947251286016,40564819207303340847894502572032,81129638414606681695789005144064,162259276829213363391578010288128,324518553658426726783156020576256,649037107316853453566312041152512,
 1298074214633706907132624082305024,2596148429267413814265248164610048,5192296858534827628530496329220096,10384593717069655257060992658440192,20769187434139310514121985316880384,2048] [1,20282409603651670423947251286016,
 40564819207303340847894502572032,81129638414606681695789005144064,1024,1,649037107316853453566312041152512,1298074214633706907132624082305024,2596148429267413814265248164610048,5192296858534827628530496329220096,
 10871371547557295347235726689304576,20769187434139310514121985316880384] (.t 0 (.t 1 (.t 2 (.t 3 (.t 4 (.t 5 (.t 6 (.t 7 (.t 8 (.t 9 (.tail [.r,.r])))))))))))) a1) (.s .r (.s (.cA 15 true ⟨[0,0,0,0,0,16,32,64,128,137,649,1161,
 4091,8187,12283,32767,65535,98303],[0,0,0,0,0,16,32,64,128,1,512,1032,2,4096,8448,4,32768,65536]⟩ [42535295865117307932921825928971026432,85070591730234615865843651857942052864,
 170141183460469231731687303715884105728,340282366920938463463374607431768211456,680564733841876926926749214863536422912,1361129467683753853853498429727072845824,2722258935367507707706996859454145691648,
 5444517870735015415413993718908291383296,10889035741470030830827987437816582766592,21778071482940061661655974875633165533184,43556142965880123323311949751266331066368,0,87112285931760246646623899502532662132736,
 174224571863520493293247799005065324265472,0,348449143727040986586495598010130648530944,696898287454081973172991196020261297061888,0] [1,1,1,1024,1,680564733841876926926749214863536422912,1361129467683753853853498429727072845824,
 2722258935367507707706996859454145691648,5444517870735015415413993718908291383296,42535295865117307932921825928971026432,21778071482940061661655974875633165533184,43896425332801061786775324358698099277824,
 85070591730234615865843651857942052864,87112285931760246646623899502532662132736,185113607604990524124075786442881907032064,170141183460469231731687303715884105728,348449143727040986586495598010130648530944,
 696898287454081973172991196020261297061888] (.t 0 (.t 1 (.t 2 (.t 3 (.t 4 (.t 5 (.t 6 (.t 7 (.t 8 (.t 9 (.t 10 (.out 11 false (.t 12 (.t 13 (.out 14 false (.tail [.r,.r,.r]))))))))))))))))) (.s (.cA 9 false ⟨[0,1,2,4,0,16,32,64,
 128,264],[0,1,2,4,0,16,32,64,128,264]⟩ [1393796574908163946345982392040522594123776,2787593149816327892691964784081045188247552,5575186299632655785383929568162090376495104,11150372599265311570767859136324180752990208,
 22300745198530623141535718272648361505980416,44601490397061246283071436545296723011960832,89202980794122492566142873090593446023921664,178405961588244985132285746181186892047843328,356811923176489970264571492362373784095686656,
 713623846352979940529142984724747568191373312] [1,1393796574908163946345982392040522594123776,2787593149816327892691964784081045188247552,5575186299632655785383929568162090376495104,1,22300745198530623141535718272648361505980416,
 44601490397061246283071436545296723011960832,89202980794122492566142873090593446023921664,178405961588244985132285746181186892047843328,367962295775755281835339351498697964848676864] (.t 0 (.t 1 (.t 2 (.t 3 (.t 4 (.t 5 (.t 6 (.t 7 (.t 8
 (.tail [.r]))))))))))) (.s .r .l)))))))))))))))
def af.sJ(d:aq ae)(i:Int)(w:J)(Q:aa->J->Prop):Prop:=bL (λbN:ai->J->Prop=>al ((!(Option.isNone d))&&(decide (i>=0))) (∃a2:ae,d=some a2/\ag w (a2.add 4) λa=>bN
 (decide (i<(a.len:Int))) w) (bN false w)) (λ(b:ai) c=>Q b c)
def az.sJ:aS:=dY
def af.og(d:aq ae)(w:J)(Q:aa->J->Prop):Prop:=an (w.alloc gD) λw1=>∃ (j:Int->ai->Int->J->Prop) (l:Int->ai->Int->J->Nat),j 0 false 0 w1/\∀ (h:Int) (i:ai) (n6:
 Int) (a:J),j h i n6 a->al (decide (n6<2)) (bL (λk:Int->ai->J->Prop=>b8 114 #[d,n6] a λm n12 n=>al (n12 !=0) (vi n w Q n12) (aH 169
 #[m,.func (.func 170) #[] #[]] n λW o=>al (!W) (k h i o) (yA 171 #[n6,m] o λn31 n32 n33 n34 n35 n36 n37 n38 n39 c=>an
 (c.alloc gD) λp=>bt p (U c) [n31,n32,n33,.int .u64 n34,.int .u64 n35,n36]/\(6:Nat)=6/\an (setCells p (U c) 0 [n31,n32,n33,.int .u64
 n34,.int .u64 n35,n36]) λq=>al (n39 !=0) (vi q w Q n39) (aB 72 #[d] q λX b=>al (n37 !=X) (r1 b (U w) λr=>r1 b ((U w).add 1) λs=>r1 b ((U w).add 2)
 λt=>bF b ((U w).add 3) λu=>bF b ((U w).add 4) λv=>r1 b ((U w).add 5) λx=>bt b (U w) [r,s,t,.int .u64 u,.int .u64 v,x]/\(6
 :Nat)=6/\an (setCells b (U w) 0 [r,s,t,.int .u64 u,.int .u64 v,x]) λe=>r1 e (U w) λY=>r1 e ((U w).add 1) λZ=>r1 e ((U w).add 2) λab
 =>bF e ((U w).add 3) λac=>bF e ((U w).add 4) λad=>r1 e ((U w).add 5) λag=>Q (.tuple #[.agg #[Y,Z,ab,.int .u64 ac,.int .u64 ad,ag],.int .u64 0,
 .int .i64 4]) e) (al ((!i)||(decide (n38>h))) (r1 b (U c) λy=>r1 b ((U c).add 1) λz=>r1 b ((U c).add 2) λA=>bF b ((U c).add 3) λB=>bF b ((U c).add 4) λC
 =>r1 b ((U c).add 5) λD=>bt b (U w) [y,z,A,.int .u64 B,.int .u64 C,D]/\(6:Nat)=6/\an (setCells b (U w) 0 [y,z,A,.int .u64 B,.int .u64 C,D]) λah=>k n38 true ah) (k h i b)))))) (λ(E:Int) (F:ai) G=>j E F (au (n6+1)) G/\l E F (au (n6+1)) G<l h i n6 a)) (al (!i) (r1 a (U w)
 λH=>r1 a ((U w).add 1) λI=>r1 a ((U w).add 2) λK=>bF a ((U w).add 3) λL=>bF a ((U w).add 4) λM=>r1 a ((U w).add 5) λN=>bt a (U w) [H,I,K,.int .u64 L,.int .u64 M,N]/\(6:Nat)=6/\an (setCells a (U w) 0 [H,I,K,.int .u64 L,.int .u64 M,N]) λf=>r1 f (U w) λaj=>r1
 f ((U w).add 1) λak=>r1 f ((U w).add 2) λam=>bF f ((U w).add 3) λao=>bF f ((U w).add 4) λap=>r1 f ((U w).add 5) λar=>Q (.tuple #[.agg #[aj,ak,am,.int .u64 ao,.int .u64 ap,ar],.int .u64 0,(6:Int)]) f) (r1 a (U w) λO=>r1 a ((U w).add 1) λP=>r1 a ((U w).add 2) λR=>bF a ((U w).add 3) λS=>bF a (Addr.add
 (U w) 4) λT=>r1 a ((U w).add 5) λV=>bt a (U w) [O,P,R,.int .u64 S,.int .u64 T,V]/\(6:Nat)=6/\an (setCells a (U w) 0 [O,P,
 R,.int .u64 S,.int .u64 T,V]) λg=>r1 g (U w) λav=>r1 g ((U w).add 1) λaw=>r1 g ((U w).add 2) λax=>bF g ((U w).add 3) λay=>bF g (Addr.add
 (U w) 4) λaz=>r1 g ((U w).add 5) λaA=>Q (.tuple #[.agg #[av,aw,ax,.int .u64 ay,.int .u64 az,aA],.int .u64 h,(0:Int)]) g))
def az.og:aS:=(.s .r (.s .r (.s (.s .r (.bR (.loop [(3,(.int .u64)),(5,.bool),(12,(.int .i64))] [0,2] (.s .r (.s (.c .l .l) (.s (.eN [(3,(.int .u64)),(5,.bool)] [0,2,12] (.bR (.s .r (.s .r (.s a1 (.s (.s .r (.c .l
 .l)) (.s .r (.bR (.s .r (.c (.s .r .l) (.s .r (.c (.s .r .l) (.s (.c7 [.r,.r,.r,.pure 3]) (.c .r .l)))))))))))))) .r)))))) (.s a1 (.s .r .l)))))
def af.oh(d:aq ae)(no:Int)(w:J)(Q:aa->J->Prop):Prop:=b8 114 #[d,no] w λj e w1=>al (e !=0) (Q (.tuple #[.pointer none,e]) w1) (kv
 172 #[no,j] w1 λn7 n8 f n10 a=>an (a.alloc z3) λg=>bt g (U a) [n7,.int .u64 n8,f]/\(3:Nat)=3/\an (setCells g (U a) 0 [n7,.int .u64 n8,f]) λb=>al (n10 !=0) (Q (.tuple #[.pointer none,n10]) b) (r1 b (U a) λn13=>al (n13 !=4) (Q (.tuple #[.pointer none,(4:Int)]) b) (an (b.drew) λc=>∃
 h:Nat->Prop,¬h ((U a).add 2).block/\ag c ((U a).add 2) λk=>aB 72 #[d] c λn19 i=>ad h c i/\dj 173 #[k,n19] i λl
 n23 m=>Q (.tuple #[l,n23]) m)))
def az.oh:aS:=(.s .r (.s .r (.s a1 (.s .r (.s a1 (.s a1 (.s (.cA 7 true ⟨[0,1,0,4,10,16,16,127,255],[0,1,0,4,10,16,16,32,64]⟩ [1073741824,2147483648,4294967296,8589934592,17179869184,34359738368,
 68719476736,16,32] [256,1073741824,1,4294967296,10737418240,17179869184,17179869184,34359738368,68719476736] (.t 0 (.t 1 (.t 2 (.b1 3 (.out 4 false (.t 5 (.t 6 (.tail [.r,.r]))))))))) .l)))))))
def af.sK(d:aq ae)(w:J)(Q:aa->J->Prop):Prop:=∃a1:ae,d=some a1/\∃b:aq Nat,w.cell? (a1.add 5)=some (.map b)/\yB 178 #[.map
 b] w λa c=>aW 177 #[.func (.func a.f) a.pre a.cap] c λe g=>Q e g
def az.sK:aS:=(.s .r (.s .r .l))
def af.sL(d:aq ae)(i:Int)(w:J)(Q:aa->J->Prop):Prop:=aH 108 #[d,i] w λe w1=>al (!e) (Q (.tuple #[(),(1:Int)]) w1) (∃a4:ae,d=some
 a4/\aH 136 #[.pointer (some a4),(1:Int)] w1 λf b=>al f (Q (.tuple #[(),(3:Int)]) b) (rV 137 #[d,i] b λgv a=>an (a.alloc z4) λc=>bt c (U
 a) (Array.toList gv)/\Array.size gv=256/\an (setCells c (U a) 0 (Array.toList gv)) λg=>Q (.tuple #[.slice (aO (some (U a)) 1 0 256) (256-0) (256-0),(0:Int)]) g))
def az.sL:aS:=(.s .r (.s (.bR eG) (.s .r (.s .r .l))))
def af.g1(b:Y)(n:Int)(size:Int)(w:J)(Q:aa->J->Prop):Prop:=aW 135 #[b] w λg w1=>aH 192 #[size] w1 λj h=>al (!j) (Q g h) (∃ (d:Y->Int->J->Prop) (i:Y->Int->J->Nat),d g (au (size-1)) h/\∀ (c:Y) (n10:Int) (a:J),d c n10 a->al (decide (n10>=0)) ((0:Int)<=(au (8*n10))/\an (a.alloc (.cells
 #[.int .u8 (IntKind.wrap .u8 (Int.fdiv n (2^(min ((au (8*n10)).toNat) 64))))] 5)) λk=>∃e:Y,∃f:J,Sem.run ak (Builtin.append_ #[48,48] 48 #[c,
 .slice (some (U a)) 1 1]) k=.ok e f/\d e (au (n10-1)) f/\i e (au (n10-1)) f<i c n10 a) (Q c a))
def az.g1:aS:=(.s .r (.s .r (.s a1 (.s (.s .r (.bR (.loop [(7,.slice),(8,(.int .i64))] [1] (.s (.s .r (.c .l .l)) (.s (.bR .r) .r))))) (.s .r .l)))))
def af.sM(n:Int)(w:J)(Q:aa->J->Prop):Prop:=Q (.bool ((decide (n>=1))&&(decide (n<=1600)))) w
def az.sM:aS:=a4
def af.sN(n:Int)(w:J)(Q:aa->J->Prop):Prop:=(8:Int)≠0/\Q (.int .i64 (au (Int.tdiv (au ((au (n+8))-1)) 8))) w
def az.sN:aS:=(.s .r (.s .r .l))
def af.sO(s:Y)(no:Int)(w:J)(Q:aa->J->Prop):Prop:=an (w.drew) λw1=>(8:Int)≠0/\∃a2:ae,s.a=some a2/\aI (au (Int.tdiv no 8)) s.len/\¬False/\bW w1 (a2.add ((au (Int.tdiv no
 8)).toNat*1)) λb=>(8:Int)≠0/\(0:Int)<=(Int.tmod no 8)/\∃a4:ae,s.a=some a4/\aI (au (Int.tdiv no 8)) s.len/\st w1 (a4.add ((au (Int.tdiv no 8)).toNat*1)) (.int .u8 (lJ .u8 b (IntKind.wrap .u8 (1*2^(min
 ((Int.tmod no 8).toNat) 8))))) λc=>Q (.tuple #[]) c
def az.sO:aS:=(.cA 8 false ⟨[0,0,2,5,8,0,32,64,144,511,1023],[0,0,2,5,8,0,32,64,144,5,768]⟩ [16,32,64,128,256,512,1024,2048,4096,8192,0] [1,2,32,80,128,2,512,1024,2304,80,12288] (.t 0
 (.t 1 (.t 2 (.t 3 (.t 4 (.t 5 (.t 6 (.t 7 (.tail [.r,.r,.r]))))))))))
def af.p8(s:aq ae)(w:J)(Q:aa->J->Prop):Prop:=al (!(Option.isNone s)) (∃a1:ae,s=some a1/\ag w (a1.add 1) λs2=>aW 194 #[s2] w λa
 b=>∃de:ae,s=some de/\st b (de.add 2) a λc=>Q (.tuple #[]) c) (Q (.tuple #[]) w)
def az.p8:aS:=(.s .r (.c .r .l))
theorem af.Ck(s:aq ae)(w:J)(Q:aa->J->Prop)(h:af.p8 s w Q):aP ak 131 #[s] w Q:=okF (λw Q=>af.p8 s w Q) az.p8 func131 h
def af.sP(no:Int)(w:J)(Q:aa->J->Prop):Prop:=Q (.bool ((decide (no>=0))&&(decide (no<1600)))) w
def az.sP:aS:=a4
theorem af.yF(no:Int)(w:J)(Q:aa->J->Prop)(h:af.sP no w Q):aP ak 132 #[no] w Q:=okF (λw Q=>af.sP no w Q) az.sP func132 h
def af.sQ(a:Int)(w:J)(Q:aa->J->Prop):Prop:=Q (.bool ((decide (a>=1))&&(decide (a<=4)))) w
def az.sQ:aS:=a4
theorem af.yG(a:Int)(w:J)(Q:aa->J->Prop)(h:af.sQ a w Q):aP ak 133 #[a] w Q:=okF (λw Q=>af.sQ a w Q) az.sQ func133 h
def af.mP(b:Y)(w:J)(Q:aa->J->Prop):Prop:=an (w.drew) λw1=>((0:Int)<=20/\20<=(b.cap:Int))/\((0:Int)<=24/\24<=(b.len:Int))/\an (w1.alloc (.cells #[.slice (aO b.a 1 0 b.cap)
 ((Int.toNat 20)-0) (b.cap-0),.slice (aO b.a 1 (Int.toNat 24) b.cap) (b.len-(Int.toNat 24)) (b.cap-(Int.toNat 24))] 48)) λah=>gv 195 #[.slice (some (U w1)) 2 2] ah λn5 c=>Q (.int .u32 n5) c
def az.mP:aS:=(.s .r (.s (.cA 4 false ⟨[0,1,0,4,10,16,63],[0,1,0,4,10,16,32]⟩ [8,16,32,64,128,256,4] [1,8,1,32,80,128,256] (.t 0 (.t 1 (.t 2 (.t 3 (.tail [.r,.r,.r])))))) .l))
def af.sR(f:aq ae)(a:Int)(w:J)(Q:aa->J->Prop):Prop:=∃a1:ae,f=some a1/\((0:Int)<=a/\a<((4:Nat):Int))/\r1 w (Addr.add a1 (a.toNat*1)) λbp=>al (bp==
 (-1)) (Q false w) (al (bp==0) (∃a3:ae,f=some a3/\((0:Int)<=a/\a<((4:Nat):Int))/\st w (Addr.add a3 (a.toNat*1)) (.int .i64 (-1)) λc=>Q true c) (an (w.drew) λb=>∃de:ae,f
 =some de/\((0:Int)<=a/\a<((4:Nat):Int))/\¬False/\r1 b (Addr.add de (a.toNat*1)) λn7=>∃dY:ae,f=some dY/\((0:Int)<=a/\a<((4:Nat):Int))/\st b (Addr.add dY (a.toNat*1))
 (.int .i64 (au (n7-1))) λd=>Q false d))
def az.sR:aS:=(.s .r (.s (.s .r (.bR (.s .r (.c (.s .r .l) (.s .r dN))))) (.s (.cA 7 false ⟨[0,0,1,6,8,16,1,127,191],[0,0,1,6,8,16,1,66,160]⟩ [262144,524288,1048576,2097152,4194304,8388608,16777216,
 33554432,0] [1,2,262144,1572864,2097152,4194304,262144,17301504,41943040] (.t 0 (.t 1 (.t 2 (.t 3 (.t 4 (.t 5 (.t 6 (.tail [.r,.r]))))))))) (.s .r .l))))
set_option maxRecDepth 100000
def af.sS(d:aq ae)(i:Int)(w:J)(Q:aa->J->Prop):Prop:=an (w.alloc z4) λw1=>∃a2:ae,d=some a2/\∃e:aq Nat,w1.cell? (a2.add 5)=some (.map e)/\∃b:Y,∃c:J,
 Sem.run ak (Instr.lookup 137 (.map e) i false) w1=.ok b c/\al (decide ((b.len:Int)>0)) (∃de:ae,b.a=some de/\((0:Int)<=(au ((b.len:Int)-1))/\(au
 ((b.len:Int)-1))<(b.len:Int))/\∃f:O aa,cz c (de.add ((au ((b.len:Int)-1)).toNat*256)) 0 256=some f/\vq c w f Q) (∃eU:ae,d=some eU/\ag c (eU.add 4) λg=>rT g i c 256 λh=>
 vq c w h Q)
def az.sS:aS:=(.s .r e8)
def af.om(f:Int)(g:Int)(h:Int)(i:Int)(j:Int)(k:Int)(l:Int)(w:J)(Q:aa->J->Prop):Prop:=an (w.alloc (.cells #[f,g,h,.int .u64 i,.int .u64 j,k] 104)) λw1=>r1 w1 (U w) λbp=>aW 126 #[(),.int .u64 (IntKind.wrap .u64 bp),(4:Int)] w1 λm a=>r1 a ((U w).add 1)
 λn6=>aW 126 #[m,.int .u64 (IntKind.wrap .u64 n6),(1:Int)] a λn b=>r1 b ((U w).add 2) λn10=>aW 126 #[n,.int .u64 (IntKind.wrap .u64 n10),(4:Int)] b λo p=>aW 126 #[o,.int .u64 (IntKind.wrap .u64 l),(4:Int)] p λq c=>bF c ((U w).add 3) λn17=>aW 126 #[q,.int .u64 n17,(8:Int)] c λr d=>bF d ((U w).add 4) λn21=>aW 126 #[r,.int .u64 n21,(8:Int)] d λs e=>r1 e ((U w).add 5) λn25=>aW 126 #[s,
 .int .u64 (IntKind.wrap .u64 n25),(4:Int)] e λt u=>Q t u
def az.om:aS:=(.s .r (.s .r (.s .r (.s .r (.s .r a3)))))
def af.oo(d:aq ae)(aj:Int)(w:J)(Q:aa->J->Prop):Prop:=al (((Option.isNone d)||(decide (aj<8)))||(decide (aj>64))) (Q (.tuple #[.pointer none,(1:Int)]) w) (((0:Int)<=aj
 /\aj<=aj/\aj<=jy/\((48:Nat):Int)*aj<=140737488355328)/\an (w.alloc (.cells (gC ak 288 (aj.toNat)) 288)) λw1=>an (w1.alloc (.cells #[d,.slice (some (U w))
 (aj.toNat) (aj.toNat),(0:Int)] 281)) λah=>Q (.tuple #[.pointer (some (U w1)),(0:Int)]) ah)
def az.oo:aS:=(.s .r (.s (.s (.c7 [.r,.r,.r,.pure 2,.r,.r,.r,.pure 2]) (.c (.s .r .l) .l)) (.s .r .l)))
def af.mQ(c:aq ae)(s:aq ae)(gen:Int)(root:Int)(aE:Int)(w:J)(Q:aa->J->Prop):Prop:=bL (λbN:ai->J->Prop=>al (((((Option.isNone c)||(Option.isNone s))||(decide
 (aE<0)))||(decide (aE>12)))||(decide (root<0))) (bN true w) (∃a2:ae,c=some a2/\∃b:aq ae,w.cell? a2=some (b)/\aB 72 #[b] w λn6 d=>bN (decide (root>=n6)) d))
 (λ(e:ai) a=>al (e||(!((root==0)==(aE==0)))) (Q (.tuple #[.pointer none,(1:Int)]) a) (an (a.alloc (.cells #[c,s,.int .u64 gen,root,aE] 239)) λf=>Q
 (.tuple #[.pointer (some (U a)),(0:Int)]) f))
def az.mQ:aS:=(.s .r (.s (.s (.c7 [.r,.r,.r,.pure 2,.r,.r,.r,.pure 2,.r,.r,.r,.pure 2,.r,.r,.r,.pure 2,.r,.r,.r,.split 7,.r,.r,.r,.r,.r,.r,.r,.r,.pure 5]) (.c (.s .r .l) .l)) (.s .r .l)))
def af.lU(a:Y)(w:J)(Q:aa->J->Prop):Prop:=Q (.bool ((decide ((a.len:Int)>=1))&&(decide ((a.len:Int)<=24)))) w
def az.lU:aS:=de
def af.sT(t:aq ae)(key:Y)(w:J)(Q:aa->J->Prop):Prop:=∃a1:ae,t=some a1/\r1 w (a1.add 3) λbp=>∃a3:ae,t=some a3/\r1 w (a3.add 4) λA=>∃ (h:Y->Int->Int->J->
 Prop) (k:Y->Int->Int->J->Nat),h ⟨none,0,0⟩ bp A w/\∀ (e:Y) (n8:Int) (n9:Int) (f:J),h e n8 n9 f->al (decide (n9>0)) (jX 196 #[t,n8,.bool (n9==1)] f λl m
 n o n17 c=>an (c.alloc cc) λp=>bt p (U c) [l,m,n,o]/\(4:Nat)=4/\an (setCells p (U c) 0 [l,m,n,o]) λb=>al (n17 !=0) (Q (.tuple #[(),n17]) b) (a8 b (U c) λB=>ag b ((U c).add 1) λC=>ag b
 ((U c).add 2) λD=>ag b ((U c).add 3) λE=>∃fP:Array aa,Sem.run ak (Instr.build 232 #[(0,n8),(1,.agg #[B,C,D,
 E])]) b=.ok (.agg fP) b/\an (b.alloc (.cells #[(0:Int),false,(),(),(),(0:Int)] 232)) λq=>bt q (U b) (Array.toList fP)
 /\Array.size fP=6/\an (setCells q (U b) 0 (Array.toList fP)) λd=>bL (λr:Int->J->Prop=>al (decide (n9>1)) (a8 d (U c) λF=>ag d ((U c).add 1) λG=>ag d ((U c).add 2) λ
 H=>ag d ((U c).add 3) λI=>aB 197 #[.agg #[F,G,H,I],key] d λn34 K=>st K (Addr.add
 (U b) 5) n34 λg=>ag g ((U c).add 3) λs=>r1 g ((U b).add 5) λn37=>∃u:ae,s.a=some u/\aI n37 s.len/\r1 g (u.add (n37.toNat*1)) λn39=>r n39 g) (r n8
 d)) (λ(n40:Int) v=>∃x:O aa,cz v (U b) 0 6=some x/\∃y:Y,∃z:J,Sem.run ak (Instr.buildSlice 228 1 #[(0,.agg x.toArray)]) v=.ok y z
 /\∃i:Y,∃j:J,Sem.run ak (Builtin.append_ #[228,228] 228 #[e,y]) z=.ok i j/\h i n40 (au
 (n9-1)) j/\k i n40 (au (n9-1)) j<k e n8 n9 f))) (Q (.tuple #[e,(0:Int)]) f)
def az.sT:aS:=(.s .r (.s .r (.s .r (.s (.s .r (.bR (.loop [(6,.slice),(7,(.int .i64)),(8,(.int .i64))] [0,1] (.s (.s .r (.c .l .l)) (.s (.bR (.s .r (.s a1 (.s .r (.s (.eN [(7,(.int .i64))] [0,1,6,8,11] (.s .r (.c
 (.s .r .r) .l))) .r))))) .r))))) (.s .r .l)))))
def af.oq(a:ai)(b:Y)(c:Y)(d:Y)(key:Y)(w:J)(Q:aa->J->Prop):Prop:=an (w.alloc (.cells #[a,b,c,d] 202)) λw1=>a8 w1 (U w) λbQ=>ag w1 ((U w).add 1) λe=>ag w1 ((U w).add 2) λf=>ag w1 ((U w).add 3) λg=>jz 198 #[.agg #[bQ,
 e,f,g],key] w1 λn8 h i=>Q (.tuple #[n8,h]) i
def az.oq:aS:=(.s .r (.s .r .l))
def af.p9(s:aq ae)(w:J)(Q:aa->J->Prop):Prop:=al (!(Option.isNone s)) (∃a1:ae,s=some a1/\ag w (a1.add 2) λs2=>aW 194 #[s2] w λa
 b=>∃de:ae,s=some de/\st b (de.add 1) a λc=>Q (.tuple #[]) c) (Q (.tuple #[]) w)
def az.p9:aS:=(.s .r (.c .r .l))
theorem af.Cl(s:aq ae)(w:J)(Q:aa->J->Prop)(h:af.p9 s w Q):aP ak 144 #[s] w Q:=okF (λw Q=>af.p9 s w Q) az.p9 func144 h
def af.sU(c:aq ae)(w:J)(Q:aa->J->Prop):Prop:=aW 199 #[c,.func (.func 200) #[] #[]] w λa w1=>Q a w1
def az.sU:aS:=(.s .r (.s .r .l))
def af.sV(c:aq ae)(no:Int)(w:J)(Q:aa->J->Prop):Prop:=jY 201 #[c,no] w λa w1=>bL (λd:ai->J->Prop=>al (Option.isNone a) (d true w1) (∃
 a5:ae,a=some a5/\r1 w1 (a5.add 4) λn6=>d (decide (n6>0)) w1)) (λ(e:ai) b=>al e (Q false b) (∃a9:ae,a=some a9/\bt b a9 [false,false,false,(0:Int),(0:Int),
 ()]/\(6:Nat)=6/\an (setCells b a9 0 [false,false,false,(0:Int),(0:Int),()]) λf=>Q true f))
def az.sV:aS:=(.s .r (.s .r (.s (.s (.c7 [.r,.r,.r,.split 5]) (.c (.s .r .l) .l)) (.s .r (.s .r .l)))))
def af.sW(t:aq ae)(w:J)(Q:aa->J->Prop):Prop:=al (Option.isNone t) (Q (.tuple #[(0:Int),(0:Int)]) w) (an (w.drew) λw1=>∃a2:ae,t=some a2/\¬False/\r1 w1 (a2.add 3) λa=>∃
 a4:ae,t=some a4/\¬False/\r1 w1 (a4.add 4) λn5=>Q (.tuple #[a,n5]) w1)
def az.sW:aS:=(.s .r (.s a1 (.s (.cA 9 false ⟨[0,1,2,4,0,16,32,64,15,511],[0,1,2,4,0,16,32,64,8,128]⟩ [64,128,256,512,1024,2048,4096,8192,4,8] [1,64,128,256,1,1024,2048,4096,512,8192] (.t
 0 (.t 1 (.t 2 (.t 3 (.t 4 (.t 5 (.t 6 (.t 7 (.t 8 (.tail [.r]))))))))))) .l)))
def af.p_(s:aq ae)(w:J)(Q:aa->J->Prop):Prop:=al (Option.isNone s) (Q (0:Int) w) (∃a1:ae,s=some a1/\r1 w a1 λbp=>∃a3:ae,s=some a3/\ag w (a3.add 1) λj=>∃ (e:
 Int->Int->J->Prop) (g:Int->Int->J->Nat),e bp 0 w/\∀ (n7:Int) (n8:Int) (d:J),e n7 n8 d->al (decide (n8<(j.len:Int))) (an (d.drew) λb=>∃c:Nat->Prop,∃dd:ae,s=some dd/\¬c
 (dd.add 1).block/\ag b (dd.add 1) λh=>∃eG:ae,h.a=some eG/\aI n8 h.len/\¬c (eG.add (n8.toNat*1)).block/\bW b (eG.add (n8.toNat*1)) λn15=>∃e8:ae,s=some e8/\¬c (e8.add
 2).block/\ag b (e8.add 2) λi=>∃fF:ae,i.a=some fF/\aI n8 i.len/\¬c (fF.add (n8.toNat*1)).block/\bW b (fF.add (n8.toNat*1)) λn19=>aB 202 #[.int .u8 (lJ .u8 n15 n19)] b
 λn22 f=>ad c b f/\e (au (n7-n22)) (au (n8+1)) f/\g (au (n7-n22)) (au (n8+1)) f<g n7 n8 d) (Q n7 d))
def az.p_:aS:=(.s .r (.s a1 (.s .r (.s (.s .r (.bR (.loop [(3,(.int .i64)),(16,(.int .i64))] [0,15] (.s .r (.s (.c .l .l) (.s (.bR (.s .r (.cA 17 true ⟨[0,0,2,4,8,0,48,64,0,256,512,1024,0,6144,8192,
 16512,32768,65537,262143],[0,0,2,4,8,0,48,64,0,256,512,1024,0,6144,8192,16512,32768,65537,131073]⟩ [524288,1048576,2097152,4194304,8388608,16777216,33554432,67108864,134217728,268435456,536870912,1073741824,
 2147483648,4294967296,8589934592,17179869184,34359738368,68719476736,8] [8,1,1048576,2097152,4194304,16,25165824,33554432,1,134217728,268435456,536870912,16,3221225472,4294967296,8657043456,17179869184,34360262656,
 68719476736] (.t 0 (.t 1 (.t 2 (.t 3 (.t 4 (.t 5 (.t 6 (.t 7 (.t 8 (.t 9 (.t 10 (.t 11 (.t 12 (.t 13 (.t 14 (.t 15 (.b1 16 (.tail [.r,.r]))))))))))))))))))))) .r)))))) (.s .r .l)))))
theorem af.Cm(s:aq ae)(w:J)(Q:aa->J->Prop)(h:af.p_ s w Q):aP ak 148 #[s] w Q:=okF (λw Q=>af.p_ s w Q) az.p_ func148 h
def af.ot(k:ai)(l:Y)(m:Y)(n:Y)(key:Y)(w:J)(Q:aa->J->Prop):Prop:=an (w.alloc (.cells #[k,l,m,n] 202)) λw1=>an (w1.alloc cc) λah=>a8 ah (U w) λo=>ag ah ((U w).add 1) λp=>ag ah ((U w).add 2) λq=>ag ah ((U w).add 3) λr=>jz
 198 #[.agg #[o,p,q,r],key] ah λn9 s c=>a8 c (U w) λt=>bL (λu:ai->J->Prop=>oa t u c
 w) (λ(v:ai) b=>al (v||(!s)) (bt b (U w1) [false,(),(),()]/\(4:Nat)=4/\an (setCells b (U w1) 0 [false,(),(),()]) λx=>hY x w1 Q) (a8 b (U w) λy=>ag b ((U w).add 1) λz=>ag b ((U w).add 2) λA=>ag b ((U w).add 3) λB=>fO 204 #[.agg #[y,z,A,B]] b λd e f g a=>an (a.alloc cc) λh=>bt h (U a) [d,e,f,g]/\
 (4:Nat)=4/\an (setCells h (U a) 0 [d,e,f,g]) λi=>ag i ((U a).add 1) λC=>aW 205
 #[C,n9,.int .i64 (au (n9+1))] i λD E=>st E ((U a).add 1) D λj=>ag j ((U a).add 2) λF=>aW 205
 #[F,n9,.int .i64 (au (n9+1))] j λG H=>st H ((U a).add 2) G λI=>df I a w1 Q))
def az.ot:aS:=(.s .r (.s .r (.s (.s (.c7 [.r,.r,.r,.r,.split 3,.r,.r,.r,.r,.pure 2]) (.c (.s .r .l) .l)) (.s .r a3))))
def af.qa(t:aq ae)(g2:Y)(r:ai)(s:Y)(u:Y)(v:Y)(w:J)(Q:aa->J->Prop):Prop:=an (w.alloc (.cells #[r,s,u,v] 202)) λw1=>an (w1.alloc (.cells #[(0:Int)] 34)) λah=>an (ah.drew) λc=>∃g:Nat->Prop,∃
 a5:ae,t=some a5/\¬g (a5.add 1).block/\∃h:aq ae,c.cell? (a5.add 1)=some (h)/\∃dN:ae,t=some dN/\¬g (dN.add 4).block/\r1 c (dN.add 4) λn8=>aB 148 #[h] c λn11 d
 =>ad g c d/\al (decide (n11<(au ((au (2*n8))+3)))) (st d (U w1) (2:Int) λi=>r1 i (U w1) λn13=>Q n13 i) (an (d.alloc (.cells #[t,(),()] 297))
 λa=>an (a.alloc (.cells #[.pointer none] 295)) λx=>st x (U a) (.pointer (some (U d))) λb=>∃j:aq ae,b.cell? (U a)=some (j)/\a8 b (U w) λy=>ag b (Addr.add
 (U w) 1) λz=>ag b ((U w).add 2) λA=>ag b ((U w).add 3) λB=>n3 208 #[j,g2,.agg #[y,z,A,B]] b λn24 n25 n26 C=>st C (U w1) n26 λe=>r1 e (U w1) λn28=>al (n28 !=0) (r1 e (U w1) λn29=>st e (U w1) n29 λD=>n1 ak
 206 #[.pointer (some (U w1)),.pointer (some (U a))] D λk=>r1 k (U w1) λn32=>Q n32 k) (an (e.drew) λf=>¬False/\∃l:aq ae,f.cell? (U a)=some (l)/\¬
 False/\∃m:aq ae,f.cell? (U a)=some (m)/\∃n:ae,m=some n/\¬False/\ag f (n.add 2) λE=>aT 207 #[l,E] f λF=>∃o:ae,
 t=some o/\st F (o.add 3) n24 λG=>∃p:ae,t=some p/\st G (p.add 4) n25 λH=>st H (U w1) (0:Int) λI=>n1 ak 206 #[.pointer (some (U w1)),
 .pointer (some (U a))] I λq=>r1 q (U w1) λK=>Q K q))
def az.qa:aS:=(.s .r (.s (.s (.cA 11 true ⟨[0,1,2,4,8,0,32,64,128,256,512,1040],[0,1,2,4,8,0,32,64,128,256,512,1040]⟩ [1024,2048,4096,8192,16384,32768,65536,131072,262144,524288,1048576,
 2097152] [1,1024,2048,4096,8192,1,32768,65536,131072,262144,524288,1064960] (.t 0 (.t 1 (.t 2 (.t 3 (.t 5 (.t 6 (.t 7 (.t 8 (.t 9 (.t 10 (.b1 4 (.tail [.r]))))))))))))) (.c (.s .r .l) .l)) (.s .r (.s .l (.s .r (.s a1 (.s (.cA 5
 false ⟨[0,0,2,4,8,17],[0,0,2,4,8,17]⟩ [137438953472,274877906944,549755813888,1099511627776,2199023255552,4398046511104] [128,128,274877906944,549755813888,1099511627776,2336462209024] (.t 0 (.t 1 (.t 2 (.t 3 (.t 4
 (.tail [.r]))))))) (.s .r (.s .r .l)))))))))
theorem af.Cn(t:aq ae)(g2:Y)(a:ai)(b:Y)(c:Y)(d:Y)(w:J)(Q:aa->J->Prop):af.qa t g2 a b c d w Q=va ak tk az.qa Tryz.f150 [t,g2,.agg #[a,b,c,d]] w Q:=by kernel_rfl
theorem af.Co(t:aq ae)(g2:Y)(a:ai)(b:Y)(c:Y)(d:Y)(w:J)(Q:aa->J->Prop)(h:af.qa t g2 a b c d w Q):Calls ak 150 #[t,g2,.agg #[a,b,c,d]] w λe w1=>∃v,e=.returned v/\Q v w1:=
 B3 vg func150 (by kernel_rfl) (Eq.mp (af.Cn t g2 a b c d w Q) h)
def af.ou(B:ai)(C:Y)(D:Y)(E:Y)(key:Y)(val:Y)(w:J)(Q:aa->J->Prop):Prop:=an (w.alloc (.cells #[B,C,D,E] 202)) λw1=>an (w1.alloc cc) λah=>a8 ah (U w) λF=>bL (λG:ai->J->Prop=>oa F G ah w) (λ(H:ai) m=>bL (λn:ai->J
 ->Prop=>al H (n true m) (aH 209 #[key] m λI K=>n (!I) K)) (λ(L:ai) c=>al (L||(decide ((val.len:Int)>24))) (bt c (U w1) [false,(),
 (),()]/\(4:Nat)=4/\an (setCells c (U w1) 0 [false,(),(),()]) λM=>hY M w1 Q) (a8 c (U w) λN=>ag c ((U w).add 1) λO=>ag c
 ((U w).add 2) λP=>ag c ((U w).add 3) λR=>fO 204 #[.agg #[N,O,P,R]] c λo p q r b=>an (b.alloc
 cc) λs=>bt s (U b) [o,p,q,r]/\(4:Nat)=4/\an (setCells s (U b) 0 [o,p,q,r]) λd=>a8 d (U w) λS=>ag d ((U w).add 1) λT=>ag d ((U w).add 2) λV=>ag d ((U w).add 3) λW=>jz 198 #[.agg #[S,T,V,W],key] d λe X t=>al X (an (t.drew) λh=>∃u:Nat->Prop,¬u ((U b).add 2).block/\ag h
 ((U b).add 2) λv=>aW 135 #[val] h λZ x=>ad u h x/\∃y:ae,v.a=some y/\aI e v.len/\st x (y.add (e.toNat*1)) Z λab=>df ab b w1 Q) (an (t.drew) λi=>∃j:Nat->Prop,¬j ((U b).add 1).block/\ag i ((U b).add 1) λac=>aW 135 #[key] i λ
 aj f=>ad j i f/\an (f.alloc (.cells #[aj] 48)) λz=>ad j f z/\aW 210 #[ac,e,.slice (some (U f)) 1 1]
 z λak am=>st am ((U b).add 1) ak λao=>an (ao.drew) λk=>∃l:Nat->Prop,¬l ((U b).add 2).block/\ag k ((U b).add 2) λap=>aW
 135 #[val] k λaq g=>ad l k g/\an (g.alloc (.cells #[aq] 48)) λA=>ad l g A/\aW 210 #[ap,e,.slice (some (U g)) 1 1] A λar au=>st au ((U b).add 2) ar λav=>df av b w1 Q))))
def az.ou:aS:=(.s .r (.s (.s (.c7 [.r,.r,.r,.r,.split 3,.r,.r,.r,.r,.split 3,.r,.r,.r,.r,.pure 3]) (.c (.s .r .l) .l)) (.s .r (.s .r (.s (.s .r (.c (.s (.cA 5 true ⟨[0,1,0,0,8,31,63],[0,1,0,0,8,6,48]⟩
 [549755813888,1099511627776,2199023255552,4398046511104,8796093022208,17592186044416,0] [256,549755813888,512,4,4398046511104,3298534883328,26388279066624] (.t 0 (.t 1 (.t 2 (.t 3 (.b1 4 (.tail [.r,.r]))))))) (.s .r .l)) .l))
 (.s (.cA 6 true ⟨[0,1,0,0,8,16,54,127,255],[0,1,0,0,8,16,38,0,192]⟩ [70368744177664,140737488355328,281474976710656,562949953421312,1125899906842624,2251799813685248,4503599627370496,9007199254740992,0] [256,
 70368744177664,512,2,562949953421312,1125899906842624,2674012278751232,256,13510798882111488] (.t 0 (.t 1 (.t 2 (.t 3 (.b1 4 (.b1 5 (.tail [.r,.r,.r])))))))) (.s (.cA 6 true ⟨[0,1,0,0,8,16,54,127,255],[0,1,0,0,8,
 16,38,0,192]⟩ [18014398509481984,36028797018963968,72057594037927936,144115188075855872,288230376151711744,576460752303423488,1152921504606846976,2305843009213693952,0] [256,18014398509481984,512,4,144115188075855872,
 288230376151711744,684547143360315392,256,3458764513820540928] (.t 0 (.t 1 (.t 2 (.t 3 (.b1 4 (.b1 5 (.tail [.r,.r,.r])))))))) (.s .r .l))))))))
def af.sX(t:aq ae)(w:J)(Q:aa->J->Prop):Prop:=al (Option.isNone t) (Q (.tuple #[(),(0:Int),(1:Int)]) w) (an (w.alloc (.cells #[t,(),(0:Int)]
 303)) λw1=>bL (λbZ:J->Prop=>∃a3:ae,t=some a3/\r1 w1 (a3.add 4) λg=>al (decide (g>0)) (an (w1.drew) λa=>∃de:ae,t=some de/\¬False/\r1 a (de.add 3) λn7=>∃dY:ae,t=some
 dY/\¬False/\r1 a (dY.add 4) λn9=>aB 211 #[.pointer (some (U w)),n7,n9,(),()] a λn12 c=>al (n12 !=0) (Q (.tuple #[(),(0:Int),n12]) c) (bZ c)) (bZ w1)) (λd=>∃eG:ae,(some (U w):aq ae)=some eG/\ag d (eG.add 1) λh=>aT 153 #[h] d λi=>an (i.drew) λb=>∃e:ae,
 (some (U w):aq ae)=some e/\¬False/\ag b (e.add 1) λj=>∃f:ae,(some (U w):aq ae)=some f/\¬False/\r1 b (f.add 2) λn22=>Q (.tuple #[j,n22,(0:Int)]) b))
def az.sX:aS:=(.s .r (.s a1 (.s .r (.s (.eN [] [5] (.s .r (.c (.s (.cA 9 false ⟨[0,0,2,4,8,0,32,64,128,273,1023],[0,0,2,4,8,0,32,64,128,273,512]⟩ [131072,262144,524288,1048576,2097152,4194304,
 8388608,16777216,33554432,67108864,64] [32,1,262144,524288,1048576,1,4194304,8388608,16777216,35782656,67108864] (.t 0 (.t 1 (.t 2 (.t 3 (.t 4 (.t 5 (.t 6 (.t 7 (.t 8 (.tail [.r,.r]))))))))))) a1) .l))) (.s .r (.s (.cA 9
 false ⟨[0,1,2,4,0,16,32,64,15,511,1023],[0,1,2,4,0,16,32,64,8,128,0]⟩ [34359738368,68719476736,137438953472,274877906944,549755813888,1099511627776,2199023255552,4398046511104,4,8,16] [32,34359738368,
 68719476736,137438953472,32,549755813888,1099511627776,2199023255552,274877906944,4398046511104,0] (.t 0 (.t 1 (.t 2 (.t 3 (.t 4 (.t 5 (.t 6 (.t 7 (.t 8 (.tail [.r,.r]))))))))))) .l))))))
def af.qb(s:aq ae)(w:J)(Q:aa->J->Prop):Prop:=al (Option.isNone s) (Q () w) (∃a1:ae,s=some a1/\r1 w a1 λbp=>∃ (c:Y->Int->J->Prop) (d:Y->Int->J->
 Nat),c ⟨none,0,0⟩ 0 w/\∀ (a:Y) (n6:Int) (b:J),c a n6 b->al (decide (n6<bp)) (bL (λe:Y->J->Prop=>∃a9:ae,s=some a9/\ag b (a9.add 1) λi=>aH 214 #[i,n6] b λj f=>al j (r0 f n6 a e) (e a f)) (λ(g:Y) h=>c g (au (n6+1)) h/\d g (au (n6+1)) h<d a n6 b)) (Q a b))
def az.qb:aS:=(.s .r (.s a1 (.s .r (.s (.s .r (.bR (.loop [(3,.slice),(11,(.int .i64))] [0,10] (.s .r (.s (.c .l .l) (.s (.eN [(3,.slice)] [0,10,11] (.bR (.s .r (.s .r (.c .r .l))))) .r)))))) (.s .r .l)))))
theorem af.Cp(s:aq ae)(w:J)(Q:aa->J->Prop)(h:af.qb s w Q):aP ak 155 #[s] w Q:=okF (λw Q=>af.qb s w Q) az.qb func155 h
def af.jZ(b:Y)(i:Int)(size:Int)(w:J)(Q:aa->J->Prop):Prop:=il 215 #[b,i,size] w λd j w1=>bL (λf:ai->J->Prop=>al (!j) (f
 true w1) (aH 192 #[size] w1 λk l=>f (!k) l)) (λ(m:ai) g=>al m (Q (.tuple #[.int .u64 0,false]) g) (∃ (e:Int->Int->J->Prop) (h:Int->Int->J->Nat),e 0 0 g/\∀ (n13:
 Int) (n14:Int) (c:J),e n13 n14 c->al (decide (n14<(d.len:Int))) (∃e8:ae,d.a=some e8/\aI n14 d.len/\bW c (e8.add (n14.toNat*1)) λn17=>(0:Int)<=8/\e (lJ .u64 (IntKind.wrap .u64 (n13*2^
 (min (Int.toNat 8) 64))) (IntKind.wrap .u64 n17)) (au (n14+1)) c/\h (lJ .u64 (IntKind.wrap .u64 (n13*2^(min (Int.toNat 8) 64))) (IntKind.wrap .u64 n17)) (au (n14+1)) c<h n13 n14 c) (Q (.tuple #[.int .u64 n13,true]) c)))
def az.jZ:aS:=(.s .r (.s .r (.s eU (.s .r (.s (.s .r (.bR (.loop [(10,(.int .u64)),(29,(.int .i64))] [27,28] a2))) (.s .r .l))))))
def af.qc(s:aq ae)(w:J)(Q:aa->J->Prop):Prop:=al (Option.isNone s) (Q (.tuple #[.int .i64 (-1),(1:Int)]) w) (∃a1:ae,s=some a1/\r1 w a1 λbp=>∃ (c:Int->J->Prop) (d:
 Int->J->Nat),c 0 w/\∀ (n5:Int) (a:J),c n5 a->al (decide (n5<bp)) (aH 217 #[s,n5] a λe b=>al (!e) (∃eU:ae,s=some eU/\ag b (eU.add 1) λf=>aT
 130 #[f,n5] b λg=>Q (.tuple #[n5,(0:Int)]) g) (c (au (n5+1)) b/\d (au (n5+1)) b<d n5 a)) (Q (.tuple #[.int .i64 (-1),(2:Int)]) a))
def az.qc:aS:=(.s .r (.s a1 (.s (.s .r (.bR (.loop [(11,(.int .i64))] [0,10] (.s .r (.s (.c .l .l) (.s (.bR (.s .r (.s .r dN))) .r)))))) (.s .r .l))))
theorem af.Cq(s:aq ae)(w:J)(Q:aa->J->Prop)(h:af.qc s w Q):aP ak 160 #[s] w Q:=okF (λw Q=>af.qc s w Q) az.qc func160 h
def af.qd(s:aq ae)(no:Int)(w:J)(Q:aa->J->Prop):Prop:=aH 218 #[s,no] w λb w1=>al (!b) (Q (1:Int) w1) (∃a4:ae,s=some a4/\ag w1 (a4.add 1)
 λc=>aH 214 #[c,no] w1 λd a=>al (!d) (Q (6:Int) a) (∃a9:ae,s=some a9/\ag a (a9.add 1) λe=>aT 219 #[e,no]
 a λf=>Q (0:Int) f))
def az.qd:aS:=(.s .r (.s (.bR eG) (.s .r (.s .r .l))))
theorem af.Cr(s:aq ae)(no:Int)(w:J)(Q:aa->J->Prop)(h:af.qd s no w Q):aP ak 161 #[s,no] w Q:=okF (λw Q=>af.qd s no w Q) az.qd func161 h
def af.sY(c:aq ae)(no:Int)(b:Y)(w:J)(Q:aa->J->Prop):Prop:=aH 220 #[c,no] w λl w1=>al ((!l)||((b.len:Int) !=256)) (Q (1:Int) w1) (jY
 201 #[c,no] w1 λf g=>bL (λh:aq ae->J->Prop=>al (Option.isNone f) (dj 221 #[c] g λd n11 a=>al (n11 !=0) (Q n11 a) (∃dd:ae,d
 =some dd/\(∃u:aa,a.cell? dd=some u)/\a.frozen? dd=false/\an (a.setCell dd true) λm=>∃eG:ae,d=some eG/\st m (eG.add 3) no λn=>h d n)) (h f g)) (λ(e:aq
 ae) o=>aW 135 #[b] o λp q=>∃i:ae,e=some i/\st q (i.add 5) p λr=>∃j:ae,e=some j/\st r (j.add 1) true λs=>∃k:ae,e=some k/\st s (k.add 2) true λt=>Q (0:Int) t))
def az.sY:aS:=(.s .r (.s (.s (.c7 [.r,.r,.r,.r,.r,.pure 3]) (.c (.s .r .l) .l)) (.s .r (.s (.eN [(7,.ptr)] [2] (.s .r (.c (.s .r (.s a1 (.s .r .r))) .l))) (.s .r (.s .r .l))))))
def af.sZ(c:aq ae)(w:J)(Q:aa->J->Prop):Prop:=al (Option.isNone c) (Q (1:Int) w) (aW 145 #[c] w λd w1=>∃ (e:Int->J->Prop) (g:Int->J->Nat),e
 0 w1/\∀ (n6:Int) (b:J),e n6 b->al (decide (n6<(d.len:Int))) (∃dY:ae,d.a=some dY/\aI n6 d.len/\r1 b (dY.add (n6.toNat*1)) λn9=>jY 201 #[c,n9] b λh o=>an
 (o.drew) λf=>∃eG:ae,c=some eG/\¬False/\∃i:aq ae,f.cell? eG=some (i)/\∃e8:ae,h=some e8/\¬False/\ag f (e8.add 5) λp=>aB 75 #[i,n9,p] f λn20 j=>al (n20 !=0) (Q n20 j) (∃k:ae,h=some k/\st j (k.add 1) false λl=>e (au (n6+1)) l/\g (au (n6+1)) l<g n6 b)) (∃m:ae,c
 =some m/\∃n:aq ae,b.cell? m=some (n)/\aB 76 #[n] b λn27 q=>Q n27 q))
def az.sZ:aS:=(.s .r (.s a1 (.s (.s .r (.bR (.loop [(12,(.int .i64))] [0,10,11] (.s .r (.s (.c .l .l) (.s (.bR (.s .r (.s .r (.s (.s (.cA 9 false ⟨[0,1,2,4,0,0,32,64,128,280,1023],[0,1,2,4,0,0,32,64,
 128,280,512]⟩ [524288,1048576,2097152,4194304,8388608,16777216,33554432,67108864,134217728,268435456,64] [1,524288,1048576,2097152,16,32,16777216,33554432,67108864,146800640,268435456] (.t 0 (.t 1 (.t 2 (.t 3 (.t 4 (.t
 5 (.t 6 (.t 7 (.t 8 (.tail [.r,.r]))))))))))) a1) .r)))) .r)))))) (.s .r .l))))
def af.qe(t:aq ae)(gen:Int)(w:J)(Q:aa->J->Prop):Prop:=al (!(Option.isNone t)) (∃a1:ae,t=some a1/\st w (a1.add 2) (.int .u64 gen) λah=>Q (.tuple #[]) ah) (Q (.tuple #[]) w)
def az.qe:aS:=(.s .r (.c .r .l))
theorem af.Cs(t:aq ae)(gen:Int)(w:J)(Q:aa->J->Prop)(h:af.qe t gen w Q):aP ak 164 #[t,.int .u64 gen] w Q:=okF (λw Q=>af.qe t gen w Q) az.qe func164 h
def af.s0(c:Int)(w:J)(Q:aa->J->Prop):Prop:=Q (.bool (c !=0)) w
def az.s0:aS:=(.s .r (.s .r .l))
theorem af.Ct(c:Int)(w:J)(Q:aa->J->Prop)(h:af.s0 c w Q):aP ak 170 #[.int .u8 c] w Q:=okF (λw Q=>af.s0 c w Q) az.s0 func170 h
def af.ov(no:Int)(b:Y)(w:J)(Q:aa->J->Prop):Prop:=an (w.alloc gD) λw1=>kv 172 #[no,b] w1 λn n5 o n7 ah=>an (ah.alloc z3) λp=>bt p
 (U ah) [n,.int .u64 n5,o]/\(3:Nat)=3/\an (setCells p (U ah) 0 [n,.int .u64 n5,o]) λc=>al (n7 !=0) (r1 c (U w) λn10=>r1 c ((U w).add 1)
 λn11=>r1 c ((U w).add 2) λn12=>bF c ((U w).add 3) λn13=>bF c ((U w).add 4) λn14=>r1 c ((U w).add 5) λn15=>bt c (U w) [n10,n11,n12,.int .u64 n13,
 .int .u64 n14,n15]/\(6:Nat)=6/\an (setCells c (U w) 0 [n10,n11,n12,.int .u64 n13,.int .u64 n14,n15]) λf=>r1 f (U w) λn17=>r1 f ((U w).add 1) λn18=>
 r1 f ((U w).add 2) λn19=>bF f ((U w).add 3) λn20=>bF f ((U w).add 4) λn21=>r1 f ((U w).add 5) λn22=>Q (.tuple #[.agg #[n17,n18,n19,.int .u64 n20,.int .u64
 n21,n22],(0:Int),.int .u64 0,n7]) f) (r1 c (U ah) λn23=>bL (λq:ai->J->Prop=>al (n23 !=3) (q true c) (ag c ((U ah).add 2) λC=>q ((C.len:Int) !=33) c)) (λ(D:
 ai) a=>al D (r1 a (U w) λn28=>r1 a ((U w).add 1) λn29=>r1 a ((U w).add 2) λn30=>bF a ((U w).add 3) λn31=>bF a ((U w).add 4) λn32=>r1 a ((U w).add 5) λn33=>
 bt a (U w) [n28,n29,n30,.int .u64 n31,.int .u64 n32,n33]/\(6:Nat)=6/\an (setCells a (U w) 0 [n28,n29,n30,.int .u64 n31,.int .u64 n32,n33]) λE=>e3 E w Q) (ag a ((U ah).add 2) λF=>an (a.alloc (.cells #[F,(0:Int)] 316)) λG=>fP 226 #[.pointer (some (U a)),(4:Int)] G λ
 H I=>fP 226 #[.pointer (some (U a)),(1:Int)] I λK L=>fP 226 #[.pointer (some (U a)),(4:Int)] L λM N=>st N (U w) (.int .i64 (au H)) λO=>st O
 ((U w).add 1) (.int .i64 (au K)) λP=>st P ((U w).add 2) (.int .i64 (au M)) λR=>fP 226 #[.pointer (some (U a)),(4:Int)] R λh S=>fP 226 #[.pointer (some (U
 a)),(8:Int)] S λT V=>fP 226 #[.pointer (some (U a)),(8:Int)] V λW X=>fP 226 #[.pointer (some (U a)),(4:Int)] X λZ ab=>st ab ((U w).add 3) (.int
 .u64 T) λac=>st ac ((U w).add 4) (.int .u64 W) λaj=>st aj ((U w).add 5) (.int .i64 (au Z)) λg=>r1 g (U w) λak=>r1 g ((U w).add 1) λam=>bL (λr:ai->J->Prop=>al
 (!((ak==0)==(am==0))) (r true g) (r1 g ((U w).add 1) λao=>r (decide (ao>12)) g)) (λ(ap:ai) i=>bL (λs:ai->J->Prop=>al ap (s true i) (r1 i (U w) λaq=>s (decide (aq
 >=(au h))) i)) (λ(ar:ai) j=>bL (λt:ai->J->Prop=>al ar (t true j) (r1 j ((U w).add 2) λav=>t (decide (av>=(au h))) j)) (λ(aw:ai) k=>bL (λu:ai->J->Prop=>
 al aw (u true k) (r1 k ((U w).add 2) λax=>u (decide (ax<2)) k)) (λ(ay:ai) l=>al (ay||(decide (((au h):Int)>1600))) (bt l (U w) [(0:Int),(0:Int),(0:Int),.int .u64 0,.int
 .u64 0,(0:Int)]/\(6:Nat)=6/\an (setCells l (U w) 0 [(0:Int),(0:Int),(0:Int),.int .u64 0,.int .u64 0,(0:Int)]) λaz=>e3 az w Q) (an (l.drew) λd=>∃m:Nat->Prop,¬m ((U w):
 ae).block/\r1 d (U w) λv=>r1 d ((U w).add 1) λx=>r1 d ((U w).add 2) λy=>bF d ((U w).add 3) λz=>bF d ((U w).add 4) λA=>r1 d ((U w).add 5) λB=>¬m
 ((U ah).add 1).block/\bF d ((U ah).add 1) λaA=>bt d (U w) [v,x,y,.int .u64 z,.int .u64 A,B]/\(6:Nat)=6/\an (setCells d (U w) 0 [v,x,y,.int .u64 z,.int .u64 A,B]) λe=>ad m d e/\r1 e (U w) λaB=>r1 e ((U w).add 1) λaC=>r1 e ((U w).add 2) λaD=>bF e (Addr.add
 (U w) 3) λaE=>bF e ((U w).add 4) λaF=>r1 e ((U w).add 5) λaG=>Q (.tuple #[.agg #[aB,aC,aD,.int .u64 aE,.int .u64 aF,aG],.int .i64 (au h),
 .int .u64 aA,(0:Int)]) e))))))))
def az.ov:aS:=(.s .r (.s .r (.s a1 (.s a9 (.s .r (.s .r (.s .r (.s .r (.s (.s (.c7 [.r,.r,.r,.r,.r,.r,.r,.r,.split 3,.r,.r,.r,.r,.split 4,.r,.r,.r,.r,.r,.split 4,.r,.r,.r,.r,.r,.split 3,.r,.r,.r,
 .r,.pure 2]) (.c (.s .r .l) .l)) (.s (.cA 6 true ⟨[0,0,0,4,1,19,63,127],[0,0,0,4,1,2,8,0]⟩ [9903520314283042199192993792,19807040628566084398385987584,39614081257132168796771975168,79228162514264337593543950336,0,32,
 64,128] [16,32,256,39614081257132168796771975168,9903520314283042199192993808,19807040628566084398385987584,79228162514264337593543950336,0] (.t 0 (.t 1 (.t 2 (.t 3 (.b1 4 (.t 5 (.tail [.r,.r])))))))) .l))))))))))
def af.lV(no:Int)(b:Y)(w:J)(Q:aa->J->Prop):Prop:=an (w.alloc z3) λw1=>al ((b.len:Int) !=256) (bt w1 (U w) [(0:Int),.int .u64 0,()]/\(3:Nat)=3/\an (setCells w1 (U w)
 0 [(0:Int),.int .u64 0,()]) λah=>r1 ah (U w) λz=>bF ah ((U w).add 1) λA=>ag ah ((U w).add 2) λB=>Q (.tuple #[.agg #[z,.int .u64 A,B],(9:Int)])
 ah) (((0:Int)<=4/\4<=(b.cap:Int))/\∃n:ByteArray,∃c:J,Sem.run ak (convert 48 9 (.slice (aO b.a 1 0 b.cap) ((Int.toNat 4)-0) (b.cap-0))) w1=.ok (.string n) c/\al
 (!(ByteArray.toList n==ByteArray.toList (ByteArray.mk #[83,84,78,67]))) (bt c (U w) [(0:Int),.int .u64 0,()]/\(3:Nat)=3/\an (setCells c (U w) 0 [(0:Int),.int .u64 0,()]) λC=>
 vp C w Q) (∃dd:ae,b.a=some dd/\aI 4 b.len/\bW c (dd.add (Int.toNat 4*1)) λn13=>al (n13 !=1) (bt c (U w) [(0:Int),.int .u64 0,()]/\(3:Nat)=3/\an (setCells c (U w) 0 [(0:Int),.int
 .u64 0,()]) λd=>r1 d (U w) λn15=>bF d ((U w).add 1) λn16=>ag d ((U w).add 2) λD=>Q (.tuple #[.agg #[n15,.int .u64 n16,D],(12:Int)]) d)
 (gv 134 #[b] c λn20 E=>fP 227 #[b,(20:Int),(24:Int)] E λn23 h=>al (((IntKind.wrap .u64 n20):Int) !=n23) (bt h (U w) [(0:Int),.int .u64
 0,()]/\(3:Nat)=3/\an (setCells h (U w) 0 [(0:Int),.int .u64 0,()]) λe=>r1 e (U w) λn25=>bF e ((U w).add 1) λn26=>ag e ((U w).add 2) λF=>Q (.tuple #[.agg
 #[n25,.int .u64 n26,F],(5:Int)]) e) (fP 227 #[b,(6:Int),(8:Int)] h λn30 o=>∃p:ae,b.a=some p/\aI 5 b.len/\bW o (p.add
 (Int.toNat 5*1)) λn32=>aH 133 #[.int .i64 (au n32)] o λG q=>bL (λr:ai->J->Prop=>al ((!G)||(decide (((au n30):Int)>232))) (r true q) (((0:Int)<=(au (24+(au n30)))/\(au (24+(au
 n30)))<=(b.len:Int))/\aH 228 #[.slice (aO b.a 1 ((au (24+(au n30))).toNat) b.cap) (b.len-((au (24+(au n30))).toNat)) (b.cap-((au (24+(au n30))).toNat))] q λH I=>r (!H) I)) (λ(K:ai)
 i=>al K (bt i (U w) [(0:Int),.int .u64 0,()]/\(3:Nat)=3/\an (setCells i (U w) 0 [(0:Int),.int .u64 0,()]) λL=>vp L w Q) (aH 132 #[no] i λM s=>
 bL (λt:ai->J->Prop=>al (!M) (t true s) (fP 227 #[b,(8:Int),(12:Int)] s λN O=>t (N !=(IntKind.wrap .u64 no)) O)) (λ(P:ai) j=>al P (bt j
 (U w) [(0:Int),.int .u64 0,()]/\(3:Nat)=3/\an (setCells j (U w) 0 [(0:Int),.int .u64 0,()]) λf=>r1 f (U w) λR=>bF f ((U w).add 1) λS=>ag f ((U w).add 2)
 λT=>Q (.tuple #[.agg #[R,.int .u64 S,T],(1:Int)]) f) (il 229 #[b,(24:Int),.int .i64 (au n30)] j λu ab V=>an (V.drew) λk=>∃v:
 Nat->Prop,∃l:ae,b.a=some l/\aI 5 b.len/\¬v (l.add (Int.toNat 5*1)).block/\bW k (l.add (Int.toNat 5*1)) λx=>fP 227 #[b,(12:Int),(20:Int)] k λy m=>ad
 v k m/\bt m (U w) [.int .i64 (au x),.int .u64 y,u]/\(3:Nat)=3/\an (setCells m (U w) 0 [.int .i64 (au x),.int .u64 y,u]) λg=>r1 g (U w) λ
 W=>bF g ((U w).add 1) λX=>ag g ((U w).add 2) λZ=>Q (.tuple #[.agg #[W,.int .u64 X,Z],(0:Int)]) g))))))))
def az.lV:aS:=(.s .r (.s (.bR (.s .r (.c (.s .r .l) (.s .r (.c (.s .r .l) eG))))) (.s .r (.s (.bR (.s (.c7 [.r,.r,.r,.r,.r,.r,.r,.pure 2,.r,.r,.r,.split 6]) (.c (.s .r .l) (.s (.c7 [.r,.r,.r,.r,.split 5]) (.c
 (.s .r .l) .l))))) (.s .r (.s (.cA 7 true ⟨[0,1,2,4,0,16,0,104,255,511],[0,1,2,4,0,16,0,104,128,0]⟩ [37778931862957161709568,75557863725914323419136,151115727451828646838272,302231454903657293676544,
 604462909807314587353088,1208925819614629174706176,2417851639229258349412352,4835703278458516698824704,0,32] [2,37778931862957161709568,75557863725914323419136,151115727451828646838272,2,604462909807314587353088,128,
 3929008913747544817795072,4835703278458516698824720,0] (.t 0 (.t 1 (.t 2 (.t 3 (.t 4 (.t 6 (.b1 5 (.tail [.r,.r,.r]))))))))) .l))))))
def af.ow(b:Y)(n:Int)(w:J)(Q:aa->J->Prop):Prop:=aH 128 #[n] w λh w1=>al (!h) (Q (.tuple #[.pointer none,(1:Int)]) w1) (aB 129 #[n] w1 λn6 c=>bL
 (λe:ai->J->Prop=>al ((b.len:Int) !=n6) (e true c) ((8:Int)≠0/\bL (λf:ai->J->Prop=>al (decide (((Int.tmod n 8):Int)>0)) (∃a9:ae,b.a=some a9/\((0:Int)<=(au ((b.len:Int)-1))/\(au
 ((b.len:Int)-1))<(b.len:Int))/\bW c (a9.add ((au ((b.len:Int)-1)).toNat*1)) λn10=>(8:Int)≠0/\(0:Int)<=(Int.tmod n 8)/\f (decide (((Int.fdiv n10 (2^(min ((Int.tmod n 8).toNat) 8))):Int)>0)) c) (f
 false c)) (λ(i:ai) j=>e i j))) (λ(k:ai) g=>al k (Q (.tuple #[.pointer none,(4:Int)]) g) (aW 135 #[b] g λl d=>an (d.alloc (.cells #[n,l,()] 218)) λm=>aT 131 #[.pointer (some (U d))] m λo=>Q (.tuple #[.pointer (some (U d)),(0:Int)]) o)))
def az.ow:aS:=(.s .r (.s (.bR (.s .r (.c (.s .r .l) (.s (.c7 [.r,.r,.r,.r,.r,.r,.split 15,.r,.r,.r,.split 10]) (.c (.s .r .l) .l))))) a3))
def af.qf(s:aq ae)(no:Int)(w:J)(Q:aa->J->Prop):Prop:=aH 218 #[s,no] w λb w1=>bL (λa:ai->J->Prop=>al b (∃a5:ae,s=some a5/\ag
 w1 (a5.add 1) λc=>aH 214 #[c,no] w1 λd e=>a d e) (a false w1)) (λ(f:ai) g=>Q f g)
def az.qf:aS:=(.s .r (.s (.c7 [.r,.r,.r,.r,.split 6]) .l))
theorem af.Cu(s:aq ae)(no:Int)(w:J)(Q:aa->J->Prop)(h:af.qf s no w Q):aP ak 183 #[s,no] w Q:=okF (λw Q=>af.qf s no w Q) az.qf func183 h
def af.s3(size:Int)(w:J)(Q:aa->J->Prop):Prop:=Q (.bool ((decide (size>=1))&&(decide (size<=8)))) w
def az.s3:aS:=a4
theorem af.yH(size:Int)(w:J)(Q:aa->J->Prop)(h:af.s3 size w Q):aP ak 192 #[size] w Q:=okF (λw Q=>af.s3 size w Q) az.s3 func192 h
end Go.Proofs.YtkdhdlfonmgheaaGreat
