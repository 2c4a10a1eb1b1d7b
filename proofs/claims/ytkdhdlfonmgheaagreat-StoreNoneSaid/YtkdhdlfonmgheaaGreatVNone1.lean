/- Printed by gen.py: functions of the program, each as what must be shown of it. -/
import Derived.Test.YtkdhdlfonmgheaaGreatProg
import Derived.Test.YtkdhdlfonmgheaaGreatKNone2
namespace aX
abbrev aP.s:=aP.seq
abbrev aP.l:=aP.leaf
abbrev aP.c:=aP.cond
abbrev aP.r:=aP.c1 []
abbrev aK.t:=aK.take
abbrev jD.r:=jD.run
end aX
namespace Go.Proofs.YtkdhdlfonmgheaaGreat
noncomputable abbrev ai:=Tryz.prog
open Go aX Go.Proofs.Tryz
namespace F
end F
namespace BW
end BW
namespace G
end G
abbrev aN:dn:=.one (.one .fn)
abbrev ez:dn:=.one (.one .agg)
abbrev fx:dn:=.one (.one .ptr)
abbrev h4:dn:=.one (.one .slice)
abbrev mq:dn:=.eJ [(.one .ptr),(.one (.int .i64))]
abbrev nP:dn:=.eJ [(.one .slice),(.one (.int .i64))]
abbrev ru:dn:=.one (.one (.int .i64))
abbrev rv:dn:=.one (.one (.int .u8))
abbrev ry:dn:=.one (.one (.int .u64))
abbrev rz:dn:=.one (.flat [.slice,.slice])
abbrev rA:dn:=.one (.flat [.ptr,.slice,(.int .i64)])
abbrev rB:dn:=.one (.flat [.slice,(.int .i64)])
def BX:O dn:=[(.eJ []),aN,ru,ru,(.one (.one .bool)),rv,rv,(.one (.flat [(.int .i64),(.int .i64),.bool,(.int .u8)])),(.one (.flat [(.int .i64),(.int .i64),.bool,(.int .u8)])),(.one (.one .str)),(.one (.one .str)),(.one (.one .str)),ry,(.one (.flat [.str,(.int .u64)])),(.one (.flat [.str,(.int .u64)])),fx,fx,fx,(.one (.flat [.ptr])),(.one (.flat [.ptr])),(.one (.one .any)),(.one (.one (.int .i32))),ez,ez,ez,ez,ez,ry,ez,ez,fx,fx,(.eJ [(.one .ptr),(.one .ptr),(.one .bool)]),aN,ru,aN,aN,aN,aN,h4,mq,aN,fx,mq,aN,(.one (.flat [(.int .i64),(.int .i64),(.int .u64)])),(.one (.flat [(.int .i64),(.int .i64),(.int .u64)])),aN,h4,(.one (.flat [(.int .i64),.slice,.slice,(.int .i64)])),(.one (.flat [(.int .i64),.slice,.slice,(.int .i64)])),aN,(.eJ [(.one .bool),(.one (.int .i64))]),aN,aN,aN,aN,aN,h4,ez,ez,(.eJ [(.one .agg),(.one .bool),(.one (.int .i64))]),aN,aN,(.eJ [(.one (.int .i64)),(.one (.int .i64))]),aN,(.eJ [(.one .slice),(.one (.int .i64)),(.one (.int .i64))]),aN,h4,nP,aN,aN,mq,aN,aN,h4,fx,(.one (.flat [(.int .i64),.slice])),(.one (.flat [(.int .i64),.slice])),aN,aN,aN,h4,(.one (.flat [(.int .i64),(.int .i64),(.int .u8)])),(.one (.flat [(.int .i64),(.int .i64),(.int .u8)])),fx,h4,(.one (.flat [.slice])),(.one (.flat [.slice])),ez,ez,(.one (.flat [(.int .i64),(.int .i64),(.int .i64),.slice,.slice,.slice])),(.one (.flat [(.int .i64),(.int .i64),(.int .i64),.slice,.slice,.slice])),aN,aN,aN,nP,aN,aN,aN,aN,ry,aN,(.one (.flat [(.int .i64),(.int .i64),(.int .i64),(.int .u64),(.int .u64),(.int .i64)])),(.one (.flat [(.int .i64),(.int .i64),(.int .i64),(.int .u64),(.int .u64),(.int .i64)])),aN,(.eJ [(.one .bool),(.one .agg)]),aN,aN,aN,aN,aN,aN,aN,(.eJ [(.one .slice),(.one .bool),(.one (.int .i64))]),aN,aN,aN,aN,ez,ez,ez,ez,(.eJ [(.one .agg),(.one (.int .i64))]),aN,aN,aN,h4,aN,aN,(.eJ [(.one .slice),(.one .bool)]),aN,aN,(.one (.flat [.ptr,(.int .i64)])),(.one (.flat [.ptr,(.int .i64)])),aN,h4,(.one (.one .map)),ez,ez,ez,ez,aN,fx,mq,aN,nP,aN,aN,(.one (.flat [(.int .i64),(.int .u64),.slice])),(.one (.flat [(.int .i64),(.int .u64),.slice])),ez,aN,aN,aN,fx,fx,ez,ez,aN,aN,(.eJ [(.one .agg),(.one .bool)]),aN,aN,aN,aN,rz,rz,aN,aN,aN,nP,aN,aN,aN,(.eJ [(.one (.int .i64)),(.one .bool)]),aN,aN,aN,aN,aN,ez,ez,(.eJ [(.flat [(.int .i64),(.int .i64),(.int .i64),(.int .u64),(.int .u64),(.int .i64)]),(.one (.int .u64)),(.one (.int .i64))]),aN,aN,aN,fx,aN,fx,(.one (.one .map)),ez,ez,aN,(.eJ [(.flat [(.int .i64),(.int .i64),(.int .i64),(.int .u64),(.int .u64),(.int .i64)]),(.one (.int .u64)),(.one (.int .i64))]),aN,aN,aN,aN,(.eJ [(.flat [(.int .i64),(.int .u64),.slice]),(.one (.int .i64))]),aN,(.one (.flat [.bool,.slice,.slice,.slice])),(.one (.flat [.bool,.slice,.slice,.slice])),(.eJ [(.flat [.bool,.slice,.slice,.slice]),(.one .bool)]),aN,fx,aN,h4,rz,rz,(.eJ [(.one .agg),(.one .bool)]),aN,aN,aN,fx,h4,aN,(.one (.flat [(.int .i64),.slice,.slice])),(.one (.flat [(.int .i64),.slice,.slice])),(.one (.one (.int .u32))),aN,aN,aN,aN,mq,aN,mq,aN,h4,nP,aN,ez,ez,aN,(.eJ [(.one (.int .i64)),(.one (.int .i64))]),aN,aN,aN,(.one (.flat [.ptr,.ptr,(.int .u64),(.int .i64),(.int .i64)])),(.one (.flat [.ptr,.ptr,(.int .u64),(.int .i64),(.int .i64)])),aN,(.eJ [(.one .slice),(.one (.int .i64)),(.one (.int .i64))]),aN,aN,(.eJ [(.one (.int .u64)),(.one .bool)]),aN,(.eJ [(.one .agg),(.one .bool)]),aN,aN,(.eJ [(.one .slice),(.one .slice)]),aN,aN,aN,aN,aN,aN,aN,(.eJ [(.flat [(.int .i64),(.int .i64),(.int .i64),(.int .u64),(.int .u64),(.int .i64)]),(.one (.int .i64)),(.one (.int .u64)),(.one (.int .i64))]),aN,aN,aN,aN,aN,aN,aN,aN,(.one (.flat [(.int .i64),(.int .i64)])),(.one (.flat [(.int .i64),(.int .i64)])),h4,aN,aN,aN,aN,aN,aN,aN,aN,aN,aN,h4,rA,rA,(.eJ [(.flat [.bool,.slice,.slice,.slice]),(.one (.int .i64))]),aN,aN,aN,aN,(.one (.flat [.bool,.bool,.bool,(.int .i64),(.int .i64),.slice])),(.one (.flat [.bool,.bool,.bool,(.int .i64),(.int .i64),.slice])),fx,aN,aN,aN,aN,aN,fx,(.one (.flat [.ptr,.slice,.slice])),(.one (.flat [.ptr,.slice,.slice])),(.eJ [(.one (.int .i64)),(.one (.int .i64)),(.one (.int .i64))]),aN,aN,fx,rA,rA,aN,aN,aN,aN,mq,aN,aN,aN,aN,aN,fx,rB,rB,aN,aN,aN,aN,aN,aN,aN,aN,fx,h4,(.eJ [(.one .slice),(.one (.int .i64)),(.one (.int .i64)),(.one (.int .i64))]),aN,aN,aN,nP,aN,rB,rB,aN,aN,aN,aN,ru,(.eJ [(.one (.int .i64)),(.one (.int .i64))]),aN,aN,aN,aN,aN,aN,aN,aN,aN,aN,aN,fx,(.one (.flat [.slice,.bool])),(.one (.flat [.slice,.bool])),aN,aN,ez,aN,aN,aN,aN,aN,aN,ry,aN,aN,fx,aN,aN,aN,fx,aN,(.eJ [(.flat [.bool,.slice,.slice,.slice]),(.one .slice),(.flat [.bool,.slice,.slice,.slice]),(.one .bool)]),aN,aN,aN,(.one (.flat [.ptr,.ptr,.ptr,.str])),(.one (.flat [.ptr,.ptr,.ptr,.str])),ez,ez,ez,rv,rv,aN,fx,(.one (.one (.int .i32))),(.one (.one (.int .i32))),ez,ez,fx]
def tk:TypeId->dn:=λt=>BX.getD t (.one (.one .any))
theorem uV:Tryz.prog.follows .mixedOrders=true:=by kernel_rfl
def U(w:J):ab:=w.heap.size
def au(n:Int):Int:=IntKind.wrap .i64 n
def aI(n:Int)(k:Nat):Prop:=(0:Int)<=n/\n<(k:Int)
def al(c:ag)(A B:Prop):Prop:=(c=true->A)/\(c=false->B)
def iR:Int:=9223372036854775807
def st(w:J)(A:ab)(v:aa)(K:J->Prop):Prop:=(∃u:aa,w.cell? A=some u)/\w.frozen? A=false/\ao (w.setCell A v) λw1=>K w1
def GA(w:J)(z:Obj)(l:O aa)(k:Nat)(K:J->Prop):Prop:=ao (w.alloc z) λw1=>bz w1 (U w) (Array.toList l.toArray)/\Array.size l.toArray=k/\ao (setCells w1 (U w) 0 (Array.toList l.toArray)) λah=>K ah
def rC(s:Y)(n:Int)(w:J)(k:Nat)(K:O aa->Prop):Prop:=∃a:ab,s.a=some a/\aI n s.len/\∃l:O aa,cy w (a.add (n.toNat*k)) 0 k=some l/\K l
def aA(f:Nat)(a:Array aa)(w:J)(K:Int->J->Prop):Prop:=Calls ai f a w λe w'=>∃b:Int,e=.returned b/\K b w'
def aT(f:Nat)(a:Array aa)(w:J)(K:J->Prop):Prop:=Calls ai f a w λe w'=>e=.returned (.tuple #[])/\K w'
def aG(f:Nat)(a:Array aa)(w:J)(K:ag->J->Prop):Prop:=Calls ai f a w λe w'=>∃b:ag,e=.returned b/\K b w'
def de(f:Nat)(a:Array aa)(w:J)(K:an ab->Int->J->Prop):Prop:=Calls ai f a w λe w'=>∃b:an ab,∃c:Int,e=.returned (.tuple #[b,c])/\K b c w'
def aW(f:Nat)(a:Array aa)(w:J)(K:Y->J->Prop):Prop:=Calls ai f a w λe w'=>∃b:Y,e=.returned b/\K b w'
def bW(f:Nat)(a:Array aa)(w:J)(K:Y->Int->J->Prop):Prop:=Calls ai f a w λe w'=>∃b:Y,∃c:Int,e=.returned (.tuple #[b,c])/\K b c w'
def kN(f:Nat)(a:Array aa)(w:J)(K:Y->ag->Int->J->Prop):Prop:=Calls ai f a w λe w'=>∃b:Y,∃c:ag,∃d:Int,e=.returned (.tuple #[b,c,d])/\K b c d w'
def uW(f:Nat)(a:Array aa)(w:J)(K:ag->Int->J->Prop):Prop:=Calls ai f a w λe w'=>∃b:ag,∃c:Int,e=.returned (.tuple #[b,c])/\K b c w'
def yi(f:Nat)(a:Array aa)(w:J)(K:Int->Int->Int->Int->Int->Int->Int->Int->J->Prop):Prop:=Calls ai f a w λe w'=>∃b:Int,∃c:Int,∃d:Int,∃g:Int,∃h:Int,∃i:Int,∃j:Int,∃k:Int,e=.returned (.tuple #[.agg #[b,c,d,.int .u64 g,.int .u64 h,i],.int .u64 j,k])/\K b c d g h i j k w'
def gj(f:Nat)(a:Array aa)(w:J)(K:Int->J->Prop):Prop:=Calls ai f a w λe w'=>∃b:Int,e=.returned (.int .u32 b)/\K b w'
def rD(f:Nat)(a:Array aa)(w:J)(K:Array aa->J->Prop):Prop:=Calls ai f a w λe w'=>∃b:Array aa,e=.returned (.agg b)/\K b w'
def j9(f:Nat)(a:Array aa)(w:J)(K:Int->ag->J->Prop):Prop:=Calls ai f a w λe w'=>∃b:Int,∃c:ag,e=.returned (.tuple #[b,c])/\K b c w'
def eT(f:Nat)(a:Array aa)(w:J)(K:Int->Int->J->Prop):Prop:=Calls ai f a w λe w'=>∃b:Int,∃c:Int,e=.returned (.tuple #[b,c])/\K b c w'
def nQ(f:Nat)(a:Array aa)(w:J)(K:ag->Y->Y->Y->ag->J->Prop):Prop:=Calls ai f a w λe w'=>∃b:ag,∃c:Y,∃d:Y,∃g:Y,∃h:ag,e=.returned (.tuple #[.agg #[b,c,d,g],h])/\K b c d g h w'
def yj(f:Nat)(a:Array aa)(w:J)(K:Y->Int->Int->J->Prop):Prop:=Calls ai f a w λe w'=>∃b:Y,∃c:Int,∃d:Int,e=.returned (.tuple #[b,c,d])/\K b c d w'
def yk(f:Nat)(a:Array aa)(w:J)(K:Int->Int->Int->Int->Int->Int->Int->Int->Int->J->Prop):Prop:=Calls ai f a w λe w'=>∃b:Int,∃c:Int,∃d:Int,∃g:Int,∃h:Int,∃i:Int,∃j:Int,∃k:Int,∃l:Int,e=.returned (.tuple #[.agg #[b,c,d,.int .u64 g,.int .u64 h,i],j,.int .u64 k,l])/\K b c d g h i j k l w'
def j_(f:Nat)(a:Array aa)(w:J)(K:Int->Int->Y->Int->J->Prop):Prop:=Calls ai f a w λe w'=>∃b:Int,∃c:Int,∃d:Y,∃g:Int,e=.returned (.tuple #[.agg #[b,.int .u64 c,d],g])/\K b c d g w'
def yl(f:Nat)(a:Array aa)(w:J)(K:gO->J->Prop):Prop:=Calls ai f a w λe w'=>∃b:gO,e=.returned (.func (.func b.f) b.pre b.cap)/\K b w'
def jJ(f:Nat)(a:Array aa)(w:J)(K:ag->Y->Y->Y->Int->J->Prop):Prop:=Calls ai f a w λe w'=>∃b:ag,∃c:Y,∃d:Y,∃g:Y,∃h:Int,e=.returned (.tuple #[.agg #[b,c,d,g],h])/\K b c d g h w'
def jK(f:Nat)(a:Array aa)(w:J)(K:an ab->J->Prop):Prop:=Calls ai f a w λe w'=>∃b:an ab,e=.returned (b)/\K b w'
def nR(f:Nat)(a:Array aa)(w:J)(K:Int->Int->Int->J->Prop):Prop:=Calls ai f a w λe w'=>∃b:Int,∃c:Int,∃d:Int,e=.returned (.tuple #[b,c,d])/\K b c d w'
def f_(f:Nat)(a:Array aa)(w:J)(K:ag->Y->Y->Y->J->Prop):Prop:=Calls ai f a w λe w'=>∃b:ag,∃c:Y,∃d:Y,∃g:Y,e=.returned (.agg #[b,c,d,g])/\K b c d g w'
def hG(f:Nat)(a:Array aa)(w:J)(K:Y->ag->J->Prop):Prop:=Calls ai f a w λe w'=>∃b:Y,∃c:ag,e=.returned (.tuple #[b,c])/\K b c w'
def fo(f:Nat)(a:Array aa)(w:J)(K:Int->J->Prop):Prop:=Calls ai f a w λe w'=>∃b:Int,e=.returned (.int .u64 b)/\K b w'
def mu(f:Nat)(a:Array aa)(w:J)(K:Y->Int->Int->Int->J->Prop):Prop:=Calls ai f a w λe w'=>∃b:Y,∃c:Int,∃d:Int,∃g:Int,e=.returned (.tuple #[b,c,d,g])/\K b c d g w'
def nS(f:Nat)(a:Array aa)(w:J)(K:Int->ag->J->Prop):Prop:=Calls ai f a w λe w'=>∃b:Int,∃c:ag,e=.returned (.tuple #[.int .u64 b,c])/\K b c w'
def nT(f:Nat)(a:Array aa)(w:J)(K:ag->Y->Y->Y->Y->ag->Y->Y->Y->ag->J->Prop):Prop:=Calls ai f a w λe w'=>∃b:ag,∃c:Y,∃d:Y,∃g:Y,∃h:Y,∃i:ag,∃j:Y,∃k:Y,∃l:Y,∃m:ag,e=.returned (.tuple #[.agg #[b,c,d,g],h,.agg #[i,j,k,l],m])/\K b c d g h i j k l m w'
def ym(f:Nat)(a:Array aa)(w:J)(K:Int->Int->Int->Int->Int->Int->J->Prop):Prop:=Calls ai f a w λe w'=>∃b:Int,∃c:Int,∃d:Int,∃g:Int,∃h:Int,∃i:Int,e=.returned (.agg #[b,c,d,.int .u64 g,.int .u64 h,i])/\K b c d g h i w'
def pC(f:Nat)(a:Array aa)(w:J)(K:Int->Int->Int->J->Prop):Prop:=Calls ai f a w λe w'=>∃b:Int,∃c:Int,∃d:Int,e=.returned (.agg #[b,c,.int .u64 d])/\K b c d w'
def r1(w:J)(A:ab)(K:Int->Prop):Prop:=∃x:Int,w.cell? A=some (.int .i64 x)/\K x
def b4(w:J)(A:ab)(K:Int->Prop):Prop:=∃x:Int,w.cell? A=some (.int .u8 x)/\K x
def ak(w:J)(A:ab)(K:Y->Prop):Prop:=∃x:Y,w.cell? A=some (.slice x.a x.len x.cap)/\K x
def bt(w:J)(A:ab)(K:Int->Prop):Prop:=∃x:Int,w.cell? A=some (.int .u64 x)/\K x
def a7(w:J)(A:ab)(K:ag->Prop):Prop:=∃x:ag,w.cell? A=some (.bool x)/\K x
def ga:Obj:=.cells #[(0:Int),(0:Int),(0:Int),.int .u64 0,.int .u64 0,(0:Int)] 104
def cg:Obj:=.cells #[false,(),(),()] 202
def z3:Obj:=.cells #[(0:Int),.int .u64 0,()] 150
def z4:Obj:=.cells #[.int .u8 0,.int .u8 0,.int .u8 0,.int .u8 0,.int .u8 0,.int .u8 0,.int .u8 0,.int .u8 0,.int .u8 0,.int .u8 0,.int .u8 0,.int .u8 0,.int .u8 0,.int .u8 0,.int .u8 0,.int .u8 0,.int .u8 0,.int .u8 0,.int .u8 0,.int .u8 0,.int .u8 0,.int .u8 0,.int .u8 0,.int .u8 0,.int .u8 0,.int .u8 0,.int .u8 0,.int .u8 0,.int .u8 0,.int .u8 0,.int .u8 0,.int .u8 0,.int .u8 0,.int .u8 0,.int .u8 0,.int .u8 0,.int .u8 0,.int .u8 0,.int .u8 0,.int .u8 0,.int .u8 0,.int .u8 0,.int .u8 0,.int .u8 0,.int .u8 0,.int .u8 0,.int .u8 0,.int .u8 0,.int .u8 0,.int .u8 0,.int .u8 0,.int .u8 0,.int .u8 0,.int .u8 0,.int .u8 0,.int .u8 0,.int .u8 0,.int .u8 0,.int .u8 0,.int .u8 0,.int .u8 0,.int .u8 0,.int .u8 0,.int .u8 0,.int .u8 0,.int .u8 0,.int .u8 0,.int .u8 0,.int .u8 0,.int .u8 0,.int .u8 0,.int .u8 0,.int .u8 0,.int .u8 0,.int .u8 0,.int .u8 0,.int .u8 0,.int .u8 0,.int .u8 0,.int .u8 0,.int .u8 0,.int .u8 0,.int .u8 0,.int .u8 0,.int .u8 0,.int .u8 0,.int .u8 0,.int .u8 0,.int .u8 0,.int .u8 0,.int .u8 0,.int .u8 0,.int .u8 0,.int .u8 0,.int .u8 0,.int .u8 0,.int .u8 0,.int .u8 0,.int .u8 0,.int .u8 0,.int .u8 0,.int .u8 0,.int .u8 0,.int .u8 0,.int .u8 0,.int .u8 0,.int .u8 0,.int .u8 0,.int .u8 0,.int .u8 0,.int .u8 0,.int .u8 0,.int .u8 0,.int .u8 0,.int .u8 0,.int .u8 0,.int .u8 0,.int .u8 0,.int .u8 0,.int .u8 0,.int .u8 0,.int .u8 0,.int .u8 0,.int .u8 0,.int .u8 0,.int .u8 0,.int .u8 0,.int .u8 0,.int .u8 0,.int .u8 0,.int .u8 0,.int .u8 0,.int .u8 0,.int .u8 0,.int .u8 0,.int .u8 0,.int .u8 0,.int .u8 0,.int .u8 0,.int .u8 0,.int .u8 0,.int .u8 0,.int .u8 0,.int .u8 0,.int .u8 0,.int .u8 0,.int .u8 0,.int .u8 0,.int .u8 0,.int .u8 0,.int .u8 0,.int .u8 0,.int .u8 0,.int .u8 0,.int .u8 0,.int .u8 0,.int .u8 0,.int .u8 0,.int .u8 0,.int .u8 0,.int .u8 0,.int .u8 0,.int .u8 0,.int .u8 0,.int .u8 0,.int .u8 0,.int .u8 0,.int .u8 0,.int .u8 0,.int .u8 0,.int .u8 0,.int .u8 0,.int .u8 0,.int .u8 0,.int .u8 0,.int .u8 0,.int .u8 0,.int .u8 0,.int .u8 0,.int .u8 0,.int .u8 0,.int .u8 0,.int .u8 0,.int .u8 0,.int .u8 0,.int .u8 0,.int .u8 0,.int .u8 0,.int .u8 0,.int .u8 0,.int .u8 0,.int .u8 0,.int .u8 0,.int .u8 0,.int .u8 0,.int .u8 0,.int .u8 0,.int .u8 0,.int .u8 0,.int .u8 0,.int .u8 0,.int .u8 0,.int .u8 0,.int .u8 0,.int .u8 0,.int .u8 0,.int .u8 0,.int .u8 0,.int .u8 0,.int .u8 0,.int .u8 0,.int .u8 0,.int .u8 0,.int .u8 0,.int .u8 0,.int .u8 0,.int .u8 0,.int .u8 0,.int .u8 0,.int .u8 0,.int .u8 0,.int .u8 0,.int .u8 0,.int .u8 0,.int .u8 0,.int .u8 0,.int .u8 0,.int .u8 0,.int .u8 0,.int .u8 0,.int .u8 0,.int .u8 0,.int .u8 0,.int .u8 0,.int .u8 0,.int .u8 0,.int .u8 0,.int .u8 0,.int .u8 0,.int .u8 0,.int .u8 0,.int .u8 0,.int .u8 0,.int .u8 0,.int .u8 0,.int .u8 0,.int .u8 0,.int .u8 0,.int .u8 0,.int .u8 0,.int .u8 0,.int .u8 0,.int .u8 0,.int .u8 0,.int .u8 0,.int .u8 0] 182
def z5:Obj:=.cells #[(),(0:Int)] 334
def uX:Obj:=.cells #[.int .u8 97] 5
def a1:aP:=(.s .r (.c (.s .r .l) .l))
def fy:aP:=(.s .r (.s (.c .l .l) (.s (.bP (.s .r a1)) .r)))
def c8:aP:=(.s .r (.s a1 (.s .r .l)))
def eU:aP:=(.s .r (.s (.s .r (.bP (.loop [(8,(.int .i64))] [0,1,7] fy))) (.s .r .l)))
def dV:aP:=(.s .r (.c (.s .r .l) a1))
def ec:aP:=(.s (.s .r a1) (.s .r .l))
def e2:aP:=(.s .r (.s (.c .l .l) (.s (.bP (.s .r (.s .r a1))) .r)))
def a2:aP:=(.s .r (.s (.c .l .l) (.s (.bP (.s .r .r)) .r)))
def a3:aP:=(.s .r (.s .r (.s .r .l)))
def a4:aP:=(.s .r (.s (.c1 [.r,.r,.r,.pure 2]) .l))
def a5:aP:=(.s .r (.s (.c1 [.r,.r,.r,.r,.pure 3]) .l))
def c_:aP:=(.c (.s .r (.s .r .l)) .l)
def dK:aP:=(.s .r (.s (.c1 [.r,.r,.r,.pure 2,.r,.r,.r,.split 7]) .l))
def dH:aP:=(.s (.c1 [.r,.r,.r,.r,.split 4]) (.c (.s .r .l) .l))
def a9:aP:=(.s (.c1 [.r,.r,.r,.pure 2]) (.c (.s .r .l) .l))
theorem okF{f:Nat}{fn:Func}(p:J->(aa->J->Prop)->Prop)(A:aP){args:O aa}{w:J}{Q:aa->J->Prop}(hf:Tryz.prog.funcs[f]? =some fn)(h:p w Q)(h1:mi fn args.length=true:=by kernel_rfl)(a:p w Q=nJ ai tk A fn args w Q:=by kernel_rfl):aH ai f args.toArray w Q:=BB uV hf h1 (Eq.mp a h)
def rE(a:J)(c:J)(ah:J)(d:ag)(Q:aa->J->Prop):Prop:=ak a ((U c).add 1) λe=>ak a ((U c).add 2) λf=>ak a ((U c).add 3) λg=>bz a (U ah)
 [d,e,f,g]/\(4:Nat)=4/\ao (setCells a (U ah) 0 [d,e,f,g]) λb=>a7 b (U ah) λh=>ak b ((U ah).add 1) λi=>ak b ((U ah).add 2) λj=>ak b ((U ah).add 3) λk=>Q (.tuple #[.agg #[h,i,j,k],true]) b
def rF(a:J)(ah:J)(Q:aa->J->Prop)(b:ag):Prop:=ak a ((U ah).add 1) λc=>ak a ((U ah).add 2) λd=>ak a ((U ah).add 3) λe=>Q (.tuple #[.agg #[b,c,d,e],false]) a
def rG(c:Y)(d:J)(e:J)(f:J)(g:J->Prop):Prop:=∃a:Y,∃b:J,Sem.run ai (Builtin.append_ #[127,127] 127 #[c,
 .slice (some (U d)) 1 1]) e=.ok a b/\st b ((U f).add 1) a λh=>g h
def bH(l:J)(a:J)(m:ag)(n:Y)(o:Y)(p:Y)(b:J)(q:ag)(r:Y)(s:Y)(t:Y)(w:J)(key:Y)(ah:J)(Q:aa->J->Prop):Prop:=bz l (U a)
 [m,n,o,p]/\(4:Nat)=4/\ao (setCells l (U a) 0 [m,n,o,p]) λu=>bz u (U b) [q,r,s,t]/\(4:Nat)=4/\ao (setCells u (U b) 0 [q,r,s,t]) λf=>bq (λv:J->Prop=>a7 f (U w) λF=>al (!F) (ao (f.drew) λg=>∃h:Nat->Prop,¬h ((U a).add 1).block/\ak g ((U a).add 1)
 λG=>aW 135 #[key] g λH d=>ae h g d/\ao (d.alloc (.cells #[H] 48)) λx=>ae h d x/\rG G d x a v) (v
 f)) (λi=>ak i ((U a).add 1) λI=>ak i ((U b).add 1) λK=>∃y:Y,∃z:J,Sem.run ai (Builtin.append_ #[127,127] 127 #[I,
 K]) i=.ok y z/\st z ((U a).add 1) y λj=>ak j ((U a).add 2) λL=>ak j ((U b).add 2) λM=>∃A:Y,
 ∃B:J,Sem.run ai (Builtin.append_ #[127,127] 127 #[L,M]) j=.ok A B/\st B ((U a).add 2)
 A λk=>ak k ((U a).add 3) λN=>ak k ((U b).add 3) λO=>∃C:Y,∃D:J,Sem.run ai (Builtin.append_ #[58,58] 58 #[N,O]) k=.ok C D/\st D ((U a).add 3) C λc=>a7 c (U a) λP=>ak c ((U a).add 1) λR=>ak c
 ((U a).add 2) λS=>ak c ((U a).add 3) λT=>aG 203 #[.agg #[P,R,S,T]] c λV e=>al (!V) (bz
 e (U ah) [false,(),(),()]/\(4:Nat)=4/\ao (setCells e (U ah) 0 [false,(),(),()]) λE=>a7 E (U ah) λW=>rF E ah Q
 W) (a7 e (U a) λX=>rE e a ah X Q))
def rH(d:J)(a:J)(e:ag)(f:Y)(g:Y)(h:Y)(i:ag)(Q:aa->J->Prop)(c:an ab)(n31:Int):Prop:=bz d (U a) [e,f,
 g,h]/\(4:Nat)=4/\ao (setCells d (U a) 0 [e,f,g,h]) λb=>
 al (!i) (Q (.tuple #[(),(0:Int),(0:Int),(4:Int)]) b) (a7 b (U a) λj=>ak b ((U a).add 1) λk=>ak b ((U a).add 2) λl=>ak b ((U a).add 3) λ
 m=>bW 281 #[c,.agg #[j,k,l,m]] b λn o p=>Q (.tuple #[n,n31,.int .i64 (au (n31+2)),o]) p)
def pD(a:J)(b:J)(c:ag)(d:Y)(e:Y)(f:Y)(g:J->Prop):Prop:=bz a (U b) [c,d,e,f]/\(4
 :Nat)=4/\ao (setCells a (U b) 0 [c,d,e,f]) λh=>g h
def b6(j:J)(e:J)(q:ag)(r:Y)(s:Y)(t:Y)(V:Nat->Prop)(f:J)(u:ag)(v:Y)(x:Y)(y:Y)(up:an ab)(n36:Int)(w:J)(h:J)(n31:Int)(Q:aa
 ->J->Prop)(c:an ab):Prop:=bz j (U e) [q,r,s,t]/\(4:Nat)=4/\ao (setCells j (U e) 0 [q,r,s,t]) λk=>ae V j k/\bz k (U f) [u,v,x,y]/\(4:
 Nat)=4/\ao (setCells k (U f) 0 [u,v,x,y]) λl=>bq (λz:J->Prop=>∃A:ab,up=some A/\r1 l (A.add 5) λW
 =>al (decide (n36>W)) (ao (l.drew) λd=>∃m:Nat->Prop,¬m ((U w):ab).block/\a7 d (U w) λB=>ak d ((U w).add 1) λC=>ak d ((U w).add 2) λD=>ak d ((U w).add 3) λE
 =>¬m ((U h):ab).block/\a7 d (U h) λX=>ak d ((U h).add 1) λZ=>ak d ((U h).add 2) λac=>ak d ((U h).add 3) λad=>bz d (U e) [B,C,D,E]/\(4:Nat)=4/\ao (setCells d (U e) 0 [B,C,D,E]) λF=>ae m d
 F/\pD F f X Z ac ad z) (z l)) (λaf=>ao (af.drew) λb=>∃g:Nat->Prop,¬g ((U e):ab).block/\a7 b (U e) λG=>ak b ((U e).add 1) λH=>ak b ((U e).add 2) λ
 I=>ak b ((U e).add 3) λK=>∃n:ab,up=some n/\¬g ((n.add 1).add 1).block/\ak b ((n.add 1).add 1) λL=>∃o:ab,L.a=some o/\aI n31 L.len/\¬g (o.add (n31.toNat*
 1)).block/\ak b (o.add (n31.toNat*1)) λM=>¬g ((U f):ab).block/\a7 b (U f) λN=>ak b ((U f).add 1) λO=>ak b ((U f).add 2) λP=>ak b ((U f).add 3) λ
 R=>(nQ 282 #[.agg #[G,H,I,K],M,.agg #[N,O,P,R]] b λah ai aj am ap i=>ae g b i/\ao (i.alloc cg) λS=>ae g i S/\rH S i ah ai aj am ap Q c n31)/\(ao (b.alloc cg) λ
 p=>ae g b p/\nQ 282 #[.agg #[G,H,I,K],M,.agg #[N,O,
 P,R]] p λaq ar au av aw T=>ae g p T/\rH T b aq ar au av aw Q c n31))
def dg(a:J)(b:J)(w1:J)(Q:aa->J->Prop):Prop:=a7 a (U b) λc=>rE a b w1 c Q
def rI(a:J)(c:J)(w1:J)(d:ag)(Q:aa->J->Prop):Prop:=ak a ((U c).add 1) λe=>ak a ((U c).add 2) λf=>ak a ((U c).add 3) λg=>bz a (U w1)
 [d,e,f,g]/\(4:Nat)=4/\ao (setCells a (U w1) 0 [d,e,f,g]) λb=>a7 b (U w1) λh=>ak b ((U w1).add 1) λi=>ak b ((U w1).add 2) λj=>ak b ((U w1).add 3) λk=>Q (.agg #[h,i,j,k]) b
def lz(m:J)(b:J)(eT:Array aa)(l:Y)(w:J)(to:Int)(w1:J)(Q:aa->J->Prop):Prop:=bz m (U b) (Array.toList eT)/\Array.size eT=4/\ao (setCells m (U b) 0
 (Array.toList eT)) λA=>∃ (h:Int->J->Prop) (n:Int->J->Nat),h 0 A/\∀ (n19:Int) (c:J),h n19 c->al (decide (n19<(l.len:Int))) (∃i:ab,l.a=some i/\aI n19 l.len/\ak c (i.add
 (n19.toNat*2)) λo=>r1 c ((i.add (n19.toNat*2)).add 1) λn23=>ao (c.alloc z5) λp=>bz p (U c) [o,n23]/\(2:Nat)=2/\ao (setCells p (U c) 0 [o,n23]) λd=>bq (λq:J->Prop=>ak d (U c) λB=>al (!(Option.isNone B.a)) (ak d ((U b).add 1) λC=>ak d (U c) λD=>ao (d.alloc (.cells #[D] 48)) λE=>rG C d E b q) (q d)) (λg=>ak g ((U b).add 3) λF=>r1 g ((U c).add 1) λn36=>ao (g.alloc (.cells #[n36] 3)) λG=>∃r:Y,
 ∃s:J,Sem.run ai (Builtin.append_ #[58,58] 58 #[F,.slice (some (U g)) 1 1]) G=.ok r s/\st s ((U b).add 3) r λt=>h (au (n19+1)) t/\n (au (n19+1)) t<n n19 c)) (ao (c.drew) λj=>¬False/\ak j ((U b).add 1) λH=>¬False/\ak j ((U w).add 1) λe=>((0:Int)<=(au (to-
 1))/\(au (to-1))<=(e.len:Int))/\∃u:Y,∃v:J,Sem.run ai (Builtin.append_ #[127,127] 127 #[H,.slice (aL e.a 1 ((au (to-1)).toNat) e.cap)
 (e.len-((au (to-1)).toNat)) (e.cap-((au (to-1)).toNat))]) j=.ok u v/\st v ((U b).add 1) u λI=>ao (I.drew) λk=>¬False/\ak k
 ((U b).add 3) λK=>¬False/\ak k ((U w).add 3) λf=>((0:Int)<=to/\to<=(f.len:Int))/\∃x:Y,∃y:J,Sem.run ai (Builtin.append_ #[58,58] 58 #[K,.slice (aL f.a 1 (to.toNat) f.cap) (f.len-(to.toNat)) (f.cap-(to.toNat))]) k=.ok x y/\st y ((U b).add 3) x λz=>a7 z (U
 b) λL=>rI z b w1 L Q)
def hJ(o:Array aa)(f:J)(c:Nat->Prop)(p:Array aa)(w1:J)(ah:J)(Q:aa->J->Prop)(q:Y):Prop:=f_ 204 #[.agg o] f λg h i j d=>ae c f d/\f_
 204 #[.agg p] d λk l m n b=>ae c d b/\bz b (U w1) [g,h,i,j]/\(4:Nat)=4/\ao (setCells b (U w1) 0
 [g,h,i,j]) λe=>ae c b e/\bz e (U ah) [k,l,m,n]/\(4:Nat)=4/\ao (setCells e (U ah) 0 [k,l,m,n]) λa=>a7 a (U w1) λr=>ak a ((U w1).add 1) λs=>
 ak a ((U w1).add 2) λt=>ak a ((U w1).add 3) λu=>a7 a (U ah) λv=>ak a ((U ah).add 1) λw=>ak a ((U ah).add 2) λx=>ak a ((U ah).add 3) λy=>Q (.tuple #[.agg
 #[r,s,t,u],q,.agg #[v,w,x,y],true]) a
def ix(a:J)(w1:J)(Q:aa->J->Prop):Prop:=a7 a (U w1) λb=>rF a w1 Q b
def fP(a:J)(b:J)(w1:J)(Q:aa->J->Prop):Prop:=a7 a (U b) λc=>rI a b w1 c Q
def uY(a:J)(w:J)(Q:aa->J->Prop)(n12:Int):Prop:=r1 a (U w) λn13=>r1 a ((U w).add 1) λn14=>r1 a ((U w).add 2) λn15=>bt a ((U w).add 3) λn16=>bt a ((U w).add
 4) λn17=>r1 a ((U w).add 5) λn18=>bz a (U w) [n13,n14,n15,.int .u64 n16,.int .u64 n17,n18]/\(6:Nat)=6/\ao (setCells a (U w) 0 [n13,n14,n15,.int .u64 n16,.int .u64 n17,n18]) λb=>r1 b (U w) λn20=>r1 b ((U w).add 1) λn21=>r1 b ((U w).add 2) λn22=>bt b ((U w).add 3) λn23=>bt b ((U w).add 4) λn24
 =>r1 b ((U w).add 5) λn25=>Q (.tuple #[.agg #[n20,n21,n22,.int .u64 n23,.int .u64 n24,n25],.int .u64 0,n12]) b
def fh(a:J)(w:J)(Q:aa->J->Prop)(n7:Int):Prop:=a7 a (U w) λb=>ak a ((U w).add 1) λc=>ak a ((U w).add 2) λd=>ak a ((U w).add 3) λe=>Q (.tuple #[.agg #[b,c,d,e],n7]) a
def yn(g:Y)(n17:Int)(c:J)(d:J)(n:Int->J->Prop)(h:Int->J->Nat):Prop:=∃i:ab,g.a=some i/\aI n17 g.len/\ak c (i.add (n17.toNat*1)) λo=>ao (c.drew) λe
 =>∃f:Nat->Prop,¬f ((U d).add 1).block/\ak e ((U d).add 1) λp=>aW 135 #[o] e λq b=>ae f e b/\ao (b.alloc (.cells #[q] 48)) λj=>ae f b j/\∃k:Y,∃l:J,Sem.run ai (Builtin.append_ #[127,127] 127 #[p,.slice (some (U b)) 1 1]) j=
 .ok k l/\st l ((U d).add 1) k λm=>n (au (n17+1)) m/\h (au (n17+1)) m<h n17 c
def yo(g:Y)(n34:Int)(c:J)(d:J)(n:Int->J->Prop)(h:Int->J->Nat):Prop:=∃i:ab,g.a=some i/\aI n34 g.len/\ak c (i.add (n34.toNat*1)) λo=>ao (c.drew) λe
 =>∃f:Nat->Prop,¬f ((U d).add 2).block/\ak e ((U d).add 2) λp=>aW 135 #[o] e λq b=>ae f e b/\ao (b.alloc (.cells #[q] 48)) λj=>ae f b j/\∃k:Y,∃l:J,Sem.run ai (Builtin.append_ #[127,127] 127 #[p,.slice (some (U b)) 1 1]) j=
 .ok k l/\st l ((U d).add 2) k λm=>n (au (n34+1)) m/\h (au (n34+1)) m<h n34 c
def uZ(g:J)(ah:J)(w1:J)(h:J->Prop):Prop:=ao (g.drew) λb=>∃c:Nat->Prop,¬c ((U ah).add 3).block/\ak b ((U ah).add 3) λi=>aA 272 #[.pointer (some (U
 w1)),(2:Int)] b λn14 a=>ae c b a/\ao (a.alloc (.cells #[n14] 3)) λd=>ae c a d/\∃e:Y,∃f:J,Sem.run ai (Builtin.append_ #[58,58] 58 #[i,.slice (some (U a)) 1 1]) d=.ok e f/\st f ((U ah).add 3) e λj=>h j
def pE(a:J)(w:J)(Q:aa->J->Prop):Prop:=a7 a (U w) λb=>ak a ((U w).add 1) λc=>ak a ((U w).add 2) λd=>ak a ((U w).add 3) λe=>Q (.tuple #[.agg #[b,
 c,d,e],(4:Int)]) a
def u0(l:aa)(m:J)(d:an ab)(n:J->Prop)(g:J->Nat)(o:J):Prop:=∃n15:Int,∃p:aa,∃h:J,Sem.run ai (Instr.entry (l)) m=.ok (.tuple #[n15,p])
 h/\ao (h.drew) λb=>∃i:Nat->Prop,∃c:ab,d=some c/\¬i (c.add 4).block/\ak b (c.add 4) λj=>rD 137 #[d,n15] b λfo e=>ae i b e/\∃f:ab,
 j.a=some f/\aI n15 j.len/\bz e (f.add (n15.toNat*256)) (Array.toList fo)/\Array.size fo=256/\ao (setCells e (f.add (n15.toNat*256)) 0 (Array.toList fo)) λk=>n k/\g k<g o
def u3(h:Y)(j:Y)(c:J)(k:Nat->Prop)(l:an Nat)(i:Int)(d:an ab)(Q:aa->J->Prop):Prop:=∃e:Y,∃a:J,Sem.run ai (Builtin.append_ #[136,
 136] 136 #[h,j]) c=.ok e a/\ae k c a/\∃b:J,Sem.run ai (Instr.mapUpdate 137
 (.map l) i e) a=.ok () b/\∃f:ab,d=some f/\r1 b (f.add 6) λn24=>∃g:ab,d=some g/\st b (g.add 6) (.int .i64 (au (n24+1))) λm=>Q (0:Int) m
def u4(a:J)(w:J)(Q:aa->J->Prop):Prop:=r1 a (U w) λn35=>r1 a ((U w).add 1) λn36=>r1 a ((U w).add 2) λn37=>bt a ((U w).add 3) λn38=>bt a ((U w).add 4) λ
 n39=>r1 a ((U w).add 5) λn40=>Q (.tuple #[.agg #[n35,n36,n37,.int .u64 n38,.int .u64 n39,n40],(0:Int),.int .u64 0,(4:Int)]) a
def e0(ah:J)(w:J)(Q:aa->J->Prop):Prop:=r1 ah (U w) λa=>r1 ah ((U w).add 1) λb=>r1 ah ((U w).add 2) λn5=>bt ah ((U w).add 3) λn6=>bt ah ((U w).add 4) λn7=>r1
 ah ((U w).add 5) λn8=>Q (.agg #[a,b,n5,.int .u64 n6,.int .u64 n7,n8]) ah
def rJ(b:ag)(a:ag->J->Prop)(ah:J)(w:J):Prop:=al (!b) (a true ah) (a7 ah (U w) λc=>ak ah ((U w).add 1) λd=>ak ah ((U w).add 2) λe=>ak ah ((U w).add 3) λf=>aG
 203 #[.agg #[c,d,e,f]] ah λg h=>a (!g) h)
def u5(a:Y):Prop:=(0:Int)<=(au (232-(a.len:Int)))/\((au (232-(a.len:Int))):Int)<=(au (232-(a.len:Int)))/\((au (232-(a.len:Int))):Int)<=iR/\((1:Nat):Int)*(au (232-(a.len:Int)))<=
 140737488355328
def rK(a:J)(n6:Int)(d:Y)(e:Y->J->Prop):Prop:=ao (a.alloc (.cells #[n6] 3)) λf=>∃b:Y,∃c:J,Sem.run ai (Builtin.append_ #[58,58] 58 #[d,.slice (some (U a)) 1 1]) f=.ok b c/\e b c
def u6(a:J)(c:Y)(d:J)(e:Y)(f:J)(b:Y)(g:Y->J->Prop):Prop:=ao (a.alloc (.cells #[c,.slice (some (U d)) (Int.toNat 4) (Int.toNat 4),e,.slice (some (U f)) ((au (232-(b.len:Int))).toNat) ((au (232-(b.len:Int))).toNat)] 48)) λh=>aW 92 #[.slice (some (U a)) 4 4] h λi j=>g i j
def u7(d:an ab)(a:J)(Q:aa->J->Prop):Prop:=∃b:ab,d=some b/\∃c:an Nat,a.cell? (b.add 5)=some (.map c)/\∃ (f:aa) (e:J),Sem.run ai (Builtin.clear_
 #[137] 0 #[.map c]) a=.ok f e/\Q (0:Int) e
def u9(a:J)(w:J)(Q:aa->J->Prop):Prop:=r1 a (U w) λn9=>bt a ((U w).add 1) λn10=>ak a ((U w).add 2) λb=>Q (.tuple #[.agg #[n9,.int .u64 n10,b],(4:Int)]) a
def u_(b:J)(w:J)(a:O aa)(Q:aa->J->Prop):Prop:=bz b (U w) (Array.toList a.toArray)/\Array.size a.toArray=256/\ao (setCells b (U w) 0 (Array.toList a.toArray)) λc=>∃d:O
 aa,cy c (U w) 0 256=some d/\Q (.agg d.toArray) c
def rL(h:J)(b:J)(i:ag)(j:Y)(k:Y)(l:Y)(m:Int)(Q:aa->J->Prop)(c:an ab)(n41:Int)(w:J)(up:an ab)(n36:Int)(n31:Int):Prop:=bz h (U b)
 [i,j,k,l]/\(4:Nat)=4/\ao (setCells h (U b) 0 [i,j,k,l]) λe=>al (m !=0) (Q (.tuple #[(),(0:Int),(0:Int),m]) e) (∃n:ab,c=some n/\ak e (n.add 2) λC=>ao (e.alloc (.cells #[n41] 3)) λD=>∃o:
 Y,∃p:J,Sem.run ai (Builtin.append_ #[58,58] 58 #[C,.slice (some (U e)) 1 1]) D=.ok o p/\∃q:ab,c=some q/\st p (q.add
 2) o λE=>ao (E.drew) λa=>∃d:Nat->Prop,¬d ((U b):ab).block/\a7 a (U b) λr=>ak a ((U b).add 1) λs=>ak a ((U b).add 2) λt=>ak a
 ((U b).add 3) λu=>¬d ((U w):ab).block/\a7 a (U w) λv=>ak a ((U w).add 1) λx=>ak a ((U w).add 2) λy=>ak a ((U w).add 3) λz=>(ao (a.alloc cg) λf=>ae d
 a f/\ao (f.alloc cg) λA=>ae d f A/\b6 A a r s t u d f v x y z up n36 w b n31 Q c)/\(ao (a.alloc cg) λg=>ae d a g/\ao (g.alloc cg) λB=>ae d g B/\b6 B
 g r s t u d a v x y z up n36 w b n31 Q c))
def mv(c:ag)(d:Y)(e:Y)(f:Y)(a:J)(g:Nat->Prop)(h:J)(i:ag)(j:Y)(k:Y)(l:Y)(m:J)(w:J)(key:Y)(ah:J)(Q:aa->J->Prop):Prop:=f_
 204 #[.agg #[c,d,e,f]] a λn o p q b=>ae g a b/\bH b h i j k l m n o p q w key ah
 Q
def va(f:J)(a:J)(gj:Array aa)(w:J)(w1:J)(Q:aa->J->Prop):Prop:=bz f (U a) (Array.toList gj)/\Array.size gj=4/\ao (setCells f (U a) 0 (Array.toList gj)) λg=>ak
 g ((U w).add 1) λh=>∃ (c:Int->J->Prop) (j:Int->J->Nat),c 0 g/\∀ (n17:Int) (b:J),c n17 b->al (decide (n17<(h.len:Int))) (yn h n17 b a c j) (ak b ((U w).add 2) λ
 i=>∃ (d:Int->J->Prop) (k:Int->J->Nat),d 0 b/\∀ (n34:Int) (e:J),d n34 e->al (decide (n34<(i.len:Int))) (yo i n34 e a d k) (fP e a w1 Q))
def vb(a:J)(w:J)(Q:aa->J->Prop)(n7:Int):Prop:=bz a (U w) [false,(),(),()]/\(4:Nat)=4/\ao (setCells a (U w) 0 [false,(),
 (),()]) λb=>fh b w Q n7
set_option maxRecDepth 100000
def af.rM(s:Y)(v:Int)(w:J)(Q:aa->J->Prop):Prop:=aA 184 #[s,v] w λa w1=>Q (.bool (decide (a>=0))) w1
def ay.rM:aP:=(.s .r (.s .r .l))
def af.mw(s:Y)(w:J)(Q:aa->J->Prop):Prop:=al (Option.isNone s.a) (Q () w) (ao (w.alloc (.cells #[] 5)) λw1=>∃s2:Y,∃b:J,Sem.run ai
 (Builtin.append_ #[48,48] 48 #[.slice (some (U w)) 0 0,s]) w1=.ok s2 b/\Q s2 b)
def ay.mw:aP:=c8
def af.rN(d:Y)(f:Y)(w:J)(Q:aa->J->Prop):Prop:=al ((d.len:Int) !=(f.len:Int)) (Q false w) (∃ (g:Int->J->Prop) (h:Int->J->Nat),g 0 w/\∀ (b:Int)
 (e:J),g b e->al (decide (b<(d.len:Int))) (ao (e.drew) λc=>∃c_:ab,d.a=some c_/\aI b d.len/\¬False/\r1 c (c_.add (b.toNat*1)) λn7=>∃dH:ab,f.a=some dH/\aI b f.len/\¬
 False/\r1 c (dH.add (b.toNat*1)) λn9=>al (n7 !=n9) (Q false c) (g (au (b+1)) c/\h (au (b+1)) c<h b e)) (Q true e))
def ay.rN:aP:=(.s .r (.s a1 (.s (.s .r (.bP (.loop [(13,(.int .i64))] [0,1,12] (.s .r (.s (.c .l .l) (.s (.bP (.s .r (.s (.cw 8 false ⟨[0,0,3,4,0,0,48,64,136],[0,0,3,4,0,0,48,64,136]⟩ [65536,
 131072,262144,524288,1048576,2097152,4194304,8388608,16777216] [1,32,196608,262144,2,32,3145728,4194304,8912896] (.t 0 (.t 1 (.t 2 (.t 3 (.t 4 (.t 5 (.t 6 (.t 7 (.tail [.r])))))))))) (.c (.s .r .l) .l)))) .r)))))) (.s .r
 .l))))
def af.nU(a:Y)(b:Y)(w:J)(Q:aa->J->Prop):Prop:=∃s1:ByteArray,∃ah:J,Sem.run ai (convert 48 9 a) w=.ok (.string s1) ah/\∃c:ByteArray,∃d
 :J,Sem.run ai (convert 48 9 b) ah=.ok (.string c) d/\Q (.bool (ByteArray.toList s1==ByteArray.toList c)) d
def ay.nU:aP:=(.s .r (.s .r .l))
def af.rO(s:Y)(f:gO)(w:J)(Q:aa->J->Prop):Prop:=aA 225 #[s,.func (.func f.f) f.pre f.cap] w λa w1=>Q (.bool (decide (a>=0)))
 w1
def ay.rO:aP:=(.s .r (.s .r .l))
def af.kc(a:Y)(b:Y)(w:J)(Q:aa->J->Prop):Prop:=∃bG:Int,∃ah:J,Sem.run ai (callFunc 230 #[a,b]) w=.ok (.value bG) ah/\Q bG ah
def ay.kc:aP:=(.s .r (.s .r .l))
def af.rP(m:an Nat)(w:J)(Q:aa->J->Prop):Prop:=ao (w.alloc (.cells #[.map m] 137)) λw1=>Q (.func (.func
 232) #[] #[.pointer (some (U w))]) w1
def ay.rP:aP:=(.s .r (.s .r .l))
theorem af.BY(m:an Nat)(w:J)(Q:aa->J->Prop)(h:af.rP m w Q):aH ai 178 #[.map m] w Q:=okF (λw Q=>af.rP m w Q) ay.rP func178 h
def af.rQ(s:Y)(v:Int)(w:J)(Q:aa->J->Prop):Prop:=∃ (d:Int->J->Prop) (e:Int->J->Nat),d 0 w/\∀ (b:Int) (c:J),d b c->al (decide (b<(s.len:Int))) (∃a5:
 ab,s.a=some a5/\aI b s.len/\r1 c (a5.add (b.toNat*1)) λn6=>al (v==n6) (Q b c) (d (au (b+1)) c/\e (au (b+1)) c<e b c)) (Q (.int .i64 (-1)) c)
def ay.rQ:aP:=eU
def af.rR(s:Y)(w:J)(Q:aa->J->Prop):Prop:=al (Option.isNone s.a) (Q () w) (ao (w.alloc (.cells #[] 5)) λw1=>∃s2:Y,∃b:J,Sem.run ai
 (Builtin.append_ #[215,215] 215 #[.slice (some (U w)) 0 0,s]) w1=.ok s2 b/\Q s2 b)
def ay.rR:aP:=c8
def af.rS(x:Int)(w:J)(Q:aa->J->Prop):Prop:=(0:Int)<=x/\∃b8:UInt8,uo (ByteArray.mk #[0,1,1,2,1,2,2,3,1,2,2,3,2,3,3,4,1,2,2,3,2,3,3,4,2,3,3,4,3,4,4,5,1,2,
 2,3,2,3,3,4,2,3,3,4,3,4,4,5,2,3,3,4,3,4,4,5,3,4,4,5,4,5,5,6,1,2,2,3,2,3,3,4,2,3,3,4,3,4,4,5,2,3,3,4,3,4,4,5,3,4,4,5,4,5,5,6,2,3,3,4,3,4,4,5,3,4,4,5,4,5,5,6,3,4,
 4,5,4,5,5,6,4,5,5,6,5,6,6,7,1,2,2,3,2,3,3,4,2,3,3,4,3,4,4,5,2,3,3,4,3,4,4,5,3,4,4,5,4,5,5,6,2,3,3,4,3,4,4,5,3,4,4,5,4,5,5,6,3,4,4,5,4,5,5,6,4,5,5,6,5,6,6,7,2,3,
 3,4,3,4,4,5,3,4,4,5,4,5,5,6,3,4,4,5,4,5,5,6,4,5,5,6,5,6,6,7,3,4,4,5,4,5,5,6,4,5,5,6,5,6,6,7,4,5,5,6,5,6,6,7,5,6,6,7,6,7,7,8]) (x.toNat)=some b8/\Q (.int .i64 (au ((b8.toNat
 :Nat):Int))) w
def ay.rS:aP:=(.s .r (.s .r .l))
def af.rT(s:Y)(i:Int)(v:Y)(w:J)(Q:aa->J->Prop):Prop:=((0:Int)<=i/\i<=(s.len:Int))/\al ((v.len:Int)==0) (Q s w) (al (i==(s.len:Int)) (∃s1:Y,
 ∃ah:J,Sem.run ai (Builtin.append_ #[127,127] 127 #[s,v]) w=.ok s1 ah/\Q s1 ah) (al (decide
 (((au ((s.len:Int)+(v.len:Int))):Int)>(s.cap:Int))) (((0:Int)<=i/\i<=(s.cap:Int))/\∃b:Y,∃d:J,Sem.run ai (Builtin.append_ #[127,3] 127 #[.slice (aL s.a 1 0
 s.cap) ((i.toNat)-0) (s.cap-0),.int .i64 (au ((au ((s.len:Int)+(v.len:Int)))-i))]) w=.ok b d/\((0:Int)<=i/\i<=(b.len:Int))/\∃n5:Int,∃e:J,Sem.run ai (Builtin.copy_
 #[127,127] 3 #[.slice (aL b.a 1 (i.toNat) b.cap) (b.len-(i.toNat)) (b.cap-(i.toNat)),v]) d=.ok n5 e/\ao (e.drew) λl=>((0:Int)<=(au (i+
 (v.len:Int)))/\(au (i+(v.len:Int)))<=(b.len:Int))/\((0:Int)<=i/\i<=(s.len:Int))/\∃n8:Int,∃f:J,Sem.run ai (Builtin.copy_ #[127,127] 3 #[.slice (aL b.a 1 ((au (i+
 (v.len:Int))).toNat) b.cap) (b.len-((au (i+(v.len:Int))).toNat)) (b.cap-((au (i+(v.len:Int))).toNat)),.slice (aL s.a 1 (i.toNat) s.cap) (s.len-(i.toNat)) (s.cap-(i.toNat))]) l=.ok n8 f/\Q
 b f) (((0:Int)<=(au ((s.len:Int)+(v.len:Int)))/\(au ((s.len:Int)+(v.len:Int)))<=(s.cap:Int))/\((0:Int)<=(au (i+(v.len:Int)))/\(au (i+(v.len:Int)))<=(((((au ((s.len:Int)+
 (v.len:Int))).toNat)-0):Nat):Int))/\∃g:ag,∃c:J,Sem.run ai (callFunc 252 #[v,.slice (aL (aL s.a 1 0 s.cap) 1 ((au (i+(v.len:Int))).toNat) (s.cap-0))
 ((((au ((s.len:Int)+(v.len:Int))).toNat)-0)-((au (i+(v.len:Int))).toNat)) ((s.cap-0)-((au (i+(v.len:Int))).toNat))]) w=.ok (.value g) c/\al (!g) (ao (c.drew) λm=>((0:Int)<=(au (i+
 (v.len:Int)))/\(au (i+(v.len:Int)))<=(((((au ((s.len:Int)+(v.len:Int))).toNat)-0):Nat):Int))/\((0:Int)<=i/\i<=(((((au ((s.len:Int)+(v.len:Int))).toNat)-0):Nat):Int))/\∃n13:Int,∃h:J,Sem.run
 ai (Builtin.copy_ #[127,127] 3 #[.slice (aL (aL s.a 1 0 s.cap) 1 ((au (i+(v.len:Int))).toNat) (s.cap-0)) ((((au ((s.len:Int)+(v.len:Int))).toNat)-0)-((au (i+
 (v.len:Int))).toNat)) ((s.cap-0)-((au (i+(v.len:Int))).toNat)),.slice (aL (aL s.a 1 0 s.cap) 1 (i.toNat) (s.cap-0)) ((((au ((s.len:Int)+(v.len:Int))).toNat)-0)-(i.toNat)) ((s.cap-0)-(i.toNat))]) m=
 .ok n13 h/\((0:Int)<=i/\i<=(((((au ((s.len:Int)+(v.len:Int))).toNat)-0):Nat):Int))/\∃n15:Int,∃j:J,Sem.run ai (Builtin.copy_ #[127,127] 3 #[.slice (aL (aL
 s.a 1 0 s.cap) 1 (i.toNat) (s.cap-0)) ((((au ((s.len:Int)+(v.len:Int))).toNat)-0)-(i.toNat)) ((s.cap-0)-(i.toNat)),v]) h=.ok n15 j/\Q (.slice (aL s.a 1 0 s.cap)
 (((au ((s.len:Int)+(v.len:Int))).toNat)-0) (s.cap-0)) j) (((0:Int)<=(s.len:Int)/\(s.len:Int)<=(((((au ((s.len:Int)+(v.len:Int))).toNat)-0):Nat):Int))/\∃n17:Int,∃k:J,Sem.run ai
 (Builtin.copy_ #[127,127] 3 #[.slice (aL (aL s.a 1 0 s.cap) 1 (Int.toNat (s.len:Int)) (s.cap-0)) ((((au ((s.len:Int)+(v.len:Int))).toNat)-0)-(Int.toNat (s.len:Int))) ((s.cap-0)-(Int.toNat
 (s.len:Int))),v]) c=.ok n17 k/\((0:Int)<=i/\i<=(((((au ((s.len:Int)+(v.len:Int))).toNat)-0):Nat):Int))/\aT 253 #[.slice (aL (aL s.a 1 0 s.cap) 1
 (i.toNat) (s.cap-0)) ((((au ((s.len:Int)+(v.len:Int))).toNat)-0)-(i.toNat)) ((s.cap-0)-(i.toNat)),.int .i64 (v.len:Int)] k λn=>Q (.slice (aL s.a 1 0 s.cap) (((au ((s.len:Int)+
 (v.len:Int))).toNat)-0) (s.cap-0)) n))))
def ay.rT:aP:=(.s .r (.s .r (.s .r (.s a1 (.s .r (.s a1 (.s (.s .r (.c (.s .r (.s .r (.s (.cw 8 false ⟨[0,0,0,6,9,0,0,96,144],[0,0,0,6,9,0,0,96,144]⟩ [70368744177664,140737488355328,
 281474976710656,562949953421312,1125899906842624,2251799813685248,4503599627370496,9007199254740992,18014398509481984] [512,2,128,422212465065984,633318697598976,1,2,6755399441055744,10133099161583616] (.t 0 (.t 1 (.t 2 (.t 3
 (.t 4 (.t 5 (.t 6 (.t 7 (.tail [.r])))))))))) (.s .r .l)))) .l)) (.s .r (.s (.s .r (.c (.s (.cw 8 false ⟨[0,0,0,6,9,0,0,96,144],[0,0,0,6,9,0,0,96,144]⟩ [590295810358705651712,1180591620717411303424,
 2361183241434822606848,4722366482869645213696,9444732965739290427392,18889465931478580854784,37778931862957161709568,75557863725914323419136,151115727451828646838272] [1,2,128,3541774862152233910272,5312662293228350865408,1,2,
 56668397794435742564352,85002596691653613846528] (.t 0 (.t 1 (.t 2 (.t 3 (.t 4 (.t 5 (.t 6 (.t 7 (.tail [.r])))))))))) (.s .r (.s .r .l))) .l)) a3)))))))))
def af.pF(s:Y)(f:gO)(w:J)(Q:aa->J->Prop):Prop:=∃ (d:Int->J->Prop) (g:Int->J->Nat),d 0 w/\∀ (b:Int) (c:J),d b c->al (decide (b<(s.len:Int))) (∃a5
 :ab,s.a=some a5/\aI b s.len/\b4 c (a5.add (b.toNat*1)) λn6=>hY ai f.f/\Calls ai f.f (f.pre++ #[.int .u8 n6]++f.cap) c λi e=>∃h:ag,i=.returned h/\al h (Q b e) (d (au (b+1)) e/\g (au (b+1)) e<g b c)) (Q (.int .i64 (-1)) c)
def ay.pF:aP:=eU
theorem af.BZ(s:Y)(f:gO)(w:J)(Q:aa->J->Prop)(h:af.pF s f w Q):aH ai 225 #[s,.func (.func f.f) f.pre f.cap] w Q:=okF (λw Q=>af.pF s f w Q) ay.pF func225 h
def af.rU(x:Y)(target:Y)(cmp:gO)(w:J)(Q:aa->J->Prop):Prop:=∃ (e:Int->Int->J->Prop) (g:Int->Int->J->Nat),e 0 (x.len:Int) w/\∀ (b:Int)
 (c:Int) (d:J),e b c d->al (decide (b<c)) ((0:Int)<=1/\∃c_:ab,x.a=some c_/\((0:Int)<=(au (Int.fdiv (IntKind.wrap .u64 (au (b+c))) (2^(min (Int.toNat 1) 64))))/\(au (Int.fdiv (IntKind.wrap .u64 (au
 (b+c))) (2^(min (Int.toNat 1) 64))))<(x.len:Int))/\ak d (c_.add (Int.toNat (au (Int.fdiv (IntKind.wrap .u64 (au (b+c))) (2^(min (Int.toNat 1) 64))))*1)) λi=>hY ai cmp.f/\Calls ai cmp.f (cmp.pre
 ++ #[.slice i.a i.len i.cap,.slice target.a target.len target.cap]++cmp.cap) d λl h=>∃n10:Int,l=.returned (.int .i64 n10)/\al (decide (n10<0)) (e (au ((au (Int.fdiv (IntKind.wrap .u64 (au (b+c))) (2^(min
 (Int.toNat 1) 64))))+1)) c h/\g (au ((au (Int.fdiv (IntKind.wrap .u64 (au (b+c))) (2^(min (Int.toNat 1) 64))))+1)) c h<g b c d) (e b (au (Int.fdiv (IntKind.wrap .u64 (au (b+c))) (2^(min (Int.toNat 1) 64)))) h
 /\g b (au (Int.fdiv (IntKind.wrap .u64 (au (b+c))) (2^(min (Int.toNat 1) 64)))) h<g b c d)) (bq (λk:ag->J->Prop=>al (decide (b<(x.len:Int))) (∃dV:ab,x.a=some dV/\aI b x.len/\ak d (dV.add
 (Int.toNat b*1)) λj=>hY ai cmp.f/\Calls ai cmp.f (cmp.pre++ #[.slice j.a j.len j.cap,.slice target.a target.len target.cap]++cmp.cap) d λm n=>∃n16:Int,m=.returned (.int .i64 n16)/\
 k (n16==0) n) (k false d)) (λ(o:ag) p=>Q (.tuple #[.int .i64 b,.bool o]) p))
def ay.rU:aP:=(.s .r (.s .r (.s .r (.s (.bP (.loop [(9,(.int .i64)),(10,(.int .i64))] [0,1,2,8] (.s (.s .r (.c .l .l)) (.bP (.s .r (.s .r (.c .r .r))))))) (.s (.c1 [.r,.r,.r,.r,
 .r,.split 8]) .l)))))
def af.rV(s:Y)(f:gO)(w:J)(Q:aa->J->Prop):Prop:=aA 278 #[s,.func (.func f.f) f.pre f.cap] w λa w1=>Q (.bool
 (decide (a>=0))) w1
def ay.rV:aP:=(.s .r (.s .r .l))
def af.rW(s:Y)(f:gO)(w:J)(Q:aa->J->Prop):Prop:=aA 279 #[s,.func (.func f.f) f.pre f.cap] w λa w1=>Q (.bool (decide (a>=0))) w1
def ay.rW:aP:=(.s .r (.s .r .l))
def af.rX(s:Y)(w:J)(Q:aa->J->Prop):Prop:=al (Option.isNone s.a) (Q () w) (ao (w.alloc (.cells #[] 3)) λw1=>∃s2:Y,∃b:J,Sem.run ai (Builtin.append_
 #[58,58] 58 #[.slice (some (U w)) 0 0,s]) w1=.ok s2 b/\Q s2 b)
def ay.rX:aP:=c8
set_option maxRecDepth 100000
def af.pG(s:Y)(f:gO)(w:J)(Q:aa->J->Prop):Prop:=∃ (d:Int->J->Prop) (h:Int->J->Nat),d 0 w/\∀ (b:Int) (c:J),d b c->al (decide (b<(s.len:Int)))
 (∃a5:ab,s.a=some a5/\aI b s.len/\ak c (a5.add (Int.toNat b*1)) λe=>hY ai f.f/\Calls ai f.f (f.pre++ #[.slice e.a e.len e.cap]++f.cap) c λj g=>∃i:ag,j=.returned (.bool i)/\
 al i (Q (.int .i64 b) g) (d (au (b+1)) g/\h (au (b+1)) g<h b c)) (Q (.int .i64 (-1)) c)
def ay.pG:aP:=eU
theorem af.B0(s:Y)(f:gO)(w:J)(Q:aa->J->Prop)(h:af.pG s f w Q):aH ai 278 #[.slice s.a s.len s.cap,.func (.func f.f) f.pre f.cap] w Q:=okF (λw Q=>af.pG s f w Q) ay.pG func278 h
def af.pH(s:Y)(f:gO)(w:J)(Q:aa->J->Prop):Prop:=∃ (d:Int->J->Prop) (g:Int->J->Nat),d 0 w/\∀ (b:Int) (c:J),d b c->al (decide (b<(s.len:Int))) (∃a5:
 ab,s.a=some a5/\aI b s.len/\r1 c (a5.add (Int.toNat b*1)) λn6=>hY ai f.f/\Calls ai f.f (f.pre++ #[.int .i64 n6]++f.cap) c λi e=>∃h:ag,i=.returned (.bool h)/\al h (Q (.int .i64
 b) e) (d (au (b+1)) e/\g (au (b+1)) e<g b c)) (Q (.int .i64 (-1)) c)
def ay.pH:aP:=eU
theorem af.B1(s:Y)(f:gO)(w:J)(Q:aa->J->Prop)(h:af.pH s f w Q):aH ai 279 #[.slice s.a s.len s.cap,.func (.func f.f) f.pre f.cap] w Q:=okF (λw Q=>af.pH s f w Q) ay.pH func279 h
def af.rY(s:Y)(w:J)(Q:aa->J->Prop):Prop:=al (Option.isNone s.a) (Q () w) (ao (w.alloc (.cells #[] 48)) λw1=>∃s2:Y,∃b:J,Sem.run ai
 (Builtin.append_ #[127,127] 127 #[.slice (some (U w)) 0 0,s]) w1=.ok s2 b/\Q s2 b)
def ay.rY:aP:=c8
set_option maxRecDepth 100000
def af.mx(n:Int)(w:J)(Q:aa->J->Prop):Prop:=al ((decide (n<16))||(decide (n>1600))) (Q (.tuple #[.pointer none,(1:Int)]) w) (((0:Int)<=n/\n<=n/\n<=iR/\((256:Nat):Int)*n<=
 140737488355328)/\ao (w.alloc (.cells (gq ai 182 (n.toNat)) 182)) λw1=>∃b:an Nat,∃a:J,Sem.run ai (Instr.makeMap 137 none) w1=.ok (.map b) a/\∃de:
 Array aa,Sem.run ai (Instr.build 141 #[(1,.slice (some (U w)) (n.toNat) (n.toNat)),(2,.map b)]) a=.ok (.agg de) a/\ao (a.alloc (.cells de 141)) λc=>∃c_:ab,(some (U a):an
 ab)=some c_/\aT 69 #[.pointer (some c_)] c λd=>Q (.tuple #[.pointer (some (U a)),(0:Int)]) d)
def ay.mx:aP:=(.s .r (.s a9 a3))
def af.ke(d:an ab)(r:Int)(s:Int)(t:Int)(w:J)(Q:aa->J->Prop):Prop:=ao (w.alloc (.cells #[r,s,.int .u64 t] 46)) λw1=>
 r1 w1 (U w) λbc=>r1 w1 ((U w).add 1) λu=>bt w1 ((U w).add 2) λv=>aG 70 #[d,.agg #[bc,u,.int .u64 v]] w1 λx l=>al (!x) (Q (.tuple #[.pointer none,(1:Int)]) l) (aA 72 #[d] l λn10 y=>de 71 #[n10,(3:Int)] y λm n14 n=>al (n14 !=0) (Q (.tuple #[.pointer none,n14]) n) (aW 74 #[m] n λ
 z A=>bW 73 #[(2:Int),.agg #[(4:Int),.int .u64 1,z]] A λB n21 f=>al (n21 !=0) (Q (.tuple #[.pointer none,n21]) f) (((0:Int)<=256/\(256:Int)<=256/\(256:
 Int)<=iR/\((1:Nat):Int)*256<=140737488355328)/\ao (f.alloc (.cells (gq ai 5 (Int.toNat 256)) 5)) λi=>∃hG:Array aa,Sem.run ai (Instr.build 151 #[(0,.slice (some (U f))
 (Int.toNat 256) (Int.toNat 256)),(1,.slice (some (U f)) (Int.toNat 256) (Int.toNat 256)),(2,B)]) i=.ok (.agg hG) i/\∃ (j:Int->J->Prop) (o:Int->J->Nat),j 0 i/\∀ (n26:Int)
 (g:J),j n26 g->al (decide (n26<3)) (((0:Int)<=n26/\n26<((3:Nat):Int))/\∃h:Y,cellAt hG (n26.toNat*1)=some (.slice h.a h.len h.cap)/\aA 75 #[d,n26,h] g λn31 k=>al (n31 !=0) (Q (.tuple #[.pointer none,n31]) k) (j (au (n26+1)) k/\o (au (n26+1)) k<o n26 g)) (aA 76 #[d] g λn34 b=>al (n34 !=0)
 (Q (.tuple #[.pointer none,n34]) b) (ao (b.alloc ga) λp=>bz p (U b) [(0:Int),(0:Int),(2:Int),.int .u64 0,.int .u64 0,(0:Int)]/\(6:Nat)=6/\ao (setCells p (U b) 0 [(0:Int),
 .int .i64 0,(2:Int),.int .u64 0,.int .u64 0,(0:Int)]) λe=>r1 e (U b) λn37=>r1 e ((U b).add 1) λn38=>r1 e ((U b).add 2) λn39=>bt e ((U b).add 3) λn40=>bt e (Addr.add
 (U b) 4) λn41=>r1 e ((U b).add 5) λC=>aA 77 #[d,.agg #[n37,n38,n39,.int .u64 n40,.int .u64 n41,C],.int .u64 1] e λq c=>al (q !=0)
 (Q (.tuple #[.pointer none,q]) c) (r1 c (U w) λD=>r1 c ((U w).add 1) λE=>bt c ((U w).add 2) λF=>r1 c (U b) λG=>r1 c ((U b).add 1) λH=>r1 c ((U
 b).add 2) λI=>bt c ((U b).add 3) λK=>bt c ((U b).add 4) λL=>r1 c ((U b).add 5) λM=>de 78 #[d,.agg #[D,E,.int .u64 F],.agg #[G,H,I,.int .u64 K,.int .u64 L,M],.int .u64 1,m] c λN O P=>Q (.tuple #[N,O]) P))))))
def ay.ke:aP:=(.s .r (.s a1 (.s .r (.s a1 (.s .r (.s a1 (.s .r (.s (.s .r (.bP (.loop [(44,(.int .i64))] [0,3,6,43] e2))) (.s (.s .r a1) (.s .r ec))))))))))
theorem af.B2(d:an ab)(a:Int)(b:Int)(c:Int)(w:J)(Q:aa->J->Prop)(h:af.ke d a b c w Q):aH ai 19 #[d,.agg #[a,b,.int .u64 c]] w Q:=okF (λw Q=>af.ke d a b c w Q) ay.ke func19 h
def af.rZ(s:an ab)(key:Y)(w:J)(Q:aa->J->Prop):Prop:=bq (λbR:ag->J->Prop=>al (Option.isNone s) (bR true w) (aG 79 #[key] w λh ah=>bR
 (!h) ah)) (λ(i:ag) a=>al i (Q (.tuple #[false,(1:Int)]) a) (∃dK:ab,s=some dK/\a7 a (dK.add 18) λj=>al j (Q (.tuple #[false,(8:Int)]) a) (∃a9:ab,s=some a9/\∃d:an ab,
 a.cell? a9=some (d)/\kN 80 #[d,key] a λo k n15 b=>al (n15 !=0) (aA 81 #[s,n15] b λn18 l=>Q (.tuple #[false,
 n18]) l) (al (!k) (Q (.tuple #[false,(0:Int)]) b) (aA 82 #[s] b λn21 c=>al (n21==0) (Q (.tuple #[false,(2:Int)]) c) (∃e:ab,s=some e/\∃f:an
 ab,c.cell? e=some (f)/\uW 83 #[f,key] c λp n27 g=>al (n27 !=0) (aA 81 #[s,n27] g λn30 m=>Q (.tuple #[false,n30]) m) (aA 84 #[s,.int .i64 (-1)] g λn33 n=>Q (.tuple #[.bool (n33==0),n33]) n)))))))
def ay.rZ:aP:=(.s .r (.s (.bP (.s (.c1 [.r,.r,.r,.split 3]) (.c (.s .r .l) a1))) (.s .r (.s (.bP (.s .r (.c (.s .r .l) dV))) (.s (.s .r a1) (.s .r (.s .r .l)))))))
theorem af.B3(s:an ab)(key:Y)(w:J)(Q:aa->J->Prop)(h:af.rZ s key w Q):aH ai 22 #[s,key] w Q:=okF (λw Q=>af.rZ s key w Q) ay.rZ func22 h
def af.my(s:an ab)(key:Y)(val:Y)(w:J)(Q:aa->J->Prop):Prop:=bq (λbR:ag->J->Prop=>al (Option.isNone s) (bR true w) (aG 79 #[key] w λh
 ah=>bR (!h) ah)) (λ(i:ag) a=>al (i||(decide ((val.len:Int)>24))) (Q (1:Int) a) (∃dK:ab,s=some dK/\a7 a (dK.add 18) λj=>al j (Q (8:Int) a) (aA 82 #[s] a λn11 b
 =>al (n11==0) (Q (2:Int) b) (∃dV:ab,s=some dV/\∃e:an ab,b.cell? dV=some (e)/\kN 80 #[e,key] b λp k n18 c=>al (n18 !=0) (aA
 81 #[s,n18] c λn21 l=>Q n21 l) (∃f:ab,s=some f/\∃g:an ab,c.cell? f=some (g)/\aA 85 #[g,key,val] c λn26 d=>al (n26 !=0) (aA 81 #[s,n26] d λn29 m=>Q n29 m) (al k (aA 84 #[s,(0:Int)] d λn32 n
 =>Q n32 n) (aA 84 #[s,(1:Int)] d λn35 o=>Q n35 o)))))))
def ay.my:aP:=(.s .r (.s (.bP (.s (.c1 [.r,.r,.r,.split 3,.r,.r,.r,.r,.pure 3]) (.c (.s .r .l) dV))) (.s .r (.s a1 (.s (.s .r a1) (.s a1 (.s .r .l)))))))
theorem af.B4(s:an ab)(key:Y)(val:Y)(w:J)(Q:aa->J->Prop)(h:af.my s key val w Q):aH ai 23 #[s,key,val] w Q:=okF (λw Q=>af.my s key val w Q) ay.my func23 h
def af.r0(s:an ab)(w:J)(Q:aa->J->Prop):Prop:=al (Option.isNone s) (Q (1:Int) w) (∃a1:ab,s=some a1/\r1 w (a1.add 17) λbc=>aA 86 #[s,bc] w
 λn5 a=>Q n5 a)
def ay.r0:aP:=c8
theorem af.B5(s:an ab)(w:J)(Q:aa->J->Prop)(h:af.r0 s w Q):aH ai 25 #[s] w Q:=okF (λw Q=>af.r0 s w Q) ay.r0 func25 h
def af.mz(s:an ab)(w:J)(Q:aa->J->Prop):Prop:=al (Option.isNone s) (Q (1:Int) w) (∃a1:ab,s=some a1/\a7 w (a1.add 18) λbM=>al bM (Q (8:Int) w) (aA 94
 #[s] w λn5 a=>Q n5 a))
def ay.mz:aP:=(.s .r (.s (.bP dV) (.s .r .l)))
theorem af.B6(s:an ab)(w:J)(Q:aa->J->Prop)(h:af.mz s w Q):aH ai 34 #[s] w Q:=okF (λw Q=>af.mz s w Q) ay.mz func34 h
def af.nV(d:an ab)(j:Int)(k:Int)(l:Int)(w:J)(Q:aa->J->Prop):Prop:=ao (w.alloc (.cells #[j,k,.int .u64 l] 46)) λw1=>
 r1 w1 (U w) λbc=>r1 w1 ((U w).add 1) λm=>bt w1 ((U w).add 2) λn=>aG 70 #[d,.agg #[bc,m,.int .u64 n]] w1 λo f=>al (!o) (Q (.tuple #[.pointer none,(1:Int)]) f) (yi 109 #[d] f λn10 n11 n12 n13 n14 n15 n16 n17 a=>ao (a.alloc ga) λg=>bz g (U a) [n10,n11,n12,.int .u64 n13,.int .u64 n14,n15]/\(6:Nat)=6
 /\ao (setCells g (U a) 0 [n10,n11,n12,.int .u64 n13,.int .u64 n14,n15]) λc=>al (n17 !=0) (Q (.tuple #[.pointer none,n17]) c) (r1 c ((U a).add 2) λn20=>de
 110 #[d,n20] c λp n24 b=>al (n24 !=0) (Q (.tuple #[.pointer none,n24]) b) (r1 b (U w) λn25=>r1 b ((U w).add 1) λn26=>bt b ((U w).add 2) λn27=>r1 b
 (U a) λn28=>r1 b ((U a).add 1) λn29=>r1 b ((U a).add 2) λn30=>bt b ((U a).add 3) λn31=>bt b ((U a).add 4) λn32=>r1 b ((U a).add 5) λn33=>de 78
 #[d,.agg #[n25,n26,.int .u64 n27],.agg #[n28,n29,n30,.int .u64 n31,.int .u64 n32,n33],.int .u64 n16,p] b λh n37 e=>al (n37 !=0) (Q
 (.tuple #[.pointer none,(4:Int)]) e) (r1 e ((U a).add 5) λn38=>aA 86 #[h,n38] e λn41 i=>al (n41 !=0) (Q (.tuple #[.pointer none,n41]) i) (Q (.tuple
 #[h,(0:Int)]) i)))))
def ay.nV:aP:=(.s .r (.s a1 (.s .r (.s a1 (.s .r (.s a1 (.s .r (.s a1 ec))))))))
def af.r2(s:an ab)(a:Y)(to:Y)(most:Int)(w:J)(Q:aa->J->Prop):Prop:=al (Option.isNone s) (Q (.tuple #[(),(1:Int)]) w) (∃a1:ab,s=some a1/\∃bj:an
 ab,w.cell? a1=some (bj)/\bW 111 #[bj,a,to,most] w λb n6 c=>Q (.tuple #[b,n6]) c)
def ay.r2:aP:=c8
theorem af.B7(s:an ab)(a:Y)(to:Y)(most:Int)(w:J)(Q:aa->J->Prop)(h:af.r2 s a to most w Q):aH ai 42 #[s,a,to,most] w Q:=okF (λw Q=>af.r2 s a to most w Q) ay.r2 func42 h
def af.r3(d:an ab)(l:Y)(w:J)(Q:aa->J->Prop):Prop:=al (Option.isNone d) (Q (.tuple #[]) w) (aW 112 #[d] w λi w1=>∃ (j:Int->J->Prop) (q:Int->J->
 Nat),j 0 w1/\∀ (n6:Int) (b:J),j n6 b->al (decide (n6<(i.len:Int))) (bq (λr:J->Prop=>∃a9:ab,i.a=some a9/\aI n6 i.len/\r1 b (a9.add (n6.toNat*1)) λn10=>bq (λs:ag->J->Prop
 =>al (decide (n6>=(l.len:Int))) (s true b) (∃dV:ab,l.a=some dV/\aI n6 l.len/\r1 b (dV.add (n6.toNat*1)) λn13=>s (decide (n13<=0)) b)) (λ(D:ag) k=>al D (r k) (∃t:ab,d=some t/\∃
 u:an Nat,k.cell? (t.add 5)=some (.map u)/\∃e:Y,∃v:J,Sem.run ai (Instr.lookup 137 (.map u) n10 false) k=.ok e v/\ao (v.drew)
 λf=>∃g:Nat->Prop,∃m:ab,d=some m/\¬g (m.add 4).block/\ak f (m.add 4) λx=>∃n:ab,l.a=some n/\aI n6 l.len/\¬g (n.add (n6.toNat*1)).block/\r1 f (n.add (n6.toNat*1))
 λn25=>∃n26:Int,∃c:J,Sem.run ai (Builtin.min_ #[3,3] 3 #[n25,.int .i64 (e.len:Int)]) f=.ok n26 c/\ae g f c/\∃o:ab,e.a=some o/\aI (au (n26-1))
 e.len/\¬g (o.add ((au (n26-1)).toNat*256)).block/\∃h:O aa,cy c (o.add ((au (n26-1)).toNat*256)) 0 256=some h/\∃p:ab,x.a=some p/\aI n10 x.len/\bz c (p.add
 (n10.toNat*256)) (Array.toList h.toArray)/\Array.size h.toArray=256/\ao (setCells c (p.add (n10.toNat*256)) 0 (Array.toList h.toArray)) λE=>r E))) (λy=>j (au (n6+1)) y/\q (au (n6+1)) y<
 q n6 b)) (∃z:ab,d=some z/\∃A:an Nat,b.cell? (z.add 5)=some (.map A)/\∃ (F:aa) (B:J),Sem.run ai (Builtin.clear_ #[137] 0 #[.map A]) b=.ok F B/\∃C:
 ab,d=some C/\aT 69 #[.pointer (some C)] B λG=>Q (.tuple #[]) G))
def ay.r3:aP:=(.s (.s .r (.c .l .l)) (.s (.s .r (.bP (.loop [(12,(.int .i64))] [0,1,10,11] (.s .r (.s (.c .l .l) (.s (.eK [] [0,1,10,11,12] (.bP (.s .r (.s (.s (.c1 [.r,.r,.r,.r,.r,.split 5]) (.c .l .l)) (.s
 .r (.cw 16 true ⟨[0,1,2,4,0,0,0,0,192,256,0,1024,2560,4096,8224,16384,65535,131071],[0,1,2,4,0,0,0,0,192,256,0,1024,2560,4096,8224,16384,24,98304]⟩ [17179869184,34359738368,68719476736,137438953472,
 274877906944,549755813888,1099511627776,2199023255552,4398046511104,8796093022208,17592186044416,35184372088832,70368744177664,140737488355328,281474976710656,562949953421312,1125899906842624,0] [1,17179869184,34359738368,
 68719476736,32,64,2,16,3298534883328,4398046511104,64,17592186044416,43980465111040,70368744177664,141287244169216,281474976710656,412316860416,1688849860263936] (.t 0 (.t 1 (.t 2 (.t 3 (.t 4 (.t 5 (.t 6 (.t 7 (.t 8 (.t 9 (.t
 10 (.t 11 (.b2 12 (.t 13 (.t 14 (.t 15 (.tail [.r,.r]))))))))))))))))))))))) .r)))))) (.s .r .r)))
def af.r4(s:an ab)(w:J)(Q:aa->J->Prop):Prop:=ao (w.alloc ga) λw1=>al (Option.isNone s) (bz w1 (U w) [(0:Int),(0:Int),(0:Int),.int .u64 0,.int .u64 0,(0:Int)]/\(6
 :Nat)=6/\ao (setCells w1 (U w) 0 [(0:Int),(0:Int),(0:Int),.int .u64 0,.int .u64 0,(0:Int)]) λah=>e0 ah w Q) (∃a9:ab,s=some a9/\r1 w1 (a9.add 7) λn10=>r1 w1 ((a9.add 7).add 1) λn11=>r1 w1
 ((a9.add 7).add 2) λn12=>bt w1 ((a9.add 7).add 3) λn13=>bt w1 ((a9.add 7).add 4) λn14=>r1 w1 ((a9.add 7).add 5) λn15=>bz w1 (U w) [n10,n11,n12,.int .u64 n13,.int .u64 n14,n15]/\(6:Nat)=6/\ao (setCells w1 (U w) 0 [n10,n11,n12,.int .u64 n13,.int .u64 n14,n15]) λa=>e0 a w Q)
def ay.r4:aP:=c8
theorem af.B8(s:an ab)(w:J)(Q:aa->J->Prop)(h:af.r4 s w Q):aH ai 46 #[s] w Q:=okF (λw Q=>af.r4 s w Q) ay.r4 func46 h
def af.r5(s:an ab)(w:J)(Q:aa->J->Prop):Prop:=bq (λbR:ag->J->Prop=>al (!(Option.isNone s)) (∃a2:ab,s=some a2/\a7 w (a2.add 18) λa=>bR a w) (bR false w)) (λ(b:
 ag) c=>Q b c)
def ay.r5:aP:=(.s .r (.s (.c1 [.r,.r,.r,.split 4]) .l))
theorem af.B9(s:an ab)(w:J)(Q:aa->J->Prop)(h:af.r5 s w Q):aH ai 48 #[s] w Q:=okF (λw Q=>af.r5 s w Q) ay.r5 func48 h
def af.r6(s:an ab)(now:Int)(w:J)(Q:aa->J->Prop):Prop:=al (Option.isNone s) (Q (1:Int) w) (∃a1:ab,s=some a1/\bt w (a1.add 14) λbc=>∃b:Int,∃c:J,Sem.run
 ai (Builtin.max_ #[27,27] 27 #[.int .u64 bc,.int .u64 now]) w=.ok (.int .u64 b) c/\∃a5:ab,s=some a5/\st c (a5.add 14) (.int .u64 b) λe=>ao (e.drew) λa=>∃dH:ab,s=some dH/\¬
 False/\r1 a (dH.add 16) λn9=>al (n9==0) (al true (Q (0:Int) a) (aA 94 #[s] a λn12 f=>Q n12 f)) (∃ec:ab,s=some ec/\¬False/\bt a (ec.add 14) λn14=>∃fy:
 ab,s=some fy/\¬False/\bt a (fy.add 15) λn16=>∃d:ab,s=some d/\¬False/\bt a ((d.add 4).add 2) λn18=>al (decide (((IntKind.wrap .u64 (n14-n16)):Int)<n18)) (Q (0:Int) a) (aA
 94 #[s] a λn21 g=>Q n21 g)))
def ay.r6:aP:=(.s .r (.s a1 (.s .r (.s (.s (.cw 20 false ⟨[0,1,2,4,8,16,32,96,160,288,32,1056,2080,4128,8736,32,32800,65568,131104,262176,540704,1048608],[0,1,2,4,8,16,32,96,160,288,32,
 1056,2080,4128,8736,32,32800,65568,131104,262176,540704,1048608]⟩ [65536,131072,262144,524288,1048576,2097152,4194304,8388608,16777216,33554432,67108864,134217728,268435456,536870912,1073741824,2147483648,
 4294967296,8589934592,17179869184,34359738368,68719476736,137438953472] [1,65536,131072,262144,524288,1048576,2097153,6291456,10485760,18874368,2097153,69206016,136314880,270532608,572522496,2097153,2149580800,
 4297064448,8592031744,17181966336,35435577344,68721573888] (.t 0 (.t 1 (.t 2 (.t 3 (.t 4 (.t 5 (.sp 21 (.t 6 (.t 7 (.t 8 (.t 9 (.t 10 (.t 11 (.t 12 (.t 13 (.t 14 (.t 15 (.t 16 (.t 17 (.t 18 (.t 19 (.tail [.r,.r]))))))))))))))) (.t 6
 (.t 7 (.t 8 (.t 9 (.t 10 (.t 11 (.t 12 (.t 13 (.t 14 (.t 15 (.t 16 (.t 17 (.t 18 (.t 19 (.tail [.r,.r]))))))))))))))))))))))) (.c (.s .r .l) .l)) (.s .r .l)))))
theorem af.B_(s:an ab)(now:Int)(w:J)(Q:aa->J->Prop)(h:af.r6 s now w Q):aH ai 51 #[s,.int .u64 now] w Q:=okF (λw Q=>af.r6 s now w Q) ay.r6 func51 h
def af.r7(s:an ab)(w:J)(Q:aa->J->Prop):Prop:=al (Option.isNone s) (Q (0:Int) w) (∃a1:ab,s=some a1/\r1 w (a1.add 16) λbc=>Q bc w)
def ay.r7:aP:=c8
theorem af.Ca(s:an ab)(w:J)(Q:aa->J->Prop)(h:af.r7 s w Q):aH ai 53 #[s] w Q:=okF (λw Q=>af.r7 s w Q) ay.r7 func53 h
def af.mA(s:an ab)(key:Y)(w:J)(Q:aa->J->Prop):Prop:=al (Option.isNone s) (Q (.tuple #[(),false,(1:Int)]) w) (∃a1:ab,s=some a1/\∃bj:an ab,w.cell? a1
 =some (bj)/\kN 80 #[bj,key] w λa b n7 c=>Q (.tuple #[a,b,n7]) c)
def ay.mA:aP:=c8
theorem af.Cb(s:an ab)(key:Y)(w:J)(Q:aa->J->Prop)(h:af.mA s key w Q):aH ai 55 #[s,key] w Q:=okF (λw Q=>af.mA s key w Q) ay.mA func55 h
def af.r8(s:an ab)(w:J)(Q:aa->J->Prop):Prop:=al (Option.isNone s) (Q (0:Int) w) (∃a1:ab,s=some a1/\r1 w (a1.add 17) λbc=>Q bc w)
def ay.r8:aP:=c8
theorem af.Cc(s:an ab)(w:J)(Q:aa->J->Prop)(h:af.r8 s w Q):aH ai 56 #[s] w Q:=okF (λw Q=>af.r8 s w Q) ay.r8 func56 h
def af.r9(s:an ab)(w:J)(Q:aa->J->Prop):Prop:=al (Option.isNone s) (Q (.int .u64 0) w) (∃a1:ab,s=some a1/\bt w (a1.add 14) λbc=>Q (.int .u64 bc) w)
def ay.r9:aP:=c8
theorem af.Cd(s:an ab)(w:J)(Q:aa->J->Prop)(h:af.r9 s w Q):aH ai 57 #[s] w Q:=okF (λw Q=>af.r9 s w Q) ay.r9 func57 h
def af.r_(s:an ab)(w:J)(Q:aa->J->Prop):Prop:=al (Option.isNone s) (Q (0:Int) w) (aA 82 #[s] w λa w1=>Q a w1)
def ay.r_:aP:=c8
theorem af.Ce(s:an ab)(w:J)(Q:aa->J->Prop)(h:af.r_ s w Q):aH ai 58 #[s] w Q:=okF (λw Q=>af.r_ s w Q) ay.r_ func58 h
def af.sd(f:an ab)(w:J)(Q:aa->J->Prop):Prop:=∃ (c:Int->J->Prop) (d:Int->J->Nat),c 0 w/\∀ (a:Int) (b:J),c a b->al (decide (a<4)) (∃a5:ab,f=some a5/\
 ((0:Int)<=a/\a<((4:Nat):Int))/\st b (Addr.add a5 (a.toNat*1)) (.int .i64 (-1)) λe=>c (au (a+1)) e/\d (au (a+1)) e<d a b) (Q (.tuple #[]) b)
def ay.sd:aP:=(.s .r (.bP (.loop [(3,(.int .i64))] [0] a2)))
def af.lA(d:an ab)(l:Int)(m:Int)(n:Int)(w:J)(Q:aa->J->Prop):Prop:=ao (w.alloc (.cells #[l,m,.int .u64 n] 46)) λw1=>
 bq (λb3:ag->J->Prop=>al (!(Option.isNone d)) (r1 w1 (U w) λo=>b3 (decide (o>=8)) w1) (b3 false w1)) (λ(p:ag) a=>bq (λg:ag->J->Prop=>al p (r1 a (U w) λn7=>g (decide (n7<=64)) a)
 (g false a)) (λ(q:ag) b=>bq (λh:ag->J->Prop=>al q (r1 b ((U w).add 1) λn11=>h (decide (n11>=1)) b) (h false b)) (λ(r:ag) c=>bq (λi:ag->J->Prop=>al r (r1 c
 ((U w).add 1) λn15=>i (decide (n15<=1000)) c) (i false c)) (λ(s:ag) e=>bq (λj:ag->J->Prop=>al s (bt e ((U w).add 2) λn19=>j (decide (n19>=1)) e) (j false e)) (λ
 (t:ag) f=>bq (λk:ag->J->Prop=>al t (bt f ((U w).add 2) λn23=>k (decide (n23<=1048576)) f) (k false f)) (λ(u:ag) v=>Q u v))))))
def ay.lA:aP:=(.s .r (.s (.c1 [.r,.r,.r,.split 3,.r,.r,.r,.r,.split 3,.r,.r,.r,.r,.split 3,.r,.r,.r,.r,.split 3,.r,.r,.r,.r,.split 3,.r,.r,.r,.r,.split 3]) .l))
def af.nW(n:Int)(first:Int)(w:J)(Q:aa->J->Prop):Prop:=aG 128 #[n] w λg w1=>al (((!g)||(decide (first<0)))||(decide (first>n))) (Q (.tuple #[.pointer none,(1:Int)])
 w1) (aA 129 #[n] w1 λn6 d=>((0:Int)<=n6/\n6<=n6/\n6<=iR/\((1:Nat):Int)*n6<=140737488355328)/\ao (d.alloc (.cells (gq ai 5 (n6.toNat)) 5)) λb=>ao (b.alloc (.cells
 #[n,.slice (some (U d)) (n6.toNat) (n6.toNat),()] 218)) λh=>∃ (c:Int->J->Prop) (e:Int->J->Nat),c 0 h/\∀ (n11:Int) (a:J),c n11 a->al (decide (n11<
 first)) (∃ec:ab,(some (U b):an ab)=some ec/\ak a (ec.add 1) λi=>aT 130 #[i,n11] a λf=>c (au (n11+1)) f/\e (au (n11+1)) f<e n11 a)
 (aT 131 #[.pointer (some (U b))] a λj=>Q (.tuple #[.pointer (some (U b)),(0:Int)]) j))
def ay.nW:aP:=(.s .r (.s (.s (.c1 [.r,.r,.r,.r,.pure 2,.r,.r,.r,.pure 3]) (.c (.s .r .l) .l)) (.s .r (.s (.s .r (.bP (.loop [(27,(.int .i64))] [6,26] a2))) (.s .r (.s .r .l))))))
def af.se(d:an ab)(w:J)(Q:aa->J->Prop):Prop:=al (Option.isNone d) (Q (0:Int) w) (∃a1:ab,d=some a1/\ak w (a1.add 4) λs2=>Q (.int .i64 (s2.len:Int)) w)
def ay.se:aP:=c8
def af.sf(no:Int)(u:Int)(v:Int)(x:Y)(w:J)(Q:aa->J->Prop):Prop:=ao (w.alloc (.cells #[u,.int .u64 v,x] 150)) λw1=>
 aG 132 #[no] w1 λy ah=>bq (λj:ag->J->Prop=>al (!y) (j true ah) (r1 ah (U w) λn6=>aG 133 #[n6] ah λz A=>j (!z) A)) (λ(B:ag) f=>al B (Q (.tuple #[(),(1:Int)]) f) (ak f ((U w).add 2) λC=>al (decide ((C.len:Int)>232)) (Q (.tuple #[(),(10:Int)]) f) (ao (f.alloc (.cells #[.int .u8 83,.int .u8 84,.int .u8 78,.int .u8 67] 5))
 λD=>∃k:Y,∃g:J,Sem.run ai (convert 48 48 (.slice (some (U f)) 4 4)) D=.ok k g/\r1 g (U w) λn16=>ao (g.alloc (.cells #[.int .u8 1,.int .u8
 (IntKind.wrap .u8 n16)] 5)) λl=>ao (l.alloc (.cells #[k,.slice (some (U g)) 2 2] 48)) λE=>aW 92 #[.slice (some (U l)) 2 2] E λF m=>ak m ((U w).add
 2) λG=>aW 126 #[F,.int .u64 (IntKind.wrap .u64 (G.len:Int)),(2:Int)] m λH I=>aW 126 #[H,.int .u64 (IntKind.wrap .u64 no),(4:Int)] I λK
 n=>bt n ((U w).add 1) λn29=>aW 126 #[K,.int .u64 n29,(8:Int)] n λo L=>bq (λp:Y->J->Prop=>ao (L.drew) λb=>∃d:Nat->Prop,¬d ((U w).add
 2).block/\ak b ((U w).add 2) λq=>¬d ((U w).add 2).block/\ak b ((U w).add 2) λe=>(((0:Int)<=4/\(4:Int)<=4/\(4:Int)<=iR/\((1:Nat):Int)*4<=140737488355328)/\ao (b.alloc (.cells
 (gq ai 5 (Int.toNat 4)) 5)) λh=>ae d b h/\(u5 e)/\ao (h.alloc (.cells (gq ai 5 ((au (232-(e.len:Int))).toNat)) 5)) λr=>ae d h r/\u6 r o b q
 h e p)/\((u5 e)/\ao (b.alloc (.cells (gq ai 5 ((au (232-(e.len:Int))).toNat)) 5)) λi=>ae d b i/\((0:Int)<=4/\(4:Int)<=4/\(4:Int)<=iR/\((1:Nat):Int)*4<=
 140737488355328)/\ao (i.alloc (.cells (gq ai 5 (Int.toNat 4)) 5)) λs=>ae d i s/\u6 s o i q b e p)) (λ(c:Y) M=>ao (M.drew) λN=>∃V:Nat->Prop,((0:Int)<=20/\
 20<=(c.len:Int))/\gj 134 #[c] N λO P=>∃W:Nat->Prop,aW 126 #[(),.int .u64 (IntKind.wrap .u64 O),(4:Int)] P λR S=>∃T:Int,∃t:J,
 Sem.run ai (Builtin.copy_ #[48,48] 3 #[.slice (aL c.a 1 (Int.toNat 20) c.cap) (c.len-(Int.toNat 20)) (c.cap-(Int.toNat 20)),R]) S=.ok T t/\Q
 (.tuple #[c,(0:Int)]) t))))
def ay.sf:aP:=(.s .r (.s (.bP (.s (.c1 [.r,.r,.r,.r,.split 4]) (.c (.s .r .l) a1))) (.s .r (.s .r (.s .r (.s .r (.s (.eK [(6,.slice)] [] (.cw 9 true ⟨[0,0,0,4,0,16,32,64,128,267,512,2047],[0,0,0,4,0,16,
 32,64,128,267,512,1025]⟩ [17592186044416,35184372088832,70368744177664,140737488355328,281474976710656,562949953421312,1125899906842624,2251799813685248,4503599627370496,9007199254740992,18014398509481984,64] [64,0,8,
 70368744177664,8,281474976710656,562949953421312,1125899906842624,2251799813685248,4697113673859072,9007199254740992,18014398509481984] (.t 0 (.t 2 (.t 3 (.t 4 (.t 5 (.t 6 (.t 7 (.two 1 (.b2 8 (.tail [.r,.r,.r])) 8 (.b2 1 (.tail
 [.r,.r,.r])))))))))))) (.s (.cw 6 true ⟨[0,1,0,4,8,24,34],[0,1,0,4,8,16,34]⟩ [36028797018963968,72057594037927936,144115188075855872,288230376151711744,576460752303423488,1152921504606846976,2305843009213693952] [64,
 36028797018963968,64,144115188075855872,288230376151711744,576460752303423488,1224979098644774912] (.t 0 (.t 1 (.t 2 (.out 3 true (.t 4 (.out 5 false (.tail [.r])))))))) (.s .r .l)))))))))
def af.pI(s:an ab)(w:J)(Q:aa->J->Prop):Prop:=al (Option.isNone s) (Q () w) (∃a1:ab,s=some a1/\ak w (a1.add 1) λs2=>aW 135 #[s2] w λa b=>Q a b)
def ay.pI:aP:=c8
theorem af.Cf(s:an ab)(w:J)(Q:aa->J->Prop)(h:af.pI s w Q):aH ai 74 #[s] w Q:=okF (λw Q=>af.pI s w Q) ay.pI func74 h
def af.sg(d:an ab)(i:Int)(b:Y)(w:J)(Q:aa->J->Prop):Prop:=aG 108 #[d,i] w λs w1=>al ((!s)||((b.len:Int) !=256)) (Q (1:Int) w1) (∃a4:ab,
 d=some a4/\aG 136 #[.pointer (some a4),(2:Int)] w1 λt n=>al t (Q (3:Int) n) (ao (n.drew) λe=>∃c:Nat->Prop,∃c8:ab,d=some c8/\¬c (c8.add 5).block/\∃h:an Nat,e.cell?
 (c8.add 5)=some (.map h)/\∃dV:ab,d=some dV/\¬c (dV.add 5).block/\∃j:an Nat,e.cell? (dV.add 5)=some (.map j)/\256<=b.len/\∃e2:ab,b.a=some e2/\¬c e2.block/\∃k:O aa,cy e
 e2 0 256=some k/\(∃o:Y,∃f:J,Sem.run ai (Instr.lookup 137 (.map j) i false) e=.ok o f/\ae c e f/\∃p:Y,∃l:J,Sem.run
 ai (Instr.buildSlice 136 1 #[(0,.agg k.toArray)]) f=.ok p l/\ae c f l/\u3 o p l c h i d Q)/\(∃q:Y,∃g:J,Sem.run ai (Instr.buildSlice
 136 1 #[(0,.agg k.toArray)]) e=.ok q g/\ae c e g/\∃r:Y,∃m:J,Sem.run ai (Instr.lookup 137 (.map j) i false) g=.ok r m/\ae c g m/\u3 r q m c h i d Q)))
def ay.sg:aP:=(.s .r (.s (.bP (.s (.c1 [.r,.r,.r,.r,.r,.pure 3]) (.c (.s .r .l) a1))) (.s (.cw 16 true ⟨[0,1,2,4,0,0,32,64,128,0,768,0,2048,4096,8192,17408,65535],[0,1,2,4,0,0,32,64,128,0,
 768,0,2048,4096,8192,17408,32792]⟩ [4194304,8388608,16777216,33554432,67108864,134217728,268435456,536870912,1073741824,2147483648,4294967296,8589934592,17179869184,34359738368,68719476736,137438953472,0] [1,4194304,
 8388608,16777216,2,1,134217728,268435456,536870912,2,3221225472,4,8589934592,17179869184,34359738368,73014444032,137539616768] (.t 0 (.t 1 (.t 2 (.t 3 (.t 4 (.t 5 (.t 6 (.t 7 (.t 8 (.t 9 (.t 11 (.t 12 (.t 13 (.two 10 (.b2 14
 (.b2 15 (.tail [.r]))) 14 (.b2 10 (.b2 15 (.tail [.r])))))))))))))))))) (.s .r (.s .r .l)))))
def af.sh(d:an ab)(w:J)(Q:aa->J->Prop):Prop:=al (Option.isNone d) (Q (1:Int) w) (∃a1:ab,d=some a1/\aG 136 #[.pointer (some a1),(3:Int)] w λj ah=>al j (Q
 (3:Int) ah) (∃a5:ab,d=some a5/\∃g:an Nat,ah.cell? (a5.add 5)=some (.map g)/\∃ (a:aa) (h:J),Sem.run ai (Instr.range 137 (.map g)) ah=.ok a h/\∃ (c:J->Prop)
 (i:J->Nat),c h/\∀ (b:J),c b->(∃ (k:aa) (l:aa) (e:J),Sem.run ai (Instr.next (a) false 0) b=.ok (.tuple #[true,k,l]) e/\al true (u0 a e d c i b) (u7 d e
 Q))\/(∃f:J,Sem.run ai (Instr.next (a) false 0) b=.ok (.tuple #[false]) f/\al false (u0 a f d c i b) (u7 d f Q))))
def ay.sh:aP:=(.s .r (.s (.bP dV) (.s (.s .r (.bP (.loop [] [0,16] (.s .r (.s (.c .l .l) (.bP (.s (.c1 [.q0 [(.one (.int .i64)),(.one .any)]]) (.cw 8 true ⟨[0,1,2,4,0,0,0,96,255,511],[0,1,2,4,0,0,0,
 96,24,384]⟩ [2097152,4194304,8388608,16777216,33554432,67108864,134217728,268435456,536870912,0] [1,2097152,4194304,8388608,8,1,8,201326592,50331648,805306368] (.t 0 (.t 1 (.t 2 (.t 3 (.t 4 (.t 5 (.t 6 (.b2 7 (.tail
 [.r,.r]))))))))))))))))) (.s .r (.s .r .l)))))
def af.lB(d:an ab)(h:Int)(i:Int)(j:Int)(k:Int)(l:Int)(m:Int)(gen:Int)(w:J)(Q:aa->J->Prop):Prop:=ao (w.alloc (.cells #[h,i,j,.int .u64 k,.int .u64 l,m] 104)) λw1=>(2:Int)≠0/\ao (w1.drew) λah=>∃b:Nat->Prop,¬b ((U w):ab).block/\r1 ah (U w) λn=>r1 ah (Addr.add
 (U w) 1) λn5=>r1 ah ((U w).add 2) λn6=>bt ah ((U w).add 3) λn7=>bt ah ((U w).add 4) λn8=>r1 ah ((U w).add 5) λn9=>aA 72 #[d] ah λn12 c=>ae b ah c/\aW
 138 #[.agg #[n,n5,n6,.int .u64 n7,.int .u64 n8,n9],n12] c λo e=>∃p:Nat->Prop,∃j_:Array aa,(∀f:J,Sem.run ai (Instr.build 150
 #[(0,.int .i64 3),(1,.int .u64 gen),(2,o)]) f=.ok (.agg j_) f)/\bW 73 #[.int .i64 (au (Int.tmod gen 2)),.agg j_] e λq n22 a=>ae p e a/\al (n22 !=0) (Q n22
 a) (aA 75 #[d,.int .i64 (au (Int.tmod gen 2)),q] a λn25 g=>al (n25 !=0) (Q n25 g) (aA 76 #[d] g λn28 r=>Q n28
 r))
def ay.lB:aP:=(.s .r (.s .r (.s (.cw 12 true ⟨[0,0,0,0,8,20,34,97,128,256,256,1023,4095],[0,0,0,0,8,20,34,65,128,256,256,512,1024]⟩ [32768,65536,131072,262144,524288,1048576,2097152,4194304,
 16384,8388608,16777216,256,512] [128,4,16,1,262144,655360,1114112,2129920,4194304,16384,16384,8388608,16777216] (.t 0 (.t 1 (.t 2 (.t 3 (.b2 4 (.out 5 true (.t 6 (.b2 7 (.t 8 (.t 9 (.t 10 (.t 11 (.tail [.r]))))))))))))))
 (.s a1 ec))))
theorem af.Cg(d:an ab)(a:Int)(b:Int)(c:Int)(e:Int)(f:Int)(g:Int)(gen:Int)(w:J)(Q:aa->J->Prop)(h:af.lB d a b c e f g gen w Q):aH ai 77 #[d,.agg #[a,b,c,.int .u64 e,.int .u64 f,g],.int .u64 gen] w Q:=okF (λw Q=>af.lB d a b c e f g gen w Q) ay.lB func77 h
set_option maxRecDepth 100000
def af.lC(d:an ab)(e:Int)(f:Int)(g:Int)(h:Int)(i:Int)(j:Int)(k:Int)(l:Int)(m:Int)(gen:Int)(s:an ab)(w:J)(Q:aa->J
 ->Prop):Prop:=ao (w.alloc (.cells #[e,f,.int .u64 g] 46)) λw1=>ao (w1.alloc (.cells #[h,i,j,.int .u64 k,.int .u64 l,
 m] 104)) λah=>r1 ah (U w) λn=>de 139 #[d,n] ah λc n7 b=>al (n7 !=0) (Q (.tuple #[.pointer none,n7]) b) (r1 b (U w1) λn8=>r1 b ((U w1).add 1)
 λn9=>de 140 #[c,s,.int .u64 (IntKind.wrap .u64 (gen+1)),n8,n9] b λo n13 a=>al (n13 !=0) (Q (.tuple #[.pointer none,n13]) a) (r1 a (U w) λn14=>r1 a
 ((U w).add 1) λn15=>bt a ((U w).add 2) λn16=>r1 a (U w1) λn17=>r1 a ((U w1).add 1) λn18=>r1 a ((U w1).add 2) λn19=>bt a ((U w1).add 3) λn20=>bt a ((U w1).add 4)
 λn21=>r1 a ((U w1).add 5) λn22=>bt a ((U w1).add 3) λn23=>r1 a ((U w1).add 5) λn24=>∃mu:Array aa,Sem.run ai (Instr.build 158 #[(0,o),(1,d),(2,
 c),(3,s),(4,.agg #[n14,n15,.int .u64 n16]),(5,.agg #[n17,n18,n19,.int .u64 n20,.int .u64 n21,n22]),(6,.int .u64 gen),(7,.int .u64 n23),(10,
 n24)]) a=.ok (.agg mu) a/\ao (a.alloc (.cells mu 158)) λp=>Q (.tuple #[.pointer (some (U a)),(0:Int)]) p))
def ay.lC:aP:=(.s .r (.s .r (.s a1 c8)))
theorem af.Ch(d:an ab)(a:Int)(b:Int)(c:Int)(e:Int)(f:Int)(g:Int)(i:Int)(j:Int)(k:Int)(gen:Int)(s:an ab)(w:J)(Q:aa->J->Prop)(h:af.lC d a b c e f g i j k gen s w Q):aH ai 78 #[d,.agg #[a,b,.int .u64 c],.agg #[e,f,g,.int .u64 i,.int .u64 j,k],.int .u64 gen,s] w Q:=okF (λw Q=>af.lC d a b c e f g i j k gen s w Q) ay.lC func78 h
def af.pJ(a:Y)(w:J)(Q:aa->J->Prop):Prop:=Q (.bool ((decide ((a.len:Int)>=1))&&(decide ((a.len:Int)<=24)))) w
def ay.pJ:aP:=a5
def af.si(t:an ab)(key:Y)(w:J)(Q:aa->J->Prop):Prop:=bq (λbR:ag->J->Prop=>al (Option.isNone t) (bR true w) (aG 141 #[key] w λn ah=>bR (!n)
 ah)) (λ(o:ag) f=>al o (al (Option.isNone t) (Q (.tuple #[(),false,(1:Int)]) f) (Q (.tuple #[(),false,(0:Int)]) f)) (bW 142 #[t,key] f λc n10 b=>al ((n10 !=0)||((c.len:Int)==0)) (Q (.tuple #[(),false,n10]) b) (∃eU:ab,c.a=some eU/\((0:Int)<=(au ((c.len:Int)-1))/\(au ((c.len:Int)-1))<
 (c.len:Int))/\a7 b ((eU.add ((au ((c.len:Int)-1)).toNat*6)).add 1) λg=>ak b (((eU.add ((au ((c.len:Int)-1)).toNat*6)).add 1).add 1) λh=>ak b (((eU.add ((au ((c.len:Int)-1)).toNat*6)).add
 1).add 2) λi=>ak b (((eU.add ((au ((c.len:Int)-1)).toNat*6)).add 1).add 3) λj=>ao (b.alloc cg) λk=>bz k (U b) [g,h,i,j]/\(4:Nat)=4/\ao (setCells k (U b) 0 [g,h,i,j]) λd=>a7 d (U b) λp=>ak d ((U b).add 1) λq=>
 ak d ((U b).add 2) λr=>ak d ((U b).add 3) λs=>j9 143 #[.agg #[p,q,r,s],key] d
 λn24 u e=>al (!u) (Q (.tuple #[(),false,(0:Int)]) e) (ak e ((U b).add 2) λl=>∃m:ab,l.a=some m/\aI n24 l.len/\ak e (m.add (n24.toNat*1)) λv=>Q (.tuple
 #[v,true,(0:Int)]) e))))
def ay.si:aP:=(.s .r (.s (.s (.c1 [.r,.r,.r,.split 3]) (.c (.s a1 (.s .r .l)) .l)) (.s .r (.s (.s (.c1 [.r,.r,.r,.pure 3]) (.c (.s .r .l) .l)) (.s .r c8)))))
def af.sj(s:an ab)(F:Int)(w:J)(Q:aa->J->Prop):Prop:=∃a1:ab,s=some a1/\st w (a1.add 18) true λah=>∃a3:ab,s=some a3/\st ah (a3.add 16) (0:Int) λn=>∃
 a5:ab,s=some a5/\∃o:an ab,n.cell? (a5.add 3)=some (o)/\aT 144 #[o] n λp=>∃a9:ab,s=some a9/\∃q:an ab,p.cell? (a9.add 2)=some (q)/\aW
 145 #[q] p λg G=>∃ (h:Int->J->Prop) (r:Int->J->Nat),h 0 G/\∀ (n16:Int) (c:J),h n16 c->al (decide (n16<(g.len:Int))) (∃t:ab,g.a=some t/\aI n16
 g.len/\r1 c (t.add (n16.toNat*1)) λn19=>∃v:ab,s=some v/\∃x:an ab,c.cell? (v.add 2)=some (x)/\aG 146 #[x,n19] c λM y=>h (au (n16+
 1)) y/\r (au (n16+1)) y<r n16 c) (bq (λz:J->Prop=>ao (c.drew) λb=>∃d:Nat->Prop,∃i:ab,s=some i/\¬d (i.add 2).block/\∃A:an ab,b.cell? (i.add 2)=some (.pointer
 A)/\∃j:ab,s=some j/\¬d (j.add 3).block/\∃B:an ab,b.cell? (j.add 3)=some (B)/\∃k:ab,s=some k/\¬d (k.add 13).block/\bt b (k.add 13) λn33=>∃l:ab,s=some
 l/\¬d (l.add 7).block/\r1 b (l.add 7) λn35=>∃m:ab,s=some m/\¬d ((m.add 7).add 1).block/\r1 b ((m.add 7).add 1) λn37=>de 140 #[A,B,.int .u64 (IntKind.wrap .u64 (n33
 +1)),n35,n37] b λH n41 e=>ae d b e/\al (n41==0) (∃f:ab,s=some f/\(∃u:aa,e.cell? f=some u)/\e.frozen? f=false/\ao (e.setCell f (H)) λI=>z
 I) (z e)) (λC=>∃D:ab,s=some D/\r1 C ((D.add 7).add 5) λK=>∃E:ab,s=some E/\st C (E.add 17) K λL=>Q F L))
def ay.sj:aP:=(.s .r (.s .r (.s .r (.s (.s .r (.bP (.loop [(26,(.int .i64))] [0,1,24,25] a2))) (.s (.eK [] [0,1] (.s (.cw 28 true ⟨[0,1,2,4,0,16,32,64,0,256,512,1024,2048,0,8192,16384,32768,65536,
 0,262144,524288,1048576,2097152,4329608,8388608,16777216,16777216,67108863,268435455],[0,1,2,4,0,16,32,64,0,256,512,1024,2048,0,8192,16384,32768,65536,0,262144,524288,1048576,2097152,4329608,8388608,
 16777216,16777216,33554432,67108864]⟩ [274877906944,549755813888,1099511627776,2199023255552,4398046511104,8796093022208,17592186044416,35184372088832,70368744177664,140737488355328,281474976710656,562949953421312,
 1125899906842624,2251799813685248,4503599627370496,9007199254740992,18014398509481984,36028797018963968,72057594037927936,144115188075855872,288230376151711744,576460752303423488,1152921504606846976,2305843009213693952,
 137438953472,4611686018427387904,9223372036854775808,128,256] [1,274877906944,549755813888,1099511627776,1,4398046511104,8796093022208,17592186044416,1,70368744177664,140737488355328,281474976710656,562949953421312,1,
 2251799813685248,4503599627370496,9007199254740992,18014398509481984,1,72057594037927936,144115188075855872,288230376151711744,576460752303423488,1190113584927997952,2305843009213693952,137438953472,137438953472,
 4611686018427387904,9223372036854775808] (.t 0 (.t 1 (.t 2 (.t 3 (.t 4 (.t 5 (.t 6 (.t 7 (.t 8 (.t 9 (.t 10 (.t 11 (.t 12 (.t 13 (.t 14 (.t 15 (.t 16 (.t 17 (.t 18 (.t 19 (.t 20 (.t 21 (.t 22 (.b2 23 (.t 24 (.t 25 (.t 26 (.t 27 (.tail
 [.r])))))))))))))))))))))))))))))) (.s .r (.c .r .l)))) (.s .r (.s .r .l)))))))
def af.sk(s:an ab)(w:J)(Q:aa->J->Prop):Prop:=∃a1:ab,s=some a1/\∃bj:an ab,w.cell? a1=some (bj)/\eT 147 #[bj] w λn5 n6 a=>∃dK:ab,s
 =some dK/\∃b:an ab,a.cell? (dK.add 3)=some (b)/\aA 148 #[b] a λn11 d=>∃n12:Int,∃c:J,Sem.run ai (Builtin.max_ #[3,3] 3 #[.int .i64 (au ((au (n11
 -(au (2*n6))))-4)),(0:Int)]) d=.ok n12 c/\Q n12 c
def ay.sk:aP:=a3
def af.sm(s:an ab)(keys:Int)(w:J)(Q:aa->J->Prop):Prop:=∃a1:ab,s=some a1/\r1 w (a1.add 17) λbc=>∃a3:ab,s=some a3/\st w (a3.add 17) (.int .i64 (au (bc+keys))) λa=>
 bq (λc:J->Prop=>∃c_:ab,s=some c_/\r1 a (c_.add 16) λn7=>al (n7==0) (∃dH:ab,s=some dH/\bt a (dH.add 14) λn9=>∃c8:ab,s=some c8/\st a (c8.add 15) (.int .u64 n9) λg=>c g) (c
 a)) (λd=>∃ec:ab,s=some ec/\r1 d (ec.add 16) λn14=>∃fy:ab,s=some fy/\st d (fy.add 16) (.int .i64 (au (n14+1))) λh=>ao (h.drew) λb=>∃e:ab,s=some e/\¬False/\r1 b
 (e.add 16) λn19=>∃f:ab,s=some f/\¬False/\r1 b ((f.add 4).add 1) λn21=>al (decide (n19>=n21)) (aA 94 #[s] b λn24 i=>Q n24 i) (Q (0:Int) b))
def ay.sm:aP:=(.s .r (.s .r (.s (.eK [] [0] (.s .r (.c .r .l))) (.s .r (.s (.s (.cw 9 false ⟨[0,1,2,4,0,16,32,64,128,264],[0,1,2,4,0,16,32,64,128,264]⟩ [4294967296,8589934592,17179869184,34359738368,
 68719476736,137438953472,274877906944,549755813888,1099511627776,2199023255552] [1,4294967296,8589934592,17179869184,1,68719476736,137438953472,274877906944,549755813888,1133871366144] (.t 0 (.t 1 (.t 2 (.t 3 (.t 4 (.t 5 (.t 6
 (.t 7 (.t 8 (.tail [.r]))))))))))) (.c (.s .r .l) .l)) (.s .r .l))))))
def af.sn(t:an ab)(key:Y)(val:Y)(w:J)(Q:aa->J->Prop):Prop:=bq (λbR:ag->J->Prop=>al (Option.isNone t) (bR true w) (aG 141 #[key] w λv ah
 =>bR (!v) ah)) (λ(x:ag) l=>al (x||(decide ((val.len:Int)>24))) (Q (1:Int) l) (ao (l.drew) λi=>∃j:Nat->Prop,∃a9:ab,t=some a9/\¬j (a9.add 1).block/\∃m:an ab,i.cell? (a9.add 1)=
 some (m)/\∃eU:ab,t=some eU/\¬j (eU.add 4).block/\r1 i (eU.add 4) λn12=>aA 148 #[m] i λn15 k=>ae j i k/\al (decide (n15<(au ((au (2*n12))+3)))) (Q (2:Int)
 k) (bW 142 #[t,key] k λb n19 c=>al (n19 !=0) (Q n19 c) (ao (c.alloc cg) λn=>bz n (U c) [true,(),(),()]/\(4:Nat)=4/\ao (setCells n (U c) 0 [true,(),(),()]) λe=>bq (λo:J->Prop=>al (decide ((b.len:Int)>0)) (∃g:ab,b.a=some g/\((0:Int)<=(au
 ((b.len:Int)-1))/\(au ((b.len:Int)-1))<(b.len:Int))/\a7 e ((g.add ((au ((b.len:Int)-1)).toNat*6)).add 1) λy=>ak e (((g.add ((au ((b.len:Int)-1)).toNat*6)).add 1).add 1) λz=>ak e
 (((g.add ((au ((b.len:Int)-1)).toNat*6)).add 1).add 2) λA=>ak e (((g.add ((au ((b.len:Int)-1)).toNat*6)).add 1).add 3) λB=>pD e c y z A B o) (o e)) (λh=>a7 h (U c) λ
 C=>ak h ((U c).add 1) λD=>ak h ((U c).add 2) λE=>ak h ((U c).add 3) λF=>nQ 151 #[.agg #[C,D,E,F],key,val] h λp q r s G d=>ao (d.alloc cg) λu=>bz u (U d) [p,q,r,
 s]/\(4:Nat)=4/\ao (setCells u (U d) 0 [p,q,r,s]) λf=>al (!G) (Q (4:Int) f) (a7 f (U d)
 λH=>ak f ((U d).add 1) λI=>ak f ((U d).add 2) λK=>ak f ((U d).add 3) λL=>aA 150 #[t,b,.agg #[H,I,K,L]] f λM N=>Q M N))))))
def ay.sn:aP:=(.s .r (.s (.bP (.s (.c1 [.r,.r,.r,.split 3,.r,.r,.r,.r,.pure 3]) (.c (.s .r .l) (.s (.cw 11 true ⟨[0,1,2,4,8,0,32,64,128,256,512,1040,2064],[0,1,2,4,8,0,32,64,128,256,512,1040,
 2048]⟩ [67108864,134217728,268435456,536870912,1073741824,2147483648,4294967296,8589934592,17179869184,34359738368,68719476736,137438953472,33554432] [1,67108864,134217728,268435456,536870912,1,2147483648,4294967296,
 8589934592,17179869184,34359738368,69793218560,137438953472] (.t 0 (.t 1 (.t 2 (.t 3 (.t 5 (.t 6 (.t 7 (.t 8 (.t 9 (.t 10 (.b2 4 (.tail [.r,.r]))))))))))))) (.c (.s .r .l) .l))))) (.s .r (.s a1 (.s .r (.s (.eK [] [0,1,2,7,9] (.s
 .r (.c .r .l))) c8))))))
def af.so(s:an ab)(keys:Int)(w:J)(Q:aa->J->Prop):Prop:=∃a1:ab,s=some a1/\∃bj:an ab,w.cell? a1=some (bj)/\yj 152 #[bj] w λi n6 n7 a
 =>al (n7==3) (Q n7 a) (∃dH:ab,s=some dH/\r1 a ((dH.add 7).add 2) λn9=>ao (a.alloc (.cells #[(0:Int),(1:Int),n9] 3)) λj=>∃b:Y,∃d:J,Sem.run ai
 (Builtin.append_ #[58,58] 58 #[i,.slice (some (U a)) 3 3]) j=.ok b d/\aT 153 #[b] d λc=>bq (λ
 e:ag->J->Prop=>al ((n7 !=0)||(n6 !=keys)) (e true c) (∃f:ab,s=some f/\∃g:an ab,c.cell? (f.add 3)=some (g)/\aW 155 #[g] c λk l=>aG
 154 #[b,k] l λm n=>e (!m) n)) (λ(o:ag) h=>al o (Q (4:Int) h) (Q (0:Int) h)))
def ay.so:aP:=(.s .r (.s .r (.s a1 (.s .r (.s .r (.s (.s (.c1 [.r,.r,.r,.pure 3,.r,.r,.r,.r,.split 8]) (.c (.s .r .l) .l)) (.s .r .l)))))))
def af.sq(parts:Y)(w:J)(Q:aa->J->Prop):Prop:=∃ (e:Y->Int->J->Prop) (h:Y->Int->J->Nat),e ⟨none,0,0⟩ 0 w/\∀ (d:Y) (b:Int) (c:J),e d b c->al (decide (b<
 (parts.len:Int))) (∃c_:ab,parts.a=some c_/\aI b parts.len/\ak c (c_.add (b.toNat*1)) λi=>∃f:Y,∃g:J,Sem.run ai (Builtin.append_ #[48,48] 48 #[d,i]) c=.ok f g/\e f (au (b+1)) g/\h f (au (b+1)) g<h d b c) (Q d c)
def ay.sq:aP:=(.s .r (.s .r (.s (.s .r (.bP (.loop [(3,.slice),(8,(.int .i64))] [6,7] a2))) (.s .r .l))))
def af.sr(s:an ab)(w:J)(Q:aa->J->Prop):Prop:=∃a1:ab,s=some a1/\∃bj:an ab,w.cell? (a1.add 3)=some (bj)/\eT 160 #[bj] w λn5 n6 y=>
 al (n6 !=0) (aA 81 #[s,n6] y λn9 ak=>Q n9 ak) (ao (y.drew) λi=>∃eU:ab,s=some eU/\¬False/\∃z:an ab,i.cell? (eU.add 3)=some (z)/\∃ec:
 ab,s=some ec/\¬False/\r1 i ((ec.add 7).add 2) λn14=>aA 161 #[z,n14] i λn17 am=>ao (am.drew) λd=>∃e:Nat->Prop,∃j:ab,s=some j/\¬e (j.add 13).block
 /\bt d (j.add 13) λn21=>∃k:ab,s=some k/\¬e (k.add 3).block/\∃A:an ab,d.cell? (k.add 3)=some (A)/\aW 74 #[A] d λap l=>ae e d l/\∃nT:
 Array aa,(∀B:J,Sem.run ai (Instr.build 150 #[(0,.int .i64 4),(1,.int .u64 (IntKind.wrap .u64 (n21+1))),(2,ap)]) B=.ok (.agg nT) B)/\bW 73 #[n5,.agg
 nT] l λaq n32 f=>ae e l f/\al (n32 !=0) (aA 81 #[s,n32] f λn35 ar=>Q n35 ar) (∃C:ab,s=some C/\∃D:an ab,f.cell? (C.add 2)=some
 (D)/\aA 162 #[D,n5,aq] f λn40 m=>al (n40 !=0) (aA 81 #[s,n40] m λau av=>Q au av) (∃E:ab,
 s=some E/\∃F:an ab,m.cell? (E.add 2)=some (F)/\aA 163 #[F] m λG n=>al (G !=0) (aA 81 #[s,G] n λaw ax=>Q aw ax) (∃H:ab,s=some H/\∃I:an ab,n.cell? H=some (I)/\eT 147 #[I] n λay az aB=>ao (aB.drew) λa=>∃g:Nat->Prop,∃o:ab,s=some o/\¬g
 (o.add 14).block/\bt a (o.add 14) λaC=>∃p:ab,s=some p/\¬g ((p.add 7).add 4).block/\bt a ((p.add 7).add 4) λaD=>∃q:ab,s=some q/\¬g (q.add 17).block/\r1 a (q.add 17) λaE=>
 ∃h:Array aa,(∀K:J,Sem.run ai (Instr.build 104 #[(0,ay),(1,az),(2,n5),(3,.int .u64 aC),(4,.int .u64 (IntKind.wrap .u64 (aD+1))),(5,aE)]) K=.ok
 (.agg h) K)/\ao (a.alloc ga) λr=>ae g a r/\bz r (U a) (Array.toList h)/\Array.size h=6/\ao (setCells r (U a) 0 (Array.toList h)) λaF=>ao (aF.drew) λb=>∃L:ab,s=some L/\
 ¬False/\∃M:an ab,b.cell? (L.add 1)=some (M)/\¬False/\r1 b (U a) λaG=>r1 b ((U a).add 1) λaH=>r1 b ((U a).add 2) λaI=>bt b ((U a).add 3) λaJ=>bt b
 ((U a).add 4) λaK=>r1 b ((U a).add 5) λaL=>∃N:ab,s=some N/\¬False/\bt b (N.add 13) λaM=>aA 77 #[M,.agg #[aG,aH,aI,.int .u64
 aJ,.int .u64 aK,aL],.int .u64 (IntKind.wrap .u64 (aM+1))] b λO t=>al (O !=0) (aA 81 #[s,O] t λaN aO=>Q aN aO) (∃P:ab,s=some P/\∃R
 :an ab,t.cell? (P.add 3)=some (R)/\aT 131 #[R] t λaP=>ao (aP.drew) λc=>∃S:Nat->Prop,¬S ((U a):ab).block/\r1 c (U a) λT=>r1 c ((U
 a).add 1) λV=>r1 c ((U a).add 2) λW=>bt c ((U a).add 3) λX=>bt c ((U a).add 4) λY=>r1 c ((U a).add 5) λZ=>∃u:ab,s=some u/\¬S (u.add 13).block/\bt
 c (u.add 13) λaQ=>∃v:ab,s=some v/\bz c (v.add 7) [T,V,W,.int .u64 X,.int .u64 Y,Z]/\(6:Nat)=6/\ao (setCells c (v.add 7) 0 [T,V,W,.int .u64 X,.int .u64 Y,Z]) λaR=>∃ac:ab,s=some ac/\st aR (ac.add 13) (.int .u64 (IntKind.wrap .u64 (aQ+1))) λaS=>∃ad:ab,s=some ad/\st aS
 (ad.add 16) (0:Int) λaU=>ao (aU.drew) λx=>∃ag:ab,s=some ag/\¬False/\∃ah:an ab,x.cell? ag=some (ah)/\∃aj:ab,s=some aj/\¬False/\bt x (aj.add 13) λ
 aV=>aT 164 #[ah,.int .u64 (IntKind.wrap .u64 (aV+1))] x λaX=>Q (0:Int) aX)))))
def ay.sr:aP:=(.s .r (.s .r (.s a1 (.s (.cw 9 false ⟨[0,1,2,4,0,16,32,64,128,264],[0,1,2,4,0,16,32,64,128,264]⟩ [33554432,67108864,134217728,268435456,536870912,1073741824,2147483648,
 4294967296,8589934592,17179869184] [1,33554432,67108864,134217728,1,536870912,1073741824,2147483648,4294967296,8858370048] (.t 0 (.t 1 (.t 2 (.t 3 (.t 4 (.t 5 (.t 6 (.t 7 (.t 8 (.tail [.r]))))))))))) (.s (.cw 17 true ⟨[0,0,2,
 4,8,16,0,64,128,256,512,1056,3073,4096,8192,8192,32767,131071],[0,0,2,4,8,16,0,64,128,256,512,1056,2049,4096,8192,8192,16384,32768]⟩ [68719476736,137438953472,274877906944,549755813888,1099511627776,
 2199023255552,4398046511104,8796093022208,17592186044416,35184372088832,70368744177664,140737488355328,281474976710656,34359738368,562949953421312,1125899906842624,32,16] [8,1,137438953472,274877906944,549755813888,
 1099511627776,1,4398046511104,8796093022208,17592186044416,35184372088832,72567767433216,140806207832064,281474976710656,34359738368,34359738368,562949953421312,1125899906842624] (.t 0 (.t 1 (.t 2 (.t 3 (.t 4 (.t 5 (.t 6 (.t 7
 (.t 8 (.t 9 (.b2 10 (.t 11 (.b2 12 (.t 13 (.t 14 (.t 15 (.t 16 (.tail [.r]))))))))))))))))))) (.s a1 (.s (.s .r a1) (.s (.s .r a1) (.s .r (.s (.cw 19 true ⟨[0,0,0,0,8,16,32,0,128,256,512,1024,2048,0,8192,16384,32768,
 69703,0,524287],[0,0,0,0,8,16,32,0,128,256,512,1024,2048,0,8192,16384,32768,69703,0,393216]⟩ [77371252455336267181195264,154742504910672534362390528,309485009821345068724781056,618970019642690137449562112,
 1237940039285380274899124224,2475880078570760549798248448,4951760157141521099596496896,9903520314283042199192993792,19807040628566084398385987584,39614081257132168796771975168,79228162514264337593543950336,
 158456325028528675187087900672,316912650057057350374175801344,633825300114114700748351602688,1267650600228229401496703205376,2535301200456458802993406410752,5070602400912917605986812821504,10141204801825835211973625643008,1024,0]
 [256,512,8,1,618970019642690137449562112,1237940039285380274899124224,2475880078570760549798248448,1,9903520314283042199192993792,19807040628566084398385987584,39614081257132168796771975168,79228162514264337593543950336,
 158456325028528675187087900672,1,633825300114114700748351602688,1267650600228229401496703205376,2535301200456458802993406410752,5393008409894303831330853486592,0,10141204801825835211973625644032] (.t 0 (.t 1 (.t 2 (.t 3 (.t 4 (.t 5
 (.t 6 (.t 7 (.t 8 (.t 9 (.t 10 (.t 11 (.t 12 (.t 13 (.t 14 (.t 15 (.t 16 (.t 17 (.b2 18 (.tail [.r]))))))))))))))))))))) (.s (.s (.cw 10 false ⟨[0,1,2,4,0,0,32,64,128,256,536,2047],[0,1,2,4,0,0,32,64,128,256,536,
 1024]⟩ [20282409603651670423947251286016,40564819207303340847894502572032,81129638414606681695789005144064,162259276829213363391578010288128,324518553658426726783156020576256,649037107316853453566312041152512,
 1298074214633706907132624082305024,2596148429267413814265248164610048,5192296858534827628530496329220096,10384593717069655257060992658440192,20769187434139310514121985316880384,2048] [1,20282409603651670423947251286016,
 40564819207303340847894502572032,81129638414606681695789005144064,1024,1,649037107316853453566312041152512,1298074214633706907132624082305024,2596148429267413814265248164610048,5192296858534827628530496329220096,
 10871371547557295347235726689304576,20769187434139310514121985316880384] (.t 0 (.t 1 (.t 2 (.t 3 (.t 4 (.t 5 (.t 6 (.t 7 (.t 8 (.t 9 (.tail [.r,.r])))))))))))) a1) (.s .r (.s (.cw 15 true ⟨[0,0,0,0,0,16,32,64,128,137,649,1161,
 4091,8187,12283,32767,65535,98303],[0,0,0,0,0,16,32,64,128,1,512,1032,2,4096,8448,4,32768,65536]⟩ [42535295865117307932921825928971026432,85070591730234615865843651857942052864,
 170141183460469231731687303715884105728,340282366920938463463374607431768211456,680564733841876926926749214863536422912,1361129467683753853853498429727072845824,2722258935367507707706996859454145691648,
 5444517870735015415413993718908291383296,10889035741470030830827987437816582766592,21778071482940061661655974875633165533184,43556142965880123323311949751266331066368,0,87112285931760246646623899502532662132736,
 174224571863520493293247799005065324265472,0,348449143727040986586495598010130648530944,696898287454081973172991196020261297061888,0] [1,1,1,1024,1,680564733841876926926749214863536422912,1361129467683753853853498429727072845824,
 2722258935367507707706996859454145691648,5444517870735015415413993718908291383296,42535295865117307932921825928971026432,21778071482940061661655974875633165533184,43896425332801061786775324358698099277824,
 85070591730234615865843651857942052864,87112285931760246646623899502532662132736,185113607604990524124075786442881907032064,170141183460469231731687303715884105728,348449143727040986586495598010130648530944,
 696898287454081973172991196020261297061888] (.t 0 (.t 1 (.t 2 (.t 3 (.t 4 (.t 5 (.t 6 (.t 7 (.t 8 (.t 9 (.t 10 (.out 11 false (.t 12 (.t 13 (.out 14 false (.tail [.r,.r,.r]))))))))))))))))) (.s (.cw 9 false ⟨[0,1,2,4,0,16,32,64,
 128,264],[0,1,2,4,0,16,32,64,128,264]⟩ [1393796574908163946345982392040522594123776,2787593149816327892691964784081045188247552,5575186299632655785383929568162090376495104,11150372599265311570767859136324180752990208,
 22300745198530623141535718272648361505980416,44601490397061246283071436545296723011960832,89202980794122492566142873090593446023921664,178405961588244985132285746181186892047843328,356811923176489970264571492362373784095686656,
 713623846352979940529142984724747568191373312] [1,1393796574908163946345982392040522594123776,2787593149816327892691964784081045188247552,5575186299632655785383929568162090376495104,1,22300745198530623141535718272648361505980416,
 44601490397061246283071436545296723011960832,89202980794122492566142873090593446023921664,178405961588244985132285746181186892047843328,367962295775755281835339351498697964848676864] (.t 0 (.t 1 (.t 2 (.t 3 (.t 4 (.t 5 (.t 6 (.t 7 (.t 8
 (.tail [.r]))))))))))) (.s .r .l)))))))))))))))
def af.su(d:an ab)(i:Int)(w:J)(Q:aa->J->Prop):Prop:=bq (λbR:ag->J->Prop=>al ((!(Option.isNone d))&&(decide (i>=0))) (∃a2:ab,d=some a2/\ak w (a2.add 4) λa=>bR
 (decide (i<(a.len:Int))) w) (bR false w)) (λ(b:ag) c=>Q b c)
def ay.su:aP:=dK
def af.nX(d:an ab)(w:J)(Q:aa->J->Prop):Prop:=ao (w.alloc ga) λw1=>∃ (j:Int->ag->Int->J->Prop) (l:Int->ag->Int->J->Nat),j 0 false 0 w1/\∀ (h:Int) (i:ag) (n6:
 Int) (a:J),j h i n6 a->al (decide (n6<2)) (bq (λk:Int->ag->J->Prop=>bW 114 #[d,n6] a λm n12 n=>al (n12 !=0) (uY n w Q n12) (aG 169
 #[m,.func (.func 170) #[] #[]] n λW o=>al (!W) (k h i o) (yk 171 #[n6,m] o λn31 n32 n33 n34 n35 n36 n37 n38 n39 c=>ao
 (c.alloc ga) λp=>bz p (U c) [n31,n32,n33,.int .u64 n34,.int .u64 n35,n36]/\(6:Nat)=6/\ao (setCells p (U c) 0 [n31,n32,n33,.int .u64
 n34,.int .u64 n35,n36]) λq=>al (n39 !=0) (uY q w Q n39) (aA 72 #[d] q λX b=>al (n37 !=X) (r1 b (U w) λr=>r1 b ((U w).add 1) λs=>r1 b ((U w).add 2)
 λt=>bt b ((U w).add 3) λu=>bt b ((U w).add 4) λv=>r1 b ((U w).add 5) λx=>bz b (U w) [r,s,t,.int .u64 u,.int .u64 v,x]/\(6
 :Nat)=6/\ao (setCells b (U w) 0 [r,s,t,.int .u64 u,.int .u64 v,x]) λe=>r1 e (U w) λY=>r1 e ((U w).add 1) λZ=>r1 e ((U w).add 2) λac
 =>bt e ((U w).add 3) λad=>bt e ((U w).add 4) λae=>r1 e ((U w).add 5) λah=>Q (.tuple #[.agg #[Y,Z,ac,.int .u64 ad,.int .u64 ae,ah],.int .u64 0,
 .int .i64 4]) e) (al ((!i)||(decide (n38>h))) (r1 b (U c) λy=>r1 b ((U c).add 1) λz=>r1 b ((U c).add 2) λA=>bt b ((U c).add 3) λB=>bt b ((U c).add 4) λC
 =>r1 b ((U c).add 5) λD=>bz b (U w) [y,z,A,.int .u64 B,.int .u64 C,D]/\(6:Nat)=6/\ao (setCells b (U w) 0 [y,z,A,.int .u64 B,.int .u64 C,D]) λai=>k n38 true ai) (k h i b)))))) (λ(E:Int) (F:ag) G=>j E F (au (n6+1)) G/\l E F (au (n6+1)) G<l h i n6 a)) (al (!i) (r1 a (U w)
 λH=>r1 a ((U w).add 1) λI=>r1 a ((U w).add 2) λK=>bt a ((U w).add 3) λL=>bt a ((U w).add 4) λM=>r1 a ((U w).add 5) λN=>bz a (U w) [H,I,K,.int .u64 L,.int .u64 M,N]/\(6:Nat)=6/\ao (setCells a (U w) 0 [H,I,K,.int .u64 L,.int .u64 M,N]) λf=>r1 f (U w) λaj=>r1
 f ((U w).add 1) λak=>r1 f ((U w).add 2) λam=>bt f ((U w).add 3) λap=>bt f ((U w).add 4) λaq=>r1 f ((U w).add 5) λar=>Q (.tuple #[.agg #[aj,ak,am,.int .u64 ap,.int .u64 aq,ar],.int .u64 0,(6:Int)]) f) (r1 a (U w) λO=>r1 a ((U w).add 1) λP=>r1 a ((U w).add 2) λR=>bt a ((U w).add 3) λS=>bt a (Addr.add
 (U w) 4) λT=>r1 a ((U w).add 5) λV=>bz a (U w) [O,P,R,.int .u64 S,.int .u64 T,V]/\(6:Nat)=6/\ao (setCells a (U w) 0 [O,P,
 R,.int .u64 S,.int .u64 T,V]) λg=>r1 g (U w) λav=>r1 g ((U w).add 1) λaw=>r1 g ((U w).add 2) λax=>bt g ((U w).add 3) λay=>bt g (Addr.add
 (U w) 4) λaz=>r1 g ((U w).add 5) λaB=>Q (.tuple #[.agg #[av,aw,ax,.int .u64 ay,.int .u64 az,aB],.int .u64 h,(0:Int)]) g))
def ay.nX:aP:=(.s .r (.s .r (.s (.s .r (.bP (.loop [(3,(.int .u64)),(5,.bool),(12,(.int .i64))] [0,2] (.s .r (.s (.c .l .l) (.s (.eK [(3,(.int .u64)),(5,.bool)] [0,2,12] (.bP (.s .r (.s .r (.s a1 (.s (.s .r (.c .l
 .l)) (.s .r (.bP (.s .r (.c (.s .r .l) (.s .r (.c (.s .r .l) (.s (.c1 [.r,.r,.r,.pure 3]) (.c .r .l)))))))))))))) .r)))))) (.s a1 (.s .r .l)))))
def af.nY(d:an ab)(no:Int)(w:J)(Q:aa->J->Prop):Prop:=bW 114 #[d,no] w λj e w1=>al (e !=0) (Q (.tuple #[.pointer none,e]) w1) (j_
 172 #[no,j] w1 λn7 n8 f n10 a=>ao (a.alloc z3) λg=>bz g (U a) [n7,.int .u64 n8,f]/\(3:Nat)=3/\ao (setCells g (U a) 0 [n7,.int .u64 n8,f]) λb=>al (n10 !=0) (Q (.tuple #[.pointer none,n10]) b) (r1 b (U a) λn13=>al (n13 !=4) (Q (.tuple #[.pointer none,(4:Int)]) b) (ao (b.drew) λc=>∃
 h:Nat->Prop,¬h ((U a).add 2).block/\ak c ((U a).add 2) λk=>aA 72 #[d] c λn19 i=>ae h c i/\de 173 #[k,n19] i λl
 n23 m=>Q (.tuple #[l,n23]) m)))
def ay.nY:aP:=(.s .r (.s .r (.s a1 (.s .r (.s a1 (.s a1 (.s (.cw 7 true ⟨[0,1,0,4,10,16,16,127,255],[0,1,0,4,10,16,16,32,64]⟩ [1073741824,2147483648,4294967296,8589934592,17179869184,34359738368,
 68719476736,16,32] [256,1073741824,1,4294967296,10737418240,17179869184,17179869184,34359738368,68719476736] (.t 0 (.t 1 (.t 2 (.b2 3 (.out 4 false (.t 5 (.t 6 (.tail [.r,.r]))))))))) .l)))))))
def af.sw(d:an ab)(w:J)(Q:aa->J->Prop):Prop:=∃a1:ab,d=some a1/\∃b:an Nat,w.cell? (a1.add 5)=some (.map b)/\yl 178 #[.map
 b] w λa c=>aW 177 #[.func (.func a.f) a.pre a.cap] c λe g=>Q e g
def ay.sw:aP:=(.s .r (.s .r .l))
def af.sx(d:an ab)(i:Int)(w:J)(Q:aa->J->Prop):Prop:=aG 108 #[d,i] w λe w1=>al (!e) (Q (.tuple #[(),(1:Int)]) w1) (∃a4:ab,d=some
 a4/\aG 136 #[.pointer (some a4),(1:Int)] w1 λf b=>al f (Q (.tuple #[(),(3:Int)]) b) (rD 137 #[d,i] b λgj a=>ao (a.alloc z4) λc=>bz c (U
 a) (Array.toList gj)/\Array.size gj=256/\ao (setCells c (U a) 0 (Array.toList gj)) λg=>Q (.tuple #[.slice (aL (some (U a)) 1 0 256) (256-0) (256-0),(0:Int)]) g))
def ay.sx:aP:=(.s .r (.s (.bP dV) (.s .r (.s .r .l))))
def af.gR(b:Y)(n:Int)(size:Int)(w:J)(Q:aa->J->Prop):Prop:=aW 135 #[b] w λg w1=>aG 192 #[size] w1 λj h=>al (!j) (Q g h) (∃ (d:Y->Int->J->Prop) (i:Y->Int->J->Nat),d g (au (size-1)) h/\∀ (c:Y) (n10:Int) (a:J),d c n10 a->al (decide (n10>=0)) ((0:Int)<=(au (8*n10))/\ao (a.alloc (.cells
 #[.int .u8 (IntKind.wrap .u8 (Int.fdiv n (2^(min ((au (8*n10)).toNat) 64))))] 5)) λk=>∃e:Y,∃f:J,Sem.run ai (Builtin.append_ #[48,48] 48 #[c,
 .slice (some (U a)) 1 1]) k=.ok e f/\d e (au (n10-1)) f/\i e (au (n10-1)) f<i c n10 a) (Q c a))
def ay.gR:aP:=(.s .r (.s .r (.s a1 (.s (.s .r (.bP (.loop [(7,.slice),(8,(.int .i64))] [1] (.s (.s .r (.c .l .l)) (.s (.bP .r) .r))))) (.s .r .l)))))
def af.sy(n:Int)(w:J)(Q:aa->J->Prop):Prop:=Q (.bool ((decide (n>=1))&&(decide (n<=1600)))) w
def ay.sy:aP:=a4
def af.sA(n:Int)(w:J)(Q:aa->J->Prop):Prop:=(8:Int)≠0/\Q (.int .i64 (au (Int.tdiv (au ((au (n+8))-1)) 8))) w
def ay.sA:aP:=(.s .r (.s .r .l))
def af.sB(s:Y)(no:Int)(w:J)(Q:aa->J->Prop):Prop:=ao (w.drew) λw1=>(8:Int)≠0/\∃a2:ab,s.a=some a2/\aI (au (Int.tdiv no 8)) s.len/\¬False/\b4 w1 (a2.add ((au (Int.tdiv no
 8)).toNat*1)) λb=>(8:Int)≠0/\(0:Int)<=(Int.tmod no 8)/\∃a4:ab,s.a=some a4/\aI (au (Int.tdiv no 8)) s.len/\st w1 (a4.add ((au (Int.tdiv no 8)).toNat*1)) (.int .u8 (ll .u8 b (IntKind.wrap .u8 (1*2^(min
 ((Int.tmod no 8).toNat) 8))))) λc=>Q (.tuple #[]) c
def ay.sB:aP:=(.cw 8 false ⟨[0,0,2,5,8,0,32,64,144,511,1023],[0,0,2,5,8,0,32,64,144,5,768]⟩ [16,32,64,128,256,512,1024,2048,4096,8192,0] [1,2,32,80,128,2,512,1024,2304,80,12288] (.t 0
 (.t 1 (.t 2 (.t 3 (.t 4 (.t 5 (.t 6 (.t 7 (.tail [.r,.r,.r]))))))))))
def af.pK(s:an ab)(w:J)(Q:aa->J->Prop):Prop:=al (!(Option.isNone s)) (∃a1:ab,s=some a1/\ak w (a1.add 1) λs2=>aW 194 #[s2] w λa
 b=>∃c_:ab,s=some c_/\st b (c_.add 2) a λc=>Q (.tuple #[]) c) (Q (.tuple #[]) w)
def ay.pK:aP:=(.s .r (.c .r .l))
theorem af.Ci(s:an ab)(w:J)(Q:aa->J->Prop)(h:af.pK s w Q):aH ai 131 #[s] w Q:=okF (λw Q=>af.pK s w Q) ay.pK func131 h
def af.sC(no:Int)(w:J)(Q:aa->J->Prop):Prop:=Q (.bool ((decide (no>=0))&&(decide (no<1600)))) w
def ay.sC:aP:=a4
theorem af.yp(no:Int)(w:J)(Q:aa->J->Prop)(h:af.sC no w Q):aH ai 132 #[no] w Q:=okF (λw Q=>af.sC no w Q) ay.sC func132 h
def af.sD(a:Int)(w:J)(Q:aa->J->Prop):Prop:=Q (.bool ((decide (a>=1))&&(decide (a<=4)))) w
def ay.sD:aP:=a4
theorem af.yq(a:Int)(w:J)(Q:aa->J->Prop)(h:af.sD a w Q):aH ai 133 #[a] w Q:=okF (λw Q=>af.sD a w Q) ay.sD func133 h
def af.mB(b:Y)(w:J)(Q:aa->J->Prop):Prop:=ao (w.drew) λw1=>((0:Int)<=20/\20<=(b.cap:Int))/\((0:Int)<=24/\24<=(b.len:Int))/\ao (w1.alloc (.cells #[.slice (aL b.a 1 0 b.cap)
 ((Int.toNat 20)-0) (b.cap-0),.slice (aL b.a 1 (Int.toNat 24) b.cap) (b.len-(Int.toNat 24)) (b.cap-(Int.toNat 24))] 48)) λah=>gj 195 #[.slice (some (U w1)) 2 2] ah λn5 c=>Q (.int .u32 n5) c
def ay.mB:aP:=(.s .r (.s (.cw 4 false ⟨[0,1,0,4,10,16,63],[0,1,0,4,10,16,32]⟩ [8,16,32,64,128,256,4] [1,8,1,32,80,128,256] (.t 0 (.t 1 (.t 2 (.t 3 (.tail [.r,.r,.r])))))) .l))
def af.sE(f:an ab)(a:Int)(w:J)(Q:aa->J->Prop):Prop:=∃a1:ab,f=some a1/\((0:Int)<=a/\a<((4:Nat):Int))/\r1 w (Addr.add a1 (a.toNat*1)) λbc=>al (bc==
 (-1)) (Q false w) (al (bc==0) (∃a3:ab,f=some a3/\((0:Int)<=a/\a<((4:Nat):Int))/\st w (Addr.add a3 (a.toNat*1)) (.int .i64 (-1)) λc=>Q true c) (ao (w.drew) λb=>∃c_:ab,f
 =some c_/\((0:Int)<=a/\a<((4:Nat):Int))/\¬False/\r1 b (Addr.add c_ (a.toNat*1)) λn7=>∃dH:ab,f=some dH/\((0:Int)<=a/\a<((4:Nat):Int))/\st b (Addr.add dH (a.toNat*1))
 (.int .i64 (au (n7-1))) λd=>Q false d))
def ay.sE:aP:=(.s .r (.s (.s .r (.bP (.s .r (.c (.s .r .l) (.s .r c_))))) (.s (.cw 7 false ⟨[0,0,1,6,8,16,1,127,191],[0,0,1,6,8,16,1,66,160]⟩ [262144,524288,1048576,2097152,4194304,8388608,16777216,
 33554432,0] [1,2,262144,1572864,2097152,4194304,262144,17301504,41943040] (.t 0 (.t 1 (.t 2 (.t 3 (.t 4 (.t 5 (.t 6 (.tail [.r,.r]))))))))) (.s .r .l))))
set_option maxRecDepth 100000
def af.sF(d:an ab)(i:Int)(w:J)(Q:aa->J->Prop):Prop:=ao (w.alloc z4) λw1=>∃a2:ab,d=some a2/\∃e:an Nat,w1.cell? (a2.add 5)=some (.map e)/\∃b:Y,∃c:J,
 Sem.run ai (Instr.lookup 137 (.map e) i false) w1=.ok b c/\al (decide ((b.len:Int)>0)) (∃c_:ab,b.a=some c_/\((0:Int)<=(au ((b.len:Int)-1))/\(au
 ((b.len:Int)-1))<(b.len:Int))/\∃f:O aa,cy c (c_.add ((au ((b.len:Int)-1)).toNat*256)) 0 256=some f/\u_ c w f Q) (∃c8:ab,d=some c8/\ak c (c8.add 4) λg=>rC g i c 256 λh=>
 u_ c w h Q)
def ay.sF:aP:=(.s .r ec)
def af.nZ(f:Int)(g:Int)(h:Int)(i:Int)(j:Int)(k:Int)(l:Int)(w:J)(Q:aa->J->Prop):Prop:=ao (w.alloc (.cells #[f,g,h,.int .u64 i,.int .u64 j,k] 104)) λw1=>r1 w1 (U w) λbc=>aW 126 #[(),.int .u64 (IntKind.wrap .u64 bc),(4:Int)] w1 λm a=>r1 a ((U w).add 1)
 λn6=>aW 126 #[m,.int .u64 (IntKind.wrap .u64 n6),(1:Int)] a λn b=>r1 b ((U w).add 2) λn10=>aW 126 #[n,.int .u64 (IntKind.wrap .u64 n10),(4:Int)] b λo p=>aW 126 #[o,.int .u64 (IntKind.wrap .u64 l),(4:Int)] p λq c=>bt c ((U w).add 3) λn17=>aW 126 #[q,.int .u64 n17,(8:Int)] c λr d=>bt d ((U w).add 4) λn21=>aW 126 #[r,.int .u64 n21,(8:Int)] d λs e=>r1 e ((U w).add 5) λn25=>aW 126 #[s,
 .int .u64 (IntKind.wrap .u64 n25),(4:Int)] e λt u=>Q t u
def ay.nZ:aP:=(.s .r (.s .r (.s .r (.s .r (.s .r a3)))))
def af.n0(d:an ab)(aj:Int)(w:J)(Q:aa->J->Prop):Prop:=al (((Option.isNone d)||(decide (aj<8)))||(decide (aj>64))) (Q (.tuple #[.pointer none,(1:Int)]) w) (((0:Int)<=aj
 /\aj<=aj/\aj<=iR/\((48:Nat):Int)*aj<=140737488355328)/\ao (w.alloc (.cells (gq ai 288 (aj.toNat)) 288)) λw1=>ao (w1.alloc (.cells #[d,.slice (some (U w))
 (aj.toNat) (aj.toNat),(0:Int)] 281)) λah=>Q (.tuple #[.pointer (some (U w1)),(0:Int)]) ah)
def ay.n0:aP:=(.s .r (.s (.s (.c1 [.r,.r,.r,.pure 2,.r,.r,.r,.pure 2]) (.c (.s .r .l) .l)) (.s .r .l)))
def af.mC(c:an ab)(s:an ab)(gen:Int)(root:Int)(aD:Int)(w:J)(Q:aa->J->Prop):Prop:=bq (λbR:ag->J->Prop=>al (((((Option.isNone c)||(Option.isNone s))||(decide
 (aD<0)))||(decide (aD>12)))||(decide (root<0))) (bR true w) (∃a2:ab,c=some a2/\∃b:an ab,w.cell? a2=some (b)/\aA 72 #[b] w λn6 d=>bR (decide (root>=n6)) d))
 (λ(e:ag) a=>al (e||(!((root==0)==(aD==0)))) (Q (.tuple #[.pointer none,(1:Int)]) a) (ao (a.alloc (.cells #[c,s,.int .u64 gen,root,aD] 239)) λf=>Q
 (.tuple #[.pointer (some (U a)),(0:Int)]) f))
def ay.mC:aP:=(.s .r (.s (.s (.c1 [.r,.r,.r,.pure 2,.r,.r,.r,.pure 2,.r,.r,.r,.pure 2,.r,.r,.r,.pure 2,.r,.r,.r,.split 7,.r,.r,.r,.r,.r,.r,.r,.r,.pure 5]) (.c (.s .r .l) .l)) (.s .r .l)))
def af.mD(a:Y)(w:J)(Q:aa->J->Prop):Prop:=Q (.bool ((decide ((a.len:Int)>=1))&&(decide ((a.len:Int)<=24)))) w
def ay.mD:aP:=a5
def af.sG(t:an ab)(key:Y)(w:J)(Q:aa->J->Prop):Prop:=∃a1:ab,t=some a1/\r1 w (a1.add 3) λbc=>∃a3:ab,t=some a3/\r1 w (a3.add 4) λA=>∃ (h:Y->Int->Int->J->
 Prop) (k:Y->Int->Int->J->Nat),h ⟨none,0,0⟩ bc A w/\∀ (e:Y) (n8:Int) (n9:Int) (f:J),h e n8 n9 f->al (decide (n9>0)) (jJ 196 #[t,n8,.bool (n9==1)] f λl m
 n o n17 c=>ao (c.alloc cg) λp=>bz p (U c) [l,m,n,o]/\(4:Nat)=4/\ao (setCells p (U c) 0 [l,m,n,o]) λb=>al (n17 !=0) (Q (.tuple #[(),n17]) b) (a7 b (U c) λB=>ak b ((U c).add 1) λC=>ak b
 ((U c).add 2) λD=>ak b ((U c).add 3) λE=>∃fo:Array aa,Sem.run ai (Instr.build 232 #[(0,n8),(1,.agg #[B,C,D,
 E])]) b=.ok (.agg fo) b/\ao (b.alloc (.cells #[(0:Int),false,(),(),(),(0:Int)] 232)) λq=>bz q (U b) (Array.toList fo)
 /\Array.size fo=6/\ao (setCells q (U b) 0 (Array.toList fo)) λd=>bq (λr:Int->J->Prop=>al (decide (n9>1)) (a7 d (U c) λF=>ak d ((U c).add 1) λG=>ak d ((U c).add 2) λ
 H=>ak d ((U c).add 3) λI=>aA 197 #[.agg #[F,G,H,I],key] d λn34 K=>st K (Addr.add
 (U b) 5) n34 λg=>ak g ((U c).add 3) λs=>r1 g ((U b).add 5) λn37=>∃u:ab,s.a=some u/\aI n37 s.len/\r1 g (u.add (n37.toNat*1)) λn39=>r n39 g) (r n8
 d)) (λ(n40:Int) v=>∃x:O aa,cy v (U b) 0 6=some x/\∃y:Y,∃z:J,Sem.run ai (Instr.buildSlice 228 1 #[(0,.agg x.toArray)]) v=.ok y z
 /\∃i:Y,∃j:J,Sem.run ai (Builtin.append_ #[228,228] 228 #[e,y]) z=.ok i j/\h i n40 (au
 (n9-1)) j/\k i n40 (au (n9-1)) j<k e n8 n9 f))) (Q (.tuple #[e,(0:Int)]) f)
def ay.sG:aP:=(.s .r (.s .r (.s .r (.s (.s .r (.bP (.loop [(6,.slice),(7,(.int .i64)),(8,(.int .i64))] [0,1] (.s (.s .r (.c .l .l)) (.s (.bP (.s .r (.s a1 (.s .r (.s (.eK [(7,(.int .i64))] [0,1,6,8,11] (.s .r (.c
 (.s .r .r) .l))) .r))))) .r))))) (.s .r .l)))))
def af.n1(a:ag)(b:Y)(c:Y)(d:Y)(key:Y)(w:J)(Q:aa->J->Prop):Prop:=ao (w.alloc (.cells #[a,b,c,d] 202)) λw1=>a7 w1 (U w) λbM=>ak w1 ((U w).add 1) λe=>ak w1 ((U w).add 2) λf=>ak w1 ((U w).add 3) λg=>j9 198 #[.agg #[bM,
 e,f,g],key] w1 λn8 h i=>Q (.tuple #[n8,h]) i
def ay.n1:aP:=(.s .r (.s .r .l))
def af.pL(s:an ab)(w:J)(Q:aa->J->Prop):Prop:=al (!(Option.isNone s)) (∃a1:ab,s=some a1/\ak w (a1.add 2) λs2=>aW 194 #[s2] w λa
 b=>∃c_:ab,s=some c_/\st b (c_.add 1) a λc=>Q (.tuple #[]) c) (Q (.tuple #[]) w)
def ay.pL:aP:=(.s .r (.c .r .l))
theorem af.Cj(s:an ab)(w:J)(Q:aa->J->Prop)(h:af.pL s w Q):aH ai 144 #[s] w Q:=okF (λw Q=>af.pL s w Q) ay.pL func144 h
def af.sH(c:an ab)(w:J)(Q:aa->J->Prop):Prop:=aW 199 #[c,.func (.func 200) #[] #[]] w λa w1=>Q a w1
def ay.sH:aP:=(.s .r (.s .r .l))
def af.sI(c:an ab)(no:Int)(w:J)(Q:aa->J->Prop):Prop:=jK 201 #[c,no] w λa w1=>bq (λd:ag->J->Prop=>al (Option.isNone a) (d true w1) (∃
 a5:ab,a=some a5/\r1 w1 (a5.add 4) λn6=>d (decide (n6>0)) w1)) (λ(e:ag) b=>al e (Q false b) (∃a9:ab,a=some a9/\bz b a9 [false,false,false,(0:Int),(0:Int),
 ()]/\(6:Nat)=6/\ao (setCells b a9 0 [false,false,false,(0:Int),(0:Int),()]) λf=>Q true f))
def ay.sI:aP:=(.s .r (.s .r (.s (.s (.c1 [.r,.r,.r,.split 5]) (.c (.s .r .l) .l)) (.s .r (.s .r .l)))))
def af.sJ(t:an ab)(w:J)(Q:aa->J->Prop):Prop:=al (Option.isNone t) (Q (.tuple #[(0:Int),(0:Int)]) w) (ao (w.drew) λw1=>∃a2:ab,t=some a2/\¬False/\r1 w1 (a2.add 3) λa=>∃
 a4:ab,t=some a4/\¬False/\r1 w1 (a4.add 4) λn5=>Q (.tuple #[a,n5]) w1)
def ay.sJ:aP:=(.s .r (.s a1 (.s (.cw 9 false ⟨[0,1,2,4,0,16,32,64,15,511],[0,1,2,4,0,16,32,64,8,128]⟩ [64,128,256,512,1024,2048,4096,8192,4,8] [1,64,128,256,1,1024,2048,4096,512,8192] (.t
 0 (.t 1 (.t 2 (.t 3 (.t 4 (.t 5 (.t 6 (.t 7 (.t 8 (.tail [.r]))))))))))) .l)))
def af.pM(s:an ab)(w:J)(Q:aa->J->Prop):Prop:=al (Option.isNone s) (Q (0:Int) w) (∃a1:ab,s=some a1/\r1 w a1 λbc=>∃a3:ab,s=some a3/\ak w (a3.add 1) λl=>∃ (e:
 Int->Int->J->Prop) (i:Int->Int->J->Nat),e bc 0 w/\∀ (n7:Int) (n8:Int) (d:J),e n7 n8 d->al (decide (n8<(l.len:Int))) (ao (d.drew) λb=>∃c:Nat->Prop,∃dV:ab,s=some dV/\¬c
 (dV.add 1).block/\ak b (dV.add 1) λj=>∃e2:ab,j.a=some e2/\aI n8 j.len/\¬c (e2.add (n8.toNat*1)).block/\b4 b (e2.add (n8.toNat*1)) λn15=>∃f:ab,s=some f/\¬c (f.add
 2).block/\ak b (f.add 2) λk=>∃g:ab,k.a=some g/\aI n8 k.len/\¬c (g.add (n8.toNat*1)).block/\b4 b (g.add (n8.toNat*1)) λn19=>aA 202 #[.int .u8 (ll .u8 n15 n19)] b
 λn22 h=>ae c b h/\e (au (n7-n22)) (au (n8+1)) h/\i (au (n7-n22)) (au (n8+1)) h<i n7 n8 d) (Q n7 d))
def ay.pM:aP:=(.s .r (.s a1 (.s .r (.s (.s .r (.bP (.loop [(3,(.int .i64)),(16,(.int .i64))] [0,15] (.s .r (.s (.c .l .l) (.s (.bP (.s .r (.cw 17 true ⟨[0,0,2,4,8,0,48,64,0,256,512,1024,0,6144,8192,
 16512,32768,65537,262143],[0,0,2,4,8,0,48,64,0,256,512,1024,0,6144,8192,16512,32768,65537,131073]⟩ [524288,1048576,2097152,4194304,8388608,16777216,33554432,67108864,134217728,268435456,536870912,1073741824,
 2147483648,4294967296,8589934592,17179869184,34359738368,68719476736,8] [8,1,1048576,2097152,4194304,16,25165824,33554432,1,134217728,268435456,536870912,16,3221225472,4294967296,8657043456,17179869184,34360262656,
 68719476736] (.t 0 (.t 1 (.t 2 (.t 3 (.t 4 (.t 5 (.t 6 (.t 7 (.t 8 (.t 9 (.t 10 (.t 11 (.t 12 (.t 13 (.t 14 (.t 15 (.b2 16 (.tail [.r,.r]))))))))))))))))))))) .r)))))) (.s .r .l)))))
theorem af.Ck(s:an ab)(w:J)(Q:aa->J->Prop)(h:af.pM s w Q):aH ai 148 #[s] w Q:=okF (λw Q=>af.pM s w Q) ay.pM func148 h
def af.pN(t:an ab)(gS:Y)(r:ag)(s:Y)(u:Y)(v:Y)(w:J)(Q:aa->J->Prop):Prop:=ao (w.alloc (.cells #[r,s,u,v] 202)) λw1=>ao (w1.alloc (.cells #[(0:Int)] 34)) λah=>ao (ah.drew) λc=>∃g:Nat->Prop,∃
 a5:ab,t=some a5/\¬g (a5.add 1).block/\∃h:an ab,c.cell? (a5.add 1)=some (h)/\∃dK:ab,t=some dK/\¬g (dK.add 4).block/\r1 c (dK.add 4) λn8=>aA 148 #[h] c λn11 d
 =>ae g c d/\al (decide (n11<(au ((au (2*n8))+3)))) (st d (U w1) (2:Int) λi=>r1 i (U w1) λn13=>Q n13 i) (ao (d.alloc (.cells #[t,(),()] 297))
 λa=>ao (a.alloc (.cells #[.pointer none] 295)) λx=>st x (U a) (.pointer (some (U d))) λb=>∃j:an ab,b.cell? (U a)=some (j)/\a7 b (U w) λy=>ak b (Addr.add
 (U w) 1) λz=>ak b ((U w).add 2) λA=>ak b ((U w).add 3) λB=>nR 208 #[j,gS,.agg #[y,z,A,B]] b λn24 n25 n26 C=>st C (U w1) n26 λe=>r1 e (U w1) λn28=>al (n28 !=0) (r1 e (U w1) λn29=>st e (U w1) n29 λD=>nO ai
 206 #[.pointer (some (U w1)),.pointer (some (U a))] D λk=>r1 k (U w1) λn32=>Q n32 k) (ao (e.drew) λf=>¬False/\∃l:an ab,f.cell? (U a)=some (l)/\¬
 False/\∃m:an ab,f.cell? (U a)=some (m)/\∃n:ab,m=some n/\¬False/\ak f (n.add 2) λE=>aT 207 #[l,E] f λF=>∃o:ab,
 t=some o/\st F (o.add 3) n24 λG=>∃p:ab,t=some p/\st G (p.add 4) n25 λH=>st H (U w1) (0:Int) λI=>nO ai 206 #[.pointer (some (U w1)),
 .pointer (some (U a))] I λq=>r1 q (U w1) λK=>Q K q))
def ay.pN:aP:=(.s .r (.s (.s (.cw 11 true ⟨[0,1,2,4,8,0,32,64,128,256,512,1040],[0,1,2,4,8,0,32,64,128,256,512,1040]⟩ [1024,2048,4096,8192,16384,32768,65536,131072,262144,524288,1048576,
 2097152] [1,1024,2048,4096,8192,1,32768,65536,131072,262144,524288,1064960] (.t 0 (.t 1 (.t 2 (.t 3 (.t 5 (.t 6 (.t 7 (.t 8 (.t 9 (.t 10 (.b2 4 (.tail [.r]))))))))))))) (.c (.s .r .l) .l)) (.s .r (.s .l (.s .r (.s a1 (.s (.cw 5
 false ⟨[0,0,2,4,8,17],[0,0,2,4,8,17]⟩ [137438953472,274877906944,549755813888,1099511627776,2199023255552,4398046511104] [128,128,274877906944,549755813888,1099511627776,2336462209024] (.t 0 (.t 1 (.t 2 (.t 3 (.t 4
 (.tail [.r]))))))) (.s .r (.s .r .l)))))))))
theorem af.Cl(t:an ab)(gS:Y)(a:ag)(b:Y)(c:Y)(d:Y)(w:J)(Q:aa->J->Prop):af.pN t gS a b c d w Q=uP ai tk ay.pN Tryz.f150 [t,gS,.agg #[a,b,c,d]] w Q:=by kernel_rfl
theorem af.Cm(t:an ab)(gS:Y)(a:ag)(b:Y)(c:Y)(d:Y)(w:J)(Q:aa->J->Prop)(h:af.pN t gS a b c d w Q):Calls ai 150 #[t,gS,.agg #[a,b,c,d]] w λe w1=>∃v,e=.returned v/\Q v w1:=
 BO uV func150 (by kernel_rfl) (Eq.mp (af.Cl t gS a b c d w Q) h)
def af.n2(B:ag)(C:Y)(D:Y)(E:Y)(key:Y)(val:Y)(w:J)(Q:aa->J->Prop):Prop:=ao (w.alloc (.cells #[B,C,D,E] 202)) λw1=>ao (w1.alloc cg) λah=>a7 ah (U w) λF=>bq (λG:ag->J->Prop=>rJ F G ah w) (λ(H:ag) m=>bq (λn:ag->J
 ->Prop=>al H (n true m) (aG 209 #[key] m λI K=>n (!I) K)) (λ(L:ag) c=>al (L||(decide ((val.len:Int)>24))) (bz c (U w1) [false,(),
 (),()]/\(4:Nat)=4/\ao (setCells c (U w1) 0 [false,(),(),()]) λM=>ix M w1 Q) (a7 c (U w) λN=>ak c ((U w).add 1) λO=>ak c
 ((U w).add 2) λP=>ak c ((U w).add 3) λR=>f_ 204 #[.agg #[N,O,P,R]] c λo p q r b=>ao (b.alloc
 cg) λs=>bz s (U b) [o,p,q,r]/\(4:Nat)=4/\ao (setCells s (U b) 0 [o,p,q,r]) λd=>a7 d (U w) λS=>ak d ((U w).add 1) λT=>ak d ((U w).add 2) λV=>ak d ((U w).add 3) λW=>j9 198 #[.agg #[S,T,V,W],key] d λe X t=>al X (ao (t.drew) λh=>∃u:Nat->Prop,¬u ((U b).add 2).block/\ak h
 ((U b).add 2) λv=>aW 135 #[val] h λZ x=>ae u h x/\∃y:ab,v.a=some y/\aI e v.len/\st x (y.add (e.toNat*1)) Z λac=>dg ac b w1 Q) (ao (t.drew) λi=>∃j:Nat->Prop,¬j ((U b).add 1).block/\ak i ((U b).add 1) λad=>aW 135 #[key] i λ
 ai f=>ae j i f/\ao (f.alloc (.cells #[ai] 48)) λz=>ae j f z/\aW 210 #[ad,e,.slice (some (U f)) 1 1]
 z λaj am=>st am ((U b).add 1) aj λan=>ao (an.drew) λk=>∃l:Nat->Prop,¬l ((U b).add 2).block/\ak k ((U b).add 2) λap=>aW
 135 #[val] k λaq g=>ae l k g/\ao (g.alloc (.cells #[aq] 48)) λA=>ae l g A/\aW 210 #[ap,e,.slice (some (U g)) 1 1] A λar au=>st au ((U b).add 2) ar λav=>dg av b w1 Q))))
def ay.n2:aP:=(.s .r (.s (.s (.c1 [.r,.r,.r,.r,.split 3,.r,.r,.r,.r,.split 3,.r,.r,.r,.r,.pure 3]) (.c (.s .r .l) .l)) (.s .r (.s .r (.s (.s .r (.c (.s (.cw 5 true ⟨[0,1,0,0,8,31,63],[0,1,0,0,8,6,48]⟩
 [549755813888,1099511627776,2199023255552,4398046511104,8796093022208,17592186044416,0] [256,549755813888,512,4,4398046511104,3298534883328,26388279066624] (.t 0 (.t 1 (.t 2 (.t 3 (.b2 4 (.tail [.r,.r]))))))) (.s .r .l)) .l))
 (.s (.cw 6 true ⟨[0,1,0,0,8,16,54,127,255],[0,1,0,0,8,16,38,0,192]⟩ [70368744177664,140737488355328,281474976710656,562949953421312,1125899906842624,2251799813685248,4503599627370496,9007199254740992,0] [256,
 70368744177664,512,2,562949953421312,1125899906842624,2674012278751232,256,13510798882111488] (.t 0 (.t 1 (.t 2 (.t 3 (.b2 4 (.b2 5 (.tail [.r,.r,.r])))))))) (.s (.cw 6 true ⟨[0,1,0,0,8,16,54,127,255],[0,1,0,0,8,
 16,38,0,192]⟩ [18014398509481984,36028797018963968,72057594037927936,144115188075855872,288230376151711744,576460752303423488,1152921504606846976,2305843009213693952,0] [256,18014398509481984,512,4,144115188075855872,
 288230376151711744,684547143360315392,256,3458764513820540928] (.t 0 (.t 1 (.t 2 (.t 3 (.b2 4 (.b2 5 (.tail [.r,.r,.r])))))))) (.s .r .l))))))))
def af.sK(t:an ab)(w:J)(Q:aa->J->Prop):Prop:=al (Option.isNone t) (Q (.tuple #[(),(0:Int),(1:Int)]) w) (ao (w.alloc (.cells #[t,(),(0:Int)]
 303)) λw1=>bq (λb3:J->Prop=>∃a3:ab,t=some a3/\r1 w1 (a3.add 4) λg=>al (decide (g>0)) (ao (w1.drew) λa=>∃c_:ab,t=some c_/\¬False/\r1 a (c_.add 3) λn7=>∃dH:ab,t=some
 dH/\¬False/\r1 a (dH.add 4) λn9=>aA 211 #[.pointer (some (U w)),n7,n9,(),()] a λn12 c=>al (n12 !=0) (Q (.tuple #[(),(0:Int),n12]) c) (b3 c)) (b3 w1)) (λd=>∃e2:ab,(some (U w):an ab)=some e2/\ak d (e2.add 1) λh=>aT 153 #[h] d λi=>ao (i.drew) λb=>∃e:ab,
 (some (U w):an ab)=some e/\¬False/\ak b (e.add 1) λj=>∃f:ab,(some (U w):an ab)=some f/\¬False/\r1 b (f.add 2) λn22=>Q (.tuple #[j,n22,(0:Int)]) b))
def ay.sK:aP:=(.s .r (.s a1 (.s .r (.s (.eK [] [5] (.s .r (.c (.s (.cw 9 false ⟨[0,0,2,4,8,0,32,64,128,273,1023],[0,0,2,4,8,0,32,64,128,273,512]⟩ [131072,262144,524288,1048576,2097152,4194304,
 8388608,16777216,33554432,67108864,64] [32,1,262144,524288,1048576,1,4194304,8388608,16777216,35782656,67108864] (.t 0 (.t 1 (.t 2 (.t 3 (.t 4 (.t 5 (.t 6 (.t 7 (.t 8 (.tail [.r,.r]))))))))))) a1) .l))) (.s .r (.s (.cw 9
 false ⟨[0,1,2,4,0,16,32,64,15,511,1023],[0,1,2,4,0,16,32,64,8,128,0]⟩ [34359738368,68719476736,137438953472,274877906944,549755813888,1099511627776,2199023255552,4398046511104,4,8,16] [32,34359738368,
 68719476736,137438953472,32,549755813888,1099511627776,2199023255552,274877906944,4398046511104,0] (.t 0 (.t 1 (.t 2 (.t 3 (.t 4 (.t 5 (.t 6 (.t 7 (.t 8 (.tail [.r,.r]))))))))))) .l))))))
def af.pO(s:an ab)(w:J)(Q:aa->J->Prop):Prop:=al (Option.isNone s) (Q () w) (∃a1:ab,s=some a1/\r1 w a1 λbc=>∃ (c:Y->Int->J->Prop) (d:Y->Int->J->
 Nat),c ⟨none,0,0⟩ 0 w/\∀ (a:Y) (n6:Int) (b:J),c a n6 b->al (decide (n6<bc)) (bq (λe:Y->J->Prop=>∃a9:ab,s=some a9/\ak b (a9.add 1) λi=>aG 214 #[i,n6] b λj f=>al j (rK f n6 a e) (e a f)) (λ(g:Y) h=>c g (au (n6+1)) h/\d g (au (n6+1)) h<d a n6 b)) (Q a b))
def ay.pO:aP:=(.s .r (.s a1 (.s .r (.s (.s .r (.bP (.loop [(3,.slice),(11,(.int .i64))] [0,10] (.s .r (.s (.c .l .l) (.s (.eK [(3,.slice)] [0,10,11] (.bP (.s .r (.s .r (.c .r .l))))) .r)))))) (.s .r .l)))))
theorem af.Cn(s:an ab)(w:J)(Q:aa->J->Prop)(h:af.pO s w Q):aH ai 155 #[s] w Q:=okF (λw Q=>af.pO s w Q) ay.pO func155 h
def af.jL(b:Y)(j:Int)(size:Int)(w:J)(Q:aa->J->Prop):Prop:=hG 215 #[b,j,size] w λd k w1=>bq (λf:ag->J->Prop=>al (!k) (f
 true w1) (aG 192 #[size] w1 λl m=>f (!l) m)) (λ(n:ag) g=>al n (Q (.tuple #[.int .u64 0,false]) g) (∃ (e:Int->Int->J->Prop) (h:Int->Int->J->Nat),e 0 0 g/\∀ (n13:
 Int) (n14:Int) (c:J),e n13 n14 c->al (decide (n14<(d.len:Int))) (∃i:ab,d.a=some i/\aI n14 d.len/\b4 c (i.add (n14.toNat*1)) λn17=>(0:Int)<=8/\e (ll .u64 (IntKind.wrap .u64 (n13*2^
 (min (Int.toNat 8) 64))) (IntKind.wrap .u64 n17)) (au (n14+1)) c/\h (ll .u64 (IntKind.wrap .u64 (n13*2^(min (Int.toNat 8) 64))) (IntKind.wrap .u64 n17)) (au (n14+1)) c<h n13 n14 c) (Q (.tuple #[.int .u64 n13,true]) c)))
def ay.jL:aP:=(.s .r (.s .r (.s (.s (.c1 [.r,.r,.r,.split 3]) (.c (.s .r .l) .l)) (.s .r (.s (.s .r (.bP (.loop [(10,(.int .u64)),(29,(.int .i64))] [27,28] a2))) (.s .r .l))))))
def af.pP(s:an ab)(w:J)(Q:aa->J->Prop):Prop:=al (Option.isNone s) (Q (.tuple #[.int .i64 (-1),(1:Int)]) w) (∃a1:ab,s=some a1/\r1 w a1 λbc=>∃ (c:Int->J->Prop) (d:
 Int->J->Nat),c 0 w/\∀ (n5:Int) (a:J),c n5 a->al (decide (n5<bc)) (aG 217 #[s,n5] a λe b=>al (!e) (∃c8:ab,s=some c8/\ak b (c8.add 1) λf=>aT
 130 #[f,n5] b λg=>Q (.tuple #[n5,(0:Int)]) g) (c (au (n5+1)) b/\d (au (n5+1)) b<d n5 a)) (Q (.tuple #[.int .i64 (-1),(2:Int)]) a))
def ay.pP:aP:=(.s .r (.s a1 (.s (.s .r (.bP (.loop [(11,(.int .i64))] [0,10] (.s .r (.s (.c .l .l) (.s (.bP (.s .r (.s .r c_))) .r)))))) (.s .r .l))))
theorem af.Co(s:an ab)(w:J)(Q:aa->J->Prop)(h:af.pP s w Q):aH ai 160 #[s] w Q:=okF (λw Q=>af.pP s w Q) ay.pP func160 h
def af.pQ(s:an ab)(no:Int)(w:J)(Q:aa->J->Prop):Prop:=aG 218 #[s,no] w λb w1=>al (!b) (Q (1:Int) w1) (∃a4:ab,s=some a4/\ak w1 (a4.add 1)
 λc=>aG 214 #[c,no] w1 λd a=>al (!d) (Q (6:Int) a) (∃a9:ab,s=some a9/\ak a (a9.add 1) λe=>aT 219 #[e,no]
 a λf=>Q (0:Int) f))
def ay.pQ:aP:=(.s .r (.s (.bP dV) (.s .r (.s .r .l))))
theorem af.Cp(s:an ab)(no:Int)(w:J)(Q:aa->J->Prop)(h:af.pQ s no w Q):aH ai 161 #[s,no] w Q:=okF (λw Q=>af.pQ s no w Q) ay.pQ func161 h
def af.sL(c:an ab)(no:Int)(b:Y)(w:J)(Q:aa->J->Prop):Prop:=aG 220 #[c,no] w λl w1=>al ((!l)||((b.len:Int) !=256)) (Q (1:Int) w1) (jK
 201 #[c,no] w1 λf g=>bq (λh:an ab->J->Prop=>al (Option.isNone f) (de 221 #[c] g λd n11 a=>al (n11 !=0) (Q n11 a) (∃dV:ab,d
 =some dV/\(∃u:aa,a.cell? dV=some u)/\a.frozen? dV=false/\ao (a.setCell dV true) λm=>∃e2:ab,d=some e2/\st m (e2.add 3) no λn=>h d n)) (h f g)) (λ(e:an
 ab) o=>aW 135 #[b] o λp q=>∃i:ab,e=some i/\st q (i.add 5) p λr=>∃j:ab,e=some j/\st r (j.add 1) true λs=>∃k:ab,e=some k/\st s (k.add 2) true λt=>Q (0:Int) t))
def ay.sL:aP:=(.s .r (.s (.s (.c1 [.r,.r,.r,.r,.r,.pure 3]) (.c (.s .r .l) .l)) (.s .r (.s (.eK [(7,.ptr)] [2] (.s .r (.c (.s .r (.s a1 (.s .r .r))) .l))) (.s .r (.s .r .l))))))
def af.sM(c:an ab)(w:J)(Q:aa->J->Prop):Prop:=al (Option.isNone c) (Q (1:Int) w) (aW 145 #[c] w λd w1=>∃ (e:Int->J->Prop) (g:Int->J->Nat),e
 0 w1/\∀ (n6:Int) (b:J),e n6 b->al (decide (n6<(d.len:Int))) (∃dH:ab,d.a=some dH/\aI n6 d.len/\r1 b (dH.add (n6.toNat*1)) λn9=>jK 201 #[c,n9] b λh p=>ao
 (p.drew) λf=>∃e2:ab,c=some e2/\¬False/\∃i:an ab,f.cell? e2=some (i)/\∃j:ab,h=some j/\¬False/\ak f (j.add 5) λq=>aA 75 #[i,n9,q] f λn20 k=>al (n20 !=0) (Q n20 k) (∃l:ab,h=some l/\st k (l.add 1) false λm=>e (au (n6+1)) m/\g (au (n6+1)) m<g n6 b)) (∃n:ab,c
 =some n/\∃o:an ab,b.cell? n=some (o)/\aA 76 #[o] b λn27 r=>Q n27 r))
def ay.sM:aP:=(.s .r (.s a1 (.s (.s .r (.bP (.loop [(12,(.int .i64))] [0,10,11] (.s .r (.s (.c .l .l) (.s (.bP (.s .r (.s .r (.s (.s (.cw 9 false ⟨[0,1,2,4,0,0,32,64,128,280,1023],[0,1,2,4,0,0,32,64,
 128,280,512]⟩ [524288,1048576,2097152,4194304,8388608,16777216,33554432,67108864,134217728,268435456,64] [1,524288,1048576,2097152,16,32,16777216,33554432,67108864,146800640,268435456] (.t 0 (.t 1 (.t 2 (.t 3 (.t 4 (.t
 5 (.t 6 (.t 7 (.t 8 (.tail [.r,.r]))))))))))) a1) .r)))) .r)))))) (.s .r .l))))
def af.pR(t:an ab)(gen:Int)(w:J)(Q:aa->J->Prop):Prop:=al (!(Option.isNone t)) (∃a1:ab,t=some a1/\st w (a1.add 2) (.int .u64 gen) λah=>Q (.tuple #[]) ah) (Q (.tuple #[]) w)
def ay.pR:aP:=(.s .r (.c .r .l))
theorem af.Cq(t:an ab)(gen:Int)(w:J)(Q:aa->J->Prop)(h:af.pR t gen w Q):aH ai 164 #[t,.int .u64 gen] w Q:=okF (λw Q=>af.pR t gen w Q) ay.pR func164 h
def af.sN(c:Int)(w:J)(Q:aa->J->Prop):Prop:=Q (.bool (c !=0)) w
def ay.sN:aP:=(.s .r (.s .r .l))
theorem af.Cr(c:Int)(w:J)(Q:aa->J->Prop)(h:af.sN c w Q):aH ai 170 #[.int .u8 c] w Q:=okF (λw Q=>af.sN c w Q) ay.sN func170 h
def af.n3(no:Int)(b:Y)(w:J)(Q:aa->J->Prop):Prop:=ao (w.alloc ga) λw1=>j_ 172 #[no,b] w1 λn n5 o n7 ah=>ao (ah.alloc z3) λp=>bz p
 (U ah) [n,.int .u64 n5,o]/\(3:Nat)=3/\ao (setCells p (U ah) 0 [n,.int .u64 n5,o]) λc=>al (n7 !=0) (r1 c (U w) λn10=>r1 c ((U w).add 1)
 λn11=>r1 c ((U w).add 2) λn12=>bt c ((U w).add 3) λn13=>bt c ((U w).add 4) λn14=>r1 c ((U w).add 5) λn15=>bz c (U w) [n10,n11,n12,.int .u64 n13,
 .int .u64 n14,n15]/\(6:Nat)=6/\ao (setCells c (U w) 0 [n10,n11,n12,.int .u64 n13,.int .u64 n14,n15]) λf=>r1 f (U w) λn17=>r1 f ((U w).add 1) λn18=>
 r1 f ((U w).add 2) λn19=>bt f ((U w).add 3) λn20=>bt f ((U w).add 4) λn21=>r1 f ((U w).add 5) λn22=>Q (.tuple #[.agg #[n17,n18,n19,.int .u64 n20,.int .u64
 n21,n22],(0:Int),.int .u64 0,n7]) f) (r1 c (U ah) λn23=>bq (λq:ag->J->Prop=>al (n23 !=3) (q true c) (ak c ((U ah).add 2) λC=>q ((C.len:Int) !=33) c)) (λ(D:
 ag) a=>al D (r1 a (U w) λn28=>r1 a ((U w).add 1) λn29=>r1 a ((U w).add 2) λn30=>bt a ((U w).add 3) λn31=>bt a ((U w).add 4) λn32=>r1 a ((U w).add 5) λn33=>
 bz a (U w) [n28,n29,n30,.int .u64 n31,.int .u64 n32,n33]/\(6:Nat)=6/\ao (setCells a (U w) 0 [n28,n29,n30,.int .u64 n31,.int .u64 n32,n33]) λE=>u4 E w Q) (ak a ((U ah).add 2) λF=>ao (a.alloc (.cells #[F,(0:Int)] 316)) λG=>fo 226 #[.pointer (some (U a)),(4:Int)] G λ
 H I=>fo 226 #[.pointer (some (U a)),(1:Int)] I λK L=>fo 226 #[.pointer (some (U a)),(4:Int)] L λM N=>st N (U w) (.int .i64 (au H)) λO=>st O
 ((U w).add 1) (.int .i64 (au K)) λP=>st P ((U w).add 2) (.int .i64 (au M)) λR=>fo 226 #[.pointer (some (U a)),(4:Int)] R λh S=>fo 226 #[.pointer (some (U
 a)),(8:Int)] S λT V=>fo 226 #[.pointer (some (U a)),(8:Int)] V λW X=>fo 226 #[.pointer (some (U a)),(4:Int)] X λZ ac=>st ac ((U w).add 3) (.int
 .u64 T) λad=>st ad ((U w).add 4) (.int .u64 W) λai=>st ai ((U w).add 5) (.int .i64 (au Z)) λg=>r1 g (U w) λaj=>r1 g ((U w).add 1) λam=>bq (λr:ag->J->Prop=>al
 (!((aj==0)==(am==0))) (r true g) (r1 g ((U w).add 1) λan=>r (decide (an>12)) g)) (λ(ap:ag) i=>bq (λs:ag->J->Prop=>al ap (s true i) (r1 i (U w) λaq=>s (decide (aq
 >=(au h))) i)) (λ(ar:ag) j=>bq (λt:ag->J->Prop=>al ar (t true j) (r1 j ((U w).add 2) λav=>t (decide (av>=(au h))) j)) (λ(aw:ag) k=>bq (λu:ag->J->Prop=>
 al aw (u true k) (r1 k ((U w).add 2) λax=>u (decide (ax<2)) k)) (λ(ay:ag) l=>al (ay||(decide (((au h):Int)>1600))) (bz l (U w) [(0:Int),(0:Int),(0:Int),.int .u64 0,.int
 .u64 0,(0:Int)]/\(6:Nat)=6/\ao (setCells l (U w) 0 [(0:Int),(0:Int),(0:Int),.int .u64 0,.int .u64 0,(0:Int)]) λaz=>u4 az w Q) (ao (l.drew) λd=>∃m:Nat->Prop,¬m ((U w):
 ab).block/\r1 d (U w) λv=>r1 d ((U w).add 1) λx=>r1 d ((U w).add 2) λy=>bt d ((U w).add 3) λz=>bt d ((U w).add 4) λA=>r1 d ((U w).add 5) λB=>¬m
 ((U ah).add 1).block/\bt d ((U ah).add 1) λaA=>bz d (U w) [v,x,y,.int .u64 z,.int .u64 A,B]/\(6:Nat)=6/\ao (setCells d (U w) 0 [v,x,y,.int .u64 z,.int .u64 A,B]) λe=>ae m d e/\r1 e (U w) λaB=>r1 e ((U w).add 1) λaC=>r1 e ((U w).add 2) λaD=>bt e (Addr.add
 (U w) 3) λaE=>bt e ((U w).add 4) λaF=>r1 e ((U w).add 5) λaG=>Q (.tuple #[.agg #[aB,aC,aD,.int .u64 aE,.int .u64 aF,aG],.int .i64 (au h),
 .int .u64 aA,(0:Int)]) e))))))))
def ay.n3:aP:=(.s .r (.s .r (.s a1 (.s dH (.s .r (.s .r (.s .r (.s .r (.s (.s (.c1 [.r,.r,.r,.r,.r,.r,.r,.r,.split 3,.r,.r,.r,.r,.split 4,.r,.r,.r,.r,.r,.split 4,.r,.r,.r,.r,.r,.split 3,.r,.r,.r,
 .r,.pure 2]) (.c (.s .r .l) .l)) (.s (.cw 6 true ⟨[0,0,0,4,1,19,63,127],[0,0,0,4,1,2,8,0]⟩ [9903520314283042199192993792,19807040628566084398385987584,39614081257132168796771975168,79228162514264337593543950336,0,32,
 64,128] [16,32,256,39614081257132168796771975168,9903520314283042199192993808,19807040628566084398385987584,79228162514264337593543950336,0] (.t 0 (.t 1 (.t 2 (.t 3 (.b2 4 (.t 5 (.tail [.r,.r])))))))) .l))))))))))
def af.lD(no:Int)(b:Y)(w:J)(Q:aa->J->Prop):Prop:=ao (w.alloc z3) λw1=>al ((b.len:Int) !=256) (bz w1 (U w) [(0:Int),.int .u64 0,()]/\(3:Nat)=3/\ao (setCells w1 (U w)
 0 [(0:Int),.int .u64 0,()]) λah=>r1 ah (U w) λz=>bt ah ((U w).add 1) λA=>ak ah ((U w).add 2) λB=>Q (.tuple #[.agg #[z,.int .u64 A,B],(9:Int)])
 ah) (((0:Int)<=4/\4<=(b.cap:Int))/\∃n:ByteArray,∃c:J,Sem.run ai (convert 48 9 (.slice (aL b.a 1 0 b.cap) ((Int.toNat 4)-0) (b.cap-0))) w1=.ok (.string n) c/\al
 (!(ByteArray.toList n==ByteArray.toList (ByteArray.mk #[83,84,78,67]))) (bz c (U w) [(0:Int),.int .u64 0,()]/\(3:Nat)=3/\ao (setCells c (U w) 0 [(0:Int),.int .u64 0,()]) λC=>
 u9 C w Q) (∃dV:ab,b.a=some dV/\aI 4 b.len/\b4 c (dV.add (Int.toNat 4*1)) λn13=>al (n13 !=1) (bz c (U w) [(0:Int),.int .u64 0,()]/\(3:Nat)=3/\ao (setCells c (U w) 0 [(0:Int),.int
 .u64 0,()]) λd=>r1 d (U w) λn15=>bt d ((U w).add 1) λn16=>ak d ((U w).add 2) λD=>Q (.tuple #[.agg #[n15,.int .u64 n16,D],(12:Int)]) d)
 (gj 134 #[b] c λn20 E=>fo 227 #[b,(20:Int),(24:Int)] E λn23 h=>al (((IntKind.wrap .u64 n20):Int) !=n23) (bz h (U w) [(0:Int),.int .u64
 0,()]/\(3:Nat)=3/\ao (setCells h (U w) 0 [(0:Int),.int .u64 0,()]) λe=>r1 e (U w) λn25=>bt e ((U w).add 1) λn26=>ak e ((U w).add 2) λF=>Q (.tuple #[.agg
 #[n25,.int .u64 n26,F],(5:Int)]) e) (fo 227 #[b,(6:Int),(8:Int)] h λn30 o=>∃p:ab,b.a=some p/\aI 5 b.len/\b4 o (p.add
 (Int.toNat 5*1)) λn32=>aG 133 #[.int .i64 (au n32)] o λG q=>bq (λr:ag->J->Prop=>al ((!G)||(decide (((au n30):Int)>232))) (r true q) (((0:Int)<=(au (24+(au n30)))/\(au (24+(au
 n30)))<=(b.len:Int))/\aG 228 #[.slice (aL b.a 1 ((au (24+(au n30))).toNat) b.cap) (b.len-((au (24+(au n30))).toNat)) (b.cap-((au (24+(au n30))).toNat))] q λH I=>r (!H) I)) (λ(K:ag)
 i=>al K (bz i (U w) [(0:Int),.int .u64 0,()]/\(3:Nat)=3/\ao (setCells i (U w) 0 [(0:Int),.int .u64 0,()]) λL=>u9 L w Q) (aG 132 #[no] i λM s=>
 bq (λt:ag->J->Prop=>al (!M) (t true s) (fo 227 #[b,(8:Int),(12:Int)] s λN O=>t (N !=(IntKind.wrap .u64 no)) O)) (λ(P:ag) j=>al P (bz j
 (U w) [(0:Int),.int .u64 0,()]/\(3:Nat)=3/\ao (setCells j (U w) 0 [(0:Int),.int .u64 0,()]) λf=>r1 f (U w) λR=>bt f ((U w).add 1) λS=>ak f ((U w).add 2)
 λT=>Q (.tuple #[.agg #[R,.int .u64 S,T],(1:Int)]) f) (hG 229 #[b,(24:Int),.int .i64 (au n30)] j λu ac V=>ao (V.drew) λk=>∃v:
 Nat->Prop,∃l:ab,b.a=some l/\aI 5 b.len/\¬v (l.add (Int.toNat 5*1)).block/\b4 k (l.add (Int.toNat 5*1)) λx=>fo 227 #[b,(12:Int),(20:Int)] k λy m=>ae
 v k m/\bz m (U w) [.int .i64 (au x),.int .u64 y,u]/\(3:Nat)=3/\ao (setCells m (U w) 0 [.int .i64 (au x),.int .u64 y,u]) λg=>r1 g (U w) λ
 W=>bt g ((U w).add 1) λX=>ak g ((U w).add 2) λZ=>Q (.tuple #[.agg #[W,.int .u64 X,Z],(0:Int)]) g))))))))
def ay.lD:aP:=(.s .r (.s (.bP (.s .r (.c (.s .r .l) (.s .r (.c (.s .r .l) dV))))) (.s .r (.s (.bP (.s (.c1 [.r,.r,.r,.r,.r,.r,.r,.pure 2,.r,.r,.r,.split 6]) (.c (.s .r .l) (.s (.c1 [.r,.r,.r,.r,.split 5]) (.c
 (.s .r .l) .l))))) (.s .r (.s (.cw 7 true ⟨[0,1,2,4,0,16,0,104,255,511],[0,1,2,4,0,16,0,104,128,0]⟩ [37778931862957161709568,75557863725914323419136,151115727451828646838272,302231454903657293676544,
 604462909807314587353088,1208925819614629174706176,2417851639229258349412352,4835703278458516698824704,0,32] [2,37778931862957161709568,75557863725914323419136,151115727451828646838272,2,604462909807314587353088,128,
 3929008913747544817795072,4835703278458516698824720,0] (.t 0 (.t 1 (.t 2 (.t 3 (.t 4 (.t 6 (.b2 5 (.tail [.r,.r,.r]))))))))) .l))))))
def af.n4(b:Y)(n:Int)(w:J)(Q:aa->J->Prop):Prop:=aG 128 #[n] w λh w1=>al (!h) (Q (.tuple #[.pointer none,(1:Int)]) w1) (aA 129 #[n] w1 λn6 c=>bq
 (λe:ag->J->Prop=>al ((b.len:Int) !=n6) (e true c) ((8:Int)≠0/\bq (λf:ag->J->Prop=>al (decide (((Int.tmod n 8):Int)>0)) (∃a9:ab,b.a=some a9/\((0:Int)<=(au ((b.len:Int)-1))/\(au
 ((b.len:Int)-1))<(b.len:Int))/\b4 c (a9.add ((au ((b.len:Int)-1)).toNat*1)) λn10=>(8:Int)≠0/\(0:Int)<=(Int.tmod n 8)/\f (decide (((Int.fdiv n10 (2^(min ((Int.tmod n 8).toNat) 8))):Int)>0)) c) (f
 false c)) (λ(i:ag) j=>e i j))) (λ(k:ag) g=>al k (Q (.tuple #[.pointer none,(4:Int)]) g) (aW 135 #[b] g λl d=>ao (d.alloc (.cells #[n,l,()] 218)) λm=>aT 131 #[.pointer (some (U d))] m λo=>Q (.tuple #[.pointer (some (U d)),(0:Int)]) o)))
def ay.n4:aP:=(.s .r (.s (.bP (.s .r (.c (.s .r .l) (.s (.c1 [.r,.r,.r,.r,.r,.r,.split 15,.r,.r,.r,.split 10]) (.c (.s .r .l) .l))))) a3))
def af.pS(s:an ab)(no:Int)(w:J)(Q:aa->J->Prop):Prop:=aG 218 #[s,no] w λb w1=>bq (λa:ag->J->Prop=>al b (∃a5:ab,s=some a5/\ak
 w1 (a5.add 1) λc=>aG 214 #[c,no] w1 λd e=>a d e) (a false w1)) (λ(f:ag) g=>Q f g)
def ay.pS:aP:=(.s .r (.s (.c1 [.r,.r,.r,.r,.split 6]) .l))
theorem af.Cs(s:an ab)(no:Int)(w:J)(Q:aa->J->Prop)(h:af.pS s no w Q):aH ai 183 #[s,no] w Q:=okF (λw Q=>af.pS s no w Q) ay.pS func183 h
def af.sO(size:Int)(w:J)(Q:aa->J->Prop):Prop:=Q (.bool ((decide (size>=1))&&(decide (size<=8)))) w
def ay.sO:aP:=a4
theorem af.yr(size:Int)(w:J)(Q:aa->J->Prop)(h:af.sO size w Q):aH ai 192 #[size] w Q:=okF (λw Q=>af.sO size w Q) ay.sO func192 h
end Go.Proofs.YtkdhdlfonmgheaaGreat
