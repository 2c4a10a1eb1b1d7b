/- Printed by gen.py: functions of the program, each as what must be shown of it. -/
import Derived.Test.YtkdhdlfonmgheaaGreatProg
import Derived.Test.YtkdhdlfonmgheaaGreatKPlays2
namespace a6
abbrev aQ.s:=aQ.seq
abbrev aQ.l:=aQ.leaf
abbrev aQ.c:=aQ.cond
abbrev aQ.r:=aQ.cV []
abbrev aL.t:=aL.take
abbrev kN.r:=kN.run
end a6
namespace Go.Proofs.YtkdhdlfonmgheaaGreat
noncomputable abbrev aj:=Tryz.prog
open Go a6 Go.Proofs.Tryz
namespace F
end F
namespace Ea
end Ea
namespace G
end G
abbrev aV:dO:=.one (.one .fn)
abbrev e2:dO:=.one (.one .agg)
abbrev gk:dO:=.one (.one .ptr)
abbrev jh:dO:=.one (.one .slice)
abbrev nM:dO:=.fi [(.one .ptr),(.one (.int .i64))]
abbrev pj:dO:=.fi [(.one .slice),(.one (.int .i64))]
abbrev s7:dO:=.one (.one (.int .i64))
abbrev s8:dO:=.one (.one (.int .u8))
abbrev s9:dO:=.one (.one (.int .u64))
abbrev s_:dO:=.one (.flat [.slice,.slice])
abbrev ta:dO:=.one (.flat [.ptr,.slice,(.int .i64)])
abbrev tb:dO:=.one (.flat [.slice,(.int .i64)])
def Eb:O dO:=[(.fi []),aV,s7,s7,(.one (.one .bool)),s8,s8,(.one (.flat [(.int .i64),(.int .i64),.bool,(.int .u8)])),(.one (.flat [(.int .i64),(.int .i64),.bool,(.int .u8)])),(.one (.one .str)),(.one (.one .str)),(.one (.one .str)),s9,(.one (.flat [.str,(.int .u64)])),(.one (.flat [.str,(.int .u64)])),gk,gk,gk,(.one (.flat [.ptr])),(.one (.flat [.ptr])),(.one (.one .any)),(.one (.one (.int .i32))),e2,e2,e2,e2,e2,s9,e2,e2,gk,gk,(.fi [(.one .ptr),(.one .ptr),(.one .bool)]),aV,s7,aV,aV,aV,aV,jh,nM,aV,gk,nM,aV,(.one (.flat [(.int .i64),(.int .i64),(.int .u64)])),(.one (.flat [(.int .i64),(.int .i64),(.int .u64)])),aV,jh,(.one (.flat [(.int .i64),.slice,.slice,(.int .i64)])),(.one (.flat [(.int .i64),.slice,.slice,(.int .i64)])),aV,(.fi [(.one .bool),(.one (.int .i64))]),aV,aV,aV,aV,aV,jh,e2,e2,(.fi [(.one .agg),(.one .bool),(.one (.int .i64))]),aV,aV,(.fi [(.one (.int .i64)),(.one (.int .i64))]),aV,(.fi [(.one .slice),(.one (.int .i64)),(.one (.int .i64))]),aV,jh,pj,aV,aV,nM,aV,aV,jh,gk,(.one (.flat [(.int .i64),.slice])),(.one (.flat [(.int .i64),.slice])),aV,aV,aV,jh,(.one (.flat [(.int .i64),(.int .i64),(.int .u8)])),(.one (.flat [(.int .i64),(.int .i64),(.int .u8)])),gk,jh,(.one (.flat [.slice])),(.one (.flat [.slice])),e2,e2,(.one (.flat [(.int .i64),(.int .i64),(.int .i64),.slice,.slice,.slice])),(.one (.flat [(.int .i64),(.int .i64),(.int .i64),.slice,.slice,.slice])),aV,aV,aV,pj,aV,aV,aV,aV,s9,aV,(.one (.flat [(.int .i64),(.int .i64),(.int .i64),(.int .u64),(.int .u64),(.int .i64)])),(.one (.flat [(.int .i64),(.int .i64),(.int .i64),(.int .u64),(.int .u64),(.int .i64)])),aV,(.fi [(.one .bool),(.one .agg)]),aV,aV,aV,aV,aV,aV,aV,(.fi [(.one .slice),(.one .bool),(.one (.int .i64))]),aV,aV,aV,aV,e2,e2,e2,e2,(.fi [(.one .agg),(.one (.int .i64))]),aV,aV,aV,jh,aV,aV,(.fi [(.one .slice),(.one .bool)]),aV,aV,(.one (.flat [.ptr,(.int .i64)])),(.one (.flat [.ptr,(.int .i64)])),aV,jh,(.one (.one .map)),e2,e2,e2,e2,aV,gk,nM,aV,pj,aV,aV,(.one (.flat [(.int .i64),(.int .u64),.slice])),(.one (.flat [(.int .i64),(.int .u64),.slice])),e2,aV,aV,aV,gk,gk,e2,e2,aV,aV,(.fi [(.one .agg),(.one .bool)]),aV,aV,aV,aV,s_,s_,aV,aV,aV,pj,aV,aV,aV,(.fi [(.one (.int .i64)),(.one .bool)]),aV,aV,aV,aV,aV,e2,e2,(.fi [(.flat [(.int .i64),(.int .i64),(.int .i64),(.int .u64),(.int .u64),(.int .i64)]),(.one (.int .u64)),(.one (.int .i64))]),aV,aV,aV,gk,aV,gk,(.one (.one .map)),e2,e2,aV,(.fi [(.flat [(.int .i64),(.int .i64),(.int .i64),(.int .u64),(.int .u64),(.int .i64)]),(.one (.int .u64)),(.one (.int .i64))]),aV,aV,aV,aV,(.fi [(.flat [(.int .i64),(.int .u64),.slice]),(.one (.int .i64))]),aV,(.one (.flat [.bool,.slice,.slice,.slice])),(.one (.flat [.bool,.slice,.slice,.slice])),(.fi [(.flat [.bool,.slice,.slice,.slice]),(.one .bool)]),aV,gk,aV,jh,s_,s_,(.fi [(.one .agg),(.one .bool)]),aV,aV,aV,gk,jh,aV,(.one (.flat [(.int .i64),.slice,.slice])),(.one (.flat [(.int .i64),.slice,.slice])),(.one (.one (.int .u32))),aV,aV,aV,aV,nM,aV,nM,aV,jh,pj,aV,e2,e2,aV,(.fi [(.one (.int .i64)),(.one (.int .i64))]),aV,aV,aV,(.one (.flat [.ptr,.ptr,(.int .u64),(.int .i64),(.int .i64)])),(.one (.flat [.ptr,.ptr,(.int .u64),(.int .i64),(.int .i64)])),aV,(.fi [(.one .slice),(.one (.int .i64)),(.one (.int .i64))]),aV,aV,(.fi [(.one (.int .u64)),(.one .bool)]),aV,(.fi [(.one .agg),(.one .bool)]),aV,aV,(.fi [(.one .slice),(.one .slice)]),aV,aV,aV,aV,aV,aV,aV,(.fi [(.flat [(.int .i64),(.int .i64),(.int .i64),(.int .u64),(.int .u64),(.int .i64)]),(.one (.int .i64)),(.one (.int .u64)),(.one (.int .i64))]),aV,aV,aV,aV,aV,aV,aV,aV,(.one (.flat [(.int .i64),(.int .i64)])),(.one (.flat [(.int .i64),(.int .i64)])),jh,aV,aV,aV,aV,aV,aV,aV,aV,aV,aV,jh,ta,ta,(.fi [(.flat [.bool,.slice,.slice,.slice]),(.one (.int .i64))]),aV,aV,aV,aV,(.one (.flat [.bool,.bool,.bool,(.int .i64),(.int .i64),.slice])),(.one (.flat [.bool,.bool,.bool,(.int .i64),(.int .i64),.slice])),gk,aV,aV,aV,aV,aV,gk,(.one (.flat [.ptr,.slice,.slice])),(.one (.flat [.ptr,.slice,.slice])),(.fi [(.one (.int .i64)),(.one (.int .i64)),(.one (.int .i64))]),aV,aV,gk,ta,ta,aV,aV,aV,aV,nM,aV,aV,aV,aV,aV,gk,tb,tb,aV,aV,aV,aV,aV,aV,aV,aV,gk,jh,(.fi [(.one .slice),(.one (.int .i64)),(.one (.int .i64)),(.one (.int .i64))]),aV,aV,aV,pj,aV,tb,tb,aV,aV,aV,aV,s7,(.fi [(.one (.int .i64)),(.one (.int .i64))]),aV,aV,aV,aV,aV,aV,aV,aV,aV,aV,aV,gk,(.one (.flat [.slice,.bool])),(.one (.flat [.slice,.bool])),aV,aV,e2,aV,aV,aV,aV,aV,aV,s9,aV,aV,gk,aV,aV,aV,gk,aV,(.fi [(.flat [.bool,.slice,.slice,.slice]),(.one .slice),(.flat [.bool,.slice,.slice,.slice]),(.one .bool)]),aV,aV,aV,(.one (.flat [.ptr,.ptr,.ptr,.str])),(.one (.flat [.ptr,.ptr,.ptr,.str])),e2,e2,e2,s8,s8,aV,gk,(.one (.one (.int .i32))),(.one (.one (.int .i32))),e2,e2,gk]
def tk:TypeId->dO:=λt=>Eb.getD t (.one (.one .any))
theorem w4:Tryz.prog.follows .mixedOrders=true:=by kernel_rfl
def U(w:J):ab:=w.heap.size
def ar(n:Int):Int:=IntKind.wrap .i64 n
def aK(n:Int)(k:Nat):Prop:=(0:Int)<=n/\n<(k:Int)
def ai(c:ah)(A B:Prop):Prop:=(c=true->A)/\(c=false->B)
def km:Int:=9223372036854775807
def st(w:J)(A:ab)(v:aa)(K:J->Prop):Prop:=(∃u:aa,w.cell? A=some u)/\w.frozen? A=false/\ak (w.setCell A v) λw1=>K w1
def lv(w:J)(z:Obj)(l:O aa)(k:Nat)(K:J->Prop):Prop:=ak (w.alloc z) λw1=>bx w1 (U w) (Array.toList l.toArray)/\Array.size l.toArray=k/\ak (setCells w1 (U w) 0 (Array.toList l.toArray)) λag=>K ag
def tc(s:Y)(n:Int)(w:J)(k:Nat)(K:O aa->Prop):Prop:=∃a:ab,s.a=some a/\aK n s.len/\∃l:O aa,cJ w (a.add (n.toNat*k)) 0 k=some l/\K l
def ay(f:Nat)(a:Array aa)(w:J)(K:Int->J->Prop):Prop:=Calls aj f a w λe w'=>∃b:Int,e=.returned b/\K b w'
def aR(f:Nat)(a:Array aa)(w:J)(K:J->Prop):Prop:=Calls aj f a w λe w'=>e=.returned (.tuple #[])/\K w'
def aF(f:Nat)(a:Array aa)(w:J)(K:ah->J->Prop):Prop:=Calls aj f a w λe w'=>∃b:ah,e=.returned b/\K b w'
def c9(f:Nat)(a:Array aa)(w:J)(K:ao ab->Int->J->Prop):Prop:=Calls aj f a w λe w'=>∃b:ao ab,∃c:Int,e=.returned (.tuple #[b,c])/\K b c w'
def aZ(f:Nat)(a:Array aa)(w:J)(K:Y->J->Prop):Prop:=Calls aj f a w λe w'=>∃b:Y,e=.returned b/\K b w'
def b6(f:Nat)(a:Array aa)(w:J)(K:Y->Int->J->Prop):Prop:=Calls aj f a w λe w'=>∃b:Y,∃c:Int,e=.returned (.tuple #[b,c])/\K b c w'
def jA(f:Nat)(a:Array aa)(w:J)(K:Y->ah->Int->J->Prop):Prop:=Calls aj f a w λe w'=>∃b:Y,∃c:ah,∃d:Int,e=.returned (.tuple #[b,c,d])/\K b c d w'
def kS(f:Nat)(a:Array aa)(w:J)(K:ah->Int->J->Prop):Prop:=Calls aj f a w λe w'=>∃b:ah,∃c:Int,e=.returned (.tuple #[b,c])/\K b c w'
def Aj(f:Nat)(a:Array aa)(w:J)(K:Int->Int->Int->Int->Int->Int->Int->Int->J->Prop):Prop:=Calls aj f a w λe w'=>∃b:Int,∃c:Int,∃d:Int,∃g:Int,∃h:Int,∃i:Int,∃j:Int,∃k:Int,e=.returned (.tuple #[.agg #[b,c,d,.int .u64 g,.int .u64 h,i],.int .u64 j,k])/\K b c d g h i j k w'
def gF(f:Nat)(a:Array aa)(w:J)(K:Int->J->Prop):Prop:=Calls aj f a w λe w'=>∃b:Int,e=.returned (.int .u32 b)/\K b w'
def td(f:Nat)(a:Array aa)(w:J)(K:Array aa->J->Prop):Prop:=Calls aj f a w λe w'=>∃b:Array aa,e=.returned (.agg b)/\K b w'
def gX(f:Nat)(a:Array aa)(w:J)(K:Int->ah->J->Prop):Prop:=Calls aj f a w λe w'=>∃b:Int,∃c:ah,e=.returned (.tuple #[b,c])/\K b c w'
def eH(f:Nat)(a:Array aa)(w:J)(K:Int->Int->J->Prop):Prop:=Calls aj f a w λe w'=>∃b:Int,∃c:Int,e=.returned (.tuple #[b,c])/\K b c w'
def iA(f:Nat)(a:Array aa)(w:J)(K:ah->Y->Y->Y->ah->J->Prop):Prop:=Calls aj f a w λe w'=>∃b:ah,∃c:Y,∃d:Y,∃g:Y,∃h:ah,e=.returned (.tuple #[.agg #[b,c,d,g],h])/\K b c d g h w'
def pk(f:Nat)(a:Array aa)(w:J)(K:Y->Int->Int->J->Prop):Prop:=Calls aj f a w λe w'=>∃b:Y,∃c:Int,∃d:Int,e=.returned (.tuple #[b,c,d])/\K b c d w'
def Ak(f:Nat)(a:Array aa)(w:J)(K:Int->Int->Int->Int->Int->Int->Int->Int->Int->J->Prop):Prop:=Calls aj f a w λe w'=>∃b:Int,∃c:Int,∃d:Int,∃g:Int,∃h:Int,∃i:Int,∃j:Int,∃k:Int,∃l:Int,e=.returned (.tuple #[.agg #[b,c,d,.int .u64 g,.int .u64 h,i],j,.int .u64 k,l])/\K b c d g h i j k l w'
def ly(f:Nat)(a:Array aa)(w:J)(K:Int->Int->Y->Int->J->Prop):Prop:=Calls aj f a w λe w'=>∃b:Int,∃c:Int,∃d:Y,∃g:Int,e=.returned (.tuple #[.agg #[b,.int .u64 c,d],g])/\K b c d g w'
def pn(f:Nat)(a:Array aa)(w:J)(K:hE->J->Prop):Prop:=Calls aj f a w λe w'=>∃b:hE,e=.returned (.func (.func b.f) b.pre b.cap)/\K b w'
def gY(f:Nat)(a:Array aa)(w:J)(K:ah->Y->Y->Y->Int->J->Prop):Prop:=Calls aj f a w λe w'=>∃b:ah,∃c:Y,∃d:Y,∃g:Y,∃h:Int,e=.returned (.tuple #[.agg #[b,c,d,g],h])/\K b c d g h w'
def kT(f:Nat)(a:Array aa)(w:J)(K:ao ab->J->Prop):Prop:=Calls aj f a w λe w'=>∃b:ao ab,e=.returned (b)/\K b w'
def gu(f:Nat)(a:Array aa)(w:J)(K:ah->Y->Y->Y->J->Prop):Prop:=Calls aj f a w λe w'=>∃b:ah,∃c:Y,∃d:Y,∃g:Y,e=.returned (.agg #[b,c,d,g])/\K b c d g w'
def po(f:Nat)(a:Array aa)(w:J)(K:Int->Int->Int->J->Prop):Prop:=Calls aj f a w λe w'=>∃b:Int,∃c:Int,∃d:Int,e=.returned (.tuple #[b,c,d])/\K b c d w'
def ji(f:Nat)(a:Array aa)(w:J)(K:Y->ah->J->Prop):Prop:=Calls aj f a w λe w'=>∃b:Y,∃c:ah,e=.returned (.tuple #[b,c])/\K b c w'
def gg(f:Nat)(a:Array aa)(w:J)(K:Int->J->Prop):Prop:=Calls aj f a w λe w'=>∃b:Int,e=.returned (.int .u64 b)/\K b w'
def nN(f:Nat)(a:Array aa)(w:J)(K:Y->Int->Int->Int->J->Prop):Prop:=Calls aj f a w λe w'=>∃b:Y,∃c:Int,∃d:Int,∃g:Int,e=.returned (.tuple #[b,c,d,g])/\K b c d g w'
def kU(f:Nat)(a:Array aa)(w:J)(K:Int->ah->J->Prop):Prop:=Calls aj f a w λe w'=>∃b:Int,∃c:ah,e=.returned (.tuple #[.int .u64 b,c])/\K b c w'
def pq(f:Nat)(a:Array aa)(w:J)(K:ah->Y->Y->Y->Y->ah->Y->Y->Y->ah->J->Prop):Prop:=Calls aj f a w λe w'=>∃b:ah,∃c:Y,∃d:Y,∃g:Y,∃h:Y,∃i:ah,∃j:Y,∃k:Y,∃l:Y,∃m:ah,e=.returned (.tuple #[.agg #[b,c,d,g],h,.agg #[i,j,k,l],m])/\K b c d g h i j k l m w'
def q5(f:Nat)(a:Array aa)(w:J)(K:Int->Int->Int->J->Prop):Prop:=Calls aj f a w λe w'=>∃b:Int,∃c:Int,∃d:Int,e=.returned (.agg #[b,c,.int .u64 d])/\K b c d w'
def Al(f:Nat)(a:Array aa)(w:J)(K:Int->Int->Int->Y->Y->Y->J->Prop):Prop:=Calls aj f a w λe w'=>∃b:Int,∃c:Int,∃d:Int,∃g:Y,∃h:Y,∃i:Y,e=.returned (.agg #[b,c,d,g,h,i])/\K b c d g h i w'
def Am(f:Nat)(a:Array aa)(w:J)(K:Int->Int->Int->Int->Int->Int->J->Prop):Prop:=Calls aj f a w λe w'=>∃b:Int,∃c:Int,∃d:Int,∃g:Int,∃h:Int,∃i:Int,e=.returned (.agg #[b,c,d,.int .u64 g,.int .u64 h,i])/\K b c d g h i w'
def r1(w:J)(A:ab)(K:Int->Prop):Prop:=∃x:Int,w.cell? A=some (.int .i64 x)/\K x
def bY(w:J)(A:ab)(K:Int->Prop):Prop:=∃x:Int,w.cell? A=some (.int .u8 x)/\K x
def af(w:J)(A:ab)(K:Y->Prop):Prop:=∃x:Y,w.cell? A=some (.slice x.a x.len x.cap)/\K x
def bl(w:J)(A:ab)(K:Int->Prop):Prop:=∃x:Int,w.cell? A=some (.int .u64 x)/\K x
def a7(w:J)(A:ab)(K:ah->Prop):Prop:=∃x:ah,w.cell? A=some (.bool x)/\K x
def gv:Obj:=.cells #[(0:Int),(0:Int),(0:Int),.int .u64 0,.int .u64 0,(0:Int)] 104
def cl:Obj:=.cells #[false,(),(),()] 202
def z3:Obj:=.cells #[(0:Int),.int .u64 0,()] 150
def z4:Obj:=.cells #[.int .u8 0,.int .u8 0,.int .u8 0,.int .u8 0,.int .u8 0,.int .u8 0,.int .u8 0,.int .u8 0,.int .u8 0,.int .u8 0,.int .u8 0,.int .u8 0,.int .u8 0,.int .u8 0,.int .u8 0,.int .u8 0,.int .u8 0,.int .u8 0,.int .u8 0,.int .u8 0,.int .u8 0,.int .u8 0,.int .u8 0,.int .u8 0,.int .u8 0,.int .u8 0,.int .u8 0,.int .u8 0,.int .u8 0,.int .u8 0,.int .u8 0,.int .u8 0,.int .u8 0,.int .u8 0,.int .u8 0,.int .u8 0,.int .u8 0,.int .u8 0,.int .u8 0,.int .u8 0,.int .u8 0,.int .u8 0,.int .u8 0,.int .u8 0,.int .u8 0,.int .u8 0,.int .u8 0,.int .u8 0,.int .u8 0,.int .u8 0,.int .u8 0,.int .u8 0,.int .u8 0,.int .u8 0,.int .u8 0,.int .u8 0,.int .u8 0,.int .u8 0,.int .u8 0,.int .u8 0,.int .u8 0,.int .u8 0,.int .u8 0,.int .u8 0,.int .u8 0,.int .u8 0,.int .u8 0,.int .u8 0,.int .u8 0,.int .u8 0,.int .u8 0,.int .u8 0,.int .u8 0,.int .u8 0,.int .u8 0,.int .u8 0,.int .u8 0,.int .u8 0,.int .u8 0,.int .u8 0,.int .u8 0,.int .u8 0,.int .u8 0,.int .u8 0,.int .u8 0,.int .u8 0,.int .u8 0,.int .u8 0,.int .u8 0,.int .u8 0,.int .u8 0,.int .u8 0,.int .u8 0,.int .u8 0,.int .u8 0,.int .u8 0,.int .u8 0,.int .u8 0,.int .u8 0,.int .u8 0,.int .u8 0,.int .u8 0,.int .u8 0,.int .u8 0,.int .u8 0,.int .u8 0,.int .u8 0,.int .u8 0,.int .u8 0,.int .u8 0,.int .u8 0,.int .u8 0,.int .u8 0,.int .u8 0,.int .u8 0,.int .u8 0,.int .u8 0,.int .u8 0,.int .u8 0,.int .u8 0,.int .u8 0,.int .u8 0,.int .u8 0,.int .u8 0,.int .u8 0,.int .u8 0,.int .u8 0,.int .u8 0,.int .u8 0,.int .u8 0,.int .u8 0,.int .u8 0,.int .u8 0,.int .u8 0,.int .u8 0,.int .u8 0,.int .u8 0,.int .u8 0,.int .u8 0,.int .u8 0,.int .u8 0,.int .u8 0,.int .u8 0,.int .u8 0,.int .u8 0,.int .u8 0,.int .u8 0,.int .u8 0,.int .u8 0,.int .u8 0,.int .u8 0,.int .u8 0,.int .u8 0,.int .u8 0,.int .u8 0,.int .u8 0,.int .u8 0,.int .u8 0,.int .u8 0,.int .u8 0,.int .u8 0,.int .u8 0,.int .u8 0,.int .u8 0,.int .u8 0,.int .u8 0,.int .u8 0,.int .u8 0,.int .u8 0,.int .u8 0,.int .u8 0,.int .u8 0,.int .u8 0,.int .u8 0,.int .u8 0,.int .u8 0,.int .u8 0,.int .u8 0,.int .u8 0,.int .u8 0,.int .u8 0,.int .u8 0,.int .u8 0,.int .u8 0,.int .u8 0,.int .u8 0,.int .u8 0,.int .u8 0,.int .u8 0,.int .u8 0,.int .u8 0,.int .u8 0,.int .u8 0,.int .u8 0,.int .u8 0,.int .u8 0,.int .u8 0,.int .u8 0,.int .u8 0,.int .u8 0,.int .u8 0,.int .u8 0,.int .u8 0,.int .u8 0,.int .u8 0,.int .u8 0,.int .u8 0,.int .u8 0,.int .u8 0,.int .u8 0,.int .u8 0,.int .u8 0,.int .u8 0,.int .u8 0,.int .u8 0,.int .u8 0,.int .u8 0,.int .u8 0,.int .u8 0,.int .u8 0,.int .u8 0,.int .u8 0,.int .u8 0,.int .u8 0,.int .u8 0,.int .u8 0,.int .u8 0,.int .u8 0,.int .u8 0,.int .u8 0,.int .u8 0,.int .u8 0,.int .u8 0,.int .u8 0,.int .u8 0,.int .u8 0,.int .u8 0,.int .u8 0,.int .u8 0,.int .u8 0,.int .u8 0,.int .u8 0,.int .u8 0,.int .u8 0,.int .u8 0,.int .u8 0,.int .u8 0,.int .u8 0,.int .u8 0,.int .u8 0,.int .u8 0,.int .u8 0,.int .u8 0,.int .u8 0,.int .u8 0,.int .u8 0] 182
def z5:Obj:=.cells #[(),(0:Int)] 334
def te:Obj:=.cells #[(0:Int),(0:Int),.int .u64 0] 46
def tf:Obj:=.cells #[(0:Int),(0:Int),(0:Int),(),(),()] 92
def w5:Obj:=.cells #[.int .u8 97] 5
def a1:aQ:=(.s .r (.c (.s .r .l) .l))
def gZ:aQ:=(.s .r (.s (.c .l .l) (.s (.bN (.s .r a1)) .r)))
def cI:aQ:=(.s .r (.s a1 (.s .r .l)))
def e3:aQ:=(.s .r (.s (.s .r (.bN (.loop [(8,(.int .i64))] [0,1,7] gZ))) (.s .r .l)))
def eL:aQ:=(.s .r (.c (.s .r .l) a1))
def fB:aQ:=(.s a1 (.s .r (.s .r .l)))
def gG:aQ:=(.s (.s .r a1) (.s .r .l))
def eY:aQ:=(.s .r (.s (.c .l .l) (.s (.bN (.s .r (.s .r a1))) .r)))
def a2:aQ:=(.s .r (.s (.c .l .l) (.s (.bN (.s .r .r)) .r)))
def a3:aQ:=(.s .r (.s .r (.s .r .l)))
def a4:aQ:=(.s (.cV [.r,.r,.r,.pure 2]) .l)
def a5:aQ:=(.s (.cV [.r,.r,.r,.pure 2]) (.c (.s .r .l) .l))
def c3:aQ:=(.s .r (.s (.cV [.r,.r,.r,.r,.pure 3]) .l))
def dE:aQ:=(.s .r (.s .r (.c .r .l)))
def c4:aQ:=(.c (.s .r (.s .r .l)) .l)
def a9:aQ:=(.s .r (.s (.cV [.r,.r,.r,.pure 2,.r,.r,.r,.split 7]) .l))
def dZ:aQ:=(.s (.cV [.r,.r,.r,.r,.split 4]) (.c (.s .r .l) .l))
def dP:aQ:=(.s (.cV [.r,.r,.r,.split 3]) (.c (.s .r .l) .l))
def eI:aQ:=(.s (.cV [.r,.r,.r,.pure 3]) (.c (.s .r .l) .l))
theorem okF{f:Nat}{fn:Func}(p:J->(aa->J->Prop)->Prop)(A:aQ){args:O aa}{w:J}{Q:aa->J->Prop}(hf:Tryz.prog.funcs[f]? =some fn)(h:p w Q)(h1:nI fn args.length=true:=by kernel_rfl)(h2:p w Q=pb aj tk A fn args w Q:=by kernel_rfl):aN aj f args.toArray w Q:=DR w4 hf h1 (Eq.mp h2 h)
def tg(c:Y)(d:J)(e:J)(f:J)(g:J->Prop):Prop:=∃a:Y,∃b:J,Sem.run aj (Builtin.append_ #[127,127] 127 #[c,
 .slice (some (U d)) 1 1]) e=.ok a b/\st b ((U f).add 1) a λh=>g h
def q6(a:J)(c:J)(ag:J)(d:ah)(Q:aa->J->Prop):Prop:=af a ((U c).add 1) λe=>af a ((U c).add 2) λf=>af a ((U c).add 3) λg=>bx a (U ag)
 [d,e,f,g]/\(4:Nat)=4/\ak (setCells a (U ag) 0 [d,e,f,g]) λb=>a7 b (U ag) λh=>af b ((U ag).add 1) λi=>af b ((U ag).add 2) λj=>af b ((U ag).add 3) λk=>Q (.tuple #[.agg #[h,i,j,k],true]) b
def q7(a:J)(ag:J)(Q:aa->J->Prop)(b:ah):Prop:=af a ((U ag).add 1) λc=>af a ((U ag).add 2) λd=>af a ((U ag).add 3) λe=>Q (.tuple #[.agg #[b,c,d,e],false]) a
def bE(l:J)(a:J)(m:ah)(n:Y)(o:Y)(p:Y)(b:J)(q:ah)(r:Y)(s:Y)(t:Y)(w:J)(key:Y)(ag:J)(Q:aa->J->Prop):Prop:=bx l (U a)
 [m,n,o,p]/\(4:Nat)=4/\ak (setCells l (U a) 0 [m,n,o,p]) λu=>bx u (U b) [q,r,s,t]/\(4:Nat)=4/\ak (setCells u (U b) 0 [q,r,s,t]) λf=>bo (λv:J->Prop=>a7 f (U w) λF=>ai (!F) (ak (f.drew) λg=>∃h:Nat->Prop,¬h ((U a).add 1).block/\af g ((U a).add 1)
 λG=>aZ 135 #[key] g λH d=>ad h g d/\ak (d.alloc (.cells #[H] 48)) λx=>ad h d x/\tg G d x a v) (v
 f)) (λi=>af i ((U a).add 1) λI=>af i ((U b).add 1) λK=>∃y:Y,∃z:J,Sem.run aj (Builtin.append_ #[127,127] 127 #[I,
 K]) i=.ok y z/\st z ((U a).add 1) y λj=>af j ((U a).add 2) λL=>af j ((U b).add 2) λM=>∃A:Y,
 ∃B:J,Sem.run aj (Builtin.append_ #[127,127] 127 #[L,M]) j=.ok A B/\st B ((U a).add 2)
 A λk=>af k ((U a).add 3) λN=>af k ((U b).add 3) λO=>∃C:Y,∃D:J,Sem.run aj (Builtin.append_ #[58,58] 58 #[N,O]) k=.ok C D/\st D ((U a).add 3) C λc=>a7 c (U a) λP=>af c ((U a).add 1) λR=>af c
 ((U a).add 2) λS=>af c ((U a).add 3) λT=>aF 203 #[.agg #[P,R,S,T]] c λV e=>ai (!V) (bx
 e (U ag) [false,(),(),()]/\(4:Nat)=4/\ak (setCells e (U ag) 0 [false,(),(),()]) λE=>a7 E (U ag) λW=>q7 E ag Q
 W) (a7 e (U a) λX=>q6 e a ag X Q))
def q8(a:J)(b:J)(c:ah)(d:Y)(e:Y)(f:Y)(g:J->Prop):Prop:=bx a (U b) [c,d,e,f]/\(4
 :Nat)=4/\ak (setCells a (U b) 0 [c,d,e,f]) λh=>g h
def th(d:J)(a:J)(e:ah)(f:Y)(g:Y)(h:Y)(i:ah)(Q:aa->J->Prop)(c:ao ab)(n31:Int):Prop:=bx d (U a) [e,f,
 g,h]/\(4:Nat)=4/\ak (setCells d (U a) 0 [e,f,g,h]) λb=>
 ai (!i) (Q (.tuple #[(),(0:Int),(0:Int),(4:Int)]) b) (a7 b (U a) λj=>af b ((U a).add 1) λk=>af b ((U a).add 2) λl=>af b ((U a).add 3) λ
 m=>b6 281 #[c,.agg #[j,k,l,m]] b λn o p=>Q (.tuple #[n,n31,.int .i64 (ar (n31+2)),o]) p)
def bX(j:J)(e:J)(q:ah)(r:Y)(s:Y)(t:Y)(V:Nat->Prop)(f:J)(u:ah)(v:Y)(x:Y)(y:Y)(up:ao ab)(n36:Int)(w:J)(h:J)(n31:Int)(Q:aa
 ->J->Prop)(c:ao ab):Prop:=bx j (U e) [q,r,s,t]/\(4:Nat)=4/\ak (setCells j (U e) 0 [q,r,s,t]) λk=>ad V j k/\bx k (U f) [u,v,x,y]/\(4:
 Nat)=4/\ak (setCells k (U f) 0 [u,v,x,y]) λl=>bo (λz:J->Prop=>∃A:ab,up=some A/\r1 l (A.add 5) λW
 =>ai (decide (n36>W)) (ak (l.drew) λd=>∃m:Nat->Prop,¬m ((U w):ab).block/\a7 d (U w) λB=>af d ((U w).add 1) λC=>af d ((U w).add 2) λD=>af d ((U w).add 3) λE
 =>¬m ((U h):ab).block/\a7 d (U h) λX=>af d ((U h).add 1) λZ=>af d ((U h).add 2) λac=>af d ((U h).add 3) λae=>bx d (U e) [B,C,D,E]/\(4:Nat)=4/\ak (setCells d (U e) 0 [B,C,D,E]) λF=>ad m d
 F/\q8 F f X Z ac ae z) (z l)) (λag=>ak (ag.drew) λb=>∃g:Nat->Prop,¬g ((U e):ab).block/\a7 b (U e) λG=>af b ((U e).add 1) λH=>af b ((U e).add 2) λ
 I=>af b ((U e).add 3) λK=>∃n:ab,up=some n/\¬g ((n.add 1).add 1).block/\af b ((n.add 1).add 1) λL=>∃o:ab,L.a=some o/\aK n31 L.len/\¬g (o.add (n31.toNat*
 1)).block/\af b (o.add (n31.toNat*1)) λM=>¬g ((U f):ab).block/\a7 b (U f) λN=>af b ((U f).add 1) λO=>af b ((U f).add 2) λP=>af b ((U f).add 3) λ
 R=>(iA 282 #[.agg #[G,H,I,K],M,.agg #[N,O,P,R]] b λaj al am an ap i=>ad g b i/\ak (i.alloc cl) λS=>ad g i S/\th S i aj al am an ap Q c n31)/\(ak (b.alloc cl) λ
 p=>ad g b p/\iA 282 #[.agg #[G,H,I,K],M,.agg #[N,O,
 P,R]] p λaq ar au av aw T=>ad g p T/\th T b aq ar au av aw Q c n31))
def c6(a:J)(b:J)(w1:J)(Q:aa->J->Prop):Prop:=a7 a (U b) λc=>q6 a b w1 c Q
def ti(a:J)(c:J)(w1:J)(d:ah)(Q:aa->J->Prop):Prop:=af a ((U c).add 1) λe=>af a ((U c).add 2) λf=>af a ((U c).add 3) λg=>bx a (U w1)
 [d,e,f,g]/\(4:Nat)=4/\ak (setCells a (U w1) 0 [d,e,f,g]) λb=>a7 b (U w1) λh=>af b ((U w1).add 1) λi=>af b ((U w1).add 2) λj=>af b ((U w1).add 3) λk=>Q (.agg #[h,i,j,k]) b
def jW(m:J)(b:J)(eH:Array aa)(l:Y)(w:J)(to:Int)(w1:J)(Q:aa->J->Prop):Prop:=bx m (U b) (Array.toList eH)/\Array.size eH=4/\ak (setCells m (U b) 0
 (Array.toList eH)) λA=>∃ (h:Int->J->Prop) (n:Int->J->Nat),h 0 A/\∀ (n19:Int) (c:J),h n19 c->ai (decide (n19<(l.len:Int))) (∃i:ab,l.a=some i/\aK n19 l.len/\af c (i.add
 (n19.toNat*2)) λo=>r1 c ((i.add (n19.toNat*2)).add 1) λn23=>ak (c.alloc z5) λp=>bx p (U c) [o,n23]/\(2:Nat)=2/\ak (setCells p (U c) 0 [o,n23]) λd=>bo (λq:J->Prop=>af d (U c) λB=>ai (!(Option.isNone B.a)) (af d ((U b).add 1) λC=>af d (U c) λD=>ak (d.alloc (.cells #[D] 48)) λE=>tg C d E b q) (q d)) (λg=>af g ((U b).add 3) λF=>r1 g ((U c).add 1) λn36=>ak (g.alloc (.cells #[n36] 3)) λG=>∃r:Y,
 ∃s:J,Sem.run aj (Builtin.append_ #[58,58] 58 #[F,.slice (some (U g)) 1 1]) G=.ok r s/\st s ((U b).add 3) r λt=>h (ar (n19+1)) t/\n (ar (n19+1)) t<n n19 c)) (ak (c.drew) λj=>¬False/\af j ((U b).add 1) λH=>¬False/\af j ((U w).add 1) λe=>((0:Int)<=(ar (to-
 1))/\(ar (to-1))<=(e.len:Int))/\∃u:Y,∃v:J,Sem.run aj (Builtin.append_ #[127,127] 127 #[H,.slice (aM e.a 1 ((ar (to-1)).toNat) e.cap)
 (e.len-((ar (to-1)).toNat)) (e.cap-((ar (to-1)).toNat))]) j=.ok u v/\st v ((U b).add 1) u λI=>ak (I.drew) λk=>¬False/\af k
 ((U b).add 3) λK=>¬False/\af k ((U w).add 3) λf=>((0:Int)<=to/\to<=(f.len:Int))/\∃x:Y,∃y:J,Sem.run aj (Builtin.append_ #[58,58] 58 #[K,.slice (aM f.a 1 (to.toNat) f.cap) (f.len-(to.toNat)) (f.cap-(to.toNat))]) k=.ok x y/\st y ((U b).add 3) x λz=>a7 z (U
 b) λL=>ti z b w1 L Q)
def iS(o:Array aa)(f:J)(c:Nat->Prop)(p:Array aa)(w1:J)(ag:J)(Q:aa->J->Prop)(q:Y):Prop:=gu 204 #[.agg o] f λg h i j d=>ad c f d/\gu
 204 #[.agg p] d λk l m n b=>ad c d b/\bx b (U w1) [g,h,i,j]/\(4:Nat)=4/\ak (setCells b (U w1) 0
 [g,h,i,j]) λe=>ad c b e/\bx e (U ag) [k,l,m,n]/\(4:Nat)=4/\ak (setCells e (U ag) 0 [k,l,m,n]) λa=>a7 a (U w1) λr=>af a ((U w1).add 1) λs=>
 af a ((U w1).add 2) λt=>af a ((U w1).add 3) λu=>a7 a (U ag) λv=>af a ((U ag).add 1) λw=>af a ((U ag).add 2) λx=>af a ((U ag).add 3) λy=>Q (.tuple #[.agg
 #[r,s,t,u],q,.agg #[v,w,x,y],true]) a
def iT(a:J)(w1:J)(Q:aa->J->Prop):Prop:=a7 a (U w1) λb=>q7 a w1 Q b
def gH(a:J)(b:J)(w1:J)(Q:aa->J->Prop):Prop:=a7 a (U b) λc=>ti a b w1 c Q
def tj(f:Nat->Prop)(k:J)(g:J)(l:Y)(n:Y)(c:Y)(h:Int)(m:ao ab)(Q:aa->J->Prop):Prop:=ad f k g/\∃i:Y,∃d:J,Sem.run aj (Builtin.append_
 #[86,86] 86 #[l,n]) g=.ok i d/\ad f g d/\∃j:Y,∃b:J,Sem.run aj (Builtin.append_
 #[86,86] 86 #[i,.slice (aM c.a 2 ((ar (h+1)).toNat) c.cap) (c.len-((ar (h+1)).toNat)) (c.cap-((ar (h+1)).toNat))]) d=.ok j b/\ad f d b/\∃e:ab,m=some e/\(∃u:aa,b.cell? e=some u)/\b.frozen? e=false/\ak (b.setCell e j) λo=>Q (.tuple #[]) o
def fY(f:Nat->Prop)(k:J)(g:J)(l:Y)(n:Y)(c:Y)(h:Int)(m:ao ab)(Q:aa->J->Prop):Prop:=ad f k g/\∃i:Y,∃d:J,Sem.run aj (Builtin.append_
 #[86,86] 86 #[l,n]) g=.ok i d/\ad f g d/\∃j:Y,∃b:J,Sem.run aj (Builtin.append_
 #[86,86] 86 #[i,.slice (aM c.a 2 (h.toNat) c.cap) (c.len-(h.toNat)) (c.cap-(h.toNat))]) d=.ok j b/\ad f d
 b/\∃e:ab,m=some e/\(∃u:aa,b.cell? e=some u)/\b.frozen? e=false/\ak (b.setCell e j) λo=>Q (.tuple #[]) o
def w6(a:J)(w:J)(Q:aa->J->Prop)(n12:Int):Prop:=r1 a (U w) λn13=>r1 a ((U w).add 1) λn14=>r1 a ((U w).add 2) λn15=>bl a ((U w).add 3) λn16=>bl a ((U w).add
 4) λn17=>r1 a ((U w).add 5) λn18=>bx a (U w) [n13,n14,n15,.int .u64 n16,.int .u64 n17,n18]/\(6:Nat)=6/\ak (setCells a (U w) 0 [n13,n14,n15,.int .u64 n16,.int .u64 n17,n18]) λb=>r1 b (U w) λn20=>r1 b ((U w).add 1) λn21=>r1 b ((U w).add 2) λn22=>bl b ((U w).add 3) λn23=>bl b ((U w).add 4) λn24
 =>r1 b ((U w).add 5) λn25=>Q (.tuple #[.agg #[n20,n21,n22,.int .u64 n23,.int .u64 n24,n25],.int .u64 0,n12]) b
def tm(a:J)(w:J)(Q:aa->J->Prop)(n7:Int):Prop:=a7 a (U w) λb=>af a ((U w).add 1) λc=>af a ((U w).add 2) λd=>af a ((U w).add 3) λe=>Q (.tuple #[.agg #[b,c,d,e],n7]) a
def An(g:Y)(n34:Int)(c:J)(d:J)(n:Int->J->Prop)(h:Int->J->Nat):Prop:=∃i:ab,g.a=some i/\aK n34 g.len/\af c (i.add (n34.toNat*1)) λo=>ak (c.drew) λe
 =>∃f:Nat->Prop,¬f ((U d).add 2).block/\af e ((U d).add 2) λp=>aZ 135 #[o] e λq b=>ad f e b/\ak (b.alloc (.cells #[q] 48)) λj=>ad f b j/\∃k:Y,∃l:J,Sem.run aj (Builtin.append_ #[127,127] 127 #[p,.slice (some (U b)) 1 1]) j=
 .ok k l/\st l ((U d).add 2) k λm=>n (ar (n34+1)) m/\h (ar (n34+1)) m<h n34 c
def Ao(g:Y)(n17:Int)(c:J)(d:J)(m:Int->J->Prop)(h:Int->J->Nat):Prop:=∃gZ:ab,g.a=some gZ/\aK n17 g.len/\af c (gZ.add (n17.toNat*1)) λn=>ak (c.drew) λe
 =>∃f:Nat->Prop,¬f ((U d).add 1).block/\af e ((U d).add 1) λo=>aZ 135 #[n] e λp b=>ad f e b/\ak (b.alloc (.cells #[p] 48)) λi=>ad f b i/\∃j:Y,∃k:J,Sem.run aj (Builtin.append_ #[127,127] 127 #[o,.slice (some (U b)) 1 1]) i=
 .ok j k/\st k ((U d).add 1) j λl=>m (ar (n17+1)) l/\h (ar (n17+1)) l<h n17 c
def pr(c:ah)(b:ah->J->Prop)(a:J)(w:J):Prop:=ai (!c) (b true a) (a7 a (U w) λd=>af a ((U w).add 1) λe=>af a ((U w).add 2) λf=>af a ((U w).add 3) λg
 =>aF 203 #[.agg #[d,e,f,g]] a λh i=>b (!h) i)
def w7(g:J)(ag:J)(w1:J)(h:J->Prop):Prop:=ak (g.drew) λb=>∃c:Nat->Prop,¬c ((U ag).add 3).block/\af b ((U ag).add 3) λi=>ay 272 #[.pointer (some (U
 w1)),(2:Int)] b λn14 a=>ad c b a/\ak (a.alloc (.cells #[n14] 3)) λd=>ad c a d/\∃e:Y,∃f:J,Sem.run aj (Builtin.append_ #[58,58] 58 #[i,.slice (some (U a)) 1 1]) d=.ok e f/\st f ((U ag).add 3) e λj=>h j
def q9(a:J)(w:J)(Q:aa->J->Prop):Prop:=a7 a (U w) λb=>af a ((U w).add 1) λc=>af a ((U w).add 2) λd=>af a ((U w).add 3) λe=>Q (.tuple #[.agg #[b,
 c,d,e],(4:Int)]) a
def fw(l:aa)(m:J)(d:ao ab)(n:J->Prop)(g:J->Nat)(o:J):Prop:=∃n15:Int,∃p:aa,∃h:J,Sem.run aj (Instr.entry (l)) m=.ok (.tuple #[n15,p])
 h/\ak (h.drew) λb=>∃i:Nat->Prop,∃c:ab,d=some c/\¬i (c.add 4).block/\af b (c.add 4) λj=>td 137 #[d,n15] b λgg e=>ad i b e/\∃f:ab,
 j.a=some f/\aK n15 j.len/\bx e (f.add (n15.toNat*256)) (Array.toList gg)/\Array.size gg=256/\ak (setCells e (f.add (n15.toNat*256)) 0 (Array.toList gg)) λk=>n k/\g k<g o
def w8(h:Y)(j:Y)(c:J)(k:Nat->Prop)(l:ao Nat)(i:Int)(d:ao ab)(Q:aa->J->Prop):Prop:=∃e:Y,∃a:J,Sem.run aj (Builtin.append_ #[136,
 136] 136 #[h,j]) c=.ok e a/\ad k c a/\∃b:J,Sem.run aj (Instr.mapUpdate 137
 (.map l) i e) a=.ok () b/\∃f:ab,d=some f/\r1 b (f.add 6) λn24=>∃g:ab,d=some g/\st b (g.add 6) (.int .i64 (ar (n24+1))) λm=>Q (0:Int) m
def w9(a:J)(w:J)(Q:aa->J->Prop):Prop:=r1 a (U w) λn35=>r1 a ((U w).add 1) λn36=>r1 a ((U w).add 2) λn37=>bl a ((U w).add 3) λn38=>bl a ((U w).add 4) λ
 n39=>r1 a ((U w).add 5) λn40=>Q (.tuple #[.agg #[n35,n36,n37,.int .u64 n38,.int .u64 n39,n40],(0:Int),.int .u64 0,(4:Int)]) a
def w_(ag:J)(w:J)(Q:aa->J->Prop):Prop:=r1 ag (U w) λa=>r1 ag ((U w).add 1) λb=>r1 ag ((U w).add 2) λn5=>bl ag ((U w).add 3) λn6=>bl ag ((U w).add 4) λn7=>r1
 ag ((U w).add 5) λn8=>Q (.agg #[a,b,n5,.int .u64 n6,.int .u64 n7,n8]) ag
def xa(a:Y):Prop:=(0:Int)<=(ar (232-(a.len:Int)))/\((ar (232-(a.len:Int))):Int)<=(ar (232-(a.len:Int)))/\((ar (232-(a.len:Int))):Int)<=km/\((1:Nat):Int)*(ar (232-(a.len:Int)))<=
 140737488355328
def tn(a:J)(n6:Int)(d:Y)(e:Y->J->Prop):Prop:=ak (a.alloc (.cells #[n6] 3)) λf=>∃b:Y,∃c:J,Sem.run aj (Builtin.append_ #[58,58] 58 #[d,.slice (some (U a)) 1 1]) f=.ok b c/\e b c
def xb(a:J)(c:Y)(d:J)(e:Y)(f:J)(b:Y)(g:Y->J->Prop):Prop:=ak (a.alloc (.cells #[c,.slice (some (U d)) (Int.toNat 4) (Int.toNat 4),e,.slice (some (U f)) ((ar (232-(b.len:Int))).toNat) ((ar (232-(b.len:Int))).toNat)] 48)) λh=>aZ 92 #[.slice (some (U a)) 4 4] h λi j=>g i j
def xc(d:ao ab)(a:J)(Q:aa->J->Prop):Prop:=∃b:ab,d=some b/\∃c:ao Nat,a.cell? (b.add 5)=some (.map c)/\∃ (f:aa) (e:J),Sem.run aj (Builtin.clear_
 #[137] 0 #[.map c]) a=.ok f e/\Q (0:Int) e
def xd(a:J)(w:J)(Q:aa->J->Prop):Prop:=r1 a (U w) λn9=>bl a ((U w).add 1) λn10=>af a ((U w).add 2) λb=>Q (.tuple #[.agg #[n9,.int .u64 n10,b],(4:Int)]) a
def xe(b:J)(w:J)(a:O aa)(Q:aa->J->Prop):Prop:=bx b (U w) (Array.toList a.toArray)/\Array.size a.toArray=256/\ak (setCells b (U w) 0 (Array.toList a.toArray)) λc=>∃d:O
 aa,cJ c (U w) 0 256=some d/\Q (.agg d.toArray) c
def tp(h:J)(b:J)(i:ah)(j:Y)(k:Y)(l:Y)(m:Int)(Q:aa->J->Prop)(c:ao ab)(n41:Int)(w:J)(up:ao ab)(n36:Int)(n31:Int):Prop:=bx h (U b)
 [i,j,k,l]/\(4:Nat)=4/\ak (setCells h (U b) 0 [i,j,k,l]) λe=>ai (m !=0) (Q (.tuple #[(),(0:Int),(0:Int),m]) e) (∃n:ab,c=some n/\af e (n.add 2) λC=>ak (e.alloc (.cells #[n41] 3)) λD=>∃o:
 Y,∃p:J,Sem.run aj (Builtin.append_ #[58,58] 58 #[C,.slice (some (U e)) 1 1]) D=.ok o p/\∃q:ab,c=some q/\st p (q.add
 2) o λE=>ak (E.drew) λa=>∃d:Nat->Prop,¬d ((U b):ab).block/\a7 a (U b) λr=>af a ((U b).add 1) λs=>af a ((U b).add 2) λt=>af a
 ((U b).add 3) λu=>¬d ((U w):ab).block/\a7 a (U w) λv=>af a ((U w).add 1) λx=>af a ((U w).add 2) λy=>af a ((U w).add 3) λz=>(ak (a.alloc cl) λf=>ad d
 a f/\ak (f.alloc cl) λA=>ad d f A/\bX A a r s t u d f v x y z up n36 w b n31 Q c)/\(ak (a.alloc cl) λg=>ad d a g/\ak (g.alloc cl) λB=>ad d g B/\bX B
 g r s t u d a v x y z up n36 w b n31 Q c))
def nO(c:ah)(d:Y)(e:Y)(f:Y)(a:J)(g:Nat->Prop)(h:J)(i:ah)(j:Y)(k:Y)(l:Y)(m:J)(w:J)(key:Y)(ag:J)(Q:aa->J->Prop):Prop:=gu
 204 #[.agg #[c,d,e,f]] a λn o p q b=>ad g a b/\bE b h i j k l m n o p q w key ag
 Q
def xf(f:J)(a:J)(gF:Array aa)(w:J)(w1:J)(Q:aa->J->Prop):Prop:=bx f (U a) (Array.toList gF)/\Array.size gF=4/\ak (setCells f (U a) 0 (Array.toList gF)) λg=>af
 g ((U w).add 1) λh=>∃ (c:Int->J->Prop) (j:Int->J->Nat),c 0 g/\∀ (n17:Int) (b:J),c n17 b->ai (decide (n17<(h.len:Int))) (Ao h n17 b a c j) (af b ((U w).add 2) λ
 i=>∃ (d:Int->J->Prop) (k:Int->J->Nat),d 0 b/\∀ (n34:Int) (e:J),d n34 e->ai (decide (n34<(i.len:Int))) (An i n34 e a d k) (gH e a w1 Q))
def xg(a:J)(w:J)(Q:aa->J->Prop)(n7:Int):Prop:=bx a (U w) [false,(),(),()]/\(4:Nat)=4/\ak (setCells a (U w) 0 [false,(),
 (),()]) λb=>tm b w Q n7
set_option maxRecDepth 100000
def I7.tq(s:Y)(v:Int)(w:J)(Q:aa->J->Prop):Prop:=ay 184 #[s,v] w λa w1=>Q (.bool (decide (a>=0))) w1
def I6.tq:aQ:=(.s .r (.s .r .l))
def I7.nP(s:Y)(w:J)(Q:aa->J->Prop):Prop:=ai (Option.isNone s.a) (Q () w) (ak (w.alloc (.cells #[] 5)) λw1=>∃s2:Y,∃b:J,Sem.run aj
 (Builtin.append_ #[48,48] 48 #[.slice (some (U w)) 0 0,s]) w1=.ok s2 b/\Q s2 b)
def I6.nP:aQ:=cI
def I7.tr(d:Y)(f:Y)(w:J)(Q:aa->J->Prop):Prop:=ai ((d.len:Int) !=(f.len:Int)) (Q false w) (∃ (g:Int->J->Prop) (h:Int->J->Nat),g 0 w/\∀ (b:Int)
 (e:J),g b e->ai (decide (b<(d.len:Int))) (ak (e.drew) λc=>∃c3:ab,d.a=some c3/\aK b d.len/\¬False/\r1 c (c3.add (b.toNat*1)) λn7=>∃c4:ab,f.a=some c4/\aK b f.len/\¬
 False/\r1 c (c4.add (b.toNat*1)) λn9=>ai (n7 !=n9) (Q false c) (g (ar (b+1)) c/\h (ar (b+1)) c<h b e)) (Q true e))
def I6.tr:aQ:=(.s .r (.s a1 (.s (.s .r (.bN (.loop [(13,(.int .i64))] [0,1,12] (.s .r (.s (.c .l .l) (.s (.bN (.s .r (.s (.cd 8 false ⟨[0,0,3,4,0,0,48,64,136],[0,0,3,4,0,0,48,64,136]⟩ [65536,
 131072,262144,524288,1048576,2097152,4194304,8388608,16777216] [1,32,196608,262144,2,32,3145728,4194304,8912896] (.t 0 (.t 1 (.t 2 (.t 3 (.t 4 (.t 5 (.t 6 (.t 7 (.tail [.r])))))))))) (.c (.s .r .l) .l)))) .r)))))) (.s .r
 .l))))
def I7.pt(a:Y)(b:Y)(w:J)(Q:aa->J->Prop):Prop:=∃s1:ByteArray,∃ag:J,Sem.run aj (convert 48 9 a) w=.ok (.string s1) ag/\∃c:ByteArray,∃d
 :J,Sem.run aj (convert 48 9 b) ag=.ok (.string c) d/\Q (.bool (ByteArray.toList s1==ByteArray.toList c)) d
def I6.pt:aQ:=(.s .r (.s .r .l))
def I7.tu(s:Y)(f:hE)(w:J)(Q:aa->J->Prop):Prop:=ay 225 #[s,.func (.func f.f) f.pre f.cap] w λa w1=>Q (.bool (decide (a>=0)))
 w1
def I6.tu:aQ:=(.s .r (.s .r .l))
def I7.kn(a:Y)(b:Y)(w:J)(Q:aa->J->Prop):Prop:=∃bR:Int,∃ag:J,Sem.run aj (callFunc 230 #[a,b]) w=.ok (.value bR) ag/\Q bR ag
def I6.kn:aQ:=(.s .r (.s .r .l))
def I7.tv(m:ao Nat)(w:J)(Q:aa->J->Prop):Prop:=ak (w.alloc (.cells #[.map m] 137)) λw1=>Q (.func (.func
 232) #[] #[.pointer (some (U w))]) w1
def I6.tv:aQ:=(.s .r (.s .r .l))
theorem I7.Ec(m:ao Nat)(w:J)(Q:aa->J->Prop)(h:I7.tv m w Q):aN aj 178 #[.map m] w Q:=okF (λw Q=>I7.tv m w Q) I6.tv func178 h
def I7.tw(s:Y)(v:Int)(w:J)(Q:aa->J->Prop):Prop:=∃ (d:Int->J->Prop) (e:Int->J->Nat),d 0 w/\∀ (b:Int) (c:J),d b c->ai (decide (b<(s.len:Int))) (∃a5:
 ab,s.a=some a5/\aK b s.len/\r1 c (a5.add (b.toNat*1)) λn6=>ai (v==n6) (Q b c) (d (ar (b+1)) c/\e (ar (b+1)) c<e b c)) (Q (.int .i64 (-1)) c)
def I6.tw:aQ:=e3
def I7.tx(s:Y)(w:J)(Q:aa->J->Prop):Prop:=ai (Option.isNone s.a) (Q () w) (ak (w.alloc (.cells #[] 5)) λw1=>∃s2:Y,∃b:J,Sem.run aj
 (Builtin.append_ #[215,215] 215 #[.slice (some (U w)) 0 0,s]) w1=.ok s2 b/\Q s2 b)
def I6.tx:aQ:=cI
def I7.tz(x:Int)(w:J)(Q:aa->J->Prop):Prop:=(0:Int)<=x/\∃b5:UInt8,wu (ByteArray.mk #[0,1,1,2,1,2,2,3,1,2,2,3,2,3,3,4,1,2,2,3,2,3,3,4,2,3,3,4,3,4,4,5,1,2,
 2,3,2,3,3,4,2,3,3,4,3,4,4,5,2,3,3,4,3,4,4,5,3,4,4,5,4,5,5,6,1,2,2,3,2,3,3,4,2,3,3,4,3,4,4,5,2,3,3,4,3,4,4,5,3,4,4,5,4,5,5,6,2,3,3,4,3,4,4,5,3,4,4,5,4,5,5,6,3,4,
 4,5,4,5,5,6,4,5,5,6,5,6,6,7,1,2,2,3,2,3,3,4,2,3,3,4,3,4,4,5,2,3,3,4,3,4,4,5,3,4,4,5,4,5,5,6,2,3,3,4,3,4,4,5,3,4,4,5,4,5,5,6,3,4,4,5,4,5,5,6,4,5,5,6,5,6,6,7,2,3,
 3,4,3,4,4,5,3,4,4,5,4,5,5,6,3,4,4,5,4,5,5,6,4,5,5,6,5,6,6,7,3,4,4,5,4,5,5,6,4,5,5,6,5,6,6,7,4,5,5,6,5,6,6,7,5,6,6,7,6,7,7,8]) (x.toNat)=some b5/\Q (.int .i64 (ar ((b5.toNat
 :Nat):Int))) w
def I6.tz:aQ:=(.s .r (.s .r .l))
def I7.tA(s:Y)(i:Int)(j:Int)(w:J)(Q:aa->J->Prop):Prop:=((0:Int)<=(s.len:Int)/\(s.len:Int)<=(s.cap:Int))/\((0:Int)<=j/\j<=(((Int.toNat (s.len:Int)):Nat):
 Int))/\((0:Int)<=i/\i<=(((j.toNat):Nat):Int))/\ai (i==j) (Q s w) (ak (w.drew) λw1=>((0:Int)<=i/\i<=(s.cap:Int))/\((0:Int)<=j/\j<=(s.len:Int))/\∃s2:Y,∃b:J,
 Sem.run aj (Builtin.append_ #[127,127] 127 #[.slice (aM s.a 1 0 s.cap) ((i.toNat)-0) (s.cap-0),.slice (aM s.a 1 (j.toNat) s.cap) (s.len-(j.toNat)) (s.cap-(j.toNat))]) w1
 =.ok s2 b/\((0:Int)<=(s.len:Int)/\(s.len:Int)<=(s2.cap:Int))/\((0:Int)<=(s2.len:Int)/\(s2.len:Int)<=(((Int.toNat (s.len:Int)):Nat):Int))/\∃ (bl:aa) (c:J),Sem.run aj
 (Builtin.clear_ #[127] 0 #[.slice (aM s2.a 1 (Int.toNat (s2.len:Int)) s2.cap) ((Int.toNat (s.len:Int))-(Int.toNat (s2.len:Int))) (s2.cap-(Int.toNat (s2.len:Int)))]) b=.ok bl c/\Q s2 c)
def I6.tA:aQ:=(.s .r (.s .r (.s a1 (.s .r (.s (.cd 6 false ⟨[0,0,3,0,0,24,36,127],[0,0,3,0,0,24,36,73]⟩ [1048576,2097152,4194304,8388608,16777216,33554432,67108864,1] [1,2,3145728,
 1,4,25165824,37748736,67108864] (.t 0 (.t 1 (.t 2 (.t 3 (.t 4 (.t 5 (.tail [.r,.r])))))))) (.s .r (.s .r .l)))))))
def I7.tB(s:Y)(i:Int)(v:Y)(w:J)(Q:aa->J->Prop):Prop:=((0:Int)<=i/\i<=(s.len:Int))/\ai ((v.len:Int)==0) (Q s w) (ai (i==(s.len:Int)) (∃s1:Y,
 ∃ag:J,Sem.run aj (Builtin.append_ #[127,127] 127 #[s,v]) w=.ok s1 ag/\Q s1 ag) (ai (decide
 (((ar ((s.len:Int)+(v.len:Int))):Int)>(s.cap:Int))) (((0:Int)<=i/\i<=(s.cap:Int))/\∃b:Y,∃d:J,Sem.run aj (Builtin.append_ #[127,3] 127 #[.slice (aM s.a 1 0
 s.cap) ((i.toNat)-0) (s.cap-0),.int .i64 (ar ((ar ((s.len:Int)+(v.len:Int)))-i))]) w=.ok b d/\((0:Int)<=i/\i<=(b.len:Int))/\∃n5:Int,∃e:J,Sem.run aj (Builtin.copy_
 #[127,127] 3 #[.slice (aM b.a 1 (i.toNat) b.cap) (b.len-(i.toNat)) (b.cap-(i.toNat)),v]) d=.ok n5 e/\ak (e.drew) λl=>((0:Int)<=(ar (i+
 (v.len:Int)))/\(ar (i+(v.len:Int)))<=(b.len:Int))/\((0:Int)<=i/\i<=(s.len:Int))/\∃n8:Int,∃f:J,Sem.run aj (Builtin.copy_ #[127,127] 3 #[.slice (aM b.a 1 ((ar (i+
 (v.len:Int))).toNat) b.cap) (b.len-((ar (i+(v.len:Int))).toNat)) (b.cap-((ar (i+(v.len:Int))).toNat)),.slice (aM s.a 1 (i.toNat) s.cap) (s.len-(i.toNat)) (s.cap-(i.toNat))]) l=.ok n8 f/\Q
 b f) (((0:Int)<=(ar ((s.len:Int)+(v.len:Int)))/\(ar ((s.len:Int)+(v.len:Int)))<=(s.cap:Int))/\((0:Int)<=(ar (i+(v.len:Int)))/\(ar (i+(v.len:Int)))<=(((((ar ((s.len:Int)+
 (v.len:Int))).toNat)-0):Nat):Int))/\∃g:ah,∃c:J,Sem.run aj (callFunc 252 #[v,.slice (aM (aM s.a 1 0 s.cap) 1 ((ar (i+(v.len:Int))).toNat) (s.cap-0))
 ((((ar ((s.len:Int)+(v.len:Int))).toNat)-0)-((ar (i+(v.len:Int))).toNat)) ((s.cap-0)-((ar (i+(v.len:Int))).toNat))]) w=.ok (.value g) c/\ai (!g) (ak (c.drew) λm=>((0:Int)<=(ar (i+
 (v.len:Int)))/\(ar (i+(v.len:Int)))<=(((((ar ((s.len:Int)+(v.len:Int))).toNat)-0):Nat):Int))/\((0:Int)<=i/\i<=(((((ar ((s.len:Int)+(v.len:Int))).toNat)-0):Nat):Int))/\∃n13:Int,∃h:J,Sem.run
 aj (Builtin.copy_ #[127,127] 3 #[.slice (aM (aM s.a 1 0 s.cap) 1 ((ar (i+(v.len:Int))).toNat) (s.cap-0)) ((((ar ((s.len:Int)+(v.len:Int))).toNat)-0)-((ar (i+
 (v.len:Int))).toNat)) ((s.cap-0)-((ar (i+(v.len:Int))).toNat)),.slice (aM (aM s.a 1 0 s.cap) 1 (i.toNat) (s.cap-0)) ((((ar ((s.len:Int)+(v.len:Int))).toNat)-0)-(i.toNat)) ((s.cap-0)-(i.toNat))]) m=
 .ok n13 h/\((0:Int)<=i/\i<=(((((ar ((s.len:Int)+(v.len:Int))).toNat)-0):Nat):Int))/\∃n15:Int,∃j:J,Sem.run aj (Builtin.copy_ #[127,127] 3 #[.slice (aM (aM
 s.a 1 0 s.cap) 1 (i.toNat) (s.cap-0)) ((((ar ((s.len:Int)+(v.len:Int))).toNat)-0)-(i.toNat)) ((s.cap-0)-(i.toNat)),v]) h=.ok n15 j/\Q (.slice (aM s.a 1 0 s.cap)
 (((ar ((s.len:Int)+(v.len:Int))).toNat)-0) (s.cap-0)) j) (((0:Int)<=(s.len:Int)/\(s.len:Int)<=(((((ar ((s.len:Int)+(v.len:Int))).toNat)-0):Nat):Int))/\∃n17:Int,∃k:J,Sem.run aj
 (Builtin.copy_ #[127,127] 3 #[.slice (aM (aM s.a 1 0 s.cap) 1 (Int.toNat (s.len:Int)) (s.cap-0)) ((((ar ((s.len:Int)+(v.len:Int))).toNat)-0)-(Int.toNat (s.len:Int))) ((s.cap-0)-(Int.toNat
 (s.len:Int))),v]) c=.ok n17 k/\((0:Int)<=i/\i<=(((((ar ((s.len:Int)+(v.len:Int))).toNat)-0):Nat):Int))/\aR 253 #[.slice (aM (aM s.a 1 0 s.cap) 1
 (i.toNat) (s.cap-0)) ((((ar ((s.len:Int)+(v.len:Int))).toNat)-0)-(i.toNat)) ((s.cap-0)-(i.toNat)),.int .i64 (v.len:Int)] k λn=>Q (.slice (aM s.a 1 0 s.cap) (((ar ((s.len:Int)+
 (v.len:Int))).toNat)-0) (s.cap-0)) n))))
def I6.tB:aQ:=(.s .r (.s .r (.s .r (.s a1 (.s .r (.s a1 (.s (.s .r (.c (.s .r (.s .r (.s (.cd 8 false ⟨[0,0,0,6,9,0,0,96,144],[0,0,0,6,9,0,0,96,144]⟩ [70368744177664,140737488355328,
 281474976710656,562949953421312,1125899906842624,2251799813685248,4503599627370496,9007199254740992,18014398509481984] [512,2,128,422212465065984,633318697598976,1,2,6755399441055744,10133099161583616] (.t 0 (.t 1 (.t 2 (.t 3
 (.t 4 (.t 5 (.t 6 (.t 7 (.tail [.r])))))))))) (.s .r .l)))) .l)) (.s .r (.s (.s .r (.c (.s (.cd 8 false ⟨[0,0,0,6,9,0,0,96,144],[0,0,0,6,9,0,0,96,144]⟩ [590295810358705651712,1180591620717411303424,
 2361183241434822606848,4722366482869645213696,9444732965739290427392,18889465931478580854784,37778931862957161709568,75557863725914323419136,151115727451828646838272] [1,2,128,3541774862152233910272,5312662293228350865408,1,2,
 56668397794435742564352,85002596691653613846528] (.t 0 (.t 1 (.t 2 (.t 3 (.t 4 (.t 5 (.t 6 (.t 7 (.tail [.r])))))))))) (.s .r (.s .r .l))) .l)) a3)))))))))
def I7.q_(s:Y)(f:hE)(w:J)(Q:aa->J->Prop):Prop:=∃ (d:Int->J->Prop) (g:Int->J->Nat),d 0 w/\∀ (b:Int) (c:J),d b c->ai (decide (b<(s.len:Int))) (∃a5
 :ab,s.a=some a5/\aK b s.len/\bY c (a5.add (b.toNat*1)) λn6=>ix aj f.f/\Calls aj f.f (f.pre++ #[.int .u8 n6]++f.cap) c λi e=>∃h:ah,i=.returned h/\ai h (Q b e) (d (ar (b+1)) e/\g (ar (b+1)) e<g b c)) (Q (.int .i64 (-1)) c)
def I6.q_:aQ:=e3
theorem I7.Ed(s:Y)(f:hE)(w:J)(Q:aa->J->Prop)(h:I7.q_ s f w Q):aN aj 225 #[s,.func (.func f.f) f.pre f.cap] w Q:=okF (λw Q=>I7.q_ s f w Q) I6.q_ func225 h
def I7.tC(x:Y)(target:Y)(cmp:hE)(w:J)(Q:aa->J->Prop):Prop:=∃ (e:Int->Int->J->Prop) (g:Int->Int->J->Nat),e 0 (x.len:Int) w/\∀ (b:Int)
 (c:Int) (d:J),e b c d->ai (decide (b<c)) ((0:Int)<=1/\∃c3:ab,x.a=some c3/\((0:Int)<=(ar (Int.fdiv (IntKind.wrap .u64 (ar (b+c))) (2^(min (Int.toNat 1) 64))))/\(ar (Int.fdiv (IntKind.wrap .u64 (ar
 (b+c))) (2^(min (Int.toNat 1) 64))))<(x.len:Int))/\af d (c3.add (Int.toNat (ar (Int.fdiv (IntKind.wrap .u64 (ar (b+c))) (2^(min (Int.toNat 1) 64))))*1)) λi=>ix aj cmp.f/\Calls aj cmp.f (cmp.pre
 ++ #[.slice i.a i.len i.cap,.slice target.a target.len target.cap]++cmp.cap) d λl h=>∃n10:Int,l=.returned (.int .i64 n10)/\ai (decide (n10<0)) (e (ar ((ar (Int.fdiv (IntKind.wrap .u64 (ar (b+c))) (2^(min
 (Int.toNat 1) 64))))+1)) c h/\g (ar ((ar (Int.fdiv (IntKind.wrap .u64 (ar (b+c))) (2^(min (Int.toNat 1) 64))))+1)) c h<g b c d) (e b (ar (Int.fdiv (IntKind.wrap .u64 (ar (b+c))) (2^(min (Int.toNat 1) 64)))) h
 /\g b (ar (Int.fdiv (IntKind.wrap .u64 (ar (b+c))) (2^(min (Int.toNat 1) 64)))) h<g b c d)) (bo (λk:ah->J->Prop=>ai (decide (b<(x.len:Int))) (∃eI:ab,x.a=some eI/\aK b x.len/\af d (eI.add
 (Int.toNat b*1)) λj=>ix aj cmp.f/\Calls aj cmp.f (cmp.pre++ #[.slice j.a j.len j.cap,.slice target.a target.len target.cap]++cmp.cap) d λm n=>∃n16:Int,m=.returned (.int .i64 n16)/\
 k (n16==0) n) (k false d)) (λ(o:ah) p=>Q (.tuple #[.int .i64 b,.bool o]) p))
def I6.tC:aQ:=(.s .r (.s .r (.s .r (.s (.bN (.loop [(9,(.int .i64)),(10,(.int .i64))] [0,1,2,8] (.s (.s .r (.c .l .l)) (.bN (.s .r (.s .r (.c .r .r))))))) (.s (.cV [.r,.r,.r,.r,
 .r,.split 8]) .l)))))
def I7.tD(s:Y)(f:hE)(w:J)(Q:aa->J->Prop):Prop:=ay 278 #[s,.func (.func f.f) f.pre f.cap] w λa w1=>Q (.bool
 (decide (a>=0))) w1
def I6.tD:aQ:=(.s .r (.s .r .l))
def I7.tE(s:Y)(f:hE)(w:J)(Q:aa->J->Prop):Prop:=ay 279 #[s,.func (.func f.f) f.pre f.cap] w λa w1=>Q (.bool (decide (a>=0))) w1
def I6.tE:aQ:=(.s .r (.s .r .l))
def I7.tF(s:Y)(w:J)(Q:aa->J->Prop):Prop:=ai (Option.isNone s.a) (Q () w) (ak (w.alloc (.cells #[] 3)) λw1=>∃s2:Y,∃b:J,Sem.run aj (Builtin.append_
 #[58,58] 58 #[.slice (some (U w)) 0 0,s]) w1=.ok s2 b/\Q s2 b)
def I6.tF:aQ:=cI
set_option maxRecDepth 100000
def I7.ra(s:Y)(f:hE)(w:J)(Q:aa->J->Prop):Prop:=∃ (d:Int->J->Prop) (h:Int->J->Nat),d 0 w/\∀ (b:Int) (c:J),d b c->ai (decide (b<(s.len:Int)))
 (∃a5:ab,s.a=some a5/\aK b s.len/\af c (a5.add (Int.toNat b*1)) λe=>ix aj f.f/\Calls aj f.f (f.pre++ #[.slice e.a e.len e.cap]++f.cap) c λj g=>∃i:ah,j=.returned (.bool i)/\
 ai i (Q (.int .i64 b) g) (d (ar (b+1)) g/\h (ar (b+1)) g<h b c)) (Q (.int .i64 (-1)) c)
def I6.ra:aQ:=e3
theorem I7.Ee(s:Y)(f:hE)(w:J)(Q:aa->J->Prop)(h:I7.ra s f w Q):aN aj 278 #[.slice s.a s.len s.cap,.func (.func f.f) f.pre f.cap] w Q:=okF (λw Q=>I7.ra s f w Q) I6.ra func278 h
def I7.rf(s:Y)(f:hE)(w:J)(Q:aa->J->Prop):Prop:=∃ (d:Int->J->Prop) (g:Int->J->Nat),d 0 w/\∀ (b:Int) (c:J),d b c->ai (decide (b<(s.len:Int))) (∃a5:
 ab,s.a=some a5/\aK b s.len/\r1 c (a5.add (Int.toNat b*1)) λn6=>ix aj f.f/\Calls aj f.f (f.pre++ #[.int .i64 n6]++f.cap) c λi e=>∃h:ah,i=.returned (.bool h)/\ai h (Q (.int .i64
 b) e) (d (ar (b+1)) e/\g (ar (b+1)) e<g b c)) (Q (.int .i64 (-1)) c)
def I6.rf:aQ:=e3
theorem I7.Ef(s:Y)(f:hE)(w:J)(Q:aa->J->Prop)(h:I7.rf s f w Q):aN aj 279 #[.slice s.a s.len s.cap,.func (.func f.f) f.pre f.cap] w Q:=okF (λw Q=>I7.rf s f w Q) I6.rf func279 h
def I7.tG(s:Y)(w:J)(Q:aa->J->Prop):Prop:=ai (Option.isNone s.a) (Q () w) (ak (w.alloc (.cells #[] 48)) λw1=>∃s2:Y,∃b:J,Sem.run aj
 (Builtin.append_ #[127,127] 127 #[.slice (some (U w)) 0 0,s]) w1=.ok s2 b/\Q s2 b)
def I6.tG:aQ:=cI
set_option maxRecDepth 100000
def I7.nQ(n:Int)(w:J)(Q:aa->J->Prop):Prop:=ai ((decide (n<16))||(decide (n>1600))) (Q (.tuple #[.pointer none,(1:Int)]) w) (((0:Int)<=n/\n<=n/\n<=km/\((256:Nat):Int)*n<=
 140737488355328)/\ak (w.alloc (.cells (g7 aj 182 (n.toNat)) 182)) λw1=>∃b:ao Nat,∃a:J,Sem.run aj (Instr.makeMap 137 none) w1=.ok (.map b) a/\∃c9:
 Array aa,Sem.run aj (Instr.build 141 #[(1,.slice (some (U w)) (n.toNat) (n.toNat)),(2,.map b)]) a=.ok (.agg c9) a/\ak (a.alloc (.cells c9 141)) λc=>∃c3:ab,(some (U a):ao
 ab)=some c3/\aR 69 #[.pointer (some c3)] c λd=>Q (.tuple #[.pointer (some (U a)),(0:Int)]) d)
def I6.nQ:aQ:=(.s .r (.s a5 a3))
def I7.nR(d:ao ab)(r:Int)(s:Int)(t:Int)(w:J)(Q:aa->J->Prop):Prop:=ak (w.alloc (.cells #[r,s,.int .u64 t] 46)) λw1=>
 r1 w1 (U w) λbq=>r1 w1 ((U w).add 1) λu=>bl w1 ((U w).add 2) λv=>aF 70 #[d,.agg #[bq,u,.int .u64 v]] w1 λx l=>ai (!x) (Q (.tuple #[.pointer none,(1:Int)]) l) (ay 72 #[d] l λn10 y=>c9 71 #[n10,(3:Int)] y λm n14 n=>ai (n14 !=0) (Q (.tuple #[.pointer none,n14]) n) (aZ 74 #[m] n λ
 z A=>b6 73 #[(2:Int),.agg #[(4:Int),.int .u64 1,z]] A λB n21 f=>ai (n21 !=0) (Q (.tuple #[.pointer none,n21]) f) (((0:Int)<=256/\(256:Int)<=256/\(256:
 Int)<=km/\((1:Nat):Int)*256<=140737488355328)/\ak (f.alloc (.cells (g7 aj 5 (Int.toNat 256)) 5)) λi=>∃ji:Array aa,Sem.run aj (Instr.build 151 #[(0,.slice (some (U f))
 (Int.toNat 256) (Int.toNat 256)),(1,.slice (some (U f)) (Int.toNat 256) (Int.toNat 256)),(2,B)]) i=.ok (.agg ji) i/\∃ (j:Int->J->Prop) (o:Int->J->Nat),j 0 i/\∀ (n26:Int)
 (g:J),j n26 g->ai (decide (n26<3)) (((0:Int)<=n26/\n26<((3:Nat):Int))/\∃h:Y,cellAt ji (n26.toNat*1)=some (.slice h.a h.len h.cap)/\ay 75 #[d,n26,h] g λn31 k=>ai (n31 !=0) (Q (.tuple #[.pointer none,n31]) k) (j (ar (n26+1)) k/\o (ar (n26+1)) k<o n26 g)) (ay 76 #[d] g λn34 b=>ai (n34 !=0)
 (Q (.tuple #[.pointer none,n34]) b) (ak (b.alloc gv) λp=>bx p (U b) [(0:Int),(0:Int),(2:Int),.int .u64 0,.int .u64 0,(0:Int)]/\(6:Nat)=6/\ak (setCells p (U b) 0 [(0:Int),
 .int .i64 0,(2:Int),.int .u64 0,.int .u64 0,(0:Int)]) λe=>r1 e (U b) λn37=>r1 e ((U b).add 1) λn38=>r1 e ((U b).add 2) λn39=>bl e ((U b).add 3) λn40=>bl e (Addr.add
 (U b) 4) λn41=>r1 e ((U b).add 5) λC=>ay 77 #[d,.agg #[n37,n38,n39,.int .u64 n40,.int .u64 n41,C],.int .u64 1] e λq c=>ai (q !=0)
 (Q (.tuple #[.pointer none,q]) c) (r1 c (U w) λD=>r1 c ((U w).add 1) λE=>bl c ((U w).add 2) λF=>r1 c (U b) λG=>r1 c ((U b).add 1) λH=>r1 c ((U
 b).add 2) λI=>bl c ((U b).add 3) λK=>bl c ((U b).add 4) λL=>r1 c ((U b).add 5) λM=>c9 78 #[d,.agg #[D,E,.int .u64 F],.agg #[G,H,I,.int .u64 K,.int .u64 L,M],.int .u64 1,m] c λN O P=>Q (.tuple #[N,O]) P))))))
def I6.nR:aQ:=(.s .r (.s a1 (.s .r (.s a1 (.s .r (.s a1 (.s .r (.s (.s .r (.bN (.loop [(44,(.int .i64))] [0,3,6,43] eY))) (.s (.s .r a1) (.s .r gG))))))))))
theorem I7.Eg(d:ao ab)(a:Int)(b:Int)(c:Int)(w:J)(Q:aa->J->Prop)(h:I7.nR d a b c w Q):aN aj 19 #[d,.agg #[a,b,.int .u64 c]] w Q:=okF (λw Q=>I7.nR d a b c w Q) I6.nR func19 h
def I7.tH(s:ao ab)(key:Y)(w:J)(Q:aa->J->Prop):Prop:=bo (λbA:ah->J->Prop=>ai (Option.isNone s) (bA true w) (aF 79 #[key] w λh ag=>bA
 (!h) ag)) (λ(i:ah) a=>ai i (Q (.tuple #[false,(1:Int)]) a) (∃dE:ab,s=some dE/\a7 a (dE.add 18) λj=>ai j (Q (.tuple #[false,(8:Int)]) a) (∃a9:ab,s=some a9/\∃d:ao ab,
 a.cell? a9=some (d)/\jA 80 #[d,key] a λo k n15 b=>ai (n15 !=0) (ay 81 #[s,n15] b λn18 l=>Q (.tuple #[false,
 n18]) l) (ai (!k) (Q (.tuple #[false,(0:Int)]) b) (ay 82 #[s] b λn21 c=>ai (n21==0) (Q (.tuple #[false,(2:Int)]) c) (∃e:ab,s=some e/\∃f:ao
 ab,c.cell? e=some (f)/\kS 83 #[f,key] c λp n27 g=>ai (n27 !=0) (ay 81 #[s,n27] g λn30 m=>Q (.tuple #[false,n30]) m) (ay 84 #[s,.int .i64 (-1)] g λn33 n=>Q (.tuple #[.bool (n33==0),n33]) n)))))))
def I6.tH:aQ:=(.s .r (.s (.bN (.s (.cV [.r,.r,.r,.split 3]) (.c (.s .r .l) a1))) (.s .r (.s (.bN (.s .r (.c (.s .r .l) eL))) (.s (.s .r a1) (.s .r (.s .r .l)))))))
def I7.tI(s:ao ab)(key:Y)(val:Y)(w:J)(Q:aa->J->Prop):Prop:=bo (λbA:ah->J->Prop=>ai (Option.isNone s) (bA true w) (aF 79 #[key] w λh
 ag=>bA (!h) ag)) (λ(i:ah) a=>ai (i||(decide ((val.len:Int)>24))) (Q (1:Int) a) (∃dE:ab,s=some dE/\a7 a (dE.add 18) λj=>ai j (Q (8:Int) a) (ay 82 #[s] a λn11 b
 =>ai (n11==0) (Q (2:Int) b) (∃eI:ab,s=some eI/\∃e:ao ab,b.cell? eI=some (e)/\jA 80 #[e,key] b λp k n18 c=>ai (n18 !=0) (ay
 81 #[s,n18] c λn21 l=>Q n21 l) (∃f:ab,s=some f/\∃g:ao ab,c.cell? f=some (g)/\ay 85 #[g,key,val] c λn26 d=>ai (n26 !=0) (ay 81 #[s,n26] d λn29 m=>Q n29 m) (ai k (ay 84 #[s,(0:Int)] d λn32 n
 =>Q n32 n) (ay 84 #[s,(1:Int)] d λn35 o=>Q n35 o)))))))
def I6.tI:aQ:=(.s .r (.s (.bN (.s (.cV [.r,.r,.r,.split 3,.r,.r,.r,.r,.pure 3]) (.c (.s .r .l) eL))) (.s .r (.s a1 (.s (.s .r a1) (.s a1 (.s .r .l)))))))
def I7.tJ(s:ao ab)(w:J)(Q:aa->J->Prop):Prop:=ai (Option.isNone s) (Q (1:Int) w) (∃a1:ab,s=some a1/\r1 w (a1.add 17) λbq=>ay 86 #[s,bq] w
 λn5 a=>Q n5 a)
def I6.tJ:aQ:=cI
def I7.tK(s:ao ab)(w:J)(Q:aa->J->Prop):Prop:=ai (Option.isNone s) (Q (1:Int) w) (∃a1:ab,s=some a1/\a7 w (a1.add 18) λbM=>ai bM (Q (8:Int) w) (ay 94
 #[s] w λn5 a=>Q n5 a))
def I6.tK:aQ:=(.s .r (.s (.bN eL) (.s .r .l)))
def I7.pv(d:ao ab)(j:Int)(k:Int)(l:Int)(w:J)(Q:aa->J->Prop):Prop:=ak (w.alloc (.cells #[j,k,.int .u64 l] 46)) λw1=>
 r1 w1 (U w) λbq=>r1 w1 ((U w).add 1) λm=>bl w1 ((U w).add 2) λn=>aF 70 #[d,.agg #[bq,m,.int .u64 n]] w1 λo f=>ai (!o) (Q (.tuple #[.pointer none,(1:Int)]) f) (Aj 109 #[d] f λn10 n11 n12 n13 n14 n15 n16 n17 a=>ak (a.alloc gv) λg=>bx g (U a) [n10,n11,n12,.int .u64 n13,.int .u64 n14,n15]/\(6:Nat)=6
 /\ak (setCells g (U a) 0 [n10,n11,n12,.int .u64 n13,.int .u64 n14,n15]) λc=>ai (n17 !=0) (Q (.tuple #[.pointer none,n17]) c) (r1 c ((U a).add 2) λn20=>c9
 110 #[d,n20] c λp n24 b=>ai (n24 !=0) (Q (.tuple #[.pointer none,n24]) b) (r1 b (U w) λn25=>r1 b ((U w).add 1) λn26=>bl b ((U w).add 2) λn27=>r1 b
 (U a) λn28=>r1 b ((U a).add 1) λn29=>r1 b ((U a).add 2) λn30=>bl b ((U a).add 3) λn31=>bl b ((U a).add 4) λn32=>r1 b ((U a).add 5) λn33=>c9 78
 #[d,.agg #[n25,n26,.int .u64 n27],.agg #[n28,n29,n30,.int .u64 n31,.int .u64 n32,n33],.int .u64 n16,p] b λh n37 e=>ai (n37 !=0) (Q
 (.tuple #[.pointer none,(4:Int)]) e) (r1 e ((U a).add 5) λn38=>ay 86 #[h,n38] e λn41 i=>ai (n41 !=0) (Q (.tuple #[.pointer none,n41]) i) (Q (.tuple
 #[h,(0:Int)]) i)))))
def I6.pv:aQ:=(.s .r (.s a1 (.s .r (.s a1 (.s .r (.s a1 (.s .r (.s a1 gG))))))))
def I7.tL(s:ao ab)(a:Y)(to:Y)(most:Int)(w:J)(Q:aa->J->Prop):Prop:=ai (Option.isNone s) (Q (.tuple #[(),(1:Int)]) w) (∃a1:ab,s=some a1/\∃br:ao
 ab,w.cell? a1=some (br)/\b6 111 #[br,a,to,most] w λb n6 c=>Q (.tuple #[b,n6]) c)
def I6.tL:aQ:=cI
def I7.tM(d:ao ab)(l:Y)(w:J)(Q:aa->J->Prop):Prop:=ai (Option.isNone d) (Q (.tuple #[]) w) (aZ 112 #[d] w λi w1=>∃ (j:Int->J->Prop) (q:Int->J->
 Nat),j 0 w1/\∀ (n6:Int) (b:J),j n6 b->ai (decide (n6<(i.len:Int))) (bo (λr:J->Prop=>∃a9:ab,i.a=some a9/\aK n6 i.len/\r1 b (a9.add (n6.toNat*1)) λn10=>bo (λs:ah->J->Prop
 =>ai (decide (n6>=(l.len:Int))) (s true b) (∃eI:ab,l.a=some eI/\aK n6 l.len/\r1 b (eI.add (n6.toNat*1)) λn13=>s (decide (n13<=0)) b)) (λ(C:ah) k=>ai C (r k) (∃fB:ab,d=some fB/\∃
 t:ao Nat,k.cell? (fB.add 5)=some (.map t)/\∃e:Y,∃u:J,Sem.run aj (Instr.lookup 137 (.map t) n10 false) k=.ok e u/\ak (u.drew)
 λf=>∃g:Nat->Prop,∃m:ab,d=some m/\¬g (m.add 4).block/\af f (m.add 4) λv=>∃n:ab,l.a=some n/\aK n6 l.len/\¬g (n.add (n6.toNat*1)).block/\r1 f (n.add (n6.toNat*1))
 λn25=>∃n26:Int,∃c:J,Sem.run aj (Builtin.min_ #[3,3] 3 #[n25,.int .i64 (e.len:Int)]) f=.ok n26 c/\ad g f c/\∃o:ab,e.a=some o/\aK (ar (n26-1))
 e.len/\¬g (o.add ((ar (n26-1)).toNat*256)).block/\∃h:O aa,cJ c (o.add ((ar (n26-1)).toNat*256)) 0 256=some h/\∃p:ab,v.a=some p/\aK n10 v.len/\bx c (p.add
 (n10.toNat*256)) (Array.toList h.toArray)/\Array.size h.toArray=256/\ak (setCells c (p.add (n10.toNat*256)) 0 (Array.toList h.toArray)) λD=>r D))) (λx=>j (ar (n6+1)) x/\q (ar (n6+1)) x<
 q n6 b)) (∃y:ab,d=some y/\∃z:ao Nat,b.cell? (y.add 5)=some (.map z)/\∃ (E:aa) (A:J),Sem.run aj (Builtin.clear_ #[137] 0 #[.map z]) b=.ok E A/\∃B:
 ab,d=some B/\aR 69 #[.pointer (some B)] A λF=>Q (.tuple #[]) F))
def I6.tM:aQ:=(.s (.s .r (.c .l .l)) (.s (.s .r (.bN (.loop [(12,(.int .i64))] [0,1,10,11] (.s .r (.s (.c .l .l) (.s (.ey [] [0,1,10,11,12] (.bN (.s .r (.s (.s (.cV [.r,.r,.r,.r,.r,.split 5]) (.c .l .l)) (.s
 .r (.cd 16 true ⟨[0,1,2,4,0,0,0,0,192,256,0,1024,2560,4096,8224,16384,65535,131071],[0,1,2,4,0,0,0,0,192,256,0,1024,2560,4096,8224,16384,24,98304]⟩ [17179869184,34359738368,68719476736,137438953472,
 274877906944,549755813888,1099511627776,2199023255552,4398046511104,8796093022208,17592186044416,35184372088832,70368744177664,140737488355328,281474976710656,562949953421312,1125899906842624,0] [1,17179869184,34359738368,
 68719476736,32,64,2,16,3298534883328,4398046511104,64,17592186044416,43980465111040,70368744177664,141287244169216,281474976710656,412316860416,1688849860263936] (.t 0 (.t 1 (.t 2 (.t 3 (.t 4 (.t 5 (.t 6 (.t 7 (.t 8 (.t 9 (.t
 10 (.t 11 (.bK 12 (.t 13 (.t 14 (.t 15 (.tail [.r,.r]))))))))))))))))))))))) .r)))))) (.s .r .r)))
def I7.tN(s:ao ab)(w:J)(Q:aa->J->Prop):Prop:=ak (w.alloc gv) λw1=>ai (Option.isNone s) (bx w1 (U w) [(0:Int),(0:Int),(0:Int),.int .u64 0,.int .u64 0,(0:Int)]/\(6
 :Nat)=6/\ak (setCells w1 (U w) 0 [(0:Int),(0:Int),(0:Int),.int .u64 0,.int .u64 0,(0:Int)]) λag=>w_ ag w Q) (∃a9:ab,s=some a9/\r1 w1 (a9.add 7) λn10=>r1 w1 ((a9.add 7).add 1) λn11=>r1 w1
 ((a9.add 7).add 2) λn12=>bl w1 ((a9.add 7).add 3) λn13=>bl w1 ((a9.add 7).add 4) λn14=>r1 w1 ((a9.add 7).add 5) λn15=>bx w1 (U w) [n10,n11,n12,.int .u64 n13,.int .u64 n14,n15]/\(6:Nat)=6/\ak (setCells w1 (U w) 0 [n10,n11,n12,.int .u64 n13,.int .u64 n14,n15]) λa=>w_ a w Q)
def I6.tN:aQ:=cI
def I7.xh(s:ao ab)(w:J)(Q:aa->J->Prop):Prop:=bo (λbA:ah->J->Prop=>ai (!(Option.isNone s)) (∃a2:ab,s=some a2/\a7 w (a2.add 18) λa=>bA a w) (bA false w)) (λ(b:
 ah) c=>Q b c)
def I6.xh:aQ:=(.s .r (.s (.cV [.r,.r,.r,.split 4]) .l))
def I7.tO(s:ao ab)(now:Int)(w:J)(Q:aa->J->Prop):Prop:=ai (Option.isNone s) (Q (1:Int) w) (∃a1:ab,s=some a1/\bl w (a1.add 14) λbq=>∃b:Int,∃c:J,Sem.run
 aj (Builtin.max_ #[27,27] 27 #[.int .u64 bq,.int .u64 now]) w=.ok (.int .u64 b) c/\∃a5:ab,s=some a5/\st c (a5.add 14) (.int .u64 b) λd=>ak (d.drew) λa=>∃c4:ab,s=some c4/\¬
 False/\r1 a (c4.add 16) λn9=>ai (n9==0) (ai true (Q (0:Int) a) (ay 94 #[s] a λn12 e=>Q n12 e)) (∃cI:ab,s=some cI/\¬False/\bl a (cI.add 14) λn14=>∃eL:
 ab,s=some eL/\¬False/\bl a (eL.add 15) λn16=>∃gG:ab,s=some gG/\¬False/\bl a ((gG.add 4).add 2) λn18=>ai (decide (((IntKind.wrap .u64 (n14-n16)):Int)<n18)) (Q (0:Int) a) (ay
 94 #[s] a λn21 f=>Q n21 f)))
def I6.tO:aQ:=(.s .r (.s a1 (.s .r (.s (.s (.cd 20 false ⟨[0,1,2,4,8,16,32,96,160,288,32,1056,2080,4128,8736,32,32800,65568,131104,262176,540704,1048608],[0,1,2,4,8,16,32,96,160,288,32,
 1056,2080,4128,8736,32,32800,65568,131104,262176,540704,1048608]⟩ [65536,131072,262144,524288,1048576,2097152,4194304,8388608,16777216,33554432,67108864,134217728,268435456,536870912,1073741824,2147483648,
 4294967296,8589934592,17179869184,34359738368,68719476736,137438953472] [1,65536,131072,262144,524288,1048576,2097153,6291456,10485760,18874368,2097153,69206016,136314880,270532608,572522496,2097153,2149580800,
 4297064448,8592031744,17181966336,35435577344,68721573888] (.t 0 (.t 1 (.t 2 (.t 3 (.t 4 (.t 5 (.sp 21 (.t 6 (.t 7 (.t 8 (.t 9 (.t 10 (.t 11 (.t 12 (.t 13 (.t 14 (.t 15 (.t 16 (.t 17 (.t 18 (.t 19 (.tail [.r,.r]))))))))))))))) (.t 6
 (.t 7 (.t 8 (.t 9 (.t 10 (.t 11 (.t 12 (.t 13 (.t 14 (.t 15 (.t 16 (.t 17 (.t 18 (.t 19 (.tail [.r,.r]))))))))))))))))))))))) (.c (.s .r .l) .l)) (.s .r .l)))))
def I7.xi(s:ao ab)(w:J)(Q:aa->J->Prop):Prop:=ai (Option.isNone s) (Q (0:Int) w) (∃a1:ab,s=some a1/\r1 w (a1.add 16) λbq=>Q bq w)
def I6.xi:aQ:=cI
def I7.tP(s:ao ab)(key:Y)(w:J)(Q:aa->J->Prop):Prop:=ai (Option.isNone s) (Q (.tuple #[(),false,(1:Int)]) w) (∃a1:ab,s=some a1/\∃br:ao ab,w.cell? a1
 =some (br)/\jA 80 #[br,key] w λa b n7 c=>Q (.tuple #[a,b,n7]) c)
def I6.tP:aQ:=cI
def I7.xj(s:ao ab)(w:J)(Q:aa->J->Prop):Prop:=ai (Option.isNone s) (Q (0:Int) w) (∃a1:ab,s=some a1/\r1 w (a1.add 17) λbq=>Q bq w)
def I6.xj:aQ:=cI
def I7.xk(s:ao ab)(w:J)(Q:aa->J->Prop):Prop:=ai (Option.isNone s) (Q (.int .u64 0) w) (∃a1:ab,s=some a1/\bl w (a1.add 14) λbq=>Q (.int .u64 bq) w)
def I6.xk:aQ:=cI
def I7.xl(s:ao ab)(w:J)(Q:aa->J->Prop):Prop:=ai (Option.isNone s) (Q (0:Int) w) (ay 82 #[s] w λa w1=>Q a w1)
def I6.xl:aQ:=cI
def I7.tQ(f:ao ab)(w:J)(Q:aa->J->Prop):Prop:=∃ (c:Int->J->Prop) (d:Int->J->Nat),c 0 w/\∀ (a:Int) (b:J),c a b->ai (decide (a<4)) (∃a5:ab,f=some a5/\
 ((0:Int)<=a/\a<((4:Nat):Int))/\st b (Addr.add a5 (a.toNat*1)) (.int .i64 (-1)) λe=>c (ar (a+1)) e/\d (ar (a+1)) e<d a b) (Q (.tuple #[]) b)
def I6.tQ:aQ:=(.s .r (.bN (.loop [(3,(.int .i64))] [0] a2)))
def I7.nS(d:ao ab)(l:Int)(m:Int)(n:Int)(w:J)(Q:aa->J->Prop):Prop:=ak (w.alloc (.cells #[l,m,.int .u64 n] 46)) λw1=>
 bo (λbO:ah->J->Prop=>ai (!(Option.isNone d)) (r1 w1 (U w) λo=>bO (decide (o>=8)) w1) (bO false w1)) (λ(p:ah) a=>bo (λg:ah->J->Prop=>ai p (r1 a (U w) λn7=>g (decide (n7<=64)) a)
 (g false a)) (λ(q:ah) b=>bo (λh:ah->J->Prop=>ai q (r1 b ((U w).add 1) λn11=>h (decide (n11>=1)) b) (h false b)) (λ(r:ah) c=>bo (λi:ah->J->Prop=>ai r (r1 c
 ((U w).add 1) λn15=>i (decide (n15<=1000)) c) (i false c)) (λ(s:ah) e=>bo (λj:ah->J->Prop=>ai s (bl e ((U w).add 2) λn19=>j (decide (n19>=1)) e) (j false e)) (λ
 (t:ah) f=>bo (λk:ah->J->Prop=>ai t (bl f ((U w).add 2) λn23=>k (decide (n23<=1048576)) f) (k false f)) (λ(u:ah) v=>Q u v))))))
def I6.nS:aQ:=(.s .r (.s (.cV [.r,.r,.r,.split 3,.r,.r,.r,.r,.split 3,.r,.r,.r,.r,.split 3,.r,.r,.r,.r,.split 3,.r,.r,.r,.r,.split 3,.r,.r,.r,.r,.split 3]) .l))
def I7.pw(n:Int)(first:Int)(w:J)(Q:aa->J->Prop):Prop:=aF 128 #[n] w λg w1=>ai (((!g)||(decide (first<0)))||(decide (first>n))) (Q (.tuple #[.pointer none,(1:Int)])
 w1) (ay 129 #[n] w1 λn6 d=>((0:Int)<=n6/\n6<=n6/\n6<=km/\((1:Nat):Int)*n6<=140737488355328)/\ak (d.alloc (.cells (g7 aj 5 (n6.toNat)) 5)) λb=>ak (b.alloc (.cells
 #[n,.slice (some (U d)) (n6.toNat) (n6.toNat),()] 218)) λh=>∃ (c:Int->J->Prop) (e:Int->J->Nat),c 0 h/\∀ (n11:Int) (a:J),c n11 a->ai (decide (n11<
 first)) (∃cI:ab,(some (U b):ao ab)=some cI/\af a (cI.add 1) λi=>aR 130 #[i,n11] a λf=>c (ar (n11+1)) f/\e (ar (n11+1)) f<e n11 a)
 (aR 131 #[.pointer (some (U b))] a λj=>Q (.tuple #[.pointer (some (U b)),(0:Int)]) j))
def I6.pw:aQ:=(.s .r (.s (.s (.cV [.r,.r,.r,.r,.pure 2,.r,.r,.r,.pure 3]) (.c (.s .r .l) .l)) (.s .r (.s (.s .r (.bN (.loop [(27,(.int .i64))] [6,26] a2))) (.s .r (.s .r .l))))))
def I7.tR(d:ao ab)(w:J)(Q:aa->J->Prop):Prop:=ai (Option.isNone d) (Q (0:Int) w) (∃a1:ab,d=some a1/\af w (a1.add 4) λs2=>Q (.int .i64 (s2.len:Int)) w)
def I6.tR:aQ:=cI
def I7.tS(no:Int)(u:Int)(v:Int)(x:Y)(w:J)(Q:aa->J->Prop):Prop:=ak (w.alloc (.cells #[u,.int .u64 v,x] 150)) λw1=>
 aF 132 #[no] w1 λy ag=>bo (λj:ah->J->Prop=>ai (!y) (j true ag) (r1 ag (U w) λn6=>aF 133 #[n6] ag λz A=>j (!z) A)) (λ(B:ah) f=>ai B (Q (.tuple #[(),(1:Int)]) f) (af f ((U w).add 2) λC=>ai (decide ((C.len:Int)>232)) (Q (.tuple #[(),(10:Int)]) f) (ak (f.alloc (.cells #[.int .u8 83,.int .u8 84,.int .u8 78,.int .u8 67] 5))
 λD=>∃k:Y,∃g:J,Sem.run aj (convert 48 48 (.slice (some (U f)) 4 4)) D=.ok k g/\r1 g (U w) λn16=>ak (g.alloc (.cells #[.int .u8 1,.int .u8
 (IntKind.wrap .u8 n16)] 5)) λl=>ak (l.alloc (.cells #[k,.slice (some (U g)) 2 2] 48)) λE=>aZ 92 #[.slice (some (U l)) 2 2] E λF m=>af m ((U w).add
 2) λG=>aZ 126 #[F,.int .u64 (IntKind.wrap .u64 (G.len:Int)),(2:Int)] m λH I=>aZ 126 #[H,.int .u64 (IntKind.wrap .u64 no),(4:Int)] I λK
 n=>bl n ((U w).add 1) λn29=>aZ 126 #[K,.int .u64 n29,(8:Int)] n λo L=>bo (λp:Y->J->Prop=>ak (L.drew) λb=>∃d:Nat->Prop,¬d ((U w).add
 2).block/\af b ((U w).add 2) λq=>¬d ((U w).add 2).block/\af b ((U w).add 2) λe=>(((0:Int)<=4/\(4:Int)<=4/\(4:Int)<=km/\((1:Nat):Int)*4<=140737488355328)/\ak (b.alloc (.cells
 (g7 aj 5 (Int.toNat 4)) 5)) λh=>ad d b h/\(xa e)/\ak (h.alloc (.cells (g7 aj 5 ((ar (232-(e.len:Int))).toNat)) 5)) λr=>ad d h r/\xb r o b q
 h e p)/\((xa e)/\ak (b.alloc (.cells (g7 aj 5 ((ar (232-(e.len:Int))).toNat)) 5)) λi=>ad d b i/\((0:Int)<=4/\(4:Int)<=4/\(4:Int)<=km/\((1:Nat):Int)*4<=
 140737488355328)/\ak (i.alloc (.cells (g7 aj 5 (Int.toNat 4)) 5)) λs=>ad d i s/\xb s o i q b e p)) (λ(c:Y) M=>ak (M.drew) λN=>∃V:Nat->Prop,((0:Int)<=20/\
 20<=(c.len:Int))/\gF 134 #[c] N λO P=>∃W:Nat->Prop,aZ 126 #[(),.int .u64 (IntKind.wrap .u64 O),(4:Int)] P λR S=>∃T:Int,∃t:J,
 Sem.run aj (Builtin.copy_ #[48,48] 3 #[.slice (aM c.a 1 (Int.toNat 20) c.cap) (c.len-(Int.toNat 20)) (c.cap-(Int.toNat 20)),R]) S=.ok T t/\Q
 (.tuple #[c,(0:Int)]) t))))
def I6.tS:aQ:=(.s .r (.s (.bN (.s (.cV [.r,.r,.r,.r,.split 4]) (.c (.s .r .l) a1))) (.s .r (.s .r (.s .r (.s .r (.s (.ey [(6,.slice)] [] (.cd 9 true ⟨[0,0,0,4,0,16,32,64,128,267,512,2047],[0,0,0,4,0,16,
 32,64,128,267,512,1025]⟩ [17592186044416,35184372088832,70368744177664,140737488355328,281474976710656,562949953421312,1125899906842624,2251799813685248,4503599627370496,9007199254740992,18014398509481984,64] [64,0,8,
 70368744177664,8,281474976710656,562949953421312,1125899906842624,2251799813685248,4697113673859072,9007199254740992,18014398509481984] (.t 0 (.t 2 (.t 3 (.t 4 (.t 5 (.t 6 (.t 7 (.two 1 (.bK 8 (.tail [.r,.r,.r])) 8 (.bK 1 (.tail
 [.r,.r,.r])))))))))))) (.s (.cd 6 true ⟨[0,1,0,4,8,24,34],[0,1,0,4,8,16,34]⟩ [36028797018963968,72057594037927936,144115188075855872,288230376151711744,576460752303423488,1152921504606846976,2305843009213693952] [64,
 36028797018963968,64,144115188075855872,288230376151711744,576460752303423488,1224979098644774912] (.t 0 (.t 1 (.t 2 (.out 3 true (.t 4 (.out 5 false (.tail [.r])))))))) (.s .r .l)))))))))
def I7.rh(s:ao ab)(w:J)(Q:aa->J->Prop):Prop:=ai (Option.isNone s) (Q () w) (∃a1:ab,s=some a1/\af w (a1.add 1) λs2=>aZ 135 #[s2] w λa b=>Q a b)
def I6.rh:aQ:=cI
theorem I7.Eh(s:ao ab)(w:J)(Q:aa->J->Prop)(h:I7.rh s w Q):aN aj 74 #[s] w Q:=okF (λw Q=>I7.rh s w Q) I6.rh func74 h
def I7.tT(d:ao ab)(i:Int)(b:Y)(w:J)(Q:aa->J->Prop):Prop:=aF 108 #[d,i] w λs w1=>ai ((!s)||((b.len:Int) !=256)) (Q (1:Int) w1) (∃a4:ab,
 d=some a4/\aF 136 #[.pointer (some a4),(2:Int)] w1 λt n=>ai t (Q (3:Int) n) (ak (n.drew) λe=>∃c:Nat->Prop,∃dZ:ab,d=some dZ/\¬c (dZ.add 5).block/\∃h:ao Nat,e.cell?
 (dZ.add 5)=some (.map h)/\∃eI:ab,d=some eI/\¬c (eI.add 5).block/\∃j:ao Nat,e.cell? (eI.add 5)=some (.map j)/\256<=b.len/\∃e3:ab,b.a=some e3/\¬c e3.block/\∃k:O aa,cJ e
 e3 0 256=some k/\(∃o:Y,∃f:J,Sem.run aj (Instr.lookup 137 (.map j) i false) e=.ok o f/\ad c e f/\∃p:Y,∃l:J,Sem.run
 aj (Instr.buildSlice 136 1 #[(0,.agg k.toArray)]) f=.ok p l/\ad c f l/\w8 o p l c h i d Q)/\(∃q:Y,∃g:J,Sem.run aj (Instr.buildSlice
 136 1 #[(0,.agg k.toArray)]) e=.ok q g/\ad c e g/\∃r:Y,∃m:J,Sem.run aj (Instr.lookup 137 (.map j) i false) g=.ok r m/\ad c g m/\w8 r q m c h i d Q)))
def I6.tT:aQ:=(.s .r (.s (.bN (.s (.cV [.r,.r,.r,.r,.r,.pure 3]) (.c (.s .r .l) a1))) (.s (.cd 16 true ⟨[0,1,2,4,0,0,32,64,128,0,768,0,2048,4096,8192,17408,65535],[0,1,2,4,0,0,32,64,128,0,
 768,0,2048,4096,8192,17408,32792]⟩ [4194304,8388608,16777216,33554432,67108864,134217728,268435456,536870912,1073741824,2147483648,4294967296,8589934592,17179869184,34359738368,68719476736,137438953472,0] [1,4194304,
 8388608,16777216,2,1,134217728,268435456,536870912,2,3221225472,4,8589934592,17179869184,34359738368,73014444032,137539616768] (.t 0 (.t 1 (.t 2 (.t 3 (.t 4 (.t 5 (.t 6 (.t 7 (.t 8 (.t 9 (.t 11 (.t 12 (.t 13 (.two 10 (.bK 14
 (.bK 15 (.tail [.r]))) 14 (.bK 10 (.bK 15 (.tail [.r])))))))))))))))))) (.s .r (.s .r .l)))))
def I7.tU(d:ao ab)(w:J)(Q:aa->J->Prop):Prop:=ai (Option.isNone d) (Q (1:Int) w) (∃a1:ab,d=some a1/\aF 136 #[.pointer (some a1),(3:Int)] w λj ag=>ai j (Q
 (3:Int) ag) (∃a5:ab,d=some a5/\∃g:ao Nat,ag.cell? (a5.add 5)=some (.map g)/\∃ (a:aa) (h:J),Sem.run aj (Instr.range 137 (.map g)) ag=.ok a h/\∃ (c:J->Prop)
 (i:J->Nat),c h/\∀ (b:J),c b->(∃ (k:aa) (l:aa) (e:J),Sem.run aj (Instr.next (a) false 0) b=.ok (.tuple #[true,k,l]) e/\ai true (fw a e d c i b) (xc d e
 Q))\/(∃f:J,Sem.run aj (Instr.next (a) false 0) b=.ok (.tuple #[false]) f/\ai false (fw a f d c i b) (xc d f Q))))
def I6.tU:aQ:=(.s .r (.s (.bN eL) (.s (.s .r (.bN (.loop [] [0,16] (.s .r (.s (.c .l .l) (.bN (.s (.cV [.sL [(.one (.int .i64)),(.one .any)]]) (.cd 8 true ⟨[0,1,2,4,0,0,0,96,255,511],[0,1,2,4,0,0,0,
 96,24,384]⟩ [2097152,4194304,8388608,16777216,33554432,67108864,134217728,268435456,536870912,0] [1,2097152,4194304,8388608,8,1,8,201326592,50331648,805306368] (.t 0 (.t 1 (.t 2 (.t 3 (.t 4 (.t 5 (.t 6 (.bK 7 (.tail
 [.r,.r]))))))))))))))))) (.s .r (.s .r .l)))))
def I7.mT(d:ao ab)(h:Int)(i:Int)(j:Int)(k:Int)(l:Int)(m:Int)(gen:Int)(w:J)(Q:aa->J->Prop):Prop:=ak (w.alloc (.cells #[h,i,j,.int .u64 k,.int .u64 l,m] 104)) λw1=>(2:Int)≠0/\ak (w1.drew) λag=>∃b:Nat->Prop,¬b ((U w):ab).block/\r1 ag (U w) λn=>r1 ag (Addr.add
 (U w) 1) λn5=>r1 ag ((U w).add 2) λn6=>bl ag ((U w).add 3) λn7=>bl ag ((U w).add 4) λn8=>r1 ag ((U w).add 5) λn9=>ay 72 #[d] ag λn12 c=>ad b ag c/\aZ
 138 #[.agg #[n,n5,n6,.int .u64 n7,.int .u64 n8,n9],n12] c λo e=>∃p:Nat->Prop,∃ly:Array aa,(∀f:J,Sem.run aj (Instr.build 150
 #[(0,.int .i64 3),(1,.int .u64 gen),(2,o)]) f=.ok (.agg ly) f)/\b6 73 #[.int .i64 (ar (Int.tmod gen 2)),.agg ly] e λq n22 a=>ad p e a/\ai (n22 !=0) (Q n22
 a) (ay 75 #[d,.int .i64 (ar (Int.tmod gen 2)),q] a λn25 g=>ai (n25 !=0) (Q n25 g) (ay 76 #[d] g λn28 r=>Q n28
 r))
def I6.mT:aQ:=(.s .r (.s .r (.s (.cd 12 true ⟨[0,0,0,0,8,20,34,97,128,256,256,1023,4095],[0,0,0,0,8,20,34,65,128,256,256,512,1024]⟩ [32768,65536,131072,262144,524288,1048576,2097152,4194304,
 16384,8388608,16777216,256,512] [128,4,16,1,262144,655360,1114112,2129920,4194304,16384,16384,8388608,16777216] (.t 0 (.t 1 (.t 2 (.t 3 (.bK 4 (.out 5 true (.t 6 (.bK 7 (.t 8 (.t 9 (.t 10 (.t 11 (.tail [.r]))))))))))))))
 (.s a1 gG))))
theorem I7.Ei(d:ao ab)(a:Int)(b:Int)(c:Int)(e:Int)(f:Int)(g:Int)(gen:Int)(w:J)(Q:aa->J->Prop)(h:I7.mT d a b c e f g gen w Q):aN aj 77 #[d,.agg #[a,b,c,.int .u64 e,.int .u64 f,g],.int .u64 gen] w Q:=okF (λw Q=>I7.mT d a b c e f g gen w Q) I6.mT func77 h
set_option maxRecDepth 100000
def I7.mU(d:ao ab)(e:Int)(f:Int)(g:Int)(h:Int)(i:Int)(j:Int)(k:Int)(l:Int)(m:Int)(gen:Int)(s:ao ab)(w:J)(Q:aa->J
 ->Prop):Prop:=ak (w.alloc (.cells #[e,f,.int .u64 g] 46)) λw1=>ak (w1.alloc (.cells #[h,i,j,.int .u64 k,.int .u64 l,
 m] 104)) λag=>r1 ag (U w) λn=>c9 139 #[d,n] ag λc n7 b=>ai (n7 !=0) (Q (.tuple #[.pointer none,n7]) b) (r1 b (U w1) λn8=>r1 b ((U w1).add 1)
 λn9=>c9 140 #[c,s,.int .u64 (IntKind.wrap .u64 (gen+1)),n8,n9] b λo n13 a=>ai (n13 !=0) (Q (.tuple #[.pointer none,n13]) a) (r1 a (U w) λn14=>r1 a
 ((U w).add 1) λn15=>bl a ((U w).add 2) λn16=>r1 a (U w1) λn17=>r1 a ((U w1).add 1) λn18=>r1 a ((U w1).add 2) λn19=>bl a ((U w1).add 3) λn20=>bl a ((U w1).add 4)
 λn21=>r1 a ((U w1).add 5) λn22=>bl a ((U w1).add 3) λn23=>r1 a ((U w1).add 5) λn24=>∃nN:Array aa,Sem.run aj (Instr.build 158 #[(0,o),(1,d),(2,
 c),(3,s),(4,.agg #[n14,n15,.int .u64 n16]),(5,.agg #[n17,n18,n19,.int .u64 n20,.int .u64 n21,n22]),(6,.int .u64 gen),(7,.int .u64 n23),(10,
 n24)]) a=.ok (.agg nN) a/\ak (a.alloc (.cells nN 158)) λp=>Q (.tuple #[.pointer (some (U a)),(0:Int)]) p))
def I6.mU:aQ:=(.s .r (.s .r (.s a1 cI)))
theorem I7.Ej(d:ao ab)(a:Int)(b:Int)(c:Int)(e:Int)(f:Int)(g:Int)(i:Int)(j:Int)(k:Int)(gen:Int)(s:ao ab)(w:J)(Q:aa->J->Prop)(h:I7.mU d a b c e f g i j k gen s w Q):aN aj 78 #[d,.agg #[a,b,.int .u64 c],.agg #[e,f,g,.int .u64 i,.int .u64 j,k],.int .u64 gen,s] w Q:=okF (λw Q=>I7.mU d a b c e f g i j k gen s w Q) I6.mU func78 h
def I7.px(a:Y)(w:J)(Q:aa->J->Prop):Prop:=Q (.bool ((decide ((a.len:Int)>=1))&&(decide ((a.len:Int)<=24)))) w
def I6.px:aQ:=c3
def I7.tV(t:ao ab)(key:Y)(w:J)(Q:aa->J->Prop):Prop:=bo (λbA:ah->J->Prop=>ai (Option.isNone t) (bA true w) (aF 141 #[key] w λn ag=>bA (!n)
 ag)) (λ(o:ah) f=>ai o (ai (Option.isNone t) (Q (.tuple #[(),false,(1:Int)]) f) (Q (.tuple #[(),false,(0:Int)]) f)) (b6 142 #[t,key] f λc n10 b=>ai ((n10 !=0)||((c.len:Int)==0)) (Q (.tuple #[(),false,n10]) b) (∃dP:ab,c.a=some dP/\((0:Int)<=(ar ((c.len:Int)-1))/\(ar ((c.len:Int)-1))<
 (c.len:Int))/\a7 b ((dP.add ((ar ((c.len:Int)-1)).toNat*6)).add 1) λg=>af b (((dP.add ((ar ((c.len:Int)-1)).toNat*6)).add 1).add 1) λh=>af b (((dP.add ((ar ((c.len:Int)-1)).toNat*6)).add
 1).add 2) λi=>af b (((dP.add ((ar ((c.len:Int)-1)).toNat*6)).add 1).add 3) λj=>ak (b.alloc cl) λk=>bx k (U b) [g,h,i,j]/\(4:Nat)=4/\ak (setCells k (U b) 0 [g,h,i,j]) λd=>a7 d (U b) λp=>af d ((U b).add 1) λq=>
 af d ((U b).add 2) λr=>af d ((U b).add 3) λs=>gX 143 #[.agg #[p,q,r,s],key] d
 λn24 u e=>ai (!u) (Q (.tuple #[(),false,(0:Int)]) e) (af e ((U b).add 2) λl=>∃m:ab,l.a=some m/\aK n24 l.len/\af e (m.add (n24.toNat*1)) λv=>Q (.tuple
 #[v,true,(0:Int)]) e))))
def I6.tV:aQ:=(.s .r (.s (.s (.cV [.r,.r,.r,.split 3]) (.c (.s a1 (.s .r .l)) .l)) (.s .r (.s eI (.s .r cI)))))
def I7.tW(s:ao ab)(E:Int)(w:J)(Q:aa->J->Prop):Prop:=∃a1:ab,s=some a1/\st w (a1.add 18) true λag=>∃a3:ab,s=some a3/\st ag (a3.add 16) (0:Int) λn=>∃
 a5:ab,s=some a5/\∃o:ao ab,n.cell? (a5.add 3)=some (o)/\aR 144 #[o] n λp=>∃a9:ab,s=some a9/\∃q:ao ab,p.cell? (a9.add 2)=some (q)/\aZ
 145 #[q] p λg F=>∃ (h:Int->J->Prop) (r:Int->J->Nat),h 0 F/\∀ (n16:Int) (c:J),h n16 c->ai (decide (n16<(g.len:Int))) (∃eY:ab,g.a=some eY/\aK n16
 g.len/\r1 c (eY.add (n16.toNat*1)) λn19=>∃t:ab,s=some t/\∃v:ao ab,c.cell? (t.add 2)=some (v)/\aF 146 #[v,n19] c λL x=>h (ar (n16+
 1)) x/\r (ar (n16+1)) x<r n16 c) (bo (λy:J->Prop=>ak (c.drew) λb=>∃d:Nat->Prop,∃i:ab,s=some i/\¬d (i.add 2).block/\∃z:ao ab,b.cell? (i.add 2)=some (.pointer
 z)/\∃j:ab,s=some j/\¬d (j.add 3).block/\∃A:ao ab,b.cell? (j.add 3)=some (A)/\∃k:ab,s=some k/\¬d (k.add 13).block/\bl b (k.add 13) λn33=>∃l:ab,s=some
 l/\¬d (l.add 7).block/\r1 b (l.add 7) λn35=>∃m:ab,s=some m/\¬d ((m.add 7).add 1).block/\r1 b ((m.add 7).add 1) λn37=>c9 140 #[z,A,.int .u64 (IntKind.wrap .u64 (n33
 +1)),n35,n37] b λG n41 e=>ad d b e/\ai (n41==0) (∃f:ab,s=some f/\(∃u:aa,e.cell? f=some u)/\e.frozen? f=false/\ak (e.setCell f (G)) λH=>y
 H) (y e)) (λB=>∃C:ab,s=some C/\r1 B ((C.add 7).add 5) λI=>∃D:ab,s=some D/\st B (D.add 17) I λK=>Q E K))
def I6.tW:aQ:=(.s .r (.s .r (.s .r (.s (.s .r (.bN (.loop [(26,(.int .i64))] [0,1,24,25] a2))) (.s (.ey [] [0,1] (.s (.cd 28 true ⟨[0,1,2,4,0,16,32,64,0,256,512,1024,2048,0,8192,16384,32768,65536,
 0,262144,524288,1048576,2097152,4329608,8388608,16777216,16777216,67108863,268435455],[0,1,2,4,0,16,32,64,0,256,512,1024,2048,0,8192,16384,32768,65536,0,262144,524288,1048576,2097152,4329608,8388608,
 16777216,16777216,33554432,67108864]⟩ [274877906944,549755813888,1099511627776,2199023255552,4398046511104,8796093022208,17592186044416,35184372088832,70368744177664,140737488355328,281474976710656,562949953421312,
 1125899906842624,2251799813685248,4503599627370496,9007199254740992,18014398509481984,36028797018963968,72057594037927936,144115188075855872,288230376151711744,576460752303423488,1152921504606846976,2305843009213693952,
 137438953472,4611686018427387904,9223372036854775808,128,256] [1,274877906944,549755813888,1099511627776,1,4398046511104,8796093022208,17592186044416,1,70368744177664,140737488355328,281474976710656,562949953421312,1,
 2251799813685248,4503599627370496,9007199254740992,18014398509481984,1,72057594037927936,144115188075855872,288230376151711744,576460752303423488,1190113584927997952,2305843009213693952,137438953472,137438953472,
 4611686018427387904,9223372036854775808] (.t 0 (.t 1 (.t 2 (.t 3 (.t 4 (.t 5 (.t 6 (.t 7 (.t 8 (.t 9 (.t 10 (.t 11 (.t 12 (.t 13 (.t 14 (.t 15 (.t 16 (.t 17 (.t 18 (.t 19 (.t 20 (.t 21 (.t 22 (.bK 23 (.t 24 (.t 25 (.t 26 (.t 27 (.tail
 [.r])))))))))))))))))))))))))))))) (.s .r (.c .r .l)))) (.s .r (.s .r .l)))))))
def I7.tX(s:ao ab)(w:J)(Q:aa->J->Prop):Prop:=∃a1:ab,s=some a1/\∃br:ao ab,w.cell? a1=some (br)/\eH 147 #[br] w λn5 n6 a=>∃dE:ab,s
 =some dE/\∃b:ao ab,a.cell? (dE.add 3)=some (b)/\ay 148 #[b] a λn11 d=>∃n12:Int,∃c:J,Sem.run aj (Builtin.max_ #[3,3] 3 #[.int .i64 (ar ((ar (n11
 -(ar (2*n6))))-4)),(0:Int)]) d=.ok n12 c/\Q n12 c
def I6.tX:aQ:=a3
def I7.tY(t:ao ab)(key:Y)(w:J)(Q:aa->J->Prop):Prop:=bo (λbA:ah->J->Prop=>ai (Option.isNone t) (bA true w) (aF 141 #[key] w λl ag=>bA
 (!l) ag)) (λ(m:ah) f=>ai m (Q (.tuple #[false,(1:Int)]) f) (b6 142 #[t,key] f λb n10 d=>ai ((n10 !=0)||((b.len:Int)==0)) (Q (.tuple #[false,n10]) d) (∃dP:ab,b.a=some dP/\((0:Int)<=(ar ((b.len:Int)-1))/\(ar ((b.len:Int)-1))<(b.len:Int))/\a7 d ((dP.add ((ar ((b.len:Int)-1)).toNat*6)).add 1) λn=>af d (((dP.add ((ar
 ((b.len:Int)-1)).toNat*6)).add 1).add 1) λo=>af d (((dP.add ((ar ((b.len:Int)-1)).toNat*6)).add 1).add 2) λp=>af d (((dP.add ((ar ((b.len:Int)-1)).toNat*6)).add 1).add 3) λq=>iA 149
 #[.agg #[n,o,p,q],key] d λg h i j r c=>ak (c.alloc cl) λk=>bx k (U c) [g,
 h,i,j]/\(4:Nat)=4/\ak (setCells k (U c) 0 [g,h,i,j])
 λe=>ai (!r) (Q (.tuple #[false,(0:Int)]) e) (a7 e (U c) λs=>af e ((U c).add 1) λu=>af e ((U c).add 2) λv=>af e ((U c).add 3) λx=>ay 150
 #[t,b,.agg #[s,u,v,x]] e λn31 y=>Q (.tuple #[.bool (n31==0),n31]) y))))
def I6.tY:aQ:=(.s .r (.s dP (.s .r (.s eI (.s .r fB)))))
def I7.tZ(s:ao ab)(keys:Int)(w:J)(Q:aa->J->Prop):Prop:=∃a1:ab,s=some a1/\r1 w (a1.add 17) λbq=>∃a3:ab,s=some a3/\st w (a3.add 17) (.int .i64 (ar (bq+keys))) λa=>
 bo (λc:J->Prop=>∃c3:ab,s=some c3/\r1 a (c3.add 16) λn7=>ai (n7==0) (∃c4:ab,s=some c4/\bl a (c4.add 14) λn9=>∃dZ:ab,s=some dZ/\st a (dZ.add 15) (.int .u64 n9) λf=>c f) (c
 a)) (λd=>∃cI:ab,s=some cI/\r1 d (cI.add 16) λn14=>∃eL:ab,s=some eL/\st d (eL.add 16) (.int .i64 (ar (n14+1))) λg=>ak (g.drew) λb=>∃eY:ab,s=some eY/\¬False/\r1 b
 (eY.add 16) λn19=>∃e:ab,s=some e/\¬False/\r1 b ((e.add 4).add 1) λn21=>ai (decide (n19>=n21)) (ay 94 #[s] b λn24 h=>Q n24 h) (Q (0:Int) b))
def I6.tZ:aQ:=(.s .r (.s .r (.s (.ey [] [0] (.s .r (.c .r .l))) (.s .r (.s (.s (.cd 9 false ⟨[0,1,2,4,0,16,32,64,128,264],[0,1,2,4,0,16,32,64,128,264]⟩ [4294967296,8589934592,17179869184,34359738368,
 68719476736,137438953472,274877906944,549755813888,1099511627776,2199023255552] [1,4294967296,8589934592,17179869184,1,68719476736,137438953472,274877906944,549755813888,1133871366144] (.t 0 (.t 1 (.t 2 (.t 3 (.t 4 (.t 5 (.t 6
 (.t 7 (.t 8 (.tail [.r]))))))))))) (.c (.s .r .l) .l)) (.s .r .l))))))
def I7.t_(t:ao ab)(key:Y)(val:Y)(w:J)(Q:aa->J->Prop):Prop:=bo (λbA:ah->J->Prop=>ai (Option.isNone t) (bA true w) (aF 141 #[key] w λv ag
 =>bA (!v) ag)) (λ(x:ah) l=>ai (x||(decide ((val.len:Int)>24))) (Q (1:Int) l) (ak (l.drew) λi=>∃j:Nat->Prop,∃a9:ab,t=some a9/\¬j (a9.add 1).block/\∃m:ao ab,i.cell? (a9.add 1)=
 some (m)/\∃dP:ab,t=some dP/\¬j (dP.add 4).block/\r1 i (dP.add 4) λn12=>ay 148 #[m] i λn15 k=>ad j i k/\ai (decide (n15<(ar ((ar (2*n12))+3)))) (Q (2:Int)
 k) (b6 142 #[t,key] k λb n19 c=>ai (n19 !=0) (Q n19 c) (ak (c.alloc cl) λn=>bx n (U c) [true,(),(),()]/\(4:Nat)=4/\ak (setCells n (U c) 0 [true,(),(),()]) λe=>bo (λo:J->Prop=>ai (decide ((b.len:Int)>0)) (∃g:ab,b.a=some g/\((0:Int)<=(ar
 ((b.len:Int)-1))/\(ar ((b.len:Int)-1))<(b.len:Int))/\a7 e ((g.add ((ar ((b.len:Int)-1)).toNat*6)).add 1) λy=>af e (((g.add ((ar ((b.len:Int)-1)).toNat*6)).add 1).add 1) λz=>af e
 (((g.add ((ar ((b.len:Int)-1)).toNat*6)).add 1).add 2) λA=>af e (((g.add ((ar ((b.len:Int)-1)).toNat*6)).add 1).add 3) λB=>q8 e c y z A B o) (o e)) (λh=>a7 h (U c) λ
 C=>af h ((U c).add 1) λD=>af h ((U c).add 2) λE=>af h ((U c).add 3) λF=>iA 151 #[.agg #[C,D,E,F],key,val] h λp q r s G d=>ak (d.alloc cl) λu=>bx u (U d) [p,q,r,
 s]/\(4:Nat)=4/\ak (setCells u (U d) 0 [p,q,r,s]) λf=>ai (!G) (Q (4:Int) f) (a7 f (U d)
 λH=>af f ((U d).add 1) λI=>af f ((U d).add 2) λK=>af f ((U d).add 3) λL=>ay 150 #[t,b,.agg #[H,I,K,L]] f λM N=>Q M N))))))
def I6.t_:aQ:=(.s .r (.s (.bN (.s (.cV [.r,.r,.r,.split 3,.r,.r,.r,.r,.pure 3]) (.c (.s .r .l) (.s (.cd 11 true ⟨[0,1,2,4,8,0,32,64,128,256,512,1040,2064],[0,1,2,4,8,0,32,64,128,256,512,1040,
 2048]⟩ [67108864,134217728,268435456,536870912,1073741824,2147483648,4294967296,8589934592,17179869184,34359738368,68719476736,137438953472,33554432] [1,67108864,134217728,268435456,536870912,1,2147483648,4294967296,
 8589934592,17179869184,34359738368,69793218560,137438953472] (.t 0 (.t 1 (.t 2 (.t 3 (.t 5 (.t 6 (.t 7 (.t 8 (.t 9 (.t 10 (.bK 4 (.tail [.r,.r]))))))))))))) (.c (.s .r .l) .l))))) (.s .r (.s a1 (.s .r (.s (.ey [] [0,1,2,7,9] (.s
 .r (.c .r .l))) cI))))))
def I7.ua(s:ao ab)(keys:Int)(w:J)(Q:aa->J->Prop):Prop:=∃a1:ab,s=some a1/\∃br:ao ab,w.cell? a1=some (br)/\pk 152 #[br] w λh n6 n7 a
 =>ai (n7==3) (Q n7 a) (∃c4:ab,s=some c4/\r1 a ((c4.add 7).add 2) λn9=>ak (a.alloc (.cells #[(0:Int),(1:Int),n9] 3)) λi=>∃b:Y,∃d:J,Sem.run aj
 (Builtin.append_ #[58,58] 58 #[h,.slice (some (U a)) 3 3]) i=.ok b d/\aR 153 #[b] d λc=>bo (λ
 e:ah->J->Prop=>ai ((n7 !=0)||(n6 !=keys)) (e true c) (∃fB:ab,s=some fB/\∃f:ao ab,c.cell? (fB.add 3)=some (f)/\aZ 155 #[f] c λj k=>aF
 154 #[b,j] k λl m=>e (!l) m)) (λ(n:ah) g=>ai n (Q (4:Int) g) (Q (0:Int) g)))
def I6.ua:aQ:=(.s .r (.s .r (.s a1 (.s .r (.s .r (.s (.s (.cV [.r,.r,.r,.pure 3,.r,.r,.r,.r,.split 8]) (.c (.s .r .l) .l)) (.s .r .l)))))))
def I7.uc(parts:Y)(w:J)(Q:aa->J->Prop):Prop:=∃ (e:Y->Int->J->Prop) (h:Y->Int->J->Nat),e ⟨none,0,0⟩ 0 w/\∀ (d:Y) (b:Int) (c:J),e d b c->ai (decide (b<
 (parts.len:Int))) (∃c3:ab,parts.a=some c3/\aK b parts.len/\af c (c3.add (b.toNat*1)) λi=>∃f:Y,∃g:J,Sem.run aj (Builtin.append_ #[48,48] 48 #[d,i]) c=.ok f g/\e f (ar (b+1)) g/\h f (ar (b+1)) g<h d b c) (Q d c)
def I6.uc:aQ:=(.s .r (.s .r (.s (.s .r (.bN (.loop [(3,.slice),(8,(.int .i64))] [6,7] a2))) (.s .r .l))))
def I7.ud(s:ao ab)(w:J)(Q:aa->J->Prop):Prop:=∃a1:ab,s=some a1/\∃br:ao ab,w.cell? (a1.add 3)=some (br)/\eH 160 #[br] w λn5 n6 y=>
 ai (n6 !=0) (ay 81 #[s,n6] y λn9 al=>Q n9 al) (ak (y.drew) λi=>∃dP:ab,s=some dP/\¬False/\∃z:ao ab,i.cell? (dP.add 3)=some (z)/\∃cI:
 ab,s=some cI/\¬False/\r1 i ((cI.add 7).add 2) λn14=>ay 161 #[z,n14] i λn17 am=>ak (am.drew) λd=>∃e:Nat->Prop,∃j:ab,s=some j/\¬e (j.add 13).block
 /\bl d (j.add 13) λn21=>∃k:ab,s=some k/\¬e (k.add 3).block/\∃A:ao ab,d.cell? (k.add 3)=some (A)/\aZ 74 #[A] d λan l=>ad e d l/\∃pq:
 Array aa,(∀B:J,Sem.run aj (Instr.build 150 #[(0,.int .i64 4),(1,.int .u64 (IntKind.wrap .u64 (n21+1))),(2,an)]) B=.ok (.agg pq) B)/\b6 73 #[n5,.agg
 pq] l λap n32 f=>ad e l f/\ai (n32 !=0) (ay 81 #[s,n32] f λn35 aq=>Q n35 aq) (∃C:ab,s=some C/\∃D:ao ab,f.cell? (C.add 2)=some
 (D)/\ay 162 #[D,n5,ap] f λn40 m=>ai (n40 !=0) (ay 81 #[s,n40] m λar au=>Q ar au) (∃E:ab,
 s=some E/\∃F:ao ab,m.cell? (E.add 2)=some (F)/\ay 163 #[F] m λG n=>ai (G !=0) (ay 81 #[s,G] n λav aw=>Q av aw) (∃H:ab,s=some H/\∃I:ao ab,n.cell? H=some (I)/\eH 147 #[I] n λax az aA=>ak (aA.drew) λa=>∃g:Nat->Prop,∃o:ab,s=some o/\¬g
 (o.add 14).block/\bl a (o.add 14) λaB=>∃p:ab,s=some p/\¬g ((p.add 7).add 4).block/\bl a ((p.add 7).add 4) λaC=>∃q:ab,s=some q/\¬g (q.add 17).block/\r1 a (q.add 17) λaD=>
 ∃h:Array aa,(∀K:J,Sem.run aj (Instr.build 104 #[(0,ax),(1,az),(2,n5),(3,.int .u64 aB),(4,.int .u64 (IntKind.wrap .u64 (aC+1))),(5,aD)]) K=.ok
 (.agg h) K)/\ak (a.alloc gv) λr=>ad g a r/\bx r (U a) (Array.toList h)/\Array.size h=6/\ak (setCells r (U a) 0 (Array.toList h)) λaE=>ak (aE.drew) λb=>∃L:ab,s=some L/\
 ¬False/\∃M:ao ab,b.cell? (L.add 1)=some (M)/\¬False/\r1 b (U a) λaF=>r1 b ((U a).add 1) λaG=>r1 b ((U a).add 2) λaH=>bl b ((U a).add 3) λaI=>bl b
 ((U a).add 4) λaJ=>r1 b ((U a).add 5) λaK=>∃N:ab,s=some N/\¬False/\bl b (N.add 13) λaL=>ay 77 #[M,.agg #[aF,aG,aH,.int .u64
 aI,.int .u64 aJ,aK],.int .u64 (IntKind.wrap .u64 (aL+1))] b λO t=>ai (O !=0) (ay 81 #[s,O] t λaM aN=>Q aM aN) (∃P:ab,s=some P/\∃R
 :ao ab,t.cell? (P.add 3)=some (R)/\aR 131 #[R] t λaO=>ak (aO.drew) λc=>∃S:Nat->Prop,¬S ((U a):ab).block/\r1 c (U a) λT=>r1 c ((U
 a).add 1) λV=>r1 c ((U a).add 2) λW=>bl c ((U a).add 3) λX=>bl c ((U a).add 4) λY=>r1 c ((U a).add 5) λZ=>∃u:ab,s=some u/\¬S (u.add 13).block/\bl
 c (u.add 13) λaP=>∃v:ab,s=some v/\bx c (v.add 7) [T,V,W,.int .u64 X,.int .u64 Y,Z]/\(6:Nat)=6/\ak (setCells c (v.add 7) 0 [T,V,W,.int .u64 X,.int .u64 Y,Z]) λaQ=>∃ac:ab,s=some ac/\st aQ (ac.add 13) (.int .u64 (IntKind.wrap .u64 (aP+1))) λaS=>∃ae:ab,s=some ae/\st aS
 (ae.add 16) (0:Int) λaT=>ak (aT.drew) λx=>∃af:ab,s=some af/\¬False/\∃ag:ao ab,x.cell? af=some (ag)/\∃ah:ab,s=some ah/\¬False/\bl x (ah.add 13) λ
 aU=>aR 164 #[ag,.int .u64 (IntKind.wrap .u64 (aU+1))] x λaV=>Q (0:Int) aV)))))
def I6.ud:aQ:=(.s .r (.s .r (.s a1 (.s (.cd 9 false ⟨[0,1,2,4,0,16,32,64,128,264],[0,1,2,4,0,16,32,64,128,264]⟩ [33554432,67108864,134217728,268435456,536870912,1073741824,2147483648,
 4294967296,8589934592,17179869184] [1,33554432,67108864,134217728,1,536870912,1073741824,2147483648,4294967296,8858370048] (.t 0 (.t 1 (.t 2 (.t 3 (.t 4 (.t 5 (.t 6 (.t 7 (.t 8 (.tail [.r]))))))))))) (.s (.cd 17 true ⟨[0,0,2,
 4,8,16,0,64,128,256,512,1056,3073,4096,8192,8192,32767,131071],[0,0,2,4,8,16,0,64,128,256,512,1056,2049,4096,8192,8192,16384,32768]⟩ [68719476736,137438953472,274877906944,549755813888,1099511627776,
 2199023255552,4398046511104,8796093022208,17592186044416,35184372088832,70368744177664,140737488355328,281474976710656,34359738368,562949953421312,1125899906842624,32,16] [8,1,137438953472,274877906944,549755813888,
 1099511627776,1,4398046511104,8796093022208,17592186044416,35184372088832,72567767433216,140806207832064,281474976710656,34359738368,34359738368,562949953421312,1125899906842624] (.t 0 (.t 1 (.t 2 (.t 3 (.t 4 (.t 5 (.t 6 (.t 7
 (.t 8 (.t 9 (.bK 10 (.t 11 (.bK 12 (.t 13 (.t 14 (.t 15 (.t 16 (.tail [.r]))))))))))))))))))) (.s a1 (.s (.s .r a1) (.s (.s .r a1) (.s .r (.s (.cd 19 true ⟨[0,0,0,0,8,16,32,0,128,256,512,1024,2048,0,8192,16384,32768,
 69703,0,524287],[0,0,0,0,8,16,32,0,128,256,512,1024,2048,0,8192,16384,32768,69703,0,393216]⟩ [77371252455336267181195264,154742504910672534362390528,309485009821345068724781056,618970019642690137449562112,
 1237940039285380274899124224,2475880078570760549798248448,4951760157141521099596496896,9903520314283042199192993792,19807040628566084398385987584,39614081257132168796771975168,79228162514264337593543950336,
 158456325028528675187087900672,316912650057057350374175801344,633825300114114700748351602688,1267650600228229401496703205376,2535301200456458802993406410752,5070602400912917605986812821504,10141204801825835211973625643008,1024,0]
 [256,512,8,1,618970019642690137449562112,1237940039285380274899124224,2475880078570760549798248448,1,9903520314283042199192993792,19807040628566084398385987584,39614081257132168796771975168,79228162514264337593543950336,
 158456325028528675187087900672,1,633825300114114700748351602688,1267650600228229401496703205376,2535301200456458802993406410752,5393008409894303831330853486592,0,10141204801825835211973625644032] (.t 0 (.t 1 (.t 2 (.t 3 (.t 4 (.t 5
 (.t 6 (.t 7 (.t 8 (.t 9 (.t 10 (.t 11 (.t 12 (.t 13 (.t 14 (.t 15 (.t 16 (.t 17 (.bK 18 (.tail [.r]))))))))))))))))))))) (.s (.s (.cd 10 false ⟨[0,1,2,4,0,0,32,64,128,256,536,2047],[0,1,2,4,0,0,32,64,128,256,536,
 1024]⟩ [20282409603651670423947251286016,40564819207303340847894502572032,81129638414606681695789005144064,162259276829213363391578010288128,324518553658426726783156020576256,649037107316853453566312041152512,
 1298074214633706907132624082305024,2596148429267413814265248164610048,5192296858534827628530496329220096,10384593717069655257060992658440192,20769187434139310514121985316880384,2048] [1,20282409603651670423947251286016,
 40564819207303340847894502572032,81129638414606681695789005144064,1024,1,649037107316853453566312041152512,1298074214633706907132624082305024,2596148429267413814265248164610048,5192296858534827628530496329220096,
 10871371547557295347235726689304576,20769187434139310514121985316880384] (.t 0 (.t 1 (.t 2 (.t 3 (.t 4 (.t 5 (.t 6 (.t 7 (.t 8 (.t 9 (.tail [.r,.r])))))))))))) a1) (.s .r (.s (.cd 15 true ⟨[0,0,0,0,0,16,32,64,128,137,649,1161,
 4091,8187,12283,32767,65535,98303],[0,0,0,0,0,16,32,64,128,1,512,1032,2,4096,8448,4,32768,65536]⟩ [42535295865117307932921825928971026432,85070591730234615865843651857942052864,
 170141183460469231731687303715884105728,340282366920938463463374607431768211456,680564733841876926926749214863536422912,1361129467683753853853498429727072845824,2722258935367507707706996859454145691648,
 5444517870735015415413993718908291383296,10889035741470030830827987437816582766592,21778071482940061661655974875633165533184,43556142965880123323311949751266331066368,0,87112285931760246646623899502532662132736,
 174224571863520493293247799005065324265472,0,348449143727040986586495598010130648530944,696898287454081973172991196020261297061888,0] [1,1,1,1024,1,680564733841876926926749214863536422912,1361129467683753853853498429727072845824,
 2722258935367507707706996859454145691648,5444517870735015415413993718908291383296,42535295865117307932921825928971026432,21778071482940061661655974875633165533184,43896425332801061786775324358698099277824,
 85070591730234615865843651857942052864,87112285931760246646623899502532662132736,185113607604990524124075786442881907032064,170141183460469231731687303715884105728,348449143727040986586495598010130648530944,
 696898287454081973172991196020261297061888] (.t 0 (.t 1 (.t 2 (.t 3 (.t 4 (.t 5 (.t 6 (.t 7 (.t 8 (.t 9 (.t 10 (.out 11 false (.t 12 (.t 13 (.out 14 false (.tail [.r,.r,.r]))))))))))))))))) (.s (.cd 9 false ⟨[0,1,2,4,0,16,32,64,
 128,264],[0,1,2,4,0,16,32,64,128,264]⟩ [1393796574908163946345982392040522594123776,2787593149816327892691964784081045188247552,5575186299632655785383929568162090376495104,11150372599265311570767859136324180752990208,
 22300745198530623141535718272648361505980416,44601490397061246283071436545296723011960832,89202980794122492566142873090593446023921664,178405961588244985132285746181186892047843328,356811923176489970264571492362373784095686656,
 713623846352979940529142984724747568191373312] [1,1393796574908163946345982392040522594123776,2787593149816327892691964784081045188247552,5575186299632655785383929568162090376495104,1,22300745198530623141535718272648361505980416,
 44601490397061246283071436545296723011960832,89202980794122492566142873090593446023921664,178405961588244985132285746181186892047843328,367962295775755281835339351498697964848676864] (.t 0 (.t 1 (.t 2 (.t 3 (.t 4 (.t 5 (.t 6 (.t 7 (.t 8
 (.tail [.r]))))))))))) (.s .r .l)))))))))))))))
def I7.ue(d:ao ab)(i:Int)(w:J)(Q:aa->J->Prop):Prop:=bo (λbA:ah->J->Prop=>ai ((!(Option.isNone d))&&(decide (i>=0))) (∃a2:ab,d=some a2/\af w (a2.add 4) λa=>bA
 (decide (i<(a.len:Int))) w) (bA false w)) (λ(b:ah) c=>Q b c)
def I6.ue:aQ:=a9
def I7.py(d:ao ab)(w:J)(Q:aa->J->Prop):Prop:=ak (w.alloc gv) λw1=>∃ (j:Int->ah->Int->J->Prop) (l:Int->ah->Int->J->Nat),j 0 false 0 w1/\∀ (h:Int) (i:ah) (n6:
 Int) (a:J),j h i n6 a->ai (decide (n6<2)) (bo (λk:Int->ah->J->Prop=>b6 114 #[d,n6] a λm n12 n=>ai (n12 !=0) (w6 n w Q n12) (aF 169
 #[m,.func (.func 170) #[] #[]] n λW o=>ai (!W) (k h i o) (Ak 171 #[n6,m] o λn31 n32 n33 n34 n35 n36 n37 n38 n39 c=>ak
 (c.alloc gv) λp=>bx p (U c) [n31,n32,n33,.int .u64 n34,.int .u64 n35,n36]/\(6:Nat)=6/\ak (setCells p (U c) 0 [n31,n32,n33,.int .u64
 n34,.int .u64 n35,n36]) λq=>ai (n39 !=0) (w6 q w Q n39) (ay 72 #[d] q λX b=>ai (n37 !=X) (r1 b (U w) λr=>r1 b ((U w).add 1) λs=>r1 b ((U w).add 2)
 λt=>bl b ((U w).add 3) λu=>bl b ((U w).add 4) λv=>r1 b ((U w).add 5) λx=>bx b (U w) [r,s,t,.int .u64 u,.int .u64 v,x]/\(6
 :Nat)=6/\ak (setCells b (U w) 0 [r,s,t,.int .u64 u,.int .u64 v,x]) λe=>r1 e (U w) λY=>r1 e ((U w).add 1) λZ=>r1 e ((U w).add 2) λac
 =>bl e ((U w).add 3) λad=>bl e ((U w).add 4) λae=>r1 e ((U w).add 5) λaf=>Q (.tuple #[.agg #[Y,Z,ac,.int .u64 ad,.int .u64 ae,af],.int .u64 0,
 .int .i64 4]) e) (ai ((!i)||(decide (n38>h))) (r1 b (U c) λy=>r1 b ((U c).add 1) λz=>r1 b ((U c).add 2) λA=>bl b ((U c).add 3) λB=>bl b ((U c).add 4) λC
 =>r1 b ((U c).add 5) λD=>bx b (U w) [y,z,A,.int .u64 B,.int .u64 C,D]/\(6:Nat)=6/\ak (setCells b (U w) 0 [y,z,A,.int .u64 B,.int .u64 C,D]) λag=>k n38 true ag) (k h i b)))))) (λ(E:Int) (F:ah) G=>j E F (ar (n6+1)) G/\l E F (ar (n6+1)) G<l h i n6 a)) (ai (!i) (r1 a (U w)
 λH=>r1 a ((U w).add 1) λI=>r1 a ((U w).add 2) λK=>bl a ((U w).add 3) λL=>bl a ((U w).add 4) λM=>r1 a ((U w).add 5) λN=>bx a (U w) [H,I,K,.int .u64 L,.int .u64 M,N]/\(6:Nat)=6/\ak (setCells a (U w) 0 [H,I,K,.int .u64 L,.int .u64 M,N]) λf=>r1 f (U w) λaj=>r1
 f ((U w).add 1) λal=>r1 f ((U w).add 2) λam=>bl f ((U w).add 3) λan=>bl f ((U w).add 4) λap=>r1 f ((U w).add 5) λaq=>Q (.tuple #[.agg #[aj,al,am,.int .u64 an,.int .u64 ap,aq],.int .u64 0,(6:Int)]) f) (r1 a (U w) λO=>r1 a ((U w).add 1) λP=>r1 a ((U w).add 2) λR=>bl a ((U w).add 3) λS=>bl a (Addr.add
 (U w) 4) λT=>r1 a ((U w).add 5) λV=>bx a (U w) [O,P,R,.int .u64 S,.int .u64 T,V]/\(6:Nat)=6/\ak (setCells a (U w) 0 [O,P,
 R,.int .u64 S,.int .u64 T,V]) λg=>r1 g (U w) λau=>r1 g ((U w).add 1) λav=>r1 g ((U w).add 2) λaw=>bl g ((U w).add 3) λax=>bl g (Addr.add
 (U w) 4) λaz=>r1 g ((U w).add 5) λaA=>Q (.tuple #[.agg #[au,av,aw,.int .u64 ax,.int .u64 az,aA],.int .u64 h,(0:Int)]) g))
def I6.py:aQ:=(.s .r (.s .r (.s (.s .r (.bN (.loop [(3,(.int .u64)),(5,.bool),(12,(.int .i64))] [0,2] (.s .r (.s (.c .l .l) (.s (.ey [(3,(.int .u64)),(5,.bool)] [0,2,12] (.bN (.s .r (.s .r (.s a1 (.s (.s .r (.c .l
 .l)) (.s .r (.bN (.s .r (.c (.s .r .l) (.s .r (.c (.s .r .l) (.s (.cV [.r,.r,.r,.pure 3]) (.c .r .l)))))))))))))) .r)))))) (.s a1 (.s .r .l)))))
def I7.pz(d:ao ab)(no:Int)(w:J)(Q:aa->J->Prop):Prop:=b6 114 #[d,no] w λj e w1=>ai (e !=0) (Q (.tuple #[.pointer none,e]) w1) (ly
 172 #[no,j] w1 λn7 n8 f n10 a=>ak (a.alloc z3) λg=>bx g (U a) [n7,.int .u64 n8,f]/\(3:Nat)=3/\ak (setCells g (U a) 0 [n7,.int .u64 n8,f]) λb=>ai (n10 !=0) (Q (.tuple #[.pointer none,n10]) b) (r1 b (U a) λn13=>ai (n13 !=4) (Q (.tuple #[.pointer none,(4:Int)]) b) (ak (b.drew) λc=>∃
 h:Nat->Prop,¬h ((U a).add 2).block/\af c ((U a).add 2) λk=>ay 72 #[d] c λn19 i=>ad h c i/\c9 173 #[k,n19] i λl
 n23 m=>Q (.tuple #[l,n23]) m)))
def I6.pz:aQ:=(.s .r (.s .r (.s a1 (.s .r (.s a1 (.s a1 (.s (.cd 7 true ⟨[0,1,0,4,10,16,16,127,255],[0,1,0,4,10,16,16,32,64]⟩ [1073741824,2147483648,4294967296,8589934592,17179869184,34359738368,
 68719476736,16,32] [256,1073741824,1,4294967296,10737418240,17179869184,17179869184,34359738368,68719476736] (.t 0 (.t 1 (.t 2 (.bK 3 (.out 4 false (.t 5 (.t 6 (.tail [.r,.r]))))))))) .l)))))))
def I7.uf(t:ao ab)(g:Y)(to:Y)(most:Int)(w:J)(Q:aa->J->Prop):Prop:=ak (w.alloc (.cells #[g] 48)) λw1=>ak (w1.alloc (.cells #[to] 48)) λag=>ak (ag.alloc (.cells #[most] 3)) λb=>ai (Option.isNone t) (Q (.tuple #[(),(1:Int)]) b) (∃a4:ab,t=some a4/\r1 b (a4.add 4) λn5=>bo (λf:
 ah->J->Prop=>ai (n5==0) (f true b) (r1 b (U ag) λn7=>f (decide (n7<1)) b)) (λ(h:ah) c=>ai h (Q (.tuple #[(),(0:Int)]) c) (ak (c.alloc (.cells #[()] 86)) λ
 i=>ak (i.drew) λa=>∃d:Nat->Prop,∃cI:ab,t=some cI/\¬d (cI.add 3).block/\r1 a (cI.add 3) λn14=>∃eL:ab,t=some eL/\¬d (eL.add 4).block/\r1 a (eL.add 4) λn16=>¬d ((U w):
 ab).block/\af a (U w) λj=>ad d a a/\kS 174 #[t,n14,n16,j,.func (.func 175) #[] #[.pointer (some (U w1)),.pointer (some (U w)),
 .pointer (some (U c)),.pointer (some (U ag))]] a λl n21 e=>ai (n21 !=0) (Q (.tuple #[(),n21]) e) (af e (U c) λk=>Q (.tuple #[k,(0:Int)]) e))))
def I6.uf:aQ:=(.s .r (.s a1 (.s (.s (.cV [.r,.r,.r,.r,.r,.r,.split 2]) (.c (.s .r .l) .l)) (.s .r (.s (.cd 16 true ⟨[0,0,2,4,8,0,32,64,128,0,0,1809,2048,4096,4096,16383,65535],[0,0,2,4,8,0,32,
 64,128,0,0,1809,2048,4096,4096,8192,16384]⟩ [33554432,67108864,134217728,268435456,536870912,1073741824,2147483648,4294967296,8589934592,17179869184,34359738368,68719476736,16777216,137438953472,274877906944,2048,
 4096] [1,1,67108864,134217728,268435456,1,1073741824,2147483648,4294967296,32,1248,60699967488,68719476736,16777216,16777216,137438953472,274877906944] (.t 0 (.t 1 (.t 2 (.t 3 (.t 4 (.t 5 (.t 6 (.t 7 (.t 8 (.t 9 (.bK 10
 (.out 11 false (.t 12 (.t 13 (.t 14 (.t 15 (.tail [.r])))))))))))))))))) (.s a1 (.s .r .l)))))))
def I7.ug(d:ao ab)(w:J)(Q:aa->J->Prop):Prop:=∃a1:ab,d=some a1/\∃b:ao Nat,w.cell? (a1.add 5)=some (.map b)/\pn 178 #[.map
 b] w λa c=>aZ 177 #[.func (.func a.f) a.pre a.cap] c λe g=>Q e g
def I6.ug:aQ:=(.s .r (.s .r .l))
def I7.uh(d:ao ab)(i:Int)(w:J)(Q:aa->J->Prop):Prop:=aF 108 #[d,i] w λe w1=>ai (!e) (Q (.tuple #[(),(1:Int)]) w1) (∃a4:ab,d=some
 a4/\aF 136 #[.pointer (some a4),(1:Int)] w1 λf b=>ai f (Q (.tuple #[(),(3:Int)]) b) (td 137 #[d,i] b λgF a=>ak (a.alloc z4) λc=>bx c (U
 a) (Array.toList gF)/\Array.size gF=256/\ak (setCells c (U a) 0 (Array.toList gF)) λg=>Q (.tuple #[.slice (aM (some (U a)) 1 0 256) (256-0) (256-0),(0:Int)]) g))
def I6.uh:aQ:=(.s .r (.s (.bN eL) (.s .r (.s .r .l))))
def I7.ib(b:Y)(n:Int)(size:Int)(w:J)(Q:aa->J->Prop):Prop:=aZ 135 #[b] w λg w1=>aF 192 #[size] w1 λj h=>ai (!j) (Q g h) (∃ (d:Y->Int->J->Prop) (i:Y->Int->J->Nat),d g (ar (size-1)) h/\∀ (c:Y) (n10:Int) (a:J),d c n10 a->ai (decide (n10>=0)) ((0:Int)<=(ar (8*n10))/\ak (a.alloc (.cells
 #[.int .u8 (IntKind.wrap .u8 (Int.fdiv n (2^(min ((ar (8*n10)).toNat) 64))))] 5)) λk=>∃e:Y,∃f:J,Sem.run aj (Builtin.append_ #[48,48] 48 #[c,
 .slice (some (U a)) 1 1]) k=.ok e f/\d e (ar (n10-1)) f/\i e (ar (n10-1)) f<i c n10 a) (Q c a))
def I6.ib:aQ:=(.s .r (.s .r (.s a1 (.s (.s .r (.bN (.loop [(7,.slice),(8,(.int .i64))] [1] (.s (.s .r (.c .l .l)) (.s (.bN .r) .r))))) (.s .r .l)))))
def I7.ui(n:Int)(w:J)(Q:aa->J->Prop):Prop:=Q (.bool ((decide (n>=1))&&(decide (n<=1600)))) w
def I6.ui:aQ:=(.s .r a4)
def I7.uj(n:Int)(w:J)(Q:aa->J->Prop):Prop:=(8:Int)≠0/\Q (.int .i64 (ar (Int.tdiv (ar ((ar (n+8))-1)) 8))) w
def I6.uj:aQ:=(.s .r (.s .r .l))
def I7.uk(s:Y)(no:Int)(w:J)(Q:aa->J->Prop):Prop:=ak (w.drew) λw1=>(8:Int)≠0/\∃a2:ab,s.a=some a2/\aK (ar (Int.tdiv no 8)) s.len/\¬False/\bY w1 (a2.add ((ar (Int.tdiv no
 8)).toNat*1)) λb=>(8:Int)≠0/\(0:Int)<=(Int.tmod no 8)/\∃a4:ab,s.a=some a4/\aK (ar (Int.tdiv no 8)) s.len/\st w1 (a4.add ((ar (Int.tdiv no 8)).toNat*1)) (.int .u8 (mM .u8 b (IntKind.wrap .u8 (1*2^(min
 ((Int.tmod no 8).toNat) 8))))) λc=>Q (.tuple #[]) c
def I6.uk:aQ:=(.cd 8 false ⟨[0,0,2,5,8,0,32,64,144,511,1023],[0,0,2,5,8,0,32,64,144,5,768]⟩ [16,32,64,128,256,512,1024,2048,4096,8192,0] [1,2,32,80,128,2,512,1024,2304,80,12288] (.t 0
 (.t 1 (.t 2 (.t 3 (.t 4 (.t 5 (.t 6 (.t 7 (.tail [.r,.r,.r]))))))))))
def I7.ri(s:ao ab)(w:J)(Q:aa->J->Prop):Prop:=ai (!(Option.isNone s)) (∃a1:ab,s=some a1/\af w (a1.add 1) λs2=>aZ 194 #[s2] w λa
 b=>∃c3:ab,s=some c3/\st b (c3.add 2) a λc=>Q (.tuple #[]) c) (Q (.tuple #[]) w)
def I6.ri:aQ:=(.s .r (.c .r .l))
theorem I7.Ek(s:ao ab)(w:J)(Q:aa->J->Prop)(h:I7.ri s w Q):aN aj 131 #[s] w Q:=okF (λw Q=>I7.ri s w Q) I6.ri func131 h
def I7.um(no:Int)(w:J)(Q:aa->J->Prop):Prop:=Q (.bool ((decide (no>=0))&&(decide (no<1600)))) w
def I6.um:aQ:=(.s .r a4)
theorem I7.Ap(no:Int)(w:J)(Q:aa->J->Prop)(h:I7.um no w Q):aN aj 132 #[no] w Q:=okF (λw Q=>I7.um no w Q) I6.um func132 h
def I7.uo(a:Int)(w:J)(Q:aa->J->Prop):Prop:=Q (.bool ((decide (a>=1))&&(decide (a<=4)))) w
def I6.uo:aQ:=(.s .r a4)
theorem I7.Aq(a:Int)(w:J)(Q:aa->J->Prop)(h:I7.uo a w Q):aN aj 133 #[a] w Q:=okF (λw Q=>I7.uo a w Q) I6.uo func133 h
def I7.nT(b:Y)(w:J)(Q:aa->J->Prop):Prop:=ak (w.drew) λw1=>((0:Int)<=20/\20<=(b.cap:Int))/\((0:Int)<=24/\24<=(b.len:Int))/\ak (w1.alloc (.cells #[.slice (aM b.a 1 0 b.cap)
 ((Int.toNat 20)-0) (b.cap-0),.slice (aM b.a 1 (Int.toNat 24) b.cap) (b.len-(Int.toNat 24)) (b.cap-(Int.toNat 24))] 48)) λag=>gF 195 #[.slice (some (U w1)) 2 2] ag λn5 c=>Q (.int .u32 n5) c
def I6.nT:aQ:=(.s .r (.s (.cd 4 false ⟨[0,1,0,4,10,16,63],[0,1,0,4,10,16,32]⟩ [8,16,32,64,128,256,4] [1,8,1,32,80,128,256] (.t 0 (.t 1 (.t 2 (.t 3 (.tail [.r,.r,.r])))))) .l))
def I7.uq(f:ao ab)(a:Int)(w:J)(Q:aa->J->Prop):Prop:=∃a1:ab,f=some a1/\((0:Int)<=a/\a<((4:Nat):Int))/\r1 w (Addr.add a1 (a.toNat*1)) λbq=>ai (bq==
 (-1)) (Q false w) (ai (bq==0) (∃a3:ab,f=some a3/\((0:Int)<=a/\a<((4:Nat):Int))/\st w (Addr.add a3 (a.toNat*1)) (.int .i64 (-1)) λc=>Q true c) (ak (w.drew) λb=>∃c3:ab,f
 =some c3/\((0:Int)<=a/\a<((4:Nat):Int))/\¬False/\r1 b (Addr.add c3 (a.toNat*1)) λn7=>∃c4:ab,f=some c4/\((0:Int)<=a/\a<((4:Nat):Int))/\st b (Addr.add c4 (a.toNat*1))
 (.int .i64 (ar (n7-1))) λd=>Q false d))
def I6.uq:aQ:=(.s .r (.s (.s .r (.bN (.s .r (.c (.s .r .l) (.s .r c4))))) (.s (.cd 7 false ⟨[0,0,1,6,8,16,1,127,191],[0,0,1,6,8,16,1,66,160]⟩ [262144,524288,1048576,2097152,4194304,8388608,16777216,
 33554432,0] [1,2,262144,1572864,2097152,4194304,262144,17301504,41943040] (.t 0 (.t 1 (.t 2 (.t 3 (.t 4 (.t 5 (.t 6 (.tail [.r,.r]))))))))) (.s .r .l))))
set_option maxRecDepth 100000
def I7.ur(d:ao ab)(i:Int)(w:J)(Q:aa->J->Prop):Prop:=ak (w.alloc z4) λw1=>∃a2:ab,d=some a2/\∃e:ao Nat,w1.cell? (a2.add 5)=some (.map e)/\∃b:Y,∃c:J,
 Sem.run aj (Instr.lookup 137 (.map e) i false) w1=.ok b c/\ai (decide ((b.len:Int)>0)) (∃c3:ab,b.a=some c3/\((0:Int)<=(ar ((b.len:Int)-1))/\(ar
 ((b.len:Int)-1))<(b.len:Int))/\∃f:O aa,cJ c (c3.add ((ar ((b.len:Int)-1)).toNat*256)) 0 256=some f/\xe c w f Q) (∃dZ:ab,d=some dZ/\af c (dZ.add 4) λg=>tc g i c 256 λh=>
 xe c w h Q)
def I6.ur:aQ:=(.s .r gG)
def I7.pA(f:Int)(g:Int)(h:Int)(i:Int)(j:Int)(k:Int)(l:Int)(w:J)(Q:aa->J->Prop):Prop:=ak (w.alloc (.cells #[f,g,h,.int .u64 i,.int .u64 j,k] 104)) λw1=>r1 w1 (U w) λbq=>aZ 126 #[(),.int .u64 (IntKind.wrap .u64 bq),(4:Int)] w1 λm a=>r1 a ((U w).add 1)
 λn6=>aZ 126 #[m,.int .u64 (IntKind.wrap .u64 n6),(1:Int)] a λn b=>r1 b ((U w).add 2) λn10=>aZ 126 #[n,.int .u64 (IntKind.wrap .u64 n10),(4:Int)] b λo p=>aZ 126 #[o,.int .u64 (IntKind.wrap .u64 l),(4:Int)] p λq c=>bl c ((U w).add 3) λn17=>aZ 126 #[q,.int .u64 n17,(8:Int)] c λr d=>bl d ((U w).add 4) λn21=>aZ 126 #[r,.int .u64 n21,(8:Int)] d λs e=>r1 e ((U w).add 5) λn25=>aZ 126 #[s,
 .int .u64 (IntKind.wrap .u64 n25),(4:Int)] e λt u=>Q t u
def I6.pA:aQ:=(.s .r (.s .r (.s .r (.s .r (.s .r a3)))))
def I7.pB(d:ao ab)(al:Int)(w:J)(Q:aa->J->Prop):Prop:=ai (((Option.isNone d)||(decide (al<8)))||(decide (al>64))) (Q (.tuple #[.pointer none,(1:Int)]) w) (((0:Int)<=al
 /\al<=al/\al<=km/\((48:Nat):Int)*al<=140737488355328)/\ak (w.alloc (.cells (g7 aj 288 (al.toNat)) 288)) λw1=>ak (w1.alloc (.cells #[d,.slice (some (U w))
 (al.toNat) (al.toNat),(0:Int)] 281)) λag=>Q (.tuple #[.pointer (some (U w1)),(0:Int)]) ag)
def I6.pB:aQ:=(.s .r (.s (.s (.cV [.r,.r,.r,.pure 2,.r,.r,.r,.pure 2]) (.c (.s .r .l) .l)) (.s .r .l)))
def I7.nU(c:ao ab)(s:ao ab)(gen:Int)(root:Int)(aE:Int)(w:J)(Q:aa->J->Prop):Prop:=bo (λbA:ah->J->Prop=>ai (((((Option.isNone c)||(Option.isNone s))||(decide
 (aE<0)))||(decide (aE>12)))||(decide (root<0))) (bA true w) (∃a2:ab,c=some a2/\∃b:ao ab,w.cell? a2=some (b)/\ay 72 #[b] w λn6 d=>bA (decide (root>=n6)) d))
 (λ(e:ah) a=>ai (e||(!((root==0)==(aE==0)))) (Q (.tuple #[.pointer none,(1:Int)]) a) (ak (a.alloc (.cells #[c,s,.int .u64 gen,root,aE] 239)) λf=>Q
 (.tuple #[.pointer (some (U a)),(0:Int)]) f))
def I6.nU:aQ:=(.s .r (.s (.s (.cV [.r,.r,.r,.pure 2,.r,.r,.r,.pure 2,.r,.r,.r,.pure 2,.r,.r,.r,.pure 2,.r,.r,.r,.split 7,.r,.r,.r,.r,.r,.r,.r,.r,.pure 5]) (.c (.s .r .l) .l)) (.s .r .l)))
def I7.mV(a:Y)(w:J)(Q:aa->J->Prop):Prop:=Q (.bool ((decide ((a.len:Int)>=1))&&(decide ((a.len:Int)<=24)))) w
def I6.mV:aQ:=c3
def I7.uu(t:ao ab)(key:Y)(w:J)(Q:aa->J->Prop):Prop:=∃a1:ab,t=some a1/\r1 w (a1.add 3) λbq=>∃a3:ab,t=some a3/\r1 w (a3.add 4) λA=>∃ (h:Y->Int->Int->J->
 Prop) (k:Y->Int->Int->J->Nat),h ⟨none,0,0⟩ bq A w/\∀ (e:Y) (n8:Int) (n9:Int) (f:J),h e n8 n9 f->ai (decide (n9>0)) (gY 196 #[t,n8,.bool (n9==1)] f λl m
 n o n17 c=>ak (c.alloc cl) λp=>bx p (U c) [l,m,n,o]/\(4:Nat)=4/\ak (setCells p (U c) 0 [l,m,n,o]) λb=>ai (n17 !=0) (Q (.tuple #[(),n17]) b) (a7 b (U c) λB=>af b ((U c).add 1) λC=>af b
 ((U c).add 2) λD=>af b ((U c).add 3) λE=>∃gg:Array aa,Sem.run aj (Instr.build 232 #[(0,n8),(1,.agg #[B,C,D,
 E])]) b=.ok (.agg gg) b/\ak (b.alloc (.cells #[(0:Int),false,(),(),(),(0:Int)] 232)) λq=>bx q (U b) (Array.toList gg)
 /\Array.size gg=6/\ak (setCells q (U b) 0 (Array.toList gg)) λd=>bo (λr:Int->J->Prop=>ai (decide (n9>1)) (a7 d (U c) λF=>af d ((U c).add 1) λG=>af d ((U c).add 2) λ
 H=>af d ((U c).add 3) λI=>ay 197 #[.agg #[F,G,H,I],key] d λn34 K=>st K (Addr.add
 (U b) 5) n34 λg=>af g ((U c).add 3) λs=>r1 g ((U b).add 5) λn37=>∃u:ab,s.a=some u/\aK n37 s.len/\r1 g (u.add (n37.toNat*1)) λn39=>r n39 g) (r n8
 d)) (λ(n40:Int) v=>∃x:O aa,cJ v (U b) 0 6=some x/\∃y:Y,∃z:J,Sem.run aj (Instr.buildSlice 228 1 #[(0,.agg x.toArray)]) v=.ok y z
 /\∃i:Y,∃j:J,Sem.run aj (Builtin.append_ #[228,228] 228 #[e,y]) z=.ok i j/\h i n40 (ar
 (n9-1)) j/\k i n40 (ar (n9-1)) j<k e n8 n9 f))) (Q (.tuple #[e,(0:Int)]) f)
def I6.uu:aQ:=(.s .r (.s .r (.s .r (.s (.s .r (.bN (.loop [(6,.slice),(7,(.int .i64)),(8,(.int .i64))] [0,1] (.s (.s .r (.c .l .l)) (.s (.bN (.s .r (.s a1 (.s .r (.s (.ey [(7,(.int .i64))] [0,1,6,8,11] (.s .r (.c
 (.s .r .r) .l))) .r))))) .r))))) (.s .r .l)))))
def I7.pC(a:ah)(b:Y)(c:Y)(d:Y)(key:Y)(w:J)(Q:aa->J->Prop):Prop:=ak (w.alloc (.cells #[a,b,c,d] 202)) λw1=>a7 w1 (U w) λbM=>af w1 ((U w).add 1) λe=>af w1 ((U w).add 2) λf=>af w1 ((U w).add 3) λg=>gX 198 #[.agg #[bM,
 e,f,g],key] w1 λn8 h i=>Q (.tuple #[n8,h]) i
def I6.pC:aQ:=(.s .r (.s .r .l))
def I7.rj(s:ao ab)(w:J)(Q:aa->J->Prop):Prop:=ai (!(Option.isNone s)) (∃a1:ab,s=some a1/\af w (a1.add 2) λs2=>aZ 194 #[s2] w λa
 b=>∃c3:ab,s=some c3/\st b (c3.add 1) a λc=>Q (.tuple #[]) c) (Q (.tuple #[]) w)
def I6.rj:aQ:=(.s .r (.c .r .l))
theorem I7.El(s:ao ab)(w:J)(Q:aa->J->Prop)(h:I7.rj s w Q):aN aj 144 #[s] w Q:=okF (λw Q=>I7.rj s w Q) I6.rj func144 h
def I7.uv(c:ao ab)(w:J)(Q:aa->J->Prop):Prop:=aZ 199 #[c,.func (.func 200) #[] #[]] w λa w1=>Q a w1
def I6.uv:aQ:=(.s .r (.s .r .l))
def I7.uw(c:ao ab)(no:Int)(w:J)(Q:aa->J->Prop):Prop:=kT 201 #[c,no] w λa w1=>bo (λd:ah->J->Prop=>ai (Option.isNone a) (d true w1) (∃
 a5:ab,a=some a5/\r1 w1 (a5.add 4) λn6=>d (decide (n6>0)) w1)) (λ(e:ah) b=>ai e (Q false b) (∃a9:ab,a=some a9/\bx b a9 [false,false,false,(0:Int),(0:Int),
 ()]/\(6:Nat)=6/\ak (setCells b a9 0 [false,false,false,(0:Int),(0:Int),()]) λf=>Q true f))
def I6.uw:aQ:=(.s .r (.s .r (.s (.s (.cV [.r,.r,.r,.split 5]) (.c (.s .r .l) .l)) (.s .r (.s .r .l)))))
def I7.ux(t:ao ab)(w:J)(Q:aa->J->Prop):Prop:=ai (Option.isNone t) (Q (.tuple #[(0:Int),(0:Int)]) w) (ak (w.drew) λw1=>∃a2:ab,t=some a2/\¬False/\r1 w1 (a2.add 3) λa=>∃
 a4:ab,t=some a4/\¬False/\r1 w1 (a4.add 4) λn5=>Q (.tuple #[a,n5]) w1)
def I6.ux:aQ:=(.s .r (.s a1 (.s (.cd 9 false ⟨[0,1,2,4,0,16,32,64,15,511],[0,1,2,4,0,16,32,64,8,128]⟩ [64,128,256,512,1024,2048,4096,8192,4,8] [1,64,128,256,1,1024,2048,4096,512,8192] (.t
 0 (.t 1 (.t 2 (.t 3 (.t 4 (.t 5 (.t 6 (.t 7 (.t 8 (.tail [.r]))))))))))) .l)))
def I7.rk(s:ao ab)(w:J)(Q:aa->J->Prop):Prop:=ai (Option.isNone s) (Q (0:Int) w) (∃a1:ab,s=some a1/\r1 w a1 λbq=>∃a3:ab,s=some a3/\af w (a3.add 1) λj=>∃ (e:
 Int->Int->J->Prop) (g:Int->Int->J->Nat),e bq 0 w/\∀ (n7:Int) (n8:Int) (d:J),e n7 n8 d->ai (decide (n8<(j.len:Int))) (ak (d.drew) λb=>∃c:Nat->Prop,∃eI:ab,s=some eI/\¬c
 (eI.add 1).block/\af b (eI.add 1) λh=>∃e3:ab,h.a=some e3/\aK n8 h.len/\¬c (e3.add (n8.toNat*1)).block/\bY b (e3.add (n8.toNat*1)) λn15=>∃fB:ab,s=some fB/\¬c (fB.add
 2).block/\af b (fB.add 2) λi=>∃eY:ab,i.a=some eY/\aK n8 i.len/\¬c (eY.add (n8.toNat*1)).block/\bY b (eY.add (n8.toNat*1)) λn19=>ay 202 #[.int .u8 (mM .u8 n15 n19)] b
 λn22 f=>ad c b f/\e (ar (n7-n22)) (ar (n8+1)) f/\g (ar (n7-n22)) (ar (n8+1)) f<g n7 n8 d) (Q n7 d))
def I6.rk:aQ:=(.s .r (.s a1 (.s .r (.s (.s .r (.bN (.loop [(3,(.int .i64)),(16,(.int .i64))] [0,15] (.s .r (.s (.c .l .l) (.s (.bN (.s .r (.cd 17 true ⟨[0,0,2,4,8,0,48,64,0,256,512,1024,0,6144,8192,
 16512,32768,65537,262143],[0,0,2,4,8,0,48,64,0,256,512,1024,0,6144,8192,16512,32768,65537,131073]⟩ [524288,1048576,2097152,4194304,8388608,16777216,33554432,67108864,134217728,268435456,536870912,1073741824,
 2147483648,4294967296,8589934592,17179869184,34359738368,68719476736,8] [8,1,1048576,2097152,4194304,16,25165824,33554432,1,134217728,268435456,536870912,16,3221225472,4294967296,8657043456,17179869184,34360262656,
 68719476736] (.t 0 (.t 1 (.t 2 (.t 3 (.t 4 (.t 5 (.t 6 (.t 7 (.t 8 (.t 9 (.t 10 (.t 11 (.t 12 (.t 13 (.t 14 (.t 15 (.bK 16 (.tail [.r,.r]))))))))))))))))))))) .r)))))) (.s .r .l)))))
theorem I7.Em(s:ao ab)(w:J)(Q:aa->J->Prop)(h:I7.rk s w Q):aN aj 148 #[s] w Q:=okF (λw Q=>I7.rk s w Q) I6.rk func148 h
def I7.pD(k:ah)(l:Y)(m:Y)(n:Y)(key:Y)(w:J)(Q:aa->J->Prop):Prop:=ak (w.alloc (.cells #[k,l,m,n] 202)) λw1=>ak (w1.alloc cl) λag=>a7 ag (U w) λo=>af ag ((U w).add 1) λp=>af ag ((U w).add 2) λq=>af ag ((U w).add 3) λr=>gX
 198 #[.agg #[o,p,q,r],key] ag λn9 s c=>a7 c (U w) λt=>bo (λu:ah->J->Prop=>pr t u c
 w) (λ(v:ah) b=>ai (v||(!s)) (bx b (U w1) [false,(),(),()]/\(4:Nat)=4/\ak (setCells b (U w1) 0 [false,(),(),()]) λx=>iT x w1 Q) (a7 b (U w) λy=>af b ((U w).add 1) λz=>af b ((U w).add 2) λA=>af b ((U w).add 3) λB=>gu 204 #[.agg #[y,z,A,B]] b λd e f g a=>ak (a.alloc cl) λh=>bx h (U a) [d,e,f,g]/\
 (4:Nat)=4/\ak (setCells h (U a) 0 [d,e,f,g]) λi=>af i ((U a).add 1) λC=>aZ 205
 #[C,n9,.int .i64 (ar (n9+1))] i λD E=>st E ((U a).add 1) D λj=>af j ((U a).add 2) λF=>aZ 205
 #[F,n9,.int .i64 (ar (n9+1))] j λG H=>st H ((U a).add 2) G λI=>c6 I a w1 Q))
def I6.pD:aQ:=(.s .r (.s .r (.s (.s (.cV [.r,.r,.r,.r,.split 3,.r,.r,.r,.r,.pure 2]) (.c (.s .r .l) .l)) (.s .r a3))))
def I7.rl(t:ao ab)(ic:Y)(r:ah)(s:Y)(u:Y)(v:Y)(w:J)(Q:aa->J->Prop):Prop:=ak (w.alloc (.cells #[r,s,u,v] 202)) λw1=>ak (w1.alloc (.cells #[(0:Int)] 34)) λag=>ak (ag.drew) λc=>∃g:Nat->Prop,∃
 a5:ab,t=some a5/\¬g (a5.add 1).block/\∃h:ao ab,c.cell? (a5.add 1)=some (h)/\∃dE:ab,t=some dE/\¬g (dE.add 4).block/\r1 c (dE.add 4) λn8=>ay 148 #[h] c λn11 d
 =>ad g c d/\ai (decide (n11<(ar ((ar (2*n8))+3)))) (st d (U w1) (2:Int) λi=>r1 i (U w1) λn13=>Q n13 i) (ak (d.alloc (.cells #[t,(),()] 297))
 λa=>ak (a.alloc (.cells #[.pointer none] 295)) λx=>st x (U a) (.pointer (some (U d))) λb=>∃j:ao ab,b.cell? (U a)=some (j)/\a7 b (U w) λy=>af b (Addr.add
 (U w) 1) λz=>af b ((U w).add 2) λA=>af b ((U w).add 3) λB=>po 208 #[j,ic,.agg #[y,z,A,B]] b λn24 n25 n26 C=>st C (U w1) n26 λe=>r1 e (U w1) λn28=>ai (n28 !=0) (r1 e (U w1) λn29=>st e (U w1) n29 λD=>pg aj
 206 #[.pointer (some (U w1)),.pointer (some (U a))] D λk=>r1 k (U w1) λn32=>Q n32 k) (ak (e.drew) λf=>¬False/\∃l:ao ab,f.cell? (U a)=some (l)/\¬
 False/\∃m:ao ab,f.cell? (U a)=some (m)/\∃n:ab,m=some n/\¬False/\af f (n.add 2) λE=>aR 207 #[l,E] f λF=>∃o:ab,
 t=some o/\st F (o.add 3) n24 λG=>∃p:ab,t=some p/\st G (p.add 4) n25 λH=>st H (U w1) (0:Int) λI=>pg aj 206 #[.pointer (some (U w1)),
 .pointer (some (U a))] I λq=>r1 q (U w1) λK=>Q K q))
def I6.rl:aQ:=(.s .r (.s (.s (.cd 11 true ⟨[0,1,2,4,8,0,32,64,128,256,512,1040],[0,1,2,4,8,0,32,64,128,256,512,1040]⟩ [1024,2048,4096,8192,16384,32768,65536,131072,262144,524288,1048576,
 2097152] [1,1024,2048,4096,8192,1,32768,65536,131072,262144,524288,1064960] (.t 0 (.t 1 (.t 2 (.t 3 (.t 5 (.t 6 (.t 7 (.t 8 (.t 9 (.t 10 (.bK 4 (.tail [.r]))))))))))))) (.c (.s .r .l) .l)) (.s .r (.s .l (.s .r (.s a1 (.s (.cd 5
 false ⟨[0,0,2,4,8,17],[0,0,2,4,8,17]⟩ [137438953472,274877906944,549755813888,1099511627776,2199023255552,4398046511104] [128,128,274877906944,549755813888,1099511627776,2336462209024] (.t 0 (.t 1 (.t 2 (.t 3 (.t 4
 (.tail [.r]))))))) (.s .r (.s .r .l)))))))))
theorem I7.En(t:ao ab)(ic:Y)(a:ah)(b:Y)(c:Y)(d:Y)(w:J)(Q:aa->J->Prop):I7.rl t ic a b c d w Q=wV aj tk I6.rl Tryz.f150 [t,ic,.agg #[a,b,c,d]] w Q:=by kernel_rfl
theorem I7.Eo(t:ao ab)(ic:Y)(a:ah)(b:Y)(c:Y)(d:Y)(w:J)(Q:aa->J->Prop)(h:I7.rl t ic a b c d w Q):Calls aj 150 #[t,ic,.agg #[a,b,c,d]] w λe w1=>∃v,e=.returned v/\Q v w1:=
 D4 w4 func150 (by kernel_rfl) (Eq.mp (I7.En t ic a b c d w Q) h)
def I7.pE(B:ah)(C:Y)(D:Y)(E:Y)(key:Y)(val:Y)(w:J)(Q:aa->J->Prop):Prop:=ak (w.alloc (.cells #[B,C,D,E] 202)) λw1=>ak (w1.alloc cl) λag=>a7 ag (U w) λF=>bo (λG:ah->J->Prop=>pr F G ag w) (λ(H:ah) m=>bo (λn:ah->J
 ->Prop=>ai H (n true m) (aF 209 #[key] m λI K=>n (!I) K)) (λ(L:ah) c=>ai (L||(decide ((val.len:Int)>24))) (bx c (U w1) [false,(),
 (),()]/\(4:Nat)=4/\ak (setCells c (U w1) 0 [false,(),(),()]) λM=>iT M w1 Q) (a7 c (U w) λN=>af c ((U w).add 1) λO=>af c
 ((U w).add 2) λP=>af c ((U w).add 3) λR=>gu 204 #[.agg #[N,O,P,R]] c λo p q r b=>ak (b.alloc
 cl) λs=>bx s (U b) [o,p,q,r]/\(4:Nat)=4/\ak (setCells s (U b) 0 [o,p,q,r]) λd=>a7 d (U w) λS=>af d ((U w).add 1) λT=>af d ((U w).add 2) λV=>af d ((U w).add 3) λW=>gX 198 #[.agg #[S,T,V,W],key] d λe X t=>ai X (ak (t.drew) λh=>∃u:Nat->Prop,¬u ((U b).add 2).block/\af h
 ((U b).add 2) λv=>aZ 135 #[val] h λZ x=>ad u h x/\∃y:ab,v.a=some y/\aK e v.len/\st x (y.add (e.toNat*1)) Z λac=>c6 ac b w1 Q) (ak (t.drew) λi=>∃j:Nat->Prop,¬j ((U b).add 1).block/\af i ((U b).add 1) λae=>aZ 135 #[key] i λ
 aj f=>ad j i f/\ak (f.alloc (.cells #[aj] 48)) λz=>ad j f z/\aZ 210 #[ae,e,.slice (some (U f)) 1 1]
 z λal am=>st am ((U b).add 1) al λan=>ak (an.drew) λk=>∃l:Nat->Prop,¬l ((U b).add 2).block/\af k ((U b).add 2) λao=>aZ
 135 #[val] k λap g=>ad l k g/\ak (g.alloc (.cells #[ap] 48)) λA=>ad l g A/\aZ 210 #[ao,e,.slice (some (U g)) 1 1] A λaq ar=>st ar ((U b).add 2) aq λau=>c6 au b w1 Q))))
def I6.pE:aQ:=(.s .r (.s (.s (.cV [.r,.r,.r,.r,.split 3,.r,.r,.r,.r,.split 3,.r,.r,.r,.r,.pure 3]) (.c (.s .r .l) .l)) (.s .r (.s .r (.s (.s .r (.c (.s (.cd 5 true ⟨[0,1,0,0,8,31,63],[0,1,0,0,8,6,48]⟩
 [549755813888,1099511627776,2199023255552,4398046511104,8796093022208,17592186044416,0] [256,549755813888,512,4,4398046511104,3298534883328,26388279066624] (.t 0 (.t 1 (.t 2 (.t 3 (.bK 4 (.tail [.r,.r]))))))) (.s .r .l)) .l))
 (.s (.cd 6 true ⟨[0,1,0,0,8,16,54,127,255],[0,1,0,0,8,16,38,0,192]⟩ [70368744177664,140737488355328,281474976710656,562949953421312,1125899906842624,2251799813685248,4503599627370496,9007199254740992,0] [256,
 70368744177664,512,2,562949953421312,1125899906842624,2674012278751232,256,13510798882111488] (.t 0 (.t 1 (.t 2 (.t 3 (.bK 4 (.bK 5 (.tail [.r,.r,.r])))))))) (.s (.cd 6 true ⟨[0,1,0,0,8,16,54,127,255],[0,1,0,0,8,
 16,38,0,192]⟩ [18014398509481984,36028797018963968,72057594037927936,144115188075855872,288230376151711744,576460752303423488,1152921504606846976,2305843009213693952,0] [256,18014398509481984,512,4,144115188075855872,
 288230376151711744,684547143360315392,256,3458764513820540928] (.t 0 (.t 1 (.t 2 (.t 3 (.bK 4 (.bK 5 (.tail [.r,.r,.r])))))))) (.s .r .l))))))))
def I7.uy(t:ao ab)(w:J)(Q:aa->J->Prop):Prop:=ai (Option.isNone t) (Q (.tuple #[(),(0:Int),(1:Int)]) w) (ak (w.alloc (.cells #[t,(),(0:Int)]
 303)) λw1=>bo (λbO:J->Prop=>∃a3:ab,t=some a3/\r1 w1 (a3.add 4) λf=>ai (decide (f>0)) (ak (w1.drew) λa=>∃c3:ab,t=some c3/\¬False/\r1 a (c3.add 3) λn7=>∃c4:ab,t=some
 c4/\¬False/\r1 a (c4.add 4) λn9=>ay 211 #[.pointer (some (U w)),n7,n9,(),()] a λn12 c=>ai (n12 !=0) (Q (.tuple #[(),(0:Int),n12]) c) (bO c)) (bO w1)) (λd=>∃e3:ab,(some (U w):ao ab)=some e3/\af d (e3.add 1) λg=>aR 153 #[g] d λh=>ak (h.drew) λb=>∃gZ:ab,
 (some (U w):ao ab)=some gZ/\¬False/\af b (gZ.add 1) λi=>∃e:ab,(some (U w):ao ab)=some e/\¬False/\r1 b (e.add 2) λn22=>Q (.tuple #[i,n22,(0:Int)]) b))
def I6.uy:aQ:=(.s .r (.s a1 (.s .r (.s (.ey [] [5] (.s .r (.c (.s (.cd 9 false ⟨[0,0,2,4,8,0,32,64,128,273,1023],[0,0,2,4,8,0,32,64,128,273,512]⟩ [131072,262144,524288,1048576,2097152,4194304,
 8388608,16777216,33554432,67108864,64] [32,1,262144,524288,1048576,1,4194304,8388608,16777216,35782656,67108864] (.t 0 (.t 1 (.t 2 (.t 3 (.t 4 (.t 5 (.t 6 (.t 7 (.t 8 (.tail [.r,.r]))))))))))) a1) .l))) (.s .r (.s (.cd 9
 false ⟨[0,1,2,4,0,16,32,64,15,511,1023],[0,1,2,4,0,16,32,64,8,128,0]⟩ [34359738368,68719476736,137438953472,274877906944,549755813888,1099511627776,2199023255552,4398046511104,4,8,16] [32,34359738368,
 68719476736,137438953472,32,549755813888,1099511627776,2199023255552,274877906944,4398046511104,0] (.t 0 (.t 1 (.t 2 (.t 3 (.t 4 (.t 5 (.t 6 (.t 7 (.t 8 (.tail [.r,.r]))))))))))) .l))))))
def I7.rm(s:ao ab)(w:J)(Q:aa->J->Prop):Prop:=ai (Option.isNone s) (Q () w) (∃a1:ab,s=some a1/\r1 w a1 λbq=>∃ (c:Y->Int->J->Prop) (d:Y->Int->J->
 Nat),c ⟨none,0,0⟩ 0 w/\∀ (a:Y) (n6:Int) (b:J),c a n6 b->ai (decide (n6<bq)) (bo (λe:Y->J->Prop=>∃a9:ab,s=some a9/\af b (a9.add 1) λi=>aF 214 #[i,n6] b λj f=>ai j (tn f n6 a e) (e a f)) (λ(g:Y) h=>c g (ar (n6+1)) h/\d g (ar (n6+1)) h<d a n6 b)) (Q a b))
def I6.rm:aQ:=(.s .r (.s a1 (.s .r (.s (.s .r (.bN (.loop [(3,.slice),(11,(.int .i64))] [0,10] (.s .r (.s (.c .l .l) (.s (.ey [(3,.slice)] [0,10,11] (.bN dE)) .r)))))) (.s .r .l)))))
theorem I7.Ep(s:ao ab)(w:J)(Q:aa->J->Prop)(h:I7.rm s w Q):aN aj 155 #[s] w Q:=okF (λw Q=>I7.rm s w Q) I6.rm func155 h
def I7.kV(b:Y)(i:Int)(size:Int)(w:J)(Q:aa->J->Prop):Prop:=ji 215 #[b,i,size] w λd j w1=>bo (λf:ah->J->Prop=>ai (!j) (f
 true w1) (aF 192 #[size] w1 λk l=>f (!k) l)) (λ(m:ah) g=>ai m (Q (.tuple #[.int .u64 0,false]) g) (∃ (e:Int->Int->J->Prop) (h:Int->Int->J->Nat),e 0 0 g/\∀ (n13:
 Int) (n14:Int) (c:J),e n13 n14 c->ai (decide (n14<(d.len:Int))) (∃fB:ab,d.a=some fB/\aK n14 d.len/\bY c (fB.add (n14.toNat*1)) λn17=>(0:Int)<=8/\e (mM .u64 (IntKind.wrap .u64 (n13*2^
 (min (Int.toNat 8) 64))) (IntKind.wrap .u64 n17)) (ar (n14+1)) c/\h (mM .u64 (IntKind.wrap .u64 (n13*2^(min (Int.toNat 8) 64))) (IntKind.wrap .u64 n17)) (ar (n14+1)) c<h n13 n14 c) (Q (.tuple #[.int .u64 n13,true]) c)))
def I6.kV:aQ:=(.s .r (.s .r (.s dP (.s .r (.s (.s .r (.bN (.loop [(10,(.int .u64)),(29,(.int .i64))] [27,28] a2))) (.s .r .l))))))
def I7.rn(s:ao ab)(w:J)(Q:aa->J->Prop):Prop:=ai (Option.isNone s) (Q (.tuple #[.int .i64 (-1),(1:Int)]) w) (∃a1:ab,s=some a1/\r1 w a1 λbq=>∃ (c:Int->J->Prop) (d:
 Int->J->Nat),c 0 w/\∀ (n5:Int) (a:J),c n5 a->ai (decide (n5<bq)) (aF 217 #[s,n5] a λe b=>ai (!e) (∃dZ:ab,s=some dZ/\af b (dZ.add 1) λf=>aR
 130 #[f,n5] b λg=>Q (.tuple #[n5,(0:Int)]) g) (c (ar (n5+1)) b/\d (ar (n5+1)) b<d n5 a)) (Q (.tuple #[.int .i64 (-1),(2:Int)]) a))
def I6.rn:aQ:=(.s .r (.s a1 (.s (.s .r (.bN (.loop [(11,(.int .i64))] [0,10] (.s .r (.s (.c .l .l) (.s (.bN (.s .r (.s .r c4))) .r)))))) (.s .r .l))))
theorem I7.Er(s:ao ab)(w:J)(Q:aa->J->Prop)(h:I7.rn s w Q):aN aj 160 #[s] w Q:=okF (λw Q=>I7.rn s w Q) I6.rn func160 h
def I7.rp(s:ao ab)(no:Int)(w:J)(Q:aa->J->Prop):Prop:=aF 218 #[s,no] w λb w1=>ai (!b) (Q (1:Int) w1) (∃a4:ab,s=some a4/\af w1 (a4.add 1)
 λc=>aF 214 #[c,no] w1 λd a=>ai (!d) (Q (6:Int) a) (∃a9:ab,s=some a9/\af a (a9.add 1) λe=>aR 219 #[e,no]
 a λf=>Q (0:Int) f))
def I6.rp:aQ:=(.s .r (.s (.bN eL) (.s .r (.s .r .l))))
theorem I7.Es(s:ao ab)(no:Int)(w:J)(Q:aa->J->Prop)(h:I7.rp s no w Q):aN aj 161 #[s,no] w Q:=okF (λw Q=>I7.rp s no w Q) I6.rp func161 h
def I7.uz(c:ao ab)(no:Int)(b:Y)(w:J)(Q:aa->J->Prop):Prop:=aF 220 #[c,no] w λl w1=>ai ((!l)||((b.len:Int) !=256)) (Q (1:Int) w1) (kT
 201 #[c,no] w1 λf g=>bo (λh:ao ab->J->Prop=>ai (Option.isNone f) (c9 221 #[c] g λd n11 a=>ai (n11 !=0) (Q n11 a) (∃eI:ab,d
 =some eI/\(∃u:aa,a.cell? eI=some u)/\a.frozen? eI=false/\ak (a.setCell eI true) λm=>∃e3:ab,d=some e3/\st m (e3.add 3) no λn=>h d n)) (h f g)) (λ(e:ao
 ab) o=>aZ 135 #[b] o λp q=>∃i:ab,e=some i/\st q (i.add 5) p λr=>∃j:ab,e=some j/\st r (j.add 1) true λs=>∃k:ab,e=some k/\st s (k.add 2) true λt=>Q (0:Int) t))
def I6.uz:aQ:=(.s .r (.s (.s (.cV [.r,.r,.r,.r,.r,.pure 3]) (.c (.s .r .l) .l)) (.s .r (.s (.ey [(7,.ptr)] [2] (.s .r (.c (.s .r (.s a1 (.s .r .r))) .l))) (.s .r (.s .r .l))))))
def I7.uA(c:ao ab)(w:J)(Q:aa->J->Prop):Prop:=ai (Option.isNone c) (Q (1:Int) w) (aZ 145 #[c] w λd w1=>∃ (e:Int->J->Prop) (g:Int->J->Nat),e
 0 w1/\∀ (n6:Int) (b:J),e n6 b->ai (decide (n6<(d.len:Int))) (∃c4:ab,d.a=some c4/\aK n6 d.len/\r1 b (c4.add (n6.toNat*1)) λn9=>kT 201 #[c,n9] b λh o=>ak
 (o.drew) λf=>∃e3:ab,c=some e3/\¬False/\∃i:ao ab,f.cell? e3=some (i)/\∃fB:ab,h=some fB/\¬False/\af f (fB.add 5) λp=>ay 75 #[i,n9,p] f λn20 j=>ai (n20 !=0) (Q n20 j) (∃k:ab,h=some k/\st j (k.add 1) false λl=>e (ar (n6+1)) l/\g (ar (n6+1)) l<g n6 b)) (∃m:ab,c
 =some m/\∃n:ao ab,b.cell? m=some (n)/\ay 76 #[n] b λn27 q=>Q n27 q))
def I6.uA:aQ:=(.s .r (.s a1 (.s (.s .r (.bN (.loop [(12,(.int .i64))] [0,10,11] (.s .r (.s (.c .l .l) (.s (.bN (.s .r (.s .r (.s (.s (.cd 9 false ⟨[0,1,2,4,0,0,32,64,128,280,1023],[0,1,2,4,0,0,32,64,
 128,280,512]⟩ [524288,1048576,2097152,4194304,8388608,16777216,33554432,67108864,134217728,268435456,64] [1,524288,1048576,2097152,16,32,16777216,33554432,67108864,146800640,268435456] (.t 0 (.t 1 (.t 2 (.t 3 (.t 4 (.t
 5 (.t 6 (.t 7 (.t 8 (.tail [.r,.r]))))))))))) a1) .r)))) .r)))))) (.s .r .l))))
def I7.rq(t:ao ab)(gen:Int)(w:J)(Q:aa->J->Prop):Prop:=ai (!(Option.isNone t)) (∃a1:ab,t=some a1/\st w (a1.add 2) (.int .u64 gen) λag=>Q (.tuple #[]) ag) (Q (.tuple #[]) w)
def I6.rq:aQ:=(.s .r (.c .r .l))
theorem I7.Et(t:ao ab)(gen:Int)(w:J)(Q:aa->J->Prop)(h:I7.rq t gen w Q):aN aj 164 #[t,.int .u64 gen] w Q:=okF (λw Q=>I7.rq t gen w Q) I6.rq func164 h
def I7.uB(c:Int)(w:J)(Q:aa->J->Prop):Prop:=Q (.bool (c !=0)) w
def I6.uB:aQ:=(.s .r (.s .r .l))
theorem I7.Eu(c:Int)(w:J)(Q:aa->J->Prop)(h:I7.uB c w Q):aN aj 170 #[.int .u8 c] w Q:=okF (λw Q=>I7.uB c w Q) I6.uB func170 h
def I7.pF(no:Int)(b:Y)(w:J)(Q:aa->J->Prop):Prop:=ak (w.alloc gv) λw1=>ly 172 #[no,b] w1 λn n5 o n7 ag=>ak (ag.alloc z3) λp=>bx p
 (U ag) [n,.int .u64 n5,o]/\(3:Nat)=3/\ak (setCells p (U ag) 0 [n,.int .u64 n5,o]) λc=>ai (n7 !=0) (r1 c (U w) λn10=>r1 c ((U w).add 1)
 λn11=>r1 c ((U w).add 2) λn12=>bl c ((U w).add 3) λn13=>bl c ((U w).add 4) λn14=>r1 c ((U w).add 5) λn15=>bx c (U w) [n10,n11,n12,.int .u64 n13,
 .int .u64 n14,n15]/\(6:Nat)=6/\ak (setCells c (U w) 0 [n10,n11,n12,.int .u64 n13,.int .u64 n14,n15]) λf=>r1 f (U w) λn17=>r1 f ((U w).add 1) λn18=>
 r1 f ((U w).add 2) λn19=>bl f ((U w).add 3) λn20=>bl f ((U w).add 4) λn21=>r1 f ((U w).add 5) λn22=>Q (.tuple #[.agg #[n17,n18,n19,.int .u64 n20,.int .u64
 n21,n22],(0:Int),.int .u64 0,n7]) f) (r1 c (U ag) λn23=>bo (λq:ah->J->Prop=>ai (n23 !=3) (q true c) (af c ((U ag).add 2) λC=>q ((C.len:Int) !=33) c)) (λ(D:
 ah) a=>ai D (r1 a (U w) λn28=>r1 a ((U w).add 1) λn29=>r1 a ((U w).add 2) λn30=>bl a ((U w).add 3) λn31=>bl a ((U w).add 4) λn32=>r1 a ((U w).add 5) λn33=>
 bx a (U w) [n28,n29,n30,.int .u64 n31,.int .u64 n32,n33]/\(6:Nat)=6/\ak (setCells a (U w) 0 [n28,n29,n30,.int .u64 n31,.int .u64 n32,n33]) λE=>w9 E w Q) (af a ((U ag).add 2) λF=>ak (a.alloc (.cells #[F,(0:Int)] 316)) λG=>gg 226 #[.pointer (some (U a)),(4:Int)] G λ
 H I=>gg 226 #[.pointer (some (U a)),(1:Int)] I λK L=>gg 226 #[.pointer (some (U a)),(4:Int)] L λM N=>st N (U w) (.int .i64 (ar H)) λO=>st O
 ((U w).add 1) (.int .i64 (ar K)) λP=>st P ((U w).add 2) (.int .i64 (ar M)) λR=>gg 226 #[.pointer (some (U a)),(4:Int)] R λh S=>gg 226 #[.pointer (some (U
 a)),(8:Int)] S λT V=>gg 226 #[.pointer (some (U a)),(8:Int)] V λW X=>gg 226 #[.pointer (some (U a)),(4:Int)] X λZ ac=>st ac ((U w).add 3) (.int
 .u64 T) λae=>st ae ((U w).add 4) (.int .u64 W) λaj=>st aj ((U w).add 5) (.int .i64 (ar Z)) λg=>r1 g (U w) λal=>r1 g ((U w).add 1) λam=>bo (λr:ah->J->Prop=>ai
 (!((al==0)==(am==0))) (r true g) (r1 g ((U w).add 1) λan=>r (decide (an>12)) g)) (λ(ao:ah) i=>bo (λs:ah->J->Prop=>ai ao (s true i) (r1 i (U w) λap=>s (decide (ap
 >=(ar h))) i)) (λ(aq:ah) j=>bo (λt:ah->J->Prop=>ai aq (t true j) (r1 j ((U w).add 2) λau=>t (decide (au>=(ar h))) j)) (λ(av:ah) k=>bo (λu:ah->J->Prop=>
 ai av (u true k) (r1 k ((U w).add 2) λaw=>u (decide (aw<2)) k)) (λ(ax:ah) l=>ai (ax||(decide (((ar h):Int)>1600))) (bx l (U w) [(0:Int),(0:Int),(0:Int),.int .u64 0,.int
 .u64 0,(0:Int)]/\(6:Nat)=6/\ak (setCells l (U w) 0 [(0:Int),(0:Int),(0:Int),.int .u64 0,.int .u64 0,(0:Int)]) λay=>w9 ay w Q) (ak (l.drew) λd=>∃m:Nat->Prop,¬m ((U w):
 ab).block/\r1 d (U w) λv=>r1 d ((U w).add 1) λx=>r1 d ((U w).add 2) λy=>bl d ((U w).add 3) λz=>bl d ((U w).add 4) λA=>r1 d ((U w).add 5) λB=>¬m
 ((U ag).add 1).block/\bl d ((U ag).add 1) λaz=>bx d (U w) [v,x,y,.int .u64 z,.int .u64 A,B]/\(6:Nat)=6/\ak (setCells d (U w) 0 [v,x,y,.int .u64 z,.int .u64 A,B]) λe=>ad m d e/\r1 e (U w) λaA=>r1 e ((U w).add 1) λaB=>r1 e ((U w).add 2) λaC=>bl e (Addr.add
 (U w) 3) λaD=>bl e ((U w).add 4) λaE=>r1 e ((U w).add 5) λaF=>Q (.tuple #[.agg #[aA,aB,aC,.int .u64 aD,.int .u64 aE,aF],.int .i64 (ar h),
 .int .u64 az,(0:Int)]) e))))))))
def I6.pF:aQ:=(.s .r (.s .r (.s a1 (.s dZ (.s .r (.s .r (.s .r (.s .r (.s (.s (.cV [.r,.r,.r,.r,.r,.r,.r,.r,.split 3,.r,.r,.r,.r,.split 4,.r,.r,.r,.r,.r,.split 4,.r,.r,.r,.r,.r,.split 3,.r,.r,
 .r,.r,.pure 2]) (.c (.s .r .l) .l)) (.s (.cd 6 true ⟨[0,0,0,4,1,19,63,127],[0,0,0,4,1,2,8,0]⟩ [9903520314283042199192993792,19807040628566084398385987584,39614081257132168796771975168,79228162514264337593543950336,0,
 32,64,128] [16,32,256,39614081257132168796771975168,9903520314283042199192993808,19807040628566084398385987584,79228162514264337593543950336,0] (.t 0 (.t 1 (.t 2 (.t 3 (.bK 4 (.t 5 (.tail [.r,.r])))))))) .l))))))))))
def I7.mW(no:Int)(b:Y)(w:J)(Q:aa->J->Prop):Prop:=ak (w.alloc z3) λw1=>ai ((b.len:Int) !=256) (bx w1 (U w) [(0:Int),.int .u64 0,()]/\(3:Nat)=3/\ak (setCells w1 (U w)
 0 [(0:Int),.int .u64 0,()]) λag=>r1 ag (U w) λz=>bl ag ((U w).add 1) λA=>af ag ((U w).add 2) λB=>Q (.tuple #[.agg #[z,.int .u64 A,B],(9:Int)])
 ag) (((0:Int)<=4/\4<=(b.cap:Int))/\∃n:ByteArray,∃c:J,Sem.run aj (convert 48 9 (.slice (aM b.a 1 0 b.cap) ((Int.toNat 4)-0) (b.cap-0))) w1=.ok (.string n) c/\ai
 (!(ByteArray.toList n==ByteArray.toList (ByteArray.mk #[83,84,78,67]))) (bx c (U w) [(0:Int),.int .u64 0,()]/\(3:Nat)=3/\ak (setCells c (U w) 0 [(0:Int),.int .u64 0,()]) λC=>
 xd C w Q) (∃eI:ab,b.a=some eI/\aK 4 b.len/\bY c (eI.add (Int.toNat 4*1)) λn13=>ai (n13 !=1) (bx c (U w) [(0:Int),.int .u64 0,()]/\(3:Nat)=3/\ak (setCells c (U w) 0 [(0:Int),.int
 .u64 0,()]) λd=>r1 d (U w) λn15=>bl d ((U w).add 1) λn16=>af d ((U w).add 2) λD=>Q (.tuple #[.agg #[n15,.int .u64 n16,D],(12:Int)]) d)
 (gF 134 #[b] c λn20 E=>gg 227 #[b,(20:Int),(24:Int)] E λn23 h=>ai (((IntKind.wrap .u64 n20):Int) !=n23) (bx h (U w) [(0:Int),.int .u64
 0,()]/\(3:Nat)=3/\ak (setCells h (U w) 0 [(0:Int),.int .u64 0,()]) λe=>r1 e (U w) λn25=>bl e ((U w).add 1) λn26=>af e ((U w).add 2) λF=>Q (.tuple #[.agg
 #[n25,.int .u64 n26,F],(5:Int)]) e) (gg 227 #[b,(6:Int),(8:Int)] h λn30 o=>∃p:ab,b.a=some p/\aK 5 b.len/\bY o (p.add
 (Int.toNat 5*1)) λn32=>aF 133 #[.int .i64 (ar n32)] o λG q=>bo (λr:ah->J->Prop=>ai ((!G)||(decide (((ar n30):Int)>232))) (r true q) (((0:Int)<=(ar (24+(ar n30)))/\(ar (24+(ar
 n30)))<=(b.len:Int))/\aF 228 #[.slice (aM b.a 1 ((ar (24+(ar n30))).toNat) b.cap) (b.len-((ar (24+(ar n30))).toNat)) (b.cap-((ar (24+(ar n30))).toNat))] q λH I=>r (!H) I)) (λ(K:ah)
 i=>ai K (bx i (U w) [(0:Int),.int .u64 0,()]/\(3:Nat)=3/\ak (setCells i (U w) 0 [(0:Int),.int .u64 0,()]) λL=>xd L w Q) (aF 132 #[no] i λM s=>
 bo (λt:ah->J->Prop=>ai (!M) (t true s) (gg 227 #[b,(8:Int),(12:Int)] s λN O=>t (N !=(IntKind.wrap .u64 no)) O)) (λ(P:ah) j=>ai P (bx j
 (U w) [(0:Int),.int .u64 0,()]/\(3:Nat)=3/\ak (setCells j (U w) 0 [(0:Int),.int .u64 0,()]) λf=>r1 f (U w) λR=>bl f ((U w).add 1) λS=>af f ((U w).add 2)
 λT=>Q (.tuple #[.agg #[R,.int .u64 S,T],(1:Int)]) f) (ji 229 #[b,(24:Int),.int .i64 (ar n30)] j λu ac V=>ak (V.drew) λk=>∃v:
 Nat->Prop,∃l:ab,b.a=some l/\aK 5 b.len/\¬v (l.add (Int.toNat 5*1)).block/\bY k (l.add (Int.toNat 5*1)) λx=>gg 227 #[b,(12:Int),(20:Int)] k λy m=>ad
 v k m/\bx m (U w) [.int .i64 (ar x),.int .u64 y,u]/\(3:Nat)=3/\ak (setCells m (U w) 0 [.int .i64 (ar x),.int .u64 y,u]) λg=>r1 g (U w) λ
 W=>bl g ((U w).add 1) λX=>af g ((U w).add 2) λZ=>Q (.tuple #[.agg #[W,.int .u64 X,Z],(0:Int)]) g))))))))
def I6.mW:aQ:=(.s .r (.s (.bN (.s .r (.c (.s .r .l) (.s .r (.c (.s .r .l) eL))))) (.s .r (.s (.bN (.s (.cV [.r,.r,.r,.r,.r,.r,.r,.pure 2,.r,.r,.r,.split 6]) (.c (.s .r .l) (.s (.cV [.r,.r,.r,.r,.split 5]) (.c
 (.s .r .l) .l))))) (.s .r (.s (.cd 7 true ⟨[0,1,2,4,0,16,0,104,255,511],[0,1,2,4,0,16,0,104,128,0]⟩ [37778931862957161709568,75557863725914323419136,151115727451828646838272,302231454903657293676544,
 604462909807314587353088,1208925819614629174706176,2417851639229258349412352,4835703278458516698824704,0,32] [2,37778931862957161709568,75557863725914323419136,151115727451828646838272,2,604462909807314587353088,128,
 3929008913747544817795072,4835703278458516698824720,0] (.t 0 (.t 1 (.t 2 (.t 3 (.t 4 (.t 6 (.bK 5 (.tail [.r,.r,.r]))))))))) .l))))))
def I7.pG(b:Y)(n:Int)(w:J)(Q:aa->J->Prop):Prop:=aF 128 #[n] w λh w1=>ai (!h) (Q (.tuple #[.pointer none,(1:Int)]) w1) (ay 129 #[n] w1 λn6 c=>bo
 (λe:ah->J->Prop=>ai ((b.len:Int) !=n6) (e true c) ((8:Int)≠0/\bo (λf:ah->J->Prop=>ai (decide (((Int.tmod n 8):Int)>0)) (∃a9:ab,b.a=some a9/\((0:Int)<=(ar ((b.len:Int)-1))/\(ar
 ((b.len:Int)-1))<(b.len:Int))/\bY c (a9.add ((ar ((b.len:Int)-1)).toNat*1)) λn10=>(8:Int)≠0/\(0:Int)<=(Int.tmod n 8)/\f (decide (((Int.fdiv n10 (2^(min ((Int.tmod n 8).toNat) 8))):Int)>0)) c) (f
 false c)) (λ(i:ah) j=>e i j))) (λ(k:ah) g=>ai k (Q (.tuple #[.pointer none,(4:Int)]) g) (aZ 135 #[b] g λl d=>ak (d.alloc (.cells #[n,l,()] 218)) λm=>aR 131 #[.pointer (some (U d))] m λo=>Q (.tuple #[.pointer (some (U d)),(0:Int)]) o)))
def I6.pG:aQ:=(.s .r (.s (.bN (.s .r (.c (.s .r .l) (.s (.cV [.r,.r,.r,.r,.r,.r,.split 15,.r,.r,.r,.split 10]) (.c (.s .r .l) .l))))) a3))
def I7.uC(t:ao ab)(no:Int)(level:Int)(c:Y)(f:hE)(w:J)(Q:aa->J->Prop):Prop:=gY 196 #[.pointer t,.int .i64 no,.bool (level==1)] w λv d e g n7 w1=>ak
 (w1.alloc cl) λx=>bx x (U w1) [.bool v,.slice d.a d.len d.cap,.slice e.a e.len e.cap,.slice g.a g.len g.cap]/\(4:Nat)=4/\ak (setCells x (U w1) 0 [.bool v,.slice d.a d.len d.cap,.slice e.a e.len
 e.cap,.slice g.a g.len g.cap]) λh=>ai (n7 !=0) (Q (.tuple #[.bool false,.int .i64 n7]) h) (a7 h (U w1) λD=>af h (Addr.add (U w1) 1) λk=>af h (Addr.add (U w1) 2) λl=>af h (Addr.add (U w1) 3) λm
 =>ix aj f.f/\Calls aj f.f (f.pre++ #[.int .i64 no,.agg #[.bool D,.slice k.a k.len k.cap,.slice l.a l.len l.cap,.slice m.a m.len m.cap]]++f.cap) h λE n=>∃y:ah,E=.returned
 (.bool y)/\ai (!y) (Q (.tuple #[.bool false,.int .i64 0]) n) (ai (level==1) (Q (.tuple #[.bool true,.int .i64 0]) n) (ak (n.drew) λb=>∃o:Nat->Prop,¬o (Addr.add (U w1) 3).block/\af b (Addr.add (U w1) 3)
 λi=>¬o ((U w1):ab).block/\a7 b (U w1) λF=>af b (Addr.add (U w1) 1) λp=>af b (Addr.add (U w1) 2) λq=>af b (Addr.add (U w1) 3) λr=>ay 197 #[.agg #[.bool F,.slice p.a p.len
 p.cap,.slice q.a q.len q.cap,.slice r.a r.len r.cap],.slice c.a c.len c.cap] b λn26 z=>ad o b z/\((0:Int)<=n26/\n26<=(i.len:Int))/\∃ (s:Int->J->Prop) (A:Int->J->
 Nat),s 0 z/\∀ (n29:Int) (j:J),s n29 j->ai (decide (n29<(((i.len-(Int.toNat n26)):Nat):Int))) (∃B:ab,(aM i.a 1 (Int.toNat n26) i.cap)=some B/\((0:Int)<=n29/\n29<(((i.len-(Int.toNat
 n26)):Nat):Int))/\r1 j (B.add (Int.toNat n29*1)) λn32=>kS 174 #[.pointer t,.int .i64 n32,.int .i64 (ar (level-1)),.slice c.a c.len c.cap,.func (.func f.f) f.pre f.cap] j λC n36 u
 =>ai ((n36 !=0)||(!C)) (Q (.tuple #[.bool C,.int .i64 n36]) u) (s (ar (n29+1)) u/\A (ar (n29+1)) u<A n29 j)) (Q (.tuple #[.bool true,.int .i64 0]) j))))
def I6.uC:aQ:=(.s .r (.s .r (.s a1 (.s a1 (.s a1 (.s (.s (.cd 8 true ⟨[0,1,0,0,12,18,32,0],[0,1,0,0,12,18,32,0]⟩ [68719476736,137438953472,274877906944,549755813888,1099511627776,2199023255552,
 4398046511104,8796093022208] [4096,68719476736,4096,8,824633720832,1236950581248,2199023255552,0] (.t 0 (.t 1 (.t 2 (.t 3 (.t 7 (.bK 4 (.t 5 (.t 6 .fin))))))))) (.bN (.loop [(43,(.int .i64))] [0,2,3,4,41,42] (.s .r (.s (.c
 .l .l) (.s (.bN (.s .r (.s .r a5))) .r)))))) (.s .r .l)))))))
def I7.uD(ac:Int)(B:ah)(C:Y)(D:Y)(E:Y)(x:ab)(F:ab)(c:ab)(G:ab)(w:J)(Q:aa->J->Prop):Prop:=ak (w.alloc (.cells #[B,C,D,E] 202)) λw1=>af w1 ((U w).add 1) λs2=>∃ (i:Int->J->Prop) (n:Int->J->Nat),i 0 w1/\∀ (n5
 :Int) (b:J),i n5 b->ai (decide (n5<(s2.len:Int))) (∃dE:ab,s2.a=some dE/\aK n5 s2.len/\af b (dE.add (n5.toNat*1)) λj=>af b x λH=>bo (λo:ah->J->Prop=>ai (decide ((H.len:Int)>0))
 (af b x λI=>ay 176 #[j,I] b λn14 K=>o (decide (n14>=0)) K) (o false b)) (λ(L:ah) k=>bo (λp:ah->J->Prop=>ai L (a7 k (U
 w) λM=>p M k) (p false k)) (λ(N:ah) d=>ai N (Q false d) (bo (λq:J->Prop=>a7 d (U w) λO=>bo (λr:ah->J->Prop=>ai O (af d F λP=>ay 176
 #[j,P] d λn27 R=>r (decide (n27>=0)) R) (r false d)) (λ(S:ah) s=>ai S (ak (s.drew) λe=>∃g:Nat->Prop,¬g c.block/\af e c λT=>
 ¬g ((U w).add 2).block/\af e ((U w).add 2) λt=>∃l:ab,t.a=some l/\aK n5 t.len/\¬g (l.add (n5.toNat*1)).block/\af e (l.add (n5.toNat*1)) λV=>∃v:Array aa,(∀y:
 J,Sem.run aj (Instr.build 167 #[(0,j),(1,V)]) y=.ok (.agg v) y)/\∃z:Y,∃m:J,Sem.run aj (Instr.buildSlice 86 1 #[(0,.agg
 v)]) e=.ok z m/\ad g e m/\∃A:Y,∃h:J,Sem.run aj (Builtin.append_ #[86,86] 86 #[T,z]) m=.ok A h/\(∃u:aa,h.cell? c=some u)/\h.frozen? c=false/\ak (h.setCell c A) λW=>q W) (q s))) (λf=>af f c λX=>
 r1 f G λZ=>ai ((X.len:Int)==Z) (Q false f) (i (ar (n5+1)) f/\n (ar (n5+1)) f<n n5 b)))))) (Q true b)
def I6.uD:aQ:=(.s .r (.s (.s .r (.bN (.loop [(14,(.int .i64))] [2,3,4,5,7,12,13] (.s .r (.s (.c .l .l) (.s (.bN (.s .r (.s (.s (.cV [.r,.r,.r,.r,.split 4,.r,.r,.r,.r,.r,.split 2]) (.c (.s .r .l) .l)) (.s
 (.ey [] [2,3,4,5,7,12,13,14] (.s (.cV [.r,.r,.r,.split 4]) (.c (.cd 9 true ⟨[0,0,0,4,0,24,32,66,128,257,1023],[0,0,0,4,0,24,32,66,128,257,512]⟩ [1099511627776,2199023255552,4398046511104,8796093022208,
 17592186044416,35184372088832,70368744177664,140737488355328,281474976710656,562949953421312,0] [16,1024,128,4398046511104,512,26388279066624,35184372088832,72567767433216,140737488355328,282574488338432,562949953421328] (.t
 0 (.t 1 (.t 2 (.t 3 (.t 4 (.t 5 (.t 6 (.t 7 (.bK 8 (.tail [.r,.r]))))))))))) .l))) a1)))) .r)))))) (.s .r .l)))
def I7.ru(s:ao ab)(no:Int)(w:J)(Q:aa->J->Prop):Prop:=aF 218 #[s,no] w λb w1=>bo (λa:ah->J->Prop=>ai b (∃a5:ab,s=some a5/\af
 w1 (a5.add 1) λc=>aF 214 #[c,no] w1 λd e=>a d e) (a false w1)) (λ(f:ah) g=>Q f g)
def I6.ru:aQ:=(.s .r (.s (.cV [.r,.r,.r,.r,.split 6]) .l))
theorem I7.Ev(s:ao ab)(no:Int)(w:J)(Q:aa->J->Prop)(h:I7.ru s no w Q):aN aj 183 #[s,no] w Q:=okF (λw Q=>I7.ru s no w Q) I6.ru func183 h
def I7.uE(size:Int)(w:J)(Q:aa->J->Prop):Prop:=Q (.bool ((decide (size>=1))&&(decide (size<=8)))) w
def I6.uE:aQ:=(.s .r a4)
theorem I7.Ar(size:Int)(w:J)(Q:aa->J->Prop)(h:I7.uE size w Q):aN aj 192 #[size] w Q:=okF (λw Q=>I7.uE size w Q) I6.uE func192 h
end Go.Proofs.YtkdhdlfonmgheaaGreat
