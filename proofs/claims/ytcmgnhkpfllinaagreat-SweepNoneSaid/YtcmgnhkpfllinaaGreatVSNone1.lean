/- Printed by gen.py: functions of the program, each as what must be shown of it. -/
import Derived.Test.YtcmgnhkpfllinaaGreatProg
import Derived.Test.YtcmgnhkpfllinaaGreatKSNone2
namespace aP
abbrev aL.s:=aL.seq
abbrev aL.l:=aL.leaf
abbrev aL.c:=aL.cond
abbrev aL.r:=aL.oN []
abbrev aF.t:=aF.take
abbrev jN.r:=jN.run
open Go
def iP:O Nat->O Nat
 | []=> []
 |x::l=>bif Nat.blt x 500 then (bif Nat.beq x 0 then 0 else 2^(x-1))::iP l else bif Nat.blt x 1000 then (2^(x-500)-1)::iP l else bif Nat.blt x 1000000 then (List.range' (x%1000) (x/1000)).map (λy=>2^y)++iP l else bif Nat.blt x 1000000000 then (2^(x/1000-1000)+2^(x%1000))::iP l else bif Nat.blt x 1000000000000 then (2^(x/1000000-1000)+2^(x/1000%1000)+2^(x%1000))::iP l else (x-1000000000000)::iP l
def aF.z:Nat->Nat->aF->aF
 |0,_,x=>x
 |n+1,a,x=>.take a (aF.z n (a+1) x)
def aF.e:aF:=.tail [.run]
def aL.d(n:Nat)(b:al)(A B C D:O Nat)(t:aF):aL:=.sw n b ⟨iP A,iP B⟩ (iP C) (iP D) t
def aL.e(n:Nat)(b:al)(A C D:O Nat)(t:aF):aL:=.sw n b ⟨iP A,iP A⟩ (iP C) (iP D) t
def aL.q(t:aL):aL:=.seq (.oN []) t
def sI:O Nat->O jN
 | []=> []
 |x::l=>bif Nat.beq (x%3) 0 then List.replicate (x/3) .run++sI l else bif Nat.beq (x%3) 1 then .split (x/3)::sI l else .pure (x/3)::sI l
def aL.z(l:O Nat):aL:=.oN (sI l)
end aP
namespace Go.Proofs.YtcmgnhkpfllinaaGreat
noncomputable abbrev aj:=Tryz.prog
open Go aP Go.Proofs.Tryz
namespace F
end F
namespace C_
end C_
namespace G
end G
abbrev aO:dt:=.one (.one .fn)
abbrev eP:dt:=.one (.one .agg)
abbrev fH:dt:=.one (.one .ptr)
abbrev iu:dt:=.one (.one .slice)
abbrev mi:dt:=.eN [(.one .ptr),(.one (.int .i64))]
abbrev mj:dt:=.one (.flat [.ptr,.slice,(.int .i64)])
abbrev oX:dt:=.eN [(.one .slice),(.one (.int .i64))]
abbrev sJ:dt:=.one (.one (.int .i64))
abbrev sK:dt:=.one (.one (.int .u8))
abbrev sL:dt:=.one (.one (.int .u64))
abbrev sM:dt:=.one (.flat [.slice,.slice])
abbrev sN:dt:=.one (.flat [.slice,(.int .i64)])
def Da:O dt:=[(.eN []),aO,sJ,sJ,(.one (.one .bool)),sK,sK,(.one (.flat [(.int .i64),(.int .i64),.bool,(.int .u8)])),(.one (.flat [(.int .i64),(.int .i64),.bool,(.int .u8)])),(.one (.one .str)),(.one (.one .str)),(.one (.one .str)),sL,(.one (.flat [.str,(.int .u64)])),(.one (.flat [.str,(.int .u64)])),fH,fH,fH,(.one (.flat [.ptr])),(.one (.flat [.ptr])),(.one (.one .any)),(.one (.one (.int .i32))),iu,sL,(.one (.flat [(.int .i64),(.int .u64),.bool])),(.one (.flat [(.int .i64),(.int .u64),.bool])),fH,fH,(.eN [(.one .ptr),(.one .ptr),(.one .bool)]),aO,sL,fH,sJ,mi,aO,(.one (.flat [(.int .i64),.slice])),(.one (.flat [(.int .i64),.slice])),(.eN [(.one (.int .i64)),(.one (.int .i64))]),aO,iu,aO,aO,aO,iu,fH,mj,mj,aO,aO,aO,aO,eP,eP,eP,eP,eP,eP,eP,(.eN [(.one .agg),(.one .bool),(.one (.int .i64))]),aO,iu,(.one (.flat [(.int .i64),(.int .i64),(.int .u8)])),(.one (.flat [(.int .i64),(.int .i64),(.int .u8)])),(.one (.flat [(.int .i64),(.int .i64),(.int .u64)])),(.one (.flat [(.int .i64),(.int .i64),(.int .u64)])),aO,fH,mi,aO,fH,mi,aO,iu,(.one (.flat [(.int .i64),(.int .i64),(.int .i64),.slice,.slice,.slice])),(.one (.flat [(.int .i64),(.int .i64),(.int .i64),.slice,.slice,.slice])),aO,(.eN [(.one .bool),(.one (.int .i64))]),aO,aO,aO,aO,aO,eP,eP,eP,eP,(.eN [(.one .agg),(.one (.int .i64))]),aO,aO,(.one (.flat [(.int .i64),(.int .i64),(.int .i64),(.int .u64),(.int .u64),(.int .i64)])),(.one (.flat [(.int .i64),(.int .i64),(.int .i64),(.int .u64),(.int .u64),(.int .i64)])),aO,aO,iu,aO,aO,aO,iu,(.eN [(.one .ptr),(.one .ptr),(.one .bool)]),aO,eP,eP,mi,aO,aO,aO,aO,aO,aO,mj,mj,(.eN [(.one .slice),(.one (.int .i64)),(.one (.int .i64))]),aO,aO,oX,aO,(.eN [(.one .slice),(.one .bool)]),aO,(.eN [(.one .slice),(.one .bool),(.one (.int .i64))]),(.one (.flat [.ptr,(.int .i64)])),(.one (.flat [.ptr,(.int .i64)])),aO,(.eN [(.one .agg),(.one .bool)]),aO,iu,(.one (.one .map)),eP,eP,eP,eP,aO,fH,mi,aO,oX,aO,(.one (.flat [(.int .i64),(.int .u64),.slice])),(.one (.flat [(.int .i64),(.int .u64),.slice])),eP,aO,aO,aO,aO,fH,fH,eP,eP,aO,aO,aO,eP,eP,(.eN [(.flat [(.int .i64),(.int .i64),(.int .i64),(.int .u64),(.int .u64),(.int .i64)]),(.one (.int .u64)),(.one (.int .i64))]),aO,aO,fH,(.one (.one .map)),eP,eP,aO,(.eN [(.flat [(.int .i64),(.int .i64),(.int .i64),(.int .u64),(.int .u64),(.int .i64)]),(.one (.int .u64)),(.one (.int .i64))]),aO,aO,aO,aO,aO,(.eN [(.flat [(.int .i64),(.int .u64),.slice]),(.one (.int .i64))]),aO,(.one (.flat [.bool,.slice,.slice,.slice])),(.one (.flat [.bool,.slice,.slice,.slice])),(.eN [(.flat [.bool,.slice,.slice,.slice]),(.one .bool)]),aO,fH,aO,iu,sM,sM,aO,aO,aO,aO,aO,aO,aO,oX,aO,aO,aO,aO,aO,aO,aO,aO,iu,oX,aO,aO,sM,sM,aO,(.eN [(.one (.int .u64)),(.one .bool)]),aO,(.eN [(.one .agg),(.one .bool)]),aO,aO,fH,iu,aO,(.one (.flat [(.int .i64),.slice,.slice])),(.one (.flat [(.int .i64),.slice,.slice])),aO,(.one (.one (.int .u32))),aO,aO,aO,mi,aO,mi,aO,iu,oX,aO,eP,eP,(.eN [(.one (.int .i64)),(.one .bool)]),aO,(.eN [(.one (.int .i64)),(.one (.int .i64))]),aO,aO,aO,aO,aO,aO,aO,aO,aO,(.eN [(.flat [(.int .i64),(.int .i64),(.int .i64),(.int .u64),(.int .u64),(.int .i64)]),(.one (.int .i64)),(.one (.int .u64)),(.one (.int .i64))]),aO,aO,(.eN [(.one .slice),(.one (.int .i64)),(.one (.int .i64))]),aO,aO,(.one (.flat [.ptr,.ptr,(.int .u64),(.int .i64),(.int .i64)])),(.one (.flat [.ptr,.ptr,(.int .u64),(.int .i64),(.int .i64)])),aO,aO,aO,(.one (.flat [(.int .i64),(.int .i64)])),(.one (.flat [(.int .i64),(.int .i64)])),iu,aO,aO,aO,aO,aO,aO,aO,aO,(.eN [(.one .agg),(.one .bool)]),aO,aO,aO,aO,aO,aO,aO,iu,mj,mj,(.eN [(.flat [.bool,.slice,.slice,.slice]),(.one (.int .i64))]),aO,aO,aO,aO,(.one (.flat [.bool,.bool,.bool,(.int .i64),(.int .i64),.slice])),(.one (.flat [.bool,.bool,.bool,(.int .i64),(.int .i64),.slice])),fH,aO,aO,aO,aO,aO,fH,(.one (.flat [.ptr,.slice,.slice])),(.one (.flat [.ptr,.slice,.slice])),(.eN [(.one (.int .i64)),(.one (.int .i64)),(.one (.int .i64))]),aO,aO,fH,sN,sN,aO,fH,mj,mj,aO,aO,aO,aO,mi,aO,aO,aO,aO,aO,(.eN [(.one .slice),(.one .slice)]),aO,aO,aO,aO,aO,aO,aO,aO,aO,aO,fH,iu,(.eN [(.one .slice),(.one (.int .i64)),(.one (.int .i64)),(.one (.int .i64))]),aO,aO,aO,oX,aO,sN,sN,aO,aO,aO,sJ,(.eN [(.one (.int .i64)),(.one (.int .i64))]),aO,aO,aO,aO,aO,aO,aO,aO,aO,fH,(.one (.flat [.slice,.bool])),(.one (.flat [.slice,.bool])),aO,aO,aO,aO,aO,aO,aO,aO,sL,aO,aO,aO,fH,aO,aO,eP,fH,aO,aO,(.eN [(.flat [.bool,.slice,.slice,.slice]),(.one .slice),(.flat [.bool,.slice,.slice,.slice]),(.one .bool)]),aO,aO,aO,(.one (.flat [.ptr,.ptr,.ptr,.str])),(.one (.flat [.ptr,.ptr,.ptr,.str])),eP,eP,eP,sK,sK,aO,fH,(.one (.one (.int .i32))),(.one (.one (.int .i32))),eP,eP,fH]
def tk:TypeId->dt:=λt=>Da.getD t (.one (.one .any))
theorem v_:Tryz.prog.follows .mixedOrders=true:=by kernel_rfl
def Y(w:J):ah:=w.heap.size
def av(n:Int):Int:=IntKind.wrap .i64 n
def aN(n:Int)(k:Nat):Prop:=(0:Int)<=n/\n<(k:Int)
def an(c:al)(A B:Prop):Prop:=(c=true->A)/\(c=false->B)
def jS:Int:=9223372036854775807
def st(w:J)(A:ah)(v:aa)(K:J->Prop):Prop:=(∃u:aa,w.cell? A=some u)/\w.frozen? A=false/\aq (w.setCell A v) λw1=>K w1
def H8(w:J)(z:Obj)(l:O aa)(k:Nat)(K:J->Prop):Prop:=aq (w.alloc z) λw1=>bC w1 (Y w) (Array.toList l.toArray)/\Array.size l.toArray=k/\aq (setCells w1 (Y w) 0 (Array.toList l.toArray)) λai=>K ai
def nu(s:ad)(n:Int)(w:J)(k:Nat)(K:O aa->Prop):Prop:=∃a:ah,s.a=some a/\aN n s.len/\∃l:O aa,bV w (a.add (n.toNat*k)) 0 k=some l/\K l
def gm(f:Nat)(a:Array aa)(w:J)(K:J->Prop):Prop:=Calls aj f a w λe w'=>e=.returned (.tuple #[])/\K w'
def bW(f:Nat)(a:Array aa)(w:J)(K:Int->J->Prop):Prop:=Calls aj f a w λe w'=>∃b5:Int,e=.returned b5/\K b5 w'
def wa(f:Nat)(a:Array aa)(w:J)(K:ad->Int->Int->J->Prop):Prop:=Calls aj f a w λe w'=>∃b5:ad,∃b:Int,∃c:Int,e=.returned (.tuple #[b5,b,c])/\K b5 b c w'
def bG(f:Nat)(a:Array aa)(w:J)(K:ad->J->Prop):Prop:=Calls aj f a w λe w'=>∃b5:ad,e=.returned b5/\K b5 w'
def fQ(f:Nat)(a:Array aa)(w:J)(K:Int->Int->J->Prop):Prop:=Calls aj f a w λe w'=>∃b5:Int,∃b:Int,e=.returned (.tuple #[b5,b])/\K b5 b w'
def jo(f:Nat)(a:Array aa)(w:J)(K:au ah->J->Prop):Prop:=Calls aj f a w λe w'=>∃b5:au ah,e=.returned (b5)/\K b5 w'
def b6(f:Nat)(a:Array aa)(w:J)(K:al->J->Prop):Prop:=Calls aj f a w λe w'=>∃b5:al,e=.returned b5/\K b5 w'
def gY(f:Nat)(a:Array aa)(w:J)(K:au ah->Int->J->Prop):Prop:=Calls aj f a w λe w'=>∃b5:au ah,∃b:Int,e=.returned (.tuple #[b5,b])/\K b5 b w'
def dZ(f:Nat)(a:Array aa)(w:J)(K:ad->Int->J->Prop):Prop:=Calls aj f a w λe w'=>∃b5:ad,∃b:Int,e=.returned (.tuple #[b5,b])/\K b5 b w'
def ml(f:Nat)(a:Array aa)(w:J)(K:ad->al->Int->J->Prop):Prop:=Calls aj f a w λe w'=>∃b5:ad,∃b:al,∃c:Int,e=.returned (.tuple #[b5,b,c])/\K b5 b c w'
def mm(f:Nat)(a:Array aa)(w:J)(K:al->Int->J->Prop):Prop:=Calls aj f a w λe w'=>∃b5:al,∃b:Int,e=.returned (.tuple #[b5,b])/\K b5 b w'
def iQ(f:Nat)(a:Array aa)(w:J)(K:ad->al->J->Prop):Prop:=Calls aj f a w λe w'=>∃b5:ad,∃b:al,e=.returned (.tuple #[b5,b])/\K b5 b w'
def mn(f:Nat)(a:Array aa)(w:J)(K:Int->al->J->Prop):Prop:=Calls aj f a w λe w'=>∃b5:Int,∃b:al,e=.returned (.tuple #[.int .u64 b5,b])/\K b5 b w'
def jT(f:Nat)(a:Array aa)(w:J)(K:Array aa->al->J->Prop):Prop:=Calls aj f a w λe w'=>∃b5:Array aa,∃b:al,e=.returned (.tuple #[.agg b5,b])/\K b5 b w'
def mo(f:Nat)(a:Array aa)(w:J)(K:Int->J->Prop):Prop:=Calls aj f a w λe w'=>∃b5:Int,e=.returned (.int .u32 b5)/\K b5 w'
def oY(f:Nat)(a:Array aa)(w:J)(K:Array aa->J->Prop):Prop:=Calls aj f a w λe w'=>∃b5:Array aa,e=.returned (.agg b5)/\K b5 w'
def jU(f:Nat)(a:Array aa)(w:J)(K:Int->al->J->Prop):Prop:=Calls aj f a w λe w'=>∃b5:Int,∃b:al,e=.returned (.tuple #[b5,b])/\K b5 b w'
def kR(f:Nat)(a:Array aa)(w:J)(K:al->ad->ad->ad->al->J->Prop):Prop:=Calls aj f a w λe w'=>∃b5:al,∃b:ad,∃c:ad,∃d:ad,∃g:al,e=.returned (.tuple #[.agg #[b5,b,c,d],g])/\K b5 b c d g w'
def kn(f:Nat)(a:Array aa)(w:J)(K:al->ad->ad->ad->Int->J->Prop):Prop:=Calls aj f a w λe w'=>∃b5:al,∃b:ad,∃c:ad,∃d:ad,∃g:Int,e=.returned (.tuple #[.agg #[b5,b,c,d],g])/\K b5 b c d g w'
def fI(f:Nat)(a:Array aa)(w:J)(K:al->ad->ad->ad->J->Prop):Prop:=Calls aj f a w λe w'=>∃b5:al,∃b:ad,∃c:ad,∃d:ad,e=.returned (.agg #[b5,b,c,d])/\K b5 b c d w'
def oZ(f:Nat)(a:Array aa)(w:J)(K:Int->Int->Int->J->Prop):Prop:=Calls aj f a w λe w'=>∃b5:Int,∃b:Int,∃c:Int,e=.returned (.tuple #[b5,b,c])/\K b5 b c w'
def qO(f:Nat)(a:Array aa)(w:J)(K:Int->J->Prop):Prop:=Calls aj f a w λe w'=>∃b5:Int,e=.returned (.int .u64 b5)/\K b5 w'
def zp(f:Nat)(a:Array aa)(w:J)(K:Int->Int->ad->Int->J->Prop):Prop:=Calls aj f a w λe w'=>∃b5:Int,∃b:Int,∃c:ad,∃d:Int,e=.returned (.tuple #[.agg #[b5,.int .u64 b,c],d])/\K b5 b c d w'
def wc(f:Nat)(a:Array aa)(w:J)(K:ad->Int->Int->Int->J->Prop):Prop:=Calls aj f a w λe w'=>∃b5:ad,∃b:Int,∃c:Int,∃d:Int,e=.returned (.tuple #[b5,b,c,d])/\K b5 b c d w'
def zq(f:Nat)(a:Array aa)(w:J)(K:al->ad->ad->ad->ad->al->ad->ad->ad->al->J->Prop):Prop:=Calls aj f a w λe w'=>∃b5:al,∃b:ad,∃c:ad,∃d:ad,∃g:ad,∃h:al,∃i:ad,∃j:ad,∃k:ad,∃l:al,e=.returned (.tuple #[.agg #[b5,b,c,d],g,.agg #[h,i,j,k],l])/\K b5 b c d g h i j k l w'
def zr(f:Nat)(a:Array aa)(w:J)(K:au ah->au ah->al->J->Prop):Prop:=Calls aj f a w λe w'=>∃b5:au ah,∃b:au ah,∃c:al,e=.returned (.tuple #[b5,b,c])/\K b5 b c w'
def zt(f:Nat)(a:Array aa)(w:J)(K:Int->Int->Int->J->Prop):Prop:=Calls aj f a w λe w'=>∃b5:Int,∃b:Int,∃c:Int,e=.returned (.agg #[b5,b,.int .u64 c])/\K b5 b c w'
def r1(w:J)(A:ah)(K:ad->Prop):Prop:=∃x:ad,w.cell? A=some (.slice x.a x.len x.cap)/\K x
def aD(w:J)(A:ah)(K:Int->Prop):Prop:=∃x:Int,w.cell? A=some (.int .i64 x)/\K x
def cl(w:J)(A:ah)(K:Int->Prop):Prop:=∃x:Int,w.cell? A=some (.int .u64 x)/\K x
def aS(w:J)(A:ah)(K:al->Prop):Prop:=∃x:al,w.cell? A=some (.bool x)/\K x
def dN(w:J)(A:ah)(K:Int->Prop):Prop:=∃x:Int,w.cell? A=some (.int .u8 x)/\K x
def iR:Obj:=.cells #[(0:Int),(0:Int),(0:Int),.int .u64 0,.int .u64 0,(0:Int)] 90
def hC:Obj:=.cells #[(0:Int),false,.int .u8 0,.int .u8 0,.int .u8 0,.int .u8 0,.int .u8 0,.int .u8 0,.int .u8 0,.int .u8 0,.int .u8 0,.int .u8 0,.int .u8 0,.int .u8 0,.int .u8 0,.int .u8 0,.int .u8 0,.int .u8 0,(0:Int),(0:Int),.int .u64 0] 57
def z3:Obj:=.cells #[false,.int .u8 0,.int .u8 0,.int .u8 0,.int .u8 0,.int .u8 0,.int .u8 0,.int .u8 0,.int .u8 0,.int .u8 0,.int .u8 0,.int .u8 0,.int .u8 0,.int .u8 0,.int .u8 0,.int .u8 0,.int .u8 0] 53
def z4:Obj:=.cells #[false,(),(),()] 169
def z5:Obj:=.cells #[.int .u8 0,.int .u8 0,.int .u8 0,.int .u8 0,.int .u8 0,.int .u8 0,.int .u8 0,.int .u8 0,.int .u8 0,.int .u8 0,.int .u8 0,.int .u8 0,.int .u8 0,.int .u8 0,.int .u8 0,.int .u8 0,.int .u8 0,.int .u8 0,.int .u8 0,.int .u8 0,.int .u8 0,.int .u8 0,.int .u8 0,.int .u8 0,.int .u8 0,.int .u8 0,.int .u8 0,.int .u8 0,.int .u8 0,.int .u8 0,.int .u8 0,.int .u8 0,.int .u8 0,.int .u8 0,.int .u8 0,.int .u8 0,.int .u8 0,.int .u8 0,.int .u8 0,.int .u8 0,.int .u8 0,.int .u8 0,.int .u8 0,.int .u8 0,.int .u8 0,.int .u8 0,.int .u8 0,.int .u8 0,.int .u8 0,.int .u8 0,.int .u8 0,.int .u8 0,.int .u8 0,.int .u8 0,.int .u8 0,.int .u8 0,.int .u8 0,.int .u8 0,.int .u8 0,.int .u8 0,.int .u8 0,.int .u8 0,.int .u8 0,.int .u8 0,.int .u8 0,.int .u8 0,.int .u8 0,.int .u8 0,.int .u8 0,.int .u8 0,.int .u8 0,.int .u8 0,.int .u8 0,.int .u8 0,.int .u8 0,.int .u8 0,.int .u8 0,.int .u8 0,.int .u8 0,.int .u8 0,.int .u8 0,.int .u8 0,.int .u8 0,.int .u8 0,.int .u8 0,.int .u8 0,.int .u8 0,.int .u8 0,.int .u8 0,.int .u8 0,.int .u8 0,.int .u8 0,.int .u8 0,.int .u8 0,.int .u8 0,.int .u8 0,.int .u8 0,.int .u8 0,.int .u8 0,.int .u8 0,.int .u8 0,.int .u8 0,.int .u8 0,.int .u8 0,.int .u8 0,.int .u8 0,.int .u8 0,.int .u8 0,.int .u8 0,.int .u8 0,.int .u8 0,.int .u8 0,.int .u8 0,.int .u8 0,.int .u8 0,.int .u8 0,.int .u8 0,.int .u8 0,.int .u8 0,.int .u8 0,.int .u8 0,.int .u8 0,.int .u8 0,.int .u8 0,.int .u8 0,.int .u8 0,.int .u8 0,.int .u8 0,.int .u8 0,.int .u8 0,.int .u8 0,.int .u8 0,.int .u8 0,.int .u8 0,.int .u8 0,.int .u8 0,.int .u8 0,.int .u8 0,.int .u8 0,.int .u8 0,.int .u8 0,.int .u8 0,.int .u8 0,.int .u8 0,.int .u8 0,.int .u8 0,.int .u8 0,.int .u8 0,.int .u8 0,.int .u8 0,.int .u8 0,.int .u8 0,.int .u8 0,.int .u8 0,.int .u8 0,.int .u8 0,.int .u8 0,.int .u8 0,.int .u8 0,.int .u8 0,.int .u8 0,.int .u8 0,.int .u8 0,.int .u8 0,.int .u8 0,.int .u8 0,.int .u8 0,.int .u8 0,.int .u8 0,.int .u8 0,.int .u8 0,.int .u8 0,.int .u8 0,.int .u8 0,.int .u8 0,.int .u8 0,.int .u8 0,.int .u8 0,.int .u8 0,.int .u8 0,.int .u8 0,.int .u8 0,.int .u8 0,.int .u8 0,.int .u8 0,.int .u8 0,.int .u8 0,.int .u8 0,.int .u8 0,.int .u8 0,.int .u8 0,.int .u8 0,.int .u8 0,.int .u8 0,.int .u8 0,.int .u8 0,.int .u8 0,.int .u8 0,.int .u8 0,.int .u8 0,.int .u8 0,.int .u8 0,.int .u8 0,.int .u8 0,.int .u8 0,.int .u8 0,.int .u8 0,.int .u8 0,.int .u8 0,.int .u8 0,.int .u8 0,.int .u8 0,.int .u8 0,.int .u8 0,.int .u8 0,.int .u8 0,.int .u8 0,.int .u8 0,.int .u8 0,.int .u8 0,.int .u8 0,.int .u8 0,.int .u8 0,.int .u8 0,.int .u8 0,.int .u8 0,.int .u8 0,.int .u8 0,.int .u8 0,.int .u8 0,.int .u8 0,.int .u8 0,.int .u8 0,.int .u8 0,.int .u8 0,.int .u8 0,.int .u8 0,.int .u8 0,.int .u8 0,.int .u8 0,.int .u8 0,.int .u8 0,.int .u8 0,.int .u8 0,.int .u8 0,.int .u8 0,.int .u8 0,.int .u8 0,.int .u8 0,.int .u8 0,.int .u8 0,.int .u8 0,.int .u8 0,.int .u8 0,.int .u8 0,.int .u8 0] 151
def o0:Obj:=.cells #[false,.int .u8 0,.int .u8 0,.int .u8 0,.int .u8 0,.int .u8 0,.int .u8 0,.int .u8 0,.int .u8 0,.int .u8 0,.int .u8 0,.int .u8 0,.int .u8 0,.int .u8 0,.int .u8 0,.int .u8 0,.int .u8 0,(0:Int)] 55
def sO:Obj:=.cells #[(0:Int),.int .u64 0,()] 137
def we:Obj:=.cells #[(),(0:Int)] 325
def a1:aL:=(.q (.c (.q .l) .l))
def eC:aL:=(.q (.s (.c .l .l) (.s (.bY (.q a1)) .r)))
def iS:aL:=(.q (.s (.q (.bY (.loop [(8,(.int .i64))] [0,1,7] eC))) (.q .l)))
def df:aL:=(.q (.s a1 (.q .l)))
def eD:aL:=(.q (.c (.q .l) a1))
def fm:aL:=(.s a1 (.q (.q .l)))
def gh:aL:=(.q (.s (.c .l .l) (.s (.bY (.q (.q a1))) .r)))
def a2:aL:=(.q (.s (.c .l .l) (.s (.bY (.q .r)) .r)))
def a3:aL:=(.q (.q (.q .l)))
def a4:aL:=(.q (.s (.z [9,8]) .l))
def a5:aL:=(.q (.s (.s (.z [9,8,9,8]) (.c (.q .l) .l)) (.q .l)))
def dU:aL:=(.s (.z [9,10]) (.c (.q .l) .l))
def cX:aL:=(.q (.s (.z [12,11]) .l))
def eW:aL:=(.c (.q (.q .l)) .l)
def a9:aL:=(.q (.s (.z [9,8,9,22]) .l))
def e5:aL:=(.s (.z [9,11]) (.c (.q .l) .l))
def d_:aL:=(.s (.z [9,8]) (.c (.q .l) .l))
theorem okF{f:Nat}{fn:Func}(p:J->(aa->J->Prop)->Prop)(A:aL){args:O aa}{w:J}{Q:aa->J->Prop}(hf:Tryz.prog.funcs[f]? =some fn)(h:p w Q)(a:nn fn args.length=true:=by kernel_rfl)(b:p w Q=oR aj tk A fn args w Q:=by kernel_rfl):aJ aj f args.toArray w Q:=CP v_ hf a (Eq.mp b h)
def o1(a:J)(ai:J)(Q:aa->J->Prop)(b:al):Prop:=r1 a ((Y ai).add 1) λc=>r1 a ((Y ai).add 2) λd=>r1 a ((Y ai).add 3) λe=>Q (.tuple #[.agg #[b,c,d,e],false]) a
def o2(c:ad)(d:J)(e:J)(f:J)(g:J->Prop):Prop:=∃a:ad,∃b:J,Sem.run aj (Builtin.append_ #[93,93] 93 #[c,
 .slice (some (Y d)) 1 1]) e=.ok a b/\st b ((Y f).add 1) a λh=>g h
def sP(b:J)(h:J)(c:J)(key:ad)(f:J->Prop):Prop:=aS b (Y h) λi=>an (!i) (aq (b.drew) λd=>∃e:Nat->Prop,¬e ((Y c).add 1).block/\r1 d ((Y
 c).add 1) λj=>bG 46 #[key] d λk a=>af e d a/\aq (a.alloc (.cells #[k] 39)) λg=>af e a g/\o2 j a g c
 f) (f b)
def o3(a:J)(c:J)(ai:J)(d:al)(Q:aa->J->Prop):Prop:=r1 a ((Y c).add 1) λe=>r1 a ((Y c).add 2) λf=>r1 a ((Y c).add 3) λg=>bC a (Y ai)
 [d,e,f,g]/\(4:Nat)=4/\aq (setCells a (Y ai) 0 [d,e,f,g]) λb=>aS b (Y ai) λh=>r1 b ((Y ai).add 1) λi=>r1 b ((Y ai).add 2) λj=>r1 b ((Y ai).add 3) λk=>Q (.tuple #[.agg #[h,i,j,k],true]) b
def bL(h:J)(a:J)(i:al)(j:ad)(k:ad)(l:ad)(b:J)(m:al)(n:ad)(o:ad)(p:ad)(w:J)(key:ad)(ai:J)(Q:aa->J->Prop):Prop:=bC h (Y a)
 [i,j,k,l]/\(4:Nat)=4/\aq (setCells h (Y a) 0 [i,j,k,l]) λq=>bC q (Y b) [m,n,o,p]/\(4:Nat)=4/\aq (setCells q (Y b) 0 [m,n,o,p]) λz=>bX (λA:J->Prop=>sP z w a key A) (λe=>r1 e ((Y a).add 1) λB=>r1 e ((Y b).add 1) λC=>∃r:ad,∃s:J,
 Sem.run aj (Builtin.append_ #[93,93] 93 #[B,C]) e=.ok r s/\st s ((Y a).add 1) r λf=>r1 f ((Y a).add 2) λD=>r1 f ((Y b).add 2) λE=>∃t:ad,∃u:J,Sem.run aj (Builtin.append_ #[93,93] 93 #[D,E]) f=.ok t u/\st u ((Y a).add 2) t λg=>r1 g ((Y a).add 3) λF=>r1 g ((Y b).add 3) λ
 G=>∃v:ad,∃x:J,Sem.run aj (Builtin.append_ #[72,72] 72 #[F,G]) g=.ok v x/\st x ((Y a).add
 3) v λc=>aS c (Y a) λH=>r1 c ((Y a).add 1) λI=>r1 c ((Y a).add 2) λK=>r1 c ((Y a).add 3) λL=>b6 182 #[.agg #[H,I,K,L]] c λM d=>an (!M) (bC d (Y ai) [false,(),(),()]/\(4:Nat)=4/\aq (setCells d (Y
 ai) 0 [false,(),(),()]) λy=>aS y (Y ai) λN=>o1 y ai Q N) (aS d (Y a) λO=>o3 d a ai O Q))
def nv(a:J)(b:J)(c:al)(d:ad)(e:ad)(f:ad)(g:J->Prop):Prop:=bC a (Y b) [c,d,e,f]/\(4
 :Nat)=4/\aq (setCells a (Y b) 0 [c,d,e,f]) λh=>g h
def o4(d:J)(a:J)(e:al)(f:ad)(g:ad)(h:ad)(i:al)(Q:aa->J->Prop)(c:au ah)(n31:Int):Prop:=bC d (Y a) [e,f,
 g,h]/\(4:Nat)=4/\aq (setCells d (Y a) 0 [e,f,g,h]) λb=>
 an (!i) (Q (.tuple #[(),(0:Int),(0:Int),(4:Int)]) b) (aS b (Y a) λj=>r1 b ((Y a).add 1) λk=>r1 b ((Y a).add 2) λl=>r1 b ((Y a).add 3) λ
 m=>dZ 263 #[c,.agg #[j,k,l,m]] b λn o p=>Q (.tuple #[n,n31,.int .i64 (av (n31+2)),o]) p)
def bN(up:au ah)(j:J)(n36:Int)(w:J)(h:J)(f:J)(g:J)(n31:Int)(Q:aa->J->Prop)(c:au ah):Prop:=bX (λo:J->Prop=>∃p:ah,up=some p/\aD j
 (p.add 5) λI=>an (decide (n36>I)) (aq (j.drew) λd=>∃k:Nat->Prop,¬k ((Y w):ah).block/\aS d (Y w) λq=>r1 d ((Y w).add 1) λr=>r1 d ((Y w).add 2) λs=>r1 d (Addr.add
 (Y w) 3) λt=>¬k ((Y h):ah).block/\aS d (Y h) λK=>r1 d ((Y h).add 1) λL=>r1 d ((Y h).add 2) λM=>r1 d ((Y h).add 3) λN=>bC d (Y f) [q,r,s,t]/\(4:Nat)=4/\aq (setCells d (Y f) 0 [q,r,s,t]) λu
 =>af k d u/\nv u g K L M N o) (o j)) (λO=>aq (O.drew) λb=>∃e:Nat->Prop,¬e ((Y f):ah).block/\aS b (Y f) λv=>r1 b ((Y f).add 1) λx=>r1 b (Addr.add
 (Y f) 2) λy=>r1 b ((Y f).add 3) λz=>∃l:ah,up=some l/\¬e ((l.add 1).add 1).block/\r1 b ((l.add 1).add 1) λA=>∃m:ah,A.a=some m/\aN n31 A.len/\¬e (m.add
 (n31.toNat*1)).block/\r1 b (m.add (n31.toNat*1)) λB=>¬e ((Y g):ah).block/\aS b (Y g) λC=>r1 b ((Y g).add 1) λD=>r1 b ((Y g).add 2) λE=>r1 b (Addr.add
 (Y g) 3) λF=>(kR 264 #[.agg #[v,x,y,z],B,.agg #[C,D,
 E,F]] b λP R S T U i=>af e b i/\aq (i.alloc z4) λG=>af e i G/\o4 G i P R S T U Q c n31)/\(aq
 (b.alloc z4) λn=>af e b n/\kR 264 #[.agg #[v,x,y,z],B,.agg #[C,D,E,F]] n λV W X Z ab H=>af e n H/\o4 H b V W X Z ab Q c n31))
def cL(a:J)(b:J)(w1:J)(Q:aa->J->Prop):Prop:=aS a (Y b) λc=>o3 a b w1 c Q
def qP(a:J)(c:J)(w1:J)(d:al)(Q:aa->J->Prop):Prop:=r1 a ((Y c).add 1) λe=>r1 a ((Y c).add 2) λf=>r1 a ((Y c).add 3) λg=>bC a (Y w1)
 [d,e,f,g]/\(4:Nat)=4/\aq (setCells a (Y w1) 0 [d,e,f,g]) λb=>aS b (Y w1) λh=>r1 b ((Y w1).add 1) λi=>r1 b ((Y w1).add 2) λj=>r1 b ((Y w1).add 3) λk=>Q (.agg #[h,i,j,k]) b
def iv(z:J)(l:ad)(c:J)(w:J)(to:Int)(w1:J)(Q:aa->J->Prop):Prop:=∃ (h:Int->J->Prop) (m:Int->J->Nat),h 0 z/\∀ (n19:Int) (b:J),h n19 b->an (decide
 (n19<(l.len:Int))) (∃i:ah,l.a=some i/\aN n19 l.len/\r1 b (i.add (n19.toNat*2)) λn=>aD b ((i.add (n19.toNat*2)).add 1) λn23=>aq (b.alloc we) λo=>bC o (Y b) [n,n23]/\(2:Nat)=2/\aq (setCells o (Y b) 0 [n,n23]) λd=>bX (λp:J->Prop=>r1 d (Y b) λA=>an (!(Option.isNone A.a)) (r1 d (Addr.add
 (Y c) 1) λB=>r1 d (Y b) λC=>aq (d.alloc (.cells #[C] 39)) λD=>o2 B d D c p) (p d)) (λg=>r1 g ((Y c).add 3) λE=>aD g ((Y
 b).add 1) λn36=>aq (g.alloc (.cells #[n36] 3)) λF=>∃q:ad,∃r:J,Sem.run aj (Builtin.append_ #[72,72] 72 #[E,.slice (some (Y g)) 1 1]) F=
 .ok q r/\st r ((Y c).add 3) q λs=>h (av (n19+1)) s/\m (av (n19+1)) s<m n19 b)) (aq (b.drew) λj=>¬False/\r1 j ((Y c).add 1)
 λG=>¬False/\r1 j ((Y w).add 1) λe=>((0:Int)<=(av (to-1))/\(av (to-1))<=(e.len:Int))/\∃t:ad,∃u:J,Sem.run aj (Builtin.append_ #[93,93] 93 #[G,.slice (aU e.a 1 ((av (to-1)).toNat) e.cap) (e.len-((av (to-1)).toNat)) (e.cap-((av (to-1)).toNat))]) j=.ok t u/\st u ((Y c).add 1) t λH=>aq (H.drew) λk=>¬False/\r1 k ((Y c).add 3) λI=>¬False/\r1 k ((Y w).add 3) λf=>((0:Int)<=to/\to<=(f.len:Int))/\∃v:ad,∃x:J,Sem.run
 aj (Builtin.append_ #[72,72] 72 #[I,.slice (aU f.a 1 (to.toNat) f.cap) (f.len-(to.toNat)) (f.cap-(to.toNat))]) k=.ok v x/\
 st x ((Y c).add 3) v λy=>aS y (Y c) λK=>qP y c w1 K Q)
def iT(o:Array aa)(f:J)(c:Nat->Prop)(p:Array aa)(w1:J)(ai:J)(Q:aa->J->Prop)(q:ad):Prop:=fI 183 #[.agg o] f λg h i j d=>af c f d/\fI
 183 #[.agg p] d λk l m n b=>af c d b/\bC b (Y w1) [g,h,i,j]/\(4:Nat)=4/\aq (setCells b (Y w1) 0
 [g,h,i,j]) λe=>af c b e/\bC e (Y ai) [k,l,m,n]/\(4:Nat)=4/\aq (setCells e (Y ai) 0 [k,l,m,n]) λa=>aS a (Y w1) λr=>r1 a ((Y w1).add 1) λs=>
 r1 a ((Y w1).add 2) λt=>r1 a ((Y w1).add 3) λu=>aS a (Y ai) λv=>r1 a ((Y ai).add 1) λw=>r1 a ((Y ai).add 2) λx=>r1 a ((Y ai).add 3) λy=>Q (.tuple #[.agg
 #[r,s,t,u],q,.agg #[v,w,x,y],true]) a
def jq(a:J)(w1:J)(Q:aa->J->Prop):Prop:=aS a (Y w1) λb=>o1 a w1 Q b
def o5(a:J)(b:J)(w1:J)(Q:aa->J->Prop):Prop:=aS a (Y b) λc=>qP a b w1 c Q
def sQ(a:J)(w:J)(Q:aa->J->Prop)(n7:Int):Prop:=aS a (Y w) λb=>r1 a ((Y w).add 1) λc=>r1 a ((Y w).add 2) λd=>r1 a ((Y w).add 3) λe=>Q (.tuple #[.agg #[b,c,d,e],n7]) a
def fy(g:ad)(n34:Int)(c:J)(d:J)(n:Int->J->Prop)(h:Int->J->Nat):Prop:=∃i:ah,g.a=some i/\aN n34 g.len/\r1 c (i.add (n34.toNat*1)) λo=>aq (c.drew) λe
 =>∃f:Nat->Prop,¬f ((Y d).add 2).block/\r1 e ((Y d).add 2) λp=>bG 46 #[o] e λq b=>af f e b/\aq (b.alloc (.cells #[q] 39)) λj=>af f b j/\∃k:ad,∃l:J,Sem.run aj (Builtin.append_ #[93,93] 93 #[p,.slice (some (Y b)) 1 1]) j=
 .ok k l/\st l ((Y d).add 2) k λm=>n (av (n34+1)) m/\h (av (n34+1)) m<h n34 c
def zu(g:ad)(n17:Int)(c:J)(d:J)(n:Int->J->Prop)(h:Int->J->Nat):Prop:=∃i:ah,g.a=some i/\aN n17 g.len/\r1 c (i.add (n17.toNat*1)) λo=>aq (c.drew) λe
 =>∃f:Nat->Prop,¬f ((Y d).add 1).block/\r1 e ((Y d).add 1) λp=>bG 46 #[o] e λq b=>af f e b/\aq (b.alloc (.cells #[q] 39)) λj=>af f b j/\∃k:ad,∃l:J,Sem.run aj (Builtin.append_ #[93,93] 93 #[p,.slice (some (Y b)) 1 1]) j=
 .ok k l/\st l ((Y d).add 1) k λm=>n (av (n17+1)) m/\h (av (n17+1)) m<h n17 c
def o6(c:al)(b:al->J->Prop)(a:J)(w:J):Prop:=an (!c) (b true a) (aS a (Y w) λd=>r1 a ((Y w).add 1) λe=>r1 a ((Y w).add 2) λf=>r1 a ((Y w).add 3) λg
 =>b6 182 #[.agg #[d,e,f,g]] a λh i=>b (!h) i)
def wg(g:J)(ai:J)(w1:J)(h:J->Prop):Prop:=aq (g.drew) λb=>∃c:Nat->Prop,¬c ((Y ai).add 3).block/\r1 b ((Y ai).add 3) λi=>bW 252 #[.pointer (some (Y
 w1)),(2:Int)] b λn14 a=>af c b a/\aq (a.alloc (.cells #[n14] 3)) λd=>af c a d/\∃e:ad,∃f:J,Sem.run aj (Builtin.append_ #[72,72] 72 #[i,.slice (some (Y a)) 1 1]) d=.ok e f/\st f ((Y ai).add 3) e λj=>h j
def qQ(a:J)(w:J)(Q:aa->J->Prop):Prop:=aS a (Y w) λb=>r1 a ((Y w).add 1) λc=>r1 a ((Y w).add 2) λd=>r1 a ((Y w).add 3) λe=>Q (.tuple #[.agg #[b,
 c,d,e],(4:Int)]) a
def wh(m:aa)(n:J)(d:au ah)(o:J->Prop)(h:J->Nat)(p:J):Prop:=∃n15:Int,∃q:aa,∃i:J,Sem.run aj (Instr.entry (m)) n=.ok (.tuple #[n15,q])
 i/\aq (i.drew) λb=>∃j:Nat->Prop,∃c:ah,d=some c/\¬j (c.add 4).block/\r1 b (c.add 4) λk=>oY 118 #[d,n15] b λe f=>af j b f/\∃g:ah,
 k.a=some g/\aN n15 k.len/\bC f (g.add (n15.toNat*256)) (Array.toList e)/\Array.size e=256/\aq (setCells f (g.add (n15.toNat*256)) 0 (Array.toList e)) λl=>o l/\h l<h p
def sR(a:J)(b:ad)(c:J)(d:ad)(Q:aa->J->Prop):Prop:=aq (a.alloc (.cells #[b,.slice (some (Y c)) 2 2,d] 39)) λe=>bG
 103 #[.slice (some (Y a)) 3 3] e λf g=>Q (.tuple #[f,true]) g
def wi(h:ad)(j:ad)(c:J)(k:Nat->Prop)(l:au Nat)(i:Int)(d:au ah)(Q:aa->J->Prop):Prop:=∃e:ad,∃a:J,Sem.run aj (Builtin.append_ #[124,
 124] 124 #[h,j]) c=.ok e a/\af k c a/\∃b:J,Sem.run aj (Instr.mapUpdate 125
 (.map l) i e) a=.ok () b/\∃f:ah,d=some f/\aD b (f.add 6) λn24=>∃g:ah,d=some g/\st b (g.add 6) (.int .i64 (av (n24+1))) λm=>Q (0:Int) m
def wj(c:ad)(b:Int)(d:ad)(f:Array aa):Prop:=∀e:J,Sem.run aj (Instr.build 169 #[(1,.slice (aU c.a 1 ((av (b+1)).toNat) c.cap) (c.len-((av (b+1)).toNat)) (c.cap
 -((av (b+1)).toNat))),(3,.slice (aU d.a 1 ((av (b+1)).toNat) d.cap) (d.len-((av (b+1)).toNat)) (d.cap-((av (b+1)).toNat)))]) e=.ok (.agg f) e
def wk(c:ad)(b:Int)(d:ad)(f:Array aa):Prop:=∀e:J,Sem.run aj (Instr.build 169 #[(0,true),(1,.slice (aU c.a 1 (b.toNat) c.cap) (c.len-(b.toNat)) (c.cap-
 (b.toNat))),(2,.slice (aU d.a 1 (b.toNat) d.cap) (d.len-(b.toNat)) (d.cap-(b.toNat)))]) e=.ok (.agg f) e
def wm(a:ad):Prop:=(0:Int)<=(av (232-(a.len:Int)))/\((av (232-(a.len:Int))):Int)<=(av (232-(a.len:Int)))/\((av (232-(a.len:Int))):Int)<=jS/\((1:Nat):Int)*(av (232-(a.len:Int)))<=
 140737488355328
def wo(a:J)(c:ad)(d:J)(e:ad)(f:J)(b:ad)(g:ad->J->Prop):Prop:=aq (a.alloc (.cells #[c,.slice (some (Y d)) (Int.toNat 4) (Int.toNat 4),e,.slice (some (Y f)) ((av (232-(b.len:Int))).toNat) ((av (232-(b.len:Int))).toNat)] 39)) λh=>bG 103 #[.slice (some (Y a)) 4 4] h λi j=>g i j
def wq(d:au ah)(a:J)(Q:aa->J->Prop):Prop:=∃b:ah,d=some b/\∃c:au Nat,a.cell? (b.add 5)=some (.map c)/\∃ (f:aa) (e:J),Sem.run aj (Builtin.clear_
 #[125] 0 #[.map c]) a=.ok f e/\Q (0:Int) e
def wu(b:ad)(d:Int)(c:ad)(f:Array aa):Prop:=∀e:J,Sem.run aj (Instr.build 169 #[(0,true),(1,.slice (aU b.a 1 0 b.cap) ((d.toNat)-0) (b.cap-0)),(2,.slice (aU
 c.a 1 0 c.cap) ((d.toNat)-0) (c.cap-0))]) e=.ok (.agg f) e
def wv(b:ad)(d:Int)(c:ad)(f:Array aa):Prop:=∀e:J,Sem.run aj (Instr.build 169 #[(1,.slice (aU b.a 1 0 b.cap) ((d.toNat)-0) (b.cap-0)),(3,.slice (aU c.a 1 0
 c.cap) (((av (d+1)).toNat)-0) (c.cap-0))]) e=.ok (.agg f) e
def sS(s:au ah)(Q:aa->J->Prop)(w:J):Prop:=an (Option.isNone s) (Q () w) (∃a1:ah,s=some a1/\r1 w (a1.add 1) λs2=>bG 46 #[s2] w λ
 a b=>Q a b)
def wx(a:J)(w:J)(Q:aa->J->Prop):Prop:=aD a (Y w) λn9=>cl a ((Y w).add 1) λn10=>r1 a ((Y w).add 2) λb=>Q (.tuple #[.agg #[n9,.int .u64 n10,b],(4:Int)]) a
def wy(b:J)(w:J)(a:O aa)(Q:aa->J->Prop):Prop:=bC b (Y w) (Array.toList a.toArray)/\Array.size a.toArray=256/\aq (setCells b (Y w) 0 (Array.toList a.toArray)) λc=>∃d:O
 aa,bV c (Y w) 0 256=some d/\Q (.agg d.toArray) c
def wz(ai:J)(w:J)(fo:Array aa)(Q:aa->J->Prop):Prop:=bC ai (Y w) (Array.toList fo)/\Array.size fo=17/\aq (setCells ai (Y w) 0 (Array.toList fo)) λa=>∃b:O aa,bV a (Y w) 0
 17=some b/\Q (.tuple #[.agg b.toArray,true]) a
def qR(a:J)(b:J)(f:al)(g:ad)(h:ad)(i:ad)(n:Nat->Prop)(d:J)(j:al)(k:ad)(l:ad)(m:ad)(up:au ah)(n36:Int)(w:J)(o:J)(n31:Int)(Q:aa
 ->J->Prop)(c:au ah):Prop:=bC a (Y b) [f,g,h,i]/\(4:Nat)=4/\aq (setCells a (Y b) 0 [f,g,h,i]) λe=>af n a e/\bC e (Y d) [j,k,l,m]/\(4:
 Nat)=4/\aq (setCells e (Y d) 0 [j,k,l,m]) λp=>bN up p n36 w o b d n31 Q c
def o7(h:Int)(Q:aa->J->Prop)(e:J)(c:au ah)(n41:Int)(d:J)(w:J)(up:au ah)(n36:Int)(n31:Int):Prop:=an (h !=0) (Q (.tuple #[(),(0:Int),(0:Int),
 h]) e) (∃i:ah,c=some i/\r1 e (i.add 2) λx=>aq (e.alloc (.cells #[n41] 3)) λy=>∃j:ad,∃k:J,Sem.run aj (Builtin.append_ #[72,72] 72
 #[x,.slice (some (Y e)) 1 1]) y=.ok j k/\∃l:ah,c=some l/\st k (l.add 2) j λz=>aq (z.drew) λa=>∃b:Nat->
 Prop,¬b ((Y d):ah).block/\aS a (Y d) λm=>r1 a ((Y d).add 1) λn=>r1 a ((Y d).add 2) λo=>r1 a ((Y d).add 3) λp=>¬b ((Y w):ah).block/\aS a (Y w) λq=>
 r1 a ((Y w).add 1) λr=>r1 a ((Y w).add 2) λs=>r1 a ((Y w).add 3) λt=>(aq (a.alloc z4) λf=>af b a f/\aq (f.alloc z4) λu=>af b f u/\qR u a m n o p b
 f q r s t up n36 w d n31 Q c)/\(aq (a.alloc z4) λg=>af b a g/\aq (g.alloc z4) λv=>af b g v/\qR v g m n o p b a q r s t up n36 w d n31 Q c))
def sT(h:J)(w:J)(b:Int)(c:J)(w1:J)(ai:J)(Q:aa->J->Prop):Prop:=r1 h ((Y w).add 1) λj=>∃k:ah,j.a=some k/\aN b j.len/\r1 h (k.add (Int.toNat
 b*1)) λz=>bG 46 #[z] h λl i=>aS i (Y w) λA=>an A (aq (i.drew) λd=>∃e:Nat->Prop,¬e ((Y c).add 1).block/\r1 d ((Y
 c).add 1) λm=>((0:Int)<=b/\b<=(m.cap:Int))/\¬e ((Y c).add 2).block/\r1 d ((Y c).add 2) λn=>((0:Int)<=b/\b<=(n.cap:Int))/\∃o:Array aa,(wu m b n
 o)/\¬e ((Y c).add 1).block/\r1 d ((Y c).add 1) λp=>((0:Int)<=b/\b<=(p.len:Int))/\¬e ((Y c).add 2).block/\r1 d ((Y c).add 2) λq=>((0:Int)<=b/\b<=(q.len:Int))
 /\∃r:Array aa,(wk p b q r)/\iT o d e r w1 ai Q l) (aq (i.drew) λf=>∃g:Nat->Prop,¬g ((Y c).add 1).block/\r1 f ((Y c).add 1) λs=>((0:Int)<=b/\b<=((s.cap:
 Nat):Int))/\¬g ((Y c).add 3).block/\r1 f ((Y c).add 3) λt=>((0:Int)<=(av (b+1))/\(av (b+1))<=(t.cap:Int))/\∃u:Array aa,(wv s b t u)/\¬g ((Y c).add
 1).block/\r1 f ((Y c).add 1) λv=>((0:Int)<=(av (b+1))/\(av (b+1))<=(v.len:Int))/\¬g ((Y c).add 3).block/\r1 f ((Y c).add 3) λx=>((0:Int)<=(av (b+1))/\(av (b+1))<=
 (x.len:Int))/\∃y:Array aa,(wj v b x y)/\iT u f g y w1 ai Q l)
def nw(c:al)(d:ad)(e:ad)(f:ad)(a:J)(g:Nat->Prop)(h:J)(i:al)(j:ad)(k:ad)(l:ad)(m:J)(w:J)(key:ad)(ai:J)(Q:aa->J->Prop):Prop:=fI
 183 #[.agg #[c,d,e,f]] a λn o p q b=>af g a b/\bL b h i j k l m n o p q w key ai
 Q
def wA(g:J)(a:J)(c:Array aa)(w:J)(w1:J)(Q:aa->J->Prop):Prop:=bC g (Y a) (Array.toList c)/\Array.size c=4/\aq (setCells g (Y a) 0 (Array.toList c)) λh=>r1
 h ((Y w).add 1) λi=>∃ (d:Int->J->Prop) (k:Int->J->Nat),d 0 h/\∀ (n17:Int) (b:J),d n17 b->an (decide (n17<(i.len:Int))) (zu i n17 b a d k) (r1 b ((Y w).add 2) λ
 j=>∃ (e:Int->J->Prop) (l:Int->J->Nat),e 0 b/\∀ (n34:Int) (f:J),e n34 f->an (decide (n34<(j.len:Int))) (fy j n34 f a e l) (o5 f a w1 Q))
def wB(a:J)(w:J)(Q:aa->J->Prop)(n7:Int):Prop:=bC a (Y w) [false,(),(),()]/\(4:Nat)=4/\aq (setCells a (Y w) 0 [false,(),
 (),()]) λb=>sQ b w Q n7
set_option maxRecDepth 100000
def ae.nx(s:ad)(w:J)(Q:aa->J->Prop):Prop:=an (Option.isNone s.a) (Q () w) (aq (w.alloc (.cells #[] 5)) λw1=>∃s2:ad,∃b:J,Sem.run aj
 (Builtin.append_ #[39,39] 39 #[.slice (some (Y w)) 0 0,s]) w1=.ok s2 b/\Q s2 b)
def aw.nx:aL:=df
def ae.ny(a:ad)(b:ad)(w:J)(Q:aa->J->Prop):Prop:=∃s1:ByteArray,∃ai:J,Sem.run aj (convert 39 9 a) w=.ok (.string s1) ai/\∃c:ByteArray,∃d
 :J,Sem.run aj (convert 39 9 b) ai=.ok (.string c) d/\Q (.bool (ByteArray.toList s1==ByteArray.toList c)) d
def aw.ny:aL:=(.q (.q .l))
def ae.sU(s:ad)(w:J)(Q:aa->J->Prop):Prop:=an (Option.isNone s.a) (Q () w) (aq (w.alloc (.cells #[] 5)) λw1=>∃s2:ad,∃b:J,Sem.run aj
 (Builtin.append_ #[206,206] 206 #[.slice (some (Y w)) 0 0,s]) w1=.ok s2 b/\Q s2 b)
def aw.sU:aL:=df
def ae.sV(x:Int)(w:J)(Q:aa->J->Prop):Prop:=(0:Int)<=x/\∃cv:UInt8,vy (ByteArray.mk #[0,1,1,2,1,2,2,3,1,2,2,3,2,3,3,4,1,2,2,3,2,3,3,4,2,3,3,4,3,4,4,5,1,2,
 2,3,2,3,3,4,2,3,3,4,3,4,4,5,2,3,3,4,3,4,4,5,3,4,4,5,4,5,5,6,1,2,2,3,2,3,3,4,2,3,3,4,3,4,4,5,2,3,3,4,3,4,4,5,3,4,4,5,4,5,5,6,2,3,3,4,3,4,4,5,3,4,4,5,4,5,5,6,3,4,
 4,5,4,5,5,6,4,5,5,6,5,6,6,7,1,2,2,3,2,3,3,4,2,3,3,4,3,4,4,5,2,3,3,4,3,4,4,5,3,4,4,5,4,5,5,6,2,3,3,4,3,4,4,5,3,4,4,5,4,5,5,6,3,4,4,5,4,5,5,6,4,5,5,6,5,6,6,7,2,3,
 3,4,3,4,4,5,3,4,4,5,4,5,5,6,3,4,4,5,4,5,5,6,4,5,5,6,5,6,6,7,3,4,4,5,4,5,5,6,4,5,5,6,5,6,6,7,4,5,5,6,5,6,6,7,5,6,6,7,6,7,7,8]) (x.toNat)=some cv/\Q (.int .i64 (av ((cv.toNat
 :Nat):Int))) w
def aw.sV:aL:=(.q (.q .l))
def ae.sW(s:ad)(i:Int)(j:Int)(w:J)(Q:aa->J->Prop):Prop:=((0:Int)<=(s.len:Int)/\(s.len:Int)<=(s.cap:Int))/\((0:Int)<=j/\j<=(((Int.toNat (s.len:Int)):Nat):
 Int))/\((0:Int)<=i/\i<=(((j.toNat):Nat):Int))/\an (i==j) (Q s w) (aq (w.drew) λw1=>((0:Int)<=i/\i<=(s.cap:Int))/\((0:Int)<=j/\j<=(s.len:Int))/\∃s2:ad,∃b:J,
 Sem.run aj (Builtin.append_ #[93,93] 93 #[.slice (aU s.a 1 0 s.cap) ((i.toNat)-0) (s.cap-0),.slice (aU s.a 1 (j.toNat) s.cap) (s.len-(j.toNat)) (s.cap-(j.toNat))]) w1
 =.ok s2 b/\((0:Int)<=(s.len:Int)/\(s.len:Int)<=(s2.cap:Int))/\((0:Int)<=(s2.len:Int)/\(s2.len:Int)<=(((Int.toNat (s.len:Int)):Nat):Int))/\∃ (aS:aa) (c:J),Sem.run aj
 (Builtin.clear_ #[93] 0 #[.slice (aU s2.a 1 (Int.toNat (s2.len:Int)) s2.cap) ((Int.toNat (s.len:Int))-(Int.toNat (s2.len:Int))) (s2.cap-(Int.toNat (s2.len:Int)))]) b=.ok aS c/\Q s2 c)
def aw.sW:aL:=(.q (.q (.s a1 (.q (.s (.d 6 false [0,0,502,0,0,1004003,1005002,507] [0,0,502,0,0,1004003,1005002,1006003000] [7020,1] [1,2,1021020,1,3,1024023,1025022,27] (.z 6 0 (.tail [.r,.r]))) (.q (.q
 .l)))))))
def ae.sX(s:ad)(i:Int)(v:ad)(w:J)(Q:aa->J->Prop):Prop:=((0:Int)<=i/\i<=(s.len:Int))/\an ((v.len:Int)==0) (Q s w) (an (i==(s.len:Int)) (∃s1:ad,
 ∃ai:J,Sem.run aj (Builtin.append_ #[93,93] 93 #[s,v]) w=.ok s1 ai/\Q s1 ai) (an (decide
 (((av ((s.len:Int)+(v.len:Int))):Int)>(s.cap:Int))) (((0:Int)<=i/\i<=(s.cap:Int))/\∃b:ad,∃d:J,Sem.run aj (Builtin.append_ #[93,3] 93 #[.slice (aU s.a 1 0
 s.cap) ((i.toNat)-0) (s.cap-0),.int .i64 (av ((av ((s.len:Int)+(v.len:Int)))-i))]) w=.ok b d/\((0:Int)<=i/\i<=(b.len:Int))/\∃n5:Int,∃e:J,Sem.run aj (Builtin.copy_
 #[93,93] 3 #[.slice (aU b.a 1 (i.toNat) b.cap) (b.len-(i.toNat)) (b.cap-(i.toNat)),v]) d=.ok n5 e/\aq (e.drew) λl=>((0:Int)<=(av (i+
 (v.len:Int)))/\(av (i+(v.len:Int)))<=(b.len:Int))/\((0:Int)<=i/\i<=(s.len:Int))/\∃n8:Int,∃f:J,Sem.run aj (Builtin.copy_ #[93,93] 3 #[.slice (aU b.a 1 ((av (i+
 (v.len:Int))).toNat) b.cap) (b.len-((av (i+(v.len:Int))).toNat)) (b.cap-((av (i+(v.len:Int))).toNat)),.slice (aU s.a 1 (i.toNat) s.cap) (s.len-(i.toNat)) (s.cap-(i.toNat))]) l=.ok n8 f/\Q
 b f) (((0:Int)<=(av ((s.len:Int)+(v.len:Int)))/\(av ((s.len:Int)+(v.len:Int)))<=(s.cap:Int))/\((0:Int)<=(av (i+(v.len:Int)))/\(av (i+(v.len:Int)))<=(((((av ((s.len:Int)+
 (v.len:Int))).toNat)-0):Nat):Int))/\∃g:al,∃c:J,Sem.run aj (callFunc 248 #[v,.slice (aU (aU s.a 1 0 s.cap) 1 ((av (i+(v.len:Int))).toNat) (s.cap-0))
 ((((av ((s.len:Int)+(v.len:Int))).toNat)-0)-((av (i+(v.len:Int))).toNat)) ((s.cap-0)-((av (i+(v.len:Int))).toNat))]) w=.ok (.value g) c/\an (!g) (aq (c.drew) λm=>((0:Int)<=(av (i+
 (v.len:Int)))/\(av (i+(v.len:Int)))<=(((((av ((s.len:Int)+(v.len:Int))).toNat)-0):Nat):Int))/\((0:Int)<=i/\i<=(((((av ((s.len:Int)+(v.len:Int))).toNat)-0):Nat):Int))/\∃n13:Int,∃h:J,Sem.run
 aj (Builtin.copy_ #[93,93] 3 #[.slice (aU (aU s.a 1 0 s.cap) 1 ((av (i+(v.len:Int))).toNat) (s.cap-0)) ((((av ((s.len:Int)+(v.len:Int))).toNat)-0)-((av (i+
 (v.len:Int))).toNat)) ((s.cap-0)-((av (i+(v.len:Int))).toNat)),.slice (aU (aU s.a 1 0 s.cap) 1 (i.toNat) (s.cap-0)) ((((av ((s.len:Int)+(v.len:Int))).toNat)-0)-(i.toNat)) ((s.cap-0)-(i.toNat))]) m=
 .ok n13 h/\((0:Int)<=i/\i<=(((((av ((s.len:Int)+(v.len:Int))).toNat)-0):Nat):Int))/\∃n15:Int,∃j:J,Sem.run aj (Builtin.copy_ #[93,93] 3 #[.slice (aU (aU
 s.a 1 0 s.cap) 1 (i.toNat) (s.cap-0)) ((((av ((s.len:Int)+(v.len:Int))).toNat)-0)-(i.toNat)) ((s.cap-0)-(i.toNat)),v]) h=.ok n15 j/\Q (.slice (aU s.a 1 0 s.cap)
 (((av ((s.len:Int)+(v.len:Int))).toNat)-0) (s.cap-0)) j) (((0:Int)<=(s.len:Int)/\(s.len:Int)<=(((((av ((s.len:Int)+(v.len:Int))).toNat)-0):Nat):Int))/\∃n17:Int,∃k:J,Sem.run aj
 (Builtin.copy_ #[93,93] 3 #[.slice (aU (aU s.a 1 0 s.cap) 1 (Int.toNat (s.len:Int)) (s.cap-0)) ((((av ((s.len:Int)+(v.len:Int))).toNat)-0)-(Int.toNat (s.len:Int))) ((s.cap-0)-(Int.toNat
 (s.len:Int))),v]) c=.ok n17 k/\((0:Int)<=i/\i<=(((((av ((s.len:Int)+(v.len:Int))).toNat)-0):Nat):Int))/\gm 249 #[.slice (aU (aU s.a 1 0 s.cap) 1
 (i.toNat) (s.cap-0)) ((((av ((s.len:Int)+(v.len:Int))).toNat)-0)-(i.toNat)) ((s.cap-0)-(i.toNat)),.int .i64 (v.len:Int)] k λn=>Q (.slice (aU s.a 1 0 s.cap) (((av ((s.len:Int)+
 (v.len:Int))).toNat)-0) (s.cap-0)) n))))
def aw.sX:aL:=(.q (.q (.q (.s a1 (.q (.s a1 (.s (.q (.c (.q (.q (.s (.e 8 false [0,0,0,1002001,1003000,0,0,1006005,1007004] [9046] [10,2,8,1048047,1049046,1,2,1052051,1053050] (.z 8 0 .e)) (.q .l)))) .l))
 (.q (.s (.q (.c (.s (.e 8 false [0,0,0,1002001,1003000,0,0,1006005,1007004] [9069] [1,2,8,1071070,1072069,1,2,1075074,1076073] (.z 8 0 .e)) (.q (.q .l))) .l)) a3)))))))))
def ae.kS(a:ad)(b:ad)(w:J)(Q:aa->J->Prop):Prop:=∃b2:Int,∃ai:J,Sem.run aj (callFunc 259 #[a,b]) w=.ok (.value b2) ai/\Q b2 ai
def aw.kS:aL:=(.q (.q .l))
def ae.sY(x:ad)(target:ad)(cmp:g8)(w:J)(Q:aa->J->Prop):Prop:=∃ (d:Int->Int->J->Prop) (e:Int->Int->J->Nat),d 0 (x.len:Int) w/\∀ (b:Int)
 (cg:Int) (c:J),d b cg c->an (decide (b<cg)) ((0:Int)<=1/\∃dU:ah,x.a=some dU/\((0:Int)<=(av (Int.fdiv (IntKind.wrap .u64 (av (b+cg))) (2^(min (Int.toNat 1) 64))))/\(av (Int.fdiv (IntKind.wrap .u64 (av
 (b+cg))) (2^(min (Int.toNat 1) 64))))<(x.len:Int))/\r1 c (dU.add (Int.toNat (av (Int.fdiv (IntKind.wrap .u64 (av (b+cg))) (2^(min (Int.toNat 1) 64))))*1)) λh=>gW aj cmp.f/\Calls aj cmp.f (cmp.pre
 ++ #[.slice h.a h.len h.cap,.slice target.a target.len target.cap]++cmp.cap) c λk g=>∃n10:Int,k=.returned (.int .i64 n10)/\an (decide (n10<0)) (d (av ((av (Int.fdiv (IntKind.wrap .u64 (av (b+cg))) (2^(min
 (Int.toNat 1) 64))))+1)) cg g/\e (av ((av (Int.fdiv (IntKind.wrap .u64 (av (b+cg))) (2^(min (Int.toNat 1) 64))))+1)) cg g<e b cg c) (d b (av (Int.fdiv (IntKind.wrap .u64 (av (b+cg))) (2^(min (Int.toNat 1) 64)))) g
 /\e b (av (Int.fdiv (IntKind.wrap .u64 (av (b+cg))) (2^(min (Int.toNat 1) 64)))) g<e b cg c)) (bX (λj:al->J->Prop=>an (decide (b<(x.len:Int))) (∃df:ah,x.a=some df/\aN b x.len/\r1 c (df.add
 (Int.toNat b*1)) λi=>gW aj cmp.f/\Calls aj cmp.f (cmp.pre++ #[.slice i.a i.len i.cap,.slice target.a target.len target.cap]++cmp.cap) c λl m=>∃n16:Int,l=.returned (.int .i64 n16)/\
 j (n16==0) m) (j false c)) (λ(n:al) o=>Q (.tuple #[.int .i64 b,.bool n]) o))
def aw.sY:aL:=(.q (.q (.q (.s (.bY (.loop [(9,(.int .i64)),(10,(.int .i64))] [0,1,2,8] (.s (.q (.c .l .l)) (.bY (.q (.q (.c .r .r))))))) (.s (.z [15,25]) .l)))))
def ae.sZ(s:ad)(f:g8)(w:J)(Q:aa->J->Prop):Prop:=bW 260 #[s,.func (.func f.f) f.pre f.cap] w λa w1=>Q (.bool
 (decide (a>=0))) w1
def aw.sZ:aL:=(.q (.q .l))
def ae.s0(s:ad)(f:g8)(w:J)(Q:aa->J->Prop):Prop:=bW 261 #[s,.func (.func f.f) f.pre f.cap] w λa w1=>Q (.bool (decide (a>=0))) w1
def aw.s0:aL:=(.q (.q .l))
def ae.s3(s:ad)(w:J)(Q:aa->J->Prop):Prop:=an (Option.isNone s.a) (Q () w) (aq (w.alloc (.cells #[] 3)) λw1=>∃s2:ad,∃b:J,Sem.run aj (Builtin.append_
 #[72,72] 72 #[.slice (some (Y w)) 0 0,s]) w1=.ok s2 b/\Q s2 b)
def aw.s3:aL:=df
set_option maxRecDepth 100000
def ae.qS(s:ad)(f:g8)(w:J)(Q:aa->J->Prop):Prop:=∃ (d:Int->J->Prop) (h:Int->J->Nat),d 0 w/\∀ (b:Int) (c:J),d b c->an (decide (b<(s.len:Int)))
 (∃a5:ah,s.a=some a5/\aN b s.len/\r1 c (a5.add (Int.toNat b*1)) λe=>gW aj f.f/\Calls aj f.f (f.pre++ #[.slice e.a e.len e.cap]++f.cap) c λj g=>∃i:al,j=.returned (.bool i)/\
 an i (Q (.int .i64 b) g) (d (av (b+1)) g/\h (av (b+1)) g<h b c)) (Q (.int .i64 (-1)) c)
def aw.qS:aL:=iS
theorem ae.Db(s:ad)(f:g8)(w:J)(Q:aa->J->Prop)(h:ae.qS s f w Q):aJ aj 260 #[.slice s.a s.len s.cap,.func (.func f.f) f.pre f.cap] w Q:=okF (λw Q=>ae.qS s f w Q) aw.qS func260 h
def ae.qT(s:ad)(f:g8)(w:J)(Q:aa->J->Prop):Prop:=∃ (d:Int->J->Prop) (g:Int->J->Nat),d 0 w/\∀ (b:Int) (c:J),d b c->an (decide (b<(s.len:Int))) (∃a5:
 ah,s.a=some a5/\aN b s.len/\aD c (a5.add (Int.toNat b*1)) λn6=>gW aj f.f/\Calls aj f.f (f.pre++ #[.int .i64 n6]++f.cap) c λi e=>∃h:al,i=.returned (.bool h)/\an h (Q (.int .i64
 b) e) (d (av (b+1)) e/\g (av (b+1)) e<g b c)) (Q (.int .i64 (-1)) c)
def aw.qT:aL:=iS
theorem ae.Dc(s:ad)(f:g8)(w:J)(Q:aa->J->Prop)(h:ae.qT s f w Q):aJ aj 261 #[.slice s.a s.len s.cap,.func (.func f.f) f.pre f.cap] w Q:=okF (λw Q=>ae.qT s f w Q) aw.qT func261 h
def ae.s4(s:ad)(w:J)(Q:aa->J->Prop):Prop:=an (Option.isNone s.a) (Q () w) (aq (w.alloc (.cells #[] 39)) λw1=>∃s2:ad,∃b:J,Sem.run aj
 (Builtin.append_ #[93,93] 93 #[.slice (some (Y w)) 0 0,s]) w1=.ok s2 b/\Q s2 b)
def aw.s4:aL:=df
set_option maxRecDepth 100000
def ae.lz(a:au ah)(eA:Int)(w:J)(Q:aa->J->Prop):Prop:=an (((Option.isNone a)||(decide (eA<1)))||(decide (eA>64))) (Q (.tuple #[.pointer none,(1:Int)]) w) (aq (w.alloc (.cells
 #[a,(),eA] 110)) λw1=>Q (.tuple #[.pointer (some (Y w)),(0:Int)]) w1)
def aw.lz:aL:=a5
def ae.nz(s:au ah)(now:Int)(w:J)(Q:aa->J->Prop):Prop:=an (Option.isNone s) (Q (.tuple #[(0:Int),(1:Int)]) w) (aq (w.drew) λw1=>∃a:Nat->Prop,∃a3:ah,s=some a3/\¬
 a a3.block/\∃b:au ah,w1.cell? a3=some (b)/\∃a5:ah,s=some a5/\¬a (a5.add 1).block/\r1 w1 (a5.add 1) λd=>∃cX:ah,s=some cX/\¬a (cX.add 2).block/\aD w1 (cX.add 2) λn8=>wa
 45 #[b,d,.int .u64 now,n8] w1 λe n12 n13 c=>an (n13 !=0) (Q (.tuple #[(0:Int),n13]) c) (∃eD:ah,s=some eD/\st c (eD.add 1) e λf=>Q (.tuple #[n12,(0:Int)]) f))
def aw.nz:aL:=(.q (.s a1 (.s (.d 20 true [0,3000,0,3004,0,0,3009,1000000004488,2013,15,15,516,1000000393215,520] [0,3000,0,3004,0,0,3009,1000000004488,2013,15,4014] [14012,12,3026,3006]
 [1,3012,1,3016,2,1,3021,1000018382848,26,12,12,12,3026] (.z 13 0 (.out 13 false (.z 6 14 .e)))) fm)))
def ae.s5(s:au ah)(w:J)(Q:aa->J->Prop):Prop:=sS s Q w
def aw.s5:aL:=df
def ae.s6(s:au ah)(now:Int)(w:J)(Q:aa->J->Prop):Prop:=an (Option.isNone s) (Q (.tuple #[(0:Int),(1:Int)]) w) (∃a1:ah,s=some a1/\st w (a1.add 1) () λai=>
 ∃ (b:Int->J->Prop) (d:Int->J->Nat),b 0 ai/\∀ (n5:Int) (c:J),b n5 c->fQ 11 #[s,.int .u64 now] c λn9 n10 a=>an (n10 !=0) (Q (.tuple #[(0:Int),n10]) a) (∃
 d_:ah,s=some d_/\r1 a (d_.add 1) λe=>an ((e.len:Int)==0) (Q (.tuple #[.int .i64 (av (n5+n9)),(0:Int)]) a) (b (av (n5+n9)) a/\d (av (n5+n9)) a<d n5 c)))
def aw.s6:aL:=(.q (.s a1 (.q (.q (.bY (.loop [(6,(.int .i64))] [0,1] (.bY (.q (.s a1 (.q a1))))))))))
def ae.s7(a:au ah)(w:J)(Q:aa->J->Prop):Prop:=jo 38 #[a] w λb w1=>bW 48 #[b] w1 λn6 c=>Q n6 c
def aw.s7:aL:=(.q (.q .l))
def ae.o8(n:Int)(w:J)(Q:aa->J->Prop):Prop:=an ((decide (n<16))||(decide (n>1600))) (Q (.tuple #[.pointer none,(1:Int)]) w) (((0:Int)<=n/\n<=n/\n<=jS/\((256:Nat):Int)*n<=
 140737488355328)/\aq (w.alloc (.cells (gy aj 151 (n.toNat)) 151)) λw1=>∃b:au Nat,∃a:J,Sem.run aj (Instr.makeMap 125 none) w1=.ok (.map b) a/\∃fo:
 Array aa,Sem.run aj (Instr.build 129 #[(1,.slice (some (Y w)) (n.toNat) (n.toNat)),(2,.map b)]) a=.ok (.agg fo) a/\aq (a.alloc (.cells fo 129)) λc=>∃dU:ah,(some (Y a):au
 ah)=some dU/\gm 52 #[.pointer (some dU)] c λd=>Q (.tuple #[.pointer (some (Y a)),(0:Int)]) d)
def aw.o8:aL:=(.q (.s d_ a3))
def ae.nA(d:au ah)(s:Int)(t:Int)(u:Int)(w:J)(Q:aa->J->Prop):Prop:=aq (w.alloc (.cells #[s,t,.int .u64 u] 64)) λw1=>
 aD w1 (Y w) λbp=>aD w1 ((Y w).add 1) λv=>cl w1 ((Y w).add 2) λcg=>b6 53 #[d,.agg #[bp,v,.int .u64 cg]] w1 λx l=>an (!x) (Q (.tuple #[.pointer none,(1:Int)]) l) (bW 55 #[d] l λn10 y=>gY 54 #[n10,(3:Int)] y λm n14 n=>an (n14 !=0) (Q (.tuple #[.pointer none,n14]) n) (bG 57 #[m] n λ
 z A=>dZ 56 #[(2:Int),.agg #[(4:Int),.int .u64 1,z]] A λB n21 f=>an (n21 !=0) (Q (.tuple #[.pointer none,n21]) f) (((0:Int)<=256/\(256:Int)<=256/\(256:
 Int)<=jS/\((1:Nat):Int)*256<=140737488355328)/\aq (f.alloc (.cells (gy aj 5 (Int.toNat 256)) 5)) λi=>∃o:Array aa,Sem.run aj (Instr.build 138 #[(0,.slice (some (Y f))
 (Int.toNat 256) (Int.toNat 256)),(1,.slice (some (Y f)) (Int.toNat 256) (Int.toNat 256)),(2,B)]) i=.ok (.agg o) i/\∃ (j:Int->J->Prop) (p:Int->J->Nat),j 0 i/\∀ (n26:Int)
 (g:J),j n26 g->an (decide (n26<3)) (((0:Int)<=n26/\n26<((3:Nat):Int))/\∃h:ad,cellAt o (n26.toNat*1)=some (.slice h.a h.len h.cap)/\bW 58 #[d,n26,h] g λn31 k=>an (n31 !=0) (Q (.tuple #[.pointer none,n31]) k) (j (av (n26+1)) k/\p (av (n26+1)) k<p n26 g)) (bW 59 #[d] g λn34 b=>an (n34 !=0)
 (Q (.tuple #[.pointer none,n34]) b) (aq (b.alloc iR) λq=>bC q (Y b) [(0:Int),(0:Int),(2:Int),.int .u64 0,.int .u64 0,(0:Int)]/\(6:Nat)=6/\aq (setCells q (Y b) 0 [(0:Int),
 .int .i64 0,(2:Int),.int .u64 0,.int .u64 0,(0:Int)]) λe=>aD e (Y b) λn37=>aD e ((Y b).add 1) λn38=>aD e ((Y b).add 2) λn39=>cl e ((Y b).add 3) λn40=>cl e (Addr.add
 (Y b) 4) λn41=>aD e ((Y b).add 5) λC=>bW 60 #[d,.agg #[n37,n38,n39,.int .u64 n40,.int .u64 n41,C],.int .u64 1] e λr c=>an (r !=0)
 (Q (.tuple #[.pointer none,r]) c) (aD c (Y w) λD=>aD c ((Y w).add 1) λE=>cl c ((Y w).add 2) λF=>aD c (Y b) λG=>aD c ((Y b).add 1) λH=>aD c ((Y
 b).add 2) λI=>cl c ((Y b).add 3) λK=>cl c ((Y b).add 4) λL=>aD c ((Y b).add 5) λM=>gY 61 #[d,.agg #[D,E,.int .u64 F],.agg #[G,H,I,.int .u64 K,.int .u64 L,M],.int .u64 1,m] c λN O P=>Q (.tuple #[N,O]) P))))))
def aw.nA:aL:=(.q (.s a1 (.q (.s a1 (.q (.s a1 (.q (.s (.q (.bY (.loop [(44,(.int .i64))] [0,3,6,43] gh))) (.s (.q a1) (.q (.s (.q a1) (.q .l))))))))))))
theorem ae.Dd(d:au ah)(a:Int)(b:Int)(c:Int)(w:J)(Q:aa->J->Prop)(h:ae.nA d a b c w Q):aJ aj 21 #[d,.agg #[a,b,.int .u64 c]] w Q:=okF (λw Q=>ae.nA d a b c w Q) aw.nA func21 h
def ae.s8(s:au ah)(key:ad)(w:J)(Q:aa->J->Prop):Prop:=bX (λb7:al->J->Prop=>an (Option.isNone s) (b7 true w) (b6 63 #[key] w λh ai=>b7
 (!h) ai)) (λ(i:al) a=>an i (Q (.tuple #[false,(1:Int)]) a) (∃cX:ah,s=some cX/\aS a (cX.add 18) λj=>an j (Q (.tuple #[false,(8:Int)]) a) (∃a9:ah,s=some a9/\∃d:au ah,
 a.cell? a9=some (d)/\ml 64 #[d,key] a λo k n15 b=>an (n15 !=0) (bW 65 #[s,n15] b λn18 l=>Q (.tuple #[false,
 n18]) l) (an (!k) (Q (.tuple #[false,(0:Int)]) b) (bW 66 #[s] b λn21 c=>an (n21==0) (Q (.tuple #[false,(2:Int)]) c) (∃e:ah,s=some e/\∃f:au
 ah,c.cell? e=some (f)/\mm 67 #[f,key] c λp n27 g=>an (n27 !=0) (bW 65 #[s,n27] g λn30 m=>Q (.tuple
 #[false,n30]) m) (bW 68 #[s,.int .i64 (-1)] g λn33 n=>Q (.tuple #[.bool (n33==0),n33]) n)))))))
def aw.s8:aL:=(.q (.s (.bY (.s (.z [9,10]) (.c (.q .l) a1))) (.q (.s (.bY (.q (.c (.q .l) eD))) (.s (.q a1) (.q (.q .l)))))))
def ae.s9(s:au ah)(key:ad)(val:ad)(w:J)(Q:aa->J->Prop):Prop:=bX (λb7:al->J->Prop=>an (Option.isNone s) (b7 true w) (b6 63 #[key] w λh
 ai=>b7 (!h) ai)) (λ(i:al) a=>an (i||(decide ((val.len:Int)>24))) (Q (1:Int) a) (∃cX:ah,s=some cX/\aS a (cX.add 18) λj=>an j (Q (8:Int) a) (bW 66 #[s] a λn11 b
 =>an (n11==0) (Q (2:Int) b) (∃df:ah,s=some df/\∃e:au ah,b.cell? df=some (e)/\ml 64 #[e,key] b λp k n18 c=>an (n18 !=0) (bW
 65 #[s,n18] c λn21 l=>Q n21 l) (∃f:ah,s=some f/\∃g:au ah,c.cell? f=some (g)/\bW 73 #[g,key,val] c λn26 d=>an (n26 !=0) (bW 65 #[s,n26] d λn29 m=>Q n29 m) (an k (bW 68 #[s,(0:Int)] d λn32
 n=>Q n32 n) (bW 68 #[s,(1:Int)] d λn35 o=>Q n35 o)))))))
def aw.s9:aL:=(.q (.s (.bY (.s (.z [9,10,12,11]) (.c (.q .l) eD))) (.q (.s a1 (.s (.q a1) (.s a1 (.q .l)))))))
def ae.o9(s:au ah)(most:Int)(w:J)(Q:aa->J->Prop):Prop:=an (((Option.isNone s)||(decide (most<1)))||(decide (most>400))) (Q (.tuple #[.pointer none,(1:Int)]) w) (aq (w.alloc (.cells
 #[s,most] 120)) λw1=>Q (.tuple #[.pointer (some (Y w)),(0:Int)]) w1)
def aw.o9:aL:=a5
def ae.s_(a:au ah)(w:J)(Q:aa->J->Prop):Prop:=an (Option.isNone a) (Q (.pointer none) w) (∃a1:ah,a=some a1/\∃bd:au ah,w.cell? a1=some (bd)/\Q (bd) w)
def aw.s_:aL:=df
def ae.qU(a:au ah)(t:Array aa)(w:J)(Q:aa->J->Prop):Prop:=aq (w.alloc (.cells t 57)) λw1=>bX (λcA:al->J->Prop=>an (Option.isNone a) (cA true w1) (∃h:O
 aa,bV w1 (Y w) 0 21=some h/\b6 96 #[.agg h.toArray] w1 λu v=>cA (!u) v)) (λ(x:al) c=>an x (Q (1:Int) c) (aD c (Y w) λn9=>∃i:O aa,bV c ((Y w).add 1) 0 18=
 some i/\iQ 97 #[n9,.agg i.toArray] c λe C f=>aD f ((Y w).add 19) λn15=>cl f ((Y w).add 20) λn16=>iQ 98 #[n15,.int .u64 n16] f λj D k=>∃l:
 ah,a=some l/\∃m:au ah,k.cell? l=some (m)/\ml 50 #[m,e] k λE y n27 n=>an (n27 !=0) (Q n27 n) (aq (n.drew) λb=>
 ∃o:Nat->Prop,an (!y) (∃g:ah,a=some g/\¬o (g.add 1).block/\aD b (g.add 1) λn31=>bW 17 #[a] b λn34 d=>af o b d/\an (decide (n34>=n31)) (Q (2:Int) d) (∃
 p:ah,a=some p/\∃q:au ah,d.cell? p=some (q)/\bW 27 #[q,e,j] d λn39 z=>Q n39 z)) (an false (Q
 (2:Int) b) (∃r:ah,a=some r/\∃s:au ah,b.cell? r=some (s)/\bW 27 #[s,e,j] b λA B=>Q A B)))))
def aw.qU:aL:=(.q (.s dU (.q (.q (.q (.s (.bY (.q (.c (.q .l) (.s (.d 9 true [0,3000,1003002,3,1005002,1006002,1007002,1008004002,1009002,1010004] [0,3000,1003002,3,1005002,1006002,1007002,1008004002,1009002,11] [11050,50]
 [11,2050,1052000,1053052,1052000,1055052,1056052,1057052,1058054052,1059052,61] (.z 3 0 (.sp 52 (.t 3 (.z 4 5 (.bZ 4 (.tail [.r,.r,.r])))) (.z 6 3 (.tail [.r,.r,.r]))))) (.c (.q .l) .l))))) (.q .l)))))))
theorem ae.De(a:au ah)(t:Array aa)(w:J)(Q:aa->J->Prop)(h:ae.qU a t w Q):aJ aj 43 #[a,.agg t] w Q:=okF (λw Q=>ae.qU a t w Q) aw.qU func43 h
def ae.ta(a:au ah)(i:ad)(now:Int)(most:Int)(w:J)(Q:aa->J->Prop):Prop:=aq (w.alloc (.cells #[.int .u64 now] 23)) λw1=>an (Option.isNone a) (Q (.tuple #[(),
 .int .i64 0,(1:Int)]) w1) (∃bp:Int,∃d:J,Sem.run aj (Builtin.min_ #[3,3] 3 #[most,(64:Int)]) w1=.ok bp d/\an (decide (bp<1)) (Q (.tuple #[(),(0:Int),
 .int .i64 0]) d) (∃a4:ah,a=some a4/\∃e:au ah,d.cell? a4=some (e)/\dZ 102 #[e,i,(),.int .i64 (av (bp+1))] d λb n9 c=>
 an (n9 !=0) (Q (.tuple #[(),(0:Int),n9]) c) (bX (λf:ad->ad->J->Prop=>an (decide ((b.len:Int)>bp)) (((0:Int)<=bp/\bp<=(b.cap:Int))/\∃d_:ah,(aU b.a 2 0 b.cap)=
 some d_/\((0:Int)<=(av (bp-1))/\(av (bp-1))<((((bp.toNat)-0):Nat):Int))/\r1 c (d_.add ((av (bp-1)).toNat*2)) λj=>aq (c.alloc (.cells #[.int .u8 0] 5)) λg=>aq (g.alloc (.cells #[j,.slice (some (Y c)) 1 1] 39)) λk=>bG 103 #[.slice (some (Y g)) 2 2] k λl m=>f l ⟨(aU b.a 2 0 b.cap),((bp.toNat)-0),(b.cap-0)⟩ m) (f ⟨none,0,0⟩ b c))
 (λ(n:ad) (o:ad) p=>fQ 104 #[a,o,.func (.func 105) #[] #[.pointer (some (Y w))]] p λn23 n24 h=>an (n24 !=0) (Q (.tuple #[(),
 .int .i64 0,n24]) h) (Q (.tuple #[n,n23,(0:Int)]) h)))))
def aw.ta:aL:=(.q (.s a1 (.q (.s a1 (.q (.s a1 (.s (.fl [(8,.slice),(11,.slice)] [0,6] (.q (.c (.q .r) .l))) df)))))))
def ae.wC(s:au ah)(w:J)(Q:aa->J->Prop):Prop:=an (Option.isNone s) (Q (0:Int) w) (∃a1:ah,s=some a1/\aD w (a1.add 17) λbp=>Q bp w)
def aw.wC:aL:=df
def ae.tb(s:au ah)(key:ad)(w:J)(Q:aa->J->Prop):Prop:=an (Option.isNone s) (Q (.tuple #[(),false,(1:Int)]) w) (∃a1:ah,s=some a1/\∃bd:au ah,w.cell? a1
 =some (bd)/\ml 64 #[bd,key] w λa b n7 c=>Q (.tuple #[a,b,n7]) c)
def aw.tb:aL:=df
def ae.o_(key:ad)(val:ad)(w:J)(Q:aa->J->Prop):Prop:=aq (w.alloc hC) λw1=>mn 106 #[key,(0:Int),(2:Int)] w1 λcg C ai=>an (((!C)||(decide ((key.len:Int)
 <4)))||((val.len:Int) !=10)) (∃e:Array aa,Sem.run aj (Instr.build 57 #[]) ai=.ok (.agg e) ai/\bC ai (Y w) (Array.toList e)/\Array.size e=21/\aq (setCells ai (Y w) 0 (Array.toList e)) λn
 =>∃o:O aa,bV n (Y w) 0 21=some o/\Q (.tuple #[.agg o.toArray,false]) n) (((0:Int)<=4/\4<=(key.len:Int))/\jT 107 #[.slice (aU key.a 1 (Int.toNat 4) key.cap) (key.len-(Int.toNat 4)) (key.cap-
 (Int.toNat 4))] ai λi M d=>aq (d.alloc z3) λp=>bC p (Y d) (Array.toList i)/\Array.size i=17/\aq (setCells p (Y d) 0 (Array.toList i)) λD=>mn 106 #[val,(0:Int),(2:Int)] D λn17 N E=>mn 106 #[val,(2:Int),(8:Int)] E λn21 P F=>aq (F.drew) λb=>∃j:Nat->Prop,¬j ((Y d):ah).block/\∃q:O aa,
 bV b (Y d) 0 17=some q/\∃k:ah,key.a=some k/\aN 3 key.len/\¬j (k.add (Int.toNat 3*1)).block/\dN b (k.add (Int.toNat 3*1)) λn27=>∃r:Array aa,(∀s:J,Sem.run aj
 (Instr.build 55 #[(0,.agg q.toArray),(1,.int .i64 (av n27))]) s=.ok (.agg r) s)/\∃f:Array aa,(∀t:J,Sem.run aj (Instr.build 57 #[(0,.int .i64 (av cg)),(1,.agg r),(2,.int
 .i64 (av n17)),(3,.int .u64 n21)]) t=.ok (.agg f) t)/\aq (b.alloc hC) λl=>af j b l/\bC l (Y b) (Array.toList f)/\Array.size f=21/\aq (setCells l (Y b) 0 (Array.toList f)) λm=>aD
 m (Y b) λn34=>∃u:O aa,bV m ((Y b).add 1) 0 18=some u/\iQ 97 #[n34,.agg u.toArray] m λG H v=>bX (λx:al->J->Prop=>an (!H) (x true v) (b6
 108 #[G,key] v λI K=>x (!I) K)) (λ(L:al) c=>an L (∃g:Array aa,Sem.run aj (Instr.build 57 #[]) c=.ok (.agg g)
 c/\bC c (Y w) (Array.toList g)/\Array.size g=21/\aq (setCells c (Y w) 0 (Array.toList g)) λy=>∃z:O aa,bV y (Y w) 0 21=some z/\Q (.tuple #[.agg z.toArray,false]) y) (∃h:
 O aa,bV c (Y b) 0 21=some h/\bC c (Y w) (Array.toList h.toArray)/\Array.size h.toArray=21/\aq (setCells c (Y w) 0 (Array.toList h.toArray)) λA=>∃B:O aa,bV A (Y w) 0 21=
 some B/\Q (.tuple #[.agg B.toArray,true]) A)))
def aw.o_:aL:=(.q (.q (.s (.s (.z [9,11,12,11]) (.c (.q .l) .l)) (.q (.q (.q (.s (.d 13 true [0,1,0,0,3003,1006002,0,9,0,1000000001666,0,513] [0,1,0,0,3003,1006002,0,9,0,1000000001666,0,1012011] [12050,15,0]
 [7,51,9,1,3053,1056052,11,59,13,1875750244799811584,0,1061014] (.z 12 0 (.bZ 12 .e))) (.q (.s (.s (.z [9,13]) (.c (.q .l) .l)) (.q .l))))))))))
def ae.tc(f:au ah)(w:J)(Q:aa->J->Prop):Prop:=∃ (c:Int->J->Prop) (d:Int->J->Nat),c 0 w/\∀ (a:Int) (b:J),c a b->an (decide (a<4)) (∃a5:ah,f=some a5/\
 ((0:Int)<=a/\a<((4:Nat):Int))/\st b (Addr.add a5 (a.toNat*1)) (.int .i64 (-1)) λe=>c (av (a+1)) e/\d (av (a+1)) e<d a b) (Q (.tuple #[]) b)
def aw.tc:aL:=(.q (.bY (.loop [(3,(.int .i64))] [0] a2)))
def ae.pb(d:au ah)(l:Int)(m:Int)(n:Int)(w:J)(Q:aa->J->Prop):Prop:=aq (w.alloc (.cells #[l,m,.int .u64 n] 64)) λw1=>
 bX (λcA:al->J->Prop=>an (!(Option.isNone d)) (aD w1 (Y w) λo=>cA (decide (o>=8)) w1) (cA false w1)) (λ(p:al) a=>bX (λg:al->J->Prop=>an p (aD a (Y w) λn7=>g (decide (n7<=64)) a)
 (g false a)) (λ(q:al) b=>bX (λh:al->J->Prop=>an q (aD b ((Y w).add 1) λn11=>h (decide (n11>=1)) b) (h false b)) (λ(r:al) c=>bX (λi:al->J->Prop=>an r (aD c
 ((Y w).add 1) λn15=>i (decide (n15<=1000)) c) (i false c)) (λ(s:al) e=>bX (λj:al->J->Prop=>an s (cl e ((Y w).add 2) λn19=>j (decide (n19>=1)) e) (j false e)) (λ
 (t:al) f=>bX (λk:al->J->Prop=>an t (cl f ((Y w).add 2) λn23=>k (decide (n23<=1048576)) f) (k false f)) (λ(u:al) v=>Q u v))))))
def aw.pb:aL:=(.q (.s (.z [9,10,12,10,12,10,12,10,12,10,12,10]) .l))
def ae.pc(n:Int)(first:Int)(w:J)(Q:aa->J->Prop):Prop:=b6 109 #[n] w λg w1=>an (((!g)||(decide (first<0)))||(decide (first>n))) (Q (.tuple #[.pointer none,(1:Int)])
 w1) (bW 110 #[n] w1 λn6 d=>((0:Int)<=n6/\n6<=n6/\n6<=jS/\((1:Nat):Int)*n6<=140737488355328)/\aq (d.alloc (.cells (gy aj 5 (n6.toNat)) 5)) λb=>aq (b.alloc (.cells
 #[n,.slice (some (Y d)) (n6.toNat) (n6.toNat),()] 209)) λh=>∃ (c:Int->J->Prop) (e:Int->J->Nat),c 0 h/\∀ (n11:Int) (a:J),c n11 a->an (decide (n11<
 first)) (∃eC:ah,(some (Y b):au ah)=some eC/\r1 a (eC.add 1) λi=>gm 111 #[i,n11] a λf=>c (av (n11+1)) f/\e (av (n11+1)) f<e n11 a)
 (gm 112 #[.pointer (some (Y b))] a λj=>Q (.tuple #[.pointer (some (Y b)),(0:Int)]) j))
def aw.pc:aL:=(.q (.s (.s (.z [12,8,9,11]) (.c (.q .l) .l)) (.q (.s (.q (.bY (.loop [(27,(.int .i64))] [6,26] a2))) (.q (.q .l))))))
def ae.td(d:au ah)(w:J)(Q:aa->J->Prop):Prop:=an (Option.isNone d) (Q (0:Int) w) (∃a1:ah,d=some a1/\r1 w (a1.add 4) λs2=>Q (.int .i64 (s2.len:Int)) w)
def aw.td:aL:=df
def ae.te(no:Int)(u:Int)(v:Int)(x:ad)(w:J)(Q:aa->J->Prop):Prop:=aq (w.alloc (.cells #[u,.int .u64 v,x] 137)) λw1=>
 b6 113 #[no] w1 λy ai=>bX (λj:al->J->Prop=>an (!y) (j true ai) (aD ai (Y w) λn6=>b6 114 #[n6] ai λz A=>j (!z) A)) (λ(B:al) f=>an B (Q (.tuple
 #[(),(1:Int)]) f) (r1 f ((Y w).add 2) λC=>an (decide ((C.len:Int)>232)) (Q (.tuple #[(),(10:Int)]) f) (aq (f.alloc (.cells #[.int .u8 83,.int .u8 84,.int .u8 78,.int .u8 67]
 5)) λD=>∃k:ad,∃g:J,Sem.run aj (convert 39 39 (.slice (some (Y f)) 4 4)) D=.ok k g/\aD g (Y w) λn16=>aq (g.alloc (.cells #[.int .u8 1,
 .int .u8 (IntKind.wrap .u8 n16)] 5)) λl=>aq (l.alloc (.cells #[k,.slice (some (Y g)) 2 2] 39)) λE=>bG 103 #[.slice (some (Y l)) 2 2] E λF m=>r1 m
 ((Y w).add 2) λG=>bG 115 #[F,.int .u64 (IntKind.wrap .u64 (G.len:Int)),(2:Int)] m λH I=>bG 115 #[H,.int .u64 (IntKind.wrap .u64 no),(4:Int)] I λK n=>cl n ((Y w).add 1) λn29=>bG 115 #[K,.int .u64 n29,(8:Int)] n λo L=>bX (λp:ad->J->Prop=>aq (L.drew) λb=>∃d:Nat->Prop,¬
 d ((Y w).add 2).block/\r1 b ((Y w).add 2) λq=>¬d ((Y w).add 2).block/\r1 b ((Y w).add 2) λe=>(((0:Int)<=4/\(4:Int)<=4/\(4:Int)<=jS/\((1:Nat):Int)*4<=140737488355328)/\aq
 (b.alloc (.cells (gy aj 5 (Int.toNat 4)) 5)) λh=>af d b h/\(wm e)/\aq (h.alloc (.cells (gy aj 5 ((av (232-(e.len:Int))).toNat)) 5)) λr=>af d h r/\
 wo r o b q h e p)/\((wm e)/\aq (b.alloc (.cells (gy aj 5 ((av (232-(e.len:Int))).toNat)) 5)) λi=>af d b i/\((0:Int)<=4/\(4:Int)<=4/\(4:Int)<=jS/\((1:Nat):
 Int)*4<=140737488355328)/\aq (i.alloc (.cells (gy aj 5 (Int.toNat 4)) 5)) λs=>af d i s/\wo s o i q b e p)) (λ(c:ad) M=>aq (M.drew) λN=>∃U:Nat->Prop,((0:
 Int)<=20/\20<=(c.len:Int))/\mo 116 #[c] N λO P=>∃V:Nat->Prop,bG 115 #[(),.int .u64 (IntKind.wrap .u64 O),(4:Int)] P λR S=>∃T:Int,∃t
 :J,Sem.run aj (Builtin.copy_ #[39,39] 3 #[.slice (aU c.a 1 (Int.toNat 20) c.cap) (c.len-(Int.toNat 20)) (c.cap-(Int.toNat 20)),R]) S=.ok T t
 /\Q (.tuple #[c,(0:Int)]) t))))
def aw.te:aL:=(.q (.s (.bY (.s (.z [12,13]) (.c (.q .l) a1))) (.q (.q (.q (.q (.s (.fl [(6,.slice)] [] (.d 9 true [0,0,0,3,0,4004,1000000000267,10,511] [0,0,0,3,0,4004,1000000000267,10,1010000] [11044,7]
 [7,0,4,47,4,4048,4698113673859072,2053] (.t 0 (.z 6 2 (.two 1 (.bZ 8 (.tail [.r,.r,.r])) 8 (.bZ 1 (.tail [.r,.r,.r]))))))) (.s (.d 6 true [0,1,0,2002,1004003,1005001] [0,1,0,3002,1005001] [7055] [7,56,7,3057,1060056] (.z 3 0 (.out 3
 true (.t 4 (.out 5 false .e))))) (.q .l)))))))))
def ae.qV(s:au ah)(w:J)(Q:aa->J->Prop):Prop:=sS s Q w
def aw.qV:aL:=df
theorem ae.Df(s:au ah)(w:J)(Q:aa->J->Prop)(h:ae.qV s w Q):aJ aj 57 #[s] w Q:=okF (λw Q=>ae.qV s w Q) aw.qV func57 h
def ae.tf(d:au ah)(i:Int)(b:ad)(w:J)(Q:aa->J->Prop):Prop:=b6 85 #[d,i] w λs w1=>an ((!s)||((b.len:Int) !=256)) (Q (1:Int) w1) (∃a4:
 ah,d=some a4/\b6 117 #[.pointer (some a4),(2:Int)] w1 λt n=>an t (Q (3:Int) n) (aq (n.drew) λe=>∃c:Nat->Prop,∃e5:ah,d=some e5/\¬c (e5.add 5).block/\∃h:au Nat,
 e.cell? (e5.add 5)=some (.map h)/\∃df:ah,d=some df/\¬c (df.add 5).block/\∃j:au Nat,e.cell? (df.add 5)=some (.map j)/\256<=b.len/\∃eD:ah,b.a=some eD/\¬c eD.block/\∃k:O aa,
 bV e eD 0 256=some k/\(∃o:ad,∃f:J,Sem.run aj (Instr.lookup 125 (.map j) i false) e=.ok o f/\af c e f/\∃p:ad,∃l:J,
 Sem.run aj (Instr.buildSlice 124 1 #[(0,.agg k.toArray)]) f=.ok p l/\af c f l/\wi o p l c h i d Q)/\(∃q:ad,∃g:J,Sem.run aj (Instr.buildSlice
 124 1 #[(0,.agg k.toArray)]) e=.ok q g/\af c e g/\∃r:ad,∃m:J,Sem.run aj (Instr.lookup 125 (.map j) i false) g=.ok r m/\af c g m/\wi r q m c h i d Q)))
def aw.tf:aL:=(.q (.s (.bY (.s (.z [15,11]) (.c (.q .l) a1))) (.s (.d 16 true [0,3000,0,0,3005,0,1009008,0,3011,1014010,516] [0,3000,0,0,3005,0,1009008,0,3011,1014010,1015004003] [16022,0]
 [1,3022,2,1,3027,2,1031030,3,3033,1036032,1037026025] (.z 10 0 (.z 3 11 (.two 10 (.bZ 14 (.bZ 15 .e)) 14 (.bZ 10 (.bZ 15 .e)))))) (.q (.q .l)))))
def ae.tg(d:au ah)(w:J)(Q:aa->J->Prop):Prop:=an (Option.isNone d) (Q (1:Int) w) (∃a1:ah,d=some a1/\b6 117 #[.pointer (some a1),(3:Int)] w λj ai=>an j (Q
 (3:Int) ai) (∃a5:ah,d=some a5/\∃g:au Nat,ai.cell? (a5.add 5)=some (.map g)/\∃ (a:aa) (h:J),Sem.run aj (Instr.range 125 (.map g)) ai=.ok a h/\∃ (c:J->Prop)
 (i:J->Nat),c h/\∀ (b:J),c b->(∃ (k:aa) (l:aa) (e:J),Sem.run aj (Instr.next (a) false 0) b=.ok (.tuple #[true,k,l]) e/\an true (wh a e d c i b) (wq d e
 Q))\/(∃f:J,Sem.run aj (Instr.next (a) false 0) b=.ok (.tuple #[false]) f/\an false (wh a f d c i b) (wq d f Q))))
def aw.tg:aL:=(.q (.s (.bY eD) (.s (.q (.bY (.loop [] [0,16] (.q (.s (.c .l .l) (.bY (.s (.oN [.sj [(.one (.int .i64)),(.one .any)]]) (.d 8 true [0,3000,0,0,0,1006005,508,509] [0,3000,0,0,0,1006005,1004003,1008007]
 [9021,0] [1,3021,4,1,4,1027026,1025024,1029028] (.z 7 0 (.bZ 7 (.tail [.r,.r]))))))))))) (.q (.q .l)))))
def ae.mq(d:au ah)(i:Int)(j:Int)(k:Int)(l:Int)(m:Int)(n:Int)(gen:Int)(w:J)(Q:aa->J->Prop):Prop:=aq (w.alloc (.cells #[i,j,k,.int .u64 l,.int .u64 m,n] 90)) λw1=>(2:Int)≠0/\aq (w1.drew) λai=>∃b:Nat->Prop,¬b ((Y w):ah).block/\aD ai (Y w) λcg=>aD ai (Addr.add
 (Y w) 1) λn5=>aD ai ((Y w).add 2) λn6=>cl ai ((Y w).add 3) λn7=>cl ai ((Y w).add 4) λn8=>aD ai ((Y w).add 5) λn9=>bW 55 #[d] ai λn12 c=>af b ai c/\bG
 119 #[.agg #[cg,n5,n6,.int .u64 n7,.int .u64 n8,n9],n12] c λo e=>∃p:Nat->Prop,∃f:Array aa,(∀g:J,Sem.run aj (Instr.build 137
 #[(0,.int .i64 3),(1,.int .u64 gen),(2,o)]) g=.ok (.agg f) g)/\dZ 56 #[.int .i64 (av (Int.tmod gen 2)),.agg f] e λq n22 a=>af p e a/\an (n22 !=0) (Q n22
 a) (bW 58 #[d,.int .i64 (av (Int.tmod gen 2)),q] a λn25 h=>an (n25 !=0) (Q n25 h) (bW 59 #[d] h λn28 r=>Q n28
 r))
def aw.mq:aL:=(.q (.q (.s (.d 12 true [0,0,0,0,4,1004002,1005001,1006005000,2007,9,510,512] [0,0,0,0,4,1004002,1005001,1006000,2007,3008] [8015,15,2023,2008] [8,3,5,1,19,1019017,1020016,1021015,23,15,15,2023] (.z 4 0 (.bZ 4
 (.out 5 true (.t 6 (.bZ 7 (.z 4 8 .e))))))) (.s a1 (.s (.q a1) (.q .l))))))
theorem ae.Dg(d:au ah)(a:Int)(b:Int)(c:Int)(e:Int)(f:Int)(g:Int)(gen:Int)(w:J)(Q:aa->J->Prop)(h:ae.mq d a b c e f g gen w Q):aJ aj 60 #[d,.agg #[a,b,c,.int .u64 e,.int .u64 f,g],.int .u64 gen] w Q:=okF (λw Q=>ae.mq d a b c e f g gen w Q) aw.mq func60 h
def ae.nB(d:au ah)(f:Int)(g:Int)(h:Int)(i:Int)(j:Int)(k:Int)(l:Int)(m:Int)(n:Int)(gen:Int)(s:au ah)(w:J)(Q:aa->J
 ->Prop):Prop:=aq (w.alloc (.cells #[f,g,.int .u64 h] 64)) λw1=>aq (w1.alloc (.cells #[i,j,k,.int .u64 l,.int .u64 m,
 n] 90)) λai=>aD ai (Y w) λo=>gY 120 #[d,o] ai λc n7 b=>an (n7 !=0) (Q (.tuple #[.pointer none,n7]) b) (aD b (Y w1) λn8=>aD b ((Y w1).add 1)
 λn9=>gY 121 #[c,s,.int .u64 (IntKind.wrap .u64 (gen+1)),n8,n9] b λp n13 a=>an (n13 !=0) (Q (.tuple #[.pointer none,n13]) a) (aD a (Y w) λn14=>aD a
 ((Y w).add 1) λn15=>cl a ((Y w).add 2) λn16=>aD a (Y w1) λn17=>aD a ((Y w1).add 1) λn18=>aD a ((Y w1).add 2) λn19=>cl a ((Y w1).add 3) λn20=>cl a ((Y w1).add 4)
 λn21=>aD a ((Y w1).add 5) λn22=>cl a ((Y w1).add 3) λn23=>aD a ((Y w1).add 5) λn24=>∃e:Array aa,Sem.run aj (Instr.build 146 #[(0,p),(1,d),(2,
 c),(3,s),(4,.agg #[n14,n15,.int .u64 n16]),(5,.agg #[n17,n18,n19,.int .u64 n20,.int .u64 n21,n22]),(6,.int .u64 gen),(7,.int .u64 n23),(10,
 n24)]) a=.ok (.agg e) a/\aq (a.alloc (.cells e 146)) λq=>Q (.tuple #[.pointer (some (Y a)),(0:Int)]) q))
def aw.nB:aL:=(.q (.q (.s a1 df)))
theorem ae.Dh(d:au ah)(a:Int)(b:Int)(c:Int)(e:Int)(f:Int)(g:Int)(i:Int)(j:Int)(k:Int)(gen:Int)(s:au ah)(w:J)(Q:aa->J->Prop)(h:ae.nB d a b c e f g i j k gen s w Q):aJ aj 61 #[d,.agg #[a,b,.int .u64 c],.agg #[e,f,g,.int .u64 i,.int .u64 j,k],.int .u64 gen,s] w Q:=okF (λw Q=>ae.nB d a b c e f g i j k gen s w Q) aw.nB func61 h
def ae.pd(a:ad)(w:J)(Q:aa->J->Prop):Prop:=Q (.bool ((decide ((a.len:Int)>=1))&&(decide ((a.len:Int)<=24)))) w
def aw.pd:aL:=cX
def ae.th(t:au ah)(key:ad)(w:J)(Q:aa->J->Prop):Prop:=bX (λb7:al->J->Prop=>an (Option.isNone t) (b7 true w) (b6 122 #[key] w λn ai=>b7 (!n)
 ai)) (λ(o:al) f=>an o (an (Option.isNone t) (Q (.tuple #[(),false,(1:Int)]) f) (Q (.tuple #[(),false,(0:Int)]) f)) (dZ 123 #[t,key] f λc n10 b=>an ((n10 !=0)||((c.len:Int)==0)) (Q (.tuple #[(),false,n10]) b) (∃d_:ah,c.a=some d_/\((0:Int)<=(av ((c.len:Int)-1))/\(av ((c.len:Int)-1))<
 (c.len:Int))/\aS b ((d_.add ((av ((c.len:Int)-1)).toNat*6)).add 1) λg=>r1 b (((d_.add ((av ((c.len:Int)-1)).toNat*6)).add 1).add 1) λh=>r1 b (((d_.add ((av ((c.len:Int)-1)).toNat*6)).add
 1).add 2) λi=>r1 b (((d_.add ((av ((c.len:Int)-1)).toNat*6)).add 1).add 3) λj=>aq (b.alloc z4) λk=>bC k (Y b) [g,h,i,j]/\(4:Nat)=4/\aq (setCells k (Y b) 0 [g,h,i,j]) λd=>aS d (Y b) λp=>r1 d ((Y b).add 1) λq=>
 r1 d ((Y b).add 2) λr=>r1 d ((Y b).add 3) λs=>jU 124 #[.agg #[p,q,r,s],key] d
 λn24 u e=>an (!u) (Q (.tuple #[(),false,(0:Int)]) e) (r1 e ((Y b).add 2) λl=>∃m:ah,l.a=some m/\aN n24 l.len/\r1 e (m.add (n24.toNat*1)) λv=>Q (.tuple
 #[v,true,(0:Int)]) e))))
def aw.th:aL:=(.q (.s (.s (.z [9,10]) (.c (.s a1 (.q .l)) .l)) (.q (.s e5 (.q df)))))
set_option maxRecDepth 100000
def ae.ti(s:au ah)(w:J)(Q:aa->J->Prop):Prop:=∃a1:ah,s=some a1/\∃bd:au ah,w.cell? a1=some (bd)/\fQ 128 #[bd] w λn5 n6 a=>∃cX:ah,s
 =some cX/\∃b:au ah,a.cell? (cX.add 3)=some (b)/\bW 129 #[b] a λn11 d=>∃n12:Int,∃c:J,Sem.run aj (Builtin.max_ #[3,3] 3 #[.int .i64 (av ((av (n11
 -(av (2*n6))))-4)),(0:Int)]) d=.ok n12 c/\Q n12 c
def aw.ti:aL:=a3
def ae.tj(t:au ah)(key:ad)(w:J)(Q:aa->J->Prop):Prop:=bX (λb7:al->J->Prop=>an (Option.isNone t) (b7 true w) (b6 122 #[key] w λl ai=>b7
 (!l) ai)) (λ(m:al) f=>an m (Q (.tuple #[false,(1:Int)]) f) (dZ 123 #[t,key] f λb n10 d=>an ((n10 !=0)||((b.len:Int)==0)) (Q (.tuple #[false,n10]) d) (∃d_:ah,b.a=some d_/\((0:Int)<=(av ((b.len:Int)-1))/\(av ((b.len:Int)-1))<(b.len:Int))/\aS d ((d_.add ((av ((b.len:Int)-1)).toNat*6)).add 1) λn=>r1 d (((d_.add ((av
 ((b.len:Int)-1)).toNat*6)).add 1).add 1) λo=>r1 d (((d_.add ((av ((b.len:Int)-1)).toNat*6)).add 1).add 2) λp=>r1 d (((d_.add ((av ((b.len:Int)-1)).toNat*6)).add 1).add 3) λq=>kR 130
 #[.agg #[n,o,p,q],key] d λg h i j r c=>aq (c.alloc z4) λk=>bC k (Y c) [g,
 h,i,j]/\(4:Nat)=4/\aq (setCells k (Y c) 0 [g,h,i,j])
 λe=>an (!r) (Q (.tuple #[false,(0:Int)]) e) (aS e (Y c) λs=>r1 e ((Y c).add 1) λu=>r1 e ((Y c).add 2) λv=>r1 e ((Y c).add 3) λx=>bW 131
 #[t,b,.agg #[s,u,v,x]] e λn31 y=>Q (.tuple #[.bool (n31==0),n31]) y))))
def aw.tj:aL:=(.q (.s dU (.q (.s e5 (.q fm)))))
def ae.tm(s:au ah)(keys:Int)(w:J)(Q:aa->J->Prop):Prop:=∃a1:ah,s=some a1/\aD w (a1.add 17) λbp=>∃a3:ah,s=some a3/\st w (a3.add 17) (.int .i64 (av (bp+keys))) λa=>
 bX (λc:J->Prop=>∃dU:ah,s=some dU/\aD a (dU.add 16) λn7=>an (n7==0) (∃eW:ah,s=some eW/\cl a (eW.add 14) λn9=>∃e5:ah,s=some e5/\st a (e5.add 15) (.int .u64 n9) λg=>c g) (c
 a)) (λd=>∃eC:ah,s=some eC/\aD d (eC.add 16) λn14=>∃fm:ah,s=some fm/\st d (fm.add 16) (.int .i64 (av (n14+1))) λh=>aq (h.drew) λb=>∃e:ah,s=some e/\¬False/\aD b
 (e.add 16) λn19=>∃f:ah,s=some f/\¬False/\aD b ((f.add 4).add 1) λn21=>an (decide (n19>=n21)) (bW 74 #[s] b λn24 i=>Q n24 i) (Q (0:Int) b))
def aw.tm:aL:=(.q (.q (.s (.fl [] [0] (.q (.c .r .l))) (.q (.s (.s (.e 9 false [0,3000,0,4004,1008003] [10032] [1,3032,1,4036,1040035] (.z 9 0 .e)) (.c (.q .l) .l)) (.q .l))))))
def ae.tn(t:au ah)(key:ad)(val:ad)(w:J)(Q:aa->J->Prop):Prop:=bX (λb7:al->J->Prop=>an (Option.isNone t) (b7 true w) (b6 122 #[key] w λv ai
 =>b7 (!v) ai)) (λ(x:al) l=>an (x||(decide ((val.len:Int)>24))) (Q (1:Int) l) (aq (l.drew) λi=>∃j:Nat->Prop,∃a9:ah,t=some a9/\¬j (a9.add 1).block/\∃m:au ah,i.cell? (a9.add 1)=
 some (m)/\∃d_:ah,t=some d_/\¬j (d_.add 4).block/\aD i (d_.add 4) λn12=>bW 129 #[m] i λn15 k=>af j i k/\an (decide (n15<(av ((av (2*n12))+3)))) (Q (2:Int)
 k) (dZ 123 #[t,key] k λb n19 c=>an (n19 !=0) (Q n19 c) (aq (c.alloc z4) λn=>bC n (Y c) [true,(),(),()]/\(4:Nat)=4/\aq (setCells n (Y c) 0 [true,(),(),()]) λe=>bX (λo:J->Prop=>an (decide ((b.len:Int)>0)) (∃g:ah,b.a=some g/\((0:Int)<=(av
 ((b.len:Int)-1))/\(av ((b.len:Int)-1))<(b.len:Int))/\aS e ((g.add ((av ((b.len:Int)-1)).toNat*6)).add 1) λy=>r1 e (((g.add ((av ((b.len:Int)-1)).toNat*6)).add 1).add 1) λz=>r1 e
 (((g.add ((av ((b.len:Int)-1)).toNat*6)).add 1).add 2) λA=>r1 e (((g.add ((av ((b.len:Int)-1)).toNat*6)).add 1).add 3) λB=>nv e c y z A B o) (o e)) (λh=>aS h (Y c) λ
 C=>r1 h ((Y c).add 1) λD=>r1 h ((Y c).add 2) λE=>r1 h ((Y c).add 3) λF=>kR 143 #[.agg #[C,D,E,F],key,val] h λp q r s G d=>aq (d.alloc z4) λu=>bC u (Y d) [p,q,r,
 s]/\(4:Nat)=4/\aq (setCells u (Y d) 0 [p,q,r,s]) λf=>an (!G) (Q (4:Int) f) (aS f (Y d)
 λH=>r1 f ((Y d).add 1) λI=>r1 f ((Y d).add 2) λK=>r1 f ((Y d).add 3) λL=>bW 131 #[t,b,.agg #[H,I,K,L]] f λM N=>Q M N))))))
def aw.tn:aL:=(.q (.s (.bY (.s (.z [9,10,12,11]) (.c (.q .l) (.s (.d 11 true [0,4000,0,5005,1010004,1011004] [0,4000,0,5005,1010004,12] [12026,26] [1,4026,1,5031,1036030,38] (.z 4 0 (.z 6 5 (.bZ 4 (.tail [.r,.r]))))) (.c
 (.q .l) .l))))) (.q (.s a1 (.q (.s (.fl [] [0,1,2,7,9] (.q (.c .r .l))) df))))))
def ae.tp(s:au ah)(w:J)(Q:aa->J->Prop):Prop:=∃a1:ah,s=some a1/\∃bd:au ah,w.cell? (a1.add 3)=some (bd)/\fQ 144 #[bd] w λn5 n6 y=>
 an (n6 !=0) (bW 65 #[s,n6] y λn9 al=>Q n9 al) (aq (y.drew) λi=>∃d_:ah,s=some d_/\¬False/\∃z:au ah,i.cell? (d_.add 3)=some (z)/\∃eC
 :ah,s=some eC/\¬False/\aD i ((eC.add 7).add 2) λn14=>bW 145 #[z,n14] i λn17 am=>aq (am.drew) λd=>∃e:Nat->Prop,∃j:ah,s=some j/\¬e (j.add
 13).block/\cl d (j.add 13) λn21=>∃k:ah,s=some k/\¬e (k.add 3).block/\∃A:au ah,d.cell? (k.add 3)=some (A)/\bG 57 #[A] d λao l=>af e d l
 /\∃B:Array aa,(∀C:J,Sem.run aj (Instr.build 137 #[(0,.int .i64 4),(1,.int .u64 (IntKind.wrap .u64 (n21+1))),(2,ao)]) C=.ok (.agg B) C)/\dZ 56 #[n5,.agg B] l λap n32 f=>af e l f/\an (n32 !=0) (bW 65 #[s,n32] f λn35 ar=>Q n35 ar) (∃D:ah,s=some D/\∃E:au ah,f.cell? (D.add
 2)=some (E)/\bW 146 #[E,n5,ap] f λn40 m=>an (n40 !=0) (bW 65 #[s,n40] m λav aw=>Q av aw) (∃
 F:ah,s=some F/\∃G:au ah,m.cell? (F.add 2)=some (G)/\bW 147 #[G] m λH n=>an (H !=0) (bW 65 #[s,H] n λax ay=>Q
 ax ay) (∃I:ah,s=some I/\∃K:au ah,n.cell? I=some (K)/\fQ 128 #[K] n λaz aA aB=>aq (aB.drew) λa=>∃g:Nat->Prop,∃o:ah,s=some
 o/\¬g (o.add 14).block/\cl a (o.add 14) λaC=>∃p:ah,s=some p/\¬g ((p.add 7).add 4).block/\cl a ((p.add 7).add 4) λaE=>∃q:ah,s=some q/\¬g (q.add 17).block/\aD a (q.add 17)
 λaF=>∃h:Array aa,(∀L:J,Sem.run aj (Instr.build 90 #[(0,az),(1,aA),(2,n5),(3,.int .u64 aC),(4,.int .u64 (IntKind.wrap .u64 (aE+1))),(5,aF)])
 L=.ok (.agg h) L)/\aq (a.alloc iR) λr=>af g a r/\bC r (Y a) (Array.toList h)/\Array.size h=6/\aq (setCells r (Y a) 0 (Array.toList h)) λaG=>aq (aG.drew) λb=>∃M:ah,s=
 some M/\¬False/\∃N:au ah,b.cell? (M.add 1)=some (N)/\¬False/\aD b (Y a) λaH=>aD b ((Y a).add 1) λaI=>aD b ((Y a).add 2) λaJ=>cl b ((Y a).add 3) λ
 aK=>cl b ((Y a).add 4) λaL=>aD b ((Y a).add 5) λaM=>∃O:ah,s=some O/\¬False/\cl b (O.add 13) λaN=>bW 60 #[N,.agg #[aH,aI,aJ,.int .u64 aK,.int .u64 aL,aM],.int .u64 (IntKind.wrap .u64 (aN+1))] b λP t=>an (P !=0) (bW 65 #[s,P] t λaO aP=>Q aO aP) (∃R:ah,s=
 some R/\∃S:au ah,t.cell? (R.add 3)=some (S)/\gm 112 #[S] t λaQ=>aq (aQ.drew) λc=>∃T:Nat->Prop,¬T ((Y a):ah).block/\aD c (Y a) λU=>aD
 c ((Y a).add 1) λV=>aD c ((Y a).add 2) λW=>cl c ((Y a).add 3) λX=>cl c ((Y a).add 4) λZ=>aD c ((Y a).add 5) λab=>∃u:ah,s=some u/\¬T (u.add
 13).block/\cl c (u.add 13) λaR=>∃v:ah,s=some v/\bC c (v.add 7) [U,V,W,.int .u64 X,.int .u64 Z,ab]/\(6:Nat)=6/\aq (setCells c (v.add 7) 0
 [U,V,W,.int .u64 X,.int .u64 Z,ab]) λaS=>∃ac:ah,s=some ac/\st aS (ac.add 13) (.int .u64 (IntKind.wrap .u64 (aR+1))) λaT=>∃ad:ah,s=some ad
 /\st aT (ad.add 16) (0:Int) λaU=>aq (aU.drew) λx=>∃ag:ah,s=some ag/\¬False/\∃ai:au ah,x.cell? ag=some (ai)/\∃ak:ah,s=some ak/\¬False/\cl x (ak.add
 13) λaV=>gm 148 #[ai,.int .u64 (IntKind.wrap .u64 (aV+1))] x λaW=>Q (0:Int) aW)))))
def aw.tp:aL:=(.q (.q (.s a1 (.s (.e 9 false [0,3000,0,4004,1008003] [10025] [1,3025,1,4029,1033028] (.z 9 0 .e)) (.s (.d 17 true [0,0,4001,0,4006,1010005,1011010000,2012,14,515,517]
 [0,0,4001,0,4006,1010005,1011000,2012,3013] [13036,36,2049,6,5] [4,1,4037,1,4042,1046041,1047036,49,36,36,2049] (.z 10 0 (.bZ 10 (.t 11 (.bZ 12 (.z 4 13 .e)))))) (.s a1 (.s (.q a1) (.s (.q a1) (.q (.s (.d 19 true
 [0,0,0,0,3003,0,5007,0,3013,1000000069703,0,519] [0,0,0,0,3003,0,5007,0,3013,1000000069703,0,1018017] [18086,11,0] [2008,4,1,3089,1,5093,1,3099,5393008409894303832330853486592,0,1103010] (.z 18 0 (.bZ 18 .e))) (.s (.s (.d 10 false
 [0,3000,0,0,4005,1009004003,511] [0,3000,0,0,4005,1009004003,11] [11104,12] [1,3104,11,1,4109,1113108107,115] (.z 10 0 (.tail [.r,.r]))) a1) (.q (.s (.d 15 true
 [0,0,0,0,0,4004,1007003000,1000000000649,1000000001161,1000000004091,1000000008187,1000000012283,515,516,1000000098303] [0,0,0,0,0,4004,1,10,1010003,2,13,1013008,3,2015] [11125,0,2136,0,2138,0]
 [1,1,1,11,1,4129,126,135,1135128,127,137,1137133,128,2138] (.z 11 0 (.out 11 false (.t 12 (.t 13 (.out 14 false (.tail [.r,.r,.r]))))))) (.s (.e 9 false [0,3000,0,4004,1008003] [10140] [1,3140,1,4144,1148143] (.z 9 0 .e)) (.q
 .l)))))))))))))))
def ae.tq(d:au ah)(i:Int)(w:J)(Q:aa->J->Prop):Prop:=b6 85 #[d,i] w λf w1=>an (!f) (Q (.tuple #[(),(1:Int)]) w1) (∃a4:ah,d=
 some a4/\b6 117 #[.pointer (some a4),(1:Int)] w1 λg c=>an g (Q (.tuple #[(),(3:Int)]) c) (oY 118 #[d,i] c λb a=>aq (a.alloc z5) λe=>bC
 e (Y a) (Array.toList b)/\Array.size b=256/\aq (setCells e (Y a) 0 (Array.toList b)) λh=>Q (.tuple #[.slice (aU (some (Y a)) 1 0 256) (256-0) (256-0),(0:Int)]) h))
def aw.tq:aL:=(.q (.s (.bY eD) (.q (.q .l))))
def ae.tr(d:au ah)(i:Int)(w:J)(Q:aa->J->Prop):Prop:=bX (λb7:al->J->Prop=>an ((!(Option.isNone d))&&(decide (i>=0))) (∃a2:ah,d=some a2/\r1 w (a2.add 4) λa=>b7
 (decide (i<(a.len:Int))) w) (b7 false w)) (λ(b:al) c=>Q b c)
def aw.tr:aL:=a9
def ae.nC(t:Array aa)(w:J)(Q:aa->J->Prop):Prop:=aq (w.alloc (.cells t 57)) λw1=>aD w1 (Y w) λbp=>∃b:O aa,bV w1 ((Y w).add 1) 0 18=some b/\iQ 97
 #[bp,.agg b.toArray] w1 λi d a=>bX (λc:al->J->Prop=>an d (aD a ((Y w).add 19) λn9=>b6 165 #[n9] a λe f=>c e f) (c false a)) (λ(g:al) h=>Q g h)
def aw.nC:aL:=(.q (.q (.s (.z [6,10]) .l)))
theorem ae.Di(t:Array aa)(w:J)(Q:aa->J->Prop)(h:ae.nC t w Q):aJ aj 96 #[.agg t] w Q:=okF (λw Q=>ae.nC t w Q) aw.nC func96 h
def ae.lA(service:Int)(p:Array aa)(w:J)(Q:aa->J->Prop):Prop:=aq (w.alloc (.cells p 55)) λw1=>∃m:O aa,bV w1 (Y w) 0 17=some m/\aD w1 ((Y w).add 17) λB=>
 jT 166 #[.agg m.toArray,B] w1 λi C d=>aq (d.alloc o0) λn=>bC n (Y d) (Array.toList i)/\Array.size i=18/\aq (setCells n (Y d) 0 (Array.toList i)) λe=>bX (λo:al->J->
 Prop=>an (!C) (o true e) (∃q:O aa,bV e (Y d) 0 18=some q/\∃r:O aa,bV e (Y w) 0 18=some r/\∃s:al,kJ aj 55 q.toArray r.toArray s/\o (!s) e)) (λ
 (D:al) t=>bX (λu:al->J->Prop=>an D (u true t) (b6 165 #[service] t λE F=>u (!E) F)) (λ(G:al) f=>an G (Q (.tuple #[(),false]) f) (bX (λ
 v:Int->J->Prop=>aS f (Y w) λH=>an H (v 6 f) (v 4 f)) (λ(n24:Int) I=>aq (I.drew) λb=>∃a:Nat->Prop,¬a ((Y w).add 17).block/\aD b ((Y w).add 17) λn28=>¬a ((Y
 w):ah).block/\∃g:O aa,bV b (Y w) 0 17=some g/\(bG 115 #[(),.int .u64 (IntKind.wrap .u64 service),(2:Int)] b λx c=>af a b c/\(aq (c.alloc (.cells #[.int .u8 n24,
 .int .u8 (IntKind.wrap .u8 n28)] 5)) λj=>af a c j/\bG 167 #[.agg g.toArray] j λK y=>af a j y/\sR y x c K Q)/\(bG 167 #[.agg g.toArray] c λL h=>af a c
 h/\aq (h.alloc (.cells #[.int .u8 n24,.int .u8 (IntKind.wrap .u8 n28)] 5)) λz=>af a h z/\sR z x h L Q))/\(aq (b.alloc (.cells #[.int .u8 n24,.int .u8 (IntKind.wrap .u8 n28)] 5)) λk=>af
 a b k/\bG 115 #[(),.int .u64 (IntKind.wrap .u64 service),(2:Int)] k λM l=>af a k l/\bG 167 #[.agg g.toArray] l λN A=>af a l A/\sR A M b N Q)))))
def aw.lA:aL:=(.q (.q (.s (.s (.z [9,10,12,10]) (.c (.q .l) .l)) (.q (.s (.fl [(8,(.int .u8))] [0,3] (.q (.c .r .l))) (.s (.d 11 true [0,1,2,0,0,2004,1006003,0,9,1009002,1010007002,1011010,513,514]
 [0,1,2,0,0,2004,1006003,0,2008,1010007002,2011,0] [13032,2004] [1,2032,9,4,2036,1038035,4,2040,1042039034,2043,0] (.t 0 (.t 1 (.z 4 3 (.t 8 (.t 9 (.two 2 (.two 7 (.bZ 10 (.tail [.r,.r,.r,.r])) 10 (.bZ 7 (.tail [.r,.r,.r,.r]))) 7
 (.bZ 2 (.bZ 10 (.tail [.r,.r,.r,.r])))))))))) .l))))))
theorem ae.Dj(service:Int)(p:Array aa)(w:J)(Q:aa->J->Prop)(h:ae.lA service p w Q):aJ aj 97 #[service,.agg p] w Q:=okF (λw Q=>ae.lA service p w Q) aw.lA func97 h
def ae.pe(backend:Int)(a:Int)(w:J)(Q:aa->J->Prop):Prop:=b6 165 #[backend] w λb w1=>an (!b) (Q (.tuple #[(),false]) w1) (bG 115 #[(),
 .int .u64 (IntKind.wrap .u64 backend),(2:Int)] w1 λc d=>bG 115 #[c,.int .u64 a,(8:Int)] d λe f=>Q (.tuple #[e,true]) f)
def aw.pe:aL:=df
def ae.tu(s:au ah)(a:ad)(to:ad)(most:Int)(w:J)(Q:aa->J->Prop):Prop:=an (Option.isNone s) (Q (.tuple #[(),(1:Int)]) w) (∃a1:ah,s=some a1/\∃bd:au
 ah,w.cell? a1=some (bd)/\dZ 169 #[bd,a,to,most] w λb n6 c=>Q (.tuple #[b,n6]) c)
def aw.tu:aL:=df
def ae.mu(parts:ad)(w:J)(Q:aa->J->Prop):Prop:=∃ (d:ad->Int->J->Prop) (g:ad->Int->J->Nat),d ⟨none,0,0⟩ 0 w/\∀ (c:ad) (cg:Int) (b:J),d c cg b->an (decide (cg<
 (parts.len:Int))) (∃dU:ah,parts.a=some dU/\aN cg parts.len/\r1 b (dU.add (cg.toNat*1)) λh=>∃e:ad,∃f:J,Sem.run aj (Builtin.append_ #[39,39] 39 #[c,h]) b=.ok e f/\d e (av (cg+1)) f/\g e (av (cg+1)) f<g c cg b) (Q c b)
def aw.mu:aL:=(.q (.q (.s (.q (.bY (.loop [(3,.slice),(8,(.int .i64))] [6,7] a2))) (.q .l))))
theorem ae.Dk(parts:ad)(w:J)(Q:aa->J->Prop)(h:ae.mu parts w Q):aJ aj 103 #[parts] w Q:=okF (λw Q=>ae.mu parts w Q) aw.mu func103 h
def ae.tv(a:au ah)(l:ad)(choose:g8)(w:J)(Q:aa->J->Prop):Prop:=∃ (e:Int->Int->J->Prop) (m:Int->Int->J->Nat),e 0 0 w/\∀ (c:Int) (cg:Int) (b:J),e c cg
 b->an (decide (cg<(l.len:Int))) (bX (λn:Int->J->Prop=>∃cX:ah,l.a=some cX/\aN cg l.len/\r1 b (cX.add (cg.toNat*2)) λo=>r1 b ((cX.add (cg.toNat*2)).add 1) λp=>aq (b.alloc (.cells #[(),()] 198)) λq=>bC q (Y b) [o,p]/\(2:Nat)=2/\aq (setCells q (Y b) 0 [o,p]) λg=>
 r1 g (Y b) λA=>r1 g ((Y b).add 1) λB=>jT 51 #[A,B] g λh C d=>aq (d.alloc hC) λr=>bC r (Y d) (Array.toList h)/\
 Array.size h=21/\aq (setCells r (Y d) 0 (Array.toList h)) λi=>an (!C) (Q (.tuple #[(0:Int),(4:Int)]) i) (∃s:O aa,bV i (Y d) 0 21=some s/\gW aj choose.f/\Calls
 aj choose.f (choose.pre++ #[.agg s.toArray]++choose.cap) i λD t=>∃u:al,D=.returned u/\an (!u) (n c t) (aq (t.drew) λj=>∃v:Nat->Prop,∃k:ah,a=some k/\¬v
 k.block/\∃x:au ah,j.cell? k=some (x)/\¬v ((Y b):ah).block/\r1 j (Y b) λE=>mm 23 #[x,E] j λF n32 y=>an (n32 !=0) (Q
 (.tuple #[(0:Int),n32]) y) (n (av (c+1)) y)))) (λ(n33:Int) z=>e n33 (av (cg+1)) z/\m n33 (av (cg+1)) z<m c cg b)) (Q (.tuple #[c,(0:Int)]) b)
def aw.tv:aL:=(.q (.q (.s (.q (.bY (.loop [(8,(.int .i64)),(17,(.int .i64))] [0,2,15,16] (.q (.s (.c .l .l) (.s (.fl [(8,(.int .i64))] [0,2,15,16,17] (.bY (.q (.q (.s a1 (.s (.q (.c .l .l)) (.s (.s (.d 11
 true [0,3000,0,5,1005003,2006,8,509,511] [0,3000,0,5,1005003,2006,3007] [7036,36,2043,2013] [1,3036,11,41,1041039,43,36,36,2043] (.z 6 0 (.out 6 false (.z 4 7 .e)))) a1) .r))))))) .r)))))) (.q .l))))
def ae.qW(t:Array aa)(x:ah)(w:J)(Q:aa->J->Prop):Prop:=aq (w.alloc (.cells t 57)) λw1=>cl w1 ((Y w).add 20) λbp=>cl w1 x λa=>Q (.bool (decide (bp<=a))) w1
def aw.qW:aL:=(.q (.q .l))
theorem ae.Dl(t:Array aa)(x:ah)(w:J)(Q:aa->J->Prop)(h:ae.qW t x w Q):aJ aj 105 #[.agg t,.pointer (some x)] w Q:=okF (λw Q=>ae.qW t x w Q) aw.qW func105 h
def ae.jr(b:ad)(i:Int)(size:Int)(w:J)(Q:aa->J->Prop):Prop:=iQ 170 #[b,i,size] w λd j w1=>bX (λf:al->J->Prop=>an (!j) (f
 true w1) (b6 171 #[size] w1 λk l=>f (!k) l)) (λ(m:al) g=>an m (Q (.tuple #[.int .u64 0,false]) g) (∃ (e:Int->Int->J->Prop) (h:Int->Int->J->Nat),e 0 0 g/\∀ (n13:
 Int) (n14:Int) (c:J),e n13 n14 c->an (decide (n14<(d.len:Int))) (∃gh:ah,d.a=some gh/\aN n14 d.len/\dN c (gh.add (n14.toNat*1)) λn17=>(0:Int)<=8/\e (l_ .u64 (IntKind.wrap .u64 (n13*2^
 (min (Int.toNat 8) 64))) (IntKind.wrap .u64 n17)) (av (n14+1)) c/\h (l_ .u64 (IntKind.wrap .u64 (n13*2^(min (Int.toNat 8) 64))) (IntKind.wrap .u64 n17)) (av (n14+1)) c<h n13 n14 c) (Q (.tuple #[.int .u64 n13,true]) c)))
def aw.jr:aL:=(.q (.q (.s dU (.q (.s (.q (.bY (.loop [(10,(.int .u64)),(29,(.int .i64))] [27,28] a2))) (.q .l))))))
def ae.pg(b:ad)(w:J)(Q:aa->J->Prop):Prop:=aq (w.alloc z3) λw1=>jT 172 #[b] w1 λfo d ai=>bC ai (Y w) (Array.toList fo)/\Array.size fo=17/\aq (setCells ai (Y w)
 0 (Array.toList fo)) λa=>∃c:O aa,bV a (Y w) 0 17=some c/\Q (.tuple #[.agg c.toArray,d]) a
def aw.pg:aL:=(.q (.q .l))
def ae.tw(n:Int)(w:J)(Q:aa->J->Prop):Prop:=Q (.bool ((decide (n>=1))&&(decide (n<=1600)))) w
def aw.tw:aL:=a4
def ae.tx(n:Int)(w:J)(Q:aa->J->Prop):Prop:=(8:Int)≠0/\Q (.int .i64 (av (Int.tdiv (av ((av (n+8))-1)) 8))) w
def aw.tx:aL:=(.q (.q .l))
def ae.tz(s:ad)(no:Int)(w:J)(Q:aa->J->Prop):Prop:=aq (w.drew) λw1=>(8:Int)≠0/\∃a2:ah,s.a=some a2/\aN (av (Int.tdiv no 8)) s.len/\¬False/\dN w1 (a2.add ((av (Int.tdiv no
 8)).toNat*1)) λb=>(8:Int)≠0/\(0:Int)<=(Int.tmod no 8)/\∃a4:ah,s.a=some a4/\aN (av (Int.tdiv no 8)) s.len/\st w1 (a4.add ((av (Int.tdiv no 8)).toNat*1)) (.int .u8 (l_ .u8 b (IntKind.wrap .u8 (1*2^(min
 ((Int.tmod no 8).toNat) 8))))) λc=>Q (.tuple #[]) c
def aw.tz:aL:=(.d 8 false [0,0,2,1002000,4,0,2005,1007004,509,510] [0,0,2,1002000,4,0,2005,1007004,1002000,1009008] [10004,0] [1,2,6,1006004,8,2,2009,1011008,1006004,1013012] (.z 8 0 (.tail [.r,.r,.r])))
def ae.qX(s:au ah)(w:J)(Q:aa->J->Prop):Prop:=an (!(Option.isNone s)) (∃a1:ah,s=some a1/\r1 w (a1.add 1) λs2=>bG 173 #[s2] w λ
 a b=>∃dU:ah,s=some dU/\st b (dU.add 2) a λc=>Q (.tuple #[]) c) (Q (.tuple #[]) w)
def aw.qX:aL:=(.q (.c .r .l))
theorem ae.Dm(s:au ah)(w:J)(Q:aa->J->Prop)(h:ae.qX s w Q):aJ aj 112 #[s] w Q:=okF (λw Q=>ae.qX s w Q) aw.qX func112 h
def ae.tA(no:Int)(w:J)(Q:aa->J->Prop):Prop:=Q (.bool ((decide (no>=0))&&(decide (no<1600)))) w
def aw.tA:aL:=a4
theorem ae.zv(no:Int)(w:J)(Q:aa->J->Prop)(h:ae.tA no w Q):aJ aj 113 #[no] w Q:=okF (λw Q=>ae.tA no w Q) aw.tA func113 h
def ae.tB(a:Int)(w:J)(Q:aa->J->Prop):Prop:=Q (.bool ((decide (a>=1))&&(decide (a<=4)))) w
def aw.tB:aL:=a4
theorem ae.zw(a:Int)(w:J)(Q:aa->J->Prop)(h:ae.tB a w Q):aJ aj 114 #[a] w Q:=okF (λw Q=>ae.tB a w Q) aw.tB func114 h
def ae.gn(b:ad)(n:Int)(size:Int)(w:J)(Q:aa->J->Prop):Prop:=bG 46 #[b] w λg w1=>b6 171 #[size] w1 λj h=>an (!j) (Q g h) (∃ (d:ad->Int->J->Prop) (i:ad->Int->J->Nat),d g (av (size-1)) h/\∀ (c:ad) (n10:Int) (a:J),d c n10 a->an (decide (n10>=0)) ((0:Int)<=(av (8*n10))/\aq (a.alloc
 (.cells #[.int .u8 (IntKind.wrap .u8 (Int.fdiv n (2^(min ((av (8*n10)).toNat) 64))))] 5)) λk=>∃e:ad,∃f:J,Sem.run aj (Builtin.append_ #[39,39] 39 #[c,.slice (some (Y a)) 1 1]) k=.ok e f/\d e (av (n10-1)) f/\i e (av (n10-1)) f<i c n10 a) (Q c a))
def aw.gn:aL:=(.q (.q (.s a1 (.s (.q (.bY (.loop [(7,.slice),(8,(.int .i64))] [1] (.s (.q (.c .l .l)) (.s (.bY .r) .r))))) (.q .l)))))
def ae.nD(b:ad)(w:J)(Q:aa->J->Prop):Prop:=aq (w.drew) λw1=>((0:Int)<=20/\20<=(b.cap:Int))/\((0:Int)<=24/\24<=(b.len:Int))/\aq (w1.alloc (.cells #[.slice (aU b.a 1 0 b.cap)
 ((Int.toNat 20)-0) (b.cap-0),.slice (aU b.a 1 (Int.toNat 24) b.cap) (b.len-(Int.toNat 24)) (b.cap-(Int.toNat 24))] 39)) λai=>mo 174 #[.slice (some (Y w1)) 2 2] ai λn5 c=>Q (.int .u32 n5) c
def aw.nD:aL:=(.q (.s (.d 4 false [0,1,0,3,1003001,5,506] [0,1,0,3,1003001,2004] [6003,3] [1,4,1,6,1006004,2007] (.z 4 0 (.tail [.r,.r,.r]))) .l))
def ae.tC(f:au ah)(a:Int)(w:J)(Q:aa->J->Prop):Prop:=∃a1:ah,f=some a1/\((0:Int)<=a/\a<((4:Nat):Int))/\aD w (Addr.add a1 (a.toNat*1)) λbp=>an (bp==
 (-1)) (Q false w) (an (bp==0) (∃a3:ah,f=some a3/\((0:Int)<=a/\a<((4:Nat):Int))/\st w (Addr.add a3 (a.toNat*1)) (.int .i64 (-1)) λc=>Q true c) (aq (w.drew) λb=>∃dU:ah,f
 =some dU/\((0:Int)<=a/\a<((4:Nat):Int))/\¬False/\aD b (Addr.add dU (a.toNat*1)) λn7=>∃eW:ah,f=some eW/\((0:Int)<=a/\a<((4:Nat):Int))/\st b (Addr.add eW (a.toNat*1))
 (.int .i64 (av (n7-1))) λd=>Q false d))
def aw.tC:aL:=(.q (.s (.q (.bY (.q (.c (.q .l) (.q eW))))) (.s (.d 7 false [0,0,1,1002001,2003,1,507,1000000000191] [0,0,1,1002001,2003,1,1006001,1007005] [8018,0] [1,2,19,1020019,2021,19,1024019,1025023] (.z 7 0 (.tail
 [.r,.r]))) (.q .l))))
def ae.tD(d:au ah)(i:Int)(w:J)(Q:aa->J->Prop):Prop:=aq (w.alloc z5) λw1=>∃a2:ah,d=some a2/\∃e:au Nat,w1.cell? (a2.add 5)=some (.map e)/\∃b:ad,∃c:J,
 Sem.run aj (Instr.lookup 125 (.map e) i false) w1=.ok b c/\an (decide ((b.len:Int)>0)) (∃dU:ah,b.a=some dU/\((0:Int)<=(av ((b.len:Int)-1))/\(av
 ((b.len:Int)-1))<(b.len:Int))/\∃f:O aa,bV c (dU.add ((av ((b.len:Int)-1)).toNat*256)) 0 256=some f/\wy c w f Q) (∃e5:ah,d=some e5/\r1 c (e5.add 4) λg=>nu g i c 256 λh=>
 wy c w h Q)
def aw.tD:aL:=(.q (.s (.q a1) (.q .l)))
def ae.ph(f:Int)(g:Int)(h:Int)(i:Int)(j:Int)(k:Int)(l:Int)(w:J)(Q:aa->J->Prop):Prop:=aq (w.alloc (.cells #[f,g,h,.int .u64 i,.int .u64 j,k] 90)) λw1=>aD w1 (Y w) λbp=>bG 115 #[(),.int .u64 (IntKind.wrap .u64 bp),(4:Int)] w1 λm a=>aD a ((Y w).add 1)
 λn6=>bG 115 #[m,.int .u64 (IntKind.wrap .u64 n6),(1:Int)] a λn b=>aD b ((Y w).add 2) λn10=>bG 115 #[n,.int .u64 (IntKind.wrap .u64 n10),(4:Int)] b λo p=>bG 115 #[o,.int .u64 (IntKind.wrap .u64 l),(4:Int)] p λq c=>cl c ((Y w).add 3) λn17=>bG 115 #[q,.int .u64 n17,
 .int .i64 8] c λr d=>cl d ((Y w).add 4) λn21=>bG 115 #[r,.int .u64 n21,(8:Int)] d λs e=>aD e ((Y w).add 5) λn25=>bG 115 #[s,.int .u64 (IntKind.wrap .u64 n25),(4:Int)] e λt u=>Q t u
def aw.ph:aL:=(.q (.q (.q (.q (.q a3)))))
def ae.pj(d:au ah)(ak:Int)(w:J)(Q:aa->J->Prop):Prop:=an (((Option.isNone d)||(decide (ak<8)))||(decide (ak>64))) (Q (.tuple #[.pointer none,(1:Int)]) w) (((0:Int)<=ak
 /\ak<=ak/\ak<=jS/\((48:Nat):Int)*ak<=140737488355328)/\aq (w.alloc (.cells (gy aj 275 (ak.toNat)) 275)) λw1=>aq (w1.alloc (.cells #[d,.slice (some (Y w))
 (ak.toNat) (ak.toNat),(0:Int)] 268)) λai=>Q (.tuple #[.pointer (some (Y w1)),(0:Int)]) ai)
def aw.pj:aL:=a5
def ae.pk(c:au ah)(s:au ah)(gen:Int)(root:Int)(aG:Int)(w:J)(Q:aa->J->Prop):Prop:=bX (λb7:al->J->Prop=>an (((((Option.isNone c)||(Option.isNone s))||(decide
 (aG<0)))||(decide (aG>12)))||(decide (root<0))) (b7 true w) (∃a2:ah,c=some a2/\∃b:au ah,w.cell? a2=some (b)/\bW 55 #[b] w λn6 d=>b7 (decide (root>=n6)) d))
 (λ(e:al) a=>an (e||(!((root==0)==(aG==0)))) (Q (.tuple #[.pointer none,(1:Int)]) a) (aq (a.alloc (.cells #[c,s,.int .u64 gen,root,aG] 243)) λf=>Q
 (.tuple #[.pointer (some (Y a)),(0:Int)]) f))
def aw.pk:aL:=(.q (.s (.s (.z [9,8,9,8,9,8,9,8,9,22,24,17]) (.c (.q .l) .l)) (.q .l)))
def ae.mv(a:ad)(w:J)(Q:aa->J->Prop):Prop:=Q (.bool ((decide ((a.len:Int)>=1))&&(decide ((a.len:Int)<=24)))) w
def aw.mv:aL:=cX
set_option maxRecDepth 100000
def ae.tE(t:au ah)(key:ad)(w:J)(Q:aa->J->Prop):Prop:=∃a1:ah,t=some a1/\aD w (a1.add 3) λbp=>∃a3:ah,t=some a3/\aD w (a3.add 4) λcg=>∃ (i:ad->Int->Int->J->
 Prop) (l:ad->Int->Int->J->Nat),i ⟨none,0,0⟩ bp cg w/\∀ (e:ad) (n8:Int) (n9:Int) (f:J),i e n8 n9 f->an (decide (n9>0)) (kn 175 #[t,n8,.bool (n9==1)] f λm n
 o p n17 c=>aq (c.alloc z4) λq=>bC q (Y c) [m,n,o,p]/\(4:Nat)=4/\aq (setCells q (Y c) 0 [m,n,o,p]) λb=>an (n17 !=0) (Q (.tuple #[(),n17]) b) (aS b (Y c) λB=>r1 b ((Y c).add 1) λC=>r1 b
 ((Y c).add 2) λD=>r1 b ((Y c).add 3) λE=>∃g:Array aa,Sem.run aj (Instr.build 223 #[(0,n8),(1,.agg #[B,C,D,
 E])]) b=.ok (.agg g) b/\aq (b.alloc (.cells #[(0:Int),false,(),(),(),(0:Int)] 223)) λr=>bC r (Y b) (Array.toList g)
 /\Array.size g=6/\aq (setCells r (Y b) 0 (Array.toList g)) λd=>bX (λs:Int->J->Prop=>an (decide (n9>1)) (aS d (Y c) λF=>r1 d ((Y c).add 1) λG=>r1 d ((Y c).add 2) λ
 H=>r1 d ((Y c).add 3) λI=>bW 176 #[.agg #[F,G,H,I],key] d λn34 K=>st K (Addr.add
 (Y b) 5) n34 λh=>r1 h ((Y c).add 3) λu=>aD h ((Y b).add 5) λn37=>∃v:ah,u.a=some v/\aN n37 u.len/\aD h (v.add (n37.toNat*1)) λn39=>s n39 h) (s n8
 d)) (λ(n40:Int) x=>∃y:O aa,bV x (Y b) 0 6=some y/\∃z:ad,∃A:J,Sem.run aj (Instr.buildSlice 219 1 #[(0,.agg y.toArray)]) x=.ok z A
 /\∃j:ad,∃k:J,Sem.run aj (Builtin.append_ #[219,219] 219 #[e,z]) A=.ok j k/\i j n40 (av
 (n9-1)) k/\l j n40 (av (n9-1)) k<l e n8 n9 f))) (Q (.tuple #[e,(0:Int)]) f)
def aw.tE:aL:=(.q (.q (.q (.s (.q (.bY (.loop [(6,.slice),(7,(.int .i64)),(8,(.int .i64))] [0,1] (.s (.q (.c .l .l)) (.s (.bY (.q (.s a1 (.q (.s (.fl [(7,(.int .i64))] [0,1,6,8,11] (.q (.c (.q .r) .l))) .r)))))
 .r))))) (.q .l)))))
def ae.pn(a:al)(b:ad)(c:ad)(d:ad)(key:ad)(w:J)(Q:aa->J->Prop):Prop:=aq (w.alloc (.cells #[a,b,c,d] 169)) λw1=>aS w1 (Y w) λbS=>r1 w1 ((Y w).add 1) λe=>r1 w1 ((Y w).add 2) λf=>r1 w1 ((Y w).add 3) λg=>jU 177 #[.agg #[bS,e,f,g],key] w1 λn8 h i=>Q (.tuple #[n8,h]) i
def aw.pn:aL:=(.q (.q .l))
def ae.tF(c:au ah)(w:J)(Q:aa->J->Prop):Prop:=bG 178 #[c,.func (.func 179) #[] #[]] w λa w1=>Q a w1
def aw.tF:aL:=(.q (.q .l))
def ae.tG(c:au ah)(no:Int)(w:J)(Q:aa->J->Prop):Prop:=jo 180 #[c,no] w λa w1=>bX (λd:al->J->Prop=>an (Option.isNone a) (d true w1) (∃
 a5:ah,a=some a5/\aD w1 (a5.add 4) λn6=>d (decide (n6>0)) w1)) (λ(e:al) b=>an e (Q false b) (∃a9:ah,a=some a9/\bC b a9 [false,false,false,(0:Int),(0:Int),
 ()]/\(6:Nat)=6/\aq (setCells b a9 0 [false,false,false,(0:Int),(0:Int),()]) λf=>Q true f))
def aw.tG:aL:=(.q (.q (.s (.s (.z [9,16]) (.c (.q .l) .l)) (.q (.q .l)))))
def ae.tH(t:au ah)(w:J)(Q:aa->J->Prop):Prop:=an (Option.isNone t) (Q (.tuple #[(0:Int),(0:Int)]) w) (aq (w.drew) λw1=>∃a2:ah,t=some a2/\¬False/\aD w1 (a2.add 3) λa=>∃
 a4:ah,t=some a4/\¬False/\aD w1 (a4.add 4) λn5=>Q (.tuple #[a,n5]) w1)
def aw.tH:aL:=(.q (.s a1 (.s (.d 9 false [0,3000,0,3004,504,509] [0,3000,0,3004,4,8] [8006,2002] [1,3006,1,3010,10,14] (.z 9 0 .e)) .l)))
def ae.qY(s:au ah)(w:J)(Q:aa->J->Prop):Prop:=an (Option.isNone s) (Q (0:Int) w) (∃a1:ah,s=some a1/\aD w a1 λbp=>∃a3:ah,s=some a3/\r1 w (a3.add 1) λk=>∃ (e:
 Int->Int->J->Prop) (h:Int->Int->J->Nat),e bp 0 w/\∀ (n7:Int) (n8:Int) (d:J),e n7 n8 d->an (decide (n8<(k.len:Int))) (aq (d.drew) λb=>∃c:Nat->Prop,∃df:ah,s=some df/\¬c
 (df.add 1).block/\r1 b (df.add 1) λi=>∃eD:ah,i.a=some eD/\aN n8 i.len/\¬c (eD.add (n8.toNat*1)).block/\dN b (eD.add (n8.toNat*1)) λn15=>∃gh:ah,s=some gh/\¬c (gh.add
 2).block/\r1 b (gh.add 2) λj=>∃f:ah,j.a=some f/\aN n8 j.len/\¬c (f.add (n8.toNat*1)).block/\dN b (f.add (n8.toNat*1)) λn19=>bW 181 #[.int .u8 (l_ .u8 n15 n19)] b
 λn22 g=>af c b g/\e (av (n7-n22)) (av (n8+1)) g/\h (av (n7-n22)) (av (n8+1)) g<h n7 n8 d) (Q n7 d))
def aw.qY:aL:=(.q (.s a1 (.q (.s (.q (.bY (.loop [(3,(.int .i64)),(16,(.int .i64))] [0,15] (.q (.s (.c .l .l) (.s (.bY (.q (.d 17 true [0,0,3001,0,1005004,7,0,3008,0,1012011,14,1014007,16,1016000,518]
 [0,0,3001,0,1005004,7,0,3008,0,1012011,14,1014007,16,1016000,1017000] [18019,4] [4,1,3020,5,1024023,26,1,3027,5,1031030,33,1033026,35,1035019,37] (.z 16 0 (.bZ 16 (.tail [.r,.r])))))) .r)))))) (.q .l)))))
theorem ae.Dn(s:au ah)(w:J)(Q:aa->J->Prop)(h:ae.qY s w Q):aJ aj 129 #[s] w Q:=okF (λw Q=>ae.qY s w Q) aw.qY func129 h
def ae.po(k:al)(l:ad)(m:ad)(n:ad)(key:ad)(w:J)(Q:aa->J->Prop):Prop:=aq (w.alloc (.cells #[k,l,m,n] 169)) λw1=>aq (w1.alloc z4) λai=>aS ai (Y w) λo=>r1 ai ((Y w).add 1) λp=>r1 ai ((Y w).add 2) λq=>r1 ai ((Y w).add 3) λr=>jU
 177 #[.agg #[o,p,q,r],key] ai λn9 s c=>aS c (Y w) λt=>bX (λu:al->J->Prop=>o6 t u c
 w) (λ(v:al) b=>an (v||(!s)) (bC b (Y w1) [false,(),(),()]/\(4:Nat)=4/\aq (setCells b (Y w1) 0 [false,(),(),()]) λx=>jq x w1 Q) (aS b (Y w) λy=>r1 b ((Y w).add 1) λz=>r1 b ((Y w).add 2) λA=>r1 b ((Y w).add 3) λB=>fI 183 #[.agg #[y,z,A,B]] b λd e f g a=>aq (a.alloc z4) λh=>bC h (Y a) [d,e,f,g]/\
 (4:Nat)=4/\aq (setCells h (Y a) 0 [d,e,f,g]) λi=>r1 i ((Y a).add 1) λC=>bG 184
 #[C,n9,.int .i64 (av (n9+1))] i λD E=>st E ((Y a).add 1) D λj=>r1 j ((Y a).add 2) λF=>bG 184
 #[F,n9,.int .i64 (av (n9+1))] j λG H=>st H ((Y a).add 2) G λI=>cL I a w1 Q))
def aw.po:aL:=(.q (.q (.s (.s (.z [12,10,12,8]) (.c (.q .l) .l)) (.q a3))))
def ae.qZ(t:au ah)(gZ:ad)(r:al)(s:ad)(u:ad)(v:ad)(w:J)(Q:aa->J->Prop):Prop:=aq (w.alloc (.cells #[r,s,u,v] 169)) λw1=>aq (w1.alloc (.cells #[(0:Int)] 32)) λai=>aq (ai.drew) λc=>∃g:Nat->Prop,∃
 a5:ah,t=some a5/\¬g (a5.add 1).block/\∃h:au ah,c.cell? (a5.add 1)=some (h)/\∃cX:ah,t=some cX/\¬g (cX.add 4).block/\aD c (cX.add 4) λn8=>bW 129 #[h] c λn11
 d=>af g c d/\an (decide (n11<(av ((av (2*n8))+3)))) (st d (Y w1) (2:Int) λi=>aD i (Y w1) λn13=>Q n13 i) (aq (d.alloc (.cells #[t,(),()]
 284)) λa=>aq (a.alloc (.cells #[.pointer none] 282)) λx=>st x (Y a) (.pointer (some (Y d))) λb=>∃j:au ah,b.cell? (Y a)=some (j)/\aS b (Y w) λy=>
 r1 b ((Y w).add 1) λz=>r1 b ((Y w).add 2) λA=>r1 b ((Y w).add 3) λB=>oZ 187 #[j,gZ,.agg #[y,z,A,B]] b λn24 n25 n26 C=>st C (Y w1) n26 λe=>aD e (Y w1) λn28=>an (n28 !=0) (aD e (Y w1) λn29=>st e (Y w1) n29 λD=>oW
 aj 185 #[.pointer (some (Y w1)),.pointer (some (Y a))] D λk=>aD k (Y w1) λn32=>Q n32 k) (aq (e.drew) λf=>¬False/\∃l:au ah,f.cell? (Y a)=some (.pointer
 l)/\¬False/\∃m:au ah,f.cell? (Y a)=some (m)/\∃n:ah,m=some n/\¬False/\r1 f (n.add 2) λE=>gm 186 #[l,E] f λF=>∃
 o:ah,t=some o/\st F (o.add 3) n24 λG=>∃p:ah,t=some p/\st G (p.add 4) n25 λH=>st H (Y w1) (0:Int) λI=>oW aj 185 #[.pointer (some
 (Y w1)),.pointer (some (Y a))] I λq=>aD q (Y w1) λK=>Q K q))
def aw.qZ:aL:=(.q (.s (.s (.e 11 true [0,4000,0,5005,1010004] [12010] [1,4010,1,5015,1020014] (.z 4 0 (.z 6 5 (.bZ 4 .e)))) (.c (.q .l) .l)) (.q (.s .l (.q (.s a1 (.s (.e 5 false [0,0,3001,1004000] [6037] [8,8,3038,1041037]
 (.z 5 0 .e)) (.q (.q .l)))))))))
theorem ae.Dp(t:au ah)(gZ:ad)(a:al)(b:ad)(c:ad)(d:ad)(w:J)(Q:aa->J->Prop):ae.qZ t gZ a b c d w Q=vX aj tk aw.qZ Tryz.f131 [t,gZ,.agg #[a,b,c,d]] w Q:=by kernel_rfl
theorem ae.Dq(t:au ah)(gZ:ad)(a:al)(b:ad)(c:ad)(d:ad)(w:J)(Q:aa->J->Prop)(h:ae.qZ t gZ a b c d w Q):Calls aj 131 #[t,gZ,.agg #[a,b,c,d]] w λe w1=>∃v,e=.returned v/\Q v w1:=
 C3 v_ func131 (by kernel_rfl) (Eq.mp (ae.Dp t gZ a b c d w Q) h)
def ae.pq(no:Int)(b:ad)(w:J)(Q:aa->J->Prop):Prop:=aq (w.alloc sO) λw1=>an ((b.len:Int) !=256) (bC w1 (Y w) [(0:Int),.int .u64 0,()]/\(3:Nat)=3/\aq (setCells w1 (Y w)
 0 [(0:Int),.int .u64 0,()]) λai=>aD ai (Y w) λz=>cl ai ((Y w).add 1) λcg=>r1 ai ((Y w).add 2) λA=>Q (.tuple #[.agg #[z,.int .u64 cg,A],(9:Int)])
 ai) (((0:Int)<=4/\4<=(b.cap:Int))/\∃n:ByteArray,∃c:J,Sem.run aj (convert 39 9 (.slice (aU b.a 1 0 b.cap) ((Int.toNat 4)-0) (b.cap-0))) w1=.ok (.string n) c/\an
 (!(ByteArray.toList n==ByteArray.toList (ByteArray.mk #[83,84,78,67]))) (bC c (Y w) [(0:Int),.int .u64 0,()]/\(3:Nat)=3/\aq (setCells c (Y w) 0 [(0:Int),.int .u64 0,()]) λB=>
 wx B w Q) (∃df:ah,b.a=some df/\aN 4 b.len/\dN c (df.add (Int.toNat 4*1)) λn13=>an (n13 !=1) (bC c (Y w) [(0:Int),.int .u64 0,()]/\(3:Nat)=3/\aq (setCells c (Y w) 0 [(0:Int),.int
 .u64 0,()]) λd=>aD d (Y w) λn15=>cl d ((Y w).add 1) λn16=>r1 d ((Y w).add 2) λC=>Q (.tuple #[.agg #[n15,.int .u64 n16,C],(12:Int)]) d)
 (mo 116 #[b] c λn20 D=>qO 192 #[b,(20:Int),(24:Int)] D λn23 h=>an (((IntKind.wrap .u64 n20):Int) !=n23) (bC h (Y w) [(0:Int),.int .u64
 0,()]/\(3:Nat)=3/\aq (setCells h (Y w) 0 [(0:Int),.int .u64 0,()]) λe=>aD e (Y w) λn25=>cl e ((Y w).add 1) λn26=>r1 e ((Y w).add 2) λE=>Q (.tuple #[.agg
 #[n25,.int .u64 n26,E],(5:Int)]) e) (qO 192 #[b,(6:Int),(8:Int)] h λn30 o=>∃p:ah,b.a=some p/\aN 5 b.len/\dN o (p.add
 (Int.toNat 5*1)) λn32=>b6 114 #[.int .i64 (av n32)] o λF q=>bX (λr:al->J->Prop=>an ((!F)||(decide (((av n30):Int)>232))) (r true q) (((0:Int)<=(av (24+(av n30)))/\(av (24+(av
 n30)))<=(b.len:Int))/\b6 193 #[.slice (aU b.a 1 ((av (24+(av n30))).toNat) b.cap) (b.len-((av (24+(av n30))).toNat)) (b.cap-((av (24+(av n30))).toNat))] q λG H=>r (!G) H)) (λ(I:
 al) i=>an I (bC i (Y w) [(0:Int),.int .u64 0,()]/\(3:Nat)=3/\aq (setCells i (Y w) 0 [(0:Int),.int .u64 0,()]) λK=>wx K w Q) (b6 113 #[no] i λL
 s=>bX (λt:al->J->Prop=>an (!L) (t true s) (qO 192 #[b,(8:Int),(12:Int)] s λM N=>t (M !=(IntKind.wrap .u64 no)) N)) (λ(O:al) j=>an O
 (bC j (Y w) [(0:Int),.int .u64 0,()]/\(3:Nat)=3/\aq (setCells j (Y w) 0 [(0:Int),.int .u64 0,()]) λf=>aD f (Y w) λP=>cl f ((Y w).add 1) λR=>r1 f
 ((Y w).add 2) λS=>Q (.tuple #[.agg #[P,.int .u64 R,S],(1:Int)]) f) (iQ 194 #[b,(24:Int),.int .i64 (av n30)] j λu X T=>aq
 (T.drew) λk=>∃v:Nat->Prop,∃l:ah,b.a=some l/\aN 5 b.len/\¬v (l.add (Int.toNat 5*1)).block/\dN k (l.add (Int.toNat 5*1)) λx=>qO 192 #[b,(12:Int),(20:Int)] k λy m=>af v k m/\bC m (Y w) [.int .i64 (av x),.int .u64 y,u]/\(3:Nat)=3/\aq (setCells m (Y w) 0 [.int .i64 (av x),.int .u64 y,u]) λg=>aD g (Y w) λU=>cl g ((Y w).add 1) λV=>r1 g ((Y w).add 2) λW=>Q (.tuple #[.agg #[U,.int .u64 V,W],(0:Int)]) g))))))))
def aw.pq:aL:=(.q (.s (.bY (.q (.c (.q .l) (.q (.c (.q .l) eD))))) (.q (.s (.bY (.s (.z [21,8,9,19]) (.c (.q .l) (.s (.z [12,16]) (.c (.q .l) .l))))) (.q (.s (.d 7 true [0,3000,0,5,0,1006005003,508,509]
 [0,3000,0,5,0,1006005003,8,0] [8075,0,6] [2,3075,2,80,8,1081080078,1082004,0] (.z 5 0 (.t 6 (.bZ 5 (.tail [.r,.r,.r]))))) .l))))))
def ae.pr(B:al)(C:ad)(D:ad)(E:ad)(key:ad)(val:ad)(w:J)(Q:aa->J->Prop):Prop:=aq (w.alloc (.cells #[B,C,D,E] 169)) λw1=>aq (w1.alloc z4) λai=>aS ai (Y w) λF=>bX (λG:al->J->Prop=>o6 F G ai w) (λ(H:al) m=>bX (λn:al->J
 ->Prop=>an H (n true m) (b6 199 #[key] m λI K=>n (!I) K)) (λ(L:al) c=>an (L||(decide ((val.len:Int)>24))) (bC c (Y w1) [false,(),
 (),()]/\(4:Nat)=4/\aq (setCells c (Y w1) 0 [false,(),(),()]) λM=>jq M w1 Q) (aS c (Y w) λN=>r1 c ((Y w).add 1) λO=>r1 c
 ((Y w).add 2) λP=>r1 c ((Y w).add 3) λR=>fI 183 #[.agg #[N,O,P,R]] c λo p q r b=>aq (b.alloc
 z4) λs=>bC s (Y b) [o,p,q,r]/\(4:Nat)=4/\aq (setCells s (Y b) 0 [o,p,q,r]) λd=>aS d (Y w) λS=>r1 d ((Y w).add 1) λT=>r1 d ((Y w).add 2) λU=>r1 d ((Y w).add 3) λV=>jU 177 #[.agg #[S,
 T,U,V],key] d λe W t=>an W (aq (t.drew) λh=>∃u:Nat->Prop,¬u ((Y b).add 2).block/\r1 h
 ((Y b).add 2) λv=>bG 46 #[val] h λX x=>af u h x/\∃y:ah,v.a=some y/\aN e v.len/\st x (y.add (e.toNat*1)) X λZ=>cL Z b w1 Q) (aq (t.drew) λi=>∃j:Nat->Prop,¬j ((Y b).add 1).block/\r1 i ((Y b).add 1) λab=>bG 46 #[key] i λ
 ac f=>af j i f/\aq (f.alloc (.cells #[ac] 39)) λz=>af j f z/\bG 200 #[ab,e,.slice (some (Y f)) 1 1]
 z λag aj=>st aj ((Y b).add 1) ag λak=>aq (ak.drew) λk=>∃l:Nat->Prop,¬l ((Y b).add 2).block/\r1 k ((Y b).add 2) λam=>bG
 46 #[val] k λao g=>af l k g/\aq (g.alloc (.cells #[ao] 39)) λA=>af l g A/\bG 200
 #[am,e,.slice (some (Y g)) 1 1] A λap ar=>st ar ((Y b).add 2) ap λau=>cL au b w1 Q))))
def aw.pr:aL:=(.q (.s (.s (.z [12,10,12,10,12,11]) (.c (.q .l) .l)) (.q (.q (.s (.q (.c (.s (.d 5 true [0,1,0,0,4,505,506] [0,1,0,0,4,1002001,1005004] [6039,0] [9,40,10,3,43,1041040,1044043] (.z 4 0 (.bZ 4 (.tail [.r,.r])))) (.q
 .l)) .l)) (.s (.d 6 true [0,1,0,0,2003,1000000000054,507,508] [0,1,0,0,2003,1005002001,0,1007006] [8046,0] [9,47,10,2,2049,1051048047,9,1053052] (.z 4 0 (.bZ 4 (.bZ 5 (.tail [.r,.r,.r]))))) (.s (.d 6 true
 [0,1,0,0,2003,1000000000054,507,508] [0,1,0,0,2003,1005002001,0,1007006] [8054,0] [9,55,10,3,2057,1059056055,9,1061060] (.z 4 0 (.bZ 4 (.bZ 5 (.tail [.r,.r,.r]))))) (.q .l))))))))
def ae.q0(s:au ah)(w:J)(Q:aa->J->Prop):Prop:=an (Option.isNone s) (Q (.tuple #[.int .i64 (-1),(1:Int)]) w) (∃a1:ah,s=some a1/\aD w a1 λbp=>∃ (c:Int->J->Prop) (d:
 Int->J->Nat),c 0 w/\∀ (n5:Int) (a:J),c n5 a->an (decide (n5<bp)) (b6 201 #[s,n5] a λe b=>an (!e) (∃e5:ah,s=some e5/\r1 b (e5.add 1) λf=>gm
 111 #[f,n5] b λg=>Q (.tuple #[n5,(0:Int)]) g) (c (av (n5+1)) b/\d (av (n5+1)) b<d n5 a)) (Q (.tuple #[.int .i64 (-1),(2:Int)]) a))
def aw.q0:aL:=(.q (.s a1 (.s (.q (.bY (.loop [(11,(.int .i64))] [0,10] (.q (.s (.c .l .l) (.s (.bY (.q (.q eW))) .r)))))) (.q .l))))
theorem ae.Dr(s:au ah)(w:J)(Q:aa->J->Prop)(h:ae.q0 s w Q):aJ aj 144 #[s] w Q:=okF (λw Q=>ae.q0 s w Q) aw.q0 func144 h
def ae.q1(s:au ah)(no:Int)(w:J)(Q:aa->J->Prop):Prop:=b6 202 #[s,no] w λb w1=>an (!b) (Q (1:Int) w1) (∃a4:ah,s=some a4/\r1 w1 (a4.add 1)
 λc=>b6 198 #[c,no] w1 λd a=>an (!d) (Q (6:Int) a) (∃a9:ah,s=some a9/\r1 a (a9.add 1) λe=>gm 203 #[e,no] a λf=>Q (0:Int) f))
def aw.q1:aL:=(.q (.s (.bY eD) (.q (.q .l))))
theorem ae.Ds(s:au ah)(no:Int)(w:J)(Q:aa->J->Prop)(h:ae.q1 s no w Q):aJ aj 145 #[s,no] w Q:=okF (λw Q=>ae.q1 s no w Q) aw.q1 func145 h
def ae.tI(c:au ah)(no:Int)(b:ad)(w:J)(Q:aa->J->Prop):Prop:=b6 204 #[c,no] w λl w1=>an ((!l)||((b.len:Int) !=256)) (Q (1:Int) w1) (jo
 180 #[c,no] w1 λf g=>bX (λh:au ah->J->Prop=>an (Option.isNone f) (gY 205 #[c] g λd n11 a=>an (n11 !=0) (Q n11 a) (∃df:ah,d
 =some df/\(∃u:aa,a.cell? df=some u)/\a.frozen? df=false/\aq (a.setCell df true) λm=>∃eD:ah,d=some eD/\st m (eD.add 3) no λn=>h d n)) (h f g)) (λ(e:au
 ah) o=>bG 46 #[b] o λp q=>∃i:ah,e=some i/\st q (i.add 5) p λr=>∃j:ah,e=some j/\st r (j.add 1) true λs=>∃k:ah,e=some k/\st s (k.add 2) true λt=>Q (0:Int) t))
def aw.tI:aL:=(.q (.s (.s (.z [15,11]) (.c (.q .l) .l)) (.q (.s (.fl [(7,.ptr)] [2] (.q (.c (.q (.s a1 (.q .r))) .l))) (.q (.q .l))))))
def ae.tJ(c:au ah)(w:J)(Q:aa->J->Prop):Prop:=an (Option.isNone c) (Q (1:Int) w) (bG 126 #[c] w λd w1=>∃ (e:Int->J->Prop) (g:Int->J->Nat),
 e 0 w1/\∀ (n6:Int) (b:J),e n6 b->an (decide (n6<(d.len:Int))) (∃eW:ah,d.a=some eW/\aN n6 d.len/\aD b (eW.add (n6.toNat*1)) λn9=>jo 180 #[c,n9] b λh o=>aq
 (o.drew) λf=>∃eD:ah,c=some eD/\¬False/\∃i:au ah,f.cell? eD=some (i)/\∃gh:ah,h=some gh/\¬False/\r1 f (gh.add 5) λp=>bW 58 #[i,n9,p] f λn20 j=>an (n20 !=0) (Q n20 j) (∃k:ah,h=some k/\st j (k.add 1) false λl=>e (av (n6+1)) l/\g (av (n6+1)) l<g n6 b)) (∃m:ah,c
 =some m/\∃n:au ah,b.cell? m=some (n)/\bW 59 #[n] b λn27 q=>Q n27 q))
def aw.tJ:aL:=(.q (.s a1 (.s (.q (.bY (.loop [(12,(.int .i64))] [0,10,11] (.q (.s (.c .l .l) (.s (.bY (.q (.q (.s (.s (.d 9 false [0,3000,0,0,3005,1008004003,510] [0,3000,0,0,3005,1008004003,10] [10019,7]
 [1,3019,2004,3024,1027023022,29] (.z 9 0 (.tail [.r,.r]))) a1) .r)))) .r)))))) (.q .l))))
def ae.q2(t:au ah)(gen:Int)(w:J)(Q:aa->J->Prop):Prop:=an (!(Option.isNone t)) (∃a1:ah,t=some a1/\st w (a1.add 2) (.int .u64 gen) λai=>Q (.tuple #[]) ai) (Q (.tuple #[]) w)
def aw.q2:aL:=(.q (.c .r .l))
theorem ae.Dt(t:au ah)(gen:Int)(w:J)(Q:aa->J->Prop)(h:ae.q2 t gen w Q):aJ aj 148 #[t,.int .u64 gen] w Q:=okF (λw Q=>ae.q2 t gen w Q) aw.q2 func148 h
def ae.mw(n:Int)(w:J)(Q:aa->J->Prop):Prop:=Q (.bool ((decide (n>=0))&&(decide (n<=65535)))) w
def aw.mw:aL:=a4
def ae.nE(a:Array aa)(bits:Int)(w:J)(Q:aa->J->Prop):Prop:=aq (w.alloc (.cells a 53)) λw1=>aq (w1.alloc o0) λai=>∃c:O aa,bV ai (Y w) 0 17=some c/\jT 213
 #[.agg c.toArray,bits] ai λb g d=>bC d (Y w1) (Array.toList b)/\Array.size b=18/\aq (setCells d (Y w1) 0 (Array.toList b)) λe=>∃f:O aa,bV e (Y w1) 0 18=some f/\Q (.tuple #[.agg
 f.toArray,g]) e
def aw.nE:aL:=(.q (.q .l))
theorem ae.Du(a:Array aa)(bits:Int)(w:J)(Q:aa->J->Prop)(h:ae.nE a bits w Q):aJ aj 166 #[.agg a,bits] w Q:=okF (λw Q=>ae.nE a bits w Q) aw.nE func166 h
def ae.kT(a:Array aa)(w:J)(Q:aa->J->Prop):Prop:=aq (w.alloc (.cells a 53)) λw1=>∃b:O aa,bV w1 (Y w) 0 17=some b/\bG 214 #[.agg b.toArray] w1 λd c=>aq
 (c.alloc (.cells #[d] 39)) λe=>bG 103 #[.slice (some (Y c)) 1 1] e λf g=>Q f g
def aw.kT:aL:=(.q (.q .l))
theorem ae.Dv(a:Array aa)(w:J)(Q:aa->J->Prop)(h:ae.kT a w Q):aJ aj 167 #[.agg a] w Q:=okF (λw Q=>ae.kT a w Q) aw.kT func167 h
def ae.tK(t:au ah)(g:ad)(to:ad)(most:Int)(w:J)(Q:aa->J->Prop):Prop:=aq (w.alloc (.cells #[g] 39)) λw1=>aq (w1.alloc (.cells #[to] 39)) λai=>aq (ai.alloc (.cells #[most] 3)) λb=>an (Option.isNone t) (Q (.tuple #[(),(1:Int)]) b) (∃a4:ah,t=some a4/\aD b (a4.add 4) λn5=>bX (λf:
 al->J->Prop=>an (n5==0) (f true b) (aD b (Y ai) λn7=>f (decide (n7<1)) b)) (λ(h:al) c=>an h (Q (.tuple #[(),(0:Int)]) c) (aq (c.alloc (.cells #[()] 193)) λ
 i=>aq (i.drew) λa=>∃d:Nat->Prop,∃eC:ah,t=some eC/\¬d (eC.add 3).block/\aD a (eC.add 3) λn14=>∃fm:ah,t=some fm/\¬d (fm.add 4).block/\aD a (fm.add 4) λn16=>¬d ((Y w):
 ah).block/\r1 a (Y w) λj=>af d a a/\mm 217 #[t,n14,n16,j,.func (.func 218) #[] #[.pointer (some (Y w1)),.pointer (some (Y
 w)),.pointer (some (Y c)),.pointer (some (Y ai))]] a λl n21 e=>an (n21 !=0) (Q (.tuple #[(),n21]) e) (r1 e (Y c) λk=>Q (.tuple #[k,(0:Int)]) e))))
def aw.tK:aL:=(.q (.s a1 (.s (.s (.z [18,7]) (.c (.q .l) .l)) (.q (.s (.d 16 true [0,0,3001,0,3005,0,0,1000000001809,2011,13,514,516] [0,0,3001,0,3005,0,0,1000000001809,2011,3012] [12025,25,2037,2011]
 [1,1,3026,1,3030,6,1000000001248,1060699967488,37,25,25,2037] (.z 10 0 (.bZ 10 (.out 11 false (.z 4 12 .e))))) (.s a1 (.q .l)))))))
def ae.ko(b:ad)(c:Int)(size:Int)(w:J)(Q:aa->J->Prop):Prop:=an ((((decide (c<0))||(decide (size<0)))||(decide (c>(b.len:Int))))||(decide (size>(av ((b.len:Int)-c))))) (Q (.tuple
 #[(),false]) w) (((0:Int)<=(av (c+size))/\(av (c+size))<=(b.cap:Int))/\((0:Int)<=c/\c<=((((av (c+size)).toNat):Nat):Int))/\Q (.tuple #[.slice (aU b.a 1 (Int.toNat
 c) b.cap) (((av (c+size)).toNat)-(c.toNat)) (b.cap-(c.toNat)),true]) w)
def aw.ko:aL:=(.q (.s (.s (.z [9,8,9,14,15,20]) (.c (.q .l) .l)) (.q .l)))
theorem ae.Dw(b:ad)(a:Int)(size:Int)(w:J)(Q:aa->J->Prop)(h:ae.ko b a size w Q):aJ aj 170 #[b,a,size] w Q:=okF (λw Q=>ae.ko b a size w Q) aw.ko func170 h
def ae.tL(size:Int)(w:J)(Q:aa->J->Prop):Prop:=Q (.bool ((decide (size>=1))&&(decide (size<=8)))) w
def aw.tL:aL:=a4
theorem ae.zx(size:Int)(w:J)(Q:aa->J->Prop)(h:ae.tL size w Q):aJ aj 171 #[size] w Q:=okF (λw Q=>ae.tL size w Q) aw.tL func171 h
def ae.nF(b:ad)(w:J)(Q:aa->J->Prop):Prop:=aq (w.alloc z3) λw1=>an ((b.len:Int)==4) (oY 220 #[b] w1 λfo ai=>wz ai w fo Q) (an ((b.len:Int)==16) (16<=b.len/\∃cX:
 ah,b.a=some cX/\∃d:O aa,bV w1 cX 0 16=some d/\∃e:Array aa,Sem.run aj (Instr.build 53 #[(0,true),(1,.agg d.toArray)]) w1=.ok (.agg e) w1/\wz w1 w e Q) (∃c:Array aa,
 Sem.run aj (Instr.build 53 #[]) w1=.ok (.agg c) w1/\bC w1 (Y w) (Array.toList c)/\Array.size c=17/\aq (setCells w1 (Y w) 0 (Array.toList c)) λf=>∃g:O aa,bV f (Y w) 0 17=some
 g/\Q (.tuple #[.agg g.toArray,false]) f))
def aw.nF:aL:=(.q (.s (.q (.bY eD)) (.q .l)))
def ae.tM(parts:ad)(w:J)(Q:aa->J->Prop):Prop:=∃ (d:Int->Int->J->Prop) (e:Int->Int->J->Nat),d 4294967295 0 w/\∀ (c:Int) (cg:Int) (b:J),d c cg b->an (decide (cg<
 (parts.len:Int))) (∃dU:ah,parts.a=some dU/\aN cg parts.len/\r1 b (dU.add (cg.toNat*1)) λg=>mo 221 #[.int .u32 c,g] b λn10 f=>d n10 (av (cg+1)) f/\e n10 (av (cg+1)) f
 <e c cg b) (Q (.int .u32 (ng .u32 4294967295 c)) b)
def aw.tM:aL:=(.q (.q (.s (.q (.bY (.loop [(3,(.int .u32)),(8,(.int .i64))] [6,7] a2))) (.q .l))))
def ae.tN(t:au ah)(no:Int)(leaf:al)(w:J)(Q:aa->J->Prop):Prop:=aq (w.alloc z4) λw1=>∃a2:ah,t=some a2/\∃e:au ah,w1.cell? a2=some (e)/\dZ
 222 #[e,no] w1 λA n7 f=>an (n7 !=0) (wB f w Q n7) (zp 137 #[no,A] f λn15 n16 g n18 b=>aq (b.alloc sO) λh=>bC h (Y b)
 [n15,.int .u64 n16,g]/\(3:Nat)=3/\aq (setCells h (Y b) 0 [n15,.int .u64 n16,g]) λi=>an (n18 !=0) (wB i w Q n18) (aq (i.drew) λa=>¬
 False/\cl a ((Y b).add 1) λn27=>∃j:ah,t=some j/\¬False/\cl a (j.add 2) λn29=>an (decide (n27>n29)) (bX (λk:al->J->Prop=>an true (k true a) (aD a (Y b) λn31=>bX (λ
 l:al->J->Prop=>an (n31 !=1) (aD a (Y b) λn33=>l (n33 !=2) a) (l false a)) (λ(B:al) C=>k B C))) (λ(D:al) c=>an D (bC c (Y w) [false,(),(),()]/\(4:Nat)=4/\aq (setCells c (Y w) 0 [false,(),(),()]) λE=>qQ E w Q) (r1 c ((Y b).add 2) λF=>kn 206 #[leaf,
 F] c λm n o p G q=>bC q (Y w) [m,n,o,p]/\(4:Nat)=4/\aq (setCells q (Y w) 0 [m,n,o,p]) λH=>sQ H w Q G))) (¬False/\aD a (Y b) λI=>bX (λr:al->J->Prop=>an (!((I==1)==leaf)) (r true
 a) (aD a (Y b) λK=>bX (λs:al->J->Prop=>an (K !=1) (aD a (Y b) λL=>s (L !=2) a) (s false a)) (λ(M:al) N=>r M N))) (λ(O:al) d=>an O (bC d (Y w)
 [false,(),(),()]/\(4:Nat)=4/\aq (setCells d (Y w) 0 [false,(),(),()]) λP=>qQ P w Q) (r1 d ((Y b).add 2) λR=>
 kn 206 #[leaf,R] d λu v x y S z=>bC z (Y w) [u,v,x,y]/\(4:Nat)=4/\aq
 (setCells z (Y w) 0 [u,v,x,y]) λT=>sQ T w Q S)))))
def aw.tN:aL:=(.q (.q (.s a1 (.q (.s a1 (.s (.s (.d 12 false [0,1,0,3002,1005001,2006,1008007,1009007,8,1011010007,1012007,1013007,15,1015014,1016014,1017014,19,1019018,1020018,1021018014,1022014]
 [0,1,0,3002,1005001,2006,1008007,1009007,8,1011010007,1012007,2013,1015014,1016014,1017014,19,1019018,1020018,1021018014,1022014] [24034]
 [11,35,1,3036,1039035,41,1041010,1042041,1043041,1041002,1045044041,1046041,48,1048010,1049048,1050048,1051048,1052010,1053052,1054052,1055052048,1056048] (.z 8 0 (.sp 41 (.z 4 8 (.tail [.r,.r,.r,.split 8,.r,.r,.r,.split 3,.r,.r,
 .r,.r])) (.z 4 8 (.tail [.r,.r,.r,.split 8,.r,.r,.r,.split 3,.r,.r,.r,.r]))))) (.c (.q .l) .l)) (.q .l)))))))
def ae.nG(c:al)(d:ad)(e:ad)(f:ad)(key:ad)(w:J)(Q:aa->J->Prop):Prop:=aq (w.alloc (.cells #[c,d,e,f] 169)) λw1=>aS w1 (Y w) λbS=>r1 w1 ((Y w).add 1) λg=>r1 w1 ((Y w).add 2) λh=>r1 w1 ((Y w).add 3) λi=>jU 177 #[.agg #[bS,g,h,i],key] w1 λn8 j a=>bX (λb:Int->J->Prop=>an j (b (av (n8+1)) a) (b n8 a)) (λ(n11:Int) k=>Q
 n11 k)
def aw.nG:aL:=(.q (.q (.s (.fl [(5,(.int .i64))] [] (.q (.c .r .l))) (.q .l))))
def ae.lB(a:al)(b:ad)(c:ad)(d:ad)(key:ad)(w:J)(Q:aa->J->Prop):Prop:=aq (w.alloc (.cells #[a,b,c,d] 169)) λw1=>r1 w1 ((Y w).add 1) λs2=>jU 223 #[s2,key,.func (.func
 219) #[] #[]] w1 λn5 e f=>Q (.tuple #[n5,e]) f
def aw.lB:aL:=(.q (.q .l))
def ae.q3(c:au ah)(choose:g8)(w:J)(Q:aa->J->Prop):Prop:=an (Option.isNone c) (Q () w) (∃a1:ah,c=some a1/\r1 w (a1.add 1) λs2=>∃ (h:ad->Int->J->Prop) (i
 :ad->Int->J->Nat),h ⟨none,0,0⟩ 0 w/\∀ (e:ad) (n6:Int) (b:J),h e n6 b->an (decide (n6<(s2.len:Int))) (bX (λj:ad->J->Prop=>∃a9:ah,s2.a=some a9/\aN n6 s2.len/\aS b (a9.add (Int.toNat n6
 *6)) λk=>aS b ((a9.add (n6.toNat*6)).add 1) λl=>aS b ((a9.add (n6.toNat*6)).add 2) λm=>aD b ((a9.add (n6.toNat*6)).add 3) λn13=>aD b ((a9.add (n6.toNat*6)).add 4) λn14=>r1 b
 ((a9.add (n6.toNat*6)).add 5) λn=>aq (b.alloc (.cells #[false,false,false,(0:Int),(0:Int),()] 275)) λo=>bC o (Y b) [k,l,m,n13,n14,n]/\(6:Nat)=6/\aq (setCells o (Y b) 0 [k,l,m,n13,n14,n]) λd=>aS d (Y b) λu=>aS d
 ((Y b).add 1) λv=>aS d ((Y b).add 2) λx=>aD d ((Y b).add 3) λn21=>aD d ((Y b).add 4) λn22=>r1 d ((Y b).add 5) λy=>gW aj choose.f/\Calls aj
 choose.f (choose.pre++ #[.agg #[u,v,x,n21,n22,y]]++choose.cap) d λz g=>∃p:al,z=.returned p/\an p (aD g ((Y b).add 3)
 λn27=>aq (g.alloc (.cells #[n27] 3)) λA=>∃q:ad,∃r:J,Sem.run aj (Builtin.append_ #[72,72] 72 #[e,.slice (some (Y g)) 1 1]) A=.ok
 q r/\j q r) (j e g)) (λ(s:ad) t=>h s (av (n6+1)) t/\i s (av (n6+1)) t<i e n6 b)) (gm 140 #[e] b λB=>Q e B))
def aw.q3:aL:=(.q (.q (.s a1 (.s (.q (.bY (.loop [(5,.slice),(15,(.int .i64))] [1,13,14] (.q (.s (.c .l .l) (.s (.fl [(5,.slice)] [1,13,14,15] (.bY (.q (.q (.c .r .l))))) .r)))))) (.q (.q .l))))))
theorem ae.Dx(c:au ah)(choose:g8)(w:J)(Q:aa->J->Prop)(h:ae.q3 c choose w Q):aJ aj 178 #[c,.func (.func choose.f) choose.pre choose.cap] w Q:=okF (λw Q=>ae.q3 c choose w Q) aw.q3 func178 h
def ae.tO(b:al)(c:al)(d:al)(e:Int)(f:Int)(g:ad)(w:J)(Q:aa->J->Prop):Prop:=aq (w.alloc (.cells #[b,c,d,e,f,g] 275)) λw1=>aS w1 (Y w) λbS=>bX (λa:al->J->Prop=>an bS (aS w1 ((Y w).add 1) λh=>a h w1) (a false w1)) (λ(i:al) j=>Q i j)
def aw.tO:aL:=(.q (.s (.z [9,7]) .l))
set_option maxRecDepth 100000
def ae.tP(c:au ah)(no:Int)(w:J)(Q:aa->J->Prop):Prop:=an (Option.isNone c) (Q (.pointer none) w) (∃a1:ah,c=some a1/\r1 w (a1.add 1) λs2=>∃ (d:Int->J->Prop) (f:Int->
 J->Nat),d 0 w/\∀ (n5:Int) (b:J),d n5 b->an (decide (n5<(s2.len:Int))) (∃cX:ah,c=some cX/\r1 b (cX.add 1) λg=>∃a9:ah,g.a=some a9/\aN n5 g.len/\∃e5:ah,(some (a9.add (n5.toNat*6))
 :au ah)=some e5/\aS b e5 λi=>bX (λh:al->J->Prop=>an i (∃eC:ah,(some (a9.add (n5.toNat*6)):au ah)=some eC/\aD b (eC.add 3) λn14=>h (n14==no) b) (h false b)) (λ
 (j:al) e=>an j (Q (.pointer (some (a9.add (n5.toNat*6)))) e) (d (av (n5+1)) e/\f (av (n5+1)) e<f n5 b))) (Q (.pointer none) b))
def aw.tP:aL:=(.q (.s a1 (.s (.q (.bY (.loop [(14,(.int .i64))] [0,1,13] (.q (.s (.c .l .l) (.s (.bY (.q (.q (.s (.z [15,19]) (.c (.q .l) .l))))) .r)))))) (.q .l))))
def ae.js(s:al)(t:ad)(u:ad)(v:ad)(w:J)(Q:aa->J->Prop):Prop:=aq (w.alloc (.cells #[s,t,u,
 v] 169)) λw1=>r1 w1 ((Y w).add 1) λs2=>∃ (d:Int->J->Prop) (i:Int->J->Nat),d 0 w1/\∀ (n5:Int) (b:J),d n5 b->an (decide (n5<(s2.len:Int))) (∃cX:
 ah,s2.a=some cX/\aN n5 s2.len/\r1 b (cX.add (n5.toNat*1)) λj=>b6 199 #[j] b λx c=>bX (λk:al->J->Prop=>an (!x) (k true c) (bX (λl:al->J->Prop
 =>an (decide (n5>0)) (r1 c ((Y w).add 1) λm=>∃fm:ah,m.a=some fm/\aN (av (n5-1)) m.len/\r1 c (fm.add ((av (n5-1)).toNat*1)) λy=>bW 219 #[y,j] c λn19 z=>l (decide (n19>=0)) z) (l false c)) (λ(A:al) B=>k A B))) (λ(C:al) e=>an C (Q false e) (d (av (n5+1)) e/\i (av (n5+1)) e<i n5 b))) (aS
 b (Y w) λD=>an D (r1 b ((Y w).add 2) λE=>r1 b ((Y w).add 1) λF=>bX (λn:al->J->Prop=>an ((E.len:Int)==(F.len:Int)) (r1 b ((Y w).add 3) λG=>n ((G.len:Int)==0)
 b) (n false b)) (λ(H:al) f=>bX (λo:al->J->Prop=>an H (r1 f ((Y w).add 2) λI=>b6 225 #[I,.func (.func 224) #[]
 #[]] f λK L=>o (!K) L) (o false f)) (λ(M:al) N=>Q M N))) (r1 b ((Y w).add 1) λO=>bX (λp:al->J->Prop=>an (decide ((O.len:Int)>0)) (r1 b ((Y w).add 3) λ
 P=>r1 b ((Y w).add 1) λR=>p ((P.len:Int)==(av ((R.len:Int)+1))) b) (p false b)) (λ(S:al) g=>bX (λq:al->J->Prop=>an S (r1 g ((Y w).add 2) λT=>q ((T.len:Int)
 ==0) g) (q false g)) (λ(U:al) h=>bX (λr:al->J->Prop=>an U (r1 h ((Y w).add 3) λV=>b6 227 #[V,.func (.func 226) #[]
 #[]] h λW X=>r (!W) X) (r false h)) (λ(Z:al) ab=>Q Z ab)))))
def aw.js:aL:=(.q (.s (.q (.bY (.loop [(10,(.int .i64))] [1,8,9] (.q (.s (.c .l .l) (.s (.bY (.q (.s (.z [12,40,6,28]) (.c (.q .l) .l)))) .r)))))) (.s (.q (.c (.q (.s (.z [24,13,15,16]) .l)) .l)) (.q (.s (.z
 [15,25,27,13,15,16]) .l)))))
def ae.fe(m:al)(n:ad)(o:ad)(p:ad)(w:J)(Q:aa->J->Prop):Prop:=aq (w.alloc (.cells #[m,n,o,
 p] 169)) λw1=>aq (w1.alloc z4) λai=>aq (ai.drew) λa=>∃b:Nat->Prop,¬b ((Y w):ah).block/\aS a (Y w) λe=>¬b ((Y w).add 3).block/\r1 a ((Y w).add
 3) λf=>(bG 228 #[f] a λq c=>af b a c/\∃g:Array aa,(∀h:J,Sem.run aj (Instr.build 169 #[(0,e),(3,q)]) h=
 .ok (.agg g) h)/\aq (c.alloc z4) λi=>af b c i/\wA i c g w w1 Q)/\(aq (a.alloc z4) λd=>af b a d/\bG 228 #[f] d λr j=>af b d j/\∃k:
 Array aa,(∀l:J,Sem.run aj (Instr.build 169 #[(0,e),(3,r)]) l=.ok (.agg k) l)/\wA j a k w w1 Q)
def aw.fe:aL:=(.q (.s (.d 7 true [0,1,0,2002,1004001,0,507] [0,1,0,2002,1004001,0,1006005] [6008,4,0] [2,9,2,2010,1012009,0,1013003] (.z 4 0 (.two 4 (.t 5 (.bZ 6 .e)) 6 (.bZ 4 (.t 5 .e))))) (.s (.q (.bY (.loop [(17,(.int
 .i64))] [1,2,3,15,16] (.q (.s (.c .l .l) (.s (.bY (.q (.d 5 true [0,1,0,2002,1004003001,506,507] [0,1,0,2002,1004001,0,1006005] [7021,0] [4,22,6,2023,1025022,4,1027026] (.z 3 0 (.bZ 3 (.bZ 4 (.tail [.r,.r,.r]))))))) .r)))))) (.s
 (.q (.bY (.loop [(32,(.int .i64))] [2,3,30,31] (.q (.s (.c .l .l) (.s (.bY (.q (.d 5 true [0,1,0,2002,1004003001,506,507] [0,1,0,2002,1004001,0,1006005] [7036,0] [4,37,8,2038,1040037,4,1042041] (.z 3 0 (.bZ 3 (.bZ 4 (.tail [.r,.r,
 .r]))))))) .r)))))) (.q .l)))))
def ae.pt(x:ah)(a:ah)(w:J)(Q:aa->J->Prop):Prop:=aD w x λb2=>an (b2 !=0) (aq (w.drew) λai=>¬False/\∃b:au ah,ai.cell? a=some (b)/\¬False/\∃c:au
 ah,ai.cell? a=some (c)/\∃a5:ah,c=some a5/\¬False/\r1 ai (a5.add 1) λd=>gm 186 #[b,d] ai λe=>Q (.tuple #[]) e) (Q (.tuple #[]) w)
def aw.pt:aL:=(.q (.c (.e 5 false [0,0,3001,1004000] [6004] [2,2,3005,1008004] (.z 5 0 .e)) .l))
theorem ae.Dy(x:ah)(a:ah)(w:J)(Q:aa->J->Prop):ae.pt x a w Q=oR aj tk aw.pt Tryz.f185 [.pointer (some x),.pointer (some a)] w Q:=by kernel_rfl
theorem ae.zy(x:ah)(a:ah)(w:J)(K:J->Prop)(h:ae.pt x a w λ_ w1=>K w1):oW aj 185 #[.pointer (some x),.pointer (some a)] w K:=
 C2 v_ ⟨_,func185,by kernel_rfl,by kernel_rfl⟩ func185 (by kernel_rfl) (Eq.mp (ae.Dy x a w _) h)
def ae.tQ(c:au ah)(l:ad)(w:J)(Q:aa->J->Prop):Prop:=∃ (f:Int->J->Prop) (h:Int->J->Nat),f 0 w/\∀ (b:Int) (d:J),f b d->an (decide (b<(l.len:Int))) (bX (λ
 i:J->Prop=>∃dU:ah,l.a=some dU/\aN b l.len/\aD d (dU.add (b.toNat*1)) λn7=>∃eW:ah,c=some eW/\∃j:au ah,d.cell? eW=some (j)/\∃e5:ah,j=some e5/\∃k:au ah,
 d.cell? (e5.add 1)=some (k)/\b6 229 #[k,n7] d λt g=>∃fm:ah,c=some fm/\∃m:au ah,g.cell? fm=some (m)/\∃iS:ah,m=some iS/\∃
 n:au ah,g.cell? (iS.add 1)=some (n)/\bW 145 #[n,n7] g λn21 e=>an t (∃o:ah,c=some o/\∃p:au ah,e.cell? o=some (p)/\∃q:
 ah,p=some q/\∃r:au ah,e.cell? q=some (r)/\b6 127 #[r,n7] e λv u=>i u) (i e)) (λs=>f (av (b+1)) s/\h (av (b+1)) s<h b d))
 (Q (.tuple #[]) d)
def aw.tQ:aL:=(.q (.bY (.loop [(9,(.int .i64))] [0,7,8] (.q (.s (.c .l .l) (.s (.fl [] [0,7,8,9] (.bY (.q (.q (.q (.q (.c .r .l))))))) .r))))))
def ae.nH(c:au ah)(gZ:ad)(T:al)(U:ad)(V:ad)(W:ad)(w:J)(Q:aa->J->Prop):Prop:=aq (w.alloc (.cells #[T,U,V,W] 169)) λw1=>aS w1 (Y w) λbS=>r1 w1 ((Y w).add 1) λs=>r1 w1 ((Y w).add 2) λt=>r1 w1
 ((Y w).add 3) λu=>aq (w1.alloc z4) λv=>bC v (Y w1) [bS,s,t,u]/\(4:Nat)=4/\aq (setCells v (Y w1) 0 [bS,s,t,u]) λX=>∃ (k:Int->J->Prop) (x:Int->J->Nat),k (av ((gZ.len:Int)-1)) X/\∀ (n10:Int) (b:J),k n10 b->an (decide (n10>=0)) (aq
 (b.drew) λf=>∃i:Nat->Prop,∃eD:ah,c=some eD/\¬i (eD.add 2).block/\r1 f (eD.add 2) λZ=>∃gh:ah,gZ.a=some gh/\aN n10 gZ.len/\¬i (gh.add (n10.toNat*6)).block/\aD f (gh.add
 (n10.toNat*6)) λn17=>aq (f.alloc (.cells #[n17] 3)) λl=>af i f l/\∃y:ad,∃m:J,Sem.run aj (Builtin.append_ #[72,72] 72 #[Z,
 .slice (some (Y f)) 1 1]) l=.ok y m/\af i l m/\∃z:ah,c=some z/\st m (z.add 2) y λn=>bX (λA:al->J->Prop=>an (n10==0) (r1
 n ((Y w1).add 1) λab=>A ((ab.len:Int)==0) n) (A false n)) (λ(ac:al) o=>an ac (aq (o.drew) λd=>∃j:Nat->Prop,¬j ((Y w1):ah).block/\aS d (Y w1) λag=>r1 d ((Y
 w1).add 1) λai=>r1 d ((Y w1).add 2) λak=>r1 d ((Y w1).add 3) λam=>∃p:ah,c=some p/\¬j p.block/\∃B:au ah,d.cell? p=some (B)/\∃q:ah,B=some q/\¬j
 (q.add 4).block/\aD d (q.add 4) λn36=>oZ 230 #[.agg #[ag,ai,ak,am],n36] d λn39 n40 n41 C=>af j d C/\Q
 (.tuple #[n39,n40,n41]) C) (bX (λD:au ah->J->Prop=>an (decide (n10>0)) (∃E:ah,gZ.a=some E/\aN (av (n10-1)) gZ.len/\D (some (E.add ((av (n10-1)).toNat*
 6))) o) (D none o)) (λ(F:au ah) g=>aS g (Y w1) λao=>r1 g ((Y w1).add 1) λap=>r1 g ((Y w1).add 2) λar=>r1 g ((Y w1).add 3) λaw=>wc 231 #[c,
 .agg #[ao,ap,ar,aw],F] g λG ax ay H e=>an (H !=0) (Q (.tuple #[(0:Int),(0:Int),H]) e) (an (n10==
 0) (oZ 232 #[c,G] e λaz aA aB aC=>Q (.tuple #[az,aA,aB]) aC) (∃h:ah,F=some h/\aS e (h.add 1) λaE=>r1 e ((h.add
 1).add 1) λaF=>r1 e ((h.add 1).add 2) λaG=>r1 e ((h.add 1).add 3) λaH=>fI 233 #[.agg #[aE,aF,aG,aH],ax,ay,G] e λI K L M N=>bC N (Y w1) [I,K,L,M]/\(4:Nat)=4/\aq (setCells N
 (Y w1) 0 [I,K,L,M]) λO=>k (av (n10-1)) O/\x (av (n10-1)) O<x n10 b)))))) (aS b (Y w1) λaI=>r1 b ((Y w1).add
 1) λaJ=>r1 b ((Y w1).add 2) λaK=>r1 b ((Y w1).add 3) λaL=>dZ 234 #[c,.agg #[aI,aJ,aK,aL]] b
 λP R r=>an (R !=0) (Q (.tuple #[(0:Int),(0:Int),R]) r) (∃S:ah,P.a=some S/\aN 0 P.len/\aD r ((S.add (Int.toNat 0*2)).add 1) λaM=>Q (.tuple #[aM,(1:Int),(0:Int)]) r))
def aw.nH:aL:=(.q (.q (.s (.q (.bY (.loop [(10,(.int .i64))] [0,1,9] (.s (.q (.c .l .l)) (.s (.bY (.s (.d 12 true [0,0,3001,0,0,1006005,3007,1010004,512,513,1000000012287] [0,0,3001,0,0,1006005,3007,1010004,1,13,1013011]
 [14025,0] [1,1,3026,2,11,1031030,3032,1035029,26,38,1038036] (.z 10 0 (.bZ 10 (.bZ 11 (.tail [.r,.r,.r]))))) (.s (.s (.z [9,13]) (.c (.s (.d 12 true [0,0,6001,1007000,9,9,9,512,513,514] [0,0,6001,1007000,9,9,4008] [12047,3006]
 [10,1,6048,1054047,56,56,4055] (.z 8 0 (.bZ 8 (.z 3 9 (.tail [.r,.r,.r]))))) .l) .l)) (.q (.s (.fl [(11,.ptr)] [0,1,9,10] (.q (.c .r .l))) (.q (.s a1 (.s a1 .r)))))))) .r))))) df)))
def ae.lC(b:ad)(a:Int)(c:Int)(w:J)(Q:aa->J->Prop):Prop:=mn 106 #[b,a,.int .i64 (av (c-a))] w λd e w1=>Q (.int .u64 d) w1
def aw.lC:aL:=a3
def ae.pv(b:ad)(w:J)(Q:aa->J->Prop):Prop:=∃ (e:Int->J->Prop) (f:Int->J->Nat),e 0 w/\∀ (c:Int) (d:J),e c d->an (decide (c<(b.len:Int))) (∃a5:ah,b.a=some a5/\aN
 c b.len/\dN d (a5.add (c.toNat*1)) λn6=>an (n6 !=0) (Q false d) (e (av (c+1)) d/\f (av (c+1)) d<f c d)) (Q true d)
def aw.pv:aL:=(.q (.s (.q (.bY (.loop [(7,(.int .i64))] [5,6] eC))) (.q .l)))
def ae.pw(b:ad)(a:Int)(size:Int)(w:J)(Q:aa->J->Prop):Prop:=iQ 170 #[b,a,size] w λc d w1=>bG 46 #[c] w1 λe f=>Q (.tuple #[e,d]) f
def aw.pw:aL:=a3
def ae.tR(s:ad)(no:Int)(w:J)(Q:aa->J->Prop):Prop:=(8:Int)≠0/\∃a1:ah,s.a=some a1/\aN (av (Int.tdiv no 8)) s.len/\dN w (a1.add ((av (Int.tdiv no 8)).toNat*1)) λbp=>(8:Int)≠0
 /\(0:Int)<=(Int.tmod no 8)/\Q (.bool (((ik .u8 (Int.fdiv bp (2^(min ((Int.tmod no 8).toNat) 8))) 1):Int)==1)) w
def aw.tR:aL:=(.q (.q .l))
def ae.nI(a:ad)(w:J)(Q:aa->J->Prop):Prop:=Q (.bool ((decide ((a.len:Int)>=1))&&(decide ((a.len:Int)<=24)))) w
def aw.nI:aL:=cX
def ae.q4(s:au ah)(no:Int)(w:J)(Q:aa->J->Prop):Prop:=∃a1:ah,s=some a1/\r1 w (a1.add 1) λs2=>b6 198 #[s2,no] w λc a=>bX (λ
 b:al->J->Prop=>an c (b true a) (∃cX:ah,s=some cX/\r1 a (cX.add 2) λd=>b6 198 #[d,no] a λe f=>b e f)) (λ(g:al) h=>Q g h)
def aw.q4:aL:=(.q (.s (.z [21,19]) .l))
theorem ae.Dz(s:au ah)(no:Int)(w:J)(Q:aa->J->Prop)(h:ae.q4 s no w Q):aJ aj 201 #[s,no] w Q:=okF (λw Q=>ae.q4 s no w Q) aw.q4 func201 h
def ae.q5(s:au ah)(no:Int)(w:J)(Q:aa->J->Prop):Prop:=bX (λb7:al->J->Prop=>an ((!(Option.isNone s))&&(decide (no>=0))) (∃a2:ah,s=some a2/\aD w a2 λa=>b7 (decide
 (no<a)) w) (b7 false w)) (λ(b:al) c=>Q b c)
def aw.q5:aL:=(.q (.s (.z [9,8,9,19]) .l))
theorem ae.DA(s:au ah)(no:Int)(w:J)(Q:aa->J->Prop)(h:ae.q5 s no w Q):aJ aj 202 #[s,no] w Q:=okF (λw Q=>ae.q5 s no w Q) aw.q5 func202 h
def ae.tS(s:ad)(no:Int)(w:J)(Q:aa->J->Prop):Prop:=aq (w.drew) λw1=>(8:Int)≠0/\∃a2:ah,s.a=some a2/\aN (av (Int.tdiv no 8)) s.len/\¬False/\dN w1 (a2.add ((av (Int.tdiv no
 8)).toNat*1)) λb=>(8:Int)≠0/\(0:Int)<=(Int.tmod no 8)/\∃a4:ah,s.a=some a4/\aN (av (Int.tdiv no 8)) s.len/\st w1 (a4.add ((av (Int.tdiv no 8)).toNat*1)) (.int .u8 (yq .u8 b (IntKind.wrap .u8 (1*2^(min
 ((Int.tmod no 8).toNat) 8))))) λc=>Q (.tuple #[]) c
def aw.tS:aL:=(.d 8 false [0,0,2,1002000,4,0,2005,1007004,509,510] [0,0,2,1002000,4,0,2005,1007004,1002000,1009008] [10004,0] [1,2,6,1006004,8,2,2009,1011008,1006004,1013012] (.z 8 0 (.tail [.r,.r,.r])))
def ae.tT(c:au ah)(no:Int)(w:J)(Q:aa->J->Prop):Prop:=bX (λb7:al->J->Prop=>an ((!(Option.isNone c))&&(decide (no>=0))) (∃a2:ah,c=some a2/\∃a:au ah,w.cell?
 a2=some (a)/\bW 55 #[a] w λn6 b=>b7 (decide (no<n6)) b) (b7 false w)) (λ(d:al) e=>Q d e)
def aw.tT:aL:=a9
def ae.tU(c:au ah)(w:J)(Q:aa->J->Prop):Prop:=jo 250 #[c] w λf w1=>an (!(Option.isNone f)) (Q (.tuple #[f,(0:Int)]) w1) (jo 251
 #[c] w1 λa b=>an (Option.isNone a) (Q (.tuple #[.pointer none,(11:Int)]) b) (bX (λg:J->Prop=>∃eW:ah,a=some eW/\aS b (eW.add 1) λk=>an k (aq (b.drew) λd=>∃d_:ah,c=some
 d_/\¬False/\∃h:au ah,d.cell? d_=some (h)/\∃eC:ah,a=some eC/\¬False/\aD d (eC.add 3) λn14=>∃fm:ah,a=some fm/\¬False/\r1 d (fm.add 5) λl=>bW 58
 #[h,n14,l] d λn19 i=>an (n19 !=0) (Q (.tuple #[.pointer none,n19]) i) (g i)) (g b)) (λj=>∃e:ah,a=some e/\bC j e [false,false,false,(0:Int),(0:Int),()]/\(6:Nat)=6/\aq (setCells j e 0 [false,false,false,(0:Int),(0:Int),()]) λm=>Q (.tuple #[a,(0:Int)])
 m)))
def aw.tU:aL:=(.q (.s (.q a1) (.q (.s a1 (.s (.fl [] [5] (.q (.c (.s (.d 12 false [0,3000,0,3004,0,3008,1011007003,513] [0,3000,0,3004,0,3008,1011007003,13] [13020,7] [1,3020,6,3024,6,3028,1031027023,33] (.z 12 0 (.tail
 [.r,.r]))) a1) .l))) (.q (.q .l)))))))
def ae.px(leaf:al)(b:ad)(w:J)(Q:aa->J->Prop):Prop:=aq (w.alloc z4) λw1=>aq (w1.alloc (.cells #[b,true] 342)) λai=>aq (ai.alloc z4) λm=>bC m
 (Y ai) [leaf,(),(),()]/\(4:Nat)=4/\aq (setCells m (Y ai) 0 [leaf,(),(),()]) λG=>bW 252 #[.pointer (some (Y
 w1)),(1:Int)] G λn7 n=>bX (λo:J->Prop=>an (!leaf) (wg n ai w1 o) (o n)) (λH=>∃ (g:Int->J->Prop) (p:Int->J->Nat),g 0 H/\∀ (n22:Int) (a:J),g n22 a->an (decide (n22
 <n7)) (bX (λq:J->Prop=>aq (a.drew) λh=>∃i:Nat->Prop,¬i ((Y ai).add 1).block/\r1 h ((Y ai).add 1) λI=>bG 253 #[.pointer (some (Y w1))] h λK e=>af i h
 e/\aq (e.alloc (.cells #[K] 39)) λr=>af i e r/\∃s:ad,∃t:J,Sem.run aj (Builtin.append_ #[93,93] 93 #[I,.slice (some (Y e)) 1 1]) r=.ok s t/\st t ((Y ai).add 1) s λu=>an leaf (aq (u.drew) λj=>∃k:Nat->Prop,¬k ((Y ai).add
 2).block/\r1 j ((Y ai).add 2) λL=>bG 253 #[.pointer (some (Y w1))] j λM f=>af k j f/\aq (f.alloc (.cells #[M] 39)) λv=>af k f v/\∃x
 :ad,∃y:J,Sem.run aj (Builtin.append_ #[93,93] 93 #[L,.slice (some (Y f)) 1 1]) v=.ok x y/\st y ((Y ai).add 2)
 x λN=>q N) (wg u ai w1 q)) (λz=>g (av (n22+1)) z/\p (av (n22+1)) z<p n22 a)) (aS a (Y ai) λO=>r1 a ((Y ai).add 1) λP=>r1 a ((Y ai).add
 2) λR=>r1 a ((Y ai).add 3) λS=>dZ 254 #[.agg #[O,P,R,S]] a λT U l=>∃A:ah,(some (Y w1):
 au ah)=some A/\aS l (A.add 1) λV=>bX (λB:al->J->Prop=>an ((!V)||(U !=0)) (B true l) (b6 108 #[T,b] l λW X=>B (!W)
 X)) (λ(Z:al) c=>an Z (bC c (Y w) [false,(),(),()]/\(4:Nat)=4/\aq (setCells c (Y w) 0 [false,(),(),()]) λab
 =>qQ ab w Q) (aS c (Y ai) λC=>r1 c ((Y ai).add 1) λD=>r1 c ((Y ai).add 2) λE=>r1 c ((Y ai).add 3) λF=>bC c (Y w) [C,D,E,F]/\(4:Nat)=4/\aq (setCells c (Y w) 0 [C,D,E,F]) λd=>aS d (Y w) λac=>r1 d
 ((Y w).add 1) λag=>r1 d ((Y w).add 2) λak=>r1 d ((Y w).add 3) λam=>Q (.tuple #[.agg #[ac,ag,ak,am],(0:Int)]) d))))
def aw.px:aL:=(.q (.q (.q (.s (.fl [] [0,1,4,6,7,8] (.q (.c (.d 5 true [0,1,0,2002,1004003001,506,507] [0,1,0,2002,1004001,0,1006005] [7020,0] [8,21,7,2022,1024021,8,1026025] (.z 3 0 (.bZ 3 (.bZ 4 (.tail [.r,.r,.r])))))
 .l))) (.s (.q (.bY (.loop [(28,(.int .i64))] [0,1,4,6,7,27] (.q (.s (.c .l .l) (.s (.fl [] [0,1,4,6,7,27,28] (.bY (.s (.d 5 true [0,1,0,2002,1004003001,506,507] [0,1,0,2002,1004001,0,1006005] [7030,0]
 [8,31,7,2032,1034031,8,1036035] (.z 3 0 (.bZ 3 (.bZ 4 (.tail [.r,.r,.r]))))) (.q (.c (.d 5 true [0,1,0,2002,1004003001,506,507] [0,1,0,2002,1004001,0,1006005] [7038,0] [8,39,7,2040,1042039,8,1044043] (.z 3 0 (.bZ 3 (.bZ 4 (.tail [.r,
 .r,.r]))))) (.d 5 true [0,1,0,2002,1004003001,506,507] [0,1,0,2002,1004001,0,1006005] [7045,0] [8,46,7,2047,1049046,8,1051050] (.z 3 0 (.bZ 3 (.bZ 4 (.tail [.r,.r,.r])))))))))) .r)))))) (.q (.s (.s (.z [18,8,9,13]) (.c (.q .l) .l)) (.q
 .l))))))))
def ae.nJ(a:Array aa)(bits:Int)(w:J)(Q:aa->J->Prop):Prop:=aq (w.alloc (.cells a 53)) λw1=>aq (w1.alloc o0) λai=>∃k:O aa,bV ai (Y w) 0 17=some k/\bG 167
 #[.agg k.toArray] ai λb l=>∃m:O aa,bV l (Y w) 0 17=some m/\b6 258 #[.agg m.toArray] l λB c=>an (((!B)||(decide (bits<0)))||(decide (bits>(av (8*(b.len:Int)))))) (∃e:Array
 aa,Sem.run aj (Instr.build 55 #[]) c=.ok (.agg e) c/\bC c (Y w1) (Array.toList e)/\Array.size e=18/\aq (setCells c (Y w1) 0 (Array.toList e)) λn=>∃o:O aa,bV n (Y w1)
 0 18=some o/\Q (.tuple #[.agg o.toArray,false]) n) (∃ (i:Int->J->Prop) (p:Int->J->Nat),i 0 c/\∀ (n16:Int) (f:J),i n16 f->an (decide (n16<(b.len:Int))) (∃n18:Int,∃q:J,
 Sem.run aj (Builtin.max_ #[3,3] 3 #[.int .i64 (av (bits-(av (8*n16)))),(0:Int)]) f=.ok n18 q/\∃n20:Int,∃r:J,Sem.run aj (Builtin.min_ #[3,3] 3 #[n18,(8:Int)]) q=.ok n20 r/\aq (r.drew) λs=>∃t:ah,b.a=some t/\aN n16 b.len/\¬False/\dN s (t.add (n16.toNat*1)) λn24=>(0:Int)<=(av (8-n20))/\∃u:ah,b.a=
 some u/\aN n16 b.len/\st s (u.add (n16.toNat*1)) (.int .u8 (ik .u8 n24 (IntKind.wrap .u8 (255*2^(min ((av (8-n20)).toNat) 8))))) λv=>i (av (n16+1)) v/\p (av (n16+1)) v<p n16 f) (jT
 172 #[b] f λj C g=>aq (g.alloc z3) λx=>bC x (Y g) (Array.toList j)/\Array.size j=17/\aq (setCells x (Y g) 0 (Array.toList j)) λd=>∃y:O aa,
 bV d (Y g) 0 17=some y/\∃h:Array aa,Sem.run aj (Instr.build 55 #[(0,.agg y.toArray),(1,bits)]) d=.ok (.agg h) d/\bC d (Y w1) (Array.toList h)/\Array.size h=18
 /\aq (setCells d (Y w1) 0 (Array.toList h)) λz=>∃A:O aa,bV z (Y w1) 0 18=some A/\Q (.tuple #[.agg A.toArray,true]) z))
def aw.nJ:aL:=(.q (.q (.s (.s (.z [12,8,9,17]) (.c (.q .l) .l)) (.s (.q (.bY (.loop [(30,(.int .i64))] [1,4,6,29] (.q (.s (.c .l .l) (.s (.bY (.q (.q (.d 7 false [0,0,502,3,0,2004,1006003,508,509]
 [0,0,502,3,0,2004,1006003,502,1008007] [9039,0] [2006,1040039,42,9,2043,1045042,1040039,1047046] (.z 7 0 (.tail [.r,.r,.r])))))) .r)))))) (.q (.q .l))))))
theorem ae.DB(a:Array aa)(bits:Int)(w:J)(Q:aa->J->Prop)(h:ae.nJ a bits w Q):aJ aj 213 #[.agg a,bits] w Q:=okF (λw Q=>ae.nJ a bits w Q) aw.nJ func213 h
def ae.nK(a:Array aa)(w:J)(Q:aa->J->Prop):Prop:=aq (w.alloc (.cells a 53)) λw1=>aS w1 (Y w) λbS=>an bS (Q (.slice (aU (some ((Y w).add 1)) 1 0 16) (16-0) (16-0)) w1) (((0:
 Int)<=12/\12<=((16:Nat):Int))/\Q (.slice (aU (some ((Y w).add 1)) 1 (Int.toNat 12) 16) (16-(Int.toNat 12)) (16-(Int.toNat 12))) w1)
def aw.nK:aL:=df
theorem ae.DC(a:Array aa)(w:J)(Q:aa->J->Prop)(h:ae.nK a w Q):aJ aj 214 #[.agg a] w Q:=okF (λw Q=>ae.nK a w Q) aw.nK func214 h
def ae.tV(t:au ah)(no:Int)(level:Int)(c:ad)(f:g8)(w:J)(Q:aa->J->Prop):Prop:=kn 175 #[.pointer t,.int .i64 no,.bool (level==1)] w λv d e g n7 w1=>aq
 (w1.alloc z4) λx=>bC x (Y w1) [.bool v,.slice d.a d.len d.cap,.slice e.a e.len e.cap,.slice g.a g.len g.cap]/\(4:Nat)=4/\aq (setCells x (Y w1) 0 [.bool v,.slice d.a d.len d.cap,.slice e.a e.len
 e.cap,.slice g.a g.len g.cap]) λh=>an (n7 !=0) (Q (.tuple #[.bool false,.int .i64 n7]) h) (aS h (Y w1) λD=>r1 h (Addr.add (Y w1) 1) λk=>r1 h (Addr.add (Y w1) 2) λl=>r1 h (Addr.add (Y w1) 3) λm
 =>gW aj f.f/\Calls aj f.f (f.pre++ #[.int .i64 no,.agg #[.bool D,.slice k.a k.len k.cap,.slice l.a l.len l.cap,.slice m.a m.len m.cap]]++f.cap) h λE n=>∃y:al,E=.returned
 (.bool y)/\an (!y) (Q (.tuple #[.bool false,.int .i64 0]) n) (an (level==1) (Q (.tuple #[.bool true,.int .i64 0]) n) (aq (n.drew) λb=>∃o:Nat->Prop,¬o (Addr.add (Y w1) 3).block/\r1 b (Addr.add (Y w1) 3)
 λi=>¬o ((Y w1):ah).block/\aS b (Y w1) λF=>r1 b (Addr.add (Y w1) 1) λp=>r1 b (Addr.add (Y w1) 2) λq=>r1 b (Addr.add (Y w1) 3) λr=>bW 176 #[.agg #[.bool F,.slice p.a p.len
 p.cap,.slice q.a q.len q.cap,.slice r.a r.len r.cap],.slice c.a c.len c.cap] b λn26 z=>af o b z/\((0:Int)<=n26/\n26<=(i.len:Int))/\∃ (s:Int->J->Prop) (A:Int->J->
 Nat),s 0 z/\∀ (n29:Int) (j:J),s n29 j->an (decide (n29<(((i.len-(Int.toNat n26)):Nat):Int))) (∃B:ah,(aU i.a 1 (Int.toNat n26) i.cap)=some B/\((0:Int)<=n29/\n29<(((i.len-(Int.toNat
 n26)):Nat):Int))/\aD j (B.add (Int.toNat n29*1)) λn32=>mm 217 #[.pointer t,.int .i64 n32,.int .i64 (av (level-1)),.slice c.a c.len c.cap,.func (.func f.f) f.pre f.cap] j λC n36 u
 =>an ((n36 !=0)||(!C)) (Q (.tuple #[.bool C,.int .i64 n36]) u) (s (av (n29+1)) u/\A (av (n29+1)) u<A n29 j)) (Q (.tuple #[.bool true,.int .i64 0]) j))))
def aw.tV:aL:=(.q (.q (.s a1 (.s a1 (.s a1 (.s (.s (.e 8 true [0,1,0,0,1003002,1004001,6,0] [8036] [13,37,13,4,1039038,1040037,42,0] (.z 4 0 (.t 7 (.bZ 4 (.t 5 (.t 6 .fin)))))) (.bY (.loop [(43,(.int .i64))] [0,2,3,4,
 41,42] (.q (.s (.c .l .l) (.s (.bY (.q (.q d_))) .r)))))) (.q .l)))))))
def ae.tW(Z:Int)(B:al)(C:ad)(D:ad)(E:ad)(x:ah)(F:ah)(c:ah)(G:ah)(w:J)(Q:aa->J->Prop):Prop:=aq (w.alloc (.cells #[B,C,D,E] 169)) λw1=>r1 w1 ((Y w).add 1) λs2=>∃ (i:Int->J->Prop) (n:Int->J->Nat),i 0 w1/\∀ (n5
 :Int) (b:J),i n5 b->an (decide (n5<(s2.len:Int))) (∃cX:ah,s2.a=some cX/\aN n5 s2.len/\r1 b (cX.add (n5.toNat*1)) λj=>r1 b x λH=>bX (λo:al->J->Prop=>an (decide ((H.len:Int)>0))
 (r1 b x λI=>bW 219 #[j,I] b λn14 K=>o (decide (n14>=0)) K) (o false b)) (λ(L:al) k=>bX (λp:al->J->Prop=>an L (aS k
 (Y w) λM=>p M k) (p false k)) (λ(N:al) d=>an N (Q false d) (bX (λq:J->Prop=>aS d (Y w) λO=>bX (λr:al->J->Prop=>an O (r1 d F λP=>bW
 219 #[j,P] d λn27 R=>r (decide (n27>=0)) R) (r false d)) (λ(S:al) s=>an S (aq (s.drew) λe=>∃g:Nat->Prop,¬g c.block/\r1
 e c λT=>¬g ((Y w).add 2).block/\r1 e ((Y w).add 2) λt=>∃l:ah,t.a=some l/\aN n5 t.len/\¬g (l.add (n5.toNat*1)).block/\r1 e (l.add (n5.toNat*1)) λU=>∃v:
 Array aa,(∀y:J,Sem.run aj (Instr.build 198 #[(0,j),(1,U)]) y=.ok (.agg v) y)/\∃z:ad,∃m:J,Sem.run aj (Instr.buildSlice
 193 1 #[(0,.agg v)]) e=.ok z m/\af g e m/\∃A:ad,∃h:J,Sem.run aj (Builtin.append_ #[193,193] 193 #[T,z]) m=.ok A h/\(∃u:aa,h.cell? c=some u)/\h.frozen? c=false/\aq (h.setCell c A) λV=>q V) (q s)))
 (λf=>r1 f c λW=>aD f G λX=>an ((W.len:Int)==X) (Q false f) (i (av (n5+1)) f/\n (av (n5+1)) f<n n5 b)))))) (Q true b)
def aw.tW:aL:=(.q (.s (.q (.bY (.loop [(14,(.int .i64))] [2,3,4,5,7,12,13] (.q (.s (.c .l .l) (.s (.bY (.q (.s (.s (.z [12,13,15,7]) (.c (.q .l) .l)) (.s (.fl [] [2,3,4,5,7,12,13,14] (.s (.z [9,13]) (.c (.d
 9 true [0,0,0,3,0,1004003,6,1006001,8,1008000,510] [0,0,0,3,0,1004003,6,1006001,8,1008000,10] [10040,0] [5,11,8,43,10,1044043,46,1046041,48,1048040,1049004] (.z 8 0 (.bZ 8 (.tail [.r,.r])))) .l))) a1)))) .r)))))) (.q .l)))
def ae.py(b:ad)(w:J)(Q:aa->J->Prop):Prop:=aq (w.alloc z3) λw1=>((0:Int)<=12/\12<=((16:Nat):Int))/\∃bp:Int,∃a:J,Sem.run aj (Builtin.copy_ #[39,39] 3
 #[.slice (aU (some ((Y w).add 1)) 1 (Int.toNat 12) 16) (16-(Int.toNat 12)) (16-(Int.toNat 12)),b]) w1=.ok bp a/\∃c:O aa,bV a (Y w) 0 17=some c/\bC a (Y w)
 (Array.toList c.toArray)/\Array.size c.toArray=17/\aq (setCells a (Y w) 0 (Array.toList c.toArray)) λd=>∃e:O aa,bV d (Y w) 0 17=some e/\Q (.agg e.toArray) d
def aw.py:aL:=a3
def ae.pz(n:Int)(b:ad)(w:J)(Q:aa->J->Prop):Prop:=∃ (f:Int->Int->J->Prop) (h:Int->Int->J->Nat),f n 0 w/\∀ (e:Int) (cg:Int) (d:J),f e cg d->an (decide (cg<
 (b.len:Int))) (∃dU:ah,b.a=some dU/\aN cg b.len/\dN d (dU.add (cg.toNat*1)) λn7=>∃ (g:Int->Int->J->Prop) (i:Int->Int->J->Nat),g (ng .u32 e (IntKind.wrap .u32 n7)) 0 d/\∀ (n10:Int) (n11:
 Int) (c:J),g n10 n11 c->an (decide (n11<8)) ((0:Int)<=1/\g (ng .u32 (Int.fdiv n10 (2^(min (Int.toNat 1) 32))) (ik .u32 2197175160 (IntKind.wrap .u32 (0-(ik .u32 n10 1))))) (av (n11+1)) c/\i (ng .u32
 (Int.fdiv n10 (2^(min (Int.toNat 1) 32))) (ik .u32 2197175160 (IntKind.wrap .u32 (0-(ik .u32 n10 1))))) (av (n11+1)) c<i n10 n11 c) (f n10 (av (cg+1)) c/\h n10 (av (cg+1)) c<h e cg d)) (Q (.int .u32 e) d)
def aw.pz:aL:=(.q (.s (.q (.bY (.loop [(0,(.int .u32)),(9,(.int .i64))] [7,8] (.q (.s (.c .l .l) (.s (.bY (.q (.q (.q (.bY (.loop [(0,(.int .u32)),(17,(.int .i64))] [7,8,9] (.q (.s (.c .l .l) (.s (.bY .r) .r)))))))))
 .r)))))) (.q .l)))
def ae.tX(c:au ah)(no:Int)(w:J)(Q:aa->J->Prop):Prop:=b6 204 #[c,no] w λk w1=>an (!k) (Q (.tuple #[(),(1:Int)]) w1) (jo
 180 #[c,no] w1 λa g=>an (!(Option.isNone a)) (∃cX:ah,a=some cX/\st g (cX.add 2) true λh=>∃a9:ah,a=some a9/\r1 h (a9.add 5) λl=>bG
 46 #[l] h λm n=>Q (.tuple #[m,(0:Int)]) n) (gY 205 #[c] g λo n17 b=>an (n17 !=0) (Q (.tuple #[(),n17]) b) (∃i:ah,c=some i/\∃j:au ah,b.cell? i=some (j)/\dZ 75 #[j,no] b λd n23 e=>an (n23 !=0) (Q (.tuple #[(),n23]) e) (∃f:ah,o=some f/\bC e f [true,false,true,no,(0:Int),d]/\(6:Nat)=6/\aq (setCells e f 0 [true,false,true,
 no,(0:Int),d]) λp=>bG 46 #[d] p λq r=>Q (.tuple #[q,(0:Int)]) r))))
def aw.tX:aL:=(.q (.s a1 (.s (.q (.q eW)) (.q (.s a1 (.q fm))))))
def ae.tY(v:ad)(w:J)(Q:aa->J->Prop):Prop:=Q (.bool (decide ((v.len:Int)>24))) w
def aw.tY:aL:=(.q (.q .l))
theorem ae.DD(v:ad)(w:J)(Q:aa->J->Prop)(h:ae.tY v w Q):aJ aj 224 #[v] w Q:=okF (λw Q=>ae.tY v w Q) aw.tY func224 h
def ae.tZ(a:Int)(w:J)(Q:aa->J->Prop):Prop:=Q (.bool ((decide (a<0))||(decide (a>=1600)))) w
def aw.tZ:aL:=a4
theorem ae.DE(a:Int)(w:J)(Q:aa->J->Prop)(h:ae.tZ a w Q):aJ aj 226 #[a] w Q:=okF (λw Q=>ae.tZ a w Q) aw.tZ func226 h
def ae.q6(s:au ah)(no:Int)(w:J)(Q:aa->J->Prop):Prop:=b6 202 #[s,no] w λd w1=>bX (λb:al->J->Prop=>an d (∃a5:ah,s=some a5/\r1
 w1 (a5.add 1) λe=>b6 198 #[e,no] w1 λf g=>b f g) (b false w1)) (λ(h:al) a=>bX (λc:al->J->Prop=>an h (∃eC:ah,s=some eC/\r1 a
 (eC.add 2) λi=>b6 198 #[i,no] a λj k=>c (!j) k) (c false a)) (λ(l:al) m=>Q l m))
def aw.q6:aL:=(.q (.s (.z [12,19,21,22]) .l))
theorem ae.DF(s:au ah)(no:Int)(w:J)(Q:aa->J->Prop)(h:ae.q6 s no w Q):aJ aj 229 #[s,no] w Q:=okF (λw Q=>ae.q6 s no w Q) aw.q6 func229 h
def ae.pA(c:al)(d:ad)(e:ad)(f:ad)(aG:Int)(w:J)(Q:aa->J->Prop):Prop:=aq (w.alloc (.cells #[c,d,e,f] 169)) λw1=>aS w1 (Y w) λbS=>an bS (Q (.tuple #[(0:Int),(0:Int),(0:Int)]) w1) (r1 w1 ((Y w).add 3) λb=>∃a4:ah,b.a=some a4/\aN 0 b.len
 /\aD w1 (a4.add (Int.toNat 0*1)) λn5=>Q (.tuple #[n5,.int .i64 (av (aG-1)),(0:Int)]) w1)
def aw.pA:aL:=df
end Go.Proofs.YtcmgnhkpfllinaaGreat
