/- Printed by gen.py: functions of the program, each as what must be shown of it. -/
import Derived.Test.YtcmgnhkpfllinaaGreatProg
import Derived.Test.YtcmgnhkpfllinaaGreatKSAll2
namespace aQ
abbrev aO.s:=aO.seq
abbrev aO.l:=aO.leaf
abbrev aO.c:=aO.cond
abbrev aO.r:=aO.pV []
abbrev aK.t:=aK.take
abbrev kD.r:=kD.run
open Go
def hE:O Nat->O Nat
 | []=> []
 |x::l=>bif Nat.blt x 500 then (bif Nat.beq x 0 then 0 else 2^(x-1))::hE l else bif Nat.blt x 1000 then (2^(x-500)-1)::hE l else bif Nat.blt x 1000000 then (List.range' (x%1000) (x/1000)).map (λy=>2^y)++hE l else bif Nat.blt x 1000000000 then (2^(x/1000-1000)+2^(x%1000))::hE l else bif Nat.blt x 1000000000000 then (2^(x/1000000-1000)+2^(x/1000%1000)+2^(x%1000))::hE l else (x-1000000000000)::hE l
def aK.z:Nat->Nat->aK->aK
 |0,_,x=>x
 |n+1,a,x=>.take a (aK.z n (a+1) x)
def aK.e:aK:=.tail [.run]
def aO.d(n:Nat)(b:al)(A B C D:O Nat)(t:aK):aO:=.tI n b ⟨hE A,hE B⟩ (hE C) (hE D) t
def aO.e(n:Nat)(b:al)(A C D:O Nat)(t:aK):aO:=.tI n b ⟨hE A,hE A⟩ (hE C) (hE D) t
def aO.q(t:aO):aO:=.seq (.pV []) t
def tU:O Nat->O kD
 | []=> []
 |x::l=>bif Nat.beq (x%3) 0 then List.replicate (x/3) .run++tU l else bif Nat.beq (x%3) 1 then .split (x/3)::tU l else .pure (x/3)::tU l
def aO.z(l:O Nat):aO:=.pV (tU l)
end aQ
namespace Go.Proofs.YtcmgnhkpfllinaaGreat
noncomputable abbrev aj:=Tryz.prog
open Go aQ Go.Proofs.Tryz
namespace F
end F
namespace E6
end E6
namespace G
end G
abbrev aS:dJ:=.one (.one .fn)
abbrev e6:dJ:=.one (.one .agg)
abbrev ga:dJ:=.one (.one .ptr)
abbrev jj:dJ:=.one (.one .slice)
abbrev m_:dJ:=.e3 [(.one .ptr),(.one (.int .i64))]
abbrev na:dJ:=.one (.flat [.ptr,.slice,(.int .i64)])
abbrev p4:dJ:=.e3 [(.one .slice),(.one (.int .i64))]
abbrev tV:dJ:=.one (.one (.int .i64))
abbrev tW:dJ:=.one (.one (.int .u8))
abbrev tX:dJ:=.one (.one (.int .u64))
abbrev tY:dJ:=.one (.flat [.slice,.slice])
abbrev tZ:dJ:=.one (.flat [.slice,(.int .i64)])
def E7:O dJ:=[(.e3 []),aS,tV,tV,(.one (.one .bool)),tW,tW,(.one (.flat [(.int .i64),(.int .i64),.bool,(.int .u8)])),(.one (.flat [(.int .i64),(.int .i64),.bool,(.int .u8)])),(.one (.one .str)),(.one (.one .str)),(.one (.one .str)),tX,(.one (.flat [.str,(.int .u64)])),(.one (.flat [.str,(.int .u64)])),ga,ga,ga,(.one (.flat [.ptr])),(.one (.flat [.ptr])),(.one (.one .any)),(.one (.one (.int .i32))),jj,tX,(.one (.flat [(.int .i64),(.int .u64),.bool])),(.one (.flat [(.int .i64),(.int .u64),.bool])),ga,ga,(.e3 [(.one .ptr),(.one .ptr),(.one .bool)]),aS,tX,ga,tV,m_,aS,(.one (.flat [(.int .i64),.slice])),(.one (.flat [(.int .i64),.slice])),(.e3 [(.one (.int .i64)),(.one (.int .i64))]),aS,jj,aS,aS,aS,jj,ga,na,na,aS,aS,aS,aS,e6,e6,e6,e6,e6,e6,e6,(.e3 [(.one .agg),(.one .bool),(.one (.int .i64))]),aS,jj,(.one (.flat [(.int .i64),(.int .i64),(.int .u8)])),(.one (.flat [(.int .i64),(.int .i64),(.int .u8)])),(.one (.flat [(.int .i64),(.int .i64),(.int .u64)])),(.one (.flat [(.int .i64),(.int .i64),(.int .u64)])),aS,ga,m_,aS,ga,m_,aS,jj,(.one (.flat [(.int .i64),(.int .i64),(.int .i64),.slice,.slice,.slice])),(.one (.flat [(.int .i64),(.int .i64),(.int .i64),.slice,.slice,.slice])),aS,(.e3 [(.one .bool),(.one (.int .i64))]),aS,aS,aS,aS,aS,e6,e6,e6,e6,(.e3 [(.one .agg),(.one (.int .i64))]),aS,aS,(.one (.flat [(.int .i64),(.int .i64),(.int .i64),(.int .u64),(.int .u64),(.int .i64)])),(.one (.flat [(.int .i64),(.int .i64),(.int .i64),(.int .u64),(.int .u64),(.int .i64)])),aS,aS,jj,aS,aS,aS,jj,(.e3 [(.one .ptr),(.one .ptr),(.one .bool)]),aS,e6,e6,m_,aS,aS,aS,aS,aS,aS,na,na,(.e3 [(.one .slice),(.one (.int .i64)),(.one (.int .i64))]),aS,aS,p4,aS,(.e3 [(.one .slice),(.one .bool)]),aS,(.e3 [(.one .slice),(.one .bool),(.one (.int .i64))]),(.one (.flat [.ptr,(.int .i64)])),(.one (.flat [.ptr,(.int .i64)])),aS,(.e3 [(.one .agg),(.one .bool)]),aS,jj,(.one (.one .map)),e6,e6,e6,e6,aS,ga,m_,aS,p4,aS,(.one (.flat [(.int .i64),(.int .u64),.slice])),(.one (.flat [(.int .i64),(.int .u64),.slice])),e6,aS,aS,aS,aS,ga,ga,e6,e6,aS,aS,aS,e6,e6,(.e3 [(.flat [(.int .i64),(.int .i64),(.int .i64),(.int .u64),(.int .u64),(.int .i64)]),(.one (.int .u64)),(.one (.int .i64))]),aS,aS,ga,(.one (.one .map)),e6,e6,aS,(.e3 [(.flat [(.int .i64),(.int .i64),(.int .i64),(.int .u64),(.int .u64),(.int .i64)]),(.one (.int .u64)),(.one (.int .i64))]),aS,aS,aS,aS,aS,(.e3 [(.flat [(.int .i64),(.int .u64),.slice]),(.one (.int .i64))]),aS,(.one (.flat [.bool,.slice,.slice,.slice])),(.one (.flat [.bool,.slice,.slice,.slice])),(.e3 [(.flat [.bool,.slice,.slice,.slice]),(.one .bool)]),aS,ga,aS,jj,tY,tY,aS,aS,aS,aS,aS,aS,aS,p4,aS,aS,aS,aS,aS,aS,aS,aS,jj,p4,aS,aS,tY,tY,aS,(.e3 [(.one (.int .u64)),(.one .bool)]),aS,(.e3 [(.one .agg),(.one .bool)]),aS,aS,ga,jj,aS,(.one (.flat [(.int .i64),.slice,.slice])),(.one (.flat [(.int .i64),.slice,.slice])),aS,(.one (.one (.int .u32))),aS,aS,aS,m_,aS,m_,aS,jj,p4,aS,e6,e6,(.e3 [(.one (.int .i64)),(.one .bool)]),aS,(.e3 [(.one (.int .i64)),(.one (.int .i64))]),aS,aS,aS,aS,aS,aS,aS,aS,aS,(.e3 [(.flat [(.int .i64),(.int .i64),(.int .i64),(.int .u64),(.int .u64),(.int .i64)]),(.one (.int .i64)),(.one (.int .u64)),(.one (.int .i64))]),aS,aS,(.e3 [(.one .slice),(.one (.int .i64)),(.one (.int .i64))]),aS,aS,(.one (.flat [.ptr,.ptr,(.int .u64),(.int .i64),(.int .i64)])),(.one (.flat [.ptr,.ptr,(.int .u64),(.int .i64),(.int .i64)])),aS,aS,aS,(.one (.flat [(.int .i64),(.int .i64)])),(.one (.flat [(.int .i64),(.int .i64)])),jj,aS,aS,aS,aS,aS,aS,aS,aS,(.e3 [(.one .agg),(.one .bool)]),aS,aS,aS,aS,aS,aS,aS,jj,na,na,(.e3 [(.flat [.bool,.slice,.slice,.slice]),(.one (.int .i64))]),aS,aS,aS,aS,(.one (.flat [.bool,.bool,.bool,(.int .i64),(.int .i64),.slice])),(.one (.flat [.bool,.bool,.bool,(.int .i64),(.int .i64),.slice])),ga,aS,aS,aS,aS,aS,ga,(.one (.flat [.ptr,.slice,.slice])),(.one (.flat [.ptr,.slice,.slice])),(.e3 [(.one (.int .i64)),(.one (.int .i64)),(.one (.int .i64))]),aS,aS,ga,tZ,tZ,aS,ga,na,na,aS,aS,aS,aS,m_,aS,aS,aS,aS,aS,(.e3 [(.one .slice),(.one .slice)]),aS,aS,aS,aS,aS,aS,aS,aS,aS,aS,ga,jj,(.e3 [(.one .slice),(.one (.int .i64)),(.one (.int .i64)),(.one (.int .i64))]),aS,aS,aS,p4,aS,tZ,tZ,aS,aS,aS,tV,(.e3 [(.one (.int .i64)),(.one (.int .i64))]),aS,aS,aS,aS,aS,aS,aS,aS,aS,ga,(.one (.flat [.slice,.bool])),(.one (.flat [.slice,.bool])),aS,aS,aS,aS,aS,aS,aS,aS,tX,aS,aS,aS,ga,aS,aS,e6,ga,aS,aS,(.e3 [(.flat [.bool,.slice,.slice,.slice]),(.one .slice),(.flat [.bool,.slice,.slice,.slice]),(.one .bool)]),aS,aS,aS,(.one (.flat [.ptr,.ptr,.ptr,.str])),(.one (.flat [.ptr,.ptr,.ptr,.str])),e6,e6,e6,tW,tW,aS,ga,(.one (.one (.int .i32))),(.one (.one (.int .i32))),e6,e6,ga]
def tk:TypeId->dJ:=λt=>E7.getD t (.one (.one .any))
theorem xD:Tryz.prog.follows .mixedOrders=true:=by kernel_rfl
def Y(w:J):ag:=w.heap.size
def aq(n:Int):Int:=IntKind.wrap .i64 n
def aP(n:Int)(k:Nat):Prop:=(0:Int)<=n/\n<(k:Int)
def ak(c:al)(A B:Prop):Prop:=(c=true->A)/\(c=false->B)
def kH:Int:=9223372036854775807
def st(w:J)(A:ag)(v:aa)(K:J->Prop):Prop:=(∃u:aa,w.cell? A=some u)/\w.frozen? A=false/\an (w.setCell A v) λw1=>K w1
def lH(w:J)(z:Obj)(l:O aa)(k:Nat)(K:J->Prop):Prop:=an (w.alloc z) λw1=>bD w1 (Y w) (Array.toList l.toArray)/\Array.size l.toArray=k/\an (setCells w1 (Y w) 0 (Array.toList l.toArray)) λai=>K ai
def ou(s:ad)(n:Int)(w:J)(k:Nat)(K:O aa->Prop):Prop:=∃a:ag,s.a=some a/\aP n s.len/\∃l:O aa,bn w (a.add (n.toNat*k)) 0 k=some l/\K l
def gQ(f:Nat)(a:Array aa)(w:J)(K:J->Prop):Prop:=Calls aj f a w λe w'=>e=.returned (.tuple #[])/\K w'
def bX(f:Nat)(a:Array aa)(w:J)(K:Int->J->Prop):Prop:=Calls aj f a w λe w'=>∃cd:Int,e=.returned cd/\K cd w'
def A8(f:Nat)(a:Array aa)(w:J)(K:ad->Int->Int->J->Prop):Prop:=Calls aj f a w λe w'=>∃cd:ad,∃b:Int,∃c:Int,e=.returned (.tuple #[cd,b,c])/\K cd b c w'
def bG(f:Nat)(a:Array aa)(w:J)(K:ad->J->Prop):Prop:=Calls aj f a w λe w'=>∃cd:ad,e=.returned cd/\K cd w'
def gB(f:Nat)(a:Array aa)(w:J)(K:Int->Int->J->Prop):Prop:=Calls aj f a w λe w'=>∃cd:Int,∃b:Int,e=.returned (.tuple #[cd,b])/\K cd b w'
def ke(f:Nat)(a:Array aa)(w:J)(K:av ag->J->Prop):Prop:=Calls aj f a w λe w'=>∃cd:av ag,e=.returned (cd)/\K cd w'
def h_(f:Nat)(a:Array aa)(w:J)(K:ad->al->J->Prop):Prop:=Calls aj f a w λe w'=>∃cd:ad,∃b:al,e=.returned (.tuple #[cd,b])/\K cd b w'
def lI(f:Nat)(a:Array aa)(w:J)(K:ad->al->Int->J->Prop):Prop:=Calls aj f a w λe w'=>∃cd:ad,∃b:al,∃c:Int,e=.returned (.tuple #[cd,b,c])/\K cd b c w'
def iP(f:Nat)(a:Array aa)(w:J)(K:Array aa->al->J->Prop):Prop:=Calls aj f a w λe w'=>∃cd:Array aa,∃b:al,e=.returned (.tuple #[.agg cd,b])/\K cd b w'
def b8(f:Nat)(a:Array aa)(w:J)(K:al->J->Prop):Prop:=Calls aj f a w λe w'=>∃cd:al,e=.returned cd/\K cd w'
def ia(f:Nat)(a:Array aa)(w:J)(K:av ag->Int->J->Prop):Prop:=Calls aj f a w λe w'=>∃cd:av ag,∃b:Int,e=.returned (.tuple #[cd,b])/\K cd b w'
def ey(f:Nat)(a:Array aa)(w:J)(K:ad->Int->J->Prop):Prop:=Calls aj f a w λe w'=>∃cd:ad,∃b:Int,e=.returned (.tuple #[cd,b])/\K cd b w'
def nc(f:Nat)(a:Array aa)(w:J)(K:al->Int->J->Prop):Prop:=Calls aj f a w λe w'=>∃cd:al,∃b:Int,e=.returned (.tuple #[cd,b])/\K cd b w'
def nd(f:Nat)(a:Array aa)(w:J)(K:Int->al->J->Prop):Prop:=Calls aj f a w λe w'=>∃cd:Int,∃b:al,e=.returned (.tuple #[.int .u64 cd,b])/\K cd b w'
def nf(f:Nat)(a:Array aa)(w:J)(K:Int->J->Prop):Prop:=Calls aj f a w λe w'=>∃cd:Int,e=.returned (.int .u32 cd)/\K cd w'
def p5(f:Nat)(a:Array aa)(w:J)(K:Array aa->J->Prop):Prop:=Calls aj f a w λe w'=>∃cd:Array aa,e=.returned (.agg cd)/\K cd w'
def kI(f:Nat)(a:Array aa)(w:J)(K:Int->al->J->Prop):Prop:=Calls aj f a w λe w'=>∃cd:Int,∃b:al,e=.returned (.tuple #[cd,b])/\K cd b w'
def lJ(f:Nat)(a:Array aa)(w:J)(K:al->ad->ad->ad->al->J->Prop):Prop:=Calls aj f a w λe w'=>∃cd:al,∃b:ad,∃c:ad,∃d:ad,∃g:al,e=.returned (.tuple #[.agg #[cd,b,c,d],g])/\K cd b c d g w'
def k_(f:Nat)(a:Array aa)(w:J)(K:al->ad->ad->ad->Int->J->Prop):Prop:=Calls aj f a w λe w'=>∃cd:al,∃b:ad,∃c:ad,∃d:ad,∃g:Int,e=.returned (.tuple #[.agg #[cd,b,c,d],g])/\K cd b c d g w'
def gb(f:Nat)(a:Array aa)(w:J)(K:al->ad->ad->ad->J->Prop):Prop:=Calls aj f a w λe w'=>∃cd:al,∃b:ad,∃c:ad,∃d:ad,e=.returned (.agg #[cd,b,c,d])/\K cd b c d w'
def p6(f:Nat)(a:Array aa)(w:J)(K:Int->Int->Int->J->Prop):Prop:=Calls aj f a w λe w'=>∃cd:Int,∃b:Int,∃c:Int,e=.returned (.tuple #[cd,b,c])/\K cd b c w'
def rY(f:Nat)(a:Array aa)(w:J)(K:Int->J->Prop):Prop:=Calls aj f a w λe w'=>∃cd:Int,e=.returned (.int .u64 cd)/\K cd w'
def A9(f:Nat)(a:Array aa)(w:J)(K:Int->Int->ad->Int->J->Prop):Prop:=Calls aj f a w λe w'=>∃cd:Int,∃b:Int,∃c:ad,∃d:Int,e=.returned (.tuple #[.agg #[cd,.int .u64 b,c],d])/\K cd b c d w'
def xE(f:Nat)(a:Array aa)(w:J)(K:ad->Int->Int->Int->J->Prop):Prop:=Calls aj f a w λe w'=>∃cd:ad,∃b:Int,∃c:Int,∃d:Int,e=.returned (.tuple #[cd,b,c,d])/\K cd b c d w'
def A_(f:Nat)(a:Array aa)(w:J)(K:al->ad->ad->ad->ad->al->ad->ad->ad->al->J->Prop):Prop:=Calls aj f a w λe w'=>∃cd:al,∃b:ad,∃c:ad,∃d:ad,∃g:ad,∃h:al,∃i:ad,∃j:ad,∃k:ad,∃l:al,e=.returned (.tuple #[.agg #[cd,b,c,d],g,.agg #[h,i,j,k],l])/\K cd b c d g h i j k l w'
def p7(f:Nat)(a:Array aa)(w:J)(K:av ag->av ag->al->J->Prop):Prop:=Calls aj f a w λe w'=>∃cd:av ag,∃b:av ag,∃c:al,e=.returned (.tuple #[cd,b,c])/\K cd b c w'
def xF(f:Nat)(a:Array aa)(w:J)(K:Array aa->al->Int->J->Prop):Prop:=Calls aj f a w λe w'=>∃cd:Array aa,∃b:al,∃c:Int,e=.returned (.tuple #[.agg cd,b,c])/\K cd b c w'
def Ba(f:Nat)(a:Array aa)(w:J)(K:Int->Int->Int->J->Prop):Prop:=Calls aj f a w λe w'=>∃cd:Int,∃b:Int,∃c:Int,e=.returned (.agg #[cd,b,.int .u64 c])/\K cd b c w'
def r1(w:J)(A:ag)(K:ad->Prop):Prop:=∃x:ad,w.cell? A=some (.slice x.a x.len x.cap)/\K x
def aG(w:J)(A:ag)(K:Int->Prop):Prop:=∃x:Int,w.cell? A=some (.int .i64 x)/\K x
def cm(w:J)(A:ag)(K:Int->Prop):Prop:=∃x:Int,w.cell? A=some (.int .u64 x)/\K x
def aT(w:J)(A:ag)(K:al->Prop):Prop:=∃x:al,w.cell? A=some (.bool x)/\K x
def du(w:J)(A:ag)(K:Int->Prop):Prop:=∃x:Int,w.cell? A=some (.int .u8 x)/\K x
def gR:Obj:=.cells #[(0:Int),false,.int .u8 0,.int .u8 0,.int .u8 0,.int .u8 0,.int .u8 0,.int .u8 0,.int .u8 0,.int .u8 0,.int .u8 0,.int .u8 0,.int .u8 0,.int .u8 0,.int .u8 0,.int .u8 0,.int .u8 0,.int .u8 0,(0:Int),(0:Int),.int .u64 0] 57
def iQ:Obj:=.cells #[(0:Int),(0:Int),(0:Int),.int .u64 0,.int .u64 0,(0:Int)] 90
def z3:Obj:=.cells #[false,.int .u8 0,.int .u8 0,.int .u8 0,.int .u8 0,.int .u8 0,.int .u8 0,.int .u8 0,.int .u8 0,.int .u8 0,.int .u8 0,.int .u8 0,.int .u8 0,.int .u8 0,.int .u8 0,.int .u8 0,.int .u8 0] 53
def z4:Obj:=.cells #[false,(),(),()] 169
def z5:Obj:=.cells #[.int .u8 0,.int .u8 0,.int .u8 0,.int .u8 0,.int .u8 0,.int .u8 0,.int .u8 0,.int .u8 0,.int .u8 0,.int .u8 0,.int .u8 0,.int .u8 0,.int .u8 0,.int .u8 0,.int .u8 0,.int .u8 0,.int .u8 0,.int .u8 0,.int .u8 0,.int .u8 0,.int .u8 0,.int .u8 0,.int .u8 0,.int .u8 0,.int .u8 0,.int .u8 0,.int .u8 0,.int .u8 0,.int .u8 0,.int .u8 0,.int .u8 0,.int .u8 0,.int .u8 0,.int .u8 0,.int .u8 0,.int .u8 0,.int .u8 0,.int .u8 0,.int .u8 0,.int .u8 0,.int .u8 0,.int .u8 0,.int .u8 0,.int .u8 0,.int .u8 0,.int .u8 0,.int .u8 0,.int .u8 0,.int .u8 0,.int .u8 0,.int .u8 0,.int .u8 0,.int .u8 0,.int .u8 0,.int .u8 0,.int .u8 0,.int .u8 0,.int .u8 0,.int .u8 0,.int .u8 0,.int .u8 0,.int .u8 0,.int .u8 0,.int .u8 0,.int .u8 0,.int .u8 0,.int .u8 0,.int .u8 0,.int .u8 0,.int .u8 0,.int .u8 0,.int .u8 0,.int .u8 0,.int .u8 0,.int .u8 0,.int .u8 0,.int .u8 0,.int .u8 0,.int .u8 0,.int .u8 0,.int .u8 0,.int .u8 0,.int .u8 0,.int .u8 0,.int .u8 0,.int .u8 0,.int .u8 0,.int .u8 0,.int .u8 0,.int .u8 0,.int .u8 0,.int .u8 0,.int .u8 0,.int .u8 0,.int .u8 0,.int .u8 0,.int .u8 0,.int .u8 0,.int .u8 0,.int .u8 0,.int .u8 0,.int .u8 0,.int .u8 0,.int .u8 0,.int .u8 0,.int .u8 0,.int .u8 0,.int .u8 0,.int .u8 0,.int .u8 0,.int .u8 0,.int .u8 0,.int .u8 0,.int .u8 0,.int .u8 0,.int .u8 0,.int .u8 0,.int .u8 0,.int .u8 0,.int .u8 0,.int .u8 0,.int .u8 0,.int .u8 0,.int .u8 0,.int .u8 0,.int .u8 0,.int .u8 0,.int .u8 0,.int .u8 0,.int .u8 0,.int .u8 0,.int .u8 0,.int .u8 0,.int .u8 0,.int .u8 0,.int .u8 0,.int .u8 0,.int .u8 0,.int .u8 0,.int .u8 0,.int .u8 0,.int .u8 0,.int .u8 0,.int .u8 0,.int .u8 0,.int .u8 0,.int .u8 0,.int .u8 0,.int .u8 0,.int .u8 0,.int .u8 0,.int .u8 0,.int .u8 0,.int .u8 0,.int .u8 0,.int .u8 0,.int .u8 0,.int .u8 0,.int .u8 0,.int .u8 0,.int .u8 0,.int .u8 0,.int .u8 0,.int .u8 0,.int .u8 0,.int .u8 0,.int .u8 0,.int .u8 0,.int .u8 0,.int .u8 0,.int .u8 0,.int .u8 0,.int .u8 0,.int .u8 0,.int .u8 0,.int .u8 0,.int .u8 0,.int .u8 0,.int .u8 0,.int .u8 0,.int .u8 0,.int .u8 0,.int .u8 0,.int .u8 0,.int .u8 0,.int .u8 0,.int .u8 0,.int .u8 0,.int .u8 0,.int .u8 0,.int .u8 0,.int .u8 0,.int .u8 0,.int .u8 0,.int .u8 0,.int .u8 0,.int .u8 0,.int .u8 0,.int .u8 0,.int .u8 0,.int .u8 0,.int .u8 0,.int .u8 0,.int .u8 0,.int .u8 0,.int .u8 0,.int .u8 0,.int .u8 0,.int .u8 0,.int .u8 0,.int .u8 0,.int .u8 0,.int .u8 0,.int .u8 0,.int .u8 0,.int .u8 0,.int .u8 0,.int .u8 0,.int .u8 0,.int .u8 0,.int .u8 0,.int .u8 0,.int .u8 0,.int .u8 0,.int .u8 0,.int .u8 0,.int .u8 0,.int .u8 0,.int .u8 0,.int .u8 0,.int .u8 0,.int .u8 0,.int .u8 0,.int .u8 0,.int .u8 0,.int .u8 0,.int .u8 0,.int .u8 0,.int .u8 0,.int .u8 0,.int .u8 0,.int .u8 0,.int .u8 0,.int .u8 0,.int .u8 0,.int .u8 0,.int .u8 0,.int .u8 0,.int .u8 0,.int .u8 0,.int .u8 0,.int .u8 0,.int .u8 0,.int .u8 0,.int .u8 0,.int .u8 0] 151
def ld:Obj:=.cells #[false,.int .u8 0,.int .u8 0,.int .u8 0,.int .u8 0,.int .u8 0,.int .u8 0,.int .u8 0,.int .u8 0,.int .u8 0,.int .u8 0,.int .u8 0,.int .u8 0,.int .u8 0,.int .u8 0,.int .u8 0,.int .u8 0,(0:Int)] 55
def t_:Obj:=.cells #[(0:Int),.int .u64 0,()] 137
def xG:Obj:=.cells #[(),(0:Int)] 325
def a1:aO:=(.q (.c (.q .l) .l))
def fq:aO:=(.q (.s (.c .l .l) (.s (.bO (.q a1)) .r)))
def kf:aO:=(.q (.s (.q (.bO (.loop [(8,(.int .i64))] [0,1,7] fq))) (.q .l)))
def c6:aO:=(.q (.s a1 (.q .l)))
def eV:aO:=(.q (.c (.q .l) a1))
def g0:aO:=(.s a1 (.q (.q .l)))
def gK:aO:=(.q (.s (.c .l .l) (.s (.bO (.q (.q a1))) .r)))
def a2:aO:=(.q (.s (.c .l .l) (.s (.bO (.q .r)) .r)))
def a3:aO:=(.q (.q (.q .l)))
def a4:aO:=(.q (.s (.z [9,8]) .l))
def a5:aO:=(.q (.s (.s (.z [9,8,9,8]) (.c (.q .l) .l)) (.q .l)))
def dK:aO:=(.s (.z [9,8]) (.c (.q .l) .l))
def da:aO:=(.s (.z [9,10]) (.c (.q .l) .l))
def ez:aO:=(.q (.s (.z [12,11]) .l))
def a9:aO:=(.s (.z [12,8,9,17]) (.c (.q .l) .l))
def e7:aO:=(.c (.q (.q .l)) .l)
def dE:aO:=(.q (.s (.z [9,8,9,22]) .l))
def eU:aO:=(.s (.z [12,16]) (.c (.q .l) .l))
def ek:aO:=(.s (.z [9,11]) (.c (.q .l) .l))
theorem okF{f:Nat}{fn:Func}(p:J->(aa->J->Prop)->Prop)(A:aO){args:O aa}{w:J}{Q:aa->J->Prop}(hf:Tryz.prog.funcs[f]? =some fn)(h:p w Q)(h1:og fn args.length=true:=by kernel_rfl)(h2:p w Q=pZ aj tk A fn args w Q:=by kernel_rfl):aI aj f args.toArray w Q:=EG xD hf h1 (Eq.mp h2 h)
def p8(a:J)(c:J)(ai:J)(d:al)(Q:aa->J->Prop):Prop:=r1 a ((Y c).add 1) λe=>r1 a ((Y c).add 2) λf=>r1 a ((Y c).add 3) λg=>bD a (Y ai)
 [d,e,f,g]/\(4:Nat)=4/\an (setCells a (Y ai) 0 [d,e,f,g]) λb=>aT b (Y ai) λh=>r1 b ((Y ai).add 1) λi=>r1 b ((Y ai).add 2) λj=>r1 b ((Y ai).add 3) λk=>Q (.tuple #[.agg #[h,i,j,k],true]) b
def p9(c:ad)(d:J)(e:J)(f:J)(g:J->Prop):Prop:=∃a:ad,∃b:J,Sem.run aj (Builtin.append_ #[93,93] 93 #[c,
 .slice (some (Y d)) 1 1]) e=.ok a b/\st b ((Y f).add 1) a λh=>g h
def ua(b:J)(h:J)(c:J)(key:ad)(f:J->Prop):Prop:=aT b (Y h) λi=>ak (!i) (an (b.drew) λd=>∃e:Nat->Prop,¬e ((Y c).add 1).block/\r1 d ((Y
 c).add 1) λj=>bG 46 #[key] d λk a=>af e d a/\an (a.alloc (.cells #[k] 39)) λg=>af e a g/\p9 j a g c
 f) (f b)
def p_(a:J)(ai:J)(Q:aa->J->Prop)(b:al):Prop:=r1 a ((Y ai).add 1) λc=>r1 a ((Y ai).add 2) λd=>r1 a ((Y ai).add 3) λe=>Q (.tuple #[.agg #[b,c,d,e],false]) a
def bP(h:J)(a:J)(i:al)(j:ad)(k:ad)(l:ad)(b:J)(m:al)(n:ad)(o:ad)(p:ad)(w:J)(key:ad)(ai:J)(Q:aa->J->Prop):Prop:=bD h (Y a)
 [i,j,k,l]/\(4:Nat)=4/\an (setCells h (Y a) 0 [i,j,k,l]) λq=>bD q (Y b) [m,n,o,p]/\(4:Nat)=4/\an (setCells q (Y b) 0 [m,n,o,p]) λz=>b1 (λA:J->Prop=>ua z w a key A) (λe=>r1 e ((Y a).add 1) λB=>r1 e ((Y b).add 1) λC=>∃r:ad,∃s:J,
 Sem.run aj (Builtin.append_ #[93,93] 93 #[B,C]) e=.ok r s/\st s ((Y a).add 1) r λf=>r1 f ((Y a).add 2) λD=>r1 f ((Y b).add 2) λE=>∃t:ad,∃u:J,Sem.run aj (Builtin.append_ #[93,93] 93 #[D,E]) f=.ok t u/\st u ((Y a).add 2) t λg=>r1 g ((Y a).add 3) λF=>r1 g ((Y b).add 3) λ
 G=>∃v:ad,∃x:J,Sem.run aj (Builtin.append_ #[72,72] 72 #[F,G]) g=.ok v x/\st x ((Y a).add
 3) v λc=>aT c (Y a) λH=>r1 c ((Y a).add 1) λI=>r1 c ((Y a).add 2) λK=>r1 c ((Y a).add 3) λL=>b8 182 #[.agg #[H,I,K,L]] c λM d=>ak (!M) (bD d (Y ai) [false,(),(),()]/\(4:Nat)=4/\an (setCells d (Y
 ai) 0 [false,(),(),()]) λy=>aT y (Y ai) λN=>p_ y ai Q N) (aT d (Y a) λO=>p8 d a ai O Q))
def qa(d:J)(a:J)(e:al)(f:ad)(g:ad)(h:ad)(i:al)(Q:aa->J->Prop)(c:av ag)(n31:Int):Prop:=bD d (Y a) [e,f,
 g,h]/\(4:Nat)=4/\an (setCells d (Y a) 0 [e,f,g,h]) λb=>
 ak (!i) (Q (.tuple #[(),(0:Int),(0:Int),(4:Int)]) b) (aT b (Y a) λj=>r1 b ((Y a).add 1) λk=>r1 b ((Y a).add 2) λl=>r1 b ((Y a).add 3) λ
 m=>ey 263 #[c,.agg #[j,k,l,m]] b λn o p=>Q (.tuple #[n,
 n31,.int .i64 (aq (n31+2)),o]) p)
def ov(a:J)(b:J)(c:al)(d:ad)(e:ad)(f:ad)(g:J->Prop):Prop:=bD a (Y b) [c,d,e,f]/\(4
 :Nat)=4/\an (setCells a (Y b) 0 [c,d,e,f]) λh=>g h
def bY(up:av ag)(j:J)(n36:Int)(w:J)(h:J)(f:J)(g:J)(n31:Int)(Q:aa->J->Prop)(c:av ag):Prop:=b1 (λo:J->Prop=>∃p:ag,up=some p/\aG j
 (p.add 5) λI=>ak (decide (n36>I)) (an (j.drew) λd=>∃k:Nat->Prop,¬k ((Y w):ag).block/\aT d (Y w) λq=>r1 d ((Y w).add 1) λr=>r1 d ((Y w).add 2) λs=>r1 d (Addr.add
 (Y w) 3) λt=>¬k ((Y h):ag).block/\aT d (Y h) λK=>r1 d ((Y h).add 1) λL=>r1 d ((Y h).add 2) λM=>r1 d ((Y h).add 3) λN=>bD d (Y f) [q,r,s,t]/\(4:Nat)=4/\an (setCells d (Y f) 0 [q,r,s,t]) λu
 =>af k d u/\ov u g K L M N o) (o j)) (λO=>an (O.drew) λb=>∃e:Nat->Prop,¬e ((Y f):ag).block/\aT b (Y f) λv=>r1 b ((Y f).add 1) λx=>r1 b (Addr.add
 (Y f) 2) λy=>r1 b ((Y f).add 3) λz=>∃l:ag,up=some l/\¬e ((l.add 1).add 1).block/\r1 b ((l.add 1).add 1) λA=>∃m:ag,A.a=some m/\aP n31 A.len/\¬e (m.add
 (n31.toNat*1)).block/\r1 b (m.add (n31.toNat*1)) λB=>¬e ((Y g):ag).block/\aT b (Y g) λC=>r1 b ((Y g).add 1) λD=>r1 b ((Y g).add 2) λE=>r1 b (Addr.add
 (Y g) 3) λF=>(lJ 264 #[.agg #[v,x,y,z],B,.agg #[C,D,
 E,F]] b λP R S T U i=>af e b i/\an (i.alloc z4) λG=>af e i G/\qa G i P R S T U Q c n31)/\(an
 (b.alloc z4) λn=>af e b n/\lJ 264 #[.agg #[v,x,y,z],B,.agg #[C,D,E,F]] n λV W X Z ab H=>af e n H/\qa H b V W X Z ab Q c n31))
def cX(a:J)(b:J)(w1:J)(Q:aa->J->Prop):Prop:=aT a (Y b) λc=>p8 a b w1 c Q
def rZ(a:J)(c:J)(w1:J)(d:al)(Q:aa->J->Prop):Prop:=r1 a ((Y c).add 1) λe=>r1 a ((Y c).add 2) λf=>r1 a ((Y c).add 3) λg=>bD a (Y w1)
 [d,e,f,g]/\(4:Nat)=4/\an (setCells a (Y w1) 0 [d,e,f,g]) λb=>aT b (Y w1) λh=>r1 b ((Y w1).add 1) λi=>r1 b ((Y w1).add 2) λj=>r1 b ((Y w1).add 3) λk=>Q (.agg #[h,i,j,k]) b
def jk(z:J)(l:ad)(c:J)(w:J)(to:Int)(w1:J)(Q:aa->J->Prop):Prop:=∃ (h:Int->J->Prop) (m:Int->J->Nat),h 0 z/\∀ (n19:Int) (b:J),h n19 b->ak (decide
 (n19<(l.len:Int))) (∃i:ag,l.a=some i/\aP n19 l.len/\r1 b (i.add (n19.toNat*2)) λn=>aG b ((i.add (n19.toNat*2)).add 1) λn23=>an (b.alloc xG) λo=>bD o (Y b) [n,n23]/\(2:Nat)=2/\an (setCells o (Y b) 0 [n,n23]) λd=>b1 (λp:J->Prop=>r1 d (Y b) λA=>ak (!(Option.isNone A.a)) (r1 d (Addr.add
 (Y c) 1) λB=>r1 d (Y b) λC=>an (d.alloc (.cells #[C] 39)) λD=>p9 B d D c p) (p d)) (λg=>r1 g ((Y c).add 3) λE=>aG g ((Y
 b).add 1) λn36=>an (g.alloc (.cells #[n36] 3)) λF=>∃q:ad,∃r:J,Sem.run aj (Builtin.append_ #[72,72] 72 #[E,.slice (some (Y g)) 1 1]) F=
 .ok q r/\st r ((Y c).add 3) q λs=>h (aq (n19+1)) s/\m (aq (n19+1)) s<m n19 b)) (an (b.drew) λj=>¬False/\r1 j ((Y c).add 1)
 λG=>¬False/\r1 j ((Y w).add 1) λe=>((0:Int)<=(aq (to-1))/\(aq (to-1))<=(e.len:Int))/\∃t:ad,∃u:J,Sem.run aj (Builtin.append_ #[93,93] 93 #[G,.slice (aY e.a 1 ((aq (to-1)).toNat) e.cap) (e.len-((aq (to-1)).toNat)) (e.cap-((aq (to-1)).toNat))]) j=.ok t u/\st u ((Y c).add 1) t λH=>an (H.drew) λk=>¬False/\r1 k ((Y c).add 3) λI=>¬False/\r1 k ((Y w).add 3) λf=>((0:Int)<=to/\to<=(f.len:Int))/\∃v:ad,∃x:J,Sem.run
 aj (Builtin.append_ #[72,72] 72 #[I,.slice (aY f.a 1 (to.toNat) f.cap) (f.len-(to.toNat)) (f.cap-(to.toNat))]) k=.ok v x/\
 st x ((Y c).add 3) v λy=>aT y (Y c) λK=>rZ y c w1 K Q)
def jL(o:Array aa)(f:J)(c:Nat->Prop)(p:Array aa)(w1:J)(ai:J)(Q:aa->J->Prop)(q:ad):Prop:=gb 183 #[.agg o] f λg h i j d=>af c f d/\gb
 183 #[.agg p] d λk l m n b=>af c d b/\bD b (Y w1) [g,h,i,j]/\(4:Nat)=4/\an (setCells b (Y w1) 0
 [g,h,i,j]) λe=>af c b e/\bD e (Y ai) [k,l,m,n]/\(4:Nat)=4/\an (setCells e (Y ai) 0 [k,l,m,n]) λa=>aT a (Y w1) λr=>r1 a ((Y w1).add 1) λs=>
 r1 a ((Y w1).add 2) λt=>r1 a ((Y w1).add 3) λu=>aT a (Y ai) λv=>r1 a ((Y ai).add 1) λw=>r1 a ((Y ai).add 2) λx=>r1 a ((Y ai).add 3) λy=>Q (.tuple #[.agg
 #[r,s,t,u],q,.agg #[v,w,x,y],true]) a
def uc(d:Nat->Prop)(j:J)(e:J)(k:ad)(l:ad)(b:ad)(n29:Int)(m:av ag)(Q:aa->J->Prop):Prop:=af d j e/\∃g:ad,∃c:J,Sem.run aj (Builtin.append_
 #[22,22] 22 #[k,l]) e=.ok g c/\af d e c/\∃h:ad,∃f:J,Sem.run aj
 (Builtin.append_ #[22,22] 22 #[g,.slice (aY b.a 21 (n29.toNat) b.cap) (b.len-(n29.toNat)) (b.cap-(n29.toNat))]) c=.ok h f/\af d c f/\∃i:ag,m=some i/\st f (i.add 1) h λn=>Q (0:Int) n
def lf(A:J)(m:av ag)(n29:Int)(w:J)(Q:aa->J->Prop):Prop:=an (A.drew) λd=>∃b:Nat->Prop,∃l:ag,m=some l/\¬b (l.add 1).block/\r1 d (l.add 1) λc=>((0:Int)
 <=n29/\n29<=(c.cap:Int))/\¬b ((Y w):ag).block/\∃f:O aa,bn d (Y w) 0 21=some f/\∃n:ag,m=some n/\¬b (n.add 1).block/\r1 d (n.add 1) λg=>((0:Int)<=n29/\n29<=
 (g.len:Int))/\(∃o:ad,∃e:J,Sem.run aj (Instr.buildSlice 22 0 #[]) d=.ok o e/\af b d e/\(∃p:ad,∃h:J,Sem.run aj (Builtin.append_
 #[22,22] 22 #[o,.slice (aY c.a 21 0 c.cap) ((n29.toNat)-0) (c.cap-0)]) e=.ok p h/\af b e h/\∃q:ad,
 ∃r:J,Sem.run aj (Instr.buildSlice 22 1 #[(0,.agg f.toArray)]) h=.ok q r/\uc b h r p q g n29 m Q)/\(∃s:ad,∃i:J,Sem.run aj
 (Instr.buildSlice 22 1 #[(0,.agg f.toArray)]) e=.ok s i/\af b e i/\∃t:ad,∃u:J,Sem.run aj (Builtin.append_ #[22,22]
 22 #[o,.slice (aY c.a 21 0 c.cap) ((n29.toNat)-0) (c.cap-0)]) i=.ok t u/\uc b i u t s g n29 m Q))/\(∃v:ad,∃j:J,
 Sem.run aj (Instr.buildSlice 22 1 #[(0,.agg f.toArray)]) d=.ok v j/\af b d j/\∃x:ad,∃k:J,Sem.run aj (Instr.buildSlice 22 0 #[]) j
 =.ok x k/\af b j k/\∃y:ad,∃z:J,Sem.run aj (Builtin.append_ #[22,22] 22 #[x,.slice (aY c.a 21 0
 c.cap) ((n29.toNat)-0) (c.cap-0)]) k=.ok y z/\uc b k z y v g n29 m Q)
def iy(a:J)(w1:J)(Q:aa->J->Prop):Prop:=aT a (Y w1) λb=>p_ a w1 Q b
def Bb(a:J)(b:J)(w1:J)(Q:aa->J->Prop):Prop:=aT a (Y b) λc=>rZ a b w1 c Q
def fA(a:J)(w:J)(Q:aa->J->Prop)(n7:Int):Prop:=aT a (Y w) λb=>r1 a ((Y w).add 1) λc=>r1 a ((Y w).add 2) λd=>r1 a ((Y w).add 3) λe=>Q (.tuple #[.agg #[b,c,d,e],n7]) a
def Bc(g:ad)(n34:Int)(c:J)(d:J)(n:Int->J->Prop)(h:Int->J->Nat):Prop:=∃i:ag,g.a=some i/\aP n34 g.len/\r1 c (i.add (n34.toNat*1)) λo=>an (c.drew) λe
 =>∃f:Nat->Prop,¬f ((Y d).add 2).block/\r1 e ((Y d).add 2) λp=>bG 46 #[o] e λq b=>af f e b/\an (b.alloc (.cells #[q] 39)) λj=>af f b j/\∃k:ad,∃l:J,Sem.run aj (Builtin.append_ #[93,93] 93 #[p,.slice (some (Y b)) 1 1]) j=
 .ok k l/\st l ((Y d).add 2) k λm=>n (aq (n34+1)) m/\h (aq (n34+1)) m<h n34 c
def Bd(g:ad)(n17:Int)(c:J)(d:J)(m:Int->J->Prop)(h:Int->J->Nat):Prop:=∃kf:ag,g.a=some kf/\aP n17 g.len/\r1 c (kf.add (n17.toNat*1)) λn=>an (c.drew) λe
 =>∃f:Nat->Prop,¬f ((Y d).add 1).block/\r1 e ((Y d).add 1) λo=>bG 46 #[n] e λp b=>af f e b/\an (b.alloc (.cells #[p] 39)) λi=>af f b i/\∃j:ad,∃k:J,Sem.run aj (Builtin.append_ #[93,93] 93 #[o,.slice (some (Y b)) 1 1]) i=
 .ok j k/\st k ((Y d).add 1) j λl=>m (aq (n17+1)) l/\h (aq (n17+1)) l<h n17 c
def qb(c:al)(b:al->J->Prop)(a:J)(w:J):Prop:=ak (!c) (b true a) (aT a (Y w) λd=>r1 a ((Y w).add 1) λe=>r1 a ((Y w).add 2) λf=>r1 a ((Y w).add 3) λg
 =>b8 182 #[.agg #[d,e,f,g]] a λh i=>b (!h) i)
def xH(g:J)(ai:J)(w1:J)(h:J->Prop):Prop:=an (g.drew) λb=>∃c:Nat->Prop,¬c ((Y ai).add 3).block/\r1 b ((Y ai).add 3) λi=>bX 252 #[.pointer (some (Y
 w1)),(2:Int)] b λn14 a=>af c b a/\an (a.alloc (.cells #[n14] 3)) λd=>af c a d/\∃e:ad,∃f:J,Sem.run aj (Builtin.append_ #[72,72] 72 #[i,.slice (some (Y a)) 1 1]) d=.ok e f/\st f ((Y ai).add 3) e λj=>h j
def r0(a:J)(w:J)(Q:aa->J->Prop):Prop:=aT a (Y w) λb=>r1 a ((Y w).add 1) λc=>r1 a ((Y w).add 2) λd=>r1 a ((Y w).add 3) λe=>Q (.tuple #[.agg #[b,
 c,d,e],(4:Int)]) a
def xI(m:aa)(n:J)(d:av ag)(o:J->Prop)(h:J->Nat)(p:J):Prop:=∃n15:Int,∃q:aa,∃i:J,Sem.run aj (Instr.entry (m)) n=.ok (.tuple #[n15,q])
 i/\an (i.drew) λb=>∃j:Nat->Prop,∃c:ag,d=some c/\¬j (c.add 4).block/\r1 b (c.add 4) λk=>p5 118 #[d,n15] b λe f=>af j b f/\∃g:ag,
 k.a=some g/\aP n15 k.len/\bD f (g.add (n15.toNat*256)) (Array.toList e)/\Array.size e=256/\an (setCells f (g.add (n15.toNat*256)) 0 (Array.toList e)) λl=>o l/\h l<h p
def xJ(f:ad)(g:J)(b:J)(h:Nat->Prop)(i:O aa)(Q:aa->J->Prop):Prop:=∃c:ad,∃a:J,Sem.run aj (Builtin.append_ #[39,39] 39 #[f,.slice (some (Y g)) 2 2]) b=.ok c a/\af h b a/\bG 216 #[.agg i.toArray] a λj k=>∃d:ad,∃e:J,Sem.run aj (Builtin.append_
 #[39,39] 39 #[c,j]) k=.ok d e/\Q d e
def ud(a:J)(b:ad)(c:J)(d:ad)(Q:aa->J->Prop):Prop:=an (a.alloc (.cells #[b,.slice (some (Y c)) 2 2,d] 39)) λe=>bG
 103 #[.slice (some (Y a)) 3 3] e λf g=>Q (.tuple #[f,true]) g
def xK(h:ad)(j:ad)(c:J)(k:Nat->Prop)(l:av Nat)(i:Int)(d:av ag)(Q:aa->J->Prop):Prop:=∃e:ad,∃a:J,Sem.run aj (Builtin.append_ #[124,
 124] 124 #[h,j]) c=.ok e a/\af k c a/\∃b:J,Sem.run aj (Instr.mapUpdate 125
 (.map l) i e) a=.ok () b/\∃f:ag,d=some f/\aG b (f.add 6) λn24=>∃g:ag,d=some g/\st b (g.add 6) (.int .i64 (aq (n24+1))) λm=>Q (0:Int) m
def xL(c:ad)(b:Int)(d:ad)(f:Array aa):Prop:=∀e:J,Sem.run aj (Instr.build 169 #[(1,.slice (aY c.a 1 ((aq (b+1)).toNat) c.cap) (c.len-((aq (b+1)).toNat)) (c.cap
 -((aq (b+1)).toNat))),(3,.slice (aY d.a 1 ((aq (b+1)).toNat) d.cap) (d.len-((aq (b+1)).toNat)) (d.cap-((aq (b+1)).toNat)))]) e=.ok (.agg f) e
def ue(a:J)(w1:J)(Q:aa->J->Prop):Prop:=∃b:Array aa,Sem.run aj (Instr.build 55 #[]) a=.ok (.agg b) a/\bD a (Y w1) (Array.toList b)/\Array.size b=18/\an
 (setCells a (Y w1) 0 (Array.toList b)) λc=>∃d:O aa,bn c (Y w1) 0 18=some d/\Q (.tuple #[.agg d.toArray,false]) c
def xM(c:ad)(b:Int)(d:ad)(f:Array aa):Prop:=∀e:J,Sem.run aj (Instr.build 169 #[(0,true),(1,.slice (aY c.a 1 (b.toNat) c.cap) (c.len-(b.toNat)) (c.cap-
 (b.toNat))),(2,.slice (aY d.a 1 (b.toNat) d.cap) (d.len-(b.toNat)) (d.cap-(b.toNat)))]) e=.ok (.agg f) e
def xN(a:ad):Prop:=(0:Int)<=(aq (232-(a.len:Int)))/\((aq (232-(a.len:Int))):Int)<=(aq (232-(a.len:Int)))/\((aq (232-(a.len:Int))):Int)<=kH/\((1:Nat):Int)*(aq (232-(a.len:Int)))<=
 140737488355328
def xO(a:J)(c:ad)(d:J)(e:ad)(f:J)(b:ad)(g:ad->J->Prop):Prop:=an (a.alloc (.cells #[c,.slice (some (Y d)) (Int.toNat 4) (Int.toNat 4),e,.slice (some (Y f)) ((aq (232-(b.len:Int))).toNat) ((aq (232-(b.len:Int))).toNat)] 39)) λh=>bG 103 #[.slice (some (Y a)) 4 4] h λi j=>g i j
def xP(d:av ag)(a:J)(Q:aa->J->Prop):Prop:=∃b:ag,d=some b/\∃c:av Nat,a.cell? (b.add 5)=some (.map c)/\∃ (f:aa) (e:J),Sem.run aj (Builtin.clear_
 #[125] 0 #[.map c]) a=.ok f e/\Q (0:Int) e
def xQ(b:ad)(d:Int)(c:ad)(f:Array aa):Prop:=∀e:J,Sem.run aj (Instr.build 169 #[(0,true),(1,.slice (aY b.a 1 0 b.cap) ((d.toNat)-0) (b.cap-0)),(2,.slice (aY
 c.a 1 0 c.cap) ((d.toNat)-0) (c.cap-0))]) e=.ok (.agg f) e
def xR(b:ad)(d:Int)(c:ad)(f:Array aa):Prop:=∀e:J,Sem.run aj (Instr.build 169 #[(1,.slice (aY b.a 1 0 b.cap) ((d.toNat)-0) (b.cap-0)),(3,.slice (aY c.a 1 0
 c.cap) (((aq (d+1)).toNat)-0) (c.cap-0))]) e=.ok (.agg f) e
def uf(s:av ag)(Q:aa->J->Prop)(w:J):Prop:=ak (Option.isNone s) (Q () w) (∃a1:ag,s=some a1/\r1 w (a1.add 1) λs2=>bG 46 #[s2] w λ
 a b=>Q a b)
def xS(a:J)(w:J)(Q:aa->J->Prop):Prop:=aG a (Y w) λn9=>cm a ((Y w).add 1) λn10=>r1 a ((Y w).add 2) λb=>Q (.tuple #[.agg #[n9,.int .u64 n10,b],(4:Int)]) a
def xT(b:J)(w:J)(a:O aa)(Q:aa->J->Prop):Prop:=bD b (Y w) (Array.toList a.toArray)/\Array.size a.toArray=256/\an (setCells b (Y w) 0 (Array.toList a.toArray)) λc=>∃d:O
 aa,bn c (Y w) 0 256=some d/\Q (.agg d.toArray) c
def xU(ai:J)(w:J)(fH:Array aa)(Q:aa->J->Prop):Prop:=bD ai (Y w) (Array.toList fH)/\Array.size fH=17/\an (setCells ai (Y w) 0 (Array.toList fH)) λa=>∃b:O aa,bn a (Y w) 0
 17=some b/\Q (.tuple #[.agg b.toArray,true]) a
def r2(a:J)(b:J)(f:al)(g:ad)(h:ad)(i:ad)(n:Nat->Prop)(d:J)(j:al)(k:ad)(l:ad)(m:ad)(up:av ag)(n36:Int)(w:J)(o:J)(n31:Int)(Q:aa
 ->J->Prop)(c:av ag):Prop:=bD a (Y b) [f,g,h,i]/\(4:Nat)=4/\an (setCells a (Y b) 0 [f,g,h,i]) λe=>af n a e/\bD e (Y d) [j,k,l,m]/\(4:
 Nat)=4/\an (setCells e (Y d) 0 [j,k,l,m]) λp=>bY up p n36 w o b d n31 Q c
def qc(h:Int)(Q:aa->J->Prop)(e:J)(c:av ag)(n41:Int)(d:J)(w:J)(up:av ag)(n36:Int)(n31:Int):Prop:=ak (h !=0) (Q (.tuple #[(),(0:Int),(0:Int),
 h]) e) (∃i:ag,c=some i/\r1 e (i.add 2) λx=>an (e.alloc (.cells #[n41] 3)) λy=>∃j:ad,∃k:J,Sem.run aj (Builtin.append_ #[72,72] 72
 #[x,.slice (some (Y e)) 1 1]) y=.ok j k/\∃l:ag,c=some l/\st k (l.add 2) j λz=>an (z.drew) λa=>∃b:Nat->
 Prop,¬b ((Y d):ag).block/\aT a (Y d) λm=>r1 a ((Y d).add 1) λn=>r1 a ((Y d).add 2) λo=>r1 a ((Y d).add 3) λp=>¬b ((Y w):ag).block/\aT a (Y w) λq=>
 r1 a ((Y w).add 1) λr=>r1 a ((Y w).add 2) λs=>r1 a ((Y w).add 3) λt=>(an (a.alloc z4) λf=>af b a f/\an (f.alloc z4) λu=>af b f u/\r2 u a m n o p b
 f q r s t up n36 w d n31 Q c)/\(an (a.alloc z4) λg=>af b a g/\an (g.alloc z4) λv=>af b g v/\r2 v g m n o p b a q r s t up n36 w d n31 Q c))
def ug(h:J)(w:J)(b:Int)(c:J)(w1:J)(ai:J)(Q:aa->J->Prop):Prop:=r1 h ((Y w).add 1) λj=>∃k:ag,j.a=some k/\aP b j.len/\r1 h (k.add (Int.toNat
 b*1)) λz=>bG 46 #[z] h λl i=>aT i (Y w) λA=>ak A (an (i.drew) λd=>∃e:Nat->Prop,¬e ((Y c).add 1).block/\r1 d ((Y
 c).add 1) λm=>((0:Int)<=b/\b<=(m.cap:Int))/\¬e ((Y c).add 2).block/\r1 d ((Y c).add 2) λn=>((0:Int)<=b/\b<=(n.cap:Int))/\∃o:Array aa,(xQ m b n
 o)/\¬e ((Y c).add 1).block/\r1 d ((Y c).add 1) λp=>((0:Int)<=b/\b<=(p.len:Int))/\¬e ((Y c).add 2).block/\r1 d ((Y c).add 2) λq=>((0:Int)<=b/\b<=(q.len:Int))
 /\∃r:Array aa,(xM p b q r)/\jL o d e r w1 ai Q l) (an (i.drew) λf=>∃g:Nat->Prop,¬g ((Y c).add 1).block/\r1 f ((Y c).add 1) λs=>((0:Int)<=b/\b<=((s.cap:
 Nat):Int))/\¬g ((Y c).add 3).block/\r1 f ((Y c).add 3) λt=>((0:Int)<=(aq (b+1))/\(aq (b+1))<=(t.cap:Int))/\∃u:Array aa,(xR s b t u)/\¬g ((Y c).add
 1).block/\r1 f ((Y c).add 1) λv=>((0:Int)<=(aq (b+1))/\(aq (b+1))<=(v.len:Int))/\¬g ((Y c).add 3).block/\r1 f ((Y c).add 3) λx=>((0:Int)<=(aq (b+1))/\(aq (b+1))<=
 (x.len:Int))/\∃y:Array aa,(xL v b x y)/\jL u f g y w1 ai Q l)
def ow(c:al)(d:ad)(e:ad)(f:ad)(a:J)(g:Nat->Prop)(h:J)(i:al)(j:ad)(k:ad)(l:ad)(m:J)(w:J)(key:ad)(ai:J)(Q:aa->J->Prop):Prop:=gb
 183 #[.agg #[c,d,e,f]] a λn o p q b=>af g a b/\bP b h i j k l m n o p q w key ai
 Q
def xV(g:J)(a:J)(c:Array aa)(w:J)(w1:J)(Q:aa->J->Prop):Prop:=bD g (Y a) (Array.toList c)/\Array.size c=4/\an (setCells g (Y a) 0 (Array.toList c)) λh=>r1
 h ((Y w).add 1) λi=>∃ (d:Int->J->Prop) (k:Int->J->Nat),d 0 h/\∀ (n17:Int) (b:J),d n17 b->ak (decide (n17<(i.len:Int))) (Bd i n17 b a d k) (r1 b ((Y w).add 2) λ
 j=>∃ (e:Int->J->Prop) (l:Int->J->Nat),e 0 b/\∀ (n34:Int) (f:J),e n34 f->ak (decide (n34<(j.len:Int))) (Bc j n34 f a e l) (Bb f a w1 Q))
def xW(a:J)(w:J)(Q:aa->J->Prop)(n7:Int):Prop:=bD a (Y w) [false,(),(),()]/\(4:Nat)=4/\an (setCells a (Y w) 0 [false,(),
 (),()]) λb=>fA b w Q n7
set_option maxRecDepth 100000
def ae.ox(s:ad)(w:J)(Q:aa->J->Prop):Prop:=ak (Option.isNone s.a) (Q () w) (an (w.alloc (.cells #[] 5)) λw1=>∃s2:ad,∃b:J,Sem.run aj
 (Builtin.append_ #[39,39] 39 #[.slice (some (Y w)) 0 0,s]) w1=.ok s2 b/\Q s2 b)
def ax.ox:aO:=c6
def ae.oy(a:ad)(b:ad)(w:J)(Q:aa->J->Prop):Prop:=∃s1:ByteArray,∃ai:J,Sem.run aj (convert 39 9 a) w=.ok (.string s1) ai/\∃c:ByteArray,∃d
 :J,Sem.run aj (convert 39 9 b) ai=.ok (.string c) d/\Q (.bool (ByteArray.toList s1==ByteArray.toList c)) d
def ax.oy:aO:=(.q (.q .l))
def ae.uh(s:ad)(w:J)(Q:aa->J->Prop):Prop:=ak (Option.isNone s.a) (Q () w) (an (w.alloc (.cells #[] 5)) λw1=>∃s2:ad,∃b:J,Sem.run aj
 (Builtin.append_ #[206,206] 206 #[.slice (some (Y w)) 0 0,s]) w1=.ok s2 b/\Q s2 b)
def ax.uh:aO:=c6
def ae.ui(x:Int)(w:J)(Q:aa->J->Prop):Prop:=(0:Int)<=x/\∃cy:UInt8,w4 (ByteArray.mk #[0,1,1,2,1,2,2,3,1,2,2,3,2,3,3,4,1,2,2,3,2,3,3,4,2,3,3,4,3,4,4,5,1,2,
 2,3,2,3,3,4,2,3,3,4,3,4,4,5,2,3,3,4,3,4,4,5,3,4,4,5,4,5,5,6,1,2,2,3,2,3,3,4,2,3,3,4,3,4,4,5,2,3,3,4,3,4,4,5,3,4,4,5,4,5,5,6,2,3,3,4,3,4,4,5,3,4,4,5,4,5,5,6,3,4,
 4,5,4,5,5,6,4,5,5,6,5,6,6,7,1,2,2,3,2,3,3,4,2,3,3,4,3,4,4,5,2,3,3,4,3,4,4,5,3,4,4,5,4,5,5,6,2,3,3,4,3,4,4,5,3,4,4,5,4,5,5,6,3,4,4,5,4,5,5,6,4,5,5,6,5,6,6,7,2,3,
 3,4,3,4,4,5,3,4,4,5,4,5,5,6,3,4,4,5,4,5,5,6,4,5,5,6,5,6,6,7,3,4,4,5,4,5,5,6,4,5,5,6,5,6,6,7,4,5,5,6,5,6,6,7,5,6,6,7,6,7,7,8]) (x.toNat)=some cy/\Q (.int .i64 (aq ((cy.toNat
 :Nat):Int))) w
def ax.ui:aO:=(.q (.q .l))
def ae.uj(s:ad)(i:Int)(j:Int)(w:J)(Q:aa->J->Prop):Prop:=((0:Int)<=(s.len:Int)/\(s.len:Int)<=(s.cap:Int))/\((0:Int)<=j/\j<=(((Int.toNat (s.len:Int)):Nat):
 Int))/\((0:Int)<=i/\i<=(((j.toNat):Nat):Int))/\ak (i==j) (Q s w) (an (w.drew) λw1=>((0:Int)<=i/\i<=(s.cap:Int))/\((0:Int)<=j/\j<=(s.len:Int))/\∃s2:ad,∃b:J,
 Sem.run aj (Builtin.append_ #[93,93] 93 #[.slice (aY s.a 1 0 s.cap) ((i.toNat)-0) (s.cap-0),.slice (aY s.a 1 (j.toNat) s.cap) (s.len-(j.toNat)) (s.cap-(j.toNat))]) w1
 =.ok s2 b/\((0:Int)<=(s.len:Int)/\(s.len:Int)<=(s2.cap:Int))/\((0:Int)<=(s2.len:Int)/\(s2.len:Int)<=(((Int.toNat (s.len:Int)):Nat):Int))/\∃ (aT:aa) (c:J),Sem.run aj
 (Builtin.clear_ #[93] 0 #[.slice (aY s2.a 1 (Int.toNat (s2.len:Int)) s2.cap) ((Int.toNat (s.len:Int))-(Int.toNat (s2.len:Int))) (s2.cap-(Int.toNat (s2.len:Int)))]) b=.ok aT c/\Q s2 c)
def ax.uj:aO:=(.q (.q (.s a1 (.q (.s (.d 6 false [0,0,502,0,0,1004003,1005002,507] [0,0,502,0,0,1004003,1005002,1006003000] [7020,1] [1,2,1021020,1,3,1024023,1025022,27] (.z 6 0 (.tail [.r,.r]))) (.q (.q
 .l)))))))
def ae.uk(s:ad)(i:Int)(v:ad)(w:J)(Q:aa->J->Prop):Prop:=((0:Int)<=i/\i<=(s.len:Int))/\ak ((v.len:Int)==0) (Q s w) (ak (i==(s.len:Int)) (∃s1:ad,
 ∃ai:J,Sem.run aj (Builtin.append_ #[93,93] 93 #[s,v]) w=.ok s1 ai/\Q s1 ai) (ak (decide
 (((aq ((s.len:Int)+(v.len:Int))):Int)>(s.cap:Int))) (((0:Int)<=i/\i<=(s.cap:Int))/\∃b:ad,∃d:J,Sem.run aj (Builtin.append_ #[93,3] 93 #[.slice (aY s.a 1 0
 s.cap) ((i.toNat)-0) (s.cap-0),.int .i64 (aq ((aq ((s.len:Int)+(v.len:Int)))-i))]) w=.ok b d/\((0:Int)<=i/\i<=(b.len:Int))/\∃n5:Int,∃e:J,Sem.run aj (Builtin.copy_
 #[93,93] 3 #[.slice (aY b.a 1 (i.toNat) b.cap) (b.len-(i.toNat)) (b.cap-(i.toNat)),v]) d=.ok n5 e/\an (e.drew) λl=>((0:Int)<=(aq (i+
 (v.len:Int)))/\(aq (i+(v.len:Int)))<=(b.len:Int))/\((0:Int)<=i/\i<=(s.len:Int))/\∃n8:Int,∃f:J,Sem.run aj (Builtin.copy_ #[93,93] 3 #[.slice (aY b.a 1 ((aq (i+
 (v.len:Int))).toNat) b.cap) (b.len-((aq (i+(v.len:Int))).toNat)) (b.cap-((aq (i+(v.len:Int))).toNat)),.slice (aY s.a 1 (i.toNat) s.cap) (s.len-(i.toNat)) (s.cap-(i.toNat))]) l=.ok n8 f/\Q
 b f) (((0:Int)<=(aq ((s.len:Int)+(v.len:Int)))/\(aq ((s.len:Int)+(v.len:Int)))<=(s.cap:Int))/\((0:Int)<=(aq (i+(v.len:Int)))/\(aq (i+(v.len:Int)))<=(((((aq ((s.len:Int)+
 (v.len:Int))).toNat)-0):Nat):Int))/\∃g:al,∃c:J,Sem.run aj (callFunc 248 #[v,.slice (aY (aY s.a 1 0 s.cap) 1 ((aq (i+(v.len:Int))).toNat) (s.cap-0))
 ((((aq ((s.len:Int)+(v.len:Int))).toNat)-0)-((aq (i+(v.len:Int))).toNat)) ((s.cap-0)-((aq (i+(v.len:Int))).toNat))]) w=.ok (.value g) c/\ak (!g) (an (c.drew) λm=>((0:Int)<=(aq (i+
 (v.len:Int)))/\(aq (i+(v.len:Int)))<=(((((aq ((s.len:Int)+(v.len:Int))).toNat)-0):Nat):Int))/\((0:Int)<=i/\i<=(((((aq ((s.len:Int)+(v.len:Int))).toNat)-0):Nat):Int))/\∃n13:Int,∃h:J,Sem.run
 aj (Builtin.copy_ #[93,93] 3 #[.slice (aY (aY s.a 1 0 s.cap) 1 ((aq (i+(v.len:Int))).toNat) (s.cap-0)) ((((aq ((s.len:Int)+(v.len:Int))).toNat)-0)-((aq (i+
 (v.len:Int))).toNat)) ((s.cap-0)-((aq (i+(v.len:Int))).toNat)),.slice (aY (aY s.a 1 0 s.cap) 1 (i.toNat) (s.cap-0)) ((((aq ((s.len:Int)+(v.len:Int))).toNat)-0)-(i.toNat)) ((s.cap-0)-(i.toNat))]) m=
 .ok n13 h/\((0:Int)<=i/\i<=(((((aq ((s.len:Int)+(v.len:Int))).toNat)-0):Nat):Int))/\∃n15:Int,∃j:J,Sem.run aj (Builtin.copy_ #[93,93] 3 #[.slice (aY (aY
 s.a 1 0 s.cap) 1 (i.toNat) (s.cap-0)) ((((aq ((s.len:Int)+(v.len:Int))).toNat)-0)-(i.toNat)) ((s.cap-0)-(i.toNat)),v]) h=.ok n15 j/\Q (.slice (aY s.a 1 0 s.cap)
 (((aq ((s.len:Int)+(v.len:Int))).toNat)-0) (s.cap-0)) j) (((0:Int)<=(s.len:Int)/\(s.len:Int)<=(((((aq ((s.len:Int)+(v.len:Int))).toNat)-0):Nat):Int))/\∃n17:Int,∃k:J,Sem.run aj
 (Builtin.copy_ #[93,93] 3 #[.slice (aY (aY s.a 1 0 s.cap) 1 (Int.toNat (s.len:Int)) (s.cap-0)) ((((aq ((s.len:Int)+(v.len:Int))).toNat)-0)-(Int.toNat (s.len:Int))) ((s.cap-0)-(Int.toNat
 (s.len:Int))),v]) c=.ok n17 k/\((0:Int)<=i/\i<=(((((aq ((s.len:Int)+(v.len:Int))).toNat)-0):Nat):Int))/\gQ 249 #[.slice (aY (aY s.a 1 0 s.cap) 1
 (i.toNat) (s.cap-0)) ((((aq ((s.len:Int)+(v.len:Int))).toNat)-0)-(i.toNat)) ((s.cap-0)-(i.toNat)),.int .i64 (v.len:Int)] k λn=>Q (.slice (aY s.a 1 0 s.cap) (((aq ((s.len:Int)+
 (v.len:Int))).toNat)-0) (s.cap-0)) n))))
def ax.uk:aO:=(.q (.q (.q (.s a1 (.q (.s a1 (.s (.q (.c (.q (.q (.s (.e 8 false [0,0,0,1002001,1003000,0,0,1006005,1007004] [9046] [10,2,8,1048047,1049046,1,2,1052051,1053050] (.z 8 0 .e)) (.q .l)))) .l))
 (.q (.s (.q (.c (.s (.e 8 false [0,0,0,1002001,1003000,0,0,1006005,1007004] [9069] [1,2,8,1071070,1072069,1,2,1075074,1076073] (.z 8 0 .e)) (.q (.q .l))) .l)) a3)))))))))
def ae.lK(a:ad)(b:ad)(w:J)(Q:aa->J->Prop):Prop:=∃b_:Int,∃ai:J,Sem.run aj (callFunc 259 #[a,b]) w=.ok (.value b_) ai/\Q b_ ai
def ax.lK:aO:=(.q (.q .l))
def ae.um(x:ad)(target:ad)(cmp:iu)(w:J)(Q:aa->J->Prop):Prop:=∃ (d:Int->Int->J->Prop) (e:Int->Int->J->Nat),d 0 (x.len:Int) w/\∀ (b:Int)
 (bT:Int) (c:J),d b bT c->ak (decide (b<bT)) ((0:Int)<=1/\∃dK:ag,x.a=some dK/\((0:Int)<=(aq (Int.fdiv (IntKind.wrap .u64 (aq (b+bT))) (2^(min (Int.toNat 1) 64))))/\(aq (Int.fdiv (IntKind.wrap .u64 (aq
 (b+bT))) (2^(min (Int.toNat 1) 64))))<(x.len:Int))/\r1 c (dK.add (Int.toNat (aq (Int.fdiv (IntKind.wrap .u64 (aq (b+bT))) (2^(min (Int.toNat 1) 64))))*1)) λh=>h6 aj cmp.f/\Calls aj cmp.f (cmp.pre
 ++ #[.slice h.a h.len h.cap,.slice target.a target.len target.cap]++cmp.cap) c λk g=>∃n10:Int,k=.returned (.int .i64 n10)/\ak (decide (n10<0)) (d (aq ((aq (Int.fdiv (IntKind.wrap .u64 (aq (b+bT))) (2^(min
 (Int.toNat 1) 64))))+1)) bT g/\e (aq ((aq (Int.fdiv (IntKind.wrap .u64 (aq (b+bT))) (2^(min (Int.toNat 1) 64))))+1)) bT g<e b bT c) (d b (aq (Int.fdiv (IntKind.wrap .u64 (aq (b+bT))) (2^(min (Int.toNat 1) 64)))) g
 /\e b (aq (Int.fdiv (IntKind.wrap .u64 (aq (b+bT))) (2^(min (Int.toNat 1) 64)))) g<e b bT c)) (b1 (λj:al->J->Prop=>ak (decide (b<(x.len:Int))) (∃eU:ag,x.a=some eU/\aP b x.len/\r1 c (eU.add
 (Int.toNat b*1)) λi=>h6 aj cmp.f/\Calls aj cmp.f (cmp.pre++ #[.slice i.a i.len i.cap,.slice target.a target.len target.cap]++cmp.cap) c λl m=>∃n16:Int,l=.returned (.int .i64 n16)/\
 j (n16==0) m) (j false c)) (λ(n:al) o=>Q (.tuple #[.int .i64 b,.bool n]) o))
def ax.um:aO:=(.q (.q (.q (.s (.bO (.loop [(9,(.int .i64)),(10,(.int .i64))] [0,1,2,8] (.s (.q (.c .l .l)) (.bO (.q (.q (.c .r .r))))))) (.s (.z [15,25]) .l)))))
def ae.uo(s:ad)(f:iu)(w:J)(Q:aa->J->Prop):Prop:=bX 260 #[s,.func (.func f.f) f.pre f.cap] w λa w1=>Q (.bool
 (decide (a>=0))) w1
def ax.uo:aO:=(.q (.q .l))
def ae.uq(s:ad)(f:iu)(w:J)(Q:aa->J->Prop):Prop:=bX 261 #[s,.func (.func f.f) f.pre f.cap] w λa w1=>Q (.bool (decide (a>=0))) w1
def ax.uq:aO:=(.q (.q .l))
def ae.ur(s:ad)(w:J)(Q:aa->J->Prop):Prop:=ak (Option.isNone s.a) (Q () w) (an (w.alloc (.cells #[] 3)) λw1=>∃s2:ad,∃b:J,Sem.run aj (Builtin.append_
 #[72,72] 72 #[.slice (some (Y w)) 0 0,s]) w1=.ok s2 b/\Q s2 b)
def ax.ur:aO:=c6
set_option maxRecDepth 100000
def ae.r3(s:ad)(f:iu)(w:J)(Q:aa->J->Prop):Prop:=∃ (d:Int->J->Prop) (h:Int->J->Nat),d 0 w/\∀ (b:Int) (c:J),d b c->ak (decide (b<(s.len:Int)))
 (∃a5:ag,s.a=some a5/\aP b s.len/\r1 c (a5.add (Int.toNat b*1)) λe=>h6 aj f.f/\Calls aj f.f (f.pre++ #[.slice e.a e.len e.cap]++f.cap) c λj g=>∃i:al,j=.returned (.bool i)/\
 ak i (Q (.int .i64 b) g) (d (aq (b+1)) g/\h (aq (b+1)) g<h b c)) (Q (.int .i64 (-1)) c)
def ax.r3:aO:=kf
theorem ae.E8(s:ad)(f:iu)(w:J)(Q:aa->J->Prop)(h:ae.r3 s f w Q):aI aj 260 #[.slice s.a s.len s.cap,.func (.func f.f) f.pre f.cap] w Q:=okF (λw Q=>ae.r3 s f w Q) ax.r3 func260 h
def ae.r4(s:ad)(f:iu)(w:J)(Q:aa->J->Prop):Prop:=∃ (d:Int->J->Prop) (g:Int->J->Nat),d 0 w/\∀ (b:Int) (c:J),d b c->ak (decide (b<(s.len:Int))) (∃a5:
 ag,s.a=some a5/\aP b s.len/\aG c (a5.add (Int.toNat b*1)) λn6=>h6 aj f.f/\Calls aj f.f (f.pre++ #[.int .i64 n6]++f.cap) c λi e=>∃h:al,i=.returned (.bool h)/\ak h (Q (.int .i64
 b) e) (d (aq (b+1)) e/\g (aq (b+1)) e<g b c)) (Q (.int .i64 (-1)) c)
def ax.r4:aO:=kf
theorem ae.E9(s:ad)(f:iu)(w:J)(Q:aa->J->Prop)(h:ae.r4 s f w Q):aI aj 261 #[.slice s.a s.len s.cap,.func (.func f.f) f.pre f.cap] w Q:=okF (λw Q=>ae.r4 s f w Q) ax.r4 func261 h
def ae.uu(s:ad)(w:J)(Q:aa->J->Prop):Prop:=ak (Option.isNone s.a) (Q () w) (an (w.alloc (.cells #[] 39)) λw1=>∃s2:ad,∃b:J,Sem.run aj
 (Builtin.append_ #[93,93] 93 #[.slice (some (Y w)) 0 0,s]) w1=.ok s2 b/\Q s2 b)
def ax.uu:aO:=c6
set_option maxRecDepth 100000
def ae.oz(a:av ag)(cM:Int)(w:J)(Q:aa->J->Prop):Prop:=ak (((Option.isNone a)||(decide (cM<1)))||(decide (cM>64))) (Q (.tuple #[.pointer none,(1:Int)]) w) (an (w.alloc (.cells
 #[a,(),cM] 110)) λw1=>Q (.tuple #[.pointer (some (Y w)),(0:Int)]) w1)
def ax.oz:aO:=a5
def ae.uv(s:av ag)(now:Int)(w:J)(Q:aa->J->Prop):Prop:=ak (Option.isNone s) (Q (.tuple #[(0:Int),(1:Int)]) w) (an (w.drew) λw1=>∃a:Nat->Prop,∃a3:ag,s=some a3/\¬
 a a3.block/\∃b:av ag,w1.cell? a3=some (b)/\∃a5:ag,s=some a5/\¬a (a5.add 1).block/\r1 w1 (a5.add 1) λd=>∃da:ag,s=some da/\¬a (da.add 2).block/\aG w1 (da.add 2) λn8=>A8
 45 #[b,d,.int .u64 now,n8] w1 λe n12 n13 c=>ak (n13 !=0) (Q (.tuple #[(0:Int),n13]) c) (∃c6:ag,s=some c6/\st c (c6.add 1) e λf=>Q (.tuple #[n12,(0:Int)]) f))
def ax.uv:aO:=(.q (.s a1 (.s (.d 20 true [0,3000,0,3004,0,0,3009,1000000004488,2013,15,15,516,1000000393215,520] [0,3000,0,3004,0,0,3009,1000000004488,2013,15,4014] [14012,12,3026,3006]
 [1,3012,1,3016,2,1,3021,1000018382848,26,12,12,12,3026] (.z 13 0 (.out 13 false (.z 6 14 .e)))) g0)))
def ae.uw(s:av ag)(w:J)(Q:aa->J->Prop):Prop:=uf s Q w
def ax.uw:aO:=c6
def ae.ux(s:av ag)(now:Int)(w:J)(Q:aa->J->Prop):Prop:=ak (Option.isNone s) (Q (.tuple #[(0:Int),(1:Int)]) w) (∃a1:ag,s=some a1/\st w (a1.add 1) () λai=>
 ∃ (b:Int->J->Prop) (d:Int->J->Nat),b 0 ai/\∀ (n5:Int) (c:J),b n5 c->gB 11 #[s,.int .u64 now] c λn9 n10 a=>ak (n10 !=0) (Q (.tuple #[(0:Int),n10]) a) (∃
 dE:ag,s=some dE/\r1 a (dE.add 1) λe=>ak ((e.len:Int)==0) (Q (.tuple #[.int .i64 (aq (n5+n9)),(0:Int)]) a) (b (aq (n5+n9)) a/\d (aq (n5+n9)) a<d n5 c)))
def ax.ux:aO:=(.q (.s a1 (.q (.q (.bO (.loop [(6,(.int .i64))] [0,1] (.bO (.q (.s a1 (.q a1))))))))))
def ae.uy(a:av ag)(w:J)(Q:aa->J->Prop):Prop:=ke 38 #[a] w λb w1=>bX 48 #[b] w1 λn6 c=>Q n6 c
def ax.uy:aO:=(.q (.q .l))
def ae.r5(a:av ag)(service:Int)(p:Array aa)(now:Int)(w:J)(Q:aa->J->Prop):Prop:=an (w.alloc (.cells p 55)) λw1=>an (w1.alloc gR) λai=>∃l:O aa,bn ai
 (Y w) 0 18=some l/\h_ 49 #[a,service,.agg l.toArray] ai λm B c=>ak (!B) (∃f:Array aa,Sem.run aj (Instr.build 57 #[]) c=.ok (.agg f) c/\bD c (Y w1)
 (Array.toList f)/\Array.size f=21/\an (setCells c (Y w1) 0 (Array.toList f)) λn=>∃o:O aa,bn n (Y w1) 0 21=some o/\Q (.tuple #[.agg o.toArray,false,(1:Int)]) n) (∃dE:ag,a=some
 dE/\∃q:av ag,c.cell? dE=some (q)/\lI 50 #[q,m] c λC D n17 d=>ak ((n17 !=0)||(!D)) (∃g:Array aa,Sem.run aj (Instr.build
 57 #[]) d=.ok (.agg g) d/\bD d (Y w1) (Array.toList g)/\Array.size g=21/\an (setCells d (Y w1) 0 (Array.toList g)) λr=>∃s:O aa,bn r (Y w1) 0 21=some s/\Q (.tuple
 #[.agg s.toArray,false,n17]) r) (iP 51 #[m,C] d λk E e=>an (e.alloc gR) λt=>bD t (Y e) (Array.toList k)/\Array.size k=
 21/\an (setCells t (Y e) 0 (Array.toList k)) λb=>ak (!E) (∃h:Array aa,Sem.run aj (Instr.build 57 #[]) b=.ok (.agg h) b/\bD b (Y w1) (Array.toList h)/\Array.size h=21/\an
 (setCells b (Y w1) 0 (Array.toList h)) λu=>∃v:O aa,bn u (Y w1) 0 21=some v/\Q (.tuple #[.agg v.toArray,false,(4:Int)]) u) (cm b ((Y e).add 20) λn30=>ak (decide (n30<=now))
 (∃i:Array aa,Sem.run aj (Instr.build 57 #[]) b=.ok (.agg i) b/\bD b (Y w1) (Array.toList i)/\Array.size i=21/\an (setCells b (Y w1) 0 (Array.toList i)) λx=>∃y:O
 aa,bn x (Y w1) 0 21=some y/\Q (.tuple #[.agg y.toArray,false,(0:Int)]) x) (∃j:O aa,bn b (Y e) 0 21=some j/\bD b (Y w1) (Array.toList j.toArray)/\Array.size j.toArray=
 21/\an (setCells b (Y w1) 0 (Array.toList j.toArray)) λz=>∃A:O aa,bn z (Y w1) 0 21=some A/\Q (.tuple #[.agg A.toArray,true,(0:Int)]) z))))
def ax.r5:aO:=(.q (.q (.s a1 (.q (.s dK (.q (.s (.bO eV) (.q .l))))))))
theorem ae.E_(a:av ag)(service:Int)(p:Array aa)(now:Int)(w:J)(Q:aa->J->Prop)(h:ae.r5 a service p now w Q):aI aj 18 #[a,service,.agg p,.int .u64 now] w Q:=okF (λw Q=>ae.r5 a service p now w Q) ax.r5 func18 h
def ae.qd(n:Int)(w:J)(Q:aa->J->Prop):Prop:=ak ((decide (n<16))||(decide (n>1600))) (Q (.tuple #[.pointer none,(1:Int)]) w) (((0:Int)<=n/\n<=n/\n<=kH/\((256:Nat):Int)*n<=
 140737488355328)/\an (w.alloc (.cells (gZ aj 151 (n.toNat)) 151)) λw1=>∃b:av Nat,∃a:J,Sem.run aj (Instr.makeMap 125 none) w1=.ok (.map b) a/\∃fH:
 Array aa,Sem.run aj (Instr.build 129 #[(1,.slice (some (Y w)) (n.toNat) (n.toNat)),(2,.map b)]) a=.ok (.agg fH) a/\an (a.alloc (.cells fH 129)) λc=>∃dK:ag,(some (Y a):av
 ag)=some dK/\gQ 52 #[.pointer (some dK)] c λd=>Q (.tuple #[.pointer (some (Y a)),(0:Int)]) d)
def ax.qd:aO:=(.q (.s dK a3))
def ae.oA(d:av ag)(s:Int)(t:Int)(u:Int)(w:J)(Q:aa->J->Prop):Prop:=an (w.alloc (.cells #[s,t,.int .u64 u] 64)) λw1=>
 aG w1 (Y w) λbu=>aG w1 ((Y w).add 1) λv=>cm w1 ((Y w).add 2) λbT=>b8 53 #[d,.agg #[bu,v,.int .u64 bT]] w1 λx l=>ak (!x) (Q (.tuple #[.pointer none,(1:Int)]) l) (bX 55 #[d] l λn10 y=>ia 54 #[n10,(3:Int)] y λm n14 n=>ak (n14 !=0) (Q (.tuple #[.pointer none,n14]) n) (bG 57 #[m] n
 λz A=>ey 56 #[(2:Int),.agg #[(4:Int),.int .u64 1,z]] A λB n21 f=>ak (n21 !=0) (Q (.tuple #[.pointer none,n21]) f) (((0:Int)<=256/\(256:Int)<=256/\
 (256:Int)<=kH/\((1:Nat):Int)*256<=140737488355328)/\an (f.alloc (.cells (gZ aj 5 (Int.toNat 256)) 5)) λi=>∃o:Array aa,Sem.run aj (Instr.build 138 #[(0,.slice (some (Y
 f)) (Int.toNat 256) (Int.toNat 256)),(1,.slice (some (Y f)) (Int.toNat 256) (Int.toNat 256)),(2,B)]) i=.ok (.agg o) i/\∃ (j:Int->J->Prop) (p:Int->J->Nat),j 0 i/\∀ (n26:
 Int) (g:J),j n26 g->ak (decide (n26<3)) (((0:Int)<=n26/\n26<((3:Nat):Int))/\∃h:ad,cellAt o (n26.toNat*1)=some (.slice h.a h.len h.cap)/\bX 58 #[d,n26,
 h] g λn31 k=>ak (n31 !=0) (Q (.tuple #[.pointer none,n31]) k) (j (aq (n26+1)) k/\p (aq (n26+1)) k<p n26 g)) (bX 59 #[d] g λn34 b=>ak
 (n34 !=0) (Q (.tuple #[.pointer none,n34]) b) (an (b.alloc iQ) λq=>bD q (Y b) [(0:Int),(0:Int),(2:Int),.int .u64 0,.int .u64 0,(0:Int)]/\(6:Nat)=6/\an (setCells q (Y b) 0
 [(0:Int),(0:Int),(2:Int),.int .u64 0,.int .u64 0,(0:Int)]) λe=>aG e (Y b) λn37=>aG e ((Y b).add 1) λn38=>aG e ((Y b).add 2) λn39=>cm e ((Y b).add 3) λn40=>cm
 e ((Y b).add 4) λn41=>aG e ((Y b).add 5) λC=>bX 60 #[d,.agg #[n37,n38,n39,.int .u64 n40,.int .u64 n41,C],.int .u64 1] e λr c=>
 ak (r !=0) (Q (.tuple #[.pointer none,r]) c) (aG c (Y w) λD=>aG c ((Y w).add 1) λE=>cm c ((Y w).add 2) λF=>aG c (Y b) λG=>aG c ((Y b).add 1) λH=>aG c
 ((Y b).add 2) λI=>cm c ((Y b).add 3) λK=>cm c ((Y b).add 4) λL=>aG c ((Y b).add 5) λM=>ia 61 #[d,.agg #[D,E,.int .u64 F],
 .agg #[G,H,I,.int .u64 K,.int .u64 L,M],.int .u64 1,m] c λN O P=>Q (.tuple #[N,O]) P))))))
def ax.oA:aO:=(.q (.s a1 (.q (.s a1 (.q (.s a1 (.q (.s (.q (.bO (.loop [(44,(.int .i64))] [0,3,6,43] gK))) (.s (.q a1) (.q (.s (.q a1) (.q .l))))))))))))
theorem ae.Fa(d:av ag)(a:Int)(b:Int)(c:Int)(w:J)(Q:aa->J->Prop)(h:ae.oA d a b c w Q):aI aj 21 #[d,.agg #[a,b,.int .u64 c]] w Q:=okF (λw Q=>ae.oA d a b c w Q) ax.oA func21 h
def ae.uz(s:av ag)(key:ad)(w:J)(Q:aa->J->Prop):Prop:=b1 (λb9:al->J->Prop=>ak (Option.isNone s) (b9 true w) (b8 63 #[key] w λh ai=>
 b9 (!h) ai)) (λ(i:al) a=>ak i (Q (.tuple #[false,(1:Int)]) a) (∃da:ag,s=some da/\aT a (da.add 18) λj=>ak j (Q (.tuple #[false,(8:Int)]) a) (∃a9:ag,s=some a9/\∃d:av
 ag,a.cell? a9=some (d)/\lI 64 #[d,key] a λo k n15 b=>ak (n15 !=0) (bX 65 #[s,n15] b λn18 l=>Q (.tuple #[false,n18]) l) (ak (!k) (Q (.tuple #[false,(0:Int)]) b) (bX 66 #[s] b λn21 c=>ak (n21==0) (Q (.tuple #[false,(2:Int)]) c) (∃e:ag,s=some e/\∃f:
 av ag,c.cell? e=some (f)/\nc 67 #[f,key] c λp n27 g=>ak (n27 !=0) (bX 65 #[s,n27] g λn30 m=>Q (.tuple
 #[false,n30]) m) (bX 68 #[s,.int .i64 (-1)] g λn33 n=>Q (.tuple #[.bool (n33==0),n33]) n)))))))
def ax.uz:aO:=(.q (.s (.bO (.s (.z [9,10]) (.c (.q .l) a1))) (.q (.s (.bO (.q (.c (.q .l) eV))) (.s (.q a1) (.q (.q .l)))))))
def ae.uA(s:av ag)(key:ad)(val:ad)(w:J)(Q:aa->J->Prop):Prop:=b1 (λb9:al->J->Prop=>ak (Option.isNone s) (b9 true w) (b8 63 #[key] w λh
 ai=>b9 (!h) ai)) (λ(i:al) a=>ak (i||(decide ((val.len:Int)>24))) (Q (1:Int) a) (∃da:ag,s=some da/\aT a (da.add 18) λj=>ak j (Q (8:Int) a) (bX 66 #[s] a λn11 b
 =>ak (n11==0) (Q (2:Int) b) (∃eU:ag,s=some eU/\∃e:av ag,b.cell? eU=some (e)/\lI 64 #[e,key] b λp k n18 c=>ak (n18 !=0) (bX
 65 #[s,n18] c λn21 l=>Q n21 l) (∃f:ag,s=some f/\∃g:av ag,c.cell? f=some (g)/\bX 73 #[g,key,val] c λn26 d=>ak (n26 !=0) (bX 65 #[s,n26] d λn29 m=>Q n29 m) (ak k (bX 68 #[s,(0:Int)] d λn32
 n=>Q n32 n) (bX 68 #[s,(1:Int)] d λn35 o=>Q n35 o)))))))
def ax.uA:aO:=(.q (.s (.bO (.s (.z [9,10,12,11]) (.c (.q .l) eV))) (.q (.s a1 (.s (.q a1) (.s a1 (.q .l)))))))
def ae.qe(s:av ag)(most:Int)(w:J)(Q:aa->J->Prop):Prop:=ak (((Option.isNone s)||(decide (most<1)))||(decide (most>400))) (Q (.tuple #[.pointer none,(1:Int)]) w) (an (w.alloc (.cells
 #[s,most] 120)) λw1=>Q (.tuple #[.pointer (some (Y w)),(0:Int)]) w1)
def ax.qe:aO:=a5
def ae.uB(a:av ag)(w:J)(Q:aa->J->Prop):Prop:=ak (Option.isNone a) (Q (.pointer none) w) (∃a1:ag,a=some a1/\∃bf:av ag,w.cell? a1=some (bf)/\Q (bf) w)
def ax.uB:aO:=c6
def ae.r6(a:av ag)(t:Array aa)(w:J)(Q:aa->J->Prop):Prop:=an (w.alloc (.cells t 57)) λw1=>b1 (λcq:al->J->Prop=>ak (Option.isNone a) (cq true w1) (∃h:O
 aa,bn w1 (Y w) 0 21=some h/\b8 96 #[.agg h.toArray] w1 λu v=>cq (!u) v)) (λ(x:al) c=>ak x (Q (1:Int) c) (aG c (Y w) λn9=>∃i:O aa,bn c ((Y w).add 1) 0 18=
 some i/\h_ 97 #[n9,.agg i.toArray] c λe C f=>aG f ((Y w).add 19) λn15=>cm f ((Y w).add 20) λn16=>h_ 98 #[n15,.int .u64 n16] f λj D k=>∃l:
 ag,a=some l/\∃m:av ag,k.cell? l=some (m)/\lI 50 #[m,e] k λE y n27 n=>ak (n27 !=0) (Q n27 n) (an (n.drew) λb=>∃
 o:Nat->Prop,ak (!y) (∃g:ag,a=some g/\¬o (g.add 1).block/\aG b (g.add 1) λn31=>bX 17 #[a] b λn34 d=>af o b d/\ak (decide (n34>=n31)) (Q (2:Int) d) (∃p
 :ag,a=some p/\∃q:av ag,d.cell? p=some (q)/\bX 27 #[q,e,j] d λn39 z=>Q n39 z)) (ak false (Q
 (2:Int) b) (∃r:ag,a=some r/\∃s:av ag,b.cell? r=some (s)/\bX 27 #[s,e,j] b λA B=>Q A B)))))
def ax.r6:aO:=(.q (.s da (.q (.q (.q (.s (.bO (.q (.c (.q .l) (.s (.d 9 true [0,3000,1003002,3,1005002,1006002,1007002,1008004002,1009002,1010004] [0,3000,1003002,3,1005002,1006002,1007002,1008004002,1009002,11] [11050,50]
 [11,2050,1052000,1053052,1052000,1055052,1056052,1057052,1058054052,1059052,61] (.z 3 0 (.sp 52 (.t 3 (.z 4 5 (.bR 4 (.tail [.r,.r,.r])))) (.z 6 3 (.tail [.r,.r,.r]))))) (.c (.q .l) .l))))) (.q .l)))))))
theorem ae.Fb(a:av ag)(t:Array aa)(w:J)(Q:aa->J->Prop)(h:ae.r6 a t w Q):aI aj 43 #[a,.agg t] w Q:=okF (λw Q=>ae.r6 a t w Q) ax.r6 func43 h
def ae.uC(a:av ag)(i:ad)(now:Int)(most:Int)(w:J)(Q:aa->J->Prop):Prop:=an (w.alloc (.cells #[.int .u64 now] 23)) λw1=>ak (Option.isNone a) (Q (.tuple #[(),
 .int .i64 0,(1:Int)]) w1) (∃bu:Int,∃d:J,Sem.run aj (Builtin.min_ #[3,3] 3 #[most,(64:Int)]) w1=.ok bu d/\ak (decide (bu<1)) (Q (.tuple #[(),(0:Int),
 .int .i64 0]) d) (∃a4:ag,a=some a4/\∃e:av ag,d.cell? a4=some (e)/\ey 102 #[e,i,(),.int .i64 (aq (bu+1))] d λb n9 c=>
 ak (n9 !=0) (Q (.tuple #[(),(0:Int),n9]) c) (b1 (λf:ad->ad->J->Prop=>ak (decide ((b.len:Int)>bu)) (((0:Int)<=bu/\bu<=(b.cap:Int))/\∃dE:ag,(aY b.a 2 0 b.cap)=
 some dE/\((0:Int)<=(aq (bu-1))/\(aq (bu-1))<((((bu.toNat)-0):Nat):Int))/\r1 c (dE.add ((aq (bu-1)).toNat*2)) λj=>an (c.alloc (.cells #[.int .u8 0] 5)) λg=>an (g.alloc (.cells #[j,.slice (some (Y c)) 1 1] 39)) λk=>bG 103 #[.slice (some (Y g)) 2 2] k λl m=>f l ⟨(aY b.a 2 0 b.cap),((bu.toNat)-0),(b.cap-0)⟩ m) (f ⟨none,0,0⟩ b c))
 (λ(n:ad) (o:ad) p=>gB 104 #[a,o,.func (.func 105) #[] #[.pointer (some (Y w))]] p λn23 n24 h=>ak (n24 !=0) (Q (.tuple #[(),
 .int .i64 0,n24]) h) (Q (.tuple #[n,n23,(0:Int)]) h)))))
def ax.uC:aO:=(.q (.s a1 (.q (.s a1 (.q (.s a1 (.s (.e4 [(8,.slice),(11,.slice)] [0,6] (.q (.c (.q .r) .l))) c6)))))))
def ae.xX(s:av ag)(w:J)(Q:aa->J->Prop):Prop:=ak (Option.isNone s) (Q (0:Int) w) (∃a1:ag,s=some a1/\aG w (a1.add 17) λbu=>Q bu w)
def ax.xX:aO:=c6
def ae.r7(a:av ag)(service:Int)(p:Array aa)(w:J)(Q:aa->J->Prop):Prop:=an (w.alloc (.cells p 55)) λw1=>ak (Option.isNone a) (Q (.tuple #[(),false]) w1)
 (∃b:O aa,bn w1 (Y w) 0 18=some b/\h_ 97 #[service,.agg b.toArray] w1 λc d e=>Q (.tuple #[c,d]) e)
def ax.r7:aO:=c6
theorem ae.Fc(a:av ag)(service:Int)(p:Array aa)(w:J)(Q:aa->J->Prop)(h:ae.r7 a service p w Q):aI aj 49 #[a,service,.agg p] w Q:=okF (λw Q=>ae.r7 a service p w Q) ax.r7 func49 h
def ae.uD(s:av ag)(key:ad)(w:J)(Q:aa->J->Prop):Prop:=ak (Option.isNone s) (Q (.tuple #[(),false,(1:Int)]) w) (∃a1:ag,s=some a1/\∃bf:av ag,w.cell? a1
 =some (bf)/\lI 64 #[bf,key] w λa b n7 c=>Q (.tuple #[a,b,n7]) c)
def ax.uD:aO:=c6
def ae.qf(key:ad)(val:ad)(w:J)(Q:aa->J->Prop):Prop:=an (w.alloc gR) λw1=>nd 106 #[key,(0:Int),(2:Int)] w1 λbT C ai=>ak (((!C)||(decide ((key.len:Int)
 <4)))||((val.len:Int) !=10)) (∃e:Array aa,Sem.run aj (Instr.build 57 #[]) ai=.ok (.agg e) ai/\bD ai (Y w) (Array.toList e)/\Array.size e=21/\an (setCells ai (Y w) 0 (Array.toList e)) λn
 =>∃o:O aa,bn n (Y w) 0 21=some o/\Q (.tuple #[.agg o.toArray,false]) n) (((0:Int)<=4/\4<=(key.len:Int))/\iP 107 #[.slice (aY key.a 1 (Int.toNat 4) key.cap) (key.len-(Int.toNat 4)) (key.cap-
 (Int.toNat 4))] ai λi M d=>an (d.alloc z3) λp=>bD p (Y d) (Array.toList i)/\Array.size i=17/\an (setCells p (Y d) 0 (Array.toList i)) λD=>nd 106 #[val,(0:Int),(2:Int)] D λn17 N E=>nd 106 #[val,(2:Int),(8:Int)] E λn21 P F=>an (F.drew) λb=>∃j:Nat->Prop,¬j ((Y d):ag).block/\∃q:O aa,
 bn b (Y d) 0 17=some q/\∃k:ag,key.a=some k/\aP 3 key.len/\¬j (k.add (Int.toNat 3*1)).block/\du b (k.add (Int.toNat 3*1)) λn27=>∃r:Array aa,(∀s:J,Sem.run aj
 (Instr.build 55 #[(0,.agg q.toArray),(1,.int .i64 (aq n27))]) s=.ok (.agg r) s)/\∃f:Array aa,(∀t:J,Sem.run aj (Instr.build 57 #[(0,.int .i64 (aq bT)),(1,.agg r),(2,.int
 .i64 (aq n17)),(3,.int .u64 n21)]) t=.ok (.agg f) t)/\an (b.alloc gR) λl=>af j b l/\bD l (Y b) (Array.toList f)/\Array.size f=21/\an (setCells l (Y b) 0 (Array.toList f)) λm=>aG
 m (Y b) λn34=>∃u:O aa,bn m ((Y b).add 1) 0 18=some u/\h_ 97 #[n34,.agg u.toArray] m λG H v=>b1 (λx:al->J->Prop=>ak (!H) (x true v) (b8
 108 #[G,key] v λI K=>x (!I) K)) (λ(L:al) c=>ak L (∃g:Array aa,Sem.run aj (Instr.build 57 #[]) c=.ok (.agg g)
 c/\bD c (Y w) (Array.toList g)/\Array.size g=21/\an (setCells c (Y w) 0 (Array.toList g)) λy=>∃z:O aa,bn y (Y w) 0 21=some z/\Q (.tuple #[.agg z.toArray,false]) y) (∃h:
 O aa,bn c (Y b) 0 21=some h/\bD c (Y w) (Array.toList h.toArray)/\Array.size h.toArray=21/\an (setCells c (Y w) 0 (Array.toList h.toArray)) λA=>∃B:O aa,bn A (Y w) 0 21=
 some B/\Q (.tuple #[.agg B.toArray,true]) A)))
def ax.qf:aO:=(.q (.q (.s (.s (.z [9,11,12,11]) (.c (.q .l) .l)) (.q (.q (.q (.s (.d 13 true [0,1,0,0,3003,1006002,0,9,0,1000000001666,0,513] [0,1,0,0,3003,1006002,0,9,0,1000000001666,0,1012011] [12050,15,0]
 [7,51,9,1,3053,1056052,11,59,13,1875750244799811584,0,1061014] (.z 12 0 (.bR 12 .e))) (.q (.s (.s (.z [9,13]) (.c (.q .l) .l)) (.q .l))))))))))
def ae.uE(f:av ag)(w:J)(Q:aa->J->Prop):Prop:=∃ (c:Int->J->Prop) (d:Int->J->Nat),c 0 w/\∀ (a:Int) (b:J),c a b->ak (decide (a<4)) (∃a5:ag,f=some a5/\
 ((0:Int)<=a/\a<((4:Nat):Int))/\st b (Addr.add a5 (a.toNat*1)) (.int .i64 (-1)) λe=>c (aq (a+1)) e/\d (aq (a+1)) e<d a b) (Q (.tuple #[]) b)
def ax.uE:aO:=(.q (.bO (.loop [(3,(.int .i64))] [0] a2)))
def ae.qg(d:av ag)(l:Int)(m:Int)(n:Int)(w:J)(Q:aa->J->Prop):Prop:=an (w.alloc (.cells #[l,m,.int .u64 n] 64)) λw1=>
 b1 (λcq:al->J->Prop=>ak (!(Option.isNone d)) (aG w1 (Y w) λo=>cq (decide (o>=8)) w1) (cq false w1)) (λ(p:al) a=>b1 (λg:al->J->Prop=>ak p (aG a (Y w) λn7=>g (decide (n7<=64)) a)
 (g false a)) (λ(q:al) b=>b1 (λh:al->J->Prop=>ak q (aG b ((Y w).add 1) λn11=>h (decide (n11>=1)) b) (h false b)) (λ(r:al) c=>b1 (λi:al->J->Prop=>ak r (aG c
 ((Y w).add 1) λn15=>i (decide (n15<=1000)) c) (i false c)) (λ(s:al) e=>b1 (λj:al->J->Prop=>ak s (cm e ((Y w).add 2) λn19=>j (decide (n19>=1)) e) (j false e)) (λ
 (t:al) f=>b1 (λk:al->J->Prop=>ak t (cm f ((Y w).add 2) λn23=>k (decide (n23<=1048576)) f) (k false f)) (λ(u:al) v=>Q u v))))))
def ax.qg:aO:=(.q (.s (.z [9,10,12,10,12,10,12,10,12,10,12,10]) .l))
def ae.qh(n:Int)(first:Int)(w:J)(Q:aa->J->Prop):Prop:=b8 109 #[n] w λg w1=>ak (((!g)||(decide (first<0)))||(decide (first>n))) (Q (.tuple #[.pointer none,(1:Int)])
 w1) (bX 110 #[n] w1 λn6 d=>((0:Int)<=n6/\n6<=n6/\n6<=kH/\((1:Nat):Int)*n6<=140737488355328)/\an (d.alloc (.cells (gZ aj 5 (n6.toNat)) 5)) λb=>an (b.alloc (.cells
 #[n,.slice (some (Y d)) (n6.toNat) (n6.toNat),()] 209)) λh=>∃ (c:Int->J->Prop) (e:Int->J->Nat),c 0 h/\∀ (n11:Int) (a:J),c n11 a->ak (decide (n11<
 first)) (∃ek:ag,(some (Y b):av ag)=some ek/\r1 a (ek.add 1) λi=>gQ 111 #[i,n11] a λf=>c (aq (n11+1)) f/\e (aq (n11+1)) f<e n11 a)
 (gQ 112 #[.pointer (some (Y b))] a λj=>Q (.tuple #[.pointer (some (Y b)),(0:Int)]) j))
def ax.qh:aO:=(.q (.s (.s (.z [12,8,9,11]) (.c (.q .l) .l)) (.q (.s (.q (.bO (.loop [(27,(.int .i64))] [6,26] a2))) (.q (.q .l))))))
def ae.uF(d:av ag)(w:J)(Q:aa->J->Prop):Prop:=ak (Option.isNone d) (Q (0:Int) w) (∃a1:ag,d=some a1/\r1 w (a1.add 4) λs2=>Q (.int .i64 (s2.len:Int)) w)
def ax.uF:aO:=c6
def ae.uG(no:Int)(u:Int)(v:Int)(x:ad)(w:J)(Q:aa->J->Prop):Prop:=an (w.alloc (.cells #[u,.int .u64 v,x] 137)) λw1=>
 b8 113 #[no] w1 λy ai=>b1 (λj:al->J->Prop=>ak (!y) (j true ai) (aG ai (Y w) λn6=>b8 114 #[n6] ai λz A=>j (!z) A)) (λ(B:al) f=>ak B (Q (.tuple
 #[(),(1:Int)]) f) (r1 f ((Y w).add 2) λC=>ak (decide ((C.len:Int)>232)) (Q (.tuple #[(),(10:Int)]) f) (an (f.alloc (.cells #[.int .u8 83,.int .u8 84,.int .u8 78,.int .u8 67]
 5)) λD=>∃k:ad,∃g:J,Sem.run aj (convert 39 39 (.slice (some (Y f)) 4 4)) D=.ok k g/\aG g (Y w) λn16=>an (g.alloc (.cells #[.int .u8 1,
 .int .u8 (IntKind.wrap .u8 n16)] 5)) λl=>an (l.alloc (.cells #[k,.slice (some (Y g)) 2 2] 39)) λE=>bG 103 #[.slice (some (Y l)) 2 2] E λF m=>r1 m
 ((Y w).add 2) λG=>bG 115 #[F,.int .u64 (IntKind.wrap .u64 (G.len:Int)),(2:Int)] m λH I=>bG 115 #[H,.int .u64 (IntKind.wrap .u64 no),(4:Int)] I λK n=>cm n ((Y w).add 1) λn29=>bG 115 #[K,.int .u64 n29,(8:Int)] n λo L=>b1 (λp:ad->J->Prop=>an (L.drew) λb=>∃d:Nat->Prop,¬
 d ((Y w).add 2).block/\r1 b ((Y w).add 2) λq=>¬d ((Y w).add 2).block/\r1 b ((Y w).add 2) λe=>(((0:Int)<=4/\(4:Int)<=4/\(4:Int)<=kH/\((1:Nat):Int)*4<=140737488355328)/\an
 (b.alloc (.cells (gZ aj 5 (Int.toNat 4)) 5)) λh=>af d b h/\(xN e)/\an (h.alloc (.cells (gZ aj 5 ((aq (232-(e.len:Int))).toNat)) 5)) λr=>af d h r/\
 xO r o b q h e p)/\((xN e)/\an (b.alloc (.cells (gZ aj 5 ((aq (232-(e.len:Int))).toNat)) 5)) λi=>af d b i/\((0:Int)<=4/\(4:Int)<=4/\(4:Int)<=kH/\((1:Nat):
 Int)*4<=140737488355328)/\an (i.alloc (.cells (gZ aj 5 (Int.toNat 4)) 5)) λs=>af d i s/\xO s o i q b e p)) (λ(c:ad) M=>an (M.drew) λN=>∃U:Nat->Prop,((0:
 Int)<=20/\20<=(c.len:Int))/\nf 116 #[c] N λO P=>∃V:Nat->Prop,bG 115 #[(),.int .u64 (IntKind.wrap .u64 O),(4:Int)] P λR S=>∃T:Int,∃t
 :J,Sem.run aj (Builtin.copy_ #[39,39] 3 #[.slice (aY c.a 1 (Int.toNat 20) c.cap) (c.len-(Int.toNat 20)) (c.cap-(Int.toNat 20)),R]) S=.ok T t
 /\Q (.tuple #[c,(0:Int)]) t))))
def ax.uG:aO:=(.q (.s (.bO (.s (.z [12,13]) (.c (.q .l) a1))) (.q (.q (.q (.q (.s (.e4 [(6,.slice)] [] (.d 9 true [0,0,0,3,0,4004,1000000000267,10,511] [0,0,0,3,0,4004,1000000000267,10,1010000] [11044,7]
 [7,0,4,47,4,4048,4698113673859072,2053] (.t 0 (.z 6 2 (.two 1 (.bR 8 (.tail [.r,.r,.r])) 8 (.bR 1 (.tail [.r,.r,.r]))))))) (.s (.d 6 true [0,1,0,2002,1004003,1005001] [0,1,0,3002,1005001] [7055] [7,56,7,3057,1060056] (.z 3 0 (.out 3
 true (.t 4 (.out 5 false .e))))) (.q .l)))))))))
def ae.r8(s:av ag)(w:J)(Q:aa->J->Prop):Prop:=uf s Q w
def ax.r8:aO:=c6
theorem ae.Fe(s:av ag)(w:J)(Q:aa->J->Prop)(h:ae.r8 s w Q):aI aj 57 #[s] w Q:=okF (λw Q=>ae.r8 s w Q) ax.r8 func57 h
def ae.uH(d:av ag)(i:Int)(b:ad)(w:J)(Q:aa->J->Prop):Prop:=b8 85 #[d,i] w λs w1=>ak ((!s)||((b.len:Int) !=256)) (Q (1:Int) w1) (∃a4:
 ag,d=some a4/\b8 117 #[.pointer (some a4),(2:Int)] w1 λt n=>ak t (Q (3:Int) n) (an (n.drew) λe=>∃c:Nat->Prop,∃e7:ag,d=some e7/\¬c (e7.add 5).block/\∃h:av Nat,
 e.cell? (e7.add 5)=some (.map h)/\∃eU:ag,d=some eU/\¬c (eU.add 5).block/\∃j:av Nat,e.cell? (eU.add 5)=some (.map j)/\256<=b.len/\∃c6:ag,b.a=some c6/\¬c c6.block/\∃k:O aa,
 bn e c6 0 256=some k/\(∃o:ad,∃f:J,Sem.run aj (Instr.lookup 125 (.map j) i false) e=.ok o f/\af c e f/\∃p:ad,∃l:J,
 Sem.run aj (Instr.buildSlice 124 1 #[(0,.agg k.toArray)]) f=.ok p l/\af c f l/\xK o p l c h i d Q)/\(∃q:ad,∃g:J,Sem.run aj (Instr.buildSlice
 124 1 #[(0,.agg k.toArray)]) e=.ok q g/\af c e g/\∃r:ad,∃m:J,Sem.run aj (Instr.lookup 125 (.map j) i false) g=.ok r m/\af c g m/\xK r q m c h i d Q)))
def ax.uH:aO:=(.q (.s (.bO (.s (.z [15,11]) (.c (.q .l) a1))) (.s (.d 16 true [0,3000,0,0,3005,0,1009008,0,3011,1014010,516] [0,3000,0,0,3005,0,1009008,0,3011,1014010,1015004003] [16022,0]
 [1,3022,2,1,3027,2,1031030,3,3033,1036032,1037026025] (.z 10 0 (.z 3 11 (.two 10 (.bR 14 (.bR 15 .e)) 14 (.bR 10 (.bR 15 .e)))))) (.q (.q .l)))))
def ae.uI(d:av ag)(w:J)(Q:aa->J->Prop):Prop:=ak (Option.isNone d) (Q (1:Int) w) (∃a1:ag,d=some a1/\b8 117 #[.pointer (some a1),(3:Int)] w λj ai=>ak j (Q
 (3:Int) ai) (∃a5:ag,d=some a5/\∃g:av Nat,ai.cell? (a5.add 5)=some (.map g)/\∃ (a:aa) (h:J),Sem.run aj (Instr.range 125 (.map g)) ai=.ok a h/\∃ (c:J->Prop)
 (i:J->Nat),c h/\∀ (b:J),c b->(∃ (k:aa) (l:aa) (e:J),Sem.run aj (Instr.next (a) false 0) b=.ok (.tuple #[true,k,l]) e/\ak true (xI a e d c i b) (xP d e
 Q))\/(∃f:J,Sem.run aj (Instr.next (a) false 0) b=.ok (.tuple #[false]) f/\ak false (xI a f d c i b) (xP d f Q))))
def ax.uI:aO:=(.q (.s (.bO eV) (.s (.q (.bO (.loop [] [0,16] (.q (.s (.c .l .l) (.bO (.s (.pV [.tz [(.one (.int .i64)),(.one .any)]]) (.d 8 true [0,3000,0,0,0,1006005,508,509] [0,3000,0,0,0,1006005,1004003,1008007]
 [9021,0] [1,3021,4,1,4,1027026,1025024,1029028] (.z 7 0 (.bR 7 (.tail [.r,.r]))))))))))) (.q (.q .l)))))
def ae.ng(d:av ag)(i:Int)(j:Int)(k:Int)(l:Int)(m:Int)(n:Int)(gen:Int)(w:J)(Q:aa->J->Prop):Prop:=an (w.alloc (.cells #[i,j,k,.int .u64 l,.int .u64 m,n] 90)) λw1=>(2:Int)≠0/\an (w1.drew) λai=>∃b:Nat->Prop,¬b ((Y w):ag).block/\aG ai (Y w) λbT=>aG ai (Addr.add
 (Y w) 1) λn5=>aG ai ((Y w).add 2) λn6=>cm ai ((Y w).add 3) λn7=>cm ai ((Y w).add 4) λn8=>aG ai ((Y w).add 5) λn9=>bX 55 #[d] ai λn12 c=>af b ai c/\bG
 119 #[.agg #[bT,n5,n6,.int .u64 n7,.int .u64 n8,n9],n12] c λo e=>∃p:Nat->Prop,∃f:Array aa,(∀g:J,Sem.run aj (Instr.build 137
 #[(0,.int .i64 3),(1,.int .u64 gen),(2,o)]) g=.ok (.agg f) g)/\ey 56 #[.int .i64 (aq (Int.tmod gen 2)),.agg f] e λq n22 a=>af p e a/\ak (n22 !=0) (Q n22 a) (bX 58 #[d,.int .i64 (aq (Int.tmod gen 2)),q] a λn25 h=>ak (n25 !=0) (Q n25 h) (bX 59 #[d] h λn28 r=>Q n28 r))
def ax.ng:aO:=(.q (.q (.s (.d 12 true [0,0,0,0,4,1004002,1005001,1006005000,2007,9,510,512] [0,0,0,0,4,1004002,1005001,1006000,2007,3008] [8015,15,2023,2008] [8,3,5,1,19,1019017,1020016,1021015,23,15,15,2023] (.z 4 0 (.bR 4
 (.out 5 true (.t 6 (.bR 7 (.z 4 8 .e))))))) (.s a1 (.s (.q a1) (.q .l))))))
theorem ae.Ff(d:av ag)(a:Int)(b:Int)(c:Int)(e:Int)(f:Int)(g:Int)(gen:Int)(w:J)(Q:aa->J->Prop)(h:ae.ng d a b c e f g gen w Q):aI aj 60 #[d,.agg #[a,b,c,.int .u64 e,.int .u64 f,g],.int .u64 gen] w Q:=okF (λw Q=>ae.ng d a b c e f g gen w Q) ax.ng func60 h
def ae.oB(d:av ag)(f:Int)(g:Int)(h:Int)(i:Int)(j:Int)(k:Int)(l:Int)(m:Int)(n:Int)(gen:Int)(s:av ag)(w:J)(Q:aa->J
 ->Prop):Prop:=an (w.alloc (.cells #[f,g,.int .u64 h] 64)) λw1=>an (w1.alloc (.cells #[i,j,k,.int .u64 l,.int .u64 m,
 n] 90)) λai=>aG ai (Y w) λo=>ia 120 #[d,o] ai λc n7 b=>ak (n7 !=0) (Q (.tuple #[.pointer none,n7]) b) (aG b (Y w1) λn8=>aG b ((Y w1).add
 1) λn9=>ia 121 #[c,s,.int .u64 (IntKind.wrap .u64 (gen+1)),n8,n9] b λp n13 a=>ak (n13 !=0) (Q (.tuple #[.pointer none,n13]) a) (aG a (Y w) λn14=>aG
 a ((Y w).add 1) λn15=>cm a ((Y w).add 2) λn16=>aG a (Y w1) λn17=>aG a ((Y w1).add 1) λn18=>aG a ((Y w1).add 2) λn19=>cm a ((Y w1).add 3) λn20=>cm a ((Y w1).add
 4) λn21=>aG a ((Y w1).add 5) λn22=>cm a ((Y w1).add 3) λn23=>aG a ((Y w1).add 5) λn24=>∃e:Array aa,Sem.run aj (Instr.build 146 #[(0,p),(1,d),(2,
 c),(3,s),(4,.agg #[n14,n15,.int .u64 n16]),(5,.agg #[n17,n18,n19,.int .u64 n20,.int .u64 n21,n22]),(6,.int .u64 gen),(7,.int .u64 n23),(10,
 n24)]) a=.ok (.agg e) a/\an (a.alloc (.cells e 146)) λq=>Q (.tuple #[.pointer (some (Y a)),(0:Int)]) q))
def ax.oB:aO:=(.q (.q (.s a1 c6)))
theorem ae.Fg(d:av ag)(a:Int)(b:Int)(c:Int)(e:Int)(f:Int)(g:Int)(i:Int)(j:Int)(k:Int)(gen:Int)(s:av ag)(w:J)(Q:aa->J->Prop)(h:ae.oB d a b c e f g i j k gen s w Q):aI aj 61 #[d,.agg #[a,b,.int .u64 c],.agg #[e,f,g,.int .u64 i,.int .u64 j,k],.int .u64 gen,s] w Q:=okF (λw Q=>ae.oB d a b c e f g i j k gen s w Q) ax.oB func61 h
def ae.qi(a:ad)(w:J)(Q:aa->J->Prop):Prop:=Q (.bool ((decide ((a.len:Int)>=1))&&(decide ((a.len:Int)<=24)))) w
def ax.qi:aO:=ez
def ae.uJ(t:av ag)(key:ad)(w:J)(Q:aa->J->Prop):Prop:=b1 (λb9:al->J->Prop=>ak (Option.isNone t) (b9 true w) (b8 122 #[key] w λn ai=>b9
 (!n) ai)) (λ(o:al) f=>ak o (ak (Option.isNone t) (Q (.tuple #[(),false,(1:Int)]) f) (Q (.tuple #[(),false,(0:Int)]) f)) (ey 123 #[t,key] f λc n10 b=>ak ((n10 !=0)||((c.len:Int)==0)) (Q (.tuple #[(),false,n10]) b) (∃dE:ag,c.a=some dE/\((0:Int)<=(aq ((c.len:Int)-1))/\(aq ((c.len:Int)-1))<
 (c.len:Int))/\aT b ((dE.add ((aq ((c.len:Int)-1)).toNat*6)).add 1) λg=>r1 b (((dE.add ((aq ((c.len:Int)-1)).toNat*6)).add 1).add 1) λh=>r1 b (((dE.add ((aq ((c.len:Int)-1)).toNat*6)).add
 1).add 2) λi=>r1 b (((dE.add ((aq ((c.len:Int)-1)).toNat*6)).add 1).add 3) λj=>an (b.alloc z4) λk=>bD k (Y b) [g,h,i,j]/\(4:Nat)=4/\an (setCells k (Y b) 0 [g,h,i,j]) λd=>aT d (Y b) λp=>r1 d ((Y b).add 1) λq=>
 r1 d ((Y b).add 2) λr=>r1 d ((Y b).add 3) λs=>kI 124 #[.agg #[p,q,r,s],key] d
 λn24 u e=>ak (!u) (Q (.tuple #[(),false,(0:Int)]) e) (r1 e ((Y b).add 2) λl=>∃m:ag,l.a=some m/\aP n24 l.len/\r1 e (m.add (n24.toNat*1)) λv=>Q (.tuple
 #[v,true,(0:Int)]) e))))
def ax.uJ:aO:=(.q (.s (.s (.z [9,10]) (.c (.s a1 (.q .l)) .l)) (.q (.s ek (.q c6)))))
set_option maxRecDepth 100000
def ae.uK(s:av ag)(w:J)(Q:aa->J->Prop):Prop:=∃a1:ag,s=some a1/\∃bf:av ag,w.cell? a1=some (bf)/\gB 128 #[bf] w λn5 n6 a=>∃da:ag,s
 =some da/\∃b:av ag,a.cell? (da.add 3)=some (b)/\bX 129 #[b] a λn11 d=>∃n12:Int,∃c:J,Sem.run aj (Builtin.max_ #[3,3] 3 #[.int .i64 (aq ((aq (n11
 -(aq (2*n6))))-4)),(0:Int)]) d=.ok n12 c/\Q n12 c
def ax.uK:aO:=a3
def ae.uL(t:av ag)(key:ad)(w:J)(Q:aa->J->Prop):Prop:=b1 (λb9:al->J->Prop=>ak (Option.isNone t) (b9 true w) (b8 122 #[key] w λl ai=>b9
 (!l) ai)) (λ(m:al) f=>ak m (Q (.tuple #[false,(1:Int)]) f) (ey 123 #[t,key] f λb n10 d=>ak ((n10 !=0)||((b.len:Int)==0)) (Q (.tuple #[false,n10]) d) (∃dE:ag,b.a=some dE/\((0:Int)<=(aq ((b.len:Int)-1))/\(aq ((b.len:Int)-1))<(b.len:Int))/\aT d ((dE.add ((aq ((b.len:Int)-1)).toNat*6)).add 1) λn=>r1 d (((dE.add ((aq
 ((b.len:Int)-1)).toNat*6)).add 1).add 1) λo=>r1 d (((dE.add ((aq ((b.len:Int)-1)).toNat*6)).add 1).add 2) λp=>r1 d (((dE.add ((aq ((b.len:Int)-1)).toNat*6)).add 1).add 3) λq=>lJ 130
 #[.agg #[n,o,p,q],key] d λg h i j r c=>an (c.alloc z4) λk=>bD k (Y c) [g,
 h,i,j]/\(4:Nat)=4/\an (setCells k (Y c) 0 [g,h,i,j])
 λe=>ak (!r) (Q (.tuple #[false,(0:Int)]) e) (aT e (Y c) λs=>r1 e ((Y c).add 1) λu=>r1 e ((Y c).add 2) λv=>r1 e ((Y c).add 3) λx=>bX 131
 #[t,b,.agg #[s,u,v,x]] e λn31 y=>Q (.tuple #[.bool (n31==0),n31]) y))))
def ax.uL:aO:=(.q (.s da (.q (.s ek (.q g0)))))
def ae.uM(s:av ag)(keys:Int)(w:J)(Q:aa->J->Prop):Prop:=∃a1:ag,s=some a1/\aG w (a1.add 17) λbu=>∃a3:ag,s=some a3/\st w (a3.add 17) (.int .i64 (aq (bu+keys))) λa=>
 b1 (λc:J->Prop=>∃dK:ag,s=some dK/\aG a (dK.add 16) λn7=>ak (n7==0) (∃ez:ag,s=some ez/\cm a (ez.add 14) λn9=>∃e7:ag,s=some e7/\st a (e7.add 15) (.int .u64 n9) λf=>c f) (c
 a)) (λd=>∃ek:ag,s=some ek/\aG d (ek.add 16) λn14=>∃eV:ag,s=some eV/\st d (eV.add 16) (.int .i64 (aq (n14+1))) λg=>an (g.drew) λb=>∃gK:ag,s=some gK/\¬False/\aG b
 (gK.add 16) λn19=>∃e:ag,s=some e/\¬False/\aG b ((e.add 4).add 1) λn21=>ak (decide (n19>=n21)) (bX 74 #[s] b λn24 h=>Q n24 h) (Q (0:Int) b))
def ax.uM:aO:=(.q (.q (.s (.e4 [] [0] (.q (.c .r .l))) (.q (.s (.s (.e 9 false [0,3000,0,4004,1008003] [10032] [1,3032,1,4036,1040035] (.z 9 0 .e)) (.c (.q .l) .l)) (.q .l))))))
def ae.uN(t:av ag)(key:ad)(val:ad)(w:J)(Q:aa->J->Prop):Prop:=b1 (λb9:al->J->Prop=>ak (Option.isNone t) (b9 true w) (b8 122 #[key] w λv ai
 =>b9 (!v) ai)) (λ(x:al) l=>ak (x||(decide ((val.len:Int)>24))) (Q (1:Int) l) (an (l.drew) λi=>∃j:Nat->Prop,∃a9:ag,t=some a9/\¬j (a9.add 1).block/\∃m:av ag,i.cell? (a9.add 1)=
 some (m)/\∃dE:ag,t=some dE/\¬j (dE.add 4).block/\aG i (dE.add 4) λn12=>bX 129 #[m] i λn15 k=>af j i k/\ak (decide (n15<(aq ((aq (2*n12))+3)))) (Q (2:Int)
 k) (ey 123 #[t,key] k λb n19 c=>ak (n19 !=0) (Q n19 c) (an (c.alloc z4) λn=>bD n (Y c) [true,(),(),()]/\(4:Nat)=4/\an (setCells n (Y c) 0 [true,(),(),()]) λe=>b1 (λo:J->Prop=>ak (decide ((b.len:Int)>0)) (∃g:ag,b.a=some g/\((0:Int)<=
 (aq ((b.len:Int)-1))/\(aq ((b.len:Int)-1))<(b.len:Int))/\aT e ((g.add ((aq ((b.len:Int)-1)).toNat*6)).add 1) λy=>r1 e (((g.add ((aq ((b.len:Int)-1)).toNat*6)).add 1).add 1) λz=>r1 e
 (((g.add ((aq ((b.len:Int)-1)).toNat*6)).add 1).add 2) λA=>r1 e (((g.add ((aq ((b.len:Int)-1)).toNat*6)).add 1).add 3) λB=>ov e c y z A B o) (o e)) (λh=>aT h (Y c) λ
 C=>r1 h ((Y c).add 1) λD=>r1 h ((Y c).add 2) λE=>r1 h ((Y c).add 3) λF=>lJ 143 #[.agg #[C,D,E,F],key,val] h λp q r s G d=>an (d.alloc z4) λu=>bD u (Y d) [p,q,r,
 s]/\(4:Nat)=4/\an (setCells u (Y d) 0 [p,q,r,s]) λf=>ak (!G) (Q (4:Int) f) (aT f (Y d)
 λH=>r1 f ((Y d).add 1) λI=>r1 f ((Y d).add 2) λK=>r1 f ((Y d).add 3) λL=>bX 131 #[t,b,.agg #[H,I,K,L]] f λM N=>Q M N))))))
def ax.uN:aO:=(.q (.s (.bO (.s (.z [9,10,12,11]) (.c (.q .l) (.s (.d 11 true [0,4000,0,5005,1010004,1011004] [0,4000,0,5005,1010004,12] [12026,26] [1,4026,1,5031,1036030,38] (.z 4 0 (.z 6 5 (.bR 4 (.tail [.r,.r]))))) (.c
 (.q .l) .l))))) (.q (.s a1 (.q (.s (.e4 [] [0,1,2,7,9] (.q (.c .r .l))) c6))))))
def ae.uO(s:av ag)(w:J)(Q:aa->J->Prop):Prop:=∃a1:ag,s=some a1/\∃bf:av ag,w.cell? (a1.add 3)=some (bf)/\gB 144 #[bf] w λn5 n6 y=>
 ak (n6 !=0) (bX 65 #[s,n6] y λn9 am=>Q n9 am) (an (y.drew) λi=>∃dE:ag,s=some dE/\¬False/\∃z:av ag,i.cell? (dE.add 3)=some (z)/\∃ek
 :ag,s=some ek/\¬False/\aG i ((ek.add 7).add 2) λn14=>bX 145 #[z,n14] i λn17 ao=>an (ao.drew) λd=>∃e:Nat->Prop,∃j:ag,s=some j/\¬e (j.add
 13).block/\cm d (j.add 13) λn21=>∃k:ag,s=some k/\¬e (k.add 3).block/\∃A:av ag,d.cell? (k.add 3)=some (A)/\bG 57 #[A] d λap l=>af e d l
 /\∃B:Array aa,(∀C:J,Sem.run aj (Instr.build 137 #[(0,.int .i64 4),(1,.int .u64 (IntKind.wrap .u64 (n21+1))),(2,ap)]) C=.ok (.agg B) C)/\ey 56 #[n5,.agg B] l λaq n32 f=>af e l f/\ak (n32 !=0) (bX 65 #[s,n32] f λn35 ar=>Q n35 ar) (∃D:ag,s=some D/\∃E:av ag,f.cell? (D.add
 2)=some (E)/\bX 146 #[E,n5,aq] f λn40 m=>ak (n40 !=0) (bX 65 #[s,n40] m λau aw=>Q au aw) (∃
 F:ag,s=some F/\∃G:av ag,m.cell? (F.add 2)=some (G)/\bX 147 #[G] m λH n=>ak (H !=0) (bX 65 #[s,H] n λax ay=>Q
 ax ay) (∃I:ag,s=some I/\∃K:av ag,n.cell? I=some (K)/\gB 128 #[K] n λaz aA aB=>an (aB.drew) λa=>∃g:Nat->Prop,∃o:ag,s=some
 o/\¬g (o.add 14).block/\cm a (o.add 14) λaC=>∃p:ag,s=some p/\¬g ((p.add 7).add 4).block/\cm a ((p.add 7).add 4) λaD=>∃q:ag,s=some q/\¬g (q.add 17).block/\aG a (q.add 17)
 λaE=>∃h:Array aa,(∀L:J,Sem.run aj (Instr.build 90 #[(0,az),(1,aA),(2,n5),(3,.int .u64 aC),(4,.int .u64 (IntKind.wrap .u64 (aD+1))),(5,aE)])
 L=.ok (.agg h) L)/\an (a.alloc iQ) λr=>af g a r/\bD r (Y a) (Array.toList h)/\Array.size h=6/\an (setCells r (Y a) 0 (Array.toList h)) λaF=>an (aF.drew) λb=>∃M:ag,s=
 some M/\¬False/\∃N:av ag,b.cell? (M.add 1)=some (N)/\¬False/\aG b (Y a) λaH=>aG b ((Y a).add 1) λaI=>aG b ((Y a).add 2) λaJ=>cm b ((Y a).add 3) λ
 aK=>cm b ((Y a).add 4) λaL=>aG b ((Y a).add 5) λaM=>∃O:ag,s=some O/\¬False/\cm b (O.add 13) λaN=>bX 60 #[N,.agg #[aH,aI,aJ,.int .u64 aK,.int .u64 aL,aM],.int .u64 (IntKind.wrap .u64 (aN+1))] b λP t=>ak (P !=0) (bX 65 #[s,P] t λaO aP=>Q aO aP) (∃R:ag,s=
 some R/\∃S:av ag,t.cell? (R.add 3)=some (S)/\gQ 112 #[S] t λaQ=>an (aQ.drew) λc=>∃T:Nat->Prop,¬T ((Y a):ag).block/\aG c (Y a) λU=>aG
 c ((Y a).add 1) λV=>aG c ((Y a).add 2) λW=>cm c ((Y a).add 3) λX=>cm c ((Y a).add 4) λZ=>aG c ((Y a).add 5) λab=>∃u:ag,s=some u/\¬T (u.add
 13).block/\cm c (u.add 13) λaR=>∃v:ag,s=some v/\bD c (v.add 7) [U,V,W,.int .u64 X,.int .u64 Z,ab]/\(6:Nat)=6/\an (setCells c (v.add 7) 0
 [U,V,W,.int .u64 X,.int .u64 Z,ab]) λaS=>∃ac:ag,s=some ac/\st aS (ac.add 13) (.int .u64 (IntKind.wrap .u64 (aR+1))) λaT=>∃ad:ag,s=some ad
 /\st aT (ad.add 16) (0:Int) λaU=>an (aU.drew) λx=>∃ah:ag,s=some ah/\¬False/\∃ai:av ag,x.cell? ah=some (ai)/\∃al:ag,s=some al/\¬False/\cm x (al.add
 13) λaV=>gQ 148 #[ai,.int .u64 (IntKind.wrap .u64 (aV+1))] x λaW=>Q (0:Int) aW)))))
def ax.uO:aO:=(.q (.q (.s a1 (.s (.e 9 false [0,3000,0,4004,1008003] [10025] [1,3025,1,4029,1033028] (.z 9 0 .e)) (.s (.d 17 true [0,0,4001,0,4006,1010005,1011010000,2012,14,515,517]
 [0,0,4001,0,4006,1010005,1011000,2012,3013] [13036,36,2049,6,5] [4,1,4037,1,4042,1046041,1047036,49,36,36,2049] (.z 10 0 (.bR 10 (.t 11 (.bR 12 (.z 4 13 .e)))))) (.s a1 (.s (.q a1) (.s (.q a1) (.q (.s (.d 19 true
 [0,0,0,0,3003,0,5007,0,3013,1000000069703,0,519] [0,0,0,0,3003,0,5007,0,3013,1000000069703,0,1018017] [18086,11,0] [2008,4,1,3089,1,5093,1,3099,5393008409894303832330853486592,0,1103010] (.z 18 0 (.bR 18 .e))) (.s (.s (.d 10 false
 [0,3000,0,0,4005,1009004003,511] [0,3000,0,0,4005,1009004003,11] [11104,12] [1,3104,11,1,4109,1113108107,115] (.z 10 0 (.tail [.r,.r]))) a1) (.q (.s (.d 15 true
 [0,0,0,0,0,4004,1007003000,1000000000649,1000000001161,1000000004091,1000000008187,1000000012283,515,516,1000000098303] [0,0,0,0,0,4004,1,10,1010003,2,13,1013008,3,2015] [11125,0,2136,0,2138,0]
 [1,1,1,11,1,4129,126,135,1135128,127,137,1137133,128,2138] (.z 11 0 (.out 11 false (.t 12 (.t 13 (.out 14 false (.tail [.r,.r,.r]))))))) (.s (.e 9 false [0,3000,0,4004,1008003] [10140] [1,3140,1,4144,1148143] (.z 9 0 .e)) (.q
 .l)))))))))))))))
def ae.uP(d:av ag)(i:Int)(w:J)(Q:aa->J->Prop):Prop:=b8 85 #[d,i] w λf w1=>ak (!f) (Q (.tuple #[(),(1:Int)]) w1) (∃a4:ag,d=
 some a4/\b8 117 #[.pointer (some a4),(1:Int)] w1 λg c=>ak g (Q (.tuple #[(),(3:Int)]) c) (p5 118 #[d,i] c λb a=>an (a.alloc z5) λe=>bD
 e (Y a) (Array.toList b)/\Array.size b=256/\an (setCells e (Y a) 0 (Array.toList b)) λh=>Q (.tuple #[.slice (aY (some (Y a)) 1 0 256) (256-0) (256-0),(0:Int)]) h))
def ax.uP:aO:=(.q (.s (.bO eV) (.q (.q .l))))
def ae.uQ(d:av ag)(i:Int)(w:J)(Q:aa->J->Prop):Prop:=b1 (λb9:al->J->Prop=>ak ((!(Option.isNone d))&&(decide (i>=0))) (∃a2:ag,d=some a2/\r1 w (a2.add 4) λa=>b9
 (decide (i<(a.len:Int))) w) (b9 false w)) (λ(b:al) c=>Q b c)
def ax.uQ:aO:=dE
def ae.oC(t:Array aa)(w:J)(Q:aa->J->Prop):Prop:=an (w.alloc (.cells t 57)) λw1=>aG w1 (Y w) λbu=>∃b:O aa,bn w1 ((Y w).add 1) 0 18=some b/\h_ 97
 #[bu,.agg b.toArray] w1 λi d a=>b1 (λc:al->J->Prop=>ak d (aG a ((Y w).add 19) λn9=>b8 165 #[n9] a λe f=>c e f) (c false a)) (λ(g:al) h=>Q
 g h)
def ax.oC:aO:=(.q (.q (.s (.z [6,10]) .l)))
theorem ae.Fh(t:Array aa)(w:J)(Q:aa->J->Prop)(h:ae.oC t w Q):aI aj 96 #[.agg t] w Q:=okF (λw Q=>ae.oC t w Q) ax.oC func96 h
def ae.lL(service:Int)(p:Array aa)(w:J)(Q:aa->J->Prop):Prop:=an (w.alloc (.cells p 55)) λw1=>∃m:O aa,bn w1 (Y w) 0 17=some m/\aG w1 ((Y w).add 17) λB=>iP
 166 #[.agg m.toArray,B] w1 λi C d=>an (d.alloc ld) λn=>bD n (Y d) (Array.toList i)/\Array.size i=18/\an (setCells n (Y d) 0 (Array.toList i)) λe=>b1 (λo:al->J->Prop
 =>ak (!C) (o true e) (∃q:O aa,bn e (Y d) 0 18=some q/\∃r:O aa,bn e (Y w) 0 18=some r/\∃s:al,kA aj 55 q.toArray r.toArray s/\o (!s) e)) (λ(D
 :al) t=>b1 (λu:al->J->Prop=>ak D (u true t) (b8 165 #[service] t λE F=>u (!E) F)) (λ(G:al) f=>ak G (Q (.tuple #[(),false]) f) (b1 (λv
 :Int->J->Prop=>aT f (Y w) λH=>ak H (v 6 f) (v 4 f)) (λ(n24:Int) I=>an (I.drew) λb=>∃a:Nat->Prop,¬a ((Y w).add 17).block/\aG b ((Y w).add 17) λn28=>¬a ((Y w):
 ag).block/\∃g:O aa,bn b (Y w) 0 17=some g/\(bG 115 #[(),.int .u64 (IntKind.wrap .u64 service),(2:Int)] b λx c=>af a b c/\(an (c.alloc (.cells #[.int .u8 n24,.int
 .u8 (IntKind.wrap .u8 n28)] 5)) λj=>af a c j/\bG 167 #[.agg g.toArray] j λK y=>af a j y/\ud y x c K Q)/\(bG 167 #[.agg g.toArray] c λL h=>af a c h
 /\an (h.alloc (.cells #[.int .u8 n24,.int .u8 (IntKind.wrap .u8 n28)] 5)) λz=>af a h z/\ud z x h L Q))/\(an (b.alloc (.cells #[.int .u8 n24,.int .u8 (IntKind.wrap .u8 n28)] 5)) λk=>af a
 b k/\bG 115 #[(),.int .u64 (IntKind.wrap .u64 service),(2:Int)] k λM l=>af a k l/\bG 167 #[.agg g.toArray] l λN A=>af a l A/\ud A M b N Q)))))
def ax.lL:aO:=(.q (.q (.s (.s (.z [9,10,12,10]) (.c (.q .l) .l)) (.q (.s (.e4 [(8,(.int .u8))] [0,3] (.q (.c .r .l))) (.s (.d 11 true [0,1,2,0,0,2004,1006003,0,9,1009002,1010007002,1011010,513,514]
 [0,1,2,0,0,2004,1006003,0,2008,1010007002,2011,0] [13032,2004] [1,2032,9,4,2036,1038035,4,2040,1042039034,2043,0] (.t 0 (.t 1 (.z 4 3 (.t 8 (.t 9 (.two 2 (.two 7 (.bR 10 (.tail [.r,.r,.r,.r])) 10 (.bR 7 (.tail [.r,.r,.r,.r]))) 7
 (.bR 2 (.bR 10 (.tail [.r,.r,.r,.r])))))))))) .l))))))
theorem ae.Fi(service:Int)(p:Array aa)(w:J)(Q:aa->J->Prop)(h:ae.lL service p w Q):aI aj 97 #[service,.agg p] w Q:=okF (λw Q=>ae.lL service p w Q) ax.lL func97 h
def ae.qj(backend:Int)(a:Int)(w:J)(Q:aa->J->Prop):Prop:=b8 165 #[backend] w λb w1=>ak (!b) (Q (.tuple #[(),false]) w1) (bG 115 #[(),
 .int .u64 (IntKind.wrap .u64 backend),(2:Int)] w1 λc d=>bG 115 #[c,.int .u64 a,(8:Int)] d λe f=>Q (.tuple #[e,true]) f)
def ax.qj:aO:=c6
def ae.uR(s:av ag)(a:ad)(to:ad)(most:Int)(w:J)(Q:aa->J->Prop):Prop:=ak (Option.isNone s) (Q (.tuple #[(),(1:Int)]) w) (∃a1:ag,s=some a1/\∃bf:av
 ag,w.cell? a1=some (bf)/\ey 169 #[bf,a,to,most] w λb n6 c=>Q (.tuple #[b,n6]) c)
def ax.uR:aO:=c6
def ae.nh(parts:ad)(w:J)(Q:aa->J->Prop):Prop:=∃ (d:ad->Int->J->Prop) (g:ad->Int->J->Nat),d ⟨none,0,0⟩ 0 w/\∀ (c:ad) (bT:Int) (b:J),d c bT b->ak (decide (bT<
 (parts.len:Int))) (∃dK:ag,parts.a=some dK/\aP bT parts.len/\r1 b (dK.add (bT.toNat*1)) λh=>∃e:ad,∃f:J,Sem.run aj (Builtin.append_ #[39,39] 39 #[c,h]) b=.ok e f/\d e (aq (bT+1)) f/\g e (aq (bT+1)) f<g c bT b) (Q c b)
def ax.nh:aO:=(.q (.q (.s (.q (.bO (.loop [(3,.slice),(8,(.int .i64))] [6,7] a2))) (.q .l))))
theorem ae.Fj(parts:ad)(w:J)(Q:aa->J->Prop)(h:ae.nh parts w Q):aI aj 103 #[parts] w Q:=okF (λw Q=>ae.nh parts w Q) ax.nh func103 h
def ae.uS(a:av ag)(l:ad)(choose:iu)(w:J)(Q:aa->J->Prop):Prop:=∃ (e:Int->Int->J->Prop) (m:Int->Int->J->Nat),e 0 0 w/\∀ (c:Int) (bT:Int) (b:J),e c bT
 b->ak (decide (bT<(l.len:Int))) (b1 (λn:Int->J->Prop=>∃da:ag,l.a=some da/\aP bT l.len/\r1 b (da.add (bT.toNat*2)) λo=>r1 b ((da.add (bT.toNat*2)).add 1) λp=>an (b.alloc (.cells #[(),()] 198)) λq=>bD q (Y b) [o,p]/\(2:Nat)=2/\an (setCells q (Y b) 0 [o,p]) λg=>
 r1 g (Y b) λA=>r1 g ((Y b).add 1) λB=>iP 51 #[A,B] g λh C d=>an (d.alloc gR) λr=>bD r (Y d) (Array.toList h)/\
 Array.size h=21/\an (setCells r (Y d) 0 (Array.toList h)) λi=>ak (!C) (Q (.tuple #[(0:Int),(4:Int)]) i) (∃s:O aa,bn i (Y d) 0 21=some s/\h6 aj choose.f/\Calls
 aj choose.f (choose.pre++ #[.agg s.toArray]++choose.cap) i λD t=>∃u:al,D=.returned u/\ak (!u) (n c t) (an (t.drew) λj=>∃v:Nat->Prop,∃k:ag,a=some k/\¬v
 k.block/\∃x:av ag,j.cell? k=some (x)/\¬v ((Y b):ag).block/\r1 j (Y b) λE=>nc 23 #[x,E] j λF n32 y=>ak (n32 !=0) (Q
 (.tuple #[(0:Int),n32]) y) (n (aq (c+1)) y)))) (λ(n33:Int) z=>e n33 (aq (bT+1)) z/\m n33 (aq (bT+1)) z<m c bT b)) (Q (.tuple #[c,(0:Int)]) b)
def ax.uS:aO:=(.q (.q (.s (.q (.bO (.loop [(8,(.int .i64)),(17,(.int .i64))] [0,2,15,16] (.q (.s (.c .l .l) (.s (.e4 [(8,(.int .i64))] [0,2,15,16,17] (.bO (.q (.q (.s a1 (.s (.q (.c .l .l)) (.s (.s (.d 11
 true [0,3000,0,5,1005003,2006,8,509,511] [0,3000,0,5,1005003,2006,3007] [7036,36,2043,2013] [1,3036,11,41,1041039,43,36,36,2043] (.z 6 0 (.out 6 false (.z 4 7 .e)))) a1) .r))))))) .r)))))) (.q .l))))
def ae.r9(t:Array aa)(x:ag)(w:J)(Q:aa->J->Prop):Prop:=an (w.alloc (.cells t 57)) λw1=>cm w1 ((Y w).add 20) λbu=>cm w1 x λa=>Q (.bool (decide (bu<=a))) w1
def ax.r9:aO:=(.q (.q .l))
theorem ae.Fk(t:Array aa)(x:ag)(w:J)(Q:aa->J->Prop)(h:ae.r9 t x w Q):aI aj 105 #[.agg t,.pointer (some x)] w Q:=okF (λw Q=>ae.r9 t x w Q) ax.r9 func105 h
def ae.kg(b:ad)(i:Int)(size:Int)(w:J)(Q:aa->J->Prop):Prop:=h_ 170 #[b,i,size] w λd j w1=>b1 (λf:al->J->Prop=>ak (!j) (f
 true w1) (b8 171 #[size] w1 λk l=>f (!k) l)) (λ(m:al) g=>ak m (Q (.tuple #[.int .u64 0,false]) g) (∃ (e:Int->Int->J->Prop) (h:Int->Int->J->Nat),e 0 0 g/\∀ (n13:
 Int) (n14:Int) (c:J),e n13 n14 c->ak (decide (n14<(d.len:Int))) (∃fq:ag,d.a=some fq/\aP n14 d.len/\du c (fq.add (n14.toNat*1)) λn17=>(0:Int)<=8/\e (m3 .u64 (IntKind.wrap .u64 (n13*2^
 (min (Int.toNat 8) 64))) (IntKind.wrap .u64 n17)) (aq (n14+1)) c/\h (m3 .u64 (IntKind.wrap .u64 (n13*2^(min (Int.toNat 8) 64))) (IntKind.wrap .u64 n17)) (aq (n14+1)) c<h n13 n14 c) (Q (.tuple #[.int .u64 n13,true]) c)))
def ax.kg:aO:=(.q (.q (.s da (.q (.s (.q (.bO (.loop [(10,(.int .u64)),(29,(.int .i64))] [27,28] a2))) (.q .l))))))
def ae.qk(b:ad)(w:J)(Q:aa->J->Prop):Prop:=an (w.alloc z3) λw1=>iP 172 #[b] w1 λfH d ai=>bD ai (Y w) (Array.toList fH)/\Array.size fH=17/\an (setCells ai (Y w) 0
 (Array.toList fH)) λa=>∃c:O aa,bn a (Y w) 0 17=some c/\Q (.tuple #[.agg c.toArray,d]) a
def ax.qk:aO:=(.q (.q .l))
def ae.uT(n:Int)(w:J)(Q:aa->J->Prop):Prop:=Q (.bool ((decide (n>=1))&&(decide (n<=1600)))) w
def ax.uT:aO:=a4
def ae.uU(n:Int)(w:J)(Q:aa->J->Prop):Prop:=(8:Int)≠0/\Q (.int .i64 (aq (Int.tdiv (aq ((aq (n+8))-1)) 8))) w
def ax.uU:aO:=(.q (.q .l))
def ae.uV(s:ad)(no:Int)(w:J)(Q:aa->J->Prop):Prop:=an (w.drew) λw1=>(8:Int)≠0/\∃a2:ag,s.a=some a2/\aP (aq (Int.tdiv no 8)) s.len/\¬False/\du w1 (a2.add ((aq (Int.tdiv no
 8)).toNat*1)) λb=>(8:Int)≠0/\(0:Int)<=(Int.tmod no 8)/\∃a4:ag,s.a=some a4/\aP (aq (Int.tdiv no 8)) s.len/\st w1 (a4.add ((aq (Int.tdiv no 8)).toNat*1)) (.int .u8 (m3 .u8 b (IntKind.wrap .u8 (1*2^(min
 ((Int.tmod no 8).toNat) 8))))) λc=>Q (.tuple #[]) c
def ax.uV:aO:=(.d 8 false [0,0,2,1002000,4,0,2005,1007004,509,510] [0,0,2,1002000,4,0,2005,1007004,1002000,1009008] [10004,0] [1,2,6,1006004,8,2,2009,1011008,1006004,1013012] (.z 8 0 (.tail [.r,.r,.r])))
def ae.r_(s:av ag)(w:J)(Q:aa->J->Prop):Prop:=ak (!(Option.isNone s)) (∃a1:ag,s=some a1/\r1 w (a1.add 1) λs2=>bG 173 #[s2] w λ
 a b=>∃dK:ag,s=some dK/\st b (dK.add 2) a λc=>Q (.tuple #[]) c) (Q (.tuple #[]) w)
def ax.r_:aO:=(.q (.c .r .l))
theorem ae.Fl(s:av ag)(w:J)(Q:aa->J->Prop)(h:ae.r_ s w Q):aI aj 112 #[s] w Q:=okF (λw Q=>ae.r_ s w Q) ax.r_ func112 h
def ae.uW(no:Int)(w:J)(Q:aa->J->Prop):Prop:=Q (.bool ((decide (no>=0))&&(decide (no<1600)))) w
def ax.uW:aO:=a4
theorem ae.Be(no:Int)(w:J)(Q:aa->J->Prop)(h:ae.uW no w Q):aI aj 113 #[no] w Q:=okF (λw Q=>ae.uW no w Q) ax.uW func113 h
def ae.uX(a:Int)(w:J)(Q:aa->J->Prop):Prop:=Q (.bool ((decide (a>=1))&&(decide (a<=4)))) w
def ax.uX:aO:=a4
theorem ae.Bf(a:Int)(w:J)(Q:aa->J->Prop)(h:ae.uX a w Q):aI aj 114 #[a] w Q:=okF (λw Q=>ae.uX a w Q) ax.uX func114 h
def ae.gS(b:ad)(n:Int)(size:Int)(w:J)(Q:aa->J->Prop):Prop:=bG 46 #[b] w λg w1=>b8 171 #[size] w1 λj h=>ak (!j) (Q g h) (∃ (d:ad->Int->J->Prop) (i:ad->Int->J->Nat),d g (aq (size-1)) h/\∀ (c:ad) (n10:Int) (a:J),d c n10 a->ak (decide (n10>=0)) ((0:Int)<=(aq (8*n10))/\an (a.alloc
 (.cells #[.int .u8 (IntKind.wrap .u8 (Int.fdiv n (2^(min ((aq (8*n10)).toNat) 64))))] 5)) λk=>∃e:ad,∃f:J,Sem.run aj (Builtin.append_ #[39,39] 39 #[c,.slice (some (Y a)) 1 1]) k=.ok e f/\d e (aq (n10-1)) f/\i e (aq (n10-1)) f<i c n10 a) (Q c a))
def ax.gS:aO:=(.q (.q (.s a1 (.s (.q (.bO (.loop [(7,.slice),(8,(.int .i64))] [1] (.s (.q (.c .l .l)) (.s (.bO .r) .r))))) (.q .l)))))
def ae.oD(b:ad)(w:J)(Q:aa->J->Prop):Prop:=an (w.drew) λw1=>((0:Int)<=20/\20<=(b.cap:Int))/\((0:Int)<=24/\24<=(b.len:Int))/\an (w1.alloc (.cells #[.slice (aY b.a 1 0 b.cap)
 ((Int.toNat 20)-0) (b.cap-0),.slice (aY b.a 1 (Int.toNat 24) b.cap) (b.len-(Int.toNat 24)) (b.cap-(Int.toNat 24))] 39)) λai=>nf 174 #[.slice (some (Y w1)) 2 2] ai λn5 c=>Q (.int .u32 n5) c
def ax.oD:aO:=(.q (.s (.d 4 false [0,1,0,3,1003001,5,506] [0,1,0,3,1003001,2004] [6003,3] [1,4,1,6,1006004,2007] (.z 4 0 (.tail [.r,.r,.r]))) .l))
def ae.uY(f:av ag)(a:Int)(w:J)(Q:aa->J->Prop):Prop:=∃a1:ag,f=some a1/\((0:Int)<=a/\a<((4:Nat):Int))/\aG w (Addr.add a1 (a.toNat*1)) λbu=>ak (bu==
 (-1)) (Q false w) (ak (bu==0) (∃a3:ag,f=some a3/\((0:Int)<=a/\a<((4:Nat):Int))/\st w (Addr.add a3 (a.toNat*1)) (.int .i64 (-1)) λc=>Q true c) (an (w.drew) λb=>∃dK:ag,f
 =some dK/\((0:Int)<=a/\a<((4:Nat):Int))/\¬False/\aG b (Addr.add dK (a.toNat*1)) λn7=>∃ez:ag,f=some ez/\((0:Int)<=a/\a<((4:Nat):Int))/\st b (Addr.add ez (a.toNat*1))
 (.int .i64 (aq (n7-1))) λd=>Q false d))
def ax.uY:aO:=(.q (.s (.q (.bO (.q (.c (.q .l) (.q e7))))) (.s (.d 7 false [0,0,1,1002001,2003,1,507,1000000000191] [0,0,1,1002001,2003,1,1006001,1007005] [8018,0] [1,2,19,1020019,2021,19,1024019,1025023] (.z 7 0 (.tail
 [.r,.r]))) (.q .l))))
def ae.uZ(d:av ag)(i:Int)(w:J)(Q:aa->J->Prop):Prop:=an (w.alloc z5) λw1=>∃a2:ag,d=some a2/\∃e:av Nat,w1.cell? (a2.add 5)=some (.map e)/\∃b:ad,∃c:J,
 Sem.run aj (Instr.lookup 125 (.map e) i false) w1=.ok b c/\ak (decide ((b.len:Int)>0)) (∃dK:ag,b.a=some dK/\((0:Int)<=(aq ((b.len:Int)-1))/\(aq
 ((b.len:Int)-1))<(b.len:Int))/\∃f:O aa,bn c (dK.add ((aq ((b.len:Int)-1)).toNat*256)) 0 256=some f/\xT c w f Q) (∃e7:ag,d=some e7/\r1 c (e7.add 4) λg=>ou g i c 256 λh=>
 xT c w h Q)
def ax.uZ:aO:=(.q (.s (.q a1) (.q .l)))
def ae.ql(f:Int)(g:Int)(h:Int)(i:Int)(j:Int)(k:Int)(l:Int)(w:J)(Q:aa->J->Prop):Prop:=an (w.alloc (.cells #[f,g,h,.int .u64 i,.int .u64 j,k] 90)) λw1=>aG w1 (Y w) λbu=>bG 115 #[(),.int .u64 (IntKind.wrap .u64 bu),(4:Int)] w1 λm a=>aG a ((Y w).add 1)
 λn6=>bG 115 #[m,.int .u64 (IntKind.wrap .u64 n6),(1:Int)] a λn b=>aG b ((Y w).add 2) λn10=>bG 115 #[n,.int .u64 (IntKind.wrap .u64 n10),(4:Int)] b λo p=>bG 115 #[o,.int .u64 (IntKind.wrap .u64 l),(4:Int)] p λq c=>cm c ((Y w).add 3) λn17=>bG 115 #[q,.int .u64 n17,
 .int .i64 8] c λr d=>cm d ((Y w).add 4) λn21=>bG 115 #[r,.int .u64 n21,(8:Int)] d λs e=>aG e ((Y w).add 5) λn25=>bG 115 #[s,.int .u64 (IntKind.wrap .u64 n25),(4:Int)] e λt u=>Q t u
def ax.ql:aO:=(.q (.q (.q (.q (.q a3)))))
def ae.qm(d:av ag)(ao:Int)(w:J)(Q:aa->J->Prop):Prop:=ak (((Option.isNone d)||(decide (ao<8)))||(decide (ao>64))) (Q (.tuple #[.pointer none,(1:Int)]) w) (((0:Int)<=ao
 /\ao<=ao/\ao<=kH/\((48:Nat):Int)*ao<=140737488355328)/\an (w.alloc (.cells (gZ aj 275 (ao.toNat)) 275)) λw1=>an (w1.alloc (.cells #[d,.slice (some (Y w))
 (ao.toNat) (ao.toNat),(0:Int)] 268)) λai=>Q (.tuple #[.pointer (some (Y w1)),(0:Int)]) ai)
def ax.qm:aO:=a5
def ae.qn(c:av ag)(s:av ag)(gen:Int)(root:Int)(aL:Int)(w:J)(Q:aa->J->Prop):Prop:=b1 (λb9:al->J->Prop=>ak (((((Option.isNone c)||(Option.isNone s))||(decide
 (aL<0)))||(decide (aL>12)))||(decide (root<0))) (b9 true w) (∃a2:ag,c=some a2/\∃b:av ag,w.cell? a2=some (b)/\bX 55 #[b] w λn6 d=>b9 (decide (root>=n6)) d))
 (λ(e:al) a=>ak (e||(!((root==0)==(aL==0)))) (Q (.tuple #[.pointer none,(1:Int)]) a) (an (a.alloc (.cells #[c,s,.int .u64 gen,root,aL] 243)) λf=>Q
 (.tuple #[.pointer (some (Y a)),(0:Int)]) f))
def ax.qn:aO:=(.q (.s (.s (.z [9,8,9,8,9,8,9,8,9,22,24,17]) (.c (.q .l) .l)) (.q .l)))
def ae.ni(a:ad)(w:J)(Q:aa->J->Prop):Prop:=Q (.bool ((decide ((a.len:Int)>=1))&&(decide ((a.len:Int)<=24)))) w
def ax.ni:aO:=ez
set_option maxRecDepth 100000
def ae.u0(t:av ag)(key:ad)(w:J)(Q:aa->J->Prop):Prop:=∃a1:ag,t=some a1/\aG w (a1.add 3) λbu=>∃a3:ag,t=some a3/\aG w (a3.add 4) λbT=>∃ (i:ad->Int->Int->J->
 Prop) (l:ad->Int->Int->J->Nat),i ⟨none,0,0⟩ bu bT w/\∀ (e:ad) (n8:Int) (n9:Int) (f:J),i e n8 n9 f->ak (decide (n9>0)) (k_ 175 #[t,n8,.bool (n9==1)] f λm n
 o p n17 c=>an (c.alloc z4) λq=>bD q (Y c) [m,n,o,p]/\(4:Nat)=4/\an (setCells q (Y c) 0 [m,n,o,p]) λb=>ak (n17 !=0) (Q (.tuple #[(),n17]) b) (aT b (Y c) λB=>r1 b ((Y c).add 1) λC=>r1 b
 ((Y c).add 2) λD=>r1 b ((Y c).add 3) λE=>∃g:Array aa,Sem.run aj (Instr.build 223 #[(0,n8),(1,.agg #[B,C,D,
 E])]) b=.ok (.agg g) b/\an (b.alloc (.cells #[(0:Int),false,(),(),(),(0:Int)] 223)) λr=>bD r (Y b) (Array.toList g)
 /\Array.size g=6/\an (setCells r (Y b) 0 (Array.toList g)) λd=>b1 (λs:Int->J->Prop=>ak (decide (n9>1)) (aT d (Y c) λF=>r1 d ((Y c).add 1) λG=>r1 d ((Y c).add 2) λ
 H=>r1 d ((Y c).add 3) λI=>bX 176 #[.agg #[F,G,H,I],key] d λn34 K=>st K (Addr.add
 (Y b) 5) n34 λh=>r1 h ((Y c).add 3) λu=>aG h ((Y b).add 5) λn37=>∃v:ag,u.a=some v/\aP n37 u.len/\aG h (v.add (n37.toNat*1)) λn39=>s n39 h) (s n8
 d)) (λ(n40:Int) x=>∃y:O aa,bn x (Y b) 0 6=some y/\∃z:ad,∃A:J,Sem.run aj (Instr.buildSlice 219 1 #[(0,.agg y.toArray)]) x=.ok z A
 /\∃j:ad,∃k:J,Sem.run aj (Builtin.append_ #[219,219] 219 #[e,z]) A=.ok j k/\i j n40 (aq
 (n9-1)) k/\l j n40 (aq (n9-1)) k<l e n8 n9 f))) (Q (.tuple #[e,(0:Int)]) f)
def ax.u0:aO:=(.q (.q (.q (.s (.q (.bO (.loop [(6,.slice),(7,(.int .i64)),(8,(.int .i64))] [0,1] (.s (.q (.c .l .l)) (.s (.bO (.q (.s a1 (.q (.s (.e4 [(7,(.int .i64))] [0,1,6,8,11] (.q (.c (.q .r) .l))) .r)))))
 .r))))) (.q .l)))))
def ae.qo(a:al)(b:ad)(c:ad)(d:ad)(key:ad)(w:J)(Q:aa->J->Prop):Prop:=an (w.alloc (.cells #[a,b,c,d] 169)) λw1=>aT w1 (Y w) λb4=>r1 w1 ((Y w).add 1) λe=>r1 w1 ((Y w).add 2) λf=>r1 w1 ((Y w).add 3) λg=>kI 177 #[.agg #[b4,e,f,g],key] w1 λn8 h i=>Q (.tuple #[n8,h]) i
def ax.qo:aO:=(.q (.q .l))
def ae.u3(c:av ag)(w:J)(Q:aa->J->Prop):Prop:=bG 178 #[c,.func (.func 179) #[] #[]] w λa w1=>Q a w1
def ax.u3:aO:=(.q (.q .l))
def ae.u4(c:av ag)(no:Int)(w:J)(Q:aa->J->Prop):Prop:=ke 180 #[c,no] w λa w1=>b1 (λd:al->J->Prop=>ak (Option.isNone a) (d true w1) (∃
 a5:ag,a=some a5/\aG w1 (a5.add 4) λn6=>d (decide (n6>0)) w1)) (λ(e:al) b=>ak e (Q false b) (∃a9:ag,a=some a9/\bD b a9 [false,false,false,(0:Int),(0:Int),
 ()]/\(6:Nat)=6/\an (setCells b a9 0 [false,false,false,(0:Int),(0:Int),()]) λf=>Q true f))
def ax.u4:aO:=(.q (.q (.s (.s (.z [9,16]) (.c (.q .l) .l)) (.q (.q .l)))))
def ae.u5(t:av ag)(w:J)(Q:aa->J->Prop):Prop:=ak (Option.isNone t) (Q (.tuple #[(0:Int),(0:Int)]) w) (an (w.drew) λw1=>∃a2:ag,t=some a2/\¬False/\aG w1 (a2.add 3) λa=>∃
 a4:ag,t=some a4/\¬False/\aG w1 (a4.add 4) λn5=>Q (.tuple #[a,n5]) w1)
def ax.u5:aO:=(.q (.s a1 (.s (.d 9 false [0,3000,0,3004,504,509] [0,3000,0,3004,4,8] [8006,2002] [1,3006,1,3010,10,14] (.z 9 0 .e)) .l)))
def ae.sd(s:av ag)(w:J)(Q:aa->J->Prop):Prop:=ak (Option.isNone s) (Q (0:Int) w) (∃a1:ag,s=some a1/\aG w a1 λbu=>∃a3:ag,s=some a3/\r1 w (a3.add 1) λj=>∃ (e:
 Int->Int->J->Prop) (g:Int->Int->J->Nat),e bu 0 w/\∀ (n7:Int) (n8:Int) (d:J),e n7 n8 d->ak (decide (n8<(j.len:Int))) (an (d.drew) λb=>∃c:Nat->Prop,∃eU:ag,s=some eU/\¬c
 (eU.add 1).block/\r1 b (eU.add 1) λh=>∃c6:ag,h.a=some c6/\aP n8 h.len/\¬c (c6.add (n8.toNat*1)).block/\du b (c6.add (n8.toNat*1)) λn15=>∃fq:ag,s=some fq/\¬c (fq.add
 2).block/\r1 b (fq.add 2) λi=>∃gK:ag,i.a=some gK/\aP n8 i.len/\¬c (gK.add (n8.toNat*1)).block/\du b (gK.add (n8.toNat*1)) λn19=>bX 181 #[.int .u8 (m3 .u8 n15 n19)] b
 λn22 f=>af c b f/\e (aq (n7-n22)) (aq (n8+1)) f/\g (aq (n7-n22)) (aq (n8+1)) f<g n7 n8 d) (Q n7 d))
def ax.sd:aO:=(.q (.s a1 (.q (.s (.q (.bO (.loop [(3,(.int .i64)),(16,(.int .i64))] [0,15] (.q (.s (.c .l .l) (.s (.bO (.q (.d 17 true [0,0,3001,0,1005004,7,0,3008,0,1012011,14,1014007,16,1016000,518]
 [0,0,3001,0,1005004,7,0,3008,0,1012011,14,1014007,16,1016000,1017000] [18019,4] [4,1,3020,5,1024023,26,1,3027,5,1031030,33,1033026,35,1035019,37] (.z 16 0 (.bR 16 (.tail [.r,.r])))))) .r)))))) (.q .l)))))
theorem ae.Fm(s:av ag)(w:J)(Q:aa->J->Prop)(h:ae.sd s w Q):aI aj 129 #[s] w Q:=okF (λw Q=>ae.sd s w Q) ax.sd func129 h
def ae.qp(k:al)(l:ad)(m:ad)(n:ad)(key:ad)(w:J)(Q:aa->J->Prop):Prop:=an (w.alloc (.cells #[k,l,m,n] 169)) λw1=>an (w1.alloc z4) λai=>aT ai (Y w) λo=>r1 ai ((Y w).add 1) λp=>r1 ai ((Y w).add 2) λq=>r1 ai ((Y w).add 3) λr=>kI
 177 #[.agg #[o,p,q,r],key] ai λn9 s c=>aT c (Y w) λt=>b1 (λu:al->J->Prop=>qb t u c
 w) (λ(v:al) b=>ak (v||(!s)) (bD b (Y w1) [false,(),(),()]/\(4:Nat)=4/\an (setCells b (Y w1) 0 [false,(),(),()]) λx=>iy x w1 Q) (aT b (Y w) λy=>r1 b ((Y w).add 1) λz=>r1 b ((Y w).add 2) λA=>r1 b ((Y w).add 3) λB=>gb 183 #[.agg #[y,z,A,B]] b λd e f g a=>an (a.alloc z4) λh=>bD h (Y a) [d,e,f,g]/\
 (4:Nat)=4/\an (setCells h (Y a) 0 [d,e,f,g]) λi=>r1 i ((Y a).add 1) λC=>bG 184
 #[C,n9,.int .i64 (aq (n9+1))] i λD E=>st E ((Y a).add 1) D λj=>r1 j ((Y a).add 2) λF=>bG 184
 #[F,n9,.int .i64 (aq (n9+1))] j λG H=>st H ((Y a).add 2) G λI=>cX I a w1 Q))
def ax.qp:aO:=(.q (.q (.s (.s (.z [12,10,12,8]) (.c (.q .l) .l)) (.q a3))))
def ae.se(t:av ag)(ib:ad)(r:al)(s:ad)(u:ad)(v:ad)(w:J)(Q:aa->J->Prop):Prop:=an (w.alloc (.cells #[r,s,u,v] 169)) λw1=>an (w1.alloc (.cells #[(0:Int)] 32)) λai=>an (ai.drew) λc=>∃g:Nat->Prop,∃
 a5:ag,t=some a5/\¬g (a5.add 1).block/\∃h:av ag,c.cell? (a5.add 1)=some (h)/\∃da:ag,t=some da/\¬g (da.add 4).block/\aG c (da.add 4) λn8=>bX 129 #[h] c λn11
 d=>af g c d/\ak (decide (n11<(aq ((aq (2*n8))+3)))) (st d (Y w1) (2:Int) λi=>aG i (Y w1) λn13=>Q n13 i) (an (d.alloc (.cells #[t,(),()]
 284)) λa=>an (a.alloc (.cells #[.pointer none] 282)) λx=>st x (Y a) (.pointer (some (Y d))) λb=>∃j:av ag,b.cell? (Y a)=some (j)/\aT b (Y w) λy=>
 r1 b ((Y w).add 1) λz=>r1 b ((Y w).add 2) λA=>r1 b ((Y w).add 3) λB=>p6 187 #[j,ib,.agg #[y,z,A,B]] b λn24 n25 n26 C=>st C (Y w1) n26 λe=>aG e (Y w1) λn28=>ak (n28 !=0) (aG e (Y w1) λn29=>st e (Y w1) n29 λD=>p3
 aj 185 #[.pointer (some (Y w1)),.pointer (some (Y a))] D λk=>aG k (Y w1) λn32=>Q n32 k) (an (e.drew) λf=>¬False/\∃l:av ag,f.cell? (Y a)=some (.pointer
 l)/\¬False/\∃m:av ag,f.cell? (Y a)=some (m)/\∃n:ag,m=some n/\¬False/\r1 f (n.add 2) λE=>gQ 186 #[l,E] f λF=>∃
 o:ag,t=some o/\st F (o.add 3) n24 λG=>∃p:ag,t=some p/\st G (p.add 4) n25 λH=>st H (Y w1) (0:Int) λI=>p3 aj 185 #[.pointer (some
 (Y w1)),.pointer (some (Y a))] I λq=>aG q (Y w1) λK=>Q K q))
def ax.se:aO:=(.q (.s (.s (.e 11 true [0,4000,0,5005,1010004] [12010] [1,4010,1,5015,1020014] (.z 4 0 (.z 6 5 (.bR 4 .e)))) (.c (.q .l) .l)) (.q (.s .l (.q (.s a1 (.s (.e 5 false [0,0,3001,1004000] [6037] [8,8,3038,1041037]
 (.z 5 0 .e)) (.q (.q .l)))))))))
theorem ae.Fo(t:av ag)(ib:ad)(a:al)(b:ad)(c:ad)(d:ad)(w:J)(Q:aa->J->Prop):ae.se t ib a b c d w Q=xu aj tk ax.se Tryz.f131 [t,ib,.agg #[a,b,c,d]] w Q:=by kernel_rfl
theorem ae.Fp(t:av ag)(ib:ad)(a:al)(b:ad)(c:ad)(d:ad)(w:J)(Q:aa->J->Prop)(h:ae.se t ib a b c d w Q):Calls aj 131 #[t,ib,.agg #[a,b,c,d]] w λe w1=>∃v,e=.returned v/\Q v w1:=
 EX xD func131 (by kernel_rfl) (Eq.mp (ae.Fo t ib a b c d w Q) h)
def ae.qq(no:Int)(b:ad)(w:J)(Q:aa->J->Prop):Prop:=an (w.alloc t_) λw1=>ak ((b.len:Int) !=256) (bD w1 (Y w) [(0:Int),.int .u64 0,()]/\(3:Nat)=3/\an (setCells w1 (Y w)
 0 [(0:Int),.int .u64 0,()]) λai=>aG ai (Y w) λz=>cm ai ((Y w).add 1) λbT=>r1 ai ((Y w).add 2) λA=>Q (.tuple #[.agg #[z,.int .u64 bT,A],(9:Int)])
 ai) (((0:Int)<=4/\4<=(b.cap:Int))/\∃n:ByteArray,∃c:J,Sem.run aj (convert 39 9 (.slice (aY b.a 1 0 b.cap) ((Int.toNat 4)-0) (b.cap-0))) w1=.ok (.string n) c/\ak
 (!(ByteArray.toList n==ByteArray.toList (ByteArray.mk #[83,84,78,67]))) (bD c (Y w) [(0:Int),.int .u64 0,()]/\(3:Nat)=3/\an (setCells c (Y w) 0 [(0:Int),.int .u64 0,()]) λB=>
 xS B w Q) (∃eU:ag,b.a=some eU/\aP 4 b.len/\du c (eU.add (Int.toNat 4*1)) λn13=>ak (n13 !=1) (bD c (Y w) [(0:Int),.int .u64 0,()]/\(3:Nat)=3/\an (setCells c (Y w) 0 [(0:Int),.int
 .u64 0,()]) λd=>aG d (Y w) λn15=>cm d ((Y w).add 1) λn16=>r1 d ((Y w).add 2) λC=>Q (.tuple #[.agg #[n15,.int .u64 n16,C],(12:Int)]) d)
 (nf 116 #[b] c λn20 D=>rY 192 #[b,(20:Int),(24:Int)] D λn23 h=>ak (((IntKind.wrap .u64 n20):Int) !=n23) (bD h (Y w) [(0:Int),.int .u64
 0,()]/\(3:Nat)=3/\an (setCells h (Y w) 0 [(0:Int),.int .u64 0,()]) λe=>aG e (Y w) λn25=>cm e ((Y w).add 1) λn26=>r1 e ((Y w).add 2) λE=>Q (.tuple #[.agg
 #[n25,.int .u64 n26,E],(5:Int)]) e) (rY 192 #[b,(6:Int),(8:Int)] h λn30 o=>∃p:ag,b.a=some p/\aP 5 b.len/\du o (p.add
 (Int.toNat 5*1)) λn32=>b8 114 #[.int .i64 (aq n32)] o λF q=>b1 (λr:al->J->Prop=>ak ((!F)||(decide (((aq n30):Int)>232))) (r true q) (((0:Int)<=(aq (24+(aq n30)))/\(aq (24+(aq
 n30)))<=(b.len:Int))/\b8 193 #[.slice (aY b.a 1 ((aq (24+(aq n30))).toNat) b.cap) (b.len-((aq (24+(aq n30))).toNat)) (b.cap-((aq (24+(aq n30))).toNat))] q λG H=>r (!G) H)) (λ(I:
 al) i=>ak I (bD i (Y w) [(0:Int),.int .u64 0,()]/\(3:Nat)=3/\an (setCells i (Y w) 0 [(0:Int),.int .u64 0,()]) λK=>xS K w Q) (b8 113 #[no] i λ
 L s=>b1 (λt:al->J->Prop=>ak (!L) (t true s) (rY 192 #[b,(8:Int),(12:Int)] s λM N=>t (M !=(IntKind.wrap .u64 no)) N)) (λ(O:al) j=>ak O
 (bD j (Y w) [(0:Int),.int .u64 0,()]/\(3:Nat)=3/\an (setCells j (Y w) 0 [(0:Int),.int .u64 0,()]) λf=>aG f (Y w) λP=>cm f ((Y w).add 1) λR=>r1 f
 ((Y w).add 2) λS=>Q (.tuple #[.agg #[P,.int .u64 R,S],(1:Int)]) f) (h_ 194 #[b,(24:Int),.int .i64 (aq n30)] j λu X T=>an
 (T.drew) λk=>∃v:Nat->Prop,∃l:ag,b.a=some l/\aP 5 b.len/\¬v (l.add (Int.toNat 5*1)).block/\du k (l.add (Int.toNat 5*1)) λx=>rY 192 #[b,(12:Int),(20:Int)] k λy m=>af v k m/\bD m (Y w) [.int .i64 (aq x),.int .u64 y,u]/\(3:Nat)=3/\an (setCells m (Y w) 0 [.int .i64 (aq x),.int .u64 y,u]) λg=>aG g (Y w) λU=>cm g ((Y w).add 1) λV=>r1 g ((Y w).add 2) λW=>Q (.tuple #[.agg #[U,.int .u64 V,W],(0:Int)]) g))))))))
def ax.qq:aO:=(.q (.s (.bO (.q (.c (.q .l) (.q (.c (.q .l) eV))))) (.q (.s (.bO (.s (.z [21,8,9,19]) (.c (.q .l) eU))) (.q (.s (.d 7 true [0,3000,0,5,0,1006005003,508,509] [0,3000,0,5,0,1006005003,8,0] [8075,0,6]
 [2,3075,2,80,8,1081080078,1082004,0] (.z 5 0 (.t 6 (.bR 5 (.tail [.r,.r,.r]))))) .l))))))
def ae.qs(B:al)(C:ad)(D:ad)(E:ad)(key:ad)(val:ad)(w:J)(Q:aa->J->Prop):Prop:=an (w.alloc (.cells #[B,C,D,E] 169)) λw1=>an (w1.alloc z4) λai=>aT ai (Y w) λF=>b1 (λG:al->J->Prop=>qb F G ai w) (λ(H:al) m=>b1 (λn:al->J
 ->Prop=>ak H (n true m) (b8 199 #[key] m λI K=>n (!I) K)) (λ(L:al) c=>ak (L||(decide ((val.len:Int)>24))) (bD c (Y w1) [false,(),
 (),()]/\(4:Nat)=4/\an (setCells c (Y w1) 0 [false,(),(),()]) λM=>iy M w1 Q) (aT c (Y w) λN=>r1 c ((Y w).add 1) λO=>r1 c
 ((Y w).add 2) λP=>r1 c ((Y w).add 3) λR=>gb 183 #[.agg #[N,O,P,R]] c λo p q r b=>an (b.alloc
 z4) λs=>bD s (Y b) [o,p,q,r]/\(4:Nat)=4/\an (setCells s (Y b) 0 [o,p,q,r]) λd=>aT d (Y w) λS=>r1 d ((Y w).add 1) λT=>r1 d ((Y w).add 2) λU=>r1 d ((Y w).add 3) λV=>kI 177 #[.agg #[S,
 T,U,V],key] d λe W t=>ak W (an (t.drew) λh=>∃u:Nat->Prop,¬u ((Y b).add 2).block/\r1 h
 ((Y b).add 2) λv=>bG 46 #[val] h λX x=>af u h x/\∃y:ag,v.a=some y/\aP e v.len/\st x (y.add (e.toNat*1)) X λZ=>cX Z b w1 Q) (an (t.drew) λi=>∃j:Nat->Prop,¬j ((Y b).add 1).block/\r1 i ((Y b).add 1) λab=>bG 46 #[key] i λ
 ac f=>af j i f/\an (f.alloc (.cells #[ac] 39)) λz=>af j f z/\bG 200 #[ab,e,.slice (some (Y f)) 1 1]
 z λah aj=>st aj ((Y b).add 1) ah λam=>an (am.drew) λk=>∃l:Nat->Prop,¬l ((Y b).add 2).block/\r1 k ((Y b).add 2) λao=>bG
 46 #[val] k λap g=>af l k g/\an (g.alloc (.cells #[ap] 39)) λA=>af l g A/\bG 200
 #[ao,e,.slice (some (Y g)) 1 1] A λaq ar=>st ar ((Y b).add 2) aq λau=>cX au b w1 Q))))
def ax.qs:aO:=(.q (.s (.s (.z [12,10,12,10,12,11]) (.c (.q .l) .l)) (.q (.q (.s (.q (.c (.s (.d 5 true [0,1,0,0,4,505,506] [0,1,0,0,4,1002001,1005004] [6039,0] [9,40,10,3,43,1041040,1044043] (.z 4 0 (.bR 4 (.tail [.r,.r])))) (.q
 .l)) .l)) (.s (.d 6 true [0,1,0,0,2003,1000000000054,507,508] [0,1,0,0,2003,1005002001,0,1007006] [8046,0] [9,47,10,2,2049,1051048047,9,1053052] (.z 4 0 (.bR 4 (.bR 5 (.tail [.r,.r,.r]))))) (.s (.d 6 true
 [0,1,0,0,2003,1000000000054,507,508] [0,1,0,0,2003,1005002001,0,1007006] [8054,0] [9,55,10,3,2057,1059056055,9,1061060] (.z 4 0 (.bR 4 (.bR 5 (.tail [.r,.r,.r]))))) (.q .l))))))))
def ae.sf(s:av ag)(w:J)(Q:aa->J->Prop):Prop:=ak (Option.isNone s) (Q (.tuple #[.int .i64 (-1),(1:Int)]) w) (∃a1:ag,s=some a1/\aG w a1 λbu=>∃ (c:Int->J->Prop) (d:
 Int->J->Nat),c 0 w/\∀ (n5:Int) (a:J),c n5 a->ak (decide (n5<bu)) (b8 201 #[s,n5] a λe b=>ak (!e) (∃e7:ag,s=some e7/\r1 b (e7.add 1) λf=>gQ
 111 #[f,n5] b λg=>Q (.tuple #[n5,(0:Int)]) g) (c (aq (n5+1)) b/\d (aq (n5+1)) b<d n5 a)) (Q (.tuple #[.int .i64 (-1),(2:Int)]) a))
def ax.sf:aO:=(.q (.s a1 (.s (.q (.bO (.loop [(11,(.int .i64))] [0,10] (.q (.s (.c .l .l) (.s (.bO (.q (.q e7))) .r)))))) (.q .l))))
theorem ae.Fq(s:av ag)(w:J)(Q:aa->J->Prop)(h:ae.sf s w Q):aI aj 144 #[s] w Q:=okF (λw Q=>ae.sf s w Q) ax.sf func144 h
def ae.sg(s:av ag)(no:Int)(w:J)(Q:aa->J->Prop):Prop:=b8 202 #[s,no] w λb w1=>ak (!b) (Q (1:Int) w1) (∃a4:ag,s=some a4/\r1 w1 (a4.add
 1) λc=>b8 198 #[c,no] w1 λd a=>ak (!d) (Q (6:Int) a) (∃a9:ag,s=some a9/\r1 a (a9.add 1) λe=>gQ 203 #[e,no] a λf=>Q (0:Int) f))
def ax.sg:aO:=(.q (.s (.bO eV) (.q (.q .l))))
theorem ae.Fs(s:av ag)(no:Int)(w:J)(Q:aa->J->Prop)(h:ae.sg s no w Q):aI aj 145 #[s,no] w Q:=okF (λw Q=>ae.sg s no w Q) ax.sg func145 h
def ae.u6(c:av ag)(no:Int)(b:ad)(w:J)(Q:aa->J->Prop):Prop:=b8 204 #[c,no] w λl w1=>ak ((!l)||((b.len:Int) !=256)) (Q (1:Int) w1) (ke
 180 #[c,no] w1 λf g=>b1 (λh:av ag->J->Prop=>ak (Option.isNone f) (ia 205 #[c] g λd n11 a=>ak (n11 !=0) (Q n11 a) (∃eU:ag,
 d=some eU/\(∃u:aa,a.cell? eU=some u)/\a.frozen? eU=false/\an (a.setCell eU true) λm=>∃c6:ag,d=some c6/\st m (c6.add 3) no λn=>h d n)) (h f g)) (λ(e:
 av ag) o=>bG 46 #[b] o λp q=>∃i:ag,e=some i/\st q (i.add 5) p λr=>∃j:ag,e=some j/\st r (j.add 1)
 true λs=>∃k:ag,e=some k/\st s (k.add 2) true λt=>Q (0:Int) t))
def ax.u6:aO:=(.q (.s (.s (.z [15,11]) (.c (.q .l) .l)) (.q (.s (.e4 [(7,.ptr)] [2] (.q (.c (.q (.s a1 (.q .r))) .l))) (.q (.q .l))))))
def ae.u7(c:av ag)(w:J)(Q:aa->J->Prop):Prop:=ak (Option.isNone c) (Q (1:Int) w) (bG 126 #[c] w λd w1=>∃ (e:Int->J->Prop) (g:Int->J->Nat),
 e 0 w1/\∀ (n6:Int) (b:J),e n6 b->ak (decide (n6<(d.len:Int))) (∃ez:ag,d.a=some ez/\aP n6 d.len/\aG b (ez.add (n6.toNat*1)) λn9=>ke 180 #[c,n9] b λh o=>an
 (o.drew) λf=>∃c6:ag,c=some c6/\¬False/\∃i:av ag,f.cell? c6=some (i)/\∃fq:ag,h=some fq/\¬False/\r1 f (fq.add 5) λp=>bX 58 #[i,n9,p] f λn20 j=>ak (n20 !=0) (Q n20 j) (∃k:ag,h=some k/\st j (k.add 1) false λl=>e (aq (n6+1)) l/\g (aq (n6+1)) l<g n6 b)) (∃m:ag,c
 =some m/\∃n:av ag,b.cell? m=some (n)/\bX 59 #[n] b λn27 q=>Q n27 q))
def ax.u7:aO:=(.q (.s a1 (.s (.q (.bO (.loop [(12,(.int .i64))] [0,10,11] (.q (.s (.c .l .l) (.s (.bO (.q (.q (.s (.s (.d 9 false [0,3000,0,0,3005,1008004003,510] [0,3000,0,0,3005,1008004003,10] [10019,7]
 [1,3019,2004,3024,1027023022,29] (.z 9 0 (.tail [.r,.r]))) a1) .r)))) .r)))))) (.q .l))))
def ae.sh(t:av ag)(gen:Int)(w:J)(Q:aa->J->Prop):Prop:=ak (!(Option.isNone t)) (∃a1:ag,t=some a1/\st w (a1.add 2) (.int .u64 gen) λai=>Q (.tuple #[]) ai) (Q (.tuple #[]) w)
def ax.sh:aO:=(.q (.c .r .l))
theorem ae.Ft(t:av ag)(gen:Int)(w:J)(Q:aa->J->Prop)(h:ae.sh t gen w Q):aI aj 148 #[t,.int .u64 gen] w Q:=okF (λw Q=>ae.sh t gen w Q) ax.sh func148 h
def ae.nj(n:Int)(w:J)(Q:aa->J->Prop):Prop:=Q (.bool ((decide (n>=0))&&(decide (n<=65535)))) w
def ax.nj:aO:=a4
def ae.oE(a:Array aa)(bits:Int)(w:J)(Q:aa->J->Prop):Prop:=an (w.alloc (.cells a 53)) λw1=>an (w1.alloc ld) λai=>∃c:O aa,bn ai (Y w) 0 17=some c/\iP 213
 #[.agg c.toArray,bits] ai λb g d=>bD d (Y w1) (Array.toList b)/\Array.size b=18/\an (setCells d (Y w1) 0 (Array.toList b)) λe=>∃f:O aa,bn e (Y w1) 0 18=some f/\Q (.tuple #[.agg
 f.toArray,g]) e
def ax.oE:aO:=(.q (.q .l))
theorem ae.Fu(a:Array aa)(bits:Int)(w:J)(Q:aa->J->Prop)(h:ae.oE a bits w Q):aI aj 166 #[.agg a,bits] w Q:=okF (λw Q=>ae.oE a bits w Q) ax.oE func166 h
def ae.lM(a:Array aa)(w:J)(Q:aa->J->Prop):Prop:=an (w.alloc (.cells a 53)) λw1=>∃b:O aa,bn w1 (Y w) 0 17=some b/\bG 214 #[.agg b.toArray] w1 λd c=>an
 (c.alloc (.cells #[d] 39)) λe=>bG 103 #[.slice (some (Y c)) 1 1] e λf g=>Q f g
def ax.lM:aO:=(.q (.q .l))
theorem ae.Fv(a:Array aa)(w:J)(Q:aa->J->Prop)(h:ae.lM a w Q):aI aj 167 #[.agg a] w Q:=okF (λw Q=>ae.lM a w Q) ax.lM func167 h
def ae.u9(t:av ag)(g:ad)(to:ad)(most:Int)(w:J)(Q:aa->J->Prop):Prop:=an (w.alloc (.cells #[g] 39)) λw1=>an (w1.alloc (.cells #[to] 39)) λai=>an (ai.alloc (.cells #[most] 3)) λb=>ak (Option.isNone t) (Q (.tuple #[(),(1:Int)]) b) (∃a4:ag,t=some a4/\aG b (a4.add 4) λn5=>b1 (λf:
 al->J->Prop=>ak (n5==0) (f true b) (aG b (Y ai) λn7=>f (decide (n7<1)) b)) (λ(h:al) c=>ak h (Q (.tuple #[(),(0:Int)]) c) (an (c.alloc (.cells #[()] 193)) λ
 i=>an (i.drew) λa=>∃d:Nat->Prop,∃ek:ag,t=some ek/\¬d (ek.add 3).block/\aG a (ek.add 3) λn14=>∃eV:ag,t=some eV/\¬d (eV.add 4).block/\aG a (eV.add 4) λn16=>¬d ((Y w):
 ag).block/\r1 a (Y w) λj=>af d a a/\nc 217 #[t,n14,n16,j,.func (.func 218) #[] #[.pointer (some (Y w1)),.pointer (some (Y
 w)),.pointer (some (Y c)),.pointer (some (Y ai))]] a λl n21 e=>ak (n21 !=0) (Q (.tuple #[(),n21]) e) (r1 e (Y c) λk=>Q (.tuple #[k,(0:Int)]) e))))
def ax.u9:aO:=(.q (.s a1 (.s (.s (.z [18,7]) (.c (.q .l) .l)) (.q (.s (.d 16 true [0,0,3001,0,3005,0,0,1000000001809,2011,13,514,516] [0,0,3001,0,3005,0,0,1000000001809,2011,3012] [12025,25,2037,2011]
 [1,1,3026,1,3030,6,1000000001248,1060699967488,37,25,25,2037] (.z 10 0 (.bR 10 (.out 11 false (.z 4 12 .e))))) (.s a1 (.q .l)))))))
def ae.lg(b:ad)(c:Int)(size:Int)(w:J)(Q:aa->J->Prop):Prop:=ak ((((decide (c<0))||(decide (size<0)))||(decide (c>(b.len:Int))))||(decide (size>(aq ((b.len:Int)-c))))) (Q (.tuple
 #[(),false]) w) (((0:Int)<=(aq (c+size))/\(aq (c+size))<=(b.cap:Int))/\((0:Int)<=c/\c<=((((aq (c+size)).toNat):Nat):Int))/\Q (.tuple #[.slice (aY b.a 1 (Int.toNat
 c) b.cap) (((aq (c+size)).toNat)-(c.toNat)) (b.cap-(c.toNat)),true]) w)
def ax.lg:aO:=(.q (.s (.s (.z [9,8,9,14,15,20]) (.c (.q .l) .l)) (.q .l)))
theorem ae.Fw(b:ad)(a:Int)(size:Int)(w:J)(Q:aa->J->Prop)(h:ae.lg b a size w Q):aI aj 170 #[b,a,size] w Q:=okF (λw Q=>ae.lg b a size w Q) ax.lg func170 h
def ae.u_(size:Int)(w:J)(Q:aa->J->Prop):Prop:=Q (.bool ((decide (size>=1))&&(decide (size<=8)))) w
def ax.u_:aO:=a4
theorem ae.Bg(size:Int)(w:J)(Q:aa->J->Prop)(h:ae.u_ size w Q):aI aj 171 #[size] w Q:=okF (λw Q=>ae.u_ size w Q) ax.u_ func171 h
def ae.oF(b:ad)(w:J)(Q:aa->J->Prop):Prop:=an (w.alloc z3) λw1=>ak ((b.len:Int)==4) (p5 220 #[b] w1 λfH ai=>xU ai w fH Q) (ak ((b.len:Int)==16) (16<=b.len/\∃da:
 ag,b.a=some da/\∃d:O aa,bn w1 da 0 16=some d/\∃e:Array aa,Sem.run aj (Instr.build 53 #[(0,true),(1,.agg d.toArray)]) w1=.ok (.agg e) w1/\xU w1 w e Q) (∃c:Array aa,
 Sem.run aj (Instr.build 53 #[]) w1=.ok (.agg c) w1/\bD w1 (Y w) (Array.toList c)/\Array.size c=17/\an (setCells w1 (Y w) 0 (Array.toList c)) λf=>∃g:O aa,bn f (Y w) 0 17=some
 g/\Q (.tuple #[.agg g.toArray,false]) f))
def ax.oF:aO:=(.q (.s (.q (.bO eV)) (.q .l)))
def ae.va(parts:ad)(w:J)(Q:aa->J->Prop):Prop:=∃ (d:Int->Int->J->Prop) (e:Int->Int->J->Nat),d 4294967295 0 w/\∀ (c:Int) (bT:Int) (b:J),d c bT b->ak (decide (bT<
 (parts.len:Int))) (∃dK:ag,parts.a=some dK/\aP bT parts.len/\r1 b (dK.add (bT.toNat*1)) λg=>nf 221 #[.int .u32 c,g] b λn10 f=>d n10 (aq (bT+1)) f/\e n10 (aq (bT+1)) f
 <e c bT b) (Q (.int .u32 (n_ .u32 4294967295 c)) b)
def ax.va:aO:=(.q (.q (.s (.q (.bO (.loop [(3,(.int .u32)),(8,(.int .i64))] [6,7] a2))) (.q .l))))
def ae.vb(t:av ag)(no:Int)(leaf:al)(w:J)(Q:aa->J->Prop):Prop:=an (w.alloc z4) λw1=>∃a2:ag,t=some a2/\∃e:av ag,w1.cell? a2=some (e)/\ey
 222 #[e,no] w1 λA n7 f=>ak (n7 !=0) (xW f w Q n7) (A9 137 #[no,A] f λn15 n16 g n18 b=>an (b.alloc t_) λh=>bD h (Y b)
 [n15,.int .u64 n16,g]/\(3:Nat)=3/\an (setCells h (Y b) 0 [n15,.int .u64 n16,g]) λi=>ak (n18 !=0) (xW i w Q n18) (an (i.drew) λa=>¬
 False/\cm a ((Y b).add 1) λn27=>∃j:ag,t=some j/\¬False/\cm a (j.add 2) λn29=>ak (decide (n27>n29)) (b1 (λk:al->J->Prop=>ak true (k true a) (aG a (Y b) λn31=>b1 (λ
 l:al->J->Prop=>ak (n31 !=1) (aG a (Y b) λn33=>l (n33 !=2) a) (l false a)) (λ(B:al) C=>k B C))) (λ(D:al) c=>ak D (bD c (Y w) [false,(),(),()]/\(4:Nat)=4/\an (setCells c (Y w) 0 [false,(),(),()]) λE=>r0 E w Q) (r1 c ((Y b).add 2) λF=>k_ 206 #[leaf,
 F] c λm n o p G q=>bD q (Y w) [m,n,o,p]/\(4:Nat)=4/\an (setCells q (Y w) 0 [m,n,o,p]) λH=>fA H w Q G))) (¬False/\aG a (Y b) λI=>b1 (λr:al->J->Prop=>ak (!((I==1)==leaf)) (r true
 a) (aG a (Y b) λK=>b1 (λs:al->J->Prop=>ak (K !=1) (aG a (Y b) λL=>s (L !=2) a) (s false a)) (λ(M:al) N=>r M N))) (λ(O:al) d=>ak O (bD d (Y w)
 [false,(),(),()]/\(4:Nat)=4/\an (setCells d (Y w) 0 [false,(),(),()]) λP=>r0 P w Q) (r1 d ((Y b).add 2) λR=>
 k_ 206 #[leaf,R] d λu v x y S z=>bD z (Y w) [u,v,x,y]/\(4:Nat)=4/\an
 (setCells z (Y w) 0 [u,v,x,y]) λT=>fA T w Q S)))))
def ax.vb:aO:=(.q (.q (.s a1 (.q (.s a1 (.s (.s (.d 12 false [0,1,0,3002,1005001,2006,1008007,1009007,8,1011010007,1012007,1013007,15,1015014,1016014,1017014,19,1019018,1020018,1021018014,1022014]
 [0,1,0,3002,1005001,2006,1008007,1009007,8,1011010007,1012007,2013,1015014,1016014,1017014,19,1019018,1020018,1021018014,1022014] [24034]
 [11,35,1,3036,1039035,41,1041010,1042041,1043041,1041002,1045044041,1046041,48,1048010,1049048,1050048,1051048,1052010,1053052,1054052,1055052048,1056048] (.z 8 0 (.sp 41 (.z 4 8 (.tail [.r,.r,.r,.split 8,.r,.r,.r,.split 3,.r,.r,
 .r,.r])) (.z 4 8 (.tail [.r,.r,.r,.split 8,.r,.r,.r,.split 3,.r,.r,.r,.r]))))) (.c (.q .l) .l)) (.q .l)))))))
def ae.oG(c:al)(d:ad)(e:ad)(f:ad)(key:ad)(w:J)(Q:aa->J->Prop):Prop:=an (w.alloc (.cells #[c,d,e,f] 169)) λw1=>aT w1 (Y w) λb4=>r1 w1 ((Y w).add 1) λg=>r1 w1 ((Y w).add 2) λh=>r1 w1 ((Y w).add 3) λi=>kI 177 #[.agg #[b4,g,h,i],key] w1 λn8 j a=>b1 (λb:Int->J->Prop=>ak j (b (aq (n8+1)) a) (b n8 a)) (λ(n11:Int) k=>Q
 n11 k)
def ax.oG:aO:=(.q (.q (.s (.e4 [(5,(.int .i64))] [] (.q (.c .r .l))) (.q .l))))
def ae.mo(a:al)(b:ad)(c:ad)(d:ad)(key:ad)(w:J)(Q:aa->J->Prop):Prop:=an (w.alloc (.cells #[a,b,c,d] 169)) λw1=>r1 w1 ((Y w).add 1) λs2=>kI 223 #[s2,key,.func (.func
 219) #[] #[]] w1 λn5 e f=>Q (.tuple #[n5,e]) f
def ax.mo:aO:=(.q (.q .l))
def ae.si(c:av ag)(choose:iu)(w:J)(Q:aa->J->Prop):Prop:=ak (Option.isNone c) (Q () w) (∃a1:ag,c=some a1/\r1 w (a1.add 1) λs2=>∃ (h:ad->Int->J->Prop) (i
 :ad->Int->J->Nat),h ⟨none,0,0⟩ 0 w/\∀ (e:ad) (n6:Int) (b:J),h e n6 b->ak (decide (n6<(s2.len:Int))) (b1 (λj:ad->J->Prop=>∃a9:ag,s2.a=some a9/\aP n6 s2.len/\aT b (a9.add (Int.toNat n6
 *6)) λk=>aT b ((a9.add (n6.toNat*6)).add 1) λl=>aT b ((a9.add (n6.toNat*6)).add 2) λm=>aG b ((a9.add (n6.toNat*6)).add 3) λn13=>aG b ((a9.add (n6.toNat*6)).add 4) λn14=>r1 b
 ((a9.add (n6.toNat*6)).add 5) λn=>an (b.alloc (.cells #[false,false,false,(0:Int),(0:Int),()] 275)) λo=>bD o (Y b) [k,l,m,n13,n14,n]/\(6:Nat)=6/\an (setCells o (Y b) 0 [k,l,m,n13,n14,n]) λd=>aT d (Y b) λu=>aT d
 ((Y b).add 1) λv=>aT d ((Y b).add 2) λx=>aG d ((Y b).add 3) λn21=>aG d ((Y b).add 4) λn22=>r1 d ((Y b).add 5) λy=>h6 aj choose.f/\Calls aj
 choose.f (choose.pre++ #[.agg #[u,v,x,n21,n22,y]]++choose.cap) d λz g=>∃p:al,z=.returned p/\ak p (aG g ((Y b).add 3)
 λn27=>an (g.alloc (.cells #[n27] 3)) λA=>∃q:ad,∃r:J,Sem.run aj (Builtin.append_ #[72,72] 72 #[e,.slice (some (Y g)) 1 1]) A=.ok
 q r/\j q r) (j e g)) (λ(s:ad) t=>h s (aq (n6+1)) t/\i s (aq (n6+1)) t<i e n6 b)) (gQ 140 #[e] b λB=>Q e B))
def ax.si:aO:=(.q (.q (.s a1 (.s (.q (.bO (.loop [(5,.slice),(15,(.int .i64))] [1,13,14] (.q (.s (.c .l .l) (.s (.e4 [(5,.slice)] [1,13,14,15] (.bO (.q (.q (.c .r .l))))) .r)))))) (.q (.q .l))))))
theorem ae.Fx(c:av ag)(choose:iu)(w:J)(Q:aa->J->Prop)(h:ae.si c choose w Q):aI aj 178 #[c,.func (.func choose.f) choose.pre choose.cap] w Q:=okF (λw Q=>ae.si c choose w Q) ax.si func178 h
def ae.vc(b:al)(c:al)(d:al)(e:Int)(f:Int)(g:ad)(w:J)(Q:aa->J->Prop):Prop:=an (w.alloc (.cells #[b,c,d,e,f,g] 275)) λw1=>aT w1 (Y w) λb4=>b1 (λa:al->J->Prop=>ak b4 (aT w1 ((Y w).add 1) λh=>a h w1) (a false w1)) (λ(i:al) j=>Q i j)
def ax.vc:aO:=(.q (.s (.z [9,7]) .l))
end Go.Proofs.YtcmgnhkpfllinaaGreat
