/- Printed by gen.py: functions of the program, each as what must be shown of it. -/
import Derived.Test.YtcmgnhkpfllinaaGreatProg
import Derived.Test.YtcmgnhkpfllinaaGreatKSFew2
namespace aQ
abbrev aN.s:=aN.seq
abbrev aN.l:=aN.leaf
abbrev aN.c:=aN.cond
abbrev aN.r:=aN.pU []
abbrev aK.t:=aK.take
abbrev kA.r:=kA.run
open Go
def g6:O Nat->O Nat
 | []=> []
 |x::l=>bif Nat.blt x 500 then (bif Nat.beq x 0 then 0 else 2^(x-1))::g6 l else bif Nat.blt x 1000 then (2^(x-500)-1)::g6 l else bif Nat.blt x 1000000 then (List.range' (x%1000) (x/1000)).map (λy=>2^y)++g6 l else bif Nat.blt x 1000000000 then (2^(x/1000-1000)+2^(x%1000))::g6 l else bif Nat.blt x 1000000000000 then (2^(x/1000000-1000)+2^(x/1000%1000)+2^(x%1000))::g6 l else (x-1000000000000)::g6 l
def aK.z:Nat->Nat->aK->aK
 |0,_,x=>x
 |n+1,a,x=>.take a (aK.z n (a+1) x)
def aK.e:aK:=.tail [.run]
def aN.d(n:Nat)(b:al)(A B C D:O Nat)(t:aK):aN:=.tD n b ⟨g6 A,g6 B⟩ (g6 C) (g6 D) t
def aN.e(n:Nat)(b:al)(A C D:O Nat)(t:aK):aN:=.tD n b ⟨g6 A,g6 A⟩ (g6 C) (g6 D) t
def aN.q(t:aN):aN:=.seq (.pU []) t
def tQ:O Nat->O kA
 | []=> []
 |x::l=>bif Nat.beq (x%3) 0 then List.replicate (x/3) .run++tQ l else bif Nat.beq (x%3) 1 then .split (x/3)::tQ l else .pure (x/3)::tQ l
def aN.z(l:O Nat):aN:=.pU (tQ l)
end aQ
namespace Go.Proofs.YtcmgnhkpfllinaaGreat
noncomputable abbrev aj:=Tryz.prog
open Go aQ Go.Proofs.Tryz
namespace F
end F
namespace EN
end EN
namespace G
end G
abbrev aS:dD:=.one (.one .fn)
abbrev e3:dD:=.one (.one .agg)
abbrev f_:dD:=.one (.one .ptr)
abbrev jc:dD:=.one (.one .slice)
abbrev m_:dD:=.e1 [(.one .ptr),(.one (.int .i64))]
abbrev na:dD:=.one (.flat [.ptr,.slice,(.int .i64)])
abbrev p4:dD:=.e1 [(.one .slice),(.one (.int .i64))]
abbrev tR:dD:=.one (.one (.int .i64))
abbrev tS:dD:=.one (.one (.int .u8))
abbrev tT:dD:=.one (.one (.int .u64))
abbrev tU:dD:=.one (.flat [.slice,.slice])
abbrev tV:dD:=.one (.flat [.slice,(.int .i64)])
def EO:O dD:=[(.e1 []),aS,tR,tR,(.one (.one .bool)),tS,tS,(.one (.flat [(.int .i64),(.int .i64),.bool,(.int .u8)])),(.one (.flat [(.int .i64),(.int .i64),.bool,(.int .u8)])),(.one (.one .str)),(.one (.one .str)),(.one (.one .str)),tT,(.one (.flat [.str,(.int .u64)])),(.one (.flat [.str,(.int .u64)])),f_,f_,f_,(.one (.flat [.ptr])),(.one (.flat [.ptr])),(.one (.one .any)),(.one (.one (.int .i32))),jc,tT,(.one (.flat [(.int .i64),(.int .u64),.bool])),(.one (.flat [(.int .i64),(.int .u64),.bool])),f_,f_,(.e1 [(.one .ptr),(.one .ptr),(.one .bool)]),aS,tT,f_,tR,m_,aS,(.one (.flat [(.int .i64),.slice])),(.one (.flat [(.int .i64),.slice])),(.e1 [(.one (.int .i64)),(.one (.int .i64))]),aS,jc,aS,aS,aS,jc,f_,na,na,aS,aS,aS,aS,e3,e3,e3,e3,e3,e3,e3,(.e1 [(.one .agg),(.one .bool),(.one (.int .i64))]),aS,jc,(.one (.flat [(.int .i64),(.int .i64),(.int .u8)])),(.one (.flat [(.int .i64),(.int .i64),(.int .u8)])),(.one (.flat [(.int .i64),(.int .i64),(.int .u64)])),(.one (.flat [(.int .i64),(.int .i64),(.int .u64)])),aS,f_,m_,aS,f_,m_,aS,jc,(.one (.flat [(.int .i64),(.int .i64),(.int .i64),.slice,.slice,.slice])),(.one (.flat [(.int .i64),(.int .i64),(.int .i64),.slice,.slice,.slice])),aS,(.e1 [(.one .bool),(.one (.int .i64))]),aS,aS,aS,aS,aS,e3,e3,e3,e3,(.e1 [(.one .agg),(.one (.int .i64))]),aS,aS,(.one (.flat [(.int .i64),(.int .i64),(.int .i64),(.int .u64),(.int .u64),(.int .i64)])),(.one (.flat [(.int .i64),(.int .i64),(.int .i64),(.int .u64),(.int .u64),(.int .i64)])),aS,aS,jc,aS,aS,aS,jc,(.e1 [(.one .ptr),(.one .ptr),(.one .bool)]),aS,e3,e3,m_,aS,aS,aS,aS,aS,aS,na,na,(.e1 [(.one .slice),(.one (.int .i64)),(.one (.int .i64))]),aS,aS,p4,aS,(.e1 [(.one .slice),(.one .bool)]),aS,(.e1 [(.one .slice),(.one .bool),(.one (.int .i64))]),(.one (.flat [.ptr,(.int .i64)])),(.one (.flat [.ptr,(.int .i64)])),aS,(.e1 [(.one .agg),(.one .bool)]),aS,jc,(.one (.one .map)),e3,e3,e3,e3,aS,f_,m_,aS,p4,aS,(.one (.flat [(.int .i64),(.int .u64),.slice])),(.one (.flat [(.int .i64),(.int .u64),.slice])),e3,aS,aS,aS,aS,f_,f_,e3,e3,aS,aS,aS,e3,e3,(.e1 [(.flat [(.int .i64),(.int .i64),(.int .i64),(.int .u64),(.int .u64),(.int .i64)]),(.one (.int .u64)),(.one (.int .i64))]),aS,aS,f_,(.one (.one .map)),e3,e3,aS,(.e1 [(.flat [(.int .i64),(.int .i64),(.int .i64),(.int .u64),(.int .u64),(.int .i64)]),(.one (.int .u64)),(.one (.int .i64))]),aS,aS,aS,aS,aS,(.e1 [(.flat [(.int .i64),(.int .u64),.slice]),(.one (.int .i64))]),aS,(.one (.flat [.bool,.slice,.slice,.slice])),(.one (.flat [.bool,.slice,.slice,.slice])),(.e1 [(.flat [.bool,.slice,.slice,.slice]),(.one .bool)]),aS,f_,aS,jc,tU,tU,aS,aS,aS,aS,aS,aS,aS,p4,aS,aS,aS,aS,aS,aS,aS,aS,jc,p4,aS,aS,tU,tU,aS,(.e1 [(.one (.int .u64)),(.one .bool)]),aS,(.e1 [(.one .agg),(.one .bool)]),aS,aS,f_,jc,aS,(.one (.flat [(.int .i64),.slice,.slice])),(.one (.flat [(.int .i64),.slice,.slice])),aS,(.one (.one (.int .u32))),aS,aS,aS,m_,aS,m_,aS,jc,p4,aS,e3,e3,(.e1 [(.one (.int .i64)),(.one .bool)]),aS,(.e1 [(.one (.int .i64)),(.one (.int .i64))]),aS,aS,aS,aS,aS,aS,aS,aS,aS,(.e1 [(.flat [(.int .i64),(.int .i64),(.int .i64),(.int .u64),(.int .u64),(.int .i64)]),(.one (.int .i64)),(.one (.int .u64)),(.one (.int .i64))]),aS,aS,(.e1 [(.one .slice),(.one (.int .i64)),(.one (.int .i64))]),aS,aS,(.one (.flat [.ptr,.ptr,(.int .u64),(.int .i64),(.int .i64)])),(.one (.flat [.ptr,.ptr,(.int .u64),(.int .i64),(.int .i64)])),aS,aS,aS,(.one (.flat [(.int .i64),(.int .i64)])),(.one (.flat [(.int .i64),(.int .i64)])),jc,aS,aS,aS,aS,aS,aS,aS,aS,(.e1 [(.one .agg),(.one .bool)]),aS,aS,aS,aS,aS,aS,aS,jc,na,na,(.e1 [(.flat [.bool,.slice,.slice,.slice]),(.one (.int .i64))]),aS,aS,aS,aS,(.one (.flat [.bool,.bool,.bool,(.int .i64),(.int .i64),.slice])),(.one (.flat [.bool,.bool,.bool,(.int .i64),(.int .i64),.slice])),f_,aS,aS,aS,aS,aS,f_,(.one (.flat [.ptr,.slice,.slice])),(.one (.flat [.ptr,.slice,.slice])),(.e1 [(.one (.int .i64)),(.one (.int .i64)),(.one (.int .i64))]),aS,aS,f_,tV,tV,aS,f_,na,na,aS,aS,aS,aS,m_,aS,aS,aS,aS,aS,(.e1 [(.one .slice),(.one .slice)]),aS,aS,aS,aS,aS,aS,aS,aS,aS,aS,f_,jc,(.e1 [(.one .slice),(.one (.int .i64)),(.one (.int .i64)),(.one (.int .i64))]),aS,aS,aS,p4,aS,tV,tV,aS,aS,aS,tR,(.e1 [(.one (.int .i64)),(.one (.int .i64))]),aS,aS,aS,aS,aS,aS,aS,aS,aS,f_,(.one (.flat [.slice,.bool])),(.one (.flat [.slice,.bool])),aS,aS,aS,aS,aS,aS,aS,aS,tT,aS,aS,aS,f_,aS,aS,e3,f_,aS,aS,(.e1 [(.flat [.bool,.slice,.slice,.slice]),(.one .slice),(.flat [.bool,.slice,.slice,.slice]),(.one .bool)]),aS,aS,aS,(.one (.flat [.ptr,.ptr,.ptr,.str])),(.one (.flat [.ptr,.ptr,.ptr,.str])),e3,e3,e3,tS,tS,aS,f_,(.one (.one (.int .i32))),(.one (.one (.int .i32))),e3,e3,f_]
def tk:TypeId->dD:=λt=>EO.getD t (.one (.one .any))
theorem xw:Tryz.prog.follows .mixedOrders=true:=by kernel_rfl
def Y(w:J):ag:=w.heap.size
def aq(n:Int):Int:=IntKind.wrap .i64 n
def aP(n:Int)(k:Nat):Prop:=(0:Int)<=n/\n<(k:Int)
def ak(c:al)(A B:Prop):Prop:=(c=true->A)/\(c=false->B)
def kE:Int:=9223372036854775807
def st(w:J)(A:ag)(v:aa)(K:J->Prop):Prop:=(∃u:aa,w.cell? A=some u)/\w.frozen? A=false/\ao (w.setCell A v) λw1=>K w1
def lC(w:J)(z:Obj)(l:O aa)(k:Nat)(K:J->Prop):Prop:=ao (w.alloc z) λw1=>bI w1 (Y w) (Array.toList l.toArray)/\Array.size l.toArray=k/\ao (setCells w1 (Y w) 0 (Array.toList l.toArray)) λai=>K ai
def ou(s:ad)(n:Int)(w:J)(k:Nat)(K:O aa->Prop):Prop:=∃a:ag,s.a=some a/\aP n s.len/\∃l:O aa,bw w (a.add (n.toNat*k)) 0 k=some l/\K l
def gJ(f:Nat)(a:Array aa)(w:J)(K:J->Prop):Prop:=Calls aj f a w λe w'=>e=.returned (.tuple #[])/\K w'
def bY(f:Nat)(a:Array aa)(w:J)(K:Int->J->Prop):Prop:=Calls aj f a w λe w'=>∃cd:Int,e=.returned cd/\K cd w'
def AT(f:Nat)(a:Array aa)(w:J)(K:ad->Int->Int->J->Prop):Prop:=Calls aj f a w λe w'=>∃cd:ad,∃b:Int,∃c:Int,e=.returned (.tuple #[cd,b,c])/\K cd b c w'
def bD(f:Nat)(a:Array aa)(w:J)(K:ad->J->Prop):Prop:=Calls aj f a w λe w'=>∃cd:ad,e=.returned cd/\K cd w'
def j6(f:Nat)(a:Array aa)(w:J)(K:av ag->J->Prop):Prop:=Calls aj f a w λe w'=>∃cd:av ag,e=.returned (cd)/\K cd w'
def b6(f:Nat)(a:Array aa)(w:J)(K:al->J->Prop):Prop:=Calls aj f a w λe w'=>∃cd:al,e=.returned cd/\K cd w'
def h5(f:Nat)(a:Array aa)(w:J)(K:av ag->Int->J->Prop):Prop:=Calls aj f a w λe w'=>∃cd:av ag,∃b:Int,e=.returned (.tuple #[cd,b])/\K cd b w'
def ey(f:Nat)(a:Array aa)(w:J)(K:ad->Int->J->Prop):Prop:=Calls aj f a w λe w'=>∃cd:ad,∃b:Int,e=.returned (.tuple #[cd,b])/\K cd b w'
def nc(f:Nat)(a:Array aa)(w:J)(K:ad->al->Int->J->Prop):Prop:=Calls aj f a w λe w'=>∃cd:ad,∃b:al,∃c:Int,e=.returned (.tuple #[cd,b,c])/\K cd b c w'
def nd(f:Nat)(a:Array aa)(w:J)(K:al->Int->J->Prop):Prop:=Calls aj f a w λe w'=>∃cd:al,∃b:Int,e=.returned (.tuple #[cd,b])/\K cd b w'
def jD(f:Nat)(a:Array aa)(w:J)(K:ad->al->J->Prop):Prop:=Calls aj f a w λe w'=>∃cd:ad,∃b:al,e=.returned (.tuple #[cd,b])/\K cd b w'
def gK(f:Nat)(a:Array aa)(w:J)(K:Int->Int->J->Prop):Prop:=Calls aj f a w λe w'=>∃cd:Int,∃b:Int,e=.returned (.tuple #[cd,b])/\K cd b w'
def nf(f:Nat)(a:Array aa)(w:J)(K:Int->al->J->Prop):Prop:=Calls aj f a w λe w'=>∃cd:Int,∃b:al,e=.returned (.tuple #[.int .u64 cd,b])/\K cd b w'
def jE(f:Nat)(a:Array aa)(w:J)(K:Array aa->al->J->Prop):Prop:=Calls aj f a w λe w'=>∃cd:Array aa,∃b:al,e=.returned (.tuple #[.agg cd,b])/\K cd b w'
def ng(f:Nat)(a:Array aa)(w:J)(K:Int->J->Prop):Prop:=Calls aj f a w λe w'=>∃cd:Int,e=.returned (.int .u32 cd)/\K cd w'
def p5(f:Nat)(a:Array aa)(w:J)(K:Array aa->J->Prop):Prop:=Calls aj f a w λe w'=>∃cd:Array aa,e=.returned (.agg cd)/\K cd w'
def kF(f:Nat)(a:Array aa)(w:J)(K:Int->al->J->Prop):Prop:=Calls aj f a w λe w'=>∃cd:Int,∃b:al,e=.returned (.tuple #[cd,b])/\K cd b w'
def lD(f:Nat)(a:Array aa)(w:J)(K:al->ad->ad->ad->al->J->Prop):Prop:=Calls aj f a w λe w'=>∃cd:al,∃b:ad,∃c:ad,∃d:ad,∃g:al,e=.returned (.tuple #[.agg #[cd,b,c,d],g])/\K cd b c d g w'
def k6(f:Nat)(a:Array aa)(w:J)(K:al->ad->ad->ad->Int->J->Prop):Prop:=Calls aj f a w λe w'=>∃cd:al,∃b:ad,∃c:ad,∃d:ad,∃g:Int,e=.returned (.tuple #[.agg #[cd,b,c,d],g])/\K cd b c d g w'
def ga(f:Nat)(a:Array aa)(w:J)(K:al->ad->ad->ad->J->Prop):Prop:=Calls aj f a w λe w'=>∃cd:al,∃b:ad,∃c:ad,∃d:ad,e=.returned (.agg #[cd,b,c,d])/\K cd b c d w'
def p6(f:Nat)(a:Array aa)(w:J)(K:Int->Int->Int->J->Prop):Prop:=Calls aj f a w λe w'=>∃cd:Int,∃b:Int,∃c:Int,e=.returned (.tuple #[cd,b,c])/\K cd b c w'
def rX(f:Nat)(a:Array aa)(w:J)(K:Int->J->Prop):Prop:=Calls aj f a w λe w'=>∃cd:Int,e=.returned (.int .u64 cd)/\K cd w'
def AU(f:Nat)(a:Array aa)(w:J)(K:Int->Int->ad->Int->J->Prop):Prop:=Calls aj f a w λe w'=>∃cd:Int,∃b:Int,∃c:ad,∃d:Int,e=.returned (.tuple #[.agg #[cd,.int .u64 b,c],d])/\K cd b c d w'
def xx(f:Nat)(a:Array aa)(w:J)(K:ad->Int->Int->Int->J->Prop):Prop:=Calls aj f a w λe w'=>∃cd:ad,∃b:Int,∃c:Int,∃d:Int,e=.returned (.tuple #[cd,b,c,d])/\K cd b c d w'
def AV(f:Nat)(a:Array aa)(w:J)(K:al->ad->ad->ad->ad->al->ad->ad->ad->al->J->Prop):Prop:=Calls aj f a w λe w'=>∃cd:al,∃b:ad,∃c:ad,∃d:ad,∃g:ad,∃h:al,∃i:ad,∃j:ad,∃k:ad,∃l:al,e=.returned (.tuple #[.agg #[cd,b,c,d],g,.agg #[h,i,j,k],l])/\K cd b c d g h i j k l w'
def p7(f:Nat)(a:Array aa)(w:J)(K:av ag->av ag->al->J->Prop):Prop:=Calls aj f a w λe w'=>∃cd:av ag,∃b:av ag,∃c:al,e=.returned (.tuple #[cd,b,c])/\K cd b c w'
def AW(f:Nat)(a:Array aa)(w:J)(K:Int->Int->Int->J->Prop):Prop:=Calls aj f a w λe w'=>∃cd:Int,∃b:Int,∃c:Int,e=.returned (.agg #[cd,b,.int .u64 c])/\K cd b c w'
def r1(w:J)(A:ag)(K:ad->Prop):Prop:=∃x:ad,w.cell? A=some (.slice x.a x.len x.cap)/\K x
def aF(w:J)(A:ag)(K:Int->Prop):Prop:=∃x:Int,w.cell? A=some (.int .i64 x)/\K x
def cr(w:J)(A:ag)(K:Int->Prop):Prop:=∃x:Int,w.cell? A=some (.int .u64 x)/\K x
def aT(w:J)(A:ag)(K:al->Prop):Prop:=∃x:al,w.cell? A=some (.bool x)/\K x
def dm(w:J)(A:ag)(K:Int->Prop):Prop:=∃x:Int,w.cell? A=some (.int .u8 x)/\K x
def jF:Obj:=.cells #[(0:Int),(0:Int),(0:Int),.int .u64 0,.int .u64 0,(0:Int)] 90
def ir:Obj:=.cells #[(0:Int),false,.int .u8 0,.int .u8 0,.int .u8 0,.int .u8 0,.int .u8 0,.int .u8 0,.int .u8 0,.int .u8 0,.int .u8 0,.int .u8 0,.int .u8 0,.int .u8 0,.int .u8 0,.int .u8 0,.int .u8 0,.int .u8 0,(0:Int),(0:Int),.int .u64 0] 57
def z3:Obj:=.cells #[false,.int .u8 0,.int .u8 0,.int .u8 0,.int .u8 0,.int .u8 0,.int .u8 0,.int .u8 0,.int .u8 0,.int .u8 0,.int .u8 0,.int .u8 0,.int .u8 0,.int .u8 0,.int .u8 0,.int .u8 0,.int .u8 0] 53
def z4:Obj:=.cells #[false,(),(),()] 169
def z5:Obj:=.cells #[.int .u8 0,.int .u8 0,.int .u8 0,.int .u8 0,.int .u8 0,.int .u8 0,.int .u8 0,.int .u8 0,.int .u8 0,.int .u8 0,.int .u8 0,.int .u8 0,.int .u8 0,.int .u8 0,.int .u8 0,.int .u8 0,.int .u8 0,.int .u8 0,.int .u8 0,.int .u8 0,.int .u8 0,.int .u8 0,.int .u8 0,.int .u8 0,.int .u8 0,.int .u8 0,.int .u8 0,.int .u8 0,.int .u8 0,.int .u8 0,.int .u8 0,.int .u8 0,.int .u8 0,.int .u8 0,.int .u8 0,.int .u8 0,.int .u8 0,.int .u8 0,.int .u8 0,.int .u8 0,.int .u8 0,.int .u8 0,.int .u8 0,.int .u8 0,.int .u8 0,.int .u8 0,.int .u8 0,.int .u8 0,.int .u8 0,.int .u8 0,.int .u8 0,.int .u8 0,.int .u8 0,.int .u8 0,.int .u8 0,.int .u8 0,.int .u8 0,.int .u8 0,.int .u8 0,.int .u8 0,.int .u8 0,.int .u8 0,.int .u8 0,.int .u8 0,.int .u8 0,.int .u8 0,.int .u8 0,.int .u8 0,.int .u8 0,.int .u8 0,.int .u8 0,.int .u8 0,.int .u8 0,.int .u8 0,.int .u8 0,.int .u8 0,.int .u8 0,.int .u8 0,.int .u8 0,.int .u8 0,.int .u8 0,.int .u8 0,.int .u8 0,.int .u8 0,.int .u8 0,.int .u8 0,.int .u8 0,.int .u8 0,.int .u8 0,.int .u8 0,.int .u8 0,.int .u8 0,.int .u8 0,.int .u8 0,.int .u8 0,.int .u8 0,.int .u8 0,.int .u8 0,.int .u8 0,.int .u8 0,.int .u8 0,.int .u8 0,.int .u8 0,.int .u8 0,.int .u8 0,.int .u8 0,.int .u8 0,.int .u8 0,.int .u8 0,.int .u8 0,.int .u8 0,.int .u8 0,.int .u8 0,.int .u8 0,.int .u8 0,.int .u8 0,.int .u8 0,.int .u8 0,.int .u8 0,.int .u8 0,.int .u8 0,.int .u8 0,.int .u8 0,.int .u8 0,.int .u8 0,.int .u8 0,.int .u8 0,.int .u8 0,.int .u8 0,.int .u8 0,.int .u8 0,.int .u8 0,.int .u8 0,.int .u8 0,.int .u8 0,.int .u8 0,.int .u8 0,.int .u8 0,.int .u8 0,.int .u8 0,.int .u8 0,.int .u8 0,.int .u8 0,.int .u8 0,.int .u8 0,.int .u8 0,.int .u8 0,.int .u8 0,.int .u8 0,.int .u8 0,.int .u8 0,.int .u8 0,.int .u8 0,.int .u8 0,.int .u8 0,.int .u8 0,.int .u8 0,.int .u8 0,.int .u8 0,.int .u8 0,.int .u8 0,.int .u8 0,.int .u8 0,.int .u8 0,.int .u8 0,.int .u8 0,.int .u8 0,.int .u8 0,.int .u8 0,.int .u8 0,.int .u8 0,.int .u8 0,.int .u8 0,.int .u8 0,.int .u8 0,.int .u8 0,.int .u8 0,.int .u8 0,.int .u8 0,.int .u8 0,.int .u8 0,.int .u8 0,.int .u8 0,.int .u8 0,.int .u8 0,.int .u8 0,.int .u8 0,.int .u8 0,.int .u8 0,.int .u8 0,.int .u8 0,.int .u8 0,.int .u8 0,.int .u8 0,.int .u8 0,.int .u8 0,.int .u8 0,.int .u8 0,.int .u8 0,.int .u8 0,.int .u8 0,.int .u8 0,.int .u8 0,.int .u8 0,.int .u8 0,.int .u8 0,.int .u8 0,.int .u8 0,.int .u8 0,.int .u8 0,.int .u8 0,.int .u8 0,.int .u8 0,.int .u8 0,.int .u8 0,.int .u8 0,.int .u8 0,.int .u8 0,.int .u8 0,.int .u8 0,.int .u8 0,.int .u8 0,.int .u8 0,.int .u8 0,.int .u8 0,.int .u8 0,.int .u8 0,.int .u8 0,.int .u8 0,.int .u8 0,.int .u8 0,.int .u8 0,.int .u8 0,.int .u8 0,.int .u8 0,.int .u8 0,.int .u8 0,.int .u8 0,.int .u8 0,.int .u8 0,.int .u8 0,.int .u8 0,.int .u8 0,.int .u8 0,.int .u8 0,.int .u8 0,.int .u8 0,.int .u8 0,.int .u8 0,.int .u8 0,.int .u8 0,.int .u8 0,.int .u8 0,.int .u8 0,.int .u8 0,.int .u8 0] 151
def k7:Obj:=.cells #[false,.int .u8 0,.int .u8 0,.int .u8 0,.int .u8 0,.int .u8 0,.int .u8 0,.int .u8 0,.int .u8 0,.int .u8 0,.int .u8 0,.int .u8 0,.int .u8 0,.int .u8 0,.int .u8 0,.int .u8 0,.int .u8 0,(0:Int)] 55
def tW:Obj:=.cells #[(0:Int),.int .u64 0,()] 137
def xy:Obj:=.cells #[(),(0:Int)] 325
def a1:aN:=(.q (.c (.q .l) .l))
def fO:aN:=(.q (.s (.c .l .l) (.s (.bU (.q a1)) .r)))
def g7:aN:=(.q (.s (.q (.bU (.loop [(8,(.int .i64))] [0,1,7] fO))) (.q .l)))
def dt:aN:=(.q (.s a1 (.q .l)))
def g8:aN:=(.q (.c (.q .l) a1))
def gb:aN:=(.s a1 (.q (.q .l)))
def j7:aN:=(.q (.s (.c .l .l) (.s (.bU (.q (.q a1))) .r)))
def a2:aN:=(.q (.s (.c .l .l) (.s (.bU (.q .r)) .r)))
def a3:aN:=(.q (.q (.q .l)))
def a4:aN:=(.q (.s (.z [9,8]) .l))
def a5:aN:=(.q (.s (.s (.z [9,8,9,8]) (.c (.q .l) .l)) (.q .l)))
def dK:aN:=(.s (.z [9,10]) (.c (.q .l) .l))
def c9:aN:=(.s (.z [9,8]) (.c (.q .l) .l))
def eC:aN:=(.q (.s (.z [12,11]) .l))
def a9:aN:=(.s (.z [12,8,9,17]) (.c (.q .l) .l))
def e4:aN:=(.c (.q (.q .l)) .l)
def ei:aN:=(.q (.s (.z [9,8,9,22]) .l))
def eD:aN:=(.s (.z [12,16]) (.c (.q .l) .l))
def ej:aN:=(.s (.z [12,8]) (.c (.q .l) .l))
def eX:aN:=(.s (.z [9,11]) (.c (.q .l) .l))
theorem okF{f:Nat}{fn:Func}(p:J->(aa->J->Prop)->Prop)(A:aN){args:O aa}{w:J}{Q:aa->J->Prop}(hf:Tryz.prog.funcs[f]? =some fn)(h:p w Q)(h1:oh fn args.length=true:=by kernel_rfl)(h2:p w Q=pY aj tk A fn args w Q:=by kernel_rfl):aJ aj f args.toArray w Q:=En xw hf h1 (Eq.mp h2 h)
def p8(a:J)(c:J)(ai:J)(d:al)(Q:aa->J->Prop):Prop:=r1 a ((Y c).add 1) λe=>r1 a ((Y c).add 2) λf=>r1 a ((Y c).add 3) λg=>bI a (Y ai)
 [d,e,f,g]/\(4:Nat)=4/\ao (setCells a (Y ai) 0 [d,e,f,g]) λb=>aT b (Y ai) λh=>r1 b ((Y ai).add 1) λi=>r1 b ((Y ai).add 2) λj=>r1 b ((Y ai).add 3) λk=>Q (.tuple #[.agg #[h,i,j,k],true]) b
def p9(c:ad)(d:J)(e:J)(f:J)(g:J->Prop):Prop:=∃a:ad,∃b:J,Sem.run aj (Builtin.append_ #[93,93] 93 #[c,
 .slice (some (Y d)) 1 1]) e=.ok a b/\st b ((Y f).add 1) a λh=>g h
def tX(b:J)(h:J)(c:J)(key:ad)(f:J->Prop):Prop:=aT b (Y h) λi=>ak (!i) (ao (b.drew) λd=>∃e:Nat->Prop,¬e ((Y c).add 1).block/\r1 d ((Y
 c).add 1) λj=>bD 46 #[key] d λk a=>af e d a/\ao (a.alloc (.cells #[k] 39)) λg=>af e a g/\p9 j a g c
 f) (f b)
def p_(a:J)(ai:J)(Q:aa->J->Prop)(b:al):Prop:=r1 a ((Y ai).add 1) λc=>r1 a ((Y ai).add 2) λd=>r1 a ((Y ai).add 3) λe=>Q (.tuple #[.agg #[b,c,d,e],false]) a
def bW(h:J)(a:J)(i:al)(j:ad)(k:ad)(l:ad)(b:J)(m:al)(n:ad)(o:ad)(p:ad)(w:J)(key:ad)(ai:J)(Q:aa->J->Prop):Prop:=bI h (Y a)
 [i,j,k,l]/\(4:Nat)=4/\ao (setCells h (Y a) 0 [i,j,k,l]) λq=>bI q (Y b) [m,n,o,p]/\(4:Nat)=4/\ao (setCells q (Y b) 0 [m,n,o,p]) λz=>b5 (λA:J->Prop=>tX z w a key A) (λe=>r1 e ((Y a).add 1) λB=>r1 e ((Y b).add 1) λC=>∃r:ad,∃s:J,
 Sem.run aj (Builtin.append_ #[93,93] 93 #[B,C]) e=.ok r s/\st s ((Y a).add 1) r λf=>r1 f ((Y a).add 2) λD=>r1 f ((Y b).add 2) λE=>∃t:ad,∃u:J,Sem.run aj (Builtin.append_ #[93,93] 93 #[D,E]) f=.ok t u/\st u ((Y a).add 2) t λg=>r1 g ((Y a).add 3) λF=>r1 g ((Y b).add 3) λ
 G=>∃v:ad,∃x:J,Sem.run aj (Builtin.append_ #[72,72] 72 #[F,G]) g=.ok v x/\st x ((Y a).add
 3) v λc=>aT c (Y a) λH=>r1 c ((Y a).add 1) λI=>r1 c ((Y a).add 2) λK=>r1 c ((Y a).add 3) λL=>b6 182 #[.agg #[H,I,K,L]] c λM d=>ak (!M) (bI d (Y ai) [false,(),(),()]/\(4:Nat)=4/\ao (setCells d (Y
 ai) 0 [false,(),(),()]) λy=>aT y (Y ai) λN=>p_ y ai Q N) (aT d (Y a) λO=>p8 d a ai O Q))
def ov(a:J)(b:J)(c:al)(d:ad)(e:ad)(f:ad)(g:J->Prop):Prop:=bI a (Y b) [c,d,e,f]/\(4
 :Nat)=4/\ao (setCells a (Y b) 0 [c,d,e,f]) λh=>g h
def qa(d:J)(a:J)(e:al)(f:ad)(g:ad)(h:ad)(i:al)(Q:aa->J->Prop)(c:av ag)(n31:Int):Prop:=bI d (Y a) [e,f,
 g,h]/\(4:Nat)=4/\ao (setCells d (Y a) 0 [e,f,g,h]) λb=>
 ak (!i) (Q (.tuple #[(),(0:Int),(0:Int),(4:Int)]) b) (aT b (Y a) λj=>r1 b ((Y a).add 1) λk=>r1 b ((Y a).add 2) λl=>r1 b ((Y a).add 3) λ
 m=>ey 263 #[c,.agg #[j,k,l,m]] b λn o p=>Q (.tuple #[n,n31,.int .i64 (aq (n31+2)),o]) p)
def b1(up:av ag)(j:J)(n36:Int)(w:J)(h:J)(f:J)(g:J)(n31:Int)(Q:aa->J->Prop)(c:av ag):Prop:=b5 (λo:J->Prop=>∃p:ag,up=some p/\aF j
 (p.add 5) λI=>ak (decide (n36>I)) (ao (j.drew) λd=>∃k:Nat->Prop,¬k ((Y w):ag).block/\aT d (Y w) λq=>r1 d ((Y w).add 1) λr=>r1 d ((Y w).add 2) λs=>r1 d (Addr.add
 (Y w) 3) λt=>¬k ((Y h):ag).block/\aT d (Y h) λK=>r1 d ((Y h).add 1) λL=>r1 d ((Y h).add 2) λM=>r1 d ((Y h).add 3) λN=>bI d (Y f) [q,r,s,t]/\(4:Nat)=4/\ao (setCells d (Y f) 0 [q,r,s,t]) λu
 =>af k d u/\ov u g K L M N o) (o j)) (λO=>ao (O.drew) λb=>∃e:Nat->Prop,¬e ((Y f):ag).block/\aT b (Y f) λv=>r1 b ((Y f).add 1) λx=>r1 b (Addr.add
 (Y f) 2) λy=>r1 b ((Y f).add 3) λz=>∃l:ag,up=some l/\¬e ((l.add 1).add 1).block/\r1 b ((l.add 1).add 1) λA=>∃m:ag,A.a=some m/\aP n31 A.len/\¬e (m.add
 (n31.toNat*1)).block/\r1 b (m.add (n31.toNat*1)) λB=>¬e ((Y g):ag).block/\aT b (Y g) λC=>r1 b ((Y g).add 1) λD=>r1 b ((Y g).add 2) λE=>r1 b (Addr.add
 (Y g) 3) λF=>(lD 264 #[.agg #[v,x,y,z],B,.agg #[C,D,
 E,F]] b λP R S T U i=>af e b i/\ao (i.alloc z4) λG=>af e i G/\qa G i P R S T U Q c n31)/\(ao
 (b.alloc z4) λn=>af e b n/\lD 264 #[.agg #[v,x,y,z],B,.agg #[C,D,E,F]] n λV W X Z ab H=>af e n H/\qa H b V W X Z ab Q c n31))
def cW(a:J)(b:J)(w1:J)(Q:aa->J->Prop):Prop:=aT a (Y b) λc=>p8 a b w1 c Q
def rY(a:J)(c:J)(w1:J)(d:al)(Q:aa->J->Prop):Prop:=r1 a ((Y c).add 1) λe=>r1 a ((Y c).add 2) λf=>r1 a ((Y c).add 3) λg=>bI a (Y w1)
 [d,e,f,g]/\(4:Nat)=4/\ao (setCells a (Y w1) 0 [d,e,f,g]) λb=>aT b (Y w1) λh=>r1 b ((Y w1).add 1) λi=>r1 b ((Y w1).add 2) λj=>r1 b ((Y w1).add 3) λk=>Q (.agg #[h,i,j,k]) b
def jd(z:J)(l:ad)(c:J)(w:J)(to:Int)(w1:J)(Q:aa->J->Prop):Prop:=∃ (h:Int->J->Prop) (m:Int->J->Nat),h 0 z/\∀ (n19:Int) (b:J),h n19 b->ak (decide
 (n19<(l.len:Int))) (∃i:ag,l.a=some i/\aP n19 l.len/\r1 b (i.add (n19.toNat*2)) λn=>aF b ((i.add (n19.toNat*2)).add 1) λn23=>ao (b.alloc xy) λo=>bI o (Y b) [n,n23]/\(2:Nat)=2/\ao (setCells o (Y b) 0 [n,n23]) λd=>b5 (λp:J->Prop=>r1 d (Y b) λA=>ak (!(Option.isNone A.a)) (r1 d (Addr.add
 (Y c) 1) λB=>r1 d (Y b) λC=>ao (d.alloc (.cells #[C] 39)) λD=>p9 B d D c p) (p d)) (λg=>r1 g ((Y c).add 3) λE=>aF g ((Y
 b).add 1) λn36=>ao (g.alloc (.cells #[n36] 3)) λF=>∃q:ad,∃r:J,Sem.run aj (Builtin.append_ #[72,72] 72 #[E,.slice (some (Y g)) 1 1]) F=
 .ok q r/\st r ((Y c).add 3) q λs=>h (aq (n19+1)) s/\m (aq (n19+1)) s<m n19 b)) (ao (b.drew) λj=>¬False/\r1 j ((Y c).add 1)
 λG=>¬False/\r1 j ((Y w).add 1) λe=>((0:Int)<=(aq (to-1))/\(aq (to-1))<=(e.len:Int))/\∃t:ad,∃u:J,Sem.run aj (Builtin.append_ #[93,93] 93 #[G,.slice (aY e.a 1 ((aq (to-1)).toNat) e.cap) (e.len-((aq (to-1)).toNat)) (e.cap-((aq (to-1)).toNat))]) j=.ok t u/\st u ((Y c).add 1) t λH=>ao (H.drew) λk=>¬False/\r1 k ((Y c).add 3) λI=>¬False/\r1 k ((Y w).add 3) λf=>((0:Int)<=to/\to<=(f.len:Int))/\∃v:ad,∃x:J,Sem.run
 aj (Builtin.append_ #[72,72] 72 #[I,.slice (aY f.a 1 (to.toNat) f.cap) (f.len-(to.toNat)) (f.cap-(to.toNat))]) k=.ok v x/\
 st x ((Y c).add 3) v λy=>aT y (Y c) λK=>rY y c w1 K Q)
def jG(o:Array aa)(f:J)(c:Nat->Prop)(p:Array aa)(w1:J)(ai:J)(Q:aa->J->Prop)(q:ad):Prop:=ga 183 #[.agg o] f λg h i j d=>af c f d/\ga
 183 #[.agg p] d λk l m n b=>af c d b/\bI b (Y w1) [g,h,i,j]/\(4:Nat)=4/\ao (setCells b (Y w1) 0
 [g,h,i,j]) λe=>af c b e/\bI e (Y ai) [k,l,m,n]/\(4:Nat)=4/\ao (setCells e (Y ai) 0 [k,l,m,n]) λa=>aT a (Y w1) λr=>r1 a ((Y w1).add 1) λs=>
 r1 a ((Y w1).add 2) λt=>r1 a ((Y w1).add 3) λu=>aT a (Y ai) λv=>r1 a ((Y ai).add 1) λw=>r1 a ((Y ai).add 2) λx=>r1 a ((Y ai).add 3) λy=>Q (.tuple #[.agg
 #[r,s,t,u],q,.agg #[v,w,x,y],true]) a
def tY(d:Nat->Prop)(j:J)(e:J)(k:ad)(l:ad)(b:ad)(n29:Int)(m:av ag)(Q:aa->J->Prop):Prop:=af d j e/\∃g:ad,∃c:J,Sem.run aj (Builtin.append_
 #[22,22] 22 #[k,l]) e=.ok g c/\af d e c/\∃h:ad,∃f:J,Sem.run aj
 (Builtin.append_ #[22,22] 22 #[g,.slice (aY b.a 21 (n29.toNat) b.cap) (b.len-(n29.toNat)) (b.cap-(n29.toNat))]) c=.ok h f/\af d c f/\∃i:ag,m=some i/\st f (i.add 1) h λn=>Q (0:Int) n
def mh(A:J)(m:av ag)(n29:Int)(w:J)(Q:aa->J->Prop):Prop:=ao (A.drew) λd=>∃b:Nat->Prop,∃l:ag,m=some l/\¬b (l.add 1).block/\r1 d (l.add 1) λc=>((0:Int)
 <=n29/\n29<=(c.cap:Int))/\¬b ((Y w):ag).block/\∃f:O aa,bw d (Y w) 0 21=some f/\∃n:ag,m=some n/\¬b (n.add 1).block/\r1 d (n.add 1) λg=>((0:Int)<=n29/\n29<=
 (g.len:Int))/\(∃o:ad,∃e:J,Sem.run aj (Instr.buildSlice 22 0 #[]) d=.ok o e/\af b d e/\(∃p:ad,∃h:J,Sem.run aj (Builtin.append_
 #[22,22] 22 #[o,.slice (aY c.a 21 0 c.cap) ((n29.toNat)-0) (c.cap-0)]) e=.ok p h/\af b e h/\∃q:ad,
 ∃r:J,Sem.run aj (Instr.buildSlice 22 1 #[(0,.agg f.toArray)]) h=.ok q r/\tY b h r p q g n29 m Q)/\(∃s:ad,∃i:J,Sem.run aj
 (Instr.buildSlice 22 1 #[(0,.agg f.toArray)]) e=.ok s i/\af b e i/\∃t:ad,∃u:J,Sem.run aj (Builtin.append_ #[22,22]
 22 #[o,.slice (aY c.a 21 0 c.cap) ((n29.toNat)-0) (c.cap-0)]) i=.ok t u/\tY b i u t s g n29 m Q))/\(∃v:ad,∃j:J,
 Sem.run aj (Instr.buildSlice 22 1 #[(0,.agg f.toArray)]) d=.ok v j/\af b d j/\∃x:ad,∃k:J,Sem.run aj (Instr.buildSlice 22 0 #[]) j
 =.ok x k/\af b j k/\∃y:ad,∃z:J,Sem.run aj (Builtin.append_ #[22,22] 22 #[x,.slice (aY c.a 21 0
 c.cap) ((n29.toNat)-0) (c.cap-0)]) k=.ok y z/\tY b k z y v g n29 m Q)
def jH(a:J)(w1:J)(Q:aa->J->Prop):Prop:=aT a (Y w1) λb=>p_ a w1 Q b
def AX(a:J)(b:J)(w1:J)(Q:aa->J->Prop):Prop:=aT a (Y b) λc=>rY a b w1 c Q
def fx(a:J)(w:J)(Q:aa->J->Prop)(n7:Int):Prop:=aT a (Y w) λb=>r1 a ((Y w).add 1) λc=>r1 a ((Y w).add 2) λd=>r1 a ((Y w).add 3) λe=>Q (.tuple #[.agg #[b,c,d,e],n7]) a
def AY(g:ad)(n34:Int)(c:J)(d:J)(n:Int->J->Prop)(h:Int->J->Nat):Prop:=∃i:ag,g.a=some i/\aP n34 g.len/\r1 c (i.add (n34.toNat*1)) λo=>ao (c.drew) λe
 =>∃f:Nat->Prop,¬f ((Y d).add 2).block/\r1 e ((Y d).add 2) λp=>bD 46 #[o] e λq b=>af f e b/\ao (b.alloc (.cells #[q] 39)) λj=>af f b j/\∃k:ad,∃l:J,Sem.run aj (Builtin.append_ #[93,93] 93 #[p,.slice (some (Y b)) 1 1]) j=
 .ok k l/\st l ((Y d).add 2) k λm=>n (aq (n34+1)) m/\h (aq (n34+1)) m<h n34 c
def AZ(g:ad)(n17:Int)(c:J)(d:J)(m:Int->J->Prop)(h:Int->J->Nat):Prop:=∃j7:ag,g.a=some j7/\aP n17 g.len/\r1 c (j7.add (n17.toNat*1)) λn=>ao (c.drew) λe
 =>∃f:Nat->Prop,¬f ((Y d).add 1).block/\r1 e ((Y d).add 1) λo=>bD 46 #[n] e λp b=>af f e b/\ao (b.alloc (.cells #[p] 39)) λi=>af f b i/\∃j:ad,∃k:J,Sem.run aj (Builtin.append_ #[93,93] 93 #[o,.slice (some (Y b)) 1 1]) i=
 .ok j k/\st k ((Y d).add 1) j λl=>m (aq (n17+1)) l/\h (aq (n17+1)) l<h n17 c
def qb(c:al)(b:al->J->Prop)(a:J)(w:J):Prop:=ak (!c) (b true a) (aT a (Y w) λd=>r1 a ((Y w).add 1) λe=>r1 a ((Y w).add 2) λf=>r1 a ((Y w).add 3) λg
 =>b6 182 #[.agg #[d,e,f,g]] a λh i=>b (!h) i)
def xz(g:J)(ai:J)(w1:J)(h:J->Prop):Prop:=ao (g.drew) λb=>∃c:Nat->Prop,¬c ((Y ai).add 3).block/\r1 b ((Y ai).add 3) λi=>bY 252 #[.pointer (some (Y
 w1)),(2:Int)] b λn14 a=>af c b a/\ao (a.alloc (.cells #[n14] 3)) λd=>af c a d/\∃e:ad,∃f:J,Sem.run aj (Builtin.append_ #[72,72] 72 #[i,.slice (some (Y a)) 1 1]) d=.ok e f/\st f ((Y ai).add 3) e λj=>h j
def rZ(a:J)(w:J)(Q:aa->J->Prop):Prop:=aT a (Y w) λb=>r1 a ((Y w).add 1) λc=>r1 a ((Y w).add 2) λd=>r1 a ((Y w).add 3) λe=>Q (.tuple #[.agg #[b,
 c,d,e],(4:Int)]) a
def xA(l:aa)(m:J)(d:av ag)(n:J->Prop)(g:J->Nat)(o:J):Prop:=∃n15:Int,∃p:aa,∃h:J,Sem.run aj (Instr.entry (l)) m=.ok (.tuple #[n15,p])
 h/\ao (h.drew) λb=>∃i:Nat->Prop,∃g7:ag,d=some g7/\¬i (g7.add 4).block/\r1 b (g7.add 4) λj=>p5 118 #[d,n15] b λc e=>af i b e/\∃f:ag,
 j.a=some f/\aP n15 j.len/\bI e (f.add (n15.toNat*256)) (Array.toList c)/\Array.size c=256/\ao (setCells e (f.add (n15.toNat*256)) 0 (Array.toList c)) λk=>n k/\g k<g o
def xB(f:ad)(g:J)(b:J)(h:Nat->Prop)(i:O aa)(Q:aa->J->Prop):Prop:=∃c:ad,∃a:J,Sem.run aj (Builtin.append_ #[39,39] 39 #[f,.slice (some (Y g)) 2 2]) b=.ok c a/\af h b a/\bD 216 #[.agg i.toArray] a λj k=>∃d:ad,∃e:J,Sem.run aj (Builtin.append_
 #[39,39] 39 #[c,j]) k=.ok d e/\Q d e
def tZ(a:J)(b:ad)(c:J)(d:ad)(Q:aa->J->Prop):Prop:=ao (a.alloc (.cells #[b,.slice (some (Y c)) 2 2,d] 39)) λe=>bD
 103 #[.slice (some (Y a)) 3 3] e λf g=>Q (.tuple #[f,true]) g
def xC(h:ad)(j:ad)(c:J)(k:Nat->Prop)(l:av Nat)(i:Int)(d:av ag)(Q:aa->J->Prop):Prop:=∃e:ad,∃a:J,Sem.run aj (Builtin.append_ #[124,
 124] 124 #[h,j]) c=.ok e a/\af k c a/\∃b:J,Sem.run aj (Instr.mapUpdate 125
 (.map l) i e) a=.ok () b/\∃f:ag,d=some f/\aF b (f.add 6) λn24=>∃g:ag,d=some g/\st b (g.add 6) (.int .i64 (aq (n24+1))) λm=>Q (0:Int) m
def xD(c:ad)(b:Int)(d:ad)(f:Array aa):Prop:=∀e:J,Sem.run aj (Instr.build 169 #[(1,.slice (aY c.a 1 ((aq (b+1)).toNat) c.cap) (c.len-((aq (b+1)).toNat)) (c.cap
 -((aq (b+1)).toNat))),(3,.slice (aY d.a 1 ((aq (b+1)).toNat) d.cap) (d.len-((aq (b+1)).toNat)) (d.cap-((aq (b+1)).toNat)))]) e=.ok (.agg f) e
def t_(a:J)(w1:J)(Q:aa->J->Prop):Prop:=∃b:Array aa,Sem.run aj (Instr.build 55 #[]) a=.ok (.agg b) a/\bI a (Y w1) (Array.toList b)/\Array.size b=18/\ao
 (setCells a (Y w1) 0 (Array.toList b)) λc=>∃d:O aa,bw c (Y w1) 0 18=some d/\Q (.tuple #[.agg d.toArray,false]) c
def xE(c:ad)(b:Int)(d:ad)(f:Array aa):Prop:=∀e:J,Sem.run aj (Instr.build 169 #[(0,true),(1,.slice (aY c.a 1 (b.toNat) c.cap) (c.len-(b.toNat)) (c.cap-
 (b.toNat))),(2,.slice (aY d.a 1 (b.toNat) d.cap) (d.len-(b.toNat)) (d.cap-(b.toNat)))]) e=.ok (.agg f) e
def xF(a:ad):Prop:=(0:Int)<=(aq (232-(a.len:Int)))/\((aq (232-(a.len:Int))):Int)<=(aq (232-(a.len:Int)))/\((aq (232-(a.len:Int))):Int)<=kE/\((1:Nat):Int)*(aq (232-(a.len:Int)))<=
 140737488355328
def xG(a:J)(c:ad)(d:J)(e:ad)(f:J)(b:ad)(g:ad->J->Prop):Prop:=ao (a.alloc (.cells #[c,.slice (some (Y d)) (Int.toNat 4) (Int.toNat 4),e,.slice (some (Y f)) ((aq (232-(b.len:Int))).toNat) ((aq (232-(b.len:Int))).toNat)] 39)) λh=>bD 103 #[.slice (some (Y a)) 4 4] h λi j=>g i j
def xH(d:av ag)(a:J)(Q:aa->J->Prop):Prop:=∃b:ag,d=some b/\∃c:av Nat,a.cell? (b.add 5)=some (.map c)/\∃ (f:aa) (e:J),Sem.run aj (Builtin.clear_
 #[125] 0 #[.map c]) a=.ok f e/\Q (0:Int) e
def xI(b:ad)(d:Int)(c:ad)(f:Array aa):Prop:=∀e:J,Sem.run aj (Instr.build 169 #[(0,true),(1,.slice (aY b.a 1 0 b.cap) ((d.toNat)-0) (b.cap-0)),(2,.slice (aY
 c.a 1 0 c.cap) ((d.toNat)-0) (c.cap-0))]) e=.ok (.agg f) e
def xJ(b:ad)(d:Int)(c:ad)(f:Array aa):Prop:=∀e:J,Sem.run aj (Instr.build 169 #[(1,.slice (aY b.a 1 0 b.cap) ((d.toNat)-0) (b.cap-0)),(3,.slice (aY c.a 1 0
 c.cap) (((aq (d+1)).toNat)-0) (c.cap-0))]) e=.ok (.agg f) e
def ua(s:av ag)(Q:aa->J->Prop)(w:J):Prop:=ak (Option.isNone s) (Q () w) (∃a1:ag,s=some a1/\r1 w (a1.add 1) λs2=>bD 46 #[s2] w λ
 a b=>Q a b)
def xK(a:J)(w:J)(Q:aa->J->Prop):Prop:=aF a (Y w) λn9=>cr a ((Y w).add 1) λn10=>r1 a ((Y w).add 2) λb=>Q (.tuple #[.agg #[n9,.int .u64 n10,b],(4:Int)]) a
def xL(b:J)(w:J)(a:O aa)(Q:aa->J->Prop):Prop:=bI b (Y w) (Array.toList a.toArray)/\Array.size a.toArray=256/\ao (setCells b (Y w) 0 (Array.toList a.toArray)) λc=>∃d:O
 aa,bw c (Y w) 0 256=some d/\Q (.agg d.toArray) c
def xM(ai:J)(w:J)(fF:Array aa)(Q:aa->J->Prop):Prop:=bI ai (Y w) (Array.toList fF)/\Array.size fF=17/\ao (setCells ai (Y w) 0 (Array.toList fF)) λa=>∃b:O aa,bw a (Y w) 0
 17=some b/\Q (.tuple #[.agg b.toArray,true]) a
def r0(a:J)(b:J)(f:al)(g:ad)(h:ad)(i:ad)(n:Nat->Prop)(d:J)(j:al)(k:ad)(l:ad)(m:ad)(up:av ag)(n36:Int)(w:J)(o:J)(n31:Int)(Q:aa
 ->J->Prop)(c:av ag):Prop:=bI a (Y b) [f,g,h,i]/\(4:Nat)=4/\ao (setCells a (Y b) 0 [f,g,h,i]) λe=>af n a e/\bI e (Y d) [j,k,l,m]/\(4:
 Nat)=4/\ao (setCells e (Y d) 0 [j,k,l,m]) λp=>b1 up p n36 w o b d n31 Q c
def qc(h:Int)(Q:aa->J->Prop)(e:J)(c:av ag)(n41:Int)(d:J)(w:J)(up:av ag)(n36:Int)(n31:Int):Prop:=ak (h !=0) (Q (.tuple #[(),(0:Int),(0:Int),
 h]) e) (∃i:ag,c=some i/\r1 e (i.add 2) λx=>ao (e.alloc (.cells #[n41] 3)) λy=>∃j:ad,∃k:J,Sem.run aj (Builtin.append_ #[72,72] 72
 #[x,.slice (some (Y e)) 1 1]) y=.ok j k/\∃l:ag,c=some l/\st k (l.add 2) j λz=>ao (z.drew) λa=>∃b:Nat->
 Prop,¬b ((Y d):ag).block/\aT a (Y d) λm=>r1 a ((Y d).add 1) λn=>r1 a ((Y d).add 2) λo=>r1 a ((Y d).add 3) λp=>¬b ((Y w):ag).block/\aT a (Y w) λq=>
 r1 a ((Y w).add 1) λr=>r1 a ((Y w).add 2) λs=>r1 a ((Y w).add 3) λt=>(ao (a.alloc z4) λf=>af b a f/\ao (f.alloc z4) λu=>af b f u/\r0 u a m n o p b
 f q r s t up n36 w d n31 Q c)/\(ao (a.alloc z4) λg=>af b a g/\ao (g.alloc z4) λv=>af b g v/\r0 v g m n o p b a q r s t up n36 w d n31 Q c))
def uc(h:J)(w:J)(b:Int)(c:J)(w1:J)(ai:J)(Q:aa->J->Prop):Prop:=r1 h ((Y w).add 1) λj=>∃k:ag,j.a=some k/\aP b j.len/\r1 h (k.add (Int.toNat
 b*1)) λz=>bD 46 #[z] h λl i=>aT i (Y w) λA=>ak A (ao (i.drew) λd=>∃e:Nat->Prop,¬e ((Y c).add 1).block/\r1 d ((Y
 c).add 1) λm=>((0:Int)<=b/\b<=(m.cap:Int))/\¬e ((Y c).add 2).block/\r1 d ((Y c).add 2) λn=>((0:Int)<=b/\b<=(n.cap:Int))/\∃o:Array aa,(xI m b n
 o)/\¬e ((Y c).add 1).block/\r1 d ((Y c).add 1) λp=>((0:Int)<=b/\b<=(p.len:Int))/\¬e ((Y c).add 2).block/\r1 d ((Y c).add 2) λq=>((0:Int)<=b/\b<=(q.len:Int))
 /\∃r:Array aa,(xE p b q r)/\jG o d e r w1 ai Q l) (ao (i.drew) λf=>∃g:Nat->Prop,¬g ((Y c).add 1).block/\r1 f ((Y c).add 1) λs=>((0:Int)<=b/\b<=((s.cap:
 Nat):Int))/\¬g ((Y c).add 3).block/\r1 f ((Y c).add 3) λt=>((0:Int)<=(aq (b+1))/\(aq (b+1))<=(t.cap:Int))/\∃u:Array aa,(xJ s b t u)/\¬g ((Y c).add
 1).block/\r1 f ((Y c).add 1) λv=>((0:Int)<=(aq (b+1))/\(aq (b+1))<=(v.len:Int))/\¬g ((Y c).add 3).block/\r1 f ((Y c).add 3) λx=>((0:Int)<=(aq (b+1))/\(aq (b+1))<=
 (x.len:Int))/\∃y:Array aa,(xD v b x y)/\jG u f g y w1 ai Q l)
def ow(c:al)(d:ad)(e:ad)(f:ad)(a:J)(g:Nat->Prop)(h:J)(i:al)(j:ad)(k:ad)(l:ad)(m:J)(w:J)(key:ad)(ai:J)(Q:aa->J->Prop):Prop:=ga
 183 #[.agg #[c,d,e,f]] a λn o p q b=>af g a b/\bW b h i j k l m n o p q w key ai
 Q
def xN(g:J)(a:J)(c:Array aa)(w:J)(w1:J)(Q:aa->J->Prop):Prop:=bI g (Y a) (Array.toList c)/\Array.size c=4/\ao (setCells g (Y a) 0 (Array.toList c)) λh=>r1
 h ((Y w).add 1) λi=>∃ (d:Int->J->Prop) (k:Int->J->Nat),d 0 h/\∀ (n17:Int) (b:J),d n17 b->ak (decide (n17<(i.len:Int))) (AZ i n17 b a d k) (r1 b ((Y w).add 2) λ
 j=>∃ (e:Int->J->Prop) (l:Int->J->Nat),e 0 b/\∀ (n34:Int) (f:J),e n34 f->ak (decide (n34<(j.len:Int))) (AY j n34 f a e l) (AX f a w1 Q))
def xO(a:J)(w:J)(Q:aa->J->Prop)(n7:Int):Prop:=bI a (Y w) [false,(),(),()]/\(4:Nat)=4/\ao (setCells a (Y w) 0 [false,(),
 (),()]) λb=>fx b w Q n7
set_option maxRecDepth 100000
def ae.ox(s:ad)(w:J)(Q:aa->J->Prop):Prop:=ak (Option.isNone s.a) (Q () w) (ao (w.alloc (.cells #[] 5)) λw1=>∃s2:ad,∃b:J,Sem.run aj
 (Builtin.append_ #[39,39] 39 #[.slice (some (Y w)) 0 0,s]) w1=.ok s2 b/\Q s2 b)
def ax.ox:aN:=dt
def ae.oy(a:ad)(b:ad)(w:J)(Q:aa->J->Prop):Prop:=∃s1:ByteArray,∃ai:J,Sem.run aj (convert 39 9 a) w=.ok (.string s1) ai/\∃c:ByteArray,∃d
 :J,Sem.run aj (convert 39 9 b) ai=.ok (.string c) d/\Q (.bool (ByteArray.toList s1==ByteArray.toList c)) d
def ax.oy:aN:=(.q (.q .l))
def ae.ud(s:ad)(w:J)(Q:aa->J->Prop):Prop:=ak (Option.isNone s.a) (Q () w) (ao (w.alloc (.cells #[] 5)) λw1=>∃s2:ad,∃b:J,Sem.run aj
 (Builtin.append_ #[206,206] 206 #[.slice (some (Y w)) 0 0,s]) w1=.ok s2 b/\Q s2 b)
def ax.ud:aN:=dt
def ae.ue(x:Int)(w:J)(Q:aa->J->Prop):Prop:=(0:Int)<=x/\∃cx:UInt8,wV (ByteArray.mk #[0,1,1,2,1,2,2,3,1,2,2,3,2,3,3,4,1,2,2,3,2,3,3,4,2,3,3,4,3,4,4,5,1,2,
 2,3,2,3,3,4,2,3,3,4,3,4,4,5,2,3,3,4,3,4,4,5,3,4,4,5,4,5,5,6,1,2,2,3,2,3,3,4,2,3,3,4,3,4,4,5,2,3,3,4,3,4,4,5,3,4,4,5,4,5,5,6,2,3,3,4,3,4,4,5,3,4,4,5,4,5,5,6,3,4,
 4,5,4,5,5,6,4,5,5,6,5,6,6,7,1,2,2,3,2,3,3,4,2,3,3,4,3,4,4,5,2,3,3,4,3,4,4,5,3,4,4,5,4,5,5,6,2,3,3,4,3,4,4,5,3,4,4,5,4,5,5,6,3,4,4,5,4,5,5,6,4,5,5,6,5,6,6,7,2,3,
 3,4,3,4,4,5,3,4,4,5,4,5,5,6,3,4,4,5,4,5,5,6,4,5,5,6,5,6,6,7,3,4,4,5,4,5,5,6,4,5,5,6,5,6,6,7,4,5,5,6,5,6,6,7,5,6,6,7,6,7,7,8]) (x.toNat)=some cx/\Q (.int .i64 (aq ((cx.toNat
 :Nat):Int))) w
def ax.ue:aN:=(.q (.q .l))
def ae.uf(s:ad)(i:Int)(j:Int)(w:J)(Q:aa->J->Prop):Prop:=((0:Int)<=(s.len:Int)/\(s.len:Int)<=(s.cap:Int))/\((0:Int)<=j/\j<=(((Int.toNat (s.len:Int)):Nat):
 Int))/\((0:Int)<=i/\i<=(((j.toNat):Nat):Int))/\ak (i==j) (Q s w) (ao (w.drew) λw1=>((0:Int)<=i/\i<=(s.cap:Int))/\((0:Int)<=j/\j<=(s.len:Int))/\∃s2:ad,∃b:J,
 Sem.run aj (Builtin.append_ #[93,93] 93 #[.slice (aY s.a 1 0 s.cap) ((i.toNat)-0) (s.cap-0),.slice (aY s.a 1 (j.toNat) s.cap) (s.len-(j.toNat)) (s.cap-(j.toNat))]) w1
 =.ok s2 b/\((0:Int)<=(s.len:Int)/\(s.len:Int)<=(s2.cap:Int))/\((0:Int)<=(s2.len:Int)/\(s2.len:Int)<=(((Int.toNat (s.len:Int)):Nat):Int))/\∃ (aT:aa) (c:J),Sem.run aj
 (Builtin.clear_ #[93] 0 #[.slice (aY s2.a 1 (Int.toNat (s2.len:Int)) s2.cap) ((Int.toNat (s.len:Int))-(Int.toNat (s2.len:Int))) (s2.cap-(Int.toNat (s2.len:Int)))]) b=.ok aT c/\Q s2 c)
def ax.uf:aN:=(.q (.q (.s a1 (.q (.s (.d 6 false [0,0,502,0,0,1004003,1005002,507] [0,0,502,0,0,1004003,1005002,1006003000] [7020,1] [1,2,1021020,1,3,1024023,1025022,27] (.z 6 0 (.tail [.r,.r]))) (.q (.q
 .l)))))))
def ae.ug(s:ad)(i:Int)(v:ad)(w:J)(Q:aa->J->Prop):Prop:=((0:Int)<=i/\i<=(s.len:Int))/\ak ((v.len:Int)==0) (Q s w) (ak (i==(s.len:Int)) (∃s1:ad,
 ∃ai:J,Sem.run aj (Builtin.append_ #[93,93] 93 #[s,v]) w=.ok s1 ai/\Q s1 ai) (ak (decide
 (((aq ((s.len:Int)+(v.len:Int))):Int)>(s.cap:Int))) (((0:Int)<=i/\i<=(s.cap:Int))/\∃b:ad,∃d:J,Sem.run aj (Builtin.append_ #[93,3] 93 #[.slice (aY s.a 1 0
 s.cap) ((i.toNat)-0) (s.cap-0),.int .i64 (aq ((aq ((s.len:Int)+(v.len:Int)))-i))]) w=.ok b d/\((0:Int)<=i/\i<=(b.len:Int))/\∃n5:Int,∃e:J,Sem.run aj (Builtin.copy_
 #[93,93] 3 #[.slice (aY b.a 1 (i.toNat) b.cap) (b.len-(i.toNat)) (b.cap-(i.toNat)),v]) d=.ok n5 e/\ao (e.drew) λl=>((0:Int)<=(aq (i+
 (v.len:Int)))/\(aq (i+(v.len:Int)))<=(b.len:Int))/\((0:Int)<=i/\i<=(s.len:Int))/\∃n8:Int,∃f:J,Sem.run aj (Builtin.copy_ #[93,93] 3 #[.slice (aY b.a 1 ((aq (i+
 (v.len:Int))).toNat) b.cap) (b.len-((aq (i+(v.len:Int))).toNat)) (b.cap-((aq (i+(v.len:Int))).toNat)),.slice (aY s.a 1 (i.toNat) s.cap) (s.len-(i.toNat)) (s.cap-(i.toNat))]) l=.ok n8 f/\Q
 b f) (((0:Int)<=(aq ((s.len:Int)+(v.len:Int)))/\(aq ((s.len:Int)+(v.len:Int)))<=(s.cap:Int))/\((0:Int)<=(aq (i+(v.len:Int)))/\(aq (i+(v.len:Int)))<=(((((aq ((s.len:Int)+
 (v.len:Int))).toNat)-0):Nat):Int))/\∃g:al,∃c:J,Sem.run aj (callFunc 248 #[v,.slice (aY (aY s.a 1 0 s.cap) 1 ((aq (i+(v.len:Int))).toNat) (s.cap-0))
 ((((aq ((s.len:Int)+(v.len:Int))).toNat)-0)-((aq (i+(v.len:Int))).toNat)) ((s.cap-0)-((aq (i+(v.len:Int))).toNat))]) w=.ok (.value g) c/\ak (!g) (ao (c.drew) λm=>((0:Int)<=(aq (i+
 (v.len:Int)))/\(aq (i+(v.len:Int)))<=(((((aq ((s.len:Int)+(v.len:Int))).toNat)-0):Nat):Int))/\((0:Int)<=i/\i<=(((((aq ((s.len:Int)+(v.len:Int))).toNat)-0):Nat):Int))/\∃n13:Int,∃h:J,Sem.run
 aj (Builtin.copy_ #[93,93] 3 #[.slice (aY (aY s.a 1 0 s.cap) 1 ((aq (i+(v.len:Int))).toNat) (s.cap-0)) ((((aq ((s.len:Int)+(v.len:Int))).toNat)-0)-((aq (i+
 (v.len:Int))).toNat)) ((s.cap-0)-((aq (i+(v.len:Int))).toNat)),.slice (aY (aY s.a 1 0 s.cap) 1 (i.toNat) (s.cap-0)) ((((aq ((s.len:Int)+(v.len:Int))).toNat)-0)-(i.toNat)) ((s.cap-0)-(i.toNat))]) m=
 .ok n13 h/\((0:Int)<=i/\i<=(((((aq ((s.len:Int)+(v.len:Int))).toNat)-0):Nat):Int))/\∃n15:Int,∃j:J,Sem.run aj (Builtin.copy_ #[93,93] 3 #[.slice (aY (aY
 s.a 1 0 s.cap) 1 (i.toNat) (s.cap-0)) ((((aq ((s.len:Int)+(v.len:Int))).toNat)-0)-(i.toNat)) ((s.cap-0)-(i.toNat)),v]) h=.ok n15 j/\Q (.slice (aY s.a 1 0 s.cap)
 (((aq ((s.len:Int)+(v.len:Int))).toNat)-0) (s.cap-0)) j) (((0:Int)<=(s.len:Int)/\(s.len:Int)<=(((((aq ((s.len:Int)+(v.len:Int))).toNat)-0):Nat):Int))/\∃n17:Int,∃k:J,Sem.run aj
 (Builtin.copy_ #[93,93] 3 #[.slice (aY (aY s.a 1 0 s.cap) 1 (Int.toNat (s.len:Int)) (s.cap-0)) ((((aq ((s.len:Int)+(v.len:Int))).toNat)-0)-(Int.toNat (s.len:Int))) ((s.cap-0)-(Int.toNat
 (s.len:Int))),v]) c=.ok n17 k/\((0:Int)<=i/\i<=(((((aq ((s.len:Int)+(v.len:Int))).toNat)-0):Nat):Int))/\gJ 249 #[.slice (aY (aY s.a 1 0 s.cap) 1
 (i.toNat) (s.cap-0)) ((((aq ((s.len:Int)+(v.len:Int))).toNat)-0)-(i.toNat)) ((s.cap-0)-(i.toNat)),.int .i64 (v.len:Int)] k λn=>Q (.slice (aY s.a 1 0 s.cap) (((aq ((s.len:Int)+
 (v.len:Int))).toNat)-0) (s.cap-0)) n))))
def ax.ug:aN:=(.q (.q (.q (.s a1 (.q (.s a1 (.s (.q (.c (.q (.q (.s (.e 8 false [0,0,0,1002001,1003000,0,0,1006005,1007004] [9046] [10,2,8,1048047,1049046,1,2,1052051,1053050] (.z 8 0 .e)) (.q .l)))) .l))
 (.q (.s (.q (.c (.s (.e 8 false [0,0,0,1002001,1003000,0,0,1006005,1007004] [9069] [1,2,8,1071070,1072069,1,2,1075074,1076073] (.z 8 0 .e)) (.q (.q .l))) .l)) a3)))))))))
def ae.lE(a:ad)(b:ad)(w:J)(Q:aa->J->Prop):Prop:=∃cc:Int,∃ai:J,Sem.run aj (callFunc 259 #[a,b]) w=.ok (.value cc) ai/\Q cc ai
def ax.lE:aN:=(.q (.q .l))
def ae.uh(x:ad)(target:ad)(cmp:ik)(w:J)(Q:aa->J->Prop):Prop:=∃ (d:Int->Int->J->Prop) (e:Int->Int->J->Nat),d 0 (x.len:Int) w/\∀ (b:Int)
 (bV:Int) (c:J),d b bV c->ak (decide (b<bV)) ((0:Int)<=1/\∃dK:ag,x.a=some dK/\((0:Int)<=(aq (Int.fdiv (IntKind.wrap .u64 (aq (b+bV))) (2^(min (Int.toNat 1) 64))))/\(aq (Int.fdiv (IntKind.wrap .u64 (aq
 (b+bV))) (2^(min (Int.toNat 1) 64))))<(x.len:Int))/\r1 c (dK.add (Int.toNat (aq (Int.fdiv (IntKind.wrap .u64 (aq (b+bV))) (2^(min (Int.toNat 1) 64))))*1)) λh=>hX aj cmp.f/\Calls aj cmp.f (cmp.pre
 ++ #[.slice h.a h.len h.cap,.slice target.a target.len target.cap]++cmp.cap) c λk g=>∃n10:Int,k=.returned (.int .i64 n10)/\ak (decide (n10<0)) (d (aq ((aq (Int.fdiv (IntKind.wrap .u64 (aq (b+bV))) (2^(min
 (Int.toNat 1) 64))))+1)) bV g/\e (aq ((aq (Int.fdiv (IntKind.wrap .u64 (aq (b+bV))) (2^(min (Int.toNat 1) 64))))+1)) bV g<e b bV c) (d b (aq (Int.fdiv (IntKind.wrap .u64 (aq (b+bV))) (2^(min (Int.toNat 1) 64)))) g
 /\e b (aq (Int.fdiv (IntKind.wrap .u64 (aq (b+bV))) (2^(min (Int.toNat 1) 64)))) g<e b bV c)) (b5 (λj:al->J->Prop=>ak (decide (b<(x.len:Int))) (∃eD:ag,x.a=some eD/\aP b x.len/\r1 c (eD.add
 (Int.toNat b*1)) λi=>hX aj cmp.f/\Calls aj cmp.f (cmp.pre++ #[.slice i.a i.len i.cap,.slice target.a target.len target.cap]++cmp.cap) c λl m=>∃n16:Int,l=.returned (.int .i64 n16)/\
 j (n16==0) m) (j false c)) (λ(n:al) o=>Q (.tuple #[.int .i64 b,.bool n]) o))
def ax.uh:aN:=(.q (.q (.q (.s (.bU (.loop [(9,(.int .i64)),(10,(.int .i64))] [0,1,2,8] (.s (.q (.c .l .l)) (.bU (.q (.q (.c .r .r))))))) (.s (.z [15,25]) .l)))))
def ae.ui(s:ad)(f:ik)(w:J)(Q:aa->J->Prop):Prop:=bY 260 #[s,.func (.func f.f) f.pre f.cap] w λa w1=>Q (.bool
 (decide (a>=0))) w1
def ax.ui:aN:=(.q (.q .l))
def ae.uj(s:ad)(f:ik)(w:J)(Q:aa->J->Prop):Prop:=bY 261 #[s,.func (.func f.f) f.pre f.cap] w λa w1=>Q (.bool (decide (a>=0))) w1
def ax.uj:aN:=(.q (.q .l))
def ae.uk(s:ad)(w:J)(Q:aa->J->Prop):Prop:=ak (Option.isNone s.a) (Q () w) (ao (w.alloc (.cells #[] 3)) λw1=>∃s2:ad,∃b:J,Sem.run aj (Builtin.append_
 #[72,72] 72 #[.slice (some (Y w)) 0 0,s]) w1=.ok s2 b/\Q s2 b)
def ax.uk:aN:=dt
set_option maxRecDepth 100000
def ae.r2(s:ad)(f:ik)(w:J)(Q:aa->J->Prop):Prop:=∃ (d:Int->J->Prop) (h:Int->J->Nat),d 0 w/\∀ (b:Int) (c:J),d b c->ak (decide (b<(s.len:Int)))
 (∃a5:ag,s.a=some a5/\aP b s.len/\r1 c (a5.add (Int.toNat b*1)) λe=>hX aj f.f/\Calls aj f.f (f.pre++ #[.slice e.a e.len e.cap]++f.cap) c λj g=>∃i:al,j=.returned (.bool i)/\
 ak i (Q (.int .i64 b) g) (d (aq (b+1)) g/\h (aq (b+1)) g<h b c)) (Q (.int .i64 (-1)) c)
def ax.r2:aN:=g7
theorem ae.EP(s:ad)(f:ik)(w:J)(Q:aa->J->Prop)(h:ae.r2 s f w Q):aJ aj 260 #[.slice s.a s.len s.cap,.func (.func f.f) f.pre f.cap] w Q:=okF (λw Q=>ae.r2 s f w Q) ax.r2 func260 h
def ae.r3(s:ad)(f:ik)(w:J)(Q:aa->J->Prop):Prop:=∃ (d:Int->J->Prop) (g:Int->J->Nat),d 0 w/\∀ (b:Int) (c:J),d b c->ak (decide (b<(s.len:Int))) (∃a5:
 ag,s.a=some a5/\aP b s.len/\aF c (a5.add (Int.toNat b*1)) λn6=>hX aj f.f/\Calls aj f.f (f.pre++ #[.int .i64 n6]++f.cap) c λi e=>∃h:al,i=.returned (.bool h)/\ak h (Q (.int .i64
 b) e) (d (aq (b+1)) e/\g (aq (b+1)) e<g b c)) (Q (.int .i64 (-1)) c)
def ax.r3:aN:=g7
theorem ae.ER(s:ad)(f:ik)(w:J)(Q:aa->J->Prop)(h:ae.r3 s f w Q):aJ aj 261 #[.slice s.a s.len s.cap,.func (.func f.f) f.pre f.cap] w Q:=okF (λw Q=>ae.r3 s f w Q) ax.r3 func261 h
def ae.um(s:ad)(w:J)(Q:aa->J->Prop):Prop:=ak (Option.isNone s.a) (Q () w) (ao (w.alloc (.cells #[] 39)) λw1=>∃s2:ad,∃b:J,Sem.run aj
 (Builtin.append_ #[93,93] 93 #[.slice (some (Y w)) 0 0,s]) w1=.ok s2 b/\Q s2 b)
def ax.um:aN:=dt
set_option maxRecDepth 100000
def ae.oz(a:av ag)(cV:Int)(w:J)(Q:aa->J->Prop):Prop:=ak (((Option.isNone a)||(decide (cV<1)))||(decide (cV>64))) (Q (.tuple #[.pointer none,(1:Int)]) w) (ao (w.alloc (.cells
 #[a,(),cV] 110)) λw1=>Q (.tuple #[.pointer (some (Y w)),(0:Int)]) w1)
def ax.oz:aN:=a5
def ae.uo(s:av ag)(now:Int)(w:J)(Q:aa->J->Prop):Prop:=ak (Option.isNone s) (Q (.tuple #[(0:Int),(1:Int)]) w) (ao (w.drew) λw1=>∃a:Nat->Prop,∃a3:ag,s=some a3/\¬
 a a3.block/\∃b:av ag,w1.cell? a3=some (b)/\∃a5:ag,s=some a5/\¬a (a5.add 1).block/\r1 w1 (a5.add 1) λd=>∃c9:ag,s=some c9/\¬a (c9.add 2).block/\aF w1 (c9.add 2) λn8=>AT
 45 #[b,d,.int .u64 now,n8] w1 λe n12 n13 c=>ak (n13 !=0) (Q (.tuple #[(0:Int),n13]) c) (∃eX:ag,s=some eX/\st c (eX.add 1) e λf=>Q (.tuple #[n12,(0:Int)]) f))
def ax.uo:aN:=(.q (.s a1 (.s (.d 20 true [0,3000,0,3004,0,0,3009,1000000004488,2013,15,15,516,1000000393215,520] [0,3000,0,3004,0,0,3009,1000000004488,2013,15,4014] [14012,12,3026,3006]
 [1,3012,1,3016,2,1,3021,1000018382848,26,12,12,12,3026] (.z 13 0 (.out 13 false (.z 6 14 .e)))) gb)))
def ae.uq(s:av ag)(w:J)(Q:aa->J->Prop):Prop:=ua s Q w
def ax.uq:aN:=dt
def ae.ur(a:av ag)(w:J)(Q:aa->J->Prop):Prop:=j6 38 #[a] w λb w1=>bY 48 #[b] w1 λn6 c=>Q n6 c
def ax.ur:aN:=(.q (.q .l))
def ae.qd(n:Int)(w:J)(Q:aa->J->Prop):Prop:=ak ((decide (n<16))||(decide (n>1600))) (Q (.tuple #[.pointer none,(1:Int)]) w) (((0:Int)<=n/\n<=n/\n<=kE/\((256:Nat):Int)*n<=
 140737488355328)/\ao (w.alloc (.cells (gS aj 151 (n.toNat)) 151)) λw1=>∃b:av Nat,∃a:J,Sem.run aj (Instr.makeMap 125 none) w1=.ok (.map b) a/\∃fF:
 Array aa,Sem.run aj (Instr.build 129 #[(1,.slice (some (Y w)) (n.toNat) (n.toNat)),(2,.map b)]) a=.ok (.agg fF) a/\ao (a.alloc (.cells fF 129)) λc=>∃dK:ag,(some (Y a):av
 ag)=some dK/\gJ 52 #[.pointer (some dK)] c λd=>Q (.tuple #[.pointer (some (Y a)),(0:Int)]) d)
def ax.qd:aN:=(.q (.s c9 a3))
def ae.oA(d:av ag)(s:Int)(t:Int)(u:Int)(w:J)(Q:aa->J->Prop):Prop:=ao (w.alloc (.cells #[s,t,.int .u64 u] 64)) λw1=>
 aF w1 (Y w) λbA=>aF w1 ((Y w).add 1) λv=>cr w1 ((Y w).add 2) λbV=>b6 53 #[d,.agg #[bA,v,.int .u64 bV]] w1 λx l=>ak (!x) (Q (.tuple #[.pointer none,(1:Int)]) l) (bY 55 #[d] l λn10 y=>h5 54 #[n10,(3:Int)] y λm n14 n=>ak (n14 !=0) (Q (.tuple #[.pointer none,n14]) n) (bD 57 #[m] n λ
 z A=>ey 56 #[(2:Int),.agg #[(4:Int),.int .u64 1,z]] A λB n21 f=>ak (n21 !=0) (Q (.tuple #[.pointer none,n21]) f) (((0:Int)<=256/\(256:Int)<=256/\(256:
 Int)<=kE/\((1:Nat):Int)*256<=140737488355328)/\ao (f.alloc (.cells (gS aj 5 (Int.toNat 256)) 5)) λi=>∃o:Array aa,Sem.run aj (Instr.build 138 #[(0,.slice (some (Y f))
 (Int.toNat 256) (Int.toNat 256)),(1,.slice (some (Y f)) (Int.toNat 256) (Int.toNat 256)),(2,B)]) i=.ok (.agg o) i/\∃ (j:Int->J->Prop) (p:Int->J->Nat),j 0 i/\∀ (n26:Int)
 (g:J),j n26 g->ak (decide (n26<3)) (((0:Int)<=n26/\n26<((3:Nat):Int))/\∃h:ad,cellAt o (n26.toNat*1)=some (.slice h.a h.len h.cap)/\bY 58 #[d,n26,h] g λn31 k=>ak (n31 !=0) (Q (.tuple #[.pointer none,n31]) k) (j (aq (n26+1)) k/\p (aq (n26+1)) k<p n26 g)) (bY 59 #[d] g λn34 b=>ak (n34 !=0)
 (Q (.tuple #[.pointer none,n34]) b) (ao (b.alloc jF) λq=>bI q (Y b) [(0:Int),(0:Int),(2:Int),.int .u64 0,.int .u64 0,(0:Int)]/\(6:Nat)=6/\ao (setCells q (Y b) 0 [(0:Int),
 .int .i64 0,(2:Int),.int .u64 0,.int .u64 0,(0:Int)]) λe=>aF e (Y b) λn37=>aF e ((Y b).add 1) λn38=>aF e ((Y b).add 2) λn39=>cr e ((Y b).add 3) λn40=>cr e (Addr.add
 (Y b) 4) λn41=>aF e ((Y b).add 5) λC=>bY 60 #[d,.agg #[n37,n38,n39,.int .u64 n40,.int .u64 n41,C],.int .u64 1] e λr c=>ak (r !=0)
 (Q (.tuple #[.pointer none,r]) c) (aF c (Y w) λD=>aF c ((Y w).add 1) λE=>cr c ((Y w).add 2) λF=>aF c (Y b) λG=>aF c ((Y b).add 1) λH=>aF c ((Y
 b).add 2) λI=>cr c ((Y b).add 3) λK=>cr c ((Y b).add 4) λL=>aF c ((Y b).add 5) λM=>h5 61 #[d,.agg #[D,E,.int .u64 F],.agg #[G,H,I,.int .u64 K,.int .u64 L,M],.int .u64 1,m] c λN O P=>Q (.tuple #[N,O]) P))))))
def ax.oA:aN:=(.q (.s a1 (.q (.s a1 (.q (.s a1 (.q (.s (.q (.bU (.loop [(44,(.int .i64))] [0,3,6,43] j7))) (.s (.q a1) (.q (.s (.q a1) (.q .l))))))))))))
theorem ae.ES(d:av ag)(a:Int)(b:Int)(c:Int)(w:J)(Q:aa->J->Prop)(h:ae.oA d a b c w Q):aJ aj 21 #[d,.agg #[a,b,.int .u64 c]] w Q:=okF (λw Q=>ae.oA d a b c w Q) ax.oA func21 h
def ae.uu(s:av ag)(key:ad)(w:J)(Q:aa->J->Prop):Prop:=b5 (λb9:al->J->Prop=>ak (Option.isNone s) (b9 true w) (b6 63 #[key] w λh ai=>b9
 (!h) ai)) (λ(i:al) a=>ak i (Q (.tuple #[false,(1:Int)]) a) (∃c9:ag,s=some c9/\aT a (c9.add 18) λj=>ak j (Q (.tuple #[false,(8:Int)]) a) (∃a9:ag,s=some a9/\∃d:av ag,
 a.cell? a9=some (d)/\nc 64 #[d,key] a λo k n15 b=>ak (n15 !=0) (bY 65 #[s,n15] b λn18 l=>Q (.tuple #[false,
 n18]) l) (ak (!k) (Q (.tuple #[false,(0:Int)]) b) (bY 66 #[s] b λn21 c=>ak (n21==0) (Q (.tuple #[false,(2:Int)]) c) (∃e:ag,s=some e/\∃f:av
 ag,c.cell? e=some (f)/\nd 67 #[f,key] c λp n27 g=>ak (n27 !=0) (bY 65 #[s,n27] g λn30 m=>Q (.tuple
 #[false,n30]) m) (bY 68 #[s,.int .i64 (-1)] g λn33 n=>Q (.tuple #[.bool (n33==0),n33]) n)))))))
def ax.uu:aN:=(.q (.s (.bU (.s (.z [9,10]) (.c (.q .l) a1))) (.q (.s (.bU (.q (.c (.q .l) g8))) (.s (.q a1) (.q (.q .l)))))))
def ae.uv(s:av ag)(key:ad)(val:ad)(w:J)(Q:aa->J->Prop):Prop:=b5 (λb9:al->J->Prop=>ak (Option.isNone s) (b9 true w) (b6 63 #[key] w λh
 ai=>b9 (!h) ai)) (λ(i:al) a=>ak (i||(decide ((val.len:Int)>24))) (Q (1:Int) a) (∃c9:ag,s=some c9/\aT a (c9.add 18) λj=>ak j (Q (8:Int) a) (bY 66 #[s] a λn11 b
 =>ak (n11==0) (Q (2:Int) b) (∃eD:ag,s=some eD/\∃e:av ag,b.cell? eD=some (e)/\nc 64 #[e,key] b λp k n18 c=>ak (n18 !=0) (bY
 65 #[s,n18] c λn21 l=>Q n21 l) (∃f:ag,s=some f/\∃g:av ag,c.cell? f=some (g)/\bY 73 #[g,key,val] c λn26 d=>ak (n26 !=0) (bY 65 #[s,n26] d λn29 m=>Q n29 m) (ak k (bY 68 #[s,(0:Int)] d λn32
 n=>Q n32 n) (bY 68 #[s,(1:Int)] d λn35 o=>Q n35 o)))))))
def ax.uv:aN:=(.q (.s (.bU (.s (.z [9,10,12,11]) (.c (.q .l) g8))) (.q (.s a1 (.s (.q a1) (.s a1 (.q .l)))))))
def ae.qe(s:av ag)(most:Int)(w:J)(Q:aa->J->Prop):Prop:=ak (((Option.isNone s)||(decide (most<1)))||(decide (most>400))) (Q (.tuple #[.pointer none,(1:Int)]) w) (ao (w.alloc (.cells
 #[s,most] 120)) λw1=>Q (.tuple #[.pointer (some (Y w)),(0:Int)]) w1)
def ax.qe:aN:=a5
def ae.uw(a:av ag)(w:J)(Q:aa->J->Prop):Prop:=ak (Option.isNone a) (Q (.pointer none) w) (∃a1:ag,a=some a1/\∃bh:av ag,w.cell? a1=some (bh)/\Q (bh) w)
def ax.uw:aN:=dt
def ae.r4(a:av ag)(t:Array aa)(w:J)(Q:aa->J->Prop):Prop:=ao (w.alloc (.cells t 57)) λw1=>b5 (λct:al->J->Prop=>ak (Option.isNone a) (ct true w1) (∃h:O
 aa,bw w1 (Y w) 0 21=some h/\b6 96 #[.agg h.toArray] w1 λu v=>ct (!u) v)) (λ(x:al) c=>ak x (Q (1:Int) c) (aF c (Y w) λn9=>∃i:O aa,bw c ((Y w).add 1) 0 18=
 some i/\jD 97 #[n9,.agg i.toArray] c λe C f=>aF f ((Y w).add 19) λn15=>cr f ((Y w).add 20) λn16=>jD 98 #[n15,.int .u64 n16] f λj D k=>∃l:
 ag,a=some l/\∃m:av ag,k.cell? l=some (m)/\nc 50 #[m,e] k λE y n27 n=>ak (n27 !=0) (Q n27 n) (ao (n.drew) λb=>∃
 o:Nat->Prop,ak (!y) (∃g:ag,a=some g/\¬o (g.add 1).block/\aF b (g.add 1) λn31=>bY 17 #[a] b λn34 d=>af o b d/\ak (decide (n34>=n31)) (Q (2:Int) d) (∃p
 :ag,a=some p/\∃q:av ag,d.cell? p=some (q)/\bY 27 #[q,e,j] d λn39 z=>Q n39 z)) (ak false (Q
 (2:Int) b) (∃r:ag,a=some r/\∃s:av ag,b.cell? r=some (s)/\bY 27 #[s,e,j] b λA B=>Q A B)))))
def ax.r4:aN:=(.q (.s dK (.q (.q (.q (.s (.bU (.q (.c (.q .l) (.s (.d 9 true [0,3000,1003002,3,1005002,1006002,1007002,1008004002,1009002,1010004] [0,3000,1003002,3,1005002,1006002,1007002,1008004002,1009002,11] [11050,50]
 [11,2050,1052000,1053052,1052000,1055052,1056052,1057052,1058054052,1059052,61] (.z 3 0 (.sp 52 (.t 3 (.z 4 5 (.bR 4 (.tail [.r,.r,.r])))) (.z 6 3 (.tail [.r,.r,.r]))))) (.c (.q .l) .l))))) (.q .l)))))))
theorem ae.ET(a:av ag)(t:Array aa)(w:J)(Q:aa->J->Prop)(h:ae.r4 a t w Q):aJ aj 43 #[a,.agg t] w Q:=okF (λw Q=>ae.r4 a t w Q) ax.r4 func43 h
def ae.ux(a:av ag)(i:ad)(now:Int)(most:Int)(w:J)(Q:aa->J->Prop):Prop:=ao (w.alloc (.cells #[.int .u64 now] 23)) λw1=>ak (Option.isNone a) (Q (.tuple #[(),
 .int .i64 0,(1:Int)]) w1) (∃bA:Int,∃d:J,Sem.run aj (Builtin.min_ #[3,3] 3 #[most,(64:Int)]) w1=.ok bA d/\ak (decide (bA<1)) (Q (.tuple #[(),(0:Int),
 .int .i64 0]) d) (∃a4:ag,a=some a4/\∃e:av ag,d.cell? a4=some (e)/\ey 102 #[e,i,(),.int .i64 (aq (bA+1))] d λb n9 c=>
 ak (n9 !=0) (Q (.tuple #[(),(0:Int),n9]) c) (b5 (λf:ad->ad->J->Prop=>ak (decide ((b.len:Int)>bA)) (((0:Int)<=bA/\bA<=(b.cap:Int))/\∃ei:ag,(aY b.a 2 0 b.cap)=
 some ei/\((0:Int)<=(aq (bA-1))/\(aq (bA-1))<((((bA.toNat)-0):Nat):Int))/\r1 c (ei.add ((aq (bA-1)).toNat*2)) λj=>ao (c.alloc (.cells #[.int .u8 0] 5)) λg=>ao (g.alloc (.cells #[j,.slice (some (Y c)) 1 1] 39)) λk=>bD 103 #[.slice (some (Y g)) 2 2] k λl m=>f l ⟨(aY b.a 2 0 b.cap),((bA.toNat)-0),(b.cap-0)⟩ m) (f ⟨none,0,0⟩ b c))
 (λ(n:ad) (o:ad) p=>gK 104 #[a,o,.func (.func 105) #[] #[.pointer (some (Y w))]] p λn23 n24 h=>ak (n24 !=0) (Q (.tuple #[(),
 .int .i64 0,n24]) h) (Q (.tuple #[n,n23,(0:Int)]) h)))))
def ax.ux:aN:=(.q (.s a1 (.q (.s a1 (.q (.s a1 (.s (.fm [(8,.slice),(11,.slice)] [0,6] (.q (.c (.q .r) .l))) dt)))))))
def ae.xP(s:av ag)(w:J)(Q:aa->J->Prop):Prop:=ak (Option.isNone s) (Q (0:Int) w) (∃a1:ag,s=some a1/\aF w (a1.add 17) λbA=>Q bA w)
def ax.xP:aN:=dt
def ae.uy(s:av ag)(key:ad)(w:J)(Q:aa->J->Prop):Prop:=ak (Option.isNone s) (Q (.tuple #[(),false,(1:Int)]) w) (∃a1:ag,s=some a1/\∃bh:av ag,w.cell? a1
 =some (bh)/\nc 64 #[bh,key] w λa b n7 c=>Q (.tuple #[a,b,n7]) c)
def ax.uy:aN:=dt
def ae.qf(key:ad)(val:ad)(w:J)(Q:aa->J->Prop):Prop:=ao (w.alloc ir) λw1=>nf 106 #[key,(0:Int),(2:Int)] w1 λbV C ai=>ak (((!C)||(decide ((key.len:Int)
 <4)))||((val.len:Int) !=10)) (∃e:Array aa,Sem.run aj (Instr.build 57 #[]) ai=.ok (.agg e) ai/\bI ai (Y w) (Array.toList e)/\Array.size e=21/\ao (setCells ai (Y w) 0 (Array.toList e)) λn
 =>∃o:O aa,bw n (Y w) 0 21=some o/\Q (.tuple #[.agg o.toArray,false]) n) (((0:Int)<=4/\4<=(key.len:Int))/\jE 107 #[.slice (aY key.a 1 (Int.toNat 4) key.cap) (key.len-(Int.toNat 4)) (key.cap-
 (Int.toNat 4))] ai λi M d=>ao (d.alloc z3) λp=>bI p (Y d) (Array.toList i)/\Array.size i=17/\ao (setCells p (Y d) 0 (Array.toList i)) λD=>nf 106 #[val,(0:Int),(2:Int)] D λn17 N E=>nf 106 #[val,(2:Int),(8:Int)] E λn21 P F=>ao (F.drew) λb=>∃j:Nat->Prop,¬j ((Y d):ag).block/\∃q:O aa,
 bw b (Y d) 0 17=some q/\∃k:ag,key.a=some k/\aP 3 key.len/\¬j (k.add (Int.toNat 3*1)).block/\dm b (k.add (Int.toNat 3*1)) λn27=>∃r:Array aa,(∀s:J,Sem.run aj
 (Instr.build 55 #[(0,.agg q.toArray),(1,.int .i64 (aq n27))]) s=.ok (.agg r) s)/\∃f:Array aa,(∀t:J,Sem.run aj (Instr.build 57 #[(0,.int .i64 (aq bV)),(1,.agg r),(2,.int
 .i64 (aq n17)),(3,.int .u64 n21)]) t=.ok (.agg f) t)/\ao (b.alloc ir) λl=>af j b l/\bI l (Y b) (Array.toList f)/\Array.size f=21/\ao (setCells l (Y b) 0 (Array.toList f)) λm=>aF
 m (Y b) λn34=>∃u:O aa,bw m ((Y b).add 1) 0 18=some u/\jD 97 #[n34,.agg u.toArray] m λG H v=>b5 (λx:al->J->Prop=>ak (!H) (x true v) (b6
 108 #[G,key] v λI K=>x (!I) K)) (λ(L:al) c=>ak L (∃g:Array aa,Sem.run aj (Instr.build 57 #[]) c=.ok (.agg g)
 c/\bI c (Y w) (Array.toList g)/\Array.size g=21/\ao (setCells c (Y w) 0 (Array.toList g)) λy=>∃z:O aa,bw y (Y w) 0 21=some z/\Q (.tuple #[.agg z.toArray,false]) y) (∃h:
 O aa,bw c (Y b) 0 21=some h/\bI c (Y w) (Array.toList h.toArray)/\Array.size h.toArray=21/\ao (setCells c (Y w) 0 (Array.toList h.toArray)) λA=>∃B:O aa,bw A (Y w) 0 21=
 some B/\Q (.tuple #[.agg B.toArray,true]) A)))
def ax.qf:aN:=(.q (.q (.s (.s (.z [9,11,12,11]) (.c (.q .l) .l)) (.q (.q (.q (.s (.d 13 true [0,1,0,0,3003,1006002,0,9,0,1000000001666,0,513] [0,1,0,0,3003,1006002,0,9,0,1000000001666,0,1012011] [12050,15,0]
 [7,51,9,1,3053,1056052,11,59,13,1875750244799811584,0,1061014] (.z 12 0 (.bR 12 .e))) (.q (.s (.s (.z [9,13]) (.c (.q .l) .l)) (.q .l))))))))))
def ae.uz(f:av ag)(w:J)(Q:aa->J->Prop):Prop:=∃ (c:Int->J->Prop) (d:Int->J->Nat),c 0 w/\∀ (a:Int) (b:J),c a b->ak (decide (a<4)) (∃a5:ag,f=some a5/\
 ((0:Int)<=a/\a<((4:Nat):Int))/\st b (Addr.add a5 (a.toNat*1)) (.int .i64 (-1)) λe=>c (aq (a+1)) e/\d (aq (a+1)) e<d a b) (Q (.tuple #[]) b)
def ax.uz:aN:=(.q (.bU (.loop [(3,(.int .i64))] [0] a2)))
def ae.qg(d:av ag)(l:Int)(m:Int)(n:Int)(w:J)(Q:aa->J->Prop):Prop:=ao (w.alloc (.cells #[l,m,.int .u64 n] 64)) λw1=>
 b5 (λct:al->J->Prop=>ak (!(Option.isNone d)) (aF w1 (Y w) λo=>ct (decide (o>=8)) w1) (ct false w1)) (λ(p:al) a=>b5 (λg:al->J->Prop=>ak p (aF a (Y w) λn7=>g (decide (n7<=64)) a)
 (g false a)) (λ(q:al) b=>b5 (λh:al->J->Prop=>ak q (aF b ((Y w).add 1) λn11=>h (decide (n11>=1)) b) (h false b)) (λ(r:al) c=>b5 (λi:al->J->Prop=>ak r (aF c
 ((Y w).add 1) λn15=>i (decide (n15<=1000)) c) (i false c)) (λ(s:al) e=>b5 (λj:al->J->Prop=>ak s (cr e ((Y w).add 2) λn19=>j (decide (n19>=1)) e) (j false e)) (λ
 (t:al) f=>b5 (λk:al->J->Prop=>ak t (cr f ((Y w).add 2) λn23=>k (decide (n23<=1048576)) f) (k false f)) (λ(u:al) v=>Q u v))))))
def ax.qg:aN:=(.q (.s (.z [9,10,12,10,12,10,12,10,12,10,12,10]) .l))
def ae.qh(n:Int)(first:Int)(w:J)(Q:aa->J->Prop):Prop:=b6 109 #[n] w λg w1=>ak (((!g)||(decide (first<0)))||(decide (first>n))) (Q (.tuple #[.pointer none,(1:Int)])
 w1) (bY 110 #[n] w1 λn6 d=>((0:Int)<=n6/\n6<=n6/\n6<=kE/\((1:Nat):Int)*n6<=140737488355328)/\ao (d.alloc (.cells (gS aj 5 (n6.toNat)) 5)) λb=>ao (b.alloc (.cells
 #[n,.slice (some (Y d)) (n6.toNat) (n6.toNat),()] 209)) λh=>∃ (c:Int->J->Prop) (e:Int->J->Nat),c 0 h/\∀ (n11:Int) (a:J),c n11 a->ak (decide (n11<
 first)) (∃ej:ag,(some (Y b):av ag)=some ej/\r1 a (ej.add 1) λi=>gJ 111 #[i,n11] a λf=>c (aq (n11+1)) f/\e (aq (n11+1)) f<e n11 a)
 (gJ 112 #[.pointer (some (Y b))] a λj=>Q (.tuple #[.pointer (some (Y b)),(0:Int)]) j))
def ax.qh:aN:=(.q (.s (.s (.z [12,8,9,11]) (.c (.q .l) .l)) (.q (.s (.q (.bU (.loop [(27,(.int .i64))] [6,26] a2))) (.q (.q .l))))))
def ae.uA(d:av ag)(w:J)(Q:aa->J->Prop):Prop:=ak (Option.isNone d) (Q (0:Int) w) (∃a1:ag,d=some a1/\r1 w (a1.add 4) λs2=>Q (.int .i64 (s2.len:Int)) w)
def ax.uA:aN:=dt
def ae.uB(no:Int)(u:Int)(v:Int)(x:ad)(w:J)(Q:aa->J->Prop):Prop:=ao (w.alloc (.cells #[u,.int .u64 v,x] 137)) λw1=>
 b6 113 #[no] w1 λy ai=>b5 (λj:al->J->Prop=>ak (!y) (j true ai) (aF ai (Y w) λn6=>b6 114 #[n6] ai λz A=>j (!z) A)) (λ(B:al) f=>ak B (Q (.tuple
 #[(),(1:Int)]) f) (r1 f ((Y w).add 2) λC=>ak (decide ((C.len:Int)>232)) (Q (.tuple #[(),(10:Int)]) f) (ao (f.alloc (.cells #[.int .u8 83,.int .u8 84,.int .u8 78,.int .u8 67]
 5)) λD=>∃k:ad,∃g:J,Sem.run aj (convert 39 39 (.slice (some (Y f)) 4 4)) D=.ok k g/\aF g (Y w) λn16=>ao (g.alloc (.cells #[.int .u8 1,
 .int .u8 (IntKind.wrap .u8 n16)] 5)) λl=>ao (l.alloc (.cells #[k,.slice (some (Y g)) 2 2] 39)) λE=>bD 103 #[.slice (some (Y l)) 2 2] E λF m=>r1 m
 ((Y w).add 2) λG=>bD 115 #[F,.int .u64 (IntKind.wrap .u64 (G.len:Int)),(2:Int)] m λH I=>bD 115 #[H,.int .u64 (IntKind.wrap .u64 no),(4:Int)] I λK n=>cr n ((Y w).add 1) λn29=>bD 115 #[K,.int .u64 n29,(8:Int)] n λo L=>b5 (λp:ad->J->Prop=>ao (L.drew) λb=>∃d:Nat->Prop,¬
 d ((Y w).add 2).block/\r1 b ((Y w).add 2) λq=>¬d ((Y w).add 2).block/\r1 b ((Y w).add 2) λe=>(((0:Int)<=4/\(4:Int)<=4/\(4:Int)<=kE/\((1:Nat):Int)*4<=140737488355328)/\ao
 (b.alloc (.cells (gS aj 5 (Int.toNat 4)) 5)) λh=>af d b h/\(xF e)/\ao (h.alloc (.cells (gS aj 5 ((aq (232-(e.len:Int))).toNat)) 5)) λr=>af d h r/\
 xG r o b q h e p)/\((xF e)/\ao (b.alloc (.cells (gS aj 5 ((aq (232-(e.len:Int))).toNat)) 5)) λi=>af d b i/\((0:Int)<=4/\(4:Int)<=4/\(4:Int)<=kE/\((1:Nat):
 Int)*4<=140737488355328)/\ao (i.alloc (.cells (gS aj 5 (Int.toNat 4)) 5)) λs=>af d i s/\xG s o i q b e p)) (λ(c:ad) M=>ao (M.drew) λN=>∃U:Nat->Prop,((0:
 Int)<=20/\20<=(c.len:Int))/\ng 116 #[c] N λO P=>∃V:Nat->Prop,bD 115 #[(),.int .u64 (IntKind.wrap .u64 O),(4:Int)] P λR S=>∃T:Int,∃t
 :J,Sem.run aj (Builtin.copy_ #[39,39] 3 #[.slice (aY c.a 1 (Int.toNat 20) c.cap) (c.len-(Int.toNat 20)) (c.cap-(Int.toNat 20)),R]) S=.ok T t
 /\Q (.tuple #[c,(0:Int)]) t))))
def ax.uB:aN:=(.q (.s (.bU (.s (.z [12,13]) (.c (.q .l) a1))) (.q (.q (.q (.q (.s (.fm [(6,.slice)] [] (.d 9 true [0,0,0,3,0,4004,1000000000267,10,511] [0,0,0,3,0,4004,1000000000267,10,1010000] [11044,7]
 [7,0,4,47,4,4048,4698113673859072,2053] (.t 0 (.z 6 2 (.two 1 (.bR 8 (.tail [.r,.r,.r])) 8 (.bR 1 (.tail [.r,.r,.r]))))))) (.s (.d 6 true [0,1,0,2002,1004003,1005001] [0,1,0,3002,1005001] [7055] [7,56,7,3057,1060056] (.z 3 0 (.out 3
 true (.t 4 (.out 5 false .e))))) (.q .l)))))))))
def ae.r5(s:av ag)(w:J)(Q:aa->J->Prop):Prop:=ua s Q w
def ax.r5:aN:=dt
theorem ae.EU(s:av ag)(w:J)(Q:aa->J->Prop)(h:ae.r5 s w Q):aJ aj 57 #[s] w Q:=okF (λw Q=>ae.r5 s w Q) ax.r5 func57 h
def ae.uC(d:av ag)(i:Int)(b:ad)(w:J)(Q:aa->J->Prop):Prop:=b6 85 #[d,i] w λs w1=>ak ((!s)||((b.len:Int) !=256)) (Q (1:Int) w1) (∃a4:
 ag,d=some a4/\b6 117 #[.pointer (some a4),(2:Int)] w1 λt n=>ak t (Q (3:Int) n) (ao (n.drew) λe=>∃c:Nat->Prop,∃e4:ag,d=some e4/\¬c (e4.add 5).block/\∃h:av Nat,
 e.cell? (e4.add 5)=some (.map h)/\∃eD:ag,d=some eD/\¬c (eD.add 5).block/\∃j:av Nat,e.cell? (eD.add 5)=some (.map j)/\256<=b.len/\∃eX:ag,b.a=some eX/\¬c eX.block/\∃k:O aa,
 bw e eX 0 256=some k/\(∃o:ad,∃f:J,Sem.run aj (Instr.lookup 125 (.map j) i false) e=.ok o f/\af c e f/\∃p:ad,∃l:J,
 Sem.run aj (Instr.buildSlice 124 1 #[(0,.agg k.toArray)]) f=.ok p l/\af c f l/\xC o p l c h i d Q)/\(∃q:ad,∃g:J,Sem.run aj (Instr.buildSlice
 124 1 #[(0,.agg k.toArray)]) e=.ok q g/\af c e g/\∃r:ad,∃m:J,Sem.run aj (Instr.lookup 125 (.map j) i false) g=.ok r m/\af c g m/\xC r q m c h i d Q)))
def ax.uC:aN:=(.q (.s (.bU (.s (.z [15,11]) (.c (.q .l) a1))) (.s (.d 16 true [0,3000,0,0,3005,0,1009008,0,3011,1014010,516] [0,3000,0,0,3005,0,1009008,0,3011,1014010,1015004003] [16022,0]
 [1,3022,2,1,3027,2,1031030,3,3033,1036032,1037026025] (.z 10 0 (.z 3 11 (.two 10 (.bR 14 (.bR 15 .e)) 14 (.bR 10 (.bR 15 .e)))))) (.q (.q .l)))))
def ae.uD(d:av ag)(w:J)(Q:aa->J->Prop):Prop:=ak (Option.isNone d) (Q (1:Int) w) (∃a1:ag,d=some a1/\b6 117 #[.pointer (some a1),(3:Int)] w λj ai=>ak j (Q
 (3:Int) ai) (∃a5:ag,d=some a5/\∃g:av Nat,ai.cell? (a5.add 5)=some (.map g)/\∃ (a:aa) (h:J),Sem.run aj (Instr.range 125 (.map g)) ai=.ok a h/\∃ (c:J->Prop)
 (i:J->Nat),c h/\∀ (b:J),c b->(∃ (k:aa) (l:aa) (e:J),Sem.run aj (Instr.next (a) false 0) b=.ok (.tuple #[true,k,l]) e/\ak true (xA a e d c i b) (xH d e
 Q))\/(∃f:J,Sem.run aj (Instr.next (a) false 0) b=.ok (.tuple #[false]) f/\ak false (xA a f d c i b) (xH d f Q))))
def ax.uD:aN:=(.q (.s (.bU g8) (.s (.q (.bU (.loop [] [0,16] (.q (.s (.c .l .l) (.bU (.s (.pU [.tr [(.one (.int .i64)),(.one .any)]]) (.d 8 true [0,3000,0,0,0,1006005,508,509] [0,3000,0,0,0,1006005,1004003,1008007]
 [9021,0] [1,3021,4,1,4,1027026,1025024,1029028] (.z 7 0 (.bR 7 (.tail [.r,.r]))))))))))) (.q (.q .l)))))
def ae.nh(d:av ag)(i:Int)(j:Int)(k:Int)(l:Int)(m:Int)(n:Int)(gen:Int)(w:J)(Q:aa->J->Prop):Prop:=ao (w.alloc (.cells #[i,j,k,.int .u64 l,.int .u64 m,n] 90)) λw1=>(2:Int)≠0/\ao (w1.drew) λai=>∃b:Nat->Prop,¬b ((Y w):ag).block/\aF ai (Y w) λbV=>aF ai (Addr.add
 (Y w) 1) λn5=>aF ai ((Y w).add 2) λn6=>cr ai ((Y w).add 3) λn7=>cr ai ((Y w).add 4) λn8=>aF ai ((Y w).add 5) λn9=>bY 55 #[d] ai λn12 c=>af b ai c/\bD
 119 #[.agg #[bV,n5,n6,.int .u64 n7,.int .u64 n8,n9],n12] c λo e=>∃p:Nat->Prop,∃f:Array aa,(∀g:J,Sem.run aj (Instr.build 137
 #[(0,.int .i64 3),(1,.int .u64 gen),(2,o)]) g=.ok (.agg f) g)/\ey 56 #[.int .i64 (aq (Int.tmod gen 2)),.agg f] e λq n22 a=>af p e a/\ak (n22 !=0) (Q n22
 a) (bY 58 #[d,.int .i64 (aq (Int.tmod gen 2)),q] a λn25 h=>ak (n25 !=0) (Q n25 h) (bY 59 #[d] h λn28 r=>Q n28
 r))
def ax.nh:aN:=(.q (.q (.s (.d 12 true [0,0,0,0,4,1004002,1005001,1006005000,2007,9,510,512] [0,0,0,0,4,1004002,1005001,1006000,2007,3008] [8015,15,2023,2008] [8,3,5,1,19,1019017,1020016,1021015,23,15,15,2023] (.z 4 0 (.bR 4
 (.out 5 true (.t 6 (.bR 7 (.z 4 8 .e))))))) (.s a1 (.s (.q a1) (.q .l))))))
theorem ae.EV(d:av ag)(a:Int)(b:Int)(c:Int)(e:Int)(f:Int)(g:Int)(gen:Int)(w:J)(Q:aa->J->Prop)(h:ae.nh d a b c e f g gen w Q):aJ aj 60 #[d,.agg #[a,b,c,.int .u64 e,.int .u64 f,g],.int .u64 gen] w Q:=okF (λw Q=>ae.nh d a b c e f g gen w Q) ax.nh func60 h
def ae.oB(d:av ag)(f:Int)(g:Int)(h:Int)(i:Int)(j:Int)(k:Int)(l:Int)(m:Int)(n:Int)(gen:Int)(s:av ag)(w:J)(Q:aa->J
 ->Prop):Prop:=ao (w.alloc (.cells #[f,g,.int .u64 h] 64)) λw1=>ao (w1.alloc (.cells #[i,j,k,.int .u64 l,.int .u64 m,
 n] 90)) λai=>aF ai (Y w) λo=>h5 120 #[d,o] ai λc n7 b=>ak (n7 !=0) (Q (.tuple #[.pointer none,n7]) b) (aF b (Y w1) λn8=>aF b ((Y w1).add 1)
 λn9=>h5 121 #[c,s,.int .u64 (IntKind.wrap .u64 (gen+1)),n8,n9] b λp n13 a=>ak (n13 !=0) (Q (.tuple #[.pointer none,n13]) a) (aF a (Y w) λn14=>aF a
 ((Y w).add 1) λn15=>cr a ((Y w).add 2) λn16=>aF a (Y w1) λn17=>aF a ((Y w1).add 1) λn18=>aF a ((Y w1).add 2) λn19=>cr a ((Y w1).add 3) λn20=>cr a ((Y w1).add 4)
 λn21=>aF a ((Y w1).add 5) λn22=>cr a ((Y w1).add 3) λn23=>aF a ((Y w1).add 5) λn24=>∃e:Array aa,Sem.run aj (Instr.build 146 #[(0,p),(1,d),(2,
 c),(3,s),(4,.agg #[n14,n15,.int .u64 n16]),(5,.agg #[n17,n18,n19,.int .u64 n20,.int .u64 n21,n22]),(6,.int .u64 gen),(7,.int .u64 n23),(10,
 n24)]) a=.ok (.agg e) a/\ao (a.alloc (.cells e 146)) λq=>Q (.tuple #[.pointer (some (Y a)),(0:Int)]) q))
def ax.oB:aN:=(.q (.q (.s a1 dt)))
theorem ae.EW(d:av ag)(a:Int)(b:Int)(c:Int)(e:Int)(f:Int)(g:Int)(i:Int)(j:Int)(k:Int)(gen:Int)(s:av ag)(w:J)(Q:aa->J->Prop)(h:ae.oB d a b c e f g i j k gen s w Q):aJ aj 61 #[d,.agg #[a,b,.int .u64 c],.agg #[e,f,g,.int .u64 i,.int .u64 j,k],.int .u64 gen,s] w Q:=okF (λw Q=>ae.oB d a b c e f g i j k gen s w Q) ax.oB func61 h
def ae.qi(a:ad)(w:J)(Q:aa->J->Prop):Prop:=Q (.bool ((decide ((a.len:Int)>=1))&&(decide ((a.len:Int)<=24)))) w
def ax.qi:aN:=eC
def ae.uE(t:av ag)(key:ad)(w:J)(Q:aa->J->Prop):Prop:=b5 (λb9:al->J->Prop=>ak (Option.isNone t) (b9 true w) (b6 122 #[key] w λn ai=>b9 (!n)
 ai)) (λ(o:al) f=>ak o (ak (Option.isNone t) (Q (.tuple #[(),false,(1:Int)]) f) (Q (.tuple #[(),false,(0:Int)]) f)) (ey 123 #[t,key] f λc n10 b=>ak ((n10 !=0)||((c.len:Int)==0)) (Q (.tuple #[(),false,n10]) b) (∃ei:ag,c.a=some ei/\((0:Int)<=(aq ((c.len:Int)-1))/\(aq ((c.len:Int)-1))<
 (c.len:Int))/\aT b ((ei.add ((aq ((c.len:Int)-1)).toNat*6)).add 1) λg=>r1 b (((ei.add ((aq ((c.len:Int)-1)).toNat*6)).add 1).add 1) λh=>r1 b (((ei.add ((aq ((c.len:Int)-1)).toNat*6)).add
 1).add 2) λi=>r1 b (((ei.add ((aq ((c.len:Int)-1)).toNat*6)).add 1).add 3) λj=>ao (b.alloc z4) λk=>bI k (Y b) [g,h,i,j]/\(4:Nat)=4/\ao (setCells k (Y b) 0 [g,h,i,j]) λd=>aT d (Y b) λp=>r1 d ((Y b).add 1) λq=>
 r1 d ((Y b).add 2) λr=>r1 d ((Y b).add 3) λs=>kF 124 #[.agg #[p,q,r,s],key] d
 λn24 u e=>ak (!u) (Q (.tuple #[(),false,(0:Int)]) e) (r1 e ((Y b).add 2) λl=>∃m:ag,l.a=some m/\aP n24 l.len/\r1 e (m.add (n24.toNat*1)) λv=>Q (.tuple
 #[v,true,(0:Int)]) e))))
def ax.uE:aN:=(.q (.s (.s (.z [9,10]) (.c (.s a1 (.q .l)) .l)) (.q (.s eX (.q dt)))))
set_option maxRecDepth 100000
def ae.uF(s:av ag)(w:J)(Q:aa->J->Prop):Prop:=∃a1:ag,s=some a1/\∃bh:av ag,w.cell? a1=some (bh)/\gK 128 #[bh] w λn5 n6 a=>∃c9:ag,s
 =some c9/\∃b:av ag,a.cell? (c9.add 3)=some (b)/\bY 129 #[b] a λn11 d=>∃n12:Int,∃c:J,Sem.run aj (Builtin.max_ #[3,3] 3 #[.int .i64 (aq ((aq (n11
 -(aq (2*n6))))-4)),(0:Int)]) d=.ok n12 c/\Q n12 c
def ax.uF:aN:=a3
def ae.uG(t:av ag)(key:ad)(w:J)(Q:aa->J->Prop):Prop:=b5 (λb9:al->J->Prop=>ak (Option.isNone t) (b9 true w) (b6 122 #[key] w λl ai=>b9
 (!l) ai)) (λ(m:al) f=>ak m (Q (.tuple #[false,(1:Int)]) f) (ey 123 #[t,key] f λb n10 d=>ak ((n10 !=0)||((b.len:Int)==0)) (Q (.tuple #[false,n10]) d) (∃ei:ag,b.a=some ei/\((0:Int)<=(aq ((b.len:Int)-1))/\(aq ((b.len:Int)-1))<(b.len:Int))/\aT d ((ei.add ((aq ((b.len:Int)-1)).toNat*6)).add 1) λn=>r1 d (((ei.add ((aq
 ((b.len:Int)-1)).toNat*6)).add 1).add 1) λo=>r1 d (((ei.add ((aq ((b.len:Int)-1)).toNat*6)).add 1).add 2) λp=>r1 d (((ei.add ((aq ((b.len:Int)-1)).toNat*6)).add 1).add 3) λq=>lD 130
 #[.agg #[n,o,p,q],key] d λg h i j r c=>ao (c.alloc z4) λk=>bI k (Y c) [g,
 h,i,j]/\(4:Nat)=4/\ao (setCells k (Y c) 0 [g,h,i,j])
 λe=>ak (!r) (Q (.tuple #[false,(0:Int)]) e) (aT e (Y c) λs=>r1 e ((Y c).add 1) λu=>r1 e ((Y c).add 2) λv=>r1 e ((Y c).add 3) λx=>bY 131
 #[t,b,.agg #[s,u,v,x]] e λn31 y=>Q (.tuple #[.bool (n31==0),n31]) y))))
def ax.uG:aN:=(.q (.s dK (.q (.s eX (.q gb)))))
def ae.uH(s:av ag)(keys:Int)(w:J)(Q:aa->J->Prop):Prop:=∃a1:ag,s=some a1/\aF w (a1.add 17) λbA=>∃a3:ag,s=some a3/\st w (a3.add 17) (.int .i64 (aq (bA+keys))) λa=>
 b5 (λc:J->Prop=>∃dK:ag,s=some dK/\aF a (dK.add 16) λn7=>ak (n7==0) (∃eC:ag,s=some eC/\cr a (eC.add 14) λn9=>∃e4:ag,s=some e4/\st a (e4.add 15) (.int .u64 n9) λe=>c e) (c
 a)) (λd=>∃ej:ag,s=some ej/\aF d (ej.add 16) λn14=>∃dt:ag,s=some dt/\st d (dt.add 16) (.int .i64 (aq (n14+1))) λf=>ao (f.drew) λb=>∃gb:ag,s=some gb/\¬False/\aF b
 (gb.add 16) λn19=>∃g7:ag,s=some g7/\¬False/\aF b ((g7.add 4).add 1) λn21=>ak (decide (n19>=n21)) (bY 74 #[s] b λn24 g=>Q n24 g) (Q (0:Int) b))
def ax.uH:aN:=(.q (.q (.s (.fm [] [0] (.q (.c .r .l))) (.q (.s (.s (.e 9 false [0,3000,0,4004,1008003] [10032] [1,3032,1,4036,1040035] (.z 9 0 .e)) (.c (.q .l) .l)) (.q .l))))))
def ae.uI(t:av ag)(key:ad)(val:ad)(w:J)(Q:aa->J->Prop):Prop:=b5 (λb9:al->J->Prop=>ak (Option.isNone t) (b9 true w) (b6 122 #[key] w λv ai
 =>b9 (!v) ai)) (λ(x:al) l=>ak (x||(decide ((val.len:Int)>24))) (Q (1:Int) l) (ao (l.drew) λi=>∃j:Nat->Prop,∃a9:ag,t=some a9/\¬j (a9.add 1).block/\∃m:av ag,i.cell? (a9.add 1)=
 some (m)/\∃ei:ag,t=some ei/\¬j (ei.add 4).block/\aF i (ei.add 4) λn12=>bY 129 #[m] i λn15 k=>af j i k/\ak (decide (n15<(aq ((aq (2*n12))+3)))) (Q (2:Int)
 k) (ey 123 #[t,key] k λb n19 c=>ak (n19 !=0) (Q n19 c) (ao (c.alloc z4) λn=>bI n (Y c) [true,(),(),()]/\(4:Nat)=4/\ao (setCells n (Y c) 0 [true,(),(),()]) λe=>b5 (λo:J->Prop=>ak (decide ((b.len:Int)>0)) (∃g:ag,b.a=some g/\((0:Int)<=(aq
 ((b.len:Int)-1))/\(aq ((b.len:Int)-1))<(b.len:Int))/\aT e ((g.add ((aq ((b.len:Int)-1)).toNat*6)).add 1) λy=>r1 e (((g.add ((aq ((b.len:Int)-1)).toNat*6)).add 1).add 1) λz=>r1 e
 (((g.add ((aq ((b.len:Int)-1)).toNat*6)).add 1).add 2) λA=>r1 e (((g.add ((aq ((b.len:Int)-1)).toNat*6)).add 1).add 3) λB=>ov e c y z A B o) (o e)) (λh=>aT h (Y c) λ
 C=>r1 h ((Y c).add 1) λD=>r1 h ((Y c).add 2) λE=>r1 h ((Y c).add 3) λF=>lD 143 #[.agg #[C,D,E,F],key,val] h λp q r s G d=>ao (d.alloc z4) λu=>bI u (Y d) [p,q,r,
 s]/\(4:Nat)=4/\ao (setCells u (Y d) 0 [p,q,r,s]) λf=>ak (!G) (Q (4:Int) f) (aT f (Y d)
 λH=>r1 f ((Y d).add 1) λI=>r1 f ((Y d).add 2) λK=>r1 f ((Y d).add 3) λL=>bY 131 #[t,b,.agg #[H,I,K,L]] f λM N=>Q M N))))))
def ax.uI:aN:=(.q (.s (.bU (.s (.z [9,10,12,11]) (.c (.q .l) (.s (.d 11 true [0,4000,0,5005,1010004,1011004] [0,4000,0,5005,1010004,12] [12026,26] [1,4026,1,5031,1036030,38] (.z 4 0 (.z 6 5 (.bR 4 (.tail [.r,.r]))))) (.c
 (.q .l) .l))))) (.q (.s a1 (.q (.s (.fm [] [0,1,2,7,9] (.q (.c .r .l))) dt))))))
def ae.uJ(s:av ag)(w:J)(Q:aa->J->Prop):Prop:=∃a1:ag,s=some a1/\∃bh:av ag,w.cell? (a1.add 3)=some (bh)/\gK 144 #[bh] w λn5 n6 x=>
 ak (n6 !=0) (bY 65 #[s,n6] x λn9 al=>Q n9 al) (ao (x.drew) λi=>∃ei:ag,s=some ei/\¬False/\∃y:av ag,i.cell? (ei.add 3)=some (y)/\∃ej
 :ag,s=some ej/\¬False/\aF i ((ej.add 7).add 2) λn14=>bY 145 #[y,n14] i λn17 am=>ao (am.drew) λd=>∃e:Nat->Prop,∃g7:ag,s=some g7/\¬e (g7.add
 13).block/\cr d (g7.add 13) λn21=>∃j:ag,s=some j/\¬e (j.add 3).block/\∃z:av ag,d.cell? (j.add 3)=some (z)/\bD 57 #[z] d λan k=>af e d k
 /\∃A:Array aa,(∀B:J,Sem.run aj (Instr.build 137 #[(0,.int .i64 4),(1,.int .u64 (IntKind.wrap .u64 (n21+1))),(2,an)]) B=.ok (.agg A) B)/\ey 56 #[n5,.agg A] k λap n32 f=>af e k f/\ak (n32 !=0) (bY 65 #[s,n32] f λn35 aq=>Q n35 aq) (∃C:ag,s=some C/\∃D:av ag,f.cell? (C.add
 2)=some (D)/\bY 146 #[D,n5,ap] f λn40 l=>ak (n40 !=0) (bY 65 #[s,n40] l λar au=>Q ar au) (∃
 E:ag,s=some E/\∃F:av ag,l.cell? (E.add 2)=some (F)/\bY 147 #[F] l λG m=>ak (G !=0) (bY 65 #[s,G] m λaw ax=>Q
 aw ax) (∃H:ag,s=some H/\∃I:av ag,m.cell? H=some (I)/\gK 128 #[I] m λay az aA=>ao (aA.drew) λa=>∃g:Nat->Prop,∃n:ag,s=some
 n/\¬g (n.add 14).block/\cr a (n.add 14) λaB=>∃o:ag,s=some o/\¬g ((o.add 7).add 4).block/\cr a ((o.add 7).add 4) λaC=>∃p:ag,s=some p/\¬g (p.add 17).block/\aF a (p.add 17)
 λaD=>∃h:Array aa,(∀K:J,Sem.run aj (Instr.build 90 #[(0,ay),(1,az),(2,n5),(3,.int .u64 aB),(4,.int .u64 (IntKind.wrap .u64 (aC+1))),(5,aD)])
 K=.ok (.agg h) K)/\ao (a.alloc jF) λq=>af g a q/\bI q (Y a) (Array.toList h)/\Array.size h=6/\ao (setCells q (Y a) 0 (Array.toList h)) λaE=>ao (aE.drew) λb=>∃L:ag,s=
 some L/\¬False/\∃M:av ag,b.cell? (L.add 1)=some (M)/\¬False/\aF b (Y a) λaG=>aF b ((Y a).add 1) λaH=>aF b ((Y a).add 2) λaI=>cr b ((Y a).add 3) λ
 aJ=>cr b ((Y a).add 4) λaK=>aF b ((Y a).add 5) λaL=>∃N:ag,s=some N/\¬False/\cr b (N.add 13) λaM=>bY 60 #[M,.agg #[aG,aH,aI,.int .u64 aJ,.int .u64 aK,aL],.int .u64 (IntKind.wrap .u64 (aM+1))] b λO r=>ak (O !=0) (bY 65 #[s,O] r λaN aO=>Q aN aO) (∃P:ag,s=
 some P/\∃R:av ag,r.cell? (P.add 3)=some (R)/\gJ 112 #[R] r λaP=>ao (aP.drew) λc=>∃S:Nat->Prop,¬S ((Y a):ag).block/\aF c (Y a) λT=>aF
 c ((Y a).add 1) λU=>aF c ((Y a).add 2) λV=>cr c ((Y a).add 3) λW=>cr c ((Y a).add 4) λX=>aF c ((Y a).add 5) λZ=>∃t:ag,s=some t/\¬S (t.add
 13).block/\cr c (t.add 13) λaQ=>∃u:ag,s=some u/\bI c (u.add 7) [T,U,V,.int .u64 W,.int .u64 X,Z]/\(6:Nat)=6/\ao (setCells c (u.add 7) 0
 [T,U,V,.int .u64 W,.int .u64 X,Z]) λaR=>∃ab:ag,s=some ab/\st aR (ab.add 13) (.int .u64 (IntKind.wrap .u64 (aQ+1))) λaS=>∃ac:ag,s=some ac
 /\st aS (ac.add 16) (0:Int) λaT=>ao (aT.drew) λv=>∃ad:ag,s=some ad/\¬False/\∃ah:av ag,v.cell? ad=some (ah)/\∃ai:ag,s=some ai/\¬False/\cr v (ai.add
 13) λaU=>gJ 148 #[ah,.int .u64 (IntKind.wrap .u64 (aU+1))] v λaV=>Q (0:Int) aV)))))
def ax.uJ:aN:=(.q (.q (.s a1 (.s (.e 9 false [0,3000,0,4004,1008003] [10025] [1,3025,1,4029,1033028] (.z 9 0 .e)) (.s (.d 17 true [0,0,4001,0,4006,1010005,1011010000,2012,14,515,517]
 [0,0,4001,0,4006,1010005,1011000,2012,3013] [13036,36,2049,6,5] [4,1,4037,1,4042,1046041,1047036,49,36,36,2049] (.z 10 0 (.bR 10 (.t 11 (.bR 12 (.z 4 13 .e)))))) (.s a1 (.s (.q a1) (.s (.q a1) (.q (.s (.d 19 true
 [0,0,0,0,3003,0,5007,0,3013,1000000069703,0,519] [0,0,0,0,3003,0,5007,0,3013,1000000069703,0,1018017] [18086,11,0] [2008,4,1,3089,1,5093,1,3099,5393008409894303832330853486592,0,1103010] (.z 18 0 (.bR 18 .e))) (.s (.s (.d 10 false
 [0,3000,0,0,4005,1009004003,511] [0,3000,0,0,4005,1009004003,11] [11104,12] [1,3104,11,1,4109,1113108107,115] (.z 10 0 (.tail [.r,.r]))) a1) (.q (.s (.d 15 true
 [0,0,0,0,0,4004,1007003000,1000000000649,1000000001161,1000000004091,1000000008187,1000000012283,515,516,1000000098303] [0,0,0,0,0,4004,1,10,1010003,2,13,1013008,3,2015] [11125,0,2136,0,2138,0]
 [1,1,1,11,1,4129,126,135,1135128,127,137,1137133,128,2138] (.z 11 0 (.out 11 false (.t 12 (.t 13 (.out 14 false (.tail [.r,.r,.r]))))))) (.s (.e 9 false [0,3000,0,4004,1008003] [10140] [1,3140,1,4144,1148143] (.z 9 0 .e)) (.q
 .l)))))))))))))))
def ae.uK(d:av ag)(i:Int)(w:J)(Q:aa->J->Prop):Prop:=b6 85 #[d,i] w λf w1=>ak (!f) (Q (.tuple #[(),(1:Int)]) w1) (∃a4:ag,d=
 some a4/\b6 117 #[.pointer (some a4),(1:Int)] w1 λg c=>ak g (Q (.tuple #[(),(3:Int)]) c) (p5 118 #[d,i] c λb a=>ao (a.alloc z5) λe=>bI
 e (Y a) (Array.toList b)/\Array.size b=256/\ao (setCells e (Y a) 0 (Array.toList b)) λh=>Q (.tuple #[.slice (aY (some (Y a)) 1 0 256) (256-0) (256-0),(0:Int)]) h))
def ax.uK:aN:=(.q (.s (.bU g8) (.q (.q .l))))
def ae.uL(d:av ag)(i:Int)(w:J)(Q:aa->J->Prop):Prop:=b5 (λb9:al->J->Prop=>ak ((!(Option.isNone d))&&(decide (i>=0))) (∃a2:ag,d=some a2/\r1 w (a2.add 4) λa=>b9
 (decide (i<(a.len:Int))) w) (b9 false w)) (λ(b:al) c=>Q b c)
def ax.uL:aN:=ei
def ae.oC(t:Array aa)(w:J)(Q:aa->J->Prop):Prop:=ao (w.alloc (.cells t 57)) λw1=>aF w1 (Y w) λbA=>∃b:O aa,bw w1 ((Y w).add 1) 0 18=some b/\jD 97
 #[bA,.agg b.toArray] w1 λi d a=>b5 (λc:al->J->Prop=>ak d (aF a ((Y w).add 19) λn9=>b6 165 #[n9] a λe f=>c e f) (c false a)) (λ(g:al) h=>Q g h)
def ax.oC:aN:=(.q (.q (.s (.z [6,10]) .l)))
theorem ae.EX(t:Array aa)(w:J)(Q:aa->J->Prop)(h:ae.oC t w Q):aJ aj 96 #[.agg t] w Q:=okF (λw Q=>ae.oC t w Q) ax.oC func96 h
def ae.mi(service:Int)(p:Array aa)(w:J)(Q:aa->J->Prop):Prop:=ao (w.alloc (.cells p 55)) λw1=>∃m:O aa,bw w1 (Y w) 0 17=some m/\aF w1 ((Y w).add 17) λB=>
 jE 166 #[.agg m.toArray,B] w1 λi C d=>ao (d.alloc k7) λn=>bI n (Y d) (Array.toList i)/\Array.size i=18/\ao (setCells n (Y d) 0 (Array.toList i)) λe=>b5 (λo:al->J->
 Prop=>ak (!C) (o true e) (∃q:O aa,bw e (Y d) 0 18=some q/\∃r:O aa,bw e (Y w) 0 18=some r/\∃s:al,kx aj 55 q.toArray r.toArray s/\o (!s) e)) (λ
 (D:al) t=>b5 (λu:al->J->Prop=>ak D (u true t) (b6 165 #[service] t λE F=>u (!E) F)) (λ(G:al) f=>ak G (Q (.tuple #[(),false]) f) (b5 (λ
 v:Int->J->Prop=>aT f (Y w) λH=>ak H (v 6 f) (v 4 f)) (λ(n24:Int) I=>ao (I.drew) λb=>∃a:Nat->Prop,¬a ((Y w).add 17).block/\aF b ((Y w).add 17) λn28=>¬a ((Y
 w):ag).block/\∃g:O aa,bw b (Y w) 0 17=some g/\(bD 115 #[(),.int .u64 (IntKind.wrap .u64 service),(2:Int)] b λx c=>af a b c/\(ao (c.alloc (.cells #[.int .u8 n24,
 .int .u8 (IntKind.wrap .u8 n28)] 5)) λj=>af a c j/\bD 167 #[.agg g.toArray] j λK y=>af a j y/\tZ y x c K Q)/\(bD 167 #[.agg g.toArray] c λL h=>af a c
 h/\ao (h.alloc (.cells #[.int .u8 n24,.int .u8 (IntKind.wrap .u8 n28)] 5)) λz=>af a h z/\tZ z x h L Q))/\(ao (b.alloc (.cells #[.int .u8 n24,.int .u8 (IntKind.wrap .u8 n28)] 5)) λk=>af
 a b k/\bD 115 #[(),.int .u64 (IntKind.wrap .u64 service),(2:Int)] k λM l=>af a k l/\bD 167 #[.agg g.toArray] l λN A=>af a l A/\tZ A M b N Q)))))
def ax.mi:aN:=(.q (.q (.s (.s (.z [9,10,12,10]) (.c (.q .l) .l)) (.q (.s (.fm [(8,(.int .u8))] [0,3] (.q (.c .r .l))) (.s (.d 11 true [0,1,2,0,0,2004,1006003,0,9,1009002,1010007002,1011010,513,514]
 [0,1,2,0,0,2004,1006003,0,2008,1010007002,2011,0] [13032,2004] [1,2032,9,4,2036,1038035,4,2040,1042039034,2043,0] (.t 0 (.t 1 (.z 4 3 (.t 8 (.t 9 (.two 2 (.two 7 (.bR 10 (.tail [.r,.r,.r,.r])) 10 (.bR 7 (.tail [.r,.r,.r,.r]))) 7
 (.bR 2 (.bR 10 (.tail [.r,.r,.r,.r])))))))))) .l))))))
theorem ae.EY(service:Int)(p:Array aa)(w:J)(Q:aa->J->Prop)(h:ae.mi service p w Q):aJ aj 97 #[service,.agg p] w Q:=okF (λw Q=>ae.mi service p w Q) ax.mi func97 h
def ae.qj(backend:Int)(a:Int)(w:J)(Q:aa->J->Prop):Prop:=b6 165 #[backend] w λb w1=>ak (!b) (Q (.tuple #[(),false]) w1) (bD 115 #[(),
 .int .u64 (IntKind.wrap .u64 backend),(2:Int)] w1 λc d=>bD 115 #[c,.int .u64 a,(8:Int)] d λe f=>Q (.tuple #[e,true]) f)
def ax.qj:aN:=dt
def ae.uM(s:av ag)(a:ad)(to:ad)(most:Int)(w:J)(Q:aa->J->Prop):Prop:=ak (Option.isNone s) (Q (.tuple #[(),(1:Int)]) w) (∃a1:ag,s=some a1/\∃bh:av
 ag,w.cell? a1=some (bh)/\ey 169 #[bh,a,to,most] w λb n6 c=>Q (.tuple #[b,n6]) c)
def ax.uM:aN:=dt
def ae.ni(parts:ad)(w:J)(Q:aa->J->Prop):Prop:=∃ (d:ad->Int->J->Prop) (g:ad->Int->J->Nat),d ⟨none,0,0⟩ 0 w/\∀ (c:ad) (bV:Int) (b:J),d c bV b->ak (decide (bV<
 (parts.len:Int))) (∃dK:ag,parts.a=some dK/\aP bV parts.len/\r1 b (dK.add (bV.toNat*1)) λh=>∃e:ad,∃f:J,Sem.run aj (Builtin.append_ #[39,39] 39 #[c,h]) b=.ok e f/\d e (aq (bV+1)) f/\g e (aq (bV+1)) f<g c bV b) (Q c b)
def ax.ni:aN:=(.q (.q (.s (.q (.bU (.loop [(3,.slice),(8,(.int .i64))] [6,7] a2))) (.q .l))))
theorem ae.EZ(parts:ad)(w:J)(Q:aa->J->Prop)(h:ae.ni parts w Q):aJ aj 103 #[parts] w Q:=okF (λw Q=>ae.ni parts w Q) ax.ni func103 h
def ae.uN(a:av ag)(l:ad)(choose:ik)(w:J)(Q:aa->J->Prop):Prop:=∃ (e:Int->Int->J->Prop) (m:Int->Int->J->Nat),e 0 0 w/\∀ (c:Int) (bV:Int) (b:J),e c bV
 b->ak (decide (bV<(l.len:Int))) (b5 (λn:Int->J->Prop=>∃c9:ag,l.a=some c9/\aP bV l.len/\r1 b (c9.add (bV.toNat*2)) λo=>r1 b ((c9.add (bV.toNat*2)).add 1) λp=>ao (b.alloc (.cells #[(),()] 198)) λq=>bI q (Y b) [o,p]/\(2:Nat)=2/\ao (setCells q (Y b) 0 [o,p]) λg=>
 r1 g (Y b) λA=>r1 g ((Y b).add 1) λB=>jE 51 #[A,B] g λh C d=>ao (d.alloc ir) λr=>bI r (Y d) (Array.toList h)/\
 Array.size h=21/\ao (setCells r (Y d) 0 (Array.toList h)) λi=>ak (!C) (Q (.tuple #[(0:Int),(4:Int)]) i) (∃s:O aa,bw i (Y d) 0 21=some s/\hX aj choose.f/\Calls
 aj choose.f (choose.pre++ #[.agg s.toArray]++choose.cap) i λD t=>∃u:al,D=.returned u/\ak (!u) (n c t) (ao (t.drew) λj=>∃v:Nat->Prop,∃k:ag,a=some k/\¬v
 k.block/\∃x:av ag,j.cell? k=some (x)/\¬v ((Y b):ag).block/\r1 j (Y b) λE=>nd 23 #[x,E] j λF n32 y=>ak (n32 !=0) (Q
 (.tuple #[(0:Int),n32]) y) (n (aq (c+1)) y)))) (λ(n33:Int) z=>e n33 (aq (bV+1)) z/\m n33 (aq (bV+1)) z<m c bV b)) (Q (.tuple #[c,(0:Int)]) b)
def ax.uN:aN:=(.q (.q (.s (.q (.bU (.loop [(8,(.int .i64)),(17,(.int .i64))] [0,2,15,16] (.q (.s (.c .l .l) (.s (.fm [(8,(.int .i64))] [0,2,15,16,17] (.bU (.q (.q (.s a1 (.s (.q (.c .l .l)) (.s (.s (.d 11
 true [0,3000,0,5,1005003,2006,8,509,511] [0,3000,0,5,1005003,2006,3007] [7036,36,2043,2013] [1,3036,11,41,1041039,43,36,36,2043] (.z 6 0 (.out 6 false (.z 4 7 .e)))) a1) .r))))))) .r)))))) (.q .l))))
def ae.r6(t:Array aa)(x:ag)(w:J)(Q:aa->J->Prop):Prop:=ao (w.alloc (.cells t 57)) λw1=>cr w1 ((Y w).add 20) λbA=>cr w1 x λa=>Q (.bool (decide (bA<=a))) w1
def ax.r6:aN:=(.q (.q .l))
theorem ae.E0(t:Array aa)(x:ag)(w:J)(Q:aa->J->Prop)(h:ae.r6 t x w Q):aJ aj 105 #[.agg t,.pointer (some x)] w Q:=okF (λw Q=>ae.r6 t x w Q) ax.r6 func105 h
def ae.j8(b:ad)(i:Int)(size:Int)(w:J)(Q:aa->J->Prop):Prop:=jD 170 #[b,i,size] w λd j w1=>b5 (λf:al->J->Prop=>ak (!j) (f
 true w1) (b6 171 #[size] w1 λk l=>f (!k) l)) (λ(m:al) g=>ak m (Q (.tuple #[.int .u64 0,false]) g) (∃ (e:Int->Int->J->Prop) (h:Int->Int->J->Nat),e 0 0 g/\∀ (n13:
 Int) (n14:Int) (c:J),e n13 n14 c->ak (decide (n14<(d.len:Int))) (∃fO:ag,d.a=some fO/\aP n14 d.len/\dm c (fO.add (n14.toNat*1)) λn17=>(0:Int)<=8/\e (m3 .u64 (IntKind.wrap .u64 (n13*2^
 (min (Int.toNat 8) 64))) (IntKind.wrap .u64 n17)) (aq (n14+1)) c/\h (m3 .u64 (IntKind.wrap .u64 (n13*2^(min (Int.toNat 8) 64))) (IntKind.wrap .u64 n17)) (aq (n14+1)) c<h n13 n14 c) (Q (.tuple #[.int .u64 n13,true]) c)))
def ax.j8:aN:=(.q (.q (.s dK (.q (.s (.q (.bU (.loop [(10,(.int .u64)),(29,(.int .i64))] [27,28] a2))) (.q .l))))))
def ae.qk(b:ad)(w:J)(Q:aa->J->Prop):Prop:=ao (w.alloc z3) λw1=>jE 172 #[b] w1 λfF d ai=>bI ai (Y w) (Array.toList fF)/\Array.size fF=17/\ao (setCells ai (Y w)
 0 (Array.toList fF)) λa=>∃c:O aa,bw a (Y w) 0 17=some c/\Q (.tuple #[.agg c.toArray,d]) a
def ax.qk:aN:=(.q (.q .l))
def ae.uO(n:Int)(w:J)(Q:aa->J->Prop):Prop:=Q (.bool ((decide (n>=1))&&(decide (n<=1600)))) w
def ax.uO:aN:=a4
def ae.uP(n:Int)(w:J)(Q:aa->J->Prop):Prop:=(8:Int)≠0/\Q (.int .i64 (aq (Int.tdiv (aq ((aq (n+8))-1)) 8))) w
def ax.uP:aN:=(.q (.q .l))
def ae.uQ(s:ad)(no:Int)(w:J)(Q:aa->J->Prop):Prop:=ao (w.drew) λw1=>(8:Int)≠0/\∃a2:ag,s.a=some a2/\aP (aq (Int.tdiv no 8)) s.len/\¬False/\dm w1 (a2.add ((aq (Int.tdiv no
 8)).toNat*1)) λb=>(8:Int)≠0/\(0:Int)<=(Int.tmod no 8)/\∃a4:ag,s.a=some a4/\aP (aq (Int.tdiv no 8)) s.len/\st w1 (a4.add ((aq (Int.tdiv no 8)).toNat*1)) (.int .u8 (m3 .u8 b (IntKind.wrap .u8 (1*2^(min
 ((Int.tmod no 8).toNat) 8))))) λc=>Q (.tuple #[]) c
def ax.uQ:aN:=(.d 8 false [0,0,2,1002000,4,0,2005,1007004,509,510] [0,0,2,1002000,4,0,2005,1007004,1002000,1009008] [10004,0] [1,2,6,1006004,8,2,2009,1011008,1006004,1013012] (.z 8 0 (.tail [.r,.r,.r])))
def ae.r7(s:av ag)(w:J)(Q:aa->J->Prop):Prop:=ak (!(Option.isNone s)) (∃a1:ag,s=some a1/\r1 w (a1.add 1) λs2=>bD 173 #[s2] w λ
 a b=>∃dK:ag,s=some dK/\st b (dK.add 2) a λc=>Q (.tuple #[]) c) (Q (.tuple #[]) w)
def ax.r7:aN:=(.q (.c .r .l))
theorem ae.E1(s:av ag)(w:J)(Q:aa->J->Prop)(h:ae.r7 s w Q):aJ aj 112 #[s] w Q:=okF (λw Q=>ae.r7 s w Q) ax.r7 func112 h
def ae.uR(no:Int)(w:J)(Q:aa->J->Prop):Prop:=Q (.bool ((decide (no>=0))&&(decide (no<1600)))) w
def ax.uR:aN:=a4
theorem ae.A0(no:Int)(w:J)(Q:aa->J->Prop)(h:ae.uR no w Q):aJ aj 113 #[no] w Q:=okF (λw Q=>ae.uR no w Q) ax.uR func113 h
def ae.uS(a:Int)(w:J)(Q:aa->J->Prop):Prop:=Q (.bool ((decide (a>=1))&&(decide (a<=4)))) w
def ax.uS:aN:=a4
theorem ae.A1(a:Int)(w:J)(Q:aa->J->Prop)(h:ae.uS a w Q):aJ aj 114 #[a] w Q:=okF (λw Q=>ae.uS a w Q) ax.uS func114 h
def ae.gL(b:ad)(n:Int)(size:Int)(w:J)(Q:aa->J->Prop):Prop:=bD 46 #[b] w λg w1=>b6 171 #[size] w1 λj h=>ak (!j) (Q g h) (∃ (d:ad->Int->J->Prop) (i:ad->Int->J->Nat),d g (aq (size-1)) h/\∀ (c:ad) (n10:Int) (a:J),d c n10 a->ak (decide (n10>=0)) ((0:Int)<=(aq (8*n10))/\ao (a.alloc
 (.cells #[.int .u8 (IntKind.wrap .u8 (Int.fdiv n (2^(min ((aq (8*n10)).toNat) 64))))] 5)) λk=>∃e:ad,∃f:J,Sem.run aj (Builtin.append_ #[39,39] 39 #[c,.slice (some (Y a)) 1 1]) k=.ok e f/\d e (aq (n10-1)) f/\i e (aq (n10-1)) f<i c n10 a) (Q c a))
def ax.gL:aN:=(.q (.q (.s a1 (.s (.q (.bU (.loop [(7,.slice),(8,(.int .i64))] [1] (.s (.q (.c .l .l)) (.s (.bU .r) .r))))) (.q .l)))))
def ae.oD(b:ad)(w:J)(Q:aa->J->Prop):Prop:=ao (w.drew) λw1=>((0:Int)<=20/\20<=(b.cap:Int))/\((0:Int)<=24/\24<=(b.len:Int))/\ao (w1.alloc (.cells #[.slice (aY b.a 1 0 b.cap)
 ((Int.toNat 20)-0) (b.cap-0),.slice (aY b.a 1 (Int.toNat 24) b.cap) (b.len-(Int.toNat 24)) (b.cap-(Int.toNat 24))] 39)) λai=>ng 174 #[.slice (some (Y w1)) 2 2] ai λn5 c=>Q (.int .u32 n5) c
def ax.oD:aN:=(.q (.s (.d 4 false [0,1,0,3,1003001,5,506] [0,1,0,3,1003001,2004] [6003,3] [1,4,1,6,1006004,2007] (.z 4 0 (.tail [.r,.r,.r]))) .l))
def ae.uT(f:av ag)(a:Int)(w:J)(Q:aa->J->Prop):Prop:=∃a1:ag,f=some a1/\((0:Int)<=a/\a<((4:Nat):Int))/\aF w (Addr.add a1 (a.toNat*1)) λbA=>ak (bA==
 (-1)) (Q false w) (ak (bA==0) (∃a3:ag,f=some a3/\((0:Int)<=a/\a<((4:Nat):Int))/\st w (Addr.add a3 (a.toNat*1)) (.int .i64 (-1)) λc=>Q true c) (ao (w.drew) λb=>∃dK:ag,f
 =some dK/\((0:Int)<=a/\a<((4:Nat):Int))/\¬False/\aF b (Addr.add dK (a.toNat*1)) λn7=>∃eC:ag,f=some eC/\((0:Int)<=a/\a<((4:Nat):Int))/\st b (Addr.add eC (a.toNat*1))
 (.int .i64 (aq (n7-1))) λd=>Q false d))
def ax.uT:aN:=(.q (.s (.q (.bU (.q (.c (.q .l) (.q e4))))) (.s (.d 7 false [0,0,1,1002001,2003,1,507,1000000000191] [0,0,1,1002001,2003,1,1006001,1007005] [8018,0] [1,2,19,1020019,2021,19,1024019,1025023] (.z 7 0 (.tail
 [.r,.r]))) (.q .l))))
def ae.uU(d:av ag)(i:Int)(w:J)(Q:aa->J->Prop):Prop:=ao (w.alloc z5) λw1=>∃a2:ag,d=some a2/\∃e:av Nat,w1.cell? (a2.add 5)=some (.map e)/\∃b:ad,∃c:J,
 Sem.run aj (Instr.lookup 125 (.map e) i false) w1=.ok b c/\ak (decide ((b.len:Int)>0)) (∃dK:ag,b.a=some dK/\((0:Int)<=(aq ((b.len:Int)-1))/\(aq
 ((b.len:Int)-1))<(b.len:Int))/\∃f:O aa,bw c (dK.add ((aq ((b.len:Int)-1)).toNat*256)) 0 256=some f/\xL c w f Q) (∃e4:ag,d=some e4/\r1 c (e4.add 4) λg=>ou g i c 256 λh=>
 xL c w h Q)
def ax.uU:aN:=(.q (.s (.q a1) (.q .l)))
def ae.ql(f:Int)(g:Int)(h:Int)(i:Int)(j:Int)(k:Int)(l:Int)(w:J)(Q:aa->J->Prop):Prop:=ao (w.alloc (.cells #[f,g,h,.int .u64 i,.int .u64 j,k] 90)) λw1=>aF w1 (Y w) λbA=>bD 115 #[(),.int .u64 (IntKind.wrap .u64 bA),(4:Int)] w1 λm a=>aF a ((Y w).add 1)
 λn6=>bD 115 #[m,.int .u64 (IntKind.wrap .u64 n6),(1:Int)] a λn b=>aF b ((Y w).add 2) λn10=>bD 115 #[n,.int .u64 (IntKind.wrap .u64 n10),(4:Int)] b λo p=>bD 115 #[o,.int .u64 (IntKind.wrap .u64 l),(4:Int)] p λq c=>cr c ((Y w).add 3) λn17=>bD 115 #[q,.int .u64 n17,
 .int .i64 8] c λr d=>cr d ((Y w).add 4) λn21=>bD 115 #[r,.int .u64 n21,(8:Int)] d λs e=>aF e ((Y w).add 5) λn25=>bD 115 #[s,.int .u64 (IntKind.wrap .u64 n25),(4:Int)] e λt u=>Q t u
def ax.ql:aN:=(.q (.q (.q (.q (.q a3)))))
def ae.qm(d:av ag)(an:Int)(w:J)(Q:aa->J->Prop):Prop:=ak (((Option.isNone d)||(decide (an<8)))||(decide (an>64))) (Q (.tuple #[.pointer none,(1:Int)]) w) (((0:Int)<=an
 /\an<=an/\an<=kE/\((48:Nat):Int)*an<=140737488355328)/\ao (w.alloc (.cells (gS aj 275 (an.toNat)) 275)) λw1=>ao (w1.alloc (.cells #[d,.slice (some (Y w))
 (an.toNat) (an.toNat),(0:Int)] 268)) λai=>Q (.tuple #[.pointer (some (Y w1)),(0:Int)]) ai)
def ax.qm:aN:=a5
def ae.qn(c:av ag)(s:av ag)(gen:Int)(root:Int)(aL:Int)(w:J)(Q:aa->J->Prop):Prop:=b5 (λb9:al->J->Prop=>ak (((((Option.isNone c)||(Option.isNone s))||(decide
 (aL<0)))||(decide (aL>12)))||(decide (root<0))) (b9 true w) (∃a2:ag,c=some a2/\∃b:av ag,w.cell? a2=some (b)/\bY 55 #[b] w λn6 d=>b9 (decide (root>=n6)) d))
 (λ(e:al) a=>ak (e||(!((root==0)==(aL==0)))) (Q (.tuple #[.pointer none,(1:Int)]) a) (ao (a.alloc (.cells #[c,s,.int .u64 gen,root,aL] 243)) λf=>Q
 (.tuple #[.pointer (some (Y a)),(0:Int)]) f))
def ax.qn:aN:=(.q (.s (.s (.z [9,8,9,8,9,8,9,8,9,22,24,17]) (.c (.q .l) .l)) (.q .l)))
def ae.nj(a:ad)(w:J)(Q:aa->J->Prop):Prop:=Q (.bool ((decide ((a.len:Int)>=1))&&(decide ((a.len:Int)<=24)))) w
def ax.nj:aN:=eC
set_option maxRecDepth 100000
def ae.uV(t:av ag)(key:ad)(w:J)(Q:aa->J->Prop):Prop:=∃a1:ag,t=some a1/\aF w (a1.add 3) λbA=>∃a3:ag,t=some a3/\aF w (a3.add 4) λbV=>∃ (i:ad->Int->Int->J->
 Prop) (l:ad->Int->Int->J->Nat),i ⟨none,0,0⟩ bA bV w/\∀ (e:ad) (n8:Int) (n9:Int) (f:J),i e n8 n9 f->ak (decide (n9>0)) (k6 175 #[t,n8,.bool (n9==1)] f λm n
 o p n17 c=>ao (c.alloc z4) λq=>bI q (Y c) [m,n,o,p]/\(4:Nat)=4/\ao (setCells q (Y c) 0 [m,n,o,p]) λb=>ak (n17 !=0) (Q (.tuple #[(),n17]) b) (aT b (Y c) λB=>r1 b ((Y c).add 1) λC=>r1 b
 ((Y c).add 2) λD=>r1 b ((Y c).add 3) λE=>∃g:Array aa,Sem.run aj (Instr.build 223 #[(0,n8),(1,.agg #[B,C,D,
 E])]) b=.ok (.agg g) b/\ao (b.alloc (.cells #[(0:Int),false,(),(),(),(0:Int)] 223)) λr=>bI r (Y b) (Array.toList g)
 /\Array.size g=6/\ao (setCells r (Y b) 0 (Array.toList g)) λd=>b5 (λs:Int->J->Prop=>ak (decide (n9>1)) (aT d (Y c) λF=>r1 d ((Y c).add 1) λG=>r1 d ((Y c).add 2) λ
 H=>r1 d ((Y c).add 3) λI=>bY 176 #[.agg #[F,G,H,I],key] d λn34 K=>st K (Addr.add
 (Y b) 5) n34 λh=>r1 h ((Y c).add 3) λu=>aF h ((Y b).add 5) λn37=>∃v:ag,u.a=some v/\aP n37 u.len/\aF h (v.add (n37.toNat*1)) λn39=>s n39 h) (s n8
 d)) (λ(n40:Int) x=>∃y:O aa,bw x (Y b) 0 6=some y/\∃z:ad,∃A:J,Sem.run aj (Instr.buildSlice 219 1 #[(0,.agg y.toArray)]) x=.ok z A
 /\∃j:ad,∃k:J,Sem.run aj (Builtin.append_ #[219,219] 219 #[e,z]) A=.ok j k/\i j n40 (aq
 (n9-1)) k/\l j n40 (aq (n9-1)) k<l e n8 n9 f))) (Q (.tuple #[e,(0:Int)]) f)
def ax.uV:aN:=(.q (.q (.q (.s (.q (.bU (.loop [(6,.slice),(7,(.int .i64)),(8,(.int .i64))] [0,1] (.s (.q (.c .l .l)) (.s (.bU (.q (.s a1 (.q (.s (.fm [(7,(.int .i64))] [0,1,6,8,11] (.q (.c (.q .r) .l))) .r)))))
 .r))))) (.q .l)))))
def ae.qo(a:al)(b:ad)(c:ad)(d:ad)(key:ad)(w:J)(Q:aa->J->Prop):Prop:=ao (w.alloc (.cells #[a,b,c,d] 169)) λw1=>aT w1 (Y w) λb3=>r1 w1 ((Y w).add 1) λe=>r1 w1 ((Y w).add 2) λf=>r1 w1 ((Y w).add 3) λg=>kF 177 #[.agg #[b3,e,f,g],key] w1 λn8 h i=>Q (.tuple #[n8,h]) i
def ax.qo:aN:=(.q (.q .l))
def ae.uW(c:av ag)(w:J)(Q:aa->J->Prop):Prop:=bD 178 #[c,.func (.func 179) #[] #[]] w λa w1=>Q a w1
def ax.uW:aN:=(.q (.q .l))
def ae.uX(c:av ag)(no:Int)(w:J)(Q:aa->J->Prop):Prop:=j6 180 #[c,no] w λa w1=>b5 (λd:al->J->Prop=>ak (Option.isNone a) (d true w1) (∃
 a5:ag,a=some a5/\aF w1 (a5.add 4) λn6=>d (decide (n6>0)) w1)) (λ(e:al) b=>ak e (Q false b) (∃a9:ag,a=some a9/\bI b a9 [false,false,false,(0:Int),(0:Int),
 ()]/\(6:Nat)=6/\ao (setCells b a9 0 [false,false,false,(0:Int),(0:Int),()]) λf=>Q true f))
def ax.uX:aN:=(.q (.q (.s (.s (.z [9,16]) (.c (.q .l) .l)) (.q (.q .l)))))
def ae.uY(t:av ag)(w:J)(Q:aa->J->Prop):Prop:=ak (Option.isNone t) (Q (.tuple #[(0:Int),(0:Int)]) w) (ao (w.drew) λw1=>∃a2:ag,t=some a2/\¬False/\aF w1 (a2.add 3) λa=>∃
 a4:ag,t=some a4/\¬False/\aF w1 (a4.add 4) λn5=>Q (.tuple #[a,n5]) w1)
def ax.uY:aN:=(.q (.s a1 (.s (.d 9 false [0,3000,0,3004,504,509] [0,3000,0,3004,4,8] [8006,2002] [1,3006,1,3010,10,14] (.z 9 0 .e)) .l)))
def ae.r8(s:av ag)(w:J)(Q:aa->J->Prop):Prop:=ak (Option.isNone s) (Q (0:Int) w) (∃a1:ag,s=some a1/\aF w a1 λbA=>∃a3:ag,s=some a3/\r1 w (a3.add 1) λj=>∃ (e:
 Int->Int->J->Prop) (g:Int->Int->J->Nat),e bA 0 w/\∀ (n7:Int) (n8:Int) (d:J),e n7 n8 d->ak (decide (n8<(j.len:Int))) (ao (d.drew) λb=>∃c:Nat->Prop,∃eD:ag,s=some eD/\¬c
 (eD.add 1).block/\r1 b (eD.add 1) λh=>∃eX:ag,h.a=some eX/\aP n8 h.len/\¬c (eX.add (n8.toNat*1)).block/\dm b (eX.add (n8.toNat*1)) λn15=>∃fO:ag,s=some fO/\¬c (fO.add
 2).block/\r1 b (fO.add 2) λi=>∃gb:ag,i.a=some gb/\aP n8 i.len/\¬c (gb.add (n8.toNat*1)).block/\dm b (gb.add (n8.toNat*1)) λn19=>bY 181 #[.int .u8 (m3 .u8 n15 n19)] b
 λn22 f=>af c b f/\e (aq (n7-n22)) (aq (n8+1)) f/\g (aq (n7-n22)) (aq (n8+1)) f<g n7 n8 d) (Q n7 d))
def ax.r8:aN:=(.q (.s a1 (.q (.s (.q (.bU (.loop [(3,(.int .i64)),(16,(.int .i64))] [0,15] (.q (.s (.c .l .l) (.s (.bU (.q (.d 17 true [0,0,3001,0,1005004,7,0,3008,0,1012011,14,1014007,16,1016000,518]
 [0,0,3001,0,1005004,7,0,3008,0,1012011,14,1014007,16,1016000,1017000] [18019,4] [4,1,3020,5,1024023,26,1,3027,5,1031030,33,1033026,35,1035019,37] (.z 16 0 (.bR 16 (.tail [.r,.r])))))) .r)))))) (.q .l)))))
theorem ae.E2(s:av ag)(w:J)(Q:aa->J->Prop)(h:ae.r8 s w Q):aJ aj 129 #[s] w Q:=okF (λw Q=>ae.r8 s w Q) ax.r8 func129 h
def ae.qp(k:al)(l:ad)(m:ad)(n:ad)(key:ad)(w:J)(Q:aa->J->Prop):Prop:=ao (w.alloc (.cells #[k,l,m,n] 169)) λw1=>ao (w1.alloc z4) λai=>aT ai (Y w) λo=>r1 ai ((Y w).add 1) λp=>r1 ai ((Y w).add 2) λq=>r1 ai ((Y w).add 3) λr=>kF
 177 #[.agg #[o,p,q,r],key] ai λn9 s c=>aT c (Y w) λt=>b5 (λu:al->J->Prop=>qb t u c
 w) (λ(v:al) b=>ak (v||(!s)) (bI b (Y w1) [false,(),(),()]/\(4:Nat)=4/\ao (setCells b (Y w1) 0 [false,(),(),()]) λx=>jH x w1 Q) (aT b (Y w) λy=>r1 b ((Y w).add 1) λz=>r1 b ((Y w).add 2) λA=>r1 b ((Y w).add 3) λB=>ga 183 #[.agg #[y,z,A,B]] b λd e f g a=>ao (a.alloc z4) λh=>bI h (Y a) [d,e,f,g]/\
 (4:Nat)=4/\ao (setCells h (Y a) 0 [d,e,f,g]) λi=>r1 i ((Y a).add 1) λC=>bD 184
 #[C,n9,.int .i64 (aq (n9+1))] i λD E=>st E ((Y a).add 1) D λj=>r1 j ((Y a).add 2) λF=>bD 184
 #[F,n9,.int .i64 (aq (n9+1))] j λG H=>st H ((Y a).add 2) G λI=>cW I a w1 Q))
def ax.qp:aN:=(.q (.q (.s (.s (.z [12,10,12,8]) (.c (.q .l) .l)) (.q a3))))
def ae.r9(t:av ag)(h6:ad)(r:al)(s:ad)(u:ad)(v:ad)(w:J)(Q:aa->J->Prop):Prop:=ao (w.alloc (.cells #[r,s,u,v] 169)) λw1=>ao (w1.alloc (.cells #[(0:Int)] 32)) λai=>ao (ai.drew) λc=>∃g:Nat->Prop,∃
 a5:ag,t=some a5/\¬g (a5.add 1).block/\∃h:av ag,c.cell? (a5.add 1)=some (h)/\∃c9:ag,t=some c9/\¬g (c9.add 4).block/\aF c (c9.add 4) λn8=>bY 129 #[h] c λn11
 d=>af g c d/\ak (decide (n11<(aq ((aq (2*n8))+3)))) (st d (Y w1) (2:Int) λi=>aF i (Y w1) λn13=>Q n13 i) (ao (d.alloc (.cells #[t,(),()]
 284)) λa=>ao (a.alloc (.cells #[.pointer none] 282)) λx=>st x (Y a) (.pointer (some (Y d))) λb=>∃j:av ag,b.cell? (Y a)=some (j)/\aT b (Y w) λy=>
 r1 b ((Y w).add 1) λz=>r1 b ((Y w).add 2) λA=>r1 b ((Y w).add 3) λB=>p6 187 #[j,h6,.agg #[y,z,A,B]] b λn24 n25 n26 C=>st C (Y w1) n26 λe=>aF e (Y w1) λn28=>ak (n28 !=0) (aF e (Y w1) λn29=>st e (Y w1) n29 λD=>p3
 aj 185 #[.pointer (some (Y w1)),.pointer (some (Y a))] D λk=>aF k (Y w1) λn32=>Q n32 k) (ao (e.drew) λf=>¬False/\∃l:av ag,f.cell? (Y a)=some (.pointer
 l)/\¬False/\∃m:av ag,f.cell? (Y a)=some (m)/\∃n:ag,m=some n/\¬False/\r1 f (n.add 2) λE=>gJ 186 #[l,E] f λF=>∃
 o:ag,t=some o/\st F (o.add 3) n24 λG=>∃p:ag,t=some p/\st G (p.add 4) n25 λH=>st H (Y w1) (0:Int) λI=>p3 aj 185 #[.pointer (some
 (Y w1)),.pointer (some (Y a))] I λq=>aF q (Y w1) λK=>Q K q))
def ax.r9:aN:=(.q (.s (.s (.e 11 true [0,4000,0,5005,1010004] [12010] [1,4010,1,5015,1020014] (.z 4 0 (.z 6 5 (.bR 4 .e)))) (.c (.q .l) .l)) (.q (.s .l (.q (.s a1 (.s (.e 5 false [0,0,3001,1004000] [6037] [8,8,3038,1041037]
 (.z 5 0 .e)) (.q (.q .l)))))))))
theorem ae.E3(t:av ag)(h6:ad)(a:al)(b:ad)(c:ad)(d:ad)(w:J)(Q:aa->J->Prop):ae.r9 t h6 a b c d w Q=xm aj tk ax.r9 Tryz.f131 [t,h6,.agg #[a,b,c,d]] w Q:=by kernel_rfl
theorem ae.E4(t:av ag)(h6:ad)(a:al)(b:ad)(c:ad)(d:ad)(w:J)(Q:aa->J->Prop)(h:ae.r9 t h6 a b c d w Q):Calls aj 131 #[t,h6,.agg #[a,b,c,d]] w λe w1=>∃v,e=.returned v/\Q v w1:=
 EE xw func131 (by kernel_rfl) (Eq.mp (ae.E3 t h6 a b c d w Q) h)
def ae.qq(no:Int)(b:ad)(w:J)(Q:aa->J->Prop):Prop:=ao (w.alloc tW) λw1=>ak ((b.len:Int) !=256) (bI w1 (Y w) [(0:Int),.int .u64 0,()]/\(3:Nat)=3/\ao (setCells w1 (Y w)
 0 [(0:Int),.int .u64 0,()]) λai=>aF ai (Y w) λz=>cr ai ((Y w).add 1) λbV=>r1 ai ((Y w).add 2) λA=>Q (.tuple #[.agg #[z,.int .u64 bV,A],(9:Int)])
 ai) (((0:Int)<=4/\4<=(b.cap:Int))/\∃n:ByteArray,∃c:J,Sem.run aj (convert 39 9 (.slice (aY b.a 1 0 b.cap) ((Int.toNat 4)-0) (b.cap-0))) w1=.ok (.string n) c/\ak
 (!(ByteArray.toList n==ByteArray.toList (ByteArray.mk #[83,84,78,67]))) (bI c (Y w) [(0:Int),.int .u64 0,()]/\(3:Nat)=3/\ao (setCells c (Y w) 0 [(0:Int),.int .u64 0,()]) λB=>
 xK B w Q) (∃eD:ag,b.a=some eD/\aP 4 b.len/\dm c (eD.add (Int.toNat 4*1)) λn13=>ak (n13 !=1) (bI c (Y w) [(0:Int),.int .u64 0,()]/\(3:Nat)=3/\ao (setCells c (Y w) 0 [(0:Int),.int
 .u64 0,()]) λd=>aF d (Y w) λn15=>cr d ((Y w).add 1) λn16=>r1 d ((Y w).add 2) λC=>Q (.tuple #[.agg #[n15,.int .u64 n16,C],(12:Int)]) d)
 (ng 116 #[b] c λn20 D=>rX 192 #[b,(20:Int),(24:Int)] D λn23 h=>ak (((IntKind.wrap .u64 n20):Int) !=n23) (bI h (Y w) [(0:Int),.int .u64
 0,()]/\(3:Nat)=3/\ao (setCells h (Y w) 0 [(0:Int),.int .u64 0,()]) λe=>aF e (Y w) λn25=>cr e ((Y w).add 1) λn26=>r1 e ((Y w).add 2) λE=>Q (.tuple #[.agg
 #[n25,.int .u64 n26,E],(5:Int)]) e) (rX 192 #[b,(6:Int),(8:Int)] h λn30 o=>∃p:ag,b.a=some p/\aP 5 b.len/\dm o (p.add
 (Int.toNat 5*1)) λn32=>b6 114 #[.int .i64 (aq n32)] o λF q=>b5 (λr:al->J->Prop=>ak ((!F)||(decide (((aq n30):Int)>232))) (r true q) (((0:Int)<=(aq (24+(aq n30)))/\(aq (24+(aq
 n30)))<=(b.len:Int))/\b6 193 #[.slice (aY b.a 1 ((aq (24+(aq n30))).toNat) b.cap) (b.len-((aq (24+(aq n30))).toNat)) (b.cap-((aq (24+(aq n30))).toNat))] q λG H=>r (!G) H)) (λ(I:
 al) i=>ak I (bI i (Y w) [(0:Int),.int .u64 0,()]/\(3:Nat)=3/\ao (setCells i (Y w) 0 [(0:Int),.int .u64 0,()]) λK=>xK K w Q) (b6 113 #[no] i λL
 s=>b5 (λt:al->J->Prop=>ak (!L) (t true s) (rX 192 #[b,(8:Int),(12:Int)] s λM N=>t (M !=(IntKind.wrap .u64 no)) N)) (λ(O:al) j=>ak O
 (bI j (Y w) [(0:Int),.int .u64 0,()]/\(3:Nat)=3/\ao (setCells j (Y w) 0 [(0:Int),.int .u64 0,()]) λf=>aF f (Y w) λP=>cr f ((Y w).add 1) λR=>r1 f
 ((Y w).add 2) λS=>Q (.tuple #[.agg #[P,.int .u64 R,S],(1:Int)]) f) (jD 194 #[b,(24:Int),.int .i64 (aq n30)] j λu X T=>ao
 (T.drew) λk=>∃v:Nat->Prop,∃l:ag,b.a=some l/\aP 5 b.len/\¬v (l.add (Int.toNat 5*1)).block/\dm k (l.add (Int.toNat 5*1)) λx=>rX 192 #[b,(12:Int),(20:Int)] k λy m=>af v k m/\bI m (Y w) [.int .i64 (aq x),.int .u64 y,u]/\(3:Nat)=3/\ao (setCells m (Y w) 0 [.int .i64 (aq x),.int .u64 y,u]) λg=>aF g (Y w) λU=>cr g ((Y w).add 1) λV=>r1 g ((Y w).add 2) λW=>Q (.tuple #[.agg #[U,.int .u64 V,W],(0:Int)]) g))))))))
def ax.qq:aN:=(.q (.s (.bU (.q (.c (.q .l) (.q (.c (.q .l) g8))))) (.q (.s (.bU (.s (.z [21,8,9,19]) (.c (.q .l) eD))) (.q (.s (.d 7 true [0,3000,0,5,0,1006005003,508,509] [0,3000,0,5,0,1006005003,8,0] [8075,0,6]
 [2,3075,2,80,8,1081080078,1082004,0] (.z 5 0 (.t 6 (.bR 5 (.tail [.r,.r,.r]))))) .l))))))
def ae.qs(B:al)(C:ad)(D:ad)(E:ad)(key:ad)(val:ad)(w:J)(Q:aa->J->Prop):Prop:=ao (w.alloc (.cells #[B,C,D,E] 169)) λw1=>ao (w1.alloc z4) λai=>aT ai (Y w) λF=>b5 (λG:al->J->Prop=>qb F G ai w) (λ(H:al) m=>b5 (λn:al->J
 ->Prop=>ak H (n true m) (b6 199 #[key] m λI K=>n (!I) K)) (λ(L:al) c=>ak (L||(decide ((val.len:Int)>24))) (bI c (Y w1) [false,(),
 (),()]/\(4:Nat)=4/\ao (setCells c (Y w1) 0 [false,(),(),()]) λM=>jH M w1 Q) (aT c (Y w) λN=>r1 c ((Y w).add 1) λO=>r1 c
 ((Y w).add 2) λP=>r1 c ((Y w).add 3) λR=>ga 183 #[.agg #[N,O,P,R]] c λo p q r b=>ao (b.alloc
 z4) λs=>bI s (Y b) [o,p,q,r]/\(4:Nat)=4/\ao (setCells s (Y b) 0 [o,p,q,r]) λd=>aT d (Y w) λS=>r1 d ((Y w).add 1) λT=>r1 d ((Y w).add 2) λU=>r1 d ((Y w).add 3) λV=>kF 177 #[.agg #[S,
 T,U,V],key] d λe W t=>ak W (ao (t.drew) λh=>∃u:Nat->Prop,¬u ((Y b).add 2).block/\r1 h
 ((Y b).add 2) λv=>bD 46 #[val] h λX x=>af u h x/\∃y:ag,v.a=some y/\aP e v.len/\st x (y.add (e.toNat*1)) X λZ=>cW Z b w1 Q) (ao (t.drew) λi=>∃j:Nat->Prop,¬j ((Y b).add 1).block/\r1 i ((Y b).add 1) λab=>bD 46 #[key] i λ
 ac f=>af j i f/\ao (f.alloc (.cells #[ac] 39)) λz=>af j f z/\bD 200 #[ab,e,.slice (some (Y f)) 1 1]
 z λah aj=>st aj ((Y b).add 1) ah λam=>ao (am.drew) λk=>∃l:Nat->Prop,¬l ((Y b).add 2).block/\r1 k ((Y b).add 2) λan=>bD
 46 #[val] k λap g=>af l k g/\ao (g.alloc (.cells #[ap] 39)) λA=>af l g A/\bD 200
 #[an,e,.slice (some (Y g)) 1 1] A λaq ar=>st ar ((Y b).add 2) aq λau=>cW au b w1 Q))))
def ax.qs:aN:=(.q (.s (.s (.z [12,10,12,10,12,11]) (.c (.q .l) .l)) (.q (.q (.s (.q (.c (.s (.d 5 true [0,1,0,0,4,505,506] [0,1,0,0,4,1002001,1005004] [6039,0] [9,40,10,3,43,1041040,1044043] (.z 4 0 (.bR 4 (.tail [.r,.r])))) (.q
 .l)) .l)) (.s (.d 6 true [0,1,0,0,2003,1000000000054,507,508] [0,1,0,0,2003,1005002001,0,1007006] [8046,0] [9,47,10,2,2049,1051048047,9,1053052] (.z 4 0 (.bR 4 (.bR 5 (.tail [.r,.r,.r]))))) (.s (.d 6 true
 [0,1,0,0,2003,1000000000054,507,508] [0,1,0,0,2003,1005002001,0,1007006] [8054,0] [9,55,10,3,2057,1059056055,9,1061060] (.z 4 0 (.bR 4 (.bR 5 (.tail [.r,.r,.r]))))) (.q .l))))))))
def ae.r_(s:av ag)(w:J)(Q:aa->J->Prop):Prop:=ak (Option.isNone s) (Q (.tuple #[.int .i64 (-1),(1:Int)]) w) (∃a1:ag,s=some a1/\aF w a1 λbA=>∃ (c:Int->J->Prop) (d:
 Int->J->Nat),c 0 w/\∀ (n5:Int) (a:J),c n5 a->ak (decide (n5<bA)) (b6 201 #[s,n5] a λe b=>ak (!e) (∃e4:ag,s=some e4/\r1 b (e4.add 1) λf=>gJ
 111 #[f,n5] b λg=>Q (.tuple #[n5,(0:Int)]) g) (c (aq (n5+1)) b/\d (aq (n5+1)) b<d n5 a)) (Q (.tuple #[.int .i64 (-1),(2:Int)]) a))
def ax.r_:aN:=(.q (.s a1 (.s (.q (.bU (.loop [(11,(.int .i64))] [0,10] (.q (.s (.c .l .l) (.s (.bU (.q (.q e4))) .r)))))) (.q .l))))
theorem ae.E5(s:av ag)(w:J)(Q:aa->J->Prop)(h:ae.r_ s w Q):aJ aj 144 #[s] w Q:=okF (λw Q=>ae.r_ s w Q) ax.r_ func144 h
def ae.sd(s:av ag)(no:Int)(w:J)(Q:aa->J->Prop):Prop:=b6 202 #[s,no] w λb w1=>ak (!b) (Q (1:Int) w1) (∃a4:ag,s=some a4/\r1 w1 (a4.add 1)
 λc=>b6 198 #[c,no] w1 λd a=>ak (!d) (Q (6:Int) a) (∃a9:ag,s=some a9/\r1 a (a9.add 1) λe=>gJ 203 #[e,no] a λf=>Q (0:Int) f))
def ax.sd:aN:=(.q (.s (.bU g8) (.q (.q .l))))
theorem ae.E6(s:av ag)(no:Int)(w:J)(Q:aa->J->Prop)(h:ae.sd s no w Q):aJ aj 145 #[s,no] w Q:=okF (λw Q=>ae.sd s no w Q) ax.sd func145 h
def ae.uZ(c:av ag)(no:Int)(b:ad)(w:J)(Q:aa->J->Prop):Prop:=b6 204 #[c,no] w λl w1=>ak ((!l)||((b.len:Int) !=256)) (Q (1:Int) w1) (j6
 180 #[c,no] w1 λf g=>b5 (λh:av ag->J->Prop=>ak (Option.isNone f) (h5 205 #[c] g λd n11 a=>ak (n11 !=0) (Q n11 a) (∃eD:ag,d
 =some eD/\(∃u:aa,a.cell? eD=some u)/\a.frozen? eD=false/\ao (a.setCell eD true) λm=>∃eX:ag,d=some eX/\st m (eX.add 3) no λn=>h d n)) (h f g)) (λ(e:av
 ag) o=>bD 46 #[b] o λp q=>∃i:ag,e=some i/\st q (i.add 5) p λr=>∃j:ag,e=some j/\st r (j.add 1) true λs=>∃k:ag,e=some k/\st s (k.add 2) true λt=>Q (0:Int) t))
def ax.uZ:aN:=(.q (.s (.s (.z [15,11]) (.c (.q .l) .l)) (.q (.s (.fm [(7,.ptr)] [2] (.q (.c (.q (.s a1 (.q .r))) .l))) (.q (.q .l))))))
def ae.u0(c:av ag)(w:J)(Q:aa->J->Prop):Prop:=ak (Option.isNone c) (Q (1:Int) w) (bD 126 #[c] w λd w1=>∃ (e:Int->J->Prop) (g:Int->J->Nat),
 e 0 w1/\∀ (n6:Int) (b:J),e n6 b->ak (decide (n6<(d.len:Int))) (∃eC:ag,d.a=some eC/\aP n6 d.len/\aF b (eC.add (n6.toNat*1)) λn9=>j6 180 #[c,n9] b λh o=>ao
 (o.drew) λf=>∃eX:ag,c=some eX/\¬False/\∃i:av ag,f.cell? eX=some (i)/\∃fO:ag,h=some fO/\¬False/\r1 f (fO.add 5) λp=>bY 58 #[i,n9,p] f λn20 j=>ak (n20 !=0) (Q n20 j) (∃k:ag,h=some k/\st j (k.add 1) false λl=>e (aq (n6+1)) l/\g (aq (n6+1)) l<g n6 b)) (∃m:ag,c
 =some m/\∃n:av ag,b.cell? m=some (n)/\bY 59 #[n] b λn27 q=>Q n27 q))
def ax.u0:aN:=(.q (.s a1 (.s (.q (.bU (.loop [(12,(.int .i64))] [0,10,11] (.q (.s (.c .l .l) (.s (.bU (.q (.q (.s (.s (.d 9 false [0,3000,0,0,3005,1008004003,510] [0,3000,0,0,3005,1008004003,10] [10019,7]
 [1,3019,2004,3024,1027023022,29] (.z 9 0 (.tail [.r,.r]))) a1) .r)))) .r)))))) (.q .l))))
def ae.se(t:av ag)(gen:Int)(w:J)(Q:aa->J->Prop):Prop:=ak (!(Option.isNone t)) (∃a1:ag,t=some a1/\st w (a1.add 2) (.int .u64 gen) λai=>Q (.tuple #[]) ai) (Q (.tuple #[]) w)
def ax.se:aN:=(.q (.c .r .l))
theorem ae.E7(t:av ag)(gen:Int)(w:J)(Q:aa->J->Prop)(h:ae.se t gen w Q):aJ aj 148 #[t,.int .u64 gen] w Q:=okF (λw Q=>ae.se t gen w Q) ax.se func148 h
def ae.nk(n:Int)(w:J)(Q:aa->J->Prop):Prop:=Q (.bool ((decide (n>=0))&&(decide (n<=65535)))) w
def ax.nk:aN:=a4
def ae.oE(a:Array aa)(bits:Int)(w:J)(Q:aa->J->Prop):Prop:=ao (w.alloc (.cells a 53)) λw1=>ao (w1.alloc k7) λai=>∃c:O aa,bw ai (Y w) 0 17=some c/\jE 213
 #[.agg c.toArray,bits] ai λb g d=>bI d (Y w1) (Array.toList b)/\Array.size b=18/\ao (setCells d (Y w1) 0 (Array.toList b)) λe=>∃f:O aa,bw e (Y w1) 0 18=some f/\Q (.tuple #[.agg
 f.toArray,g]) e
def ax.oE:aN:=(.q (.q .l))
theorem ae.E8(a:Array aa)(bits:Int)(w:J)(Q:aa->J->Prop)(h:ae.oE a bits w Q):aJ aj 166 #[.agg a,bits] w Q:=okF (λw Q=>ae.oE a bits w Q) ax.oE func166 h
def ae.lF(a:Array aa)(w:J)(Q:aa->J->Prop):Prop:=ao (w.alloc (.cells a 53)) λw1=>∃b:O aa,bw w1 (Y w) 0 17=some b/\bD 214 #[.agg b.toArray] w1 λd c=>ao
 (c.alloc (.cells #[d] 39)) λe=>bD 103 #[.slice (some (Y c)) 1 1] e λf g=>Q f g
def ax.lF:aN:=(.q (.q .l))
theorem ae.E9(a:Array aa)(w:J)(Q:aa->J->Prop)(h:ae.lF a w Q):aJ aj 167 #[.agg a] w Q:=okF (λw Q=>ae.lF a w Q) ax.lF func167 h
def ae.u3(t:av ag)(g:ad)(to:ad)(most:Int)(w:J)(Q:aa->J->Prop):Prop:=ao (w.alloc (.cells #[g] 39)) λw1=>ao (w1.alloc (.cells #[to] 39)) λai=>ao (ai.alloc (.cells #[most] 3)) λb=>ak (Option.isNone t) (Q (.tuple #[(),(1:Int)]) b) (∃a4:ag,t=some a4/\aF b (a4.add 4) λn5=>b5 (λf:
 al->J->Prop=>ak (n5==0) (f true b) (aF b (Y ai) λn7=>f (decide (n7<1)) b)) (λ(h:al) c=>ak h (Q (.tuple #[(),(0:Int)]) c) (ao (c.alloc (.cells #[()] 193)) λ
 i=>ao (i.drew) λa=>∃d:Nat->Prop,∃ej:ag,t=some ej/\¬d (ej.add 3).block/\aF a (ej.add 3) λn14=>∃dt:ag,t=some dt/\¬d (dt.add 4).block/\aF a (dt.add 4) λn16=>¬d ((Y w):
 ag).block/\r1 a (Y w) λj=>af d a a/\nd 217 #[t,n14,n16,j,.func (.func 218) #[] #[.pointer (some (Y w1)),.pointer (some (Y
 w)),.pointer (some (Y c)),.pointer (some (Y ai))]] a λl n21 e=>ak (n21 !=0) (Q (.tuple #[(),n21]) e) (r1 e (Y c) λk=>Q (.tuple #[k,(0:Int)]) e))))
def ax.u3:aN:=(.q (.s a1 (.s (.s (.z [18,7]) (.c (.q .l) .l)) (.q (.s (.d 16 true [0,0,3001,0,3005,0,0,1000000001809,2011,13,514,516] [0,0,3001,0,3005,0,0,1000000001809,2011,3012] [12025,25,2037,2011]
 [1,1,3026,1,3030,6,1000000001248,1060699967488,37,25,25,2037] (.z 10 0 (.bR 10 (.out 11 false (.z 4 12 .e))))) (.s a1 (.q .l)))))))
def ae.k8(b:ad)(c:Int)(size:Int)(w:J)(Q:aa->J->Prop):Prop:=ak ((((decide (c<0))||(decide (size<0)))||(decide (c>(b.len:Int))))||(decide (size>(aq ((b.len:Int)-c))))) (Q (.tuple
 #[(),false]) w) (((0:Int)<=(aq (c+size))/\(aq (c+size))<=(b.cap:Int))/\((0:Int)<=c/\c<=((((aq (c+size)).toNat):Nat):Int))/\Q (.tuple #[.slice (aY b.a 1 (Int.toNat
 c) b.cap) (((aq (c+size)).toNat)-(c.toNat)) (b.cap-(c.toNat)),true]) w)
def ax.k8:aN:=(.q (.s (.s (.z [9,8,9,14,15,20]) (.c (.q .l) .l)) (.q .l)))
theorem ae.E_(b:ad)(a:Int)(size:Int)(w:J)(Q:aa->J->Prop)(h:ae.k8 b a size w Q):aJ aj 170 #[b,a,size] w Q:=okF (λw Q=>ae.k8 b a size w Q) ax.k8 func170 h
def ae.u4(size:Int)(w:J)(Q:aa->J->Prop):Prop:=Q (.bool ((decide (size>=1))&&(decide (size<=8)))) w
def ax.u4:aN:=a4
theorem ae.A2(size:Int)(w:J)(Q:aa->J->Prop)(h:ae.u4 size w Q):aJ aj 171 #[size] w Q:=okF (λw Q=>ae.u4 size w Q) ax.u4 func171 h
def ae.oF(b:ad)(w:J)(Q:aa->J->Prop):Prop:=ao (w.alloc z3) λw1=>ak ((b.len:Int)==4) (p5 220 #[b] w1 λfF ai=>xM ai w fF Q) (ak ((b.len:Int)==16) (16<=b.len/\∃c9:
 ag,b.a=some c9/\∃d:O aa,bw w1 c9 0 16=some d/\∃e:Array aa,Sem.run aj (Instr.build 53 #[(0,true),(1,.agg d.toArray)]) w1=.ok (.agg e) w1/\xM w1 w e Q) (∃c:Array aa,
 Sem.run aj (Instr.build 53 #[]) w1=.ok (.agg c) w1/\bI w1 (Y w) (Array.toList c)/\Array.size c=17/\ao (setCells w1 (Y w) 0 (Array.toList c)) λf=>∃g:O aa,bw f (Y w) 0 17=some
 g/\Q (.tuple #[.agg g.toArray,false]) f))
def ax.oF:aN:=(.q (.s (.q (.bU g8)) (.q .l)))
def ae.u5(parts:ad)(w:J)(Q:aa->J->Prop):Prop:=∃ (d:Int->Int->J->Prop) (e:Int->Int->J->Nat),d 4294967295 0 w/\∀ (c:Int) (bV:Int) (b:J),d c bV b->ak (decide (bV<
 (parts.len:Int))) (∃dK:ag,parts.a=some dK/\aP bV parts.len/\r1 b (dK.add (bV.toNat*1)) λg=>ng 221 #[.int .u32 c,g] b λn10 f=>d n10 (aq (bV+1)) f/\e n10 (aq (bV+1)) f
 <e c bV b) (Q (.int .u32 (oa .u32 4294967295 c)) b)
def ax.u5:aN:=(.q (.q (.s (.q (.bU (.loop [(3,(.int .u32)),(8,(.int .i64))] [6,7] a2))) (.q .l))))
def ae.u6(t:av ag)(no:Int)(leaf:al)(w:J)(Q:aa->J->Prop):Prop:=ao (w.alloc z4) λw1=>∃a2:ag,t=some a2/\∃e:av ag,w1.cell? a2=some (e)/\ey
 222 #[e,no] w1 λA n7 f=>ak (n7 !=0) (xO f w Q n7) (AU 137 #[no,A] f λn15 n16 g n18 b=>ao (b.alloc tW) λh=>bI h (Y b)
 [n15,.int .u64 n16,g]/\(3:Nat)=3/\ao (setCells h (Y b) 0 [n15,.int .u64 n16,g]) λi=>ak (n18 !=0) (xO i w Q n18) (ao (i.drew) λa=>¬
 False/\cr a ((Y b).add 1) λn27=>∃j:ag,t=some j/\¬False/\cr a (j.add 2) λn29=>ak (decide (n27>n29)) (b5 (λk:al->J->Prop=>ak true (k true a) (aF a (Y b) λn31=>b5 (λ
 l:al->J->Prop=>ak (n31 !=1) (aF a (Y b) λn33=>l (n33 !=2) a) (l false a)) (λ(B:al) C=>k B C))) (λ(D:al) c=>ak D (bI c (Y w) [false,(),(),()]/\(4:Nat)=4/\ao (setCells c (Y w) 0 [false,(),(),()]) λE=>rZ E w Q) (r1 c ((Y b).add 2) λF=>k6 206 #[leaf,
 F] c λm n o p G q=>bI q (Y w) [m,n,o,p]/\(4:Nat)=4/\ao (setCells q (Y w) 0 [m,n,o,p]) λH=>fx H w Q G))) (¬False/\aF a (Y b) λI=>b5 (λr:al->J->Prop=>ak (!((I==1)==leaf)) (r true
 a) (aF a (Y b) λK=>b5 (λs:al->J->Prop=>ak (K !=1) (aF a (Y b) λL=>s (L !=2) a) (s false a)) (λ(M:al) N=>r M N))) (λ(O:al) d=>ak O (bI d (Y w)
 [false,(),(),()]/\(4:Nat)=4/\ao (setCells d (Y w) 0 [false,(),(),()]) λP=>rZ P w Q) (r1 d ((Y b).add 2) λR=>
 k6 206 #[leaf,R] d λu v x y S z=>bI z (Y w) [u,v,x,y]/\(4:Nat)=4/\ao
 (setCells z (Y w) 0 [u,v,x,y]) λT=>fx T w Q S)))))
def ax.u6:aN:=(.q (.q (.s a1 (.q (.s a1 (.s (.s (.d 12 false [0,1,0,3002,1005001,2006,1008007,1009007,8,1011010007,1012007,1013007,15,1015014,1016014,1017014,19,1019018,1020018,1021018014,1022014]
 [0,1,0,3002,1005001,2006,1008007,1009007,8,1011010007,1012007,2013,1015014,1016014,1017014,19,1019018,1020018,1021018014,1022014] [24034]
 [11,35,1,3036,1039035,41,1041010,1042041,1043041,1041002,1045044041,1046041,48,1048010,1049048,1050048,1051048,1052010,1053052,1054052,1055052048,1056048] (.z 8 0 (.sp 41 (.z 4 8 (.tail [.r,.r,.r,.split 8,.r,.r,.r,.split 3,.r,.r,
 .r,.r])) (.z 4 8 (.tail [.r,.r,.r,.split 8,.r,.r,.r,.split 3,.r,.r,.r,.r]))))) (.c (.q .l) .l)) (.q .l)))))))
def ae.oG(c:al)(d:ad)(e:ad)(f:ad)(key:ad)(w:J)(Q:aa->J->Prop):Prop:=ao (w.alloc (.cells #[c,d,e,f] 169)) λw1=>aT w1 (Y w) λb3=>r1 w1 ((Y w).add 1) λg=>r1 w1 ((Y w).add 2) λh=>r1 w1 ((Y w).add 3) λi=>kF 177 #[.agg #[b3,g,h,i],key] w1 λn8 j a=>b5 (λb:Int->J->Prop=>ak j (b (aq (n8+1)) a) (b n8 a)) (λ(n11:Int) k=>Q
 n11 k)
def ax.oG:aN:=(.q (.q (.s (.fm [(5,(.int .i64))] [] (.q (.c .r .l))) (.q .l))))
def ae.mj(a:al)(b:ad)(c:ad)(d:ad)(key:ad)(w:J)(Q:aa->J->Prop):Prop:=ao (w.alloc (.cells #[a,b,c,d] 169)) λw1=>r1 w1 ((Y w).add 1) λs2=>kF 223 #[s2,key,.func (.func
 219) #[] #[]] w1 λn5 e f=>Q (.tuple #[n5,e]) f
def ax.mj:aN:=(.q (.q .l))
def ae.sf(c:av ag)(choose:ik)(w:J)(Q:aa->J->Prop):Prop:=ak (Option.isNone c) (Q () w) (∃a1:ag,c=some a1/\r1 w (a1.add 1) λs2=>∃ (h:ad->Int->J->Prop) (i
 :ad->Int->J->Nat),h ⟨none,0,0⟩ 0 w/\∀ (e:ad) (n6:Int) (b:J),h e n6 b->ak (decide (n6<(s2.len:Int))) (b5 (λj:ad->J->Prop=>∃a9:ag,s2.a=some a9/\aP n6 s2.len/\aT b (a9.add (Int.toNat n6
 *6)) λk=>aT b ((a9.add (n6.toNat*6)).add 1) λl=>aT b ((a9.add (n6.toNat*6)).add 2) λm=>aF b ((a9.add (n6.toNat*6)).add 3) λn13=>aF b ((a9.add (n6.toNat*6)).add 4) λn14=>r1 b
 ((a9.add (n6.toNat*6)).add 5) λn=>ao (b.alloc (.cells #[false,false,false,(0:Int),(0:Int),()] 275)) λo=>bI o (Y b) [k,l,m,n13,n14,n]/\(6:Nat)=6/\ao (setCells o (Y b) 0 [k,l,m,n13,n14,n]) λd=>aT d (Y b) λu=>aT d
 ((Y b).add 1) λv=>aT d ((Y b).add 2) λx=>aF d ((Y b).add 3) λn21=>aF d ((Y b).add 4) λn22=>r1 d ((Y b).add 5) λy=>hX aj choose.f/\Calls aj
 choose.f (choose.pre++ #[.agg #[u,v,x,n21,n22,y]]++choose.cap) d λz g=>∃p:al,z=.returned p/\ak p (aF g ((Y b).add 3)
 λn27=>ao (g.alloc (.cells #[n27] 3)) λA=>∃q:ad,∃r:J,Sem.run aj (Builtin.append_ #[72,72] 72 #[e,.slice (some (Y g)) 1 1]) A=.ok
 q r/\j q r) (j e g)) (λ(s:ad) t=>h s (aq (n6+1)) t/\i s (aq (n6+1)) t<i e n6 b)) (gJ 140 #[e] b λB=>Q e B))
def ax.sf:aN:=(.q (.q (.s a1 (.s (.q (.bU (.loop [(5,.slice),(15,(.int .i64))] [1,13,14] (.q (.s (.c .l .l) (.s (.fm [(5,.slice)] [1,13,14,15] (.bU (.q (.q (.c .r .l))))) .r)))))) (.q (.q .l))))))
theorem ae.Fa(c:av ag)(choose:ik)(w:J)(Q:aa->J->Prop)(h:ae.sf c choose w Q):aJ aj 178 #[c,.func (.func choose.f) choose.pre choose.cap] w Q:=okF (λw Q=>ae.sf c choose w Q) ax.sf func178 h
def ae.u7(b:al)(c:al)(d:al)(e:Int)(f:Int)(g:ad)(w:J)(Q:aa->J->Prop):Prop:=ao (w.alloc (.cells #[b,c,d,e,f,g] 275)) λw1=>aT w1 (Y w) λb3=>b5 (λa:al->J->Prop=>ak b3 (aT w1 ((Y w).add 1) λh=>a h w1) (a false w1)) (λ(i:al) j=>Q i j)
def ax.u7:aN:=(.q (.s (.z [9,7]) .l))
end Go.Proofs.YtcmgnhkpfllinaaGreat
