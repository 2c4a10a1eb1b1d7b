/- Printed by gen.py: functions of the program, each as what must be shown of it. -/
import Derived.Test.YtcmgnhkpfllinaaGreatProg
import Derived.Test.YtcmgnhkpfllinaaGreatKALasts2
namespace aS
abbrev aJ.s:=aJ.seq
abbrev aJ.l:=aJ.leaf
abbrev aJ.c:=aJ.cond
abbrev aJ.r:=aJ.q2 []
abbrev aN.t:=aN.take
abbrev lA.r:=lA.run
open Go
def kC:O Nat->O Nat
 | []=> []
 |x::l=>bif Nat.blt x 500 then (bif Nat.beq x 0 then 0 else 2^(x-1))::kC l else bif Nat.blt x 1000 then (2^(x-500)-1)::kC l else bif Nat.blt x 1000000 then (List.range' (x%1000) (x/1000)).map (λy=>2^y)++kC l else bif Nat.blt x 1000000000 then (2^(x/1000-1000)+2^(x%1000))::kC l else bif Nat.blt x 1000000000000 then (2^(x/1000000-1000)+2^(x/1000%1000)+2^(x%1000))::kC l else (x-1000000000000)::kC l
def aN.z:Nat->Nat->aN->aN
 |0,_,x=>x
 |n+1,a,x=>.take a (aN.z n (a+1) x)
def aN.e:aN:=.tail [.run]
def aJ.d(n:Nat)(b:ao)(A B C D:O Nat)(t:aN):aJ:=.vC n b ⟨kC A,kC B⟩ (kC C) (kC D) t
def aJ.e(n:Nat)(b:ao)(A C D:O Nat)(t:aN):aJ:=.vC n b ⟨kC A,kC A⟩ (kC C) (kC D) t
def aJ.q(t:aJ):aJ:=.seq (.q2 []) t
def vP:O Nat->O lA
 | []=> []
 |x::l=>bif Nat.beq (x%3) 0 then List.replicate (x/3) .run++vP l else bif Nat.beq (x%3) 1 then .split (x/3)::vP l else .pure (x/3)::vP l
def aJ.z(l:O Nat):aJ:=.q2 (vP l)
end aS
namespace Go.Proofs.YtcmgnhkpfllinaaGreat
noncomputable abbrev aj:=Tryz.prog
open Go aS Go.Proofs.Tryz
namespace F
end F
namespace HQ
end HQ
namespace G
end G
abbrev aY:ei:=.one (.one .fn)
abbrev fw:ei:=.one (.one .agg)
abbrev gG:ei:=.one (.one .ptr)
abbrev j3:ei:=.one (.one .slice)
abbrev oo:ei:=.fu [(.one .ptr),(.one (.int .i64))]
abbrev oq:ei:=.one (.flat [.ptr,.slice,(.int .i64)])
abbrev ra:ei:=.fu [(.one .slice),(.one (.int .i64))]
abbrev vQ:ei:=.one (.one (.int .i64))
abbrev vR:ei:=.one (.one (.int .u8))
abbrev vS:ei:=.one (.one (.int .u64))
abbrev vT:ei:=.one (.flat [.slice,.slice])
abbrev vU:ei:=.one (.flat [.slice,(.int .i64)])
def HR:O ei:=[(.fu []),aY,vQ,vQ,(.one (.one .bool)),vR,vR,(.one (.flat [(.int .i64),(.int .i64),.bool,(.int .u8)])),(.one (.flat [(.int .i64),(.int .i64),.bool,(.int .u8)])),(.one (.one .str)),(.one (.one .str)),(.one (.one .str)),vS,(.one (.flat [.str,(.int .u64)])),(.one (.flat [.str,(.int .u64)])),gG,gG,gG,(.one (.flat [.ptr])),(.one (.flat [.ptr])),(.one (.one .any)),(.one (.one (.int .i32))),j3,vS,(.one (.flat [(.int .i64),(.int .u64),.bool])),(.one (.flat [(.int .i64),(.int .u64),.bool])),gG,gG,(.fu [(.one .ptr),(.one .ptr),(.one .bool)]),aY,vS,gG,vQ,oo,aY,(.one (.flat [(.int .i64),.slice])),(.one (.flat [(.int .i64),.slice])),(.fu [(.one (.int .i64)),(.one (.int .i64))]),aY,j3,aY,aY,aY,j3,gG,oq,oq,aY,aY,aY,aY,fw,fw,fw,fw,fw,fw,fw,(.fu [(.one .agg),(.one .bool),(.one (.int .i64))]),aY,j3,(.one (.flat [(.int .i64),(.int .i64),(.int .u8)])),(.one (.flat [(.int .i64),(.int .i64),(.int .u8)])),(.one (.flat [(.int .i64),(.int .i64),(.int .u64)])),(.one (.flat [(.int .i64),(.int .i64),(.int .u64)])),aY,gG,oo,aY,gG,oo,aY,j3,(.one (.flat [(.int .i64),(.int .i64),(.int .i64),.slice,.slice,.slice])),(.one (.flat [(.int .i64),(.int .i64),(.int .i64),.slice,.slice,.slice])),aY,(.fu [(.one .bool),(.one (.int .i64))]),aY,aY,aY,aY,aY,fw,fw,fw,fw,(.fu [(.one .agg),(.one (.int .i64))]),aY,aY,(.one (.flat [(.int .i64),(.int .i64),(.int .i64),(.int .u64),(.int .u64),(.int .i64)])),(.one (.flat [(.int .i64),(.int .i64),(.int .i64),(.int .u64),(.int .u64),(.int .i64)])),aY,aY,j3,aY,aY,aY,j3,(.fu [(.one .ptr),(.one .ptr),(.one .bool)]),aY,fw,fw,oo,aY,aY,aY,aY,aY,aY,oq,oq,(.fu [(.one .slice),(.one (.int .i64)),(.one (.int .i64))]),aY,aY,ra,aY,(.fu [(.one .slice),(.one .bool)]),aY,(.fu [(.one .slice),(.one .bool),(.one (.int .i64))]),(.one (.flat [.ptr,(.int .i64)])),(.one (.flat [.ptr,(.int .i64)])),aY,(.fu [(.one .agg),(.one .bool)]),aY,j3,(.one (.one .map)),fw,fw,fw,fw,aY,gG,oo,aY,ra,aY,(.one (.flat [(.int .i64),(.int .u64),.slice])),(.one (.flat [(.int .i64),(.int .u64),.slice])),fw,aY,aY,aY,aY,gG,gG,fw,fw,aY,aY,aY,fw,fw,(.fu [(.flat [(.int .i64),(.int .i64),(.int .i64),(.int .u64),(.int .u64),(.int .i64)]),(.one (.int .u64)),(.one (.int .i64))]),aY,aY,gG,(.one (.one .map)),fw,fw,aY,(.fu [(.flat [(.int .i64),(.int .i64),(.int .i64),(.int .u64),(.int .u64),(.int .i64)]),(.one (.int .u64)),(.one (.int .i64))]),aY,aY,aY,aY,aY,(.fu [(.flat [(.int .i64),(.int .u64),.slice]),(.one (.int .i64))]),aY,(.one (.flat [.bool,.slice,.slice,.slice])),(.one (.flat [.bool,.slice,.slice,.slice])),(.fu [(.flat [.bool,.slice,.slice,.slice]),(.one .bool)]),aY,gG,aY,j3,vT,vT,aY,aY,aY,aY,aY,aY,aY,ra,aY,aY,aY,aY,aY,aY,aY,aY,j3,ra,aY,aY,vT,vT,aY,(.fu [(.one (.int .u64)),(.one .bool)]),aY,(.fu [(.one .agg),(.one .bool)]),aY,aY,gG,j3,aY,(.one (.flat [(.int .i64),.slice,.slice])),(.one (.flat [(.int .i64),.slice,.slice])),aY,(.one (.one (.int .u32))),aY,aY,aY,oo,aY,oo,aY,j3,ra,aY,fw,fw,(.fu [(.one (.int .i64)),(.one .bool)]),aY,(.fu [(.one (.int .i64)),(.one (.int .i64))]),aY,aY,aY,aY,aY,aY,aY,aY,aY,(.fu [(.flat [(.int .i64),(.int .i64),(.int .i64),(.int .u64),(.int .u64),(.int .i64)]),(.one (.int .i64)),(.one (.int .u64)),(.one (.int .i64))]),aY,aY,(.fu [(.one .slice),(.one (.int .i64)),(.one (.int .i64))]),aY,aY,(.one (.flat [.ptr,.ptr,(.int .u64),(.int .i64),(.int .i64)])),(.one (.flat [.ptr,.ptr,(.int .u64),(.int .i64),(.int .i64)])),aY,aY,aY,(.one (.flat [(.int .i64),(.int .i64)])),(.one (.flat [(.int .i64),(.int .i64)])),j3,aY,aY,aY,aY,aY,aY,aY,aY,(.fu [(.one .agg),(.one .bool)]),aY,aY,aY,aY,aY,aY,aY,j3,oq,oq,(.fu [(.flat [.bool,.slice,.slice,.slice]),(.one (.int .i64))]),aY,aY,aY,aY,(.one (.flat [.bool,.bool,.bool,(.int .i64),(.int .i64),.slice])),(.one (.flat [.bool,.bool,.bool,(.int .i64),(.int .i64),.slice])),gG,aY,aY,aY,aY,aY,gG,(.one (.flat [.ptr,.slice,.slice])),(.one (.flat [.ptr,.slice,.slice])),(.fu [(.one (.int .i64)),(.one (.int .i64)),(.one (.int .i64))]),aY,aY,gG,vU,vU,aY,gG,oq,oq,aY,aY,aY,aY,oo,aY,aY,aY,aY,aY,(.fu [(.one .slice),(.one .slice)]),aY,aY,aY,aY,aY,aY,aY,aY,aY,aY,gG,j3,(.fu [(.one .slice),(.one (.int .i64)),(.one (.int .i64)),(.one (.int .i64))]),aY,aY,aY,ra,aY,vU,vU,aY,aY,aY,vQ,(.fu [(.one (.int .i64)),(.one (.int .i64))]),aY,aY,aY,aY,aY,aY,aY,aY,aY,gG,(.one (.flat [.slice,.bool])),(.one (.flat [.slice,.bool])),aY,aY,aY,aY,aY,aY,aY,aY,vS,aY,aY,aY,gG,aY,aY,fw,gG,aY,aY,(.fu [(.flat [.bool,.slice,.slice,.slice]),(.one .slice),(.flat [.bool,.slice,.slice,.slice]),(.one .bool)]),aY,aY,aY,(.one (.flat [.ptr,.ptr,.ptr,.str])),(.one (.flat [.ptr,.ptr,.ptr,.str])),fw,fw,fw,vR,vR,aY,gG,(.one (.one (.int .i32))),(.one (.one (.int .i32))),fw,fw,gG]
def tk:TypeId->ei:=λt=>HR.getD t (.one (.one .any))
theorem zM:Tryz.prog.follows .mixedOrders=true:=by kernel_rfl
def Y(w:J):af:=w.heap.size
def ar(n:Int):Int:=IntKind.wrap .i64 n
def aO(n:Int)(k:Nat):Prop:=(0:Int)<=n/\n<(k:Int)
def ak(c:ao)(A B:Prop):Prop:=(c=true->A)/\(c=false->B)
def lE:Int:=9223372036854775807
def st(w:J)(A:af)(v:aa)(K:U2):Prop:=(∃u:aa,w.cell? A=some u)/\w.frozen? A=false/\an (w.setCell A v) λw1=>K w1
def lF(w:J)(z:Obj)(l:O aa)(k:Nat)(K:U2):Prop:=an (w.alloc z) λw1=>bp w1 (Y w) (Array.toList l.toArray)/\Array.size l.toArray=k/\an (setCells w1 (Y w) 0 (Array.toList l.toArray)) λai=>K ai
def jb(s:ad)(n:Int)(w:J)(k:Nat)(K:O aa->Prop):Prop:=∃a:af,s.a=some a/\aO n s.len/\∃l:O aa,bf w (a.add (n.toNat*k)) 0 k=some l/\K l
def bB(f:Nat)(a:Array aa)(w:J)(K:Int->U2):Prop:=Calls aj f a w λe w'=>∃bV:Int,e=.returned bV/\K bV w'
def fI(f:Nat)(a:Array aa)(w:J)(K:U2):Prop:=Calls aj f a w λe w'=>e=.returned (.tuple #[])/\K w'
def iD(f:Nat)(a:Array aa)(w:J)(K:au af->U2):Prop:=Calls aj f a w λe w'=>∃bV:au af,e=.returned (bV)/\K bV w'
def ik(f:Nat)(a:Array aa)(w:J)(K:ad->ao->U2):Prop:=Calls aj f a w λe w'=>∃bV:ad,∃b:ao,e=.returned (.tuple #[bV,b])/\K bV b w'
def mF(f:Nat)(a:Array aa)(w:J)(K:ad->ao->Int->U2):Prop:=Calls aj f a w λe w'=>∃bV:ad,∃b:ao,∃c:Int,e=.returned (.tuple #[bV,b,c])/\K bV b c w'
def h4(f:Nat)(a:Array aa)(w:J)(K:Array aa->ao->U2):Prop:=Calls aj f a w λe w'=>∃bV:Array aa,∃b:ao,e=.returned (.tuple #[.agg bV,b])/\K bV b w'
def bP(f:Nat)(a:Array aa)(w:J)(K:ao->U2):Prop:=Calls aj f a w λe w'=>∃bV:ao,e=.returned bV/\K bV w'
def hO(f:Nat)(a:Array aa)(w:J)(K:au af->Int->U2):Prop:=Calls aj f a w λe w'=>∃bV:au af,∃b:Int,e=.returned (.tuple #[bV,b])/\K bV b w'
def bH(f:Nat)(a:Array aa)(w:J)(K:ad->U2):Prop:=Calls aj f a w λe w'=>∃bV:ad,e=.returned bV/\K bV w'
def dH(f:Nat)(a:Array aa)(w:J)(K:ad->Int->U2):Prop:=Calls aj f a w λe w'=>∃bV:ad,∃b:Int,e=.returned (.tuple #[bV,b])/\K bV b w'
def kD(f:Nat)(a:Array aa)(w:J)(K:ao->Int->U2):Prop:=Calls aj f a w λe w'=>∃bV:ao,∃b:Int,e=.returned (.tuple #[bV,b])/\K bV b w'
def Dp(f:Nat)(a:Array aa)(w:J)(K:Int->Int->Int->Int->Int->Int->Int->Int->U2):Prop:=Calls aj f a w λe w'=>∃bV:Int,∃b:Int,∃c:Int,∃d:Int,∃g:Int,∃h:Int,∃i:Int,∃j:Int,e=.returned (.tuple #[.agg #[bV,b,c,.int .u64 d,.int .u64 g,h],.int .u64 i,j])/\K bV b c d g h i j w'
def g9(f:Nat)(a:Array aa)(w:J)(K:Int->Int->U2):Prop:=Calls aj f a w λe w'=>∃bV:Int,∃b:Int,e=.returned (.tuple #[bV,b])/\K bV b w'
def mG(f:Nat)(a:Array aa)(w:J)(K:Int->ao->U2):Prop:=Calls aj f a w λe w'=>∃bV:Int,∃b:ao,e=.returned (.tuple #[.int .u64 bV,b])/\K bV b w'
def ot(f:Nat)(a:Array aa)(w:J)(K:Int->U2):Prop:=Calls aj f a w λe w'=>∃bV:Int,e=.returned (.int .u32 bV)/\K bV w'
def l2(f:Nat)(a:Array aa)(w:J)(K:Array aa->U2):Prop:=Calls aj f a w λe w'=>∃bV:Array aa,e=.returned (.agg bV)/\K bV w'
def lG(f:Nat)(a:Array aa)(w:J)(K:Int->ao->U2):Prop:=Calls aj f a w λe w'=>∃bV:Int,∃b:ao,e=.returned (.tuple #[bV,b])/\K bV b w'
def mH(f:Nat)(a:Array aa)(w:J)(K:ao->ad->ad->ad->ao->U2):Prop:=Calls aj f a w λe w'=>∃bV:ao,∃b:ad,∃c:ad,∃d:ad,∃g:ao,e=.returned (.tuple #[.agg #[bV,b,c,d],g])/\K bV b c d g w'
def Dq(f:Nat)(a:Array aa)(w:J)(K:hM->U2):Prop:=Calls aj f a w λe w'=>∃bV:hM,e=.returned (.func (.func bV.f) bV.pre bV.cap)/\K bV w'
def Dr(f:Nat)(a:Array aa)(w:J)(K:Int->Int->Int->Int->Int->Int->Int->Int->Int->U2):Prop:=Calls aj f a w λe w'=>∃bV:Int,∃b:Int,∃c:Int,∃d:Int,∃g:Int,∃h:Int,∃i:Int,∃j:Int,∃k:Int,e=.returned (.tuple #[.agg #[bV,b,c,.int .u64 d,.int .u64 g,h],i,.int .u64 j,k])/\K bV b c d g h i j k w'
def rf(f:Nat)(a:Array aa)(w:J)(K:Int->Int->ad->Int->U2):Prop:=Calls aj f a w λe w'=>∃bV:Int,∃b:Int,∃c:ad,∃d:Int,e=.returned (.tuple #[.agg #[bV,.int .u64 b,c],d])/\K bV b c d w'
def tq(f:Nat)(a:Array aa)(w:J)(K:ad->Int->Int->U2):Prop:=Calls aj f a w λe w'=>∃bV:ad,∃b:Int,∃c:Int,e=.returned (.tuple #[bV,b,c])/\K bV b c w'
def kX(f:Nat)(a:Array aa)(w:J)(K:ao->ad->ad->ad->Int->U2):Prop:=Calls aj f a w λe w'=>∃bV:ao,∃b:ad,∃c:ad,∃d:ad,∃g:Int,e=.returned (.tuple #[.agg #[bV,b,c,d],g])/\K bV b c d g w'
def gH(f:Nat)(a:Array aa)(w:J)(K:ao->ad->ad->ad->U2):Prop:=Calls aj f a w λe w'=>∃bV:ao,∃b:ad,∃c:ad,∃d:ad,e=.returned (.agg #[bV,b,c,d])/\K bV b c d w'
def rh(f:Nat)(a:Array aa)(w:J)(K:Int->Int->Int->U2):Prop:=Calls aj f a w λe w'=>∃bV:Int,∃b:Int,∃c:Int,e=.returned (.tuple #[bV,b,c])/\K bV b c w'
def kY(f:Nat)(a:Array aa)(w:J)(K:Int->U2):Prop:=Calls aj f a w λe w'=>∃bV:Int,e=.returned (.int .u64 bV)/\K bV w'
def Ds(f:Nat)(a:Array aa)(w:J)(K:ad->ad->U2):Prop:=Calls aj f a w λe w'=>∃bV:ad,∃b:ad,e=.returned (.tuple #[bV,b])/\K bV b w'
def zN(f:Nat)(a:Array aa)(w:J)(K:ad->Int->Int->Int->U2):Prop:=Calls aj f a w λe w'=>∃bV:ad,∃b:Int,∃c:Int,∃d:Int,e=.returned (.tuple #[bV,b,c,d])/\K bV b c d w'
def Dt(f:Nat)(a:Array aa)(w:J)(K:ao->ad->ad->ad->ad->ao->ad->ad->ad->ao->U2):Prop:=Calls aj f a w λe w'=>∃bV:ao,∃b:ad,∃c:ad,∃d:ad,∃g:ad,∃h:ao,∃i:ad,∃j:ad,∃k:ad,∃l:ao,e=.returned (.tuple #[.agg #[bV,b,c,d],g,.agg #[h,i,j,k],l])/\K bV b c d g h i j k l w'
def vV(f:Nat)(a:Array aa)(w:J)(K:au af->au af->ao->U2):Prop:=Calls aj f a w λe w'=>∃bV:au af,∃b:au af,∃c:ao,e=.returned (.tuple #[bV,b,c])/\K bV b c w'
def vW(f:Nat)(a:Array aa)(w:J)(K:Int->Int->Int->U2):Prop:=Calls aj f a w λe w'=>∃bV:Int,∃b:Int,∃c:Int,e=.returned (.agg #[bV,b,.int .u64 c])/\K bV b c w'
def zO(f:Nat)(a:Array aa)(w:J)(K:Int->Int->Int->Int->Int->Int->U2):Prop:=Calls aj f a w λe w'=>∃bV:Int,∃b:Int,∃c:Int,∃d:Int,∃g:Int,∃h:Int,e=.returned (.agg #[bV,b,c,.int .u64 d,.int .u64 g,h])/\K bV b c d g h w'
def pG(f:Nat)(a:Array aa)(w:J)(K:Array aa->ao->Int->U2):Prop:=Calls aj f a w λe w'=>∃bV:Array aa,∃b:ao,∃c:Int,e=.returned (.tuple #[.agg bV,b,c])/\K bV b c w'
def r1(w:J)(A:af)(K:Int->Prop):Prop:=∃x:Int,w.cell? A=some (.int .i64 x)/\K x
def cq(w:J)(A:af)(K:Int->Prop):Prop:=∃x:Int,w.cell? A=some (.int .u8 x)/\K x
def al(w:J)(A:af)(K:ad->Prop):Prop:=∃x:ad,w.cell? A=some (.slice x.a x.len x.cap)/\K x
def bO(w:J)(A:af)(K:Int->Prop):Prop:=∃x:Int,w.cell? A=some (.int .u64 x)/\K x
def aW(w:J)(A:af)(K:ao->Prop):Prop:=∃x:ao,w.cell? A=some (.bool x)/\K x
def fk:Obj:=.cells #[U8,false,.int .u8 0,.int .u8 0,.int .u8 0,.int .u8 0,.int .u8 0,.int .u8 0,.int .u8 0,.int .u8 0,.int .u8 0,.int .u8 0,.int .u8 0,.int .u8 0,.int .u8 0,.int .u8 0,.int .u8 0,.int .u8 0,U8,U8,.int .u64 0] 57
def gI:Obj:=.cells #[U8,U8,U8,.int .u64 0,.int .u64 0,U8] 90
def z3:Obj:=.cells #[.int .u8 0] 5
def z4:Obj:=.cells #[false,.int .u8 0,.int .u8 0,.int .u8 0,.int .u8 0,.int .u8 0,.int .u8 0,.int .u8 0,.int .u8 0,.int .u8 0,.int .u8 0,.int .u8 0,.int .u8 0,.int .u8 0,.int .u8 0,.int .u8 0,.int .u8 0] 53
def z5:Obj:=.cells #[false,(),(),()] 169
def ou:Obj:=.cells #[U8,.int .u64 0,()] 137
def vX:Obj:=.cells #[.int .u8 0,.int .u8 0,.int .u8 0,.int .u8 0,.int .u8 0,.int .u8 0,.int .u8 0,.int .u8 0,.int .u8 0,.int .u8 0,.int .u8 0,.int .u8 0,.int .u8 0,.int .u8 0,.int .u8 0,.int .u8 0,.int .u8 0,.int .u8 0,.int .u8 0,.int .u8 0,.int .u8 0,.int .u8 0,.int .u8 0,.int .u8 0,.int .u8 0,.int .u8 0,.int .u8 0,.int .u8 0,.int .u8 0,.int .u8 0,.int .u8 0,.int .u8 0,.int .u8 0,.int .u8 0,.int .u8 0,.int .u8 0,.int .u8 0,.int .u8 0,.int .u8 0,.int .u8 0,.int .u8 0,.int .u8 0,.int .u8 0,.int .u8 0,.int .u8 0,.int .u8 0,.int .u8 0,.int .u8 0,.int .u8 0,.int .u8 0,.int .u8 0,.int .u8 0,.int .u8 0,.int .u8 0,.int .u8 0,.int .u8 0,.int .u8 0,.int .u8 0,.int .u8 0,.int .u8 0,.int .u8 0,.int .u8 0,.int .u8 0,.int .u8 0,.int .u8 0,.int .u8 0,.int .u8 0,.int .u8 0,.int .u8 0,.int .u8 0,.int .u8 0,.int .u8 0,.int .u8 0,.int .u8 0,.int .u8 0,.int .u8 0,.int .u8 0,.int .u8 0,.int .u8 0,.int .u8 0,.int .u8 0,.int .u8 0,.int .u8 0,.int .u8 0,.int .u8 0,.int .u8 0,.int .u8 0,.int .u8 0,.int .u8 0,.int .u8 0,.int .u8 0,.int .u8 0,.int .u8 0,.int .u8 0,.int .u8 0,.int .u8 0,.int .u8 0,.int .u8 0,.int .u8 0,.int .u8 0,.int .u8 0,.int .u8 0,.int .u8 0,.int .u8 0,.int .u8 0,.int .u8 0,.int .u8 0,.int .u8 0,.int .u8 0,.int .u8 0,.int .u8 0,.int .u8 0,.int .u8 0,.int .u8 0,.int .u8 0,.int .u8 0,.int .u8 0,.int .u8 0,.int .u8 0,.int .u8 0,.int .u8 0,.int .u8 0,.int .u8 0,.int .u8 0,.int .u8 0,.int .u8 0,.int .u8 0,.int .u8 0,.int .u8 0,.int .u8 0,.int .u8 0,.int .u8 0,.int .u8 0,.int .u8 0,.int .u8 0,.int .u8 0,.int .u8 0,.int .u8 0,.int .u8 0,.int .u8 0,.int .u8 0,.int .u8 0,.int .u8 0,.int .u8 0,.int .u8 0,.int .u8 0,.int .u8 0,.int .u8 0,.int .u8 0,.int .u8 0,.int .u8 0,.int .u8 0,.int .u8 0,.int .u8 0,.int .u8 0,.int .u8 0,.int .u8 0,.int .u8 0,.int .u8 0,.int .u8 0,.int .u8 0,.int .u8 0,.int .u8 0,.int .u8 0,.int .u8 0,.int .u8 0,.int .u8 0,.int .u8 0,.int .u8 0,.int .u8 0,.int .u8 0,.int .u8 0,.int .u8 0,.int .u8 0,.int .u8 0,.int .u8 0,.int .u8 0,.int .u8 0,.int .u8 0,.int .u8 0,.int .u8 0,.int .u8 0,.int .u8 0,.int .u8 0,.int .u8 0,.int .u8 0,.int .u8 0,.int .u8 0,.int .u8 0,.int .u8 0,.int .u8 0,.int .u8 0,.int .u8 0,.int .u8 0,.int .u8 0,.int .u8 0,.int .u8 0,.int .u8 0,.int .u8 0,.int .u8 0,.int .u8 0,.int .u8 0,.int .u8 0,.int .u8 0,.int .u8 0,.int .u8 0,.int .u8 0,.int .u8 0,.int .u8 0,.int .u8 0,.int .u8 0,.int .u8 0,.int .u8 0,.int .u8 0,.int .u8 0,.int .u8 0,.int .u8 0,.int .u8 0,.int .u8 0,.int .u8 0,.int .u8 0,.int .u8 0,.int .u8 0,.int .u8 0,.int .u8 0,.int .u8 0,.int .u8 0,.int .u8 0,.int .u8 0,.int .u8 0,.int .u8 0,.int .u8 0,.int .u8 0,.int .u8 0,.int .u8 0,.int .u8 0,.int .u8 0,.int .u8 0,.int .u8 0,.int .u8 0,.int .u8 0,.int .u8 0,.int .u8 0,.int .u8 0,.int .u8 0,.int .u8 0,.int .u8 0,.int .u8 0,.int .u8 0,.int .u8 0,.int .u8 0,.int .u8 0,.int .u8 0,.int .u8 0,.int .u8 0,.int .u8 0] 151
def vY:Obj:=.cells #[(),()] 198
def z9:Obj:=.cells #[false,.int .u8 0,.int .u8 0,.int .u8 0,.int .u8 0,.int .u8 0,.int .u8 0,.int .u8 0,.int .u8 0,.int .u8 0,.int .u8 0,.int .u8 0,.int .u8 0,.int .u8 0,.int .u8 0,.int .u8 0,.int .u8 0,U8] 55
def zP:Obj:=.cells #[(),U8] 325
def a1:aJ:=(.q (.c (.q .l) .l))
def fa:aJ:=(.q (.s (.c .l .l) (.s (.bE (.q a1)) .r)))
def c4:aJ:=(.q (.s a1 (.q .l)))
def fT:aJ:=(.q (.s (.q (.bE (.loop [(8,(.int .i64))] [0,1,7] fa))) (.q .l)))
def gm:aJ:=(.q (.c (.q .l) a1))
def ff:aJ:=(.s a1 (.q (.q .l)))
def gy:aJ:=(.s (.q a1) (.q .l))
def gz:aJ:=(.q (.s (.c .l .l) (.s (.bE (.q (.q a1))) .r)))
def a2:aJ:=(.q (.q (.q .l)))
def a3:aJ:=(.q (.s (.c .l .l) (.s (.bE (.q .r)) .r)))
def a4:aJ:=(.s (.z [9,8]) .l)
def a5:aJ:=(.s (.z [9,8]) (.c (.q .l) .l))
def dw:aJ:=(.s (.z [9,8,9,8]) (.c (.q .l) .l))
def dj:aJ:=(.s (.z [9,10]) (.c (.q .l) .l))
def dr:aJ:=(.q (.s (.z [12,11]) .l))
def a9:aJ:=(.s (.z [12,8,9,17]) (.c (.q .l) .l))
def eL:aJ:=(.c (.q (.q .l)) .l)
def dx:aJ:=(.q (.s (.z [9,8,9,22]) .l))
def fb:aJ:=(.s (.z [12,16]) (.c (.q .l) .l))
def dK:aJ:=(.s (.z [12,13]) (.c (.q .l) .l))
def fJ:aJ:=(.s (.z [9,11]) (.c (.q .l) .l))
theorem okF{f:Nat}{fn:Func}(p:J->(U0)->Prop)(A:aJ){args:O aa}{w:J}{Q:U0}(hf:Tryz.prog.funcs[f]? =some fn)(h:p w Q)(h1:pA fn args.length=true:=by kernel_rfl)(h2:p w Q=q6 aj tk A fn args w Q:=by kernel_rfl):aH aj f args.toArray w Q:=Hr zM hf h1 (Eq.mp h2 h)
def ri(a:J)(c:J)(ai:J)(d:ao)(Q:U0):Prop:=al a ((Y c).add 1) λe=>al a ((Y c).add 2) λf=>al a ((Y c).add 3) λg=>bp a (Y ai)
 [d,e,f,g]/\(4:Nat)=4/\an (setCells a (Y ai) 0 [d,e,f,g]) λb=>aW b (Y ai) λh=>al b ((Y ai).add 1) λi=>al b ((Y ai).add 2) λj=>al b ((Y ai).add 3) λk=>Q (.tuple #[.agg #[h,i,j,k],true]) b
def rj(a:J)(ai:J)(Q:U0)(b:ao):Prop:=al a ((Y ai).add 1) λc=>al a ((Y ai).add 2) λd=>al a ((Y ai).add 3) λe=>Q (.tuple #[.agg #[b,c,d,e],false]) a
def rk(c:ad)(d:J)(e:J)(f:J)(g:U2):Prop:=∃a:ad,∃b:J,Sem.run aj (Builtin.append_ #[93,93] 93 #[c,
 .slice (some (Y d)) 1 1]) e=.ok a b/\st b ((Y f).add 1) a λh=>g h
def vZ(b:J)(h:J)(c:J)(key:ad)(f:U2):Prop:=aW b (Y h) λi=>ak (!i) (an (b.drew) λd=>∃e:U1,¬e ((Y c).add 1).block/\al d ((Y
 c).add 1) λj=>bH 46 #[key] d λk a=>ag e d a/\an (a.alloc (.cells #[k] 39)) λg=>ag e a g/\rk j a g c
 f) (f b)
def bw(h:J)(a:J)(i:ao)(j:ad)(k:ad)(l:ad)(b:J)(m:ao)(n:ad)(o:ad)(p:ad)(w:J)(key:ad)(ai:J)(Q:U0):Prop:=bp h (Y a)
 [i,j,k,l]/\(4:Nat)=4/\an (setCells h (Y a) 0 [i,j,k,l]) λq=>bp q (Y b) [m,n,o,p]/\(4:Nat)=4/\an (setCells q (Y b) 0 [m,n,o,p]) λz=>bz (λA:U2=>vZ z w a key A) (λe=>al e ((Y a).add 1) λB=>al e ((Y b).add 1) λC=>∃r:ad,∃s:J,
 Sem.run aj (Builtin.append_ #[93,93] 93 #[B,C]) e=.ok r s/\st s ((Y a).add 1) r λf=>al f ((Y a).add 2) λD=>al f ((Y b).add 2) λE=>∃t:ad,∃u:J,Sem.run aj (Builtin.append_ #[93,93] 93 #[D,E]) f=.ok t u/\st u ((Y a).add 2) t λg=>al g ((Y a).add 3) λF=>al g ((Y b).add 3) λ
 G=>∃v:ad,∃x:J,Sem.run aj (Builtin.append_ #[72,72] 72 #[F,G]) g=.ok v x/\st x ((Y a).add
 3) v λc=>aW c (Y a) λH=>al c ((Y a).add 1) λI=>al c ((Y a).add 2) λK=>al c ((Y a).add 3) λL=>bP 182 #[.agg #[H,I,K,L]] c λM d=>ak (!M) (bp d (Y ai) [false,(),(),()]/\(4:Nat)=4/\an (setCells d (Y
 ai) 0 [false,(),(),()]) λy=>aW y (Y ai) λN=>rj y ai Q N) (aW d (Y a) λO=>ri d a ai O Q))
def pH(a:J)(b:J)(c:ao)(d:ad)(e:ad)(f:ad)(g:U2):Prop:=bp a (Y b) [c,d,e,f]/\(4
 :Nat)=4/\an (setCells a (Y b) 0 [c,d,e,f]) λh=>g h
def rl(d:J)(a:J)(e:ao)(f:ad)(g:ad)(h:ad)(i:ao)(Q:U0)(c:au af)(n31:Int):Prop:=bp d (Y a) [e,f,
 g,h]/\(4:Nat)=4/\an (setCells d (Y a) 0 [e,f,g,h]) λb=>
 ak (!i) (Q (.tuple #[(),U8,U8,(4:Int)]) b) (aW b (Y a) λj=>al b ((Y a).add 1) λk=>al b ((Y a).add 2) λl=>al b ((Y a).add 3) λ
 m=>dH 263 #[c,.agg #[j,k,l,m]] b λn o p=>Q (.tuple #[n,
 n31,.int .i64 (ar (n31+2)),o]) p)
def cg(up:au af)(j:J)(n36:Int)(w:J)(h:J)(f:J)(g:J)(n31:Int)(Q:U0)(c:au af):Prop:=bz (λo:U2=>∃p:af,up=some p/\r1 j
 (p.add 5) λI=>ak (decide (n36>I)) (an (j.drew) λd=>∃k:U1,¬k ((Y w):af).block/\aW d (Y w) λq=>al d ((Y w).add 1) λr=>al d ((Y w).add 2) λs=>al d (Addr.add
 (Y w) 3) λt=>¬k ((Y h):af).block/\aW d (Y h) λK=>al d ((Y h).add 1) λL=>al d ((Y h).add 2) λM=>al d ((Y h).add 3) λN=>bp d (Y f) [q,r,s,t]/\(4:Nat)=4/\an (setCells d (Y f) 0 [q,r,s,t]) λu
 =>ag k d u/\pH u g K L M N o) (o j)) (λO=>an (O.drew) λb=>∃e:U1,¬e ((Y f):af).block/\aW b (Y f) λv=>al b ((Y f).add 1) λx=>al b (Addr.add
 (Y f) 2) λy=>al b ((Y f).add 3) λz=>∃l:af,up=some l/\¬e ((l.add 1).add 1).block/\al b ((l.add 1).add 1) λA=>∃m:af,A.a=some m/\aO n31 A.len/\¬e (m.add
 (n31.toNat*1)).block/\al b (m.add (n31.toNat*1)) λB=>¬e ((Y g):af).block/\aW b (Y g) λC=>al b ((Y g).add 1) λD=>al b ((Y g).add 2) λE=>al b (Addr.add
 (Y g) 3) λF=>(mH 264 #[.agg #[v,x,y,z],B,.agg #[C,D,
 E,F]] b λP R S T U i=>ag e b i/\an (i.alloc z5) λG=>ag e i G/\rl G i P R S T U Q c n31)/\(an
 (b.alloc z5) λn=>ag e b n/\mH 264 #[.agg #[v,x,y,z],B,.agg #[C,D,E,F]] n λV W X Z ab H=>ag e n H/\rl H b V W X Z ab Q c n31))
def db(a:J)(b:J)(w1:J)(Q:U0):Prop:=aW a (Y b) λc=>ri a b w1 c Q
def tr(a:J)(c:J)(w1:J)(d:ao)(Q:U0):Prop:=al a ((Y c).add 1) λe=>al a ((Y c).add 2) λf=>al a ((Y c).add 3) λg=>bp a (Y w1)
 [d,e,f,g]/\(4:Nat)=4/\an (setCells a (Y w1) 0 [d,e,f,g]) λb=>aW b (Y w1) λh=>al b ((Y w1).add 1) λi=>al b ((Y w1).add 2) λj=>al b ((Y w1).add 3) λk=>Q (.agg #[h,i,j,k]) b
def j4(y:J)(l:ad)(c:J)(w:J)(to:Int)(w1:J)(Q:U0):Prop:=∃ (h:Int->U2) (k:Int->J->Nat),h 0 y/\∀ (n19:Int) (b:J),h n19 b->ak (decide
 (n19<(l.len:Int))) (∃fa:af,l.a=some fa/\aO n19 l.len/\al b (fa.add (n19.toNat*2)) λm=>r1 b ((fa.add (n19.toNat*2)).add 1) λn23=>an (b.alloc zP) λn=>bp n (Y b) [m,n23]/\(2:Nat)=2/\an (setCells n (Y b) 0 [m,n23]) λd=>bz (λo:U2=>al d (Y b) λz=>ak (!(Option.isNone z.a)) (al d (Addr.add
 (Y c) 1) λA=>al d (Y b) λB=>an (d.alloc (.cells #[B] 39)) λC=>rk A d C c o) (o d)) (λg=>al g ((Y c).add 3) λD=>r1 g ((Y
 b).add 1) λn36=>an (g.alloc (.cells #[n36] 3)) λE=>∃p:ad,∃q:J,Sem.run aj (Builtin.append_ #[72,72] 72 #[D,.slice (some (Y g)) 1 1]) E=
 .ok p q/\st q ((Y c).add 3) p λr=>h (ar (n19+1)) r/\k (ar (n19+1)) r<k n19 b)) (an (b.drew) λi=>¬False/\al i ((Y c).add 1)
 λF=>¬False/\al i ((Y w).add 1) λe=>((0:Int)<=(ar (to-1))/\(ar (to-1))<=(e.len:Int))/\∃s:ad,∃t:J,Sem.run aj (Builtin.append_ #[93,93] 93 #[F,.slice (a7 e.a 1 ((ar (to-1)).toNat) e.cap) (e.len-((ar (to-1)).toNat)) (e.cap-((ar (to-1)).toNat))]) i=.ok s t/\st t ((Y c).add 1) s λG=>an (G.drew) λj=>¬False/\al j ((Y c).add 3) λH=>¬False/\al j ((Y w).add 3) λf=>((0:Int)<=to/\to<=(f.len:Int))/\∃u:ad,∃v:J,Sem.run
 aj (Builtin.append_ #[72,72] 72 #[H,.slice (a7 f.a 1 (to.toNat) f.cap) (f.len-(to.toNat)) (f.cap-(to.toNat))]) j=.ok u v/\
 st v ((Y c).add 3) u λx=>aW x (Y c) λI=>tr x c w1 I Q)
def g_(o:Array aa)(f:J)(c:U1)(p:Array aa)(w1:J)(ai:J)(Q:U0)(q:ad):Prop:=gH 183 #[.agg o] f λg h i j d=>ag c f d/\gH
 183 #[.agg p] d λk l m n b=>ag c d b/\bp b (Y w1) [g,h,i,j]/\(4:Nat)=4/\an (setCells b (Y w1) 0
 [g,h,i,j]) λe=>ag c b e/\bp e (Y ai) [k,l,m,n]/\(4:Nat)=4/\an (setCells e (Y ai) 0 [k,l,m,n]) λa=>aW a (Y w1) λr=>al a ((Y w1).add 1) λs=>
 al a ((Y w1).add 2) λt=>al a ((Y w1).add 3) λu=>aW a (Y ai) λv=>al a ((Y ai).add 1) λw=>al a ((Y ai).add 2) λx=>al a ((Y ai).add 3) λy=>Q (.tuple #[.agg
 #[r,s,t,u],q,.agg #[v,w,x,y],true]) a
def v7(e:ao)(Q:U0)(b:ao)(c:Int)(a:J)(ai:J)(m:au af):Prop:=ak (!e) (Q (.bool ((!b)&&(c==1))) a) (r1 a (Y ai) λf=>∃d:O aa,
 bf a ((Y ai).add 1) 0 18=some d/\bP 89 #[m,f,.agg d.toArray] a λg h=>Q (.bool ((b==g)&&(c==0))) h)
def v8(a:J)(d:Array aa)(ai:J)(w:J)(m:au af)(Q:U0)(p:ao)(g:Int)(h:ao):Prop:=an (a.alloc fk) λi=>bp i (Y a) (Array.toList d)/\
 Array.size d=21/\an (setCells i (Y a) 0 (Array.toList d)) λb=>r1 b (Y ai) λq=>∃j:O aa,bf b ((Y ai).add 1) 0 18=some j/\bO b ((Y w).add 23) λr=>h4
 87 #[m,q,.agg j.toArray,.int .u64 r] b λe s c=>an (c.alloc fk) λk=>bp k (Y c) (Array.toList e)/\Array.size e=21/\an (setCells k (Y c) 0
 (Array.toList e)) λf=>∃l:O aa,bf f (Y a) 0 21=some l/\∃n:O aa,bf f (Y c) 0 21=some n/\∃o:ao,jo aj 57 l.toArray n.toArray o/\Q
 (.bool (((o&&(p==s))&&((g==0)==h))&&(h||(g==1)))) f
def v_(w:J)(b:J)(g:ad)(a:au af)(m:au af)(Q:U0):Prop:=∃c:U1,¬c ((Y w).add 23).block/\bO b ((Y w).add 23) λn=>¬c ((Y
 w).add 24).block/\r1 b ((Y w).add 24) λo=>an (b.alloc (.cells #[] 5)) λd=>ag c b d/\∃h:ad,∃e:J,Sem.run aj (Builtin.append_ #[39,39] 39 #[.slice
 (some (Y b)) 0 0,g]) d=.ok h e/\ag c d e/\tq 45 #[a,h,.int .u64 n,o] e
 λp q r f=>bO f ((Y w).add 23) λs=>r1 f ((Y w).add 24) λt=>dH 47 #[m,g,.int .u64 s,t] f λu v x=>∃
 i:ByteArray,∃j:J,Sem.run aj (convert 39 9 p) x=.ok (.string i) j/\∃k:ByteArray,∃l:J,Sem.run aj (convert 39 9
 u) j=.ok (.string k) l/\Q (.bool (((ByteArray.toList i==ByteArray.toList k)&&(q==v))&&(r==0))) l
def wa(ai:J)(b:J)(a:au af)(m:au af)(Q:U0):Prop:=∃c:U1,¬c ((Y ai):af).block/\∃d:O aa,bf b (Y ai) 0 21=some d/\¬c ((Y ai):
 af).block/\∃e:O aa,bf b (Y ai) 0 21=some e/\bB 43 #[a,.agg d.toArray] b λg f=>ag c b f/\bB 44 #[m,.agg e.toArray] f λh
 i=>Q (.bool (g==h)) i
def iE(e:J)(b:J)(w:J)(a:au af)(m:au af)(Q:U0)(cG:ad):Prop:=r1 e (Y b) λn11=>∃h:O aa,bf e ((Y b).add 1) 0 18=some h/\∃i:Array
 aa,Sem.run aj (Instr.build 57 #[(0,n11),(1,.agg h.toArray)]) e=.ok (.agg i) e/\bP 86 #[.agg i] e λj f=>r1 f (Y b) λn17=>bz (λk:ao->U2=>ak
 (decide (n17>=0)) (r1 f (Y b) λn19=>k (decide (n19<=65535)) f) (k false f)) (λ(u:ao) c=>r1 c (Y w) λn22=>ak (n22==1) (r1 c (Y b) λn23=>∃l:O aa,bf c ((Y b).add 1) 0
 18=some l/\bO c ((Y w).add 23) λn25=>pG 18 #[a,n23,.agg l.toArray,.int .u64 n25] c λv x n30 y=>v8 y v b w m Q x n30 j) (ak (n22==2) (r1 c (Y b) λz
 =>∃n:O aa,bf c ((Y b).add 1) 0 18=some n/\kD 88 #[a,z,.agg n.toArray] c λA B C=>v7 j Q A B C b m) (bz (λo:ao->U2=>ak
 (n22==3) (o (n22==3) c) (o (n22==4) c)) (λ(D:ao) d=>ak D (r1 d ((Y b).add 19) λE=>bz (λp:Int->U2=>r1 d (Y w) λF=>ak (F==4) (p (-1) d) (p E d)) (λ
 (q:Int) r=>r1 r (Y b) λG=>g9 90 #[a,G,q] r λs t g=>ak (!u) (Q (.bool ((s==0)&&(t==1))) g) (r1 g (Y b) λH=>bB 91
 #[m,H,q] g λI K=>Q (.bool ((s==I)&&(t==0))) K))) (ak (n22==5) (an (d.drew) λL=>v_ w L cG a m Q) (an (d.drew) λM=>wa b M a m Q))))))
def wc(d:U1)(j:J)(e:J)(k:ad)(l:ad)(b:ad)(n29:Int)(m:au af)(Q:U0):Prop:=ag d j e/\∃g:ad,∃c:J,Sem.run aj (Builtin.append_
 #[22,22] 22 #[k,l]) e=.ok g c/\ag d e c/\∃h:ad,∃f:J,Sem.run aj
 (Builtin.append_ #[22,22] 22 #[g,.slice (a7 b.a 21 (n29.toNat) b.cap) (b.len-(n29.toNat)) (b.cap-(n29.toNat))]) c=.ok h f/\ag d c f/\∃i:af,m=some i/\st f (i.add 1) h λn=>Q (0:Int) n
def l3(A:J)(m:au af)(n29:Int)(w:J)(Q:U0):Prop:=an (A.drew) λd=>∃b:U1,∃l:af,m=some l/\¬b (l.add 1).block/\al d (l.add 1) λc=>((0:Int)
 <=n29/\n29<=(c.cap:Int))/\¬b ((Y w):af).block/\∃f:O aa,bf d (Y w) 0 21=some f/\∃n:af,m=some n/\¬b (n.add 1).block/\al d (n.add 1) λg=>((0:Int)<=n29/\n29<=
 (g.len:Int))/\(∃o:ad,∃e:J,Sem.run aj (Instr.buildSlice 22 0 #[]) d=.ok o e/\ag b d e/\(∃p:ad,∃h:J,Sem.run aj (Builtin.append_
 #[22,22] 22 #[o,.slice (a7 c.a 21 0 c.cap) ((n29.toNat)-0) (c.cap-0)]) e=.ok p h/\ag b e h/\∃q:ad,
 ∃r:J,Sem.run aj (Instr.buildSlice 22 1 #[(0,.agg f.toArray)]) h=.ok q r/\wc b h r p q g n29 m Q)/\(∃s:ad,∃i:J,Sem.run aj
 (Instr.buildSlice 22 1 #[(0,.agg f.toArray)]) e=.ok s i/\ag b e i/\∃t:ad,∃u:J,Sem.run aj (Builtin.append_ #[22,22]
 22 #[o,.slice (a7 c.a 21 0 c.cap) ((n29.toNat)-0) (c.cap-0)]) i=.ok t u/\wc b i u t s g n29 m Q))/\(∃v:ad,∃j:J,
 Sem.run aj (Instr.buildSlice 22 1 #[(0,.agg f.toArray)]) d=.ok v j/\ag b d j/\∃x:ad,∃k:J,Sem.run aj (Instr.buildSlice 22 0 #[]) j
 =.ok x k/\ag b j k/\∃y:ad,∃z:J,Sem.run aj (Builtin.append_ #[22,22] 22 #[x,.slice (a7 c.a 21 0
 c.cap) ((n29.toNat)-0) (c.cap-0)]) k=.ok y z/\wc b k z y v g n29 m Q)
def ov(a:J)(w1:J)(Q:U0):Prop:=aW a (Y w1) λb=>rj a w1 Q b
def gJ(a:J)(b:J)(w1:J)(Q:U0):Prop:=aW a (Y b) λc=>tr a b w1 c Q
def zQ(a:J)(w:J)(Q:U0)(n12:Int):Prop:=r1 a (Y w) λn13=>r1 a ((Y w).add 1) λn14=>r1 a ((Y w).add 2) λn15=>bO a ((Y w).add 3) λn16=>bO a ((Y w).add
 4) λn17=>r1 a ((Y w).add 5) λn18=>bp a (Y w) [n13,n14,n15,.int .u64 n16,.int .u64 n17,n18]/\(6:Nat)=6/\an (setCells a (Y w) 0 [n13,n14,n15,.int .u64 n16,.int .u64 n17,n18]) λb=>r1 b (Y w) λn20=>r1 b ((Y w).add 1) λn21=>r1 b ((Y w).add 2) λn22=>bO b ((Y w).add 3) λn23=>bO b ((Y w).add 4) λn24
 =>r1 b ((Y w).add 5) λn25=>Q (.tuple #[.agg #[n20,n21,n22,.int .u64 n23,.int .u64 n24,n25],.int .u64 0,n12]) b
def we(a:J)(w:J)(Q:U0)(n7:Int):Prop:=aW a (Y w) λb=>al a ((Y w).add 1) λc=>al a ((Y w).add 2) λd=>al a ((Y w).add 3) λe=>Q (.tuple #[.agg #[b,c,d,e],n7]) a
def Du(g:ad)(n17:Int)(c:J)(d:J)(m:Int->U2)(h:Int->J->Nat):Prop:=∃gy:af,g.a=some gy/\aO n17 g.len/\al c (gy.add (n17.toNat*1)) λn=>an (c.drew) λe
 =>∃f:U1,¬f ((Y d).add 1).block/\al e ((Y d).add 1) λo=>bH 46 #[n] e λp b=>ag f e b/\an (b.alloc (.cells #[p] 39)) λi=>ag f b i/\∃j:ad,∃k:J,Sem.run aj (Builtin.append_ #[93,93] 93 #[o,.slice (some (Y b)) 1 1]) i=
 .ok j k/\st k ((Y d).add 1) j λl=>m (ar (n17+1)) l/\h (ar (n17+1)) l<h n17 c
def Dv(g:ad)(n34:Int)(c:J)(d:J)(n:Int->U2)(h:Int->J->Nat):Prop:=∃i:af,g.a=some i/\aO n34 g.len/\al c (i.add (n34.toNat*1)) λo=>an (c.drew) λe
 =>∃f:U1,¬f ((Y d).add 2).block/\al e ((Y d).add 2) λp=>bH 46 #[o] e λq b=>ag f e b/\an (b.alloc (.cells #[q] 39)) λj=>ag f b j/\∃k:ad,∃l:J,Sem.run aj (Builtin.append_ #[93,93] 93 #[p,.slice (some (Y b)) 1 1]) j=
 .ok k l/\st l ((Y d).add 2) k λm=>n (ar (n34+1)) m/\h (ar (n34+1)) m<h n34 c
def rm(c:ao)(b:ao->U2)(a:J)(w:J):Prop:=ak (!c) (b true a) (aW a (Y w) λd=>al a ((Y w).add 1) λe=>al a ((Y w).add 2) λf=>al a ((Y w).add 3) λg
 =>bP 182 #[.agg #[d,e,f,g]] a λh i=>b (!h) i)
def zR(g:J)(ai:J)(w1:J)(h:U2):Prop:=an (g.drew) λb=>∃c:U1,¬c ((Y ai).add 3).block/\al b ((Y ai).add 3) λi=>bB 252 #[.pointer (some (Y
 w1)),(2:Int)] b λn14 a=>ag c b a/\an (a.alloc (.cells #[n14] 3)) λd=>ag c a d/\∃e:ad,∃f:J,Sem.run aj (Builtin.append_ #[72,72] 72 #[i,.slice (some (Y a)) 1 1]) d=.ok e f/\st f ((Y ai).add 3) e λj=>h j
def tu(a:J)(w:J)(Q:U0):Prop:=aW a (Y w) λb=>al a ((Y w).add 1) λc=>al a ((Y w).add 2) λd=>al a ((Y w).add 3) λe=>Q (.tuple #[.agg #[b,
 c,d,e],(4:Int)]) a
def zS(l:aa)(m:J)(d:au af)(n:U2)(g:J->Nat)(o:J):Prop:=∃n15:Int,∃p:aa,∃h:J,Sem.run aj (Instr.entry (l)) m=.ok (.tuple #[n15,p])
 h/\an (h.drew) λb=>∃i:U1,∃gz:af,d=some gz/\¬i (gz.add 4).block/\al b (gz.add 4) λj=>l2 118 #[d,n15] b λc e=>ag i b e/\∃f:af,
 j.a=some f/\aO n15 j.len/\bp e (f.add (n15.toNat*256)) (Array.toList c)/\Array.size c=256/\an (setCells e (f.add (n15.toNat*256)) 0 (Array.toList c)) λk=>n k/\g k<g o
def zT(f:ad)(g:J)(b:J)(h:U1)(i:O aa)(Q:U0):Prop:=∃c:ad,∃a:J,Sem.run aj (Builtin.append_ #[39,39] 39 #[f,.slice (some (Y g)) 2 2]) b=.ok c a/\ag h b a/\bH 216 #[.agg i.toArray] a λj k=>∃d:ad,∃e:J,Sem.run aj (Builtin.append_
 #[39,39] 39 #[c,j]) k=.ok d e/\Q d e
def wg(a:J)(b:ad)(c:J)(d:ad)(Q:U0):Prop:=an (a.alloc (.cells #[b,.slice (some (Y c)) 2 2,d] 39)) λe=>bH
 103 #[.slice (some (Y a)) 3 3] e λf g=>Q (.tuple #[f,true]) g
def zU(h:ad)(j:ad)(c:J)(k:U1)(l:au Nat)(i:Int)(d:au af)(Q:U0):Prop:=∃e:ad,∃a:J,Sem.run aj (Builtin.append_ #[124,
 124] 124 #[h,j]) c=.ok e a/\ag k c a/\∃b:J,Sem.run aj (Instr.mapUpdate 125
 (.map l) i e) a=.ok () b/\∃f:af,d=some f/\r1 b (f.add 6) λn24=>∃g:af,d=some g/\st b (g.add 6) (.int .i64 (ar (n24+1))) λm=>Q (0:Int) m
def zV(a:J)(w:J)(Q:U0):Prop:=r1 a (Y w) λn35=>r1 a ((Y w).add 1) λn36=>r1 a ((Y w).add 2) λn37=>bO a ((Y w).add 3) λn38=>bO a ((Y w).add 4) λ
 n39=>r1 a ((Y w).add 5) λn40=>Q (.tuple #[.agg #[n35,n36,n37,.int .u64 n38,.int .u64 n39,n40],U8,.int .u64 0,(4:Int)]) a
def zW(c:ad)(b:Int)(d:ad)(f:Array aa):Prop:=∀e:J,Sem.run aj (Instr.build 169 #[(1,.slice (a7 c.a 1 ((ar (b+1)).toNat) c.cap) (c.len-((ar (b+1)).toNat)) (c.cap
 -((ar (b+1)).toNat))),(3,.slice (a7 d.a 1 ((ar (b+1)).toNat) d.cap) (d.len-((ar (b+1)).toNat)) (d.cap-((ar (b+1)).toNat)))]) e=.ok (.agg f) e
def wh(a:J)(w1:J)(Q:U0):Prop:=∃b:Array aa,Sem.run aj (Instr.build 55 #[]) a=.ok (.agg b) a/\bp a (Y w1) (Array.toList b)/\Array.size b=18/\an
 (setCells a (Y w1) 0 (Array.toList b)) λc=>∃d:O aa,bf c (Y w1) 0 18=some d/\Q (.tuple #[.agg d.toArray,false]) c
def zX(ai:J)(w:J)(Q:U0):Prop:=r1 ai (Y w) λa=>r1 ai ((Y w).add 1) λbA=>r1 ai ((Y w).add 2) λn5=>bO ai ((Y w).add 3) λn6=>bO ai ((Y w).add 4) λn7=>r1
 ai ((Y w).add 5) λn8=>Q (.agg #[a,bA,n5,.int .u64 n6,.int .u64 n7,n8]) ai
def zY(c:ad)(b:Int)(d:ad)(f:Array aa):Prop:=∀e:J,Sem.run aj (Instr.build 169 #[(0,true),(1,.slice (a7 c.a 1 (b.toNat) c.cap) (c.len-(b.toNat)) (c.cap-
 (b.toNat))),(2,.slice (a7 d.a 1 (b.toNat) d.cap) (d.len-(b.toNat)) (d.cap-(b.toNat)))]) e=.ok (.agg f) e
def zZ(a:ad):Prop:=(0:Int)<=(ar (232-(a.len:Int)))/\((ar (232-(a.len:Int))):Int)<=(ar (232-(a.len:Int)))/\((ar (232-(a.len:Int))):Int)<=lE/\((1:Nat):Int)*(ar (232-(a.len:Int)))<=
 140737488355328
def wi(a:J)(n6:Int)(d:ad)(e:ad->U2):Prop:=an (a.alloc (.cells #[n6] 3)) λf=>∃b:ad,∃c:J,Sem.run aj (Builtin.append_ #[72,72] 72 #[d,.slice (some (Y a)) 1 1]) f=.ok b c/\e b c
def z1(a:J)(c:ad)(d:J)(e:ad)(f:J)(b:ad)(g:ad->U2):Prop:=an (a.alloc (.cells #[c,.slice (some (Y d)) (Int.toNat 4) (Int.toNat 4),e,.slice (some (Y f)) ((ar (232-(b.len:Int))).toNat) ((ar (232-(b.len:Int))).toNat)] 39)) λh=>bH 103 #[.slice (some (Y a)) 4 4] h λi j=>g i j
def z2(d:au af)(a:J)(Q:U0):Prop:=∃b:af,d=some b/\∃c:au Nat,a.cell? (b.add 5)=some (.map c)/\∃ (f:aa) (e:J),Sem.run aj (Builtin.clear_
 #[125] 0 #[.map c]) a=.ok f e/\Q (0:Int) e
def z6(b:ad)(d:Int)(c:ad)(f:Array aa):Prop:=∀e:J,Sem.run aj (Instr.build 169 #[(0,true),(1,.slice (a7 b.a 1 0 b.cap) ((d.toNat)-0) (b.cap-0)),(2,.slice (a7
 c.a 1 0 c.cap) ((d.toNat)-0) (c.cap-0))]) e=.ok (.agg f) e
def z7(b:ad)(d:Int)(c:ad)(f:Array aa):Prop:=∀e:J,Sem.run aj (Instr.build 169 #[(1,.slice (a7 b.a 1 0 b.cap) ((d.toNat)-0) (b.cap-0)),(3,.slice (a7 c.a 1 0
 c.cap) (((ar (d+1)).toNat)-0) (c.cap-0))]) e=.ok (.agg f) e
def wj(c:ad)(d:ad)(e:J)(f:ad->U2):Prop:=∃a:ad,∃b:J,Sem.run aj (Builtin.append_ #[22,22] 22 #[c,d]) e=.ok a b/\f a b
def z8(a:J)(w:J)(Q:U0):Prop:=r1 a (Y w) λn9=>bO a ((Y w).add 1) λn10=>al a ((Y w).add 2) λb=>Q (.tuple #[.agg #[n9,.int .u64 n10,b],(4:Int)]) a
def z_(b:J)(w:J)(a:O aa)(Q:U0):Prop:=bp b (Y w) (Array.toList a.toArray)/\Array.size a.toArray=256/\an (setCells b (Y w) 0 (Array.toList a.toArray)) λc=>∃d:O
 aa,bf c (Y w) 0 256=some d/\Q (.agg d.toArray) c
def Aa(ai:J)(w:J)(e3:Array aa)(Q:U0):Prop:=bp ai (Y w) (Array.toList e3)/\Array.size e3=17/\an (setCells ai (Y w) 0 (Array.toList e3)) λa=>∃b:O aa,bf a (Y w) 0
 17=some b/\Q (.tuple #[.agg b.toArray,true]) a
def tv(a:J)(b:J)(f:ao)(g:ad)(h:ad)(i:ad)(n:U1)(d:J)(j:ao)(k:ad)(l:ad)(m:ad)(up:au af)(n36:Int)(w:J)(o:J)(n31:Int)(Q:aa
 ->U2)(c:au af):Prop:=bp a (Y b) [f,g,h,i]/\(4:Nat)=4/\an (setCells a (Y b) 0 [f,g,h,i]) λe=>ag n a e/\bp e (Y d) [j,k,l,m]/\(4:
 Nat)=4/\an (setCells e (Y d) 0 [j,k,l,m]) λp=>cg up p n36 w o b d n31 Q c
def rn(h:Int)(Q:U0)(e:J)(c:au af)(n41:Int)(d:J)(w:J)(up:au af)(n36:Int)(n31:Int):Prop:=ak (h !=0) (Q (.tuple #[(),U8,U8,
 h]) e) (∃i:af,c=some i/\al e (i.add 2) λx=>an (e.alloc (.cells #[n41] 3)) λy=>∃j:ad,∃k:J,Sem.run aj (Builtin.append_ #[72,72] 72
 #[x,.slice (some (Y e)) 1 1]) y=.ok j k/\∃l:af,c=some l/\st k (l.add 2) j λz=>an (z.drew) λa=>∃b:Nat->
 Prop,¬b ((Y d):af).block/\aW a (Y d) λm=>al a ((Y d).add 1) λn=>al a ((Y d).add 2) λo=>al a ((Y d).add 3) λp=>¬b ((Y w):af).block/\aW a (Y w) λq=>
 al a ((Y w).add 1) λr=>al a ((Y w).add 2) λs=>al a ((Y w).add 3) λt=>(an (a.alloc z5) λf=>ag b a f/\an (f.alloc z5) λu=>ag b f u/\tv u a m n o p b
 f q r s t up n36 w d n31 Q c)/\(an (a.alloc z5) λg=>ag b a g/\an (g.alloc z5) λv=>ag b g v/\tv v g m n o p b a q r s t up n36 w d n31 Q c))
def wk(h:J)(w:J)(b:Int)(c:J)(w1:J)(ai:J)(Q:U0):Prop:=al h ((Y w).add 1) λj=>∃k:af,j.a=some k/\aO b j.len/\al h (k.add (Int.toNat
 b*1)) λz=>bH 46 #[z] h λl i=>aW i (Y w) λA=>ak A (an (i.drew) λd=>∃e:U1,¬e ((Y c).add 1).block/\al d ((Y
 c).add 1) λm=>((0:Int)<=b/\b<=(m.cap:Int))/\¬e ((Y c).add 2).block/\al d ((Y c).add 2) λn=>((0:Int)<=b/\b<=(n.cap:Int))/\∃o:Array aa,(z6 m b n
 o)/\¬e ((Y c).add 1).block/\al d ((Y c).add 1) λp=>((0:Int)<=b/\b<=(p.len:Int))/\¬e ((Y c).add 2).block/\al d ((Y c).add 2) λq=>((0:Int)<=b/\b<=(q.len:Int))
 /\∃r:Array aa,(zY p b q r)/\g_ o d e r w1 ai Q l) (an (i.drew) λf=>∃g:U1,¬g ((Y c).add 1).block/\al f ((Y c).add 1) λs=>((0:Int)<=b/\b<=((s.cap:
 Nat):Int))/\¬g ((Y c).add 3).block/\al f ((Y c).add 3) λt=>((0:Int)<=(ar (b+1))/\(ar (b+1))<=(t.cap:Int))/\∃u:Array aa,(z7 s b t u)/\¬g ((Y c).add
 1).block/\al f ((Y c).add 1) λv=>((0:Int)<=(ar (b+1))/\(ar (b+1))<=(v.len:Int))/\¬g ((Y c).add 3).block/\al f ((Y c).add 3) λx=>((0:Int)<=(ar (b+1))/\(ar (b+1))<=
 (x.len:Int))/\∃y:Array aa,(zW v b x y)/\g_ u f g y w1 ai Q l)
def pI(c:ao)(d:ad)(e:ad)(f:ad)(a:J)(g:U1)(h:J)(i:ao)(j:ad)(k:ad)(l:ad)(m:J)(w:J)(key:ad)(ai:J)(Q:U0):Prop:=gH
 183 #[.agg #[c,d,e,f]] a λn o p q b=>ag g a b/\bw b h i j k l m n o p q w key ai
 Q
def Ab(g:J)(a:J)(c:Array aa)(w:J)(w1:J)(Q:U0):Prop:=bp g (Y a) (Array.toList c)/\Array.size c=4/\an (setCells g (Y a) 0 (Array.toList c)) λh=>al
 h ((Y w).add 1) λi=>∃ (d:Int->U2) (k:Int->J->Nat),d 0 h/\∀ (n17:Int) (b:J),d n17 b->ak (decide (n17<(i.len:Int))) (Du i n17 b a d k) (al b ((Y w).add 2) λ
 j=>∃ (e:Int->U2) (l:Int->J->Nat),e 0 b/\∀ (n34:Int) (f:J),e n34 f->ak (decide (n34<(j.len:Int))) (Dv j n34 f a e l) (gJ f a w1 Q))
def Ac(a:J)(w:J)(Q:U0)(n7:Int):Prop:=bp a (Y w) [false,(),(),()]/\(4:Nat)=4/\an (setCells a (Y w) 0 [false,(),
 (),()]) λb=>we b w Q n7
set_option maxRecDepth 100000
def ae.pJ(s:ad)(w:J)(Q:U0):Prop:=ak (Option.isNone s.a) (Q () w) (an (w.alloc (.cells #[] 5)) λw1=>∃s2:ad,∃b:J,Sem.run aj
 (Builtin.append_ #[39,39] 39 #[.slice (some (Y w)) 0 0,s]) w1=.ok s2 b/\Q s2 b)
def ax.pJ:aJ:=c4
def ae.wm(s:ad)(v:Int)(w:J)(Q:U0):Prop:=bB 154 #[s,v] w λa w1=>Q (.bool (decide (a>=0))) w1
def ax.wm:aJ:=(.q (.q .l))
def ae.pK(a:ad)(b:ad)(w:J)(Q:U0):Prop:=∃s1:ByteArray,∃ai:J,Sem.run aj (convert 39 9 a) w=.ok (.string s1) ai/\∃c:ByteArray,∃d
 :J,Sem.run aj (convert 39 9 b) ai=.ok (.string c) d/\Q (.bool (ByteArray.toList s1==ByteArray.toList c)) d
def ax.pK:aJ:=(.q (.q .l))
def ae.wo(m:au Nat)(w:J)(Q:U0):Prop:=an (w.alloc (.cells #[.map m] 125)) λw1=>Q (.func (.func
 189) #[] #[.pointer (some (Y w))]) w1
def ax.wo:aJ:=(.q (.q .l))
theorem ae.HS(m:au Nat)(w:J)(Q:U0)(h:ae.wo m w Q):aH aj 133 #[.map m] w Q:=okF (λw Q=>ae.wo m w Q) ax.wo func133 h
def ae.wq(s:ad)(f:hM)(w:J)(Q:U0):Prop:=bB 190 #[s,.func (.func f.f) f.pre f.cap] w λa w1=>Q (.bool (decide (a>=
 0))) w1
def ax.wq:aJ:=(.q (.q .l))
def ae.wu(d:ad)(f:ad)(w:J)(Q:U0):Prop:=ak ((d.len:Int) !=(f.len:Int)) (Q false w) (∃ (g:Int->U2) (h:Int->J->Nat),g 0 w/\∀ (b:Int)
 (e:J),g b e->ak (decide (b<(d.len:Int))) (an (e.drew) λc=>∃dw:af,d.a=some dw/\aO b d.len/\¬False/\r1 c (dw.add (b.toNat*1)) λn7=>∃dr:af,f.a=some dr/\aO b f.len/\¬
 False/\r1 c (dr.add (b.toNat*1)) λn9=>ak (n7 !=n9) (Q false c) (g (ar (b+1)) c/\h (ar (b+1)) c<h b e)) (Q true e))
def ax.wu:aJ:=(.q (.s a1 (.s (.q (.bE (.loop [(13,(.int .i64))] [0,1,12] (.q (.s (.c .l .l) (.s (.bE (.q (.s (.e 8 false [0,0,502,3,0,0,1005004,7,1007003] [9016] [1,6,1017016,19,2,6,1021020,23,1023019] (.z 8 0
 .e)) (.c (.q .l) .l)))) .r)))))) (.q .l))))
def ae.wv(s:ad)(v:Int)(w:J)(Q:U0):Prop:=∃ (d:Int->U2) (e:Int->J->Nat),d 0 w/\∀ (b:Int) (c:J),d b c->ak (decide (b<(s.len:Int))) (∃a5:
 af,s.a=some a5/\aO b s.len/\r1 c (a5.add (b.toNat*1)) λn6=>ak (v==n6) (Q b c) (d (ar (b+1)) c/\e (ar (b+1)) c<e b c)) (Q (.int .i64 (-1)) c)
def ax.wv:aJ:=fT
def ae.wx(s:ad)(w:J)(Q:U0):Prop:=ak (Option.isNone s.a) (Q () w) (an (w.alloc (.cells #[] 5)) λw1=>∃s2:ad,∃b:J,Sem.run aj
 (Builtin.append_ #[206,206] 206 #[.slice (some (Y w)) 0 0,s]) w1=.ok s2 b/\Q s2 b)
def ax.wx:aJ:=c4
def ae.wy(x:Int)(w:J)(Q:U0):Prop:=(0:Int)<=x/\∃cH:UInt8,y_ (ByteArray.mk #[0,1,1,2,1,2,2,3,1,2,2,3,2,3,3,4,1,2,2,3,2,3,3,4,2,3,3,4,3,4,4,5,1,2,
 2,3,2,3,3,4,2,3,3,4,3,4,4,5,2,3,3,4,3,4,4,5,3,4,4,5,4,5,5,6,1,2,2,3,2,3,3,4,2,3,3,4,3,4,4,5,2,3,3,4,3,4,4,5,3,4,4,5,4,5,5,6,2,3,3,4,3,4,4,5,3,4,4,5,4,5,5,6,3,4,
 4,5,4,5,5,6,4,5,5,6,5,6,6,7,1,2,2,3,2,3,3,4,2,3,3,4,3,4,4,5,2,3,3,4,3,4,4,5,3,4,4,5,4,5,5,6,2,3,3,4,3,4,4,5,3,4,4,5,4,5,5,6,3,4,4,5,4,5,5,6,4,5,5,6,5,6,6,7,2,3,
 3,4,3,4,4,5,3,4,4,5,4,5,5,6,3,4,4,5,4,5,5,6,4,5,5,6,5,6,6,7,3,4,4,5,4,5,5,6,4,5,5,6,5,6,6,7,4,5,5,6,5,6,6,7,5,6,6,7,6,7,7,8]) (x.toNat)=some cH/\Q (.int .i64 (ar ((cH.toNat
 :Nat):Int))) w
def ax.wy:aJ:=(.q (.q .l))
def ae.wz(s:ad)(i:Int)(j:Int)(w:J)(Q:U0):Prop:=((0:Int)<=(s.len:Int)/\(s.len:Int)<=(s.cap:Int))/\((0:Int)<=j/\j<=(((Int.toNat (s.len:Int)):Nat):
 Int))/\((0:Int)<=i/\i<=(((j.toNat):Nat):Int))/\ak (i==j) (Q s w) (an (w.drew) λw1=>((0:Int)<=i/\i<=(s.cap:Int))/\((0:Int)<=j/\j<=(s.len:Int))/\∃s2:ad,∃b:J,
 Sem.run aj (Builtin.append_ #[93,93] 93 #[.slice (a7 s.a 1 0 s.cap) ((i.toNat)-0) (s.cap-0),.slice (a7 s.a 1 (j.toNat) s.cap) (s.len-(j.toNat)) (s.cap-(j.toNat))]) w1
 =.ok s2 b/\((0:Int)<=(s.len:Int)/\(s.len:Int)<=(s2.cap:Int))/\((0:Int)<=(s2.len:Int)/\(s2.len:Int)<=(((Int.toNat (s.len:Int)):Nat):Int))/\∃ (bO:aa) (c:J),Sem.run aj
 (Builtin.clear_ #[93] 0 #[.slice (a7 s2.a 1 (Int.toNat (s2.len:Int)) s2.cap) ((Int.toNat (s.len:Int))-(Int.toNat (s2.len:Int))) (s2.cap-(Int.toNat (s2.len:Int)))]) b=.ok bO c/\Q s2 c)
def ax.wz:aJ:=(.q (.q (.s a1 (.q (.s (.d 6 false [0,0,502,0,0,1004003,1005002,507] [0,0,502,0,0,1004003,1005002,1006003000] [7020,1] [1,2,1021020,1,3,1024023,1025022,27] (.z 6 0 (.tail [.r,.r]))) (.q (.q
 .l)))))))
def ae.tw(s:ad)(f:hM)(w:J)(Q:U0):Prop:=∃ (d:Int->U2) (g:Int->J->Nat),d 0 w/\∀ (b:Int) (c:J),d b c->ak (decide (b<(s.len:Int))) (∃a5
 :af,s.a=some a5/\aO b s.len/\cq c (a5.add (b.toNat*1)) λn6=>hY aj f.f/\Calls aj f.f (f.pre++ #[.int .u8 n6]++f.cap) c λi e=>∃h:ao,i=.returned h/\ak h (Q b e) (d (ar (b+1)) e/\g (ar (b+1)) e<g b c)) (Q (.int .i64 (-1)) c)
def ax.tw:aJ:=fT
theorem ae.HT(s:ad)(f:hM)(w:J)(Q:U0)(h:ae.tw s f w Q):aH aj 190 #[s,.func (.func f.f) f.pre f.cap] w Q:=okF (λw Q=>ae.tw s f w Q) ax.tw func190 h
def ae.wA(s:ad)(i:Int)(v:ad)(w:J)(Q:U0):Prop:=((0:Int)<=i/\i<=(s.len:Int))/\ak ((v.len:Int)==0) (Q s w) (ak (i==(s.len:Int)) (∃s1:ad,
 ∃ai:J,Sem.run aj (Builtin.append_ #[93,93] 93 #[s,v]) w=.ok s1 ai/\Q s1 ai) (ak (decide
 (((ar ((s.len:Int)+(v.len:Int))):Int)>(s.cap:Int))) (((0:Int)<=i/\i<=(s.cap:Int))/\∃b:ad,∃d:J,Sem.run aj (Builtin.append_ #[93,3] 93 #[.slice (a7 s.a 1 0
 s.cap) ((i.toNat)-0) (s.cap-0),.int .i64 (ar ((ar ((s.len:Int)+(v.len:Int)))-i))]) w=.ok b d/\((0:Int)<=i/\i<=(b.len:Int))/\∃n5:Int,∃e:J,Sem.run aj (Builtin.copy_
 #[93,93] 3 #[.slice (a7 b.a 1 (i.toNat) b.cap) (b.len-(i.toNat)) (b.cap-(i.toNat)),v]) d=.ok n5 e/\an (e.drew) λl=>((0:Int)<=(ar (i+
 (v.len:Int)))/\(ar (i+(v.len:Int)))<=(b.len:Int))/\((0:Int)<=i/\i<=(s.len:Int))/\∃n8:Int,∃f:J,Sem.run aj (Builtin.copy_ #[93,93] 3 #[.slice (a7 b.a 1 ((ar (i+
 (v.len:Int))).toNat) b.cap) (b.len-((ar (i+(v.len:Int))).toNat)) (b.cap-((ar (i+(v.len:Int))).toNat)),.slice (a7 s.a 1 (i.toNat) s.cap) (s.len-(i.toNat)) (s.cap-(i.toNat))]) l=.ok n8 f/\Q
 b f) (((0:Int)<=(ar ((s.len:Int)+(v.len:Int)))/\(ar ((s.len:Int)+(v.len:Int)))<=(s.cap:Int))/\((0:Int)<=(ar (i+(v.len:Int)))/\(ar (i+(v.len:Int)))<=(((((ar ((s.len:Int)+
 (v.len:Int))).toNat)-0):Nat):Int))/\∃g:ao,∃c:J,Sem.run aj (callFunc 248 #[v,.slice (a7 (a7 s.a 1 0 s.cap) 1 ((ar (i+(v.len:Int))).toNat) (s.cap-0))
 ((((ar ((s.len:Int)+(v.len:Int))).toNat)-0)-((ar (i+(v.len:Int))).toNat)) ((s.cap-0)-((ar (i+(v.len:Int))).toNat))]) w=.ok (.value g) c/\ak (!g) (an (c.drew) λm=>((0:Int)<=(ar (i+
 (v.len:Int)))/\(ar (i+(v.len:Int)))<=(((((ar ((s.len:Int)+(v.len:Int))).toNat)-0):Nat):Int))/\((0:Int)<=i/\i<=(((((ar ((s.len:Int)+(v.len:Int))).toNat)-0):Nat):Int))/\∃n13:Int,∃h:J,Sem.run
 aj (Builtin.copy_ #[93,93] 3 #[.slice (a7 (a7 s.a 1 0 s.cap) 1 ((ar (i+(v.len:Int))).toNat) (s.cap-0)) ((((ar ((s.len:Int)+(v.len:Int))).toNat)-0)-((ar (i+
 (v.len:Int))).toNat)) ((s.cap-0)-((ar (i+(v.len:Int))).toNat)),.slice (a7 (a7 s.a 1 0 s.cap) 1 (i.toNat) (s.cap-0)) ((((ar ((s.len:Int)+(v.len:Int))).toNat)-0)-(i.toNat)) ((s.cap-0)-(i.toNat))]) m=
 .ok n13 h/\((0:Int)<=i/\i<=(((((ar ((s.len:Int)+(v.len:Int))).toNat)-0):Nat):Int))/\∃n15:Int,∃j:J,Sem.run aj (Builtin.copy_ #[93,93] 3 #[.slice (a7 (a7
 s.a 1 0 s.cap) 1 (i.toNat) (s.cap-0)) ((((ar ((s.len:Int)+(v.len:Int))).toNat)-0)-(i.toNat)) ((s.cap-0)-(i.toNat)),v]) h=.ok n15 j/\Q (.slice (a7 s.a 1 0 s.cap)
 (((ar ((s.len:Int)+(v.len:Int))).toNat)-0) (s.cap-0)) j) (((0:Int)<=(s.len:Int)/\(s.len:Int)<=(((((ar ((s.len:Int)+(v.len:Int))).toNat)-0):Nat):Int))/\∃n17:Int,∃k:J,Sem.run aj
 (Builtin.copy_ #[93,93] 3 #[.slice (a7 (a7 s.a 1 0 s.cap) 1 (Int.toNat (s.len:Int)) (s.cap-0)) ((((ar ((s.len:Int)+(v.len:Int))).toNat)-0)-(Int.toNat (s.len:Int))) ((s.cap-0)-(Int.toNat
 (s.len:Int))),v]) c=.ok n17 k/\((0:Int)<=i/\i<=(((((ar ((s.len:Int)+(v.len:Int))).toNat)-0):Nat):Int))/\fI 249 #[.slice (a7 (a7 s.a 1 0 s.cap) 1
 (i.toNat) (s.cap-0)) ((((ar ((s.len:Int)+(v.len:Int))).toNat)-0)-(i.toNat)) ((s.cap-0)-(i.toNat)),.int .i64 (v.len:Int)] k λn=>Q (.slice (a7 s.a 1 0 s.cap) (((ar ((s.len:Int)+
 (v.len:Int))).toNat)-0) (s.cap-0)) n))))
def ax.wA:aJ:=(.q (.q (.q (.s a1 (.q (.s a1 (.s (.q (.c (.q (.q (.s (.e 8 false [0,0,0,1002001,1003000,0,0,1006005,1007004] [9046] [10,2,8,1048047,1049046,1,2,1052051,1053050] (.z 8 0 .e)) (.q .l)))) .l))
 (.q (.s (.q (.c (.s (.e 8 false [0,0,0,1002001,1003000,0,0,1006005,1007004] [9069] [1,2,8,1071070,1072069,1,2,1075074,1076073] (.z 8 0 .e)) (.q (.q .l))) .l)) a2)))))))))
def ae.lH(a:ad)(b:ad)(w:J)(Q:U0):Prop:=∃b6:Int,∃ai:J,Sem.run aj (callFunc 259 #[a,b]) w=.ok (.value b6) ai/\Q b6 ai
def ax.lH:aJ:=(.q (.q .l))
def ae.wB(x:ad)(target:ad)(cmp:hM)(w:J)(Q:U0):Prop:=∃ (d:Int->Int->U2) (e:Int->Int->J->Nat),d 0 (x.len:Int) w/\∀ (b:Int)
 (bA:Int) (c:J),d b bA c->ak (decide (b<bA)) ((0:Int)<=1/\∃dw:af,x.a=some dw/\((0:Int)<=(ar (Int.fdiv (IntKind.wrap .u64 (ar (b+bA))) (2^(min (Int.toNat 1) 64))))/\(ar (Int.fdiv (IntKind.wrap .u64 (ar
 (b+bA))) (2^(min (Int.toNat 1) 64))))<(x.len:Int))/\al c (dw.add (Int.toNat (ar (Int.fdiv (IntKind.wrap .u64 (ar (b+bA))) (2^(min (Int.toNat 1) 64))))*1)) λh=>hY aj cmp.f/\Calls aj cmp.f (cmp.pre
 ++ #[.slice h.a h.len h.cap,.slice target.a target.len target.cap]++cmp.cap) c λk g=>∃n10:Int,k=.returned (.int .i64 n10)/\ak (decide (n10<0)) (d (ar ((ar (Int.fdiv (IntKind.wrap .u64 (ar (b+bA))) (2^(min
 (Int.toNat 1) 64))))+1)) bA g/\e (ar ((ar (Int.fdiv (IntKind.wrap .u64 (ar (b+bA))) (2^(min (Int.toNat 1) 64))))+1)) bA g<e b bA c) (d b (ar (Int.fdiv (IntKind.wrap .u64 (ar (b+bA))) (2^(min (Int.toNat 1) 64)))) g
 /\e b (ar (Int.fdiv (IntKind.wrap .u64 (ar (b+bA))) (2^(min (Int.toNat 1) 64)))) g<e b bA c)) (bz (λj:ao->U2=>ak (decide (b<(x.len:Int))) (∃fb:af,x.a=some fb/\aO b x.len/\al c (fb.add
 (Int.toNat b*1)) λi=>hY aj cmp.f/\Calls aj cmp.f (cmp.pre++ #[.slice i.a i.len i.cap,.slice target.a target.len target.cap]++cmp.cap) c λl m=>∃n16:Int,l=.returned (.int .i64 n16)/\
 j (n16==0) m) (j false c)) (λ(n:ao) o=>Q (.tuple #[.int .i64 b,.bool n]) o))
def ax.wB:aJ:=(.q (.q (.q (.s (.bE (.loop [(9,(.int .i64)),(10,(.int .i64))] [0,1,2,8] (.s (.q (.c .l .l)) (.bE (.q (.q (.c .r .r))))))) (.s (.z [15,25]) .l)))))
def ae.wC(s:ad)(f:hM)(w:J)(Q:U0):Prop:=bB 260 #[s,.func (.func f.f) f.pre f.cap] w λa w1=>Q (.bool
 (decide (a>=0))) w1
def ax.wC:aJ:=(.q (.q .l))
def ae.wD(s:ad)(f:hM)(w:J)(Q:U0):Prop:=bB 261 #[s,.func (.func f.f) f.pre f.cap] w λa w1=>Q (.bool (decide (a>=0))) w1
def ax.wD:aJ:=(.q (.q .l))
def ae.wE(s:ad)(w:J)(Q:U0):Prop:=ak (Option.isNone s.a) (Q () w) (an (w.alloc (.cells #[] 3)) λw1=>∃s2:ad,∃b:J,Sem.run aj (Builtin.append_
 #[72,72] 72 #[.slice (some (Y w)) 0 0,s]) w1=.ok s2 b/\Q s2 b)
def ax.wE:aJ:=c4
set_option maxRecDepth 100000
def ae.tx(s:ad)(f:hM)(w:J)(Q:U0):Prop:=∃ (d:Int->U2) (h:Int->J->Nat),d 0 w/\∀ (b:Int) (c:J),d b c->ak (decide (b<(s.len:Int)))
 (∃a5:af,s.a=some a5/\aO b s.len/\al c (a5.add (Int.toNat b*1)) λe=>hY aj f.f/\Calls aj f.f (f.pre++ #[.slice e.a e.len e.cap]++f.cap) c λj g=>∃i:ao,j=.returned (.bool i)/\
 ak i (Q (.int .i64 b) g) (d (ar (b+1)) g/\h (ar (b+1)) g<h b c)) (Q (.int .i64 (-1)) c)
def ax.tx:aJ:=fT
theorem ae.HU(s:ad)(f:hM)(w:J)(Q:U0)(h:ae.tx s f w Q):aH aj 260 #[.slice s.a s.len s.cap,.func (.func f.f) f.pre f.cap] w Q:=okF (λw Q=>ae.tx s f w Q) ax.tx func260 h
def ae.tz(s:ad)(f:hM)(w:J)(Q:U0):Prop:=∃ (d:Int->U2) (g:Int->J->Nat),d 0 w/\∀ (b:Int) (c:J),d b c->ak (decide (b<(s.len:Int))) (∃a5:
 af,s.a=some a5/\aO b s.len/\r1 c (a5.add (Int.toNat b*1)) λn6=>hY aj f.f/\Calls aj f.f (f.pre++ #[.int .i64 n6]++f.cap) c λi e=>∃h:ao,i=.returned (.bool h)/\ak h (Q (.int .i64
 b) e) (d (ar (b+1)) e/\g (ar (b+1)) e<g b c)) (Q (.int .i64 (-1)) c)
def ax.tz:aJ:=fT
theorem ae.HV(s:ad)(f:hM)(w:J)(Q:U0)(h:ae.tz s f w Q):aH aj 261 #[.slice s.a s.len s.cap,.func (.func f.f) f.pre f.cap] w Q:=okF (λw Q=>ae.tz s f w Q) ax.tz func261 h
def ae.wF(s:ad)(w:J)(Q:U0):Prop:=ak (Option.isNone s.a) (Q () w) (an (w.alloc (.cells #[] 39)) λw1=>∃s2:ad,∃b:J,Sem.run aj
 (Builtin.append_ #[93,93] 93 #[.slice (some (Y w)) 0 0,s]) w1=.ok s2 b/\Q s2 b)
def ax.wF:aJ:=c4
set_option maxRecDepth 100000
def ae.wG(a:au af)(w:J)(Q:U0):Prop:=iD 38 #[a] w λb w1=>bB 48 #[b] w1 λn6 c=>Q n6 c
def ax.wG:aJ:=(.q (.q .l))
def ae.tA(a:au af)(service:Int)(p:Array aa)(now:Int)(w:J)(Q:U0):Prop:=an (w.alloc (.cells p 55)) λw1=>an (w1.alloc fk) λai=>∃l:O aa,bf ai
 (Y w) 0 18=some l/\ik 49 #[a,service,.agg l.toArray] ai λm B c=>ak (!B) (∃f:Array aa,Sem.run aj (Instr.build 57 #[]) c=.ok (.agg f) c/\bp c (Y w1)
 (Array.toList f)/\Array.size f=21/\an (setCells c (Y w1) 0 (Array.toList f)) λn=>∃o:O aa,bf n (Y w1) 0 21=some o/\Q (.tuple #[.agg o.toArray,false,(1:Int)]) n) (∃dx:af,a=some
 dx/\∃q:au af,c.cell? dx=some (q)/\mF 50 #[q,m] c λC D n17 d=>ak ((n17 !=0)||(!D)) (∃g:Array aa,Sem.run aj (Instr.build
 57 #[]) d=.ok (.agg g) d/\bp d (Y w1) (Array.toList g)/\Array.size g=21/\an (setCells d (Y w1) 0 (Array.toList g)) λr=>∃s:O aa,bf r (Y w1) 0 21=some s/\Q (.tuple
 #[.agg s.toArray,false,n17]) r) (h4 51 #[m,C] d λk E e=>an (e.alloc fk) λt=>bp t (Y e) (Array.toList k)/\Array.size k=
 21/\an (setCells t (Y e) 0 (Array.toList k)) λb=>ak (!E) (∃h:Array aa,Sem.run aj (Instr.build 57 #[]) b=.ok (.agg h) b/\bp b (Y w1) (Array.toList h)/\Array.size h=21/\an
 (setCells b (Y w1) 0 (Array.toList h)) λu=>∃v:O aa,bf u (Y w1) 0 21=some v/\Q (.tuple #[.agg v.toArray,false,(4:Int)]) u) (bO b ((Y e).add 20) λn30=>ak (decide (n30<=now))
 (∃i:Array aa,Sem.run aj (Instr.build 57 #[]) b=.ok (.agg i) b/\bp b (Y w1) (Array.toList i)/\Array.size i=21/\an (setCells b (Y w1) 0 (Array.toList i)) λx=>∃y:O
 aa,bf x (Y w1) 0 21=some y/\Q (.tuple #[.agg y.toArray,false,U8]) x) (∃j:O aa,bf b (Y e) 0 21=some j/\bp b (Y w1) (Array.toList j.toArray)/\Array.size j.toArray=
 21/\an (setCells b (Y w1) 0 (Array.toList j.toArray)) λz=>∃A:O aa,bf z (Y w1) 0 21=some A/\Q (.tuple #[.agg A.toArray,true,U8]) z))))
def ax.tA:aJ:=(.q (.q (.s a1 (.q (.s a5 (.q (.s (.bE gm) (.q .l))))))))
theorem ae.HW(a:au af)(service:Int)(p:Array aa)(now:Int)(w:J)(Q:U0)(h:ae.tA a service p now w Q):aH aj 18 #[a,service,.agg p,.int .u64 now] w Q:=okF (λw Q=>ae.tA a service p now w Q) ax.tA func18 h
def ae.rp(n:Int)(w:J)(Q:U0):Prop:=ak ((decide (n<16))||(decide (n>1600))) (Q (.tuple #[.pointer none,(1:Int)]) w) (((0:Int)<=n/\n<=n/\n<=lE/\((256:Nat):Int)*n<=
 140737488355328)/\an (w.alloc (.cells (ig aj 151 (n.toNat)) 151)) λw1=>∃b:au Nat,∃a:J,Sem.run aj (Instr.makeMap 125 none) w1=.ok (.map b) a/\∃e3:
 Array aa,Sem.run aj (Instr.build 129 #[(1,.slice (some (Y w)) (n.toNat) (n.toNat)),(2,.map b)]) a=.ok (.agg e3) a/\an (a.alloc (.cells e3 129)) λc=>∃dw:af,(some (Y a):au
 af)=some dw/\fI 52 #[.pointer (some dw)] c λd=>Q (.tuple #[.pointer (some (Y a)),U8]) d)
def ax.rp:aJ:=(.q (.s a5 a2))
def ae.pL(d:au af)(s:Int)(t:Int)(u:Int)(w:J)(Q:U0):Prop:=an (w.alloc (.cells #[s,t,.int .u64 u] 64)) λw1=>
 r1 w1 (Y w) λbx=>r1 w1 ((Y w).add 1) λv=>bO w1 ((Y w).add 2) λbA=>bP 53 #[d,.agg #[bx,v,.int .u64 bA]] w1 λx l=>ak (!x) (Q (.tuple #[.pointer none,(1:Int)]) l) (bB 55 #[d] l λn10 y=>hO 54 #[n10,(3:Int)] y λm n14 n=>ak (n14 !=0) (Q (.tuple #[.pointer none,n14]) n) (bH 57 #[m] n λ
 z A=>dH 56 #[(2:Int),.agg #[(4:Int),.int .u64 1,z]] A λB n21 f=>ak (n21 !=0) (Q (.tuple #[.pointer none,n21]) f) (((0:Int)<=256/\(256:Int)<=256/\(256
 :Int)<=lE/\((1:Nat):Int)*256<=140737488355328)/\an (f.alloc (.cells (ig aj 5 (Int.toNat 256)) 5)) λi=>∃o:Array aa,Sem.run aj (Instr.build 138 #[(0,.slice (some (Y f))
 (Int.toNat 256) (Int.toNat 256)),(1,.slice (some (Y f)) (Int.toNat 256) (Int.toNat 256)),(2,B)]) i=.ok (.agg o) i/\∃ (j:Int->U2) (p:Int->J->Nat),j 0 i/\∀ (n26:Int)
 (g:J),j n26 g->ak (decide (n26<3)) (((0:Int)<=n26/\n26<((3:Nat):Int))/\∃h:ad,cellAt o (n26.toNat*1)=some (.slice h.a h.len h.cap)/\bB 58 #[d,n26,h] g λn31 k=>ak (n31 !=0) (Q (.tuple #[.pointer none,n31]) k) (j (ar (n26+1)) k/\p (ar (n26+1)) k<p n26 g)) (bB 59 #[d] g λn34 b=>ak (n34 !=0)
 (Q (.tuple #[.pointer none,n34]) b) (an (b.alloc gI) λq=>bp q (Y b) [U8,U8,(2:Int),.int .u64 0,.int .u64 0,U8]/\(6:Nat)=6/\an (setCells q (Y b) 0 [U8,
 .int .i64 0,(2:Int),.int .u64 0,.int .u64 0,U8]) λe=>r1 e (Y b) λn37=>r1 e ((Y b).add 1) λn38=>r1 e ((Y b).add 2) λn39=>bO e ((Y b).add 3) λn40=>bO e (Addr.add
 (Y b) 4) λn41=>r1 e ((Y b).add 5) λC=>bB 60 #[d,.agg #[n37,n38,n39,.int .u64 n40,.int .u64 n41,C],.int .u64 1] e λr c=>ak (r !=0)
 (Q (.tuple #[.pointer none,r]) c) (r1 c (Y w) λD=>r1 c ((Y w).add 1) λE=>bO c ((Y w).add 2) λF=>r1 c (Y b) λG=>r1 c ((Y b).add 1) λH=>r1 c ((Y
 b).add 2) λI=>bO c ((Y b).add 3) λK=>bO c ((Y b).add 4) λL=>r1 c ((Y b).add 5) λM=>hO 61 #[d,.agg #[D,E,.int .u64 F],.agg #[G,H,I,.int .u64 K,.int .u64 L,M],.int .u64 1,m] c λN O P=>Q (.tuple #[N,O]) P))))))
def ax.pL:aJ:=(.q (.s a1 (.q (.s a1 (.q (.s a1 (.q (.s (.q (.bE (.loop [(44,(.int .i64))] [0,3,6,43] gz))) (.s (.q a1) (.q gy))))))))))
theorem ae.HX(d:au af)(a:Int)(b:Int)(c:Int)(w:J)(Q:U0)(h:ae.pL d a b c w Q):aH aj 21 #[d,.agg #[a,b,.int .u64 c]] w Q:=okF (λw Q=>ae.pL d a b c w Q) ax.pL func21 h
def ae.wH(s:au af)(key:ad)(w:J)(Q:U0):Prop:=bz (λb1:ao->U2=>ak (Option.isNone s) (b1 true w) (bP 63 #[key] w λh ai=>b1
 (!h) ai)) (λ(i:ao) a=>ak i (Q (.tuple #[false,(1:Int)]) a) (∃dj:af,s=some dj/\aW a (dj.add 18) λj=>ak j (Q (.tuple #[false,(8:Int)]) a) (∃a9:af,s=some a9/\∃d:au af,
 a.cell? a9=some (d)/\mF 64 #[d,key] a λo k n15 b=>ak (n15 !=0) (bB 65 #[s,n15] b λn18 l=>Q (.tuple #[false,
 n18]) l) (ak (!k) (Q (.tuple #[false,U8]) b) (bB 66 #[s] b λn21 c=>ak (n21==0) (Q (.tuple #[false,(2:Int)]) c) (∃e:af,s=some e/\∃f:au
 af,c.cell? e=some (f)/\kD 67 #[f,key] c λp n27 g=>ak (n27 !=0) (bB 65 #[s,n27] g λn30 m=>Q (.tuple
 #[false,n30]) m) (bB 68 #[s,.int .i64 (-1)] g λn33 n=>Q (.tuple #[.bool (n33==0),n33]) n)))))))
def ax.wH:aJ:=(.q (.s (.bE (.s (.z [9,10]) (.c (.q .l) a1))) (.q (.s (.bE (.q (.c (.q .l) gm))) (.s (.q a1) (.q (.q .l)))))))
def ae.wI(d:au af)(l:ad)(w:J)(Q:U0):Prop:=ak (Option.isNone d) (Q (.tuple #[]) w) (bH 69 #[d] w λi w1=>∃ (j:Int->U2) (q:Int->J
 ->Nat),j 0 w1/\∀ (n6:Int) (b:J),j n6 b->ak (decide (n6<(i.len:Int))) (bz (λr:U2=>∃a9:af,i.a=some a9/\aO n6 i.len/\r1 b (a9.add (n6.toNat*1)) λn10=>bz (λs:ao->J->
 Prop=>ak (decide (n6>=(l.len:Int))) (s true b) (∃fb:af,l.a=some fb/\aO n6 l.len/\r1 b (fb.add (n6.toNat*1)) λn13=>s (decide (n13<=0)) b)) (λ(C:ao) k=>ak C (r k) (∃fT:af,d=some
 fT/\∃t:au Nat,k.cell? (fT.add 5)=some (.map t)/\∃e:ad,∃u:J,Sem.run aj (Instr.lookup 125 (.map t) n10 false) k=.ok e u/\an
 (u.drew) λf=>∃g:U1,∃m:af,d=some m/\¬g (m.add 4).block/\al f (m.add 4) λv=>∃n:af,l.a=some n/\aO n6 l.len/\¬g (n.add (n6.toNat*1)).block/\r1 f (n.add
 (n6.toNat*1)) λn25=>∃n26:Int,∃c:J,Sem.run aj (Builtin.min_ #[3,3] 3 #[n25,.int .i64 (e.len:Int)]) f=.ok n26 c/\ag g f c/\∃o:af,e.a=some o
 /\aO (ar (n26-1)) e.len/\¬g (o.add ((ar (n26-1)).toNat*256)).block/\∃h:O aa,bf c (o.add ((ar (n26-1)).toNat*256)) 0 256=some h/\∃p:af,v.a=some p/\aO n10 v.len/\bp
 c (p.add (n10.toNat*256)) (Array.toList h.toArray)/\Array.size h.toArray=256/\an (setCells c (p.add (n10.toNat*256)) 0 (Array.toList h.toArray)) λD=>r D))) (λx=>j (ar (n6+1)) x/\q (ar
 (n6+1)) x<q n6 b)) (∃y:af,d=some y/\∃z:au Nat,b.cell? (y.add 5)=some (.map z)/\∃ (E:aa) (A:J),Sem.run aj (Builtin.clear_ #[125] 0 #[.map z]) b=.ok
 E A/\∃B:af,d=some B/\fI 52 #[.pointer (some B)] A λF=>Q (.tuple #[]) F))
def ax.wI:aJ:=(.s (.q (.c .l .l)) (.s (.q (.bE (.loop [(12,(.int .i64))] [0,1,10,11] (.q (.s (.c .l .l) (.s (.dS [] [0,1,10,11,12] (.bE (.q (.s (.s (.z [15,16]) (.c .l .l)) (.q (.d 16 true
 [0,3000,0,0,0,0,1007006,9,0,11,1011009,13,1013005,15,516,517] [0,3000,0,0,0,0,1007006,9,0,11,1011009,13,1013005,15,1004003,1016015] [17034,0] [1,3034,2005,2,5,1041040,43,7,45,1045043,47,1047039,49,1038037,1050049] (.z 12 0 (.bR 12 (.z 3 13
 (.tail [.r,.r])))))))))) .r)))))) (.q .r)))
def ae.rq(d:au af)(j:Int)(k:Int)(l:Int)(w:J)(Q:U0):Prop:=an (w.alloc (.cells #[j,k,.int .u64 l] 64)) λw1=>
 r1 w1 (Y w) λbx=>r1 w1 ((Y w).add 1) λm=>bO w1 ((Y w).add 2) λbA=>bP 53 #[d,.agg #[bx,m,.int .u64 bA]] w1 λn f=>ak (!n) (Q (.tuple #[.pointer none,(1:Int)]) f) (Dp 70 #[d] f λn10 n11 n12 n13 n14 n15 n16 n17 a=>an (a.alloc gI) λg=>bp g (Y a) [n10,n11,n12,.int .u64 n13,.int .u64 n14,n15]/\(6:Nat)=
 6/\an (setCells g (Y a) 0 [n10,n11,n12,.int .u64 n13,.int .u64 n14,n15]) λc=>ak (n17 !=0) (Q (.tuple #[.pointer none,n17]) c) (r1 c ((Y a).add 2) λn20=>hO
 71 #[d,n20] c λo n24 b=>ak (n24 !=0) (Q (.tuple #[.pointer none,n24]) b) (r1 b (Y w) λn25=>r1 b ((Y w).add 1) λn26=>bO b ((Y w).add 2) λn27=>r1 b
 (Y a) λn28=>r1 b ((Y a).add 1) λn29=>r1 b ((Y a).add 2) λn30=>bO b ((Y a).add 3) λn31=>bO b ((Y a).add 4) λn32=>r1 b ((Y a).add 5) λn33=>hO 61
 #[d,.agg #[n25,n26,.int .u64 n27],.agg #[n28,n29,n30,.int .u64 n31,.int .u64 n32,n33],.int .u64 n16,o] b λh n37 e=>ak (n37 !=0) (Q
 (.tuple #[.pointer none,(4:Int)]) e) (r1 e ((Y a).add 5) λn38=>bB 72 #[h,n38] e λn41 i=>ak (n41 !=0) (Q (.tuple #[.pointer none,n41]) i) (Q (.tuple
 #[h,U8]) i)))))
def ax.rq:aJ:=(.q (.s a1 (.q (.s a1 (.q (.s a1 (.q (.s a1 gy))))))))
def ae.wJ(s:au af)(key:ad)(val:ad)(w:J)(Q:U0):Prop:=bz (λb1:ao->U2=>ak (Option.isNone s) (b1 true w) (bP 63 #[key] w λh
 ai=>b1 (!h) ai)) (λ(i:ao) a=>ak (i||(decide ((val.len:Int)>24))) (Q (1:Int) a) (∃dj:af,s=some dj/\aW a (dj.add 18) λj=>ak j (Q (8:Int) a) (bB 66 #[s] a λn11 b
 =>ak (n11==0) (Q (2:Int) b) (∃fb:af,s=some fb/\∃e:au af,b.cell? fb=some (e)/\mF 64 #[e,key] b λp k n18 c=>ak (n18 !=0) (bB
 65 #[s,n18] c λn21 l=>Q n21 l) (∃f:af,s=some f/\∃g:au af,c.cell? f=some (g)/\bB 73 #[g,key,val] c λn26 d=>ak (n26 !=0) (bB 65 #[s,n26] d λn29 m=>Q n29 m) (ak k (bB 68 #[s,U8] d λn32
 n=>Q n32 n) (bB 68 #[s,(1:Int)] d λn35 o=>Q n35 o)))))))
def ax.wJ:aJ:=(.q (.s (.bE (.s (.z [9,10,12,11]) (.c (.q .l) gm))) (.q (.s a1 (.s (.q a1) (.s a1 (.q .l)))))))
def ae.wK(s:au af)(w:J)(Q:U0):Prop:=ak (Option.isNone s) (Q (1:Int) w) (∃a1:af,s=some a1/\aW w (a1.add 18) λck=>ak ck (Q (8:Int) w) (bB 74
 #[s] w λn5 a=>Q n5 a))
def ax.wK:aJ:=(.q (.s (.bE gm) (.q .l)))
def ae.wL(s:au af)(w:J)(Q:U0):Prop:=an (w.alloc gI) λw1=>ak (Option.isNone s) (bp w1 (Y w) [U8,U8,U8,.int .u64 0,.int .u64 0,U8]/\(6
 :Nat)=6/\an (setCells w1 (Y w) 0 [U8,U8,U8,.int .u64 0,.int .u64 0,U8]) λai=>zX ai w Q) (∃a9:af,s=some a9/\r1 w1 (a9.add 7) λn10=>r1 w1 ((a9.add 7).add 1) λn11=>r1 w1
 ((a9.add 7).add 2) λn12=>bO w1 ((a9.add 7).add 3) λn13=>bO w1 ((a9.add 7).add 4) λn14=>r1 w1 ((a9.add 7).add 5) λn15=>bp w1 (Y w) [n10,n11,n12,.int .u64 n13,.int .u64 n14,n15]/\(6:Nat)=6/\an (setCells w1 (Y w) 0 [n10,n11,n12,.int .u64 n13,.int .u64 n14,n15]) λa=>zX a w Q)
def ax.wL:aJ:=c4
def ae.pM(s:au af)(most:Int)(w:J)(Q:U0):Prop:=ak (((Option.isNone s)||(decide (most<1)))||(decide (most>400))) (Q (.tuple #[.pointer none,(1:Int)]) w) (an (w.alloc (.cells
 #[s,most] 120)) λw1=>Q (.tuple #[.pointer (some (Y w)),U8]) w1)
def ax.pM:aJ:=(.q (.s dw (.q .l)))
def ae.wM(a:au af)(w:J)(Q:U0):Prop:=ak (Option.isNone a) (Q (.pointer none) w) (∃a1:af,a=some a1/\∃bj:au af,w.cell? a1=some (bj)/\Q (bj) w)
def ax.wM:aJ:=c4
def ae.Ad(s:au af)(w:J)(Q:U0):Prop:=ak (Option.isNone s) (Q (0:Int) w) (∃a1:af,s=some a1/\r1 w (a1.add 16) λbx=>Q bx w)
def ax.Ad:aJ:=c4
def ae.tB(a:au af)(t:Array aa)(w:J)(Q:U0):Prop:=an (w.alloc (.cells t 57)) λw1=>bz (λcf:ao->U2=>ak (Option.isNone a) (cf true w1) (∃h:O
 aa,bf w1 (Y w) 0 21=some h/\bP 96 #[.agg h.toArray] w1 λs u=>cf (!s) u)) (λ(v:ao) c=>ak v (Q (1:Int) c) (r1 c (Y w) λn9=>∃i:O aa,bf c ((Y w).add 1) 0 18=
 some i/\ik 97 #[n9,.agg i.toArray] c λe B f=>r1 f ((Y w).add 19) λn15=>bO f ((Y w).add 20) λn16=>ik 98 #[n15,.int .u64 n16] f λj C k=>∃fa:
 af,a=some fa/\∃l:au af,k.cell? fa=some (l)/\mF 50 #[l,e] k λD x n27 m=>ak (n27 !=0) (Q n27 m) (an (m.drew) λb=>∃
 n:U1,ak (!x) (∃g:af,a=some g/\¬n (g.add 1).block/\r1 b (g.add 1) λn31=>bB 17 #[a] b λn34 d=>ag n b d/\ak (decide (n34>=n31)) (Q (2:Int) d) (∃o
 :af,a=some o/\∃p:au af,d.cell? o=some (p)/\bB 27 #[p,e,j] d λn39 y=>Q n39 y)) (ak false (Q
 (2:Int) b) (∃q:af,a=some q/\∃r:au af,b.cell? q=some (r)/\bB 27 #[r,e,j] b λz A=>Q z A)))))
def ax.tB:aJ:=(.q (.s dj (.q (.q (.q (.s (.bE (.q (.c (.q .l) (.s (.d 9 true [0,3000,1003002,3,1005002,1006002,1007002,1008004002,1009002,1010004] [0,3000,1003002,3,1005002,1006002,1007002,1008004002,1009002,11] [11050,50]
 [11,2050,1052000,1053052,1052000,1055052,1056052,1057052,1058054052,1059052,61] (.z 3 0 (.sp 52 (.t 3 (.z 4 5 (.bR 4 (.tail [.r,.r,.r])))) (.z 6 3 (.tail [.r,.r,.r]))))) (.c (.q .l) .l))))) (.q .l)))))))
theorem ae.HY(a:au af)(t:Array aa)(w:J)(Q:U0)(h:ae.tB a t w Q):aH aj 43 #[a,.agg t] w Q:=okF (λw Q=>ae.tB a t w Q) ax.tB func43 h
def ae.wN(a:au af)(h:ad)(now:Int)(most:Int)(w:J)(Q:U0):Prop:=an (w.alloc (.cells #[.int .u64 now] 23)) λw1=>ak (Option.isNone a) (Q (.tuple #[(),
 .int .i64 0,(1:Int)]) w1) (∃bx:Int,∃c:J,Sem.run aj (Builtin.min_ #[3,3] 3 #[most,(64:Int)]) w1=.ok bx c/\ak (decide (bx<1)) (Q (.tuple #[(),U8,
 .int .i64 0]) c) (∃a4:af,a=some a4/\∃d:au af,c.cell? a4=some (d)/\dH 102 #[d,h,(),.int .i64 (ar (bx+1))] c λcG n9 b=>
 ak (n9 !=0) (Q (.tuple #[(),U8,n9]) b) (bz (λe:ad->ad->U2=>ak (decide ((cG.len:Int)>bx)) (((0:Int)<=bx/\bx<=(cG.cap:Int))/\∃dx:af,(a7 cG.a 2 0 cG.cap)=
 some dx/\((0:Int)<=(ar (bx-1))/\(ar (bx-1))<((((bx.toNat)-0):Nat):Int))/\al b (dx.add ((ar (bx-1)).toNat*2)) λi=>an (b.alloc z3) λf=>an (f.alloc (.cells #[i,
 .slice (some (Y b)) 1 1] 39)) λj=>bH 103 #[.slice (some (Y f)) 2 2] j λk l=>e k ⟨(a7 cG.a 2 0 cG.cap),((bx.toNat)-0),(cG.cap-0)⟩ l) (e ⟨none,0,0⟩ cG b)) (λ(m:ad) (n:
 ad) o=>g9 104 #[a,n,.func (.func 105) #[] #[.pointer (some (Y w))]] o λn23 n24 g=>ak (n24 !=0) (Q (.tuple #[(),U8,n24]) g) (Q (.tuple #[m,n23,U8]) g)))))
def ax.wN:aJ:=(.q (.s a1 (.q (.s a1 (.q (.s a1 (.s (.dS [(8,.slice),(11,.slice)] [0,6] (.q (.c (.q .r) .l))) c4)))))))
def ae.Ae(s:au af)(w:J)(Q:U0):Prop:=ak (Option.isNone s) (Q (0:Int) w) (∃a1:af,s=some a1/\r1 w (a1.add 17) λbx=>Q bx w)
def ax.Ae:aJ:=c4
def ae.tC(a:au af)(service:Int)(p:Array aa)(w:J)(Q:U0):Prop:=an (w.alloc (.cells p 55)) λw1=>ak (Option.isNone a) (Q (.tuple #[(),false]) w1)
 (∃b:O aa,bf w1 (Y w) 0 18=some b/\ik 97 #[service,.agg b.toArray] w1 λc d e=>Q (.tuple #[c,d]) e)
def ax.tC:aJ:=c4
theorem ae.HZ(a:au af)(service:Int)(p:Array aa)(w:J)(Q:U0)(h:ae.tC a service p w Q):aH aj 49 #[a,service,.agg p] w Q:=okF (λw Q=>ae.tC a service p w Q) ax.tC func49 h
def ae.wO(s:au af)(key:ad)(w:J)(Q:U0):Prop:=ak (Option.isNone s) (Q (.tuple #[(),false,(1:Int)]) w) (∃a1:af,s=some a1/\∃bj:au af,w.cell? a1
 =some (bj)/\mF 64 #[bj,key] w λa b n7 c=>Q (.tuple #[a,b,n7]) c)
def ax.wO:aJ:=c4
def ae.ru(key:ad)(val:ad)(w:J)(Q:U0):Prop:=an (w.alloc fk) λw1=>mG 106 #[key,U8,(2:Int)] w1 λbA C ai=>ak (((!C)||(decide ((key.len:Int)
 <4)))||((val.len:Int) !=10)) (∃e:Array aa,Sem.run aj (Instr.build 57 #[]) ai=.ok (.agg e) ai/\bp ai (Y w) (Array.toList e)/\Array.size e=21/\an (setCells ai (Y w) 0 (Array.toList e)) λn
 =>∃o:O aa,bf n (Y w) 0 21=some o/\Q (.tuple #[.agg o.toArray,false]) n) (((0:Int)<=4/\4<=(key.len:Int))/\h4 107 #[.slice (a7 key.a 1 (Int.toNat 4) key.cap) (key.len-(Int.toNat 4)) (key.cap-
 (Int.toNat 4))] ai λi M d=>an (d.alloc z4) λp=>bp p (Y d) (Array.toList i)/\Array.size i=17/\an (setCells p (Y d) 0 (Array.toList i)) λD=>mG 106 #[val,U8,(2:Int)] D λn17 N E=>mG 106 #[val,(2:Int),(8:Int)] E λn21 P F=>an (F.drew) λb=>∃j:U1,¬j ((Y d):af).block/\∃q:O aa,
 bf b (Y d) 0 17=some q/\∃k:af,key.a=some k/\aO 3 key.len/\¬j (k.add (Int.toNat 3*1)).block/\cq b (k.add (Int.toNat 3*1)) λn27=>∃r:Array aa,(∀s:J,Sem.run aj
 (Instr.build 55 #[(0,.agg q.toArray),(1,.int .i64 (ar n27))]) s=.ok (.agg r) s)/\∃f:Array aa,(∀t:J,Sem.run aj (Instr.build 57 #[(0,.int .i64 (ar bA)),(1,.agg r),(2,.int
 .i64 (ar n17)),(3,.int .u64 n21)]) t=.ok (.agg f) t)/\an (b.alloc fk) λl=>ag j b l/\bp l (Y b) (Array.toList f)/\Array.size f=21/\an (setCells l (Y b) 0 (Array.toList f)) λm=>r1
 m (Y b) λn34=>∃u:O aa,bf m ((Y b).add 1) 0 18=some u/\ik 97 #[n34,.agg u.toArray] m λG H v=>bz (λx:ao->U2=>ak (!H) (x true v) (bP
 108 #[G,key] v λI K=>x (!I) K)) (λ(L:ao) c=>ak L (∃g:Array aa,Sem.run aj (Instr.build 57 #[]) c=.ok (.agg g)
 c/\bp c (Y w) (Array.toList g)/\Array.size g=21/\an (setCells c (Y w) 0 (Array.toList g)) λy=>∃z:O aa,bf y (Y w) 0 21=some z/\Q (.tuple #[.agg z.toArray,false]) y) (∃h:
 O aa,bf c (Y b) 0 21=some h/\bp c (Y w) (Array.toList h.toArray)/\Array.size h.toArray=21/\an (setCells c (Y w) 0 (Array.toList h.toArray)) λA=>∃B:O aa,bf A (Y w) 0 21=
 some B/\Q (.tuple #[.agg B.toArray,true]) A)))
def ax.ru:aJ:=(.q (.q (.s (.s (.z [9,11,12,11]) (.c (.q .l) .l)) (.q (.q (.q (.s (.d 13 true [0,1,0,0,3003,1006002,0,9,0,1000000001666,0,513] [0,1,0,0,3003,1006002,0,9,0,1000000001666,0,1012011] [12050,15,0]
 [7,51,9,1,3053,1056052,11,59,13,1875750244799811584,0,1061014] (.z 12 0 (.bR 12 .e))) (.q (.s (.s (.z [9,13]) (.c (.q .l) .l)) (.q .l))))))))))
def ae.wP(f:au af)(w:J)(Q:U0):Prop:=∃ (c:Int->U2) (d:Int->J->Nat),c 0 w/\∀ (a:Int) (b:J),c a b->ak (decide (a<4)) (∃a5:af,f=some a5/\
 ((0:Int)<=a/\a<((4:Nat):Int))/\st b (Addr.add a5 (a.toNat*1)) (.int .i64 (-1)) λe=>c (ar (a+1)) e/\d (ar (a+1)) e<d a b) (Q (.tuple #[]) b)
def ax.wP:aJ:=(.q (.bE (.loop [(3,(.int .i64))] [0] a3)))
def ae.pN(d:au af)(l:Int)(m:Int)(n:Int)(w:J)(Q:U0):Prop:=an (w.alloc (.cells #[l,m,.int .u64 n] 64)) λw1=>
 bz (λcf:ao->U2=>ak (!(Option.isNone d)) (r1 w1 (Y w) λo=>cf (decide (o>=8)) w1) (cf false w1)) (λ(p:ao) a=>bz (λg:ao->U2=>ak p (r1 a (Y w) λn7=>g (decide (n7<=64)) a)
 (g false a)) (λ(q:ao) b=>bz (λh:ao->U2=>ak q (r1 b ((Y w).add 1) λn11=>h (decide (n11>=1)) b) (h false b)) (λ(r:ao) c=>bz (λi:ao->U2=>ak r (r1 c
 ((Y w).add 1) λn15=>i (decide (n15<=1000)) c) (i false c)) (λ(s:ao) e=>bz (λj:ao->U2=>ak s (bO e ((Y w).add 2) λn19=>j (decide (n19>=1)) e) (j false e)) (λ
 (t:ao) f=>bz (λk:ao->U2=>ak t (bO f ((Y w).add 2) λn23=>k (decide (n23<=1048576)) f) (k false f)) (λ(u:ao) v=>Q u v))))))
def ax.pN:aJ:=(.q (.s (.z [9,10,12,10,12,10,12,10,12,10,12,10]) .l))
def ae.rv(n:Int)(first:Int)(w:J)(Q:U0):Prop:=bP 109 #[n] w λg w1=>ak (((!g)||(decide (first<0)))||(decide (first>n))) (Q (.tuple #[.pointer none,(1:Int)])
 w1) (bB 110 #[n] w1 λn6 d=>((0:Int)<=n6/\n6<=n6/\n6<=lE/\((1:Nat):Int)*n6<=140737488355328)/\an (d.alloc (.cells (ig aj 5 (n6.toNat)) 5)) λb=>an (b.alloc (.cells
 #[n,.slice (some (Y d)) (n6.toNat) (n6.toNat),()] 209)) λh=>∃ (c:Int->U2) (e:Int->J->Nat),c 0 h/\∀ (n11:Int) (a:J),c n11 a->ak (decide (n11<
 first)) (∃dK:af,(some (Y b):au af)=some dK/\al a (dK.add 1) λi=>fI 111 #[i,n11] a λf=>c (ar (n11+1)) f/\e (ar (n11+1)) f<e n11 a)
 (fI 112 #[.pointer (some (Y b))] a λj=>Q (.tuple #[.pointer (some (Y b)),U8]) j))
def ax.rv:aJ:=(.q (.s (.s (.z [12,8,9,11]) (.c (.q .l) .l)) (.q (.s (.q (.bE (.loop [(27,(.int .i64))] [6,26] a3))) (.q (.q .l))))))
def ae.wQ(d:au af)(w:J)(Q:U0):Prop:=ak (Option.isNone d) (Q (0:Int) w) (∃a1:af,d=some a1/\al w (a1.add 4) λs2=>Q (.int .i64 (s2.len:Int)) w)
def ax.wQ:aJ:=c4
def ae.wR(no:Int)(u:Int)(v:Int)(x:ad)(w:J)(Q:U0):Prop:=an (w.alloc (.cells #[u,.int .u64 v,x] 137)) λw1=>
 bP 113 #[no] w1 λy ai=>bz (λj:ao->U2=>ak (!y) (j true ai) (r1 ai (Y w) λn6=>bP 114 #[n6] ai λz A=>j (!z) A)) (λ(B:ao) f=>ak B (Q (.tuple
 #[(),(1:Int)]) f) (al f ((Y w).add 2) λC=>ak (decide ((C.len:Int)>232)) (Q (.tuple #[(),(10:Int)]) f) (an (f.alloc (.cells #[.int .u8 83,.int .u8 84,.int .u8 78,.int .u8 67]
 5)) λD=>∃k:ad,∃g:J,Sem.run aj (convert 39 39 (.slice (some (Y f)) 4 4)) D=.ok k g/\r1 g (Y w) λn16=>an (g.alloc (.cells #[.int .u8 1,
 .int .u8 (IntKind.wrap .u8 n16)] 5)) λl=>an (l.alloc (.cells #[k,.slice (some (Y g)) 2 2] 39)) λE=>bH 103 #[.slice (some (Y l)) 2 2] E λF m=>al m
 ((Y w).add 2) λG=>bH 115 #[F,.int .u64 (IntKind.wrap .u64 (G.len:Int)),(2:Int)] m λH I=>bH 115 #[H,.int .u64 (IntKind.wrap .u64 no),(4:Int)] I λK n=>bO n ((Y w).add 1) λn29=>bH 115 #[K,.int .u64 n29,(8:Int)] n λo L=>bz (λp:ad->U2=>an (L.drew) λb=>∃d:U1,¬
 d ((Y w).add 2).block/\al b ((Y w).add 2) λq=>¬d ((Y w).add 2).block/\al b ((Y w).add 2) λe=>(((0:Int)<=4/\(4:Int)<=4/\(4:Int)<=lE/\((1:Nat):Int)*4<=140737488355328)/\an
 (b.alloc (.cells (ig aj 5 (Int.toNat 4)) 5)) λh=>ag d b h/\(zZ e)/\an (h.alloc (.cells (ig aj 5 ((ar (232-(e.len:Int))).toNat)) 5)) λr=>ag d h r/\
 z1 r o b q h e p)/\((zZ e)/\an (b.alloc (.cells (ig aj 5 ((ar (232-(e.len:Int))).toNat)) 5)) λi=>ag d b i/\((0:Int)<=4/\(4:Int)<=4/\(4:Int)<=lE/\((1:Nat):
 Int)*4<=140737488355328)/\an (i.alloc (.cells (ig aj 5 (Int.toNat 4)) 5)) λs=>ag d i s/\z1 s o i q b e p)) (λ(c:ad) M=>an (M.drew) λN=>∃U:U1,((0:
 Int)<=20/\20<=(c.len:Int))/\ot 116 #[c] N λO P=>∃V:U1,bH 115 #[(),.int .u64 (IntKind.wrap .u64 O),(4:Int)] P λR S=>∃T:Int,∃t
 :J,Sem.run aj (Builtin.copy_ #[39,39] 3 #[.slice (a7 c.a 1 (Int.toNat 20) c.cap) (c.len-(Int.toNat 20)) (c.cap-(Int.toNat 20)),R]) S=.ok T t
 /\Q (.tuple #[c,U8]) t))))
def ax.wR:aJ:=(.q (.s (.bE (.s (.z [12,13]) (.c (.q .l) a1))) (.q (.q (.q (.q (.s (.dS [(6,.slice)] [] (.d 9 true [0,0,0,3,0,4004,1000000000267,10,511] [0,0,0,3,0,4004,1000000000267,10,1010000] [11044,7]
 [7,0,4,47,4,4048,4698113673859072,2053] (.t 0 (.z 6 2 (.two 1 (.bR 8 (.tail [.r,.r,.r])) 8 (.bR 1 (.tail [.r,.r,.r]))))))) (.s (.d 6 true [0,1,0,2002,1004003,1005001] [0,1,0,3002,1005001] [7055] [7,56,7,3057,1060056] (.z 3 0 (.out 3
 true (.t 4 (.out 5 false .e))))) (.q .l)))))))))
def ae.tD(s:au af)(w:J)(Q:U0):Prop:=ak (Option.isNone s) (Q () w) (∃a1:af,s=some a1/\al w (a1.add 1) λs2=>bH 46 #[s2] w λa b=>Q a b)
def ax.tD:aJ:=c4
theorem ae.H0(s:au af)(w:J)(Q:U0)(h:ae.tD s w Q):aH aj 57 #[s] w Q:=okF (λw Q=>ae.tD s w Q) ax.tD func57 h
def ae.wS(d:au af)(i:Int)(b:ad)(w:J)(Q:U0):Prop:=bP 85 #[d,i] w λs w1=>ak ((!s)||((b.len:Int) !=256)) (Q (1:Int) w1) (∃a4:
 af,d=some a4/\bP 117 #[.pointer (some a4),(2:Int)] w1 λt n=>ak t (Q (3:Int) n) (an (n.drew) λe=>∃c:U1,∃eL:af,d=some eL/\¬c (eL.add 5).block/\∃h:au Nat,
 e.cell? (eL.add 5)=some (.map h)/\∃fb:af,d=some fb/\¬c (fb.add 5).block/\∃j:au Nat,e.cell? (fb.add 5)=some (.map j)/\256<=b.len/\∃fJ:af,b.a=some fJ/\¬c fJ.block/\∃k:O aa,
 bf e fJ 0 256=some k/\(∃o:ad,∃f:J,Sem.run aj (Instr.lookup 125 (.map j) i false) e=.ok o f/\ag c e f/\∃p:ad,∃l:J,
 Sem.run aj (Instr.buildSlice 124 1 #[(0,.agg k.toArray)]) f=.ok p l/\ag c f l/\zU o p l c h i d Q)/\(∃q:ad,∃g:J,Sem.run aj (Instr.buildSlice
 124 1 #[(0,.agg k.toArray)]) e=.ok q g/\ag c e g/\∃r:ad,∃m:J,Sem.run aj (Instr.lookup 125 (.map j) i false) g=.ok r m/\ag c g m/\zU r q m c h i d Q)))
def ax.wS:aJ:=(.q (.s (.bE (.s (.z [15,11]) (.c (.q .l) a1))) (.s (.d 16 true [0,3000,0,0,3005,0,1009008,0,3011,1014010,516] [0,3000,0,0,3005,0,1009008,0,3011,1014010,1015004003] [16022,0]
 [1,3022,2,1,3027,2,1031030,3,3033,1036032,1037026025] (.z 10 0 (.z 3 11 (.two 10 (.bR 14 (.bR 15 .e)) 14 (.bR 10 (.bR 15 .e)))))) (.q (.q .l)))))
def ae.wT(d:au af)(w:J)(Q:U0):Prop:=ak (Option.isNone d) (Q (1:Int) w) (∃a1:af,d=some a1/\bP 117 #[.pointer (some a1),(3:Int)] w λj ai=>ak j (Q
 (3:Int) ai) (∃a5:af,d=some a5/\∃g:au Nat,ai.cell? (a5.add 5)=some (.map g)/\∃ (a:aa) (h:J),Sem.run aj (Instr.range 125 (.map g)) ai=.ok a h/\∃ (c:U2)
 (i:J->Nat),c h/\∀ (b:J),c b->(∃ (k:aa) (l:aa) (e:J),Sem.run aj (Instr.next (a) false 0) b=.ok (.tuple #[true,k,l]) e/\ak true (zS a e d c i b) (z2 d e
 Q))\/(∃f:J,Sem.run aj (Instr.next (a) false 0) b=.ok (.tuple #[false]) f/\ak false (zS a f d c i b) (z2 d f Q))))
def ax.wT:aJ:=(.q (.s (.bE gm) (.s (.q (.bE (.loop [] [0,16] (.q (.s (.c .l .l) (.bE (.s (.q2 [.vt [(.one (.int .i64)),(.one .any)]]) (.d 8 true [0,3000,0,0,0,1006005,508,509] [0,3000,0,0,0,1006005,1004003,1008007]
 [9021,0] [1,3021,4,1,4,1027026,1025024,1029028] (.z 7 0 (.bR 7 (.tail [.r,.r]))))))))))) (.q (.q .l)))))
def ae.ow(d:au af)(i:Int)(j:Int)(k:Int)(l:Int)(m:Int)(n:Int)(gen:Int)(w:J)(Q:U0):Prop:=an (w.alloc (.cells #[i,j,k,.int .u64 l,.int .u64 m,n] 90)) λw1=>(2:Int)≠0/\an (w1.drew) λai=>∃b:U1,¬b ((Y w):af).block/\r1 ai (Y w) λbA=>r1 ai (Addr.add
 (Y w) 1) λn5=>r1 ai ((Y w).add 2) λn6=>bO ai ((Y w).add 3) λn7=>bO ai ((Y w).add 4) λn8=>r1 ai ((Y w).add 5) λn9=>bB 55 #[d] ai λn12 c=>ag b ai c/\bH
 119 #[.agg #[bA,n5,n6,.int .u64 n7,.int .u64 n8,n9],n12] c λo e=>∃p:U1,∃f:Array aa,(∀g:J,Sem.run aj (Instr.build 137
 #[(0,.int .i64 3),(1,.int .u64 gen),(2,o)]) g=.ok (.agg f) g)/\dH 56 #[.int .i64 (ar (Int.tmod gen 2)),.agg f] e λq n22 a=>ag p e a/\ak (n22 !=0) (Q n22 a) (bB 58 #[d,.int .i64 (ar (Int.tmod gen 2)),q] a λn25 h=>ak (n25 !=0) (Q n25 h) (bB 59 #[d] h λn28 r=>Q n28 r))
def ax.ow:aJ:=(.q (.q (.s (.d 12 true [0,0,0,0,4,1004002,1005001,1006005000,2007,9,510,512] [0,0,0,0,4,1004002,1005001,1006000,2007,3008] [8015,15,2023,2008] [8,3,5,1,19,1019017,1020016,1021015,23,15,15,2023] (.z 4 0 (.bR 4
 (.out 5 true (.t 6 (.bR 7 (.z 4 8 .e))))))) (.s a1 gy))))
theorem ae.H2(d:au af)(a:Int)(b:Int)(c:Int)(e:Int)(f:Int)(g:Int)(gen:Int)(w:J)(Q:U0)(h:ae.ow d a b c e f g gen w Q):aH aj 60 #[d,.agg #[a,b,c,.int .u64 e,.int .u64 f,g],.int .u64 gen] w Q:=okF (λw Q=>ae.ow d a b c e f g gen w Q) ax.ow func60 h
def ae.ox(d:au af)(f:Int)(g:Int)(h:Int)(i:Int)(j:Int)(k:Int)(l:Int)(m:Int)(n:Int)(gen:Int)(s:au af)(w:J)(Q:aa->J
 ->Prop):Prop:=an (w.alloc (.cells #[f,g,.int .u64 h] 64)) λw1=>an (w1.alloc (.cells #[i,j,k,.int .u64 l,.int .u64 m,
 n] 90)) λai=>r1 ai (Y w) λo=>hO 120 #[d,o] ai λc n7 b=>ak (n7 !=0) (Q (.tuple #[.pointer none,n7]) b) (r1 b (Y w1) λn8=>r1 b ((Y w1).add 1)
 λn9=>hO 121 #[c,s,.int .u64 (IntKind.wrap .u64 (gen+1)),n8,n9] b λp n13 a=>ak (n13 !=0) (Q (.tuple #[.pointer none,n13]) a) (r1 a (Y w) λn14=>r1 a
 ((Y w).add 1) λn15=>bO a ((Y w).add 2) λn16=>r1 a (Y w1) λn17=>r1 a ((Y w1).add 1) λn18=>r1 a ((Y w1).add 2) λn19=>bO a ((Y w1).add 3) λn20=>bO a ((Y w1).add 4)
 λn21=>r1 a ((Y w1).add 5) λn22=>bO a ((Y w1).add 3) λn23=>r1 a ((Y w1).add 5) λn24=>∃e:Array aa,Sem.run aj (Instr.build 146 #[(0,p),(1,d),(2,
 c),(3,s),(4,.agg #[n14,n15,.int .u64 n16]),(5,.agg #[n17,n18,n19,.int .u64 n20,.int .u64 n21,n22]),(6,.int .u64 gen),(7,.int .u64 n23),(10,
 n24)]) a=.ok (.agg e) a/\an (a.alloc (.cells e 146)) λq=>Q (.tuple #[.pointer (some (Y a)),U8]) q))
def ax.ox:aJ:=(.q (.q (.s a1 c4)))
theorem ae.H3(d:au af)(a:Int)(b:Int)(c:Int)(e:Int)(f:Int)(g:Int)(i:Int)(j:Int)(k:Int)(gen:Int)(s:au af)(w:J)(Q:U0)(h:ae.ox d a b c e f g i j k gen s w Q):aH aj 61 #[d,.agg #[a,b,.int .u64 c],.agg #[e,f,g,.int .u64 i,.int .u64 j,k],.int .u64 gen,s] w Q:=okF (λw Q=>ae.ox d a b c e f g i j k gen s w Q) ax.ox func61 h
def ae.ry(a:ad)(w:J)(Q:U0):Prop:=Q (.bool ((decide ((a.len:Int)>=1))&&(decide ((a.len:Int)<=24)))) w
def ax.ry:aJ:=dr
def ae.wU(t:au af)(key:ad)(w:J)(Q:U0):Prop:=bz (λb1:ao->U2=>ak (Option.isNone t) (b1 true w) (bP 122 #[key] w λn ai=>b1 (!n)
 ai)) (λ(o:ao) f=>ak o (ak (Option.isNone t) (Q (.tuple #[(),false,(1:Int)]) f) (Q (.tuple #[(),false,U8]) f)) (dH 123 #[t,key] f λc n10 b=>ak ((n10 !=0)||((c.len:Int)==0)) (Q (.tuple #[(),false,n10]) b) (∃dx:af,c.a=some dx/\((0:Int)<=(ar ((c.len:Int)-1))/\(ar ((c.len:Int)-1))<
 (c.len:Int))/\aW b ((dx.add ((ar ((c.len:Int)-1)).toNat*6)).add 1) λg=>al b (((dx.add ((ar ((c.len:Int)-1)).toNat*6)).add 1).add 1) λh=>al b (((dx.add ((ar ((c.len:Int)-1)).toNat*6)).add
 1).add 2) λi=>al b (((dx.add ((ar ((c.len:Int)-1)).toNat*6)).add 1).add 3) λj=>an (b.alloc z5) λk=>bp k (Y b) [g,h,i,j]/\(4:Nat)=4/\an (setCells k (Y b) 0 [g,h,i,j]) λd=>aW d (Y b) λp=>al d ((Y b).add 1) λq=>
 al d ((Y b).add 2) λr=>al d ((Y b).add 3) λs=>lG 124 #[.agg #[p,q,r,s],key] d
 λn24 u e=>ak (!u) (Q (.tuple #[(),false,U8]) e) (al e ((Y b).add 2) λl=>∃m:af,l.a=some m/\aO n24 l.len/\al e (m.add (n24.toNat*1)) λv=>Q (.tuple
 #[v,true,U8]) e))))
def ax.wU:aJ:=(.q (.s (.s (.z [9,10]) (.c (.s a1 (.q .l)) .l)) (.q (.s fJ (.q c4)))))
set_option maxRecDepth 100000
def ae.wV(s:au af)(w:J)(Q:U0):Prop:=∃a1:af,s=some a1/\∃bj:au af,w.cell? a1=some (bj)/\g9 128 #[bj] w λn5 n6 a=>∃dj:af,s
 =some dj/\∃b:au af,a.cell? (dj.add 3)=some (b)/\bB 129 #[b] a λn11 d=>∃n12:Int,∃c:J,Sem.run aj (Builtin.max_ #[3,3] 3 #[.int .i64 (ar ((ar (n11
 -(ar (2*n6))))-4)),U8]) d=.ok n12 c/\Q n12 c
def ax.wV:aJ:=a2
def ae.wW(t:au af)(key:ad)(w:J)(Q:U0):Prop:=bz (λb1:ao->U2=>ak (Option.isNone t) (b1 true w) (bP 122 #[key] w λl ai=>b1
 (!l) ai)) (λ(m:ao) f=>ak m (Q (.tuple #[false,(1:Int)]) f) (dH 123 #[t,key] f λb n10 d=>ak ((n10 !=0)||((b.len:Int)==0)) (Q (.tuple #[false,n10]) d) (∃dx:af,b.a=some dx/\((0:Int)<=(ar ((b.len:Int)-1))/\(ar ((b.len:Int)-1))<(b.len:Int))/\aW d ((dx.add ((ar ((b.len:Int)-1)).toNat*6)).add 1) λn=>al d (((dx.add ((ar
 ((b.len:Int)-1)).toNat*6)).add 1).add 1) λo=>al d (((dx.add ((ar ((b.len:Int)-1)).toNat*6)).add 1).add 2) λp=>al d (((dx.add ((ar ((b.len:Int)-1)).toNat*6)).add 1).add 3) λq=>mH 130
 #[.agg #[n,o,p,q],key] d λg h i j r c=>an (c.alloc z5) λk=>bp k (Y c) [g,
 h,i,j]/\(4:Nat)=4/\an (setCells k (Y c) 0 [g,h,i,j])
 λe=>ak (!r) (Q (.tuple #[false,U8]) e) (aW e (Y c) λs=>al e ((Y c).add 1) λu=>al e ((Y c).add 2) λv=>al e ((Y c).add 3) λx=>bB 131
 #[t,b,.agg #[s,u,v,x]] e λn31 y=>Q (.tuple #[.bool (n31==0),n31]) y))))
def ax.wW:aJ:=(.q (.s dj (.q (.s fJ (.q ff)))))
def ae.wX(s:au af)(keys:Int)(w:J)(Q:U0):Prop:=∃a1:af,s=some a1/\r1 w (a1.add 17) λbx=>∃a3:af,s=some a3/\st w (a3.add 17) (.int .i64 (ar (bx+keys))) λa=>
 bz (λc:U2=>∃dw:af,s=some dw/\r1 a (dw.add 16) λn7=>ak (n7==0) (∃dr:af,s=some dr/\bO a (dr.add 14) λn9=>∃eL:af,s=some eL/\st a (eL.add 15) (.int .u64 n9) λe=>c e) (c
 a)) (λd=>∃dK:af,s=some dK/\r1 d (dK.add 16) λn14=>∃c4:af,s=some c4/\st d (c4.add 16) (.int .i64 (ar (n14+1))) λf=>an (f.drew) λb=>∃ff:af,s=some ff/\¬False/\r1 b
 (ff.add 16) λn19=>∃gz:af,s=some gz/\¬False/\r1 b ((gz.add 4).add 1) λn21=>ak (decide (n19>=n21)) (bB 74 #[s] b λn24 g=>Q n24 g) (Q (0:Int) b))
def ax.wX:aJ:=(.q (.q (.s (.dS [] [0] (.q (.c .r .l))) (.q (.s (.s (.e 9 false [0,3000,0,4004,1008003] [10032] [1,3032,1,4036,1040035] (.z 9 0 .e)) (.c (.q .l) .l)) (.q .l))))))
def ae.wY(d:au af)(w:J)(Q:U0):Prop:=∃a1:af,d=some a1/\∃b:au Nat,w.cell? (a1.add 5)=some (.map b)/\Dq 133 #[.map
 b] w λa c=>bH 132 #[.func (.func a.f) a.pre a.cap] c λcG e=>Q cG e
def ax.wY:aJ:=(.q (.q .l))
def ae.rz(d:au af)(w:J)(Q:U0):Prop:=an (w.alloc gI) λw1=>∃ (i:Int->ao->Int->U2) (k:Int->ao->Int->J->Nat),i 0 false 0 w1/\∀ (bA:Int) (h:ao) (n6:
 Int) (a:J),i bA h n6 a->ak (decide (n6<2)) (bz (λj:Int->ao->U2=>dH 75 #[d,n6] a λl n12 m=>ak (n12 !=0) (zQ m w Q n12) (bP
 134 #[l,.func (.func 135) #[] #[]] m λU n=>ak (!U) (j bA h n) (Dr 136 #[n6,l] n λn31 n32 n33
 n34 n35 n36 n37 n38 n39 c=>an (c.alloc gI) λo=>bp o (Y c) [n31,n32,n33,.int .u64 n34,.int .u64 n35,n36]/\(6:Nat)=6/\an (setCells o (Y c) 0 [n31,n32,n33,.int .u64 n34,.int .u64 n35,n36]) λp=>ak (n39 !=0) (zQ p w Q n39) (bB 55 #[d] p λV b=>ak (n37 !=V) (r1 b (Y w) λq=>r1 b ((Y w).add 1)
 λr=>r1 b ((Y w).add 2) λs=>bO b ((Y w).add 3) λt=>bO b ((Y w).add 4) λu=>r1 b ((Y w).add 5) λv=>bp b (Y w) [q,r,s,.int .u64
 t,.int .u64 u,v]/\(6:Nat)=6/\an (setCells b (Y w) 0 [q,r,s,.int .u64 t,.int .u64 u,v]) λe=>r1 e (Y w) λW=>r1 e ((Y w).add 1) λ
 X=>r1 e ((Y w).add 2) λZ=>bO e ((Y w).add 3) λab=>bO e ((Y w).add 4) λac=>r1 e ((Y w).add 5) λad=>Q (.tuple #[.agg #[W,X,Z,.int .u64 ab,
 .int .u64 ac,ad],.int .u64 0,(4:Int)]) e) (ak ((!h)||(decide (n38>bA))) (r1 b (Y c) λx=>r1 b ((Y c).add 1) λy=>r1 b ((Y c).add 2) λz=>bO b ((Y c).add 3) λ
 A=>bO b ((Y c).add 4) λB=>r1 b ((Y c).add 5) λC=>bp b (Y w) [x,y,z,.int .u64 A,.int .u64 B,C]/\(6:Nat)=6/\an (setCells b (Y w) 0
 [x,y,z,.int .u64 A,.int .u64 B,C]) λag=>j n38 true ag) (j bA h b)))))) (λ(D:Int) (E:ao) F=>i D E (ar (n6+1)) F/\k D E (ar (n6+1)) F<
 k bA h n6 a)) (ak (!h) (r1 a (Y w) λG=>r1 a ((Y w).add 1) λH=>r1 a ((Y w).add 2) λI=>bO a ((Y w).add 3) λK=>bO a ((Y w).add 4) λL=>r1 a ((Y w).add 5) λM=>
 bp a (Y w) [G,H,I,.int .u64 K,.int .u64 L,M]/\(6:Nat)=6/\an (setCells a (Y w) 0 [G,H,I,.int .u64 K,.int .u64 L,M]) λf=>r1 f (Y w) λah=>r1 f ((Y w).add 1) λai=>r1 f ((Y w).add 2) λaj=>bO f ((Y w).add 3) λal=>bO f ((Y w).add 4) λam=>r1 f ((Y w).add 5) λap=>Q
 (.tuple #[.agg #[ah,ai,aj,.int .u64 al,.int .u64 am,ap],.int .u64 0,(6:Int)]) f) (r1 a (Y w) λN=>r1 a ((Y w).add 1) λO=>r1 a ((Y w).add 2) λP=>
 bO a ((Y w).add 3) λR=>bO a ((Y w).add 4) λS=>r1 a ((Y w).add 5) λT=>bp a (Y w) [N,O,P,.int .u64 R,.int .u64 S,T]/\(6:Nat)=6/\an
 (setCells a (Y w) 0 [N,O,P,.int .u64 R,.int .u64 S,T]) λg=>r1 g (Y w) λaq=>r1 g ((Y w).add 1) λav=>r1 g ((Y w).add 2) λaw=>bO g
 ((Y w).add 3) λax=>bO g ((Y w).add 4) λay=>r1 g ((Y w).add 5) λaz=>Q (.tuple #[.agg #[aq,av,aw,.int .u64 ax,.int .u64 ay,az],.int .u64
 bA,U8]) g))
def ax.rz:aJ:=(.q (.q (.s (.q (.bE (.loop [(3,(.int .u64)),(5,.bool),(12,(.int .i64))] [0,2] (.q (.s (.c .l .l) (.s (.dS [(3,(.int .u64)),(5,.bool)] [0,2,12] (.bE (.q (.q (.s a1 (.s (.q (.c .l .l)) (.q (.bE (.q
 (.c (.q .l) (.q (.c (.q .l) (.s (.z [9,11]) (.c .r .l)))))))))))))) .r)))))) (.s a1 (.q .l)))))
def ae.rA(d:au af)(no:Int)(w:J)(Q:U0):Prop:=dH 75 #[d,no] w λi bA w1=>ak (bA !=0) (Q (.tuple #[.pointer none,bA]) w1) (rf
 137 #[no,i] w1 λn7 n8 e n10 a=>an (a.alloc ou) λf=>bp f (Y a) [n7,.int .u64 n8,e]/\(3:Nat)=3/\an (setCells f (Y a) 0 [n7,.int .u64 n8,e]) λb=>ak (n10 !=0) (Q (.tuple #[.pointer none,n10]) b) (r1 b (Y a) λn13=>ak (n13 !=4) (Q (.tuple #[.pointer none,(4:Int)]) b) (an (b.drew) λc=>∃
 g:U1,¬g ((Y a).add 2).block/\al c ((Y a).add 2) λj=>bB 55 #[d] c λn19 h=>ag g c h/\hO 138 #[j,n19] h λk
 n23 l=>Q (.tuple #[k,n23]) l)))
def ax.rA:aJ:=(.q (.q (.s a1 (.q (.s a1 (.s a1 (.s (.d 7 true [0,1,0,3,1003001,5,5,507,508] [0,1,0,3,1003001,5,3004] [7030,2004] [9,31,1,33,1033031,35,3034] (.z 3 0 (.bR 3 (.out 4 false (.t 5 (.t 6 (.tail [.r,.r])))))))
 .l)))))))
def ae.wZ(s:au af)(keys:Int)(w:J)(Q:U0):Prop:=∃a1:af,s=some a1/\∃bj:au af,w.cell? a1=some (bj)/\tq 139 #[bj] w λh n6 n7 a
 =>ak (n7==3) (Q n7 a) (∃dr:af,s=some dr/\r1 a ((dr.add 7).add 2) λn9=>an (a.alloc (.cells #[U8,(1:Int),n9] 3)) λi=>∃b:ad,∃d:J,Sem.run aj
 (Builtin.append_ #[72,72] 72 #[h,.slice (some (Y a)) 3 3]) i=.ok b d/\fI 140 #[b] d λc=>bz (λ
 e:ao->U2=>ak ((n7 !=0)||(n6 !=keys)) (e true c) (∃fT:af,s=some fT/\∃f:au af,c.cell? (fT.add 3)=some (f)/\bH 142 #[f] c λj k=>bP
 141 #[b,j] k λl m=>e (!l) m)) (λ(n:ao) g=>ak n (Q (4:Int) g) (Q (0:Int) g)))
def ax.wZ:aJ:=(.q (.q (.s a1 (.q (.q (.s (.s (.z [9,11,12,25]) (.c (.q .l) .l)) (.q .l)))))))
def ae.w2(t:au af)(key:ad)(val:ad)(w:J)(Q:U0):Prop:=bz (λb1:ao->U2=>ak (Option.isNone t) (b1 true w) (bP 122 #[key] w λv ai
 =>b1 (!v) ai)) (λ(x:ao) l=>ak (x||(decide ((val.len:Int)>24))) (Q (1:Int) l) (an (l.drew) λi=>∃j:U1,∃a9:af,t=some a9/\¬j (a9.add 1).block/\∃m:au af,i.cell? (a9.add 1)=
 some (m)/\∃dx:af,t=some dx/\¬j (dx.add 4).block/\r1 i (dx.add 4) λn12=>bB 129 #[m] i λn15 k=>ag j i k/\ak (decide (n15<(ar ((ar (2*n12))+3)))) (Q (2:Int)
 k) (dH 123 #[t,key] k λb n19 c=>ak (n19 !=0) (Q n19 c) (an (c.alloc z5) λn=>bp n (Y c) [true,(),(),()]/\(4:Nat)=4/\an (setCells n (Y c) 0 [true,(),(),()]) λe=>bz (λo:U2=>ak (decide ((b.len:Int)>0)) (∃g:af,b.a=some g/\((0:Int)<=
 (ar ((b.len:Int)-1))/\(ar ((b.len:Int)-1))<(b.len:Int))/\aW e ((g.add ((ar ((b.len:Int)-1)).toNat*6)).add 1) λy=>al e (((g.add ((ar ((b.len:Int)-1)).toNat*6)).add 1).add 1) λz=>al e
 (((g.add ((ar ((b.len:Int)-1)).toNat*6)).add 1).add 2) λA=>al e (((g.add ((ar ((b.len:Int)-1)).toNat*6)).add 1).add 3) λB=>pH e c y z A B o) (o e)) (λh=>aW h (Y c) λ
 C=>al h ((Y c).add 1) λD=>al h ((Y c).add 2) λE=>al h ((Y c).add 3) λF=>mH 143 #[.agg #[C,D,E,F],key,val] h λp q r s G d=>an (d.alloc z5) λu=>bp u (Y d) [p,q,r,
 s]/\(4:Nat)=4/\an (setCells u (Y d) 0 [p,q,r,s]) λf=>ak (!G) (Q (4:Int) f) (aW f (Y d)
 λH=>al f ((Y d).add 1) λI=>al f ((Y d).add 2) λK=>al f ((Y d).add 3) λL=>bB 131 #[t,b,.agg #[H,I,K,L]] f λM N=>Q M N))))))
def ax.w2:aJ:=(.q (.s (.bE (.s (.z [9,10,12,11]) (.c (.q .l) (.s (.d 11 true [0,4000,0,5005,1010004,1011004] [0,4000,0,5005,1010004,12] [12026,26] [1,4026,1,5031,1036030,38] (.z 4 0 (.z 6 5 (.bR 4 (.tail [.r,.r]))))) (.c
 (.q .l) .l))))) (.q (.s a1 (.q (.s (.dS [] [0,1,2,7,9] (.q (.c .r .l))) c4))))))
def ae.w3(s:au af)(w:J)(Q:U0):Prop:=∃a1:af,s=some a1/\∃bj:au af,w.cell? (a1.add 3)=some (bj)/\g9 144 #[bj] w λn5 n6 x=>
 ak (n6 !=0) (bB 65 #[s,n6] x λn9 al=>Q n9 al) (an (x.drew) λi=>∃dx:af,s=some dx/\¬False/\∃y:au af,i.cell? (dx.add 3)=some (y)/\∃dK
 :af,s=some dK/\¬False/\r1 i ((dK.add 7).add 2) λn14=>bB 145 #[y,n14] i λn17 am=>an (am.drew) λd=>∃e:U1,∃gz:af,s=some gz/\¬e (gz.add
 13).block/\bO d (gz.add 13) λn21=>∃j:af,s=some j/\¬e (j.add 3).block/\∃z:au af,d.cell? (j.add 3)=some (z)/\bH 57 #[z] d λao k=>ag e d k
 /\∃A:Array aa,(∀B:J,Sem.run aj (Instr.build 137 #[(0,.int .i64 4),(1,.int .u64 (IntKind.wrap .u64 (n21+1))),(2,ao)]) B=.ok (.agg A) B)/\dH 56 #[n5,.agg A] k λap n32 f=>ag e k f/\ak (n32 !=0) (bB 65 #[s,n32] f λn35 aq=>Q n35 aq) (∃C:af,s=some C/\∃D:au af,f.cell? (C.add
 2)=some (D)/\bB 146 #[D,n5,ap] f λn40 l=>ak (n40 !=0) (bB 65 #[s,n40] l λar av=>Q ar av) (∃
 E:af,s=some E/\∃F:au af,l.cell? (E.add 2)=some (F)/\bB 147 #[F] l λG m=>ak (G !=0) (bB 65 #[s,G] m λaw ax=>Q
 aw ax) (∃H:af,s=some H/\∃I:au af,m.cell? H=some (I)/\g9 128 #[I] m λay az aA=>an (aA.drew) λa=>∃g:U1,∃n:af,s=some
 n/\¬g (n.add 14).block/\bO a (n.add 14) λaB=>∃o:af,s=some o/\¬g ((o.add 7).add 4).block/\bO a ((o.add 7).add 4) λaC=>∃p:af,s=some p/\¬g (p.add 17).block/\r1 a (p.add 17)
 λaD=>∃h:Array aa,(∀K:J,Sem.run aj (Instr.build 90 #[(0,ay),(1,az),(2,n5),(3,.int .u64 aB),(4,.int .u64 (IntKind.wrap .u64 (aC+1))),(5,aD)])
 K=.ok (.agg h) K)/\an (a.alloc gI) λq=>ag g a q/\bp q (Y a) (Array.toList h)/\Array.size h=6/\an (setCells q (Y a) 0 (Array.toList h)) λaE=>an (aE.drew) λb=>∃L:af,s=
 some L/\¬False/\∃M:au af,b.cell? (L.add 1)=some (M)/\¬False/\r1 b (Y a) λaF=>r1 b ((Y a).add 1) λaG=>r1 b ((Y a).add 2) λaH=>bO b ((Y a).add 3) λ
 aI=>bO b ((Y a).add 4) λaJ=>r1 b ((Y a).add 5) λaK=>∃N:af,s=some N/\¬False/\bO b (N.add 13) λaL=>bB 60 #[M,.agg #[aF,aG,aH,.int .u64 aI,.int .u64 aJ,aK],.int .u64 (IntKind.wrap .u64 (aL+1))] b λO r=>ak (O !=0) (bB 65 #[s,O] r λaM aN=>Q aM aN) (∃P:af,s=
 some P/\∃R:au af,r.cell? (P.add 3)=some (R)/\fI 112 #[R] r λaO=>an (aO.drew) λc=>∃S:U1,¬S ((Y a):af).block/\r1 c (Y a) λT=>r1
 c ((Y a).add 1) λU=>r1 c ((Y a).add 2) λV=>bO c ((Y a).add 3) λW=>bO c ((Y a).add 4) λX=>r1 c ((Y a).add 5) λZ=>∃t:af,s=some t/\¬S (t.add
 13).block/\bO c (t.add 13) λaP=>∃u:af,s=some u/\bp c (u.add 7) [T,U,V,.int .u64 W,.int .u64 X,Z]/\(6:Nat)=6/\an (setCells c (u.add 7) 0
 [T,U,V,.int .u64 W,.int .u64 X,Z]) λaQ=>∃ab:af,s=some ab/\st aQ (ab.add 13) (.int .u64 (IntKind.wrap .u64 (aP+1))) λaR=>∃ac:af,s=some ac
 /\st aR (ac.add 16) (0:Int) λaS=>an (aS.drew) λv=>∃ad:af,s=some ad/\¬False/\∃ah:au af,v.cell? ad=some (ah)/\∃ai:af,s=some ai/\¬False/\bO v (ai.add
 13) λaT=>fI 148 #[ah,.int .u64 (IntKind.wrap .u64 (aT+1))] v λaU=>Q (0:Int) aU)))))
def ax.w3:aJ:=(.q (.q (.s a1 (.s (.e 9 false [0,3000,0,4004,1008003] [10025] [1,3025,1,4029,1033028] (.z 9 0 .e)) (.s (.d 17 true [0,0,4001,0,4006,1010005,1011010000,2012,14,515,517]
 [0,0,4001,0,4006,1010005,1011000,2012,3013] [13036,36,2049,6,5] [4,1,4037,1,4042,1046041,1047036,49,36,36,2049] (.z 10 0 (.bR 10 (.t 11 (.bR 12 (.z 4 13 .e)))))) (.s a1 (.s (.q a1) (.s (.q a1) (.q (.s (.d 19 true
 [0,0,0,0,3003,0,5007,0,3013,1000000069703,0,519] [0,0,0,0,3003,0,5007,0,3013,1000000069703,0,1018017] [18086,11,0] [2008,4,1,3089,1,5093,1,3099,5393008409894303832330853486592,0,1103010] (.z 18 0 (.bR 18 .e))) (.s (.s (.d 10 false
 [0,3000,0,0,4005,1009004003,511] [0,3000,0,0,4005,1009004003,11] [11104,12] [1,3104,11,1,4109,1113108107,115] (.z 10 0 (.tail [.r,.r]))) a1) (.q (.s (.d 15 true
 [0,0,0,0,0,4004,1007003000,1000000000649,1000000001161,1000000004091,1000000008187,1000000012283,515,516,1000000098303] [0,0,0,0,0,4004,1,10,1010003,2,13,1013008,3,2015] [11125,0,2136,0,2138,0]
 [1,1,1,11,1,4129,126,135,1135128,127,137,1137133,128,2138] (.z 11 0 (.out 11 false (.t 12 (.t 13 (.out 14 false (.tail [.r,.r,.r]))))))) (.s (.e 9 false [0,3000,0,4004,1008003] [10140] [1,3140,1,4144,1148143] (.z 9 0 .e)) (.q
 .l)))))))))))))))
def ae.w4(d:au af)(i:Int)(w:J)(Q:U0):Prop:=bP 85 #[d,i] w λf w1=>ak (!f) (Q (.tuple #[(),(1:Int)]) w1) (∃a4:af,d=
 some a4/\bP 117 #[.pointer (some a4),(1:Int)] w1 λg c=>ak g (Q (.tuple #[(),(3:Int)]) c) (l2 118 #[d,i] c λb a=>an (a.alloc vX) λe=>bp
 e (Y a) (Array.toList b)/\Array.size b=256/\an (setCells e (Y a) 0 (Array.toList b)) λh=>Q (.tuple #[.slice (a7 (some (Y a)) 1 0 256) (256-0) (256-0),U8]) h))
def ax.w4:aJ:=(.q (.s (.bE gm) (.q (.q .l))))
def ae.w5(d:au af)(i:Int)(w:J)(Q:U0):Prop:=bz (λb1:ao->U2=>ak ((!(Option.isNone d))&&(decide (i>=0))) (∃a2:af,d=some a2/\al w (a2.add 4) λa=>b1
 (decide (i<(a.len:Int))) w) (b1 false w)) (λ(b:ao) c=>Q b c)
def ax.w5:aJ:=dx
def ae.tE(a:au af)(service:Int)(p:Array aa)(w:J)(Q:U0):Prop:=an (w.alloc (.cells p 55)) λw1=>∃c:O aa,bf w1 (Y w) 0 18=some c/\ik
 49 #[a,service,.agg c.toArray] w1 λe f b=>ak (!f) (Q (.tuple #[false,(1:Int)]) b) (∃dj:af,a=some dj/\∃d:au af,b.cell? dj=some (d)/\kD
 23 #[d,e] b λg n12 h=>Q (.tuple #[g,n12]) h)
def ax.tE:aJ:=(.q c4)
theorem ae.H4(a:au af)(service:Int)(p:Array aa)(w:J)(Q:U0)(h:ae.tE a service p w Q):aH aj 88 #[a,service,.agg p] w Q:=okF (λw Q=>ae.tE a service p w Q) ax.tE func88 h
def ae.w6(a:au af)(service:Int)(backend:Int)(w:J)(Q:U0):Prop:=an (w.alloc (.cells #[backend] 3)) λw1=>dH 163 #[a,service]
 w1 λb n5 ai=>ak (n5 !=0) (Q (.tuple #[U8,n5]) ai) (g9 104 #[a,b,.func (.func 164) #[] #[.pointer (some (Y w))]] ai λn8 n9 c=>Q (.tuple
 #[n8,n9]) c)
def ax.w6:aJ:=(.q c4)
def ae.w7(a:au af)(service:Int)(w:J)(Q:U0):Prop:=dH 163 #[a,service] w λe bA w1=>ak (bA !=0) (Q (.tuple #[(),bA])
 w1) (∃ (f:ad->Int->U2) (l:ad->Int->J->Nat),f ⟨none,0,0⟩ 0 w1/\∀ (c:ad) (n8:Int) (b:J),f c n8 b->ak (decide (n8<(e.len:Int))) (∃eL:af,e.a=some eL/\aO n8 e.len/\al b (eL.add
 (n8.toNat*2)) λm=>al b ((eL.add (n8.toNat*2)).add 1) λn=>an (b.alloc vY) λo=>bp o (Y b) [m,n]/\(2:Nat)=2/\an (setCells o (Y b) 0
 [m,n]) λg=>al g (Y b) λt=>al g ((Y b).add 1) λu=>h4 51 #[t,u] g λh v d=>an
 (d.alloc fk) λp=>bp p (Y d) (Array.toList h)/\Array.size h=21/\an (setCells p (Y d) 0 (Array.toList h)) λi=>ak (!v) (Q (.tuple #[(),(4:Int)]) i) (∃q:O aa,bf i
 (Y d) 0 21=some q/\∃r:ad,∃s:J,Sem.run aj (Instr.buildSlice 22 1 #[(0,.agg q.toArray)]) i=.ok r s/\∃j:ad,∃k:J,Sem.run aj
 (Builtin.append_ #[22,22] 22 #[c,r]) s=.ok j k/\f j (ar (n8+1)) k/\l j (ar (n8+1)) k<
 l c n8 b)) (Q (.tuple #[c,U8]) b))
def ax.w7:aJ:=(.q (.q (.s a1 (.q (.s (.q (.bE (.loop [(8,.slice),(24,(.int .i64))] [22,23] (.q (.s (.c .l .l) (.s (.bE (.q (.q (.s a1 .r)))) .r)))))) (.q .l))))))
def ae.pO(t:Array aa)(w:J)(Q:U0):Prop:=an (w.alloc (.cells t 57)) λw1=>r1 w1 (Y w) λbx=>∃b:O aa,bf w1 ((Y w).add 1) 0 18=some b/\ik 97
 #[bx,.agg b.toArray] w1 λi d a=>bz (λc:ao->U2=>ak d (r1 a ((Y w).add 19) λn9=>bP 165 #[n9] a λe f=>c e f) (c false a)) (λ(g:ao) h=>Q g h)
def ax.pO:aJ:=(.q (.q (.s (.z [6,10]) .l)))
theorem ae.H5(t:Array aa)(w:J)(Q:U0)(h:ae.pO t w Q):aH aj 96 #[.agg t] w Q:=okF (λw Q=>ae.pO t w Q) ax.pO func96 h
def ae.mI(service:Int)(p:Array aa)(w:J)(Q:U0):Prop:=an (w.alloc (.cells p 55)) λw1=>∃m:O aa,bf w1 (Y w) 0 17=some m/\r1 w1 ((Y w).add 17) λB=>h4
 166 #[.agg m.toArray,B] w1 λi C d=>an (d.alloc z9) λn=>bp n (Y d) (Array.toList i)/\Array.size i=18/\an (setCells n (Y d) 0 (Array.toList i)) λe=>bz (λo:ao->U2
 =>ak (!C) (o true e) (∃q:O aa,bf e (Y d) 0 18=some q/\∃r:O aa,bf e (Y w) 0 18=some r/\∃s:ao,jo aj 55 q.toArray r.toArray s/\o (!s) e)) (λ(D
 :ao) t=>bz (λu:ao->U2=>ak D (u true t) (bP 165 #[service] t λE F=>u (!E) F)) (λ(G:ao) f=>ak G (Q (.tuple #[(),false]) f) (bz (λv
 :Int->U2=>aW f (Y w) λH=>ak H (v 6 f) (v 4 f)) (λ(n24:Int) I=>an (I.drew) λb=>∃a:U1,¬a ((Y w).add 17).block/\r1 b ((Y w).add 17) λn28=>¬a ((Y w):
 af).block/\∃g:O aa,bf b (Y w) 0 17=some g/\(bH 115 #[(),.int .u64 (IntKind.wrap .u64 service),(2:Int)] b λx c=>ag a b c/\(an (c.alloc (.cells #[.int .u8 n24,.int
 .u8 (IntKind.wrap .u8 n28)] 5)) λj=>ag a c j/\bH 167 #[.agg g.toArray] j λK y=>ag a j y/\wg y x c K Q)/\(bH 167 #[.agg g.toArray] c λL h=>ag a c h
 /\an (h.alloc (.cells #[.int .u8 n24,.int .u8 (IntKind.wrap .u8 n28)] 5)) λz=>ag a h z/\wg z x h L Q))/\(an (b.alloc (.cells #[.int .u8 n24,.int .u8 (IntKind.wrap .u8 n28)] 5)) λk=>ag a
 b k/\bH 115 #[(),.int .u64 (IntKind.wrap .u64 service),(2:Int)] k λM l=>ag a k l/\bH 167 #[.agg g.toArray] l λN A=>ag a l A/\wg A M b N Q)))))
def ax.mI:aJ:=(.q (.q (.s (.s (.z [9,10,12,10]) (.c (.q .l) .l)) (.q (.s (.dS [(8,(.int .u8))] [0,3] (.q (.c .r .l))) (.s (.d 11 true [0,1,2,0,0,2004,1006003,0,9,1009002,1010007002,1011010,513,514]
 [0,1,2,0,0,2004,1006003,0,2008,1010007002,2011,0] [13032,2004] [1,2032,9,4,2036,1038035,4,2040,1042039034,2043,0] (.t 0 (.t 1 (.z 4 3 (.t 8 (.t 9 (.two 2 (.two 7 (.bR 10 (.tail [.r,.r,.r,.r])) 10 (.bR 7 (.tail [.r,.r,.r,.r]))) 7
 (.bR 2 (.bR 10 (.tail [.r,.r,.r,.r])))))))))) .l))))))
theorem ae.H6(service:Int)(p:Array aa)(w:J)(Q:U0)(h:ae.mI service p w Q):aH aj 97 #[service,.agg p] w Q:=okF (λw Q=>ae.mI service p w Q) ax.mI func97 h
def ae.rB(backend:Int)(a:Int)(w:J)(Q:U0):Prop:=bP 165 #[backend] w λb w1=>ak (!b) (Q (.tuple #[(),false]) w1) (bH 115 #[(),
 .int .u64 (IntKind.wrap .u64 backend),(2:Int)] w1 λc d=>bH 115 #[c,.int .u64 a,(8:Int)] d λe f=>Q (.tuple #[e,true]) f)
def ax.rB:aJ:=c4
def ae.w8(s:au af)(a:ad)(to:ad)(most:Int)(w:J)(Q:U0):Prop:=ak (Option.isNone s) (Q (.tuple #[(),(1:Int)]) w) (∃a1:af,s=some a1/\∃bj:au
 af,w.cell? a1=some (bj)/\dH 169 #[bj,a,to,most] w λb n6 c=>Q (.tuple #[b,n6]) c)
def ax.w8:aJ:=c4
def ae.oy(parts:ad)(w:J)(Q:U0):Prop:=∃ (d:ad->Int->U2) (f:ad->Int->J->Nat),d ⟨none,0,0⟩ 0 w/\∀ (c:ad) (bA:Int) (b:J),d c bA b->ak (decide (bA<
 (parts.len:Int))) (∃dw:af,parts.a=some dw/\aO bA parts.len/\al b (dw.add (bA.toNat*1)) λg=>∃cG:ad,∃e:J,Sem.run aj (Builtin.append_ #[39,39] 39 #[c,g]) b=.ok cG e/\d cG (ar (bA+1)) e/\f cG (ar (bA+1)) e<f c bA b) (Q c b)
def ax.oy:aJ:=(.q (.q (.s (.q (.bE (.loop [(3,.slice),(8,(.int .i64))] [6,7] a3))) (.q .l))))
theorem ae.H7(parts:ad)(w:J)(Q:U0)(h:ae.oy parts w Q):aH aj 103 #[parts] w Q:=okF (λw Q=>ae.oy parts w Q) ax.oy func103 h
def ae.w9(a:au af)(l:ad)(choose:hM)(w:J)(Q:U0):Prop:=∃ (e:Int->Int->U2) (m:Int->Int->J->Nat),e 0 0 w/\∀ (c:Int) (bA:Int) (b:J),e c bA
 b->ak (decide (bA<(l.len:Int))) (bz (λn:Int->U2=>∃dj:af,l.a=some dj/\aO bA l.len/\al b (dj.add (bA.toNat*2)) λcG=>al b ((dj.add (bA.toNat*2)).add 1) λo=>an (b.alloc vY) λp=>
 bp p (Y b) [cG,o]/\(2:Nat)=2/\an (setCells p (Y b) 0 [cG,o]) λg=>al g (Y b) λz=>al g ((Y b).add 1)
 λA=>h4 51 #[z,A] g λh B d=>an (d.alloc fk) λq=>bp q (Y d) (Array.toList h)/\Array.size h=21/\an (setCells q (Y d) 0
 (Array.toList h)) λi=>ak (!B) (Q (.tuple #[U8,(4:Int)]) i) (∃r:O aa,bf i (Y d) 0 21=some r/\hY aj choose.f/\Calls aj choose.f (choose.pre++ #[.agg r.toArray]++
 choose.cap) i λC s=>∃t:ao,C=.returned t/\ak (!t) (n c s) (an (s.drew) λj=>∃u:U1,∃k:af,a=some k/\¬u k.block/\∃v:au af,j.cell? k=some
 (v)/\¬u ((Y b):af).block/\al j (Y b) λD=>kD 23 #[v,D] j λE n32 x=>ak (n32 !=0) (Q (.tuple #[U8,n32]) x) (n (ar
 (c+1)) x)))) (λ(n33:Int) y=>e n33 (ar (bA+1)) y/\m n33 (ar (bA+1)) y<m c bA b)) (Q (.tuple #[c,U8]) b)
def ax.w9:aJ:=(.q (.q (.s (.q (.bE (.loop [(8,(.int .i64)),(17,(.int .i64))] [0,2,15,16] (.q (.s (.c .l .l) (.s (.dS [(8,(.int .i64))] [0,2,15,16,17] (.bE (.q (.q (.s a1 (.s (.q (.c .l .l)) (.s (.s (.d 11
 true [0,3000,0,5,1005003,2006,8,509,511] [0,3000,0,5,1005003,2006,3007] [7036,36,2043,2013] [1,3036,11,41,1041039,43,36,36,2043] (.z 6 0 (.out 6 false (.z 4 7 .e)))) a1) .r))))))) .r)))))) (.q .l))))
def ae.tF(t:Array aa)(x:af)(w:J)(Q:U0):Prop:=an (w.alloc (.cells t 57)) λw1=>bO w1 ((Y w).add 20) λbx=>bO w1 x λa=>Q (.bool (decide (bx<=a))) w1
def ax.tF:aJ:=(.q (.q .l))
theorem ae.H8(t:Array aa)(x:af)(w:J)(Q:U0)(h:ae.tF t x w Q):aH aj 105 #[.agg t,.pointer (some x)] w Q:=okF (λw Q=>ae.tF t x w Q) ax.tF func105 h
def ae.kE(b:ad)(i:Int)(size:Int)(w:J)(Q:U0):Prop:=ik 170 #[b,i,size] w λd j w1=>bz (λf:ao->U2=>ak (!j) (f
 true w1) (bP 171 #[size] w1 λk l=>f (!k) l)) (λ(m:ao) g=>ak m (Q (.tuple #[.int .u64 0,false]) g) (∃ (e:Int->Int->U2) (h:Int->Int->J->Nat),e 0 0 g/\∀ (n13:
 Int) (n14:Int) (c:J),e n13 n14 c->ak (decide (n14<(d.len:Int))) (∃fT:af,d.a=some fT/\aO n14 d.len/\cq c (fT.add (n14.toNat*1)) λn17=>(0:Int)<=8/\e (oa .u64 (IntKind.wrap .u64 (n13*2^
 (min (Int.toNat 8) 64))) (IntKind.wrap .u64 n17)) (ar (n14+1)) c/\h (oa .u64 (IntKind.wrap .u64 (n13*2^(min (Int.toNat 8) 64))) (IntKind.wrap .u64 n17)) (ar (n14+1)) c<h n13 n14 c) (Q (.tuple #[.int .u64 n13,true]) c)))
def ax.kE:aJ:=(.q (.q (.s dj (.q (.s (.q (.bE (.loop [(10,(.int .u64)),(29,(.int .i64))] [27,28] a3))) (.q .l))))))
def ae.rC(b:ad)(w:J)(Q:U0):Prop:=an (w.alloc z4) λw1=>h4 172 #[b] w1 λe3 d ai=>bp ai (Y w) (Array.toList e3)/\Array.size e3=17/\an (setCells ai (Y w) 0
 (Array.toList e3)) λa=>∃c:O aa,bf a (Y w) 0 17=some c/\Q (.tuple #[.agg c.toArray,d]) a
def ax.rC:aJ:=(.q (.q .l))
def ae.w_(n:Int)(w:J)(Q:U0):Prop:=Q (.bool ((decide (n>=1))&&(decide (n<=1600)))) w
def ax.w_:aJ:=(.q a4)
def ae.xa(n:Int)(w:J)(Q:U0):Prop:=(8:Int)≠0/\Q (.int .i64 (ar (Int.tdiv (ar ((ar (n+8))-1)) 8))) w
def ax.xa:aJ:=(.q (.q .l))
def ae.xb(s:ad)(no:Int)(w:J)(Q:U0):Prop:=an (w.drew) λw1=>(8:Int)≠0/\∃a2:af,s.a=some a2/\aO (ar (Int.tdiv no 8)) s.len/\¬False/\cq w1 (a2.add ((ar (Int.tdiv no
 8)).toNat*1)) λb=>(8:Int)≠0/\(0:Int)<=(Int.tmod no 8)/\∃a4:af,s.a=some a4/\aO (ar (Int.tdiv no 8)) s.len/\st w1 (a4.add ((ar (Int.tdiv no 8)).toNat*1)) (.int .u8 (oa .u8 b (IntKind.wrap .u8 (1*2^(min
 ((Int.tmod no 8).toNat) 8))))) λc=>Q (.tuple #[]) c
def ax.xb:aJ:=(.d 8 false [0,0,2,1002000,4,0,2005,1007004,509,510] [0,0,2,1002000,4,0,2005,1007004,1002000,1009008] [10004,0] [1,2,6,1006004,8,2,2009,1011008,1006004,1013012] (.z 8 0 (.tail [.r,.r,.r])))
def ae.tG(s:au af)(w:J)(Q:U0):Prop:=ak (!(Option.isNone s)) (∃a1:af,s=some a1/\al w (a1.add 1) λs2=>bH 173 #[s2] w λ
 a b=>∃dw:af,s=some dw/\st b (dw.add 2) a λc=>Q (.tuple #[]) c) (Q (.tuple #[]) w)
def ax.tG:aJ:=(.q (.c .r .l))
theorem ae.H9(s:au af)(w:J)(Q:U0)(h:ae.tG s w Q):aH aj 112 #[s] w Q:=okF (λw Q=>ae.tG s w Q) ax.tG func112 h
def ae.xc(no:Int)(w:J)(Q:U0):Prop:=Q (.bool ((decide (no>=0))&&(decide (no<1600)))) w
def ax.xc:aJ:=(.q a4)
theorem ae.Dw(no:Int)(w:J)(Q:U0)(h:ae.xc no w Q):aH aj 113 #[no] w Q:=okF (λw Q=>ae.xc no w Q) ax.xc func113 h
def ae.xd(a:Int)(w:J)(Q:U0):Prop:=Q (.bool ((decide (a>=1))&&(decide (a<=4)))) w
def ax.xd:aJ:=(.q a4)
theorem ae.Dx(a:Int)(w:J)(Q:U0)(h:ae.xd a w Q):aH aj 114 #[a] w Q:=okF (λw Q=>ae.xd a w Q) ax.xd func114 h
def ae.hA(b:ad)(n:Int)(size:Int)(w:J)(Q:U0):Prop:=bH 46 #[b] w λg w1=>bP 171 #[size] w1 λj h=>ak (!j) (Q g h) (∃ (d:ad->Int->U2) (i:ad->Int->J->Nat),d g (ar (size-1)) h/\∀ (c:ad) (n10:Int) (a:J),d c n10 a->ak (decide (n10>=0)) ((0:Int)<=(ar (8*n10))/\an (a.alloc
 (.cells #[.int .u8 (IntKind.wrap .u8 (Int.fdiv n (2^(min ((ar (8*n10)).toNat) 64))))] 5)) λk=>∃e:ad,∃f:J,Sem.run aj (Builtin.append_ #[39,39] 39 #[c,.slice (some (Y a)) 1 1]) k=.ok e f/\d e (ar (n10-1)) f/\i e (ar (n10-1)) f<i c n10 a) (Q c a))
def ax.hA:aJ:=(.q (.q (.s a1 (.s (.q (.bE (.loop [(7,.slice),(8,(.int .i64))] [1] (.s (.q (.c .l .l)) (.s (.bE .r) .r))))) (.q .l)))))
def ae.pP(b:ad)(w:J)(Q:U0):Prop:=an (w.drew) λw1=>((0:Int)<=20/\20<=(b.cap:Int))/\((0:Int)<=24/\24<=(b.len:Int))/\an (w1.alloc (.cells #[.slice (a7 b.a 1 0 b.cap)
 ((Int.toNat 20)-0) (b.cap-0),.slice (a7 b.a 1 (Int.toNat 24) b.cap) (b.len-(Int.toNat 24)) (b.cap-(Int.toNat 24))] 39)) λai=>ot 174 #[.slice (some (Y w1)) 2 2] ai λn5 c=>Q (.int .u32 n5) c
def ax.pP:aJ:=(.q (.s (.d 4 false [0,1,0,3,1003001,5,506] [0,1,0,3,1003001,2004] [6003,3] [1,4,1,6,1006004,2007] (.z 4 0 (.tail [.r,.r,.r]))) .l))
def ae.xe(f:au af)(a:Int)(w:J)(Q:U0):Prop:=∃a1:af,f=some a1/\((0:Int)<=a/\a<((4:Nat):Int))/\r1 w (Addr.add a1 (a.toNat*1)) λbx=>ak (bx==
 (-1)) (Q false w) (ak (bx==0) (∃a3:af,f=some a3/\((0:Int)<=a/\a<((4:Nat):Int))/\st w (Addr.add a3 (a.toNat*1)) (.int .i64 (-1)) λc=>Q true c) (an (w.drew) λb=>∃dw:af,f
 =some dw/\((0:Int)<=a/\a<((4:Nat):Int))/\¬False/\r1 b (Addr.add dw (a.toNat*1)) λn7=>∃dr:af,f=some dr/\((0:Int)<=a/\a<((4:Nat):Int))/\st b (Addr.add dr (a.toNat*1))
 (.int .i64 (ar (n7-1))) λd=>Q false d))
def ax.xe:aJ:=(.q (.s (.q (.bE (.q (.c (.q .l) (.q eL))))) (.s (.d 7 false [0,0,1,1002001,2003,1,507,1000000000191] [0,0,1,1002001,2003,1,1006001,1007005] [8018,0] [1,2,19,1020019,2021,19,1024019,1025023] (.z 7 0 (.tail
 [.r,.r]))) (.q .l))))
def ae.xf(d:au af)(i:Int)(w:J)(Q:U0):Prop:=an (w.alloc vX) λw1=>∃a2:af,d=some a2/\∃e:au Nat,w1.cell? (a2.add 5)=some (.map e)/\∃b:ad,∃c:J,
 Sem.run aj (Instr.lookup 125 (.map e) i false) w1=.ok b c/\ak (decide ((b.len:Int)>0)) (∃dw:af,b.a=some dw/\((0:Int)<=(ar ((b.len:Int)-1))/\(ar
 ((b.len:Int)-1))<(b.len:Int))/\∃f:O aa,bf c (dw.add ((ar ((b.len:Int)-1)).toNat*256)) 0 256=some f/\z_ c w f Q) (∃eL:af,d=some eL/\al c (eL.add 4) λg=>jb g i c 256 λh=>
 z_ c w h Q)
def ax.xf:aJ:=(.q gy)
def ae.rD(f:Int)(g:Int)(h:Int)(i:Int)(j:Int)(k:Int)(l:Int)(w:J)(Q:U0):Prop:=an (w.alloc (.cells #[f,g,h,.int .u64 i,.int .u64 j,k] 90)) λw1=>r1 w1 (Y w) λbx=>bH 115 #[(),.int .u64 (IntKind.wrap .u64 bx),(4:Int)] w1 λm a=>r1 a ((Y w).add 1)
 λn6=>bH 115 #[m,.int .u64 (IntKind.wrap .u64 n6),(1:Int)] a λn b=>r1 b ((Y w).add 2) λn10=>bH 115 #[n,.int .u64 (IntKind.wrap .u64 n10),(4:Int)] b λo p=>bH 115 #[o,.int .u64 (IntKind.wrap .u64 l),(4:Int)] p λq c=>bO c ((Y w).add 3) λn17=>bH 115 #[q,.int .u64 n17,
 .int .i64 8] c λr d=>bO d ((Y w).add 4) λn21=>bH 115 #[r,.int .u64 n21,(8:Int)] d λs e=>r1 e ((Y w).add 5) λn25=>bH 115 #[s,.int .u64 (IntKind.wrap .u64 n25),(4:Int)] e λt u=>Q t u
def ax.rD:aJ:=(.q (.q (.q (.q (.q a2)))))
def ae.rE(d:au af)(aw:Int)(w:J)(Q:U0):Prop:=ak (((Option.isNone d)||(decide (aw<8)))||(decide (aw>64))) (Q (.tuple #[.pointer none,(1:Int)]) w) (((0:Int)<=aw
 /\aw<=aw/\aw<=lE/\((48:Nat):Int)*aw<=140737488355328)/\an (w.alloc (.cells (ig aj 275 (aw.toNat)) 275)) λw1=>an (w1.alloc (.cells #[d,.slice (some (Y w))
 (aw.toNat) (aw.toNat),U8] 268)) λai=>Q (.tuple #[.pointer (some (Y w1)),U8]) ai)
def ax.rE:aJ:=(.q (.s dw (.q .l)))
def ae.rF(c:au af)(s:au af)(gen:Int)(root:Int)(aK:Int)(w:J)(Q:U0):Prop:=bz (λb1:ao->U2=>ak (((((Option.isNone c)||(Option.isNone s))||(decide
 (aK<0)))||(decide (aK>12)))||(decide (root<0))) (b1 true w) (∃a2:af,c=some a2/\∃b:au af,w.cell? a2=some (b)/\bB 55 #[b] w λn6 d=>b1 (decide (root>=n6)) d))
 (λ(e:ao) a=>ak (e||(!((root==0)==(aK==0)))) (Q (.tuple #[.pointer none,(1:Int)]) a) (an (a.alloc (.cells #[c,s,.int .u64 gen,root,aK] 243)) λf=>Q
 (.tuple #[.pointer (some (Y a)),U8]) f))
def ax.rF:aJ:=(.q (.s (.s (.z [9,8,9,8,9,8,9,8,9,22,24,17]) (.c (.q .l) .l)) (.q .l)))
def ae.oz(a:ad)(w:J)(Q:U0):Prop:=Q (.bool ((decide ((a.len:Int)>=1))&&(decide ((a.len:Int)<=24)))) w
def ax.oz:aJ:=dr
end Go.Proofs.YtcmgnhkpfllinaaGreat
