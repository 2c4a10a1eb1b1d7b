/- Printed by gen.py: functions of the program, each as what must be shown of it. -/
import Derived.Test.YtcmgnhkpfllinaaGreatProg
import Derived.Test.YtcmgnhkpfllinaaGreatKFPlays2
namespace aU
abbrev aK.s:=aK.seq
abbrev aK.l:=aK.leaf
abbrev aK.c:=aK.cond
abbrev aK.r:=aK.qJ []
abbrev aN.t:=aN.take
abbrev ln.r:=ln.run
open Go
def kx:O Nat->O Nat
 | []=> []
 |x::l=>bif Nat.blt x 500 then (bif Nat.beq x 0 then 0 else 2^(x-1))::kx l else bif Nat.blt x 1000 then (2^(x-500)-1)::kx l else bif Nat.blt x 1000000 then (List.range' (x%1000) (x/1000)).map (λy=>2^y)++kx l else bif Nat.blt x 1000000000 then (2^(x/1000-1000)+2^(x%1000))::kx l else bif Nat.blt x 1000000000000 then (2^(x/1000000-1000)+2^(x/1000%1000)+2^(x%1000))::kx l else (x-1000000000000)::kx l
def aN.z:Nat->Nat->aN->aN
 |0,_,x=>x
 |n+1,a,x=>.take a (aN.z n (a+1) x)
def aN.e:aN:=.tail [.run]
def aK.d(n:Nat)(b:ag)(A B C D:O Nat)(t:aN):aK:=.u_ n b ⟨kx A,kx B⟩ (kx C) (kx D) t
def aK.e(n:Nat)(b:ag)(A C D:O Nat)(t:aN):aK:=.u_ n b ⟨kx A,kx A⟩ (kx C) (kx D) t
def aK.q(t:aK):aK:=.seq (.qJ []) t
def vo:O Nat->O ln
 | []=> []
 |x::l=>bif Nat.beq (x%3) 0 then List.replicate (x/3) .run++vo l else bif Nat.beq (x%3) 1 then .split (x/3)::vo l else .pure (x/3)::vo l
def aK.z(l:O Nat):aK:=.qJ (vo l)
end aU
namespace Go.Proofs.YtcmgnhkpfllinaaGreat
noncomputable abbrev aj:=Tryz.prog
open Go aU Go.Proofs.Tryz
namespace F
end F
namespace GG
end GG
namespace G
end G
abbrev a6:dX:=.one (.one .fn)
abbrev ft:dX:=.one (.one .agg)
abbrev gG:dX:=.one (.one .ptr)
abbrev j_:dX:=.one (.one .slice)
abbrev oa:dX:=.fo [(.one .ptr),(.one (.int .i64))]
abbrev ob:dX:=.one (.flat [.ptr,.slice,(.int .i64)])
abbrev qV:dX:=.fo [(.one .slice),(.one (.int .i64))]
abbrev vp:dX:=.one (.one (.int .i64))
abbrev vq:dX:=.one (.one (.int .u8))
abbrev vr:dX:=.one (.one (.int .u64))
abbrev vt:dX:=.one (.flat [.slice,.slice])
abbrev vu:dX:=.one (.flat [.slice,(.int .i64)])
def GH:O dX:=[(.fo []),a6,vp,vp,(.one (.one .bool)),vq,vq,(.one (.flat [(.int .i64),(.int .i64),.bool,(.int .u8)])),(.one (.flat [(.int .i64),(.int .i64),.bool,(.int .u8)])),(.one (.one .str)),(.one (.one .str)),(.one (.one .str)),vr,(.one (.flat [.str,(.int .u64)])),(.one (.flat [.str,(.int .u64)])),gG,gG,gG,(.one (.flat [.ptr])),(.one (.flat [.ptr])),(.one (.one .any)),(.one (.one (.int .i32))),j_,vr,(.one (.flat [(.int .i64),(.int .u64),.bool])),(.one (.flat [(.int .i64),(.int .u64),.bool])),gG,gG,(.fo [(.one .ptr),(.one .ptr),(.one .bool)]),a6,vr,gG,vp,oa,a6,(.one (.flat [(.int .i64),.slice])),(.one (.flat [(.int .i64),.slice])),(.fo [(.one (.int .i64)),(.one (.int .i64))]),a6,j_,a6,a6,a6,j_,gG,ob,ob,a6,a6,a6,a6,ft,ft,ft,ft,ft,ft,ft,(.fo [(.one .agg),(.one .bool),(.one (.int .i64))]),a6,j_,(.one (.flat [(.int .i64),(.int .i64),(.int .u8)])),(.one (.flat [(.int .i64),(.int .i64),(.int .u8)])),(.one (.flat [(.int .i64),(.int .i64),(.int .u64)])),(.one (.flat [(.int .i64),(.int .i64),(.int .u64)])),a6,gG,oa,a6,gG,oa,a6,j_,(.one (.flat [(.int .i64),(.int .i64),(.int .i64),.slice,.slice,.slice])),(.one (.flat [(.int .i64),(.int .i64),(.int .i64),.slice,.slice,.slice])),a6,(.fo [(.one .bool),(.one (.int .i64))]),a6,a6,a6,a6,a6,ft,ft,ft,ft,(.fo [(.one .agg),(.one (.int .i64))]),a6,a6,(.one (.flat [(.int .i64),(.int .i64),(.int .i64),(.int .u64),(.int .u64),(.int .i64)])),(.one (.flat [(.int .i64),(.int .i64),(.int .i64),(.int .u64),(.int .u64),(.int .i64)])),a6,a6,j_,a6,a6,a6,j_,(.fo [(.one .ptr),(.one .ptr),(.one .bool)]),a6,ft,ft,oa,a6,a6,a6,a6,a6,a6,ob,ob,(.fo [(.one .slice),(.one (.int .i64)),(.one (.int .i64))]),a6,a6,qV,a6,(.fo [(.one .slice),(.one .bool)]),a6,(.fo [(.one .slice),(.one .bool),(.one (.int .i64))]),(.one (.flat [.ptr,(.int .i64)])),(.one (.flat [.ptr,(.int .i64)])),a6,(.fo [(.one .agg),(.one .bool)]),a6,j_,(.one (.one .map)),ft,ft,ft,ft,a6,gG,oa,a6,qV,a6,(.one (.flat [(.int .i64),(.int .u64),.slice])),(.one (.flat [(.int .i64),(.int .u64),.slice])),ft,a6,a6,a6,a6,gG,gG,ft,ft,a6,a6,a6,ft,ft,(.fo [(.flat [(.int .i64),(.int .i64),(.int .i64),(.int .u64),(.int .u64),(.int .i64)]),(.one (.int .u64)),(.one (.int .i64))]),a6,a6,gG,(.one (.one .map)),ft,ft,a6,(.fo [(.flat [(.int .i64),(.int .i64),(.int .i64),(.int .u64),(.int .u64),(.int .i64)]),(.one (.int .u64)),(.one (.int .i64))]),a6,a6,a6,a6,a6,(.fo [(.flat [(.int .i64),(.int .u64),.slice]),(.one (.int .i64))]),a6,(.one (.flat [.bool,.slice,.slice,.slice])),(.one (.flat [.bool,.slice,.slice,.slice])),(.fo [(.flat [.bool,.slice,.slice,.slice]),(.one .bool)]),a6,gG,a6,j_,vt,vt,a6,a6,a6,a6,a6,a6,a6,qV,a6,a6,a6,a6,a6,a6,a6,a6,j_,qV,a6,a6,vt,vt,a6,(.fo [(.one (.int .u64)),(.one .bool)]),a6,(.fo [(.one .agg),(.one .bool)]),a6,a6,gG,j_,a6,(.one (.flat [(.int .i64),.slice,.slice])),(.one (.flat [(.int .i64),.slice,.slice])),a6,(.one (.one (.int .u32))),a6,a6,a6,oa,a6,oa,a6,j_,qV,a6,ft,ft,(.fo [(.one (.int .i64)),(.one .bool)]),a6,(.fo [(.one (.int .i64)),(.one (.int .i64))]),a6,a6,a6,a6,a6,a6,a6,a6,a6,(.fo [(.flat [(.int .i64),(.int .i64),(.int .i64),(.int .u64),(.int .u64),(.int .i64)]),(.one (.int .i64)),(.one (.int .u64)),(.one (.int .i64))]),a6,a6,(.fo [(.one .slice),(.one (.int .i64)),(.one (.int .i64))]),a6,a6,(.one (.flat [.ptr,.ptr,(.int .u64),(.int .i64),(.int .i64)])),(.one (.flat [.ptr,.ptr,(.int .u64),(.int .i64),(.int .i64)])),a6,a6,a6,(.one (.flat [(.int .i64),(.int .i64)])),(.one (.flat [(.int .i64),(.int .i64)])),j_,a6,a6,a6,a6,a6,a6,a6,a6,(.fo [(.one .agg),(.one .bool)]),a6,a6,a6,a6,a6,a6,a6,j_,ob,ob,(.fo [(.flat [.bool,.slice,.slice,.slice]),(.one (.int .i64))]),a6,a6,a6,a6,(.one (.flat [.bool,.bool,.bool,(.int .i64),(.int .i64),.slice])),(.one (.flat [.bool,.bool,.bool,(.int .i64),(.int .i64),.slice])),gG,a6,a6,a6,a6,a6,gG,(.one (.flat [.ptr,.slice,.slice])),(.one (.flat [.ptr,.slice,.slice])),(.fo [(.one (.int .i64)),(.one (.int .i64)),(.one (.int .i64))]),a6,a6,gG,vu,vu,a6,gG,ob,ob,a6,a6,a6,a6,oa,a6,a6,a6,a6,a6,(.fo [(.one .slice),(.one .slice)]),a6,a6,a6,a6,a6,a6,a6,a6,a6,a6,gG,j_,(.fo [(.one .slice),(.one (.int .i64)),(.one (.int .i64)),(.one (.int .i64))]),a6,a6,a6,qV,a6,vu,vu,a6,a6,a6,vp,(.fo [(.one (.int .i64)),(.one (.int .i64))]),a6,a6,a6,a6,a6,a6,a6,a6,a6,gG,(.one (.flat [.slice,.bool])),(.one (.flat [.slice,.bool])),a6,a6,a6,a6,a6,a6,a6,a6,vr,a6,a6,a6,gG,a6,a6,ft,gG,a6,a6,(.fo [(.flat [.bool,.slice,.slice,.slice]),(.one .slice),(.flat [.bool,.slice,.slice,.slice]),(.one .bool)]),a6,a6,a6,(.one (.flat [.ptr,.ptr,.ptr,.str])),(.one (.flat [.ptr,.ptr,.ptr,.str])),ft,ft,ft,vq,vq,a6,gG,(.one (.one (.int .i32))),(.one (.one (.int .i32))),ft,ft,gG]
def tk:TypeId->dX:=λt=>GH.getD t (.one (.one .any))
theorem yT:Tryz.prog.follows .mixedOrders=true:=by kernel_rfl
def ae(w:J):ax:=w.heap.size
def ai(n:Int):Int:=IntKind.wrap .i64 n
def aO(n:Int)(k:Nat):Prop:=(0:Int)<=n/\n<(k:Int)
def af(c:ag)(A B:Prop):Prop:=(c=true->A)/\(c=false->B)
def ly:Int:=9223372036854775807
def st(w:J)(A:ax)(v:Y)(K:U2):Prop:=(∃u:Y,w.cell? A=some u)/\w.frozen? A=false/\au (w.setCell A v) λw1=>K w1
def Ma(w:J)(z:Obj)(l:O Y)(k:Nat)(K:U2):Prop:=au (w.alloc z) λw1=>c5 w1 (ae w) (Array.toList l.toArray)/\Array.size l.toArray=k/\au (setCells w1 (ae w) 0 (Array.toList l.toArray)) λah=>K ah
def pr(s:U)(n:Int)(w:J)(k:Nat)(K:O Y->Prop):Prop:=∃a:ax,s.a=some a/\aO n s.len/\∃l:O Y,cv w (a.add (n.toNat*k)) 0 k=some l/\K l
def b5(f:Nat)(a:Array Y)(w:J)(K:Int->U2):Prop:=Calls aj f a w λe w'=>∃b:Int,e=.returned b/\K b w'
def e6(f:Nat)(a:Array Y)(w:J)(K:U2):Prop:=Calls aj f a w λe w'=>e=.returned (.tuple #[])/\K w'
def bR(f:Nat)(a:Array Y)(w:J)(K:ag->U2):Prop:=Calls aj f a w λe w'=>∃b:ag,e=.returned b/\K b w'
def gR(f:Nat)(a:Array Y)(w:J)(K:an ax->Int->U2):Prop:=Calls aj f a w λe w'=>∃b:an ax,∃c:Int,e=.returned (.tuple #[b,c])/\K b c w'
def bU(f:Nat)(a:Array Y)(w:J)(K:U->U2):Prop:=Calls aj f a w λe w'=>∃b:U,e=.returned b/\K b w'
def dY(f:Nat)(a:Array Y)(w:J)(K:U->Int->U2):Prop:=Calls aj f a w λe w'=>∃b:U,∃c:Int,e=.returned (.tuple #[b,c])/\K b c w'
def vv(f:Nat)(a:Array Y)(w:J)(K:U->ag->Int->U2):Prop:=Calls aj f a w λe w'=>∃b:U,∃c:ag,∃d:Int,e=.returned (.tuple #[b,c,d])/\K b c d w'
def vw(f:Nat)(a:Array Y)(w:J)(K:ag->Int->U2):Prop:=Calls aj f a w λe w'=>∃b:ag,∃c:Int,e=.returned (.tuple #[b,c])/\K b c w'
def oc(f:Nat)(a:Array Y)(w:J)(K:Int->Int->Int->Int->Int->Int->Int->Int->U2):Prop:=Calls aj f a w λe w'=>∃b:Int,∃c:Int,∃d:Int,∃g:Int,∃h:Int,∃i:Int,∃j:Int,∃k:Int,e=.returned (.tuple #[.agg #[b,c,d,.int .u64 g,.int .u64 h,i],.int .u64 j,k])/\K b c d g h i j k w'
def kc(f:Nat)(a:Array Y)(w:J)(K:Int->U2):Prop:=Calls aj f a w λe w'=>∃b:Int,e=.returned (.int .u32 b)/\K b w'
def mC(f:Nat)(a:Array Y)(w:J)(K:Array Y->U2):Prop:=Calls aj f a w λe w'=>∃b:Array Y,e=.returned (.agg b)/\K b w'
def lz(f:Nat)(a:Array Y)(w:J)(K:Int->ag->U2):Prop:=Calls aj f a w λe w'=>∃b:Int,∃c:ag,e=.returned (.tuple #[b,c])/\K b c w'
def jc(f:Nat)(a:Array Y)(w:J)(K:Int->Int->U2):Prop:=Calls aj f a w λe w'=>∃b:Int,∃c:Int,e=.returned (.tuple #[b,c])/\K b c w'
def lA(f:Nat)(a:Array Y)(w:J)(K:ag->U->U->U->ag->U2):Prop:=Calls aj f a w λe w'=>∃b:ag,∃c:U,∃d:U,∃g:U,∃h:ag,e=.returned (.tuple #[.agg #[b,c,d,g],h])/\K b c d g h w'
def Cl(f:Nat)(a:Array Y)(w:J)(K:iZ->U2):Prop:=Calls aj f a w λe w'=>∃b:iZ,e=.returned (.func (.func b.f) b.pre b.cap)/\K b w'
def vx(f:Nat)(a:Array Y)(w:J)(K:Int->Int->Int->Int->Int->Int->Int->Int->Int->U2):Prop:=Calls aj f a w λe w'=>∃b:Int,∃c:Int,∃d:Int,∃g:Int,∃h:Int,∃i:Int,∃j:Int,∃k:Int,∃l:Int,e=.returned (.tuple #[.agg #[b,c,d,.int .u64 g,.int .u64 h,i],j,.int .u64 k,l])/\K b c d g h i j k l w'
def jR(f:Nat)(a:Array Y)(w:J)(K:Int->Int->U->Int->U2):Prop:=Calls aj f a w λe w'=>∃b:Int,∃c:Int,∃d:U,∃g:Int,e=.returned (.tuple #[.agg #[b,.int .u64 c,d],g])/\K b c d g w'
def Cm(f:Nat)(a:Array Y)(w:J)(K:U->Int->Int->U2):Prop:=Calls aj f a w λe w'=>∃b:U,∃c:Int,∃d:Int,e=.returned (.tuple #[b,c,d])/\K b c d w'
def pt(f:Nat)(a:Array Y)(w:J)(K:U->ag->U2):Prop:=Calls aj f a w λe w'=>∃b:U,∃c:ag,e=.returned (.tuple #[b,c])/\K b c w'
def kU(f:Nat)(a:Array Y)(w:J)(K:ag->U->U->U->Int->U2):Prop:=Calls aj f a w λe w'=>∃b:ag,∃c:U,∃d:U,∃g:U,∃h:Int,e=.returned (.tuple #[.agg #[b,c,d,g],h])/\K b c d g h w'
def jS(f:Nat)(a:Array Y)(w:J)(K:an ax->U2):Prop:=Calls aj f a w λe w'=>∃b:an ax,e=.returned (b)/\K b w'
def gH(f:Nat)(a:Array Y)(w:J)(K:ag->U->U->U->U2):Prop:=Calls aj f a w λe w'=>∃b:ag,∃c:U,∃d:U,∃g:U,e=.returned (.agg #[b,c,d,g])/\K b c d g w'
def qW(f:Nat)(a:Array Y)(w:J)(K:Int->Int->Int->U2):Prop:=Calls aj f a w λe w'=>∃b:Int,∃c:Int,∃d:Int,e=.returned (.tuple #[b,c,d])/\K b c d w'
def ed(f:Nat)(a:Array Y)(w:J)(K:Int->U2):Prop:=Calls aj f a w λe w'=>∃b:Int,e=.returned (.int .u64 b)/\K b w'
def yU(f:Nat)(a:Array Y)(w:J)(K:U->Int->Int->Int->U2):Prop:=Calls aj f a w λe w'=>∃b:U,∃c:Int,∃d:Int,∃g:Int,e=.returned (.tuple #[b,c,d,g])/\K b c d g w'
def qX(f:Nat)(a:Array Y)(w:J)(K:Int->ag->U2):Prop:=Calls aj f a w λe w'=>∃b:Int,∃c:ag,e=.returned (.tuple #[.int .u64 b,c])/\K b c w'
def Cn(f:Nat)(a:Array Y)(w:J)(K:ag->U->U->U->U->ag->U->U->U->ag->U2):Prop:=Calls aj f a w λe w'=>∃b:ag,∃c:U,∃d:U,∃g:U,∃h:U,∃i:ag,∃j:U,∃k:U,∃l:U,∃m:ag,e=.returned (.tuple #[.agg #[b,c,d,g],h,.agg #[i,j,k,l],m])/\K b c d g h i j k l m w'
def vy(f:Nat)(a:Array Y)(w:J)(K:Int->Int->Int->U2):Prop:=Calls aj f a w λe w'=>∃b:Int,∃c:Int,∃d:Int,e=.returned (.agg #[b,c,.int .u64 d])/\K b c d w'
def Co(f:Nat)(a:Array Y)(w:J)(K:Int->Int->Int->U->U->U->U2):Prop:=Calls aj f a w λe w'=>∃b:Int,∃c:Int,∃d:Int,∃g:U,∃h:U,∃i:U,e=.returned (.agg #[b,c,d,g,h,i])/\K b c d g h i w'
def nj(f:Nat)(a:Array Y)(w:J)(K:Array Y->Int->U2):Prop:=Calls aj f a w λe w'=>∃b:Array Y,∃c:Int,e=.returned (.tuple #[.agg b,c])/\K b c w'
def Cp(f:Nat)(a:Array Y)(w:J)(K:Int->Int->Int->Int->Int->Int->U2):Prop:=Calls aj f a w λe w'=>∃b:Int,∃c:Int,∃d:Int,∃g:Int,∃h:Int,∃i:Int,e=.returned (.agg #[b,c,d,.int .u64 g,.int .u64 h,i])/\K b c d g h i w'
def r1(w:J)(A:ax)(K:Int->Prop):Prop:=∃x:Int,w.cell? A=some (.int .i64 x)/\K x
def bA(w:J)(A:ax)(K:Int->Prop):Prop:=∃x:Int,w.cell? A=some (.int .u8 x)/\K x
def aJ(w:J)(A:ax)(K:U->Prop):Prop:=∃x:U,w.cell? A=some (.slice x.a x.len x.cap)/\K x
def c0(w:J)(A:ax)(K:Int->Prop):Prop:=∃x:Int,w.cell? A=some (.int .u64 x)/\K x
def aW(w:J)(A:ax)(K:ag->Prop):Prop:=∃x:ag,w.cell? A=some (.bool x)/\K x
def aF(n:Int):Y:=.int .u64 n
def aV(a:ax)(n:Int)(k:Nat):ax:=a.add (n.toNat*k)
def bf(w:J)(A:ax)(l:O Y)(k:Nat)(K:U2):Prop:=c5 w A l/\k=k/\au (setCells w A 0 l) λw1=>K w1
def xs(w:J)(K:ax->Prop):Prop:=∃a:ax,(some (ae w):an ax)=some a/\K a
def aQ(s:U)(n:Int)(K:ax->Prop):Prop:=∃a:ax,s.a=some a/\aO n s.len/\K a
def aE(p:an ax)(K:ax->Prop):Prop:=∃a:ax,p=some a/\K a
def b1(w:J)(K:J->(U1)->Prop):Prop:=au w.drew λw1=>∃W:U1,K w1 W
def ap(T:TypeId)(x:Y)(y:Y)(w:J)(K:U->U2):Prop:=∃s:U,∃w1:J,Sem.run aj (Builtin.append_ #[T,T] T #[x,y]) w=.ok s w1/\K s w1
def cW(c:Int)(w:J)(K:(Int->U2)->(Int->J->Nat)->Int->U2):Prop:=∃ (a:Int->U2) (d:Int->J->Nat),a c w/\∀ (b:Int) (w1:J),a b w1->K a d b w1
def gg(d:Int)(e:Int)(w:J)(K:(Int->Int->U2)->(Int->Int->J->Nat)->Int->Int->U2):Prop:=∃ (a:Int->Int->U2) (f:Int->Int->J->Nat),a d e w/\∀ (b:Int) (c:Int) (w1:J),a b c w1->K a f b c w1
def Cq(e:Int)(f:ag)(g:Int)(w:J)(K:(Int->ag->Int->U2)->(Int->ag->Int->J->Nat)->Int->ag->Int->U2):Prop:=∃ (a:Int->ag->Int->U2) (h:Int->ag->Int->J->Nat),a e f g w/\∀ (b:Int) (c:ag) (d:Int) (w1:J),a b c d w1->K a h b c d w1
def Cr(c:U)(w:J)(K:(U->U2)->(U->J->Nat)->U->U2):Prop:=∃ (a:U->U2) (d:U->J->Nat),a c w/\∀ (b:U) (w1:J),a b w1->K a d b w1
def jd(d:U)(e:Int)(w:J)(K:(U->Int->U2)->(U->Int->J->Nat)->U->Int->U2):Prop:=∃ (a:U->Int->U2) (f:U->Int->J->Nat),a d e w/\∀ (b:U) (c:Int) (w1:J),a b c w1->K a f b c w1
def Cs(e:U)(f:Int)(g:Int)(w:J)(K:(U->Int->Int->U2)->(U->Int->Int->J->Nat)->U->Int->Int->U2):Prop:=∃ (a:U->Int->Int->U2) (h:U->Int->Int->J->Nat),a e f g w/\∀ (b:U) (c:Int) (d:Int) (w1:J),a b c d w1->K a h b c d w1
def yV(e:U)(f:U)(g:Int)(w:J)(K:(U->U->Int->U2)->(U->U->Int->J->Nat)->U->U->Int->U2):Prop:=∃ (a:U->U->Int->U2) (h:U->U->Int->J->Nat),a e f g w/\∀ (b:U) (c:U) (d:Int) (w1:J),a b c d w1->K a h b c d w1
def Ct(e:Int)(f:U)(g:Int)(w:J)(K:(Int->U->Int->U2)->(Int->U->Int->J->Nat)->Int->U->Int->U2):Prop:=∃ (a:Int->U->Int->U2) (h:Int->U->Int->J->Nat),a e f g w/\∀ (b:Int) (c:U) (d:Int) (w1:J),a b c d w1->K a h b c d w1
def Cu(d:an ax)(e:Int)(w:J)(K:(an ax->Int->U2)->(an ax->Int->J->Nat)->an ax->Int->U2):Prop:=∃ (a:an ax->Int->U2) (f:an ax->Int->J->Nat),a d e w/\∀ (b:an ax) (c:Int) (w1:J),a b c w1->K a f b c w1
def dC(W:U1)(w:J)(A:ax)(K:U->Prop):Prop:=¬W A.block/\aJ w A K
def gI(W:U1)(w:J)(A:ax)(K:Int->Prop):Prop:=¬W A.block/\r1 w A K
def ky(W:U1)(w:J)(A:ax)(K:Int->Prop):Prop:=¬W A.block/\bA w A K
def od(W:U1)(w:J)(A:ax)(K:Int->Prop):Prop:=¬W A.block/\c0 w A K
def aT(w:J)(r:J)(k:Nat)(K:Int->Prop):Prop:=r1 w ((ae r).add k) K
def bZ(w:J)(r:J)(k:Nat)(K:Int->Prop):Prop:=c0 w ((ae r).add k) K
def av(w:J)(r:J)(k:Nat)(K:U->Prop):Prop:=aJ w ((ae r).add k) K
def c2(W:U1)(w:J)(r:J)(k:Nat)(K:U->Prop):Prop:=dC W w ((ae r).add k) K
def vz(W:U1)(w:J)(r:J)(k:Nat)(K:Int->Prop):Prop:=od W w ((ae r).add k) K
def tc(w:J)(r:J)(k:Nat)(K:ag->Prop):Prop:=aW w ((ae r).add k) K
def qY(W:U1)(w:J)(r:J)(k:Nat)(K:Int->Prop):Prop:=gI W w ((ae r).add k) K
def td(w:J)(r:J)(k:Nat)(K:Int->Prop):Prop:=bA w ((ae r).add k) K
def eo:Obj:=.cells #[U8,U8,U8,.int .u64 0,.int .u64 0,U8] 90
def gh:Obj:=.cells #[U8,U8,.int .u64 0,.int .u64 0,U8,U8,U8,U8,U8,U8] 85
def z3:Obj:=.cells #[false,(),(),()] 169
def z4:Obj:=.cells #[U8,.int .u64 0,()] 137
def z5:Obj:=.cells #[.int .u8 0,.int .u8 0,.int .u8 0,.int .u8 0,.int .u8 0,.int .u8 0,.int .u8 0,.int .u8 0,.int .u8 0,.int .u8 0,.int .u8 0,.int .u8 0,.int .u8 0,.int .u8 0,.int .u8 0,.int .u8 0,.int .u8 0,.int .u8 0,.int .u8 0,.int .u8 0,.int .u8 0,.int .u8 0,.int .u8 0,.int .u8 0,.int .u8 0,.int .u8 0,.int .u8 0,.int .u8 0,.int .u8 0,.int .u8 0,.int .u8 0,.int .u8 0,.int .u8 0,.int .u8 0,.int .u8 0,.int .u8 0,.int .u8 0,.int .u8 0,.int .u8 0,.int .u8 0,.int .u8 0,.int .u8 0,.int .u8 0,.int .u8 0,.int .u8 0,.int .u8 0,.int .u8 0,.int .u8 0,.int .u8 0,.int .u8 0,.int .u8 0,.int .u8 0,.int .u8 0,.int .u8 0,.int .u8 0,.int .u8 0,.int .u8 0,.int .u8 0,.int .u8 0,.int .u8 0,.int .u8 0,.int .u8 0,.int .u8 0,.int .u8 0,.int .u8 0,.int .u8 0,.int .u8 0,.int .u8 0,.int .u8 0,.int .u8 0,.int .u8 0,.int .u8 0,.int .u8 0,.int .u8 0,.int .u8 0,.int .u8 0,.int .u8 0,.int .u8 0,.int .u8 0,.int .u8 0,.int .u8 0,.int .u8 0,.int .u8 0,.int .u8 0,.int .u8 0,.int .u8 0,.int .u8 0,.int .u8 0,.int .u8 0,.int .u8 0,.int .u8 0,.int .u8 0,.int .u8 0,.int .u8 0,.int .u8 0,.int .u8 0,.int .u8 0,.int .u8 0,.int .u8 0,.int .u8 0,.int .u8 0,.int .u8 0,.int .u8 0,.int .u8 0,.int .u8 0,.int .u8 0,.int .u8 0,.int .u8 0,.int .u8 0,.int .u8 0,.int .u8 0,.int .u8 0,.int .u8 0,.int .u8 0,.int .u8 0,.int .u8 0,.int .u8 0,.int .u8 0,.int .u8 0,.int .u8 0,.int .u8 0,.int .u8 0,.int .u8 0,.int .u8 0,.int .u8 0,.int .u8 0,.int .u8 0,.int .u8 0,.int .u8 0,.int .u8 0,.int .u8 0,.int .u8 0,.int .u8 0,.int .u8 0,.int .u8 0,.int .u8 0,.int .u8 0,.int .u8 0,.int .u8 0,.int .u8 0,.int .u8 0,.int .u8 0,.int .u8 0,.int .u8 0,.int .u8 0,.int .u8 0,.int .u8 0,.int .u8 0,.int .u8 0,.int .u8 0,.int .u8 0,.int .u8 0,.int .u8 0,.int .u8 0,.int .u8 0,.int .u8 0,.int .u8 0,.int .u8 0,.int .u8 0,.int .u8 0,.int .u8 0,.int .u8 0,.int .u8 0,.int .u8 0,.int .u8 0,.int .u8 0,.int .u8 0,.int .u8 0,.int .u8 0,.int .u8 0,.int .u8 0,.int .u8 0,.int .u8 0,.int .u8 0,.int .u8 0,.int .u8 0,.int .u8 0,.int .u8 0,.int .u8 0,.int .u8 0,.int .u8 0,.int .u8 0,.int .u8 0,.int .u8 0,.int .u8 0,.int .u8 0,.int .u8 0,.int .u8 0,.int .u8 0,.int .u8 0,.int .u8 0,.int .u8 0,.int .u8 0,.int .u8 0,.int .u8 0,.int .u8 0,.int .u8 0,.int .u8 0,.int .u8 0,.int .u8 0,.int .u8 0,.int .u8 0,.int .u8 0,.int .u8 0,.int .u8 0,.int .u8 0,.int .u8 0,.int .u8 0,.int .u8 0,.int .u8 0,.int .u8 0,.int .u8 0,.int .u8 0,.int .u8 0,.int .u8 0,.int .u8 0,.int .u8 0,.int .u8 0,.int .u8 0,.int .u8 0,.int .u8 0,.int .u8 0,.int .u8 0,.int .u8 0,.int .u8 0,.int .u8 0,.int .u8 0,.int .u8 0,.int .u8 0,.int .u8 0,.int .u8 0,.int .u8 0,.int .u8 0,.int .u8 0,.int .u8 0,.int .u8 0,.int .u8 0,.int .u8 0,.int .u8 0,.int .u8 0,.int .u8 0,.int .u8 0,.int .u8 0,.int .u8 0,.int .u8 0,.int .u8 0,.int .u8 0,.int .u8 0,.int .u8 0,.int .u8 0,.int .u8 0,.int .u8 0,.int .u8 0,.int .u8 0,.int .u8 0,.int .u8 0] 151
def yW:Obj:=.cells #[(),U8] 325
def vA:Obj:=.cells #[U8,U8,.int .u64 0] 64
def vB:Obj:=.cells #[U8,U8,U8,(),(),()] 74
def a1:aK:=(.q (.c (.q .l) .l))
def a23:aK:=(.q (.s (.c .l .l) (.s (.bn (.q a1)) .r)))
def g5:aK:=(.q (.s (.q (.bn (.loop [(8,(.int .i64))] [0,1,7] a23))) (.q .l)))
def fc:aK:=(.q (.s a1 (.q .l)))
def gS:aK:=(.q (.c (.q .l) a1))
def ig:aK:=(.s (.q a1) (.q .l))
def ih:aK:=(.s (.q (.c .l .l)) (.s (.bn a1) .r))
def fu:aK:=(.s a1 (.q (.q .l)))
def a22:aK:=(.q (.s (.c .l .l) (.s (.bn (.q (.q a1))) .r)))
def a2:aK:=(.q (.s (.c .l .l) (.s (.bn (.q .r)) .r)))
def a3:aK:=(.q (.q (.q .l)))
def a4:aK:=(.s (.z [24,10,12,13,15,13,15,10,12,8]) (.c (.q .l) .l))
def a5:aK:=(.q (.s (.z [9,8]) .l))
def ee:aK:=(.s (.z [12,13]) (.c (.q .l) .l))
def eR:aK:=(.s (.q (.c .l .l)) (.s (.bn .r) .r))
def eJ:aK:=(.q (.s (.z [12,11]) .l))
def a9:aK:=(.c (.q (.q .l)) .l)
def fU:aK:=(.s (.z [9,8]) (.c (.q .l) .l))
def eV:aK:=(.q (.q (.c .r .l)))
def gm:aK:=(.q (.s (.z [9,8,9,22]) .l))
def fw:aK:=(.s (.z [9,10]) (.c (.q .l) .l))
def gT:aK:=(.s (.z [15,8]) (.c .l .l))
def ij:aK:=(.s (.z [9,11]) (.c (.q .l) .l))
theorem okF{f:Nat}{fn:Func}(p:J->(U0)->Prop)(A:aK){args:O Y}{w:J}{Q:U0}(hf:Tryz.prog.funcs[f]? =some fn)(h:p w Q)(h1:ph fn args.length=true:=by kernel_rfl)(a:p w Q=qN aj tk A fn args w Q:=by kernel_rfl):aI aj f args.toArray w Q:=Gj yT hf h1 (Eq.mp a h)
def oe(a:J)(w:J)(Q:U0):Prop:=aW a (ae w) λb=>av a w 1 λc=>av a w 2 λd=>av a w 3 λe=>Q (.tuple #[.agg #[b,c,d,e],true]) a
def og(a:J)(ah:J)(Q:U0)(b:ag):Prop:=av a ah 1 λc=>av a ah 2 λd=>av a ah 3 λe=>Q (.tuple #[.agg #[b,c,d,e],false]) a
def vC(b:J)(h:J)(e:J)(key:U)(f:U2):Prop:=aW b (ae h) λi=>af (!i) (b1 b λc d=>c2 d c e 1 λj=>bU 46 #[key] c λk a=>aa d c a/\au (a.alloc (.cells #[k] 39)) λg=>aa d a g/\ap 93 j (.slice (some (ae a)) 1 1) g λl m=>
 st m ((ae e).add 1) l λn=>f n) (f b)
def b7(i:J)(a:J)(j:ag)(k:U)(l:U)(m:U)(d:J)(n:ag)(o:U)(p:U)(q:U)(w:J)(key:U)(ah:J)(Q:U0):Prop:=bf i (ae a) [j,k,l,m] 4 λr=>bf r (ae d) [n,o,p,q] 4 λs=>
 aX (λt:U2=>vC s w a key t) (λe=>av e a 1 λu=>av e d 1 λv=>ap 93 u v e λx y=>st y ((ae a).add
 1) x λf=>av f a 2 λz=>av f d 2 λA=>ap 93 z A f λB C=>st C ((ae a).add 2) B λg=>av g a 3 λD=>av g d 3 λE=>ap 72 D E g λF G=>st G ((ae a).add 3) F λc
 =>aW c (ae a) λH=>av c a 1 λI=>av c a 2 λK=>av c a 3 λL=>bR 182 #[.agg #[H,I,K,L]] c λ
 M b=>af (!M) (bf b (ae ah) [false,(),(),()] 4 λh=>aW h (ae ah) λN=>og h ah Q N) (aW b (ae a) λO=>av b a 1 λP=>av b a 2 λR=>av
 b a 3 λS=>bf b (ae ah) [O,P,R,S] 4 λT=>oe T ah Q))
def qZ(d:J)(b:J)(e:ag)(f:U)(g:U)(h:U)(i:ag)(Q:U0)(c:an ax)(n31:Int):Prop:=bf d (ae b) [e,f,g,h] 4 λa=>af (!i) (Q (.tuple #[(),U8,U8,(4:Int)]) a) (aW a (ae b) λj=>av a b 1 λk=>av a b 2 λ
 l=>av a b 3 λm=>dY 263 #[c,.agg #[j,k,l,m]] a λn o p=>Q (.tuple #[n,n31,.int .i64 (ai (n31+2)),o]) p)
def cA(up:an ax)(i:J)(n36:Int)(w:J)(g:J)(e:J)(f:J)(n31:Int)(Q:U0)(c:an ax):Prop:=aX (λl:U2=>aE up λz=>r1 i (z.add 5)
 λA=>af (decide (n36>A)) (b1 i λb j=>¬j ((ae w):ax).block/\aW b (ae w) λB=>av b w 1 λC=>av b w 2 λD=>av b w 3 λE=>¬j ((ae g):ax).block/\aW b (ae g) λF=>
 av b g 1 λG=>av b g 2 λH=>av b g 3 λI=>bf b (ae e) [B,C,D,E] 4 λm=>aa j b m/\bf m (ae f)
 [F,G,H,I] 4 λK=>l K) (l i)) (λL=>b1 L λa d=>¬d ((ae e):ax).block/\aW a (ae e) λn=>av a e
 1 λo=>av a e 2 λp=>av a e 3 λq=>aE up λM=>dC d a ((M.add 1).add 1) λN=>aQ N n31 λO=>dC d a (aV O n31 1) λr=>¬d ((ae f):ax).block/\aW a (ae f) λ
 s=>av a f 1 λt=>av a f 2 λu=>av a f 3 λv=>(lA 264 #[.agg #[n,o,p,q],r,.agg #[s,t,u,v]] a λP R S T U h=>aa d a h/\au (h.alloc z3) λx=>aa d h x/\
 qZ x h P R S T U Q c n31)/\(au (a.alloc z3) λk=>aa d a k/\lA 264 #[.agg #[n,o,p,q],r,.agg #[s,t,u,v]] k λV W X Z ab y=>aa d k y/\qZ y a V W X Z
 ab Q c n31))
def dD(a:J)(b:J)(w1:J)(Q:U0):Prop:=aW a (ae b) λc=>av a b 1 λd=>av a b 2 λe=>av a b 3 λf=>bf a (ae w1) [c,d,e,f] 4 λg=>oe g w1 Q
def te(b:J)(c:J)(w1:J)(d:ag)(Q:U0):Prop:=av b c 1 λe=>av b c 2 λf=>av b c 3 λg=>bf b (ae w1) [d,e,f,g] 4 λa=>aW a (ae w1) λh=>av a w1 1 λi=>av a w1 2 λj=>av a w1 3 λk=>Q (.agg #[h,i,j,k]) a
def mD(o:J)(l:U)(b:J)(w:J)(to:Int)(w1:J)(Q:U0):Prop:=cW 0 o λp j n19 c=>af (decide (n19<(l.len:Int))) (aQ l n19 λfu=>aJ c (aV fu n19 2) λq=>r1
 c ((aV fu n19 2).add 1) λn23=>au (c.alloc yW) λr=>bf r (ae c) [q,n23] 2 λd=>aX (λk:U2=>aJ d (ae c) λs=>af (!(Option.isNone s.a)) (av d b
 1 λt=>aJ d (ae c) λu=>au (d.alloc (.cells #[u] 39)) λv=>ap 93 t (.slice (some (ae d)) 1 1) v λx y=>st y ((ae
 b).add 1) x λz=>k z) (k d)) (λg=>av g b 3 λA=>aT g c 1 λn36=>au (g.alloc (.cells #[n36] 3)) λB=>ap 72 A
 (.slice (some (ae g)) 1 1) B λC D=>st D ((ae b).add 3) C λm=>p (ai (n19+1)) m/\j (ai (n19+1)) m<j n19 c)) (au (c.drew) λh=>¬False/\av h b 1 λE
 =>¬False/\av h w 1 λe=>((0:Int)<=(ai (to-1))/\(ai (to-1))<=(e.len:Int))/\ap 93 E (.slice (bj e.a 1 ((ai (to-1)).toNat) e.cap) (e.len-((ai (to-
 1)).toNat)) (e.cap-((ai (to-1)).toNat))) h λF G=>st G ((ae b).add 1) F λH=>au (H.drew) λi=>¬False/\av i b 3 λI=>¬False/\av i w 3 λf=>((0:Int)<=
 to/\to<=(f.len:Int))/\ap 72 I (.slice (bj f.a 1 (to.toNat) f.cap) (f.len-(to.toNat)) (f.cap-(to.toNat))) i λK L=>st L ((ae b).add 3) K λn=>aW n (ae b) λM=>te n b w1 M Q)
def jB(g:Array Y)(e:J)(b:U1)(h:Array Y)(w1:J)(ah:J)(Q:U0)(i:U):Prop:=gH 183 #[.agg g] e λj k l m c=>aa b e c/\gH
 183 #[.agg h] c λn o p q d=>aa b c d/\bf d (ae w1) [j,k,l,m] 4 λf=>aa b d f/\bf f (ae ah)
 [n,o,p,q] 4 λa=>aW a (ae w1) λr=>av a w1 1 λs=>av a w1 2 λt=>av a w1 3 λu=>aW a (ae ah) λv=>
 av a ah 1 λw=>av a ah 2 λx=>av a ah 3 λy=>Q (.tuple #[.agg #[r,s,t,u],i,.agg #[v,
 w,x,y],true]) a
def kz(b:J)(w:J)(Q:U0):Prop:=bf b (ae w) [false,(),(),()] 4 λa=>aW a (ae w) λc=>og a w Q c
def lB(a:J)(w1:J)(Q:U0):Prop:=aW a (ae w1) λb=>og a w1 Q b
def vD(a:J)(w:J)(Q:U0)(b:Int):Prop:=r1 a (ae w) λc=>aT a w 1 λd=>aT a w 2 λe=>bZ a w 3 λf=>bZ a w 4 λg=>aT a w 5 λh=>Q
 (.tuple #[.agg #[c,d,e,aF f,aF g,h],aF b,U8]) a
def pv(c:U1)(b:J)(a:J)(ah:J)(w:J)(Q:U0):Prop:=¬c ((ae b):ax).block/\r1 a (ae b) λe=>aT a b 1 λf=>aT a b 2 λg=>bZ a b 3
 λh=>bZ a b 4 λi=>aT a b 5 λj=>vz c a ah 1 λk=>bf a (ae w) [e,f,g,aF h,aF i,j] 6 λd=>aa c a d/\vD d w Q k
def gJ(a:J)(b:J)(w1:J)(Q:U0):Prop:=aW a (ae b) λc=>te a b w1 c Q
def mE(a:J)(w:J)(Q:U0):Prop:=r1 a (ae w) λb=>aT a w 1 λc=>aT a w 2 λd=>bZ a w 3 λe=>bZ a w 4 λf=>aT a w 5 λg=>Q (.tuple #[.agg #[b,c,d,aF e,aF f,g],aF 0,(4:Int)]) a
def q0(b:J)(w1:J)(w:J)(Q:U0):Prop:=∃a:O Y,cv b (ae w1) 0 10=some a/\c5 b (ae w) (Array.toList a.toArray)/\Array.size a.toArray=10/\au (setCells b (ae
 w) 0 (Array.toList a.toArray)) λc=>∃d:O Y,cv c (ae w) 0 10=some d/\Q (.agg d.toArray) c
def vE(a:J)(c:J)(w:J)(Q:U0)(n24:Int):Prop:=r1 a (ae c) λn36=>aT a c 1 λn37=>aT a c 2 λn38=>bZ a c 3 λn39=>bZ a c 4 λn40=>aT a c 5
 λn41=>bf a (ae w) [n36,n37,n38,aF n39,aF n40,n41] 6 λb=>r1 b (ae w) λd=>aT b w 1 λe=>aT b w 2 λf=>bZ b w 3 λg=>bZ b w 4 λh=>aT b
 w 5 λi=>Q (.tuple #[.agg #[d,e,f,aF g,aF h,i],aF n24,(2:Int)]) b
def vF(e:J)(b:J)(f:J)(n35:Int)(g:J)(h:U2):Prop:=b1 e λa c=>¬c ((ae b):ax).block/\r1 a (ae b) λi=>aT a b 1 λj=>aT a b 2 λk=>bZ
 a b 3 λl=>bZ a b 4 λm=>aT a b 5 λn=>xs f λo=>st a (o.add 4) n35 λd=>aa c a d/\bf d (ae g) [i,j,k,aF l,aF m,n] 6 λp=>h p
def vG(b:J)(w:J)(Q:U0):Prop:=bf b (ae w) [U8,U8,U8,aF 0,aF 0,U8] 6 λa=>r1 a (ae w) λn30=>aT a w 1 λn31=>aT a w 2 λn32=>bZ
 a w 3 λn33=>bZ a w 4 λn34=>aT a w 5 λn35=>Q (.tuple #[.agg #[n30,n31,n32,aF n33,aF n34,n35],aF 0,(1:Int)]) a
def tf(a:J)(w:J)(Q:U0)(n7:Int):Prop:=aW a (ae w) λb=>av a w 1 λc=>av a w 2 λd=>av a w 3 λe=>Q (.tuple #[.agg #[b,c,d,e],n7]) a
def pw(a:J)(w:J)(Q:U0):Prop:=r1 a (ae w) λn9=>bZ a w 1 λn10=>av a w 2 λb=>Q (.tuple #[.agg #[n9,aF n10,b],(4:Int)]) a
def q1(c:ag)(b:ag->U2)(a:J)(w:J):Prop:=af (!c) (b true a) (aW a (ae w) λd=>av a w 1 λe=>av a w 2 λf=>av a w 3 λg=>bR 182 #[.agg #[d,
 e,f,g]] a λh i=>b (!h) i)
def vH(a:J)(w:J)(Q:U0)(n12:Int):Prop:=r1 a (ae w) λn20=>aT a w 1 λn21=>aT a w 2 λn22=>bZ a w 3 λn23=>bZ a w 4 λn24=>aT a w 5 λn25=>Q (.tuple #[.agg
 #[n20,n21,n22,aF n23,aF n24,n25],aF 0,n12]) a
def Cv(i:U)(n17:Int)(b:J)(e:J)(j:Int->U2)(f:Int->J->Nat):Prop:=aQ i n17 λig=>aJ b (aV ig n17 1) λk=>b1 b λc d=>c2 d c e 1 λl=>bU
 46 #[k] c λm a=>aa d c a/\au (a.alloc (.cells #[m] 39)) λg=>aa d a g/\ap 93 l (.slice (some (ae a)) 1 1) g λn o=>st o ((ae e).add 1) n λh=>j (ai (n17+1)) h/\f (ai (n17+1)) h<f n17 b
def Cw(i:U)(n34:Int)(b:J)(e:J)(j:Int->U2)(f:Int->J->Nat):Prop:=aQ i n34 λk=>aJ b (aV k n34 1) λl=>b1 b λc d=>c2 d c e 2 λm=>bU
 46 #[l] c λn a=>aa d c a/\au (a.alloc (.cells #[n] 39)) λg=>aa d a g/\ap 93 m (.slice (some (ae a)) 1 1) g λo p=>st p ((ae e).add 2) o λh=>j (ai (n34+1)) h/\f (ai (n34+1)) h<f n34 b
def tg(a:J)(w:J)(Q:U0):Prop:=aW a (ae w) λb=>av a w 1 λc=>av a w 2 λd=>av a w 3 λe=>Q (.tuple #[.agg #[b,c,d,e],(4:Int)]) a
def vI(f:U)(g:J)(b:J)(h:U1)(w:J)(i:U)(j:Int->U2)(a:Int)(c:Int->J->Nat)(k:J):Prop:=ap 174 f (.slice (some (ae
 g)) 1 1) b λl d=>aa h b d/\xs w λgS=>st d gS i λm=>xs w λih=>st m (ih.add 1) l λe=>j (ai (a+1)) e/\c (ai (a+1)) e<
 c a k
def yX(j:Y)(k:J)(d:an ax)(l:U2)(e:J->Nat)(m:J):Prop:=∃n15:Int,∃n:Y,∃f:J,Sem.run aj (Instr.entry (j)) k=.ok (.tuple #[n15,n])
 f/\b1 f λa g=>aE d λih=>dC g a (ih.add 4) λo=>mC 118 #[d,n15] a λb c=>aa g a c/\aQ o n15 λh=>c5 c (aV h n15 256) (Array.toList b)/\
 Array.size b=256/\au (setCells c (aV h n15 256) 0 (Array.toList b)) λi=>l i/\e i<e m
def th(b:J)(w:J)(c:Int)(d:Int)(e:U)(Q:U0):Prop:=bf b (ae w) [.int .i64 (ai c),aF d,e] 3 λa=>r1 a (ae w) λf=>bZ a w 1 λg=>
 av a w 2 λh=>Q (.tuple #[.agg #[f,aF g,h],U8]) a
def yY(e:J)(ah:J)(w1:J)(f:U2):Prop:=b1 e λb c=>c2 c b ah 3 λg=>b5 252 #[.pointer (some (ae w1)),(2:Int)] b λn14 a=>aa c b a/\au (a.alloc
 (.cells #[n14] 3)) λd=>aa c a d/\ap 72 g (.slice (some (ae a)) 1 1) d λh i=>st i ((ae ah).add 3) h λj=>f j
def yZ(c:U)(b:Int)(d:U)(f:Array Y):Prop:=∀e:J,Sem.run aj (Instr.build 169 #[(1,.slice (bj c.a 1 ((ai (b+1)).toNat) c.cap) (c.len-((ai (b+1)).toNat)) (c.cap
 -((ai (b+1)).toNat))),(3,.slice (bj d.a 1 ((ai (b+1)).toNat) d.cap) (d.len-((ai (b+1)).toNat)) (d.cap-((ai (b+1)).toNat)))]) e=.ok (.agg f) e
def y0(c:U)(b:Int)(d:U)(f:Array Y):Prop:=∀e:J,Sem.run aj (Instr.build 169 #[(0,true),(1,.slice (bj c.a 1 (b.toNat) c.cap) (c.len-(b.toNat)) (c.cap-
 (b.toNat))),(2,.slice (bj d.a 1 (b.toNat) d.cap) (d.len-(b.toNat)) (d.cap-(b.toNat)))]) e=.ok (.agg f) e
def y1(e:U)(f:U)(b:J)(g:U1)(h:an Nat)(i:Int)(d:an ax)(Q:U0):Prop:=ap 124 e f b λj
 c=>aa g b c/\∃a:J,Sem.run aj (Instr.mapUpdate 125 (.map h) i j) c=.ok () a/\aE d λa23=>r1 a (a23.add 6) λn24=>aE d λk=>st
 a (k.add 6) (.int .i64 (ai (n24+1))) λl=>Q (0:Int) l
def y2(a:J)(w:J)(Q:U0):Prop:=r1 a (ae w) λn35=>aT a w 1 λn36=>aT a w 2 λn37=>bZ a w 3 λn38=>bZ a w 4 λn39=>aT a w 5 λn40=>Q (.tuple #[.agg #[n35,n36,n37,aF n38,aF n39,n40],U8,aF 0,(4:Int)]) a
def y3(a:U):Prop:=(0:Int)<=(ai (232-(a.len:Int)))/\((ai (232-(a.len:Int))):Int)<=(ai (232-(a.len:Int)))/\((ai (232-(a.len:Int))):Int)<=ly/\((1:Nat):Int)*(ai (232-(a.len:Int)))<=
 140737488355328
def y4(a:J)(c:U)(d:J)(e:U)(f:J)(b:U)(g:U->U2):Prop:=au (a.alloc (.cells #[c,.slice (some (ae d)) (Int.toNat 4) (Int.toNat 4),e,.slice (some (ae f)) ((ai (232-(b.len:Int))).toNat) ((ai (232-(b.len:Int))).toNat)] 39)) λh=>bU 103 #[.slice (some (ae a)) 4 4] h λi j=>g i j
def y5(d:an ax)(a:J)(Q:U0):Prop:=aE d λe=>∃b:an Nat,a.cell? (e.add 5)=some (.map b)/\∃ (f:Y) (c:J),Sem.run aj (Builtin.clear_
 #[125] 0 #[.map b]) a=.ok f c/\Q (0:Int) c
def y6(b:U)(d:Int)(c:U)(f:Array Y):Prop:=∀e:J,Sem.run aj (Instr.build 169 #[(0,true),(1,.slice (bj b.a 1 0 b.cap) ((d.toNat)-0) (b.cap-0)),(2,.slice (bj
 c.a 1 0 c.cap) ((d.toNat)-0) (c.cap-0))]) e=.ok (.agg f) e
def y7(b:U)(d:Int)(c:U)(f:Array Y):Prop:=∀e:J,Sem.run aj (Instr.build 169 #[(1,.slice (bj b.a 1 0 b.cap) ((d.toNat)-0) (b.cap-0)),(3,.slice (bj c.a 1 0
 c.cap) (((ai (d+1)).toNat)-0) (c.cap-0))]) e=.ok (.agg f) e
def vJ(w:J)(b:U)(Q:U0):Prop:=cW 0 w λe d a c=>af (decide (a<(b.len:Int))) (aQ b a λa5=>bA c (aV a5 a 1) λn6=>af (n6 !=0) (Q false c) (e (ai (a+1)) c/\d (ai (a
 +1)) c<d a c)) (Q true c)
def y8(ah:J)(w:J)(Q:U0):Prop:=r1 ah (ae w) λa=>aT ah w 1 λb=>aT ah w 2 λn5=>bZ ah w 3 λn6=>bZ ah w 4 λn7=>aT ah w 5 λn8=>Q (.agg #[a,b,n5,aF n6,aF n7,n8]) ah
def y9(a:J)(w1:J)(n12:Int)(b:Int->U2)(n13:Int):Prop:=av a w1 3 λc=>au (a.alloc (.cells #[n12] 3)) λd=>ap 72 c (.slice (some (ae
 a)) 1 1) d λe f=>st f ((ae w1).add 3) e λg=>b n13 g
def y_(b:J)(w:J)(a:O Y)(Q:U0):Prop:=c5 b (ae w) (Array.toList a.toArray)/\Array.size a.toArray=256/\au (setCells b (ae w) 0 (Array.toList a.toArray)) λc=>∃d:O
 Y,cv c (ae w) 0 256=some d/\Q (.agg d.toArray) c
def q2(j:Int)(Q:U0)(g:J)(c:an ax)(n41:Int)(d:J)(w:J)(up:an ax)(n36:Int)(n31:Int):Prop:=af (j !=0) (Q (.tuple #[(),U8,U8,
 j]) g) (aE c λu=>aJ g (u.add 2) λv=>au (g.alloc (.cells #[n41] 3)) λx=>ap 72 v (.slice (some (ae g)) 1 1) x λy z=>aE c λA=>st
 z (A.add 2) y λB=>b1 B λa b=>¬b ((ae d):ax).block/\aW a (ae d) λk=>av a d 1 λl=>av a d 2 λm=>av a d 3 λn=>¬b ((ae w):
 ax).block/\aW a (ae w) λo=>av a w 1 λp=>av a w 2 λq=>av a w 3 λr=>(au (a.alloc z3) λe=>aa b a e/\au (e.alloc z3) λh=>aa b e h/\bf h (ae a) [k,l,m,n] 4 λs=>aa b h s/\bf s (ae e) [o,p,q,r] 4 λ
 C=>cA up C n36 w d a e n31 Q c)/\(au (a.alloc z3) λf=>aa b a f/\au (f.alloc z3) λi=>aa b f i/\bf i (ae f) [k,l,m,
 n] 4 λt=>aa b i t/\bf t (ae a) [o,p,q,r] 4 λD=>cA up D n36 w d f a n31 Q c))
def vK(g:J)(w:J)(a:Int)(b:J)(w1:J)(ah:J)(Q:U0):Prop:=av g w 1 λv=>aQ v a λx=>aJ g (aV x a 1) λy=>bU 46
 #[y] g λi h=>aW h (ae w) λz=>af z (b1 h λc d=>c2 d c b 1 λj=>((0:Int)<=a/\a<=(j.cap:Int))/\c2 d c b 2 λk=>((0:Int)<=a/\a<=
 (k.cap:Int))/\∃l:Array Y,(y6 j a k l)/\c2 d c b 1 λm=>((0:Int)<=a/\a<=(m.len:Int))/\c2 d c b 2 λn=>((0:Int)<=a/\a<=(n.len:Int))/\∃o:Array Y,(y0
 m a n o)/\jB l c d o w1 ah Q i) (b1 h λe f=>c2 f e b 1 λp=>((0:Int)<=a/\a<=(p.cap:Int))/\c2 f e b 3 λq=>((0:Int)<=(ai (a+1))/\(ai (a+1))<=((q.cap
 :Nat):Int))/\∃r:Array Y,(y7 p a q r)/\c2 f e b 1 λs=>((0:Int)<=(ai (a+1))/\(ai (a+1))<=(s.len:Int))/\c2 f e b 3 λt=>((0:Int)<=(ai (a+1))/\(ai (a+1))<=
 (t.len:Int))/\∃u:Array Y,(yZ s a t u)/\jB r e f u w1 ah Q i)
def px(c:ag)(d:U)(e:U)(f:U)(a:J)(g:U1)(h:J)(i:ag)(j:U)(k:U)(l:U)(m:J)(w:J)(key:U)(ah:J)(Q:U0):Prop:=gH
 183 #[.agg #[c,d,e,f]] a λn o p q b=>aa g a b/\b7 b h i j k l m n o p q w key ah
 Q
def za(d:J)(a:J)(b:Array Y)(w:J)(w1:J)(Q:U0):Prop:=c5 d (ae a) (Array.toList b)/\Array.size b=4/\au (setCells d (ae a) 0 (Array.toList b)) λe=>av
 e w 1 λf=>cW 0 e λi j n17 c=>af (decide (n17<(f.len:Int))) (Cv f n17 c a i j) (av c w 2 λg=>cW 0 c λk l n34 h=>af (decide (n34<(g.len:Int))) (Cw g n34 h a k l) (gJ
 h a w1 Q))
def zb(a:J)(w:J)(Q:U0)(n12:Int):Prop:=r1 a (ae w) λn13=>aT a w 1 λn14=>aT a w 2 λn15=>bZ a w 3 λn16=>bZ a w 4 λn17=>aT a w 5 λn18=>bf a (ae w) [n13,n14,n15,aF n16,aF n17,n18] 6 λb=>vH b w Q n12
set_option maxRecDepth 100000
def ad.py(s:U)(w:J)(Q:U0):Prop:=af (Option.isNone s.a) (Q () w) (au (w.alloc (.cells #[] 5)) λw1=>ap 39 (.slice (some (ae w)) 0 0) s w1 λs2 b=>Q s2 b)
def ay.py:aK:=fc
def ad.vL(s:U)(v:Int)(w:J)(Q:U0):Prop:=b5 154 #[s,v] w λa w1=>Q (.bool (decide (a>=0))) w1
def ay.vL:aK:=(.q (.q .l))
def ad.q3(a:U)(b:U)(w:J)(Q:U0):Prop:=∃s1:ByteArray,∃ah:J,Sem.run aj (convert 39 9 a) w=.ok (.string s1) ah/\∃c:ByteArray,∃d
 :J,Sem.run aj (convert 39 9 b) ah=.ok (.string c) d/\Q (.bool (ByteArray.toList s1==ByteArray.toList c)) d
def ay.q3:aK:=(.q (.q .l))
def ad.vM(m:an Nat)(w:J)(Q:U0):Prop:=au (w.alloc (.cells #[.map m] 125)) λw1=>Q (.func (.func
 189) #[] #[.pointer (some (ae w))]) w1
def ay.vM:aK:=(.q (.q .l))
theorem ad.GI(m:an Nat)(w:J)(Q:U0)(h:ad.vM m w Q):aI aj 133 #[.map m] w Q:=okF (λw Q=>ad.vM m w Q) ay.vM func133 h
def ad.pz(s:U)(f:iZ)(w:J)(Q:U0):Prop:=b5 190 #[s,.func (.func f.f) f.pre f.cap] w λa w1=>Q (.bool (decide (a>=
 0))) w1
def ay.pz:aK:=(.q (.q .l))
def ad.vN(c:U)(e:U)(w:J)(Q:U0):Prop:=af ((c.len:Int) !=(e.len:Int)) (Q false w) (cW 0 w λg f a d=>af (decide (a<(c.len:Int))) (au (d.drew) λ
 b=>aQ c a λee=>¬False/\r1 b (aV ee a 1) λn7=>aQ e a λeJ=>¬False/\r1 b (aV eJ a 1) λn9=>af (n7 !=n9) (Q false b) (g (ai (a+1)) b/\f (ai (a+1)) b<f a d)) (Q true d))
def ay.vN:aK:=(.q (.s a1 (.s (.q (.bn (.loop [(13,(.int .i64))] [0,1,12] (.q (.s (.c .l .l) (.s (.bn (.q (.s (.e 8 false [0,0,502,3,0,0,1005004,7,1007003] [9016] [1,6,1017016,19,2,6,1021020,23,1023019] (.z 8 0
 .e)) (.c (.q .l) .l)))) .r)))))) (.q .l))))
def ad.vO(s:U)(w:J)(Q:U0):Prop:=af (decide ((s.len:Int)<2)) (Q s w) (cW 1 w λl g b e=>af (decide (b<(s.len:Int))) (au (e.drew) λc=>aQ s
 b λee=>¬False/\r1 c (aV ee b 1) λn7=>aQ s (ai (b-1)) λeJ=>¬False/\r1 c (eJ.add ((ai (b-1)).toNat*1)) λn9=>af (n7==n9) (((0:Int)<=b/\b<=(s.len:Int))/\gg b 1 c λm h n12 n13 f=>af
 (decide (n13<(((s.len-(b.toNat)):Nat):Int))) (aX (λi:Int->U2=>au (f.drew) λd=>∃fc:ax,(bj s.a 1 (b.toNat) s.cap)=some fc/\((0:Int)<=n13/\n13<(((s.len-(b.toNat)):Nat)
 :Int))/\¬False/\r1 d (aV fc n13 1) λn18=>∃ig:ax,(bj s.a 1 (b.toNat) s.cap)=some ig/\((0:Int)<=(ai (n13-1))/\(ai (n13-1))<(((s.len-(b.toNat)):Nat):Int))/\¬False/\r1 d (ig.add
 ((ai (n13-1)).toNat*1)) λn20=>af (n18 !=n20) (∃fu:ax,(bj s.a 1 (b.toNat) s.cap)=some fu/\((0:Int)<=n13/\n13<(((s.len-(b.toNat)):Nat):Int))/\r1 d (aV fu n13 1) λn22=>aQ s n12 λa23
 =>st d (aV a23 n12 1) n22 λn=>i (ai (n12+1)) n) (i n12 d)) (λ(n25:Int) j=>m n25 (ai (n13+1)) j/\h n25 (ai (n13+1)) j<h n12 n13 f)) (((0:Int)<=n12/\n12<=(s.len:Int))/\∃ (o:
 Y) (k:J),Sem.run aj (Builtin.clear_ #[72] 0 #[.slice (bj s.a 1 (n12.toNat) s.cap) (s.len-(n12.toNat)) (s.cap-(n12.toNat))]) f=.ok o k/\((0:Int)<=n12/\n12<=(s.cap:Int))
 /\Q (.slice (bj s.a 1 0 s.cap) ((n12.toNat)-0) (s.cap-0)) k)) (l (ai (b+1)) c/\g (ai (b+1)) c<g b e)) (Q s e))
def ay.vO:aK:=(.q (.s a1 (.s (.q (.bn (.loop [(3,(.int .i64))] [0] (.s (.q (.c .l .l)) (.s (.bn (.s (.e 9 false [0,0,502,3,0,0,6,1006004,8,1008003] [10016] [1,4,1017016,19,1,4,22,1022020,24,1024019] (.z 9 0 .e))
 (.c (.q (.s (.q (.bn (.loop [(3,(.int .i64)),(5,(.int .i64))] [0,4] (.s (.q (.c .l .l)) (.s (.dL [(3,(.int .i64))] [0,4,5] (.bn (.s (.e 9 false [0,0,502,3,0,0,6,1006004,8,1008003] [10035]
 [2004,1036035,38,2004,41,1041039,43,1043038] (.z 9 0 .e)) (.c (.q .r) .l)))) .r))))) (.q (.q .l)))) .l))) .r))))) (.q .l))))
def ad.vP(s:U)(v:Int)(w:J)(Q:U0):Prop:=cW 0 w λd c a b=>af (decide (a<(s.len:Int))) (aQ s a λa5=>r1 b (aV a5 a 1) λn6=>af (v==n6) (Q a b)
 (d (ai (a+1)) b/\c (ai (a+1)) b<c a b)) (Q (.int .i64 (-1)) b)
def ay.vP:aK:=g5
def ad.vQ(s:U)(w:J)(Q:U0):Prop:=af (Option.isNone s.a) (Q () w) (au (w.alloc (.cells #[] 5)) λw1=>ap 206 (.slice (some (ae w)) 0 0) s w1 λs2 b=>Q s2 b)
def ay.vQ:aK:=fc
def ad.vR(x:Int)(w:J)(Q:U0):Prop:=(0:Int)<=x/\∃c3:UInt8,yq (ByteArray.mk #[0,1,1,2,1,2,2,3,1,2,2,3,2,3,3,4,1,2,2,3,2,3,3,4,2,3,3,4,3,4,4,5,1,2,
 2,3,2,3,3,4,2,3,3,4,3,4,4,5,2,3,3,4,3,4,4,5,3,4,4,5,4,5,5,6,1,2,2,3,2,3,3,4,2,3,3,4,3,4,4,5,2,3,3,4,3,4,4,5,3,4,4,5,4,5,5,6,2,3,3,4,3,4,4,5,3,4,4,5,4,5,5,6,3,4,
 4,5,4,5,5,6,4,5,5,6,5,6,6,7,1,2,2,3,2,3,3,4,2,3,3,4,3,4,4,5,2,3,3,4,3,4,4,5,3,4,4,5,4,5,5,6,2,3,3,4,3,4,4,5,3,4,4,5,4,5,5,6,3,4,4,5,4,5,5,6,4,5,5,6,5,6,6,7,2,3,
 3,4,3,4,4,5,3,4,4,5,4,5,5,6,3,4,4,5,4,5,5,6,4,5,5,6,5,6,6,7,3,4,4,5,4,5,5,6,4,5,5,6,5,6,6,7,4,5,5,6,5,6,6,7,5,6,6,7,6,7,7,8]) (x.toNat)=some c3/\Q (.int .i64 (ai ((c3.toNat
 :Nat):Int))) w
def ay.vR:aK:=(.q (.q .l))
def ad.vS(s:U)(i:Int)(j:Int)(w:J)(Q:U0):Prop:=((0:Int)<=(s.len:Int)/\(s.len:Int)<=(s.cap:Int))/\((0:Int)<=j/\j<=(((Int.toNat (s.len:Int)):Nat):
 Int))/\((0:Int)<=i/\i<=(((j.toNat):Nat):Int))/\af (i==j) (Q s w) (au (w.drew) λw1=>((0:Int)<=i/\i<=(s.cap:Int))/\((0:Int)<=j/\j<=(s.len:Int))/\ap 93 (.slice
 (bj s.a 1 0 s.cap) ((i.toNat)-0) (s.cap-0)) (.slice (bj s.a 1 (j.toNat) s.cap) (s.len-(j.toNat)) (s.cap-(j.toNat))) w1 λs2 c=>((0:Int)<=(s.len:Int)/\(s.len:Int)<=(s2.cap:Int))/\((0:Int)<=
 (s2.len:Int)/\(s2.len:Int)<=(((Int.toNat (s.len:Int)):Nat):Int))/\∃ (c0:Y) (b:J),Sem.run aj (Builtin.clear_ #[93] 0 #[.slice (bj s2.a 1 (Int.toNat (s2.len:Int)) s2.cap) ((Int.toNat (s.len:Int))-
 (Int.toNat (s2.len:Int))) (s2.cap-(Int.toNat (s2.len:Int)))]) c=.ok c0 b/\Q s2 b)
def ay.vS:aK:=(.q (.q (.s a1 (.q (.s (.d 6 false [0,0,502,0,0,1004003,1005002,507] [0,0,502,0,0,1004003,1005002,1006003000] [7020,1] [1,2,1021020,1,3,1024023,1025022,27] (.z 6 0 (.tail [.r,.r]))) (.q (.q
 .l)))))))
def ad.q4(s:U)(f:iZ)(w:J)(Q:U0):Prop:=cW 0 w λg d a b=>af (decide (a<(s.len:Int))) (aQ s a λa5=>bA b (aV a5 a 1) λn6=>jN aj f.f/\Calls
 aj f.f (f.pre++ #[.int .u8 n6]++f.cap) b λh c=>∃e:ag,h=.returned e/\af e (Q a c) (g (ai (a+1)) c/\d (ai (a+1)) c<d a b)) (Q (.int .i64 (-1)) b)
def ay.q4:aK:=g5
theorem ad.Cx(s:U)(f:iZ)(w:J)(Q:U0)(h:ad.q4 s f w Q):aI aj 190 #[s,.func (.func f.f) f.pre f.cap] w Q:=okF (λw Q=>ad.q4 s f w Q) ay.q4 func190 h
def ad.vT(s:U)(i:Int)(v:U)(w:J)(Q:U0):Prop:=((0:Int)<=i/\i<=(s.len:Int))/\af ((v.len:Int)==0) (Q s w) (af (i==(s.len:Int)) (ap
 93 s v w λs1 ah=>Q s1 ah) (af (decide (((ai ((s.len:Int)+(v.len:Int))):Int)>(s.cap:Int))) (((0:Int)<=i/\i<=(s.cap:Int))/\
 ∃b:U,∃d:J,Sem.run aj (Builtin.append_ #[93,3] 93 #[.slice (bj s.a 1 0 s.cap) ((i.toNat)-0) (s.cap-0),.int .i64 (ai ((ai ((s.len:Int)+(v.len:Int)))-i))]) w=.ok b d/\((0:Int)<=i/\i<=(b.len:Int))/\∃n5:Int,∃e:J,Sem.run aj (Builtin.copy_ #[93,93] 3 #[.slice (bj b.a 1 (i.toNat) b.cap) (b.len-(i.toNat)) (b.cap-
 (i.toNat)),v]) d=.ok n5 e/\au (e.drew) λl=>((0:Int)<=(ai (i+(v.len:Int)))/\(ai (i+(v.len:Int)))<=(b.len:Int))/\((0:Int)<=i/\i<=(s.len:Int))/\∃n8:Int,∃f:J,
 Sem.run aj (Builtin.copy_ #[93,93] 3 #[.slice (bj b.a 1 ((ai (i+(v.len:Int))).toNat) b.cap) (b.len-((ai (i+(v.len:Int))).toNat)) (b.cap-((ai (i+(v.len:Int))).toNat)),.slice
 (bj s.a 1 (i.toNat) s.cap) (s.len-(i.toNat)) (s.cap-(i.toNat))]) l=.ok n8 f/\Q b f) (((0:Int)<=(ai ((s.len:Int)+(v.len:Int)))/\(ai ((s.len:Int)+(v.len:Int)))<=((s.cap:
 Nat):Int))/\((0:Int)<=(ai (i+(v.len:Int)))/\(ai (i+(v.len:Int)))<=(((((ai ((s.len:Int)+(v.len:Int))).toNat)-0):Nat):Int))/\∃g:ag,∃c:J,Sem.run aj (callFunc 248 #[v,.slice (bj (bj s.a 1 0 s.cap) 1 ((ai (i+(v.len:Int))).toNat) (s.cap-0)) ((((ai ((s.len:Int)+(v.len:Int))).toNat)-0)-((ai (i+(v.len:Int))).toNat)) ((s.cap-0)-((ai (i+
 (v.len:Int))).toNat))]) w=.ok (.value g) c/\af (!g) (au (c.drew) λm=>((0:Int)<=(ai (i+(v.len:Int)))/\(ai (i+(v.len:Int)))<=(((((ai ((s.len:Int)+(v.len:Int))).toNat)-0):Nat):Int))/\((0:Int)<=i/\i
 <=(((((ai ((s.len:Int)+(v.len:Int))).toNat)-0):Nat):Int))/\∃n13:Int,∃h:J,Sem.run aj (Builtin.copy_ #[93,93] 3 #[.slice (bj (bj s.a 1 0 s.cap) 1 ((ai (i+
 (v.len:Int))).toNat) (s.cap-0)) ((((ai ((s.len:Int)+(v.len:Int))).toNat)-0)-((ai (i+(v.len:Int))).toNat)) ((s.cap-0)-((ai (i+(v.len:Int))).toNat)),.slice (bj (bj s.a 1 0 s.cap) 1 (i.toNat) (s.cap-0))
 ((((ai ((s.len:Int)+(v.len:Int))).toNat)-0)-(i.toNat)) ((s.cap-0)-(i.toNat))]) m=.ok n13 h/\((0:Int)<=i/\i<=(((((ai ((s.len:Int)+(v.len:Int))).toNat)-0):Nat):Int))/\∃n15:Int,∃
 j:J,Sem.run aj (Builtin.copy_ #[93,93] 3 #[.slice (bj (bj s.a 1 0 s.cap) 1 (i.toNat) (s.cap-0)) ((((ai ((s.len:Int)+(v.len:Int))).toNat)-0)-(i.toNat)) ((s.cap-0)-
 (i.toNat)),v]) h=.ok n15 j/\Q (.slice (bj s.a 1 0 s.cap) (((ai ((s.len:Int)+(v.len:Int))).toNat)-0) (s.cap-0)) j) (((0:Int)<=(s.len:Int)/\(s.len:Int)<=(((((ai
 ((s.len:Int)+(v.len:Int))).toNat)-0):Nat):Int))/\∃n17:Int,∃k:J,Sem.run aj (Builtin.copy_ #[93,93] 3 #[.slice (bj (bj s.a 1 0 s.cap) 1 (Int.toNat (s.len:Int)) (s.cap-0))
 ((((ai ((s.len:Int)+(v.len:Int))).toNat)-0)-(Int.toNat (s.len:Int))) ((s.cap-0)-(Int.toNat (s.len:Int))),v]) c=.ok n17 k/\((0:Int)<=i/\i<=(((((ai ((s.len:Int)+
 (v.len:Int))).toNat)-0):Nat):Int))/\e6 249 #[.slice (bj (bj s.a 1 0 s.cap) 1 (i.toNat) (s.cap-0)) ((((ai ((s.len:Int)+(v.len:Int))).toNat)-0)-(i.toNat)) ((s.cap-0)-(i.toNat)),.int
 .i64 (v.len:Int)] k λn=>Q (.slice (bj s.a 1 0 s.cap) (((ai ((s.len:Int)+(v.len:Int))).toNat)-0) (s.cap-0)) n))))
def ay.vT:aK:=(.q (.q (.q (.s a1 (.q (.s a1 (.s (.q (.c (.q (.q (.s (.e 8 false [0,0,0,1002001,1003000,0,0,1006005,1007004] [9046] [10,2,8,1048047,1049046,1,2,1052051,1053050] (.z 8 0 .e)) (.q .l)))) .l))
 (.q (.s (.q (.c (.s (.e 8 false [0,0,0,1002001,1003000,0,0,1006005,1007004] [9069] [1,2,8,1071070,1072069,1,2,1075074,1076073] (.z 8 0 .e)) (.q (.q .l))) .l)) a3)))))))))
def ad.mF(a:U)(b:U)(w:J)(Q:U0):Prop:=∃bL:Int,∃ah:J,Sem.run aj (callFunc 259 #[a,b]) w=.ok (.value bL) ah/\Q bL ah
def ay.mF:aK:=(.q (.q .l))
def ad.vU(x:U)(target:U)(cmp:iZ)(w:J)(Q:U0):Prop:=gg 0 (x.len:Int) w λj e b c d=>af (decide (b<c)) ((0:Int)<=1/\∃ee:ax,x.a=
 some ee/\((0:Int)<=(ai (Int.fdiv (IntKind.wrap .u64 (ai (b+c))) (2^(min (Int.toNat 1) 64))))/\(ai (Int.fdiv (IntKind.wrap .u64 (ai (b+c))) (2^(min (Int.toNat 1) 64))))<(x.len:Int))/\aJ d (ee.add (Int.toNat (ai (Int.fdiv
 (IntKind.wrap .u64 (ai (b+c))) (2^(min (Int.toNat 1) 64))))*1)) λh=>jN aj cmp.f/\Calls aj cmp.f (cmp.pre++ #[.slice h.a h.len h.cap,.slice target.a target.len target.cap]++cmp.cap) d λl g=>∃
 n10:Int,l=.returned (.int .i64 n10)/\af (decide (n10<0)) (j (ai ((ai (Int.fdiv (IntKind.wrap .u64 (ai (b+c))) (2^(min (Int.toNat 1) 64))))+1)) c g/\e (ai ((ai (Int.fdiv (IntKind.wrap .u64 (ai (b+c))) (2^(min
 (Int.toNat 1) 64))))+1)) c g<e b c d) (j b (ai (Int.fdiv (IntKind.wrap .u64 (ai (b+c))) (2^(min (Int.toNat 1) 64)))) g/\e b (ai (Int.fdiv (IntKind.wrap .u64 (ai (b+c))) (2^(min (Int.toNat 1) 64)))) g<e b c
 d)) (aX (λk:ag->U2=>af (decide (b<(x.len:Int))) (aQ x b λgm=>aJ d (aV gm b 1) λi=>jN aj cmp.f/\Calls aj cmp.f (cmp.pre++ #[.slice i.a i.len i.cap,.slice target.a
 target.len target.cap]++cmp.cap) d λm n=>∃n16:Int,m=.returned (.int .i64 n16)/\k (n16==0) n) (k false d)) (λ(o:ag) p=>Q (.tuple #[.int .i64 b,.bool o]) p))
def ay.vU:aK:=(.q (.q (.q (.s (.bn (.loop [(9,(.int .i64)),(10,(.int .i64))] [0,1,2,8] (.s (.q (.c .l .l)) (.bn (.q (.q (.c .r .r))))))) (.s (.z [15,25]) .l)))))
def ad.vV(s:U)(f:iZ)(w:J)(Q:U0):Prop:=b5 260 #[s,.func (.func f.f) f.pre f.cap] w λa w1=>Q (.bool
 (decide (a>=0))) w1
def ay.vV:aK:=(.q (.q .l))
def ad.vW(s:U)(f:iZ)(w:J)(Q:U0):Prop:=b5 261 #[s,.func (.func f.f) f.pre f.cap] w λa w1=>Q (.bool (decide (a>=0))) w1
def ay.vW:aK:=(.q (.q .l))
def ad.vX(s:U)(w:J)(Q:U0):Prop:=af (Option.isNone s.a) (Q () w) (au (w.alloc (.cells #[] 3)) λw1=>ap 72 (.slice (some (ae w)) 0 0) s w1 λs2 b=>Q s2 b)
def ay.vX:aK:=fc
set_option maxRecDepth 100000
def ad.ti(s:U)(f:iZ)(w:J)(Q:U0):Prop:=cW 0 w λi g b c=>af (decide (b<(s.len:Int))) (aQ s b λa5=>aJ c (aV a5 b 1) λd=>jN aj f.f/\
 Calls aj f.f (f.pre++ #[.slice d.a d.len d.cap]++f.cap) c λj e=>∃h:ag,j=.returned (.bool h)/\af h (Q (.int .i64 b) e) (i (ai (b+1)) e/\g (ai (b+1)) e<g b c)) (Q (.int .i64 (-1)) c)
def ay.ti:aK:=g5
theorem ad.GJ(s:U)(f:iZ)(w:J)(Q:U0)(h:ad.ti s f w Q):aI aj 260 #[.slice s.a s.len s.cap,.func (.func f.f) f.pre f.cap] w Q:=okF (λw Q=>ad.ti s f w Q) ay.ti func260 h
def ad.tj(s:U)(f:iZ)(w:J)(Q:U0):Prop:=cW 0 w λg d a b=>af (decide (a<(s.len:Int))) (aQ s a λa5=>r1 b (aV a5 a 1) λn6=>jN aj f.f/\Calls
 aj f.f (f.pre++ #[.int .i64 n6]++f.cap) b λh c=>∃e:ag,h=.returned (.bool e)/\af e (Q (.int .i64 a) c) (g (ai (a+1)) c/\d (ai (a+1)) c<d a b)) (Q (.int .i64 (-1)) b)
def ay.tj:aK:=g5
theorem ad.GK(s:U)(f:iZ)(w:J)(Q:U0)(h:ad.tj s f w Q):aI aj 261 #[.slice s.a s.len s.cap,.func (.func f.f) f.pre f.cap] w Q:=okF (λw Q=>ad.tj s f w Q) ay.tj func261 h
def ad.vY(s:U)(w:J)(Q:U0):Prop:=af (Option.isNone s.a) (Q () w) (au (w.alloc (.cells #[] 39)) λw1=>ap 93 (.slice (some (ae w)) 0 0)
 s w1 λs2 b=>Q s2 b)
def ay.vY:aK:=fc
set_option maxRecDepth 100000
def ad.pA(n:Int)(w:J)(Q:U0):Prop:=af ((decide (n<16))||(decide (n>1600))) (Q (.tuple #[.pointer none,(1:Int)]) w) (((0:Int)<=n/\n<=n/\n<=ly/\((256:Nat):Int)*n<=
 140737488355328)/\au (w.alloc (.cells (ie aj 151 (n.toNat)) 151)) λw1=>∃b:an Nat,∃a:J,Sem.run aj (Instr.makeMap 125 none) w1=.ok (.map b) a/\∃fE:
 Array Y,Sem.run aj (Instr.build 129 #[(1,.slice (some (ae w)) (n.toNat) (n.toNat)),(2,.map b)]) a=.ok (.agg fE) a/\au (a.alloc (.cells fE 129)) λc=>xs a λee=>e6
 52 #[.pointer (some ee)] c λd=>Q (.tuple #[.pointer (some (ae a)),U8]) d)
def ay.pA:aK:=(.q (.s fU a3))
def ad.oh(d:an ax)(q:Int)(r:Int)(s:Int)(w:J)(Q:U0):Prop:=au (w.alloc (.cells #[q,r,aF s] 64)) λw1=>r1 w1
 (ae w) λbz=>aT w1 w 1 λt=>bZ w1 w 2 λu=>bR 53 #[d,.agg #[bz,t,aF u]] w1 λv k=>af (!v) (Q (.tuple #[.pointer none,(1:Int)]) k) (b5 55 #[d]
 k λn10 x=>gR 54 #[n10,(3:Int)] x λl n14 m=>af (n14 !=0) (Q (.tuple #[.pointer none,n14]) m) (bU 57 #[l] m λy z=>dY 56 #[(2:Int),
 .agg #[(4:Int),aF 1,y]] z λA n21 f=>af (n21 !=0) (Q (.tuple #[.pointer none,n21]) f) (((0:Int)<=256/\(256:Int)<=256/\(256:Int)<=ly/\((1:Nat):Int)*256<=
 140737488355328)/\au (f.alloc (.cells (ie aj 5 (Int.toNat 256)) 5)) λh=>∃n:Array Y,Sem.run aj (Instr.build 138 #[(0,.slice (some (ae f)) (Int.toNat 256) (Int.toNat 256)),(1,
 .slice (some (ae f)) (Int.toNat 256) (Int.toNat 256)),(2,A)]) h=.ok (.agg n) h/\cW 0 h λB o n26 i=>af (decide (n26<3)) (((0:Int)<=n26/\n26<((3:Nat):Int))/\∃g:U,cellAt
 n (n26.toNat*1)=some (.slice g.a g.len g.cap)/\b5 58 #[d,n26,g] i λn31 j=>af (n31 !=0) (Q (.tuple #[.pointer none,n31]) j) (B (ai
 (n26+1)) j/\o (ai (n26+1)) j<o n26 i)) (b5 59 #[d] i λn34 b=>af (n34 !=0) (Q (.tuple #[.pointer none,n34]) b) (au (b.alloc eo) λC=>bf C (ae b) [U8,U8,(2:Int),aF 0,aF 0,U8] 6 λe=>r1 e (ae b) λn37=>aT e b 1 λn38=>aT e b 2 λn39=>bZ e b 3 λn40=>bZ e b 4 λn41=>aT e b 5 λD=>b5 60 #[.pointer
 d,.agg #[n37,n38,n39,aF n40,aF n41,D],aF 1] e λp c=>af (p !=0) (Q (.tuple #[.pointer none,p]) c) (r1 c (ae w) λE=>aT c w 1 λF=>bZ c w 2 λ
 G=>r1 c (ae b) λH=>aT c b 1 λI=>aT c b 2 λK=>bZ c b 3 λL=>bZ c b 4 λM=>aT c b 5 λN=>gR 61 #[d,.agg #[E,F,aF G],
 .agg #[H,I,K,aF L,aF M,N],aF 1,l] c λO P R=>Q (.tuple #[O,P]) R))))))
def ay.oh:aK:=(.q (.s a1 (.q (.s a1 (.q (.s a1 (.q (.s (.q (.bn (.loop [(44,(.int .i64))] [0,3,6,43] a22))) (.s (.q a1) (.q ig))))))))))
theorem ad.GL(d:an ax)(a:Int)(b:Int)(c:Int)(w:J)(Q:U0)(h:ad.oh d a b c w Q):aI aj 21 #[d,.agg #[a,b,.int .u64 c]] w Q:=okF (λw Q=>ad.oh d a b c w Q) ay.oh func21 h
def ad.vZ(s:an ax)(key:U)(w:J)(Q:U0):Prop:=aX (λbJ:ag->U2=>af (Option.isNone s) (bJ true w) (bR 63 #[key] w λg ah=>bJ
 (!g) ah)) (λ(h:ag) a=>af h (Q (.tuple #[false,(1:Int)]) a) (aE s λeR=>aW a (eR.add 18) λi=>af i (Q (.tuple #[false,(8:Int)]) a) (aE s λa9=>∃d:an ax,a.cell? a9=some
 (d)/\vv 64 #[d,key] a λn j n15 b=>af (n15 !=0) (b5 65 #[s,n15] b λn18 k=>Q (.tuple #[false,n18])
 k) (af (!j) (Q (.tuple #[false,U8]) b) (b5 66 #[s] b λn21 c=>af (n21==0) (Q (.tuple #[false,(2:Int)]) c) (aE s λa22=>∃e:an ax,c.cell? a22=some
 (e)/\vw 67 #[e,key] c λo n27 f=>af (n27 !=0) (b5 65 #[s,n27] f λn30 l=>Q (.tuple #[false,n30])
 l) (b5 68 #[s,.int .i64 (-1)] f λn33 m=>Q (.tuple #[.bool (n33==0),n33]) m)))))))
def ay.vZ:aK:=(.q (.s (.bn (.s (.z [9,10]) (.c (.q .l) a1))) (.q (.s (.bn (.q (.c (.q .l) gS))) (.s (.q a1) (.q (.q .l)))))))
def ad.v7(d:an ax)(l:U)(w:J)(Q:U0):Prop:=af (Option.isNone d) (Q (.tuple #[]) w) (bU 69 #[d] w λi w1=>cW 0 w1 λu j n6 a=>af (decide (n6<
 (i.len:Int))) (aX (λk:U2=>aQ i n6 λa9=>r1 a (aV a9 n6 1) λn10=>aX (λm:ag->U2=>af (decide (n6>=(l.len:Int))) (m true a) (aQ l n6 λgm=>r1 a (aV gm n6 1) λn13=>m (decide
 (n13<=0)) a)) (λ(v:ag) g=>af v (k g) (aE d λg5=>∃n:an Nat,g.cell? (g5.add 5)=some (.map n)/\∃h:U,∃o:J,Sem.run aj (Instr.lookup 125 (.map n) n10 false) g=.ok h o/\b1 o λc e=>aE d λa22=>dC e c (a22.add 4) λx=>aQ l n6 λy=>gI e c (aV y n6 1) λn25=>∃n26:Int,∃b:J,Sem.run aj
 (Builtin.min_ #[3,3] 3 #[n25,.int .i64 (h.len:Int)]) c=.ok n26 b/\aa e c b/\aQ h (ai (n26-1)) λp=>¬e (p.add ((ai (n26-1)).toNat*256)).block/\∃f:O
 Y,cv b (p.add ((ai (n26-1)).toNat*256)) 0 256=some f/\aQ x n10 λq=>c5 b (aV q n10 256) (Array.toList f.toArray)/\Array.size f.toArray=256/\au (setCells b (aV q n10 256) 0
 (Array.toList f.toArray)) λz=>k z))) (λr=>u (ai (n6+1)) r/\j (ai (n6+1)) r<j n6 a)) (aE d λA=>∃s:an Nat,a.cell? (A.add 5)=some (.map s)/\∃ (B:Y) (t:J),Sem.run
 aj (Builtin.clear_ #[125] 0 #[.map s]) a=.ok B t/\aE d λC=>e6 52 #[.pointer (some C)] t λD=>Q (.tuple #[]) D))
def ay.v7:aK:=(.s (.q (.c .l .l)) (.s (.q (.bn (.loop [(12,(.int .i64))] [0,1,10,11] (.q (.s (.c .l .l) (.s (.dL [] [0,1,10,11,12] (.bn (.q (.s (.s (.z [15,16]) (.c .l .l)) (.q (.d 16 true
 [0,3000,0,0,0,0,1007006,9,0,11,1011009,13,1013005,15,516,517] [0,3000,0,0,0,0,1007006,9,0,11,1011009,13,1013005,15,1004003,1016015] [17034,0] [1,3034,2005,2,5,1041040,43,7,45,1045043,47,1047039,49,1038037,1050049] (.z 12 0 (.bF 12 (.z 3 13
 (.tail [.r,.r])))))))))) .r)))))) (.q .r)))
def ad.q5(d:an ax)(i:Int)(j:Int)(k:Int)(w:J)(Q:U0):Prop:=au (w.alloc (.cells #[i,j,aF k] 64)) λw1=>r1 w1
 (ae w) λbz=>aT w1 w 1 λl=>bZ w1 w 2 λm=>bR 53 #[d,.agg #[bz,l,aF m]] w1 λn f=>af (!n) (Q (.tuple #[.pointer none,(1:Int)]) f) (oc 70 #[d] f
 λn10 n11 n12 n13 n14 n15 n16 n17 b=>au (b.alloc eo) λo=>bf o (ae b) [n10,n11,n12,aF n13,aF n14,n15] 6 λc=>af (n17 !=0) (Q (.tuple #[.pointer none,n17]) c)
 (aT c b 2 λn20=>gR 71 #[d,n20] c λp n24 a=>af (n24 !=0) (Q (.tuple #[.pointer none,n24]) a) (r1 a (ae w) λn25=>aT a w 1 λn26=>bZ a w 2 λn27=>r1 a (ae
 b) λn28=>aT a b 1 λn29=>aT a b 2 λn30=>bZ a b 3 λn31=>bZ a b 4 λn32=>aT a b 5 λn33=>gR 61 #[d,.agg #[n25,n26,aF n27],.agg #[n28,n29,n30,aF n31,aF n32,n33],aF n16,p] a λg n37 e=>af (n37 !=0) (Q (.tuple #[.pointer none,(4:Int)]) e) (aT e b 5 λn38=>b5 72 #[g,n38] e λn41 h=>af (n41 !=0) (Q (.tuple #[.pointer none,n41]) h) (Q (.tuple #[g,U8]) h)))))
def ay.q5:aK:=(.q (.s a1 (.q (.s a1 (.q (.s a1 (.q (.s a1 ig))))))))
def ad.v8(s:an ax)(key:U)(val:U)(w:J)(Q:U0):Prop:=aX (λbJ:ag->U2=>af (Option.isNone s) (bJ true w) (bR 63 #[key] w λg
 ah=>bJ (!g) ah)) (λ(h:ag) a=>af (h||(decide ((val.len:Int)>24))) (Q (1:Int) a) (aE s λeR=>aW a (eR.add 18) λi=>af i (Q (8:Int) a) (b5 66 #[s] a λn11 b=>af (n11
 ==0) (Q (2:Int) b) (aE s λgm=>∃e:an ax,b.cell? gm=some (e)/\vv 64 #[e,key] b λo j n18 c=>af (n18 !=0) (b5 65
 #[s,n18] c λn21 k=>Q n21 k) (aE s λa22=>∃f:an ax,c.cell? a22=some (f)/\b5 73 #[f,key,val] c λn26 d=>af (n26 !=0) (b5 65 #[s,n26] d λn29 l=>Q n29 l) (af j (b5 68 #[s,U8] d λn32 m=>Q n32 m)
 (b5 68 #[s,(1:Int)] d λn35 n=>Q n35 n)))))))
def ay.v8:aK:=(.q (.s (.bn (.s (.z [9,10,12,11]) (.c (.q .l) gS))) (.q (.s a1 (.s (.q a1) (.s a1 (.q .l)))))))
def ad.v_(s:an ax)(w:J)(Q:U0):Prop:=af (Option.isNone s) (Q (1:Int) w) (aE s λa1=>aW w (a1.add 18) λcu=>af cu (Q (8:Int) w) (b5 74 #[s]
 w λn5 a=>Q n5 a))
def ay.v_:aK:=(.q (.s (.bn gS) (.q .l)))
def ad.nk(d:an ax)(w:J)(Q:U0):Prop:=au (w.alloc gh) λw1=>af (Option.isNone d) (∃a7:Array Y,Sem.run aj (Instr.build 85 #[]) w1=.ok (.agg a7) w1/\c5 w1 (ae w)
 (Array.toList a7)/\Array.size a7=10/\au (setCells w1 (ae w) 0 (Array.toList a7)) λn=>∃o:O Y,cv n (ae w) 0 10=some o/\Q (.tuple #[.agg o.toArray,(1:Int)]) n) (∃p:an Nat,∃a:J,Sem.run
 aj (Instr.makeMap 156 none) w1=.ok (.map p) a/\∃q:Array Y,Sem.run aj (Instr.build 158 #[(2,.map p)]) a=.ok (.agg q) a/\au (a.alloc (.cells q 158)) λF=>b5
 55 #[d] F λn11 G=>cW 0 G λH r n14 k=>af (decide (n14<n11)) (dY 75 #[d,n14] k λI n19 f=>af (n19 !=0) (∃i:Array Y,Sem.run aj
 (Instr.build 85 #[]) f=.ok (.agg i) f/\c5 f (ae w) (Array.toList i)/\Array.size i=10/\au (setCells f (ae w) 0 (Array.toList i)) λs=>∃t:O Y,cv s (ae w) 0 10=some t/\Q
 (.tuple #[.agg t.toArray,n19]) s) (xs a λa23=>aJ f (a23.add 10) λK=>au (f.alloc (.cells #[I] 39)) λL=>ap 93 K (.slice (some
 (ae f)) 1 1) L λM N=>xs a λP=>st N (P.add 10) M λu=>H (ai (n14+1)) u/\r (ai (n14+1)) u<r n14 k)) (xs a λR=>st k (R.add 4) (.int .i64 (-1)) λe
 =>au (e.alloc eo) λS=>cW 0 S λT v n35 b=>af (decide (n35<2)) (aX (λg:U2=>oc 76 #[.pointer (some (ae a)),n35] b λn40 n41 U V W X x y h=>au
 (h.alloc eo) λZ=>bf Z (ae h) [n40,n41,U,aF V,aF W,X] 6 λaa=>b1 aa λab aG=>xs a λac=>((0:Int)<=n35/\n35<((2:Nat):Int))/\xs a λag=>st ab
 (Addr.add ac (n35.toNat*1)) y λah=>((0:Int)<=n35/\n35<((2:Nat):Int))/\st ah ((ag.add 2).add (n35.toNat*1)) (aF x) λak=>au (ak.drew) λc=>af (y==2) (xs a λal=>¬
 False/\r1 c (al.add 4) λam=>af (decide (am<0)) (af true (vF c h a n35 e g) (g c)) (xs a λao=>¬False/\r1 c (ao.add 4) λl=>xs a λaq=>((0:Int)<=l/\l<((2:Nat):Int))/\¬False/\
 c0 c ((aq.add 2).add (l.toNat*1)) λar=>af (decide (x>ar)) (vF c h a n35 e g) (g c))) (af false (vF c h a n35 e g) (g c))) (λz=>T (ai (n35+1)) z/\v (ai (n35+1)) z<
 v n35 b)) (aX (λA:U2=>xs a λav=>r1 b (av.add 4) λaw=>af (decide (aw>=0)) (aX (λB:U2=>aT b e 1 λay=>af (decide (ay>0)) (r1 b (ae e) λaz=>aT b e 1
 λaA=>e6 77 #[.pointer (some (ae a)),az,aA] b λaB=>B aB) (B b)) (λC=>aT C e 2 λaC=>e6 78 #[.pointer (some (ae a)),aC]
 C λaD=>A aD)) (A b)) (λm=>xs a λaE=>∃j:O Y,cv m aE 0 10=some j/\c5 m (ae w) (Array.toList j.toArray)/\Array.size j.toArray=10/\au (setCells m (ae w) 0
 (Array.toList j.toArray)) λD=>∃E:O Y,cv D (ae w) 0 10=some E/\Q (.tuple #[.agg E.toArray,U8]) D))))
def ay.nk:aK:=(.q (.s a1 (.q (.s (.q (.bn (.loop [(21,(.int .i64))] [0,2,4,20] (.q (.s (.c .l .l) (.s (.bn (.q (.q (.s a1 .r)))) .r)))))) (.q (.q (.s (.q (.bn (.loop [(49,(.int .i64))] [2,4,8] (.q (.s (.c .l .l) (.s (.dL
 [] [2,4,8,49] (.bn (.q (.q (.s (.d 14 true [0,0,0,0,0,0,1,2006,1000000000275,1000000000531,3,2011,1000000010239,1000000018431] [0,0,0,0,0,0,1,2006,1008001,1009004,3,2011,1013003,1014005] [10059,0,4069,0]
 [5,10,5,10,13,12,60,2065,1067060,1068063,62,2069,1071062,1072064] (.z 10 0 (.z 3 11 (.out 10 false (.tail [.r,.r]))))) (.s (.e 22 false
 [0,3000,1003002,1004002,1005002,1006002,1007002,1008002,10,10,10,1012009,1013009,1014009,1015009,1011009,1017009,1018009,1019016009,1020009,1021010009,1022009002,1023002] [25073]
 [13,2073,1075004,1076075,1077075,1078075,1079075,1080075,1081075,1082011,1082004,1082004,1085082,1086082,1087082,1088082,1084082,1090082,1091082,1092089082,1093082,1094083082,1095082075,1096075] (.z 3 0 (.sp 75 (.z 7 3 (.sp 82 (.z 12 10
 (.tail [.r,.r,.r])) (.z 12 10 (.tail [.r,.r,.r])))) (.z 19 3 (.tail [.r,.r,.r]))))) (.c (.d 7 true [0,0,0,502,1003001000,1004001000,1005001000,507] [0,0,0,1,2003,1005001,3] [6098,0,0] [5,2009,99,2101,1103099,1100008] (.z 6 0 (.bF 6
 .e))) .l))))))) .r)))))) (.s (.dL [] [2,4] (.q (.c (.s (.dL [] [2,4,8] (.q (.c .r .l))) .r) .l))) (.q .l)))))))))
theorem ad.GM(d:an ax)(w:J)(Q:U0)(h:ad.nk d w Q):aI aj 29 #[d] w Q:=okF (λw Q=>ad.nk d w Q) ay.nk func29 h
def ad.nm(l:Array Y)(w:J)(Q:U0):Prop:=au (w.alloc (.cells l 85)) λw1=>aT w1 w 4 λbz=>aX (λd:ag->U2=>af (decide (bz>=0)) (bR
 79 #[.slice (bj (some (ae w)) 1 0 2) (2-0) (2-0),(1:Int)] w1 λh i=>d (!h) i) (d false w1)) (λ(j:ag) a=>aX (λe:ag->U2=>af j (aT a w 7 λn10=>e (n10==0)
 a) (e false a)) (λ(k:ag) b=>aX (λf:ag->U2=>af k (aT b w 8 λn14=>f (n14==0) b) (f false b)) (λ(m:ag) c=>aX (λg:ag->U2=>af m (aT c w 9 λn18
 =>g (n18==0) c) (g false c)) (λ(n:ag) o=>Q n o))))
def ay.nm:aK:=(.q (.s (.z [12,13,15,10,12,10,12,10]) .l))
theorem ad.GN(l:Array Y)(w:J)(Q:U0)(h:ad.nm l w Q):aI aj 30 #[.agg l] w Q:=okF (λw Q=>ad.nm l w Q) ay.nm func30 h
def ad.wa(s:an ax)(w:J)(Q:U0):Prop:=au (w.alloc eo) λw1=>af (Option.isNone s) (bf w1 (ae w) [U8,U8,U8,aF 0,aF 0,U8] 6 λah=>y8 ah w Q)
 (aE s λa9=>r1 w1 (a9.add 7) λn10=>r1 w1 ((a9.add 7).add 1) λn11=>r1 w1 ((a9.add 7).add 2) λn12=>c0 w1 ((a9.add 7).add 3) λn13=>c0 w1 ((a9.add 7).add 4) λn14=>r1 w1 ((a9.add 7).add 5) λn15=>bf w1 (ae w)
 [n10,n11,n12,aF n13,aF n14,n15] 6 λa=>y8 a w Q)
def ay.wa:aK:=fc
def ad.tm(d:an ax)(i:Int)(a:Int)(g:Int)(w:J)(Q:U0):Prop:=bR 85 #[d,i] w λr w1=>af (((!r)||(decide (a<0)))||(decide (a
 >=256))) (Q false w1) (au (w1.drew) λb=>aE d λa5=>¬False/\aJ b (a5.add 4) λh=>aQ h i λeR=>((0:Int)<=a/\a<((256:Nat):Int))/\¬False/\bA b ((aV eR i 256).add (a.toNat*1)) λ
 n8=>aQ h i λa9=>((0:Int)<=a/\a<((256:Nat):Int))/\st b ((aV a9 i 256).add (a.toNat*1)) (.int .u8 (lk .u8 n8 g)) λj=>aE d λeV=>∃k:an Nat,j.cell? (eV.add 5)=some (.map
 k)/\∃l:U,∃m:J,Sem.run aj (Instr.lookup 125 (.map k) i false) j=.ok l m/\cW 0 m λs n n17 c=>af (decide (n17<(l.len:Int))) (b1
 c λo t=>aE d λfu=>¬t (fu.add 5).block/\∃p:an Nat,o.cell? (fu.add 5)=some (.map p)/\∃e:U,∃f:J,Sem.run aj (Instr.lookup 125 (.map p) i false)
 o=.ok e f/\∃u:U1,aQ e n17 λv=>((0:Int)<=a/\a<((256:Nat):Int))/\ky u f ((aV v n17 256).add (a.toNat*1)) λn27=>aQ e n17 λx=>((0:
 Int)<=a/\a<((256:Nat):Int))/\st f ((aV x n17 256).add (a.toNat*1)) (.int .u8 (lk .u8 n27 g)) λq=>s (ai (n17+1)) q/\n (ai (n17+1)) q<n n17 c) (Q true c))
def ay.tm:aK:=(.q (.s (.s (.z [15,8,9,8]) (.c (.q .l) .l)) (.s (.d 12 false [0,3000,0,0,1004003,1006005,8,0,1009008,1004003,512,1000000006143] [0,3000,0,0,1004003,1006005,8,0,1009008,1004003,1011005,1012010] [13022,0]
 [1,3022,2,3,1026025,1028027,30,4,1031030,1026025,1033027,1034032] (.z 12 0 (.tail [.r,.r]))) (.s (.q (.bn (.loop [(42,(.int .i64))] [0,1,2,3,41] (.q (.s (.c .l .l) (.s (.bn (.q (.d 14 true
 [0,3000,0,1004003,0,0,1006005,1008007,10,0,1011010,1006005,514,1000000024575] [0,3000,0,1004003,0,0,1006005,1008007,10,0,1011010,1006005,1013007,1014012] [15045,0] [1,3045,2,1049048,10,3,1051050,1053052,55,4,1056055,1051050,1058052,1059057]
 (.z 5 0 (.t 6 (.t 7 (.t 11 (.out 5 true (.z 3 8 (.t 12 (.t 13 (.tail [.r,.r])))))))))))) .r)))))) (.q .l)))))
theorem ad.GO(d:an ax)(i:Int)(a:Int)(b:Int)(w:J)(Q:U0)(h:ad.tm d i a b w Q):aI aj 34 #[d,i,a,.int .u8 b] w Q:=okF (λw Q=>ad.tm d i a b w Q) ay.tm func34 h
def ad.wc(f:an ax)(w:J)(Q:U0):Prop:=cW 0 w λe c a b=>af (decide (a<4)) (aE f λa5=>((0:Int)<=a/\a<((4:Nat):Int))/\st b (Addr.add a5 (a.toNat*1))
 (.int .i64 (-1)) λd=>e (ai (a+1)) d/\c (ai (a+1)) d<c a b) (Q (.tuple #[]) b)
def ay.wc:aK:=(.q (.bn (.loop [(3,(.int .i64))] [0] a2)))
def ad.pB(d:an ax)(l:Int)(m:Int)(n:Int)(w:J)(Q:U0):Prop:=au (w.alloc (.cells #[l,m,aF n] 64)) λw1=>aX (λ
 b4:ag->U2=>af (!(Option.isNone d)) (r1 w1 (ae w) λo=>b4 (decide (o>=8)) w1) (b4 false w1)) (λ(p:ag) a=>aX (λg:ag->U2=>af p (r1 a (ae w) λn7=>g (decide (n7<=64)) a) (g false
 a)) (λ(q:ag) b=>aX (λh:ag->U2=>af q (aT b w 1 λn11=>h (decide (n11>=1)) b) (h false b)) (λ(r:ag) c=>aX (λi:ag->U2=>af r (aT c w 1 λn15=>i
 (decide (n15<=1000)) c) (i false c)) (λ(s:ag) e=>aX (λj:ag->U2=>af s (bZ e w 2 λn19=>j (decide (n19>=1)) e) (j false e)) (λ(t:ag) f=>aX (λk:ag->U2
 =>af t (bZ f w 2 λn23=>k (decide (n23<=1048576)) f) (k false f)) (λ(u:ag) v=>Q u v))))))
def ay.pB:aK:=(.q (.s (.z [9,10,12,10,12,10,12,10,12,10,12,10]) .l))
def ad.q6(n:Int)(first:Int)(w:J)(Q:U0):Prop:=bR 109 #[n] w λf w1=>af (((!f)||(decide (first<0)))||(decide (first>n))) (Q (.tuple #[.pointer none,(1:Int)])
 w1) (b5 110 #[n] w1 λn6 c=>((0:Int)<=n6/\n6<=n6/\n6<=ly/\((1:Nat):Int)*n6<=140737488355328)/\au (c.alloc (.cells (ie aj 5 (n6.toNat)) 5)) λa=>au (a.alloc (.cells
 #[n,.slice (some (ae c)) (n6.toNat) (n6.toNat),()] 209)) λg=>cW 0 g λh d n11 b=>af (decide (n11<first)) (xs a λfw=>aJ b (fw.add 1) λi=>e6 111
 #[i,n11] b λe=>h (ai (n11+1)) e/\d (ai (n11+1)) e<d n11 b) (e6 112 #[.pointer (some (ae a))] b λj=>Q (.tuple #[.pointer (some (ae a)),U8]) j))
def ay.q6:aK:=(.q (.s (.s (.z [12,8,9,11]) (.c (.q .l) .l)) (.q (.s (.q (.bn (.loop [(27,(.int .i64))] [6,26] a2))) (.q (.q .l))))))
def ad.we(d:an ax)(w:J)(Q:U0):Prop:=af (Option.isNone d) (Q (0:Int) w) (aE d λa1=>aJ w (a1.add 4) λs2=>Q (.int .i64 (s2.len:Int)) w)
def ay.we:aK:=fc
def ad.wg(no:Int)(u:Int)(v:Int)(x:U)(w:J)(Q:U0):Prop:=au (w.alloc (.cells #[u,aF v,x] 137)) λw1=>bR
 113 #[no] w1 λy ah=>aX (λj:ag->U2=>af (!y) (j true ah) (r1 ah (ae w) λn6=>bR 114 #[n6] ah λz A=>j (!z) A)) (λ(B:ag) f=>af B (Q (.tuple #[(),(1:Int)]) f) (av f w 2 λC=>af (decide ((C.len:Int)>232)) (Q (.tuple #[(),(10:Int)]) f) (au (f.alloc (.cells #[.int .u8 83,.int .u8 84,.int .u8 78,.int .u8 67] 5)) λD=>∃
 k:U,∃g:J,Sem.run aj (convert 39 39 (.slice (some (ae f)) 4 4)) D=.ok k g/\r1 g (ae w) λn16=>au (g.alloc (.cells #[.int .u8 1,.int .u8 (IntKind.wrap .u8
 n16)] 5)) λl=>au (l.alloc (.cells #[k,.slice (some (ae g)) 2 2] 39)) λE=>bU 103 #[.slice (some (ae l)) 2 2] E λF m=>av m w 2 λG=>bU 115
 #[F,.int .u64 (IntKind.wrap .u64 (G.len:Int)),(2:Int)] m λH I=>bU 115 #[H,aF (IntKind.wrap .u64 no),(4:Int)] I λK n=>bZ n w 1 λn29=>bU
 115 #[K,aF n29,(8:Int)] n λo L=>aX (λp:U->U2=>b1 L λb d=>c2 d b w 2 λq=>c2 d b w 2 λe=>(((0:Int)<=4/\(4:Int)<=4/\(4:Int)<=
 ly/\((1:Nat):Int)*4<=140737488355328)/\au (b.alloc (.cells (ie aj 5 (Int.toNat 4)) 5)) λh=>aa d b h/\(y3 e)/\au (h.alloc (.cells (ie aj 5 ((ai (232-
 (e.len:Int))).toNat)) 5)) λr=>aa d h r/\y4 r o b q h e p)/\((y3 e)/\au (b.alloc (.cells (ie aj 5 ((ai (232-(e.len:Int))).toNat)) 5)) λi=>aa d b i/\((0:
 Int)<=4/\(4:Int)<=4/\(4:Int)<=ly/\((1:Nat):Int)*4<=140737488355328)/\au (i.alloc (.cells (ie aj 5 (Int.toNat 4)) 5)) λs=>aa d i s/\y4 s o i q b e p)) (λ(c:U)
 M=>b1 M λN V=>((0:Int)<=20/\20<=(c.len:Int))/\kc 116 #[c] N λO P=>∃W:U1,bU 115 #[(),aF (IntKind.wrap .u64 O),(4:Int)] P λ
 R S=>∃T:Int,∃t:J,Sem.run aj (Builtin.copy_ #[39,39] 3 #[.slice (bj c.a 1 (Int.toNat 20) c.cap) (c.len-(Int.toNat 20)) (c.cap-(Int.toNat 20)),R])
 S=.ok T t/\Q (.tuple #[c,U8]) t))))
def ay.wg:aK:=(.q (.s (.bn (.s (.z [12,13]) (.c (.q .l) a1))) (.q (.q (.q (.q (.s (.dL [(6,.slice)] [] (.d 9 true [0,0,0,3,0,4004,1000000000267,10,511] [0,0,0,3,0,4004,1000000000267,10,1010000] [11044,7]
 [7,0,4,47,4,4048,4698113673859072,2053] (.t 0 (.z 6 2 (.two 1 (.bF 8 (.tail [.r,.r,.r])) 8 (.bF 1 (.tail [.r,.r,.r]))))))) (.s (.d 6 true [0,1,0,2002,1004003,1005001] [0,1,0,3002,1005001] [7055] [7,56,7,3057,1060056] (.z 3 0 (.out 3
 true (.t 4 (.out 5 false .e))))) (.q .l)))))))))
def ad.tn(s:an ax)(w:J)(Q:U0):Prop:=af (Option.isNone s) (Q () w) (aE s λa1=>aJ w (a1.add 1) λs2=>bU 46 #[s2] w
 λa b=>Q a b)
def ay.tn:aK:=fc
theorem ad.GP(s:an ax)(w:J)(Q:U0)(h:ad.tn s w Q):aI aj 57 #[s] w Q:=okF (λw Q=>ad.tn s w Q) ay.tn func57 h
def ad.wh(d:an ax)(i:Int)(b:U)(w:J)(Q:U0):Prop:=bR 85 #[d,i] w λs w1=>af ((!s)||((b.len:Int) !=256)) (Q (1:Int) w1) (aE d λa4
 =>bR 117 #[.pointer (some a4),(2:Int)] w1 λt n=>af t (Q (3:Int) n) (b1 n λe c=>aE d λfU=>¬c (fU.add 5).block/\∃h:an Nat,e.cell? (fU.add 5)=some (.map h)/\aE d λgm=>
 ¬c (gm.add 5).block/\∃j:an Nat,e.cell? (gm.add 5)=some (.map j)/\256<=b.len/\∃gT:ax,b.a=some gT/\¬c gT.block/\∃k:O Y,cv e gT 0 256=some k/\(∃o:U,∃f:J,Sem.run
 aj (Instr.lookup 125 (.map j) i false) e=.ok o f/\aa c e f/\∃p:U,∃l:J,Sem.run aj (Instr.buildSlice 124 1 #[(0,.agg
 k.toArray)]) f=.ok p l/\aa c f l/\y1 o p l c h i d Q)/\(∃q:U,∃g:J,Sem.run aj (Instr.buildSlice 124 1 #[(0,.agg k.toArray)]) e=.ok q g/\aa c e g/\∃r:U,∃m:J,Sem.run aj (Instr.lookup 125 (.map j) i false) g=.ok r m/\aa c g m/\y1 r q m
 c h i d Q)))
def ay.wh:aK:=(.q (.s (.bn (.s (.z [15,11]) (.c (.q .l) a1))) (.s (.d 16 true [0,3000,0,0,3005,0,1009008,0,3011,1014010,516] [0,3000,0,0,3005,0,1009008,0,3011,1014010,1015004003] [16022,0]
 [1,3022,2,1,3027,2,1031030,3,3033,1036032,1037026025] (.z 10 0 (.z 3 11 (.two 10 (.bF 14 (.bF 15 .e)) 14 (.bF 10 (.bF 15 .e)))))) (.q (.q .l)))))
def ad.wi(d:an ax)(w:J)(Q:U0):Prop:=af (Option.isNone d) (Q (1:Int) w) (aE d λa1=>bR 117 #[.pointer (some a1),(3:Int)] w λj ah=>af j (Q (3:Int) ah) (aE d λa5=>∃g:an Nat,ah.cell? (a5.add 5)=some (.map g)/\∃ (a:Y) (h:J),Sem.run aj (Instr.range 125 (.map g)) ah=.ok a h/\∃ (c:U2) (i:J->Nat),c
 h/\∀ (b:J),c b->(∃ (k:Y) (l:Y) (e:J),Sem.run aj (Instr.next (a) false 0) b=.ok (.tuple #[true,k,l]) e/\af true (yX a e d c i b) (y5 d e Q))\/(∃f:J,
 Sem.run aj (Instr.next (a) false 0) b=.ok (.tuple #[false]) f/\af false (yX a f d c i b) (y5 d f Q))))
def ay.wi:aK:=(.q (.s (.bn gS) (.s (.q (.bn (.loop [] [0,16] (.q (.s (.c .l .l) (.bn (.s (.qJ [.uY [(.one (.int .i64)),(.one .any)]]) (.d 8 true [0,3000,0,0,0,1006005,508,509] [0,3000,0,0,0,1006005,1004003,1008007]
 [9021,0] [1,3021,4,1,4,1027026,1025024,1029028] (.z 7 0 (.bF 7 (.tail [.r,.r]))))))))))) (.q (.q .l)))))
def ad.om(d:an ax)(i:Int)(j:Int)(k:Int)(l:Int)(m:Int)(n:Int)(gen:Int)(w:J)(Q:U0):Prop:=au (w.alloc (.cells #[i,j,k,aF l,aF m,n] 90)) λw1=>(2:Int)≠0/\b1 w1 λah b=>¬b ((ae w):ax).block/\r1 ah (ae w) λo=>aT ah w 1 λn5=>aT ah w 2 λn6=>bZ ah w 3
 λn7=>bZ ah w 4 λn8=>aT ah w 5 λn9=>b5 55 #[d] ah λn12 c=>aa b ah c/\bU 119 #[.agg #[o,n5,n6,aF n7,aF n8,n9],n12] c λ
 p e=>∃q:U1,∃f:Array Y,(∀g:J,Sem.run aj (Instr.build 137 #[(0,.int .i64 3),(1,aF gen),(2,p)]) g=.ok (.agg f) g)/\dY 56 #[.int .i64
 (ai (Int.tmod gen 2)),.agg f] e λr n22 a=>aa q e a/\af (n22 !=0) (Q n22 a) (b5 58 #[d,.int .i64 (ai (Int.tmod gen 2)),r] a λn25 h=>af (n25
 !=0) (Q n25 h) (b5 59 #[d] h λn28 s=>Q n28 s))
def ay.om:aK:=(.q (.q (.s (.d 12 true [0,0,0,0,4,1004002,1005001,1006005000,2007,9,510,512] [0,0,0,0,4,1004002,1005001,1006000,2007,3008] [8015,15,2023,2008] [8,3,5,1,19,1019017,1020016,1021015,23,15,15,2023] (.z 4 0 (.bF 4
 (.out 5 true (.t 6 (.bF 7 (.z 4 8 .e))))))) (.s a1 ig))))
theorem ad.GQ(d:an ax)(a:Int)(b:Int)(c:Int)(e:Int)(f:Int)(g:Int)(gen:Int)(w:J)(Q:U0)(h:ad.om d a b c e f g gen w Q):aI aj 60 #[d,.agg #[a,b,c,.int .u64 e,.int .u64 f,g],.int .u64 gen] w Q:=okF (λw Q=>ad.om d a b c e f g gen w Q) ay.om func60 h
def ad.oo(d:an ax)(f:Int)(g:Int)(h:Int)(i:Int)(j:Int)(k:Int)(l:Int)(m:Int)(n:Int)(gen:Int)(s:an ax)(w:J)(Q:Y->J
 ->Prop):Prop:=au (w.alloc (.cells #[f,g,aF h] 64)) λw1=>au (w1.alloc (.cells #[i,j,k,aF l,aF m,n]
 90)) λah=>r1 ah (ae w) λo=>gR 120 #[d,o] ah λc n7 b=>af (n7 !=0) (Q (.tuple #[.pointer none,n7]) b) (r1 b (ae w1) λn8=>aT b w1 1 λn9=>gR 121
 #[c,s,.int .u64 (IntKind.wrap .u64 (gen+1)),n8,n9] b λp n13 a=>af (n13 !=0) (Q (.tuple #[.pointer none,n13]) a) (r1 a (ae w) λn14=>aT a w 1 λn15=>bZ a w
 2 λn16=>r1 a (ae w1) λn17=>aT a w1 1 λn18=>aT a w1 2 λn19=>bZ a w1 3 λn20=>bZ a w1 4 λn21=>aT a w1 5 λn22=>bZ a w1 3 λn23=>aT a w1 5 λn24=>∃e:Array Y,Sem.run
 aj (Instr.build 146 #[(0,p),(1,d),(2,c),(3,s),(4,.agg #[n14,n15,aF n16]),(5,.agg #[n17,n18,n19,aF n20,aF n21,n22]),(6,aF gen),(7,aF n23),(10,n24)]) a=.ok (.agg e) a/\au (a.alloc (.cells e 146)) λq=>Q (.tuple #[.pointer (some (ae a)),U8]) q))
def ay.oo:aK:=(.q (.q (.s a1 fc)))
theorem ad.GR(d:an ax)(a:Int)(b:Int)(c:Int)(e:Int)(f:Int)(g:Int)(i:Int)(j:Int)(k:Int)(gen:Int)(s:an ax)(w:J)(Q:U0)(h:ad.oo d a b c e f g i j k gen s w Q):aI aj 61 #[d,.agg #[a,b,.int .u64 c],.agg #[e,f,g,.int .u64 i,.int .u64 j,k],.int .u64 gen,s] w Q:=okF (λw Q=>ad.oo d a b c e f g i j k gen s w Q) ay.oo func61 h
def ad.q7(a:U)(w:J)(Q:U0):Prop:=Q (.bool ((decide ((a.len:Int)>=1))&&(decide ((a.len:Int)<=24)))) w
def ay.q7:aK:=eJ
def ad.wj(t:an ax)(key:U)(w:J)(Q:U0):Prop:=aX (λbJ:ag->U2=>af (Option.isNone t) (bJ true w) (bR 122 #[key] w λg ah=>bJ (!g)
 ah)) (λ(h:ag) f=>af h (af (Option.isNone t) (Q (.tuple #[(),false,(1:Int)]) f) (Q (.tuple #[(),false,U8]) f)) (dY 123 #[t,key] f λc n10 b=>af ((n10 !=0)||((c.len:Int)==0)) (Q (.tuple #[(),false,n10]) b) (∃eV:ax,c.a=some eV/\((0:Int)<=(ai ((c.len:Int)-1))/\(ai ((c.len:Int)-1))<
 (c.len:Int))/\aW b ((eV.add ((ai ((c.len:Int)-1)).toNat*6)).add 1) λi=>aJ b (((eV.add ((ai ((c.len:Int)-1)).toNat*6)).add 1).add 1) λj=>aJ b (((eV.add ((ai ((c.len:Int)-1)).toNat*6)).add
 1).add 2) λk=>aJ b (((eV.add ((ai ((c.len:Int)-1)).toNat*6)).add 1).add 3) λl=>au (b.alloc z3) λm=>bf m (ae b) [i,j,k,l] 4 λd=>aW d (ae b) λn=>av d b 1 λo=>av d b 2 λp=>av d b 3 λq=>lz 124 #[.agg #[n,o,p,q],key] d λn24 r e=>af (!r) (Q (.tuple #[(),false,U8]) e) (av e b 2 λs=>aQ s n24 λu=>aJ e (aV u n24 1) λv=>Q (.tuple #[v,true,U8]) e))))
def ay.wj:aK:=(.q (.s (.s (.z [9,10]) (.c (.s a1 (.q .l)) .l)) (.q (.s ij (.q fc)))))
set_option maxRecDepth 100000
def ad.wk(s:an ax)(w:J)(Q:U0):Prop:=aE s λa1=>∃bt:an ax,w.cell? a1=some (bt)/\jc 128 #[bt] w λn5 n6 a=>aE s λeR=>∃b:
 an ax,a.cell? (eR.add 3)=some (b)/\b5 129 #[b] a λn11 d=>∃n12:Int,∃c:J,Sem.run aj (Builtin.max_ #[3,3] 3 #[.int .i64 (ai ((ai (n11-(ai (2*n6))))
 -4)),U8]) d=.ok n12 c/\Q n12 c
def ay.wk:aK:=a3
def ad.wm(t:an ax)(key:U)(w:J)(Q:U0):Prop:=aX (λbJ:ag->U2=>af (Option.isNone t) (bJ true w) (bR 122 #[key] w λg ah=>bJ
 (!g) ah)) (λ(h:ag) f=>af h (Q (.tuple #[false,(1:Int)]) f) (dY 123 #[t,key] f λb n10 c=>af ((n10 !=0)||((b.len:Int)==0)) (Q (.tuple #[false,n10]) c) (∃eV:ax,b.a=some eV/\((0:Int)<=(ai ((b.len:Int)-1))/\(ai ((b.len:Int)-1))<(b.len:Int))/\aW c ((eV.add ((ai ((b.len:Int)-1)).toNat*6)).add 1) λi=>aJ c (((eV.add ((ai
 ((b.len:Int)-1)).toNat*6)).add 1).add 1) λj=>aJ c (((eV.add ((ai ((b.len:Int)-1)).toNat*6)).add 1).add 2) λk=>aJ c (((eV.add ((ai ((b.len:Int)-1)).toNat*6)).add 1).add 3) λl=>lA 130
 #[.agg #[i,j,k,l],key] c λm n o p q d=>au (d.alloc z3) λr=>bf r (ae d) [m,n,o,p] 4 λe=>af (!q) (Q (.tuple #[false,U8]) e) (aW e (ae d) λs=>av e d 1 λu=>av e d 2 λv=>av e d
 3 λx=>b5 131 #[t,b,.agg #[s,u,v,x]] e λn31 y=>Q (.tuple #[.bool (n31==0),n31]) y))))
def ay.wm:aK:=(.q (.s fw (.q (.s ij (.q fu)))))
def ad.wo(s:an ax)(keys:Int)(w:J)(Q:U0):Prop:=aE s λa1=>r1 w (a1.add 17) λbz=>aE s λa3=>st w (a3.add 17) (.int .i64 (ai (bz+keys))) λa=>aX (λc:J->
 Prop=>aE s λee=>r1 a (ee.add 16) λn7=>af (n7==0) (aE s λeJ=>c0 a (eJ.add 14) λn9=>aE s λfU=>st a (fU.add 15) (aF n9) λe=>c e) (c a)) (λd=>aE s λfw=>r1 d (fw.add 16) λn14=>aE
 s λij=>st d (ij.add 16) (.int .i64 (ai (n14+1))) λf=>au (f.drew) λb=>aE s λgS=>¬False/\r1 b (gS.add 16) λn19=>aE s λih=>¬False/\r1 b ((ih.add 4).add 1) λn21=>af (decide (n19>=n21))
 (b5 74 #[s] b λn24 g=>Q n24 g) (Q (0:Int) b))
def ay.wo:aK:=(.q (.q (.s (.dL [] [0] (.q (.c .r .l))) (.q (.s (.s (.e 9 false [0,3000,0,4004,1008003] [10032] [1,3032,1,4036,1040035] (.z 9 0 .e)) (.c (.q .l) .l)) (.q .l))))))
def ad.wq(d:an ax)(w:J)(Q:U0):Prop:=aE d λa1=>∃b:an Nat,w.cell? (a1.add 5)=some (.map b)/\Cl 133 #[.map b] w λa
 c=>bU 132 #[.func (.func a.f) a.pre a.cap] c λe g=>Q e g
def ay.wq:aK:=(.q (.q .l))
def ad.q8(d:an ax)(w:J)(Q:U0):Prop:=au (w.alloc eo) λw1=>Cq 0 false 0 w1 λq i f g n6 a=>af (decide (n6<2)) (aX (λh:Int->ag->U2=>dY 75
 #[d,n6] a λj n12 k=>af (n12 !=0) (zb k w Q n12) (bR 134 #[j,.func (.func 135) #[] #[]] k λr l=>af (!r) (h f g l) (vx
 136 #[n6,j] l λn31 n32 n33 n34 n35 n36 n37 n38 n39 c=>au (c.alloc eo) λs=>bf s (ae c) [n31,n32,n33,aF n34,aF n35,n36] 6
 λm=>af (n39 !=0) (zb m w Q n39) (b5 55 #[d] m λt b=>af (n37 !=t) (r1 b (ae w) λu=>aT b w 1 λv=>aT b w 2 λx=>bZ b w 3 λy=>bZ b w 4 λz=>aT b
 w 5 λA=>bf b (ae w) [u,v,x,aF y,aF z,A] 6 λB=>mE B w Q) (af ((!g)||(decide (n38>f))) (r1 b (ae c) λC=>aT b c 1 λD=>aT b c 2 λ
 E=>bZ b c 3 λF=>bZ b c 4 λG=>aT b c 5 λH=>bf b (ae w) [C,D,E,aF F,aF G,H] 6 λI=>h n38 true I) (h f g b)))))) (λ(n:Int)
 (o:ag) p=>q n o (ai (n6+1)) p/\i n o (ai (n6+1)) p<i f g n6 a)) (af (!g) (r1 a (ae w) λK=>aT a w 1 λL=>aT a w 2 λM=>bZ a w 3 λN=>bZ a w 4 λO=>aT a w 5 λP
 =>bf a (ae w) [K,L,M,aF N,aF O,P] 6 λe=>r1 e (ae w) λR=>aT e w 1 λS=>aT e w 2 λT=>bZ e w 3 λU=>bZ e w 4 λV=>aT e w 5 λ
 W=>Q (.tuple #[.agg #[R,S,T,aF U,aF V,W],aF 0,(6:Int)]) e) (r1 a (ae w) λX=>aT a w 1 λZ=>aT a w 2 λaa=>bZ a w 3 λab=>bZ a w 4 λac=>
 aT a w 5 λah=>bf a (ae w) [X,Z,aa,aF ab,aF ac,ah] 6 λaj=>vD aj w Q f))
def ay.q8:aK:=(.q (.q (.s (.q (.bn (.loop [(3,(.int .u64)),(5,.bool),(12,(.int .i64))] [0,2] (.q (.s (.c .l .l) (.s (.dL [(3,(.int .u64)),(5,.bool)] [0,2,12] (.bn (.q (.q (.s a1 (.s (.q (.c .l .l)) (.q (.bn (.q
 (.c (.q .l) (.q (.c (.q .l) (.s (.z [9,11]) (.c .r .l)))))))))))))) .r)))))) (.s a1 (.q .l)))))
def ad.q9(d:an ax)(no:Int)(w:J)(Q:U0):Prop:=dY 75 #[d,no] w λh e w1=>af (e !=0) (Q (.tuple #[.pointer none,e]) w1) (jR
 137 #[no,h] w1 λn7 n8 i n10 a=>au (a.alloc z4) λj=>bf j (ae a) [n7,aF n8,i] 3 λb=>af (n10 !=0) (Q (.tuple #[.pointer none,n10]) b) (r1 b (ae a) λn13=>af (n13 !=4) (Q (.tuple #[.pointer none,(4:Int)]) b) (b1 b λc f=>c2 f c a 2 λk=>b5 55 #[d] c λn19 g=>aa f c g/\gR 138
 #[k,n19] g λl n23 m=>Q (.tuple #[l,n23]) m)))
def ay.q9:aK:=(.q (.q (.s a1 (.q (.s a1 (.s a1 (.s (.d 7 true [0,1,0,3,1003001,5,5,507,508] [0,1,0,3,1003001,5,3004] [7030,2004] [9,31,1,33,1033031,35,3034] (.z 3 0 (.bF 3 (.out 4 false (.t 5 (.t 6 (.tail [.r,.r])))))))
 .l)))))))
def ad.wu(s:an ax)(keys:Int)(w:J)(Q:U0):Prop:=aE s λa1=>∃bt:an ax,w.cell? a1=some (bt)/\Cm 139 #[bt] w λg n6 n7 a=>af (n7
 ==3) (Q n7 a) (aE s λeJ=>r1 a ((eJ.add 7).add 2) λn9=>au (a.alloc (.cells #[U8,(1:Int),n9] 3)) λh=>ap 72 g (.slice (some (ae a)) 3 3) h λ
 c i=>e6 140 #[c] i λb=>aX (λd:ag->U2=>af ((n7 !=0)||(n6 !=keys)) (d true b) (aE s λg5=>∃e:an ax,b.cell? (g5.add 3)=some
 (e)/\bU 142 #[e] b λj k=>bR 141 #[c,j] k λl m=>d (!l) m)) (λ(n:ag) f=>af n (Q
 (4:Int) f) (Q (0:Int) f)))
def ay.wu:aK:=(.q (.q (.s a1 (.q (.q (.s (.s (.z [9,11,12,25]) (.c (.q .l) .l)) (.q .l)))))))
def ad.wv(t:an ax)(key:U)(val:U)(w:J)(Q:U0):Prop:=aX (λbJ:ag->U2=>af (Option.isNone t) (bJ true w) (bR 122 #[key] w λn ah
 =>bJ (!n) ah)) (λ(o:ag) k=>af (o||(decide ((val.len:Int)>24))) (Q (1:Int) k) (b1 k λh i=>aE t λa9=>¬i (a9.add 1).block/\∃l:an ax,h.cell? (a9.add 1)=some (l)/\aE t λeV
 =>gI i h (eV.add 4) λn12=>b5 129 #[l] h λn15 j=>aa i h j/\af (decide (n15<(ai ((ai (2*n12))+3)))) (Q (2:Int) j) (dY 123 #[t,key] j λb n19 c=>af (n19 !=0) (Q n19 c) (au (c.alloc z3) λp=>bf p (ae c) [true,(),(),()] 4 λd=>aX (λm:U2=>af (decide
 ((b.len:Int)>0)) (∃a23:ax,b.a=some a23/\((0:Int)<=(ai ((b.len:Int)-1))/\(ai ((b.len:Int)-1))<(b.len:Int))/\aW d ((a23.add ((ai ((b.len:Int)-1)).toNat*6)).add 1) λq=>aJ d (((a23.add
 ((ai ((b.len:Int)-1)).toNat*6)).add 1).add 1) λr=>aJ d (((a23.add ((ai ((b.len:Int)-1)).toNat*6)).add 1).add 2) λs=>aJ d (((a23.add ((ai ((b.len:Int)-1)).toNat*6)).add 1).add 3) λu=>bf
 d (ae c) [q,r,s,u] 4 λv=>m v) (m d)) (λg=>aW g (ae c) λx=>av g c 1 λy=>av g c 2 λz=>av
 g c 3 λA=>lA 143 #[.agg #[x,y,z,A],key,val] g λB C D E F e
 =>au (e.alloc z3) λG=>bf G (ae e) [B,C,D,E] 4 λf=>af (!F) (Q (4:Int) f) (aW f (ae e) λH=>av f e 1 λ
 I=>av f e 2 λK=>av f e 3 λL=>b5 131 #[t,b,.agg #[H,I,K,L]] f λ
 M N=>Q M N))))))
def ay.wv:aK:=(.q (.s (.bn (.s (.z [9,10,12,11]) (.c (.q .l) (.s (.d 11 true [0,4000,0,5005,1010004,1011004] [0,4000,0,5005,1010004,12] [12026,26] [1,4026,1,5031,1036030,38] (.z 4 0 (.z 6 5 (.bF 4 (.tail [.r,.r]))))) (.c
 (.q .l) .l))))) (.q (.s a1 (.q (.s (.dL [] [0,1,2,7,9] (.q (.c .r .l))) fc))))))
def ad.wx(s:an ax)(w:J)(Q:U0):Prop:=aE s λa1=>∃bt:an ax,w.cell? (a1.add 3)=some (bt)/\jc 144 #[bt] w λn5 n6 p=>af (n6 !=0)
 (b5 65 #[s,n6] p λn9 G=>Q n9 G) (au (p.drew) λi=>aE s λeV=>¬False/\∃q:an ax,i.cell? (eV.add 3)=some (q)/\aE s λfw=>¬False/\r1 i
 ((fw.add 7).add 2) λn14=>b5 145 #[q,n14] i λn17 H=>b1 H λd e=>aE s λih=>od e d (ih.add 13) λn21=>aE s λa22=>¬e (a22.add 3).block/\∃r:an ax,
 d.cell? (a22.add 3)=some (r)/\bU 57 #[r] d λI j=>aa e d j/\∃t:Array Y,(∀u:J,Sem.run aj (Instr.build 137 #[(0,.int .i64 4),(1,.int .u64
 (IntKind.wrap .u64 (n21+1))),(2,I)]) u=.ok (.agg t) u)/\dY 56 #[n5,.agg t] j λK n32 f=>aa e j f/\af (n32 !=0) (b5 65 #[s,n32] f λn35 L=>Q n35 L) (aE s λM=>∃v:an ax,f.cell? (M.add 2)=some (v)/\b5 146 #[v,n5,K] f λn40 k=>af
 (n40 !=0) (b5 65 #[s,n40] k λN O=>Q N O) (aE s λP=>∃x:an ax,k.cell? (P.add 2)=some (x)/\b5 147 #[x] k λ
 y l=>af (y !=0) (b5 65 #[s,y] l λR S=>Q R S) (aE s λT=>∃z:an ax,l.cell? T=some (z)/\jc 128 #[z] l
 λU V W=>b1 W λa g=>aE s λX=>od g a (X.add 14) λZ=>aE s λab=>od g a ((ab.add 7).add 4) λac=>aE s λag=>gI g a (ag.add 17) λah=>∃h:Array Y,(∀A:J,
 Sem.run aj (Instr.build 90 #[(0,U),(1,V),(2,n5),(3,aF Z),(4,.int .u64 (IntKind.wrap .u64 (ac+1))),(5,ah)]) A=.ok (.agg h) A)/\au (a.alloc eo) λm
 =>aa g a m/\c5 m (ae a) (Array.toList h)/\Array.size h=6/\au (setCells m (ae a) 0 (Array.toList h)) λai=>au (ai.drew) λb=>aE s λak=>¬False/\∃B:an ax,b.cell? (ak.add 1)=
 some (B)/\¬False/\r1 b (ae a) λal=>aT b a 1 λam=>aT b a 2 λao=>bZ b a 3 λap=>bZ b a 4 λaq=>aT b a 5 λar=>aE s λav=>¬False/\c0 b (av.add 13) λaw=>
 b5 60 #[B,.agg #[al,am,ao,aF ap,aF aq,ar],.int .u64 (IntKind.wrap .u64 (aw+1))] b λC n=>af (C !=0) (b5 65 #[s,C] n λay az=>Q ay az) (aE s λaA=>∃D:an ax,n.cell? (aA.add 3)=some (D)/\e6 112 #[D] n λaB=>b1 aB λc E=>¬E ((ae a):
 ax).block/\r1 c (ae a) λaC=>aT c a 1 λaD=>aT c a 2 λaG=>bZ c a 3 λaH=>bZ c a 4 λaI=>aT c a 5 λaJ=>aE s λaK=>od E c (aK.add 13) λaL=>aE s λaM=>bf
 c (aM.add 7) [aC,aD,aG,aF aH,aF aI,aJ] 6 λaN=>aE s λaO=>st aN (aO.add 13) (.int .u64 (IntKind.wrap .u64 (aL+1))) λaP=>aE s λaQ=>st aP (aQ.add 16)
 (0:Int) λaR=>au (aR.drew) λo=>aE s λaS=>¬False/\∃F:an ax,o.cell? aS=some (F)/\aE s λaU=>¬False/\c0 o (aU.add 13) λaV=>e6 148 #[.pointer
 F,.int .u64 (IntKind.wrap .u64 (aV+1))] o λaW=>Q (0:Int) aW)))))
def ay.wx:aK:=(.q (.q (.s a1 (.s (.e 9 false [0,3000,0,4004,1008003] [10025] [1,3025,1,4029,1033028] (.z 9 0 .e)) (.s (.d 17 true [0,0,4001,0,4006,1010005,1011010000,2012,14,515,517]
 [0,0,4001,0,4006,1010005,1011000,2012,3013] [13036,36,2049,6,5] [4,1,4037,1,4042,1046041,1047036,49,36,36,2049] (.z 10 0 (.bF 10 (.t 11 (.bF 12 (.z 4 13 .e)))))) (.s a1 (.s (.q a1) (.s (.q a1) (.q (.s (.d 19 true
 [0,0,0,0,3003,0,5007,0,3013,1000000069703,0,519] [0,0,0,0,3003,0,5007,0,3013,1000000069703,0,1018017] [18086,11,0] [2008,4,1,3089,1,5093,1,3099,5393008409894303832330853486592,0,1103010] (.z 18 0 (.bF 18 .e))) (.s (.s (.d 10 false
 [0,3000,0,0,4005,1009004003,511] [0,3000,0,0,4005,1009004003,11] [11104,12] [1,3104,11,1,4109,1113108107,115] (.z 10 0 (.tail [.r,.r]))) a1) (.q (.s (.d 15 true
 [0,0,0,0,0,4004,1007003000,1000000000649,1000000001161,1000000004091,1000000008187,1000000012283,515,516,1000000098303] [0,0,0,0,0,4004,1,10,1010003,2,13,1013008,3,2015] [11125,0,2136,0,2138,0]
 [1,1,1,11,1,4129,126,135,1135128,127,137,1137133,128,2138] (.z 11 0 (.out 11 false (.t 12 (.t 13 (.out 14 false (.tail [.r,.r,.r]))))))) (.s (.e 9 false [0,3000,0,4004,1008003] [10140] [1,3140,1,4144,1148143] (.z 9 0 .e)) (.q
 .l)))))))))))))))
def ad.wy(d:an ax)(i:Int)(w:J)(Q:U0):Prop:=bR 85 #[d,i] w λf w1=>af (!f) (Q (.tuple #[(),(1:Int)]) w1) (aE d λa4=>bR
 117 #[.pointer (some a4),(1:Int)] w1 λg c=>af g (Q (.tuple #[(),(3:Int)]) c) (mC 118 #[d,i] c λb a=>au (a.alloc z5) λe=>c5 e (ae a)
 (Array.toList b)/\Array.size b=256/\au (setCells e (ae a) 0 (Array.toList b)) λh=>Q (.tuple #[.slice (bj (some (ae a)) 1 0 256) (256-0) (256-0),U8]) h))
def ay.wy:aK:=(.q (.s (.bn gS) (.q (.q .l))))
def ad.tp(l:an ax)(no:Int)(w:J)(Q:U0):Prop:=au (w.alloc eo) λw1=>aE l λa2=>aJ w1 (a2.add 10) λf=>aQ f no λa4=>aJ w1 (aV a4 no 1) λd=>bR
 134 #[d,.func (.func 149) #[] #[]] w1 λg e=>af (!g) (bf e (ae w) [U8,U8,U8,aF 0,aF 0,U8] 6 λb=>r1 b (ae w)
 λn10=>aT b w 1 λn11=>aT b w 2 λn12=>bZ b w 3 λn13=>bZ b w 4 λn14=>aT b w 5 λn15=>Q (.tuple #[.agg #[n10,n11,n12,aF n13,aF n14,n15],aF 0,U8]) b)
 (oc 150 #[no,d] e λn18 n19 n20 n21 n22 n23 n24 n25 c=>au (c.alloc eo) λh=>bf h (ae c) [n18,n19,n20,aF n21,aF n22,n23] 6 λ
 i=>au (i.drew) λa=>af (n25 !=0) (af true (vG a w Q) (vE a c w Q n24)) (¬False/\r1 a (ae c) λj=>aE l λk=>¬False/\aJ a (k.add 10) λm=>af (decide (j>=(m.len:Int))) (af true (vG a w
 Q) (vE a c w Q n24)) (¬False/\aT a c 2 λn=>aE l λo=>¬False/\aJ a (o.add 10) λp=>af (decide (n>=(p.len:Int))) (vG a w Q) (vE a c w Q n24))))
def ay.tp:aK:=(.q (.q (.s a1 (.q (.s (.s (.d 20 false [0,3000,1003002,3,1005002,1006002,1007002,1008002,1009004002,1010002,1011002,13,1013012,13,1015012,1016012,1017012,1018012,1019014012,1020012]
 [0,3000,1003002,3,1005002,1006002,1007002,1008002,1009004002,1010002,2011,1013012,13,1015012,1016012,1017012,1018012,1019014012,1020012] [22029]
 [11,2029,1031008,1032031,1031000,1034031,1035031,1036031,1037031,1038033031,1039031,41,1041008,1042041,1041000,1044041,1045041,1046041,1047041,1048043041,1049041] (.z 3 0 (.sp 31 (.z 17 3 (.tail [.r,.r])) (.z 10 3 (.sp 41 (.z 7 13 (.tail
 [.r,.r])) (.z 7 13 (.tail [.r,.r]))))))) (.c (.q .l) .l)) (.q .l))))))
theorem ad.GS(l:an ax)(no:Int)(w:J)(Q:U0)(h:ad.tp l no w Q):aI aj 76 #[l,no] w Q:=okF (λw Q=>ad.tp l no w Q) ay.tp func76 h
def ad.tq(l:an ax)(root:Int)(aD:Int)(w:J)(Q:U0):Prop:=au (w.alloc (.cells #[root,aD] 248)) λw1=>Cr ⟨(some (ae w)),1,1⟩ w1 λn g
 d e=>af (decide ((d.len:Int)>0)) (b1 e λf h=>aQ d 0 λeJ=>gI h f (aV eJ 0 2) λn9=>aQ d 0 λfU=>gI h f ((aV fU 0 2).add 1) λn11=>bU 151 #[l,n9,n11] f
 λi o=>jd d 0 o λp j b n18 c=>af (decide (n18<(i.len:Int))) (aQ i n18 λih=>r1 c (aV ih n18 1) λn21=>aQ b 0 λa22=>r1 c ((aV a22 0 2).add 1) λn23=>au (c.alloc (.cells #[n21,.int .i64 (ai (n23-1))] 248)) λq=>ap 249 b (.slice (some (ae c)) 1 1) q λk m=>p k (ai (n18+1)) m/\j k (ai (n18+1)) m<j b n18 c) (((0:
 Int)<=1/\1<=(b.len:Int))/\n ⟨(bj b.a 2 (Int.toNat 1) b.cap),(b.len-(Int.toNat 1)),(b.cap-(Int.toNat 1))⟩ c/\g ⟨(bj b.a 2 (Int.toNat 1) b.cap),(b.len-(Int.toNat 1)),(b.cap-(Int.toNat 1))⟩ c<g
 d e)) (Q (.tuple #[]) e)
def ay.tq:aK:=(.q (.bn (.loop [(6,.slice)] [0] (.s (.q (.c .l .l)) (.s (.bn (.s (.e 12 true [0,0,3001,0,3005,1008004000,10,0] [12018] [1,7,3019,7,3023,1026022018,28,0] (.z 9 0 (.t 11 (.out 9 false (.t 10 .fin))))) (.bn
 (.loop [(6,.slice),(29,(.int .i64))] [0,27,28] a2)))) .r)))))
theorem ad.GU(l:an ax)(root:Int)(aD:Int)(w:J)(Q:U0)(h:ad.tq l root aD w Q):aI aj 77 #[l,root,aD] w Q:=okF (λw Q=>ad.tq l root aD w Q) ay.tq func77 h
def ad.tr(l:an ax)(no:Int)(w:J)(Q:U0):Prop:=aE l λa1=>aJ w (a1.add 10) λs2=>aQ s2 no λa3=>aJ w (aV a3 no 1) λz=>jR 137 #[no,z] w λn7 n8 A n10 b=>au (b.alloc z4) λB=>bf B (ae b) [n7,aF n8,A] 3 λC=>b1 C λc i=>c2 i c b 2 λD=>aE l λg5=>dC i c (g5.add 10) λ
 E=>gR 138 #[D,.int .i64 (E.len:Int)] c λn n21 d=>aa i c d/\aX (λo:ag->U2=>af ((n10 !=0)||(n21 !=0)) (o true d) (r1 d (ae b) λn23=>o (n23
 !=4) d)) (λ(F:ag) e=>af F (aE l λG=>r1 e (G.add 9) λn27=>aE l λH=>st e (H.add 9) (.int .i64 (ai (n27+1))) λI=>Q (.tuple #[]) I) (au (e.alloc (.cells #[no] 3)) λp
 =>aE l λK=>aJ p (K.add 12) λL=>ap 72 (.slice (some (ae e)) 1 1) L p λM N=>jd M 0 N λO q f n38 g=>af (decide (n38<2)) (au (g.alloc (.cells #[n38] 3)) λP=>ap 72 f (.slice (some (ae g)) 1 1) P λr s=>O r (ai (n38+1)) s/\q r (ai (n38+1)) s<q f n38 g) (e6 140 #[f] g λR=>bU 152 #[f] R λj S=>cW 0 S λT t a h=>af (decide (a<(j.len:Int))) (aX (λu:U2=>aQ j a λU=>r1
 h (aV U a 1) λV=>bR 153 #[n,V] h λW k=>af (!W) (aE l λX=>r1 k (X.add 8) λZ=>aE l λab=>st k (ab.add 8) (.int .i64 (ai (Z+1))) λac=>u
 ac) (u k)) (λv=>T (ai (a+1)) v/\t (ai (a+1)) v<t a h)) (b1 h λm x=>aE l λah=>gI x m (ah.add 8) λaj=>bU 142 #[n] m λak y=>aa x m y
 /\aE l λal=>st y (al.add 7) (.int .i64 (ai ((ak.len:Int)-(ai ((j.len:Int)-aj))))) λam=>Q (.tuple #[]) am))))
def ay.tr:aK:=(.q (.s (.d 12 true [0,1,0,4002,1006001,2007,9,510,512] [0,1,0,4002,1006001,2007,3008] [8025,25,2033,2006] [5,26,1,4027,1031026,33,25,25,2033] (.z 7 0 (.bF 7 (.z 4 8 .e)))) (.s (.s (.z [9,8,9,10]) (.c (.q
 .l) .l)) (.q (.s (.q (.bn (.loop [(8,.slice),(62,(.int .i64))] [0,6] a2))) (.q (.q (.s (.q (.bn (.loop [(76,(.int .i64))] [0,6,8,74,75] (.q (.s (.c .l .l) (.s (.dL [] [0,6,8,74,75,76] (.bn eV)) .r)))))) (.d 13 true
 [0,0,2,3,0,5,0,4006,1010005,1011003,513,514,1000000024575,1000000040959] [0,0,2,3,0,5,0,4006,1010005,1011003,1,2013,1015012] [16094,0] [1,7,2095,9,99,1,4100,1104099,1105097,95,2107,1109106] (.t 0 (.t 1 (.z 8 4 (.bF 2 (.t 3 (.t 12 (.tail
 [.r,.r,.r,.r]))))))))))))))))
theorem ad.GV(l:an ax)(no:Int)(w:J)(Q:U0)(h:ad.tr l no w Q):aI aj 78 #[l,no] w Q:=okF (λw Q=>ad.tr l no w Q) ay.tr func78 h
def ad.wz(d:an ax)(i:Int)(w:J)(Q:U0):Prop:=aX (λbJ:ag->U2=>af ((!(Option.isNone d))&&(decide (i>=0))) (aE d λa2=>aJ w (a2.add 4) λa=>bJ (decide (i<
 (a.len:Int))) w) (bJ false w)) (λ(b:ag) c=>Q b c)
def ay.wz:aK:=gm
def ad.wA(parts:U)(w:J)(Q:U0):Prop:=jd ⟨none,0,0⟩ 0 w λg d c a b=>af (decide (a<(parts.len:Int))) (aQ parts a λee=>aJ b (aV ee a 1) λh=>ap 39 c h b λe f=>g e (ai (a+1)) f/\d e (ai (a+1)) f<d c a b) (Q c b)
def ay.wA:aK:=(.q (.q (.s (.q (.bn (.loop [(3,.slice),(8,(.int .i64))] [6,7] a2))) (.q .l))))
def ad.l1(b:U)(g:Int)(size:Int)(w:J)(Q:U0):Prop:=pt 170 #[b,g,size] w λc h w1=>aX (λd:ag->U2=>af (!h) (d
 true w1) (bR 171 #[size] w1 λi j=>d (!i) j)) (λ(k:ag) e=>af k (Q (.tuple #[aF 0,false]) e) (gg 0 0 e λl f n13 n14 a=>af (decide (n14<(c.len:Int))) (aQ c n14 λg5=>bA
 a (aV g5 n14 1) λn17=>(0:Int)<=8/\l (nX .u64 (IntKind.wrap .u64 (n13*2^(min (Int.toNat 8) 64))) (IntKind.wrap .u64 n17)) (ai (n14+1)) a/\f (nX .u64 (IntKind.wrap .u64 (n13*2^(min (Int.toNat 8) 64)))
 (IntKind.wrap .u64 n17)) (ai (n14+1)) a<f n13 n14 a) (Q (.tuple #[aF n13,true]) a)))
def ay.l1:aK:=(.q (.q (.s fw (.q (.s (.q (.bn (.loop [(10,(.int .u64)),(29,(.int .i64))] [27,28] a2))) (.q .l))))))
def ad.wB(n:Int)(w:J)(Q:U0):Prop:=Q (.bool ((decide (n>=1))&&(decide (n<=1600)))) w
def ay.wB:aK:=a5
def ad.wC(n:Int)(w:J)(Q:U0):Prop:=(8:Int)≠0/\Q (.int .i64 (ai (Int.tdiv (ai ((ai (n+8))-1)) 8))) w
def ay.wC:aK:=(.q (.q .l))
def ad.wD(s:U)(no:Int)(w:J)(Q:U0):Prop:=au (w.drew) λw1=>(8:Int)≠0/\aQ s (ai (Int.tdiv no 8)) λa2=>¬False/\bA w1 (a2.add ((ai (Int.tdiv no 8)).toNat*1)) λa=>(8:
 Int)≠0/\(0:Int)<=(Int.tmod no 8)/\aQ s (ai (Int.tdiv no 8)) λa4=>st w1 (a4.add ((ai (Int.tdiv no 8)).toNat*1)) (.int .u8 (nX .u8 a (IntKind.wrap .u8 (1*2^(min ((Int.tmod no 8).toNat) 8))))) λb=>Q (.tuple
 #[]) b
def ay.wD:aK:=(.d 8 false [0,0,2,1002000,4,0,2005,1007004,509,510] [0,0,2,1002000,4,0,2005,1007004,1002000,1009008] [10004,0] [1,2,6,1006004,8,2,2009,1011008,1006004,1013012] (.z 8 0 (.tail [.r,.r,.r])))
def ad.tt(s:an ax)(w:J)(Q:U0):Prop:=af (!(Option.isNone s)) (aE s λa1=>aJ w (a1.add 1) λs2=>bU 173 #[s2] w λa b=>aE s
 λee=>st b (ee.add 2) a λc=>Q (.tuple #[]) c) (Q (.tuple #[]) w)
def ay.tt:aK:=(.q (.c .r .l))
theorem ad.GW(s:an ax)(w:J)(Q:U0)(h:ad.tt s w Q):aI aj 112 #[s] w Q:=okF (λw Q=>ad.tt s w Q) ay.tt func112 h
def ad.wE(no:Int)(w:J)(Q:U0):Prop:=Q (.bool ((decide (no>=0))&&(decide (no<1600)))) w
def ay.wE:aK:=a5
theorem ad.Cy(no:Int)(w:J)(Q:U0)(h:ad.wE no w Q):aI aj 113 #[no] w Q:=okF (λw Q=>ad.wE no w Q) ay.wE func113 h
def ad.wF(a:Int)(w:J)(Q:U0):Prop:=Q (.bool ((decide (a>=1))&&(decide (a<=4)))) w
def ay.wF:aK:=a5
theorem ad.Cz(a:Int)(w:J)(Q:U0)(h:ad.wF a w Q):aI aj 114 #[a] w Q:=okF (λw Q=>ad.wF a w Q) ay.wF func114 h
def ad.je(b:U)(n:Int)(size:Int)(w:J)(Q:U0):Prop:=bU 46 #[b] w λd w1=>bR 171 #[size] w1 λi e=>af (!i) (Q d e) (jd d (ai (size-1)) e λj f c n10 a=>af (decide (n10>=0)) ((0:Int)<=(ai (8*n10))/\au (a.alloc (.cells #[.int .u8 (IntKind.wrap .u8 (Int.fdiv n (2^(min ((ai (8*n10)).toNat) 64))))]
 5)) λk=>ap 39 c (.slice (some (ae a)) 1 1) k λg h=>j g (ai (n10-1)) h/\f g (ai (n10-1)) h<f c n10 a) (Q c a))
def ay.je:aK:=(.q (.q (.s a1 (.s (.q (.bn (.loop [(7,.slice),(8,(.int .i64))] [1] eR))) (.q .l)))))
def ad.pC(b:U)(w:J)(Q:U0):Prop:=au (w.drew) λw1=>((0:Int)<=20/\20<=(b.cap:Int))/\((0:Int)<=24/\24<=(b.len:Int))/\au (w1.alloc (.cells #[.slice (bj b.a 1 0 b.cap)
 ((Int.toNat 20)-0) (b.cap-0),.slice (bj b.a 1 (Int.toNat 24) b.cap) (b.len-(Int.toNat 24)) (b.cap-(Int.toNat 24))] 39)) λah=>kc 174 #[.slice (some (ae w1)) 2 2] ah λn5 c=>Q (.int .u32 n5) c
def ay.pC:aK:=(.q (.s (.d 4 false [0,1,0,3,1003001,5,506] [0,1,0,3,1003001,2004] [6003,3] [1,4,1,6,1006004,2007] (.z 4 0 (.tail [.r,.r,.r]))) .l))
def ad.wG(f:an ax)(a:Int)(w:J)(Q:U0):Prop:=aE f λa1=>((0:Int)<=a/\a<((4:Nat):Int))/\r1 w (Addr.add a1 (a.toNat*1)) λbz=>af (bz==(-1)) (Q false w) (af (bz==0) (aE f λa3=>((0:Int)<=a/\a<((4:Nat):Int))/\st w (Addr.add a3 (a.toNat*1)) (.int .i64 (-1)) λc=>Q true c) (au (w.drew) λb=>aE f λee=>((0:Int)<=a/\a<
 ((4:Nat):Int))/\¬False/\r1 b (Addr.add ee (a.toNat*1)) λn7=>aE f λeJ=>((0:Int)<=a/\a<((4:Nat):Int))/\st b (Addr.add eJ (a.toNat*1)) (.int .i64 (ai (n7-1))) λd=>Q false
 d))
def ay.wG:aK:=(.q (.s (.q (.bn (.q (.c (.q .l) (.q a9))))) (.s (.d 7 false [0,0,1,1002001,2003,1,507,1000000000191] [0,0,1,1002001,2003,1,1006001,1007005] [8018,0] [1,2,19,1020019,2021,19,1024019,1025023] (.z 7 0 (.tail
 [.r,.r]))) (.q .l))))
def ad.wH(d:an ax)(i:Int)(w:J)(Q:U0):Prop:=au (w.alloc z5) λw1=>aE d λa2=>∃e:an Nat,w1.cell? (a2.add 5)=some (.map e)/\∃b:U,∃c:J,Sem.run aj
 (Instr.lookup 125 (.map e) i false) w1=.ok b c/\af (decide ((b.len:Int)>0)) (∃ee:ax,b.a=some ee/\((0:Int)<=(ai ((b.len:Int)-1))/\(ai ((b.len:Int)-1))<
 (b.len:Int))/\∃f:O Y,cv c (ee.add ((ai ((b.len:Int)-1)).toNat*256)) 0 256=some f/\y_ c w f Q) (aE d λfU=>aJ c (fU.add 4) λg=>pr g i c 256 λh=>y_ c w h Q)
def ay.wH:aK:=(.q ig)
def ad.q_(f:Int)(g:Int)(h:Int)(i:Int)(j:Int)(k:Int)(l:Int)(w:J)(Q:U0):Prop:=au (w.alloc (.cells #[f,g,h,aF i,aF j,k] 90)) λw1=>r1 w1 (ae w) λbz=>bU 115 #[(),aF (IntKind.wrap .u64 bz),(4:Int)] w1 λm a=>aT a w 1 λn6=>bU 115 #[m,aF (IntKind.wrap .u64 n6),(1:Int)] a λn b=>aT b w 2 λn10=>bU 115 #[n,aF (IntKind.wrap .u64 n10),(4:Int)] b λo p=>bU 115 #[o,
 aF (IntKind.wrap .u64 l),(4:Int)] p λq c=>bZ c w 3 λn17=>bU 115 #[q,aF n17,(8:Int)] c λr d=>bZ d w 4 λn21=>bU 115 #[r,aF n21,(8:Int)] d λs e=>aT e w 5 λn25=>bU 115 #[s,aF (IntKind.wrap .u64 n25),(4:Int)] e λt u=>Q t u
def ay.q_:aK:=(.q (.q (.q (.q (.q a3)))))
def ad.ra(d:an ax)(al:Int)(w:J)(Q:U0):Prop:=af (((Option.isNone d)||(decide (al<8)))||(decide (al>64))) (Q (.tuple #[.pointer none,(1:Int)]) w) (((0:Int)<=al
 /\al<=al/\al<=ly/\((48:Nat):Int)*al<=140737488355328)/\au (w.alloc (.cells (ie aj 275 (al.toNat)) 275)) λw1=>au (w1.alloc (.cells #[d,.slice (some (ae w))
 (al.toNat) (al.toNat),U8] 268)) λah=>Q (.tuple #[.pointer (some (ae w1)),U8]) ah)
def ay.ra:aK:=(.q (.s (.s (.z [9,8,9,8]) (.c (.q .l) .l)) (.q .l)))
def ad.rf(c:an ax)(s:an ax)(gen:Int)(root:Int)(aD:Int)(w:J)(Q:U0):Prop:=aX (λbJ:ag->U2=>af (((((Option.isNone c)||(Option.isNone s))||(decide
 (aD<0)))||(decide (aD>12)))||(decide (root<0))) (bJ true w) (aE c λa2=>∃b:an ax,w.cell? a2=some (b)/\b5 55 #[b] w λn6 d=>bJ (decide (root>=n6)) d)) (λ(e:
 ag) a=>af (e||(!((root==0)==(aD==0)))) (Q (.tuple #[.pointer none,(1:Int)]) a) (au (a.alloc (.cells #[c,s,aF gen,root,aD] 243)) λf=>Q (.tuple #[.pointer
 (some (ae a)),U8]) f))
def ay.rf:aK:=(.q (.s (.s (.z [9,8,9,8,9,8,9,8,9,22,24,17]) (.c (.q .l) .l)) (.q .l)))
def ad.oq(a:U)(w:J)(Q:U0):Prop:=Q (.bool ((decide ((a.len:Int)>=1))&&(decide ((a.len:Int)<=24)))) w
def ay.oq:aK:=eJ
set_option maxRecDepth 100000
def ad.wI(t:an ax)(key:U)(w:J)(Q:U0):Prop:=aE t λa1=>r1 w (a1.add 3) λbz=>aE t λa3=>r1 w (a3.add 4) λq=>Cs ⟨none,0,0⟩ bz q w λr h f n8 n9 g=>af
 (decide (n9>0)) (kU 175 #[t,n8,.bool (n9==1)] g λs u v x n17 b=>au (b.alloc z3) λy=>bf y (ae b) [s,u,v,
 x] 4 λa=>af (n17 !=0) (Q (.tuple #[(),n17]) a) (aW a (ae b) λz=>av a b 1 λA=>av a b 2 λB=>av a b 3 λC=>∃d:Array Y,Sem.run
 aj (Instr.build 223 #[(0,n8),(1,.agg #[z,A,B,C])]) a=.ok (.agg d) a/\au (a.alloc (.cells #[U8,
 false,(),(),(),U8] 223)) λi=>c5 i (ae a) (Array.toList d)/\Array.size d=6/\au (setCells i (ae a) 0 (Array.toList d)) λc=>aX (λj:
 Int->U2=>af (decide (n9>1)) (aW c (ae b) λD=>av c b 1 λE=>av c b 2 λF=>av c b 3 λG=>b5 176 #[.agg #[D,E,F,
 G],key] c λn34 H=>st H ((ae a).add 5) n34 λe=>av e b 3 λI=>aT e a 5 λn37=>aQ I n37 λK=>r1 e (aV K n37 1) λn39=>
 j n39 e) (j n8 c)) (λ(n40:Int) k=>∃l:O Y,cv k (ae a) 0 6=some l/\∃m:U,∃n:J,Sem.run aj (Instr.buildSlice 219 1 #[(0,.agg l.toArray)]) k=.ok m n/\ap 219 f m n λo p=>r o n40 (ai (n9-1)) p/\h o n40 (ai (n9-1)) p<h f n8 n9 g))) (Q (.tuple #[f,
 .int .i64 0]) g)
def ay.wI:aK:=(.q (.q (.q (.s (.q (.bn (.loop [(6,.slice),(7,(.int .i64)),(8,(.int .i64))] [0,1] (.s (.q (.c .l .l)) (.s (.bn (.q (.s a1 (.q (.s (.dL [(7,(.int .i64))] [0,1,6,8,11] (.q (.c (.q .r) .l))) .r)))))
 .r))))) (.q .l)))))
def ad.rh(a:ag)(b:U)(c:U)(d:U)(key:U)(w:J)(Q:U0):Prop:=au (w.alloc (.cells #[a,b,c,d] 169)) λw1=>aW w1 (ae w) λcu=>av w1 w 1 λe=>av w1 w 2 λf=>av w1 w 3 λg=>lz 177 #[.agg #[cu,e,f,g],key] w1 λn8 h i=>Q (.tuple #[n8,h]) i
def ay.rh:aK:=(.q (.q .l))
def ad.wJ(c:an ax)(w:J)(Q:U0):Prop:=bU 178 #[c,.func (.func 179) #[] #[]] w λa w1=>Q a w1
def ay.wJ:aK:=(.q (.q .l))
def ad.wK(c:an ax)(no:Int)(w:J)(Q:U0):Prop:=jS 180 #[c,no] w λa w1=>aX (λb:ag->U2=>af (Option.isNone a) (b true w1) (aE
 a λa5=>r1 w1 (a5.add 4) λn6=>b (decide (n6>0)) w1)) (λ(e:ag) d=>af e (Q false d) (aE a λa9=>bf d a9 [false,false,false,U8,U8,()] 6 λf=>Q
 true f))
def ay.wK:aK:=(.q (.q (.s (.s (.z [9,16]) (.c (.q .l) .l)) (.q (.q .l)))))
def ad.wL(t:an ax)(w:J)(Q:U0):Prop:=af (Option.isNone t) (Q (.tuple #[U8,U8]) w) (au (w.drew) λw1=>aE t λa2=>¬False/\r1 w1 (a2.add 3) λa=>aE t λa4
 =>¬False/\r1 w1 (a4.add 4) λn5=>Q (.tuple #[a,n5]) w1)
def ay.wL:aK:=(.q (.s a1 (.s (.d 9 false [0,3000,0,3004,504,509] [0,3000,0,3004,4,8] [8006,2002] [1,3006,1,3010,10,14] (.z 9 0 .e)) .l)))
def ad.tu(s:an ax)(w:J)(Q:U0):Prop:=af (Option.isNone s) (Q (0:Int) w) (aE s λa1=>r1 w a1 λbz=>aE s λa3=>aJ w (a3.add 1) λf=>gg bz 0 w λg e n7 n8 c=>
 af (decide (n8<(f.len:Int))) (b1 c λa b=>aE s λgm=>dC b a (gm.add 1) λh=>aQ h n8 λgT=>ky b a (aV gT n8 1) λn15=>aE s λg5=>dC b a (g5.add 2) λi=>aQ i n8 λgS=>ky
 b a (aV gS n8 1) λn19=>b5 181 #[.int .u8 (nX .u8 n15 n19)] a λn22 d=>aa b a d/\g (ai (n7-n22)) (ai (n8+1)) d/\e (ai (n7-n22)) (ai (n8+1)) d<e n7 n8 c) (Q n7 c))
def ay.tu:aK:=(.q (.s a1 (.q (.s (.q (.bn (.loop [(3,(.int .i64)),(16,(.int .i64))] [0,15] (.q (.s (.c .l .l) (.s (.bn (.q (.d 17 true [0,0,3001,0,1005004,7,0,3008,0,1012011,14,1014007,16,1016000,518]
 [0,0,3001,0,1005004,7,0,3008,0,1012011,14,1014007,16,1016000,1017000] [18019,4] [4,1,3020,5,1024023,26,1,3027,5,1031030,33,1033026,35,1035019,37] (.z 16 0 (.bF 16 (.tail [.r,.r])))))) .r)))))) (.q .l)))))
theorem ad.GX(s:an ax)(w:J)(Q:U0)(h:ad.tu s w Q):aI aj 129 #[s] w Q:=okF (λw Q=>ad.tu s w Q) ay.tu func129 h
def ad.ri(f:ag)(g:U)(h:U)(i:U)(key:U)(w:J)(Q:U0):Prop:=au (w.alloc (.cells #[f,g,h,i] 169)) λw1=>au (w1.alloc z3) λah=>aW ah (ae w) λj=>av ah w 1 λk=>av ah w 2 λl=>av ah w 3 λm=>lz 177 #[.agg #[j,k,l,m],key] ah λn9 n c=>aW c (ae w) λo=>aX (λp:ag->U2=>q1 o p c w) (λ(q:ag) b=>af (q||
 (!n)) (bf b (ae w1) [false,(),(),()] 4 λr=>lB r w1 Q) (aW b (ae w) λs=>av b w 1 λt=>av b w 2 λu=>av b w 3 λv=>gH 183 #[.agg #[s,t,u,v]] b λx y z A a=>au (a.alloc z3) λB=>bf B (ae a) [x,y,z,A] 4 λd=>av d a 1 λC=>bU 184 #[C,n9,.int .i64 (ai (n9+1))] d λD E=>st E ((ae a).add 1)
 D λe=>av e a 2 λF=>bU 184 #[F,n9,.int .i64 (ai (n9+1))] e λG H=>st H ((ae a).add 2) G λI=>dD I a w1 Q))
def ay.ri:aK:=(.q (.q (.s (.s (.z [12,10,12,8]) (.c (.q .l) .l)) (.q a3))))
def ad.tv(t:an ax)(jT:U)(o:ag)(p:U)(q:U)(r:U)(w:J)(Q:U0):Prop:=au (w.alloc (.cells #[o,p,q,r] 169)) λw1=>au (w1.alloc (.cells #[U8] 32)) λah=>b1 ah λc g=>aE t λa5=>¬g
 (a5.add 1).block/\∃h:an ax,c.cell? (a5.add 1)=some (h)/\aE t λeR=>gI g c (eR.add 4) λn8=>b5 129 #[h] c λn11 d=>aa g c d/\af (decide (n11<(ai ((ai (2*n8))+
 3)))) (st d (ae w1) (2:Int) λi=>r1 i (ae w1) λn13=>Q n13 i) (au (d.alloc (.cells #[t,(),()] 284)) λa=>au (a.alloc (.cells #[.pointer none]
 282)) λs=>st s (ae a) (.pointer (some (ae d))) λb=>∃j:an ax,b.cell? (ae a)=some (j)/\aW b (ae w) λu=>av b w 1 λv=>av b w 2 λx=>av b w 3 λy=>
 qW 187 #[j,jT,.agg #[u,v,x,y]] b λn24 n25 n26 z=>st z (ae w1) n26 λ
 e=>r1 e (ae w1) λn28=>af (n28 !=0) (r1 e (ae w1) λn29=>st e (ae w1) n29 λA=>qS aj 185 #[.pointer (some (ae w1)),.pointer (some (ae a))] A λk=>r1 k (ae w1) λn32
 =>Q n32 k) (au (e.drew) λf=>¬False/\∃l:an ax,f.cell? (ae a)=some (l)/\¬False/\∃m:an ax,f.cell? (ae a)=some (m)/\aE m λB=>¬False/\aJ f
 (B.add 2) λC=>e6 186 #[l,C] f λD=>aE t λE=>st D (E.add 3) n24 λF=>aE t λG=>st F (G.add 4) n25 λH=>st H
 (ae w1) (0:Int) λI=>qS aj 185 #[.pointer (some (ae w1)),.pointer (some (ae a))] I λn=>r1 n (ae w1) λK=>Q K n))
def ay.tv:aK:=(.q (.s (.s (.e 11 true [0,4000,0,5005,1010004] [12010] [1,4010,1,5015,1020014] (.z 4 0 (.z 6 5 (.bF 4 .e)))) (.c (.q .l) .l)) (.q (.s .l (.q (.s a1 (.s (.e 5 false [0,0,3001,1004000] [6037] [8,8,3038,1041037]
 (.z 5 0 .e)) (.q (.q .l)))))))))
theorem ad.GY(t:an ax)(jT:U)(a:ag)(b:U)(c:U)(d:U)(w:J)(Q:U0):ad.tv t jT a b c d w Q=yO aj tk ay.tv Tryz.f131 [t,jT,.agg #[a,b,c,d]] w Q:=by kernel_rfl
theorem ad.GZ(t:an ax)(jT:U)(a:ag)(b:U)(c:U)(d:U)(w:J)(Q:U0)(h:ad.tv t jT a b c d w Q):Calls aj 131 #[t,jT,.agg #[a,b,c,d]] w λe w1=>∃v,e=.returned v/\Q v w1:=
 Gy yT func131 U3 (Eq.mp (ad.GY t jT a b c d w Q) h)
def ad.wM(c:Int)(w:J)(Q:U0):Prop:=Q (.bool (c !=0)) w
def ay.wM:aK:=(.q (.q .l))
theorem ad.G0(c:Int)(w:J)(Q:U0)(h:ad.wM c w Q):aI aj 135 #[.int .u8 c] w Q:=okF (λw Q=>ad.wM c w Q) ay.wM func135 h
def ad.pD(no:Int)(b:U)(w:J)(Q:U0):Prop:=au (w.alloc eo) λw1=>jR 137 #[no,b] w1 λs n5 t n7 ah=>au (ah.alloc z4) λu=>bf u (ae
 ah) [s,aF n5,t] 3 λc=>af (n7 !=0) (r1 c (ae w) λn10=>aT c w 1 λn11=>aT c w 2 λn12=>bZ c w 3 λn13=>bZ c w 4 λn14=>aT c w 5 λn15=>bf c (ae w) [n10,n11,n12,aF n13,aF n14,n15] 6 λf=>r1 f (ae w) λn17=>aT f w 1 λn18=>aT f w 2 λn19=>bZ f w 3 λn20=>bZ f w 4 λn21=>aT f w 5 λn22=>Q (.tuple #[.agg
 #[n17,n18,n19,aF n20,aF n21,n22],U8,aF 0,n7]) f) (r1 c (ae ah) λn23=>aX (λm:ag->U2=>af (n23 !=3) (m true c) (av c ah 2 λv=>m
 ((v.len:Int) !=33) c)) (λ(x:ag) a=>af x (r1 a (ae w) λn28=>aT a w 1 λn29=>aT a w 2 λn30=>bZ a w 3 λn31=>bZ a w 4 λn32=>aT a w 5 λn33=>bf a (ae w) [n28,n29,n30,aF n31,aF n32,n33] 6 λy=>y2 y w Q) (av a ah 2 λz=>au (a.alloc (.cells #[z,U8] 290)) λA=>ed 191 #[.pointer (some
 (ae a)),(4:Int)] A λB C=>ed 191 #[.pointer (some (ae a)),(1:Int)] C λD E=>ed 191 #[.pointer (some (ae a)),(4:Int)] E λF G=>st G (ae w) (.int .i64
 (ai B)) λH=>st H ((ae w).add 1) (.int .i64 (ai D)) λI=>st I ((ae w).add 2) (.int .i64 (ai F)) λK=>ed 191 #[.pointer (some (ae a)),(4:Int)] K λh L=>ed
 191 #[.pointer (some (ae a)),(8:Int)] L λM N=>ed 191 #[.pointer (some (ae a)),(8:Int)] N λO P=>ed 191 #[.pointer (some (ae a)),(4:Int)] P λ
 R S=>st S ((ae w).add 3) (aF M) λT=>st T ((ae w).add 4) (aF O) λV=>st V ((ae w).add 5) (.int .i64 (ai R)) λg=>r1 g (ae w) λW=>aT g w 1 λX=>aX (λn:ag->J->
 Prop=>af (!((W==0)==(X==0))) (n true g) (aT g w 1 λZ=>n (decide (Z>12)) g)) (λ(ab:ag) i=>aX (λo:ag->U2=>af ab (o true i) (r1 i (ae w) λac=>o (decide (ac>=
 (ai h))) i)) (λ(aj:ag) j=>aX (λp:ag->U2=>af aj (p true j) (aT j w 2 λak=>p (decide (ak>=(ai h))) j)) (λ(al:ag) k=>aX (λq:ag->U2=>af al (q true
 k) (aT k w 2 λam=>q (decide (am<2)) k)) (λ(an:ag) r=>af (an||(decide (((ai h):Int)>1600))) (bf r (ae w) [U8,U8,U8,aF 0,aF 0,U8] 6 λao=>y2 ao w Q) (b1
 r λd l=>¬l ((ae w):ax).block/\r1 d (ae w) λap=>aT d w 1 λaq=>aT d w 2 λar=>bZ d w 3 λaw=>bZ d w 4 λay=>aT d w 5 λaz=>vz l d ah 1 λaA=>bf d (ae w) [ap,aq,ar,aF aw,aF ay,az] 6 λe=>aa l d e/\r1 e (ae w) λaB=>aT e w 1 λaC=>aT e w 2 λaD=>bZ e w 3 λaE=>bZ e w 4 λaG=>aT
 e w 5 λaH=>Q (.tuple #[.agg #[aB,aC,aD,aF aE,aF aG,aH],.int .i64 (ai h),aF aA,U8]) e))))))))
def ay.pD:aK:=(.q (.q (.s a1 (.s ee (.q (.q (.q (.q (.s a4 (.s (.d 6 true [0,0,0,3,1,1004001000,506,507] [0,0,0,3,1,2,4,0] [4093,0,3005] [2004,9,96,1093004,95,97,0] (.z 4 0 (.bF 4 (.t 5 (.tail [.r,.r]))))) .l))))))))))
def ad.mG(no:Int)(b:U)(w:J)(Q:U0):Prop:=au (w.alloc z4) λw1=>af ((b.len:Int) !=256) (bf w1 (ae w) [U8,aF 0,()] 3 λah=>r1 ah (ae w) λs=>bZ ah w 1 λt
 =>av ah w 2 λu=>Q (.tuple #[.agg #[s,aF t,u],(9:Int)]) ah) (((0:Int)<=4/\4<=(b.cap:Int))/\∃h:ByteArray,∃c:J,Sem.run aj (convert 39 9
 (.slice (bj b.a 1 0 b.cap) ((Int.toNat 4)-0) (b.cap-0))) w1=.ok (.string h) c/\af (!(ByteArray.toList h==ByteArray.toList (ByteArray.mk #[83,84,78,67]))) (bf c (ae w) [U8,aF 0,()] 3 λv=>pw v
 w Q) (aQ b 4 λgm=>bA c (aV gm 4 1) λn13=>af (n13 !=1) (bf c (ae w) [U8,aF 0,()] 3 λd=>r1 d (ae w) λn15=>bZ d w 1 λn16=>av d w 2 λx=>Q (.tuple #[.agg #[n15,aF
 n16,x],(12:Int)]) d) (kc 116 #[b] c λn20 y=>ed 192 #[b,(20:Int),(24:Int)] y λn23 i=>af (((IntKind.wrap .u64 n20):
 Int) !=n23) (bf i (ae w) [U8,aF 0,()] 3 λe=>r1 e (ae w) λn25=>bZ e w 1 λn26=>av e w 2 λz=>Q (.tuple #[.agg #[n25,aF n26,z],(5:Int)]) e)
 (ed 192 #[b,(6:Int),(8:Int)] i λn30 j=>aQ b 5 λA=>bA j (aV A 5 1) λn32=>bR 114 #[.int .i64 (ai n32)] j λB k=>aX (λl:ag->U2=>af
 ((!B)||(decide (((ai n30):Int)>232))) (l true k) (((0:Int)<=(ai (24+(ai n30)))/\(ai (24+(ai n30)))<=(b.len:Int))/\bR 193 #[.slice (bj b.a 1 ((ai (24+(ai n30))).toNat) b.cap) (b.len-((ai (24
 +(ai n30))).toNat)) (b.cap-((ai (24+(ai n30))).toNat))] k λC D=>l (!C) D)) (λ(E:ag) m=>af E (bf m (ae w) [U8,aF 0,()] 3 λF=>pw F w Q) (bR 113 #[no] m
 λG n=>aX (λo:ag->U2=>af (!G) (o true n) (ed 192 #[b,(8:Int),(12:Int)] n λH I=>o (H !=(IntKind.wrap .u64 no)) I)) (λ(K:ag) p=>af
 K (bf p (ae w) [U8,aF 0,()] 3 λf=>r1 f (ae w) λL=>bZ f w 1 λM=>av f w 2 λN=>Q (.tuple #[.agg #[L,aF M,N],(1:Int)]) f) (pt
 194 #[b,(24:Int),.int .i64 (ai n30)] p λO V P=>b1 P λg q=>aQ b 5 λR=>ky q g (aV R 5 1) λS=>ed 192 #[b,(12:Int),(20:Int)] g λT r=>aa q g r/\th r w S T O Q))))))))
def ay.mG:aK:=(.q (.s (.bn (.q (.c (.q .l) (.q (.c (.q .l) gS))))) (.q (.s (.bn (.s (.z [21,8,9,19]) (.c (.q .l) (.s (.z [12,16]) (.c (.q .l) .l))))) (.q (.s (.d 7 true [0,3000,0,5,0,1006005003,508,509]
 [0,3000,0,5,0,1006005003,8,0] [8075,0,6] [2,3075,2,80,8,1081080078,1082004,0] (.z 5 0 (.t 6 (.bF 5 (.tail [.r,.r,.r]))))) .l))))))
def ad.ot(b:U)(n:Int)(w:J)(Q:U0):Prop:=bR 109 #[n] w λh w1=>af (!h) (Q (.tuple #[.pointer none,(1:Int)]) w1) (b5 110 #[n] w1 λn6 c=>aX
 (λe:ag->U2=>af ((b.len:Int) !=n6) (e true c) ((8:Int)≠0/\aX (λf:ag->U2=>af (decide (((Int.tmod n 8):Int)>0)) (∃a9:ax,b.a=some a9/\((0:Int)<=(ai ((b.len:Int)-1))/\(ai
 ((b.len:Int)-1))<(b.len:Int))/\bA c (a9.add ((ai ((b.len:Int)-1)).toNat*1)) λn10=>(8:Int)≠0/\(0:Int)<=(Int.tmod n 8)/\f (decide (((Int.fdiv n10 (2^(min ((Int.tmod n 8).toNat) 8))):Int)>0)) c) (f
 false c)) (λ(i:ag) j=>e i j))) (λ(k:ag) g=>af k (Q (.tuple #[.pointer none,(4:Int)]) g) (bU 46 #[b] g λl d=>au (d.alloc (.cells #[n,l,()] 209)) λm=>e6 112 #[.pointer (some (ae d))] m λo=>Q (.tuple #[.pointer (some (ae d)),U8]) o)))
def ay.ot:aK:=(.q (.s (.bn (.q (.c (.q .l) (.s (.z [18,46,9,31]) (.c (.q .l) .l))))) a3))
def ad.wN(t:an ax)(w:J)(Q:U0):Prop:=af (Option.isNone t) (Q (.tuple #[(),U8,(1:Int)]) w) (au (w.alloc (.cells #[t,(),U8]
 294)) λw1=>aX (λb4:U2=>aE t λa3=>r1 w1 (a3.add 4) λe=>af (decide (e>0)) (au (w1.drew) λa=>aE t λee=>¬False/\r1 a (ee.add 3) λn7=>aE t λeJ=>¬False/\r1 a (eJ.add 4) λ
 n9=>b5 195 #[.pointer (some (ae w)),n7,n9,(),()] a λn12 c=>af (n12 !=0) (Q (.tuple #[(),U8,n12]) c) (b4 c)) (b4 w1)) (λd
 =>xs w λgT=>aJ d (gT.add 1) λf=>e6 140 #[f] d λg=>au (g.drew) λb=>xs w λig=>¬False/\aJ b (ig.add 1) λh=>xs w λfu=>¬False/\r1 b
 (fu.add 2) λn22=>Q (.tuple #[h,n22,U8]) b))
def ay.wN:aK:=(.q (.s a1 (.q (.s (.dL [] [5] (.q (.c (.s (.d 9 false [0,0,3001,0,3005,1008004000,510] [0,0,3001,0,3005,1008004000,10] [10017,7] [6,1,3018,1,3022,1025021017,27] (.z 9 0 (.tail [.r,.r]))) a1) .l))) (.q (.s (.d
 9 false [0,3000,0,3004,504,509,510] [0,3000,0,3004,4,8,0] [8035,3002] [6,3035,6,3039,39,43,0] (.z 9 0 (.tail [.r,.r]))) .l))))))
def ad.tw(s:an ax)(w:J)(Q:U0):Prop:=af (Option.isNone s) (Q () w) (aE s λa1=>r1 w a1 λbz=>jd ⟨none,0,0⟩ 0 w λh d a n6 b=>af (decide (n6<bz)) (aX
 (λe:U->U2=>aE s λa9=>aJ b (a9.add 1) λi=>bR 198 #[i,n6] b λj c=>af j (au (c.alloc (.cells #[n6] 3)) λk=>ap 72
 a (.slice (some (ae c)) 1 1) k λl m=>e l m) (e a c)) (λ(f:U) g=>h f (ai (n6+1)) g/\d f (ai (n6+1)) g<d a n6 b)) (Q a b))
def ay.tw:aK:=(.q (.s a1 (.q (.s (.q (.bn (.loop [(3,.slice),(11,(.int .i64))] [0,10] (.q (.s (.c .l .l) (.s (.dL [(3,.slice)] [0,10,11] (.bn eV)) .r)))))) (.q .l)))))
theorem ad.G1(s:an ax)(w:J)(Q:U0)(h:ad.tw s w Q):aI aj 142 #[s] w Q:=okF (λw Q=>ad.tw s w Q) ay.tw func142 h
def ad.rj(s:ag)(t:U)(u:U)(v:U)(key:U)(val:U)(w:J)(Q:U0):Prop:=au (w.alloc (.cells #[s,t,u,v] 169)) λw1=>au (w1.alloc z3) λah=>aW ah (ae w) λx=>aX (λy:ag->U2=>q1 x y ah w) (λ(z:ag) l=>aX (λm:ag->J
 ->Prop=>af z (m true l) (bR 199 #[key] l λA B=>m (!A) B)) (λ(C:ag) b=>af (C||(decide ((val.len:Int)>24))) (bf b (ae w1) [false,(),(),()] 4 λD=>lB D w1 Q) (aW b (ae w) λE=>av b w 1 λF=>av b w 2 λG=>av b w 3 λH=>gH 183 #[.agg #[E,F,G,H]] b λI K L M a=>au (a.alloc z3) λN=>bf N (ae a) [I,K,L,M] 4 λc=>aW c
 (ae w) λO=>av c w 1 λP=>av c w 2 λR=>av c w 3 λS=>lz 177 #[.agg #[O,P,R,S],key] c λd T n=>af T (b1 n λg o=>c2 o g a 2 λV=>bU 46 #[val] g λW p=>aa o g p/\aQ V d λX=>st p (aV X d 1)
 W λZ=>dD Z a w1 Q) (b1 n λh i=>c2 i h a 1 λab=>bU 46 #[key] h λac e=>aa i h e/\au (e.alloc (.cells
 #[ac] 39)) λq=>aa i e q/\bU 200 #[ab,d,.slice (some (ae e)) 1 1] q λai aj=>st aj ((ae a).add 1)
 ai λak=>b1 ak λj k=>c2 k j a 2 λal=>bU 46 #[val] j λam f=>aa k j f/\au (f.alloc (.cells #[am] 39)) λr=>aa k f r/\bU 200 #[al,d,.slice (some (ae f)) 1 1] r λan ao=>st ao ((ae a).add 2) an λap=>dD ap a w1 Q))))
def ay.rj:aK:=(.q (.s (.s (.z [12,10,12,10,12,11]) (.c (.q .l) .l)) (.q (.q (.s (.q (.c (.s (.d 5 true [0,1,0,0,4,505,506] [0,1,0,0,4,1002001,1005004] [6039,0] [9,40,10,3,43,1041040,1044043] (.z 4 0 (.bF 4 (.tail [.r,.r])))) (.q
 .l)) .l)) (.s (.d 6 true [0,1,0,0,2003,1000000000054,507,508] [0,1,0,0,2003,1005002001,0,1007006] [8046,0] [9,47,10,2,2049,1051048047,9,1053052] (.z 4 0 (.bF 4 (.bF 5 (.tail [.r,.r,.r]))))) (.s (.d 6 true
 [0,1,0,0,2003,1000000000054,507,508] [0,1,0,0,2003,1005002001,0,1007006] [8054,0] [9,55,10,3,2057,1059056055,9,1061060] (.z 4 0 (.bF 4 (.bF 5 (.tail [.r,.r,.r]))))) (.q .l))))))))
def ad.tx(s:an ax)(w:J)(Q:U0):Prop:=af (Option.isNone s) (Q (.tuple #[.int .i64 (-1),(1:Int)]) w) (aE s λa1=>r1 w a1 λbz=>cW 0 w λd c n5 b=>af (decide (n5<bz))
 (bR 201 #[s,n5] b λe a=>af (!e) (aE s λfU=>aJ a (fU.add 1) λf=>e6 111 #[f,n5] a λg=>Q (.tuple #[n5,U8]) g) (d (ai (n5+1)) a/\c (ai (n5+1)) a<c n5 b)) (Q (.tuple #[.int .i64 (-1),(2:Int)]) b))
def ay.tx:aK:=(.q (.s a1 (.s (.q (.bn (.loop [(11,(.int .i64))] [0,10] (.q (.s (.c .l .l) (.s (.bn (.q (.q a9))) .r)))))) (.q .l))))
theorem ad.G2(s:an ax)(w:J)(Q:U0)(h:ad.tx s w Q):aI aj 144 #[s] w Q:=okF (λw Q=>ad.tx s w Q) ay.tx func144 h
def ad.tz(s:an ax)(no:Int)(w:J)(Q:U0):Prop:=bR 202 #[s,no] w λb w1=>af (!b) (Q (1:Int) w1) (aE s λa4=>aJ w1 (a4.add 1) λc=>
 bR 198 #[c,no] w1 λd a=>af (!d) (Q (6:Int) a) (aE s λa9=>aJ a (a9.add 1) λe=>e6 203 #[e,no] a λf=>Q
 (0:Int) f))
def ay.tz:aK:=(.q (.s (.bn gS) (.q (.q .l))))
theorem ad.G3(s:an ax)(no:Int)(w:J)(Q:U0)(h:ad.tz s no w Q):aI aj 145 #[s,no] w Q:=okF (λw Q=>ad.tz s no w Q) ay.tz func145 h
def ad.wO(c:an ax)(no:Int)(b:U)(w:J)(Q:U0):Prop:=bR 204 #[c,no] w λi w1=>af ((!i)||((b.len:Int) !=256)) (Q (1:Int) w1) (jS
 180 #[c,no] w1 λe f=>aX (λg:an ax->U2=>af (Option.isNone e) (gR 205 #[c] f λa n11 h=>af (n11 !=0) (Q n11 h) (aE a λgm=>
 st h gm true λj=>aE a λgT=>st j (gT.add 3) no λk=>g a k)) (g e f)) (λ(d:an ax) l=>bU 46 #[b] l λm n=>aE d
 λfu=>st n (fu.add 5) m λo=>aE d λa23=>st o (a23.add 1) true λp=>aE d λq=>st p (q.add 2) true λr=>Q (0:Int) r))
def ay.wO:aK:=(.q (.s (.s (.z [15,11]) (.c (.q .l) .l)) (.q (.s (.dL [(7,.ptr)] [2] (.q (.c (.q (.s a1 (.q .r))) .l))) (.q (.q .l))))))
def ad.wP(c:an ax)(w:J)(Q:U0):Prop:=af (Option.isNone c) (Q (1:Int) w) (bU 126 #[c] w λd w1=>cW 0 w1 λk e n6 a=>af (decide (n6<
 (d.len:Int))) (aQ d n6 λeJ=>r1 a (aV eJ n6 1) λn9=>jS 180 #[c,n9] a λf l=>au (l.drew) λb=>aE c λgT=>¬False/\∃g:an ax,b.cell? gT=some (g)
 /\aE f λg5=>¬False/\aJ b (g5.add 5) λm=>b5 58 #[g,n9,m] b λn20 h=>af (n20 !=0) (Q n20 h) (aE f λfu=>st h (fu.add 1)
 false λi=>k (ai (n6+1)) i/\e (ai (n6+1)) i<e n6 a)) (aE c λa23=>∃j:an ax,a.cell? a23=some (j)/\b5 59 #[j] a λn27 n=>Q n27 n))
def ay.wP:aK:=(.q (.s a1 (.s (.q (.bn (.loop [(12,(.int .i64))] [0,10,11] (.q (.s (.c .l .l) (.s (.bn (.q (.q (.s (.s (.d 9 false [0,3000,0,0,3005,1008004003,510] [0,3000,0,0,3005,1008004003,10] [10019,7]
 [1,3019,2004,3024,1027023022,29] (.z 9 0 (.tail [.r,.r]))) a1) .r)))) .r)))))) (.q .l))))
def ad.tA(t:an ax)(gen:Int)(w:J)(Q:U0):Prop:=af (!(Option.isNone t)) (aE t λa1=>st w (a1.add 2) (aF gen) λah=>Q (.tuple #[]) ah) (Q (.tuple #[]) w)
def ay.tA:aK:=(.q (.c .r .l))
theorem ad.G4(t:an ax)(gen:Int)(w:J)(Q:U0)(h:ad.tA t gen w Q):aI aj 148 #[t,.int .u64 gen] w Q:=okF (λw Q=>ad.tA t gen w Q) ay.tA func148 h
def ad.wQ(c:Int)(w:J)(Q:U0):Prop:=Q (.bool (c !=0)) w
def ay.wQ:aK:=(.q (.q .l))
theorem ad.G5(c:Int)(w:J)(Q:U0)(h:ad.wQ c w Q):aI aj 149 #[.int .u8 c] w Q:=okF (λw Q=>ad.wQ c w Q) ay.wQ func149 h
def ad.rk(no:Int)(b:U)(w:J)(Q:U0):Prop:=au (w.alloc eo) λw1=>vx 136 #[no,b] w1 λd n5 n6 n7 n8 n9 n10 n11 n12 ah=>au (ah.alloc eo)
 λe=>bf e (ae ah) [d,n5,n6,aF n7,aF n8,n9] 6 λa=>r1 a (ae ah) λn15=>aT a ah 1 λn16=>aT a ah 2 λn17=>bZ a ah 3 λn18=>bZ a ah 4 λn19=>aT a
 ah 5 λn20=>bf a (ae w) [n15,n16,n17,aF n18,aF n19,n20] 6 λc=>r1 c (ae w) λn22=>aT c w 1 λn23=>aT c w 2 λn24=>bZ c w 3 λn25=>bZ c w 4 λn26=>aT
 c w 5 λn27=>Q (.tuple #[.agg #[n22,n23,n24,aF n25,aF n26,n27],aF n11,n12]) c
def ay.rk:aK:=a3
def ad.tB(l:an ax)(no:Int)(level:Int)(w:J)(Q:U0):Prop:=aX (λbJ:ag->U2=>af (decide (no<0)) (bJ true w) (aE l λa2=>aJ w (a2.add 10) λx=>bJ (decide
 (no>=(x.len:Int))) w)) (λ(y:ag) e=>aX (λj:ag->U2=>af y (j true e) (aE l λeR=>∃k:an Nat,e.cell? (eR.add 11)=some (.map k)/\∃m:ag,∃n:J,Sem.run aj (Instr.lookup
 156 (.map k) no false) e=.ok m n/\j m n)) (λ(z:ag) b=>af z (aE l λfw=>r1 b (fw.add 9) λn14=>aE l λij=>st b (ij.add 9) (.int .i64 (ai (n14+1))) λA=>Q
 () A) (aE l λfc=>∃o:an Nat,b.cell? (fc.add 11)=some (.map o)/\∃f:J,Sem.run aj (Instr.mapUpdate 156 (.map o) no true) b=.ok () f/\aX (λp
 :Int->U2=>af (level==1) (p 1 f) (p 2 f)) (λ(n21:Int) g=>aE l λa23=>aJ g (a23.add 10) λB=>aQ B no λC=>aJ g (aV C no 1) λD=>jR 137 #[no,D] g λn29 n30 E n32 c=>au (c.alloc z4) λF=>bf F (ae c) [n29,aF n30,E] 3 λq=>av q c 2 λG=>kU 206 #[.bool (level==1),G] q λH I K L M d=>au (d.alloc z3) λN=>bf N (ae d) [H,I,K,L] 4 λh=>aX (λr:ag->J->
 Prop=>af ((n32 !=0)||(M !=0)) (r true h) (r1 h (ae c) λO=>r (O !=n21) h)) (λ(P:ag) a=>af P (aE l λR=>r1 a (R.add 9) λS=>aE l λT=>st a (T.add 9) (.int .i64 (ai (S+
 1))) λU=>Q () U) (aE l λV=>aJ a (V.add 12) λW=>au (a.alloc (.cells #[no] 3)) λX=>ap 72 W (.slice (some (ae a)) 1 1) X λZ aa=>
 aE l λab=>st aa (ab.add 12) Z λs=>aE l λac=>r1 s (ac.add 5) λah=>aE l λak=>st s (ak.add 5) (.int .i64 (ai (ah+1))) λt=>aX (λu:U2=>af (level==
 1) (au (t.drew) λi=>aE l λal=>¬False/\r1 i (al.add 6) λam=>¬False/\av i d 1 λao=>aE l λaq=>st i (aq.add 6) (.int .i64 (ai (am+(ao.len:Int)))) λar=>u ar) (u t)) (λv=>av
 v d 3 λaw=>Q aw v)))))))
def ay.tB:aK:=(.q (.s (.s (.z [9,22,24,19]) a9) (.q (.q (.s (.dL [(7,(.int .i64))] [0,1,2] (.q (.c .r .l))) (.q (.q (.s (.s (.z [9,8,9,13]) a9) (.q (.q (.s (.dL [] [10] (.q (.c (.d 8 false
 [0,4000,0,2005,1007004,509,510,1000000001535,1000000002559] [0,4000,0,2005,1007004,1,2009,1011008] [12109,0] [1,4109,11,2114,1116113,110,2118,1120117] (.z 8 0 (.tail [.r,.r,.r,.r,.r]))) .l))) (.q .l))))))))))))
theorem ad.G6(l:an ax)(no:Int)(level:Int)(w:J)(Q:U0)(h:ad.tB l no level w Q):aI aj 151 #[l,no,level] w Q:=okF (λw Q=>ad.tB l no level w Q) ay.tB func151 h
def ad.tC(s:an ax)(no:Int)(w:J)(Q:U0):Prop:=bR 202 #[s,no] w λb w1=>aX (λa:ag->U2=>af b (aE s λa5=>aJ w1 (a5.add
 1) λc=>bR 198 #[c,no] w1 λd e=>a d e) (a false w1)) (λ(f:ag) g=>Q f g)
def ay.tC:aK:=(.q (.s (.z [12,19]) .l))
theorem ad.G7(s:an ax)(no:Int)(w:J)(Q:U0)(h:ad.tC s no w Q):aI aj 153 #[s,no] w Q:=okF (λw Q=>ad.tC s no w Q) ay.tC func153 h
def ad.l2(b:U)(c:Int)(size:Int)(w:J)(Q:U0):Prop:=af ((((decide (c<0))||(decide (size<0)))||(decide (c>(b.len:Int))))||(decide (size>(ai ((b.len:Int)-c))))) (Q (.tuple
 #[(),false]) w) (((0:Int)<=(ai (c+size))/\(ai (c+size))<=(b.cap:Int))/\((0:Int)<=c/\c<=((((ai (c+size)).toNat):Nat):Int))/\Q (.tuple #[.slice (bj b.a 1 (Int.toNat
 c) b.cap) (((ai (c+size)).toNat)-(c.toNat)) (b.cap-(c.toNat)),true]) w)
def ay.l2:aK:=(.q (.s (.s (.z [9,8,9,14,15,20]) (.c (.q .l) .l)) (.q .l)))
theorem ad.G8(b:U)(a:Int)(size:Int)(w:J)(Q:U0)(h:ad.l2 b a size w Q):aI aj 170 #[b,a,size] w Q:=okF (λw Q=>ad.l2 b a size w Q) ay.l2 func170 h
def ad.wR(size:Int)(w:J)(Q:U0):Prop:=Q (.bool ((decide (size>=1))&&(decide (size<=8)))) w
def ay.wR:aK:=a5
theorem ad.CA(size:Int)(w:J)(Q:U0)(h:ad.wR size w Q):aI aj 171 #[size] w Q:=okF (λw Q=>ad.wR size w Q) ay.wR func171 h
def ad.wS(parts:U)(w:J)(Q:U0):Prop:=gg 4294967295 0 w λf d c a b=>af (decide (a<(parts.len:Int))) (aQ parts a λee=>aJ b (aV ee a 1) λg=>kc 221 #[.int .u32 c,
 g] b λn10 e=>f n10 (ai (a+1)) e/\d n10 (ai (a+1)) e<d c a b) (Q (.int .u32 (lk .u32 4294967295 c)) b)
def ay.wS:aK:=(.q (.q (.s (.q (.bn (.loop [(3,(.int .u32)),(8,(.int .i64))] [6,7] a2))) (.q .l))))
def ad.wT(t:an ax)(no:Int)(leaf:ag)(w:J)(Q:U0):Prop:=au (w.alloc z3) λw1=>aE t λa2=>∃e:an ax,w1.cell? a2=some (e)/\dY 222
 #[e,no] w1 λl n7 f=>af (n7 !=0) (bf f (ae w) [false,(),(),()] 4 λm=>tf m w Q n7) (jR 137 #[no,l] f λn15
 n16 n n18 b=>au (b.alloc z4) λo=>bf o (ae b) [n15,aF n16,n] 3 λg=>af (n18 !=0) (bf g (ae w) [false,(),(),()] 4 λp=>
 tf p w Q n18) (au (g.drew) λa=>¬False/\bZ a b 1 λn27=>aE t λq=>¬False/\c0 a (q.add 2) λn29=>af (decide (n27>n29)) (aX (λh:ag->U2=>af true (h true a) (r1 a (ae b) λ
 n31=>aX (λi:ag->U2=>af (n31 !=1) (r1 a (ae b) λn33=>i (n33 !=2) a) (i false a)) (λ(r:ag) s=>h r s))) (λ(u:ag) c=>af u (bf c (ae w) [false,(),
 (),()] 4 λv=>tg v w Q) (av c b 2 λx=>kU 206 #[leaf,x] c λy z A B C D=>bf D (ae w) [y,z,
 A,B] 4 λE=>tf E w Q C))) (¬False/\r1 a (ae b) λF=>aX (λj:ag->U2=>af (!((F==1)==leaf)) (j true a) (r1 a (ae b) λG=>aX
 (λk:ag->U2=>af (G !=1) (r1 a (ae b) λH=>k (H !=2) a) (k false a)) (λ(I:ag) K=>j I K))) (λ(L:ag) d=>af L (bf d (ae w) [false,(),(),()] 4 λM=>tg M w Q) (av d b 2 λN=>kU 206 #[leaf,N] d λO P R S T U=>bf U (ae w) [O,P,R,S] 4 λV=>tf V w Q T)))))
def ay.wT:aK:=(.q (.q (.s a1 (.q (.s a1 (.s (.s (.d 12 false [0,1,0,3002,1005001,2006,1008007,1009007,8,1011010007,1012007,1013007,15,1015014,1016014,1017014,19,1019018,1020018,1021018014,1022014]
 [0,1,0,3002,1005001,2006,1008007,1009007,8,1011010007,1012007,2013,1015014,1016014,1017014,19,1019018,1020018,1021018014,1022014] [24034]
 [11,35,1,3036,1039035,41,1041010,1042041,1043041,1041002,1045044041,1046041,48,1048010,1049048,1050048,1051048,1052010,1053052,1054052,1055052048,1056048] (.z 8 0 (.sp 41 (.z 4 8 (.tail [.r,.r,.r,.split 8,.r,.r,.r,.split 3,.r,.r,
 .r,.r])) (.z 4 8 (.tail [.r,.r,.r,.split 8,.r,.r,.r,.split 3,.r,.r,.r,.r]))))) (.c (.q .l) .l)) (.q .l)))))))
def ad.rl(c:ag)(d:U)(e:U)(f:U)(key:U)(w:J)(Q:U0):Prop:=au (w.alloc (.cells #[c,d,e,f] 169)) λw1=>aW w1 (ae w) λcu=>av w1 w 1 λg=>av w1 w 2 λh=>av w1 w 3 λi=>lz 177 #[.agg #[cu,g,h,i],key] w1 λn8 j a=>aX (λb:Int->U2=>af j (b (ai (n8+1)) a) (b n8 a)) (λ(n11:Int) k=>Q n11 k)
def ay.rl:aK:=(.q (.q (.s (.dL [(5,(.int .i64))] [] (.q (.c .r .l))) (.q .l))))
def ad.nn(a:ag)(b:U)(c:U)(d:U)(key:U)(w:J)(Q:U0):Prop:=au (w.alloc (.cells #[a,b,c,d] 169)) λw1=>av w1 w 1 λs2=>lz 223 #[s2,key,.func (.func
 219) #[] #[]] w1 λn5 e f=>Q (.tuple #[n5,e]) f
def ay.nn:aK:=(.q (.q .l))
def ad.tD(c:an ax)(choose:iZ)(w:J)(Q:U0):Prop:=af (Option.isNone c) (Q () w) (aE c λa1=>aJ w (a1.add 1) λs2=>jd ⟨none,0,0⟩ 0 w λl g d n6 a=>af
 (decide (n6<(s2.len:Int))) (aX (λh:U->U2=>aQ s2 n6 λa9=>aW a (aV a9 n6 6) λm=>aW a ((aV a9 n6 6).add 1) λn=>aW a ((aV a9 n6 6).add 2) λo=>r1 a ((aV a9 n6 6).add 3) λn13=>r1 a ((aV a9
 n6 6).add 4) λn14=>aJ a ((aV a9 n6 6).add 5) λp=>au (a.alloc (.cells #[false,false,false,U8,U8,()] 275)) λq=>bf q (ae a) [m,n,o,n13,n14,p] 6 λb=>aW b (ae a) λr=>tc b a 1 λs=>tc b a 2 λt=>aT b a 3 λn21=>aT b a 4 λn22=>av b a 5 λu=>jN
 aj choose.f/\Calls aj choose.f (choose.pre++ #[.agg #[r,s,t,n21,n22,u]]++choose.cap) b λv e=>∃i:ag,v=.returned i
 /\af i (aT e a 3 λn27=>au (e.alloc (.cells #[n27] 3)) λx=>ap 72 d (.slice (some (ae e)) 1 1) x λy z=>h y z) (h d e)) (λ(j:U) k=>l j (ai
 (n6+1)) k/\g j (ai (n6+1)) k<g d n6 a)) (e6 140 #[d] a λA=>Q d A))
def ay.tD:aK:=(.q (.q (.s a1 (.s (.q (.bn (.loop [(5,.slice),(15,(.int .i64))] [1,13,14] (.q (.s (.c .l .l) (.s (.dL [(5,.slice)] [1,13,14,15] (.bn eV)) .r)))))) (.q (.q .l))))))
theorem ad.G9(c:an ax)(choose:iZ)(w:J)(Q:U0)(h:ad.tD c choose w Q):aI aj 178 #[c,.func (.func choose.f) choose.pre choose.cap] w Q:=okF (λw Q=>ad.tD c choose w Q) ay.tD func178 h
def ad.wU(b:ag)(c:ag)(d:ag)(e:Int)(f:Int)(g:U)(w:J)(Q:U0):Prop:=au (w.alloc (.cells #[b,c,d,e,f,g] 275)) λw1=>aW w1 (ae w) λcu=>aX (λa:ag->U2=>af cu (tc w1 w 1 λh=>a h w1) (a false w1)) (λ(i:ag) j=>Q i j)
def ay.wU:aK:=(.q (.s (.z [9,7]) .l))
end Go.Proofs.YtcmgnhkpfllinaaGreat
