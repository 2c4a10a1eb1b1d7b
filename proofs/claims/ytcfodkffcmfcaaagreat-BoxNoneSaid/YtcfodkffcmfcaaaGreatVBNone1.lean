/- Printed by gen.py: functions of the program, each as what must be shown of it. -/
import Derived.Test.YtcfodkffcmfcaaaGreatProg
import Derived.Test.YtcfodkffcmfcaaaGreatKBNone2
namespace aO
abbrev aB.s:=aB.seq
abbrev aB.l:=aB.leaf
abbrev aB.c:=aB.cond
abbrev aB.r:=aB.o8 []
abbrev bf.t:=bf.take
abbrev k4.r:=k4.run
open Go
def iQ:Y Nat->Y Nat
 | []=> []
 |x::l=>bif Nat.blt x 500 then (bif Nat.beq x 0 then 0 else 2^(x-1))::iQ l else bif Nat.blt x 1000 then (2^(x-500)-1)::iQ l else bif Nat.blt x 1000000 then (List.range' (x%1000) (x/1000)).map (λy=>2^y)++iQ l else bif Nat.blt x 1000000000 then (2^(x/1000-1000)+2^(x%1000))::iQ l else bif Nat.blt x 1000000000000 then (2^(x/1000000-1000)+2^(x/1000%1000)+2^(x%1000))::iQ l else (x-1000000000000)::iQ l
def bf.z:Nat->Nat->bf->bf
 |0,_,x=>x
 |n+1,a,x=>.take a (bf.z n (a+1) x)
def bf.e:bf:=.tail [.run]
def aB.d(n:Nat)(b:ai)(A B C D:Y Nat)(t:bf):aB:=.vw n b ⟨iQ A,iQ B⟩ (iQ C) (iQ D) t
def aB.e(n:Nat)(b:ai)(A C D:Y Nat)(t:bf):aB:=.vw n b ⟨iQ A,iQ A⟩ (iQ C) (iQ D) t
def aB.q(t:aB):aB:=.seq (.o8 []) t
def vH:Y Nat->Y k4
 | []=> []
 |x::l=>bif Nat.beq (x%3) 0 then List.replicate (x/3) .run++vH l else bif Nat.beq (x%3) 1 then .split (x/3)::vH l else .pure (x/3)::vH l
def aB.z(l:Y Nat):aB:=.o8 (vH l)
end aO
namespace Go.Proofs.YtcfodkffcmfcaaaGreat
noncomputable abbrev ah:=Tryz.prog
open Go aO Go.Proofs.Tryz
namespace F
end F
namespace HD
end HD
namespace G
end G
abbrev aG:dI:=.one (.one .fn)
abbrev c5:dI:=.one (.one .agg)
abbrev eE:dI:=.one (.one .ptr)
abbrev jf:dI:=.one (.one .slice)
abbrev ku:dI:=.eQ [(.one .ptr),(.one (.int .i64))]
abbrev nS:dI:=.eQ [(.one .agg),(.one .bool)]
abbrev nT:dI:=.one (.flat [.ptr,.slice,(.int .i64)])
abbrev qW:dI:=.one (.one .map)
abbrev vI:dI:=.one (.one (.int .i64))
abbrev vJ:dI:=.one (.one (.int .u8))
abbrev vK:dI:=.one (.one (.int .u64))
abbrev vL:dI:=.eQ [(.one .slice),(.one (.int .i64))]
def HE:Y dI:=[(.eQ []),aG,vI,vI,(.one (.one .bool)),vJ,vJ,(.one (.flat [(.int .i64),(.int .i64),.bool,(.int .u8)])),(.one (.flat [(.int .i64),(.int .i64),.bool,(.int .u8)])),(.one (.one .str)),(.one (.one .str)),(.one (.one .str)),vK,(.one (.flat [.str,(.int .u64)])),(.one (.flat [.str,(.int .u64)])),eE,eE,eE,(.one (.flat [.ptr])),(.one (.flat [.ptr])),(.one (.one .any)),(.one (.one (.int .i32))),vK,(.one (.flat [(.int .i64),(.int .i64),(.int .u64)])),(.one (.flat [(.int .i64),(.int .i64),(.int .u64)])),(.one (.flat [(.int .u64),(.int .i64),(.int .i64),(.int .i64),(.int .i64),(.int .i64)])),(.one (.flat [(.int .u64),(.int .i64),(.int .i64),(.int .i64),(.int .i64),(.int .i64)])),eE,eE,aG,eE,aG,eE,aG,eE,aG,jf,vI,(.one (.flat [(.int .i64),.slice,(.int .i64),(.int .i64),.bool,(.int .i64)])),(.one (.flat [(.int .i64),.slice,(.int .i64),(.int .i64),.bool,(.int .i64)])),c5,c5,aG,c5,c5,c5,(.one (.one (.int .u16))),jf,c5,c5,c5,c5,jf,c5,c5,ku,aG,aG,aG,aG,aG,c5,c5,nS,aG,ku,aG,eE,ku,aG,aG,eE,(.eQ [(.one .ptr),(.one .bool)]),aG,c5,eE,(.one (.flat [.ptr,.ptr,.slice])),(.one (.flat [.ptr,.ptr,.slice])),vL,aG,c5,c5,aG,aG,aG,aG,aG,aG,aG,aG,(.eQ [(.one (.int .i64)),(.one (.int .i64)),(.one (.int .i64))]),aG,aG,aG,aG,aG,aG,jf,qW,c5,c5,c5,c5,aG,eE,ku,aG,aG,aG,aG,(.one (.flat [(.int .i64),(.int .u64),.slice])),(.one (.flat [(.int .i64),(.int .u64),.slice])),c5,aG,(.one (.flat [(.int .i64),(.int .i64),(.int .i64),(.int .u64),(.int .u64),(.int .i64)])),(.one (.flat [(.int .i64),(.int .i64),(.int .i64),(.int .u64),(.int .u64),(.int .i64)])),aG,aG,qW,qW,(.one (.flat [.map,.map])),(.one (.flat [.map,.map])),ku,aG,ku,aG,aG,aG,aG,aG,eE,jf,(.one (.flat [.slice])),(.one (.flat [.slice])),eE,jf,(.one (.flat [(.int .i64),.slice])),(.one (.flat [(.int .i64),.slice])),c5,c5,aG,(.one (.flat [(.int .u16),(.int .u16),(.int .u8),(.int .i64),.bool,(.int .i64)])),(.one (.flat [(.int .u16),(.int .u16),(.int .u8),(.int .i64),.bool,(.int .i64)])),aG,aG,eE,(.eQ [(.one .ptr),(.one .bool)]),(.eQ [(.one (.int .i64)),(.one .bool)]),c5,c5,aG,aG,aG,aG,aG,(.eQ [(.one .ptr),(.one (.int .i64)),(.one (.int .i64))]),aG,aG,c5,c5,aG,c5,c5,(.eQ [(.one .agg),(.one (.int .i64))]),aG,eE,c5,c5,eE,eE,eE,c5,c5,aG,nS,aG,aG,c5,c5,(.eQ [(.one .agg),(.one .agg),(.one .bool)]),aG,aG,aG,aG,aG,(.eQ [(.one (.int .i64)),(.one (.int .i64))]),aG,aG,aG,aG,nS,aG,(.one (.flat [.ptr,(.int .i64)])),(.one (.flat [.ptr,(.int .i64)])),eE,eE,c5,c5,eE,jf,(.one (.flat [(.int .i64),.slice,.slice])),(.one (.flat [(.int .i64),.slice,.slice])),aG,aG,(.one (.one (.int .u32))),aG,aG,aG,aG,ku,aG,ku,aG,ku,aG,ku,aG,ku,aG,eE,jf,(.one (.flat [(.int .i64),.slice])),(.one (.flat [(.int .i64),.slice])),eE,nT,nT,jf,c5,c5,aG,aG,aG,aG,aG,aG,aG,aG,aG,aG,aG,aG,aG,(.eQ [(.flat [(.int .i64),(.int .i64),(.int .i64),(.int .u64),(.int .u64),(.int .i64)]),(.one (.int .u64)),(.one (.int .i64))]),aG,aG,(.eQ [(.one .agg),(.one (.int .i64))]),aG,(.eQ [(.flat [(.int .u16),(.int .u16),(.int .u8),(.int .i64),.bool,(.int .i64)]),(.one (.int .i64))]),aG,aG,nS,aG,aG,aG,c5,c5,nS,aG,aG,aG,nS,qW,qW,(.one (.flat [(.int .i64),.map,.map])),(.one (.flat [(.int .i64),.map,.map])),aG,aG,aG,aG,(.eQ [(.one .slice),(.one (.int .i64)),(.one (.int .i64))]),aG,nT,nT,aG,qW,(.one (.flat [(.int .i64),(.int .i64)])),(.one (.flat [(.int .i64),(.int .i64)])),(.one (.flat [.bool,(.int .i64)])),(.one (.flat [.bool,(.int .i64)])),(.one (.flat [(.int .i64),(.int .i64),.map])),(.one (.flat [(.int .i64),(.int .i64),.map])),aG,aG,jf,vL,aG,aG,c5,c5,aG,aG,aG,(.eQ [(.one (.int .i64)),(.one (.int .i64))]),aG,aG,aG,jf,aG,jf,nT,nT,(.one (.flat [.ptr,.ptr,(.int .u64),(.int .i64),(.int .i64)])),(.one (.flat [.ptr,.ptr,(.int .u64),(.int .i64),(.int .i64)])),aG,aG,aG,vK,c5,aG,aG,(.eQ [(.flat [(.int .i64),(.int .i64),(.int .i64),(.int .u64),(.int .u64),(.int .i64)]),(.one (.int .i64)),(.one (.int .u64)),(.one (.int .i64))]),aG,(.eQ [(.flat [(.int .i64),(.int .u64),.slice]),(.one (.int .i64))]),aG,aG,(.eQ [(.one .slice),(.one (.int .i64)),(.one (.int .i64))]),aG,aG,aG,aG,aG,aG,aG,aG,(.eQ [(.one .agg),(.one .bool),(.one (.int .i64))]),aG,aG,aG,aG,aG,(.one (.flat [.slice,.slice])),(.one (.flat [.slice,.slice])),(.eQ [(.one .slice),(.one .slice)]),aG,nS,aG,(.eQ [(.one .bool),(.one (.int .i64))]),aG,eE,aG,ku,aG,(.one (.flat [.bool,.bool,.bool,(.int .i64),(.int .i64),.slice])),(.one (.flat [.bool,.bool,.bool,(.int .i64),(.int .i64),.slice])),aG,aG,aG,aG,aG,aG,aG,eE,(.one (.flat [.slice,(.int .i64)])),(.one (.flat [.slice,(.int .i64)])),aG,aG,(.eQ [(.one .slice),(.one .bool)]),aG,eE,nT,nT,aG,aG,(.eQ [(.one (.int .u64)),(.one .bool)]),aG,nS,aG,eE,c5,c5,aG,aG,aG,jf,aG,aG,eE,ku,aG,aG,aG,aG,(.eQ [(.one .slice),(.one .bool),(.one (.int .i64))]),aG,aG,aG,eE,c5,c5,aG,aG,aG,aG,aG,aG,aG,vI,(.eQ [(.one (.int .i64)),(.one (.int .i64))]),aG,aG,aG,aG,aG,(.one (.flat [.bool,.slice,.slice,.slice])),(.one (.flat [.bool,.slice,.slice,.slice])),(.eQ [(.flat [.bool,.slice,.slice,.slice]),(.one (.int .i64))]),aG,aG,aG,aG,aG,(.one (.flat [(.int .u8),.bool])),(.one (.flat [(.int .u8),.bool])),aG,aG,(.one (.flat [(.int .i64),(.int .i64)])),(.one (.flat [(.int .i64),(.int .i64)])),aG,aG,(.one (.flat [.slice])),(.one (.flat [.slice])),jf,eE,aG,aG,aG,aG,aG,aG,aG,aG,aG,jf,vL,aG,c5,c5,aG,(.eQ [(.flat [.bool,.slice,.slice,.slice]),(.one .bool)]),aG,aG,vK,aG,aG,eE,aG,aG,aG,aG,(.eQ [(.one (.int .u64)),(.one (.int .u64))]),aG,(.one (.flat [(.int .i64),(.int .i64),(.int .i64)])),(.one (.flat [(.int .i64),(.int .i64),(.int .i64)])),aG,aG,aG,aG,aG,aG,aG,aG,eE,(.one (.flat [.ptr,.slice,.slice])),(.one (.flat [.ptr,.slice,.slice])),aG,eE,aG,eE,(.one (.flat [.slice,.bool])),(.one (.flat [.slice,.bool])),aG,eE,(.one (.flat [(.int .u64),.bool])),(.one (.flat [(.int .u64),.bool])),aG,(.eQ [(.one (.int .u32)),(.one (.int .u32))]),aG,(.eQ [(.one (.int .u64)),(.one (.int .u64))]),aG,aG,aG,aG,aG,aG,aG,eE,jf,(.eQ [(.one .slice),(.one (.int .i64)),(.one (.int .i64)),(.one (.int .i64))]),aG,aG,aG,vL,aG,(.one (.flat [.slice,(.int .i64)])),(.one (.flat [.slice,(.int .i64)])),aG,aG,aG,aG,aG,aG,aG,aG,aG,aG,aG,aG,(.eQ [(.flat [.bool,.slice,.slice,.slice]),(.one .slice),(.flat [.bool,.slice,.slice,.slice]),(.one .bool)]),aG,aG,aG,(.one (.flat [.ptr,.ptr,.ptr,.str])),(.one (.flat [.ptr,.ptr,.ptr,.str])),c5,c5,c5,vJ,vJ,aG,eE,(.one (.one (.int .i32))),(.one (.one (.int .i32))),c5,c5,aG,c5,c5,(.one (.flat [(.int .i64),(.int .i64),(.int .i64)])),(.one (.flat [(.int .i64),(.int .i64),(.int .i64)])),eE]
def tk:TypeId->dI:=λt=>HE.getD t (.one (.one .any))
theorem zU:Tryz.prog.follows .mixedOrders=true:=by kernel_rfl
def aa(w:I):ar:=w.heap.size
def an(n:Int):Int:=IntKind.wrap .i64 n
def bX(n:Int)(k:Nat):Prop:=(0:Int)<=n/\n<(k:Int)
def ae(c:ai)(A B:Prop):Prop:=(c=true->A)/\(c=false->B)
def iR:Int:=9223372036854775807
def st(w:I)(A:ar)(v:O)(K:I->Prop):Prop:=(∃u:O,w.cell? A=some u)/\w.frozen? A=false/\ao (w.setCell A v) λw1=>K w1
def vM(w:I)(z:Obj)(l:Y O)(k:Nat)(K:I->Prop):Prop:=ao (w.alloc z) λw1=>bN w1 (aa w) (Array.toList l.toArray)/\Array.size l.toArray=k/\ao (setCells w1 (aa w) 0 (Array.toList l.toArray)) λaf=>K af
def nU(s:ag)(n:Int)(w:I)(k:Nat)(K:Y O->Prop):Prop:=∃a:ar,s.a=some a/\bX n s.len/\∃l:Y O,aT w (a.add (n.toNat*k)) 0 k=some l/\K l
def dg(f:Nat)(a:Array O)(w:I)(K:I->Prop):Prop:=Calls ah f a w λe w'=>e=.returned (.tuple #[])/\K w'
def bn(f:Nat)(a:Array O)(w:I)(K:ai->I->Prop):Prop:=Calls ah f a w λe w'=>∃b:ai,e=.returned b/\K b w'
def bx(f:Nat)(a:Array O)(w:I)(K:Int->I->Prop):Prop:=Calls ah f a w λe w'=>∃b:Int,e=.returned b/\K b w'
def vN(f:Nat)(a:Array O)(w:I)(K:Int->Int->I->Prop):Prop:=Calls ah f a w λe w'=>∃b:Int,∃c:Int,e=.returned (.tuple #[.int .u64 b,.int .u64 c])/\K b c w'
def CW(f:Nat)(a:Array O)(w:I)(K:Int->Int->I->Prop):Prop:=Calls ah f a w λe w'=>∃b:Int,∃c:Int,e=.returned (.tuple #[.int .u32 b,.int .u32 c])/\K b c w'
def fy(f:Nat)(a:Array O)(w:I)(K:Array O->ai->I->Prop):Prop:=Calls ah f a w λe w'=>∃b:Array O,∃c:ai,e=.returned (.tuple #[.agg b,c])/\K b c w'
def fK(f:Nat)(a:Array O)(w:I)(K:Array O->I->Prop):Prop:=Calls ah f a w λe w'=>∃b:Array O,e=.returned (.agg b)/\K b w'
def e0(f:Nat)(a:Array O)(w:I)(K:al ar->Int->I->Prop):Prop:=Calls ah f a w λe w'=>∃b:al ar,∃c:Int,e=.returned (.tuple #[b,c])/\K b c w'
def fj(f:Nat)(a:Array O)(w:I)(K:al ar->I->Prop):Prop:=Calls ah f a w λe w'=>∃b:al ar,e=.returned (b)/\K b w'
def lJ(f:Nat)(a:Array O)(w:I)(K:Int->ag->Int->Int->ai->Int->I->Prop):Prop:=Calls ah f a w λe w'=>∃b:Int,∃c:ag,∃cG:Int,∃d:Int,∃g:ai,∃h:Int,e=.returned (.agg #[b,c,cG,d,g,h])/\K b c cG d g h w'
def bp(f:Nat)(a:Array O)(w:I)(K:ag->I->Prop):Prop:=Calls ah f a w λe w'=>∃b:ag,e=.returned b/\K b w'
def eK(f:Nat)(a:Array O)(w:I)(K:ag->Int->I->Prop):Prop:=Calls ah f a w λe w'=>∃b:ag,∃c:Int,e=.returned (.tuple #[b,c])/\K b c w'
def hT(f:Nat)(a:Array O)(w:I)(K:Int->ai->I->Prop):Prop:=Calls ah f a w λe w'=>∃b:Int,∃c:ai,e=.returned (.tuple #[b,c])/\K b c w'
def CX(f:Nat)(a:Array O)(w:I)(K:Int->Int->Int->Int->Int->Int->I->Prop):Prop:=Calls ah f a w λe w'=>∃b:Int,∃c:Int,∃cG:Int,∃d:Int,∃g:Int,∃h:Int,e=.returned (.agg #[b,c,cG,.int .u64 d,.int .u64 g,h])/\K b c cG d g h w'
def mQ(f:Nat)(a:Array O)(w:I)(K:Int->Int->I->Prop):Prop:=Calls ah f a w λe w'=>∃b:Int,∃c:Int,e=.returned (.tuple #[b,c])/\K b c w'
def nV(f:Nat)(a:Array O)(w:I)(K:Array O->Int->I->Prop):Prop:=Calls ah f a w λe w'=>∃b:Array O,∃c:Int,e=.returned (.tuple #[.agg b,c])/\K b c w'
def nW(f:Nat)(a:Array O)(w:I)(K:Int->I->Prop):Prop:=Calls ah f a w λe w'=>∃b:Int,e=.returned (.int .u32 b)/\K b w'
def CY(f:Nat)(a:Array O)(w:I)(K:h_->I->Prop):Prop:=Calls ah f a w λe w'=>∃b:h_,e=.returned (.func (.func b.f) b.pre b.cap)/\K b w'
def CZ(f:Nat)(a:Array O)(w:I)(K:Int->Int->Int->Int->Int->Int->Int->Int->I->Prop):Prop:=Calls ah f a w λe w'=>∃b:Int,∃c:Int,∃cG:Int,∃d:Int,∃g:Int,∃h:Int,∃i:Int,∃j:Int,e=.returned (.tuple #[.agg #[b,c,cG,.int .u64 d,.int .u64 g,h],.int .u64 i,j])/\K b c cG d g h i j w'
def tz(f:Nat)(a:Array O)(w:I)(K:Int->Int->Int->Int->ai->Int->Int->I->Prop):Prop:=Calls ah f a w λe w'=>∃b:Int,∃c:Int,∃cG:Int,∃d:Int,∃g:ai,∃h:Int,∃i:Int,e=.returned (.tuple #[.agg #[.int .u16 b,.int .u16 c,.int .u8 cG,d,g,h],i])/\K b c cG d g h i w'
def ek(f:Nat)(a:Array O)(w:I)(K:Int->I->Prop):Prop:=Calls ah f a w λe w'=>∃b:Int,e=.returned (.int .u64 b)/\K b w'
def C0(f:Nat)(a:Array O)(w:I)(K:al ar->Int->Int->I->Prop):Prop:=Calls ah f a w λe w'=>∃b:al ar,∃c:Int,∃cG:Int,e=.returned (.tuple #[b,c,cG])/\K b c cG w'
def C1(f:Nat)(a:Array O)(w:I)(K:Int->Int->Int->Int->Int->Int->Int->Int->Int->I->Prop):Prop:=Calls ah f a w λe w'=>∃b:Int,∃c:Int,∃cG:Int,∃d:Int,∃g:Int,∃h:Int,∃i:Int,∃j:Int,∃k:Int,e=.returned (.tuple #[.agg #[b,c,cG,.int .u64 d,.int .u64 g,h],i,.int .u64 j,k])/\K b c cG d g h i j k w'
def qX(f:Nat)(a:Array O)(w:I)(K:Int->Int->ag->Int->I->Prop):Prop:=Calls ah f a w λe w'=>∃b:Int,∃c:Int,∃cG:ag,∃d:Int,e=.returned (.tuple #[.agg #[b,.int .u64 c,cG],d])/\K b c cG d w'
def C2(f:Nat)(a:Array O)(w:I)(K:ag->Int->Int->I->Prop):Prop:=Calls ah f a w λe w'=>∃b:ag,∃c:Int,∃cG:Int,e=.returned (.tuple #[b,c,cG])/\K b c cG w'
def g0(f:Nat)(a:Array O)(w:I)(K:Int->I->Prop):Prop:=Calls ah f a w λe w'=>∃b:Int,e=.returned (.int .u16 b)/\K b w'
def vO(f:Nat)(a:Array O)(w:I)(K:Array O->ai->Int->I->Prop):Prop:=Calls ah f a w λe w'=>∃b:Array O,∃c:ai,∃cG:Int,e=.returned (.tuple #[.agg b,c,cG])/\K b c cG w'
def jg(f:Nat)(a:Array O)(w:I)(K:ag->ai->I->Prop):Prop:=Calls ah f a w λe w'=>∃b:ag,∃c:ai,e=.returned (.tuple #[b,c])/\K b c w'
def j5(f:Nat)(a:Array O)(w:I)(K:Int->ai->I->Prop):Prop:=Calls ah f a w λe w'=>∃b:Int,∃c:ai,e=.returned (.tuple #[.int .u64 b,c])/\K b c w'
def nX(f:Nat)(a:Array O)(w:I)(K:ag->ai->Int->I->Prop):Prop:=Calls ah f a w λe w'=>∃b:ag,∃c:ai,∃cG:Int,e=.returned (.tuple #[b,c,cG])/\K b c cG w'
def pk(f:Nat)(a:Array O)(w:I)(K:ai->ag->ag->ag->Int->I->Prop):Prop:=Calls ah f a w λe w'=>∃b:ai,∃c:ag,∃cG:ag,∃d:ag,∃g:Int,e=.returned (.tuple #[.agg #[b,c,cG,d],g])/\K b c cG d g w'
def C3(f:Nat)(a:Array O)(w:I)(K:ai->ag->ag->ag->ai->I->Prop):Prop:=Calls ah f a w λe w'=>∃b:ai,∃c:ag,∃cG:ag,∃d:ag,∃g:ai,e=.returned (.tuple #[.agg #[b,c,cG,d],g])/\K b c cG d g w'
def tA(f:Nat)(a:Array O)(w:I)(K:Int->Int->Int->I->Prop):Prop:=Calls ah f a w λe w'=>∃b:Int,∃c:Int,∃cG:Int,e=.returned (.tuple #[b,c,cG])/\K b c cG w'
def vP(f:Nat)(a:Array O)(w:I)(K:ai->ag->ag->ag->I->Prop):Prop:=Calls ah f a w λe w'=>∃b:ai,∃c:ag,∃cG:ag,∃d:ag,e=.returned (.agg #[b,c,cG,d])/\K b c cG d w'
def C4(f:Nat)(a:Array O)(w:I)(K:ag->Int->Int->Int->I->Prop):Prop:=Calls ah f a w λe w'=>∃b:ag,∃c:Int,∃cG:Int,∃d:Int,e=.returned (.tuple #[b,c,cG,d])/\K b c cG d w'
def C5(f:Nat)(a:Array O)(w:I)(K:al ar->ai->I->Prop):Prop:=Calls ah f a w λe w'=>∃b:al ar,∃c:ai,e=.returned (.tuple #[b,c])/\K b c w'
def C6(f:Nat)(a:Array O)(w:I)(K:Int->Int->Int->Int->Int->Int->I->Prop):Prop:=Calls ah f a w λe w'=>∃b:Int,∃c:Int,∃cG:Int,∃d:Int,∃g:Int,∃h:Int,e=.returned (.agg #[.int .u64 b,c,cG,d,g,h])/\K b c cG d g h w'
def C7(f:Nat)(a:Array O)(w:I)(K:Int->Int->Int->I->Prop):Prop:=Calls ah f a w λe w'=>∃b:Int,∃c:Int,∃cG:Int,e=.returned (.agg #[b,c,.int .u64 cG])/\K b c cG w'
def r1(w:I)(A:ar)(K:Int->Prop):Prop:=∃x:Int,w.cell? A=some (.int .i64 x)/\K x
def b8(w:I)(A:ar)(K:Int->Prop):Prop:=∃x:Int,w.cell? A=some (.int .u8 x)/\K x
def a_(w:I)(A:ar)(K:ag->Prop):Prop:=∃x:ag,w.cell? A=some (.slice x.a x.len x.cap)/\K x
def db(w:I)(A:ar)(K:Int->Prop):Prop:=∃x:Int,w.cell? A=some (.int .u64 x)/\K x
def gI(w:I)(A:ar)(K:Int->Prop):Prop:=∃x:Int,w.cell? A=some (.int .u16 x)/\K x
def bB(w:I)(A:ar)(K:ai->Prop):Prop:=∃x:ai,w.cell? A=some (.bool x)/\K x
def aE(n:Int):O:=.int .u64 n
def bz(a:ar)(n:Int)(k:Nat):ar:=a.add (n.toNat*k)
def bR(w:I)(A:ar)(l:Y O)(k:Nat)(K:I->Prop):Prop:=bN w A l/\k=k/\ao (setCells w A 0 l) λw1=>K w1
def xs(w:I)(K:ar->Prop):Prop:=∃a:ar,(some (aa w):al ar)=some a/\K a
def bj(s:ag)(n:Int)(K:ar->Prop):Prop:=∃a:ar,s.a=some a/\bX n s.len/\K a
def aw(p:al ar)(K:ar->Prop):Prop:=∃a:ar,p=some a/\K a
def bE(w:I)(K:I->(Nat->Prop)->Prop):Prop:=ao w.drew λw1=>∃W:Nat->Prop,K w1 W
def ap(T:TypeId)(x:O)(y:O)(w:I)(K:ag->I->Prop):Prop:=∃s:ag,∃w1:I,Sem.run ah (Builtin.append_ #[T,T] T #[x,y]) w=.ok s w1/\K s w1
def fT(d:Int)(e:Int)(w:I)(K:(Int->Int->I->Prop)->(Int->Int->I->Nat)->Int->Int->I->Prop):Prop:=∃ (a:Int->Int->I->Prop) (f:Int->Int->I->Nat),a d e w/\∀ (b:Int) (c:Int) (w1:I),a b c w1->K a f b c w1
def cR(c:Int)(w:I)(K:(Int->I->Prop)->(Int->I->Nat)->Int->I->Prop):Prop:=∃ (a:Int->I->Prop) (d:Int->I->Nat),a c w/\∀ (b:Int) (w1:I),a b w1->K a d b w1
def kx(d:ag)(e:Int)(w:I)(K:(ag->Int->I->Prop)->(ag->Int->I->Nat)->ag->Int->I->Prop):Prop:=∃ (a:ag->Int->I->Prop) (f:ag->Int->I->Nat),a d e w/\∀ (b:ag) (c:Int) (w1:I),a b c w1->K a f b c w1
def C8(e:Int)(f:ai)(cG:Int)(w:I)(K:(Int->ai->Int->I->Prop)->(Int->ai->Int->I->Nat)->Int->ai->Int->I->Prop):Prop:=∃ (a:Int->ai->Int->I->Prop) (g:Int->ai->Int->I->Nat),a e f cG w/\∀ (b:Int) (c:ai) (d:Int) (w1:I),a b c d w1->K a g b c d w1
def C9(c:ag)(w:I)(K:(ag->I->Prop)->(ag->I->Nat)->ag->I->Prop):Prop:=∃ (a:ag->I->Prop) (d:ag->I->Nat),a c w/\∀ (b:ag) (w1:I),a b w1->K a d b w1
def vQ(e:ag)(f:Int)(cG:Int)(w:I)(K:(ag->Int->Int->I->Prop)->(ag->Int->Int->I->Nat)->ag->Int->Int->I->Prop):Prop:=∃ (a:ag->Int->Int->I->Prop) (g:ag->Int->Int->I->Nat),a e f cG w/\∀ (b:ag) (c:Int) (d:Int) (w1:I),a b c d w1->K a g b c d w1
def C_(e:Int)(f:ag)(cG:Int)(w:I)(K:(Int->ag->Int->I->Prop)->(Int->ag->Int->I->Nat)->Int->ag->Int->I->Prop):Prop:=∃ (a:Int->ag->Int->I->Prop) (g:Int->ag->Int->I->Nat),a e f cG w/\∀ (b:Int) (c:ag) (d:Int) (w1:I),a b c d w1->K a g b c d w1
def ky(W:Nat->Prop)(w:I)(A:ar)(K:Int->Prop):Prop:=¬W A.block/\db w A K
def zV(W:Nat->Prop)(w:I)(A:ar)(K:ai->Prop):Prop:=¬W A.block/\bB w A K
def fz(W:Nat->Prop)(w:I)(A:ar)(K:ag->Prop):Prop:=¬W A.block/\a_ w A K
def en(W:Nat->Prop)(w:I)(A:ar)(K:Int->Prop):Prop:=¬W A.block/\r1 w A K
def pn(W:Nat->Prop)(w:I)(A:ar)(K:Int->Prop):Prop:=¬W A.block/\gI w A K
def mR(W:Nat->Prop)(w:I)(A:ar)(K:Int->Prop):Prop:=¬W A.block/\b8 w A K
def aK(w:I)(r:I)(k:Nat)(K:Int->Prop):Prop:=r1 w ((aa r).add k) K
def b5(w:I)(r:I)(k:Nat)(K:Int->Prop):Prop:=db w ((aa r).add k) K
def bd(w:I)(r:I)(k:Nat)(K:ag->Prop):Prop:=a_ w ((aa r).add k) K
def gJ(w:I)(r:I)(k:Nat)(K:Int->Prop):Prop:=gI w ((aa r).add k) K
def e6(w:I)(r:I)(k:Nat)(K:ai->Prop):Prop:=bB w ((aa r).add k) K
def Da(W:Nat->Prop)(w:I)(r:I)(k:Nat)(K:ai->Prop):Prop:=zV W w ((aa r).add k) K
def g1(W:Nat->Prop)(w:I)(r:I)(k:Nat)(K:ag->Prop):Prop:=fz W w ((aa r).add k) K
def fk(w:I)(r:I)(k:Nat)(K:Int->Prop):Prop:=b8 w ((aa r).add k) K
def nY(W:Nat->Prop)(w:I)(r:I)(k:Nat)(K:Int->Prop):Prop:=en W w ((aa r).add k) K
def vR(W:Nat->Prop)(w:I)(r:I)(k:Nat)(K:Int->Prop):Prop:=pn W w ((aa r).add k) K
def Db(W:Nat->Prop)(w:I)(r:I)(k:Nat)(K:Int->Prop):Prop:=ky W w ((aa r).add k) K
def Dc(W:Nat->Prop)(w:I)(r:I)(k:Nat)(K:Int->Prop):Prop:=mR W w ((aa r).add k) K
def fL:Obj:=.cells #[(0:Int),(),(0:Int),(0:Int),false,(0:Int),(0:Int),(0:Int),(0:Int),false] 41
def fl:Obj:=.cells #[(0:Int),(0:Int),(0:Int),.int .u64 0,.int .u64 0,(0:Int)] 115
def z3:Obj:=.cells #[(0:Int),(),(0:Int),(0:Int),false,(0:Int)] 39
def z4:Obj:=.cells #[.bool false,.int .u8 0,.int .i64 0,.bool false,.int .u8 0,.int .u8 0,.int .u8 0,.int .u8 0,.int .u8 0,.int .u8 0,.int .u8 0,.int .u8 0,.int .u8 0,.int .u8 0,.int .u8 0,.int .u8 0,.int .u8 0,.int .u8 0,.int .u8 0,.int .u8 0,.bool false,.int .u8 0,.int .u8 0,.int .u8 0,.int .u8 0,.int .u8 0,.int .u8 0,.int .u8 0,.int .u8 0,.int .u8 0,.int .u8 0,.int .u8 0,.int .u8 0,.int .u8 0,.int .u8 0,.int .u8 0,.int .u8 0,.bool false,.int .u8 0,.int .u16 0,.int .u16 0,.int .u8 0,.int .i64 0,.bool false,.int .i64 0,.bool false,.int .u8 0,.int .u8 0,.int .u8 0,.int .u8 0,.int .u8 0,.int .u8 0,.int .u8 0,.int .u8 0,.int .u8 0,.int .u8 0,.int .u8 0,.int .u8 0,.int .u8 0,.int .u8 0,.int .u8 0,.int .u8 0,.bool false,.int .u8 0,.int .u8 0,.int .u8 0,.int .u8 0,.int .u8 0,.int .u8 0,.int .u8 0,.int .u8 0,.int .u8 0,.int .u8 0,.int .u8 0,.int .u8 0,.int .u8 0,.int .u8 0,.int .u8 0,.int .u8 0,.int .u16 0,.int .u16 0,.int .u8 0] 162
def z5:Obj:=.cells #[.bool false,.int .u8 0,.int .i64 0,.bool false,.int .u8 0,.int .u8 0,.int .u8 0,.int .u8 0,.int .u8 0,.int .u8 0,.int .u8 0,.int .u8 0,.int .u8 0,.int .u8 0,.int .u8 0,.int .u8 0,.int .u8 0,.int .u8 0,.int .u8 0,.int .u8 0,.bool false,.int .u8 0,.int .u8 0,.int .u8 0,.int .u8 0,.int .u8 0,.int .u8 0,.int .u8 0,.int .u8 0,.int .u8 0,.int .u8 0,.int .u8 0,.int .u8 0,.int .u8 0,.int .u8 0,.int .u8 0,.int .u8 0,.bool false,.int .u8 0] 139
def nZ:Obj:=.cells #[.int .u16 0,.int .u16 0,.int .u8 0,(0:Int),false,(0:Int)] 142
def vS:Obj:=.cells #[(0:Int),false,.int .u8 0,.int .u8 0,.int .u8 0,.int .u8 0,.int .u8 0,.int .u8 0,.int .u8 0,.int .u8 0,.int .u8 0,.int .u8 0,.int .u8 0,.int .u8 0,.int .u8 0,.int .u8 0,.int .u8 0,.int .u8 0,.int .u16 0,.int .u8 0,(0:Int),.int .u64 0,()] 49
def l9:Obj:=.cells #[(0:Int),false,.int .u8 0,.int .u8 0,.int .u8 0,.int .u8 0,.int .u8 0,.int .u8 0,.int .u8 0,.int .u8 0,.int .u8 0,.int .u8 0,.int .u8 0,.int .u8 0,.int .u8 0,.int .u8 0,.int .u8 0,.int .u8 0,.int .u16 0,(0:Int),false] 51
def z9:Obj:=.cells #[false,.int .u8 0,.int .u8 0,.int .u8 0,.int .u8 0,.int .u8 0,.int .u8 0,.int .u8 0,.int .u8 0,.int .u8 0,.int .u8 0,.int .u8 0,.int .u8 0,.int .u8 0,.int .u8 0,.int .u8 0,.int .u8 0,(0:Int)] 255
def iH:Obj:=.cells #[(0:Int),(0:Int),false,.int .u8 0,.int .u8 0,.int .u8 0,.int .u8 0,.int .u8 0,.int .u8 0,.int .u8 0,.int .u8 0,.int .u8 0,.int .u8 0,.int .u8 0,.int .u8 0,.int .u8 0,.int .u8 0,.int .u8 0,.int .u8 0,.int .u16 0,(0:Int),.int .u64 0] 178
def vT:Obj:=.cells #[.int .u8 0,.int .u8 0,.int .u8 0,.int .u8 0,.int .u8 0,.int .u8 0,.int .u8 0,.int .u8 0,.int .u8 0,.int .u8 0,.int .u8 0,.int .u8 0,.int .u8 0,.int .u8 0,.int .u8 0,.int .u8 0,.int .u8 0,.int .u8 0,.int .u8 0,.int .u8 0,.int .u8 0,.int .u8 0,.int .u8 0,.int .u8 0,.int .u8 0,.int .u8 0,.int .u8 0,.int .u8 0,.int .u8 0,.int .u8 0,.int .u8 0,.int .u8 0,.int .u8 0,.int .u8 0,.int .u8 0,.int .u8 0,.int .u8 0,.int .u8 0,.int .u8 0,.int .u8 0,.int .u8 0,.int .u8 0,.int .u8 0,.int .u8 0,.int .u8 0,.int .u8 0,.int .u8 0,.int .u8 0,.int .u8 0,.int .u8 0,.int .u8 0,.int .u8 0,.int .u8 0,.int .u8 0,.int .u8 0,.int .u8 0,.int .u8 0,.int .u8 0,.int .u8 0,.int .u8 0,.int .u8 0,.int .u8 0,.int .u8 0,.int .u8 0,.int .u8 0,.int .u8 0,.int .u8 0,.int .u8 0,.int .u8 0,.int .u8 0,.int .u8 0,.int .u8 0,.int .u8 0,.int .u8 0,.int .u8 0,.int .u8 0,.int .u8 0,.int .u8 0,.int .u8 0,.int .u8 0,.int .u8 0,.int .u8 0,.int .u8 0,.int .u8 0,.int .u8 0,.int .u8 0,.int .u8 0,.int .u8 0,.int .u8 0,.int .u8 0,.int .u8 0,.int .u8 0,.int .u8 0,.int .u8 0,.int .u8 0,.int .u8 0,.int .u8 0,.int .u8 0,.int .u8 0,.int .u8 0,.int .u8 0,.int .u8 0,.int .u8 0,.int .u8 0,.int .u8 0,.int .u8 0,.int .u8 0,.int .u8 0,.int .u8 0,.int .u8 0,.int .u8 0,.int .u8 0,.int .u8 0,.int .u8 0,.int .u8 0,.int .u8 0,.int .u8 0,.int .u8 0,.int .u8 0,.int .u8 0,.int .u8 0,.int .u8 0,.int .u8 0,.int .u8 0,.int .u8 0,.int .u8 0,.int .u8 0,.int .u8 0,.int .u8 0,.int .u8 0,.int .u8 0,.int .u8 0,.int .u8 0,.int .u8 0,.int .u8 0,.int .u8 0,.int .u8 0,.int .u8 0,.int .u8 0,.int .u8 0,.int .u8 0,.int .u8 0,.int .u8 0,.int .u8 0,.int .u8 0,.int .u8 0,.int .u8 0,.int .u8 0,.int .u8 0,.int .u8 0,.int .u8 0,.int .u8 0,.int .u8 0,.int .u8 0,.int .u8 0,.int .u8 0,.int .u8 0,.int .u8 0,.int .u8 0,.int .u8 0,.int .u8 0,.int .u8 0,.int .u8 0,.int .u8 0,.int .u8 0,.int .u8 0,.int .u8 0,.int .u8 0,.int .u8 0,.int .u8 0,.int .u8 0,.int .u8 0,.int .u8 0,.int .u8 0,.int .u8 0,.int .u8 0,.int .u8 0,.int .u8 0,.int .u8 0,.int .u8 0,.int .u8 0,.int .u8 0,.int .u8 0,.int .u8 0,.int .u8 0,.int .u8 0,.int .u8 0,.int .u8 0,.int .u8 0,.int .u8 0,.int .u8 0,.int .u8 0,.int .u8 0,.int .u8 0,.int .u8 0,.int .u8 0,.int .u8 0,.int .u8 0,.int .u8 0,.int .u8 0,.int .u8 0,.int .u8 0,.int .u8 0,.int .u8 0,.int .u8 0,.int .u8 0,.int .u8 0,.int .u8 0,.int .u8 0,.int .u8 0,.int .u8 0,.int .u8 0,.int .u8 0,.int .u8 0,.int .u8 0,.int .u8 0,.int .u8 0,.int .u8 0,.int .u8 0,.int .u8 0,.int .u8 0,.int .u8 0,.int .u8 0,.int .u8 0,.int .u8 0,.int .u8 0,.int .u8 0,.int .u8 0,.int .u8 0,.int .u8 0,.int .u8 0,.int .u8 0,.int .u8 0,.int .u8 0,.int .u8 0,.int .u8 0,.int .u8 0,.int .u8 0,.int .u8 0,.int .u8 0,.int .u8 0,.int .u8 0,.int .u8 0,.int .u8 0,.int .u8 0,.int .u8 0,.int .u8 0,.int .u8 0,.int .u8 0,.int .u8 0,.int .u8 0,.int .u8 0,.int .u8 0,.int .u8 0,.int .u8 0,.int .u8 0] 159
def n0:Obj:=.cells #[(0:Int),.int .u64 0,()] 111
def l_:Obj:=.cells #[(0:Int),false,.int .u8 0,.int .u8 0,.int .u8 0,.int .u8 0,.int .u8 0,.int .u8 0,.int .u8 0,.int .u8 0,.int .u8 0,.int .u8 0,.int .u8 0,.int .u8 0,.int .u8 0,.int .u8 0,.int .u8 0,.int .u8 0,(0:Int),(0:Int),.int .u64 0] 288
def lK:Obj:=.cells #[false,.int .u8 0,.int .u8 0,.int .u8 0,.int .u8 0,.int .u8 0,.int .u8 0,.int .u8 0,.int .u8 0,.int .u8 0,.int .u8 0,.int .u8 0,.int .u8 0,.int .u8 0,.int .u8 0,.int .u8 0,.int .u8 0] 45
def qY:Obj:=.cells #[.bool false,.int .u8 0,.int .u8 0,.int .u8 0,.int .u8 0,.int .u8 0,.int .u8 0,.int .u8 0,.int .u8 0,.int .u8 0,.int .u8 0,.int .u8 0,.int .u8 0,.int .u8 0,.int .u8 0,.int .u8 0,.int .u8 0,.bool false,.int .u8 0,.int .u8 0,.int .u8 0,.int .u8 0,.int .u8 0,.int .u8 0,.int .u8 0,.int .u8 0,.int .u8 0,.int .u8 0,.int .u8 0,.int .u8 0,.int .u8 0,.int .u8 0,.int .u8 0,.int .u8 0,.int .u16 0,.int .u16 0,.int .u8 0] 81
def gS:Obj:=.cells #[false,(),(),()] 404
def zW:Obj:=.cells #[(0:Int),(0:Int)] 276
def vU:Obj:=.cells #[false,(0:Int)] 278
def qZ:Obj:=.cells #[(0:Int),(0:Int)] 416
def vV:Obj:=.cells #[.int .u64 0,(0:Int),(0:Int),(0:Int),(0:Int),(0:Int)] 26
def a1:aB:=(.q (.c (.q .l) .l))
def a25:aB:=(.q (.s (.c .l .l) (.s (.bc (.q a1)) .r)))
def dP:aB:=(.q (.s a1 (.q .l)))
def eR:aB:=(.q (.s (.q (.bc (.loop [(8,(.int .i64))] [0,1,7] a25))) (.q .l)))
def a22:aB:=(.q (.q (.q .l)))
def a23:aB:=(.q (.c (.q .l) a1))
def a24:aB:=(.s (.q a1) (.q .l))
def a2:aB:=(.s (.q (.c (.q (.q (.s (.e 8 false [0,0,0,1002001,1003000,0,0,1006005,1007004] [9046] [10,2,8,1048047,1049046,1,2,1052051,1053050] (.z 8 0 .e)) (.q .l)))) .l)) (.q (.s (.q (.c (.s (.e 8 false [0,0,0,1002001,1003000,0,0,1006005,1007004] [9069] [1,2,8,1071070,1072069,1,2,1075074,1076073] (.z 8 0 .e)) (.q (.q .l))) .l)) a22)))
def a3:aB:=(.q (.s (.z [9,8]) .l))
def a4:aB:=(.q (.s (.c .l .l) (.s (.bc (.q .r)) .r)))
def a5:aB:=(.q (.s (.s (.z [9,8,9,8]) (.c (.q .l) .l)) (.q .l)))
def cZ:aB:=(.q (.q (.q (.s (.bc (.loop [(9,(.int .i64)),(10,(.int .i64))] [0,1,2,8] (.s (.q (.c .l .l)) (.bc (.q (.q (.c .r .r))))))) (.s (.z [15,25]) .l)))))
def dT:aB:=(.s (.z [9,8]) (.c (.q .l) .l))
def dz:aB:=(.s (.q (.c .l .l)) (.q .l))
def a9:aB:=(.c (.q (.q .l)) .l)
def eo:aB:=(.s (.z [9,10]) (.c (.q .l) .l))
def eL:aB:=(.q (.s (.z [12,11]) .l))
def e7:aB:=(.s (.z [9,10,12,10]) (.c (.q .l) .l))
def e1:aB:=(.q (.q (.c .r .l)))
def e8:aB:=(.q (.q (.q (.q (.q a22)))))
def jh:aB:=(.q (.s (.z [9,8,9,22]) .l))
def fA:aB:=(.q (.c .l (.q (.c .l .l))))
def j6:aB:=(.s (.z [12,16]) (.c (.q .l) .l))
def ie:aB:=(.s (.z [12,13]) (.c (.q .l) .l))
def kz:aB:=(.s (.z [12,10]) (.c (.q .l) .l))
theorem okF{f:Nat}{fn:Func}(p:I->(O->I->Prop)->Prop)(A:aB){args:Y O}{w:I}{Q:O->I->Prop}(hf:Tryz.prog.funcs[f]? =some fn)(h:p w Q)(h1:pb fn args.length=true:=by kernel_rfl)(h2:p w Q=qO ah tk A fn args w Q:=by kernel_rfl):az ah f args.toArray w Q:=Hi zU hf h1 (Eq.mp h2 h)
def cX(aR:I)(a:I)(f:Array O)(w:I)(w1:I)(Q:O->I->Prop):Prop:=bN aR (aa a) (Array.toList f)/\Array.size f=4/\ao (setCells aR (aa a) 0 (Array.toList f)) λk=>bd
 k w 1 λl=>cR 0 k λt m n17 bl=>ae (decide (n17<(l.len:Int))) (bj l n17 λkz=>a_ bl (bz kz n17 1) λu=>bE bl λg h=>g1 h g a 1 λv=>bp 97 #[u] g λx d=>ad h g d/\ao (d.alloc (.cells #[x] 36)) λn=>ad h d n/\ap 296 v (.slice (some (aa d)) 1 1) n λy
 z=>st z ((aa a).add 1) y λo=>t (an (n17+1)) o/\m (an (n17+1)) o<m n17 bl) (bd bl w 2 λp=>cR 0 bl λA q n34 b=>ae (decide (n34<(p.len:Int))) (bj p
 n34 λB=>a_ b (bz B n34 1) λC=>bE b λi j=>g1 j i a 2 λD=>bp 97 #[C] i λE e=>ad j i e/\ao (e.alloc (.cells #[E] 36)) λr=>ad j e r/\ap 296 D (.slice (some (aa e)) 1 1) r λF G=>st G ((aa a).add 2) F λs=>A (an (n34
 +1)) s/\q (an (n34+1)) s<q n34 b) (bB b (aa a) λH=>bd b a 1 λJ=>bd b a 2 λK=>bd b a 3 λL=>bR b (aa w1) [H,J,K,
 L] 4 λc=>bB c (aa w1) λM=>bd c w1 1 λN=>bd c w1 2 λP=>bd c w1 3 λR=>Q (.agg #[M,N,P,R]) c))
def c6(af:I)(w:I)(Q:O->I->Prop):Prop:=r1 af (aa w) λa=>bd af w 1 λb=>aK af w 2 λn5=>aK af w 3 λn6=>e6 af w 4 λc=>aK af w 5 λn8=>Q (.agg #[a,b,n5,n6,c,n8]) af
def tB(bG:I)(af:I)(a:I)(w:I)(Q:O->I->Prop):Prop:=∃c:Y O,aT bG (aa af) 0 39=some c/\gI bG (aa a) λn25=>gJ bG a 1 λn26=>fk bG a 2 λn27=>aK bG
 a 3 λn28=>e6 bG a 4 λi=>aK bG a 5 λn30=>∃d:Y O,aT bG ((aa af).add 3) 0 17=some d/\∃e:Y O,aT bG ((aa af).add 20) 0 17=some e/\gI bG (aa a) λn33=>gJ
 bG a 1 λn34=>fk bG af 1 λn35=>∃f:Array O,Sem.run ah (Instr.build 81 #[(0,.agg d.toArray),(1,.agg e.toArray),(2,.int .u16 n33),(3,.int .u16 n34),(4,.int .u8 n35)]) bG=.ok (.agg f)
 bG/\∃b:Array O,Sem.run ah (Instr.build 162 #[(0,.agg c.toArray),(1,.agg #[.int .u16 n25,.int .u16 n26,.int .u8 n27,n28,i,n30]),(2,.agg f)]) bG=.ok (.agg b) bG/\
 bN bG (aa w) (Array.toList b)/\Array.size b=82/\ao (setCells bG (aa w) 0 (Array.toList b)) λg=>∃h:Y O,aT g (aa w) 0 82=some h/\Q (.tuple #[.agg h.toArray,(0:Int)]) g
def lL(b:I)(w1:I)(a:Array O)(Q:O->I->Prop):Prop:=bN b (aa w1) (Array.toList a)/\Array.size a=10/\ao (setCells b (aa w1) 0 (Array.toList a)) λc=>∃d:Y O,aT
 c (aa w1) 0 10=some d/\Q (.agg d.toArray) c
def j7(aF:I)(w:I)(Q:O->I->Prop)(n7:Int):Prop:=bB aF (aa w) λa=>bd aF w 1 λb=>bd aF w 2 λc=>bd aF w 3 λd=>Q (.tuple #[.agg #[a,b,c,d],n7]) aF
def kA(a:I)(w:I)(Q:O->I->Prop)(n12:Int):Prop:=r1 a (aa w) λn13=>aK a w 1 λn14=>aK a w 2 λn15=>b5 a w 3 λn16=>b5 a w 4 λn17=>aK a w 5 λn18=>bR a (aa w) [n13,n14,n15,aE n16,aE n17,n18] 6 λb=>r1 b (aa w) λn20=>aK b w 1 λn21=>aK b w 2 λn22=>b5 b w 3 λn23=>b5 b w 4 λn24=>aK b w 5 λn25=>Q (.tuple #[.agg
 #[n20,n21,n22,aE n23,aE n24,n25],aE 0,n12]) b
def n1(a:I)(b:ag)(c:I)(d:ag)(Q:O->I->Prop):Prop:=ao (a.alloc (.cells #[b,.slice (some (aa c)) 2 2,d] 36)) λe=>bp
 94 #[.slice (some (aa a)) 3 3] e λf g=>Q (.tuple #[f,true]) g
def tC(a:I)(w:I)(Q:O->I->Prop):Prop:=bB a (aa w) λb=>bd a w 1 λc=>bd a w 2 λd=>bd a w 3 λe=>Q (.tuple #[.agg #[b,c,d,e],(4:Int)]) a
def gj(a:I)(c:I)(w1:I)(Q:O->I->Prop):Prop:=bB a (aa c) λd=>bd a c 1 λe=>bd a c 2 λf=>bd a c 3 λg=>bR a (aa w1) [d,e,f,g] 4 λb=>bB b (aa w1) λh=>bd b w1 1 λi=>bd b w1 2 λj=>bd b w1 3 λk=>Q (.tuple #[.agg #[h,i,
 j,k],true]) b
def zX(g:O)(aR:I)(d:al ar)(h:I->Prop)(b:I->Nat)(i:I):Prop:=∃n15:Int,∃j:O,∃c:I,Sem.run ah (Instr.entry (g)) aR=.ok (.tuple #[n15,j])
 c/\bE c λbl e=>aw d λdP=>fz e bl (dP.add 4) λk=>fK 99 #[d,n15] bl λa bt=>ad e bl bt/\bj k n15 λa25=>bN bt (bz a25 n15 256) (Array.toList a)/\
 Array.size a=256/\ao (setCells bt (bz a25 n15 256) 0 (Array.toList a)) λf=>h f/\b f<b i
def po(aF:I)(w1:I)(a:Array O)(Q:O->I->Prop):Prop:=bN aF (aa w1) (Array.toList a)/\Array.size a=10/\ao (setCells aF (aa w1) 0 (Array.toList a)) λaR=>∃b:Y O,aT
 aR (aa w1) 0 10=some b/\Q (.tuple #[.agg b.toArray,true]) aR
def zY(g:I)(c:al ar)(w:I)(Q:O->I->Prop):Prop:=bE g λa b=>aw c λd=>¬b d.block/\∃e:al ar,a.cell? d=some (e)/\aw c λh=>en b a
 (h.add 84) λi=>¬b ((aa w):ar).block/\∃f:Y O,aT a (aa w) 0 18=some f/\hT 186 #[e,i,.agg f.toArray] a λj k l=>Q (.tuple #[j,k]) l
def zZ(aC:I)(af:I)(w1:I)(d:I->Prop):Prop:=bE aC λa b=>g1 b a af 3 λe=>bx 331 #[.pointer (some (aa w1)),(2:Int)] a λn14 aR=>ad b a aR/\ao (aR.alloc
 (.cells #[n14] 3)) λc=>ad b aR c/\ap 52 e (.slice (some (aa aR)) 1 1) c λf g=>st g ((aa af).add 3) f λbl=>d bl
def vW(n10:Int)(c:Int->Int->I->Prop)(a:Int)(a6:Int)(aF:I)(b:Int->Int->I->Nat)(aC:I):Prop:=ae (decide (n10<0)) (c (an ((an (Int.fdiv (IntKind.wrap .u64 (an (a+a6))) (2^(min
 (Int.toNat 1) 64))))+1)) a6 aF/\b (an ((an (Int.fdiv (IntKind.wrap .u64 (an (a+a6))) (2^(min (Int.toNat 1) 64))))+1)) a6 aF<b a a6 aC) (c a (an (Int.fdiv (IntKind.wrap .u64 (an (a+a6))) (2^(min (Int.toNat 1) 64)))) aF
 /\b a (an (Int.fdiv (IntKind.wrap .u64 (an (a+a6))) (2^(min (Int.toNat 1) 64)))) aF<b a a6 aC)
def z1(w1:I)(w:I)(Q:O->I->Prop):Prop:=∃cI:Array O,Sem.run ah (Instr.build 49 #[]) w1=.ok (.agg cI) w1/\bN w1 (aa w) (Array.toList cI)/\Array.size cI=23/\ao (setCells w1
 (aa w) 0 (Array.toList cI)) λa=>∃b:Y O,aT a (aa w) 0 23=some b/\Q (.tuple #[.agg b.toArray,false]) a
def z2(c:ag)(e:ag)(a:I)(f:Nat->Prop)(g:al Nat)(i:Int)(d:al ar)(Q:O->I->Prop):Prop:=ap 97 c e a λh
 b=>ad f a b/\∃bt:I,Sem.run ah (Instr.mapUpdate 98 (.map g) i h) b=.ok () bt/\aw d λa23=>r1 bt (a23.add 6) λn24=>aw d λa25=>st
 bt (a25.add 6) (.int .i64 (an (n24+1))) λj=>Q (0:Int) j
def z6(a:I)(w:I)(Q:O->I->Prop):Prop:=r1 a (aa w) λn35=>aK a w 1 λn36=>aK a w 2 λn37=>b5 a w 3 λn38=>b5 a w 4 λn39=>aK a w 5 λn40=>Q (.tuple #[.agg #[n35,n36,n37,aE n38,aE n39,n40],(0:Int),aE 0,(4:Int)]) a
def vX(a:I)(w1:I)(Q:O->I->Prop):Prop:=gI a (aa w1) λn38=>gJ a w1 1 λn39=>fk a w1 2 λn40=>aK a w1 3 λn41=>e6 a w1 4 λb=>aK a w1 5 λc=>Q (.tuple #[.agg
 #[.int .u16 n38,.int .u16 n39,.int .u8 n40,n41,b,c],(0:Int)]) a
def z7(a:ag):Prop:=(0:Int)<=(an (232-(a.len:Int)))/\((an (232-(a.len:Int))):Int)<=(an (232-(a.len:Int)))/\((an (232-(a.len:Int))):Int)<=iR/\((1:Nat):Int)*(an (232-(a.len:Int)))<=
 140737488355328
def z8(a:I)(c:ag)(d:I)(e:ag)(f:I)(b:ag)(g:ag->I->Prop):Prop:=ao (a.alloc (.cells #[c,.slice (some (aa d)) (Int.toNat 4) (Int.toNat 4),e,.slice (some (aa f)) ((an (232-(b.len:Int))).toNat) ((an (232-(b.len:Int))).toNat)] 36)) λh=>bp 94 #[.slice (some (aa a)) 4 4] h λi j=>g i j
def z_(d:al ar)(aR:I)(Q:O->I->Prop):Prop:=aw d λc=>∃a:al Nat,aR.cell? (c.add 5)=some (.map a)/\∃ (e:O) (b:I),Sem.run ah (Builtin.clear_
 #[98] 0 #[.map a]) aR=.ok e b/\Q (0:Int) b
def Aa(af:I)(w:I)(Q:O->I->Prop):Prop:=r1 af (aa w) λa=>aK af w 1 λa6=>aK af w 2 λn5=>b5 af w 3 λn6=>b5 af w 4 λn7=>aK af w 5 λn8=>Q (.agg #[a,a6,n5,aE n6,aE n7,n8]) af
def Ab(aC:I)(w:I)(a:Y O)(Q:O->I->Prop):Prop:=bN aC (aa w) (Array.toList a.toArray)/\Array.size a.toArray=256/\ao (setCells aC (aa w) 0 (Array.toList a.toArray)) λaF=>∃b:Y
 O,aT aF (aa w) 0 256=some b/\Q (.agg b.toArray) aF
def vY(a:Int)(a6:Int)(x:ag):Prop:=(0:Int)<=(an (Int.fdiv (IntKind.wrap .u64 (an (a+a6))) (2^(min (Int.toNat 1) 64))))/\(an (Int.fdiv (IntKind.wrap .u64 (an (a+a6))) (2^(min (Int.toNat 1) 64))))<(x.len:Int)
def Ac(af:I)(w:I)(fB:Array O)(Q:O->I->Prop):Prop:=bN af (aa w) (Array.toList fB)/\Array.size fB=17/\ao (setCells af (aa w) 0 (Array.toList fB)) λaC=>∃a:Y O,aT aC (aa w) 0
 17=some a/\Q (.tuple #[.agg a.toArray,true]) aC
def vZ(a:I)(aA:I)(w1:I)(Q:O->I->Prop):Prop:=r1 a (aa aA) λn25=>bd a aA 1 λb=>aK a aA 2 λn27=>aK a aA 3 λn28=>e6 a aA 4 λc=>aK a aA 5 λn30=>bR a
 (aa w1) [n25,b,n27,n28,c,n30] 6 λcy=>c6 cy w1 Q
set_option maxRecDepth 100000
def Z.v7(s:ag)(i:Int)(v:ag)(w:I)(Q:O->I->Prop):Prop:=((0:Int)<=i/\i<=(s.len:Int))/\ae ((v.len:Int)==0) (Q s w) (ae (i==(s.len:Int)) (ap
 47 s v w λs1 af=>Q s1 af) (ae (decide (((an ((s.len:Int)+(v.len:Int))):Int)>(s.cap:Int))) (((0:Int)<=i/\i<=((s.cap:Nat):
 Int))/\∃b:ag,∃aA:I,Sem.run ah (Builtin.append_ #[47,3] 47 #[.slice (bw s.a 21 0 s.cap) ((i.toNat)-0) (s.cap-0),.int .i64 (an ((an ((s.len:Int)+(v.len:Int)))-i))]) w=
 .ok b aA/\((0:Int)<=i/\i<=(b.len:Int))/\∃n5:Int,∃d:I,Sem.run ah (Builtin.copy_ #[47,47] 3 #[.slice (bw b.a 21 (i.toNat) b.cap) (b.len-
 (i.toNat)) (b.cap-(i.toNat)),v]) aA=.ok n5 d/\ao (d.drew) λj=>((0:Int)<=(an (i+(v.len:Int)))/\(an (i+(v.len:Int)))<=(b.len:Int))/\((0:Int)<=i/\i<=(s.len:Int))/\∃n8:
 Int,∃e:I,Sem.run ah (Builtin.copy_ #[47,47] 3 #[.slice (bw b.a 21 ((an (i+(v.len:Int))).toNat) b.cap) (b.len-((an (i+(v.len:Int))).toNat)) (b.cap-((an (i+
 (v.len:Int))).toNat)),.slice (bw s.a 21 (i.toNat) s.cap) (s.len-(i.toNat)) (s.cap-(i.toNat))]) j=.ok n8 e/\Q b e) (((0:Int)<=(an ((s.len:Int)+(v.len:Int)))/\(an ((s.len:Int)+
 (v.len:Int)))<=(s.cap:Int))/\((0:Int)<=(an (i+(v.len:Int)))/\(an (i+(v.len:Int)))<=(((((an ((s.len:Int)+(v.len:Int))).toNat)-0):Nat):Int))/\∃f:ai,∃c:I,Sem.run ah (callFunc
 117 #[v,.slice (bw (bw s.a 21 0 s.cap) 21 ((an (i+(v.len:Int))).toNat) (s.cap-0)) ((((an ((s.len:Int)+(v.len:Int))).toNat)-0)-((an (i+(v.len:Int))).toNat)) ((s.cap
 -0)-((an (i+(v.len:Int))).toNat))]) w=.ok (.value f) c/\ae (!f) (ao (c.drew) λaR=>((0:Int)<=(an (i+(v.len:Int)))/\(an (i+(v.len:Int)))<=(((((an ((s.len:Int)+(v.len:Int))).toNat)-0):Nat):
 Int))/\((0:Int)<=i/\i<=(((((an ((s.len:Int)+(v.len:Int))).toNat)-0):Nat):Int))/\∃n13:Int,∃g:I,Sem.run ah (Builtin.copy_ #[47,47] 3 #[.slice (bw (bw s.a 21 0
 s.cap) 21 ((an (i+(v.len:Int))).toNat) (s.cap-0)) ((((an ((s.len:Int)+(v.len:Int))).toNat)-0)-((an (i+(v.len:Int))).toNat)) ((s.cap-0)-((an (i+(v.len:Int))).toNat)),.slice (bw (bw s.a 21 0 s.cap) 21
 (i.toNat) (s.cap-0)) ((((an ((s.len:Int)+(v.len:Int))).toNat)-0)-(i.toNat)) ((s.cap-0)-(i.toNat))]) aR=.ok n13 g/\((0:Int)<=i/\i<=(((((an ((s.len:Int)+(v.len:Int))).toNat)-0):Nat)
 :Int))/\∃n15:Int,∃h:I,Sem.run ah (Builtin.copy_ #[47,47] 3 #[.slice (bw (bw s.a 21 0 s.cap) 21 (i.toNat) (s.cap-0)) ((((an ((s.len:Int)+(v.len:Int))).toNat)-0)-
 (i.toNat)) ((s.cap-0)-(i.toNat)),v]) g=.ok n15 h/\Q (.slice (bw s.a 21 0 s.cap) (((an ((s.len:Int)+(v.len:Int))).toNat)-0) (s.cap-0)) h) (((0:Int)<=(s.len:Int)/\
 (s.len:Int)<=(((((an ((s.len:Int)+(v.len:Int))).toNat)-0):Nat):Int))/\∃n17:Int,∃bl:I,Sem.run ah (Builtin.copy_ #[47,47] 3 #[.slice (bw (bw s.a 21 0 s.cap) 21
 (Int.toNat (s.len:Int)) (s.cap-0)) ((((an ((s.len:Int)+(v.len:Int))).toNat)-0)-(Int.toNat (s.len:Int))) ((s.cap-0)-(Int.toNat (s.len:Int))),v]) c=.ok n17 bl/\((0:Int)<=i/\i<=
 (((((an ((s.len:Int)+(v.len:Int))).toNat)-0):Nat):Int))/\dg 118 #[.slice (bw (bw s.a 21 0 s.cap) 21 (i.toNat) (s.cap-0)) ((((an ((s.len:Int)+(v.len:Int))).toNat)-0)-(Int.toNat
 i)) ((s.cap-0)-(i.toNat)),.int .i64 (v.len:Int)] bl λk=>Q (.slice (bw s.a 21 0 s.cap) (((an ((s.len:Int)+(v.len:Int))).toNat)-0) (s.cap-0)) k))))
def aj.v7:aB:=(.q (.q (.q (.s a1 (.q (.s a1 a2))))))
def Z.pq(s:ag)(w:I)(Q:O->I->Prop):Prop:=ae (Option.isNone s.a) (Q () w) (ao (w.alloc (.cells #[] 5)) λw1=>ap 36 (.slice (some (aa w)) 0 0) s w1 λs2 b=>Q s2 b)
def aj.pq:aB:=dP
def Z.v8(x:ag)(target:Int)(cmp:h_)(w:I)(Q:O->I->Prop):Prop:=fT 0 (x.len:Int) w λe g b a6 aC=>ae (decide (b<a6)) ((0:Int)<=1/\∃cZ:ar,
 x.a=some cZ/\(vY b a6 x)/\∃c:Y O,aT aC (cZ.add (Int.toNat (an (Int.fdiv (IntKind.wrap .u64 (an (b+a6))) (2^(min (Int.toNat 1) 64))))*21)) 0 21=some c/\iC ah cmp.f/\Calls ah cmp.f
 (cmp.pre++ #[.agg c.toArray,.int .i64 target]++cmp.cap) aC λh aF=>∃n10:Int,h=.returned (.int .i64 n10)/\vW n10 e b a6 aF g aC) (aX (λd:ai->I->Prop=>ae (decide (b<(x.len:Int))) (nU x b aC 21 λ
 i=>iC ah cmp.f/\Calls ah cmp.f (cmp.pre++ #[.agg i.toArray,.int .i64 target]++cmp.cap) aC λj k=>∃n16:Int,j=.returned (.int .i64 n16)/\d (n16==0) k) (d false aC)) (λ(l:ai) bl
 =>Q (.tuple #[.int .i64 b,.bool l]) bl))
def aj.v8:aB:=cZ
def Z.q0(x:Int)(y:Int)(w:I)(Q:O->I->Prop):Prop:=bn 160 #[x] w λb w1=>bn 160 #[y] w1 λa aA=>ae b (ae a (Q (0:Int) aA) (Q (.int .i64
 (-1)) aA)) (ae a (Q (1:Int) aA) (ae (decide (x<y)) (Q (.int .i64 (-1)) aA) (ae (decide (x>y)) (Q (1:Int) aA) (Q (0:Int) aA))))
def aj.q0:aB:=(.q (.q (.q (.s (.q (.c (.s a1 (.q .l)) .l)) (.s a1 (.s a1 (.s a1 (.q .l))))))))
def Z.v_(m:al Nat)(w:I)(Q:O->I->Prop):Prop:=ao (w.alloc (.cells #[.map m] 98)) λw1=>Q (.func (.func
 164) #[] #[.pointer (some (aa w))]) w1
def aj.v_:aB:=(.q (.q .l))
theorem Z.HF(m:al Nat)(w:I)(Q:O->I->Prop)(h:Z.v_ m w Q):az ah 120 #[.map m] w Q:=okF (λw Q=>Z.v_ m w Q) aj.v_ func120 h
def Z.wa(s:ag)(w:I)(Q:O->I->Prop):Prop:=ae (Option.isNone s.a) (Q () w) (∃s1:ag,∃af:I,Sem.run ah (Instr.buildSlice 47 0 #[]) w
 =.ok s1 af/\ap 47 s1 s af λb aA=>Q b aA)
def aj.wa:aB:=dP
def Z.wc(s:ag)(w:I)(Q:O->I->Prop):Prop:=ae (Option.isNone s.a) (Q () w) (ao (w.alloc (.cells #[] 5)) λw1=>ap 199 (.slice (some (aa w)) 0 0) s w1 λs2 b=>Q s2 b)
def aj.wc:aB:=dP
def Z.cmp_isNaN_int(x:Int)(w:I)(Q:O->I->Prop):Prop:=Q (.bool (x !=x)) w
def aj.cmp_isNaN_int:aB:=(.q (.q .l))
def Z.we(s:ag)(f:h_)(w:I)(Q:O->I->Prop):Prop:=bx 214 #[s,.func (.func f.f) f.pre f.cap] w λa w1=>Q (.bool (decide (a>=
 0))) w1
def aj.we:aB:=(.q (.q .l))
def Z.wg(b:ag)(c:ag)(w:I)(Q:O->I->Prop):Prop:=ae ((b.len:Int) !=(c.len:Int)) (Q false w) (cR 0 w λe d a aA=>ae (decide (a<(b.len:Int))) (ao (aA.drew) λ
 aC=>bj b a λcZ=>¬False/\r1 aC (bz cZ a 1) λn7=>bj c a λdz=>¬False/\r1 aC (bz dz a 1) λn9=>ae (n7 !=n9) (Q false aC) (e (an (a+1)) aC/\d (an (a+1)) aC<d a aA)) (Q true aA))
def aj.wg:aB:=(.q (.s a1 (.s (.q (.bc (.loop [(13,(.int .i64))] [0,1,12] (.q (.s (.c .l .l) (.s (.bc (.q (.s (.e 8 false [0,0,502,3,0,0,1005004,7,1007003] [9016] [1,6,1017016,19,2,6,1021020,23,1023019] (.z 8 0
 .e)) (.c (.q .l) .l)))) .r)))))) (.q .l))))
def Z.tD(s:ag)(f:h_)(w:I)(Q:O->I->Prop):Prop:=cR 0 w λe c a aA=>ae (decide (a<(s.len:Int))) (bj s a λa5=>b8 aA (bz a5 a 1) λn6=>iC ah f.f/\Calls
 ah f.f (f.pre++ #[.int .u8 n6]++f.cap) aA λg b=>∃d:ai,g=.returned d/\ae d (Q a b) (e (an (a+1)) b/\c (an (a+1)) b<c a aA)) (Q (.int .i64 (-1)) aA)
def aj.tD:aB:=eR
theorem Z.HG(s:ag)(f:h_)(w:I)(Q:O->I->Prop)(h:Z.tD s f w Q):az ah 214 #[s,.func (.func f.f) f.pre f.cap] w Q:=okF (λw Q=>Z.tD s f w Q) aj.tD func214 h
def Z.q1(a:ag)(b:ag)(w:I)(Q:O->I->Prop):Prop:=∃s1:ByteArray,∃af:I,Sem.run ah (convert 36 9 a) w=.ok (.string s1) af/\∃c:ByteArray,∃aA
 :I,Sem.run ah (convert 36 9 b) af=.ok (.string c) aA/\Q (.bool (ByteArray.toList s1==ByteArray.toList c)) aA
def aj.q1:aB:=(.q (.q .l))
set_option maxRecDepth 100000
def Z.wh(s:ag)(v:Int)(w:I)(Q:O->I->Prop):Prop:=bx 311 #[s,v] w λa w1=>Q (.bool (decide (a>=0))) w1
def aj.wh:aB:=(.q (.q .l))
def Z.wi(x:ag)(count:Int)(w:I)(Q:O->I->Prop):Prop:=aX (λbH:I->Prop=>ae (decide (count<0)) (False) (bH w)) (λaf=>vN 314 #[.int .u64 (IntKind.wrap .u64
 (x.len:Int)),aE (IntKind.wrap .u64 count)] af λn5 n6 e=>aX (λf:I->Prop=>ae ((decide (n5>0))||(decide (n6>iR))) (False) (f e)) (λaF=>((0:Int)<=(an n6)/\((an n6):Int)<=(an n6)/\((an n6):Int)<=iR/\
 ((8:Nat):Int)*(an n6)<=140737488355328)/\ao (aF.alloc (.cells (gQ ah 3 ((an n6).toNat)) 3)) λg=>∃n10:Int,∃c:I,Sem.run ah (Builtin.copy_ #[52,52] 3 #[.slice (some
 (aa aF)) ((an n6).toNat) ((an n6).toNat),x]) g=.ok n10 c/\cR n10 c λh d n14 a=>ae (decide (n14<((((an n6).toNat):Nat):Int))) (bE a λi j=>((0:Int)<=n14/\
 n14<=((((an n6).toNat):Nat):Int))/\((0:Int)<=n14/\n14<=((((an n6).toNat):Nat):Int))/\∃n18:Int,∃b:I,Sem.run ah (Builtin.copy_ #[52,52] 3 #[.slice (bw (some (aa aF)) 1
 (n14.toNat) ((an n6).toNat)) (((an n6).toNat)-(n14.toNat)) (((an n6).toNat)-(n14.toNat)),.slice (bw (some (aa aF)) 1 0 ((an n6).toNat)) ((n14.toNat)-0) (((an n6).toNat)-0)]) i=.ok n18 b/\h (an (n14+n18)) b/\d (an (n14+n18)) b<d n14 a) (Q (.slice (some (aa aF)) ((an n6).toNat) ((an n6).toNat)) a)))
def aj.wi:aB:=(.q (.s (.dZ [] [0,1] (.q (.c .r .l))) (.q (.s (.dZ [] [0,6] (.s (.z [9,8]) (.c .r .l))) (.q (.q (.s (.bc (.loop [(8,(.int .i64))] [7] (.s (.q (.c .l .l)) (.bc (.d 8 true
 [0,0,0,1002001,0,0,1005004,1006003,1007000,509] [0,0,0,1002001,0,0,1005004,1006003,1007000,1000000000293] [9038,9] [9,2007,1040039,2007,1043042,1044041,1045038,47] (.z 7 0 (.out 7 false (.tail [.r,.r])))))))) (.q .l))))))))
def Z.mb(a:ag)(b:ag)(w:I)(Q:O->I->Prop):Prop:=∃dN:Int,∃af:I,Sem.run ah (callFunc 321 #[a,b]) w=.ok (.value dN) af/\Q dN af
def aj.mb:aB:=(.q (.q .l))
def Z.wj(s:ag)(v:Int)(w:I)(Q:O->I->Prop):Prop:=cR 0 w λc b a aA=>ae (decide (a<(s.len:Int))) (bj s a λa5=>r1 aA (bz a5 a 1) λn6=>ae (v==n6) (Q a aA)
 (c (an (a+1)) aA/\b (an (a+1)) aA<b a aA)) (Q (.int .i64 (-1)) aA)
def aj.wj:aB:=eR
def Z.wk(x:Int)(y:Int)(w:I)(Q:O->I->Prop):Prop:=ae false (CW 335 #[.int .u32 (IntKind.wrap .u32 x),.int .u32 (IntKind.wrap .u32 y)] w λa a6 w1=>Q (.tuple #[aE (IntKind.wrap .u64
 a),aE (IntKind.wrap .u64 a6)]) w1) (vN 336 #[aE x,aE y] w λn7 n8 aC=>Q (.tuple #[aE n7,aE n8]) aC)
def aj.wk:aB:=(.q (.s a9 (.q (.q .l))))
def Z.wm(x:Int)(w:I)(Q:O->I->Prop):Prop:=(0:Int)<=x/\∃a:UInt8,zk (ByteArray.mk #[0,1,1,2,1,2,2,3,1,2,2,3,2,3,3,4,1,2,2,3,2,3,3,4,2,3,3,4,3,4,4,5,1,2,
 2,3,2,3,3,4,2,3,3,4,3,4,4,5,2,3,3,4,3,4,4,5,3,4,4,5,4,5,5,6,1,2,2,3,2,3,3,4,2,3,3,4,3,4,4,5,2,3,3,4,3,4,4,5,3,4,4,5,4,5,5,6,2,3,3,4,3,4,4,5,3,4,4,5,4,5,5,6,3,4,
 4,5,4,5,5,6,4,5,5,6,5,6,6,7,1,2,2,3,2,3,3,4,2,3,3,4,3,4,4,5,2,3,3,4,3,4,4,5,3,4,4,5,4,5,5,6,2,3,3,4,3,4,4,5,3,4,4,5,4,5,5,6,3,4,4,5,4,5,5,6,4,5,5,6,5,6,6,7,2,3,
 3,4,3,4,4,5,3,4,4,5,4,5,5,6,3,4,4,5,4,5,5,6,4,5,5,6,5,6,6,7,3,4,4,5,4,5,5,6,4,5,5,6,5,6,6,7,4,5,5,6,5,6,6,7,5,6,6,7,6,7,7,8]) (x.toNat)=some a/\Q (.int .i64 (an ((a.toNat
 :Nat):Int))) w
def aj.wm:aB:=(.q (.q .l))
def Z.wo(x:Int)(y:Int)(w:I)(Q:O->I->Prop):Prop:=(0:Int)<=32/\(0:Int)<=32/\(0:Int)<=32/\(0:Int)<=32/\(0:Int)<=32/\Q (.tuple #[.int .u64 (IntKind.wrap .u64 ((IntKind.wrap .u64
 ((IntKind.wrap .u64 ((Int.fdiv x (2^(min (Int.toNat 32) 64)))*(Int.fdiv y (2^(min (Int.toNat 32) 64)))))+(Int.fdiv (IntKind.wrap .u64 ((IntKind.wrap .u64 ((Int.fdiv x (2^(min (Int.toNat 32) 64)))*(eC .u64 y 4294967295)))+
 (Int.fdiv (IntKind.wrap .u64 ((eC .u64 x 4294967295)*(eC .u64 y 4294967295))) (2^(min (Int.toNat 32) 64))))) (2^(min (Int.toNat 32) 64)))))+(Int.fdiv (IntKind.wrap .u64 ((eC .u64 (IntKind.wrap .u64 ((IntKind.wrap .u64
 ((Int.fdiv x (2^(min (Int.toNat 32) 64)))*(eC .u64 y 4294967295)))+(Int.fdiv (IntKind.wrap .u64 ((eC .u64 x 4294967295)*(eC .u64 y 4294967295))) (2^(min (Int.toNat 32) 64))))) 4294967295)+(IntKind.wrap .u64 ((eC .u64 x
 4294967295)*(Int.fdiv y (2^(min (Int.toNat 32) 64))))))) (2^(min (Int.toNat 32) 64))))),.int .u64 (IntKind.wrap .u64 (x*y))]) w
def aj.wo:aB:=(.q (.q (.q (.q e8))))
set_option maxRecDepth 100000
def Z.wq(s:ag)(i:Int)(v:ag)(w:I)(Q:O->I->Prop):Prop:=((0:Int)<=i/\i<=(s.len:Int))/\ae ((v.len:Int)==0) (Q s w) (ae (i==(s.len:Int)) (ap
 296 s v w λs1 af=>Q s1 af) (ae (decide (((an ((s.len:Int)+(v.len:Int))):Int)>(s.cap:Int))) (((0:Int)<=i/\i<=(s.cap:Int))/\
 ∃b:ag,∃aA:I,Sem.run ah (Builtin.append_ #[296,3] 296 #[.slice (bw s.a 1 0 s.cap) ((i.toNat)-0) (s.cap-0),.int .i64 (an ((an ((s.len:Int)+(v.len:Int)))-i))]) w=.ok b aA/\((0:Int)<=i/\i<=(b.len:Int))/\∃n5:Int,∃d:I,Sem.run ah (Builtin.copy_ #[296,296] 3 #[.slice (bw b.a 1 (i.toNat) b.cap) (b.len-(i.toNat)) (b.cap-
 (i.toNat)),v]) aA=.ok n5 d/\ao (d.drew) λj=>((0:Int)<=(an (i+(v.len:Int)))/\(an (i+(v.len:Int)))<=(b.len:Int))/\((0:Int)<=i/\i<=(s.len:Int))/\∃n8:Int,∃e:I,
 Sem.run ah (Builtin.copy_ #[296,296] 3 #[.slice (bw b.a 1 ((an (i+(v.len:Int))).toNat) b.cap) (b.len-((an (i+(v.len:Int))).toNat)) (b.cap-((an (i+(v.len:Int))).toNat)),.slice
 (bw s.a 1 (i.toNat) s.cap) (s.len-(i.toNat)) (s.cap-(i.toNat))]) j=.ok n8 e/\Q b e) (((0:Int)<=(an ((s.len:Int)+(v.len:Int)))/\(an ((s.len:Int)+(v.len:Int)))<=((s.cap:
 Nat):Int))/\((0:Int)<=(an (i+(v.len:Int)))/\(an (i+(v.len:Int)))<=(((((an ((s.len:Int)+(v.len:Int))).toNat)-0):Nat):Int))/\∃f:ai,∃c:I,Sem.run ah (callFunc 354 #[v,.slice (bw (bw s.a 1 0 s.cap) 1 ((an (i+(v.len:Int))).toNat) (s.cap-0)) ((((an ((s.len:Int)+(v.len:Int))).toNat)-0)-((an (i+(v.len:Int))).toNat)) ((s.cap-0)-((an (i+
 (v.len:Int))).toNat))]) w=.ok (.value f) c/\ae (!f) (ao (c.drew) λaR=>((0:Int)<=(an (i+(v.len:Int)))/\(an (i+(v.len:Int)))<=(((((an ((s.len:Int)+(v.len:Int))).toNat)-0):Nat):Int))/\((0:Int)<=i/\i
 <=(((((an ((s.len:Int)+(v.len:Int))).toNat)-0):Nat):Int))/\∃n13:Int,∃g:I,Sem.run ah (Builtin.copy_ #[296,296] 3 #[.slice (bw (bw s.a 1 0 s.cap) 1 ((an (i+
 (v.len:Int))).toNat) (s.cap-0)) ((((an ((s.len:Int)+(v.len:Int))).toNat)-0)-((an (i+(v.len:Int))).toNat)) ((s.cap-0)-((an (i+(v.len:Int))).toNat)),.slice (bw (bw s.a 1 0 s.cap) 1 (i.toNat) (s.cap-0))
 ((((an ((s.len:Int)+(v.len:Int))).toNat)-0)-(i.toNat)) ((s.cap-0)-(i.toNat))]) aR=.ok n13 g/\((0:Int)<=i/\i<=(((((an ((s.len:Int)+(v.len:Int))).toNat)-0):Nat):Int))/\∃n15:Int,∃
 h:I,Sem.run ah (Builtin.copy_ #[296,296] 3 #[.slice (bw (bw s.a 1 0 s.cap) 1 (i.toNat) (s.cap-0)) ((((an ((s.len:Int)+(v.len:Int))).toNat)-0)-(i.toNat)) ((s.cap-0)-
 (i.toNat)),v]) g=.ok n15 h/\Q (.slice (bw s.a 1 0 s.cap) (((an ((s.len:Int)+(v.len:Int))).toNat)-0) (s.cap-0)) h) (((0:Int)<=(s.len:Int)/\(s.len:Int)<=(((((an
 ((s.len:Int)+(v.len:Int))).toNat)-0):Nat):Int))/\∃n17:Int,∃bl:I,Sem.run ah (Builtin.copy_ #[296,296] 3 #[.slice (bw (bw s.a 1 0 s.cap) 1 (Int.toNat (s.len:Int)) (s.cap-0))
 ((((an ((s.len:Int)+(v.len:Int))).toNat)-0)-(Int.toNat (s.len:Int))) ((s.cap-0)-(Int.toNat (s.len:Int))),v]) c=.ok n17 bl/\((0:Int)<=i/\i<=(((((an ((s.len:Int)+
 (v.len:Int))).toNat)-0):Nat):Int))/\dg 355 #[.slice (bw (bw s.a 1 0 s.cap) 1 (i.toNat) (s.cap-0)) ((((an ((s.len:Int)+(v.len:Int))).toNat)-0)-(i.toNat)) ((s.cap-0)-(i.toNat)),.int
 .i64 (v.len:Int)] bl λk=>Q (.slice (bw s.a 1 0 s.cap) (((an ((s.len:Int)+(v.len:Int))).toNat)-0) (s.cap-0)) k))))
def aj.wq:aB:=(.q (.q (.q (.s a1 (.q (.s a1 a2))))))
def Z.wu(x:ag)(target:ag)(cmp:h_)(w:I)(Q:O->I->Prop):Prop:=fT 0 (x.len:Int) w λg h b a6 aC=>ae (decide (b<a6)) ((0:Int)<=1/\∃cZ:ar,x.a=
 some cZ/\(vY b a6 x)/\a_ aC (cZ.add (Int.toNat (an (Int.fdiv (IntKind.wrap .u64 (an (b+a6))) (2^(min (Int.toNat 1) 64))))*1)) λc=>iC ah cmp.f/\Calls ah cmp.f (cmp.pre++ #[.slice c.a c.len c.cap,
 .slice target.a target.len target.cap]++cmp.cap) aC λi aF=>∃n10:Int,i=.returned (.int .i64 n10)/\vW n10 g b a6 aF h aC) (aX (λe:ai->I->Prop=>ae (decide (b<(x.len:Int))) (bj x b λe7=>a_ aC (bz
 e7 b 1) λd=>iC ah cmp.f/\Calls ah cmp.f (cmp.pre++ #[.slice d.a d.len d.cap,.slice target.a target.len target.cap]++cmp.cap) aC λj k=>∃n16:Int,j=.returned (.int .i64 n16)/\e (n16
 ==0) k) (e false aC)) (λ(l:ai) bl=>Q (.tuple #[.int .i64 b,.bool l]) bl))
def aj.wu:aB:=cZ
def Z.wv(s:ag)(f:h_)(w:I)(Q:O->I->Prop):Prop:=bx 356 #[s,.func (.func f.f) f.pre f.cap] w λa w1=>Q (.bool
 (decide (a>=0))) w1
def aj.wv:aB:=(.q (.q .l))
def Z.wx(s:ag)(f:h_)(w:I)(Q:O->I->Prop):Prop:=bx 357 #[s,.func (.func f.f) f.pre f.cap] w λa w1=>Q (.bool (decide (a>=0))) w1
def aj.wx:aB:=(.q (.q .l))
def Z.wy(s:ag)(w:I)(Q:O->I->Prop):Prop:=ae (Option.isNone s.a) (Q () w) (ao (w.alloc (.cells #[] 3)) λw1=>ap 52 (.slice (some (aa w)) 0 0) s w1 λs2 b=>Q s2 b)
def aj.wy:aB:=dP
def Z.tE(s:ag)(f:h_)(w:I)(Q:O->I->Prop):Prop:=cR 0 w λh e b aA=>ae (decide (b<(s.len:Int))) (bj s b λa5=>a_ aA (bz a5 b 1) λc=>iC ah f.f/\
 Calls ah f.f (f.pre++ #[.slice c.a c.len c.cap]++f.cap) aA λi d=>∃g:ai,i=.returned (.bool g)/\ae g (Q (.int .i64 b) d) (h (an (b+1)) d/\e (an (b+1)) d<e b aA)) (Q (.int .i64 (-1)) aA)
def aj.tE:aB:=eR
theorem Z.HH(s:ag)(f:h_)(w:I)(Q:O->I->Prop)(h:Z.tE s f w Q):az ah 356 #[.slice s.a s.len s.cap,.func (.func f.f) f.pre f.cap] w Q:=okF (λw Q=>Z.tE s f w Q) aj.tE func356 h
def Z.tF(s:ag)(f:h_)(w:I)(Q:O->I->Prop):Prop:=cR 0 w λe c a aA=>ae (decide (a<(s.len:Int))) (bj s a λa5=>r1 aA (bz a5 a 1) λn6=>iC ah f.f/\Calls
 ah f.f (f.pre++ #[.int .i64 n6]++f.cap) aA λg b=>∃d:ai,g=.returned (.bool d)/\ae d (Q (.int .i64 a) b) (e (an (a+1)) b/\c (an (a+1)) b<c a aA)) (Q (.int .i64 (-1)) aA)
def aj.tF:aB:=eR
theorem Z.HI(s:ag)(f:h_)(w:I)(Q:O->I->Prop)(h:Z.tF s f w Q):az ah 357 #[.slice s.a s.len s.cap,.func (.func f.f) f.pre f.cap] w Q:=okF (λw Q=>Z.tF s f w Q) aj.tF func357 h
set_option maxRecDepth 100000
def Z.Ad(b:al ar)(w:I)(Q:O->I->Prop):Prop:=ae (Option.isNone b) (Q (.pointer none) w) (aw b λa1=>∃df:al ar,w.cell? (a1.add 12)=some (df)/\Q (df) w)
def aj.Ad:aB:=dP
def Z.Ae(b:al ar)(w:I)(Q:O->I->Prop):Prop:=ae (Option.isNone b) (Q (.pointer none) w) (aw b λa1=>∃df:al ar,w.cell? (a1.add 10)=some (df)/\Q (df) w)
def aj.Ae:aB:=dP
def Z.Af(b:al ar)(w:I)(Q:O->I->Prop):Prop:=ae (Option.isNone b) (Q (.pointer none) w) (aw b λa1=>∃df:al ar,w.cell? (a1.add 11)=some (df)/\Q (df) w)
def aj.Af:aB:=dP
def Z.Ag(b:al ar)(w:I)(Q:O->I->Prop):Prop:=ae (Option.isNone b) (Q (.pointer none) w) (aw b λa1=>∃df:al ar,w.cell? a1=some (df)/\Q (df) w)
def aj.Ag:aB:=dP
def Z.mS(b:al ar)(op:Array O)(w:I)(Q:O->I->Prop):Prop:=ao (w.alloc (.cells op 54)) λw1=>ao (w1.alloc fL) λaf=>aX (λi:ai->I->Prop=>ae (Option.isNone b) (i true
 af) (r1 af (aa w) λa6=>i (decide (a6<1)) af)) (λ(r:ai) g=>aX (λj:ai->I->Prop=>ae r (j true g) (r1 g (aa w) λn8=>j (decide (n8>14)) g)) (λ(s:ai) c=>ae s (∃d:Array O,
 Sem.run ah (Instr.build 41 #[(1,.int .i64 1)]) c=.ok (.agg d) c/\bN c (aa w1) (Array.toList d)/\Array.size d=10/\ao (setCells c (aa w1) 0 (Array.toList d)) λaR=>∃k:Y O,
 aT aR (aa w1) 0 10=some k/\Q (.agg k.toArray) aR) (∃l:Y O,aT c (aa w) 0 51=some l/\fy 13 #[b,.agg l.toArray] c λh t e=>ao (e.alloc fL) λm=>bN m
 (aa e) (Array.toList h)/\Array.size h=10/\ao (setCells m (aa e) 0 (Array.toList h)) λa=>ae t (∃f:Y O,aT a (aa e) 0 10=some f/\bN a (aa w1) (Array.toList f.toArray)/\Array.size
 f.toArray=10/\ao (setCells a (aa w1) 0 (Array.toList f.toArray)) λbt=>∃n:Y O,aT bt (aa w1) 0 10=some n/\Q (.agg n.toArray) bt) (aw b λa24=>∃o:al ar,a.cell? (a24.add 12)=some
 (o)/\ae (Option.isNone o) (∃p:Array O,Sem.run ah (Instr.build 41 #[(1,.int .i64 13)]) a=.ok (.agg p) a/\lL a w1 p Q) (∃q:Y O,aT a (aa w) 0 51=some q/\fK
 14 #[b,.agg q.toArray] a λu v=>lL v w1 u Q)))))
def aj.mS:aB:=(.q (.s e7 (.s (.q a1) (.s a1 (.q .l)))))
theorem Z.Dd(b:al ar)(op:Array O)(w:I)(Q:O->I->Prop)(h:Z.mS b op w Q):az ah 8 #[b,.agg op] w Q:=okF (λw Q=>Z.mS b op w Q) aj.mS func8 h
def Z.pr(i:Int)(j:Int)(k:Int)(l:Int)(m:Int)(n:Int)(o:Int)(p:Int)(q:Int)(r:Int)(w:I)(Q:O->I->Prop):Prop:=ao (w.alloc
 (.cells #[j,k,aE l] 24)) λw1=>ao (w1.alloc (.cells #[aE m,n,o,p,q,r] 26)) λaf
 =>e0 15 #[i] af λe n6 c=>ae (n6 !=0) (Q (.tuple #[.pointer none,(1:Int)]) c) (r1 c (aa w) λn7=>aK c w 1 λn8=>b5 c w 2 λn9=>e0 16 #[e,.agg #[n7,
 n8,aE n9]] c λs n13 f=>ae (n13 !=0) (Q (.tuple #[.pointer none,n13]) f) (bE f λa d=>¬d ((aa w):ar).block/\r1 a (aa w) λn16=>aK a w 1 λn17=>b5 a w 2 λn18=>¬d
 ((aa w1):ar).block/\db a (aa w1) λn19=>aK a w1 1 λn20=>aK a w1 2 λn21=>aK a w1 3 λn22=>aK a w1 4 λn23=>aK a w1 5 λn24=>fj 17 #[] a λt b=>ad d a b/\∃g:Array
 O,Sem.run ah (Instr.build 62 #[(0,e),(1,.agg #[n16,n17,aE n18]),(2,.agg #[aE n19,n20,n21,n22,n23,n24]),(3,t)]) b
 =.ok (.agg g) b/\ao (b.alloc (.cells g 62)) λu=>bx 18 #[.pointer (some (aa b)),s] u λn32 h=>ae (n32 !=0) (Q (.tuple #[.pointer none,n32]) h) (Q (.tuple #[.pointer
 (some (aa b)),(0:Int)]) h)))
def aj.pr:aB:=(.q (.q (.s a1 (.q (.s a1 (.s (.d 4 true [0,0,0,0,504,5,506] [0,0,0,0,504,2004] [6029,12] [9,2004,0,1008053063680,2033] (.z 3 0 (.bU 3 (.tail [.r,.r,.r])))) a24))))))
def Z.mc(b:al ar)(op:Array O)(w:I)(Q:O->I->Prop):Prop:=ao (w.alloc (.cells op 54)) λw1=>ao (w1.alloc fL) λaf=>r1 af (aa w) λa=>ae (a==3) (ao (af.drew) λaA=>
 aw b λa5=>¬False/\∃g:al ar,aA.cell? (a5.add 10)=some (g)/\¬False/\∃h:Y O,aT aA ((aa w).add 6) 0 23=some h/\bx 21 #[g,.agg h.toArray] aA λn10 aF
 =>∃i:Array O,Sem.run ah (Instr.build 41 #[(1,n10)]) aF=.ok (.agg i) aF/\po aF w1 i Q) (ae (a==5) (ao (af.drew) λc=>aw b λjh=>¬False/\∃j:al ar,c.cell? (jh.add
 10)=some (j)/\¬False/\aK c w 2 λn17=>¬False/\∃k:Y O,aT c ((aa w).add 29) 0 21=some k/\bx 22 #[j,n17,.agg k.toArray] c λn21 e=>∃
 l:Array O,Sem.run ah (Instr.build 41 #[(1,n21)]) e=.ok (.agg l) e/\po e w1 l Q) (ae (a==8) (False) (ae (a==11) (ao (af.drew) λf=>aw b λp=>¬False/\∃m:al ar,
 f.cell? p=some (m)/\¬False/\bd f w 50 λq=>dg 24 #[m,q] f λr=>fK 25 #[b] r λs cy=>po cy w1 s Q) (ae (a==
 12) (False) (ae (a==13) (False) (ae (a==14) (False) (∃d:Array O,Sem.run ah (Instr.build 41 #[]) af=.ok (.agg d) af/\bN af (aa w1) (Array.toList d)/\Array.size d=10/\ao (setCells af (aa w1)
 0 (Array.toList d)) λn=>∃o:Y O,aT n (aa w1) 0 10=some o/\Q (.tuple #[.agg o.toArray,false]) n)))))))
def aj.mc:aB:=(.q (.s (.q (.bc (.q (.c (.s (.d 6 false [0,3000,0,5,1005003,7,508,509] [0,3000,0,5,1005003,2006,0] [8010,0,6] [1,3010,4,15,1015013,17,1017004,0] (.z 6 0 (.tail [.r,.r,.r,.r]))) .l) (.q (.c (.s (.d 8 false
 [0,3000,0,5,0,7,1007005003,9,510,511] [0,3000,0,5,0,7,1007005003,2008,0] [10020,0,6] [1,3020,4,25,4,27,1027025023,29,1029004,0] (.z 8 0 (.tail [.r,.r,.r,.r]))) .l) (.q (.c .l (.q (.c (.s (.e 6 false [0,3000,0,5,1005003] [7047]
 [1,3047,4,52,1052050] (.z 6 0 .e)) (.q .l)) (.q (.c .l fA)))))))))))) (.q .l)))
theorem Z.Ah(b:al ar)(op:Array O)(w:I)(Q:O->I->Prop)(h:Z.mc b op w Q):az ah 13 #[b,.agg op] w Q:=okF (λw Q=>Z.mc b op w Q) aj.mc func13 h
def Z.q2(b:al ar)(op:Array O)(w:I)(Q:O->I->Prop):Prop:=ao (w.alloc (.cells op 54)) λw1=>ao (w1.alloc fL) λaf=>r1 af (aa w) λa=>ae (a==1) (ao (af.drew) λaA=>aw
 b λa5=>¬False/\∃d:al ar,aA.cell? (a5.add 12)=some (d)/\¬False/\bd aA w 1 λh=>lJ 28 #[d,h] aA λn10 i n12 n13 j n15 aF=>∃e:Array O,
 Sem.run ah (Instr.build 41 #[(0,.agg #[n10,i,n12,n13,j,n15])]) aF=.ok (.agg e) aF/\lL aF w1 e Q) (ae (a==2) (False) (ae (a==4)
 (False) (ae (a==6) (False) (ae (a==7) (False) (ae (a==9) (False) (aw b λkz=>∃f:al ar,af.cell? (kz.add 11)=some (f)/\fj 34 #[f] af λk l=>bx 35
 #[k] l λn26 c=>∃g:Array O,Sem.run ah (Instr.build 41 #[(1,n26)]) c=.ok (.agg g) c/\lL c w1 g Q))))))
def aj.q2:aB:=(.q (.s (.q (.bc (.q (.c (.s (.d 6 false [0,3000,0,5,1005003,7,508] [0,3000,0,5,1005003,2006] [8012,0] [1,3012,4,17,1017015,19,1019004] (.z 6 0 (.tail [.r,.r,.r]))) .l) (.q (.c .l (.q (.c .l (.q (.c .l
 fA)))))))))) (.q .l)))
theorem Z.De(b:al ar)(op:Array O)(w:I)(Q:O->I->Prop)(h:Z.q2 b op w Q):az ah 14 #[b,.agg op] w Q:=okF (λw Q=>Z.q2 b op w Q) aj.q2 func14 h
def Z.mT(n:Int)(w:I)(Q:O->I->Prop):Prop:=ae ((decide (n<16))||(decide (n>1600))) (Q (.tuple #[.pointer none,(1:Int)]) w) (((0:Int)<=n/\n<=n/\n<=iR/\((256:Nat):Int)*n<=
 140737488355328)/\ao (w.alloc (.cells (gQ ah 159 (n.toNat)) 159)) λw1=>∃m2:al Nat,∃a:I,Sem.run ah (Instr.makeMap 98 none) w1=.ok (.map m2) a/\∃fB:
 Array O,Sem.run ah (Instr.build 102 #[(1,.slice (some (aa w)) (n.toNat) (n.toNat)),(2,.map m2)]) a=.ok (.agg fB) a/\ao (a.alloc (.cells fB 102)) λaC=>xs a λcZ=>dg
 36 #[.pointer (some cZ)] aC λb=>Q (.tuple #[.pointer (some (aa a)),(0:Int)]) b)
def aj.mT:aB:=(.q (.s dT a22))
def Z.me(d:al ar)(m:Int)(n:Int)(o:Int)(w:I)(Q:O->I->Prop):Prop:=ao (w.alloc (.cells #[m,n,aE o] 24)) λw1=>r1 w1
 (aa w) λbF=>aK w1 w 1 λp=>b5 w1 w 2 λa6=>bn 37 #[d,.agg #[bF,p,aE a6]] w1 λq aC=>ae (!q) (Q (.tuple #[.pointer none,(1:Int)]) aC) (bx 39 #[d]
 aC λn10 aF=>e0 38 #[n10,(3:Int)] aF λh n14 i=>ae (n14 !=0) (Q (.tuple #[.pointer none,n14]) i) (bp 41 #[h] i λr s=>eK 40 #[(2:Int),.agg #[(4:Int),aE 1,r]] s λt n21 bl=>ae (n21 !=0) (Q (.tuple #[.pointer none,n21]) bl) (((0:Int)<=256/\(256:Int)<=256/\(256:Int)<=iR/\((1:Nat):Int)*256<=
 140737488355328)/\ao (bl.alloc (.cells (gQ ah 5 (Int.toNat 256)) 5)) λbt=>∃j:Array O,Sem.run ah (Instr.build 112 #[(0,.slice (some (aa bl)) (Int.toNat 256) (Int.toNat 256)),(1,
 .slice (some (aa bl)) (Int.toNat 256) (Int.toNat 256)),(2,t)]) bt=.ok (.agg j) bt/\cR 0 bt λu k n26 f=>ae (decide (n26<3)) (((0:Int)<=n26/\n26<((3:Nat):Int))/\∃e:ag,cellAt
 j (n26.toNat*1)=some (.slice e.a e.len e.cap)/\bx 42 #[d,n26,e] f λn31 g=>ae (n31 !=0) (Q (.tuple #[.pointer none,n31]) g) (u (an
 (n26+1)) g/\k (an (n26+1)) g<k n26 f)) (bx 43 #[d] f λn34 b=>ae (n34 !=0) (Q (.tuple #[.pointer none,n34]) b) (ao (b.alloc fl) λv=>bR v (aa b) [(0:Int),(0:Int),(2:Int),aE 0,aE 0,(0:Int)] 6 λcA=>r1 cA (aa b) λn37=>aK cA b 1 λn38=>aK cA b 2 λn39=>b5 cA b 3 λn40=>b5 cA b 4 λn41=>aK cA b 5 λx=>bx 44 #[.pointer
 d,.agg #[n37,n38,n39,aE n40,aE n41,x],aE 1] cA λl c=>ae (l !=0) (Q (.tuple #[.pointer none,l]) c) (r1 c (aa w) λy=>aK c w 1 λz=>b5 c w 2 λ
 A=>r1 c (aa b) λB=>aK c b 1 λC=>aK c b 2 λD=>b5 c b 3 λE=>b5 c b 4 λF=>aK c b 5 λG=>e0 45 #[d,.agg #[y,z,aE A],
 .agg #[B,C,D,aE E,aE F,G],aE 1,h] c λH J K=>Q (.tuple #[H,J]) K))))))
def aj.me:aB:=(.q (.s a1 (.q (.s a1 (.q (.s a1 (.q (.s (.q (.bc (.loop [(44,(.int .i64))] [0,3,6,43] (.q (.s (.c .l .l) (.s (.bc (.q (.q a1))) .r)))))) (.s (.q a1) (.q a24))))))))))
theorem Z.HJ(d:al ar)(a:Int)(b:Int)(c:Int)(w:I)(Q:O->I->Prop)(h:Z.me d a b c w Q):az ah 16 #[d,.agg #[a,b,.int .u64 c]] w Q:=okF (λw Q=>Z.me d a b c w Q) aj.me func16 h
def Z.pt(w:I)(Q:O->I->Prop):Prop:=∃m1:al Nat,∃af:I,Sem.run ah (Instr.makeMap 118 none) w=.ok (.map m1) af/\∃a:al Nat,∃aA:I,Sem.run ah
 (Instr.makeMap 119 none) af=.ok (.map a) aA/\ao (aA.alloc (.cells #[.map m1,.map a] 121)) λaC=>Q (.pointer (some (aa aA))) aC
def aj.pt:aB:=(.q (.q .l))
theorem Z.HK(w:I)(Q:O->I->Prop)(h:Z.pt w Q):az ah 17 #[] w Q:=okF (λw Q=>Z.pt w Q) aj.pt func17 h
def Z.wz(b:al ar)(s:al ar)(w:I)(Q:O->I->Prop):Prop:=aw b λa1=>r1 w ((a1.add 4).add 2) λbF=>e0 46 #[s,bF] w λc n6 d=>ae (n6 !=0) (Q n6 d) (bE d λa e=>aw b λa9=>ky e a (a9.add 4) λn10=>r1 a ((a9.add 4).add 1) λn11=>r1 a ((a9.add 4).add 2) λn12=>r1 a ((a9.add 4).add 3) λn13=>r1 a ((a9.add 4).add 4) λn14=>r1 a ((a9.add
 4).add 5) λn15=>aw b λfA=>¬e (fA.add 10).block/\∃f:al ar,a.cell? (fA.add 10)=some (f)/\e0 47 #[.agg #[aE n10,n11,n12,n13,n14,n15],
 f,c] a λg n21 bl=>ae (n21 !=0) (Q n21 bl) (aw b λa22=>st bl (a22.add 11) (c) λbG=>aw b λa24=>st bG (a24.add 12) (g) λh=>Q (0:Int) h))
def aj.wz:aB:=(.q (.q (.s a1 (.s (.d 14 true [0,3000,0,3004,0,1008007003,2009,11,512,514] [0,3000,0,3004,0,1008007003,2009,3010] [10022,22,2032,8,7] [1,3022,1,3026,6,1030029025,32,22,22,2032] (.z 9 0 (.out 9 false (.z 4 10
 .e)))) (.s a1 (.q (.q .l)))))))
def Z.tG(f:al ar)(s:Array O)(w:I)(Q:O->I->Prop):Prop:=ao (w.alloc (.cells s 49)) λw1=>aX (λbL:ai->I->Prop=>ae (Option.isNone f) (bL true w1) (∃i:
 Y O,aT w1 (aa w) 0 23=some i/\bn 55 #[.agg i.toArray] w1 λD aA=>bL (!D) aA)) (λ(E:ai) aF=>ae E (Q (1:Int) aF) (bE aF λe j=>aw f λeL=>¬j eL.block/\∃k:al Nat,
 e.cell? eL=some (.map k)/\¬j ((aa w):ar).block/\r1 e (aa w) λn13=>∃F:al ar,∃l:ai,∃m:I,Sem.run ah (Instr.lookup 118 (.map k) n13 true) e=.ok
 (.tuple #[F,l]) m/\bE m λc d=>aw f λkz=>¬d (kz.add 1).block/\∃n:al Nat,c.cell? (kz.add 1)=some (.map n)/\¬d ((aa w):ar).block/\∃o:Y O,aT c (aa w) 0
 23=some o/\fK 56 #[.agg o.toArray] c λG bt=>ad d c bt/\∃n25:Int,∃p:ai,∃b:I,Sem.run ah (Instr.lookup 119 (.map n) (.agg G) true) bt=.ok (.tuple #[n25,p]) b/\ad d bt b/\ae (l||p) (Q (7:Int) b) (aw f λH=>∃q:al Nat,b.cell? H=some (.map q)/\∃n30:Int,∃cy:I,Sem.run ah (Builtin.len_ #[118]
 3 #[.map q]) b=.ok n30 cy/\ae (decide (n30>=8)) (Q (2:Int) cy) (st cy ((aa w).add 22) () λJ=>bE J λbY a=>aw f λr=>¬a r.block/\∃g:al Nat,bY.cell?
 r=some (.map g)/\¬a ((aa w):ar).block/\r1 bY (aa w) λn37=>aw f λt=>¬a (t.add 1).block/\∃h:al Nat,bY.cell? (t.add 1)=some (.map h)/\¬a ((aa w):ar).block/\∃u:Y O,aT
 bY (aa w) 0 23=some u/\¬a ((aa w):ar).block/\r1 bY (aa w) λn41=>fK 56 #[.agg u.toArray] bY λK v=>ad a bY v/\∃ (L:O) (x:Int) (y:I),Sem.run ah (Instr.mapEntry
 118 (.map g) n37) v=.ok (.tuple #[L,x]) y/\∃z:I,Sem.run ah (Instr.entryStore 118 (.map g) x (.pointer (some (aa w)))) y=.ok
 () z/\∃ (M:O) (A:Int) (B:I),Sem.run ah (Instr.mapEntry 119 (.map h) (.agg K)) z=.ok (.tuple #[M,A]) B/\∃C:I,Sem.run ah (Instr.entryStore
 119 (.map h) A n41) B=.ok () C/\Q (0:Int) C))))
def aj.tG:aB:=(.q (.s eo (.s (.d 11 true [0,3000,0,5,1005003,2006,8,509,511] [0,3000,0,5,1005003,2006,3007] [7017,17,2024,2005] [1,3017,4,22,1022020,24,17,17,2024] (.z 6 0 (.out 6 false (.z 4 7 .e)))) (.s (.d 11 true
 [0,3000,0,5,1005003,2006,8,509,511] [0,3000,0,5,1005003,2006,3007] [7027,27,2034,2007] [1,3027,4,32,1032030,34,27,27,2034] (.z 5 0 (.bU 5 (.bU 6 (.z 4 7 .e))))) (.s (.bc (.s (.z [6,5]) (.c (.q .l) a1))) (.q (.s (.d 14 true
 [0,3000,0,5,0,3006,0,11,0,13,1000000011816,15,1000000060991,1000000126527,18,519] [0,3000,0,5,0,3006,0,11,0,13,1005003,15,1015003,1011009,18,1018013009] [16049,0,2065,0]
 [1,3049,4,54,1,3055,4,60,4,62,1054052,64,1064052003,1060058,66,1066062058] (.z 11 0 (.t 12 (.t 13 (.bU 11 (.tail [.r,.r,.r,.r,.r,.r])))))) (.q .l))))))))
theorem Z.HL(f:al ar)(s:Array O)(w:I)(Q:O->I->Prop)(h:Z.tG f s w Q):az ah 21 #[f,.agg s] w Q:=okF (λw Q=>Z.tG f s w Q) aj.tG func21 h
def Z.tH(f:al ar)(F:Int)(b:Array O)(w:I)(Q:O->I->Prop):Prop:=ao (w.alloc (.cells b 51)) λw1=>ae (Option.isNone f) (Q (1:Int) w1) (aw f λa2=>∃o:
 al Nat,w1.cell? a2=some (.map o)/\∃a:al ar,∃p:ai,∃e:I,Sem.run ah (Instr.lookup 118 (.map o) F true) w1=.ok (.tuple #[a,p]) e/\ae (!p) (Q
 (6:Int) e) (r1 e (aa w) λn7=>hT 57 #[a,n7] e λn10 G aF=>aX (λj:ai->I->Prop=>bE aF λq H=>¬H ((aa w):ar).block/\r1 q (aa w) λn15=>bn 58 #[n15] q λJ c=>∃g:Nat->Prop,ae (!J) (aX (λr:ai->I->Prop=>ae true (r true c) (gJ c w 18 λn21=>r (n21==0) c)) (λ(K:ai) bG=>aX (λs:ai->I->Prop=>ae K (s
 true bG) (aK bG w 19 λn25=>bn 60 #[n25] bG λL M=>s (!L) M)) (λ(N:ai) k=>aX (λt:ai->I->Prop=>ae N (t true k) (e6 k w 20 λP=>t P k)) (λ(R:
 ai) S=>j R S)))) (¬g ((aa w).add 1).block/\∃u:Y O,aT c ((aa w).add 1) 0 17=some u/\bn 59 #[.agg u.toArray] c λT cA=>ad g c cA/\ae (!T) (aX (λv:ai->
 I->Prop=>ae true (v true cA) (gJ cA w 18 λn40=>v (n40==0) cA)) (λ(U:ai) l=>aX (λx:ai->I->Prop=>ae U (x true l) (aK l w 19 λV=>bn 60 #[V] l λW
 X=>x (!W) X)) (λ(ab:ai) m=>aX (λy:ai->I->Prop=>ae ab (y true m) (e6 m w 20 λac=>y ac m)) (λ(af:ai) aj=>j af aj)))) (Da g cA w 1 λak=>aw a λam=>zV g
 cA (am.add 1) λan=>aX (λz:ai->I->Prop=>ae (!(ak==an)) (z true cA) (gJ cA w 18 λap=>z (ap==0) cA)) (λ(aq:ai) ji=>aX (λA:ai->I->Prop=>ae aq (A true ji) (aK ji w
 19 λau=>bn 60 #[au] ji λav ax=>A (!av) ax)) (λ(ay:ai) n=>aX (λB:ai->I->Prop=>ae ay (B true n) (e6 n w 20 λaz=>B az n)) (λ(aA:ai) aB=>j aA
 aB)))))) (λ(aC:ai) d=>ae aC (Q (1:Int) d) (ae G (Q (7:Int) d) (aw a λaD=>a_ d (aD.add 22) λaE=>ae (decide ((aE.len:Int)>=16)) (Q (2:Int) d) (bE d λd_ h=>aw a λaG=>
 fz h d_ (aG.add 22) λaH=>¬h ((aa w):ar).block/\∃C:Y O,aT d_ (aa w) 0 21=some C/\∃D:ag,∃i:I,Sem.run ah (Instr.buildSlice 47 1 #[(0,.agg C.toArray)]) d_=
 .ok D i/\ad h d_ i/\bp 61 #[aH,n10,D] i λaI E=>ad h i E/\aw a λaJ=>st
 E (aJ.add 22) aI λaL=>Q (0:Int) aL))))))
def aj.tH:aB:=(.q (.s a1 (.q (.s a1 (.q (.s (.bc (.s (.dZ [(31,.bool)] [5,7,9,10] (.d 19 true
 [0,3000,1003002,5,1005004,1006004,1007004,1008004,1009007,11,1011010,1012010,11,1014010,1015010,1016010,1017010,1018013010,1019010,1020010,22,1022021,1023021,1024021,1025021,27,1027026,1028026,1029026,1030026,1031029,33,1033032,1034032,1035032]
 [0,5000,1005004,1006004,1007004,1008004,2009,1011010,1012010,11,1014010,1015010,1016010,1017010,1018013010,1019010,2020,1022021,1023021,1024021,2025,1027026,1028026,1029026,1030026,2031,1033032,1034032,36] [36032,32]
 [6,4032,1036005,1037036,1038036,1039036,1040036,42,1042005,1043042,1044042,1042007,1046042,1047042,1048042,1049042,1050045042,1051042,53,1053005,1054053,1055053,1056053,58,1058005,1059058,1060058,1061058,1062058,64,1064005,1065064,1066064,68]
 (.t 0 (.t 1 (.out 2 true (.t 3 (.t 4 (.sp 36 (.z 14 5 (.tail [.r,.r,.r,.split 3,.r,.r,.r,.r,.split 4,.r,.r,.r,.r,.r,.split 2,.r,.r,.r])) (.t 5 (.t 6 (.bU 7 (.z 3 8 (.sp 42 (.z 8 11 (.tail [.r,.r,.r,.split 3,.r,.r,.r,
 .r,.split 4,.r,.r,.r,.r,.r,.split 2,.r,.r,.r])) (.z 8 11 (.tail [.r,.r,.r,.split 3,.r,.r,.r,.r,.split 4,.r,.r,.r,.r,.r,.split 2,.r,.r,.r]))))))))))))))) (.c (.q .l) a23))) (.s (.d 9 true
 [0,0,3001,0,0,7,1007005004,509,510,1000000001535] [0,0,3001,0,0,7,1007005004,1,10,1010008] [11077,0] [8,8,3078,10,6,84,1084082081,78,87,1087085] (.z 7 0 (.bU 7 (.bU 8 (.tail [.r,.r,.r]))))) (.q .l))))))))
theorem Z.HM(f:al ar)(a:Int)(b:Array O)(w:I)(Q:O->I->Prop)(h:Z.tH f a b w Q):az ah 22 #[f,a,.agg b] w Q:=okF (λw Q=>Z.tH f a b w Q) aj.tH func22 h
def Z.wA(d:al ar)(l:ag)(w:I)(Q:O->I->Prop):Prop:=ae (Option.isNone d) (Q (.tuple #[]) w) (bp 63 #[d] w λi w1=>cR 0 w1 λt j n6 a=>ae (decide (n6<
 (i.len:Int))) (aX (λk:I->Prop=>bj i n6 λa9=>r1 a (bz a9 n6 1) λn10=>aX (λm:ai->I->Prop=>ae (decide (n6>=(l.len:Int))) (m true a) (bj l n6 λe7=>r1 a (bz e7 n6 1) λn13=>m (decide
 (n13<=0)) a)) (λ(u:ai) g=>ae u (k g) (aw d λfA=>∃n:al Nat,g.cell? (fA.add 5)=some (.map n)/\∃h:ag,∃o:I,Sem.run ah (Instr.lookup 98 (.map n) n10 false) g=.ok h o/\bE o λc e=>aw d λa22=>fz e c (a22.add 4) λv=>bj l n6 λa24=>en e c (bz a24 n6 1) λn25=>∃n26:Int,∃b:I,Sem.run ah
 (Builtin.min_ #[3,3] 3 #[n25,.int .i64 (h.len:Int)]) c=.ok n26 b/\ad e c b/\bj h (an (n26-1)) λp=>¬e (p.add ((an (n26-1)).toNat*256)).block/\∃f:Y
 O,aT b (p.add ((an (n26-1)).toNat*256)) 0 256=some f/\bj v n10 λq=>bN b (bz q n10 256) (Array.toList f.toArray)/\Array.size f.toArray=256/\ao (setCells b (bz q n10 256) 0
 (Array.toList f.toArray)) λcy=>k cy))) (λr=>t (an (n6+1)) r/\j (an (n6+1)) r<j n6 a)) (aw d λx=>∃s:al Nat,a.cell? (x.add 5)=some (.map s)/\∃ (y:O) (cA:I),Sem.run
 ah (Builtin.clear_ #[98] 0 #[.map s]) a=.ok y cA/\aw d λz=>dg 36 #[.pointer (some z)] cA λA=>Q (.tuple #[]) A))
def aj.wA:aB:=(.s (.q (.c .l .l)) (.s (.q (.bc (.loop [(12,(.int .i64))] [0,1,10,11] (.q (.s (.c .l .l) (.s (.dZ [] [0,1,10,11,12] (.bc (.q (.s (.s (.z [15,16]) (.c .l .l)) (.q (.d 16 true
 [0,3000,0,0,0,0,1007006,9,0,11,1011009,13,1013005,15,516,517] [0,3000,0,0,0,0,1007006,9,0,11,1011009,13,1013005,15,1004003,1016015] [17034,0] [1,3034,2005,2,5,1041040,43,7,45,1045043,47,1047039,49,1038037,1050049] (.z 12 0 (.bU 12 (.z 3 13
 (.tail [.r,.r])))))))))) .r)))))) (.q .r)))
def Z.wB(b:al ar)(w:I)(Q:O->I->Prop):Prop:=ao (w.alloc fL) λw1=>aw b λa2=>st w1 (a2.add 11) (.pointer none) λl=>aw b λa4=>st l (a4.add 12) (.pointer none) λaC=>bE aC λ
 a e=>aw b λdz=>¬e dz.block/\∃f:al ar,a.cell? dz=some (f)/\aw b λeo=>en e a (eo.add 1) λn11=>r1 a ((eo.add 1).add 1) λn12=>db a ((eo.add 1).add 2) λn13=>e0 64
 #[f,.agg #[n11,n12,aE n13]] a λd n17 g=>aX (λh:Int->I->Prop=>ae (n17==0) (bx 18 #[b,d] g λn21 m=>h n21 m) (h n17 g)) (λ(n22
 :Int) bG=>ae (n22 !=0) (∃c:Array O,Sem.run ah (Instr.build 41 #[(1,n22)]) bG=.ok (.agg c) bG/\bN bG (aa w) (Array.toList c)/\Array.size c=10/\ao (setCells bG (aa w) 0
 (Array.toList c)) λi=>∃j:Y O,aT i (aa w) 0 10=some j/\Q (.agg j.toArray) i) (CX 65 #[d] bG λn29 n30 n31 n32 n33 n34 n=>∃n35:Int,cellAt (#[n29,n30,n31,aE n32,aE n33,n34]:Array O) 4=some (aE n35)/\bx 66 #[d] n λn38 cA=>∃k:Array O,Sem.run ah (Instr.build 41 #[(2,.int .i64 (an
 n35)),(3,n38)]) cA=.ok (.agg k) cA/\lL cA w k Q))
def aj.wB:aB:=(.q (.q (.s (.d 13 true [0,3000,0,3004,1007003,2008,10,511,513] [0,3000,0,3004,1007003,2008,3009] [9012,12,2021,2003] [1,3012,1,3016,1019015,21,12,12,2021] (.z 8 0 (.out 8 false (.z 4 9 .e)))) (.s (.dZ [(4,(.int
 .i64))] [2,3] (.q (.c .r .l))) (.s a1 (.q .l))))))
set_option maxRecDepth 100000
def Z.q3(i:ai)(j:ag)(k:ag)(l:ag)(w:I)(Q:O->I->Prop):Prop:=ao (w.alloc (.cells #[i,j,k,
 l] 404)) λw1=>bd w1 w 1 λs2=>ao (w1.alloc (.cells #[.int .u8 (IntKind.wrap .u8 (s2.len:Int))] 5)) λb=>aX (λd:ag->I->Prop=>bB b (aa w) λm=>ae (!m) (bd
 b w 3 λn=>bj n 0 λdT=>r1 b (bz dT 0 1) λn8=>bp 95 #[.slice (some (aa w1)) 1 1,aE (IntKind.wrap .u64 n8),(2:Int)] b λo p=>d o p) (d ⟨(some (aa w1)),1,1⟩ b)) (λ(q:ag) e=>bd e w
 1 λr=>kx q 0 e λs f c n18 a=>ae (decide (n18<(r.len:Int))) (bB a (aa w) λt=>bd a w 1 λu=>bd a w 2 λv=>bd a w 3 λx=>bp 363 #[.agg #[t,u,v,x],n18] a λy z=>ap 36 c y z λg h=>s g (an (n18+1)) h/\f g (an
 (n18+1)) h<f c n18 a) (Q c a))
def aj.q3:aB:=(.q (.q (.s (.dZ [(3,.slice)] [1] (.q (.c .r .l))) (.s (.q (.bc (.loop [(3,.slice),(23,(.int .i64))] [1,22] a4))) (.q .l)))))
def Z.wC(c:al ar)(l:ai)(m:ag)(n:ag)(o:ag)(w:I)(Q:O->I->Prop):Prop:=ao (w.alloc (.cells #[l,m,n,o] 404)) λw1=>bB w1 (aa w) λp=>bd w1 w 1 λq=>bd w1 w 2 λr=>bd w1 w 3 λs=>eK 366 #[.agg #[p,q,
 r,s]] w1 λt n9 a=>ae (n9 !=0) (Q (.tuple #[(0:Int),n9]) a) (aw c λeo=>∃f:al ar,a.cell? eo=some (f)/\aw f λe7=>∃g:al
 ar,a.cell? (e7.add 1)=some (g)/\mQ 146 #[g] a λn16 n17 b=>ae (n17 !=0) (Q (.tuple #[(0:Int),n17]) b) (aw c λie=>a_ b (ie.add 1) λu=>ao (b.alloc
 (.cells #[n16] 3)) λv=>ap 52 u (.slice (some (aa b)) 1 1) v λx bt=>aw c λa23=>st bt (a23.add 1) x λd=>aX (λh:Int->I
 ->Prop=>bB d (aa w) λy=>ae y (h 1 d) (h 2 d)) (λ(n27:Int) e=>aw c λz=>∃i:al ar,e.cell? z=some (i)/\aw i λA=>db e (A.add 2) λn32=>eK 40 #[n16,.agg #[n27,aE n32,t]] e λB n36 bY=>ae (n36 !=0) (Q (.tuple #[(0:Int),n36]) bY) (aw c λC=>∃j:al ar,bY.cell? C=some (j)/\aw j λ
 D=>∃k:al ar,bY.cell? D=some (k)/\bx 149 #[k,n16,B] bY λE F=>Q (.tuple #[n16,E]) F))))
def aj.wC:aB:=(.q (.q (.s a1 (.q (.s a1 (.q (.q (.s (.dZ [(9,(.int .i64))] [0,6,8] (.q (.c .r .l))) dP))))))))
def Z.q4(g:ai)(h:ag)(j:ag)(k:ag)(i:Int)(w:I)(Q:O->I->Prop):Prop:=ao (w.alloc (.cells #[g,h,j,k] 404)) λw1=>bE w1 λaf b=>g1 b af w 1 λl=>bj l i λa5=>fz b af (bz a5 i 1) λm=>g1 b af w 1 λn=>bj n i λdz=>fz b af (bz dz i 1) λo
 =>ao (af.alloc (.cells #[.int .u8 (IntKind.wrap .u8 (m.len:Int))] 5)) λd=>ad b af d/\ao (d.alloc (.cells #[.slice (some (aa af)) 1 1,o] 36)) λp=>bp 94 #[.slice (some
 (aa d)) 2 2] p λf aR=>bB aR (aa w) λq=>ae q (bE aR λa c=>g1 c a w 2 λr=>bj r i λkz=>fz c a (bz kz i 1) λs=>g1 c a w 2 λt=>bj t i λa22=>fz c a (bz a22 i
 1) λu=>ao (a.alloc (.cells #[.int .u8 (IntKind.wrap .u8 (s.len:Int))] 5)) λe=>ad c a e/\ao (e.alloc (.cells #[f,.slice (some (aa a)) 1 1,u]
 36)) λv=>bp 94 #[.slice (some (aa e)) 3 3] v λx y=>Q x y) (bd aR w 3 λz=>bj z (an (i+1)) λA=>r1 aR (A.add ((an (i+1)).toNat*1)) λn31=>
 bp 95 #[f,aE (IntKind.wrap .u64 n31),(2:Int)] aR λB C=>Q B C)
def aj.q4:aB:=(.q (.s (.d 13 true [0,1,0,1002001,4003,0,9,0,1010009,12,1012007,14,515] [0,1,0,1002001,4003,0,9,0,1010009,12,1012007,2013] [15006,6] [3,7,2,1008007,4009,3,15,2,1016015,18,1018013,2019] (.z 7 0 (.z 5 8 (.bU 7 (.tail
 [.r,.r,.r]))))) (.s (.q (.c (.s (.d 14 true [0,0,2,0,1003002,4004,0,10,0,1011010,13,1013008000,15,516] [0,0,2,0,1003002,4004,0,10,0,1011010,13,1013008000,2014] [16023,5] [6,3,25,2,1026025,4027,3,33,2,1034033,36,1036031023,2037] (.z 8 0
 (.z 5 9 (.bU 8 (.tail [.r,.r,.r]))))) .l) .l)) (.q .l))))
def Z.q5(a:ai)(b:ag)(c:ag)(d:ag)(w:I)(Q:O->I->Prop):Prop:=ao (w.alloc (.cells #[a,b,c,
 d] 404)) λw1=>bB w1 (aa w) λe=>bd w1 w 1 λf=>bd w1 w 2 λg=>bd w1 w 3 λh=>eK 333 #[.agg #[e,f,g,
 h]] w1 λi n9 j=>Q (.tuple #[i,n9]) j
def aj.q5:aB:=(.q (.q .l))
set_option maxRecDepth 100000
def Z.wD(b:al ar)(p:ag)(w:I)(Q:O->I->Prop):Prop:=ao (w.alloc z3) λw1=>ae (Option.isNone b) (bR w1 (aa w) [(0:Int),(),(0:Int),(0:Int),false,(1:Int)] 6
 λaf=>c6 af w Q) (nV 68 #[p] w1 λe n12 a=>ao (a.alloc z4) λg=>bN g (aa a) (Array.toList e)/\Array.size e=82/\ao (setCells g (aa a) 0 (Array.toList e)) λc=>ae
 (n12 !=0) (False) (∃h:Y O,aT c (aa a) 0 82=some h/\∃i:Array O,Sem.run ah (Instr.build 167 #[(0,b),(1,.agg h.toArray),(2,p)]) c=.ok (.agg i) c/\
 ao (c.alloc (.cells i 167)) λo=>bE o λbl d=>aw b λdP=>¬d (dP.add 6).block/\∃j:al ar,bl.cell? (dP.add 6)=some (j)/\¬d (((aa a).add 45).add 17).block/\∃k:Y
 O,aT bl (((aa a).add 45).add 17) 0 17=some k/\pn d bl (((aa a).add 45).add 35) λn23=>mR d bl (((aa a).add 45).add 36) λn24=>hT 69 #[j,.agg k.toArray,.int
 .u16 n23,.int .u8 n24] bl λn27 q l=>ae q (aw b λr=>∃m:al ar,l.cell? (r.add 6)=some (m)/\fy 70 #[m,n27] l λf z cy=>xs c λn=>
 bN cy (n.add 84) (Array.toList f)/\Array.size f=23/\ao (setCells cy (n.add 84) 0 (Array.toList f)) λcA=>lJ 71 #[.pointer (some (aa c))] cA λn39 s n41 t u v x=>bR x (aa w) [n39,s,n41,t,u,v] 6 λy=>c6 y w Q) (False)))
def aj.wD:aB:=(.q (.s a1 (.q (.s (.q (.c .l .l)) (.q (.s (.s (.d 18 true [0,3000,0,2004,0,2007,0,2010,1000000004680,2013,15,516,518] [0,3000,0,2004,0,2007,0,2010,1000000004680,2013,3014] [14031,31,2045,2008]
 [1,3031,6,2035,6,2038,6,2041,11050223472640,45,31,31,2045] (.z 13 0 (.out 13 false (.z 4 14 .e)))) (.q a9)) .l))))))
def Z.wE(a:al ar)(w:I)(Q:O->I->Prop):Prop:=ae (Option.isNone a) (Q (.pointer none) w) (aw a λa1=>∃df:al ar,w.cell? a1=some (df)/\Q (df) w)
def aj.wE:aB:=dP
def Z.wF(s:al ar)(w:I)(Q:O->I->Prop):Prop:=ae (Option.isNone s) (Q (1:Int) w) (aw s λa1=>bB w (a1.add 18) λa=>ae a (Q (8:Int) w) (bx 87 #[s]
 w λn5 b=>Q n5 b))
def aj.wF:aB:=(.q (.s (.bc a23) (.q .l)))
def Z.wG(f:al ar)(w:I)(Q:O->I->Prop):Prop:=cR 0 w λd b a aA=>ae (decide (a<4)) (aw f λa5=>((0:Int)<=a/\a<((4:Nat):Int))/\st aA (Addr.add a5 (a.toNat*1))
 (.int .i64 (-1)) λc=>d (an (a+1)) c/\b (an (a+1)) c<b a aA) (Q (.tuple #[]) aA)
def aj.wG:aB:=(.q (.bc (.loop [(3,(.int .i64))] [0] a4)))
def Z.n2(d:al ar)(k:Int)(l:Int)(m:Int)(w:I)(Q:O->I->Prop):Prop:=ao (w.alloc (.cells #[k,l,aE m] 24)) λw1=>aX (λ
 bL:ai->I->Prop=>ae (!(Option.isNone d)) (r1 w1 (aa w) λn=>bL (decide (n>=8)) w1) (bL false w1)) (λ(o:ai) aC=>aX (λf:ai->I->Prop=>ae o (r1 aC (aa w) λn7=>f (decide (n7<=64)) aC) (f false
 aC)) (λ(p:ai) a=>aX (λg:ai->I->Prop=>ae p (aK a w 1 λn11=>g (decide (n11>=1)) a) (g false a)) (λ(q:ai) b=>aX (λh:ai->I->Prop=>ae q (aK b w 1 λn15=>h
 (decide (n15<=1000)) b) (h false b)) (λ(r:ai) c=>aX (λi:ai->I->Prop=>ae r (b5 c w 2 λn19=>i (decide (n19>=1)) c) (i false c)) (λ(s:ai) e=>aX (λj:ai->I->Prop
 =>ae s (b5 e w 2 λn23=>j (decide (n23<=1048576)) e) (j false e)) (λ(t:ai) u=>Q t u))))))
def aj.n2:aB:=(.q (.s (.z [9,10,12,10,12,10,12,10,12,10,12,10]) .l))
def Z.q6(n:Int)(first:Int)(w:I)(Q:O->I->Prop):Prop:=bn 88 #[n] w λd w1=>ae (((!d)||(decide (first<0)))||(decide (first>n))) (Q (.tuple #[.pointer none,(1:Int)])
 w1) (bx 89 #[n] w1 λn6 aA=>((0:Int)<=n6/\n6<=n6/\n6<=iR/\((1:Nat):Int)*n6<=140737488355328)/\ao (aA.alloc (.cells (gQ ah 5 (n6.toNat)) 5)) λa=>ao (a.alloc (.cells
 #[n,.slice (some (aa aA)) (n6.toNat) (n6.toNat),()] 201)) λaF=>cR 0 aF λe b n11 aR=>ae (decide (n11<first)) (xs a λe1=>a_ aR (e1.add 1) λf=>dg 90
 #[f,n11] aR λc=>e (an (n11+1)) c/\b (an (n11+1)) c<b n11 aR) (dg 91 #[.pointer (some (aa a))] aR λg=>Q (.tuple #[.pointer (some (aa a)),(0:Int)]) g))
def aj.q6:aB:=(.q (.s (.s (.z [12,8,9,11]) (.c (.q .l) .l)) (.q (.s (.q (.bc (.loop [(27,(.int .i64))] [6,26] a4))) (.q (.q .l))))))
def Z.wH(d:al ar)(w:I)(Q:O->I->Prop):Prop:=ae (Option.isNone d) (Q (0:Int) w) (aw d λa1=>a_ w (a1.add 4) λs2=>Q (.int .i64 (s2.len:Int)) w)
def aj.wH:aB:=dP
def Z.wI(no:Int)(u:Int)(v:Int)(x:ag)(w:I)(Q:O->I->Prop):Prop:=ao (w.alloc (.cells #[u,aE v,x] 111)) λw1=>bn
 92 #[no] w1 λy af=>aX (λj:ai->I->Prop=>ae (!y) (j true af) (r1 af (aa w) λn6=>bn 93 #[n6] af λz A=>j (!z) A)) (λ(B:ai) f=>ae B (Q (.tuple #[(),(1:Int)]) f) (bd f w 2 λC=>ae (decide ((C.len:Int)>232)) (Q (.tuple #[(),(10:Int)]) f) (ao (f.alloc (.cells #[.int .u8 83,.int .u8 84,.int .u8 78,.int .u8 67] 5)) λD=>∃
 k:ag,∃g:I,Sem.run ah (convert 36 36 (.slice (some (aa f)) 4 4)) D=.ok k g/\r1 g (aa w) λn16=>ao (g.alloc (.cells #[.int .u8 1,.int .u8 (IntKind.wrap .u8
 n16)] 5)) λl=>ao (l.alloc (.cells #[k,.slice (some (aa g)) 2 2] 36)) λbl=>bp 94 #[.slice (some (aa l)) 2 2] bl λE m=>bd m w 2 λF=>bp 95
 #[E,.int .u64 (IntKind.wrap .u64 (F.len:Int)),(2:Int)] m λG bG=>bp 95 #[G,aE (IntKind.wrap .u64 no),(4:Int)] bG λH n=>b5 n w 1 λn29=>
 bp 95 #[H,aE n29,(8:Int)] n λo J=>aX (λp:ag->I->Prop=>bE J λb d=>g1 d b w 2 λq=>g1 d b w 2 λe=>(((0:Int)<=4/\(4:Int)<=4/\(4:
 Int)<=iR/\((1:Nat):Int)*4<=140737488355328)/\ao (b.alloc (.cells (gQ ah 5 (Int.toNat 4)) 5)) λh=>ad d b h/\(z7 e)/\ao (h.alloc (.cells (gQ ah 5 ((an (232-
 (e.len:Int))).toNat)) 5)) λr=>ad d h r/\z8 r o b q h e p)/\((z7 e)/\ao (b.alloc (.cells (gQ ah 5 ((an (232-(e.len:Int))).toNat)) 5)) λi=>ad d b i/\((0:
 Int)<=4/\(4:Int)<=4/\(4:Int)<=iR/\((1:Nat):Int)*4<=140737488355328)/\ao (i.alloc (.cells (gQ ah 5 (Int.toNat 4)) 5)) λs=>ad d i s/\z8 s o i q b e p)) (λ(c:ag)
 K=>bE K λL T=>((0:Int)<=20/\20<=(c.len:Int))/\nW 96 #[c] L λM N=>∃U:Nat->Prop,bp 95 #[(),aE (IntKind.wrap .u64 M),(4:Int)] N λ
 P R=>∃S:Int,∃t:I,Sem.run ah (Builtin.copy_ #[36,36] 3 #[.slice (bw c.a 1 (Int.toNat 20) c.cap) (c.len-(Int.toNat 20)) (c.cap-(Int.toNat 20)),P])
 R=.ok S t/\Q (.tuple #[c,(0:Int)]) t))))
def aj.wI:aB:=(.q (.s (.bc (.s (.z [12,13]) (.c (.q .l) a1))) (.q (.q (.q (.q (.s (.dZ [(6,.slice)] [] (.d 9 true [0,0,0,3,0,4004,1000000000267,10,511] [0,0,0,3,0,4004,1000000000267,10,1010000] [11044,7]
 [7,0,4,47,4,4048,4698113673859072,2053] (.t 0 (.z 6 2 (.two 1 (.bU 8 (.tail [.r,.r,.r])) 8 (.bU 1 (.tail [.r,.r,.r]))))))) (.s (.d 6 true [0,1,0,2002,1004003,1005001] [0,1,0,3002,1005001] [7055] [7,56,7,3057,1060056] (.z 3 0 (.out 3
 true (.t 4 (.out 5 false .e))))) (.q .l)))))))))
def Z.tI(s:al ar)(w:I)(Q:O->I->Prop):Prop:=ae (Option.isNone s) (Q () w) (aw s λa1=>a_ w (a1.add 1) λs2=>bp 97 #[s2]
 w λa b=>Q a b)
def aj.tI:aB:=dP
theorem Z.HN(s:al ar)(w:I)(Q:O->I->Prop)(h:Z.tI s w Q):az ah 41 #[s] w Q:=okF (λw Q=>Z.tI s w Q) aj.tI func41 h
def Z.wJ(d:al ar)(i:Int)(b:ag)(w:I)(Q:O->I->Prop):Prop:=bn 67 #[d,i] w λq w1=>ae ((!q)||((b.len:Int) !=256)) (Q (1:Int) w1) (aw d λa4
 =>bn 98 #[.pointer (some a4),(2:Int)] w1 λr aC=>ae r (Q (3:Int) aC) (bE aC λaF c=>aw d λeo=>¬c (eo.add 5).block/\∃g:al Nat,aF.cell? (eo.add 5)=some (.map g)/\aw d λe7=>
 ¬c (e7.add 5).block/\∃h:al Nat,aF.cell? (e7.add 5)=some (.map h)/\256<=b.len/\∃e8:ar,b.a=some e8/\¬c e8.block/\∃j:Y O,aT aF e8 0 256=some j/\(∃m:ag,∃e:I,Sem.run
 ah (Instr.lookup 98 (.map h) i false) aF=.ok m e/\ad c aF e/\∃n:ag,∃k:I,Sem.run ah (Instr.buildSlice 97 1 #[(0,.agg
 j.toArray)]) e=.ok n k/\ad c e k/\z2 m n k c g i d Q)/\(∃o:ag,∃f:I,Sem.run ah (Instr.buildSlice 97 1 #[(0,.agg j.toArray)]) aF=.ok o f/\ad c aF f/\∃p:ag,∃l:I,Sem.run ah (Instr.lookup 98 (.map h) i false) f=.ok p l/\ad c f l/\z2 p o l
 c g i d Q)))
def aj.wJ:aB:=(.q (.s (.bc (.s (.z [15,11]) (.c (.q .l) a1))) (.s (.d 16 true [0,3000,0,0,3005,0,1009008,0,3011,1014010,516] [0,3000,0,0,3005,0,1009008,0,3011,1014010,1015004003] [16022,0]
 [1,3022,2,1,3027,2,1031030,3,3033,1036032,1037026025] (.z 10 0 (.z 3 11 (.two 10 (.bU 14 (.bU 15 .e)) 14 (.bU 10 (.bU 15 .e)))))) (.q (.q .l)))))
def Z.wK(d:al ar)(w:I)(Q:O->I->Prop):Prop:=ae (Option.isNone d) (Q (1:Int) w) (aw d λa1=>bn 98 #[.pointer (some a1),(3:Int)] w λg af=>ae g (Q (3:Int) af) (aw d λa5=>∃e:al Nat,af.cell? (a5.add 5)=some (.map e)/\∃ (a:O) (aF:I),Sem.run ah (Instr.range 98 (.map e)) af=.ok a aF/\∃ (c:I->Prop) (f:I->Nat),c
 aF/\∀ (b:I),c b->(∃ (h:O) (i:O) (aR:I),Sem.run ah (Instr.next (a) false 0) b=.ok (.tuple #[true,h,i]) aR/\ae true (zX a aR d c f b) (z_ d aR Q))\/(∃cy:I,
 Sem.run ah (Instr.next (a) false 0) b=.ok (.tuple #[false]) cy/\ae false (zX a cy d c f b) (z_ d cy Q))))
def aj.wK:aB:=(.q (.s (.bc a23) (.s (.q (.bc (.loop [] [0,16] (.q (.s (.c .l .l) (.bc (.s (.o8 [.s7 [(.one (.int .i64)),(.one .any)]]) (.d 8 true [0,3000,0,0,0,1006005,508,509] [0,3000,0,0,0,1006005,1004003,1008007]
 [9021,0] [1,3021,4,1,4,1027026,1025024,1029028] (.z 7 0 (.bU 7 (.tail [.r,.r]))))))))))) (.q (.q .l)))))
def Z.n3(d:al ar)(g:Int)(h:Int)(i:Int)(j:Int)(k:Int)(l:Int)(gen:Int)(w:I)(Q:O->I->Prop):Prop:=ao (w.alloc (.cells #[g,h,i,aE j,aE k,l] 115)) λw1=>(2:Int)≠0/\bE w1 λaf b=>¬b ((aa w):ar).block/\r1 af (aa w) λa6=>aK af w 1 λn5=>aK af w 2 λn6=>b5 af w 3
 λn7=>b5 af w 4 λn8=>aK af w 5 λn9=>bx 39 #[d] af λn12 c=>ad b af c/\bp 100 #[.agg #[a6,n5,n6,aE n7,aE n8,n9],n12] c
 λm e=>∃n:Nat->Prop,∃f:Array O,(∀bl:I,Sem.run ah (Instr.build 111 #[(0,.int .i64 3),(1,aE gen),(2,m)]) bl=.ok (.agg f) bl)/\eK 40 #[.int
 .i64 (an (Int.tmod gen 2)),.agg f] e λo n22 a=>ad n e a/\ae (n22 !=0) (Q n22 a) (bx 42 #[d,.int .i64 (an (Int.tmod gen 2)),o] a λn25 bG=>ae
 (n25 !=0) (Q n25 bG) (bx 43 #[d] bG λn28 p=>Q n28 p))
def aj.n3:aB:=(.q (.q (.s (.d 12 true [0,0,0,0,4,1004002,1005001,1006005000,2007,9,510,512] [0,0,0,0,4,1004002,1005001,1006000,2007,3008] [8015,15,2023,2008] [8,3,5,1,19,1019017,1020016,1021015,23,15,15,2023] (.z 4 0 (.bU 4
 (.out 5 true (.t 6 (.bU 7 (.z 4 8 .e))))))) (.s a1 a24))))
theorem Z.HO(d:al ar)(a:Int)(b:Int)(c:Int)(e:Int)(f:Int)(g:Int)(gen:Int)(w:I)(Q:O->I->Prop)(h:Z.n3 d a b c e f g gen w Q):az ah 44 #[d,.agg #[a,b,c,.int .u64 e,.int .u64 f,g],.int .u64 gen] w Q:=okF (λw Q=>Z.n3 d a b c e f g gen w Q) aj.n3 func44 h
def Z.n4(d:al ar)(e:Int)(f:Int)(g:Int)(h:Int)(i:Int)(j:Int)(k:Int)(l:Int)(m:Int)(gen:Int)(s:al ar)(w:I)(Q:O->I
 ->Prop):Prop:=ao (w.alloc (.cells #[e,f,aE g] 24)) λw1=>ao (w1.alloc (.cells #[h,i,j,aE k,aE l,m]
 115)) λaf=>r1 af (aa w) λn=>e0 101 #[d,n] af λb n7 aA=>ae (n7 !=0) (Q (.tuple #[.pointer none,n7]) aA) (r1 aA (aa w1) λn8=>aK aA w1 1 λn9=>e0 102
 #[b,s,.int .u64 (IntKind.wrap .u64 (gen+1)),n8,n9] aA λo n13 a=>ae (n13 !=0) (Q (.tuple #[.pointer none,n13]) a) (r1 a (aa w) λn14=>aK a w 1 λn15=>b5 a w
 2 λn16=>r1 a (aa w1) λn17=>aK a w1 1 λn18=>aK a w1 2 λn19=>b5 a w1 3 λn20=>b5 a w1 4 λn21=>aK a w1 5 λn22=>b5 a w1 3 λn23=>aK a w1 5 λn24=>∃c:Array O,Sem.run
 ah (Instr.build 197 #[(0,o),(1,d),(2,b),(3,s),(4,.agg #[n14,n15,aE n16]),(5,.agg #[n17,n18,n19,aE n20,aE n21,n22]),(6,aE gen),(7,aE n23),(10,n24)]) a=.ok (.agg c) a/\ao (a.alloc (.cells c 197)) λp=>Q (.tuple #[.pointer (some (aa a)),(0:Int)]) p))
def aj.n4:aB:=(.q (.q (.s a1 dP)))
theorem Z.HP(d:al ar)(a:Int)(b:Int)(c:Int)(e:Int)(f:Int)(g:Int)(i:Int)(j:Int)(k:Int)(gen:Int)(s:al ar)(w:I)(Q:O->I->Prop)(h:Z.n4 d a b c e f g i j k gen s w Q):az ah 45 #[d,.agg #[a,b,.int .u64 c],.agg #[e,f,g,.int .u64 i,.int .u64 j,k],.int .u64 gen,s] w Q:=okF (λw Q=>Z.n4 d a b c e f g i j k gen s w Q) aj.n4 func45 h
def Z.q7(s:al ar)(most:Int)(w:I)(Q:O->I->Prop):Prop:=ae (((Option.isNone s)||(decide (most<1)))||(decide (most>400))) (Q (.tuple #[.pointer none,(1:Int)]) w) (ao (w.alloc (.cells
 #[s,most] 193)) λw1=>Q (.tuple #[.pointer (some (aa w)),(0:Int)]) w1)
def aj.q7:aB:=a5
def Z.q8(g:Int)(h:Int)(i:Int)(j:Int)(k:Int)(l:Int)(f:al ar)(a:al ar)(w:I)(Q:O->I->Prop):Prop:=ao (w.alloc (.cells #[aE g,h,i,j,k,l] 26)) λw1=>ae ((Option.isNone f)||(Option.isNone a)) (Q (.tuple #[.pointer none,(1:Int)]) w1) (aK w1 w 1 λbF=>e0 103
 #[bF] w1 λm n6 c=>aK c w 3 λn7=>aK c w 4 λn8=>e0 104 #[n7,n8] c λn n12 d=>aK d w 5 λn13=>e0 105 #[a,n13] d λo n17 b=>ae
 (((n6 !=0)||(n12 !=0))||(n17 !=0)) (Q (.tuple #[.pointer none,(1:Int)]) b) (db b (aa w) λn18=>aK b w 1 λn19=>aK b w 2 λn20=>aK b w 3 λn21=>aK b w 4 λn22=>aK b w 5 λn23=>∃e:
 Array O,Sem.run ah (Instr.build 172 #[(0,.agg #[aE n18,n19,n20,n21,n22,n23]),(1,f),(2,a),(3,m),(4,n),(5,.pointer
 o)]) b=.ok (.agg e) b/\ao (b.alloc (.cells e 172)) λp=>Q (.tuple #[.pointer (some (aa b)),(0:Int)]) p))
def aj.q8:aB:=(.q (.s dT (.q (.q a5))))
def Z.q9(a:Int)(w:I)(Q:O->I->Prop):Prop:=Q (.int .i64 (an ((an (4*a))+64))) w
def aj.q9:aB:=(.q (.q .l))
def Z.pv(s:Array O)(w:I)(Q:O->I->Prop):Prop:=ao (w.alloc (.cells s 49)) λw1=>aX (λbL:Int->I->Prop=>e6 w1 w 1 λp=>ae p (bL 128 w1) (bL 32 w1)) (λ(a6:Int) aC=>
 fk aC w 19 λn6=>aX (λf:ai->I->Prop=>ae (n6==6) (f true aC) (fk aC w 19 λn8=>f (n8==17) aC)) (λ(q:ai) g=>r1 g (aa w) λn11=>bn 58 #[n11] g λr aR=>aX (λh:
 ai->I->Prop=>ae r (∃i:Y O,aT aR ((aa w).add 1) 0 17=some i/\bn 59 #[.agg i.toArray] aR λt u=>h t u) (h false aR)) (λ(v:ai) a=>aX (λj:ai->I->
 Prop=>ae v (gJ a w 18 λn23=>j (decide (n23>0)) a) (j false a)) (λ(x:ai) b=>aX (λk:ai->I->Prop=>ae (x&&q) (aK b w 20 λn27=>k (decide (n27>=0)) b) (k false b)) (λ
 (y:ai) c=>aX (λl:ai->I->Prop=>ae y (aK c w 20 λn31=>l (decide (n31<=a6)) c) (l false c)) (λ(z:ai) bY=>aX (λm:ai->I->Prop=>ae z (b5 bY w 21 λn35=>m (decide
 (n35>=1)) bY) (m false bY)) (λ(A:ai) d=>aX (λn:ai->I->Prop=>ae A (b5 d w 21 λn39=>n (decide (n39<=1073741824)) d) (n false d)) (λ(B:ai) e=>aX (λo:ai->I->Prop
 =>ae B (bd e w 22 λC=>o ((C.len:Int)==0) e) (o false e)) (λ(D:ai) E=>Q D E)))))))))
def aj.pv:aB:=(.q (.q (.s (.dZ [(3,(.int .i64))] [1] (.q (.c .r .l))) (.s (.z [12,10]) (.s (.z [12,10,12,10,12,5,6,10,12,13,15,10,12,10,12,13]) .l)))))
theorem Z.HQ(s:Array O)(w:I)(Q:O->I->Prop)(h:Z.pv s w Q):az ah 55 #[.agg s] w Q:=okF (λw Q=>Z.pv s w Q) aj.pv func55 h
def Z.n_(s:Array O)(w:I)(Q:O->I->Prop):Prop:=ao (w.alloc (.cells s 49)) λw1=>ao (w1.alloc (.cells #[false,.int .u8 0,.int .u8 0,.int .u8 0,.int .u8 0,.int .u8 0,.int .u8 0,
 .int .u8 0,.int .u8 0,.int .u8 0,.int .u8 0,.int .u8 0,.int .u8 0,.int .u8 0,.int .u8 0,.int .u8 0,.int .u8 0,.int .u16 0,.int .u8 0] 149)) λaf=>∃b:Y O,aT af ((aa w).add 1) 0 17=some b/\gJ
 af w 18 λa6=>fk af w 19 λn5=>∃a:Array O,Sem.run ah (Instr.build 149 #[(0,.agg b.toArray),(1,.int .u16 a6),(2,.int .u8 n5)]) af=.ok (.agg a) af/\bN af (aa w1) (Array.toList a)/\Array.size
 a=19/\ao (setCells af (aa w1) 0 (Array.toList a)) λc=>∃d:Y O,aT c (aa w1) 0 19=some d/\Q (.agg d.toArray) c
def aj.n_:aB:=(.q (.q .l))
theorem Z.HR(s:Array O)(w:I)(Q:O->I->Prop)(h:Z.n_ s w Q):az ah 56 #[.agg s] w Q:=okF (λw Q=>Z.n_ s w Q) aj.n_ func56 h
def Z.pw(s:al ar)(id:Int)(w:I)(Q:O->I->Prop):Prop:=aw s λa1=>a_ w (a1.add 22) λs2=>hT 113 #[s2,id,
 .func (.func 114) #[] #[]] w λn5 a b=>Q (.tuple #[n5,a]) b
def aj.pw:aB:=(.q (.q .l))
def Z.q_(n:Int)(w:I)(Q:O->I->Prop):Prop:=Q (.bool ((decide (n>=0))&&(decide (n<=65535)))) w
def aj.q_:aB:=a3
def Z.oa(a:Array O)(w:I)(Q:O->I->Prop):Prop:=ao (w.alloc (.cells a 45)) λw1=>∃b:Y O,aT w1 (aa w) 0 17=some b/\bn 116 #[.agg b.toArray] w1 λc d=>Q
 c d
def aj.oa:aB:=(.q (.q .l))
theorem Z.Df(a:Array O)(w:I)(Q:O->I->Prop)(h:Z.oa a w Q):az ah 59 #[.agg a] w Q:=okF (λw Q=>Z.oa a w Q) aj.oa func59 h
def Z.tJ(n:Int)(w:I)(Q:O->I->Prop):Prop:=Q (.bool ((decide (n>=0))&&(decide (n<=10)))) w
def aj.tJ:aB:=a3
def Z.wL(f:al ar)(d:Int)(backend:Int)(w:I)(Q:O->I->Prop):Prop:=ae (Option.isNone f) (Q (.tuple #[.pointer none,(0:Int),(1:Int)]) w) (aw f λa1=>∃m2:al Nat,w.cell? a1
 =some (.map m2)/\∃a:al ar,∃b:ai,∃aC:I,Sem.run ah (Instr.lookup 118 (.map m2) d true) w=.ok (.tuple #[a,b]) aC/\ae (!b) (Q (.tuple #[.pointer none,
 .int .i64 0,(6:Int)]) aC) (hT 57 #[a,backend] aC λn8 e c=>ae (!e) (Q (.tuple #[.pointer none,(0:Int),(6:Int)]) c) (Q (.tuple #[a,n8,(0:Int)]) c)))
def aj.wL:aB:=(.q (.s a1 (.q (.s a1 dP))))
def Z.wM(d:al ar)(w:I)(Q:O->I->Prop):Prop:=aw d λa1=>∃m2:al Nat,w.cell? (a1.add 5)=some (.map m2)/\CY 120 #[.map m2] w λa
 b=>bp 119 #[.func (.func a.f) a.pre a.cap] b λc e=>Q c e
def aj.wM:aB:=(.q (.q .l))
def Z.rf(d:al ar)(g:Int)(h:Int)(i:Int)(w:I)(Q:O->I->Prop):Prop:=ao (w.alloc (.cells #[g,h,aE i] 24)) λw1=>r1 w1
 (aa w) λbF=>aK w1 w 1 λj=>b5 w1 w 2 λa6=>bn 37 #[d,.agg #[bF,j,aE a6]] w1 λk aC=>ae (!k) (Q (.tuple #[.pointer none,(1:Int)]) aC) (CZ 121 #[d]
 aC λn10 n11 n12 n13 n14 n15 n16 n17 aF=>ao (aF.alloc fl) λbl=>bR bl (aa aF) [n10,n11,n12,aE n13,aE n14,n15] 6 λb=>ae (n17 !=0) (Q (.tuple #[.pointer none,n17]) b)
 (aK b aF 2 λn20=>e0 122 #[d,n20] b λl n24 a=>ae (n24 !=0) (Q (.tuple #[.pointer none,n24]) a) (r1 a (aa w) λn25=>aK a w 1 λn26=>b5 a w 2 λn27=>r1 a (aa
 aF) λn28=>aK a aF 1 λn29=>aK a aF 2 λn30=>b5 a aF 3 λn31=>b5 a aF 4 λn32=>aK a aF 5 λn33=>e0 45 #[d,.agg #[n25,n26,aE n27],.agg #[n28,n29,n30,aE n31,aE n32,n33],aE n16,l] a λe n37 c=>ae (n37 !=0) (Q (.tuple #[.pointer none,(4:Int)]) c) (aK c aF 5 λn38=>bx 123 #[e,n38] c λn41 f=>ae (n41 !=0) (Q (.tuple #[.pointer none,n41]) f) (Q (.tuple #[e,(0:Int)]) f)))))
def aj.rf:aB:=(.q (.s a1 (.q (.s a1 (.q (.s a1 (.q (.s a1 a24))))))))
set_option maxRecDepth 100000
def Z.wN(s:al ar)(w:I)(Q:O->I->Prop):Prop:=ao (w.alloc fl) λw1=>ae (Option.isNone s) (bR w1 (aa w) [(0:Int),(0:Int),(0:Int),aE 0,aE 0,(0:Int)] 6 λaf=>Aa af w Q)
 (aw s λa9=>r1 w1 (a9.add 7) λn10=>r1 w1 ((a9.add 7).add 1) λn11=>r1 w1 ((a9.add 7).add 2) λn12=>db w1 ((a9.add 7).add 3) λn13=>db w1 ((a9.add 7).add 4) λn14=>r1 w1 ((a9.add 7).add 5) λn15=>bR w1 (aa w)
 [n10,n11,n12,aE n13,aE n14,n15] 6 λa=>Aa a w Q)
def aj.wN:aB:=dP
def Z.Ai(s:al ar)(w:I)(Q:O->I->Prop):Prop:=ae (Option.isNone s) (Q (0:Int) w) (aw s λa1=>r1 w (a1.add 17) λbF=>Q bF w)
def aj.Ai:aB:=dP
def Z.wO(d:al ar)(i:Int)(w:I)(Q:O->I->Prop):Prop:=aX (λbH:ai->I->Prop=>ae ((!(Option.isNone d))&&(decide (i>=0))) (aw d λa2=>a_ w (a2.add 4) λa=>bH (decide (i<
 (a.len:Int))) w) (bH false w)) (λ(b:ai) aC=>Q b aC)
def aj.wO:aB:=jh
def Z.px(b:ag)(w:I)(Q:O->I->Prop):Prop:=ao (w.alloc z4) λw1=>nV 124 #[b] w1 λfB n5 af=>ao (af.alloc z5) λh=>bN h (aa af) (Array.toList fB)/\Array.size fB
 =39/\ao (setCells h (aa af) 0 (Array.toList fB)) λi=>ae (n5 !=0) (False) (e6 i af 37 λk=>ae k (False) (bE i λc d=>¬d ((aa af):ar).block/\∃f:Y O,aT c (aa af) 0 39=some f/\nY d c
 af 2 λn12=>((0:Int)<=n12/\n12<=(b.len:Int))/\(tz 125 #[.agg f.toArray,.slice (bw b.a 1 (n12.toNat) b.cap) (b.len-(n12.toNat)) (b.cap-(n12.toNat))] c λn15 n16 n17 n18 l n20 n21 e=>ad d c
 e/\ao (e.alloc nZ) λbt=>ad d e bt/\bR bt (aa e) [.int .u16 n15,.int .u16 n16,.int .u8 n17,n18,l,n20] 6 λbG=>ae (n21 !=0) (False) (tB bG af e w Q))/\(ao (c.alloc nZ) λg
 =>ad d c g/\tz 125 #[.agg f.toArray,.slice (bw b.a 1 (n12.toNat) b.cap) (b.len-(n12.toNat)) (b.cap-(n12.toNat))] g λm n o p q r s j=>ad d g j/\bR j (aa c) [.int .u16
 m,.int .u16 n,.int .u8 o,p,q,r] 6 λt=>ae (s !=0) (False) (tB t af c w Q))))
def aj.px:aB:=(.q (.q (.s (.q (.c .l .l)) (.s (.q (.c .l .l)) (.s (.d 11 true [0,0,0,3,1003001,1004000,2005,7,0,1000000000767,511] [0,0,0,3,1003001,1004000,2005,7,0,1009007,9] [6020,20,2026,7,0,6]
 [5,1,5,23,1023021,1024020,26,20,20,0,1026006,28] (.z 5 0 (.two 5 (.z 3 6 (.bU 9 (.out 10 false .e))) 9 (.bU 5 (.z 3 6 (.out 10 false .e)))))) dz)))))
def Z.tK(f:al ar)(dst:Array O)(port:Int)(jE:Int)(w:I)(Q:O->I->Prop):Prop:=ao (w.alloc (.cells dst 45)) λw1=>ae (Option.isNone f) (Q (.tuple #[(0:Int),false]) w1) (bE w1 λaf a=>aw f λa4=>¬a (a4.add 1).block/\∃c:al Nat,af.cell? (a4.add 1)=some (.map c)/\¬a ((aa w):ar).block/\∃d:Y O,aT af (aa w) 0 17=some d/\∃e:Array O,(∀aF:
 I,Sem.run ah (Instr.build 149 #[(0,.agg d.toArray),(1,.int .u16 port),(2,.int .u8 jE)]) aF=.ok (.agg e) aF)/\∃n9:Int,∃g:ai,∃b:I,Sem.run ah (Instr.lookup 119
 (.map c) (.agg e) true) af=.ok (.tuple #[n9,g]) b/\ad a af b/\Q (.tuple #[n9,g]) b)
def aj.tK:aB:=(.q (.s a1 (.s (.d 13 true [0,3000,0,0,0,1006005004,1007003,2008,10,511,513] [0,3000,0,0,0,1006005004,1007003,2008,3009] [9015,15,2024,2010] [1,3015,6,2002,1021020019,1022018,24,15,15,2024] (.z 8 0 (.bU 8 (.z
 4 9 .e)))) (.q .l))))
theorem Z.HS(f:al ar)(dst:Array O)(port:Int)(jE:Int)(w:I)(Q:O->I->Prop)(h:Z.tK f dst port jE w Q):az ah 69 #[f,.agg dst,.int .u16 port,.int .u8 jE] w Q:=okF (λw Q=>Z.tK f dst port jE w Q) aj.tK func69 h
def Z.tL(f:al ar)(id:Int)(w:I)(Q:O->I->Prop):Prop:=ao (w.alloc vS) λw1=>ae (Option.isNone f) (z1 w1 w Q) (aw f λa5=>∃d:al Nat,w1.cell? a5=some (.map d)/\∃c:
 al ar,∃e:ai,∃a:I,Sem.run ah (Instr.lookup 118 (.map d) id true) w1=.ok (.tuple #[c,e]) a/\ae (!e) (z1 a w Q) (aw c λe1=>∃g:Y O,
 aT a e1 0 23=some g/\vM a vS g 23 λh=>aw c λj6=>a_ h (j6.add 22) λk=>bp 126 #[k] h λl m=>st m ((aa a).add 22)
 l λbt=>∃b:Y O,aT bt (aa a) 0 23=some b/\bN bt (aa w) (Array.toList b.toArray)/\Array.size b.toArray=23/\ao (setCells bt (aa w) 0 (Array.toList b.toArray)) λi
 =>∃j:Y O,aT i (aa w) 0 23=some j/\Q (.tuple #[.agg j.toArray,true]) i))
def aj.tL:aB:=(.q (.s a1 (.q (.s a1 a22))))
theorem Z.HT(f:al ar)(id:Int)(w:I)(Q:O->I->Prop)(h:Z.tL f id w Q):az ah 70 #[f,id] w Q:=okF (λw Q=>Z.tL f id w Q) aj.tL func70 h
def Z.tM(a:al ar)(w:I)(b:ar)(ji:I)(Q:O->I->Prop):Prop:=∃c:Y O,aT ji b 0 18=some c/\hT 131 #[a,.agg c.toArray] ji λf
 g d=>ae (!g) (False) (∃e:Y O,aT d b 0 18=some e/\lJ 132 #[a,.agg e.toArray,f] d λh i j k l m n=>bR n (aa w) [h,i,j,k,l,m] 6 λo=>c6 o w Q)
def Z.rh(e:al ar)(w:I)(eR:ar)(z:ai)(bG:I)(Q:O->I->Prop):Prop:=aX (λq:ai->I->Prop=>bE bG λa c=>aw e λr=>¬c r.block/\∃s:
 al ar,a.cell? r=some (s)/\aw s λt=>¬c (t.add 6).block/\∃g:al ar,a.cell? (t.add 6)=some (g)/\en c a eR λn31=>en c a (eR.add 1) λn32=>(fy
 85 #[g,n31,n32] a λh A bY=>ad c a bY/\ao (bY.alloc l9) λi=>ad c bY i/\bN i (aa bY) (Array.toList h)/\Array.size h=21/\ao (setCells i (aa
 bY) 0 (Array.toList h)) λB=>q A B)/\(ao (a.alloc l9) λj=>ad c a j/\fy 85 #[g,n31,n32] j λk C l=>ad c j l/\bN l (aa a)
 (Array.toList k)/\Array.size k=21/\ao (setCells l (aa a) 0 (Array.toList k)) λD=>q C D)) (λ(E:ai) F=>ae (z&&E) (False) (bE F λb f=>aw e λu=>¬f ((u.add 1).add 45).block/\
 ∃m:Y O,aT b ((u.add 1).add 45) 0 17=some m/\aw e λG=>en f b ((G.add 84).add 20) λv=>(fy 130 #[.agg m.toArray,v] b λn K d=>ad f b d/\ao (d.alloc
 z9) λo=>ad f d o/\bN o (aa d) (Array.toList n)/\Array.size n=18/\ao (setCells o (aa d) 0 (Array.toList n)) λH=>Z.tM e w (aa d) H Q)/\(ao (b.alloc z9) λx=>ad f
 b x/\fy 130 #[.agg m.toArray,v] x λp L y=>bN y (aa b) (Array.toList p)/\Array.size p=18/\ao (setCells y (aa b) 0 (Array.toList p)) λJ=>Z.tM e w (aa
 b) J Q)))
def Z.wP(b:al ar)(w:I)(Q:O->I->Prop):Prop:=ao (w.alloc z3) λw1=>bE w1 λaf a=>aw b λa4=>¬a a4.block/\∃p:al ar,af.cell? a4=some (p)/\aw p λcZ=>¬
 a (cZ.add 8).block/\∃d:al ar,af.cell? (cZ.add 8)=some (d)/\aw b λdz=>¬a ((dz.add 1).add 45).block/\∃e:Y O,aT af ((dz.add 1).add 45) 0 37=some e/\aw b λeo=>¬a eo.block/\∃
 f:al ar,af.cell? eo=some (f)/\(ek 73 #[f] af λn14 aR=>ad a af aR/\(fy 127 #[d,.agg e.toArray,aE n14] aR λg q c=>ad a aR c/\ao (c.alloc
 iH) λh=>ad a c h/\bN h (aa c) (Array.toList g)/\Array.size g=22/\ao (setCells h (aa c) 0 (Array.toList g)) λr=>Z.rh b w (aa c) q r Q)/\(ao (aR.alloc iH) λi=>ad
 a aR i/\fy 127 #[d,.agg e.toArray,aE n14] i λj s k=>ad a i k/\bN k (aa aR) (Array.toList j)/\Array.size j=22/\ao (setCells k (aa aR) 0 (Array.toList j)) λt=>
 Z.rh b w (aa aR) s t Q))/\(ao (af.alloc iH) λl=>ad a af l/\ek 73 #[f] l λu m=>ad a l m/\fy 127 #[d,.agg e.toArray,aE u] m λn
 v o=>ad a m o/\bN o (aa af) (Array.toList n)/\Array.size n=22/\ao (setCells o (aa af) 0 (Array.toList n)) λx=>Z.rh b w (aa af) v x Q)
def aj.wP:aB:=(.q (.s (.d 23 true [0,6000,0,4007,0,4012,1016011006,2017,19,0,1000003145727,523] [0,6000,0,4007,0,4012,1016011006,2017,19,0,1021019,21] [18012,12,2030,4,0,5]
 [1,6012,1,4019,1,4024,1028023018,30,12,12,0,1030003,32] (.z 16 0 (.two 16 (.two 17 (.z 3 18 (.bU 21 (.out 22 false .e))) 21 (.bU 17 (.z 3 18 (.out 22 false .e)))) 21 (.bU 16 (.bU 17 (.z 3 18 (.out 22 false .e))))))) (.s (.s (.dZ [(6,
 .bool)] [0,2,3,4] (.d 17 true [0,6000,0,8,0,10,1010008006,2011,13,0,1000000049151,517] [0,6000,0,8,0,10,1010008006,2011,13,0,1015013,15] [12033,33,2045,6,0,7] [1,6033,4,41,4,43,1043041039,45,33,33,0,1045005,47] (.z 11 0 (.two 11 (.z 3 12
 (.bU 15 (.out 16 false .e))) 15 (.bU 11 (.z 3 12 (.out 16 false .e))))))) (.s (.z [6,5]) (.c .l .l))) (.s (.d 17 true [0,5000,0,4006,1010005,2011,13,0,1000000049151,517] [0,5000,0,4006,1010005,2011,13,0,1015013,15] [12063,63,2075,8,0,9]
 [1,5063,1,4069,1073068,75,63,63,0,1075007,77] (.z 11 0 (.two 11 (.z 3 12 (.bU 15 (.out 16 false .e))) 15 (.out 11 false (.z 3 12 (.out 16 false .e)))))) (.q dz)))))
def Z.wQ(b:al ar)(w:I)(Q:O->I->Prop):Prop:=aw b λa1=>∃df:al ar,w.cell? (a1.add 7)=some (df)/\fj 34 #[df] w λa c=>ek 133
 #[a] c λn8 d=>Q (aE n8) d
def aj.wQ:aB:=(.q (.q .l))
def Z.wR(f:al ar)(g:Int)(backend:Int)(w:I)(Q:O->I->Prop):Prop:=ao (w.alloc l9) λw1=>C0 62 #[f,g,backend] w1 λh n5 n6 af=>ae
 (n6 !=0) (∃a:Array O,Sem.run ah (Instr.build 51 #[]) af=.ok (.agg a) af/\bN af (aa w) (Array.toList a)/\Array.size a=21/\ao (setCells af (aa w) 0 (Array.toList a)) λaF=>∃c:Y O,
 aT aF (aa w) 0 21=some c/\Q (.tuple #[.agg c.toArray,false]) aF) (aw h λeo=>a_ af (eo.add 22) λi=>nU i n5 af 21 λb=>bN af (aa w) (Array.toList b.toArray)/\Array.size b.toArray=21/\ao
 (setCells af (aa w) 0 (Array.toList b.toArray)) λd=>∃e:Y O,aT d (aa w) 0 21=some e/\Q (.tuple #[.agg e.toArray,true]) d)
def aj.wR:aB:=(.q dP)
def Z.wS(s:al ar)(w:I)(Q:O->I->Prop):Prop:=aw s λa1=>∃df:al ar,w.cell? (a1.add 3)=some (df)/\mQ 146 #[df] w λn5 n6 o=>ae (n6 !=0)
 (bx 147 #[s,n6] o λn9 F=>Q n9 F) (ao (o.drew) λh=>aw s λeL=>¬False/\∃p:al ar,h.cell? (eL.add 3)=some (p)/\aw s λe1=>¬False/\r1 h
 ((e1.add 7).add 2) λn14=>bx 148 #[p,n14] h λn17 G=>bE G λbl d=>aw s λdP=>ky d bl (dP.add 13) λn21=>aw s λa22=>¬d (a22.add 3).block/\∃q:al ar,
 bl.cell? (a22.add 3)=some (q)/\bp 41 #[q] bl λH i=>ad d bl i/\∃r:Array O,(∀t:I,Sem.run ah (Instr.build 111 #[(0,.int .i64 4),(1,.int .u64
 (IntKind.wrap .u64 (n21+1))),(2,H)]) t=.ok (.agg r) t)/\eK 40 #[n5,.agg r] i λJ n32 e=>ad d i e/\ae (n32 !=0) (bx 147 #[s,n32] e λn35 bY=>Q n35 bY) (aw s λK=>∃u:al ar,e.cell? (K.add 2)=some (u)/\bx 149 #[u,n5,J] e λn40 j=>ae
 (n40 !=0) (bx 147 #[s,n40] j λL M=>Q L M) (aw s λN=>∃v:al ar,j.cell? (N.add 2)=some (v)/\bx 150 #[v] j λ
 x k=>ae (x !=0) (bx 147 #[s,x] k λP R=>Q P R) (aw s λS=>∃y:al ar,k.cell? S=some (y)/\mQ 151 #[y] k
 λT U V=>bE V λa f=>aw s λW=>ky f a (W.add 14) λX=>aw s λY=>ky f a ((Y.add 7).add 4) λab=>aw s λac=>en f a (ac.add 17) λaf=>∃g:Array O,(∀z:I,
 Sem.run ah (Instr.build 115 #[(0,T),(1,U),(2,n5),(3,aE X),(4,.int .u64 (IntKind.wrap .u64 (ab+1))),(5,af)]) z=.ok (.agg g) z)/\ao (a.alloc fl) λl
 =>ad f a l/\bN l (aa a) (Array.toList g)/\Array.size g=6/\ao (setCells l (aa a) 0 (Array.toList g)) λag=>ao (ag.drew) λb=>aw s λai=>¬False/\∃A:al ar,b.cell? (ai.add 1)=
 some (A)/\¬False/\r1 b (aa a) λaj=>aK b a 1 λak=>aK b a 2 λam=>b5 b a 3 λan=>b5 b a 4 λap=>aK b a 5 λaq=>aw s λau=>¬False/\db b (au.add 13) λav=>
 bx 44 #[A,.agg #[aj,ak,am,aE an,aE ap,aq],.int .u64 (IntKind.wrap .u64 (av+1))] b λB m=>ae (B !=0) (bx 147 #[s,B] m λax ay=>Q ax ay) (aw s λaz=>∃C:al ar,m.cell? (az.add 3)=some (C)/\dg 91 #[C] m λaA=>bE aA λc D=>¬D ((aa a):
 ar).block/\r1 c (aa a) λaB=>aK c a 1 λaC=>aK c a 2 λaD=>b5 c a 3 λaF=>b5 c a 4 λaG=>aK c a 5 λaH=>aw s λaI=>ky D c (aI.add 13) λaJ=>aw s λaL=>bR
 c (aL.add 7) [aB,aC,aD,aE aF,aE aG,aH] 6 λaM=>aw s λaN=>st aM (aN.add 13) (.int .u64 (IntKind.wrap .u64 (aJ+1))) λaO=>aw s λaP=>st aO (aP.add 16)
 (0:Int) λaQ=>ao (aQ.drew) λn=>aw s λaR=>¬False/\∃E:al ar,n.cell? aR=some (E)/\aw s λaS=>¬False/\db n (aS.add 13) λaT=>dg 152 #[.pointer
 E,.int .u64 (IntKind.wrap .u64 (aT+1))] n λaU=>Q (0:Int) aU)))))
def aj.wS:aB:=(.q (.q (.s a1 (.s (.e 9 false [0,3000,0,4004,1008003] [10025] [1,3025,1,4029,1033028] (.z 9 0 .e)) (.s (.d 17 true [0,0,4001,0,4006,1010005,1011010000,2012,14,515,517]
 [0,0,4001,0,4006,1010005,1011000,2012,3013] [13036,36,2049,6,5] [4,1,4037,1,4042,1046041,1047036,49,36,36,2049] (.z 10 0 (.bU 10 (.t 11 (.bU 12 (.z 4 13 .e)))))) (.s a1 (.s (.q a1) (.s (.q a1) (.q (.s (.d 19 true
 [0,0,0,0,3003,0,5007,0,3013,1000000069703,0,519] [0,0,0,0,3003,0,5007,0,3013,1000000069703,0,1018017] [18086,11,0] [2008,4,1,3089,1,5093,1,3099,5393008409894303832330853486592,0,1103010] (.z 18 0 (.bU 18 .e))) (.s (.s (.d 10 false
 [0,3000,0,0,4005,1009004003,511] [0,3000,0,0,4005,1009004003,11] [11104,12] [1,3104,11,1,4109,1113108107,115] (.z 10 0 (.tail [.r,.r]))) a1) (.q (.s (.d 15 true
 [0,0,0,0,0,4004,1007003000,1000000000649,1000000001161,1000000004091,1000000008187,1000000012283,515,516,1000000098303] [0,0,0,0,0,4004,1,10,1010003,2,13,1013008,3,2015] [11125,0,2136,0,2138,0]
 [1,1,1,11,1,4129,126,135,1135128,127,137,1137133,128,2138] (.z 11 0 (.out 11 false (.t 12 (.t 13 (.out 14 false (.tail [.r,.r,.r]))))))) (.s (.e 9 false [0,3000,0,4004,1008003] [10140] [1,3140,1,4144,1148143] (.z 9 0 .e)) (.q
 .l)))))))))))))))
def Z.wT(n:Int)(w:I)(Q:O->I->Prop):Prop:=Q (.bool ((decide (n>=1))&&(decide (n<=1600)))) w
def aj.wT:aB:=a3
def Z.wU(n:Int)(w:I)(Q:O->I->Prop):Prop:=(8:Int)≠0/\Q (.int .i64 (an (Int.tdiv (an ((an (n+8))-1)) 8))) w
def aj.wU:aB:=(.q (.q .l))
def Z.wV(s:ag)(no:Int)(w:I)(Q:O->I->Prop):Prop:=ao (w.drew) λw1=>(8:Int)≠0/\bj s (an (Int.tdiv no 8)) λa2=>¬False/\b8 w1 (a2.add ((an (Int.tdiv no 8)).toNat*1)) λa=>(8:
 Int)≠0/\(0:Int)<=(Int.tmod no 8)/\bj s (an (Int.tdiv no 8)) λa4=>st w1 (a4.add ((an (Int.tdiv no 8)).toNat*1)) (.int .u8 (k2 .u8 a (IntKind.wrap .u8 (1*2^(min ((Int.tmod no 8).toNat) 8))))) λaC=>Q (.tuple
 #[]) aC
def aj.wV:aB:=(.d 8 false [0,0,2,1002000,4,0,2005,1007004,509,510] [0,0,2,1002000,4,0,2005,1007004,1002000,1009008] [10004,0] [1,2,6,1006004,8,2,2009,1011008,1006004,1013012] (.z 8 0 (.tail [.r,.r,.r])))
def Z.tN(s:al ar)(w:I)(Q:O->I->Prop):Prop:=ae (!(Option.isNone s)) (aw s λa1=>a_ w (a1.add 1) λs2=>bp 153 #[s2] w λa b=>aw
 s λcZ=>st b (cZ.add 2) a λc=>Q (.tuple #[]) c) (Q (.tuple #[]) w)
def aj.tN:aB:=(.q (.c .r .l))
theorem Z.HU(s:al ar)(w:I)(Q:O->I->Prop)(h:Z.tN s w Q):az ah 91 #[s] w Q:=okF (λw Q=>Z.tN s w Q) aj.tN func91 h
set_option maxRecDepth 100000
def Z.wW(no:Int)(w:I)(Q:O->I->Prop):Prop:=Q (.bool ((decide (no>=0))&&(decide (no<1600)))) w
def aj.wW:aB:=a3
theorem Z.Dg(no:Int)(w:I)(Q:O->I->Prop)(h:Z.wW no w Q):az ah 92 #[no] w Q:=okF (λw Q=>Z.wW no w Q) aj.wW func92 h
def Z.wX(a:Int)(w:I)(Q:O->I->Prop):Prop:=Q (.bool ((decide (a>=1))&&(decide (a<=4)))) w
def aj.wX:aB:=a3
theorem Z.Dh(a:Int)(w:I)(Q:O->I->Prop)(h:Z.wX a w Q):az ah 93 #[a] w Q:=okF (λw Q=>Z.wX a w Q) aj.wX func93 h
def Z.ob(parts:ag)(w:I)(Q:O->I->Prop):Prop:=kx ⟨none,0,0⟩ 0 w λe b a a6 aC=>ae (decide (a6<(parts.len:Int))) (bj parts a6 λcZ=>a_ aC (bz cZ a6 1) λf=>ap 36 a f aC λc d=>e c (an (a6+1)) d/\b c (an (a6+1)) d<b a a6 aC) (Q a aC)
def aj.ob:aB:=(.q (.q (.s (.q (.bc (.loop [(3,.slice),(8,(.int .i64))] [6,7] a4))) (.q .l))))
theorem Z.HV(parts:ag)(w:I)(Q:O->I->Prop)(h:Z.ob parts w Q):az ah 94 #[parts] w Q:=okF (λw Q=>Z.ob parts w Q) aj.ob func94 h
def Z.gv(b:ag)(n:Int)(size:Int)(w:I)(Q:O->I->Prop):Prop:=bp 97 #[b] w λd w1=>bn 154 #[size] w1 λh aA=>ae (!h) (Q d aA) (kx d (an (size-1)) aA λi e c n10 a=>ae (decide (n10>=0)) ((0:Int)<=(an (8*n10))/\ao (a.alloc (.cells #[.int .u8 (IntKind.wrap .u8 (Int.fdiv n (2^(min ((an (8*n10)).toNat) 64))))]
 5)) λaR=>ap 36 c (.slice (some (aa a)) 1 1) aR λf g=>i f (an (n10-1)) g/\e f (an (n10-1)) g<e c n10 a) (Q c a))
def aj.gv:aB:=(.q (.q (.s a1 (.s (.q (.bc (.loop [(7,.slice),(8,(.int .i64))] [1] (.s (.q (.c .l .l)) (.s (.bc .r) .r))))) (.q .l)))))
def Z.py(b:ag)(w:I)(Q:O->I->Prop):Prop:=ao (w.drew) λw1=>((0:Int)<=20/\20<=(b.cap:Int))/\((0:Int)<=24/\24<=(b.len:Int))/\ao (w1.alloc (.cells #[.slice (bw b.a 1 0 b.cap)
 ((Int.toNat 20)-0) (b.cap-0),.slice (bw b.a 1 (Int.toNat 24) b.cap) (b.len-(Int.toNat 24)) (b.cap-(Int.toNat 24))] 36)) λaf=>nW 155 #[.slice (some (aa w1)) 2 2] af λn5 c=>Q (.int .u32 n5) c
def aj.py:aB:=(.q (.s (.d 4 false [0,1,0,3,1003001,5,506] [0,1,0,3,1003001,2004] [6003,3] [1,4,1,6,1006004,2007] (.z 4 0 (.tail [.r,.r,.r]))) .l))
def Z.wY(f:al ar)(a:Int)(w:I)(Q:O->I->Prop):Prop:=aw f λa1=>((0:Int)<=a/\a<((4:Nat):Int))/\r1 w (Addr.add a1 (a.toNat*1)) λbF=>ae (bF==(-1)) (Q false w) (ae (bF==0) (aw f λa3=>((0:Int)<=a/\a<((4:Nat):Int))/\st w (Addr.add a3 (a.toNat*1)) (.int .i64 (-1)) λaA=>Q true aA) (ao (w.drew) λaC=>aw f λcZ=>((0:Int)<=a/\a<
 ((4:Nat):Int))/\¬False/\r1 aC (Addr.add cZ (a.toNat*1)) λn7=>aw f λdz=>((0:Int)<=a/\a<((4:Nat):Int))/\st aC (Addr.add dz (a.toNat*1)) (.int .i64 (an (n7-1))) λb=>Q false
 b))
def aj.wY:aB:=(.q (.s (.q (.bc (.q (.c (.q .l) (.q a9))))) (.s (.d 7 false [0,0,1,1002001,2003,1,507,1000000000191] [0,0,1,1002001,2003,1,1006001,1007005] [8018,0] [1,2,19,1020019,2021,19,1024019,1025023] (.z 7 0 (.tail
 [.r,.r]))) (.q .l))))
def Z.wZ(d:al ar)(i:Int)(w:I)(Q:O->I->Prop):Prop:=ao (w.alloc vT) λw1=>aw d λa2=>∃c:al Nat,w1.cell? (a2.add 5)=some (.map c)/\∃b:ag,∃aC:I,Sem.run ah
 (Instr.lookup 98 (.map c) i false) w1=.ok b aC/\ae (decide ((b.len:Int)>0)) (∃cZ:ar,b.a=some cZ/\((0:Int)<=(an ((b.len:Int)-1))/\(an ((b.len:Int)-1))<
 (b.len:Int))/\∃e:Y O,aT aC (cZ.add ((an ((b.len:Int)-1)).toNat*256)) 0 256=some e/\Ab aC w e Q) (aw d λeo=>a_ aC (eo.add 4) λf=>nU f i aC 256 λg=>Ab aC w g Q)
def aj.wZ:aB:=(.q a24)
def Z.ri(d:Int)(e:Int)(f:Int)(g:Int)(h:Int)(i:Int)(j:Int)(w:I)(Q:O->I->Prop):Prop:=ao (w.alloc (.cells #[d,e,f,aE g,aE h,i] 115)) λw1=>r1 w1 (aa w) λbF=>bp 95 #[(),aE (IntKind.wrap .u64 bF),(4:Int)] w1 λk a=>aK a w 1 λn6=>bp 95 #[k,aE (IntKind.wrap .u64 n6),(1:Int)] a λl b=>aK b w 2 λn10=>bp 95 #[l,aE (IntKind.wrap .u64 n10),(4:Int)] b λm n=>bp 95 #[m,aE (IntKind.wrap .u64 j),(4:Int)] n λo c=>b5 c w 3 λn17=>bp 95 #[o,aE n17,(8:Int)] c λp bl=>b5 bl w 4 λn21=>bp 95 #[p,aE n21,(8:Int)] bl λq bt=>aK bt w 5 λn25=>bp 95 #[q,aE (IntKind.wrap .u64 n25),(4:Int)] bt λr s=>Q r s
def aj.ri:aB:=e8
def Z.rj(d:al ar)(aq:Int)(w:I)(Q:O->I->Prop):Prop:=ae (((Option.isNone d)||(decide (aq<8)))||(decide (aq>64))) (Q (.tuple #[.pointer none,(1:Int)]) w) (((0:Int)<=aq
 /\aq<=aq/\aq<=iR/\((48:Nat):Int)*aq<=140737488355328)/\ao (w.alloc (.cells (gQ ah 343 (aq.toNat)) 343)) λw1=>ao (w1.alloc (.cells #[d,.slice (some (aa w))
 (aq.toNat) (aq.toNat),(0:Int)] 300)) λaf=>Q (.tuple #[.pointer (some (aa w1)),(0:Int)]) af)
def aj.rj:aB:=a5
def Z.rk(c:al ar)(s:al ar)(gen:Int)(root:Int)(bg:Int)(w:I)(Q:O->I->Prop):Prop:=aX (λbH:ai->I->Prop=>ae (((((Option.isNone c)||(Option.isNone s))||(decide
 (bg<0)))||(decide (bg>12)))||(decide (root<0))) (bH true w) (aw c λa2=>∃a:al ar,w.cell? a2=some (a)/\bx 39 #[a] w λn6 aA=>bH (decide (root>=n6)) aA)) (λ(b:
 ai) aF=>ae (b||(!((root==0)==(bg==0)))) (Q (.tuple #[.pointer none,(1:Int)]) aF) (ao (aF.alloc (.cells #[c,s,aE gen,root,bg] 302)) λd=>Q (.tuple #[.pointer
 (some (aa aF)),(0:Int)]) d))
def aj.rk:aB:=(.q (.s (.s (.z [9,8,9,8,9,8,9,8,9,22,24,17]) (.c (.q .l) .l)) (.q .l)))
def Z.mU(most:Int)(w:I)(Q:O->I->Prop):Prop:=ae ((decide (most<1))||(decide (most>4096))) (Q (.tuple #[.pointer none,(1:Int)]) w) (∃m1:al Nat,∃af:I,Sem.run ah (Instr.makeMap
 261 none) w=.ok (.map m1) af/\∃a:al Nat,∃aA:I,Sem.run ah (Instr.makeMap 262 none) af=.ok (.map a) aA/\ao (aA.alloc (.cells #[most,.map m1,.map a]
 264)) λaC=>Q (.tuple #[.pointer (some (aa aA)),(0:Int)]) aC)
def aj.mU:aB:=(.q (.s dT (.q .l)))
def Z.rl(eM:Int)(ig:Int)(w:I)(Q:O->I->Prop):Prop:=bn 156 #[eM] w λe w1=>aX (λb:ai->I->Prop=>ae (!e) (b true w1) (bn 156 #[ig] w1
 λf aC=>b (!f) aC)) (λ(g:ai) c=>ae g (Q (.tuple #[.pointer none,(1:Int)]) c) (∃d:al Nat,∃a:I,Sem.run ah (Instr.makeMap 274 none) c=.ok (.map d) a/\ao
 (a.alloc (.cells #[eM,ig,.map d] 280)) λaR=>Q (.tuple #[.pointer (some (aa a)),(0:Int)]) aR))
def aj.rl:aB:=(.q (.s kz (.q .l)))
def Z.mV(a:al ar)(jF:Int)(w:I)(Q:O->I->Prop):Prop:=ae (((Option.isNone a)||(decide (jF<1)))||(decide (jF>64))) (Q (.tuple #[.pointer none,(1:Int)]) w) (ao (w.alloc (.cells
 #[a,(),jF] 272)) λw1=>Q (.tuple #[.pointer (some (aa w)),(0:Int)]) w1)
def aj.mV:aB:=a5
def Z.oc(b:Array O)(id:Int)(w:I)(Q:O->I->Prop):Prop:=ao (w.alloc (.cells b 51)) λw1=>r1 w1 (aa w) λbF=>bx 115 #[bF,id] w1 λn5 a=>Q
 n5 a
def aj.oc:aB:=(.q (.q .l))
theorem Z.HW(b:Array O)(id:Int)(w:I)(Q:O->I->Prop)(h:Z.oc b id w Q):az ah 114 #[.agg b,id] w Q:=okF (λw Q=>Z.oc b id w Q) aj.oc func114 h
def Z.mW(a:Array O)(w:I)(Q:O->I->Prop):Prop:=ao (w.alloc (.cells a 45)) λw1=>bB w1 (aa w) λf=>aX (λb:ai->I->Prop=>ae f (b true w1) (((0:Int)<=12/\12<=((16:
 Nat):Int))/\12<=((Int.toNat 12)-0)/\∃a4:ar,(bw (some ((aa w).add 1)) 1 0 16)=some a4/\∃c:Y O,aT w1 a4 0 12=some c/\∃d:Array O,Sem.run ah (Instr.build 307 #[]) w1=.ok
 (.agg d) w1/\∃e:ai,jz ah 307 c.toArray d e/\b e w1)) (λ(g:ai) h=>Q g h)
def aj.mW:aB:=(.q (.s (.z [9,19]) .l))
theorem Z.HX(a:Array O)(w:I)(Q:O->I->Prop)(h:Z.mW a w Q):az ah 116 #[.agg a] w Q:=okF (λw Q=>Z.mW a w Q) aj.mW func116 h
def Z.rm(d:al ar)(w:I)(Q:O->I->Prop):Prop:=ao (w.alloc fl) λw1=>C8 0 false 0 w1 λr j a6 h n6 a=>ae (decide (n6<2)) (aX (λi:Int->ai->I->Prop=>eK 165
 #[d,n6] a λk n12 l=>ae (n12 !=0) (kA l w Q n12) (bn 166 #[k,.func (.func 167) #[] #[]] l λs m=>ae (!s) (i a6 h m) (C1
 168 #[n6,k] m λn31 n32 n33 n34 n35 n36 n37 n38 n39 c=>ao (c.alloc fl) λt=>bR t (aa c) [n31,n32,n33,aE n34,aE n35,n36] 6
 λn=>ae (n39 !=0) (kA n w Q n39) (bx 39 #[d] n λu b=>ae (n37 !=u) (r1 b (aa w) λv=>aK b w 1 λx=>aK b w 2 λy=>b5 b w 3 λz=>b5 b w 4 λA=>aK b w
 5 λB=>bR b (aa w) [v,x,y,aE z,aE A,B] 6 λe=>r1 e (aa w) λC=>aK e w 1 λD=>aK e w 2 λE=>b5 e w 3 λF=>b5 e w 4 λG=>aK
 e w 5 λH=>Q (.tuple #[.agg #[C,D,E,aE F,aE G,H],aE 0,(4:Int)]) e) (ae ((!h)||(decide (n38>a6))) (r1 b (aa c) λJ=>aK b c 1 λK=>aK b c
 2 λL=>b5 b c 3 λM=>b5 b c 4 λN=>aK b c 5 λP=>bR b (aa w) [J,K,L,aE M,aE N,P] 6 λR=>i n38 true R) (i a6 h b)))))) (λ(o:
 Int) (p:ai) q=>r o p (an (n6+1)) q/\j o p (an (n6+1)) q<j a6 h n6 a)) (ae (!h) (r1 a (aa w) λS=>aK a w 1 λT=>aK a w 2 λU=>b5 a w 3 λV=>b5 a w 4 λW=>aK a w 5
 λX=>bR a (aa w) [S,T,U,aE V,aE W,X] 6 λf=>r1 f (aa w) λY=>aK f w 1 λab=>aK f w 2 λac=>b5 f w 3 λad=>b5 f w 4 λaf=>aK f w
 5 λag=>Q (.tuple #[.agg #[Y,ab,ac,aE ad,aE af,ag],aE 0,(6:Int)]) f) (r1 a (aa w) λah=>aK a w 1 λaj=>aK a w 2 λak=>b5 a w 3 λam=>b5 a w 4 λ
 ap=>aK a w 5 λaq=>bR a (aa w) [ah,aj,ak,aE am,aE ap,aq] 6 λg=>r1 g (aa w) λau=>aK g w 1 λav=>aK g w 2 λaw=>b5 g w 3 λax=>b5
 g w 4 λay=>aK g w 5 λaz=>Q (.tuple #[.agg #[au,av,aw,aE ax,aE ay,az],aE a6,(0:Int)]) g))
def aj.rm:aB:=(.q (.q (.s (.q (.bc (.loop [(3,(.int .u64)),(5,.bool),(12,(.int .i64))] [0,2] (.q (.s (.c .l .l) (.s (.dZ [(3,(.int .u64)),(5,.bool)] [0,2,12] (.bc (.q (.q (.s a1 (.s (.q (.c .l .l)) (.q (.bc (.q
 (.c (.q .l) (.q (.c (.q .l) (.s (.z [9,11]) (.c .r .l)))))))))))))) .r)))))) (.s a1 (.q .l)))))
def Z.rn(d:al ar)(no:Int)(w:I)(Q:O->I->Prop):Prop:=eK 165 #[d,no] w λe a6 w1=>ae (a6 !=0) (Q (.tuple #[.pointer none,a6]) w1) (qX
 169 #[no,e] w1 λn7 n8 f n10 aC=>ao (aC.alloc n0) λg=>bR g (aa aC) [n7,aE n8,f] 3 λaR=>ae (n10 !=0) (Q (.tuple #[.pointer none,n10]) aR) (r1 aR (aa aC) λn13=>ae (n13 !=4) (Q (.tuple #[.pointer none,(4:Int)]) aR) (bE aR λa b=>g1 b a aC 2 λh=>bx 39 #[d] a λn19 c=>ad b a c/\e0 170
 #[h,n19] c λi n23 j=>Q (.tuple #[i,n23]) j)))
def aj.rn:aB:=(.q (.q (.s a1 (.q (.s a1 (.s a1 (.s (.d 7 true [0,1,0,3,1003001,5,5,507,508] [0,1,0,3,1003001,5,3004] [7030,2004] [9,31,1,33,1033031,35,3034] (.z 3 0 (.bU 3 (.out 4 false (.t 5 (.t 6 (.tail [.r,.r])))))))
 .l)))))))
def Z.w2(s:al ar)(keys:Int)(w:I)(Q:O->I->Prop):Prop:=aw s λa1=>∃df:al ar,w.cell? a1=some (df)/\C2 171 #[df] w λg n6 n7 a=>ae (n7
 ==3) (Q n7 a) (aw s λdz=>r1 a ((dz.add 7).add 2) λn9=>ao (a.alloc (.cells #[(0:Int),(1:Int),n9] 3)) λh=>ap 52 g (.slice (some (aa a)) 3 3) h λ
 c aR=>dg 163 #[c] aR λb=>aX (λd:ai->I->Prop=>ae ((n7 !=0)||(n6 !=keys)) (d true b) (aw s λfA=>∃e:al ar,b.cell? (fA.add 3)=some
 (e)/\bp 173 #[e] b λi bl=>bn 172 #[c,i] bl λj k=>d (!j) k)) (λ(l:ai) f=>ae l (Q
 (4:Int) f) (Q (0:Int) f)))
def aj.w2:aB:=(.q (.q (.s a1 (.q (.q (.s (.s (.z [9,11,12,25]) (.c (.q .l) .l)) (.q .l)))))))
def Z.rp(b:ag)(w:I)(Q:O->I->Prop):Prop:=ao (w.alloc z5) λw1=>ae ((b.len:Int)==0) (False) (bj b 0 λa2=>b8 w1 (bz a2 0 1) λd=>(0:Int)<=4/\ae (((Int.fdiv d (2^(min (Int.toNat 4) 8))):
 Int)==4) (nV 174 #[b] w1 λa n7 aA=>bN aA (aa w) (Array.toList a)/\Array.size a=39/\ao (setCells aA (aa w) 0 (Array.toList a)) λaF=>∃c:Y O,aT aF (aa w) 0 39=some c
 /\Q (.tuple #[.agg c.toArray,n7]) aF) (False))
def aj.rp:aB:=(.q (.s (.q (.c .l .l)) (.s (.q (.bc a1)) (.q .l))))
def Z.pz(h_2:Array O)(data:ag)(w:I)(Q:O->I->Prop):Prop:=ao (w.alloc (.cells h_2 139)) λw1=>ao (w1.alloc nZ) λaf=>aX (λc:Int->I->Prop=>fk af w 1 λa6=>ae (a6==6)
 (False) (ae (a6==17) (∃d:Y O,aT af (aa w) 0 39=some d/\tz 177 #[.agg d.toArray,data] af λn8 n9 n10 n11 f n13 n14 g=>bR g (aa w1) [.int .u16 n8,.int .u16 n9,.int .u8 n10,
 n11,f,n13] 6 λh=>c n14 h) (c 6 af))) (λ(n16:Int) i=>ae (n16 !=0) (False) (g0 178 #[data,(0:Int)] i λn20 bl=>g0 178 #[data,(2:Int)] bl λn23 j=>st j (aa w1) (.int .u16 n20) λk=>st k ((aa w1).add 1) (.int .u16 n23) λb=>gI b (aa w1) λn26=>aX (λe:ai->I->Prop=>ae (n26==0) (e true b)
 (gJ b w1 1 λn28=>e (n28==0) b)) (λ(l:ai) a=>ae l (False) (gI a (aa w1) λn31=>gJ a w1 1 λn32=>fk a w1 2 λn33=>aK a w1 3 λn34=>e6 a w1 4 λm=>aK a w1 5 λn36=>bR a
 (aa w1) [.int .u16 n31,.int .u16 n32,.int .u8 n33,n34,m,n36] 6 λn=>vX n w1 Q))))
def aj.pz:aB:=(.q (.s (.dZ [(5,(.int .i64))] [1,4] (.q (.bc (.q (.c .l (.q (.c .r .r))))))) (.s (.q (.c .l .l)) (.q (.s (.s (.z [12,10]) (.c .l .l)) (.q .l))))))
def Z.w3(t:al ar)(f:Array O)(now:Int)(w:I)(Q:O->I->Prop):Prop:=ao (w.alloc (.cells f 81)) λw1=>ao (w1.alloc iH) λaf=>ae (Option.isNone t) (∃g:Array O,
 Sem.run ah (Instr.build 178 #[]) af=.ok (.agg g) af/\bN af (aa w1) (Array.toList g)/\Array.size g=22/\ao (setCells af (aa w1) 0 (Array.toList g)) λaA=>∃u:Y O,aT aA (aa w1) 0 22=some u
 /\Q (.tuple #[.agg u.toArray,false]) aA) (bE af λa e=>aw t λdz=>¬e (dz.add 1).block/\∃n:al Nat,a.cell? (dz.add 1)=some (.map n)/\¬e ((aa w):ar).block/\∃o:Y O,aT a (aa w) 0 37=
 some o/\(∃h:Array O,∃v:ai,∃b:I,Sem.run ah (Instr.lookup 261 (.map n) (.agg o.toArray) true) a=.ok (.tuple #[.agg h,v]) b/\ad e a b/\ao (b.alloc iH) λ
 p=>ad e b p/\bN p (aa b) (Array.toList h)/\Array.size h=22/\ao (setCells p (aa b) 0 (Array.toList h)) λq=>aX (λx:ai->I->Prop=>ae (!v) (x true q) (b5 q b 21 λn17=>x
 (decide (n17<=now)) q)) (λ(J:ai) c=>ae J (∃i:Array O,Sem.run ah (Instr.build 178 #[]) c=.ok (.agg i) c/\bN c (aa w1) (Array.toList i)/\Array.size i=22/\ao (setCells c (aa
 w1) 0 (Array.toList i)) λy=>∃z:Y O,aT y (aa w1) 0 22=some z/\Q (.tuple #[.agg z.toArray,false]) y) (∃j:Y O,aT c (aa b) 0 22=some j/\bN c (aa w1) (Array.toList
 j.toArray)/\Array.size j.toArray=22/\ao (setCells c (aa w1) 0 (Array.toList j.toArray)) λA=>∃B:Y O,aT A (aa w1) 0 22=some B/\Q (.tuple #[.agg B.toArray,true]) A)))/\(ao (a.alloc iH)
 λC=>ad e a C/\∃k:Array O,∃D:ai,∃r:I,Sem.run ah (Instr.lookup 261 (.map n) (.agg o.toArray) true) C=.ok (.tuple #[.agg k,D]) r/\bN r (aa a)
 (Array.toList k)/\Array.size k=22/\ao (setCells r (aa a) 0 (Array.toList k)) λs=>aX (λE:ai->I->Prop=>ae (!D) (E true s) (b5 s a 21 λn32=>E (decide (n32<=now)) s)) (λ(K:ai)
 d=>ae K (∃l:Array O,Sem.run ah (Instr.build 178 #[]) d=.ok (.agg l) d/\bN d (aa w1) (Array.toList l)/\Array.size l=22/\ao (setCells d (aa w1) 0 (Array.toList l)) λcA=>∃F:
 Y O,aT cA (aa w1) 0 22=some F/\Q (.tuple #[.agg F.toArray,false]) cA) (∃m:Y O,aT d (aa a) 0 22=some m/\bN d (aa w1) (Array.toList m.toArray)/\Array.size m.toArray=22/\ao
 (setCells d (aa w1) 0 (Array.toList m.toArray)) λG=>∃H:Y O,aT G (aa w1) 0 22=some H/\Q (.tuple #[.agg H.toArray,true]) G))))
def aj.w3:aB:=(.q (.s a1 (.s (.d 11 true [0,3000,0,1004003,2005,7,0,1000000000767,511] [0,3000,0,1004003,2005,7,0,1009007,9] [6014,14,2020,9,0,10] [1,3014,5,1018017,20,14,14,0,1020008,22] (.z 5 0 (.two 5 (.z 3 6 (.bU 9
 (.out 10 false .e))) 9 (.out 5 false (.z 3 6 (.out 10 false .e)))))) (.s (.s (.z [9,13]) (.c (.q .l) .l)) (.q .l)))))
def Z.w4(c:al ar)(f:Array O)(w:I)(Q:O->I->Prop):Prop:=ao (w.alloc (.cells f 178)) λw1=>ao (w1.alloc z3) λaf=>∃d:Y O,aT af (aa w) 0 22=some d/\
 lJ 134 #[c,(1:Int),.agg d.toArray] af λn6 g n8 n9 h n11 aA=>ao (aA.alloc z3) λaR=>bR aR (aa aA) [n6,g,n8,n9,h,n11]
 6 λi=>bE i λa b=>aw c λfA=>fz b a (fA.add 83) λj=>¬b ((aa w).add 2).block/\∃e:Y O,aT a ((aa w).add 2) 0 17=some e/\vR b a w 19 λn19=>eK 183
 #[j,.agg e.toArray,.int .u16 n19] a λk n23 l=>st l ((aa aA).add 1) k λm=>vZ m aA w1 Q
def aj.w4:aB:=(.q (.q (.s (.d 14 true [0,3000,0,5,0,7,1007005003,2008,10,511,1000000006143] [0,3000,0,5,0,7,1007005003,2008,10,0,1012010] [9010,10,3019,0] [1,3010,4,15,4,17,1017015013,19,10,10,6,1021019] (.z 8 0 (.out 8 false
 (.z 4 9 (.out 13 false .fin))))) (.q .l))))
def Z.od(a:Array O)(bits:Int)(w:I)(Q:O->I->Prop):Prop:=ao (w.alloc (.cells a 45)) λw1=>ao (w1.alloc z9) λaf=>∃c:Y O,aT af (aa w) 0 17=some c/\fy 184
 #[.agg c.toArray,bits] af λb e aA=>bN aA (aa w1) (Array.toList b)/\Array.size b=18/\ao (setCells aA (aa w1) 0 (Array.toList b)) λaF=>∃d:Y O,aT aF (aa w1) 0 18=some d/\Q (.tuple #[.agg
 d.toArray,e]) aF
def aj.od:aB:=(.q (.q .l))
theorem Z.HY(a:Array O)(bits:Int)(w:I)(Q:O->I->Prop)(h:Z.od a bits w Q):az ah 130 #[.agg a,bits] w Q:=okF (λw Q=>Z.od a bits w Q) aj.od func130 h
def Z.rq(a:al ar)(w:I)(d:ar)(e:ai)(n35:Int)(cA:I)(Q:O->I->Prop):Prop:=aw a λf=>st cA (f.add 107) n35 λg=>ao (g.drew) λb=>ae e
 (aw a λh=>¬False/\∃c:al ar,b.cell? h=some (c)/\aw a λi=>¬False/\r1 b (i.add 84) λj=>¬False/\r1 b (d.add 19) λk=>bn 188 #[c,j,
 k] b λl m=>ae l (False) (zY m a w Q)) (ae false (False) (zY b a w Q))
def Z.w5(b:al ar)(p:Array O)(w:I)(Q:O->I->Prop):Prop:=ao (w.alloc (.cells p 255)) λw1=>aw b λa2=>∃o:al ar,w1.cell? a2=some (o)/\aw o λa4
 =>∃q:al ar,w1.cell? (a4.add 7)=some (q)/\fj 34 #[q] w1 λs t=>bn 185 #[s] t λu v=>ae u (False) (bE v λaR a=>aw b λe8=>¬a
 e8.block/\∃r:al ar,aR.cell? e8=some (r)/\aw r λfA=>¬a (fA.add 7).block/\∃d:al ar,aR.cell? (fA.add 7)=some (d)/\aw b λie=>en a aR (ie.add 84) λn19=>¬
 a ((aa w):ar).block/\∃e:Y O,aT aR (aa w) 0 18=some e/\aw b λeR=>¬a eR.block/\∃f:al ar,aR.cell? eR=some (f)/\(ek 73 #[f] aR λn25 bG=>ad a
 aR bG/\(vO 187 #[d,n19,.agg e.toArray,aE n25] bG λg x n30 c=>ad a bG c/\ao (c.alloc l_) λcy=>ad a c cy/\bN cy (aa c) (Array.toList g)/\Array.size
 g=21/\ao (setCells cy (aa c) 0 (Array.toList g)) λy=>Z.rq b w (aa c) x n30 y Q)/\(ao (bG.alloc l_) λh=>ad a bG h/\vO 187 #[d,n19,.agg
 e.toArray,aE n25] h λi z A j=>ad a h j/\bN j (aa bG) (Array.toList i)/\Array.size i=21/\ao (setCells j (aa bG) 0 (Array.toList i)) λd_=>Z.rq b w (aa bG) z A d_ Q))/\
 (ao (aR.alloc l_) λk=>ad a aR k/\ek 73 #[f] k λB l=>ad a k l/\vO 187 #[d,n19,.agg e.toArray,aE B] l λm C D n=>ad a l
 n/\bN n (aa aR) (Array.toList m)/\Array.size m=21/\ao (setCells n (aa aR) 0 (Array.toList m)) λE=>Z.rq b w (aa aR) C D E Q))
def aj.w5:aB:=(.q (.s (.q (.c .l .l)) (.s (.d 26 true [0,6000,0,4007,0,0,4013,1000000137280,2018,20,20,0,1000010485759,1000029360127,526] [0,6000,0,4007,0,0,4013,1000000137280,2018,20,20,0,1023020,2021] [19035,35,3054,7,0,2007]
 [1,6035,1,4042,4,1,4048,4717904883159040,54,35,35,35,0,1054006,2055] (.z 17 0 (.two 17 (.two 18 (.z 4 19 (.bU 23 (.out 24 false (.t 25 .e)))) 23 (.bU 18 (.z 4 19 (.out 24 false (.t 25 .e))))) 23 (.bU 17 (.bU 18 (.z 4 19 (.out 24 false
 (.t 25 .e)))))))) (.q (.s (.s (.e 13 false [0,1,2,1002001,1003001,1004001,2,1006001,1007001,1008001,1009001,2,1011001,1000000005154,1013001] [15061]
 [8,62,1062000,1063062,1064062,1065062,1062000,1067062,1068062,1069062,1070062,1062006,1072062,11884314870487378628608,1074062] (.t 0 (.t 1 (.sp 62 (.z 11 2 (.tail [.r,.r])) (.z 11 2 (.tail [.r,.r])))))) (.c .l .l)) (.s (.d 13 true
 [0,3000,0,4004,0,1009008003,11,11,513,514] [0,3000,0,4004,0,1009008003,11,3010] [13078,2004] [1,3078,1,4082,4,1087086081,89,3088] (.z 10 0 (.out 10 false (.t 11 (.t 12 (.tail [.r,.r])))))) .l))))))
set_option maxRecDepth 100000
def Z.tO(b:al ar)(d:I->Prop)(h:ar)(i:I)(Q:O->I->Prop):Prop:=ao (i.drew) λa=>aw b λj=>¬False/\∃e:al ar,a.cell? j=some (e)/\
 aw e λk=>¬False/\∃f:al ar,a.cell? (k.add 7)=some (f)/\¬False/\∃g:Y O,aT a h 0 21=some g/\bx 189 #[f,.agg g.toArray] a λl c=>aw b
 λm=>r1 c (m.add 107) λn=>ae (n==0) (aw b λo=>st c (o.add 107) l λp=>d p) (d c)
def Z.tP(b:al ar)(id:Int)(w:I)(w1:I)(e:ar)(bY:I)(Q:O->I->Prop):Prop:=aX (λk:I->Prop=>r1 bY (e.add 20) λn35=>ek 180 #[n35]
 bY λn38 cA=>ae (decide (n38>0)) (aw b λL=>∃q:al ar,cA.cell? L=some (q)/\ek 73 #[q] cA λM N=>st N (e.add 21) (.int .u64 (IntKind.wrap .u64 (M+n38))) λ
 P=>bE P λd f=>aw b λr=>¬f r.block/\∃s:al ar,d.cell? r=some (s)/\aw s λt=>¬f (t.add 8).block/\∃u:al ar,d.cell? (t.add 8)=some (u)/\aw
 b λv=>¬f ((v.add 1).add 45).block/\∃x:Y O,aT d ((v.add 1).add 45) 0 37=some x/\¬f e.block/\∃y:Y O,aT d e 0 22=some y/\aw b λz=>¬f z.block/\∃A:
 al ar,d.cell? z=some (A)/\ek 73 #[A] d λR B=>ad f d B/\bx 182 #[u,.agg x.toArray,.agg y.toArray,aE R] B λC S=>ae (C==2)
 (False) (ae (C==7) (False) (bE S λa c=>en c a e λD=>¬c ((aa w):ar).block/\∃l:Y O,aT a (aa w) 0 18=some l/\aw b λE=>¬c E.block/\∃m:al ar,a.cell? E=
 some (m)/\aw b λT=>ky c a ((T.add 84).add 21) λF=>(ek 73 #[m] a λU g=>ad c a g/\∃h:Array O,(∀G:I,Sem.run ah (Instr.build 288
 #[(0,D),(1,.agg l.toArray),(2,id),(3,.int .u64 (IntKind.wrap .u64 (U+F)))]) G=.ok (.agg h) G)/\ao (g.alloc l_) λn=>ad c g n/\bN n (aa g) (Array.toList h)/\
 Array.size h=21/\ao (setCells n (aa g) 0 (Array.toList h)) λd_=>Z.tO b k (aa g) d_ Q)/\(ao (a.alloc l_) λo=>ad c a o/\ek 73 #[m] o λV p=>ad c o
 p/\∃i:Array O,(∀H:I,Sem.run ah (Instr.build 288 #[(0,D),(1,.agg l.toArray),(2,id),(3,.int .u64 (IntKind.wrap .u64 (V+F)))]) H=.ok (.agg i) H)/\bN
 p (aa a) (Array.toList i)/\Array.size i=21/\ao (setCells p (aa a) 0 (Array.toList i)) λW=>Z.tO b k (aa a) W Q)))) (k cA)) (λJ=>∃K:Y O,aT J e 0 22=some K/\
 lJ 129 #[b,.agg K.toArray] J λX ab ac af ag ai j=>ao (j.alloc z3) λaj=>bR aj (aa j) [X,ab,ac,af,ag,ai] 6 λak=>st ak ((aa j).add 4) true λam=>vZ am j w1 Q)
def Z.tQ(d:al ar)(id:Int)(w:I)(w1:I)(j6:ar)(bl:I)(Q:O->I->Prop):Prop:=bE bl λa b=>aw d λeR=>en b a (eR.add 84) λn22=>¬b (j6.add
 1).block/\∃g:Y O,aT a (j6.add 1) 0 17=some g/\pn b a (j6.add 18) λn24=>(bx 179 #[d,(0:Int),true] a λn27 c=>ad b a c/\∃e:Array O,(∀k:
 I,Sem.run ah (Instr.build 178 #[(0,n22),(1,id),(2,.agg g.toArray),(3,.int .u16 n24),(4,n27)]) k=.ok (.agg e) k)/\ao (c.alloc iH) λh=>ad b c h/\bN
 h (aa c) (Array.toList e)/\Array.size e=22/\ao (setCells h (aa c) 0 (Array.toList e)) λcy=>Z.tP d id w w1 (aa c) cy Q)/\(ao (a.alloc iH) λi=>ad b a i/\bx 179
 #[d,(0:Int),true] i λm j=>ad b i j/\∃f:Array O,(∀l:I,Sem.run ah (Instr.build 178 #[(0,n22),(1,id),(2,.agg g.toArray),(3,.int
 .u16 n24),(4,m)]) l=.ok (.agg f) l)/\bN j (aa a) (Array.toList f)/\Array.size f=22/\ao (setCells j (aa a) 0 (Array.toList f)) λn=>Z.tP d id w w1 (aa a) n
 Q)
def Z.w6(d:al ar)(p:Array O)(id:Int)(w:I)(Q:O->I->Prop):Prop:=ao (w.alloc (.cells p 255)) λw1=>ao (w1.alloc z3) λaf=>bE af λa b=>aw d λa5=>¬b
 a5.block/\∃k:al ar,a.cell? a5=some (k)/\aw k λdT=>¬b (dT.add 6).block/\∃e:al ar,a.cell? (dT.add 6)=some (e)/\aw d λa9=>en b a (a9.add 84) λn10=>(fy
 85 #[e,n10,id] a λf n c=>ad b a c/\ao (c.alloc l9) λg=>ad b c g/\bN g (aa c) (Array.toList f)/\Array.size f=21/\ao (setCells g (aa c) 0
 (Array.toList f)) λl=>Z.tQ d id w w1 (aa c) l Q)/\(ao (a.alloc l9) λh=>ad b a h/\fy 85 #[e,n10,id] h λi o j=>ad b h j
 /\bN j (aa a) (Array.toList i)/\Array.size i=21/\ao (setCells j (aa a) 0 (Array.toList i)) λm=>Z.tQ d id w w1 (aa a) m Q)
def aj.w6:aB:=(.q (.s (.d 19 true [0,6000,0,4007,0,1012011006,2013,15,0,1000000196607,519] [0,6000,0,4007,0,1012011006,2013,15,0,1017015,17] [14015,15,2029,8,0,9] [1,6015,1,4022,3,1027026021,29,15,15,0,1029007,31] (.z 13 0
 (.two 13 (.z 3 14 (.bU 17 (.out 18 false .e))) 17 (.bU 13 (.z 3 14 (.out 18 false .e)))))) (.s (.d 14 true [0,4000,0,0,7,0,9,0,11,1000000002736,0,514] [0,4000,0,0,7,0,9,0,11,1000000002736,0,1013012] [13031,10,0]
 [1,4031,3,8,38,8,40,1,42,6875515260928,0,1043009] (.z 11 0 (.two 11 (.t 12 (.bU 13 .e)) 13 (.bU 11 (.t 12 .e))))) (.s (.dZ [] [0,6,9] (.q (.q (.c (.q (.s (.s (.e 18 true [0,6000,0,4007,0,0,4013,1000000137280] [19057]
 [1,6057,1,4064,10,1,4070,19784133020053494108160] (.z 17 0 (.bU 17 .e))) (.bc fA)) (.s (.d 17 true [0,1,0,0,0,4004,0,4009,1013008,1000000016398,0,517] [0,1,0,0,0,4004,0,4009,1013008,1000000016398,0,1016015] [16096,12,0]
 [10,97,5,3,1,4100,1,4105,1109104,1299183408908906607859933697609728,0,1111011] (.z 8 0 (.z 5 9 (.two 8 (.t 14 (.t 15 (.bU 16 .e))) 16 (.bU 8 (.t 14 (.t 15 .e))))))) (.s (.d 8 false [0,6000,0,1007006,509] [0,6000,0,1007006,9] [9112,13]
 [1,6112,12,1119118,121] (.z 8 0 (.tail [.r,.r]))) (.q (.c .r .l)))))) .l)))) a22))))
def Z.Aj(s:al ar)(w:I)(Q:O->I->Prop):Prop:=ae (Option.isNone s) (Q (aE 0) w) (aw s λa1=>db w (a1.add 14) λbF=>Q (aE bF) w)
def aj.Aj:aB:=dP
def Z.w7(b:al ar)(c:Int)(d:Array O)(w:I)(Q:O->I->Prop):Prop:=ao (w.alloc (.cells d 178)) λw1=>ao (w1.alloc z3) λaf=>ao (af.drew) λa=>¬False/\r1 a
 (aa w) λa6=>¬False/\aK a w 1 λn5=>aw b λcZ=>¬False/\r1 a (cZ.add 107) λn7=>bR a (aa w1) [c,(),a6,n5,false,n7] 6 λaF=>c6 aF w1 Q
def aj.w7:aB:=(.q (.s (.d 9 false [0,0,2,0,4,0,3005,1000000000277,510] [0,0,2,0,4,0,3005,1000000000277,10] [10007,0] [2,6,9,6,11,1,3012,1000000035456,1016006] (.z 9 0 (.tail [.r,.r]))) .l))
def Z.tR(s:al ar)(w:I)(Q:O->I->Prop):Prop:=ae (Option.isNone s) (Q (.tuple #[.int .i64 (-1),(1:Int)]) w) (aw s λa1=>r1 w a1 λbF=>cR 0 w λd c n5 b=>ae (decide (n5<bF))
 (bn 198 #[s,n5] b λe a=>ae (!e) (aw s λeo=>a_ a (eo.add 1) λf=>dg 90 #[f,n5] a λaR=>Q (.tuple #[n5,(0:Int)]) aR) (d (an (n5+1)) a/\c (an (n5+1)) a<c n5 b)) (Q (.tuple #[.int .i64 (-1),(2:Int)]) b))
def aj.tR:aB:=(.q (.s a1 (.s (.q (.bc (.loop [(11,(.int .i64))] [0,10] (.q (.s (.c .l .l) (.s (.bc (.q (.q a9))) .r)))))) (.q .l))))
theorem Z.HZ(s:al ar)(w:I)(Q:O->I->Prop)(h:Z.tR s w Q):az ah 146 #[s] w Q:=okF (λw Q=>Z.tR s w Q) aj.tR func146 h
def Z.tS(s:al ar)(no:Int)(w:I)(Q:O->I->Prop):Prop:=bn 202 #[s,no] w λb w1=>ae (!b) (Q (1:Int) w1) (aw s λa4=>a_ w1 (a4.add 1) λc=>
 bn 203 #[c,no] w1 λd a=>ae (!d) (Q (6:Int) a) (aw s λa9=>a_ a (a9.add 1) λe=>dg 204 #[e,no] a λf=>Q
 (0:Int) f))
def aj.tS:aB:=(.q (.s (.bc a23) (.q (.q .l))))
theorem Z.H0(s:al ar)(no:Int)(w:I)(Q:O->I->Prop)(h:Z.tS s no w Q):az ah 148 #[s,no] w Q:=okF (λw Q=>Z.tS s no w Q) aj.tS func148 h
def Z.w8(c:al ar)(no:Int)(b:ag)(w:I)(Q:O->I->Prop):Prop:=bn 205 #[c,no] w λg w1=>ae ((!g)||((b.len:Int) !=256)) (Q (1:Int) w1) (fj
 206 #[c,no] w1 λe aA=>aX (λf:al ar->I->Prop=>ae (Option.isNone e) (e0 207 #[c] aA λa n11 aF=>ae (n11 !=0) (Q n11 aF) (aw a λe7=>
 st aF e7 true λh=>aw a λe8=>st h (e8.add 3) no λi=>f a i)) (f e aA)) (λ(d:al ar) j=>bp 97 #[b] j λk bl=>aw d
 λeR=>st bl (eR.add 5) k λbt=>aw d λa23=>st bt (a23.add 1) true λl=>aw d λa25=>st l (a25.add 2) true λm=>Q (0:Int) m))
def aj.w8:aB:=(.q (.s (.s (.z [15,11]) (.c (.q .l) .l)) (.q (.s (.dZ [(7,.ptr)] [2] (.q (.c (.q (.s a1 (.q .r))) .l))) (.q (.q .l))))))
def Z.w9(c:al ar)(w:I)(Q:O->I->Prop):Prop:=ae (Option.isNone c) (Q (1:Int) w) (bp 200 #[c] w λd w1=>cR 0 w1 λi e n6 a=>ae (decide (n6<
 (d.len:Int))) (bj d n6 λdz=>r1 a (bz dz n6 1) λn9=>fj 206 #[c,n9] a λf j=>ao (j.drew) λb=>aw c λe8=>¬False/\∃g:al ar,b.cell? e8=some (g)/\
 aw f λfA=>¬False/\a_ b (fA.add 5) λk=>bx 42 #[g,n9,k] b λn20 bl=>ae (n20 !=0) (Q n20 bl) (aw f λeR=>st bl (eR.add 1)
 false λbt=>i (an (n6+1)) bt/\e (an (n6+1)) bt<e n6 a)) (aw c λa23=>∃h:al ar,a.cell? a23=some (h)/\bx 43 #[h] a λn27 l=>Q n27 l))
def aj.w9:aB:=(.q (.s a1 (.s (.q (.bc (.loop [(12,(.int .i64))] [0,10,11] (.q (.s (.c .l .l) (.s (.bc (.q (.q (.s (.s (.d 9 false [0,3000,0,0,3005,1008004003,510] [0,3000,0,0,3005,1008004003,10] [10019,7]
 [1,3019,2004,3024,1027023022,29] (.z 9 0 (.tail [.r,.r]))) a1) .r)))) .r)))))) (.q .l))))
def Z.w_(t:al ar)(w:I)(Q:O->I->Prop):Prop:=ae (Option.isNone t) (Q (.tuple #[(0:Int),(0:Int)]) w) (ao (w.drew) λw1=>aw t λa2=>¬False/\r1 w1 (a2.add 3) λa=>aw t λa4
 =>¬False/\r1 w1 (a4.add 4) λn5=>Q (.tuple #[a,n5]) w1)
def aj.w_:aB:=(.q (.s a1 (.s (.d 9 false [0,3000,0,3004,504,509] [0,3000,0,3004,4,8] [8006,2002] [1,3006,1,3010,10,14] (.z 9 0 .e)) .l)))
def Z.tT(t:al ar)(gen:Int)(w:I)(Q:O->I->Prop):Prop:=ae (!(Option.isNone t)) (aw t λa1=>st w (a1.add 2) (aE gen) λaf=>Q (.tuple #[]) af) (Q (.tuple #[]) w)
def aj.tT:aB:=(.q (.c .r .l))
theorem Z.H2(t:al ar)(gen:Int)(w:I)(Q:O->I->Prop)(h:Z.tT t gen w Q):az ah 152 #[t,.int .u64 gen] w Q:=okF (λw Q=>Z.tT t gen w Q) aj.tT func152 h
def Z.xa(size:Int)(w:I)(Q:O->I->Prop):Prop:=Q (.bool ((decide (size>=1))&&(decide (size<=8)))) w
def aj.xa:aB:=a3
theorem Z.Di(size:Int)(w:I)(Q:O->I->Prop)(h:Z.xa size w Q):az ah 154 #[size] w Q:=okF (λw Q=>Z.xa size w Q) aj.xa func154 h
def Z.xb(parts:ag)(w:I)(Q:O->I->Prop):Prop:=fT 4294967295 0 w λc b a a6 aC=>ae (decide (a6<(parts.len:Int))) (bj parts a6 λcZ=>a_ aC (bz cZ a6 1) λd=>nW 208 #[.int .u32 a,
 d] aC λn10 aF=>c n10 (an (a6+1)) aF/\b n10 (an (a6+1)) aF<b a a6 aC) (Q (.int .u32 (fv .u32 4294967295 a)) aC)
def aj.xb:aB:=(.q (.q (.s (.q (.bc (.loop [(3,(.int .u32)),(8,(.int .i64))] [6,7] a4))) (.q .l))))
def Z.rr(n:Int)(w:I)(Q:O->I->Prop):Prop:=Q (.bool ((decide (n>=1))&&(decide (n<=100)))) w
def aj.rr:aB:=a3
def Z.xc(d:al ar)(i:Int)(w:I)(Q:O->I->Prop):Prop:=bn 67 #[d,i] w λc w1=>ae (!c) (Q (.tuple #[(),(1:Int)]) w1) (aw d λa4=>bn
 98 #[.pointer (some a4),(1:Int)] w1 λe aC=>ae e (Q (.tuple #[(),(3:Int)]) aC) (fK 99 #[d,i] aC λa aF=>ao (aF.alloc vT) λb=>bN b (aa aF)
 (Array.toList a)/\Array.size a=256/\ao (setCells b (aa aF) 0 (Array.toList a)) λaR=>Q (.tuple #[.slice (bw (some (aa aF)) 1 0 256) (256-0) (256-0),(0:Int)]) aR))
def aj.xc:aB:=(.q (.s (.bc a23) (.q (.q .l))))
def Z.xd(c:Int)(w:I)(Q:O->I->Prop):Prop:=Q (.bool (c !=0)) w
def aj.xd:aB:=(.q (.q .l))
theorem Z.H3(c:Int)(w:I)(Q:O->I->Prop)(h:Z.xd c w Q):az ah 167 #[.int .u8 c] w Q:=okF (λw Q=>Z.xd c w Q) aj.xd func167 h
def Z.ru(no:Int)(b:ag)(w:I)(Q:O->I->Prop):Prop:=ao (w.alloc fl) λw1=>qX 169 #[no,b] w1 λa6 n5 s n7 af=>ao (af.alloc n0) λaF=>bR aF (aa
 af) [a6,aE n5,s] 3 λc=>ae (n7 !=0) (r1 c (aa w) λn10=>aK c w 1 λn11=>aK c w 2 λn12=>b5 c w 3 λn13=>b5 c w 4 λn14=>aK c w 5 λn15=>bR c (aa w) [n10,n11,n12,aE n13,aE n14,n15] 6 λf=>r1 f (aa w) λn17=>aK f w 1 λn18=>aK f w 2 λn19=>b5 f w 3 λn20=>b5 f w 4 λn21=>aK f w 5 λn22=>Q (.tuple #[.agg
 #[n17,n18,n19,aE n20,aE n21,n22],(0:Int),aE 0,n7]) f) (r1 c (aa af) λn23=>aX (λm:ai->I->Prop=>ae (n23 !=3) (m true c) (bd c af 2 λt=>m
 ((t.len:Int) !=33) c)) (λ(u:ai) a=>ae u (r1 a (aa w) λn28=>aK a w 1 λn29=>aK a w 2 λn30=>b5 a w 3 λn31=>b5 a w 4 λn32=>aK a w 5 λn33=>bR a (aa w) [n28,n29,n30,aE n31,aE n32,n33] 6 λv=>z6 v w Q) (bd a af 2 λx=>ao (a.alloc (.cells #[x,(0:Int)] 353)) λy=>ek 215 #[.pointer (some
 (aa a)),(4:Int)] y λz A=>ek 215 #[.pointer (some (aa a)),(1:Int)] A λB C=>ek 215 #[.pointer (some (aa a)),(4:Int)] C λD E=>st E (aa w) (.int .i64
 (an z)) λF=>st F ((aa w).add 1) (.int .i64 (an B)) λG=>st G ((aa w).add 2) (.int .i64 (an D)) λH=>ek 215 #[.pointer (some (aa a)),(4:Int)] H λh J=>ek
 215 #[.pointer (some (aa a)),(8:Int)] J λK L=>ek 215 #[.pointer (some (aa a)),(8:Int)] L λM N=>ek 215 #[.pointer (some (aa a)),(4:Int)] N λ
 P R=>st R ((aa w).add 3) (aE K) λS=>st S ((aa w).add 4) (aE M) λT=>st T ((aa w).add 5) (.int .i64 (an P)) λg=>r1 g (aa w) λU=>aK g w 1 λV=>aX (λn:ai->I->
 Prop=>ae (!((U==0)==(V==0))) (n true g) (aK g w 1 λW=>n (decide (W>12)) g)) (λ(X:ai) i=>aX (λo:ai->I->Prop=>ae X (o true i) (r1 i (aa w) λY=>o (decide (Y>=
 (an h))) i)) (λ(ab:ai) j=>aX (λp:ai->I->Prop=>ae ab (p true j) (aK j w 2 λac=>p (decide (ac>=(an h))) j)) (λ(ah:ai) k=>aX (λq:ai->I->Prop=>ae ah (q true
 k) (aK k w 2 λaj=>q (decide (aj<2)) k)) (λ(ak:ai) r=>ae (ak||(decide (((an h):Int)>1600))) (bR r (aa w) [(0:Int),(0:Int),(0:Int),aE 0,aE 0,(0:Int)] 6 λal=>z6 al w Q) (bE
 r λd l=>¬l ((aa w):ar).block/\r1 d (aa w) λam=>aK d w 1 λap=>aK d w 2 λaq=>b5 d w 3 λau=>b5 d w 4 λav=>aK d w 5 λaw=>Db l d af 1 λax=>bR d (aa w) [am,ap,aq,aE au,aE av,aw] 6 λe=>ad l d e/\r1 e (aa w) λay=>aK e w 1 λaz=>aK e w 2 λaA=>b5 e w 3 λaB=>b5 e w 4 λaC=>aK
 e w 5 λaD=>Q (.tuple #[.agg #[ay,az,aA,aE aB,aE aC,aD],.int .i64 (an h),aE ax,(0:Int)]) e))))))))
def aj.ru:aB:=(.q (.q (.s a1 (.s ie (.q (.q (.q (.q (.s (.s (.z [24,10,12,13,15,13,15,10,12,8]) (.c (.q .l) .l)) (.s (.d 6 true [0,0,0,3,1,1004001000,506,507] [0,0,0,3,1,2,4,0] [4093,0,3005] [2004,9,96,1093004,95,97,0] (.z
 4 0 (.bU 4 (.t 5 (.tail [.r,.r]))))) .l))))))))))
end Go.Proofs.YtcfodkffcmfcaaaGreat
