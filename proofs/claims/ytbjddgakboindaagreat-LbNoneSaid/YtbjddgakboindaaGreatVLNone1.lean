/- Printed by gen.py: functions of the program, each as what must be shown of it. -/
import Derived.Test.YtbjddgakboindaaGreatProg
import Derived.Test.YtbjddgakboindaaGreatKLNone2
namespace aQ
abbrev aD.s:=aD.seq
abbrev aD.l:=aD.leaf
abbrev aD.c:=aD.cond
abbrev aD.r:=aD.pP []
abbrev a7.t:=a7.take
abbrev lK.r:=lK.run
open Go
def jg:O Nat->O Nat
 | []=> []
 |x::l=>bif Nat.blt x 500 then (bif Nat.beq x 0 then 0 else 2^(x-1))::jg l else bif Nat.blt x 1000 then (2^(x-500)-1)::jg l else bif Nat.blt x 1000000 then (List.range' (x%1000) (x/1000)).map (λy=>2^y)++jg l else bif Nat.blt x 1000000000 then (2^(x/1000-1000)+2^(x%1000))::jg l else bif Nat.blt x 1000000000000 then (2^(x/1000000-1000)+2^(x/1000%1000)+2^(x%1000))::jg l else (x-1000000000000)::jg l
def a7.z:Nat->Nat->a7->a7
 |0,_,x=>x
 |n+1,a,x=>.take a (a7.z n (a+1) x)
def a7.e:a7:=.tail [.run]
def aD.d(n:Nat)(b:aj)(A B C D:O Nat)(t:a7):aD:=.wI n b ⟨jg A,jg B⟩ (jg C) (jg D) t
def aD.e(n:Nat)(b:aj)(A C D:O Nat)(t:a7):aD:=.wI n b ⟨jg A,jg A⟩ (jg C) (jg D) t
def aD.q(t:aD):aD:=.seq (.pP []) t
def wV:O Nat->O lK
 | []=> []
 |x::l=>bif Nat.beq (x%3) 0 then List.replicate (x/3) .run++wV l else bif Nat.beq (x%3) 1 then .split (x/3)::wV l else .pure (x/3)::wV l
def aD.z(l:O Nat):aD:=.pP (wV l)
end aQ
namespace Go.Proofs.YtbjddgakboindaaGreat
noncomputable abbrev ai:=Tryz.prog
open Go aQ Go.Proofs.Tryz
namespace F
end F
namespace IZ
end IZ
namespace G
end G
abbrev aL:ec:=.one (.one .fn)
abbrev dz:ec:=.one (.one .agg)
abbrev fa:ec:=.one (.one .ptr)
abbrev jH:ec:=.one (.one .slice)
abbrev lP:ec:=.fp [(.one .ptr),(.one (.int .i64))]
abbrev pZ:ec:=.fp [(.one .agg),(.one .bool)]
abbrev rP:ec:=.one (.one .map)
abbrev rQ:ec:=.one (.flat [.ptr,.slice,(.int .i64)])
abbrev wW:ec:=.one (.one (.int .i64))
abbrev wX:ec:=.one (.one (.int .u8))
abbrev wY:ec:=.one (.one (.int .u64))
abbrev wZ:ec:=.fp [(.one .slice),(.one (.int .i64))]
def I0:O ec:=[(.fp []),aL,wW,wW,(.one (.one .bool)),wX,wX,(.one (.flat [(.int .i64),(.int .i64),.bool,(.int .u8)])),(.one (.flat [(.int .i64),(.int .i64),.bool,(.int .u8)])),(.one (.one .str)),(.one (.one .str)),(.one (.one .str)),wY,(.one (.flat [.str,(.int .u64)])),(.one (.flat [.str,(.int .u64)])),fa,fa,fa,(.one (.flat [.ptr])),(.one (.flat [.ptr])),(.one (.one .any)),(.one (.one (.int .i32))),wY,(.one (.flat [(.int .u64),(.int .i64),(.int .i64),(.int .i64),(.int .i64),(.int .i64)])),(.one (.flat [(.int .u64),(.int .i64),(.int .i64),(.int .i64),(.int .i64),(.int .i64)])),dz,dz,dz,(.one (.one (.int .u16))),dz,dz,jH,jH,dz,dz,dz,dz,dz,dz,dz,dz,fa,wW,(.one (.flat [(.int .i64),.slice,(.int .i64),(.int .i64),.bool,(.int .i64)])),(.one (.flat [(.int .i64),.slice,(.int .i64),(.int .i64),.bool,(.int .i64)])),aL,aL,(.fp [(.one (.int .i64)),(.one (.int .i64)),(.one (.int .i64))]),aL,(.fp [(.one (.int .i64)),(.one .bool)]),aL,dz,dz,aL,jH,aL,aL,aL,aL,aL,aL,fa,fa,(.fp [(.one .ptr),(.one .ptr),(.one .bool)]),aL,lP,aL,fa,aL,aL,aL,aL,dz,dz,(.one (.flat [(.int .u16),(.int .u16),(.int .u8),(.int .i64),.bool,(.int .i64)])),(.one (.flat [(.int .u16),(.int .u16),(.int .u8),(.int .i64),.bool,(.int .i64)])),dz,dz,(.fp [(.one .agg),(.one (.int .i64))]),aL,fa,dz,dz,fa,fa,fa,dz,dz,aL,pZ,aL,aL,dz,dz,(.fp [(.one .agg),(.one .agg),(.one .bool)]),aL,aL,fa,aL,aL,aL,(.fp [(.one (.int .i64)),(.one (.int .i64))]),aL,aL,aL,aL,pZ,aL,lP,aL,lP,aL,(.one (.flat [(.int .i64),(.int .i64),(.int .u64)])),(.one (.flat [(.int .i64),(.int .i64),(.int .u64)])),aL,lP,aL,lP,aL,lP,aL,lP,aL,rP,rP,(.one (.flat [.map,.map])),(.one (.flat [.map,.map])),fa,(.fp [(.one .ptr),(.one .bool)]),aL,aL,dz,fa,(.one (.flat [.ptr,.ptr,.ptr,.ptr,.ptr,.slice])),(.one (.flat [.ptr,.ptr,.ptr,.ptr,.ptr,.slice])),aL,aL,wZ,aL,(.fp [(.one .agg),(.one (.int .i64))]),aL,(.fp [(.flat [(.int .u16),(.int .u16),(.int .u8),(.int .i64),.bool,(.int .i64)]),(.one (.int .i64))]),aL,dz,dz,fa,(.fp [(.one .ptr),(.one .bool)]),aL,pZ,aL,aL,aL,pZ,aL,aL,aL,pZ,rP,rP,(.one (.flat [(.int .i64),.map,.map])),(.one (.flat [(.int .i64),.map,.map])),aL,aL,(.one (.flat [.ptr,(.int .i64)])),(.one (.flat [.ptr,(.int .i64)])),fa,fa,fa,(.one (.flat [(.int .i64),(.int .i64),(.int .i64),(.int .u64),(.int .u64),(.int .i64)])),(.one (.flat [(.int .i64),(.int .i64),(.int .i64),(.int .u64),(.int .u64),(.int .i64)])),dz,dz,aL,aL,aL,(.fp [(.one .slice),(.one (.int .i64)),(.one (.int .i64))]),aL,rQ,rQ,jH,aL,jH,aL,fa,lP,aL,aL,aL,dz,dz,aL,aL,aL,aL,aL,rP,(.one (.flat [(.int .i64),(.int .i64)])),(.one (.flat [(.int .i64),(.int .i64)])),(.one (.flat [.bool,(.int .i64)])),(.one (.flat [.bool,(.int .i64)])),(.one (.flat [(.int .i64),(.int .i64),.map])),(.one (.flat [(.int .i64),(.int .i64),.map])),aL,aL,(.fp [(.one .ptr),(.one (.int .i64)),(.one (.int .i64))]),aL,aL,jH,wZ,aL,aL,dz,dz,aL,jH,rP,dz,dz,dz,dz,aL,lP,aL,aL,aL,aL,(.one (.flat [(.int .i64),(.int .u64),.slice])),(.one (.flat [(.int .i64),(.int .u64),.slice])),dz,aL,aL,aL,aL,fa,jH,(.one (.flat [.slice])),(.one (.flat [.slice])),aL,fa,jH,(.one (.flat [(.int .i64),.slice])),(.one (.flat [(.int .i64),.slice])),aL,aL,aL,aL,aL,aL,wY,aL,aL,aL,aL,aL,(.fp [(.one .agg),(.one .bool),(.one (.int .i64))]),aL,aL,aL,aL,aL,(.fp [(.one (.int .i64)),(.one (.int .i64))]),aL,aL,aL,aL,(.one (.flat [.slice,.slice])),(.one (.flat [.slice,.slice])),aL,(.one (.flat [(.int .i64),(.int .i64)])),(.one (.flat [(.int .i64),(.int .i64)])),aL,aL,aL,(.one (.flat [.slice])),(.one (.flat [.slice])),jH,fa,aL,aL,aL,aL,aL,aL,aL,(.fp [(.one .slice),(.one .slice)]),aL,pZ,aL,(.fp [(.one .bool),(.one (.int .i64))]),aL,fa,jH,aL,(.one (.flat [(.int .i64),.slice,.slice])),(.one (.flat [(.int .i64),.slice,.slice])),aL,(.one (.one (.int .u32))),aL,aL,dz,dz,aL,aL,lP,aL,lP,aL,fa,(.one (.flat [(.int .i64),.slice])),(.one (.flat [(.int .i64),.slice])),fa,rQ,rQ,jH,dz,dz,aL,aL,aL,aL,aL,aL,aL,aL,(.fp [(.one (.int .u64)),(.one .bool)]),aL,pZ,aL,fa,dz,dz,aL,aL,aL,(.fp [(.one .slice),(.one .bool)]),aL,(.fp [(.one .slice),(.one .bool),(.one (.int .i64))]),aL,aL,aL,fa,dz,dz,aL,aL,aL,fa,aL,lP,aL,(.one (.flat [.bool,.bool,.bool,(.int .i64),(.int .i64),.slice])),(.one (.flat [.bool,.bool,.bool,(.int .i64),(.int .i64),.slice])),jH,rQ,rQ,(.one (.flat [.ptr,.ptr,(.int .u64),(.int .i64),(.int .i64)])),(.one (.flat [.ptr,.ptr,(.int .u64),(.int .i64),(.int .i64)])),aL,jH,aL,aL,(.fp [(.one (.int .u64)),(.one (.int .u64))]),aL,(.one (.flat [(.int .i64),(.int .i64),(.int .i64)])),(.one (.flat [(.int .i64),(.int .i64),(.int .i64)])),aL,aL,wW,(.fp [(.one (.int .i64)),(.one (.int .i64))]),aL,aL,aL,aL,aL,aL,aL,aL,aL,dz,aL,aL,aL,aL,aL,aL,(.one (.flat [(.int .u8),.bool])),(.one (.flat [(.int .u8),.bool])),aL,aL,aL,aL,aL,aL,aL,aL,aL,(.one (.flat [.bool,.slice,.slice,.slice])),(.one (.flat [.bool,.slice,.slice,.slice])),aL,aL,aL,aL,aL,aL,(.fp [(.one (.int .u32)),(.one (.int .u32))]),aL,(.fp [(.one (.int .u64)),(.one (.int .u64))]),aL,wY,aL,aL,fa,aL,jH,wZ,aL,dz,dz,aL,(.fp [(.flat [.bool,.slice,.slice,.slice]),(.one .bool)]),aL,aL,aL,aL,aL,aL,aL,aL,(.fp [(.flat [.bool,.slice,.slice,.slice]),(.one (.int .i64))]),aL,aL,aL,aL,fa,aL,aL,aL,aL,aL,fa,(.one (.flat [.ptr,.slice,.slice])),(.one (.flat [.ptr,.slice,.slice])),aL,fa,(.one (.flat [(.int .u64),.bool])),(.one (.flat [(.int .u64),.bool])),aL,aL,aL,(.fp [(.flat [(.int .i64),(.int .u64),.slice]),(.one (.int .i64))]),aL,aL,aL,aL,aL,aL,aL,aL,fa,jH,(.fp [(.one .slice),(.one (.int .i64)),(.one (.int .i64)),(.one (.int .i64))]),aL,aL,aL,wZ,aL,(.one (.flat [.slice,(.int .i64)])),(.one (.flat [.slice,(.int .i64)])),aL,aL,aL,fa,(.one (.flat [.slice,.bool])),(.one (.flat [.slice,.bool])),aL,aL,aL,aL,aL,aL,aL,aL,aL,aL,aL,(.fp [(.flat [.bool,.slice,.slice,.slice]),(.one .slice),(.flat [.bool,.slice,.slice,.slice]),(.one .bool)]),aL,aL,aL,(.one (.flat [.ptr,.ptr,.ptr,.str])),(.one (.flat [.ptr,.ptr,.ptr,.str])),dz,dz,dz,wX,wX,aL,fa,(.one (.one (.int .i32))),(.one (.one (.int .i32))),dz,dz,aL,(.one (.flat [(.int .i64),(.int .i64),(.int .i64)])),(.one (.flat [(.int .i64),(.int .i64),(.int .i64)])),fa]
def tk:TypeId->ec:=λt=>I0.getD t (.one (.one .any))
theorem A3:Tryz.prog.follows .mixedOrders=true:=by kernel_rfl
def ad(w:I):av:=w.heap.size
def al(n:Int):Int:=IntKind.wrap .i64 n
def bq(n:Int)(k:Nat):Prop:=(0:Int)<=n/\n<(k:Int)
def ah(c:aj)(A B:Prop):Prop:=(c=true->A)/\(c=false->B)
def j7:Int:=9223372036854775807
def st(w:I)(A:av)(v:Y)(K:I->Prop):Prop:=(∃u:Y,w.cell? A=some u)/\w.frozen? A=false/\an (w.setCell A v) λw1=>K w1
def w2(w:I)(z:Obj)(l:O Y)(k:Nat)(K:I->Prop):Prop:=an (w.alloc z) λw1=>b_ w1 (ad w) (Array.toList l.toArray)/\Array.size l.toArray=k/\an (setCells w1 (ad w) 0 (Array.toList l.toArray)) λag=>K ag
def k9(s:ae)(n:Int)(w:I)(k:Nat)(K:O Y->Prop):Prop:=∃a:av,s.a=some a/\bq n s.len/\∃l:O Y,aV w (a.add (n.toNat*k)) 0 k=some l/\K l
def eM(f:Nat)(a:Array Y)(w:I)(K:I->Prop):Prop:=Calls ai f a w λe w'=>e=.returned (.tuple #[])/\K w'
def b4(f:Nat)(a:Array Y)(w:I)(K:Int->I->Prop):Prop:=Calls ai f a w λe w'=>∃b:Int,e=.returned b/\K b w'
def w3(f:Nat)(a:Array Y)(w:I)(K:Int->Int->I->Prop):Prop:=Calls ai f a w λe w'=>∃b:Int,∃c:Int,e=.returned (.tuple #[.int .u64 b,.int .u64 c])/\K b c w'
def bF(f:Nat)(a:Array Y)(w:I)(K:aj->I->Prop):Prop:=Calls ai f a w λe w'=>∃b:aj,e=.returned b/\K b w'
def Ey(f:Nat)(a:Array Y)(w:I)(K:Int->Int->I->Prop):Prop:=Calls ai f a w λe w'=>∃b:Int,∃c:Int,e=.returned (.tuple #[.int .u32 b,.int .u32 c])/\K b c w'
def nI(f:Nat)(a:Array Y)(w:I)(K:Array Y->Int->I->Prop):Prop:=Calls ai f a w λe w'=>∃b:Array Y,∃c:Int,e=.returned (.tuple #[.agg b,c])/\K b c w'
def gF(f:Nat)(a:Array Y)(w:I)(K:Int->aj->I->Prop):Prop:=Calls ai f a w λe w'=>∃b:Int,∃c:aj,e=.returned (.tuple #[b,c])/\K b c w'
def gh(f:Nat)(a:Array Y)(w:I)(K:Array Y->aj->I->Prop):Prop:=Calls ai f a w λe w'=>∃b:Array Y,∃c:aj,e=.returned (.tuple #[.agg b,c])/\K b c w'
def k_(f:Nat)(a:Array Y)(w:I)(K:Int->ae->Int->Int->aj->Int->I->Prop):Prop:=Calls ai f a w λe w'=>∃b:Int,∃c:ae,∃d:Int,∃g:Int,∃h:aj,∃i:Int,e=.returned (.agg #[b,c,d,g,h,i])/\K b c d g h i w'
def gM(f:Nat)(a:Array Y)(w:I)(K:aq av->Int->I->Prop):Prop:=Calls ai f a w λe w'=>∃b:aq av,∃c:Int,e=.returned (.tuple #[b,c])/\K b c w'
def uw(f:Nat)(a:Array Y)(w:I)(K:Int->Int->Int->Int->aj->Int->Int->I->Prop):Prop:=Calls ai f a w λe w'=>∃b:Int,∃c:Int,∃d:Int,∃g:Int,∃h:aj,∃i:Int,∃j:Int,e=.returned (.tuple #[.agg #[.int .u16 b,.int .u16 c,.int .u8 d,g,h,i],j])/\K b c d g h i j w'
def bn(f:Nat)(a:Array Y)(w:I)(K:ae->I->Prop):Prop:=Calls ai f a w λe w'=>∃b:ae,e=.returned b/\K b w'
def hN(f:Nat)(a:Array Y)(w:I)(K:aj->ae->ae->ae->I->Prop):Prop:=Calls ai f a w λe w'=>∃b:aj,∃c:ae,∃d:ae,∃g:ae,e=.returned (.agg #[b,c,d,g])/\K b c d g w'
def fq(f:Nat)(a:Array Y)(w:I)(K:Int->I->Prop):Prop:=Calls ai f a w λe w'=>∃b:Int,e=.returned (.int .u64 b)/\K b w'
def g7(f:Nat)(a:Array Y)(w:I)(K:aq av->I->Prop):Prop:=Calls ai f a w λe w'=>∃b:aq av,e=.returned (b)/\K b w'
def Ez(f:Nat)(a:Array Y)(w:I)(K:aq av->Int->Int->I->Prop):Prop:=Calls ai f a w λe w'=>∃b:aq av,∃c:Int,∃d:Int,e=.returned (.tuple #[b,c,d])/\K b c d w'
def eG(f:Nat)(a:Array Y)(w:I)(K:ae->Int->I->Prop):Prop:=Calls ai f a w λe w'=>∃b:ae,∃c:Int,e=.returned (.tuple #[b,c])/\K b c w'
def mq(f:Nat)(a:Array Y)(w:I)(K:Array Y->I->Prop):Prop:=Calls ai f a w λe w'=>∃b:Array Y,e=.returned (.agg b)/\K b w'
def h6(f:Nat)(a:Array Y)(w:I)(K:Int->I->Prop):Prop:=Calls ai f a w λe w'=>∃b:Int,e=.returned (.int .u16 b)/\K b w'
def w4(f:Nat)(a:Array Y)(w:I)(K:Array Y->aj->Int->I->Prop):Prop:=Calls ai f a w λe w'=>∃b:Array Y,∃c:aj,∃d:Int,e=.returned (.tuple #[.agg b,c,d])/\K b c d w'
def j8(f:Nat)(a:Array Y)(w:I)(K:Int->Int->I->Prop):Prop:=Calls ai f a w λe w'=>∃b:Int,∃c:Int,e=.returned (.tuple #[b,c])/\K b c w'
def oM(f:Nat)(a:Array Y)(w:I)(K:Int->I->Prop):Prop:=Calls ai f a w λe w'=>∃b:Int,e=.returned (.int .u32 b)/\K b w'
def jI(f:Nat)(a:Array Y)(w:I)(K:Int->aj->I->Prop):Prop:=Calls ai f a w λe w'=>∃b:Int,∃c:aj,e=.returned (.tuple #[.int .u64 b,c])/\K b c w'
def iW(f:Nat)(a:Array Y)(w:I)(K:ae->aj->I->Prop):Prop:=Calls ai f a w λe w'=>∃b:ae,∃c:aj,e=.returned (.tuple #[b,c])/\K b c w'
def oN(f:Nat)(a:Array Y)(w:I)(K:ae->aj->Int->I->Prop):Prop:=Calls ai f a w λe w'=>∃b:ae,∃c:aj,∃d:Int,e=.returned (.tuple #[b,c,d])/\K b c d w'
def oO(f:Nat)(a:Array Y)(w:I)(K:aj->ae->ae->ae->aj->I->Prop):Prop:=Calls ai f a w λe w'=>∃b:aj,∃c:ae,∃d:ae,∃g:ae,∃h:aj,e=.returned (.tuple #[.agg #[b,c,d,g],h])/\K b c d g h w'
def nJ(f:Nat)(a:Array Y)(w:I)(K:aj->ae->ae->ae->Int->I->Prop):Prop:=Calls ai f a w λe w'=>∃b:aj,∃c:ae,∃d:ae,∃g:ae,∃h:Int,e=.returned (.tuple #[.agg #[b,c,d,g],h])/\K b c d g h w'
def oP(f:Nat)(a:Array Y)(w:I)(K:Int->Int->Int->I->Prop):Prop:=Calls ai f a w λe w'=>∃b:Int,∃c:Int,∃d:Int,e=.returned (.tuple #[b,c,d])/\K b c d w'
def EA(f:Nat)(a:Array Y)(w:I)(K:Int->Int->ae->Int->I->Prop):Prop:=Calls ai f a w λe w'=>∃b:Int,∃c:Int,∃d:ae,∃g:Int,e=.returned (.tuple #[.agg #[b,.int .u64 c,d],g])/\K b c d g w'
def A4(f:Nat)(a:Array Y)(w:I)(K:ae->Int->Int->Int->I->Prop):Prop:=Calls ai f a w λe w'=>∃b:ae,∃c:Int,∃d:Int,∃g:Int,e=.returned (.tuple #[b,c,d,g])/\K b c d g w'
def EB(f:Nat)(a:Array Y)(w:I)(K:aj->ae->ae->ae->ae->aj->ae->ae->ae->aj->I->Prop):Prop:=Calls ai f a w λe w'=>∃b:aj,∃c:ae,∃d:ae,∃g:ae,∃h:ae,∃i:aj,∃j:ae,∃k:ae,∃l:ae,∃m:aj,e=.returned (.tuple #[.agg #[b,c,d,g],h,.agg #[i,j,k,l],m])/\K b c d g h i j k l m w'
def w5(f:Nat)(a:Array Y)(w:I)(K:aq av->aq av->aj->I->Prop):Prop:=Calls ai f a w λe w'=>∃b:aq av,∃c:aq av,∃d:aj,e=.returned (.tuple #[b,c,d])/\K b c d w'
def EC(f:Nat)(a:Array Y)(w:I)(K:Int->Int->Int->I->Prop):Prop:=Calls ai f a w λe w'=>∃b:Int,∃c:Int,∃d:Int,e=.returned (.agg #[b,c,.int .u64 d])/\K b c d w'
def ED(f:Nat)(a:Array Y)(w:I)(K:Int->Int->Int->Int->Int->Int->I->Prop):Prop:=Calls ai f a w λe w'=>∃b:Int,∃c:Int,∃d:Int,∃g:Int,∃h:Int,∃i:Int,e=.returned (.agg #[.int .u64 b,c,d,g,h,i])/\K b c d g h i w'
def EE(f:Nat)(a:Array Y)(w:I)(K:aq av->aj->I->Prop):Prop:=Calls ai f a w λe w'=>∃b:aq av,∃c:aj,e=.returned (.tuple #[b,c])/\K b c w'
def r1(w:I)(A:av)(K:Int->Prop):Prop:=∃x:Int,w.cell? A=some (.int .i64 x)/\K x
def aR(w:I)(A:av)(K:ae->Prop):Prop:=∃x:ae,w.cell? A=some (.slice x.a x.len x.cap)/\K x
def aS(w:I)(A:av)(K:aj->Prop):Prop:=∃x:aj,w.cell? A=some (.bool x)/\K x
def fD(w:I)(A:av)(K:Int->Prop):Prop:=∃x:Int,w.cell? A=some (.int .u16 x)/\K x
def cG(w:I)(A:av)(K:Int->Prop):Prop:=∃x:Int,w.cell? A=some (.int .u8 x)/\K x
def dC(w:I)(A:av)(K:Int->Prop):Prop:=∃x:Int,w.cell? A=some (.int .u64 x)/\K x
def aZ(n:Int):Y:=.int .u64 n
def bw(a:av)(n:Int)(k:Nat):av:=a.add (n.toNat*k)
def bH(w:I)(A:av)(l:O Y)(k:Nat)(K:I->Prop):Prop:=b_ w A l/\k=k/\an (setCells w A 0 l) λw1=>K w1
def xs(w:I)(K:av->Prop):Prop:=∃a:av,(some (ad w):aq av)=some a/\K a
def bl(s:ae)(n:Int)(K:av->Prop):Prop:=∃a:av,s.a=some a/\bq n s.len/\K a
def ay(p:aq av)(K:av->Prop):Prop:=∃a:av,p=some a/\K a
def bC(w:I)(K:I->(Nat->Prop)->Prop):Prop:=an w.drew λw1=>∃W:Nat->Prop,K w1 W
def ap(T:TypeId)(x:Y)(y:Y)(w:I)(K:ae->I->Prop):Prop:=∃s:ae,∃w1:I,Sem.run ai (Builtin.append_ #[T,T] T #[x,y]) w=.ok s w1/\K s w1
def dj(c:Int)(w:I)(K:(Int->I->Prop)->(Int->I->Nat)->Int->I->Prop):Prop:=∃ (a:Int->I->Prop) (d:Int->I->Nat),a c w/\∀ (b:Int) (w1:I),a b w1->K a d b w1
def fO(d:Int)(e:Int)(w:I)(K:(Int->Int->I->Prop)->(Int->Int->I->Nat)->Int->Int->I->Prop):Prop:=∃ (a:Int->Int->I->Prop) (f:Int->Int->I->Nat),a d e w/\∀ (b:Int) (c:Int) (w1:I),a b c w1->K a f b c w1
def mu(d:ae)(e:Int)(w:I)(K:(ae->Int->I->Prop)->(ae->Int->I->Nat)->ae->Int->I->Prop):Prop:=∃ (a:ae->Int->I->Prop) (f:ae->Int->I->Nat),a d e w/\∀ (b:ae) (c:Int) (w1:I),a b c w1->K a f b c w1
def EF(c:ae)(w:I)(K:(ae->I->Prop)->(ae->I->Nat)->ae->I->Prop):Prop:=∃ (a:ae->I->Prop) (d:ae->I->Nat),a c w/\∀ (b:ae) (w1:I),a b w1->K a d b w1
def w6(e:ae)(f:Int)(g:Int)(w:I)(K:(ae->Int->Int->I->Prop)->(ae->Int->Int->I->Nat)->ae->Int->Int->I->Prop):Prop:=∃ (a:ae->Int->Int->I->Prop) (h:ae->Int->Int->I->Nat),a e f g w/\∀ (b:ae) (c:Int) (d:Int) (w1:I),a b c d w1->K a h b c d w1
def EG(e:Int)(f:ae)(g:Int)(w:I)(K:(Int->ae->Int->I->Prop)->(Int->ae->Int->I->Nat)->Int->ae->Int->I->Prop):Prop:=∃ (a:Int->ae->Int->I->Prop) (h:Int->ae->Int->I->Nat),a e f g w/\∀ (b:Int) (c:ae) (d:Int) (w1:I),a b c d w1->K a h b c d w1
def oQ(W:Nat->Prop)(w:I)(A:av)(K:Int->Prop):Prop:=¬W A.block/\fD w A K
def lQ(W:Nat->Prop)(w:I)(A:av)(K:Int->Prop):Prop:=¬W A.block/\cG w A K
def e5(W:Nat->Prop)(w:I)(A:av)(K:Int->Prop):Prop:=¬W A.block/\r1 w A K
def eU(W:Nat->Prop)(w:I)(A:av)(K:ae->Prop):Prop:=¬W A.block/\aR w A K
def nK(W:Nat->Prop)(w:I)(A:av)(K:Int->Prop):Prop:=¬W A.block/\dC w A K
def A5(W:Nat->Prop)(w:I)(A:av)(K:aj->Prop):Prop:=¬W A.block/\aS w A K
def aE(w:I)(r:I)(k:Nat)(K:ae->Prop):Prop:=aR w ((ad r).add k) K
def bh(w:I)(r:I)(k:Nat)(K:Int->Prop):Prop:=r1 w ((ad r).add k) K
def fb(w:I)(r:I)(k:Nat)(K:aj->Prop):Prop:=aS w ((ad r).add k) K
def g8(w:I)(r:I)(k:Nat)(K:Int->Prop):Prop:=fD w ((ad r).add k) K
def fP(w:I)(r:I)(k:Nat)(K:Int->Prop):Prop:=cG w ((ad r).add k) K
def rR(W:Nat->Prop)(w:I)(r:I)(k:Nat)(K:Int->Prop):Prop:=e5 W w ((ad r).add k) K
def dI(W:Nat->Prop)(w:I)(r:I)(k:Nat)(K:ae->Prop):Prop:=eU W w ((ad r).add k) K
def dJ(w:I)(r:I)(k:Nat)(K:Int->Prop):Prop:=dC w ((ad r).add k) K
def EH(W:Nat->Prop)(w:I)(r:I)(k:Nat)(K:aj->Prop):Prop:=A5 W w ((ad r).add k) K
def w7(W:Nat->Prop)(w:I)(r:I)(k:Nat)(K:Int->Prop):Prop:=oQ W w ((ad r).add k) K
def EI(W:Nat->Prop)(w:I)(r:I)(k:Nat)(K:Int->Prop):Prop:=lQ W w ((ad r).add k) K
def fQ:Obj:=.cells #[(0:Int),(),(0:Int),(0:Int),false,(0:Int)] 44
def hO:Obj:=.cells #[.bool false,.int .u8 0,.int .i64 0,.bool false,.int .u8 0,.int .u8 0,.int .u8 0,.int .u8 0,.int .u8 0,.int .u8 0,.int .u8 0,.int .u8 0,.int .u8 0,.int .u8 0,.int .u8 0,.int .u8 0,.int .u8 0,.int .u8 0,.int .u8 0,.int .u8 0,.bool false,.int .u8 0,.int .u8 0,.int .u8 0,.int .u8 0,.int .u8 0,.int .u8 0,.int .u8 0,.int .u8 0,.int .u8 0,.int .u8 0,.int .u8 0,.int .u8 0,.int .u8 0,.int .u8 0,.int .u8 0,.int .u8 0,.bool false,.int .u8 0,.int .u16 0,.int .u16 0,.int .u8 0,.int .i64 0,.bool false,.int .i64 0,.bool false,.int .u8 0,.int .u8 0,.int .u8 0,.int .u8 0,.int .u8 0,.int .u8 0,.int .u8 0,.int .u8 0,.int .u8 0,.int .u8 0,.int .u8 0,.int .u8 0,.int .u8 0,.int .u8 0,.int .u8 0,.int .u8 0,.bool false,.int .u8 0,.int .u8 0,.int .u8 0,.int .u8 0,.int .u8 0,.int .u8 0,.int .u8 0,.int .u8 0,.int .u8 0,.int .u8 0,.int .u8 0,.int .u8 0,.int .u8 0,.int .u8 0,.int .u8 0,.int .u8 0,.int .u16 0,.int .u16 0,.int .u8 0] 77
def z3:Obj:=.cells #[.bool false,.int .u8 0,.int .i64 0,.bool false,.int .u8 0,.int .u8 0,.int .u8 0,.int .u8 0,.int .u8 0,.int .u8 0,.int .u8 0,.int .u8 0,.int .u8 0,.int .u8 0,.int .u8 0,.int .u8 0,.int .u8 0,.int .u8 0,.int .u8 0,.int .u8 0,.bool false,.int .u8 0,.int .u8 0,.int .u8 0,.int .u8 0,.int .u8 0,.int .u8 0,.int .u8 0,.int .u8 0,.int .u8 0,.int .u8 0,.int .u8 0,.int .u8 0,.int .u8 0,.int .u8 0,.int .u8 0,.int .u8 0,.bool false,.int .u8 0] 73
def z4:Obj:=.cells #[.int .u16 0,.int .u16 0,.int .u8 0,(0:Int),false,(0:Int)] 75
def z5:Obj:=.cells #[(0:Int),false,.int .u8 0,.int .u8 0,.int .u8 0,.int .u8 0,.int .u8 0,.int .u8 0,.int .u8 0,.int .u8 0,.int .u8 0,.int .u8 0,.int .u8 0,.int .u8 0,.int .u8 0,.int .u8 0,.int .u8 0,.int .u8 0,.int .u16 0,.int .u8 0,(0:Int),.int .u64 0,()] 34
def c0:Obj:=.cells #[false,(),(),()] 397
def m4:Obj:=.cells #[(0:Int),false,.int .u8 0,.int .u8 0,.int .u8 0,.int .u8 0,.int .u8 0,.int .u8 0,.int .u8 0,.int .u8 0,.int .u8 0,.int .u8 0,.int .u8 0,.int .u8 0,.int .u8 0,.int .u8 0,.int .u8 0,.int .u8 0,.int .u16 0,(0:Int),false] 36
def nL:Obj:=.cells #[false,.int .u8 0,.int .u8 0,.int .u8 0,.int .u8 0,.int .u8 0,.int .u8 0,.int .u8 0,.int .u8 0,.int .u8 0,.int .u8 0,.int .u8 0,.int .u8 0,.int .u8 0,.int .u8 0,.int .u8 0,.int .u8 0,(0:Int)] 52
def z9:Obj:=.cells #[(0:Int),(0:Int),false,.int .u8 0,.int .u8 0,.int .u8 0,.int .u8 0,.int .u8 0,.int .u8 0,.int .u8 0,.int .u8 0,.int .u8 0,.int .u8 0,.int .u8 0,.int .u8 0,.int .u8 0,.int .u8 0,.int .u8 0,.int .u8 0,.int .u16 0,(0:Int),.int .u64 0] 93
def ux:Obj:=.cells #[(0:Int),(0:Int),(0:Int),.int .u64 0,.int .u64 0,(0:Int)] 169
def ld:Obj:=.cells #[(0:Int),false,.int .u8 0,.int .u8 0,.int .u8 0,.int .u8 0,.int .u8 0,.int .u8 0,.int .u8 0,.int .u8 0,.int .u8 0,.int .u8 0,.int .u8 0,.int .u8 0,.int .u8 0,.int .u8 0,.int .u8 0,.int .u8 0,(0:Int),(0:Int),.int .u64 0] 212
def A6:Obj:=.cells #[(0:Int),(0:Int)] 197
def A7:Obj:=.cells #[false,(0:Int)] 199
def rS:Obj:=.cells #[(0:Int),(0:Int)] 269
def lf:Obj:=.cells #[false,.int .u8 0,.int .u8 0,.int .u8 0,.int .u8 0,.int .u8 0,.int .u8 0,.int .u8 0,.int .u8 0,.int .u8 0,.int .u8 0,.int .u8 0,.int .u8 0,.int .u8 0,.int .u8 0,.int .u8 0,.int .u8 0] 27
def rT:Obj:=.cells #[.bool false,.int .u8 0,.int .u8 0,.int .u8 0,.int .u8 0,.int .u8 0,.int .u8 0,.int .u8 0,.int .u8 0,.int .u8 0,.int .u8 0,.int .u8 0,.int .u8 0,.int .u8 0,.int .u8 0,.int .u8 0,.int .u8 0,.bool false,.int .u8 0,.int .u8 0,.int .u8 0,.int .u8 0,.int .u8 0,.int .u8 0,.int .u8 0,.int .u8 0,.int .u8 0,.int .u8 0,.int .u8 0,.int .u8 0,.int .u8 0,.int .u8 0,.int .u8 0,.int .u8 0,.int .u16 0,.int .u16 0,.int .u8 0] 30
def uy:Obj:=.cells #[.int .u8 0,.int .u8 0,.int .u8 0,.int .u8 0,.int .u8 0,.int .u8 0,.int .u8 0,.int .u8 0,.int .u8 0,.int .u8 0,.int .u8 0,.int .u8 0,.int .u8 0,.int .u8 0,.int .u8 0,.int .u8 0,.int .u8 0,.int .u8 0,.int .u8 0,.int .u8 0,.int .u8 0,.int .u8 0,.int .u8 0,.int .u8 0,.int .u8 0,.int .u8 0,.int .u8 0,.int .u8 0,.int .u8 0,.int .u8 0,.int .u8 0,.int .u8 0,.int .u8 0,.int .u8 0,.int .u8 0,.int .u8 0,.int .u8 0,.int .u8 0,.int .u8 0,.int .u8 0,.int .u8 0,.int .u8 0,.int .u8 0,.int .u8 0,.int .u8 0,.int .u8 0,.int .u8 0,.int .u8 0,.int .u8 0,.int .u8 0,.int .u8 0,.int .u8 0,.int .u8 0,.int .u8 0,.int .u8 0,.int .u8 0,.int .u8 0,.int .u8 0,.int .u8 0,.int .u8 0,.int .u8 0,.int .u8 0,.int .u8 0,.int .u8 0,.int .u8 0,.int .u8 0,.int .u8 0,.int .u8 0,.int .u8 0,.int .u8 0,.int .u8 0,.int .u8 0,.int .u8 0,.int .u8 0,.int .u8 0,.int .u8 0,.int .u8 0,.int .u8 0,.int .u8 0,.int .u8 0,.int .u8 0,.int .u8 0,.int .u8 0,.int .u8 0,.int .u8 0,.int .u8 0,.int .u8 0,.int .u8 0,.int .u8 0,.int .u8 0,.int .u8 0,.int .u8 0,.int .u8 0,.int .u8 0,.int .u8 0,.int .u8 0,.int .u8 0,.int .u8 0,.int .u8 0,.int .u8 0,.int .u8 0,.int .u8 0,.int .u8 0,.int .u8 0,.int .u8 0,.int .u8 0,.int .u8 0,.int .u8 0,.int .u8 0,.int .u8 0,.int .u8 0,.int .u8 0,.int .u8 0,.int .u8 0,.int .u8 0,.int .u8 0,.int .u8 0,.int .u8 0,.int .u8 0,.int .u8 0,.int .u8 0,.int .u8 0,.int .u8 0,.int .u8 0,.int .u8 0,.int .u8 0,.int .u8 0,.int .u8 0,.int .u8 0,.int .u8 0,.int .u8 0,.int .u8 0,.int .u8 0,.int .u8 0,.int .u8 0,.int .u8 0,.int .u8 0,.int .u8 0,.int .u8 0,.int .u8 0,.int .u8 0,.int .u8 0,.int .u8 0,.int .u8 0,.int .u8 0,.int .u8 0,.int .u8 0,.int .u8 0,.int .u8 0,.int .u8 0,.int .u8 0,.int .u8 0,.int .u8 0,.int .u8 0,.int .u8 0,.int .u8 0,.int .u8 0,.int .u8 0,.int .u8 0,.int .u8 0,.int .u8 0,.int .u8 0,.int .u8 0,.int .u8 0,.int .u8 0,.int .u8 0,.int .u8 0,.int .u8 0,.int .u8 0,.int .u8 0,.int .u8 0,.int .u8 0,.int .u8 0,.int .u8 0,.int .u8 0,.int .u8 0,.int .u8 0,.int .u8 0,.int .u8 0,.int .u8 0,.int .u8 0,.int .u8 0,.int .u8 0,.int .u8 0,.int .u8 0,.int .u8 0,.int .u8 0,.int .u8 0,.int .u8 0,.int .u8 0,.int .u8 0,.int .u8 0,.int .u8 0,.int .u8 0,.int .u8 0,.int .u8 0,.int .u8 0,.int .u8 0,.int .u8 0,.int .u8 0,.int .u8 0,.int .u8 0,.int .u8 0,.int .u8 0,.int .u8 0,.int .u8 0,.int .u8 0,.int .u8 0,.int .u8 0,.int .u8 0,.int .u8 0,.int .u8 0,.int .u8 0,.int .u8 0,.int .u8 0,.int .u8 0,.int .u8 0,.int .u8 0,.int .u8 0,.int .u8 0,.int .u8 0,.int .u8 0,.int .u8 0,.int .u8 0,.int .u8 0,.int .u8 0,.int .u8 0,.int .u8 0,.int .u8 0,.int .u8 0,.int .u8 0,.int .u8 0,.int .u8 0,.int .u8 0,.int .u8 0,.int .u8 0,.int .u8 0,.int .u8 0,.int .u8 0,.int .u8 0,.int .u8 0,.int .u8 0,.int .u8 0,.int .u8 0,.int .u8 0,.int .u8 0,.int .u8 0,.int .u8 0,.int .u8 0,.int .u8 0,.int .u8 0,.int .u8 0,.int .u8 0,.int .u8 0,.int .u8 0,.int .u8 0] 300
def w8:Obj:=.cells #[(0:Int),.int .u64 0,()] 227
def A8:Obj:=.cells #[(),(0:Int)] 467
def a1:aD:=(.q (.c (.q .l) .l))
def a23:aD:=(.q (.s (.c .l .l) (.s (.bj (.q a1)) .r)))
def eK:aD:=(.q (.s a1 (.q .l)))
def fR:aD:=(.q (.q (.q .l)))
def lR:aD:=(.q (.s (.q (.bj (.loop [(8,(.int .i64))] [0,1,7] a23))) (.q .l)))
def gl:aD:=(.q (.c (.q .l) a1))
def e6:aD:=(.s a1 (.q (.q .l)))
def a22:aD:=(.q (.s (.c .l .l) (.s (.bj (.q (.q a1))) .r)))
def a2:aD:=(.s (.q (.c (.q (.q (.s (.e 8 false [0,0,0,1002001,1003000,0,0,1006005,1007004] [9046] [10,2,8,1048047,1049046,1,2,1052051,1053050] (.z 8 0 .e)) (.q .l)))) .l)) (.q (.s (.q (.c (.s (.e 8 false [0,0,0,1002001,1003000,0,0,1006005,1007004] [9069] [1,2,8,1071070,1072069,1,2,1075074,1076073] (.z 8 0 .e)) (.q (.q .l))) .l)) fR)))
def a3:aD:=(.q (.s (.z [9,8]) .l))
def a4:aD:=(.q (.s (.c .l .l) (.s (.bj (.q .r)) .r)))
def a5:aD:=(.q (.s (.s (.z [9,8,9,8]) (.c (.q .l) .l)) (.q .l)))
def dF:aD:=(.q (.q (.q (.s (.bj (.loop [(9,(.int .i64)),(10,(.int .i64))] [0,1,2,8] (.s (.q (.c .l .l)) (.bj (.q (.q (.c .r .r))))))) (.s (.z [15,25]) .l)))))
def eV:aD:=(.s (.z [9,8]) (.c (.q .l) .l))
def fj:aD:=(.s (.q (.c .l .l)) (.q .l))
def a9:aD:=(.c (.q (.q .l)) .l)
def fc:aD:=(.s (.z [9,10]) (.c (.q .l) .l))
def fv:aD:=(.q (.s (.z [12,11]) .l))
def gG:aD:=(.s (.s (.z [9,13]) (.c (.q .l) .l)) (.q .l))
def gx:aD:=(.q (.q (.q (.q (.q fR)))))
def fS:aD:=(.q (.s (.z [9,8,9,22]) .l))
def jJ:aD:=(.s (.z [12,16]) (.c (.q .l) .l))
def g9:aD:=(.s (.z [12,10]) (.c (.q .l) .l))
theorem okF{f:Nat}{fn:Func}(p:I->(Y->I->Prop)->Prop)(A:aD){args:O Y}{w:I}{Q:Y->I->Prop}(hf:Tryz.prog.funcs[f]? =some fn)(h:p w Q)(h1:pS fn args.length=true:=by kernel_rfl)(a:p w Q=rI ai tk A fn args w Q:=by kernel_rfl):aC ai f args.toArray w Q:=IC A3 hf h1 (Eq.mp a h)
def uz(a:I)(ag:I)(Q:Y->I->Prop)(b:aj):Prop:=aE a ag 1 λc=>aE a ag 2 λd=>aE a ag 3 λe=>Q (.tuple #[.agg #[b,c,d,e],false]) a
def w9(b:I)(h:I)(e:I)(key:ae)(f:I->Prop):Prop:=aS b (ad h) λi=>ah (!i) (bC b λc d=>dI d c e 1 λj=>bn 161 #[key] c λk a=>af d c a/\an (a.alloc (.cells #[k] 31)) λg=>af d a g/\ap 358 j (.slice (some (ad a)) 1 1) g λl m=>
 st m ((ad e).add 1) l λn=>f n) (f b)
def uA(b:I)(c:I)(ag:I)(d:aj)(Q:Y->I->Prop):Prop:=aE b c 1 λe=>aE b c 2 λf=>aE b c 3 λg=>bH b (ad ag) [d,e,f,g] 4 λa=>aS a (ad ag) λh=>aE a ag 1 λi=>aE a ag 2 λj=>aE a ag 3 λk=>Q (.tuple #[.agg #[h,i,
 j,k],true]) a
def cq(i:I)(a:I)(j:aj)(k:ae)(l:ae)(m:ae)(c:I)(n:aj)(o:ae)(p:ae)(q:ae)(w:I)(key:ae)(ag:I)(Q:Y->I->Prop):Prop:=bH i (ad a) [j,k,l,m] 4 λr=>bH r (ad c) [n,o,p,q] 4 λs=>
 a_ (λt:I->Prop=>w9 s w a key t) (λd=>aE d a 1 λu=>aE d c 1 λv=>ap 358 u v d λx y=>st y ((ad a).add
 1) x λe=>aE e a 2 λz=>aE e c 2 λA=>ap 358 z A e λB C=>st C ((ad a).add 2) B λf=>aE f a 3 λD=>aE f c 3 λE=>ap 181 D E f λF G=>st G ((ad a).add 3) F λb
 =>aS b (ad a) λH=>aE b a 1 λJ=>aE b a 2 λK=>aE b a 3 λL=>bF 305 #[.agg #[H,J,K,L]] b λ
 M g=>ah (!M) (bH g (ad ag) [false,(),(),()] 4 λh=>aS h (ad ag) λN=>uz h ag Q N) (aS g (ad a) λO=>uA g a ag O Q))
def rU(d:I)(b:I)(e:aj)(f:ae)(g:ae)(h:ae)(i:aj)(Q:Y->I->Prop)(c:aq av)(n31:Int):Prop:=bH d (ad b) [e,f,g,h] 4 λa=>ah (!i) (Q (.tuple #[(),(0:Int),(0:Int),(4:Int)]) a) (aS a (ad b) λj=>aE a b 1 λk=>aE a b 2 λ
 l=>aE a b 3 λm=>eG 342 #[c,.agg #[j,k,l,m]] a λn o p=>Q (.tuple #[n,n31,.int .i64 (al (n31+2)),o]) p)
def cD(up:aq av)(dt:I)(n36:Int)(w:I)(g:I)(e:I)(f:I)(n31:Int)(Q:Y->I->Prop)(c:aq av):Prop:=a_ (λk:I->Prop=>ay up λy=>r1 dt (y.add 5)
 λz=>ah (decide (n36>z)) (bC dt λb i=>¬i ((ad w):av).block/\aS b (ad w) λA=>aE b w 1 λB=>aE b w 2 λC=>aE b w 3 λD=>¬i ((ad g):av).block/\aS b (ad g) λE=>
 aE b g 1 λF=>aE b g 2 λG=>aE b g 3 λH=>bH b (ad e) [A,B,C,D] 4 λl=>af i b l/\bH l (ad f)
 [E,F,G,H] 4 λJ=>k J) (k dt)) (λK=>bC K λa d=>¬d ((ad e):av).block/\aS a (ad e) λm=>aE a e
 1 λn=>aE a e 2 λo=>aE a e 3 λp=>ay up λL=>eU d a ((L.add 1).add 1) λM=>bl M n31 λN=>eU d a (bw N n31 1) λq=>¬d ((ad f):av).block/\aS a (ad f) λ
 r=>aE a f 1 λs=>aE a f 2 λt=>aE a f 3 λu=>(oO 343 #[.agg #[m,n,o,p],q,.agg #[r,s,t,u]] a λO P R S T h=>af d a h/\an (h.alloc c0) λv=>af d h v/\
 rU v h O P R S T Q c n31)/\(an (a.alloc c0) λj=>af d a j/\oO 343 #[.agg #[m,n,o,p],q,.agg #[r,s,t,u]] j λU V W X Z x=>af d j x/\rU x a U V W X
 Z Q c n31))
def uB(b:I)(c:I)(w1:I)(d:aj)(Q:Y->I->Prop):Prop:=aE b c 1 λe=>aE b c 2 λf=>aE b c 3 λg=>bH b (ad w1) [d,e,f,g] 4 λa=>aS a (ad w1) λh=>aE a w1 1 λi=>aE a w1 2 λj=>aE a w1 3 λk=>Q (.agg #[h,i,j,k]) a
def dK(o:I)(l:ae)(b:I)(w:I)(to:Int)(w1:I)(Q:Y->I->Prop):Prop:=dj 0 o λp j n19 c=>ah (decide (n19<(l.len:Int))) (bl l n19 λe6=>aR c (bw e6 n19 2) λq=>r1
 c ((bw e6 n19 2).add 1) λn23=>an (c.alloc A8) λr=>bH r (ad c) [q,n23] 2 λd=>a_ (λk:I->Prop=>aR d (ad c) λs=>ah (!(Option.isNone s.a)) (aE d b
 1 λt=>aR d (ad c) λu=>an (d.alloc (.cells #[u] 31)) λv=>ap 358 t (.slice (some (ad d)) 1 1) v λx y=>st y ((ad
 b).add 1) x λbO=>k bO) (k d)) (λg=>aE g b 3 λz=>bh g c 1 λn36=>an (g.alloc (.cells #[n36] 3)) λA=>ap 181 z
 (.slice (some (ad g)) 1 1) A λB C=>st C ((ad b).add 3) B λm=>p (al (n19+1)) m/\j (al (n19+1)) m<j n19 c)) (an (c.drew) λh=>¬False/\aE h b 1 λD
 =>¬False/\aE h w 1 λe=>((0:Int)<=(al (to-1))/\(al (to-1))<=(e.len:Int))/\ap 358 D (.slice (aW e.a 1 ((al (to-1)).toNat) e.cap) (e.len-((al (to-
 1)).toNat)) (e.cap-((al (to-1)).toNat))) h λE F=>st F ((ad b).add 1) E λG=>an (G.drew) λi=>¬False/\aE i b 3 λH=>¬False/\aE i w 3 λf=>((0:Int)<=
 to/\to<=(f.len:Int))/\ap 181 H (.slice (aW f.a 1 (to.toNat) f.cap) (f.len-(to.toNat)) (f.cap-(to.toNat))) i λJ K=>st K ((ad b).add 3) J λn=>aS n (ad b) λL=>uB n b w1 L Q)
def nM(a:I)(b:I)(w1:I)(Q:Y->I->Prop):Prop:=aS a (ad b) λc=>uA a b w1 c Q
def oR(f:Array Y)(e:I)(b:Nat->Prop)(g:Array Y)(w1:I)(ag:I)(Q:Y->I->Prop)(h:ae):Prop:=hN 306 #[.agg f] e λi j k l c=>af b e c/\hN
 306 #[.agg g] c λm n o p d=>af b c d/\bH d (ad w1) [i,j,k,l] 4 λdt=>af b d dt/\bH dt (ad ag)
 [m,n,o,p] 4 λa=>aS a (ad w1) λq=>aE a w1 1 λr=>aE a w1 2 λs=>aE a w1 3 λt=>aS a (ad ag) λu=>
 aE a ag 1 λv=>aE a ag 2 λw=>aE a ag 3 λx=>Q (.tuple #[.agg #[q,r,s,t],h,.agg #[u,
 v,w,x],true]) a
def rV(a:I)(w1:I)(Q:Y->I->Prop):Prop:=aS a (ad w1) λb=>uz a w1 Q b
def EJ(a:I)(b:I)(w1:I)(Q:Y->I->Prop):Prop:=aS a (ad b) λc=>uB a b w1 c Q
def mv(ag:I)(w:I)(Q:Y->I->Prop):Prop:=r1 ag (ad w) λa=>aE ag w 1 λb=>bh ag w 2 λn5=>bh ag w 3 λn6=>fb ag w 4 λc=>bh ag w 5 λn8=>Q (.agg #[a,b,n5,n6,c,n8]) ag
def gN(n21:Int)(bZ:I)(ag:I)(a:I)(w:I)(Q:Y->I->Prop):Prop:=ah (n21 !=0) (False) (∃c:O Y,aV bZ (ad ag) 0 39=some c/\fD bZ (ad a) λn25=>g8 bZ a 1 λn26
 =>fP bZ a 2 λn27=>bh bZ a 3 λn28=>fb bZ a 4 λi=>bh bZ a 5 λn30=>∃d:O Y,aV bZ ((ad ag).add 3) 0 17=some d/\∃e:O Y,aV bZ ((ad ag).add 20) 0 17=some
 e/\fD bZ (ad a) λn33=>g8 bZ a 1 λn34=>fP bZ ag 1 λn35=>∃f:Array Y,Sem.run ai (Instr.build 30 #[(0,.agg d.toArray),(1,.agg e.toArray),(2,.int .u16 n33),(3,.int .u16 n34),(4,
 .int .u8 n35)]) bZ=.ok (.agg f) bZ/\∃b:Array Y,Sem.run ai (Instr.build 77 #[(0,.agg c.toArray),(1,.agg #[.int .u16 n25,.int .u16 n26,.int .u8 n27,n28,i,n30]),(2,.agg
 f)]) bZ=.ok (.agg b) bZ/\b_ bZ (ad w) (Array.toList b)/\Array.size b=82/\an (setCells bZ (ad w) 0 (Array.toList b)) λg=>∃h:O Y,aV g (ad w) 0 82=some h/\Q (.tuple #[.agg h.toArray,
 .int .i64 0]) g)
def uC(a:I)(w:I)(Q:Y->I->Prop)(n7:Int):Prop:=aS a (ad w) λb=>aE a w 1 λc=>aE a w 2 λd=>aE a w 3 λe=>Q (.tuple #[.agg #[b,c,d,e],n7]) a
def EK(h:ae)(n17:Int)(bJ:I)(d:I)(i:Int->I->Prop)(e:Int->I->Nat):Prop:=bl h n17 λlR=>aR bJ (bw lR n17 1) λj=>bC bJ λb c=>dI c b d 1 λk=>bn
 161 #[j] b λl a=>af c b a/\an (a.alloc (.cells #[l] 31)) λf=>af c a f/\ap 358 k (.slice (some (ad a)) 1 1) f λm n=>st n ((ad d).add 1) m λg=>i (al (n17+1)) g/\e (al (n17+1)) g<e n17 bJ
def EL(i:ae)(n34:Int)(b:I)(e:I)(j:Int->I->Prop)(f:Int->I->Nat):Prop:=bl i n34 λk=>aR b (bw k n34 1) λl=>bC b λc d=>dI d c e 2 λm=>bn
 161 #[l] c λn a=>af d c a/\an (a.alloc (.cells #[n] 31)) λg=>af d a g/\ap 358 m (.slice (some (ad a)) 1 1) g λo p=>st p ((ad e).add 2) o λh=>j (al (n34+1)) h/\f (al (n34+1)) h<f n34 b
def w_(a:I)(b:ae)(c:I)(d:ae)(Q:Y->I->Prop):Prop:=an (a.alloc (.cells #[b,.slice (some (ad c)) 2 2,d] 31)) λe=>bn
 136 #[.slice (some (ad a)) 3 3] e λf g=>Q (.tuple #[f,true]) g
def uD(a:I)(w:I)(Q:Y->I->Prop):Prop:=aS a (ad w) λb=>aE a w 1 λc=>aE a w 2 λd=>aE a w 3 λe=>Q (.tuple #[.agg #[b,c,d,e],(4:Int)]) a
def A9(h:Y)(i:I)(d:aq av)(j:I->Prop)(b:I->Nat)(k:I):Prop:=∃n15:Int,∃l:Y,∃c:I,Sem.run ai (Instr.entry (h)) i=.ok (.tuple #[n15,l])
 c/\bC c λbJ e=>ay d λgl=>eU e bJ (gl.add 4) λm=>mq 164 #[d,n15] bJ λa bm=>af e bJ bm/\bl m n15 λf=>b_ bm (bw f n15 256) (Array.toList a)/\
 Array.size a=256/\an (setCells bm (bw f n15 256) 0 (Array.toList a)) λg=>j g/\b g<b k
def A_(aF:I)(ag:I)(w1:I)(e:I->Prop):Prop:=bC aF λb c=>dI c b ag 3 λf=>b4 336 #[.pointer (some (ad w1)),(2:Int)] b λn14 a=>af c b a/\an (a.alloc
 (.cells #[n14] 3)) λd=>af c a d/\ap 181 f (.slice (some (ad a)) 1 1) d λg h=>st h ((ad ag).add 3) g λbJ=>e bJ
def Ba(g:I)(c:aq av)(w:I)(Q:Y->I->Prop):Prop:=bC g λa b=>ay c λd=>¬b d.block/\∃e:aq av,a.cell? d=some (e)/\ay c λh=>e5 b a
 (h.add 84) λi=>¬b ((ad w):av).block/\∃f:O Y,aV a (ad w) 0 18=some f/\gF 31 #[e,i,.agg f.toArray] a λj k l=>Q (.tuple #[j,k])
 l
def Bb(c:ae)(b:Int)(d:ae)(f:Array Y):Prop:=∀e:I,Sem.run ai (Instr.build 397 #[(1,.slice (aW c.a 1 ((al (b+1)).toNat) c.cap) (c.len-((al (b+1)).toNat)) (c.cap
 -((al (b+1)).toNat))),(3,.slice (aW d.a 1 ((al (b+1)).toNat) d.cap) (d.len-((al (b+1)).toNat)) (d.cap-((al (b+1)).toNat)))]) e=.ok (.agg f) e
def xa(n10:Int)(d:Int->Int->I->Prop)(a:Int)(bk:Int)(b:I)(c:Int->Int->I->Nat)(aF:I):Prop:=ah (decide (n10<0)) (d (al ((al (Int.fdiv (IntKind.wrap .u64 (al (a+bk))) (2^(min
 (Int.toNat 1) 64))))+1)) bk b/\c (al ((al (Int.fdiv (IntKind.wrap .u64 (al (a+bk))) (2^(min (Int.toNat 1) 64))))+1)) bk b<c a bk aF) (d a (al (Int.fdiv (IntKind.wrap .u64 (al (a+bk))) (2^(min (Int.toNat 1) 64)))) b
 /\c a (al (Int.fdiv (IntKind.wrap .u64 (al (a+bk))) (2^(min (Int.toNat 1) 64)))) b<c a bk aF)
def Bc(w1:I)(w:I)(Q:Y->I->Prop):Prop:=∃bo:Array Y,Sem.run ai (Instr.build 34 #[]) w1=.ok (.agg bo) w1/\b_ w1 (ad w) (Array.toList bo)/\Array.size bo=23/\an (setCells w1
 (ad w) 0 (Array.toList bo)) λa=>∃b:O Y,aV a (ad w) 0 23=some b/\Q (.tuple #[.agg b.toArray,false]) a
def Bd(c:ae)(b:Int)(d:ae)(f:Array Y):Prop:=∀e:I,Sem.run ai (Instr.build 397 #[(0,true),(1,.slice (aW c.a 1 (b.toNat) c.cap) (c.len-(b.toNat)) (c.cap-
 (b.toNat))),(2,.slice (aW d.a 1 (b.toNat) d.cap) (d.len-(b.toNat)) (d.cap-(b.toNat)))]) e=.ok (.agg f) e
def Be(c:ae)(e:ae)(a:I)(f:Nat->Prop)(g:aq Nat)(i:Int)(d:aq av)(Q:Y->I->Prop):Prop:=ap 214 c e a λh
 b=>af f a b/\∃bm:I,Sem.run ai (Instr.mapUpdate 215 (.map g) i h) b=.ok () bm/\ay d λa23=>r1 bm (a23.add 6) λn24=>ay d λj=>st
 bm (j.add 6) (.int .i64 (al (n24+1))) λk=>Q (0:Int) k
def xb(a:I)(w1:I)(Q:Y->I->Prop):Prop:=fD a (ad w1) λn38=>g8 a w1 1 λn39=>fP a w1 2 λn40=>bh a w1 3 λn41=>fb a w1 4 λb=>bh a w1 5 λc=>Q (.tuple #[.agg
 #[.int .u16 n38,.int .u16 n39,.int .u8 n40,n41,b,c],(0:Int)]) a
def Bf(a:ae):Prop:=(0:Int)<=(al (232-(a.len:Int)))/\((al (232-(a.len:Int))):Int)<=(al (232-(a.len:Int)))/\((al (232-(a.len:Int))):Int)<=j7/\((1:Nat):Int)*(al (232-(a.len:Int)))<=
 140737488355328
def Bg(a:I)(c:ae)(d:I)(e:ae)(f:I)(b:ae)(g:ae->I->Prop):Prop:=an (a.alloc (.cells #[c,.slice (some (ad d)) (Int.toNat 4) (Int.toNat 4),e,.slice (some (ad f)) ((al (232-(b.len:Int))).toNat) ((al (232-(b.len:Int))).toNat)] 31)) λh=>bn 136 #[.slice (some (ad a)) 4 4] h λi j=>g i j
def xc(ag:I)(w:I)(a:aj->I->Prop):Prop:=aS ag (ad w) λb=>aE ag w 1 λc=>aE ag w 2 λd=>aE ag w 3 λe=>bF 305 #[.agg #[b,c,d,e]] ag λf g=>a (!f) g
def Bh(d:aq av)(a:I)(Q:Y->I->Prop):Prop:=ay d λe=>∃b:aq Nat,a.cell? (e.add 5)=some (.map b)/\∃ (f:Y) (c:I),Sem.run ai (Builtin.clear_
 #[215] 0 #[.map b]) a=.ok f c/\Q (0:Int) c
def Bi(b:ae)(d:Int)(c:ae)(f:Array Y):Prop:=∀e:I,Sem.run ai (Instr.build 397 #[(0,true),(1,.slice (aW b.a 1 0 b.cap) ((d.toNat)-0) (b.cap-0)),(2,.slice (aW
 c.a 1 0 c.cap) ((d.toNat)-0) (c.cap-0))]) e=.ok (.agg f) e
def Bj(b:ae)(d:Int)(c:ae)(f:Array Y):Prop:=∀e:I,Sem.run ai (Instr.build 397 #[(1,.slice (aW b.a 1 0 b.cap) ((d.toNat)-0) (b.cap-0)),(3,.slice (aW c.a 1 0
 c.cap) (((al (d+1)).toNat)-0) (c.cap-0))]) e=.ok (.agg f) e
def Bk(aF:I)(w:I)(a:O Y)(Q:Y->I->Prop):Prop:=b_ aF (ad w) (Array.toList a.toArray)/\Array.size a.toArray=256/\an (setCells aF (ad w) 0 (Array.toList a.toArray)) λb=>∃c:O
 Y,aV b (ad w) 0 256=some c/\Q (.agg c.toArray) b
def xd(ag:I)(w:I)(a:Array Y)(Q:Y->I->Prop):Prop:=b_ ag (ad w) (Array.toList a)/\Array.size a=21/\an (setCells ag (ad w) 0 (Array.toList a)) λb=>∃c:O Y,aV b (ad w) 0
 21=some c/\Q (.tuple #[.agg c.toArray,false]) b
def Bl(ag:I)(w:I)(fk:Array Y)(Q:Y->I->Prop):Prop:=b_ ag (ad w) (Array.toList fk)/\Array.size fk=17/\an (setCells ag (ad w) 0 (Array.toList fk)) λaF=>∃a:O Y,aV aF (ad w) 0
 17=some a/\Q (.tuple #[.agg a.toArray,true]) aF
def xe(a:Int)(bk:Int)(x:ae):Prop:=(0:Int)<=(al (Int.fdiv (IntKind.wrap .u64 (al (a+bk))) (2^(min (Int.toNat 1) 64))))/\(al (Int.fdiv (IntKind.wrap .u64 (al (a+bk))) (2^(min (Int.toNat 1) 64))))<(x.len:Int)
def rW(j:Int)(Q:Y->I->Prop)(g:I)(c:aq av)(n41:Int)(d:I)(w:I)(up:aq av)(n36:Int)(n31:Int):Prop:=ah (j !=0) (Q (.tuple #[(),(0:Int),(0:Int),
 j]) g) (ay c λu=>aR g (u.add 2) λv=>an (g.alloc (.cells #[n41] 3)) λx=>ap 181 v (.slice (some (ad g)) 1 1) x λy ib=>ay c λz=>st
 ib (z.add 2) y λA=>bC A λa b=>¬b ((ad d):av).block/\aS a (ad d) λk=>aE a d 1 λl=>aE a d 2 λm=>aE a d 3 λn=>¬b ((ad w):
 av).block/\aS a (ad w) λo=>aE a w 1 λp=>aE a w 2 λq=>aE a w 3 λr=>(an (a.alloc c0) λe=>af b a e/\an (e.alloc c0) λh=>af b e h/\bH h (ad a) [k,l,m,n] 4 λs=>af b h s/\bH s (ad e) [o,p,q,r] 4 λ
 dt=>cD up dt n36 w d a e n31 Q c)/\(an (a.alloc c0) λf=>af b a f/\an (f.alloc c0) λi=>af b f i/\bH i (ad f) [k,l,m,
 n] 4 λt=>af b i t/\bH t (ad a) [o,p,q,r] 4 λB=>cD up B n36 w d f a n31 Q c))
def xf(g:I)(w:I)(a:Int)(b:I)(w1:I)(ag:I)(Q:Y->I->Prop):Prop:=aE g w 1 λv=>bl v a λx=>aR g (bw x a 1) λy=>bn 161
 #[y] g λi h=>aS h (ad w) λz=>ah z (bC h λc d=>dI d c b 1 λj=>((0:Int)<=a/\a<=(j.cap:Int))/\dI d c b 2 λk=>((0:Int)<=a/\a<=
 (k.cap:Int))/\∃l:Array Y,(Bi j a k l)/\dI d c b 1 λm=>((0:Int)<=a/\a<=(m.len:Int))/\dI d c b 2 λn=>((0:Int)<=a/\a<=(n.len:Int))/\∃o:Array Y,(Bd
 m a n o)/\oR l c d o w1 ag Q i) (bC h λe f=>dI f e b 1 λp=>((0:Int)<=a/\a<=(p.cap:Int))/\dI f e b 3 λq=>((0:Int)<=(al (a+1))/\(al (a+1))<=((q.cap
 :Nat):Int))/\∃r:Array Y,(Bj p a q r)/\dI f e b 1 λs=>((0:Int)<=(al (a+1))/\(al (a+1))<=(s.len:Int))/\dI f e b 3 λt=>((0:Int)<=(al (a+1))/\(al (a+1))<=
 (t.len:Int))/\∃u:Array Y,(Bb s a t u)/\oR r e f u w1 ag Q i)
def p0(c:aj)(d:ae)(e:ae)(f:ae)(a:I)(g:Nat->Prop)(h:I)(i:aj)(j:ae)(k:ae)(l:ae)(m:I)(w:I)(key:ae)(ag:I)(Q:Y->I->Prop):Prop:=hN
 306 #[.agg #[c,d,e,f]] a λn o p q b=>af g a b/\cq b h i j k l m n o p q w key ag
 Q
def Bm(c:I)(a:I)(b:Array Y)(w:I)(w1:I)(Q:Y->I->Prop):Prop:=b_ c (ad a) (Array.toList b)/\Array.size b=4/\an (setCells c (ad a) 0 (Array.toList b)) λd=>aE
 d w 1 λe=>dj 0 d λh i n17 bJ=>ah (decide (n17<(e.len:Int))) (EK e n17 bJ a h i) (aE bJ w 2 λf=>dj 0 bJ λj k n34 g=>ah (decide (n34<(f.len:Int))) (EL f n34 g a j k) (EJ
 g a w1 Q))
def xg(a:I)(b:I)(w1:I)(Q:Y->I->Prop):Prop:=r1 a (ad b) λn25=>aE a b 1 λc=>bh a b 2 λn27=>bh a b 3 λn28=>fb a b 4 λd=>bh a b 5 λn30=>bH a
 (ad w1) [n25,c,n27,n28,d,n30] 6 λcx=>mv cx w1 Q
set_option maxRecDepth 100000
def aa.xh(s:ae)(w:I)(Q:Y->I->Prop):Prop:=ah (Option.isNone s.a) (Q () w) (∃s1:ae,∃ag:I,Sem.run ai (Instr.buildSlice 32 0 #[]) w
 =.ok s1 ag/\ap 32 s1 s ag λb c=>Q b c)
def ao.xh:aD:=eK
def aa.xi(s:ae)(i:Int)(v:ae)(w:I)(Q:Y->I->Prop):Prop:=((0:Int)<=i/\i<=(s.len:Int))/\ah ((v.len:Int)==0) (Q s w) (ah (i==(s.len:Int)) (ap
 32 s v w λs1 ag=>Q s1 ag) (ah (decide (((al ((s.len:Int)+(v.len:Int))):Int)>(s.cap:Int))) (((0:Int)<=i/\i<=((s.cap:Nat):
 Int))/\∃b:ae,∃d:I,Sem.run ai (Builtin.append_ #[32,3] 32 #[.slice (aW s.a 21 0 s.cap) ((i.toNat)-0) (s.cap-0),.int .i64 (al ((al ((s.len:Int)+(v.len:Int)))-i))]) w=
 .ok b d/\((0:Int)<=i/\i<=(b.len:Int))/\∃n5:Int,∃e:I,Sem.run ai (Builtin.copy_ #[32,32] 3 #[.slice (aW b.a 21 (i.toNat) b.cap) (b.len-
 (i.toNat)) (b.cap-(i.toNat)),v]) d=.ok n5 e/\an (e.drew) λk=>((0:Int)<=(al (i+(v.len:Int)))/\(al (i+(v.len:Int)))<=(b.len:Int))/\((0:Int)<=i/\i<=(s.len:Int))/\∃n8:
 Int,∃f:I,Sem.run ai (Builtin.copy_ #[32,32] 3 #[.slice (aW b.a 21 ((al (i+(v.len:Int))).toNat) b.cap) (b.len-((al (i+(v.len:Int))).toNat)) (b.cap-((al (i+
 (v.len:Int))).toNat)),.slice (aW s.a 21 (i.toNat) s.cap) (s.len-(i.toNat)) (s.cap-(i.toNat))]) k=.ok n8 f/\Q b f) (((0:Int)<=(al ((s.len:Int)+(v.len:Int)))/\(al ((s.len:Int)+
 (v.len:Int)))<=(s.cap:Int))/\((0:Int)<=(al (i+(v.len:Int)))/\(al (i+(v.len:Int)))<=(((((al ((s.len:Int)+(v.len:Int))).toNat)-0):Nat):Int))/\∃g:aj,∃c:I,Sem.run ai (callFunc
 172 #[v,.slice (aW (aW s.a 21 0 s.cap) 21 ((al (i+(v.len:Int))).toNat) (s.cap-0)) ((((al ((s.len:Int)+(v.len:Int))).toNat)-0)-((al (i+(v.len:Int))).toNat)) ((s.cap
 -0)-((al (i+(v.len:Int))).toNat))]) w=.ok (.value g) c/\ah (!g) (an (c.drew) λl=>((0:Int)<=(al (i+(v.len:Int)))/\(al (i+(v.len:Int)))<=(((((al ((s.len:Int)+(v.len:Int))).toNat)-0):Nat):
 Int))/\((0:Int)<=i/\i<=(((((al ((s.len:Int)+(v.len:Int))).toNat)-0):Nat):Int))/\∃n13:Int,∃h:I,Sem.run ai (Builtin.copy_ #[32,32] 3 #[.slice (aW (aW s.a 21 0
 s.cap) 21 ((al (i+(v.len:Int))).toNat) (s.cap-0)) ((((al ((s.len:Int)+(v.len:Int))).toNat)-0)-((al (i+(v.len:Int))).toNat)) ((s.cap-0)-((al (i+(v.len:Int))).toNat)),.slice (aW (aW s.a 21 0 s.cap) 21
 (i.toNat) (s.cap-0)) ((((al ((s.len:Int)+(v.len:Int))).toNat)-0)-(i.toNat)) ((s.cap-0)-(i.toNat))]) l=.ok n13 h/\((0:Int)<=i/\i<=(((((al ((s.len:Int)+(v.len:Int))).toNat)-0):Nat)
 :Int))/\∃n15:Int,∃j:I,Sem.run ai (Builtin.copy_ #[32,32] 3 #[.slice (aW (aW s.a 21 0 s.cap) 21 (i.toNat) (s.cap-0)) ((((al ((s.len:Int)+(v.len:Int))).toNat)-0)-
 (i.toNat)) ((s.cap-0)-(i.toNat)),v]) h=.ok n15 j/\Q (.slice (aW s.a 21 0 s.cap) (((al ((s.len:Int)+(v.len:Int))).toNat)-0) (s.cap-0)) j) (((0:Int)<=(s.len:Int)/\
 (s.len:Int)<=(((((al ((s.len:Int)+(v.len:Int))).toNat)-0):Nat):Int))/\∃n17:Int,∃bJ:I,Sem.run ai (Builtin.copy_ #[32,32] 3 #[.slice (aW (aW s.a 21 0 s.cap) 21
 (Int.toNat (s.len:Int)) (s.cap-0)) ((((al ((s.len:Int)+(v.len:Int))).toNat)-0)-(Int.toNat (s.len:Int))) ((s.cap-0)-(Int.toNat (s.len:Int))),v]) c=.ok n17 bJ/\((0:Int)<=i/\i<=
 (((((al ((s.len:Int)+(v.len:Int))).toNat)-0):Nat):Int))/\eM 173 #[.slice (aW (aW s.a 21 0 s.cap) 21 (i.toNat) (s.cap-0)) ((((al ((s.len:Int)+(v.len:Int))).toNat)-0)-(Int.toNat
 i)) ((s.cap-0)-(i.toNat)),.int .i64 (v.len:Int)] bJ λm=>Q (.slice (aW s.a 21 0 s.cap) (((al ((s.len:Int)+(v.len:Int))).toNat)-0) (s.cap-0)) m))))
def ao.xi:aD:=(.q (.q (.q (.s a1 (.q (.s a1 a2))))))
def aa.xj(s:ae)(v:Int)(w:I)(Q:Y->I->Prop):Prop:=b4 211 #[s,v] w λa w1=>Q (.bool (decide (a>=0))) w1
def ao.xj:aD:=(.q (.q .l))
def aa.xk(x:ae)(count:Int)(w:I)(Q:Y->I->Prop):Prop:=a_ (λbW:I->Prop=>ah (decide (count<0)) (False) (bW w)) (λag=>w3 214 #[.int .u64 (IntKind.wrap .u64
 (x.len:Int)),aZ (IntKind.wrap .u64 count)] ag λn5 n6 f=>a_ (λg:I->Prop=>ah ((decide (n5>0))||(decide (n6>j7))) (False) (g f)) (λa=>((0:Int)<=(al n6)/\((al n6):Int)<=(al n6)/\((al n6):Int)<=j7/\
 ((8:Nat):Int)*(al n6)<=140737488355328)/\an (a.alloc (.cells (hL ai 3 ((al n6).toNat)) 3)) λh=>∃n10:Int,∃d:I,Sem.run ai (Builtin.copy_ #[181,181] 3 #[.slice (some
 (ad a)) ((al n6).toNat) ((al n6).toNat),x]) h=.ok n10 d/\dj n10 d λi e n14 b=>ah (decide (n14<((((al n6).toNat):Nat):Int))) (bC b λj k=>((0:Int)<=n14/\
 n14<=((((al n6).toNat):Nat):Int))/\((0:Int)<=n14/\n14<=((((al n6).toNat):Nat):Int))/\∃n18:Int,∃c:I,Sem.run ai (Builtin.copy_ #[181,181] 3 #[.slice (aW (some (ad a)) 1
 (n14.toNat) ((al n6).toNat)) (((al n6).toNat)-(n14.toNat)) (((al n6).toNat)-(n14.toNat)),.slice (aW (some (ad a)) 1 0 ((al n6).toNat)) ((n14.toNat)-0) (((al n6).toNat)-0)]) j=.ok n18 c/\i (al (n14+n18)) c/\e (al (n14+n18)) c<e n14 b) (Q (.slice (some (ad a)) ((al n6).toNat) ((al n6).toNat)) b)))
def ao.xk:aD:=(.q (.s (.eC [] [0,1] (.q (.c .r .l))) (.q (.s (.eC [] [0,6] (.s (.z [9,8]) (.c .r .l))) (.q (.q (.s (.bj (.loop [(8,(.int .i64))] [7] (.s (.q (.c .l .l)) (.bj (.d 8 true
 [0,0,0,1002001,0,0,1005004,1006003,1007000,509] [0,0,0,1002001,0,0,1005004,1006003,1007000,1000000000293] [9038,9] [9,2007,1040039,2007,1043042,1044041,1045038,47] (.z 7 0 (.out 7 false (.tail [.r,.r])))))))) (.q .l))))))))
def aa.p1(s:ae)(w:I)(Q:Y->I->Prop):Prop:=ah (Option.isNone s.a) (Q () w) (an (w.alloc (.cells #[] 5)) λw1=>ap 31 (.slice (some (ad w)) 0 0) s w1 λs2 b=>Q s2 b)
def ao.p1:aD:=eK
def aa.xl(x:ae)(target:Int)(cmp:kz)(w:I)(Q:Y->I->Prop):Prop:=fO 0 (x.len:Int) w λe g b bk aF=>ah (decide (b<bk)) ((0:Int)<=1/\∃dF:av,
 x.a=some dF/\(xe b bk x)/\∃c:O Y,aV aF (dF.add (Int.toNat (al (Int.fdiv (IntKind.wrap .u64 (al (b+bk))) (2^(min (Int.toNat 1) 64))))*21)) 0 21=some c/\jB ai cmp.f/\Calls ai cmp.f
 (cmp.pre++ #[.agg c.toArray,.int .i64 target]++cmp.cap) aF λh i=>∃n10:Int,h=.returned (.int .i64 n10)/\xa n10 e b bk i g aF) (a_ (λd:aj->I->Prop=>ah (decide (b<(x.len:Int))) (k9 x b aF 21 λ
 j=>jB ai cmp.f/\Calls ai cmp.f (cmp.pre++ #[.agg j.toArray,.int .i64 target]++cmp.cap) aF λk l=>∃n16:Int,k=.returned (.int .i64 n16)/\d (n16==0) l) (d false aF)) (λ(m:aj) bJ
 =>Q (.tuple #[.int .i64 b,.bool m]) bJ))
def ao.xl:aD:=dF
def aa.rX(x:Int)(y:Int)(w:I)(Q:Y->I->Prop):Prop:=bF 238 #[x] w λc w1=>bF 238 #[y] w1 λb a=>ah c (ah b (Q (0:Int) a) (Q (.int .i64
 (-1)) a)) (ah b (Q (1:Int) a) (ah (decide (x<y)) (Q (.int .i64 (-1)) a) (ah (decide (x>y)) (Q (1:Int) a) (Q (0:Int) a))))
def ao.rX:aD:=(.q (.q (.q (.s (.q (.c (.s a1 (.q .l)) .l)) (.s a1 (.s a1 (.s a1 (.q .l))))))))
def aa.xm(s:ae)(w:I)(Q:Y->I->Prop):Prop:=ah (Option.isNone s.a) (Q () w) (an (w.alloc (.cells #[] 5)) λw1=>ap 291 (.slice (some (ad w)) 0 0) s w1 λs2 b=>Q s2 b)
def ao.xm:aD:=eK
def aa.xn(s:ae)(v:Int)(w:I)(Q:Y->I->Prop):Prop:=dj 0 w λd c a b=>ah (decide (a<(s.len:Int))) (bl s a λa5=>r1 b (bw a5 a 1) λn6=>ah (v==n6) (Q a b)
 (d (al (a+1)) b/\c (al (a+1)) b<c a b)) (Q (.int .i64 (-1)) b)
def ao.xn:aD:=lR
def aa.xo(x:Int)(y:Int)(w:I)(Q:Y->I->Prop):Prop:=ah false (Ey 275 #[.int .u32 (IntKind.wrap .u32 x),.int .u32 (IntKind.wrap .u32 y)] w λa bk w1=>Q (.tuple #[aZ (IntKind.wrap .u64
 a),aZ (IntKind.wrap .u64 bk)]) w1) (w3 276 #[aZ x,aZ y] w λn7 n8 aF=>Q (.tuple #[aZ n7,aZ n8]) aF)
def ao.xo:aD:=(.q (.s a9 (.q (.q .l))))
set_option maxRecDepth 100000
def aa.oS(a:ae)(b:ae)(w:I)(Q:Y->I->Prop):Prop:=∃cw:Int,∃ag:I,Sem.run ai (callFunc 283 #[a,b]) w=.ok (.value cw) ag/\Q cw ag
def ao.oS:aD:=(.q (.q .l))
def aa.p2(a:ae)(b:ae)(w:I)(Q:Y->I->Prop):Prop:=∃s1:ByteArray,∃ag:I,Sem.run ai (convert 31 9 a) w=.ok (.string s1) ag/\∃c:ByteArray,∃d
 :I,Sem.run ai (convert 31 9 b) ag=.ok (.string c) d/\Q (.bool (ByteArray.toList s1==ByteArray.toList c)) d
def ao.p2:aD:=(.q (.q .l))
def aa.cmp_isNaN_int(x:Int)(w:I)(Q:Y->I->Prop):Prop:=Q (.bool (x !=x)) w
def ao.cmp_isNaN_int:aD:=(.q (.q .l))
set_option maxRecDepth 100000
def aa.xp(x:Int)(y:Int)(w:I)(Q:Y->I->Prop):Prop:=(0:Int)<=32/\(0:Int)<=32/\(0:Int)<=32/\(0:Int)<=32/\(0:Int)<=32/\Q (.tuple #[.int .u64 (IntKind.wrap .u64 ((IntKind.wrap .u64
 ((IntKind.wrap .u64 ((Int.fdiv x (2^(min (Int.toNat 32) 64)))*(Int.fdiv y (2^(min (Int.toNat 32) 64)))))+(Int.fdiv (IntKind.wrap .u64 ((IntKind.wrap .u64 ((Int.fdiv x (2^(min (Int.toNat 32) 64)))*(eS .u64 y 4294967295)))+
 (Int.fdiv (IntKind.wrap .u64 ((eS .u64 x 4294967295)*(eS .u64 y 4294967295))) (2^(min (Int.toNat 32) 64))))) (2^(min (Int.toNat 32) 64)))))+(Int.fdiv (IntKind.wrap .u64 ((eS .u64 (IntKind.wrap .u64 ((IntKind.wrap .u64
 ((Int.fdiv x (2^(min (Int.toNat 32) 64)))*(eS .u64 y 4294967295)))+(Int.fdiv (IntKind.wrap .u64 ((eS .u64 x 4294967295)*(eS .u64 y 4294967295))) (2^(min (Int.toNat 32) 64))))) 4294967295)+(IntKind.wrap .u64 ((eS .u64 x
 4294967295)*(Int.fdiv y (2^(min (Int.toNat 32) 64))))))) (2^(min (Int.toNat 32) 64))))),.int .u64 (IntKind.wrap .u64 (x*y))]) w
def ao.xp:aD:=(.q (.q (.q (.q gx))))
set_option maxRecDepth 100000
def aa.xq(x:Int)(w:I)(Q:Y->I->Prop):Prop:=(0:Int)<=x/\∃bz:UInt8,Av (ByteArray.mk #[0,1,1,2,1,2,2,3,1,2,2,3,2,3,3,4,1,2,2,3,2,3,3,4,2,3,3,4,3,4,4,5,1,2,
 2,3,2,3,3,4,2,3,3,4,3,4,4,5,2,3,3,4,3,4,4,5,3,4,4,5,4,5,5,6,1,2,2,3,2,3,3,4,2,3,3,4,3,4,4,5,2,3,3,4,3,4,4,5,3,4,4,5,4,5,5,6,2,3,3,4,3,4,4,5,3,4,4,5,4,5,5,6,3,4,
 4,5,4,5,5,6,4,5,5,6,5,6,6,7,1,2,2,3,2,3,3,4,2,3,3,4,3,4,4,5,2,3,3,4,3,4,4,5,3,4,4,5,4,5,5,6,2,3,3,4,3,4,4,5,3,4,4,5,4,5,5,6,3,4,4,5,4,5,5,6,4,5,5,6,5,6,6,7,2,3,
 3,4,3,4,4,5,3,4,4,5,4,5,5,6,3,4,4,5,4,5,5,6,4,5,5,6,5,6,6,7,3,4,4,5,4,5,5,6,4,5,5,6,5,6,6,7,4,5,5,6,5,6,6,7,5,6,6,7,6,7,7,8]) (x.toNat)=some bz/\Q (.int .i64 (al ((bz.toNat
 :Nat):Int))) w
def ao.xq:aD:=(.q (.q .l))
def aa.xr(s:ae)(i:Int)(v:ae)(w:I)(Q:Y->I->Prop):Prop:=((0:Int)<=i/\i<=(s.len:Int))/\ah ((v.len:Int)==0) (Q s w) (ah (i==(s.len:Int)) (ap
 358 s v w λs1 ag=>Q s1 ag) (ah (decide (((al ((s.len:Int)+(v.len:Int))):Int)>(s.cap:Int))) (((0:Int)<=i/\i<=(s.cap:Int))/\
 ∃b:ae,∃d:I,Sem.run ai (Builtin.append_ #[358,3] 358 #[.slice (aW s.a 1 0 s.cap) ((i.toNat)-0) (s.cap-0),.int .i64 (al ((al ((s.len:Int)+(v.len:Int)))-i))]) w=.ok b d/\((0:Int)<=i/\i<=(b.len:Int))/\∃n5:Int,∃e:I,Sem.run ai (Builtin.copy_ #[358,358] 3 #[.slice (aW b.a 1 (i.toNat) b.cap) (b.len-(i.toNat)) (b.cap-
 (i.toNat)),v]) d=.ok n5 e/\an (e.drew) λk=>((0:Int)<=(al (i+(v.len:Int)))/\(al (i+(v.len:Int)))<=(b.len:Int))/\((0:Int)<=i/\i<=(s.len:Int))/\∃n8:Int,∃f:I,
 Sem.run ai (Builtin.copy_ #[358,358] 3 #[.slice (aW b.a 1 ((al (i+(v.len:Int))).toNat) b.cap) (b.len-((al (i+(v.len:Int))).toNat)) (b.cap-((al (i+(v.len:Int))).toNat)),.slice
 (aW s.a 1 (i.toNat) s.cap) (s.len-(i.toNat)) (s.cap-(i.toNat))]) k=.ok n8 f/\Q b f) (((0:Int)<=(al ((s.len:Int)+(v.len:Int)))/\(al ((s.len:Int)+(v.len:Int)))<=((s.cap:
 Nat):Int))/\((0:Int)<=(al (i+(v.len:Int)))/\(al (i+(v.len:Int)))<=(((((al ((s.len:Int)+(v.len:Int))).toNat)-0):Nat):Int))/\∃g:aj,∃c:I,Sem.run ai (callFunc 330 #[v,.slice (aW (aW s.a 1 0 s.cap) 1 ((al (i+(v.len:Int))).toNat) (s.cap-0)) ((((al ((s.len:Int)+(v.len:Int))).toNat)-0)-((al (i+(v.len:Int))).toNat)) ((s.cap-0)-((al (i+
 (v.len:Int))).toNat))]) w=.ok (.value g) c/\ah (!g) (an (c.drew) λl=>((0:Int)<=(al (i+(v.len:Int)))/\(al (i+(v.len:Int)))<=(((((al ((s.len:Int)+(v.len:Int))).toNat)-0):Nat):Int))/\((0:Int)<=i/\i
 <=(((((al ((s.len:Int)+(v.len:Int))).toNat)-0):Nat):Int))/\∃n13:Int,∃h:I,Sem.run ai (Builtin.copy_ #[358,358] 3 #[.slice (aW (aW s.a 1 0 s.cap) 1 ((al (i+
 (v.len:Int))).toNat) (s.cap-0)) ((((al ((s.len:Int)+(v.len:Int))).toNat)-0)-((al (i+(v.len:Int))).toNat)) ((s.cap-0)-((al (i+(v.len:Int))).toNat)),.slice (aW (aW s.a 1 0 s.cap) 1 (i.toNat) (s.cap-0))
 ((((al ((s.len:Int)+(v.len:Int))).toNat)-0)-(i.toNat)) ((s.cap-0)-(i.toNat))]) l=.ok n13 h/\((0:Int)<=i/\i<=(((((al ((s.len:Int)+(v.len:Int))).toNat)-0):Nat):Int))/\∃n15:Int,∃
 j:I,Sem.run ai (Builtin.copy_ #[358,358] 3 #[.slice (aW (aW s.a 1 0 s.cap) 1 (i.toNat) (s.cap-0)) ((((al ((s.len:Int)+(v.len:Int))).toNat)-0)-(i.toNat)) ((s.cap-0)-
 (i.toNat)),v]) h=.ok n15 j/\Q (.slice (aW s.a 1 0 s.cap) (((al ((s.len:Int)+(v.len:Int))).toNat)-0) (s.cap-0)) j) (((0:Int)<=(s.len:Int)/\(s.len:Int)<=(((((al
 ((s.len:Int)+(v.len:Int))).toNat)-0):Nat):Int))/\∃n17:Int,∃bJ:I,Sem.run ai (Builtin.copy_ #[358,358] 3 #[.slice (aW (aW s.a 1 0 s.cap) 1 (Int.toNat (s.len:Int)) (s.cap-0))
 ((((al ((s.len:Int)+(v.len:Int))).toNat)-0)-(Int.toNat (s.len:Int))) ((s.cap-0)-(Int.toNat (s.len:Int))),v]) c=.ok n17 bJ/\((0:Int)<=i/\i<=(((((al ((s.len:Int)+
 (v.len:Int))).toNat)-0):Nat):Int))/\eM 331 #[.slice (aW (aW s.a 1 0 s.cap) 1 (i.toNat) (s.cap-0)) ((((al ((s.len:Int)+(v.len:Int))).toNat)-0)-(i.toNat)) ((s.cap-0)-(i.toNat)),.int
 .i64 (v.len:Int)] bJ λm=>Q (.slice (aW s.a 1 0 s.cap) (((al ((s.len:Int)+(v.len:Int))).toNat)-0) (s.cap-0)) m))))
def ao.xr:aD:=(.q (.q (.q (.s a1 (.q (.s a1 a2))))))
def aa.xt(x:ae)(target:ae)(cmp:kz)(w:I)(Q:Y->I->Prop):Prop:=fO 0 (x.len:Int) w λg h b bk aF=>ah (decide (b<bk)) ((0:Int)<=1/\∃dF:av,x.a=
 some dF/\(xe b bk x)/\aR aF (dF.add (Int.toNat (al (Int.fdiv (IntKind.wrap .u64 (al (b+bk))) (2^(min (Int.toNat 1) 64))))*1)) λc=>jB ai cmp.f/\Calls ai cmp.f (cmp.pre++ #[.slice c.a c.len c.cap,
 .slice target.a target.len target.cap]++cmp.cap) aF λi j=>∃n10:Int,i=.returned (.int .i64 n10)/\xa n10 g b bk j h aF) (a_ (λe:aj->I->Prop=>ah (decide (b<(x.len:Int))) (bl x b λgG=>aR aF (bw
 gG b 1) λd=>jB ai cmp.f/\Calls ai cmp.f (cmp.pre++ #[.slice d.a d.len d.cap,.slice target.a target.len target.cap]++cmp.cap) aF λk l=>∃n16:Int,k=.returned (.int .i64 n16)/\e (n16
 ==0) l) (e false aF)) (λ(m:aj) bJ=>Q (.tuple #[.int .i64 b,.bool m]) bJ))
def ao.xt:aD:=dF
def aa.xu(s:ae)(f:kz)(w:I)(Q:Y->I->Prop):Prop:=b4 339 #[s,.func (.func f.f) f.pre f.cap] w λa w1=>Q (.bool
 (decide (a>=0))) w1
def ao.xu:aD:=(.q (.q .l))
def aa.xv(s:ae)(f:kz)(w:I)(Q:Y->I->Prop):Prop:=b4 340 #[s,.func (.func f.f) f.pre f.cap] w λa w1=>Q (.bool (decide (a>=0))) w1
def ao.xv:aD:=(.q (.q .l))
def aa.xw(s:ae)(w:I)(Q:Y->I->Prop):Prop:=ah (Option.isNone s.a) (Q () w) (an (w.alloc (.cells #[] 3)) λw1=>ap 181 (.slice (some (ad w)) 0 0) s w1 λs2 b=>Q s2 b)
def ao.xw:aD:=eK
def aa.uE(s:ae)(f:kz)(w:I)(Q:Y->I->Prop):Prop:=dj 0 w λi g b c=>ah (decide (b<(s.len:Int))) (bl s b λa5=>aR c (bw a5 b 1) λd=>jB ai f.f/\
 Calls ai f.f (f.pre++ #[.slice d.a d.len d.cap]++f.cap) c λj e=>∃h:aj,j=.returned (.bool h)/\ah h (Q (.int .i64 b) e) (i (al (b+1)) e/\g (al (b+1)) e<g b c)) (Q (.int .i64 (-1)) c)
def ao.uE:aD:=lR
theorem aa.I1(s:ae)(f:kz)(w:I)(Q:Y->I->Prop)(h:aa.uE s f w Q):aC ai 339 #[.slice s.a s.len s.cap,.func (.func f.f) f.pre f.cap] w Q:=okF (λw Q=>aa.uE s f w Q) ao.uE func339 h
def aa.uF(s:ae)(f:kz)(w:I)(Q:Y->I->Prop):Prop:=dj 0 w λg d a b=>ah (decide (a<(s.len:Int))) (bl s a λa5=>r1 b (bw a5 a 1) λn6=>jB ai f.f/\Calls
 ai f.f (f.pre++ #[.int .i64 n6]++f.cap) b λh c=>∃e:aj,h=.returned (.bool e)/\ah e (Q (.int .i64 a) c) (g (al (a+1)) c/\d (al (a+1)) c<d a b)) (Q (.int .i64 (-1)) b)
def ao.uF:aD:=lR
theorem aa.I2(s:ae)(f:kz)(w:I)(Q:Y->I->Prop)(h:aa.uF s f w Q):aC ai 340 #[.slice s.a s.len s.cap,.func (.func f.f) f.pre f.cap] w Q:=okF (λw Q=>aa.uF s f w Q) ao.uF func340 h
def aa.xx(s:ae)(w:I)(Q:Y->I->Prop):Prop:=ah (Option.isNone s.a) (Q () w) (an (w.alloc (.cells #[] 31)) λw1=>ap 358 (.slice (some (ad w)) 0 0)
 s w1 λs2 b=>Q s2 b)
def ao.xx:aD:=eK
set_option maxRecDepth 100000
def aa.p3(b:aq av)(p:ae)(w:I)(Q:Y->I->Prop):Prop:=an (w.alloc fQ) λw1=>ah (Option.isNone b) (bH w1 (ad w) [(0:Int),(),(0:Int),(0:Int),false,(1:Int)] 6
 λag=>mv ag w Q) (nI 20 #[p] w1 λe n12 a=>an (a.alloc hO) λg=>b_ g (ad a) (Array.toList e)/\Array.size e=82/\an (setCells g (ad a) 0 (Array.toList e)) λc=>ah
 (n12 !=0) (False) (∃h:O Y,aV c (ad a) 0 82=some h/\∃i:Array Y,Sem.run ai (Instr.build 82 #[(0,b),(1,.agg h.toArray),(2,p)]) c=.ok (.agg i) c/\
 an (c.alloc (.cells i 82)) λo=>bC o λbJ d=>ay b λgl=>¬d (gl.add 6).block/\∃j:aq av,bJ.cell? (gl.add 6)=some (j)/\¬d (((ad a).add 45).add 17).block/\∃k:O
 Y,aV bJ (((ad a).add 45).add 17) 0 17=some k/\oQ d bJ (((ad a).add 45).add 35) λn23=>lQ d bJ (((ad a).add 45).add 36) λn24=>gF 21 #[j,.agg k.toArray,.int
 .u16 n23,.int .u8 n24] bJ λn27 q l=>ah q (ay b λr=>∃m:aq av,l.cell? (r.add 6)=some (m)/\gh 22 #[m,n27] l λf z cx=>xs c λn=>
 b_ cx (n.add 84) (Array.toList f)/\Array.size f=23/\an (setCells cx (n.add 84) 0 (Array.toList f)) λcC=>k_ 23 #[.pointer (some (ad c))] cC λn39 s n41 t u v x=>bH x (ad w) [n39,s,n41,t,u,v] 6 λy=>mv y w Q) (False)))
def ao.p3:aD:=(.q (.s a1 (.q (.s (.q (.c .l .l)) (.q (.s (.s (.d 18 true [0,3000,0,2004,0,2007,0,2010,1000000004680,2013,15,516,518] [0,3000,0,2004,0,2007,0,2010,1000000004680,2013,3014] [14031,31,2045,2008]
 [1,3031,6,2035,6,2038,6,2041,11050223472640,45,31,31,2045] (.z 13 0 (.out 13 false (.z 4 14 .e)))) (.q a9)) .l))))))
def aa.Bn(b:aq av)(now:Int)(w:I)(Q:Y->I->Prop):Prop:=ah (Option.isNone b) (Q (.tuple #[(0:Int),(0:Int),(1:Int)]) w) (False)
def ao.Bn:aD:=(.q (.s a1 .l))
def aa.Bo(b:aq av)(service:Int)(p:Array Y)(w:I)(Q:Y->I->Prop):Prop:=an (w.alloc (.cells p 52)) λw1=>ah (Option.isNone b) (Q (.tuple #[(0:Int),false]) w1) (False)
def ao.Bo:aD:=(.q (.s a1 .l))
def aa.Bp(b:aq av)(w:I)(Q:Y->I->Prop):Prop:=ah (Option.isNone b) (Q (aZ 0) w) (False)
def ao.Bp:aD:=(.q (.s a1 .l))
def aa.Bq(b:aq av)(w:I)(Q:Y->I->Prop):Prop:=ah (Option.isNone b) (Q () w) (False)
def ao.Bq:aD:=(.q (.s a1 .l))
def aa.Br(b:aq av)(id:Int)(w:I)(Q:Y->I->Prop):Prop:=ah (Option.isNone b) (Q (1:Int) w) (False)
def ao.Br:aD:=(.q (.s a1 .l))
def aa.Bs(b:aq av)(id:Int)(backend:Int)(w:I)(Q:Y->I->Prop):Prop:=ah (Option.isNone b) (Q (1:Int) w) (False)
def ao.Bs:aD:=(.q (.s a1 .l))
def aa.Bt(b:aq av)(id:Int)(backend:Int)(a:aj)(w:I)(Q:Y->I->Prop):Prop:=ah (Option.isNone b) (Q (1:Int) w) (False)
def ao.Bt:aD:=(.q (.s a1 .l))
def aa.Bu(b:aq av)(id:Int)(backend:Int)(ok:aj)(w:I)(Q:Y->I->Prop):Prop:=ah (Option.isNone b) (Q false w) (False)
def ao.Bu:aD:=(.q (.s a1 .l))
def aa.Bv(b:aq av)(id:Int)(backend:Int)(w:I)(Q:Y->I->Prop):Prop:=a_ (λbW:aj->I->Prop=>ah (!(Option.isNone b)) (bF 42 #[b,id,backend] w λa
 ag=>bW a ag) (bW false w)) (λ(c:aj) d=>Q c d)
def ao.Bv:aD:=(.q (.s (.z [9,13]) .l))
def aa.m5(g:Int)(h:Int)(i:Int)(j:Int)(k:Int)(l:Int)(f:aq av)(a:aq av)(w:I)(Q:Y->I->Prop):Prop:=an (w.alloc (.cells #[aZ g,h,i,j,k,l] 24)) λw1=>ah ((Option.isNone f)||(Option.isNone a)) (Q (.tuple #[.pointer none,(1:Int)]) w1) (bh w1 w 1 λbB=>gM
 47 #[bB] w1 λm n6 c=>bh c w 3 λn7=>bh c w 4 λn8=>gM 48 #[n7,n8] c λn n12 d=>bh d w 5 λn13=>gM 49 #[a,n13] d λo n17
 b=>ah (((n6 !=0)||(n12 !=0))||(n17 !=0)) (Q (.tuple #[.pointer none,(1:Int)]) b) (dC b (ad w) λn18=>bh b w 1 λn19=>bh b w 2 λn20=>bh b w 3 λn21=>bh b w 4 λn22=>bh b w 5 λn23=>
 ∃e:Array Y,Sem.run ai (Instr.build 87 #[(0,.agg #[aZ n18,n19,n20,n21,n22,n23]),(1,f),(2,a),(3,m),(4,n),(5,
 o)]) b=.ok (.agg e) b/\an (b.alloc (.cells e 87)) λp=>Q (.tuple #[.pointer (some (ad b)),(0:Int)]) p))
def ao.m5:aD:=(.q (.s eV (.q (.q a5))))
def aa.oT(w:I)(Q:Y->I->Prop):Prop:=∃m1:aq Nat,∃ag:I,Sem.run ai (Instr.makeMap 123 none) w=.ok (.map m1) ag/\∃b:aq Nat,∃a:I,Sem.run ai
 (Instr.makeMap 124 none) ag=.ok (.map b) a/\an (a.alloc (.cells #[.map m1,.map b] 126)) λaF=>Q (.pointer (some (ad a))) aF
def ao.oT:aD:=(.q (.q .l))
theorem aa.I3(w:I)(Q:Y->I->Prop)(h:aa.oT w Q):aC ai 17 #[] w Q:=okF (λw Q=>aa.oT w Q) ao.oT func17 h
def aa.p4(b:ae)(w:I)(Q:Y->I->Prop):Prop:=an (w.alloc hO) λw1=>nI 55 #[b] w1 λfk n5 ag=>an (ag.alloc z3) λh=>b_ h (ad ag) (Array.toList fk)/\Array.size fk
 =39/\an (setCells h (ad ag) 0 (Array.toList fk)) λi=>ah (n5 !=0) (False) (fb i ag 37 λk=>ah k (False) (bC i λc d=>¬d ((ad ag):av).block/\∃f:O Y,aV c (ad ag) 0 39=some f/\rR d c
 ag 2 λn12=>((0:Int)<=n12/\n12<=(b.len:Int))/\(uw 56 #[.agg f.toArray,.slice (aW b.a 1 (n12.toNat) b.cap) (b.len-(n12.toNat)) (b.cap-(n12.toNat))] c λn15 n16 n17 n18 l n20 n21 e=>af d c
 e/\an (e.alloc z4) λbm=>af d e bm/\bH bm (ad e) [.int .u16 n15,.int .u16 n16,.int .u8 n17,n18,l,n20] 6 λbZ=>gN n21 bZ ag e w Q)/\(an (c.alloc z4) λg=>af d c g/\
 uw 56 #[.agg f.toArray,.slice (aW b.a 1 (n12.toNat) b.cap) (b.len-(n12.toNat)) (b.cap-(n12.toNat))] g λm n o p q r s j=>af d g j/\bH j (ad c) [.int .u16 m,.int .u16 n,
 .int .u8 o,p,q,r] 6 λt=>gN s t ag c w Q)))
def ao.p4:aD:=(.q (.q (.s (.q (.c .l .l)) (.s (.q (.c .l .l)) (.s (.d 11 true [0,0,0,3,1003001,1004000,2005,7,0,1000000000767,511] [0,0,0,3,1003001,1004000,2005,7,0,1009007,9] [6020,20,2026,7,0,6]
 [5,1,5,23,1023021,1024020,26,20,20,0,1026006,28] (.z 5 0 (.two 5 (.z 3 6 (.bu 9 (.out 10 false .e))) 9 (.bu 5 (.z 3 6 (.out 10 false .e)))))) fj)))))
def aa.uG(f:aq av)(dst:Array Y)(port:Int)(j9:Int)(w:I)(Q:Y->I->Prop):Prop:=an (w.alloc (.cells dst 27)) λw1=>ah (Option.isNone f) (Q (.tuple #[(0:Int),false]) w1) (bC w1 λag a=>ay f λa4=>¬a (a4.add 1).block/\∃c:aq Nat,ag.cell? (a4.add 1)=some (.map c)/\¬a ((ad w):av).block/\∃d:O Y,aV ag (ad w) 0 17=some d/\∃e:Array Y,(∀g:
 I,Sem.run ai (Instr.build 144 #[(0,.agg d.toArray),(1,.int .u16 port),(2,.int .u8 j9)]) g=.ok (.agg e) g)/\∃n9:Int,∃h:aj,∃b:I,Sem.run ai (Instr.lookup 124
 (.map c) (.agg e) true) ag=.ok (.tuple #[n9,h]) b/\af a ag b/\Q (.tuple #[n9,h]) b)
def ao.uG:aD:=(.q (.s a1 (.s (.d 13 true [0,3000,0,0,0,1006005004,1007003,2008,10,511,513] [0,3000,0,0,0,1006005004,1007003,2008,3009] [9015,15,2024,2010] [1,3015,6,2002,1021020019,1022018,24,15,15,2024] (.z 8 0 (.bu 8 (.z
 4 9 .e)))) (.q .l))))
theorem aa.I4(f:aq av)(dst:Array Y)(port:Int)(j9:Int)(w:I)(Q:Y->I->Prop)(h:aa.uG f dst port j9 w Q):aC ai 21 #[f,.agg dst,.int .u16 port,.int .u8 j9] w Q:=okF (λw Q=>aa.uG f dst port j9 w Q) ao.uG func21 h
def aa.uH(f:aq av)(id:Int)(w:I)(Q:Y->I->Prop):Prop:=an (w.alloc z5) λw1=>ah (Option.isNone f) (Bc w1 w Q) (ay f λa5=>∃d:aq Nat,w1.cell? a5=some (.map d)/\∃c:
 aq av,∃e:aj,∃a:I,Sem.run ai (Instr.lookup 123 (.map d) id true) w1=.ok (.tuple #[c,e]) a/\ah (!e) (Bc a w Q) (ay c λgx=>∃g:O Y,
 aV a gx 0 23=some g/\w2 a z5 g 23 λh=>ay c λeK=>aR h (eK.add 22) λk=>bn 57 #[k] h λl m=>st m ((ad a).add 22)
 l λbm=>∃b:O Y,aV bm (ad a) 0 23=some b/\b_ bm (ad w) (Array.toList b.toArray)/\Array.size b.toArray=23/\an (setCells bm (ad w) 0 (Array.toList b.toArray)) λi
 =>∃j:O Y,aV i (ad w) 0 23=some j/\Q (.tuple #[.agg j.toArray,true]) i))
def ao.uH:aD:=(.q (.s a1 (.q (.s a1 fR))))
theorem aa.I5(f:aq av)(id:Int)(w:I)(Q:Y->I->Prop)(h:aa.uH f id w Q):aC ai 22 #[f,id] w Q:=okF (λw Q=>aa.uH f id w Q) ao.uH func22 h
set_option maxRecDepth 100000
def aa.rY(aQ:aj)(aT:ae)(aU:ae)(aV:ae)(w:I)(Q:Y->I->Prop):Prop:=an (w.alloc (.cells #[aQ,aT,aU,
 aV] 397)) λw1=>an (w1.alloc c0) λag=>an (ag.alloc c0) λz=>aE z w 1 λV=>a_ (λW:Int->I->Prop=>aS z (ad w) λaX=>ah (!aX) (W (al ((al ((V.len:Int)-1))-
 1)) z) (W (al ((V.len:Int)-1)) z)) (λ(n7:Int) g=>aS g (ad w) λaY=>aE g w 1 λaZ=>aE g w 2 λa0=>aE g w 3 λa1=>bF 305 #[.agg #[aY,aZ,a0,a1]] g λa2 X=>ah ((!a2)||(decide (n7<1))) (bH X (ad w1) [false,(),(),()] 4 λa3=>bH a3 (ad ag) [false,(),(),()] 4 λf=>aS f (ad w1) λa4=>aE f w1 1 λa5=>aE f w1 2 λa6=>aE f w1 3 λa7=>aS f (ad ag) λa8=>aE f ag 1 λa9=>aE f ag 2 λba=>aE f ag 3 λbb=>Q
 (.tuple #[.agg #[a4,a5,a6,a7],(),.agg #[a8,a9,ba,bb],false]) f) (bC X λd e=>¬e ((ad w):av).block/\aS d (ad w) λZ=>aE d w 1 λab=>aE d w 2 λac=>aE d w 3 λak=>¬e ((ad w):av).block/\aS d (ad w) λJ=>aE d w
 1 λK=>aE d w 2 λL=>aE d w 3 λM=>(hN 306 #[.agg #[Z,ab,ac,ak]] d λam ao ap aq cC=>af e d cC/\(b4
 354 #[.agg #[J,K,L,M],n7] cC λbc h=>af e cC h/\an (h.alloc c0) λar=>af e h ar/\bH ar (ad h)
 [am,ao,ap,aq] 4 λbd=>xf bd w bc h w1 ag Q)/\(an (cC.alloc c0) λN=>af e cC N/\b4 354 #[.agg #[J,K,L,M],n7] N λb au=>af e N au/\bH au (ad cC) [am,ao,ap,aq] 4 λO=>aE O w 1 λbe=>bl be b λbf=>aR O (bw bf b 1) λbg=>bn 161 #[bg] O λaw P=>aS P (ad w) λbh=>
 ah bh (bC P λi j=>dI j i cC 1 λA=>((0:Int)<=b/\b<=(A.cap:Int))/\dI j i cC 2 λB=>((0:Int)<=b/\b<=(B.cap:Int))/\∃ax:Array Y,(∀ay:
 I,Sem.run ai (Instr.build 397 #[(0,true),(1,.slice (aW A.a 1 0 A.cap) ((b.toNat)-0) (A.cap-0)),(2,.slice (aW B.a 1 0 B.cap) ((b.toNat)-0) (B.cap-0))]) ay=.ok
 (.agg ax) ay)/\dI j i cC 1 λk=>((0:Int)<=b/\b<=(k.len:Int))/\dI j i cC 2 λl=>((0:Int)<=b/\b<=(l.len:Int))/\∃az:Array Y,(∀aA:I,Sem.run ai
 (Instr.build 397 #[(0,true),(1,.slice (aW k.a 1 (b.toNat) k.cap) (k.len-(b.toNat)) (k.cap-(b.toNat))),(2,.slice (aW l.a 1 (b.toNat) l.cap) (l.len-(Int.toNat
 b)) (l.cap-(b.toNat)))]) aA=.ok (.agg az) aA)/\oR ax i j az w1 ag Q aw) (bC P λm n=>dI n m cC 1 λC=>((0:Int)<=b/\b<=(C.cap:Int))/\dI n m cC
 3 λD=>((0:Int)<=(al (b+1))/\(al (b+1))<=(D.cap:Int))/\∃aB:Array Y,(∀aC:I,Sem.run ai (Instr.build 397 #[(1,.slice (aW C.a 1 0 C.cap) ((b.toNat)-0)
 (C.cap-0)),(3,.slice (aW D.a 1 0 D.cap) (((al (b+1)).toNat)-0) (D.cap-0))]) aC=.ok (.agg aB) aC)/\dI n m cC 1 λo=>((0:Int)<=(al (b+1))/\(al (b+1))<=(o.len:Int))/\
 dI n m cC 3 λp=>((0:Int)<=(al (b+1))/\(al (b+1))<=(p.len:Int))/\∃aD:Array Y,(∀aF:I,Sem.run ai (Instr.build 397 #[(1,.slice (aW o.a 1 ((al (b+1)).toNat)
 o.cap) (o.len-((al (b+1)).toNat)) (o.cap-((al (b+1)).toNat))),(3,.slice (aW p.a 1 ((al (b+1)).toNat) p.cap) (p.len-((al (b+1)).toNat)) (p.cap-((al (b+
 1)).toNat)))]) aF=.ok (.agg aD) aF)/\oR aB m n aD w1 ag Q aw)))/\(an (d.alloc c0) λR=>af e d R/\hN 306 #[.agg #[Z,ab,ac,ak]] R λbi bj bk bm S=>af e R S/\b4 354 #[.agg #[J,K,L,M],n7] S λc aG=>
 af e S aG/\bH aG (ad d) [bi,bj,bk,bm] 4 λT=>aE T w 1 λbo=>bl bo c λbp=>aR T (bw bp c 1)
 λbq=>bn 161 #[bq] T λaH U=>aS U (ad w) λbr=>ah br (bC U λq r=>dI r q d 1 λE=>((0:Int)<=c/\c<=((E.cap:Nat)
 :Int))/\dI r q d 2 λF=>((0:Int)<=c/\c<=(F.cap:Int))/\∃aI:Array Y,(∀aJ:I,Sem.run ai (Instr.build 397 #[(0,true),(1,.slice (aW E.a 1 0 E.cap)
 ((c.toNat)-0) (E.cap-0)),(2,.slice (aW F.a 1 0 F.cap) ((c.toNat)-0) (F.cap-0))]) aJ=.ok (.agg aI) aJ)/\dI r q d 1 λs=>((0:Int)<=c/\c<=(s.len:Int))/\dI r q
 d 2 λt=>((0:Int)<=c/\c<=(t.len:Int))/\∃aK:Array Y,(∀aL:I,Sem.run ai (Instr.build 397 #[(0,true),(1,.slice (aW s.a 1 (c.toNat) s.cap) (s.len-(Int.toNat
 c)) (s.cap-(c.toNat))),(2,.slice (aW t.a 1 (c.toNat) t.cap) (t.len-(c.toNat)) (t.cap-(c.toNat)))]) aL=.ok (.agg aK) aL)/\oR aI q r aK w1 ag Q aH) (bC U λ
 u v=>dI v u d 1 λG=>((0:Int)<=c/\c<=(G.cap:Int))/\dI v u d 3 λH=>((0:Int)<=(al (c+1))/\(al (c+1))<=(H.cap:Int))/\∃aM:Array Y,(∀aN:
 I,Sem.run ai (Instr.build 397 #[(1,.slice (aW G.a 1 0 G.cap) ((c.toNat)-0) (G.cap-0)),(3,.slice (aW H.a 1 0 H.cap) (((al (c+1)).toNat)-0) (H.cap-0))]) aN=.ok (.agg
 aM) aN)/\dI v u d 1 λx=>((0:Int)<=(al (c+1))/\(al (c+1))<=(x.len:Int))/\dI v u d 3 λy=>((0:Int)<=(al (c+1))/\(al (c+1))<=(y.len:Int))/\∃aO:Array Y,(∀
 aP:I,Sem.run ai (Instr.build 397 #[(1,.slice (aW x.a 1 ((al (c+1)).toNat) x.cap) (x.len-((al (c+1)).toNat)) (x.cap-((al (c+1)).toNat))),(3,.slice (aW y.a 1
 ((al (c+1)).toNat) y.cap) (y.len-((al (c+1)).toNat)) (y.cap-((al (c+1)).toNat)))]) aP=.ok (.agg aO) aP)/\oR aM u v aO w1 ag Q aH))))
def ao.rY:aD:=(.q (.q (.s (.eC [(6,(.int .i64))] [1,2,4] (.q (.c .r .l))) (.s (.s (.z [12,8]) (.c (.q .l) .l)) (.s (.d 6 true [0,1,0,0,1003002001,0,1000000000051,507] [0,1,0,0,1003002,0,1005001,5] [5028,8,0,9]
 [2,29,2,7,1031030,0,1029007,33] (.t 0 (.t 2 (.t 3 (.two 1 (.two 4 (.bu 5 (.tail [.r,.r])) 5 (.bu 4 (.tail [.r,.r]))) 5 (.bu 1 (.bu 4 (.tail [.r,.r])))))))) (.q (.s (.q (.c (.s (.d 22 true
 [0,1,0,1002001,0,5,0,1006005,1007003,9,0,0,12,0,1013012,0,16,0,1017016,1018014,1019009,1000001049599,1000002099199,523,524] [0,1,0,1002001,0,5,0,1006005,1007003,9,0,0,12,0,1013012,0,16,0,1017016,1018014,20,2009,21,0] [21041,0,4,0,6]
 [8,42,9,1043042,8,46,9,1047046,1048044,50,10,8,53,9,1054053,8,57,9,1058057,1059055,61,1050002,52,1061004,0] (.z 9 0 (.z 10 10 (.bu 9 (.bu 20 (.bu 21 (.tail [.r,.r,.r]))))))) .l) .l)) (.s (.d 25 true
 [0,1,0,1002001,0,5,0,7,1007005,1008003,10,0,0,13,0,15,1015013,0,18,0,20,1020018,1021016,1022010,1000008390655,1000016781311,526,527] [0,1,0,1002001,0,5,0,7,1007005,1008003,10,0,0,13,0,15,1015013,0,18,0,20,1020018,1021016,23,2010,24,0]
 [24062,0,4,0,6] [8,63,9,1064063,8,67,9,69,1069067,1070065,72,10,8,75,9,77,1077075,8,80,9,82,1082080,1083078,85,1072002,74,1085004,0] (.z 10 0 (.z 12 11 (.bu 10 (.bu 23 (.bu 24 (.tail [.r,.r,.r]))))))) .l))))))))
def aa.oU(i:aj)(j:ae)(k:ae)(l:ae)(most:Int)(w:I)(Q:Y->I->Prop):Prop:=an (w.alloc (.cells #[i,j,k,l] 397)) λw1=>aE w1 w 1 λs2=>fO 0 0 w1 λm e n5 n6 a=>ah (decide (n6<(s2.len:Int))) (aS a (ad w) λn=>aE a w 1 λo=>aE a w 2 λp=>aE a w 3
 λq=>bn 352 #[.agg #[n,o,p,q],n6] a λf g=>m (al (n5+(f.len:Int))) (al (n6+1)) g/\e (al (n5+
 (f.len:Int))) (al (n6+1)) g<e n5 n6 a) (fO 0 0 a λr h n17 n18 b=>ah (decide (n18<most)) (aS b (ad w) λs=>aE b w 1 λt=>aE b w 2 λu=>aE b w 3 λv=>bn 352 #[.agg #[s,t,u,v],n18] b λc d=>ah (decide (((al (2*(al (n17+(c.len:Int))))):Int)>=n5)) (Q (.int .i64 (al (n18+1))) d) (r (al
 (n17+(c.len:Int))) (al (n18+1)) d/\h (al (n17+(c.len:Int))) (al (n18+1)) d<h n17 n18 b)) (Q most b))
def ao.oU:aD:=(.q (.q (.s (.q (.bj (.loop [(5,(.int .i64)),(12,(.int .i64))] [1,2,6,11] a4))) (.s (.q (.bj (.loop [(6,(.int .i64)),(23,(.int .i64))] [1,2,5,22] a22))) (.q .l)))))
set_option maxRecDepth 100000
def aa.uI(a:aq av)(w:I)(b:av)(ib:I)(Q:Y->I->Prop):Prop:=∃c:O Y,aV ib b 0 18=some c/\gF 62 #[a,.agg c.toArray] ib λf
 g d=>ah (!g) (False) (∃e:O Y,aV d b 0 18=some e/\k_ 63 #[a,.agg e.toArray,f] d λh i j k l m n=>bH n (ad w) [h,i,j,k,l,m] 6 λo=>mv o w Q)
def aa.rZ(e:aq av)(w:I)(e6:av)(z:aj)(bZ:I)(Q:Y->I->Prop):Prop:=a_ (λq:aj->I->Prop=>bC bZ λa c=>ay e λr=>¬c r.block/\∃s:
 aq av,a.cell? r=some (s)/\ay s λt=>¬c (t.add 6).block/\∃g:aq av,a.cell? (t.add 6)=some (g)/\e5 c a e6 λn31=>e5 c a (e6.add 1) λn32=>(gh
 40 #[g,n31,n32] a λh A bO=>af c a bO/\an (bO.alloc m4) λi=>af c bO i/\b_ i (ad bO) (Array.toList h)/\Array.size h=21/\an (setCells i (ad
 bO) 0 (Array.toList h)) λB=>q A B)/\(an (a.alloc m4) λj=>af c a j/\gh 40 #[g,n31,n32] j λk C l=>af c j l/\b_ l (ad a)
 (Array.toList k)/\Array.size k=21/\an (setCells l (ad a) 0 (Array.toList k)) λD=>q C D)) (λ(E:aj) F=>ah (z&&E) (False) (bC F λb f=>ay e λu=>¬f ((u.add 1).add 45).block/\
 ∃m:O Y,aV b ((u.add 1).add 45) 0 17=some m/\ay e λG=>e5 f b ((G.add 84).add 20) λv=>(gh 61 #[.agg m.toArray,v] b λn K d=>af f b d/\an (d.alloc
 nL) λo=>af f d o/\b_ o (ad d) (Array.toList n)/\Array.size n=18/\an (setCells o (ad d) 0 (Array.toList n)) λH=>aa.uI e w (ad d) H Q)/\(an (b.alloc nL) λx=>af f
 b x/\gh 61 #[.agg m.toArray,v] x λp L y=>b_ y (ad b) (Array.toList p)/\Array.size p=18/\an (setCells y (ad b) 0 (Array.toList p)) λJ=>aa.uI e w (ad
 b) J Q)))
def aa.xy(c:aq av)(w:I)(Q:Y->I->Prop):Prop:=an (w.alloc fQ) λw1=>bC w1 λag a=>ay c λa4=>¬a a4.block/\∃q:aq av,ag.cell? a4=some (q)/\ay q λdF=>¬
 a (dF.add 8).block/\∃e:aq av,ag.cell? (dF.add 8)=some (e)/\ay c λfj=>¬a ((fj.add 1).add 45).block/\∃f:O Y,aV ag ((fj.add 1).add 45) 0 37=some f/\ay c λfc=>¬a fc.block/\∃
 g:aq av,ag.cell? fc=some (g)/\(fq 25 #[g] ag λn14 b=>af a ag b/\(gh 58 #[e,.agg f.toArray,aZ n14] b λh r d=>af a b d/\an (d.alloc
 z9) λi=>af a d i/\b_ i (ad d) (Array.toList h)/\Array.size h=22/\an (setCells i (ad d) 0 (Array.toList h)) λs=>aa.rZ c w (ad d) r s Q)/\(an (b.alloc z9) λj=>af a
 b j/\gh 58 #[e,.agg f.toArray,aZ n14] j λk t l=>af a j l/\b_ l (ad b) (Array.toList k)/\Array.size k=22/\an (setCells l (ad b) 0 (Array.toList k)) λu=>
 aa.rZ c w (ad b) t u Q))/\(an (ag.alloc z9) λm=>af a ag m/\fq 25 #[g] m λv n=>af a m n/\gh 58 #[e,.agg f.toArray,aZ v] n λo
 x p=>af a n p/\b_ p (ad ag) (Array.toList o)/\Array.size o=22/\an (setCells p (ad ag) 0 (Array.toList o)) λy=>aa.rZ c w (ad ag) x y Q)
def ao.xy:aD:=(.q (.s (.d 23 true [0,6000,0,4007,0,4012,1016011006,2017,19,0,1000003145727,523] [0,6000,0,4007,0,4012,1016011006,2017,19,0,1021019,21] [18012,12,2030,4,0,5]
 [1,6012,1,4019,1,4024,1028023018,30,12,12,0,1030003,32] (.z 16 0 (.two 16 (.two 17 (.z 3 18 (.bu 21 (.out 22 false .e))) 21 (.bu 17 (.z 3 18 (.out 22 false .e)))) 21 (.bu 16 (.bu 17 (.z 3 18 (.out 22 false .e))))))) (.s (.s (.eC [(6,
 .bool)] [0,2,3,4] (.d 17 true [0,6000,0,8,0,10,1010008006,2011,13,0,1000000049151,517] [0,6000,0,8,0,10,1010008006,2011,13,0,1015013,15] [12033,33,2045,6,0,7] [1,6033,4,41,4,43,1043041039,45,33,33,0,1045005,47] (.z 11 0 (.two 11 (.z 3 12
 (.bu 15 (.out 16 false .e))) 15 (.bu 11 (.z 3 12 (.out 16 false .e))))))) (.s (.z [6,5]) (.c .l .l))) (.s (.d 17 true [0,5000,0,4006,1010005,2011,13,0,1000000049151,517] [0,5000,0,4006,1010005,2011,13,0,1015013,15] [12063,63,2075,8,0,9]
 [1,5063,1,4069,1073068,75,63,63,0,1075007,77] (.z 11 0 (.two 11 (.z 3 12 (.bu 15 (.out 16 false .e))) 15 (.out 11 false (.z 3 12 (.out 16 false .e)))))) (.q fj)))))
def aa.xz(b:aq av)(w:I)(Q:Y->I->Prop):Prop:=ay b λa1=>∃bI:aq av,w.cell? (a1.add 7)=some (bI)/\g7 27 #[bI] w λa c=>fq 64
 #[a] c λn8 d=>Q (aZ n8) d
def ao.xz:aD:=(.q (.q .l))
def aa.xA(a:aq av)(w:I)(Q:Y->I->Prop):Prop:=ah (Option.isNone a) (Q (.pointer none) w) (ay a λa1=>∃bI:aq av,w.cell? a1=some (bI)/\Q (bI) w)
def ao.xA:aD:=eK
def aa.xB(b:aq av)(service:Int)(p:Array Y)(w:I)(Q:Y->I->Prop):Prop:=an (w.alloc (.cells p 52)) λw1=>bC w1 λag a=>ay b λa4=>¬a (a4.add 6).block/\∃d:aq
 av,ag.cell? (a4.add 6)=some (d)/\ay b λdF=>¬a (dF.add 9).block/\∃e:aq av,ag.cell? (dF.add 9)=some (e)/\bn 72 #[e,service] ag λm f=>af a ag f
 /\bn 71 #[d,service,m] f λn g=>ay b λfS=>dC g fS λn15=>gM 73 #[n,(251:Int),aZ n15] g λo n19 h
 =>ah (n19 !=0) (Q (.tuple #[(0:Int),false]) h) (bC h λc i=>ay b λa22=>nK i c a22 λn23=>¬i ((ad w):av).block/\∃j:O Y,aV c (ad w) 0 18=some j/\fq 75 #[aZ
 n23,.agg j.toArray] c λn27 k=>∃q:Nat->Prop,gF 74 #[o,aZ n27] k λn31 r l=>af q k l/\Q (.tuple #[n31,r]) l)
def ao.xB:aD:=(.q (.s (.d 11 true [0,3000,0,0,3005,0,1009008,1010004003,512] [0,3000,0,0,3005,0,1009008,1010004003,12] [12011,9] [1,3011,2,1,3016,2,1020019,1021015014,23] (.z 10 0 (.bu 10 (.tail [.r,.r])))) (.q (.s a1 (.s (.d
 11 true [0,0,4001,0,1006005,1007000,9,9,511,512] [0,0,4001,0,1006005,1007000,9,3008] [11035,2006] [10,1,4036,6,1041040,1042035,44,3043] (.z 7 0 (.out 7 true (.bu 8 (.t 9 (.t 10 (.tail [.r,.r]))))))) .l)))))
def aa.xC(f:aq av)(e:Int)(backend:Int)(w:I)(Q:Y->I->Prop):Prop:=an (w.alloc m4) λw1=>Ez 83 #[f,e,backend] w1 λg n5 n6 ag=>ah
 (n6 !=0) (∃b:Array Y,Sem.run ai (Instr.build 36 #[]) ag=.ok (.agg b) ag/\xd ag w b Q) (ay g λfc=>aR ag (fc.add 22) λh=>k9 h n5 ag 21 λa=>b_ ag (ad w) (Array.toList a.toArray)
 /\Array.size a.toArray=21/\an (setCells ag (ad w) 0 (Array.toList a.toArray)) λc=>∃d:O Y,aV c (ad w) 0 21=some d/\Q (.tuple #[.agg d.toArray,true]) c)
def ao.xC:aD:=(.q eK)
def aa.r0(n:Int)(w:I)(Q:Y->I->Prop):Prop:=ah ((decide (n<16))||(decide (n>1600))) (Q (.tuple #[.pointer none,(1:Int)]) w) (((0:Int)<=n/\n<=n/\n<=j7/\((256:Nat):Int)*n<=
 140737488355328)/\an (w.alloc (.cells (hL ai 300 (n.toNat)) 300)) λw1=>∃m2:aq Nat,∃a:I,Sem.run ai (Instr.makeMap 215 none) w1=.ok (.map m2) a/\∃fk:
 Array Y,Sem.run ai (Instr.build 219 #[(1,.slice (some (ad w)) (n.toNat) (n.toNat)),(2,.map m2)]) a=.ok (.agg fk) a/\an (a.alloc (.cells fk 219)) λaF=>xs a λdF=>eM
 89 #[.pointer (some dF)] aF λb=>Q (.tuple #[.pointer (some (ad a)),(0:Int)]) b)
def ao.r0:aD:=(.q (.s eV fR))
def aa.p5(d:aq av)(m:Int)(n:Int)(o:Int)(w:I)(Q:Y->I->Prop):Prop:=an (w.alloc (.cells #[m,n,aZ o] 113)) λw1=>r1 w1
 (ad w) λbB=>bh w1 w 1 λp=>dJ w1 w 2 λbk=>bF 90 #[d,.agg #[bB,p,aZ bk]] w1 λq aF=>ah (!q) (Q (.tuple #[.pointer none,(1:Int)]) aF) (b4 92 #[d]
 aF λn10 r=>gM 91 #[n10,(3:Int)] r λh n14 i=>ah (n14 !=0) (Q (.tuple #[.pointer none,n14]) i) (bn 94 #[h] i λs t=>eG 93 #[(2:Int),.agg #[(4:Int),aZ 1,s]] t λu n21 bJ=>ah (n21 !=0) (Q (.tuple #[.pointer none,n21]) bJ) (((0:Int)<=256/\(256:Int)<=256/\(256:Int)<=j7/\((1:Nat):Int)*256<=
 140737488355328)/\an (bJ.alloc (.cells (hL ai 5 (Int.toNat 256)) 5)) λbm=>∃j:Array Y,Sem.run ai (Instr.build 228 #[(0,.slice (some (ad bJ)) (Int.toNat 256) (Int.toNat 256)),(1,
 .slice (some (ad bJ)) (Int.toNat 256) (Int.toNat 256)),(2,u)]) bm=.ok (.agg j) bm/\dj 0 bm λv k n26 f=>ah (decide (n26<3)) (((0:Int)<=n26/\n26<((3:Nat):Int))/\∃e:ae,cellAt
 j (n26.toNat*1)=some (.slice e.a e.len e.cap)/\b4 95 #[d,n26,e] f λn31 g=>ah (n31 !=0) (Q (.tuple #[.pointer none,n31]) g) (v (al
 (n26+1)) g/\k (al (n26+1)) g<k n26 f)) (b4 96 #[d] f λn34 b=>ah (n34 !=0) (Q (.tuple #[.pointer none,n34]) b) (an (b.alloc ux) λx=>bH x (ad b) [(0:Int),
 .int .i64 0,(2:Int),aZ 0,aZ 0,(0:Int)] 6 λcC=>r1 cC (ad b) λn37=>bh cC b 1 λn38=>bh cC b 2 λn39=>dJ cC b 3 λn40=>dJ cC b 4 λn41=>bh cC b 5 λy=>b4 97
 #[d,.agg #[n37,n38,n39,aZ n40,aZ n41,y],aZ 1] cC λl c=>ah (l !=0) (Q (.tuple #[.pointer none,l]) c) (r1 c (ad w) λz=>bh c w 1 λA=>dJ
 c w 2 λB=>r1 c (ad b) λC=>bh c b 1 λD=>bh c b 2 λE=>dJ c b 3 λF=>dJ c b 4 λG=>bh c b 5 λH=>gM 98 #[d,.agg #[z,A,aZ B],.agg #[C,D,E,aZ F,aZ G,H],aZ 1,h] c λJ K L=>Q (.tuple #[J,K]) L))))))
def ao.p5:aD:=(.q (.s a1 (.q (.s a1 (.q (.s a1 (.q (.s (.q (.bj (.loop [(44,(.int .i64))] [0,3,6,43] a22))) (.s (.q a1) (.q (.s (.q a1) (.q .l))))))))))))
theorem aa.I6(d:aq av)(a:Int)(b:Int)(c:Int)(w:I)(Q:Y->I->Prop)(h:aa.p5 d a b c w Q):aC ai 44 #[d,.agg #[a,b,.int .u64 c]] w Q:=okF (λw Q=>aa.p5 d a b c w Q) ao.p5 func44 h
def aa.r2(s:aq av)(most:Int)(w:I)(Q:Y->I->Prop):Prop:=ah (((Option.isNone s)||(decide (most<1)))||(decide (most>400))) (Q (.tuple #[.pointer none,(1:Int)]) w) (an (w.alloc (.cells
 #[s,most] 164)) λw1=>Q (.tuple #[.pointer (some (ad w)),(0:Int)]) w1)
def ao.r2:aD:=a5
def aa.nN(most:Int)(w:I)(Q:Y->I->Prop):Prop:=ah ((decide (most<1))||(decide (most>4096))) (Q (.tuple #[.pointer none,(1:Int)]) w) (∃m1:aq Nat,∃ag:I,Sem.run ai (Instr.makeMap
 157 none) w=.ok (.map m1) ag/\∃b:aq Nat,∃a:I,Sem.run ai (Instr.makeMap 158 none) ag=.ok (.map b) a/\an (a.alloc (.cells #[most,.map m1,.map b]
 160)) λaF=>Q (.tuple #[.pointer (some (ad a)),(0:Int)]) aF)
def ao.nN:aD:=(.q (.s eV (.q .l)))
def aa.r3(du:Int)(iJ:Int)(w:I)(Q:Y->I->Prop):Prop:=bF 99 #[du] w λe w1=>a_ (λb:aj->I->Prop=>ah (!e) (b true w1) (bF 99 #[iJ] w1
 λf aF=>b (!f) aF)) (λ(g:aj) c=>ah g (Q (.tuple #[.pointer none,(1:Int)]) c) (∃d:aq Nat,∃a:I,Sem.run ai (Instr.makeMap 195 none) c=.ok (.map d) a/\an
 (a.alloc (.cells #[du,iJ,.map d] 201)) λh=>Q (.tuple #[.pointer (some (ad a)),(0:Int)]) h))
def ao.r3:aD:=(.q (.s g9 (.q .l)))
def aa.nO(a:aq av)(j_:Int)(w:I)(Q:Y->I->Prop):Prop:=ah (((Option.isNone a)||(decide (j_<1)))||(decide (j_>64))) (Q (.tuple #[.pointer none,(1:Int)]) w) (an (w.alloc (.cells
 #[a,(),j_] 178)) λw1=>Q (.tuple #[.pointer (some (ad w)),(0:Int)]) w1)
def ao.nO:aD:=a5
def aa.uJ(f:aq av)(s:Array Y)(w:I)(Q:Y->I->Prop):Prop:=an (w.alloc (.cells s 34)) λw1=>a_ (λb9:aj->I->Prop=>ah (Option.isNone f) (b9 true w1) (∃i:
 O Y,aV w1 (ad w) 0 23=some i/\bF 101 #[.agg i.toArray] w1 λE F=>b9 (!E) F)) (λ(G:aj) j=>ah G (Q (1:Int) j) (bC j λe k=>ay f λfv=>¬k fv.block/\∃l:aq Nat,
 e.cell? fv=some (.map l)/\¬k ((ad w):av).block/\r1 e (ad w) λn13=>∃H:aq av,∃m:aj,∃n:I,Sem.run ai (Instr.lookup 123 (.map l) n13 true) e=.ok
 (.tuple #[H,m]) n/\bC n λc d=>ay f λlR=>¬d (lR.add 1).block/\∃o:aq Nat,c.cell? (lR.add 1)=some (.map o)/\¬d ((ad w):av).block/\∃p:O Y,aV c (ad w) 0
 23=some p/\mq 79 #[.agg p.toArray] c λJ bm=>af d c bm/\∃n25:Int,∃q:aj,∃b:I,Sem.run ai (Instr.lookup 124 (.map o) (.agg J) true) bm=.ok (.tuple #[n25,q]) b/\af d bm b/\ah (m||q) (Q (7:Int) b) (ay f λK=>∃r:aq Nat,b.cell? K=some (.map r)/\∃n30:Int,∃cx:I,Sem.run ai (Builtin.len_ #[123]
 3 #[.map r]) b=.ok n30 cx/\ah (decide (n30>=8)) (Q (2:Int) cx) (st cx ((ad w).add 22) () λL=>bC L λbO a=>ay f λt=>¬a t.block/\∃g:aq Nat,bO.cell?
 t=some (.map g)/\¬a ((ad w):av).block/\r1 bO (ad w) λn37=>ay f λu=>¬a (u.add 1).block/\∃h:aq Nat,bO.cell? (u.add 1)=some (.map h)/\¬a ((ad w):av).block/\∃v:O Y,aV
 bO (ad w) 0 23=some v/\¬a ((ad w):av).block/\r1 bO (ad w) λn41=>mq 79 #[.agg v.toArray] bO λM x=>af a bO x/\∃ (N:Y) (y:Int) (z:I),Sem.run ai (Instr.mapEntry
 123 (.map g) n37) x=.ok (.tuple #[N,y]) z/\∃A:I,Sem.run ai (Instr.entryStore 123 (.map g) y (.pointer (some (ad w)))) z=.ok
 () A/\∃ (P:Y) (B:Int) (C:I),Sem.run ai (Instr.mapEntry 124 (.map h) (.agg M)) A=.ok (.tuple #[P,B]) C/\∃D:I,Sem.run ai (Instr.entryStore
 124 (.map h) B n41) C=.ok () D/\Q (0:Int) D))))
def ao.uJ:aD:=(.q (.s fc (.s (.d 11 true [0,3000,0,5,1005003,2006,8,509,511] [0,3000,0,5,1005003,2006,3007] [7017,17,2024,2005] [1,3017,4,22,1022020,24,17,17,2024] (.z 6 0 (.out 6 false (.z 4 7 .e)))) (.s (.d 11 true
 [0,3000,0,5,1005003,2006,8,509,511] [0,3000,0,5,1005003,2006,3007] [7027,27,2034,2007] [1,3027,4,32,1032030,34,27,27,2034] (.z 5 0 (.bu 5 (.bu 6 (.z 4 7 .e))))) (.s (.bj (.s (.z [6,5]) (.c (.q .l) a1))) (.q (.s (.d 14 true
 [0,3000,0,5,0,3006,0,11,0,13,1000000011816,15,1000000060991,1000000126527,18,519] [0,3000,0,5,0,3006,0,11,0,13,1005003,15,1015003,1011009,18,1018013009] [16049,0,2065,0]
 [1,3049,4,54,1,3055,4,60,4,62,1054052,64,1064052003,1060058,66,1066062058] (.z 11 0 (.t 12 (.t 13 (.bu 11 (.tail [.r,.r,.r,.r,.r,.r])))))) (.q .l))))))))
theorem aa.I7(f:aq av)(s:Array Y)(w:I)(Q:Y->I->Prop)(h:aa.uJ f s w Q):aC ai 52 #[f,.agg s] w Q:=okF (λw Q=>aa.uJ f s w Q) ao.uJ func52 h
set_option maxRecDepth 100000
def aa.uK(f:aq av)(F:Int)(b:Array Y)(w:I)(Q:Y->I->Prop):Prop:=an (w.alloc (.cells b 36)) λw1=>ah (Option.isNone f) (Q (1:Int) w1) (ay f λa2=>∃o:
 aq Nat,w1.cell? a2=some (.map o)/\∃a:aq av,∃p:aj,∃e:I,Sem.run ai (Instr.lookup 123 (.map o) F true) w1=.ok (.tuple #[a,p]) e/\ah (!p) (Q
 (6:Int) e) (r1 e (ad w) λn7=>gF 102 #[a,n7] e λn10 G H=>a_ (λj:aj->I->Prop=>bC H λq J=>¬J ((ad w):av).block/\r1 q (ad w) λn15=>bF 103 #[n15] q λK c=>∃g:Nat->Prop,ah (!K) (a_ (λr:aj->I->Prop=>ah true (r true c) (g8 c w 18 λn21=>r (n21==0) c)) (λ(L:aj) bZ=>a_ (λs:aj->I->Prop=>ah L (s
 true bZ) (bh bZ w 19 λn25=>bF 105 #[n25] bZ λM N=>s (!M) N)) (λ(P:aj) k=>a_ (λt:aj->I->Prop=>ah P (t true k) (fb k w 20 λR=>t R k)) (λ(S:
 aj) T=>j S T)))) (¬g ((ad w).add 1).block/\∃u:O Y,aV c ((ad w).add 1) 0 17=some u/\bF 104 #[.agg u.toArray] c λU cC=>af g c cC/\ah (!U) (a_ (λv:aj->
 I->Prop=>ah true (v true cC) (g8 cC w 18 λn40=>v (n40==0) cC)) (λ(V:aj) l=>a_ (λx:aj->I->Prop=>ah V (x true l) (bh l w 19 λW=>bF 105 #[W] l λX
 Z=>x (!X) Z)) (λ(ab:aj) m=>a_ (λy:aj->I->Prop=>ah ab (y true m) (fb m w 20 λac=>y ac m)) (λ(ag:aj) ak=>j ag ak)))) (EH g cC w 1 λal=>ay a λam=>A5 g
 cC (am.add 1) λao=>a_ (λz:aj->I->Prop=>ah (!(al==ao)) (z true cC) (g8 cC w 18 λap=>z (ap==0) cC)) (λ(ar:aj) ib=>a_ (λA:aj->I->Prop=>ah ar (A true ib) (bh ib w
 19 λau=>bF 105 #[au] ib λaw ax=>A (!aw) ax)) (λ(az:aj) n=>a_ (λB:aj->I->Prop=>ah az (B true n) (fb n w 20 λaA=>B aA n)) (λ(aB:aj) aC=>j aB
 aC)))))) (λ(aD:aj) d=>ah aD (Q (1:Int) d) (ah G (Q (7:Int) d) (ay a λaE=>aR d (aE.add 22) λaF=>ah (decide ((aF.len:Int)>=16)) (Q (2:Int) d) (bC d λdt h=>ay a λaG=>
 eU h dt (aG.add 22) λaH=>¬h ((ad w):av).block/\∃C:O Y,aV dt (ad w) 0 21=some C/\∃D:ae,∃i:I,Sem.run ai (Instr.buildSlice 32 1 #[(0,.agg C.toArray)]) dt=
 .ok D i/\af h dt i/\bn 106 #[aH,n10,D] i λaI E=>af h i E/\ay a λaJ=>st
 E (aJ.add 22) aI λaK=>Q (0:Int) aK))))))
def ao.uK:aD:=(.q (.s a1 (.q (.s a1 (.q (.s (.bj (.s (.eC [(31,.bool)] [5,7,9,10] (.d 19 true
 [0,3000,1003002,5,1005004,1006004,1007004,1008004,1009007,11,1011010,1012010,11,1014010,1015010,1016010,1017010,1018013010,1019010,1020010,22,1022021,1023021,1024021,1025021,27,1027026,1028026,1029026,1030026,1031029,33,1033032,1034032,1035032]
 [0,5000,1005004,1006004,1007004,1008004,2009,1011010,1012010,11,1014010,1015010,1016010,1017010,1018013010,1019010,2020,1022021,1023021,1024021,2025,1027026,1028026,1029026,1030026,2031,1033032,1034032,36] [36032,32]
 [6,4032,1036005,1037036,1038036,1039036,1040036,42,1042005,1043042,1044042,1042007,1046042,1047042,1048042,1049042,1050045042,1051042,53,1053005,1054053,1055053,1056053,58,1058005,1059058,1060058,1061058,1062058,64,1064005,1065064,1066064,68]
 (.t 0 (.t 1 (.out 2 true (.t 3 (.t 4 (.sp 36 (.z 14 5 (.tail [.r,.r,.r,.split 3,.r,.r,.r,.r,.split 4,.r,.r,.r,.r,.r,.split 2,.r,.r,.r])) (.t 5 (.t 6 (.bu 7 (.z 3 8 (.sp 42 (.z 8 11 (.tail [.r,.r,.r,.split 3,.r,.r,.r,
 .r,.split 4,.r,.r,.r,.r,.r,.split 2,.r,.r,.r])) (.z 8 11 (.tail [.r,.r,.r,.split 3,.r,.r,.r,.r,.split 4,.r,.r,.r,.r,.r,.split 2,.r,.r,.r]))))))))))))))) (.c (.q .l) gl))) (.s (.d 9 true
 [0,0,3001,0,0,7,1007005004,509,510,1000000001535] [0,0,3001,0,0,7,1007005004,1,10,1010008] [11077,0] [8,8,3078,10,6,84,1084082081,78,87,1087085] (.z 7 0 (.bu 7 (.bu 8 (.tail [.r,.r,.r]))))) (.q .l))))))))
theorem aa.I8(f:aq av)(a:Int)(b:Array Y)(w:I)(Q:Y->I->Prop)(h:aa.uK f a b w Q):aC ai 53 #[f,a,.agg b] w Q:=okF (λw Q=>aa.uK f a b w Q) ao.uK func53 h
def aa.r4(b:ae)(w:I)(Q:Y->I->Prop):Prop:=an (w.alloc z3) λw1=>ah ((b.len:Int)==0) (False) (bl b 0 λa2=>cG w1 (bw a2 0 1) λf=>(0:Int)<=4/\ah (((Int.fdiv f (2^(min (Int.toNat 4) 8))):
 Int)==4) (nI 110 #[b] w1 λa n7 c=>b_ c (ad w) (Array.toList a)/\Array.size a=39/\an (setCells c (ad w) 0 (Array.toList a)) λd=>∃e:O Y,aV d (ad w) 0 39=some e
 /\Q (.tuple #[.agg e.toArray,n7]) d) (False))
def ao.r4:aD:=(.q (.s (.q (.c .l .l)) (.s (.q (.bj a1)) (.q .l))))
def aa.p6(h_2:Array Y)(data:ae)(w:I)(Q:Y->I->Prop):Prop:=an (w.alloc (.cells h_2 73)) λw1=>an (w1.alloc z4) λag=>a_ (λc:Int->I->Prop=>fP ag w 1 λbk=>ah (bk==6)
 (False) (ah (bk==17) (∃d:O Y,aV ag (ad w) 0 39=some d/\uw 113 #[.agg d.toArray,data] ag λn8 n9 n10 n11 f n13 n14 g=>bH g (ad w1) [.int .u16 n8,.int .u16 n9,.int .u8 n10,
 n11,f,n13] 6 λh=>c n14 h) (c 6 ag))) (λ(n16:Int) i=>ah (n16 !=0) (False) (h6 114 #[data,(0:Int)] i λn20 bJ=>h6 114 #[data,(2:Int)] bJ λn23 j=>st j (ad w1) (.int .u16 n20) λk=>st k ((ad w1).add 1) (.int .u16 n23) λb=>fD b (ad w1) λn26=>a_ (λe:aj->I->Prop=>ah (n26==0) (e true b)
 (g8 b w1 1 λn28=>e (n28==0) b)) (λ(l:aj) a=>ah l (False) (fD a (ad w1) λn31=>g8 a w1 1 λn32=>fP a w1 2 λn33=>bh a w1 3 λn34=>fb a w1 4 λm=>bh a w1 5 λn36=>bH a
 (ad w1) [.int .u16 n31,.int .u16 n32,.int .u8 n33,n34,m,n36] 6 λn=>xb n w1 Q))))
def ao.p6:aD:=(.q (.s (.eC [(5,(.int .i64))] [1,4] (.q (.bj (.q (.c .l (.q (.c .r .r))))))) (.s (.q (.c .l .l)) (.q (.s (.s (.z [12,10]) (.c .l .l)) (.q .l))))))
def aa.xD(t:aq av)(f:Array Y)(now:Int)(w:I)(Q:Y->I->Prop):Prop:=an (w.alloc (.cells f 30)) λw1=>an (w1.alloc z9) λag=>ah (Option.isNone t) (∃bA:Array Y,
 Sem.run ai (Instr.build 93 #[]) ag=.ok (.agg bA) ag/\b_ ag (ad w1) (Array.toList bA)/\Array.size bA=22/\an (setCells ag (ad w1) 0 (Array.toList bA)) λs=>∃u:O Y,aV s (ad w1) 0 22=some u
 /\Q (.tuple #[.agg u.toArray,false]) s) (bC ag λa e=>ay t λfj=>¬e (fj.add 1).block/\∃m:aq Nat,a.cell? (fj.add 1)=some (.map m)/\¬e ((ad w):av).block/\∃n:O Y,aV a (ad w) 0 37=
 some n/\(∃g:Array Y,∃v:aj,∃b:I,Sem.run ai (Instr.lookup 157 (.map m) (.agg n.toArray) true) a=.ok (.tuple #[.agg g,v]) b/\af e a b/\an (b.alloc z9) λ
 o=>af e b o/\b_ o (ad b) (Array.toList g)/\Array.size g=22/\an (setCells o (ad b) 0 (Array.toList g)) λp=>a_ (λx:aj->I->Prop=>ah (!v) (x true p) (dJ p b 21 λn17=>x
 (decide (n17<=now)) p)) (λ(J:aj) c=>ah J (∃h:Array Y,Sem.run ai (Instr.build 93 #[]) c=.ok (.agg h) c/\b_ c (ad w1) (Array.toList h)/\Array.size h=22/\an (setCells c (ad
 w1) 0 (Array.toList h)) λy=>∃z:O Y,aV y (ad w1) 0 22=some z/\Q (.tuple #[.agg z.toArray,false]) y) (∃i:O Y,aV c (ad b) 0 22=some i/\b_ c (ad w1) (Array.toList
 i.toArray)/\Array.size i.toArray=22/\an (setCells c (ad w1) 0 (Array.toList i.toArray)) λA=>∃B:O Y,aV A (ad w1) 0 22=some B/\Q (.tuple #[.agg B.toArray,true]) A)))/\(an (a.alloc z9)
 λC=>af e a C/\∃j:Array Y,∃D:aj,∃q:I,Sem.run ai (Instr.lookup 157 (.map m) (.agg n.toArray) true) C=.ok (.tuple #[.agg j,D]) q/\b_ q (ad a)
 (Array.toList j)/\Array.size j=22/\an (setCells q (ad a) 0 (Array.toList j)) λr=>a_ (λE:aj->I->Prop=>ah (!D) (E true r) (dJ r a 21 λn32=>E (decide (n32<=now)) r)) (λ(K:aj)
 d=>ah K (∃k:Array Y,Sem.run ai (Instr.build 93 #[]) d=.ok (.agg k) d/\b_ d (ad w1) (Array.toList k)/\Array.size k=22/\an (setCells d (ad w1) 0 (Array.toList k)) λcC=>∃F:
 O Y,aV cC (ad w1) 0 22=some F/\Q (.tuple #[.agg F.toArray,false]) cC) (∃l:O Y,aV d (ad a) 0 22=some l/\b_ d (ad w1) (Array.toList l.toArray)/\Array.size l.toArray=22/\an
 (setCells d (ad w1) 0 (Array.toList l.toArray)) λG=>∃H:O Y,aV G (ad w1) 0 22=some H/\Q (.tuple #[.agg H.toArray,true]) G))))
def ao.xD:aD:=(.q (.s a1 (.s (.d 11 true [0,3000,0,1004003,2005,7,0,1000000000767,511] [0,3000,0,1004003,2005,7,0,1009007,9] [6014,14,2020,9,0,10] [1,3014,5,1018017,20,14,14,0,1020008,22] (.z 5 0 (.two 5 (.z 3 6 (.bu 9
 (.out 10 false .e))) 9 (.out 5 false (.z 3 6 (.out 10 false .e)))))) gG)))
def aa.xE(d:aq av)(g:Array Y)(w:I)(Q:Y->I->Prop):Prop:=an (w.alloc (.cells g 93)) λw1=>an (w1.alloc fQ) λag=>∃e:O Y,aV ag (ad w) 0 22=some e/\
 k_ 65 #[d,(1:Int),.agg e.toArray] ag λn6 h n8 n9 i n11 a=>an (a.alloc fQ) λj=>bH j (ad a) [n6,h,n8,n9,i,n11]
 6 λk=>bC k λb c=>ay d λg9=>eU c b (g9.add 83) λl=>¬c ((ad w).add 2).block/\∃f:O Y,aV b ((ad w).add 2) 0 17=some f/\w7 c b w 19 λn19=>eG 119
 #[l,.agg f.toArray,.int .u16 n19] b λm n23 n=>st n ((ad a).add 1) m λo=>xg o a w1 Q
def ao.xE:aD:=(.q (.q (.s (.d 14 true [0,3000,0,5,0,7,1007005003,2008,10,511,1000000006143] [0,3000,0,5,0,7,1007005003,2008,10,0,1012010] [9010,10,3019,0] [1,3010,4,15,4,17,1017015013,19,10,10,6,1021019] (.z 8 0 (.out 8 false
 (.z 4 9 (.out 13 false .fin))))) (.q .l))))
def aa.oV(a:Array Y)(bits:Int)(w:I)(Q:Y->I->Prop):Prop:=an (w.alloc (.cells a 27)) λw1=>an (w1.alloc nL) λag=>∃c:O Y,aV ag (ad w) 0 17=some c/\gh 120
 #[.agg c.toArray,bits] ag λb g d=>b_ d (ad w1) (Array.toList b)/\Array.size b=18/\an (setCells d (ad w1) 0 (Array.toList b)) λe=>∃f:O Y,aV e (ad w1) 0 18=some f/\Q (.tuple #[.agg
 f.toArray,g]) e
def ao.oV:aD:=(.q (.q .l))
theorem aa.I9(a:Array Y)(bits:Int)(w:I)(Q:Y->I->Prop)(h:aa.oV a bits w Q):aC ai 61 #[.agg a,bits] w Q:=okF (λw Q=>aa.oV a bits w Q) ao.oV func61 h
def aa.p7(a:aq av)(w:I)(d:av)(e:aj)(n35:Int)(cC:I)(Q:Y->I->Prop):Prop:=ay a λf=>st cC (f.add 107) n35 λg=>an (g.drew) λb=>ah e
 (ay a λh=>¬False/\∃c:aq av,b.cell? h=some (c)/\ay a λi=>¬False/\r1 b (i.add 84) λj=>¬False/\r1 b (d.add 19) λk=>bF 123 #[c,j,
 k] b λl m=>ah l (False) (Ba m a w Q)) (ah false (False) (Ba b a w Q))
def aa.xF(c:aq av)(p:Array Y)(w:I)(Q:Y->I->Prop):Prop:=an (w.alloc (.cells p 52)) λw1=>ay c λa2=>∃q:aq av,w1.cell? a2=some (q)/\ay q λa4
 =>∃r:aq av,w1.cell? (a4.add 7)=some (r)/\g7 27 #[r] w1 λt u=>bF 121 #[t] u λv x=>ah v (False) (bC x λb a=>ay c λfS=>¬a
 fS.block/\∃s:aq av,b.cell? fS=some (s)/\ay s λg9=>¬a (g9.add 7).block/\∃e:aq av,b.cell? (g9.add 7)=some (e)/\ay c λfR=>e5 a b (fR.add 84) λn19=>¬
 a ((ad w):av).block/\∃f:O Y,aV b (ad w) 0 18=some f/\ay c λe6=>¬a e6.block/\∃g:aq av,b.cell? e6=some (g)/\(fq 25 #[g] b λn25 bZ=>af a
 b bZ/\(w4 122 #[e,n19,.agg f.toArray,aZ n25] bZ λh y n30 d=>af a bZ d/\an (d.alloc ld) λcx=>af a d cx/\b_ cx (ad d) (Array.toList h)/\Array.size
 h=21/\an (setCells cx (ad d) 0 (Array.toList h)) λz=>aa.p7 c w (ad d) y n30 z Q)/\(an (bZ.alloc ld) λi=>af a bZ i/\w4 122 #[e,n19,.agg
 f.toArray,aZ n25] i λj A B k=>af a i k/\b_ k (ad bZ) (Array.toList j)/\Array.size j=21/\an (setCells k (ad bZ) 0 (Array.toList j)) λdt=>aa.p7 c w (ad bZ) A B dt Q))/\
 (an (b.alloc ld) λl=>af a b l/\fq 25 #[g] l λC m=>af a l m/\w4 122 #[e,n19,.agg f.toArray,aZ C] m λn D E o=>af a m
 o/\b_ o (ad b) (Array.toList n)/\Array.size n=21/\an (setCells o (ad b) 0 (Array.toList n)) λF=>aa.p7 c w (ad b) D E F Q))
def ao.xF:aD:=(.q (.s (.q (.c .l .l)) (.s (.d 26 true [0,6000,0,4007,0,0,4013,1000000137280,2018,20,20,0,1000010485759,1000029360127,526] [0,6000,0,4007,0,0,4013,1000000137280,2018,20,20,0,1023020,2021] [19035,35,3054,7,0,2007]
 [1,6035,1,4042,4,1,4048,4717904883159040,54,35,35,35,0,1054006,2055] (.z 17 0 (.two 17 (.two 18 (.z 4 19 (.bu 23 (.out 24 false (.t 25 .e)))) 23 (.bu 18 (.z 4 19 (.out 24 false (.t 25 .e))))) 23 (.bu 17 (.bu 18 (.z 4 19 (.out 24 false
 (.t 25 .e)))))))) (.q (.s (.s (.e 13 false [0,1,2,1002001,1003001,1004001,2,1006001,1007001,1008001,1009001,2,1011001,1000000005154,1013001] [15061]
 [8,62,1062000,1063062,1064062,1065062,1062000,1067062,1068062,1069062,1070062,1062006,1072062,11884314870487378628608,1074062] (.t 0 (.t 1 (.sp 62 (.z 11 2 (.tail [.r,.r])) (.z 11 2 (.tail [.r,.r])))))) (.c .l .l)) (.s (.d 13 true
 [0,3000,0,4004,0,1009008003,11,11,513,514] [0,3000,0,4004,0,1009008003,11,3010] [13078,2004] [1,3078,1,4082,4,1087086081,89,3088] (.z 10 0 (.out 10 false (.t 11 (.t 12 (.tail [.r,.r])))))) .l))))))
def aa.uL(b:aq av)(d:I->Prop)(h:av)(i:I)(Q:Y->I->Prop):Prop:=an (i.drew) λa=>ay b λj=>¬False/\∃e:aq av,a.cell? j=some (e)/\
 ay e λk=>¬False/\∃f:aq av,a.cell? (k.add 7)=some (f)/\¬False/\∃g:O Y,aV a h 0 21=some g/\b4 124 #[f,.agg g.toArray] a λl c=>ay b
 λm=>r1 c (m.add 107) λn=>ah (n==0) (ay b λo=>st c (o.add 107) l λp=>d p) (d c)
def aa.uM(b:aq av)(id:Int)(w:I)(w1:I)(e:av)(bO:I)(Q:Y->I->Prop):Prop:=a_ (λk:I->Prop=>r1 bO (e.add 20) λn35=>fq 116 #[n35]
 bO λn38 cC=>ah (decide (n38>0)) (ay b λL=>∃q:aq av,cC.cell? L=some (q)/\fq 25 #[q] cC λM N=>st N (e.add 21) (.int .u64 (IntKind.wrap .u64 (M+n38))) λ
 P=>bC P λd f=>ay b λr=>¬f r.block/\∃s:aq av,d.cell? r=some (s)/\ay s λt=>¬f (t.add 8).block/\∃u:aq av,d.cell? (t.add 8)=some (u)/\ay
 b λv=>¬f ((v.add 1).add 45).block/\∃x:O Y,aV d ((v.add 1).add 45) 0 37=some x/\¬f e.block/\∃y:O Y,aV d e 0 22=some y/\ay b λz=>¬f z.block/\∃A:
 aq av,d.cell? z=some (A)/\fq 25 #[A] d λR B=>af f d B/\b4 118 #[u,.agg x.toArray,.agg y.toArray,aZ R] B λC S=>ah (C==2)
 (False) (ah (C==7) (False) (bC S λa c=>e5 c a e λD=>¬c ((ad w):av).block/\∃l:O Y,aV a (ad w) 0 18=some l/\ay b λE=>¬c E.block/\∃m:aq av,a.cell? E=
 some (m)/\ay b λT=>nK c a ((T.add 84).add 21) λF=>(fq 25 #[m] a λU g=>af c a g/\∃h:Array Y,(∀G:I,Sem.run ai (Instr.build 212
 #[(0,D),(1,.agg l.toArray),(2,id),(3,.int .u64 (IntKind.wrap .u64 (U+F)))]) G=.ok (.agg h) G)/\an (g.alloc ld) λn=>af c g n/\b_ n (ad g) (Array.toList h)/\
 Array.size h=21/\an (setCells n (ad g) 0 (Array.toList h)) λdt=>aa.uL b k (ad g) dt Q)/\(an (a.alloc ld) λo=>af c a o/\fq 25 #[m] o λV p=>af c o
 p/\∃i:Array Y,(∀H:I,Sem.run ai (Instr.build 212 #[(0,D),(1,.agg l.toArray),(2,id),(3,.int .u64 (IntKind.wrap .u64 (V+F)))]) H=.ok (.agg i) H)/\b_
 p (ad a) (Array.toList i)/\Array.size i=21/\an (setCells p (ad a) 0 (Array.toList i)) λW=>aa.uL b k (ad a) W Q)))) (k cC)) (λJ=>∃K:O Y,aV J e 0 22=some K/\
 k_ 60 #[b,.agg K.toArray] J λX Z ab ac ae ag j=>an (j.alloc fQ) λaj=>bH aj (ad j) [X,Z,ab,ac,ae,ag] 6 λak=>st ak ((ad j).add 4) true λal=>xg al j w1 Q)
def aa.uN(d:aq av)(id:Int)(w:I)(w1:I)(eK:av)(bJ:I)(Q:Y->I->Prop):Prop:=bC bJ λa b=>ay d λe6=>e5 b a (e6.add 84) λn22=>¬b (eK.add
 1).block/\∃g:O Y,aV a (eK.add 1) 0 17=some g/\oQ b a (eK.add 18) λn24=>(b4 115 #[d,(0:Int),true] a λn27 c=>af b a c/\∃e:Array Y,(∀k:
 I,Sem.run ai (Instr.build 93 #[(0,n22),(1,id),(2,.agg g.toArray),(3,.int .u16 n24),(4,n27)]) k=.ok (.agg e) k)/\an (c.alloc z9) λh=>af b c h/\b_
 h (ad c) (Array.toList e)/\Array.size e=22/\an (setCells h (ad c) 0 (Array.toList e)) λcx=>aa.uM d id w w1 (ad c) cx Q)/\(an (a.alloc z9) λi=>af b a i/\b4 115
 #[d,(0:Int),true] i λm j=>af b i j/\∃f:Array Y,(∀l:I,Sem.run ai (Instr.build 93 #[(0,n22),(1,id),(2,.agg g.toArray),(3,.int
 .u16 n24),(4,m)]) l=.ok (.agg f) l)/\b_ j (ad a) (Array.toList f)/\Array.size f=22/\an (setCells j (ad a) 0 (Array.toList f)) λn=>aa.uM d id w w1 (ad a) n
 Q)
def aa.xG(d:aq av)(p:Array Y)(id:Int)(w:I)(Q:Y->I->Prop):Prop:=an (w.alloc (.cells p 52)) λw1=>an (w1.alloc fQ) λag=>bC ag λa b=>ay d λa5=>¬b
 a5.block/\∃k:aq av,a.cell? a5=some (k)/\ay k λeV=>¬b (eV.add 6).block/\∃e:aq av,a.cell? (eV.add 6)=some (e)/\ay d λa9=>e5 b a (a9.add 84) λn10=>(gh
 40 #[e,n10,id] a λf n c=>af b a c/\an (c.alloc m4) λg=>af b c g/\b_ g (ad c) (Array.toList f)/\Array.size f=21/\an (setCells g (ad c) 0
 (Array.toList f)) λl=>aa.uN d id w w1 (ad c) l Q)/\(an (a.alloc m4) λh=>af b a h/\gh 40 #[e,n10,id] h λi o j=>af b h j
 /\b_ j (ad a) (Array.toList i)/\Array.size i=21/\an (setCells j (ad a) 0 (Array.toList i)) λm=>aa.uN d id w w1 (ad a) m Q)
def ao.xG:aD:=(.q (.s (.d 19 true [0,6000,0,4007,0,1012011006,2013,15,0,1000000196607,519] [0,6000,0,4007,0,1012011006,2013,15,0,1017015,17] [14015,15,2029,8,0,9] [1,6015,1,4022,3,1027026021,29,15,15,0,1029007,31] (.z 13 0
 (.two 13 (.z 3 14 (.bu 17 (.out 18 false .e))) 17 (.bu 13 (.z 3 14 (.out 18 false .e)))))) (.s (.d 14 true [0,4000,0,0,7,0,9,0,11,1000000002736,0,514] [0,4000,0,0,7,0,9,0,11,1000000002736,0,1013012] [13031,10,0]
 [1,4031,3,8,38,8,40,1,42,6875515260928,0,1043009] (.z 11 0 (.two 11 (.t 12 (.bu 13 .e)) 13 (.bu 11 (.t 12 .e))))) (.s (.eC [] [0,6,9] (.q (.q (.c (.q (.s (.s (.e 18 true [0,6000,0,4007,0,0,4013,1000000137280] [19057]
 [1,6057,1,4064,10,1,4070,19784133020053494108160] (.z 17 0 (.bu 17 .e))) (.bj (.q (.c .l (.q (.c .l .l)))))) (.s (.d 17 true [0,1,0,0,0,4004,0,4009,1013008,1000000016398,0,517] [0,1,0,0,0,4004,0,4009,1013008,1000000016398,0,1016015]
 [16096,12,0] [10,97,5,3,1,4100,1,4105,1109104,1299183408908906607859933697609728,0,1111011] (.z 8 0 (.z 5 9 (.two 8 (.t 14 (.t 15 (.bu 16 .e))) 16 (.bu 8 (.t 14 (.t 15 .e))))))) (.s (.d 8 false [0,6000,0,1007006,509] [0,6000,0,1007006,9]
 [9112,13] [1,6112,12,1119118,121] (.z 8 0 (.tail [.r,.r]))) (.q (.c .r .l)))))) .l)))) fR))))
def aa.Bw(s:aq av)(w:I)(Q:Y->I->Prop):Prop:=ah (Option.isNone s) (Q (aZ 0) w) (ay s λa1=>dC w (a1.add 14) λbB=>Q (aZ bB) w)
def ao.Bw:aD:=eK
def aa.xH(b:aq av)(c:Int)(d:Array Y)(w:I)(Q:Y->I->Prop):Prop:=an (w.alloc (.cells d 93)) λw1=>an (w1.alloc fQ) λag=>an (ag.drew) λa=>¬False/\r1 a
 (ad w) λbk=>¬False/\bh a w 1 λn5=>ay b λdF=>¬False/\r1 a (dF.add 107) λn7=>bH a (ad w1) [c,(),bk,n5,false,n7] 6 λe=>mv e w1 Q
def ao.xH:aD:=(.q (.s (.d 9 false [0,0,2,0,4,0,3005,1000000000277,510] [0,0,2,0,4,0,3005,1000000000277,10] [10007,0] [2,6,9,6,11,1,3012,1000000035456,1016006] (.z 9 0 (.tail [.r,.r]))) .l))
set_option maxRecDepth 100000
def aa.xI(s:aq av)(w:I)(Q:Y->I->Prop):Prop:=ay s λa1=>∃bI:aq av,w.cell? (a1.add 3)=some (bI)/\j8 126 #[bI] w λn5 n6 o=>ah (n6 !=0)
 (b4 127 #[s,n6] o λn9 F=>Q n9 F) (an (o.drew) λh=>ay s λfv=>¬False/\∃p:aq av,h.cell? (fv.add 3)=some (p)/\ay s λgx=>¬False/\r1 h
 ((gx.add 7).add 2) λn14=>b4 128 #[p,n14] h λn17 G=>bC G λbJ d=>ay s λgl=>nK d bJ (gl.add 13) λn21=>ay s λa22=>¬d (a22.add 3).block/\∃q:aq av,
 bJ.cell? (a22.add 3)=some (q)/\bn 94 #[q] bJ λH i=>af d bJ i/\∃r:Array Y,(∀t:I,Sem.run ai (Instr.build 227 #[(0,.int .i64 4),(1,.int .u64
 (IntKind.wrap .u64 (n21+1))),(2,H)]) t=.ok (.agg r) t)/\eG 93 #[n5,.agg r] i λJ n32 e=>af d i e/\ah (n32 !=0) (b4 127 #[s,n32] e λn35 bO=>Q n35 bO) (ay s λK=>∃u:aq av,e.cell? (K.add 2)=some (u)/\b4 129 #[u,n5,J] e λn40 j=>ah
 (n40 !=0) (b4 127 #[s,n40] j λL M=>Q L M) (ay s λN=>∃v:aq av,j.cell? (N.add 2)=some (v)/\b4 130 #[v] j λ
 x k=>ah (x !=0) (b4 127 #[s,x] k λO P=>Q O P) (ay s λR=>∃y:aq av,k.cell? R=some (y)/\j8 131 #[y] k
 λS T U=>bC U λa f=>ay s λV=>nK f a (V.add 14) λW=>ay s λX=>nK f a ((X.add 7).add 4) λZ=>ay s λab=>e5 f a (ab.add 17) λac=>∃g:Array Y,(∀z:I,
 Sem.run ai (Instr.build 169 #[(0,S),(1,T),(2,n5),(3,aZ W),(4,.int .u64 (IntKind.wrap .u64 (Z+1))),(5,ac)]) z=.ok (.agg g) z)/\an (a.alloc ux) λl
 =>af f a l/\b_ l (ad a) (Array.toList g)/\Array.size g=6/\an (setCells l (ad a) 0 (Array.toList g)) λae=>an (ae.drew) λb=>ay s λag=>¬False/\∃A:aq av,b.cell? (ag.add 1)=
 some (A)/\¬False/\r1 b (ad a) λaj=>bh b a 1 λak=>bh b a 2 λal=>dJ b a 3 λam=>dJ b a 4 λao=>bh b a 5 λap=>ay s λar=>¬False/\dC b (ar.add 13) λau=>
 b4 97 #[A,.agg #[aj,ak,al,aZ am,aZ ao,ap],.int .u64 (IntKind.wrap .u64 (au+1))] b λB m=>ah (B !=0) (b4 127 #[s,B] m λaw ax=>Q aw ax) (ay s λaz=>∃C:aq av,m.cell? (az.add 3)=some (C)/\eM 132 #[C] m λaA=>bC aA λc D=>¬D ((ad a):
 av).block/\r1 c (ad a) λaB=>bh c a 1 λaC=>bh c a 2 λaD=>dJ c a 3 λaE=>dJ c a 4 λaF=>bh c a 5 λaG=>ay s λaH=>nK D c (aH.add 13) λaI=>ay s λaJ=>bH
 c (aJ.add 7) [aB,aC,aD,aZ aE,aZ aF,aG] 6 λaK=>ay s λaL=>st aK (aL.add 13) (.int .u64 (IntKind.wrap .u64 (aI+1))) λaM=>ay s λaN=>st aM (aN.add 16)
 (0:Int) λaO=>an (aO.drew) λn=>ay s λaP=>¬False/\∃E:aq av,n.cell? aP=some (E)/\ay s λaQ=>¬False/\dC n (aQ.add 13) λaR=>eM 133 #[.pointer
 E,.int .u64 (IntKind.wrap .u64 (aR+1))] n λaS=>Q (0:Int) aS)))))
def ao.xI:aD:=(.q (.q (.s a1 (.s (.e 9 false [0,3000,0,4004,1008003] [10025] [1,3025,1,4029,1033028] (.z 9 0 .e)) (.s (.d 17 true [0,0,4001,0,4006,1010005,1011010000,2012,14,515,517]
 [0,0,4001,0,4006,1010005,1011000,2012,3013] [13036,36,2049,6,5] [4,1,4037,1,4042,1046041,1047036,49,36,36,2049] (.z 10 0 (.bu 10 (.t 11 (.bu 12 (.z 4 13 .e)))))) (.s a1 (.s (.q a1) (.s (.q a1) (.q (.s (.d 19 true
 [0,0,0,0,3003,0,5007,0,3013,1000000069703,0,519] [0,0,0,0,3003,0,5007,0,3013,1000000069703,0,1018017] [18086,11,0] [2008,4,1,3089,1,5093,1,3099,5393008409894303832330853486592,0,1103010] (.z 18 0 (.bu 18 .e))) (.s (.s (.d 10 false
 [0,3000,0,0,4005,1009004003,511] [0,3000,0,0,4005,1009004003,11] [11104,12] [1,3104,11,1,4109,1113108107,115] (.z 10 0 (.tail [.r,.r]))) a1) (.q (.s (.d 15 true
 [0,0,0,0,0,4004,1007003000,1000000000649,1000000001161,1000000004091,1000000008187,1000000012283,515,516,1000000098303] [0,0,0,0,0,4004,1,10,1010003,2,13,1013008,3,2015] [11125,0,2136,0,2138,0]
 [1,1,1,11,1,4129,126,135,1135128,127,137,1137133,128,2138] (.z 11 0 (.out 11 false (.t 12 (.t 13 (.out 14 false (.tail [.r,.r,.r]))))))) (.s (.e 9 false [0,3000,0,4004,1008003] [10140] [1,3140,1,4144,1148143] (.z 9 0 .e)) (.q
 .l)))))))))))))))
def aa.xJ(f:aq av)(n:Int)(down:ae)(w:I)(Q:Y->I->Prop):Prop:=ah (Option.isNone f) (Q () w) (ay f λa1=>∃m2:aq Nat,w.cell? a1=some (.map m2)/\∃e:aq
 av,∃g:aj,∃aF:I,Sem.run ai (Instr.lookup 123 (.map m2) n true) w=.ok (.tuple #[e,g]) aF/\ah (!g) (Q () aF) (ay e λdF=>aR aF (dF.add 22)
 λh=>mu ⟨none,0,0⟩ 0 aF λo i c n11 a=>ah (decide (n11<(h.len:Int))) (a_ (λj:ae->I->Prop=>k9 h n11 a 21 λp=>w2 a m4 p 21 λd=>fb d a 20 λq=>a_ (λk:aj->I->
 Prop=>ah (!q) (r1 d (ad a) λn20=>bF 138 #[down,n20] d λr s=>k (!r) s) (k false d)) (λ(t:aj) b=>ah t (r1 b (ad a) λn26=>
 bh b a 19 λn27=>an (b.alloc (.cells #[n26,n27] 269)) λu=>ap 179 c (.slice (some (ad b)) 1 1) u λv x=>j v x) (j c b))) (λ
 (l:ae) m=>o l (al (n11+1)) m/\i l (al (n11+1)) m<i c n11 a)) (Q c a)))
def ao.xJ:aD:=(.q (.s a1 (.q (.s a1 (.q (.s (.q (.bj (.loop [(9,.slice),(30,(.int .i64))] [2,28,29] (.q (.s (.c .l .l) (.s (.eC [(9,.slice)] [2,28,29,30] (.bj (.q (.s (.z [12,16]) (.c .r .l))))) .r)))))) (.q
 .l)))))))
def aa.xK(h_2:aq av)(service:Int)(w:I)(Q:Y->I->Prop):Prop:=ah (Option.isNone h_2) (Q () w) (ay h_2 λa1=>∃m2:aq Nat,w.cell? (a1.add 2)=some (.map m2)/\∃ (d:
 Y) (p:I),Sem.run ai (Instr.range 195 (.map m2)) w=.ok d p/\EF ⟨none,0,0⟩ p λi b a c=>(∃ (z:Y) (A:Y) (l:I),Sem.run ai (Instr.next (d) false 0) c
 =.ok (.tuple #[true,z,A]) l/\ah true (∃n12:Int,∃n13:Int,∃q:aj,∃n15:Int,∃e:I,Sem.run ai (Instr.entry (d)) l=.ok (.tuple #[.agg #[n12,n13],.agg #[q,n15]]) e/\an (e.alloc A6) λm=>an (m.alloc A7) λbJ=>bH bJ (ad e) [n12,n13] 2 λB=>bH B (ad m) [q,n15] 2 λj=>r1 j (ad e) λn21=>a_ (λr:aj
 ->I->Prop=>ah (n21==service) (aS j (ad m) λC=>r C j) (r false j)) (λ(D:aj) f=>ah D (bh f e 1 λn26=>an (f.alloc (.cells #[n26] 3)) λE=>ap 181 a (.slice (some (ad f)) 1 1) E λs t=>i s t/\b s t<b a c) (i a f/\b a f<b a c))) (eM 139 #[a] l λF=>Q a
 F))\/(∃n:I,Sem.run ai (Instr.next (d) false 0) c=.ok (.tuple #[false]) n/\ah false (∃n33:Int,∃n34:Int,∃u:aj,∃n36:Int,∃g:I,Sem.run ai (Instr.entry (d)) n=.ok (.tuple
 #[.agg #[n33,n34],.agg #[u,n36]]) g/\an (g.alloc A6) λo=>an (o.alloc A7) λG=>bH G (ad g) [n33,n34] 2 λH=>bH H (ad o) [u,n36] 2 λk=>r1 k (ad g) λJ=>a_ (λv:aj->I->Prop=>ah (J==service) (aS k (ad o) λK=>v K k) (v false k)) (λ(L:aj) h=>ah L (bh h g 1 λM=>an (h.alloc (.cells
 #[M] 3)) λN=>ap 181 a (.slice (some (ad h)) 1 1) N λx y=>i x y/\b x y<b a c) (i a h/\b a h<b a c))) (eM 139 #[a] n λO=>Q a O)))
def ao.xK:aD:=(.q (.s a1 (.q (.s (.q (.bj (.loop [(5,.slice)] [1,14] (.q (.s (.c .l .l) (.bj (.s (.pP [.tS [(.flat [(.int .i64),(.int .i64)]),(.flat [.bool,(.int .i64)])]]) (.s (.z [15,7]) (.c .r .l))))))))) (.q
 (.q .l))))))
def aa.r5(l:ae)(size:Int)(gO:Int)(w:I)(Q:Y->I->Prop):Prop:=bF 140 #[l] w λk w1=>a_ (λf:aj->I->Prop=>ah (!k) (f true w1) (bF 141
 #[size] w1 λm aF=>f (!m) aF)) (λ(n:aj) c=>ah n (Q (.tuple #[.pointer none,(1:Int)]) c) (an (c.alloc (.cells #[.int .i64 (-1)] 3)) λo=>bn 142 #[.slice (some (ad c)) 1
 1,size] o λp b=>an (b.alloc (.cells #[p] 274)) λq=>w6 ⟨none,0,0⟩ 0 0 q λr g d n18 n19 a=>ah (decide (n19<(l.len:Int))) (bl l n19 λe6=>r1 a (bw
 e6 n19 2) λn22=>r1 a ((bw e6 n19 2).add 1) λn23=>an (a.alloc rS) λs=>bH s (ad a) [n22,n23] 2 λh=>r1 h (ad a) λn26=>g7 143 #[n26,size,aZ gO]
 h λt i=>an (i.alloc (.cells #[t] 276)) λu=>ap 275 d (.slice (some (ad i)) 1 1) u λj e=>bh e a 1 λn33=>r j (al (n18+
 n33)) (al (n19+1)) e/\g j (al (n18+n33)) (al (n19+1)) e<g d n18 n19 a) (ah (n18==0) (Q (.tuple #[.pointer (some (ad b)),(0:Int)]) a) (eM 144 #[.pointer (some (ad b)),l,d] a λv=>Q (.tuple #[.pointer (some (ad b)),(0:Int)]) v))))
def ao.r5:aD:=(.q (.s g9 (.q (.q (.q (.s (.q (.bj (.loop [(9,.slice),(10,(.int .i64)),(28,(.int .i64))] [0,1,2,8,26,27] (.q (.s (.c .l .l) (.s (.bj (.q (.q .r))) .r)))))) e6))))))
def aa.xL(t:aq av)(n:Int)(w:I)(Q:Y->I->Prop):Prop:=a_ (λbW:aj->I->Prop=>ah (Option.isNone t) (bW true w) (ay t λa2=>aR w a2 λe=>bW ((e.len:Int)==0) w)) (λ
 (f:aj) aF=>ah f (Q (.tuple #[(0:Int),false]) aF) (an (aF.drew) λb=>ay t λeV=>¬False/\aR b eV λd=>ay t λa9=>¬False/\aR b a9 λc=>((IntKind.wrap .u64 (c.len:Int)):Int)≠0/\∃fv:
 av,d.a=some fv/\((0:Int)<=(Int.tmod n (IntKind.wrap .u64 (c.len:Int)))/\(Int.tmod n (IntKind.wrap .u64 (c.len:Int)))<(d.len:Int))/\r1 b (fv.add ((Int.tmod n (IntKind.wrap .u64 (c.len:Int))).toNat*1)) λn12=>
 ah (n12 !=(-1)) (Q (.tuple #[n12,true]) b) (Q (.tuple #[(0:Int),false]) b)))
def ao.xL:aD:=(.q (.s (.s (.z [9,19]) (.c (.q .l) .l)) (.s (.s (.d 12 false [0,3000,0,0,5005,1010004,1011003,13,514] [0,3000,0,0,5005,1010004,1011003,2012] [14017,7] [1,3017,2,1,5022,1027021,1028020,2029] (.z 12 0 (.tail
 [.r,.r,.r]))) a1) (.q .l))))
def aa.r6(gO:Int)(p:Array Y)(w:I)(Q:Y->I->Prop):Prop:=an (w.alloc (.cells p 52)) λw1=>bC w1 λag a=>¬a ((ad w):av).block/\∃e:O Y,aV ag (ad w) 0 17=
 some e/\rR a ag w 17 λn5=>(bn 146 #[.agg e.toArray] ag λh b=>af a ag b/\an (b.alloc (.cells #[.int .u8 (IntKind.wrap .u8 n5)] 5)) λc=>af a b c/\an (c.alloc (.cells #[h,.slice (some (ad b)) 1 1] 31)) λg=>af a c g/\fq 145 #[aZ gO,.slice (some (ad c)) 2 2] g λn13 i=>Q (aZ n13) i)/\(an (ag.alloc (.cells #[.int .u8 (IntKind.wrap .u8 n5)] 5)) λ
 f=>af a ag f/\bn 146 #[.agg e.toArray] f λj d=>af a f d/\an (d.alloc (.cells #[j,.slice (some (ad ag)) 1 1] 31)) λbJ=>af a d bJ/\fq 145 #[aZ
 gO,.slice (some (ad d)) 2 2] bJ λn21 k=>Q (aZ n21) k)
def ao.r6:aD:=(.q (.s (.d 9 true [0,0,2,3,0,3004,1007003,1008003000,510] [0,0,2,3,0,3004,1007003,1008000,10] [10005,5] [1,4,2006,4,3009,1012008,1013005,15] (.z 3 0 (.z 3 4 (.two 3 (.bu 7 (.bu 8 (.tail [.r,.r]))) 7 (.bu 3
 (.bu 8 (.tail [.r,.r]))))))) .l))
def aa.oW(s:Array Y)(w:I)(Q:Y->I->Prop):Prop:=an (w.alloc (.cells s 34)) λw1=>an (w1.alloc (.cells #[false,.int .u8 0,.int .u8 0,.int .u8 0,.int .u8 0,.int .u8 0,.int .u8 0,
 .int .u8 0,.int .u8 0,.int .u8 0,.int .u8 0,.int .u8 0,.int .u8 0,.int .u8 0,.int .u8 0,.int .u8 0,.int .u8 0,.int .u16 0,.int .u8 0] 144)) λag=>∃b:O Y,aV ag ((ad w).add 1) 0 17=some b/\g8
 ag w 18 λbk=>fP ag w 19 λn5=>∃a:Array Y,Sem.run ai (Instr.build 144 #[(0,.agg b.toArray),(1,.int .u16 bk),(2,.int .u8 n5)]) ag=.ok (.agg a) ag/\b_ ag (ad w1) (Array.toList a)/\Array.size
 a=19/\an (setCells ag (ad w1) 0 (Array.toList a)) λc=>∃d:O Y,aV c (ad w1) 0 19=some d/\Q (.agg d.toArray) c
def ao.oW:aD:=(.q (.q .l))
theorem aa.I_(s:Array Y)(w:I)(Q:Y->I->Prop)(h:aa.oW s w Q):aC ai 79 #[.agg s] w Q:=okF (λw Q=>aa.oW s w Q) ao.oW func79 h
def aa.xM(f:aq av)(d:Int)(backend:Int)(w:I)(Q:Y->I->Prop):Prop:=ah (Option.isNone f) (Q (.tuple #[.pointer none,(0:Int),(1:Int)]) w) (ay f λa1=>∃m2:aq Nat,w.cell? a1
 =some (.map m2)/\∃a:aq av,∃b:aj,∃aF:I,Sem.run ai (Instr.lookup 123 (.map m2) d true) w=.ok (.tuple #[a,b]) aF/\ah (!b) (Q (.tuple #[.pointer none,
 .int .i64 0,(6:Int)]) aF) (gF 102 #[a,backend] aF λn8 e c=>ah (!e) (Q (.tuple #[.pointer none,(0:Int),(6:Int)]) c) (Q (.tuple #[a,n8,(0:Int)]) c)))
def ao.xM:aD:=(.q (.s a1 (.q (.s a1 eK))))
def aa.xN(f:aq av)(w:I)(Q:Y->I->Prop):Prop:=dj 0 w λe c a b=>ah (decide (a<4)) (ay f λa5=>((0:Int)<=a/\a<((4:Nat):Int))/\st b (Addr.add a5 (a.toNat*1))
 (.int .i64 (-1)) λd=>e (al (a+1)) d/\c (al (a+1)) d<c a b) (Q (.tuple #[]) b)
def ao.xN:aD:=(.q (.bj (.loop [(3,(.int .i64))] [0] a4)))
def aa.r7(d:aq av)(k:Int)(l:Int)(m:Int)(w:I)(Q:Y->I->Prop):Prop:=an (w.alloc (.cells #[k,l,aZ m] 113)) λw1=>a_ (λ
 b9:aj->I->Prop=>ah (!(Option.isNone d)) (r1 w1 (ad w) λn=>b9 (decide (n>=8)) w1) (b9 false w1)) (λ(o:aj) aF=>a_ (λf:aj->I->Prop=>ah o (r1 aF (ad w) λn7=>f (decide (n7<=64)) aF) (f false
 aF)) (λ(p:aj) a=>a_ (λg:aj->I->Prop=>ah p (bh a w 1 λn11=>g (decide (n11>=1)) a) (g false a)) (λ(q:aj) b=>a_ (λh:aj->I->Prop=>ah q (bh b w 1 λn15=>h
 (decide (n15<=1000)) b) (h false b)) (λ(r:aj) c=>a_ (λi:aj->I->Prop=>ah r (dJ c w 2 λn19=>i (decide (n19>=1)) c) (i false c)) (λ(s:aj) e=>a_ (λj:aj->I->Prop
 =>ah s (dJ e w 2 λn23=>j (decide (n23<=1048576)) e) (j false e)) (λ(t:aj) u=>Q t u))))))
def ao.r7:aD:=(.q (.s (.z [9,10,12,10,12,10,12,10,12,10,12,10]) .l))
def aa.r8(n:Int)(first:Int)(w:I)(Q:Y->I->Prop):Prop:=bF 154 #[n] w λf w1=>ah (((!f)||(decide (first<0)))||(decide (first>n))) (Q (.tuple #[.pointer none,(1:Int)])
 w1) (b4 155 #[n] w1 λn6 c=>((0:Int)<=n6/\n6<=n6/\n6<=j7/\((1:Nat):Int)*n6<=140737488355328)/\an (c.alloc (.cells (hL ai 5 (n6.toNat)) 5)) λa=>an (a.alloc (.cells
 #[n,.slice (some (ad c)) (n6.toNat) (n6.toNat),()] 294)) λg=>dj 0 g λh d n11 b=>ah (decide (n11<first)) (xs a λgx=>aR b (gx.add 1) λi=>eM 156
 #[i,n11] b λe=>h (al (n11+1)) e/\d (al (n11+1)) e<d n11 b) (eM 132 #[.pointer (some (ad a))] b λj=>Q (.tuple #[.pointer (some (ad a)),(0:Int)]) j))
def ao.r8:aD:=(.q (.s (.s (.z [12,8,9,11]) (.c (.q .l) .l)) (.q (.s (.q (.bj (.loop [(27,(.int .i64))] [6,26] a4))) (.q (.q .l))))))
def aa.xO(d:aq av)(w:I)(Q:Y->I->Prop):Prop:=ah (Option.isNone d) (Q (0:Int) w) (ay d λa1=>aR w (a1.add 4) λs2=>Q (.int .i64 (s2.len:Int)) w)
def ao.xO:aD:=eK
def aa.xP(no:Int)(u:Int)(v:Int)(x:ae)(w:I)(Q:Y->I->Prop):Prop:=an (w.alloc (.cells #[u,aZ v,x] 227)) λw1=>bF
 157 #[no] w1 λy ag=>a_ (λj:aj->I->Prop=>ah (!y) (j true ag) (r1 ag (ad w) λn6=>bF 158 #[n6] ag λz A=>j (!z) A)) (λ(B:aj) f=>ah B (Q (.tuple #[(),(1:Int)]) f) (aE f w 2 λC=>ah (decide ((C.len:Int)>232)) (Q (.tuple #[(),(10:Int)]) f) (an (f.alloc (.cells #[.int .u8 83,.int .u8 84,.int .u8 78,.int .u8 67] 5)) λD=>∃
 k:ae,∃g:I,Sem.run ai (convert 31 31 (.slice (some (ad f)) 4 4)) D=.ok k g/\r1 g (ad w) λn16=>an (g.alloc (.cells #[.int .u8 1,.int .u8 (IntKind.wrap .u8
 n16)] 5)) λl=>an (l.alloc (.cells #[k,.slice (some (ad g)) 2 2] 31)) λbJ=>bn 136 #[.slice (some (ad l)) 2 2] bJ λE m=>aE m w 2 λF=>bn 159
 #[E,.int .u64 (IntKind.wrap .u64 (F.len:Int)),(2:Int)] m λG bZ=>bn 159 #[G,aZ (IntKind.wrap .u64 no),(4:Int)] bZ λH n=>dJ n w 1 λn29=>
 bn 159 #[H,aZ n29,(8:Int)] n λo J=>a_ (λp:ae->I->Prop=>bC J λb d=>dI d b w 2 λq=>dI d b w 2 λe=>(((0:Int)<=4/\(4:Int)<=4/\(4:
 Int)<=j7/\((1:Nat):Int)*4<=140737488355328)/\an (b.alloc (.cells (hL ai 5 (Int.toNat 4)) 5)) λh=>af d b h/\(Bf e)/\an (h.alloc (.cells (hL ai 5 ((al (232-
 (e.len:Int))).toNat)) 5)) λr=>af d h r/\Bg r o b q h e p)/\((Bf e)/\an (b.alloc (.cells (hL ai 5 ((al (232-(e.len:Int))).toNat)) 5)) λi=>af d b i/\((0:
 Int)<=4/\(4:Int)<=4/\(4:Int)<=j7/\((1:Nat):Int)*4<=140737488355328)/\an (i.alloc (.cells (hL ai 5 (Int.toNat 4)) 5)) λs=>af d i s/\Bg s o i q b e p)) (λ(c:ae)
 K=>bC K λL S=>((0:Int)<=20/\20<=(c.len:Int))/\oM 160 #[c] L λM N=>∃T:Nat->Prop,bn 159 #[(),aZ (IntKind.wrap .u64 M),(4:Int)] N λ
 O P=>∃R:Int,∃t:I,Sem.run ai (Builtin.copy_ #[31,31] 3 #[.slice (aW c.a 1 (Int.toNat 20) c.cap) (c.len-(Int.toNat 20)) (c.cap-(Int.toNat 20)),O])
 P=.ok R t/\Q (.tuple #[c,(0:Int)]) t))))
def ao.xP:aD:=(.q (.s (.bj (.s (.z [12,13]) (.c (.q .l) a1))) (.q (.q (.q (.q (.s (.eC [(6,.slice)] [] (.d 9 true [0,0,0,3,0,4004,1000000000267,10,511] [0,0,0,3,0,4004,1000000000267,10,1010000] [11044,7]
 [7,0,4,47,4,4048,4698113673859072,2053] (.t 0 (.z 6 2 (.two 1 (.bu 8 (.tail [.r,.r,.r])) 8 (.bu 1 (.tail [.r,.r,.r]))))))) (.s (.d 6 true [0,1,0,2002,1004003,1005001] [0,1,0,3002,1005001] [7055] [7,56,7,3057,1060056] (.z 3 0 (.out 3
 true (.t 4 (.out 5 false .e))))) (.q .l)))))))))
def aa.uO(s:aq av)(w:I)(Q:Y->I->Prop):Prop:=ah (Option.isNone s) (Q () w) (ay s λa1=>aR w (a1.add 1) λs2=>bn 161 #[s2]
 w λa b=>Q a b)
def ao.uO:aD:=eK
theorem aa.Ja(s:aq av)(w:I)(Q:Y->I->Prop)(h:aa.uO s w Q):aC ai 94 #[s] w Q:=okF (λw Q=>aa.uO s w Q) ao.uO func94 h
def aa.xQ(d:aq av)(i:Int)(b:ae)(w:I)(Q:Y->I->Prop):Prop:=bF 162 #[d,i] w λr w1=>ah ((!r)||((b.len:Int) !=256)) (Q (1:Int) w1) (ay d λa4
 =>bF 163 #[.pointer (some a4),(2:Int)] w1 λs aF=>ah s (Q (3:Int) aF) (bC aF λe c=>ay d λfc=>¬c (fc.add 5).block/\∃h:aq Nat,e.cell? (fc.add 5)=some (.map h)/\ay d λgG=>
 ¬c (gG.add 5).block/\∃j:aq Nat,e.cell? (gG.add 5)=some (.map j)/\256<=b.len/\∃fS:av,b.a=some fS/\¬c fS.block/\∃k:O Y,aV e fS 0 256=some k/\(∃n:ae,∃f:I,Sem.run
 ai (Instr.lookup 215 (.map j) i false) e=.ok n f/\af c e f/\∃o:ae,∃l:I,Sem.run ai (Instr.buildSlice 214 1 #[(0,.agg
 k.toArray)]) f=.ok o l/\af c f l/\Be n o l c h i d Q)/\(∃p:ae,∃g:I,Sem.run ai (Instr.buildSlice 214 1 #[(0,.agg k.toArray)]) e=.ok p g/\af c e g/\∃q:ae,∃m:I,Sem.run ai (Instr.lookup 215 (.map j) i false) g=.ok q m/\af c g m/\Be q p m
 c h i d Q)))
def ao.xQ:aD:=(.q (.s (.bj (.s (.z [15,11]) (.c (.q .l) a1))) (.s (.d 16 true [0,3000,0,0,3005,0,1009008,0,3011,1014010,516] [0,3000,0,0,3005,0,1009008,0,3011,1014010,1015004003] [16022,0]
 [1,3022,2,1,3027,2,1031030,3,3033,1036032,1037026025] (.z 10 0 (.z 3 11 (.two 10 (.bu 14 (.bu 15 .e)) 14 (.bu 10 (.bu 15 .e)))))) (.q (.q .l)))))
def aa.xR(d:aq av)(w:I)(Q:Y->I->Prop):Prop:=ah (Option.isNone d) (Q (1:Int) w) (ay d λa1=>bF 163 #[.pointer (some a1),(3:Int)] w λi ag=>ah i (Q (3:Int) ag) (ay d λa5=>∃f:aq Nat,ag.cell? (a5.add 5)=some (.map f)/\∃ (a:Y) (g:I),Sem.run ai (Instr.range 215 (.map f)) ag=.ok a g/\∃ (c:I->Prop) (h:I->Nat),c
 g/\∀ (b:I),c b->(∃ (j:Y) (k:Y) (e:I),Sem.run ai (Instr.next (a) false 0) b=.ok (.tuple #[true,j,k]) e/\ah true (A9 a e d c h b) (Bh d e Q))\/(∃cx:I,
 Sem.run ai (Instr.next (a) false 0) b=.ok (.tuple #[false]) cx/\ah false (A9 a cx d c h b) (Bh d cx Q))))
def ao.xR:aD:=(.q (.s (.bj gl) (.s (.q (.bj (.loop [] [0,16] (.q (.s (.c .l .l) (.bj (.s (.pP [.tS [(.one (.int .i64)),(.one .any)]]) (.d 8 true [0,3000,0,0,0,1006005,508,509] [0,3000,0,0,0,1006005,1004003,1008007]
 [9021,0] [1,3021,4,1,4,1027026,1025024,1029028] (.z 7 0 (.bu 7 (.tail [.r,.r]))))))))))) (.q (.q .l)))))
def aa.oX(d:aq av)(g:Int)(h:Int)(i:Int)(j:Int)(k:Int)(l:Int)(gen:Int)(w:I)(Q:Y->I->Prop):Prop:=an (w.alloc (.cells #[g,h,i,aZ j,aZ k,l] 169)) λw1=>(2:Int)≠0/\bC w1 λag b=>¬b ((ad w):av).block/\r1 ag (ad w) λbk=>bh ag w 1 λn5=>bh ag w 2 λn6=>dJ ag w 3
 λn7=>dJ ag w 4 λn8=>bh ag w 5 λn9=>b4 92 #[d] ag λn12 c=>af b ag c/\bn 165 #[.agg #[bk,n5,n6,aZ n7,aZ n8,n9],n12] c
 λm e=>∃n:Nat->Prop,∃f:Array Y,(∀bJ:I,Sem.run ai (Instr.build 227 #[(0,.int .i64 3),(1,aZ gen),(2,m)]) bJ=.ok (.agg f) bJ)/\eG 93 #[.int
 .i64 (al (Int.tmod gen 2)),.agg f] e λo n22 a=>af n e a/\ah (n22 !=0) (Q n22 a) (b4 95 #[d,.int .i64 (al (Int.tmod gen 2)),o] a λn25 bZ=>ah
 (n25 !=0) (Q n25 bZ) (b4 96 #[d] bZ λn28 p=>Q n28 p))
def ao.oX:aD:=(.q (.q (.s (.d 12 true [0,0,0,0,4,1004002,1005001,1006005000,2007,9,510,512] [0,0,0,0,4,1004002,1005001,1006000,2007,3008] [8015,15,2023,2008] [8,3,5,1,19,1019017,1020016,1021015,23,15,15,2023] (.z 4 0 (.bu 4
 (.out 5 true (.t 6 (.bu 7 (.z 4 8 .e))))))) (.s a1 (.s (.q a1) (.q .l))))))
theorem aa.Jb(d:aq av)(a:Int)(b:Int)(c:Int)(e:Int)(f:Int)(g:Int)(gen:Int)(w:I)(Q:Y->I->Prop)(h:aa.oX d a b c e f g gen w Q):aC ai 97 #[d,.agg #[a,b,c,.int .u64 e,.int .u64 f,g],.int .u64 gen] w Q:=okF (λw Q=>aa.oX d a b c e f g gen w Q) ao.oX func97 h
def aa.p8(d:aq av)(f:Int)(g:Int)(h:Int)(i:Int)(j:Int)(k:Int)(l:Int)(m:Int)(n:Int)(gen:Int)(s:aq av)(w:I)(Q:Y->I
 ->Prop):Prop:=an (w.alloc (.cells #[f,g,aZ h] 113)) λw1=>an (w1.alloc (.cells #[i,j,k,aZ l,aZ m,n]
 169)) λag=>r1 ag (ad w) λo=>gM 166 #[d,o] ag λc n7 b=>ah (n7 !=0) (Q (.tuple #[.pointer none,n7]) b) (r1 b (ad w1) λn8=>bh b w1 1 λn9=>gM 167
 #[c,s,.int .u64 (IntKind.wrap .u64 (gen+1)),n8,n9] b λp n13 a=>ah (n13 !=0) (Q (.tuple #[.pointer none,n13]) a) (r1 a (ad w) λn14=>bh a w 1 λn15=>dJ a w
 2 λn16=>r1 a (ad w1) λn17=>bh a w1 1 λn18=>bh a w1 2 λn19=>dJ a w1 3 λn20=>dJ a w1 4 λn21=>bh a w1 5 λn22=>dJ a w1 3 λn23=>bh a w1 5 λn24=>∃e:Array Y,Sem.run
 ai (Instr.build 171 #[(0,p),(1,d),(2,c),(3,s),(4,.agg #[n14,n15,aZ n16]),(5,.agg #[n17,n18,n19,aZ n20,aZ n21,n22]),(6,aZ gen),(7,aZ n23),(10,n24)]) a=.ok (.agg e) a/\an (a.alloc (.cells e 171)) λq=>Q (.tuple #[.pointer (some (ad a)),(0:Int)]) q))
def ao.p8:aD:=(.q (.q (.s a1 eK)))
theorem aa.Jc(d:aq av)(a:Int)(b:Int)(c:Int)(e:Int)(f:Int)(g:Int)(i:Int)(j:Int)(k:Int)(gen:Int)(s:aq av)(w:I)(Q:Y->I->Prop)(h:aa.p8 d a b c e f g i j k gen s w Q):aC ai 98 #[d,.agg #[a,b,.int .u64 c],.agg #[e,f,g,.int .u64 i,.int .u64 j,k],.int .u64 gen,s] w Q:=okF (λw Q=>aa.p8 d a b c e f g i j k gen s w Q) ao.p8 func98 h
def aa.r9(n:Int)(w:I)(Q:Y->I->Prop):Prop:=Q (.bool ((decide (n>=1))&&(decide (n<=100)))) w
def ao.r9:aD:=a3
def aa.p9(s:Array Y)(w:I)(Q:Y->I->Prop):Prop:=an (w.alloc (.cells s 34)) λw1=>a_ (λb9:Int->I->Prop=>fb w1 w 1 λq=>ah q (b9 128 w1) (b9 32 w1)) (λ(bk:Int) aF=>
 fP aF w 19 λn6=>a_ (λg:aj->I->Prop=>ah (n6==6) (g true aF) (fP aF w 19 λn8=>g (n8==17) aF)) (λ(r:aj) h=>r1 h (ad w) λn11=>bF 103 #[n11] h λt a=>a_ (λi:
 aj->I->Prop=>ah t (∃j:O Y,aV a ((ad w).add 1) 0 17=some j/\bF 104 #[.agg j.toArray] a λu v=>i u v) (i false a)) (λ(x:aj) b=>a_ (λk:aj->I->
 Prop=>ah x (g8 b w 18 λn23=>k (decide (n23>0)) b) (k false b)) (λ(y:aj) c=>a_ (λl:aj->I->Prop=>ah (y&&r) (bh c w 20 λn27=>l (decide (n27>=0)) c) (l false c)) (λ
 (z:aj) d=>a_ (λm:aj->I->Prop=>ah z (bh d w 20 λn31=>m (decide (n31<=bk)) d) (m false d)) (λ(A:aj) bO=>a_ (λn:aj->I->Prop=>ah A (dJ bO w 21 λn35=>n (decide
 (n35>=1)) bO) (n false bO)) (λ(B:aj) e=>a_ (λo:aj->I->Prop=>ah B (dJ e w 21 λn39=>o (decide (n39<=1073741824)) e) (o false e)) (λ(C:aj) f=>a_ (λp:aj->I->Prop
 =>ah C (aE f w 22 λD=>p ((D.len:Int)==0) f) (p false f)) (λ(E:aj) F=>Q E F)))))))))
def ao.p9:aD:=(.q (.q (.s (.eC [(3,(.int .i64))] [1] (.q (.c .r .l))) (.s (.z [12,10]) (.s (.z [12,10,12,10,12,5,6,10,12,13,15,10,12,10,12,13]) .l)))))
theorem aa.Jd(s:Array Y)(w:I)(Q:Y->I->Prop)(h:aa.p9 s w Q):aC ai 101 #[.agg s] w Q:=okF (λw Q=>aa.p9 s w Q) ao.p9 func101 h
def aa.p_(s:aq av)(id:Int)(w:I)(Q:Y->I->Prop):Prop:=ay s λa1=>aR w (a1.add 22) λs2=>gF 168 #[s2,id,
 .func (.func 169) #[] #[]] w λn5 a b=>Q (.tuple #[n5,a]) b
def ao.p_:aD:=(.q (.q .l))
def aa.r_(n:Int)(w:I)(Q:Y->I->Prop):Prop:=Q (.bool ((decide (n>=0))&&(decide (n<=65535)))) w
def ao.r_:aD:=a3
def aa.oY(a:Array Y)(w:I)(Q:Y->I->Prop):Prop:=an (w.alloc (.cells a 27)) λw1=>∃b:O Y,aV w1 (ad w) 0 17=some b/\bF 171 #[.agg b.toArray] w1 λc d=>Q
 c d
def ao.oY:aD:=(.q (.q .l))
theorem aa.EM(a:Array Y)(w:I)(Q:Y->I->Prop)(h:aa.oY a w Q):aC ai 104 #[.agg a] w Q:=okF (λw Q=>aa.oY a w Q) ao.oY func104 h
def aa.uP(n:Int)(w:I)(Q:Y->I->Prop):Prop:=Q (.bool ((decide (n>=0))&&(decide (n<=10)))) w
def ao.uP:aD:=a3
def aa.sd(b:ae)(w:I)(Q:Y->I->Prop):Prop:=an (w.alloc z3) λw1=>b4 181 #[b] w1 λbk ag=>ah (bk !=0) (∃g_:Array Y,Sem.run ai (Instr.build 73
 #[]) ag=.ok (.agg g_) ag/\b_ ag (ad w) (Array.toList g_)/\Array.size g_=39/\an (setCells ag (ad w) 0 (Array.toList g_)) λh=>∃i:O Y,aV h (ad w) 0 39=some i/\Q (.tuple #[.agg i.toArray,bk])
 h) (jI 182 #[b,(6:Int),(2:Int)] ag λn10 t o=>((0:Int)<=16/\16<=(b.cap:Int))/\((0:Int)<=12/\12<=(((Int.toNat 16):Nat):Int))/\gh 183 #[.slice (aW b.a 1
 (Int.toNat 12) b.cap) ((Int.toNat 16)-(Int.toNat 12)) (b.cap-(Int.toNat 12))] o λf u d=>an (d.alloc lf) λj=>b_ j (ad d) (Array.toList f)/\Array.size f=17/\an (setCells j (ad d) 0 (Array.toList
 f)) λp=>((0:Int)<=20/\20<=(b.cap:Int))/\((0:Int)<=16/\16<=(((Int.toNat 20):Nat):Int))/\gh 183 #[.slice (aW b.a 1 (Int.toNat 16) b.cap) ((Int.toNat 20)-(Int.toNat 16)) (b.cap-(Int.toNat 16))]
 p λg v bJ=>an (bJ.alloc lf) λbm=>b_ bm (ad bJ) (Array.toList g)/\Array.size g=17/\an (setCells bm (ad bJ) 0 (Array.toList g)) λbZ=>an (bZ.drew) λc=>bl b 9 λq=>¬False/\cG c (bw
 q 9 1) λn26=>bl b 0 λr=>¬False/\cG c (bw r 0 1) λn28=>¬False/\∃k:O Y,aV c (ad d) 0 17=some k/\¬False/\∃l:O Y,aV c (ad bJ) 0 17=some l/\bl b 8 λs=>¬
 False/\cG c (bw s 8 1) λn32=>∃e:Array Y,Sem.run ai (Instr.build 73 #[(1,.int .u8 n26),(2,.int .i64 (al (4*(al (eS .u8 n28 15))))),(3,.agg k.toArray),(4,.agg l.toArray),(5,.bool (((eS
 .u64 n10 16383):Int) !=0)),(6,.int .u8 n32)]) c=.ok (.agg e) c/\b_ c (ad w) (Array.toList e)/\Array.size e=39/\an (setCells c (ad w) 0 (Array.toList e)) λm=>∃n:O Y,aV m (ad w) 0 39
 =some n/\Q (.tuple #[.agg n.toArray,(0:Int)]) m)
def ao.sd:aD:=(.q (.s (.q a1) (.q (.q (.q (.s (.d 17 false [0,1,2,0,5003,0,0,0,2011,0,2014,1000000075524,518,519] [0,1,2,0,5003,0,0,0,2011,0,2014,1000000075524,18,0] [18034,0,4]
 [1,2034,1,5037,8,10,6,2045,1,2048,1298492440252416,1051002,0] (.z 17 0 (.tail [.r,.r,.r]))) .l))))))
end Go.Proofs.YtbjddgakboindaaGreat
