/- Printed by gen.py: functions of the program, each as what must be shown of it. -/
import Derived.Test.YtkpjknbogcihmaaGreatDoorProg
import Derived.Test.YtkpjknbogcihmaaGreatDoorKTDen2
namespace aQ
abbrev aB.s:=aB.seq
abbrev aB.l:=aB.leaf
abbrev aB.c:=aB.cond
abbrev aB.r:=aB.p9 []
abbrev bM.t:=bM.take
abbrev lA.r:=lA.run
open Go
def jm:Y Nat->Y Nat
 | []=> []
 |x::l=>bif Nat.blt x 500 then (bif Nat.beq x 0 then 0 else 2^(x-1))::jm l else bif Nat.blt x 1000 then (2^(x-500)-1)::jm l else bif Nat.blt x 1000000 then (List.range' (x%1000) (x/1000)).map (λy=>2^y)++jm l else bif Nat.blt x 1000000000 then (2^(x/1000-1000)+2^(x%1000))::jm l else bif Nat.blt x 1000000000000 then (2^(x/1000000-1000)+2^(x/1000%1000)+2^(x%1000))::jm l else (x-1000000000000)::jm l
def bM.z:Nat->Nat->bM->bM
 |0,_,x=>x
 |n+1,a,x=>.take a (bM.z n (a+1) x)
def bM.e:bM:=.tail [.run]
def aB.d(n:Nat)(b:ah)(A B C D:Y Nat)(t:bM):aB:=.wx n b ⟨jm A,jm B⟩ (jm C) (jm D) t
def aB.e(n:Nat)(b:ah)(A C D:Y Nat)(t:bM):aB:=.wx n b ⟨jm A,jm A⟩ (jm C) (jm D) t
def aB.q(t:aB):aB:=.seq (.p9 []) t
def wI:Y Nat->Y lA
 | []=> []
 |x::l=>bif Nat.beq (x%3) 0 then List.replicate (x/3) .run++wI l else bif Nat.beq (x%3) 1 then .split (x/3)::wI l else .pure (x/3)::wI l
def aB.z(l:Y Nat):aB:=.p9 (wI l)
end aQ
namespace Go.Proofs.YtkpjknbogcihmaaGreatDoor
noncomputable abbrev ae:=Tryz.prog
open Go aQ Go.Proofs.Tryz
namespace F
end F
namespace JC
end JC
namespace G
end G
abbrev aF:dO:=.one (.one .fn)
abbrev cy:dO:=.one (.one .agg)
abbrev dR:dO:=.one (.one .ptr)
abbrev iF:dO:=.one (.one .slice)
abbrev jH:dO:=.dP [(.one .ptr),(.one (.int .i64))]
abbrev nO:dO:=.one (.one .map)
abbrev nP:dO:=.dP [(.one .agg),(.one .bool)]
abbrev oZ:dO:=.one (.flat [.ptr,.slice,(.int .i64)])
abbrev rQ:dO:=.one (.flat [(.int .i64),(.int .i64),(.int .i64)])
abbrev wJ:dO:=.one (.one (.int .i64))
abbrev wK:dO:=.one (.one (.int .u8))
abbrev wL:dO:=.one (.one (.int .u64))
def JD:Y dO:=[(.dP []),aF,wJ,wJ,(.one (.one .bool)),wK,wK,(.one (.flat [(.int .i64),(.int .i64),.bool,(.int .u8)])),(.one (.flat [(.int .i64),(.int .i64),.bool,(.int .u8)])),(.one (.one .str)),(.one (.one .str)),(.one (.one .str)),wL,(.one (.flat [.str,(.int .u64)])),(.one (.flat [.str,(.int .u64)])),dR,dR,dR,(.one (.flat [.ptr])),(.one (.flat [.ptr])),(.one (.one .any)),(.one (.one (.int .i32))),cy,cy,cy,(.one (.one (.int .u16))),cy,cy,iF,cy,cy,cy,cy,dR,wJ,jH,aF,iF,rQ,rQ,(.dP [(.one .slice),(.one (.int .i64))]),aF,aF,(.one (.flat [(.int .i64),.slice,(.int .i64),(.int .i64)])),(.one (.flat [(.int .i64),.slice,(.int .i64),(.int .i64)])),aF,wL,(.dP [(.one (.int .u8)),(.one (.int .u8)),(.one .slice),(.one (.int .i64))]),aF,aF,aF,aF,aF,dR,jH,aF,dR,jH,aF,dR,aF,aF,(.one (.flat [.ptr,.ptr,.ptr,.slice,(.int .i64),(.int .i64)])),(.one (.flat [.ptr,.ptr,.ptr,.slice,(.int .i64),(.int .i64)])),cy,cy,aF,(.one (.flat [(.int .u16),(.int .u16),(.int .u8),(.int .i64),.bool,(.int .i64)])),(.one (.flat [(.int .u16),(.int .u16),(.int .u8),(.int .i64),.bool,(.int .i64)])),aF,dR,(.dP [(.one .ptr),(.one .bool)]),aF,cy,(.one (.flat [(.int .i64),.slice,(.int .i64),(.int .i64),.bool,(.int .i64)])),(.one (.flat [(.int .i64),.slice,(.int .i64),(.int .i64),.bool,(.int .i64)])),cy,cy,dR,dR,(.one (.flat [.ptr,.ptr,.slice])),(.one (.flat [.ptr,.ptr,.slice])),aF,iF,cy,cy,cy,cy,iF,cy,cy,cy,cy,(.dP [(.one .agg),(.one (.int .i64))]),aF,(.dP [(.one .slice),(.flat [(.int .i64),.slice,(.int .i64),(.int .i64)]),(.one .bool)]),aF,(.dP [(.one (.int .i64)),(.one .bool)]),aF,aF,aF,aF,aF,aF,(.dP [(.one .agg),(.one .slice),(.one (.int .i64))]),aF,aF,nO,dR,(.one (.flat [.ptr,.ptr])),(.one (.flat [.ptr,.ptr])),cy,cy,nO,(.one (.flat [(.int .i64),.map,(.int .u64)])),(.one (.flat [(.int .i64),.map,(.int .u64)])),nO,(.one (.flat [.map])),(.one (.flat [.map])),aF,aF,aF,aF,aF,aF,aF,(.one (.flat [(.int .u64),(.int .i64),(.int .i64),(.int .i64),(.int .i64),(.int .i64)])),(.one (.flat [(.int .u64),(.int .i64),(.int .i64),(.int .i64),(.int .i64),(.int .i64)])),aF,jH,aF,aF,(.one (.flat [(.int .i64),(.int .i64),(.int .u64)])),(.one (.flat [(.int .i64),(.int .i64),(.int .u64)])),aF,aF,dR,iF,(.one (.flat [.slice])),(.one (.flat [.slice])),dR,iF,(.one (.flat [(.int .i64),.slice])),(.one (.flat [(.int .i64),.slice])),nP,aF,dR,dR,dR,dR,cy,cy,(.dP [(.one .agg),(.one (.int .i64))]),aF,(.dP [(.flat [(.int .u16),(.int .u16),(.int .u8),(.int .i64),.bool,(.int .i64)]),(.one (.int .i64))]),aF,wL,aF,aF,aF,nP,aF,aF,aF,cy,cy,cy,cy,nP,aF,(.one (.flat [(.int .u8),(.int .u8),(.int .u8),(.int .u8)])),(.one (.flat [(.int .u8),(.int .u8),(.int .u8),(.int .u8)])),aF,aF,aF,aF,aF,aF,jH,aF,dR,jH,aF,aF,aF,dR,iF,(.one (.flat [(.int .i64),.slice])),(.one (.flat [(.int .i64),.slice])),dR,oZ,oZ,iF,cy,cy,aF,aF,aF,aF,aF,aF,aF,aF,(.dP [(.one (.int .i64)),(.one (.int .i64)),(.one (.int .i64))]),aF,aF,aF,aF,aF,aF,aF,aF,aF,cy,cy,cy,cy,(.dP [(.one .agg),(.one .agg)]),aF,aF,aF,aF,aF,aF,(.dP [(.one .ptr),(.one .bool)]),aF,aF,aF,aF,iF,aF,aF,aF,aF,iF,nO,cy,cy,cy,cy,aF,dR,jH,aF,aF,aF,aF,(.one (.flat [(.int .i64),(.int .u64),.slice])),(.one (.flat [(.int .i64),(.int .u64),.slice])),cy,aF,(.one (.flat [(.int .i64),(.int .i64),(.int .i64),(.int .u64),(.int .u64),(.int .i64)])),(.one (.flat [(.int .i64),(.int .i64),(.int .i64),(.int .u64),(.int .u64),(.int .i64)])),aF,aF,nO,nO,(.one (.flat [.map,.map])),(.one (.flat [.map,.map])),jH,aF,jH,aF,aF,dR,(.dP [(.one .ptr),(.one .bool)]),cy,cy,aF,aF,aF,aF,(.dP [(.one .ptr),(.one (.int .i64)),(.one (.int .i64))]),aF,aF,cy,cy,aF,dR,cy,cy,dR,dR,dR,cy,cy,aF,nP,aF,aF,cy,cy,(.dP [(.one .agg),(.one .agg),(.one .bool)]),aF,aF,aF,aF,(.dP [(.one (.int .i64)),(.one (.int .i64))]),aF,aF,aF,aF,nP,aF,(.one (.flat [.ptr,(.int .i64)])),(.one (.flat [.ptr,(.int .i64)])),dR,dR,cy,cy,aF,(.dP [(.one (.int .u64)),(.one .bool)]),aF,nP,aF,aF,dR,iF,(.one (.flat [.slice,(.int .u64)])),(.one (.flat [.slice,(.int .u64)])),aF,(.dP [(.one .ptr),(.one .bool)]),aF,(.dP [(.one .slice),(.one .bool)]),aF,dR,cy,cy,aF,dR,aF,aF,aF,dR,(.one (.flat [(.int .u64),.bool])),(.one (.flat [(.int .u64),.bool])),aF,aF,dR,iF,(.one (.flat [(.int .i64),.slice,.slice])),(.one (.flat [(.int .i64),.slice,.slice])),(.one (.one (.int .u32))),aF,aF,aF,jH,aF,jH,aF,jH,aF,jH,aF,jH,aF,aF,aF,aF,aF,aF,aF,aF,aF,(.dP [(.flat [(.int .i64),(.int .i64),(.int .i64),(.int .u64),(.int .u64),(.int .i64)]),(.one (.int .u64)),(.one (.int .i64))]),aF,aF,aF,nP,aF,aF,aF,aF,aF,nP,nO,nO,(.one (.flat [(.int .i64),.map,.map])),(.one (.flat [(.int .i64),.map,.map])),aF,aF,aF,aF,(.dP [(.one .slice),(.one (.int .i64)),(.one (.int .i64))]),aF,oZ,oZ,aF,nO,(.one (.flat [(.int .i64),(.int .i64)])),(.one (.flat [(.int .i64),(.int .i64)])),(.one (.flat [.bool,(.int .i64)])),(.one (.flat [.bool,(.int .i64)])),(.one (.flat [(.int .i64),(.int .i64),.map])),(.one (.flat [(.int .i64),(.int .i64),.map])),aF,aF,iF,(.dP [(.one .slice),(.one (.int .i64))]),aF,aF,cy,cy,aF,aF,aF,(.dP [(.one (.int .i64)),(.one (.int .i64))]),aF,aF,aF,aF,aF,aF,cy,aF,aF,aF,aF,aF,iF,oZ,oZ,(.one (.flat [.ptr,.ptr,(.int .u64),(.int .i64),(.int .i64)])),(.one (.flat [.ptr,.ptr,(.int .u64),(.int .i64),(.int .i64)])),aF,aF,(.dP [(.flat [(.int .i64),(.int .i64),(.int .i64),(.int .u64),(.int .u64),(.int .i64)]),(.one (.int .i64)),(.one (.int .u64)),(.one (.int .i64))]),aF,(.dP [(.flat [(.int .i64),(.int .u64),.slice]),(.one (.int .i64))]),aF,aF,(.dP [(.one .slice),(.one (.int .i64)),(.one (.int .i64))]),aF,aF,aF,aF,aF,aF,aF,(.dP [(.one .agg),(.one .bool),(.one (.int .i64))]),aF,aF,aF,aF,aF,(.one (.flat [.slice,.slice])),(.one (.flat [.slice,.slice])),(.dP [(.one .slice),(.one .slice)]),aF,nP,aF,(.dP [(.one .bool),(.one (.int .i64))]),aF,dR,aF,jH,aF,(.one (.flat [.bool,.bool,.bool,(.int .i64),(.int .i64),.slice])),(.one (.flat [.bool,.bool,.bool,(.int .i64),(.int .i64),.slice])),aF,aF,iF,aF,aF,aF,aF,aF,aF,aF,dR,(.one (.flat [.slice,(.int .i64)])),(.one (.flat [.slice,(.int .i64)])),aF,dR,oZ,oZ,aF,aF,aF,iF,aF,aF,dR,jH,aF,aF,aF,aF,(.dP [(.one .slice),(.one .bool),(.one (.int .i64))]),aF,aF,aF,dR,cy,cy,aF,aF,aF,aF,aF,aF,aF,wJ,(.dP [(.one (.int .i64)),(.one (.int .i64))]),aF,aF,aF,aF,aF,dR,(.one (.flat [.ptr,.slice])),(.one (.flat [.ptr,.slice])),(.one (.one .any)),(.one (.one .any)),(.dP [(.one (.int .i64)),(.one .any)]),aF,aF,aF,aF,aF,aF,aF,aF,(.one (.flat [.bool,.slice,.slice,.slice])),(.one (.flat [.bool,.slice,.slice,.slice])),(.dP [(.flat [.bool,.slice,.slice,.slice]),(.one (.int .i64))]),aF,aF,aF,(.one (.flat [(.int .u8),.bool])),(.one (.flat [(.int .u8),.bool])),aF,(.one (.flat [(.int .i64),(.int .i64)])),(.one (.flat [(.int .i64),(.int .i64)])),aF,aF,(.one (.flat [.slice])),(.one (.flat [.slice])),iF,dR,aF,aF,aF,aF,aF,aF,aF,aF,iF,(.dP [(.one .slice),(.one (.int .i64))]),aF,cy,cy,aF,(.dP [(.flat [.bool,.slice,.slice,.slice]),(.one .bool)]),aF,aF,wL,aF,aF,dR,aF,dR,cy,aF,(.dP [(.one .slice),(.one .str)]),aF,aF,aF,aF,aF,(.dP [(.one (.int .u64)),(.one (.int .u64))]),aF,rQ,rQ,aF,aF,aF,aF,aF,aF,aF,dR,(.one (.flat [.ptr,.slice,.slice])),(.one (.flat [.ptr,.slice,.slice])),aF,dR,aF,dR,aF,aF,aF,cy,cy,aF,dR,(.one (.flat [.slice,.bool])),(.one (.flat [.slice,.bool])),aF,(.dP [(.one (.int .u32)),(.one (.int .u32))]),aF,(.dP [(.one (.int .u64)),(.one (.int .u64))]),aF,aF,aF,aF,aF,aF,aF,dR,iF,(.dP [(.one .slice),(.one (.int .i64)),(.one (.int .i64)),(.one (.int .i64))]),aF,aF,aF,(.dP [(.one .slice),(.one (.int .i64))]),aF,(.one (.flat [.slice,(.int .i64)])),(.one (.flat [.slice,(.int .i64)])),aF,aF,aF,aF,aF,aF,aF,aF,aF,cy,cy,aF,aF,(.dP [(.flat [.bool,.slice,.slice,.slice]),(.one .slice),(.flat [.bool,.slice,.slice,.slice]),(.one .bool)]),aF,aF,(.one (.flat [.ptr,.ptr,.ptr,.str])),(.one (.flat [.ptr,.ptr,.ptr,.str])),cy,cy,cy,wK,wK,aF,(.one (.one (.int .i32))),(.one (.one (.int .i32))),cy,cy,aF,aF,cy,cy,rQ,rQ]
def tk:TypeId->dO:=λt=>JD.getD t (.one (.one .any))
theorem BB:Tryz.prog.follows .mixedOrders=true:=by kernel_rfl
def aa(w:I):av:=w.heap.size
def ak(n:Int):Int:=IntKind.wrap .i64 n
def cd(n:Int)(k:Nat):Prop:=(0:Int)<=n/\n<(k:Int)
def ad(c:ah)(A B:Prop):Prop:=(c=true->A)/\(c=false->B)
def gG:Int:=9223372036854775807
def st(w:I)(A:av)(v:O)(K:I->Prop):Prop:=(∃u:O,w.cell? A=some u)/\w.frozen? A=false/\aq (w.setCell A v) λw1=>K w1
def al(w:I)(z:Obj)(l:Y O)(k:Nat)(K:I->Prop):Prop:=aq (w.alloc z) λw1=>bE w1 (aa w) (Array.toList l.toArray)/\Array.size l.toArray=k/\aq (setCells w1 (aa w) 0 (Array.toList l.toArray)) λag=>K ag
def k1(s:ai)(n:Int)(w:I)(k:Nat)(K:Y O->Prop):Prop:=∃a:av,s.a=some a/\cd n s.len/\∃l:Y O,aG w (a.add (n.toNat*k)) 0 k=some l/\K l
def bG(f:Nat)(a:Array O)(w:I)(K:Int->I->Prop):Prop:=Calls ae f a w λe w'=>∃b:Int,e=.returned b/\K b w'
def dc(f:Nat)(a:Array O)(w:I)(K:I->Prop):Prop:=Calls ae f a w λe w'=>e=.returned (.tuple #[])/\K w'
def br(f:Nat)(a:Array O)(w:I)(K:ah->I->Prop):Prop:=Calls ae f a w λe w'=>∃b:ah,e=.returned b/\K b w'
def gT(f:Nat)(a:Array O)(w:I)(K:ByteArray->I->Prop):Prop:=Calls ae f a w λe w'=>∃b:ByteArray,e=.returned (.string b)/\K b w'
def wM(f:Nat)(a:Array O)(w:I)(K:Int->O->I->Prop):Prop:=Calls ae f a w λe w'=>∃b:Int,∃c:O,e=.returned (.tuple #[b,c])/\K b c w'
def wN(f:Nat)(a:Array O)(w:I)(K:ai->ByteArray->I->Prop):Prop:=Calls ae f a w λe w'=>∃b:ai,∃c:ByteArray,e=.returned (.tuple #[b,.string c])/\K b c w'
def wO(f:Nat)(a:Array O)(w:I)(K:Int->Int->I->Prop):Prop:=Calls ae f a w λe w'=>∃b:Int,∃c:Int,e=.returned (.tuple #[.int .u64 b,.int .u64 c])/\K b c w'
def EH(f:Nat)(a:Array O)(w:I)(K:Int->Int->I->Prop):Prop:=Calls ae f a w λe w'=>∃b:Int,∃c:Int,e=.returned (.tuple #[.int .u32 b,.int .u32 c])/\K b c w'
def gf(f:Nat)(a:Array O)(w:I)(K:aw av->Int->I->Prop):Prop:=Calls ae f a w λe w'=>∃b:aw av,∃c:Int,e=.returned (.tuple #[b,c])/\K b c w'
def gH(f:Nat)(a:Array O)(w:I)(K:aw av->I->Prop):Prop:=Calls ae f a w λe w'=>∃b:aw av,e=.returned (b)/\K b w'
def bl(f:Nat)(a:Array O)(w:I)(K:ai->I->Prop):Prop:=Calls ae f a w λe w'=>∃b:ai,e=.returned b/\K b w'
def EI(f:Nat)(a:Array O)(w:I)(K:ai->Int->ai->Int->Int->ah->I->Prop):Prop:=Calls ae f a w λe w'=>∃b:ai,∃c:Int,∃cf:ai,∃d:Int,∃g:Int,∃h:ah,e=.returned (.tuple #[b,.agg #[c,cf,d,g],h])/\K b c cf d g h w'
def gU(f:Nat)(a:Array O)(w:I)(K:Array O->Int->I->Prop):Prop:=Calls ae f a w λe w'=>∃b:Array O,∃c:Int,e=.returned (.tuple #[.agg b,c])/\K b c w'
def hG(f:Nat)(a:Array O)(w:I)(K:Int->ah->I->Prop):Prop:=Calls ae f a w λe w'=>∃b:Int,∃c:ah,e=.returned (.tuple #[b,c])/\K b c w'
def wP(f:Nat)(a:Array O)(w:I)(K:Int->ai->Int->Int->I->Prop):Prop:=Calls ae f a w λe w'=>∃b:Int,∃c:ai,∃cf:Int,∃d:Int,e=.returned (.agg #[b,c,cf,d])/\K b c cf d w'
def EJ(f:Nat)(a:Array O)(w:I)(K:Array O->ai->Int->I->Prop):Prop:=Calls ae f a w λe w'=>∃b:Array O,∃c:ai,∃cf:Int,e=.returned (.tuple #[.agg b,c,cf])/\K b c cf w'
def eS(f:Nat)(a:Array O)(w:I)(K:Array O->ah->I->Prop):Prop:=Calls ae f a w λe w'=>∃b:Array O,∃c:ah,e=.returned (.tuple #[.agg b,c])/\K b c w'
def hJ(f:Nat)(a:Array O)(w:I)(K:Array O->I->Prop):Prop:=Calls ae f a w λe w'=>∃b:Array O,e=.returned (.agg b)/\K b w'
def eD(f:Nat)(a:Array O)(w:I)(K:ai->Int->I->Prop):Prop:=Calls ae f a w λe w'=>∃b:ai,∃c:Int,e=.returned (.tuple #[b,c])/\K b c w'
def nQ(f:Nat)(a:Array O)(w:I)(K:Int->Int->Int->Int->ah->Int->Int->I->Prop):Prop:=Calls ae f a w λe w'=>∃b:Int,∃c:Int,∃cf:Int,∃d:Int,∃g:ah,∃h:Int,∃i:Int,e=.returned (.tuple #[.agg #[.int .u16 b,.int .u16 c,.int .u8 cf,d,g,h],i])/\K b c cf d g h i w'
def wQ(f:Nat)(a:Array O)(w:I)(K:Int->Int->Int->Int->I->Prop):Prop:=Calls ae f a w λe w'=>∃b:Int,∃c:Int,∃cf:Int,∃d:Int,e=.returned (.agg #[.int .u8 b,.int .u8 c,.int .u8 cf,.int .u8 d])/\K b c cf d w'
def mU(f:Nat)(a:Array O)(w:I)(K:Int->ai->Int->Int->ah->Int->I->Prop):Prop:=Calls ae f a w λe w'=>∃b:Int,∃c:ai,∃cf:Int,∃d:Int,∃g:ah,∃h:Int,e=.returned (.agg #[b,c,cf,d,g,h])/\K b c cf d g h w'
def fI(f:Nat)(a:Array O)(w:I)(K:Int->I->Prop):Prop:=Calls ae f a w λe w'=>∃b:Int,e=.returned (.int .u16 b)/\K b w'
def lJ(f:Nat)(a:Array O)(w:I)(K:Int->ah->I->Prop):Prop:=Calls ae f a w λe w'=>∃b:Int,∃c:ah,e=.returned (.tuple #[.int .u64 b,c])/\K b c w'
def EK(f:Nat)(a:Array O)(w:I)(K:ah->ai->ai->ai->Int->I->Prop):Prop:=Calls ae f a w λe w'=>∃b:ah,∃c:ai,∃cf:ai,∃d:ai,∃g:Int,e=.returned (.tuple #[.agg #[b,c,cf,d],g])/\K b c cf d g w'
def ue(f:Nat)(a:Array O)(w:I)(K:Int->Int->Int->I->Prop):Prop:=Calls ae f a w λe w'=>∃b:Int,∃c:Int,∃cf:Int,e=.returned (.tuple #[b,c,cf])/\K b c cf w'
def fe(f:Nat)(a:Array O)(w:I)(K:Int->I->Prop):Prop:=Calls ae f a w λe w'=>∃b:Int,e=.returned (.int .u64 b)/\K b w'
def wR(f:Nat)(a:Array O)(w:I)(K:ah->ai->ai->ai->I->Prop):Prop:=Calls ae f a w λe w'=>∃b:ah,∃c:ai,∃cf:ai,∃d:ai,e=.returned (.agg #[b,c,cf,d])/\K b c cf d w'
def EL(f:Nat)(a:Array O)(w:I)(K:ai->Int->Int->Int->I->Prop):Prop:=Calls ae f a w λe w'=>∃b:ai,∃c:Int,∃cf:Int,∃d:Int,e=.returned (.tuple #[b,c,cf,d])/\K b c cf d w'
def nR(f:Nat)(a:Array O)(w:I)(K:Int->Int->I->Prop):Prop:=Calls ae f a w λe w'=>∃b:Int,∃c:Int,e=.returned (.tuple #[b,c])/\K b c w'
def rR(f:Nat)(a:Array O)(w:I)(K:Int->I->Prop):Prop:=Calls ae f a w λe w'=>∃b:Int,e=.returned (.int .u32 b)/\K b w'
def EM(f:Nat)(a:Array O)(w:I)(K:aw av->Int->Int->I->Prop):Prop:=Calls ae f a w λe w'=>∃b:aw av,∃c:Int,∃cf:Int,e=.returned (.tuple #[b,c,cf])/\K b c cf w'
def mh(f:Nat)(a:Array O)(w:I)(K:ai->ah->I->Prop):Prop:=Calls ae f a w λe w'=>∃b:ai,∃c:ah,e=.returned (.tuple #[b,c])/\K b c w'
def wS(f:Nat)(a:Array O)(w:I)(K:Array O->ah->Int->I->Prop):Prop:=Calls ae f a w λe w'=>∃b:Array O,∃c:ah,∃cf:Int,e=.returned (.tuple #[.agg b,c,cf])/\K b c cf w'
def o0(f:Nat)(a:Array O)(w:I)(K:ai->ah->Int->I->Prop):Prop:=Calls ae f a w λe w'=>∃b:ai,∃c:ah,∃cf:Int,e=.returned (.tuple #[b,c,cf])/\K b c cf w'
def EN(f:Nat)(a:Array O)(w:I)(K:ah->ai->ai->ai->ah->I->Prop):Prop:=Calls ae f a w λe w'=>∃b:ah,∃c:ai,∃cf:ai,∃d:ai,∃g:ah,e=.returned (.tuple #[.agg #[b,c,cf,d],g])/\K b c cf d g w'
def EO(f:Nat)(a:Array O)(w:I)(K:Int->Int->ai->Int->I->Prop):Prop:=Calls ae f a w λe w'=>∃b:Int,∃c:Int,∃cf:ai,∃d:Int,e=.returned (.tuple #[.int .u8 b,.int .u8 c,cf,d])/\K b c cf d w'
def EP(f:Nat)(a:Array O)(w:I)(K:aw av->ah->I->Prop):Prop:=Calls ae f a w λe w'=>∃b:aw av,∃c:ah,e=.returned (.tuple #[b,c])/\K b c w'
def ER(f:Nat)(a:Array O)(w:I)(K:Int->Int->Int->Int->Int->Int->I->Prop):Prop:=Calls ae f a w λe w'=>∃b:Int,∃c:Int,∃cf:Int,∃d:Int,∃g:Int,∃h:Int,e=.returned (.agg #[.int .u64 b,c,cf,d,g,h])/\K b c cf d g h w'
def ES(f:Nat)(a:Array O)(w:I)(K:Int->Int->Int->I->Prop):Prop:=Calls ae f a w λe w'=>∃b:Int,∃c:Int,∃cf:Int,e=.returned (.agg #[b,c,.int .u64 cf])/\K b c cf w'
def r1(w:I)(A:av)(K:ByteArray->Prop):Prop:=∃x:ByteArray,w.cell? A=some (.string x)/\K x
def a_(w:I)(A:av)(K:ai->Prop):Prop:=∃x:ai,w.cell? A=some (.slice x.a x.len x.cap)/\K x
def di(w:I)(A:av)(K:Int->Prop):Prop:=∃x:Int,w.cell? A=some (.int .u64 x)/\K x
def aY(w:I)(A:av)(K:Int->Prop):Prop:=∃x:Int,w.cell? A=some (.int .i64 x)/\K x
def bS(w:I)(A:av)(K:Int->Prop):Prop:=∃x:Int,w.cell? A=some (.int .u8 x)/\K x
def bq(w:I)(A:av)(K:ah->Prop):Prop:=∃x:ah,w.cell? A=some (.bool x)/\K x
def e0(w:I)(A:av)(K:Int->Prop):Prop:=∃x:Int,w.cell? A=some (.int .u16 x)/\K x
def aZ(n:Int):O:=.int .u64 n
def bn(a:av)(n:Int)(k:Nat):av:=a.add (n.toNat*k)
def b7(w:I)(A:av)(l:Y O)(k:Nat)(K:I->Prop):Prop:=bE w A l/\k=k/\aq (setCells w A 0 l) λw1=>K w1
def xs(w:I)(K:av->Prop):Prop:=∃a:av,(some (aa w):aw av)=some a/\K a
def bc(s:ai)(n:Int)(K:av->Prop):Prop:=∃a:av,s.a=some a/\cd n s.len/\K a
def pt(p:aw av)(K:av->Prop):Prop:=∃a:av,p=some a/\K a
def bx(w:I)(K:I->(Nat->Prop)->Prop):Prop:=aq w.drew λw1=>∃W:Nat->Prop,K w1 W
def ap(T:TypeId)(x:O)(y:O)(w:I)(K:ai->I->Prop):Prop:=∃s:ai,∃w1:I,Sem.run ae (Builtin.append_ #[T,T] T #[x,y]) w=.ok s w1/\K s w1
def c3(c:Int)(w:I)(K:(Int->I->Prop)->(Int->I->Nat)->Int->I->Prop):Prop:=∃ (a:Int->I->Prop) (d:Int->I->Nat),a c w/\∀ (b:Int) (w1:I),a b w1->K a d b w1
def eT(d:Int)(e:Int)(w:I)(K:(Int->Int->I->Prop)->(Int->Int->I->Nat)->Int->Int->I->Prop):Prop:=∃ (a:Int->Int->I->Prop) (f:Int->Int->I->Nat),a d e w/\∀ (b:Int) (c:Int) (w1:I),a b c w1->K a f b c w1
def jI(d:ai)(e:Int)(w:I)(K:(ai->Int->I->Prop)->(ai->Int->I->Nat)->ai->Int->I->Prop):Prop:=∃ (a:ai->Int->I->Prop) (f:ai->Int->I->Nat),a d e w/\∀ (b:ai) (c:Int) (w1:I),a b c w1->K a f b c w1
def wT(e:ai)(f:Int)(cf:Int)(w:I)(K:(ai->Int->Int->I->Prop)->(ai->Int->Int->I->Nat)->ai->Int->Int->I->Prop):Prop:=∃ (a:ai->Int->Int->I->Prop) (g:ai->Int->Int->I->Nat),a e f cf w/\∀ (b:ai) (c:Int) (d:Int) (w1:I),a b c d w1->K a g b c d w1
def ET(c:ai)(w:I)(K:(ai->I->Prop)->(ai->I->Nat)->ai->I->Prop):Prop:=∃ (a:ai->I->Prop) (d:ai->I->Nat),a c w/\∀ (b:ai) (w1:I),a b w1->K a d b w1
def EU(e:Int)(f:ai)(cf:Int)(w:I)(K:(Int->ai->Int->I->Prop)->(Int->ai->Int->I->Nat)->Int->ai->Int->I->Prop):Prop:=∃ (a:Int->ai->Int->I->Prop) (g:Int->ai->Int->I->Nat),a e f cf w/\∀ (b:Int) (c:ai) (d:Int) (w1:I),a b c d w1->K a g b c d w1
def fk(W:Nat->Prop)(w:I)(A:av)(K:ai->Prop):Prop:=¬W A.block/\a_ w A K
def h4(W:Nat->Prop)(w:I)(A:av)(K:Int->Prop):Prop:=¬W A.block/\bS w A K
def eU(W:Nat->Prop)(w:I)(A:av)(K:Int->Prop):Prop:=¬W A.block/\aY w A K
def mi(W:Nat->Prop)(w:I)(A:av)(K:Int->Prop):Prop:=¬W A.block/\di w A K
def BC(W:Nat->Prop)(w:I)(A:av)(K:ah->Prop):Prop:=¬W A.block/\bq w A K
def qk(W:Nat->Prop)(w:I)(A:av)(K:Int->Prop):Prop:=¬W A.block/\e0 w A K
def bh(w:I)(r:I)(k:Nat)(K:Int->Prop):Prop:=aY w ((aa r).add k) K
def bD(w:I)(r:I)(k:Nat)(K:ai->Prop):Prop:=a_ w ((aa r).add k) K
def cT(w:I)(r:I)(k:Nat)(K:ah->Prop):Prop:=bq w ((aa r).add k) K
def ef(w:I)(r:I)(k:Nat)(K:Int->Prop):Prop:=e0 w ((aa r).add k) K
def cJ(w:I)(r:I)(k:Nat)(K:Int->Prop):Prop:=bS w ((aa r).add k) K
def lK(W:Nat->Prop)(w:I)(r:I)(k:Nat)(K:Int->Prop):Prop:=eU W w ((aa r).add k) K
def kz(W:Nat->Prop)(w:I)(r:I)(k:Nat)(K:Int->Prop):Prop:=h4 W w ((aa r).add k) K
def dY(w:I)(r:I)(k:Nat)(K:Int->Prop):Prop:=di w ((aa r).add k) K
def jJ(W:Nat->Prop)(w:I)(r:I)(k:Nat)(K:ai->Prop):Prop:=fk W w ((aa r).add k) K
def EV(W:Nat->Prop)(w:I)(r:I)(k:Nat)(K:ah->Prop):Prop:=BC W w ((aa r).add k) K
def wU(W:Nat->Prop)(w:I)(r:I)(k:Nat)(K:Int->Prop):Prop:=qk W w ((aa r).add k) K
def j8:Obj:=.cells #[.int .u8 0,.int .u8 0,.int .u8 0,.int .u8 0,.int .u8 0,.int .u8 0,.int .u8 0,.int .u8 0,.int .u8 0,.int .u8 0,.int .u8 0,.int .u8 0,.int .u8 0,.int .u8 0,.int .u8 0,.int .u8 0,.int .u8 0,.int .u8 0,.int .u8 0,.int .u8 0,.int .u8 0,.int .u8 0,.int .u8 0,.int .u8 0] 563
def gV:Obj:=.cells #[(0:Int),(),(0:Int),(0:Int)] 44
def z3:Obj:=.cells #[.bool false,.int .u8 0,.int .i64 0,.bool false,.int .u8 0,.int .u8 0,.int .u8 0,.int .u8 0,.int .u8 0,.int .u8 0,.int .u8 0,.int .u8 0,.int .u8 0,.int .u8 0,.int .u8 0,.int .u8 0,.int .u8 0,.int .u8 0,.int .u8 0,.int .u8 0,.bool false,.int .u8 0,.int .u8 0,.int .u8 0,.int .u8 0,.int .u8 0,.int .u8 0,.int .u8 0,.int .u8 0,.int .u8 0,.int .u8 0,.int .u8 0,.int .u8 0,.int .u8 0,.int .u8 0,.int .u8 0,.int .u8 0,.bool false,.int .u8 0,.int .u16 0,.int .u16 0,.int .u8 0,.int .i64 0,.bool false,.int .i64 0,.bool false,.int .u8 0,.int .u8 0,.int .u8 0,.int .u8 0,.int .u8 0,.int .u8 0,.int .u8 0,.int .u8 0,.int .u8 0,.int .u8 0,.int .u8 0,.int .u8 0,.int .u8 0,.int .u8 0,.int .u8 0,.int .u8 0,.bool false,.int .u8 0,.int .u8 0,.int .u8 0,.int .u8 0,.int .u8 0,.int .u8 0,.int .u8 0,.int .u8 0,.int .u8 0,.int .u8 0,.int .u8 0,.int .u8 0,.int .u8 0,.int .u8 0,.int .u8 0,.int .u8 0,.int .u16 0,.int .u16 0,.int .u8 0] 92
def z4:Obj:=.cells #[.bool false,.int .u8 0,.int .i64 0,.bool false,.int .u8 0,.int .u8 0,.int .u8 0,.int .u8 0,.int .u8 0,.int .u8 0,.int .u8 0,.int .u8 0,.int .u8 0,.int .u8 0,.int .u8 0,.int .u8 0,.int .u8 0,.int .u8 0,.int .u8 0,.int .u8 0,.bool false,.int .u8 0,.int .u8 0,.int .u8 0,.int .u8 0,.int .u8 0,.int .u8 0,.int .u8 0,.int .u8 0,.int .u8 0,.int .u8 0,.int .u8 0,.int .u8 0,.int .u8 0,.int .u8 0,.int .u8 0,.int .u8 0,.bool false,.int .u8 0] 65
def z5:Obj:=.cells #[.bool false,.int .u8 0,.int .u8 0,.int .u8 0,.int .u8 0,.int .u8 0,.int .u8 0,.int .u8 0,.int .u8 0,.int .u8 0,.int .u8 0,.int .u8 0,.int .u8 0,.int .u8 0,.int .u8 0,.int .u8 0,.int .u8 0,.int .i64 0,.bool false,.int .u8 0,.int .u8 0,.int .u8 0,.int .u8 0,.int .u8 0,.int .u8 0,.int .u8 0,.int .u8 0,.int .u8 0,.int .u8 0,.int .u8 0,.int .u8 0,.int .u8 0,.int .u8 0,.int .u8 0,.int .u8 0,.int .i64 0,.int .u8 0,.int .u16 0,.int .u16 0,.bool false] 32
def nS:Obj:=.cells #[(0:Int),(),(0:Int),(0:Int),false,(0:Int),(0:Int),(0:Int),(0:Int),false] 77
def jn:Obj:=.cells #[.int .u16 0,.int .u16 0,.int .u8 0,(0:Int),false,(0:Int)] 68
def jK:Obj:=.cells #[false,(),(),()] 524
def z9:Obj:=.cells #[.int .u8 0,.int .u8 0,.int .u8 0,.int .u8 0] 171
def kA:Obj:=.cells #[false,.int .u8 0,.int .u8 0,.int .u8 0,.int .u8 0,.int .u8 0,.int .u8 0,.int .u8 0,.int .u8 0,.int .u8 0,.int .u8 0,.int .u8 0,.int .u8 0,.int .u8 0,.int .u8 0,.int .u8 0,.int .u8 0,(0:Int)] 30
def uf:Obj:=.cells #[(0:Int),(0:Int),(0:Int),.int .u64 0,.int .u64 0,(0:Int)] 252
def j9:Obj:=.cells #[(0:Int),(),(0:Int),(0:Int),false,(0:Int)] 75
def jo:Obj:=.cells #[false,.int .u8 0,.int .u8 0,.int .u8 0,.int .u8 0,.int .u8 0,.int .u8 0,.int .u8 0,.int .u8 0,.int .u8 0,.int .u8 0,.int .u8 0,.int .u8 0,.int .u8 0,.int .u8 0,.int .u8 0,.int .u8 0] 24
def BD:Obj:=.cells #[(0:Int),false,.int .u8 0,.int .u8 0,.int .u8 0,.int .u8 0,.int .u8 0,.int .u8 0,.int .u8 0,.int .u8 0,.int .u8 0,.int .u8 0,.int .u8 0,.int .u8 0,.int .u8 0,.int .u8 0,.int .u8 0,.int .u8 0,.int .u16 0,.int .u8 0,(0:Int),.int .u64 0,()] 85
def mV:Obj:=.cells #[(0:Int),false,.int .u8 0,.int .u8 0,.int .u8 0,.int .u8 0,.int .u8 0,.int .u8 0,.int .u8 0,.int .u8 0,.int .u8 0,.int .u8 0,.int .u8 0,.int .u8 0,.int .u8 0,.int .u8 0,.int .u8 0,.int .u8 0,.int .u16 0,(0:Int),false] 87
def jq:Obj:=.cells #[(0:Int),(0:Int),false,.int .u8 0,.int .u8 0,.int .u8 0,.int .u8 0,.int .u8 0,.int .u8 0,.int .u8 0,.int .u8 0,.int .u8 0,.int .u8 0,.int .u8 0,.int .u8 0,.int .u8 0,.int .u8 0,.int .u8 0,.int .u8 0,.int .u16 0,(0:Int),.int .u64 0] 291
def wV:Obj:=.cells #[.int .u8 69,.int .u8 0] 5
def rS:Obj:=.cells #[.int .u8 96,.int .u8 0,.int .u8 0,.int .u8 0] 5
def mW:Obj:=.cells #[(0:Int),false,.int .u8 0,.int .u8 0,.int .u8 0,.int .u8 0,.int .u8 0,.int .u8 0,.int .u8 0,.int .u8 0,.int .u8 0,.int .u8 0,.int .u8 0,.int .u8 0,.int .u8 0,.int .u8 0,.int .u8 0,.int .u8 0,(0:Int),(0:Int),.int .u64 0] 402
def o1:Obj:=.cells #[.bool false,.int .u8 0,.int .u8 0,.int .u8 0,.int .u8 0,.int .u8 0,.int .u8 0,.int .u8 0,.int .u8 0,.int .u8 0,.int .u8 0,.int .u8 0,.int .u8 0,.int .u8 0,.int .u8 0,.int .u8 0,.int .u8 0,.bool false,.int .u8 0,.int .u8 0,.int .u8 0,.int .u8 0,.int .u8 0,.int .u8 0,.int .u8 0,.int .u8 0,.int .u8 0,.int .u8 0,.int .u8 0,.int .u8 0,.int .u8 0,.int .u8 0,.int .u8 0,.int .u8 0,.int .u16 0,.int .u16 0,.int .u8 0] 27
def BE:Obj:=.cells #[(0:Int),(0:Int)] 390
def z22:Obj:=.cells #[false,(0:Int)] 392
def z23:Obj:=.cells #[(0:Int),(0:Int)] 533
def z24:Obj:=.cells #[.int .u64 0,(0:Int),(0:Int),(0:Int),(0:Int),(0:Int)] 127
def a1:aB:=(.q (.c (.q .l) .l))
def a26:aB:=(.q (.c (.q .l) a1))
def a28:aB:=(.bg (.q (.c (.q .l) a26)))
def a23:aB:=(.q (.s a1 (.q .l)))
def a24:aB:=(.q (.s (.q (.bg (.loop [(8,(.int .i64))] [0,1,7] (.q (.s (.c .l .l) (.s (.bg (.q a1)) .r)))))) (.q .l)))
def a25:aB:=(.q (.q (.q .l)))
def a27:aB:=(.s (.q a1) (.q .l))
def a2:aB:=(.s (.q (.c (.q (.q (.s (.e 8 false [0,0,0,1002001,1003000,0,0,1006005,1007004] [9046] [10,2,8,1048047,1049046,1,2,1052051,1053050] (.z 8 0 .e)) (.q .l)))) .l)) (.q (.s (.q (.c (.s (.e 8 false [0,0,0,1002001,1003000,0,0,1006005,1007004] [9069] [1,2,8,1071070,1072069,1,2,1075074,1076073] (.z 8 0 .e)) (.q (.q .l))) .l)) a25)))
def a3:aB:=(.q (.s (.z [9,8]) .l))
def a4:aB:=(.q (.s (.c .l .l) (.s (.bg (.q .r)) .r)))
def a5:aB:=(.s (.z [9,8]) (.c (.q .l) .l))
def c0:aB:=(.q (.s (.s (.z [9,8,9,8]) (.c (.q .l) .l)) (.q .l)))
def eV:aB:=(.q (.q (.q (.s (.bg (.loop [(9,(.int .i64)),(10,(.int .i64))] [0,1,2,8] (.s (.q (.c .l .l)) (.bg (.q (.q (.c .r .r))))))) (.s (.z [15,25]) .l)))))
def eG:aB:=(.s (.z [12,10]) (.c (.q .l) .l))
def a9:aB:=(.s (.z [9,10]) (.c (.q .l) .l))
def dF:aB:=(.q (.c .l (.q (.c .l .l))))
def e1:aB:=(.q (.s (.c .l .l) (.s (.bg (.q (.q .r))) .r)))
def eH:aB:=(.q a25)
def e5:aB:=(.q (.c (.q (.q .l)) .l))
def fJ:aB:=(.q (.s (.z [12,11]) .l))
def jr:aB:=(.q (.c (.q .r) .l))
def gp:aB:=(.q (.s (.z [9,8,9,8,9,8]) .l))
def lL:aB:=(.s (.z [9,10,12,10]) (.c (.q .l) .l))
def ik:aB:=(.s (.q (.c .l .l)) (.s (.bg .r) .r))
def mj:aB:=(.q (.s (.z [9,8,9,22]) .l))
def fy:aB:=(.s (.q (.c .l .l)) (.q .l))
def fl:aB:=(.s (.z [12,16]) (.c (.q .l) .l))
def a22:aB:=(.s (.z [9,13]) (.c (.q .l) .l))
theorem okF{f:Nat}{fn:Func}(p:I->(O->I->Prop)->Prop)(A:aB){args:Y O}{w:I}{Q:O->I->Prop}(hf:Tryz.prog.funcs[f]? =some fn)(h:p w Q)(h1:qb fn args.length=true:=by kernel_rfl)(h2:p w Q=rG ae tk A fn args w Q:=by kernel_rfl):aA ae f args.toArray w Q:=Jd BB hf h1 (Eq.mp h2 h)
def dK(a:I)(ag:I)(b:I)(w:I)(Q:O->I->Prop):Prop:=∃d:Y O,aG a (aa ag) 0 39=some d/\e0 a (aa b) λn34=>ef a b 1 λn35=>cJ a b 2 λn36=>bh a
 b 3 λn37=>cT a b 4 λj=>bh a b 5 λn39=>∃e:Y O,aG a ((aa ag).add 3) 0 17=some e/\∃f:Y O,aG a ((aa ag).add 20) 0 17=some f/\e0 a (aa b) λk=>ef
 a b 1 λl=>cJ a ag 1 λm=>∃g:Array O,Sem.run ae (Instr.build 27 #[(0,.agg e.toArray),(1,.agg f.toArray),(2,.int .u16 k),(3,.int .u16 l),(4,.int .u8 m)]) a=.ok (.agg g)
 a/\∃c:Array O,Sem.run ae (Instr.build 92 #[(0,.agg d.toArray),(1,.agg #[.int .u16 n34,.int .u16 n35,.int .u8 n36,n37,j,n39]),(2,.agg g)]) a=.ok (.agg c) a/\
 bE a (aa w) (Array.toList c)/\Array.size c=82/\aq (setCells a (aa w) 0 (Array.toList c)) λh=>∃i:Y O,aG h (aa w) 0 82=some i/\Q (.tuple #[.agg i.toArray,(0:Int)]) h
def dz(aP:I)(a:I)(f:Array O)(w:I)(w1:I)(Q:O->I->Prop):Prop:=bE aP (aa a) (Array.toList f)/\Array.size f=4/\aq (setCells aP (aa a) 0 (Array.toList f)) λk=>bD
 k w 1 λl=>c3 0 k λt m n17 bd=>ad (decide (n17<(l.len:Int))) (bc l n17 λmj=>a_ bd (bn mj n17 1) λu=>bx bd λg h=>jJ h g a 1 λv=>bl 30 #[u] g λx d=>af h g d/\aq (d.alloc (.cells #[x] 28)) λn=>af h d n/\ap 229 v (.slice (some (aa d)) 1 1) n λy
 z=>st z ((aa a).add 1) y λo=>t (ak (n17+1)) o/\m (ak (n17+1)) o<m n17 bd) (bD bd w 2 λp=>c3 0 bd λA q n34 b=>ad (decide (n34<(p.len:Int))) (bc p
 n34 λB=>a_ b (bn B n34 1) λC=>bx b λi j=>jJ j i a 2 λD=>bl 30 #[C] i λE e=>af j i e/\aq (e.alloc (.cells #[E] 28)) λr=>af j e r/\ap 229 D (.slice (some (aa e)) 1 1) r λF G=>st G ((aa a).add 2) F λs=>A (ak (n34
 +1)) s/\q (ak (n34+1)) s<q n34 b) (bq b (aa a) λH=>bD b a 1 λJ=>bD b a 2 λK=>bD b a 3 λL=>b7 b (aa w1) [H,J,K,
 L] 4 λc=>bq c (aa w1) λM=>bD c w1 1 λN=>bD c w1 2 λP=>bD c w1 3 λR=>Q (.agg #[M,N,P,R]) c))
def lM(ag:I)(w:I)(Q:O->I->Prop):Prop:=aY ag (aa w) λa=>bD ag w 1 λb=>bh ag w 2 λn5=>bh ag w 3 λn6=>cT ag w 4 λc=>bh ag w 5 λn8=>Q (.agg #[a,b,n5,n6,c,n8]) ag
def rT(ag:I)(w1:I)(Q:O->I->Prop):Prop:=b7 ag (aa w1) [.int .u16 0,.int .u16 0,.int .u8 0,(0:Int),false,(0:Int)] 6 λa=>e0 a (aa w1) λaX=>ef a w1 1 λn5=>cJ a w1 2 λn6
 =>bh a w1 3 λn7=>cT a w1 4 λb=>bh a w1 5 λn9=>Q (.tuple #[.agg #[.int .u16 aX,.int .u16 n5,.int .u8 n6,n7,b,n9],(9:Int)]) a
def ql(a:I)(w1:I)(Q:O->I->Prop):Prop:=e0 a (aa w1) λb=>ef a w1 1 λc=>cJ a w1 2 λd=>bh a w1 3 λe=>cT a w1 4 λf=>bh a w1 5 λg=>Q (.tuple #[.agg #[.int
 .u16 b,.int .u16 c,.int .u8 d,e,f,g],(4:Int)]) a
def o2(a:I)(w1:I)(Q:O->I->Prop):Prop:=e0 a (aa w1) λb=>ef a w1 1 λc=>cJ a w1 2 λd=>bh a w1 3 λe=>cT a w1 4 λf=>bh a w1 5 λg=>Q (.tuple #[.agg #[.int
 .u16 b,.int .u16 c,.int .u8 d,e,f,g],(0:Int)]) a
def ug(w1:I)(w:I)(Q:O->I->Prop):Prop:=∃bQ:Array O,Sem.run ae (Instr.build 65 #[]) w1=.ok (.agg bQ) w1/\bE w1 (aa w) (Array.toList bQ)/\Array.size bQ=39/\aq (setCells w1 (aa
 w) 0 (Array.toList bQ)) λa=>∃b:Y O,aG a (aa w) 0 39=some b/\Q (.tuple #[.agg b.toArray,(9:Int)]) a
def wW(a:I)(w:I)(Q:O->I->Prop)(n5:Int):Prop:=∃b:Array O,Sem.run ae (Instr.build 92 #[]) a=.ok (.agg b) a/\bE a (aa w) (Array.toList b)/\Array.size b=82/\aq
 (setCells a (aa w) 0 (Array.toList b)) λc=>∃d:Y O,aG c (aa w) 0 82=some d/\Q (.tuple #[.agg d.toArray,n5]) c
def fK(b:I)(w:I)(a:Array O)(Q:O->I->Prop)(n10:Int):Prop:=bE b (aa w) (Array.toList a)/\Array.size a=39/\aq (setCells b (aa w) 0 (Array.toList a)) λc=>∃d:Y O,
 aG c (aa w) 0 39=some d/\Q (.tuple #[.agg d.toArray,n10]) c
def rU(b:I)(w1:I)(a:Array O)(Q:O->I->Prop):Prop:=bE b (aa w1) (Array.toList a)/\Array.size a=10/\aq (setCells b (aa w1) 0 (Array.toList a)) λc=>∃d:Y O,aG
 c (aa w1) 0 10=some d/\Q (.agg d.toArray) c
def wX(a:I)(b:ai)(c:I)(d:ai)(e:ai)(data:ai)(Q:O->I->Prop):Prop:=aq (a.alloc (.cells #[b,.slice (some (aa c)) 2 2,d,e,data] 28)) λf=>bl 173 #[.slice (some (aa a)) 5 5] f λg h=>Q (.tuple #[g,(0:Int)]) h
def wY(a:I)(b:ai)(c:I)(d:ai)(Q:O->I->Prop):Prop:=aq (a.alloc (.cells #[b,.slice (some (aa c)) 2 2,d] 28)) λe=>bl
 173 #[.slice (some (aa a)) 3 3] e λf g=>Q (.tuple #[f,true]) g
def BF(a:I)(c:I)(w1:I)(Q:O->I->Prop):Prop:=bq a (aa c) λd=>bD a c 1 λe=>bD a c 2 λf=>bD a c 3 λg=>b7 a (aa w1) [d,e,f,g] 4 λb=>bq b (aa w1) λh=>bD b w1 1 λi=>bD b w1 2 λj=>bD b w1 3 λk=>Q (.tuple #[.agg #[h,i,
 j,k],true]) b
def BG(g:O)(aP:I)(d:aw av)(h:I->Prop)(b:I->Nat)(i:I):Prop:=∃n15:Int,∃j:O,∃c:I,Sem.run ae (Instr.entry (g)) aP=.ok (.tuple #[n15,j])
 c/\bx c λbd e=>pt d λfy=>fk e bd (fy.add 4) λk=>hJ 193 #[d,n15] bd λa bk=>af e bd bk/\bc k n15 λa25=>bE bk (bn a25 n15 256) (Array.toList a)/\
 Array.size a=256/\aq (setCells bk (bn a25 n15 256) 0 (Array.toList a)) λf=>h f/\b f<b i
def rV(aJ:I)(w1:I)(a:Array O)(Q:O->I->Prop):Prop:=bE aJ (aa w1) (Array.toList a)/\Array.size a=10/\aq (setCells aJ (aa w1) 0 (Array.toList a)) λaP=>∃b:Y O,aG
 aP (aa w1) 0 10=some b/\Q (.tuple #[.agg b.toArray,true]) aP
def BH(n16:Int)(n17:Int)(bd:I)(ag:I)(b:Int->I->Prop):Prop:=(0:Int)<=n16/\∃a:UInt8,fR (ByteArray.mk #[48,49,50,51,52,53,54,55,56,57,97,98,99,100,101,102,103,104,105,106,
 107,108,109,110,111,112,113,114,115,116,117,118,119,120,121,122]) (n16.toNat)=some a/\((0:Int)<=(ak (n17-1))/\(ak (n17-1))<((65:Nat):Int))/\st bd ((aa ag).add ((ak (n17-1)).toNat*1))
 (.int .u8 (a.toNat:Int)) λbk=>b (ak (n17-1)) bk
def BI(g:I)(c:aw av)(w:I)(Q:O->I->Prop):Prop:=bx g λa b=>pt c λd=>¬b d.block/\∃e:aw av,a.cell? d=some (e)/\pt c λh=>eU b a
 (h.add 84) λi=>¬b ((aa w):av).block/\∃f:Y O,aG a (aa w) 0 18=some f/\hG 270 #[e,i,.agg f.toArray] a λj k l=>Q (.tuple #[j,k]) l
def BJ(b:I)(w:I)(f:I)(e:ai->I->Prop)(d:ai):Prop:=bq b (aa w) λg=>ad g (bD b f 1 λc=>((0:Int)<=40/\40<=(c.cap:Int))/\((0:Int)<=24/\24<=(((Int.toNat
 40):Nat):Int))/\e ⟨(bj c.a 1 (Int.toNat 24) c.cap),((Int.toNat 40)-(Int.toNat 24)),(c.cap-(Int.toNat 24))⟩ b) (e ⟨(bj d.a 1 (Int.toNat 16) d.cap),((Int.toNat 20)-(Int.toNat 16)),(d.cap-(Int.toNat 16))⟩
 b)
def wZ(n10:Int)(c:Int->Int->I->Prop)(a:Int)(aX:Int)(aJ:I)(b:Int->Int->I->Nat)(aH:I):Prop:=ad (decide (n10<0)) (c (ak ((ak (Int.fdiv (IntKind.wrap .u64 (ak (a+aX))) (2^(min
 (Int.toNat 1) 64))))+1)) aX aJ/\b (ak ((ak (Int.fdiv (IntKind.wrap .u64 (ak (a+aX))) (2^(min (Int.toNat 1) 64))))+1)) aX aJ<b a aX aH) (c a (ak (Int.fdiv (IntKind.wrap .u64 (ak (a+aX))) (2^(min (Int.toNat 1) 64)))) aJ
 /\b a (ak (Int.fdiv (IntKind.wrap .u64 (ak (a+aX))) (2^(min (Int.toNat 1) 64)))) aJ<b a aX aH)
def w2(w1:I)(w:I)(Q:O->I->Prop):Prop:=∃a:Array O,Sem.run ae (Instr.build 65 #[]) w1=.ok (.agg a) w1/\bE w1 (aa w) (Array.toList a)/\Array.size a=39/\aq (setCells w1
 (aa w) 0 (Array.toList a)) λb=>∃c:Y O,aG b (aa w) 0 39=some c/\Q (.tuple #[.agg c.toArray,(12:Int)]) b
def BK(w1:I)(w:I)(Q:O->I->Prop):Prop:=∃bQ:Array O,Sem.run ae (Instr.build 85 #[]) w1=.ok (.agg bQ) w1/\bE w1 (aa w) (Array.toList bQ)/\Array.size bQ=23/\aq (setCells w1
 (aa w) 0 (Array.toList bQ)) λa=>∃b:Y O,aG a (aa w) 0 23=some b/\Q (.tuple #[.agg b.toArray,false]) a
def BL(w1:I)(w:I)(Q:O->I->Prop):Prop:=∃bQ:Array O,Sem.run ae (Instr.build 65 #[]) w1=.ok (.agg bQ) w1/\bE w1 (aa w) (Array.toList bQ)/\Array.size bQ=39/\aq (setCells w1 (aa
 w) 0 (Array.toList bQ)) λa=>∃b:Y O,aG a (aa w) 0 39=some b/\Q (.tuple #[.agg b.toArray,(10:Int)]) a
def BM(c:ai)(e:ai)(a:I)(f:Nat->Prop)(g:aw Nat)(i:Int)(d:aw av)(Q:O->I->Prop):Prop:=ap 234 c e a λh
 b=>af f a b/\∃bk:I,Sem.run ae (Instr.mapUpdate 235 (.map g) i h) b=.ok () bk/\pt d λa23=>aY bk (a23.add 6) λn24=>pt d λa25=>st
 bk (a25.add 6) (.int .i64 (ak (n24+1))) λj=>Q (0:Int) j
def w3(a:I)(w1:I)(Q:O->I->Prop):Prop:=e0 a (aa w1) λn31=>ef a w1 1 λn32=>cJ a w1 2 λn33=>bh a w1 3 λn34=>cT a w1 4 λb=>bh a w1 5 λn36=>Q (.tuple #[.agg
 #[.int .u16 n31,.int .u16 n32,.int .u8 n33,n34,b,n36],(5:Int)]) a
def BN(a:ai):Prop:=(0:Int)<=(ak (232-(a.len:Int)))/\((ak (232-(a.len:Int))):Int)<=(ak (232-(a.len:Int)))/\((ak (232-(a.len:Int))):Int)<=gG/\((1:Nat):Int)*(ak (232-(a.len:Int)))<=
 140737488355328
def BO(a:I)(c:ai)(d:I)(e:ai)(f:I)(b:ai)(g:ai->I->Prop):Prop:=aq (a.alloc (.cells #[c,.slice (some (aa d)) (Int.toNat 4) (Int.toNat 4),e,.slice (some (aa f)) ((ak (232-(b.len:Int))).toNat) ((ak (232-(b.len:Int))).toNat)] 28)) λh=>bl 173 #[.slice (some (aa a)) 4 4] h λi j=>g i j
def BP(d:aw av)(aP:I)(Q:O->I->Prop):Prop:=pt d λa27=>∃a:aw Nat,aP.cell? (a27.add 5)=some (.map a)/\∃ (c:O) (b:I),Sem.run ae (Builtin.clear_
 #[235] 0 #[.map a]) aP=.ok c b/\Q (0:Int) b
def w4(b:I)(w:I)(a:Array O)(Q:O->I->Prop):Prop:=bE b (aa w) (Array.toList a)/\Array.size a=39/\aq (setCells b (aa w) 0 (Array.toList a)) λc=>∃d:Y O,aG
 c (aa w) 0 39=some d/\Q (.tuple #[.agg d.toArray,(0:Int)]) c
def w5(a:I)(n19:Int)(b:Nat->Prop)(c:ai)(Q:O->I->Prop):Prop:=aq (a.alloc (.cells #[.int .u8 0,.int .u8 0,.int .u8 0,.int .u8 n19] 5)) λb8=>af b a b8/\ap 28 c (.slice (some (aa a)) 4 4) b8 λd e=>Q d e
def BQ(a:I)(w:I)(Q:O->I->Prop)(b:ai):Prop:=aY a (aa w) λn8=>bD a w 1 λb_=>bh a w 2 λn10=>bh a w 3 λn11=>Q (.tuple #[b,.agg #[n8,b_,n10,n11],true]) a
def BR(aH:I)(w:I)(a:Y O)(Q:O->I->Prop):Prop:=bE aH (aa w) (Array.toList a.toArray)/\Array.size a.toArray=256/\aq (setCells aH (aa w) 0 (Array.toList a.toArray)) λaJ=>∃b:Y
 O,aG aJ (aa w) 0 256=some b/\Q (.agg b.toArray) aJ
def w6(b:I)(w:I)(a:Y O)(Q:O->I->Prop):Prop:=bE b (aa w) (Array.toList a.toArray)/\Array.size a.toArray=17/\aq (setCells b (aa w) 0 (Array.toList a.toArray)) λaH=>∃c:Y
 O,aG aH (aa w) 0 17=some c/\Q (.agg c.toArray) aH
def BS(ag:I)(w:I)(eW:Array O)(Q:O->I->Prop):Prop:=bE ag (aa w) (Array.toList eW)/\Array.size eW=17/\aq (setCells ag (aa w) 0 (Array.toList eW)) λaH=>∃a:Y O,aG aH (aa w) 0
 17=some a/\Q (.tuple #[.agg a.toArray,true]) aH
def w7(a:Int)(aX:Int)(x:ai):Prop:=(0:Int)<=(ak (Int.fdiv (IntKind.wrap .u64 (ak (a+aX))) (2^(min (Int.toNat 1) 64))))/\(ak (Int.fdiv (IntKind.wrap .u64 (ak (a+aX))) (2^(min (Int.toNat 1) 64))))<(x.len:Int)
def w8(a:I)(w:I)(Q:O->I->Prop):Prop:=aY a (aa w) λn35=>bD a w 1 λb=>bh a w 2 λn37=>bh a w 3 λn38=>Q (.agg #[n35,b,n37,n38]) a
def w9(a:I)(aC:I)(w1:I)(Q:O->I->Prop):Prop:=aY a (aa aC) λn25=>bD a aC 1 λb=>bh a aC 2 λn27=>bh a aC 3 λn28=>cT a aC 4 λc=>bh a aC 5 λn30=>b7 a
 (aa w1) [n25,b,n27,n28,c,n30] 6 λcN=>lM cN w1 Q
set_option maxRecDepth 100000
def Z.qm(s:ai)(f:ic)(w:I)(Q:O->I->Prop):Prop:=bG 33 #[s,.func (.func f.f) f.pre f.cap] w λa w1=>Q (.bool
 (decide (a>=0))) w1
def ao.qm:aB:=(.q (.q .l))
def Z.qn(s:ai)(w:I)(Q:O->I->Prop):Prop:=ad (Option.isNone s.a) (Q () w) (aq (w.alloc (.cells #[] 5)) λw1=>ap 28 (.slice (some (aa w)) 0 0) s w1 λs2 b=>Q s2 b)
def ao.qn:aB:=a23
def Z.qo(s:ai)(f:ic)(w:I)(Q:O->I->Prop):Prop:=c3 0 w λe c a aC=>ad (decide (a<(s.len:Int))) (k1 s a aC 40 λg=>iA ae f.f/\Calls ae f.f
 (f.pre++ #[.agg g.toArray]++f.cap) aC λh b=>∃d:ah,h=.returned d/\ad d (Q a b) (e (ak (a+1)) b/\c (ak (a+1)) b<c a aC)) (Q (.int .i64 (-1)) aC)
def ao.qo:aB:=a24
def Z.w_(s:ai)(i:Int)(v:ai)(w:I)(Q:O->I->Prop):Prop:=((0:Int)<=i/\i<=(s.len:Int))/\ad ((v.len:Int)==0) (Q s w) (ad (i==(s.len:Int)) (ap
 83 s v w λs1 ag=>Q s1 ag) (ad (decide (((ak ((s.len:Int)+(v.len:Int))):Int)>(s.cap:Int))) (((0:Int)<=i/\i<=((s.cap:Nat):
 Int))/\∃b:ai,∃aC:I,Sem.run ae (Builtin.append_ #[83,3] 83 #[.slice (bj s.a 21 0 s.cap) ((i.toNat)-0) (s.cap-0),.int .i64 (ak ((ak ((s.len:Int)+(v.len:Int)))-i))]) w=
 .ok b aC/\((0:Int)<=i/\i<=(b.len:Int))/\∃n5:Int,∃d:I,Sem.run ae (Builtin.copy_ #[83,83] 3 #[.slice (bj b.a 21 (i.toNat) b.cap) (b.len-
 (i.toNat)) (b.cap-(i.toNat)),v]) aC=.ok n5 d/\aq (d.drew) λj=>((0:Int)<=(ak (i+(v.len:Int)))/\(ak (i+(v.len:Int)))<=(b.len:Int))/\((0:Int)<=i/\i<=(s.len:Int))/\∃n8:
 Int,∃e:I,Sem.run ae (Builtin.copy_ #[83,83] 3 #[.slice (bj b.a 21 ((ak (i+(v.len:Int))).toNat) b.cap) (b.len-((ak (i+(v.len:Int))).toNat)) (b.cap-((ak (i+
 (v.len:Int))).toNat)),.slice (bj s.a 21 (i.toNat) s.cap) (s.len-(i.toNat)) (s.cap-(i.toNat))]) j=.ok n8 e/\Q b e) (((0:Int)<=(ak ((s.len:Int)+(v.len:Int)))/\(ak ((s.len:Int)+
 (v.len:Int)))<=(s.cap:Int))/\((0:Int)<=(ak (i+(v.len:Int)))/\(ak (i+(v.len:Int)))<=(((((ak ((s.len:Int)+(v.len:Int))).toNat)-0):Nat):Int))/\∃f:ah,∃c:I,Sem.run ae (callFunc
 202 #[v,.slice (bj (bj s.a 21 0 s.cap) 21 ((ak (i+(v.len:Int))).toNat) (s.cap-0)) ((((ak ((s.len:Int)+(v.len:Int))).toNat)-0)-((ak (i+(v.len:Int))).toNat)) ((s.cap
 -0)-((ak (i+(v.len:Int))).toNat))]) w=.ok (.value f) c/\ad (!f) (aq (c.drew) λaP=>((0:Int)<=(ak (i+(v.len:Int)))/\(ak (i+(v.len:Int)))<=(((((ak ((s.len:Int)+(v.len:Int))).toNat)-0):Nat):
 Int))/\((0:Int)<=i/\i<=(((((ak ((s.len:Int)+(v.len:Int))).toNat)-0):Nat):Int))/\∃n13:Int,∃g:I,Sem.run ae (Builtin.copy_ #[83,83] 3 #[.slice (bj (bj s.a 21 0
 s.cap) 21 ((ak (i+(v.len:Int))).toNat) (s.cap-0)) ((((ak ((s.len:Int)+(v.len:Int))).toNat)-0)-((ak (i+(v.len:Int))).toNat)) ((s.cap-0)-((ak (i+(v.len:Int))).toNat)),.slice (bj (bj s.a 21 0 s.cap) 21
 (i.toNat) (s.cap-0)) ((((ak ((s.len:Int)+(v.len:Int))).toNat)-0)-(i.toNat)) ((s.cap-0)-(i.toNat))]) aP=.ok n13 g/\((0:Int)<=i/\i<=(((((ak ((s.len:Int)+(v.len:Int))).toNat)-0):Nat)
 :Int))/\∃n15:Int,∃h:I,Sem.run ae (Builtin.copy_ #[83,83] 3 #[.slice (bj (bj s.a 21 0 s.cap) 21 (i.toNat) (s.cap-0)) ((((ak ((s.len:Int)+(v.len:Int))).toNat)-0)-
 (i.toNat)) ((s.cap-0)-(i.toNat)),v]) g=.ok n15 h/\Q (.slice (bj s.a 21 0 s.cap) (((ak ((s.len:Int)+(v.len:Int))).toNat)-0) (s.cap-0)) h) (((0:Int)<=(s.len:Int)/\
 (s.len:Int)<=(((((ak ((s.len:Int)+(v.len:Int))).toNat)-0):Nat):Int))/\∃n17:Int,∃bd:I,Sem.run ae (Builtin.copy_ #[83,83] 3 #[.slice (bj (bj s.a 21 0 s.cap) 21
 (Int.toNat (s.len:Int)) (s.cap-0)) ((((ak ((s.len:Int)+(v.len:Int))).toNat)-0)-(Int.toNat (s.len:Int))) ((s.cap-0)-(Int.toNat (s.len:Int))),v]) c=.ok n17 bd/\((0:Int)<=i/\i<=
 (((((ak ((s.len:Int)+(v.len:Int))).toNat)-0):Nat):Int))/\dc 203 #[.slice (bj (bj s.a 21 0 s.cap) 21 (i.toNat) (s.cap-0)) ((((ak ((s.len:Int)+(v.len:Int))).toNat)-0)-(Int.toNat
 i)) ((s.cap-0)-(i.toNat)),.int .i64 (v.len:Int)] bd λk=>Q (.slice (bj s.a 21 0 s.cap) (((ak ((s.len:Int)+(v.len:Int))).toNat)-0) (s.cap-0)) k))))
def ao.w_:aB:=(.q (.q (.q (.s a1 (.q (.s a1 a2))))))
def Z.rW(x:Int)(y:Int)(w:I)(Q:O->I->Prop):Prop:=br 245 #[x] w λb w1=>br 245 #[y] w1 λa aC=>ad b (ad a (Q (0:Int) aC) (Q (.int .i64
 (-1)) aC)) (ad a (Q (1:Int) aC) (ad (decide (x<y)) (Q (.int .i64 (-1)) aC) (ad (decide (x>y)) (Q (1:Int) aC) (Q (0:Int) aC))))
def ao.rW:aB:=(.q (.q (.q (.s (.q (.c (.s a1 (.q .l)) .l)) (.s a1 (.s a1 (.s a1 (.q .l))))))))
def Z.xa(x:ai)(target:Int)(cmp:ic)(w:I)(Q:O->I->Prop):Prop:=eT 0 (x.len:Int) w λe g b aX aH=>ad (decide (b<aX)) ((0:Int)<=1/\∃c0:av,
 x.a=some c0/\(w7 b aX x)/\∃c:Y O,aG aH (c0.add (Int.toNat (ak (Int.fdiv (IntKind.wrap .u64 (ak (b+aX))) (2^(min (Int.toNat 1) 64))))*21)) 0 21=some c/\iA ae cmp.f/\Calls ae cmp.f
 (cmp.pre++ #[.agg c.toArray,.int .i64 target]++cmp.cap) aH λh aJ=>∃n10:Int,h=.returned (.int .i64 n10)/\wZ n10 e b aX aJ g aH) (aV (λd:ah->I->Prop=>ad (decide (b<(x.len:Int))) (k1 x b aH 21 λ
 i=>iA ae cmp.f/\Calls ae cmp.f (cmp.pre++ #[.agg i.toArray,.int .i64 target]++cmp.cap) aH λj k=>∃n16:Int,j=.returned (.int .i64 n16)/\d (n16==0) k) (d false aH)) (λ(l:ah) bd
 =>Q (.tuple #[.int .i64 b,.bool l]) bd))
def ao.xa:aB:=eV
def Z.xb(s:ai)(w:I)(Q:O->I->Prop):Prop:=ad (Option.isNone s.a) (Q () w) (∃s1:ai,∃ag:I,Sem.run ae (Instr.buildSlice 83 0 #[]) w
 =.ok s1 ag/\ap 83 s1 s ag λb aC=>Q b aC)
def ao.xb:aB:=a23
def Z.o3(a:ai)(b:ai)(w:I)(Q:O->I->Prop):Prop:=∃cx:Int,∃ag:I,Sem.run ae (callFunc 294 #[a,b]) w=.ok (.value cx) ag/\Q cx ag
def ao.o3:aB:=(.q (.q .l))
def Z.cmp_isNaN_int(x:Int)(w:I)(Q:O->I->Prop):Prop:=Q (.bool (x !=x)) w
def ao.cmp_isNaN_int:aB:=(.q (.q .l))
def Z.xc(i:Int)(w:I)(Q:O->I->Prop):Prop:=gT 297 #[i] w λa w1=>Q (.string a) w1
def ao.xc:aB:=(.q (.q .l))
def Z.xd(s:ai)(w:I)(Q:O->I->Prop):Prop:=ad (Option.isNone s.a) (Q () w) (aq (w.alloc (.cells #[] 5)) λw1=>ap 339 (.slice (some (aa w)) 0 0) s w1 λs2 b=>Q s2 b)
def ao.xd:aB:=a23
def Z.xe(elems:ai)(b:ByteArray)(w:I)(Q:O->I->Prop):Prop:=ad ((elems.len:Int)==0) (Q (.string (ByteArray.mk #[])) w) (ad ((elems.len:Int)==1) (bc elems 0 λa1=>r1 w (bn a1 0 1) λs2=>Q
 (.string s2) w) (aV (λe:Int->I->Prop=>ad (decide ((((ByteArray.size b:Nat):Int):Int)>0)) (aV (λj:I->Prop=>((ak ((elems.len:Int)-1)):Int)≠0/\ad (decide ((((ByteArray.size b:Nat):Int):Int)>=
 (ak (Int.tdiv gG (ak ((elems.len:Int)-1)))))) (False) (j w)) (λaH=>e (ak (0+(ak (((ByteArray.size b:Nat):Int)*(ak ((elems.len:Int)-1)))))) aH)) (e 0 w)) (λ(n6:Int) k=>eT n6 0 k λl f n10 n11 aP=>ad
 (decide (n11<(elems.len:Int))) (bc elems n11 λe5=>r1 aP (bn e5 n11 1) λd=>aV (λm:I->Prop=>ad (decide ((((ByteArray.size d:Nat):Int):Int)>(ak (gG-n10)))) (False) (m aP)) (λg=>l (ak (n10+
 ((ByteArray.size d:Nat):Int))) (ak (n11+1)) g/\f (ak (n10+((ByteArray.size d:Nat):Int))) (ak (n11+1)) g<f n10 n11 aP)) (aq (aP.alloc (.cells #[.pointer none,()] 511)) λn=>dc
 348 #[.pointer (some (aa aP)),n10] n λbd=>bc elems 0 λfy=>r1 bd (bn fy 0 1) λo=>wM 349 #[.pointer (some (aa aP)),.string o] bd λn24 u bk=>((0:
 Int)<=1/\1<=(elems.len:Int))/\c3 0 bk λp h n28 c=>ad (decide (n28<(((elems.len-(Int.toNat 1)):Nat):Int))) (∃i:av,(bj elems.a 1 (Int.toNat 1) elems.cap)=some i/\((0:Int)<=n28/\n28<(((elems.len-
 (Int.toNat 1)):Nat):Int))/\r1 c (bn i n28 1) λq=>wM 349 #[.pointer (some (aa aP)),.string b] c λn34 v r=>wM 349 #[.pointer (some (aa aP)),.string q]
 r λn38 x cr=>p (ak (n28+1)) cr/\h (ak (n28+1)) cr<h n28 c) (gT 350 #[.pointer (some (aa aP))] c λs t=>Q (.string s) t)))))
def ao.xe:aB:=(.q (.s (.q (.bg a26)) (.q (.s (.c7 [(5,(.int .i64))] [0,1] (.q (.c (.s (.c7 [] [0,1,5] (.q (.c .r .l))) .r) .l))) (.s (.q (.bg (.loop [(5,(.int .i64)),(41,(.int .i64))] [0,1,39,40] (.q (.s (.c .l .l)
 (.s (.bg (.q (.s (.c7 [] [0,1,5,7,39,40,41] (.q (.c .r .l))) .r))) .r)))))) (.q (.q (.q (.s (.q (.bg (.loop [(65,(.int .i64))] [1,8,63,64] e1))) (.q .l))))))))))
def Z.xf(i:Int)(base:Int)(w:I)(Q:O->I->Prop):Prop:=gT 351 #[aZ i,base] w λa w1=>Q (.string a) w1
def ao.xf:aB:=(.q (.q .l))
def Z.uh(i:Int)(w:I)(Q:O->I->Prop):Prop:=gT 352 #[i,(10:Int)] w λa w1=>Q (.string a) w1
def ao.uh:aB:=(.q (.q .l))
theorem Z.JE(i:Int)(w:I)(Q:O->I->Prop)(h:Z.uh i w Q):aA ae 297 #[i] w Q:=okF (λw Q=>Z.uh i w Q) ao.uh func297 h
set_option maxRecDepth 100000
def Z.xg(x:Int)(w:I)(Q:O->I->Prop):Prop:=aV (λbU:Int->Int->I->Prop=>ad (decide (x>=4294967296)) ((0:Int)<=32/\bU (Int.fdiv x (2^(min (Int.toNat 32) 64))) 32 w) (bU x 0 w)) (λ
 (bB:Int) (a:Int) aC=>aV (λb:Int->Int->I->Prop=>ad (decide (bB>=65536)) ((0:Int)<=16/\b (Int.fdiv bB (2^(min (Int.toNat 16) 64))) (ak (a+16)) aC) (b bB a aC)) (λ(n6:Int) (n7:Int) aJ=>aV (λc:
 Int->Int->I->Prop=>ad (decide (n6>=256)) ((0:Int)<=8/\c (Int.fdiv n6 (2^(min (Int.toNat 8) 64))) (ak (n7+8)) aJ) (c n6 n7 aJ)) (λ(n10:Int) (n11:Int) aP=>(0:Int)<=(IntKind.wrap .u8 n10)/\∃d:UInt8,
 fR (ByteArray.mk #[0,1,2,2,3,3,3,3,4,4,4,4,4,4,4,4,5,5,5,5,5,5,5,5,5,5,5,5,5,5,5,5,6,6,6,6,6,6,6,6,6,6,6,6,6,6,6,6,6,6,6,6,6,6,6,6,6,6,6,6,6,6,6,6,7,7,7,7,7,7,7,7,
 7,7,7,7,7,7,7,7,7,7,7,7,7,7,7,7,7,7,7,7,7,7,7,7,7,7,7,7,7,7,7,7,7,7,7,7,7,7,7,7,7,7,7,7,7,7,7,7,7,7,7,7,7,7,7,7,8,8,8,8,8,8,8,8,8,8,8,8,8,8,8,8,8,8,8,8,8,8,8,8,
 8,8,8,8,8,8,8,8,8,8,8,8,8,8,8,8,8,8,8,8,8,8,8,8,8,8,8,8,8,8,8,8,8,8,8,8,8,8,8,8,8,8,8,8,8,8,8,8,8,8,8,8,8,8,8,8,8,8,8,8,8,8,8,8,8,8,8,8,8,8,8,8,8,8,8,8,8,8,8,8,
 8,8,8,8,8,8,8,8,8,8,8,8,8,8,8,8,8,8,8,8,8,8,8,8]) ((IntKind.wrap .u8 n10).toNat)=some d/\Q (.int .i64 (ak (n11+(ak (d.toNat:Int))))) aP)))
def ao.xg:aB:=(.q (.s (.c7 [(0,(.int .u64)),(2,(.int .i64))] [] jr) (.s (.c7 [(0,(.int .u64)),(2,(.int .i64))] [] jr) (.s (.c7 [(0,(.int .u64)),(2,(.int .i64))] [] jr) (.q .l)))))
def Z.ui(b:aw av)(n:Int)(w:I)(Q:O->I->Prop):Prop:=dc 394 #[b] w λw1=>aV (λa:I->Prop=>ad (decide (n<0)) (False) (a w1)) (λaC=>
 aq (aC.drew) λaH=>pt b λc0=>¬False/\a_ aH (c0.add 1) λc=>pt b λeG=>¬False/\a_ aH (eG.add 1) λb_=>ad (decide (((ak ((c.cap:Int)-(b_.len:Int))):Int)<n)) (dc 395 #[b,
 n] aH λd=>Q (.tuple #[]) d) (Q (.tuple #[]) aH))
def ao.ui:aB:=(.q (.s (.c7 [] [0,1] (.q (.c .r .l))) (.s (.e 12 false [0,4000,0,4005,1009004,0,1011010] [13009] [1,4009,1,4014,1018013,2,1020019] (.z 12 0 .e)) (.c .r .l))))
theorem Z.JF(b:aw av)(n:Int)(w:I)(Q:O->I->Prop)(h:Z.ui b n w Q):aA ae 348 #[b,n] w Q:=okF (λw Q=>Z.ui b n w Q) ao.ui func348 h
def Z.uj(b:aw av)(s:ByteArray)(w:I)(Q:O->I->Prop):Prop:=dc 394 #[b] w λw1=>pt b λa3=>a_ w1 (a3.add 1) λd=>∃a:ai,∃c:
 I,Sem.run ae (Builtin.append_ #[28,9] 28 #[d,.string s]) w1=.ok a c/\pt b λeV=>st c (eV.add 1) a λaJ=>Q
 (.tuple #[.int .i64 ((ByteArray.size s:Nat):Int),.nilIface]) aJ
def ao.uj:aB:=eH
theorem Z.JG(b:aw av)(s:ByteArray)(w:I)(Q:O->I->Prop)(h:Z.uj b s w Q):aA ae 349 #[b,.string s] w Q:=okF (λw Q=>Z.uj b s w Q) ao.uj func349 h
def Z.uk(b:aw av)(w:I)(Q:O->I->Prop):Prop:=bx w λw1 a=>pt b λa3=>fk a w1 (a3.add 1) λe=>pt b λa5=>fk a w1 (a5.add 1) λcK=>∃c:aw av,∃aJ:I,
 Sem.run ae (Builtin.unsafeSliceData_ #[28] 562 #[e]) w1=.ok (c) aJ/\af a w1 aJ/\∃b_:ByteArray,∃d:I,Sem.run ae (Builtin.unsafeString_ #[562,3]
 9 #[c,.int .i64 (cK.len:Int)]) aJ=.ok (.string b_) d/\Q (.string b_) d
def ao.uk:aB:=(.q (.s (.d 10 true [0,4000,0,4005,1009004,511] [0,4000,0,4005,1009004,11] [11003,3] [1,4003,1,4008,1012007,14] (.z 4 0 (.z 5 5 (.bJ 4 (.tail [.r,.r]))))) .l))
theorem Z.JH(b:aw av)(w:I)(Q:O->I->Prop)(h:Z.uk b w Q):aA ae 350 #[b] w Q:=okF (λw Q=>Z.uk b w Q) ao.uk func350 h
def Z.um(i:Int)(base:Int)(w:I)(Q:O->I->Prop):Prop:=ad (base==10) (ad (decide (i<100)) (gT 396 #[.int .i64 (ak i)] w λc w1=>Q (.string c) w1) (aq
 (w.alloc j8) λaC=>bG 397 #[aZ i] aC λn7 aH=>((0:Int)<=n7/\n7<=((24:Nat):Int))/\dc 398 #[.slice (bj (some (aa w)) 1 0 24) ((n7.toNat)-0) (24-0),aZ i] aH
 λaJ=>((0:Int)<=n7/\n7<=((24:Nat):Int))/\∃a:ByteArray,∃b:I,Sem.run ae (convert 28 9 (.slice (bj (some (aa w)) 1 0 24) ((n7.toNat)-0) (24-0))) aJ=.ok (.string a) b/\Q
 (.string a) b)) (wN 399 #[(),aZ i,base,false,false] w λe d aP=>Q (.string d) aP)
def ao.um:aB:=(.q (.s (.q (.c (.s a1 eH) .l)) (.q (.q .l))))
theorem Z.JI(i:Int)(base:Int)(w:I)(Q:O->I->Prop)(h:Z.um i base w Q):aA ae 351 #[.int .u64 i,base] w Q:=okF (λw Q=>Z.um i base w Q) ao.um func351 h
def Z.xh(i:Int)(base:Int)(w:I)(Q:O->I->Prop):Prop:=ad (base==10) (ad ((decide ((0:Int)<=i))&&(decide (i<100))) (gT 396 #[i] w λg w1=>Q
 (.string g) w1) (aq (w.alloc j8) λaC=>aV (λa:Int->I->Prop=>ad (decide (i<0)) (a (IntKind.wrap .u64 (0-(IntKind.wrap .u64 i))) aC) (a (IntKind.wrap .u64 i) aC)) (λ(n6:Int) h=>bG 397
 #[aZ n6] h λn10 aJ=>((0:Int)<=(ak (1+n10))/\(ak (1+n10))<=((24:Nat):Int))/\((0:Int)<=1/\1<=((((ak (1+n10)).toNat):Nat):Int))/\dc 398 #[.slice (bj (some (aa w)) 1 (Int.toNat
 1) 24) (((ak (1+n10)).toNat)-(Int.toNat 1)) (24-(Int.toNat 1)),aZ n6] aJ λb=>ad (decide (i<0)) (((0:Int)<=0/\0<((24:Nat):Int))/\st b ((aa w).add (Int.toNat 0*1)) (.int .u8 45) λj=>((0:Int)<=
 (ak (1+n10))/\(ak (1+n10))<=((24:Nat):Int))/\∃c:ByteArray,∃d:I,Sem.run ae (convert 28 9 (.slice (bj (some (aa w)) 1 0 24) (((ak (1+n10)).toNat)-0) (24-0))) j=.ok (.string
 c) d/\Q (.string c) d) (((0:Int)<=(ak (1+n10))/\(ak (1+n10))<=((24:Nat):Int))/\((0:Int)<=1/\1<=((((ak (1+n10)).toNat):Nat):Int))/\∃e:ByteArray,∃f:I,Sem.run ae (convert
 28 9 (.slice (bj (some (aa w)) 1 (Int.toNat 1) 24) (((ak (1+n10)).toNat)-(Int.toNat 1)) (24-(Int.toNat 1)))) b=.ok (.string e) f/\Q (.string e) f)))) (wN 399 #[(),aZ (IntKind.wrap .u64 i),base,.bool (decide (i<0)),false] w λl k bd=>Q (.string k) bd)
def ao.xh:aB:=(.q (.s (.q (.c (.s a5 (.q (.q (.s (.c7 [(6,(.int .u64))] [0,5] (.q (.c .r .l))) (.q (.q (.s e5 (.q .l)))))))) .l)) (.q (.q .l))))
set_option maxRecDepth 100000
def Z.xi(s:ai)(v:Int)(w:I)(Q:O->I->Prop):Prop:=bG 405 #[s,v] w λa w1=>Q (.bool (decide (a>=0))) w1
def ao.xi:aB:=(.q (.q .l))
def Z.xj(x:ai)(count:Int)(w:I)(Q:O->I->Prop):Prop:=aV (λbU:I->Prop=>ad (decide (count<0)) (False) (bU w)) (λag=>wO 407 #[.int .u64 (IntKind.wrap .u64
 (x.len:Int)),aZ (IntKind.wrap .u64 count)] ag λn5 n6 e=>aV (λf:I->Prop=>ad ((decide (n5>0))||(decide (n6>gG))) (False) (f e)) (λaJ=>((0:Int)<=(ak n6)/\((ak n6):Int)<=(ak n6)/\((ak n6):Int)<=gG/\
 ((8:Nat):Int)*(ak n6)<=140737488355328)/\aq (aJ.alloc (.cells (gF ae 3 ((ak n6).toNat)) 3)) λg=>∃n10:Int,∃c:I,Sem.run ae (Builtin.copy_ #[88,88] 3 #[.slice (some
 (aa aJ)) ((ak n6).toNat) ((ak n6).toNat),x]) g=.ok n10 c/\c3 n10 c λh d n14 a=>ad (decide (n14<((((ak n6).toNat):Nat):Int))) (bx a λi j=>((0:Int)<=n14/\
 n14<=((((ak n6).toNat):Nat):Int))/\((0:Int)<=n14/\n14<=((((ak n6).toNat):Nat):Int))/\∃n18:Int,∃b:I,Sem.run ae (Builtin.copy_ #[88,88] 3 #[.slice (bj (some (aa aJ)) 1
 (n14.toNat) ((ak n6).toNat)) (((ak n6).toNat)-(n14.toNat)) (((ak n6).toNat)-(n14.toNat)),.slice (bj (some (aa aJ)) 1 0 ((ak n6).toNat)) ((n14.toNat)-0) (((ak n6).toNat)-0)]) i=.ok n18 b/\h (ak (n14+n18)) b/\d (ak (n14+n18)) b<d n14 a) (Q (.slice (some (aa aJ)) ((ak n6).toNat) ((ak n6).toNat)) a)))
def ao.xj:aB:=(.q (.s (.c7 [] [0,1] (.q (.c .r .l))) (.q (.s (.c7 [] [0,6] (.s (.z [9,8]) (.c .r .l))) (.q (.q (.s (.bg (.loop [(8,(.int .i64))] [7] (.s (.q (.c .l .l)) (.bg (.d 8 true
 [0,0,0,1002001,0,0,1005004,1006003,1007000,509] [0,0,0,1002001,0,0,1005004,1006003,1007000,1000000000293] [9038,9] [9,2007,1040039,2007,1043042,1044041,1045038,47] (.z 7 0 (.out 7 false (.tail [.r,.r])))))))) (.q .l))))))))
def Z.uo(b:aw av)(w:I)(Q:O->I->Prop):Prop:=pt b λa1=>∃fH:aw av,w.cell? a1=some (fH)/\ad (Option.isNone fH) (∃a:aw av,∃aC:I,Sem.run
 ae (convert 509 588 (b)) w=.ok (a) aC/\∃c:aw av,∃d:I,Sem.run ae (callFunc 422 #[a]) aC=.ok (.value (c)) d/\∃
 e:aw av,∃aJ:I,Sem.run ae (convert 588 509 (c)) d=.ok (e) aJ/\pt b λa9=>st aJ a9 (e) λh=>Q (.tuple #[]) h) (pt b λe1=>∃f:
 aw av,w.cell? e1=some (f)/\∃g:ah,A6 ae .neq 509 (.tmp 17) (.tmp 18) (f) (b) g/\ad g (False) (Q (.tuple #[]) w))
def ao.uo:aB:=(.q (.c .r (.q (.c .l .l))))
theorem Z.JJ(b:aw av)(w:I)(Q:O->I->Prop)(h:Z.uo b w Q):aA ae 394 #[b] w Q:=okF (λw Q=>Z.uo b w Q) ao.uo func394 h
def Z.uq(b:aw av)(n:Int)(w:I)(Q:O->I->Prop):Prop:=bx w λw1 d=>pt b λa3=>fk d w1 (a3.add 1) λe=>pt b λa5=>fk d w1 (a5.add 1) λcK=>∃c:ai,∃aJ:I,
 Sem.run ae (callFunc 423 #[.int .i64 (ak ((ak (2*(e.cap:Int)))+n))]) w1=.ok (.value c) aJ/\af d w1 aJ/\((0:Int)<=(cK.len:Int)/\(cK.len:Int)<=((c.cap:
 Nat):Int))/\pt b λa9=>a_ aJ (a9.add 1) λf=>∃n11:Int,∃aP:I,Sem.run ae (Builtin.copy_ #[28,28] 3 #[.slice (bj c.a 1 0 c.cap) ((Int.toNat (cK.len:Int))-0) (c.cap-0),f]) aJ=.ok n11 aP/\pt b λe5=>st aP (e5.add 1) (.slice (bj c.a 1 0 c.cap) ((Int.toNat (cK.len:Int))-0) (c.cap-0)) λg=>Q (.tuple #[]) g
def ao.uq:aB:=(.s (.d 14 true [0,5000,0,1006005,8,0,4009,1013008,515] [0,5000,0,1006005,8,0,4009,1013008,15] [15005,5] [1,5005,2,1011010,13,1,4014,1018013,20] (.z 8 0 (.z 5 9 (.bJ 8 (.tail [.r,.r]))))) (.q .r))
theorem Z.JK(b:aw av)(n:Int)(w:I)(Q:O->I->Prop)(h:Z.uq b n w Q):aA ae 395 #[b,n] w Q:=okF (λw Q=>Z.uq b n w Q) ao.uq func395 h
def Z.xk(i:Int)(w:I)(Q:O->I->Prop):Prop:=ad (decide (i<10)) (((0:Int)<=(ak (i+1))/\(ak (i+1))<=(((ByteArray.size (ByteArray.mk #[48,49,50,51,52,53,54,55,56,57,97,98,99,
 100,101,102,103,104,105,106,107,108,109,110,111,112,113,114,115,116,117,118,119,120,121,122])):Nat):Int))/\((0:Int)<=i/\i<=((((ak (i+1)).toNat):Nat):Int))/\Q (.string (ByteArray.extract
 (ByteArray.mk #[48,49,50,51,52,53,54,55,56,57,97,98,99,100,101,102,103,104,105,106,107,108,109,110,111,112,113,114,115,116,117,118,119,120,121,122]) (i.toNat) ((ak (i+1)).toNat))) w) (((0:Int)
 <=(ak ((ak (i*2))+2))/\(ak ((ak (i*2))+2))<=(((ByteArray.size (ByteArray.mk #[48,48,48,49,48,50,48,51,48,52,48,53,48,54,48,55,48,56,48,57,49,48,49,49,49,50,49,51,49,52,49,53,49,54,49,55,49,56,
 49,57,50,48,50,49,50,50,50,51,50,52,50,53,50,54,50,55,50,56,50,57,51,48,51,49,51,50,51,51,51,52,51,53,51,54,51,55,51,56,51,57,52,48,52,49,52,50,52,51,52,52,52,53,52,54,52,55,52,56,
 52,57,53,48,53,49,53,50,53,51,53,52,53,53,53,54,53,55,53,56,53,57,54,48,54,49,54,50,54,51,54,52,54,53,54,54,54,55,54,56,54,57,55,48,55,49,55,50,55,51,55,52,55,53,55,54,55,55,55,56,
 55,57,56,48,56,49,56,50,56,51,56,52,56,53,56,54,56,55,56,56,56,57,57,48,57,49,57,50,57,51,57,52,57,53,57,54,57,55,57,56,57,57])):Nat):Int))/\((0:Int)<=(ak (i*2))/\(ak (i*2))<=
 ((((ak ((ak (i*2))+2)).toNat):Nat):Int))/\Q (.string (ByteArray.extract (ByteArray.mk #[48,48,48,49,48,50,48,51,48,52,48,53,48,54,48,55,48,56,48,57,49,48,49,49,49,50,49,51,49,52,49,53,49,54,49,
 55,49,56,49,57,50,48,50,49,50,50,50,51,50,52,50,53,50,54,50,55,50,56,50,57,51,48,51,49,51,50,51,51,51,52,51,53,51,54,51,55,51,56,51,57,52,48,52,49,52,50,52,51,52,52,52,53,52,54,52,
 55,52,56,52,57,53,48,53,49,53,50,53,51,53,52,53,53,53,54,53,55,53,56,53,57,54,48,54,49,54,50,54,51,54,52,54,53,54,54,54,55,54,56,54,57,55,48,55,49,55,50,55,51,55,52,55,53,55,54,55,
 55,55,56,55,57,56,48,56,49,56,50,56,51,56,52,56,53,56,54,56,55,56,56,56,57,57,48,57,49,57,50,57,51,57,52,57,53,57,54,57,55,57,56,57,57]) ((ak (i*2)).toNat) ((ak ((ak (i*2))+
 2)).toNat))) w)
def ao.xk:aB:=a23
def Z.xl(d:Int)(w:I)(Q:O->I->Prop):Prop:=bG 347 #[aZ d] w λa w1=>bG 424 #[a] w1 λn6 aC=>((0:Int)<=n6/\n6<((20:Nat):
 Int))/\di aC (Addr.add ⟨1,0,none⟩ (n6.toNat*1)) λn7=>bG 425 #[.bool (decide (d>=n7))] aC λn10 aJ=>Q (.int .i64 (ak (n6+n10))) aJ
def ao.xl:aB:=a25
set_option maxRecDepth 100000
def Z.xm(a:ai)(u:Int)(w:I)(Q:O->I->Prop):Prop:=eT u (a.len:Int) w λA e b aX aH=>ad (decide (aX>=8)) ((100000000:Int)≠0/\(100000000:Int)≠0/\(10000:Int)≠0/\
 (10000:Int)≠0/\(100:Int)≠0/\(100:Int)≠0/\(100:Int)≠0/\(100:Int)≠0/\bx aH λB an=>(0:Int)<=(IntKind.wrap .u32 ((IntKind.wrap .u32 ((Int.tmod (Int.tmod (IntKind.wrap .u32 (Int.tmod b 100000000)) 10000) 100)*
 2))+1))/\∃f:UInt8,fR (ByteArray.mk #[48,48,48,49,48,50,48,51,48,52,48,53,48,54,48,55,48,56,48,57,49,48,49,49,49,50,49,51,49,52,49,53,49,54,49,55,49,56,49,57,50,48,50,49,50,50,50,51,
 50,52,50,53,50,54,50,55,50,56,50,57,51,48,51,49,51,50,51,51,51,52,51,53,51,54,51,55,51,56,51,57,52,48,52,49,52,50,52,51,52,52,52,53,52,54,52,55,52,56,52,57,53,48,53,49,53,50,53,51,
 53,52,53,53,53,54,53,55,53,56,53,57,54,48,54,49,54,50,54,51,54,52,54,53,54,54,54,55,54,56,54,57,55,48,55,49,55,50,55,51,55,52,55,53,55,54,55,55,55,56,55,57,56,48,56,49,56,50,56,51,
 56,52,56,53,56,54,56,55,56,56,56,57,57,48,57,49,57,50,57,51,57,52,57,53,57,54,57,55,57,56,57,57]) ((IntKind.wrap .u32 ((IntKind.wrap .u32 ((Int.tmod (Int.tmod (IntKind.wrap .u32 (Int.tmod b
 100000000)) 10000) 100)*2))+1)).toNat)=some f/\(0:Int)<=(IntKind.wrap .u32 ((Int.tmod (Int.tmod (IntKind.wrap .u32 (Int.tmod b 100000000)) 10000) 100)*2))/\∃g:UInt8,fR (ByteArray.mk #[48,48,48,49,48,50,48,51,48,
 52,48,53,48,54,48,55,48,56,48,57,49,48,49,49,49,50,49,51,49,52,49,53,49,54,49,55,49,56,49,57,50,48,50,49,50,50,50,51,50,52,50,53,50,54,50,55,50,56,50,57,51,48,51,49,51,50,51,51,51,
 52,51,53,51,54,51,55,51,56,51,57,52,48,52,49,52,50,52,51,52,52,52,53,52,54,52,55,52,56,52,57,53,48,53,49,53,50,53,51,53,52,53,53,53,54,53,55,53,56,53,57,54,48,54,49,54,50,54,51,54,
 52,54,53,54,54,54,55,54,56,54,57,55,48,55,49,55,50,55,51,55,52,55,53,55,54,55,55,55,56,55,57,56,48,56,49,56,50,56,51,56,52,56,53,56,54,56,55,56,56,56,57,57,48,57,49,57,50,57,51,57,
 52,57,53,57,54,57,55,57,56,57,57]) ((IntKind.wrap .u32 ((Int.tmod (Int.tmod (IntKind.wrap .u32 (Int.tmod b 100000000)) 10000) 100)*2)).toNat)=some g/\bc a (ak (aX-1)) λdF=>st B (dF.add ((ak (aX-1)).toNat
 *1)) (.int .u8 (f.toNat:Int)) λC=>bc a (ak (aX-2)) λeH=>st C (eH.add ((ak (aX-2)).toNat*1)) (.int .u8 (g.toNat:Int)) λD=>bx D λE ao=>(0:Int)<=(IntKind.wrap .u32
 ((IntKind.wrap .u32 ((IntKind.wrap .u32 (Int.tdiv (Int.tmod (IntKind.wrap .u32 (Int.tmod b 100000000)) 10000) 100))*2))+1))/\∃h:UInt8,fR (ByteArray.mk #[48,48,48,49,48,50,48,51,48,52,48,53,48,54,48,55,48,56,
 48,57,49,48,49,49,49,50,49,51,49,52,49,53,49,54,49,55,49,56,49,57,50,48,50,49,50,50,50,51,50,52,50,53,50,54,50,55,50,56,50,57,51,48,51,49,51,50,51,51,51,52,51,53,51,54,51,55,51,56,
 51,57,52,48,52,49,52,50,52,51,52,52,52,53,52,54,52,55,52,56,52,57,53,48,53,49,53,50,53,51,53,52,53,53,53,54,53,55,53,56,53,57,54,48,54,49,54,50,54,51,54,52,54,53,54,54,54,55,54,56,
 54,57,55,48,55,49,55,50,55,51,55,52,55,53,55,54,55,55,55,56,55,57,56,48,56,49,56,50,56,51,56,52,56,53,56,54,56,55,56,56,56,57,57,48,57,49,57,50,57,51,57,52,57,53,57,54,57,55,57,56,
 57,57]) ((IntKind.wrap .u32 ((IntKind.wrap .u32 ((IntKind.wrap .u32 (Int.tdiv (Int.tmod (IntKind.wrap .u32 (Int.tmod b 100000000)) 10000) 100))*2))+1)).toNat)=some h/\(0:Int)<=(IntKind.wrap .u32 ((IntKind.wrap .u32
 (Int.tdiv (Int.tmod (IntKind.wrap .u32 (Int.tmod b 100000000)) 10000) 100))*2))/\∃i:UInt8,fR (ByteArray.mk #[48,48,48,49,48,50,48,51,48,52,48,53,48,54,48,55,48,56,48,57,49,48,49,49,49,50,49,51,49,
 52,49,53,49,54,49,55,49,56,49,57,50,48,50,49,50,50,50,51,50,52,50,53,50,54,50,55,50,56,50,57,51,48,51,49,51,50,51,51,51,52,51,53,51,54,51,55,51,56,51,57,52,48,52,49,52,50,52,51,52,
 52,52,53,52,54,52,55,52,56,52,57,53,48,53,49,53,50,53,51,53,52,53,53,53,54,53,55,53,56,53,57,54,48,54,49,54,50,54,51,54,52,54,53,54,54,54,55,54,56,54,57,55,48,55,49,55,50,55,51,55,
 52,55,53,55,54,55,55,55,56,55,57,56,48,56,49,56,50,56,51,56,52,56,53,56,54,56,55,56,56,56,57,57,48,57,49,57,50,57,51,57,52,57,53,57,54,57,55,57,56,57,57]) ((IntKind.wrap .u32
 ((IntKind.wrap .u32 (Int.tdiv (Int.tmod (IntKind.wrap .u32 (Int.tmod b 100000000)) 10000) 100))*2)).toNat)=some i/\bc a (ak (aX-3)) λik=>st E (ik.add ((ak (aX-3)).toNat*1)) (.int .u8 (h.toNat:Int)) λF
 =>bc a (ak (aX-4)) λfy=>st F (fy.add ((ak (aX-4)).toNat*1)) (.int .u8 (i.toNat:Int)) λG=>bx G λbk ap=>(0:Int)<=(IntKind.wrap .u32 ((IntKind.wrap .u32 ((Int.tmod (IntKind.wrap .u32 (Int.tdiv
 (IntKind.wrap .u32 (Int.tmod b 100000000)) 10000)) 100)*2))+1))/\∃j:UInt8,fR (ByteArray.mk #[48,48,48,49,48,50,48,51,48,52,48,53,48,54,48,55,48,56,48,57,49,48,49,49,49,50,49,51,49,52,49,53,49,
 54,49,55,49,56,49,57,50,48,50,49,50,50,50,51,50,52,50,53,50,54,50,55,50,56,50,57,51,48,51,49,51,50,51,51,51,52,51,53,51,54,51,55,51,56,51,57,52,48,52,49,52,50,52,51,52,52,52,53,52,
 54,52,55,52,56,52,57,53,48,53,49,53,50,53,51,53,52,53,53,53,54,53,55,53,56,53,57,54,48,54,49,54,50,54,51,54,52,54,53,54,54,54,55,54,56,54,57,55,48,55,49,55,50,55,51,55,52,55,53,55,
 54,55,55,55,56,55,57,56,48,56,49,56,50,56,51,56,52,56,53,56,54,56,55,56,56,56,57,57,48,57,49,57,50,57,51,57,52,57,53,57,54,57,55,57,56,57,57]) ((IntKind.wrap .u32 ((IntKind.wrap .u32
 ((Int.tmod (IntKind.wrap .u32 (Int.tdiv (IntKind.wrap .u32 (Int.tmod b 100000000)) 10000)) 100)*2))+1)).toNat)=some j/\(0:Int)<=(IntKind.wrap .u32 ((Int.tmod (IntKind.wrap .u32 (Int.tdiv (IntKind.wrap .u32 (Int.tmod b 100000000))
 10000)) 100)*2))/\∃k:UInt8,fR (ByteArray.mk #[48,48,48,49,48,50,48,51,48,52,48,53,48,54,48,55,48,56,48,57,49,48,49,49,49,50,49,51,49,52,49,53,49,54,49,55,49,56,49,57,50,48,50,49,50,
 50,50,51,50,52,50,53,50,54,50,55,50,56,50,57,51,48,51,49,51,50,51,51,51,52,51,53,51,54,51,55,51,56,51,57,52,48,52,49,52,50,52,51,52,52,52,53,52,54,52,55,52,56,52,57,53,48,53,49,53,
 50,53,51,53,52,53,53,53,54,53,55,53,56,53,57,54,48,54,49,54,50,54,51,54,52,54,53,54,54,54,55,54,56,54,57,55,48,55,49,55,50,55,51,55,52,55,53,55,54,55,55,55,56,55,57,56,48,56,49,56,
 50,56,51,56,52,56,53,56,54,56,55,56,56,56,57,57,48,57,49,57,50,57,51,57,52,57,53,57,54,57,55,57,56,57,57]) ((IntKind.wrap .u32 ((Int.tmod (IntKind.wrap .u32 (Int.tdiv (IntKind.wrap .u32 (Int.tmod
 b 100000000)) 10000)) 100)*2)).toNat)=some k/\bc a (ak (aX-5)) λa26=>st bk (a26.add ((ak (aX-5)).toNat*1)) (.int .u8 (j.toNat:Int)) λH=>bc a (ak (aX-6)) λa28=>st H (a28.add ((ak (aX-
 6)).toNat*1)) (.int .u8 (k.toNat:Int)) λJ=>bx J λK aq=>(0:Int)<=(IntKind.wrap .u32 ((IntKind.wrap .u32 ((IntKind.wrap .u32 (Int.tdiv (IntKind.wrap .u32 (Int.tdiv (IntKind.wrap .u32 (Int.tmod b 100000000))
 10000)) 100))*2))+1))/\∃l:UInt8,fR (ByteArray.mk #[48,48,48,49,48,50,48,51,48,52,48,53,48,54,48,55,48,56,48,57,49,48,49,49,49,50,49,51,49,52,49,53,49,54,49,55,49,56,49,57,50,48,50,
 49,50,50,50,51,50,52,50,53,50,54,50,55,50,56,50,57,51,48,51,49,51,50,51,51,51,52,51,53,51,54,51,55,51,56,51,57,52,48,52,49,52,50,52,51,52,52,52,53,52,54,52,55,52,56,52,57,53,48,53,
 49,53,50,53,51,53,52,53,53,53,54,53,55,53,56,53,57,54,48,54,49,54,50,54,51,54,52,54,53,54,54,54,55,54,56,54,57,55,48,55,49,55,50,55,51,55,52,55,53,55,54,55,55,55,56,55,57,56,48,56,
 49,56,50,56,51,56,52,56,53,56,54,56,55,56,56,56,57,57,48,57,49,57,50,57,51,57,52,57,53,57,54,57,55,57,56,57,57]) ((IntKind.wrap .u32 ((IntKind.wrap .u32 ((IntKind.wrap .u32 (Int.tdiv
 (IntKind.wrap .u32 (Int.tdiv (IntKind.wrap .u32 (Int.tmod b 100000000)) 10000)) 100))*2))+1)).toNat)=some l/\(0:Int)<=(IntKind.wrap .u32 ((IntKind.wrap .u32 (Int.tdiv (IntKind.wrap .u32 (Int.tdiv (IntKind.wrap .u32 (Int.tmod b
 100000000)) 10000)) 100))*2))/\∃m:UInt8,fR (ByteArray.mk #[48,48,48,49,48,50,48,51,48,52,48,53,48,54,48,55,48,56,48,57,49,48,49,49,49,50,49,51,49,52,49,53,49,54,49,55,49,56,49,57,50,48,
 50,49,50,50,50,51,50,52,50,53,50,54,50,55,50,56,50,57,51,48,51,49,51,50,51,51,51,52,51,53,51,54,51,55,51,56,51,57,52,48,52,49,52,50,52,51,52,52,52,53,52,54,52,55,52,56,52,57,53,48,
 53,49,53,50,53,51,53,52,53,53,53,54,53,55,53,56,53,57,54,48,54,49,54,50,54,51,54,52,54,53,54,54,54,55,54,56,54,57,55,48,55,49,55,50,55,51,55,52,55,53,55,54,55,55,55,56,55,57,56,48,
 56,49,56,50,56,51,56,52,56,53,56,54,56,55,56,56,56,57,57,48,57,49,57,50,57,51,57,52,57,53,57,54,57,55,57,56,57,57]) ((IntKind.wrap .u32 ((IntKind.wrap .u32 (Int.tdiv (IntKind.wrap .u32
 (Int.tdiv (IntKind.wrap .u32 (Int.tmod b 100000000)) 10000)) 100))*2)).toNat)=some m/\bc a (ak (aX-7)) λL=>st K (L.add ((ak (aX-7)).toNat*1)) (.int .u8 (l.toNat:Int)) λM=>bc a (ak (aX-8)) λN
 =>st M (N.add ((ak (aX-8)).toNat*1)) (.int .u8 (m.toNat:Int)) λn=>A (IntKind.wrap .u64 (Int.tdiv b 100000000)) (ak (aX-8)) n/\e (IntKind.wrap .u64 (Int.tdiv b 100000000)) (ak (aX-8)) n<e b aX
 aH) (aV (λo:Int->Int->I->Prop=>ad (decide (aX>=4)) ((10000:Int)≠0/\(10000:Int)≠0/\(100:Int)≠0/\(100:Int)≠0/\bx aH λP ar=>(0:Int)<=(IntKind.wrap .u32 ((IntKind.wrap .u32 ((Int.tmod (Int.tmod
 (IntKind.wrap .u32 b) 10000) 100)*2))+1))/\∃p:UInt8,fR (ByteArray.mk #[48,48,48,49,48,50,48,51,48,52,48,53,48,54,48,55,48,56,48,57,49,48,49,49,49,50,49,51,49,52,49,53,49,54,49,55,49,56,
 49,57,50,48,50,49,50,50,50,51,50,52,50,53,50,54,50,55,50,56,50,57,51,48,51,49,51,50,51,51,51,52,51,53,51,54,51,55,51,56,51,57,52,48,52,49,52,50,52,51,52,52,52,53,52,54,52,55,52,56,
 52,57,53,48,53,49,53,50,53,51,53,52,53,53,53,54,53,55,53,56,53,57,54,48,54,49,54,50,54,51,54,52,54,53,54,54,54,55,54,56,54,57,55,48,55,49,55,50,55,51,55,52,55,53,55,54,55,55,55,56,
 55,57,56,48,56,49,56,50,56,51,56,52,56,53,56,54,56,55,56,56,56,57,57,48,57,49,57,50,57,51,57,52,57,53,57,54,57,55,57,56,57,57]) ((IntKind.wrap .u32 ((IntKind.wrap .u32 ((Int.tmod (Int.tmod
 (IntKind.wrap .u32 b) 10000) 100)*2))+1)).toNat)=some p/\(0:Int)<=(IntKind.wrap .u32 ((Int.tmod (Int.tmod (IntKind.wrap .u32 b) 10000) 100)*2))/\∃q:UInt8,fR (ByteArray.mk #[48,48,48,49,48,50,48,51,48,52,48,
 53,48,54,48,55,48,56,48,57,49,48,49,49,49,50,49,51,49,52,49,53,49,54,49,55,49,56,49,57,50,48,50,49,50,50,50,51,50,52,50,53,50,54,50,55,50,56,50,57,51,48,51,49,51,50,51,51,51,52,51,
 53,51,54,51,55,51,56,51,57,52,48,52,49,52,50,52,51,52,52,52,53,52,54,52,55,52,56,52,57,53,48,53,49,53,50,53,51,53,52,53,53,53,54,53,55,53,56,53,57,54,48,54,49,54,50,54,51,54,52,54,
 53,54,54,54,55,54,56,54,57,55,48,55,49,55,50,55,51,55,52,55,53,55,54,55,55,55,56,55,57,56,48,56,49,56,50,56,51,56,52,56,53,56,54,56,55,56,56,56,57,57,48,57,49,57,50,57,51,57,52,57,
 53,57,54,57,55,57,56,57,57]) ((IntKind.wrap .u32 ((Int.tmod (Int.tmod (IntKind.wrap .u32 b) 10000) 100)*2)).toNat)=some q/\bc a (ak (aX-1)) λR=>st P (R.add ((ak (aX-1)).toNat*1)) (.int .u8
 (p.toNat:Int)) λS=>bc a (ak (aX-2)) λT=>st S (T.add ((ak (aX-2)).toNat*1)) (.int .u8 (q.toNat:Int)) λU=>bx U λV au=>(0:Int)<=(IntKind.wrap .u32 ((IntKind.wrap .u32
 ((IntKind.wrap .u32 (Int.tdiv (Int.tmod (IntKind.wrap .u32 b) 10000) 100))*2))+1))/\∃r:UInt8,fR (ByteArray.mk #[48,48,48,49,48,50,48,51,48,52,48,53,48,54,48,55,48,56,48,57,49,48,49,49,49,50,49,51,
 49,52,49,53,49,54,49,55,49,56,49,57,50,48,50,49,50,50,50,51,50,52,50,53,50,54,50,55,50,56,50,57,51,48,51,49,51,50,51,51,51,52,51,53,51,54,51,55,51,56,51,57,52,48,52,49,52,50,52,51,
 52,52,52,53,52,54,52,55,52,56,52,57,53,48,53,49,53,50,53,51,53,52,53,53,53,54,53,55,53,56,53,57,54,48,54,49,54,50,54,51,54,52,54,53,54,54,54,55,54,56,54,57,55,48,55,49,55,50,55,51,
 55,52,55,53,55,54,55,55,55,56,55,57,56,48,56,49,56,50,56,51,56,52,56,53,56,54,56,55,56,56,56,57,57,48,57,49,57,50,57,51,57,52,57,53,57,54,57,55,57,56,57,57]) ((IntKind.wrap .u32
 ((IntKind.wrap .u32 ((IntKind.wrap .u32 (Int.tdiv (Int.tmod (IntKind.wrap .u32 b) 10000) 100))*2))+1)).toNat)=some r/\(0:Int)<=(IntKind.wrap .u32 ((IntKind.wrap .u32 (Int.tdiv (Int.tmod (IntKind.wrap .u32 b) 10000) 100))*2))/\∃
 s:UInt8,fR (ByteArray.mk #[48,48,48,49,48,50,48,51,48,52,48,53,48,54,48,55,48,56,48,57,49,48,49,49,49,50,49,51,49,52,49,53,49,54,49,55,49,56,49,57,50,48,50,49,50,50,50,51,50,52,50,
 53,50,54,50,55,50,56,50,57,51,48,51,49,51,50,51,51,51,52,51,53,51,54,51,55,51,56,51,57,52,48,52,49,52,50,52,51,52,52,52,53,52,54,52,55,52,56,52,57,53,48,53,49,53,50,53,51,53,52,53,
 53,53,54,53,55,53,56,53,57,54,48,54,49,54,50,54,51,54,52,54,53,54,54,54,55,54,56,54,57,55,48,55,49,55,50,55,51,55,52,55,53,55,54,55,55,55,56,55,57,56,48,56,49,56,50,56,51,56,52,56,
 53,56,54,56,55,56,56,56,57,57,48,57,49,57,50,57,51,57,52,57,53,57,54,57,55,57,56,57,57]) ((IntKind.wrap .u32 ((IntKind.wrap .u32 (Int.tdiv (Int.tmod (IntKind.wrap .u32 b) 10000) 100))*2)).toNat)=some s
 /\bc a (ak (aX-3)) λW=>st V (W.add ((ak (aX-3)).toNat*1)) (.int .u8 (r.toNat:Int)) λX=>bc a (ak (aX-4)) λY=>st X (Y.add ((ak (aX-4)).toNat*1)) (.int .u8 (s.toNat:Int))
 λaa=>o (ak (aX-4)) (IntKind.wrap .u32 (Int.tdiv (IntKind.wrap .u32 b) 10000)) aa) (o aX (IntKind.wrap .u32 b) aH)) (λ(c:Int) (d:Int) t=>aV (λv:Int->Int->I->Prop=>ad (decide (c>=2)) ((100:
 Int)≠0/\(100:Int)≠0/\bx t λab av=>(0:Int)<=(IntKind.wrap .u32 ((IntKind.wrap .u32 ((Int.tmod d 100)*2))+1))/\∃x:UInt8,fR (ByteArray.mk #[48,48,48,49,48,50,48,51,48,52,48,53,48,54,48,55,
 48,56,48,57,49,48,49,49,49,50,49,51,49,52,49,53,49,54,49,55,49,56,49,57,50,48,50,49,50,50,50,51,50,52,50,53,50,54,50,55,50,56,50,57,51,48,51,49,51,50,51,51,51,52,51,53,51,54,51,55,
 51,56,51,57,52,48,52,49,52,50,52,51,52,52,52,53,52,54,52,55,52,56,52,57,53,48,53,49,53,50,53,51,53,52,53,53,53,54,53,55,53,56,53,57,54,48,54,49,54,50,54,51,54,52,54,53,54,54,54,55,
 54,56,54,57,55,48,55,49,55,50,55,51,55,52,55,53,55,54,55,55,55,56,55,57,56,48,56,49,56,50,56,51,56,52,56,53,56,54,56,55,56,56,56,57,57,48,57,49,57,50,57,51,57,52,57,53,57,54,57,55,
 57,56,57,57]) ((IntKind.wrap .u32 ((IntKind.wrap .u32 ((Int.tmod d 100)*2))+1)).toNat)=some x/\(0:Int)<=(IntKind.wrap .u32 ((Int.tmod d 100)*2))/\∃y:UInt8,fR (ByteArray.mk #[48,48,48,49,48,50,48,
 51,48,52,48,53,48,54,48,55,48,56,48,57,49,48,49,49,49,50,49,51,49,52,49,53,49,54,49,55,49,56,49,57,50,48,50,49,50,50,50,51,50,52,50,53,50,54,50,55,50,56,50,57,51,48,51,49,51,50,51,
 51,51,52,51,53,51,54,51,55,51,56,51,57,52,48,52,49,52,50,52,51,52,52,52,53,52,54,52,55,52,56,52,57,53,48,53,49,53,50,53,51,53,52,53,53,53,54,53,55,53,56,53,57,54,48,54,49,54,50,54,
 51,54,52,54,53,54,54,54,55,54,56,54,57,55,48,55,49,55,50,55,51,55,52,55,53,55,54,55,55,55,56,55,57,56,48,56,49,56,50,56,51,56,52,56,53,56,54,56,55,56,56,56,57,57,48,57,49,57,50,57,
 51,57,52,57,53,57,54,57,55,57,56,57,57]) ((IntKind.wrap .u32 ((Int.tmod d 100)*2)).toNat)=some y/\bc a (ak (c-1)) λac=>st ab (ac.add ((ak (c-1)).toNat*1)) (.int .u8 (x.toNat:Int))
 λae=>bc a (ak (c-2)) λaf=>st ae (af.add ((ak (c-2)).toNat*1)) (.int .u8 (y.toNat:Int)) λag=>v (ak (c-2)) (IntKind.wrap .u32 (Int.tdiv d 100)) ag) (v c d t)) (λ(ah:Int)
 (aj:Int) z=>ad (decide (ah>0)) (bc a 0 λal=>st z (bn al 0 1) (.int .u8 (IntKind.wrap .u8 (IntKind.wrap .u32 (48+aj)))) λam=>Q (.tuple #[]) am) (Q (.tuple #[]) z))))
def ao.xm:aB:=(.q (.s (.bg (.loop [(1,(.int .u64)),(4,(.int .i64))] [0] (.s (.q (.c .l .l)) (.bg (.q (.q (.q (.q (.q (.s (.d 13 true [0,0,2,0,0,5,0,2006,0,10,1000000000455,1000000002503,513,514]
 [0,0,2,0,0,5,0,2006,0,10,1002000,1011008,1005003,1013010] [12042,0,55,0] [1,5,44,1,5,47,10,2048,10,52,1044042,1053050,1047045,1054052] (.z 12 0 (.out 12 false (.tail [.r,.r])))) (.s (.d 13 true
 [0,0,2,0,0,5,0,2006,0,10,1000000000455,1000000002503,513,514] [0,0,2,0,0,5,0,2006,0,10,1002000,1011008,1005003,1013010] [12055,0,68,0] [1,5,57,1,5,60,9,2061,9,65,1057055,1066063,1060058,1067065] (.z 12 0 (.out 12 false (.tail [.r,.r]))))
 (.s (.d 13 true [0,0,2,0,0,5,0,2006,0,10,1000000000455,1000000002503,513,514] [0,0,2,0,0,5,0,2006,0,10,1002000,1011008,1005003,1013010] [12068,0,81,0] [1,5,70,1,5,73,12,2074,12,78,1070068,1079076,1073071,1080078] (.z 12 0 (.out 12 false
 (.tail [.r,.r])))) (.s (.d 13 true [0,0,2,0,0,5,0,2006,0,10,1000000000455,1000000002503,513,514] [0,0,2,0,0,5,0,2006,0,10,1002000,1011008,1005003,1013010] [12081,0,94,0] [1,5,83,1,5,86,11,2087,11,91,1083081,1092089,1086084,1093091] (.z 12
 0 (.out 12 false (.tail [.r,.r])))) .r))))))))))))) (.q (.s (.c7 [(4,(.int .i64)),(12,(.int .u32))] [0] (.q (.c (.q (.q (.q (.s (.d 13 true [0,0,2,0,0,5,0,2006,0,10,1000000000455,1000000002503,513,514]
 [0,0,2,0,0,5,0,2006,0,10,1002000,1011008,1005003,1013010] [12110,0,123,0] [1,5,112,1,5,115,16,2116,16,120,1112110,1121118,1115113,1122120] (.z 12 0 (.out 12 false (.tail [.r,.r])))) (.s (.d 13 true
 [0,0,2,0,0,5,0,2006,0,10,1000000000455,1000000002503,513,514] [0,0,2,0,0,5,0,2006,0,10,1002000,1011008,1005003,1013010] [12123,0,136,0] [1,5,125,1,5,128,15,2129,15,133,1125123,1134131,1128126,1135133] (.z 12 0 (.out 12 false (.tail [.r,
 .r])))) .r))))) .l))) (.s (.c7 [(4,(.int .i64)),(12,(.int .u32))] [0] (.q (.c (.q (.q (.s (.d 13 true [0,0,2,0,0,5,0,2006,0,10,1000000000455,1000000002503,513,514] [0,0,2,0,0,5,0,2006,0,10,1002000,1011008,1005003,1013010] [12145,0,158,0]
 [1,5,147,1,5,150,17,2151,17,155,1147145,1156153,1150148,1157155] (.z 12 0 (.out 12 false (.tail [.r,.r])))) .r))) .l))) (.q (.c .r .l)))))))
def Z.xn(dst:ai)(u:Int)(base:Int)(neg:ah)(append_:ah)(w:I)(Q:O->I->Prop):Prop:=aV (λbU:I->Prop=>ad (((decide (base<2))||(base==10))||(decide (base>
 36))) (False) (bU w)) (λag=>aq (ag.alloc (.cells #[.int .u8 0,.int .u8 0,.int .u8 0,.int .u8 0,.int .u8 0,.int .u8 0,.int .u8 0,.int .u8 0,.int .u8 0,.int .u8 0,.int .u8 0,.int .u8 0,.int .u8 0,.int .u8 0,.int .u8 0,.int
 .u8 0,.int .u8 0,.int .u8 0,.int .u8 0,.int .u8 0,.int .u8 0,.int .u8 0,.int .u8 0,.int .u8 0,.int .u8 0,.int .u8 0,.int .u8 0,.int .u8 0,.int .u8 0,.int .u8 0,.int .u8 0,.int .u8 0,.int .u8 0,.int .u8 0,.int .u8 0,.int
 .u8 0,.int .u8 0,.int .u8 0,.int .u8 0,.int .u8 0,.int .u8 0,.int .u8 0,.int .u8 0,.int .u8 0,.int .u8 0,.int .u8 0,.int .u8 0,.int .u8 0,.int .u8 0,.int .u8 0,.int .u8 0,.int .u8 0,.int .u8 0,.int .u8 0,.int .u8 0,.int
 .u8 0,.int .u8 0,.int .u8 0,.int .u8 0,.int .u8 0,.int .u8 0,.int .u8 0,.int .u8 0,.int .u8 0,.int .u8 0] 593)) λb=>aV (λc:Int->I->Prop=>ad neg (c (IntKind.wrap .u64 (0-u)) b) (c u b)) (λ(n5:
 Int) o=>aV (λd:Int->I->Prop=>br 426 #[base] o λp aJ=>ad p (bG 427 #[aZ (IntKind.wrap .u64 base)] aJ λn13 q=>eT n5 65 q λr e n16 n17
 bd=>ad (decide (n16>=(IntKind.wrap .u64 base))) ((0:Int)<=(dI .u64 n16 (IntKind.wrap .u64 ((IntKind.wrap .u64 base)-1)))/\∃f:UInt8,fR (ByteArray.mk #[48,49,50,51,52,53,54,55,56,57,97,98,99,100,101,102,
 103,104,105,106,107,108,109,110,111,112,113,114,115,116,117,118,119,120,121,122]) ((dI .u64 n16 (IntKind.wrap .u64 ((IntKind.wrap .u64 base)-1))).toNat)=some f/\((0:Int)<=(ak (n17-1))/\(ak (n17-1))<
 ((65:Nat):Int))/\st bd ((aa ag).add ((ak (n17-1)).toNat*1)) (.int .u8 (f.toNat:Int)) λg=>(0:Int)<=(IntKind.wrap .u64 n13)/\r (Int.fdiv n16 (2^(min ((IntKind.wrap .u64 n13).toNat) 64))) (ak
 (n17-1)) g/\e (Int.fdiv n16 (2^(min ((IntKind.wrap .u64 n13).toNat) 64))) (ak (n17-1)) g<e n16 n17 bd) (BH n16 n17 bd ag d)) (eT n5 65 aJ λs h n25 n26 a=>ad (decide (n25>=(IntKind.wrap .u64 base)))
 (((IntKind.wrap .u64 base):Int)≠0/\(0:Int)<=(IntKind.wrap .u64 (n25-(IntKind.wrap .u64 ((IntKind.wrap .u64 (Int.tdiv n25 (IntKind.wrap .u64 base)))*(IntKind.wrap .u64 base)))))/\∃i:UInt8,fR (ByteArray.mk #[48,49,50,
 51,52,53,54,55,56,57,97,98,99,100,101,102,103,104,105,106,107,108,109,110,111,112,113,114,115,116,117,118,119,120,121,122]) ((IntKind.wrap .u64 (n25-(IntKind.wrap .u64 ((IntKind.wrap .u64
 (Int.tdiv n25 (IntKind.wrap .u64 base)))*(IntKind.wrap .u64 base))))).toNat)=some i/\((0:Int)<=(ak (n26-1))/\(ak (n26-1))<((65:Nat):Int))/\st a ((aa ag).add ((ak (n26-1)).toNat*1)) (.int .u8 ((i.toNat:Nat)
 :Int)) λj=>s (IntKind.wrap .u64 (Int.tdiv n25 (IntKind.wrap .u64 base))) (ak (n26-1)) j/\h (IntKind.wrap .u64 (Int.tdiv n25 (IntKind.wrap .u64 base))) (ak (n26-1)) j<h n25 n26 a) (BH n25 n26 a ag d))) (λ
 (n32:Int) b5=>aV (λk:Int->I->Prop=>ad neg (((0:Int)<=(ak (n32-1))/\(ak (n32-1))<((65:Nat):Int))/\st b5 ((aa ag).add ((ak (n32-1)).toNat*1)) (.int .u8 45) λt=>k (ak (n32-1)) t)
 (k n32 b5)) (λ(n36:Int) l=>ad append_ (((0:Int)<=n36/\n36<=((65:Nat):Int))/\ap 28 dst (.slice (bj (some (aa ag)) 1 (n36.toNat) 65) (65-(n36.toNat)) (65-(Int.toNat
 n36))) l λv x=>Q (.tuple #[v,.string (ByteArray.mk #[])]) x) (((0:Int)<=n36/\n36<=((65:Nat):Int))/\∃m:ByteArray,∃n:I,Sem.run ae (convert 28 9 (.slice
 (bj (some (aa ag)) 1 (n36.toNat) 65) (65-(n36.toNat)) (65-(n36.toNat)))) l=.ok (.string m) n/\Q (.tuple #[(),.string m]) n)))))
def ao.xn:aB:=(.q (.s (.c7 [] [0,1,2,3,4,10,11] (.s (.z [9,8,9,8]) (.c .r .l))) (.q (.q (.s (.c7 [(1,(.int .u64))] [0,2,3,4,10,11,12,13] (.q (.c .r .l))) (.s (.c7 [(13,(.int .i64))] [0,3,4,10,
 11,12] (.q (.c (.q (.q (.q (.s (.bg (.loop [(1,(.int .u64)),(13,(.int .i64))] [0,3,4,10,11,12,14,15,16] (.s (.q (.c .l .l)) (.bg (.q (.q .r)))))) (.q .r))))) (.q (.s (.bg (.loop [(1,(.int .u64)),(13,(.int .i64))] [0,3,4,
 10,11,12,17] (.s (.q (.c .l .l)) (.bg (.q (.q (.q .r))))))) (.q .r)))))) (.s (.c7 [(13,(.int .i64))] [0,4,10,11,12] jr) (.s a1 (.q .l)))))))))
def Z.xo(s:ai)(v:Int)(w:I)(Q:O->I->Prop):Prop:=c3 0 w λc b a aC=>ad (decide (a<(s.len:Int))) (bc s a λa5=>aY aC (bn a5 a 1) λn6=>ad (v==n6) (Q a aC)
 (c (ak (a+1)) aC/\b (ak (a+1)) aC<b a aC)) (Q (.int .i64 (-1)) aC)
def ao.xo:aB:=a24
def Z.xp(x:Int)(y:Int)(w:I)(Q:O->I->Prop):Prop:=ad false (EH 432 #[.int .u32 (IntKind.wrap .u32 x),.int .u32 (IntKind.wrap .u32 y)] w λa aX w1=>Q (.tuple #[aZ (IntKind.wrap .u64
 a),aZ (IntKind.wrap .u64 aX)]) w1) (wO 433 #[aZ x,aZ y] w λn7 n8 aH=>Q (.tuple #[aZ n7,aZ n8]) aH)
def ao.xp:aB:=(.q (.s (.c (.q (.q .l)) .l) (.q (.q .l))))
def Z.xq(x:Int)(w:I)(Q:O->I->Prop):Prop:=(0:Int)<=x/\∃a:UInt8,fR (ByteArray.mk #[0,1,1,2,1,2,2,3,1,2,2,3,2,3,3,4,1,2,2,3,2,3,3,4,2,3,3,4,3,4,4,5,1,2,
 2,3,2,3,3,4,2,3,3,4,3,4,4,5,2,3,3,4,3,4,4,5,3,4,4,5,4,5,5,6,1,2,2,3,2,3,3,4,2,3,3,4,3,4,4,5,2,3,3,4,3,4,4,5,3,4,4,5,4,5,5,6,2,3,3,4,3,4,4,5,3,4,4,5,4,5,5,6,3,4,
 4,5,4,5,5,6,4,5,5,6,5,6,6,7,1,2,2,3,2,3,3,4,2,3,3,4,3,4,4,5,2,3,3,4,3,4,4,5,3,4,4,5,4,5,5,6,2,3,3,4,3,4,4,5,3,4,4,5,4,5,5,6,3,4,4,5,4,5,5,6,4,5,5,6,5,6,6,7,2,3,
 3,4,3,4,4,5,3,4,4,5,4,5,5,6,3,4,4,5,4,5,5,6,4,5,5,6,5,6,6,7,3,4,4,5,4,5,5,6,4,5,5,6,5,6,6,7,4,5,5,6,5,6,6,7,5,6,6,7,6,7,7,8]) (x.toNat)=some a/\Q (.int .i64 (ak ((a.toNat
 :Nat):Int))) w
def ao.xq:aB:=(.q (.q .l))
def Z.ur(x:Int)(w:I)(Q:O->I->Prop):Prop:=(0:Int)<=18/\Q (.int .i64 (Int.fdiv (ak (x*78913)) (2^(min (Int.toNat 18) 64)))) w
def ao.ur:aB:=(.q (.q .l))
theorem Z.JL(x:Int)(w:I)(Q:O->I->Prop)(h:Z.ur x w Q):aA ae 424 #[x] w Q:=okF (λw Q=>Z.ur x w Q) ao.ur func424 h
def Z.uu(b:ah)(w:I)(Q:O->I->Prop):Prop:=ad b (Q (1:Int) w) (Q (0:Int) w)
def ao.uu:aB:=a23
theorem Z.JM(b:ah)(w:I)(Q:O->I->Prop)(h:Z.uu b w Q):aA ae 425 #[b] w Q:=okF (λw Q=>Z.uu b w Q) ao.uu func425 h
def Z.xr(x:Int)(w:I)(Q:O->I->Prop):Prop:=Q (.bool (((dI .i64 x (ak (x-1))):Int)==0)) w
def ao.xr:aB:=(.q (.q .l))
theorem Z.JN(x:Int)(w:I)(Q:O->I->Prop)(h:Z.xr x w Q):aA ae 426 #[x] w Q:=okF (λw Q=>Z.xr x w Q) ao.xr func426 h
def Z.xt(x:Int)(w:I)(Q:O->I->Prop):Prop:=ad false (bG 449 #[.int .u32 (IntKind.wrap .u32 x)] w λa w1=>Q a w1) (bG 450 #[aZ
 x] w λn6 aC=>Q n6 aC)
def ao.xt:aB:=(.q (.s (.c (.q .l) .l) (.q .l)))
def Z.xu(x:Int)(y:Int)(w:I)(Q:O->I->Prop):Prop:=(0:Int)<=32/\(0:Int)<=32/\(0:Int)<=32/\(0:Int)<=32/\(0:Int)<=32/\Q (.tuple #[.int .u64 (IntKind.wrap .u64 ((IntKind.wrap .u64
 ((IntKind.wrap .u64 ((Int.fdiv x (2^(min (Int.toNat 32) 64)))*(Int.fdiv y (2^(min (Int.toNat 32) 64)))))+(Int.fdiv (IntKind.wrap .u64 ((IntKind.wrap .u64 ((Int.fdiv x (2^(min (Int.toNat 32) 64)))*(dI .u64 y 4294967295)))+
 (Int.fdiv (IntKind.wrap .u64 ((dI .u64 x 4294967295)*(dI .u64 y 4294967295))) (2^(min (Int.toNat 32) 64))))) (2^(min (Int.toNat 32) 64)))))+(Int.fdiv (IntKind.wrap .u64 ((dI .u64 (IntKind.wrap .u64 ((IntKind.wrap .u64
 ((Int.fdiv x (2^(min (Int.toNat 32) 64)))*(dI .u64 y 4294967295)))+(Int.fdiv (IntKind.wrap .u64 ((dI .u64 x 4294967295)*(dI .u64 y 4294967295))) (2^(min (Int.toNat 32) 64))))) 4294967295)+(IntKind.wrap .u64 ((dI .u64 x
 4294967295)*(Int.fdiv y (2^(min (Int.toNat 32) 64))))))) (2^(min (Int.toNat 32) 64))))),.int .u64 (IntKind.wrap .u64 (x*y))]) w
def ao.xu:aB:=(.q (.q (.q (.q (.q (.q (.q (.q eH))))))))
def Z.xv(s:ai)(i:Int)(v:ai)(w:I)(Q:O->I->Prop):Prop:=((0:Int)<=i/\i<=(s.len:Int))/\ad ((v.len:Int)==0) (Q s w) (ad (i==(s.len:Int)) (ap
 229 s v w λs1 ag=>Q s1 ag) (ad (decide (((ak ((s.len:Int)+(v.len:Int))):Int)>(s.cap:Int))) (((0:Int)<=i/\i<=(s.cap:Int))/\
 ∃b:ai,∃aC:I,Sem.run ae (Builtin.append_ #[229,3] 229 #[.slice (bj s.a 1 0 s.cap) ((i.toNat)-0) (s.cap-0),.int .i64 (ak ((ak ((s.len:Int)+(v.len:Int)))-i))]) w=.ok b aC/\((0:Int)<=i/\i<=(b.len:Int))/\∃n5:Int,∃d:I,Sem.run ae (Builtin.copy_ #[229,229] 3 #[.slice (bj b.a 1 (i.toNat) b.cap) (b.len-(i.toNat)) (b.cap-
 (i.toNat)),v]) aC=.ok n5 d/\aq (d.drew) λj=>((0:Int)<=(ak (i+(v.len:Int)))/\(ak (i+(v.len:Int)))<=(b.len:Int))/\((0:Int)<=i/\i<=(s.len:Int))/\∃n8:Int,∃e:I,
 Sem.run ae (Builtin.copy_ #[229,229] 3 #[.slice (bj b.a 1 ((ak (i+(v.len:Int))).toNat) b.cap) (b.len-((ak (i+(v.len:Int))).toNat)) (b.cap-((ak (i+(v.len:Int))).toNat)),.slice
 (bj s.a 1 (i.toNat) s.cap) (s.len-(i.toNat)) (s.cap-(i.toNat))]) j=.ok n8 e/\Q b e) (((0:Int)<=(ak ((s.len:Int)+(v.len:Int)))/\(ak ((s.len:Int)+(v.len:Int)))<=((s.cap:
 Nat):Int))/\((0:Int)<=(ak (i+(v.len:Int)))/\(ak (i+(v.len:Int)))<=(((((ak ((s.len:Int)+(v.len:Int))).toNat)-0):Nat):Int))/\∃f:ah,∃c:I,Sem.run ae (callFunc 453 #[v,.slice (bj (bj s.a 1 0 s.cap) 1 ((ak (i+(v.len:Int))).toNat) (s.cap-0)) ((((ak ((s.len:Int)+(v.len:Int))).toNat)-0)-((ak (i+(v.len:Int))).toNat)) ((s.cap-0)-((ak (i+
 (v.len:Int))).toNat))]) w=.ok (.value f) c/\ad (!f) (aq (c.drew) λaP=>((0:Int)<=(ak (i+(v.len:Int)))/\(ak (i+(v.len:Int)))<=(((((ak ((s.len:Int)+(v.len:Int))).toNat)-0):Nat):Int))/\((0:Int)<=i/\i
 <=(((((ak ((s.len:Int)+(v.len:Int))).toNat)-0):Nat):Int))/\∃n13:Int,∃g:I,Sem.run ae (Builtin.copy_ #[229,229] 3 #[.slice (bj (bj s.a 1 0 s.cap) 1 ((ak (i+
 (v.len:Int))).toNat) (s.cap-0)) ((((ak ((s.len:Int)+(v.len:Int))).toNat)-0)-((ak (i+(v.len:Int))).toNat)) ((s.cap-0)-((ak (i+(v.len:Int))).toNat)),.slice (bj (bj s.a 1 0 s.cap) 1 (i.toNat) (s.cap-0))
 ((((ak ((s.len:Int)+(v.len:Int))).toNat)-0)-(i.toNat)) ((s.cap-0)-(i.toNat))]) aP=.ok n13 g/\((0:Int)<=i/\i<=(((((ak ((s.len:Int)+(v.len:Int))).toNat)-0):Nat):Int))/\∃n15:Int,∃
 h:I,Sem.run ae (Builtin.copy_ #[229,229] 3 #[.slice (bj (bj s.a 1 0 s.cap) 1 (i.toNat) (s.cap-0)) ((((ak ((s.len:Int)+(v.len:Int))).toNat)-0)-(i.toNat)) ((s.cap-0)-
 (i.toNat)),v]) g=.ok n15 h/\Q (.slice (bj s.a 1 0 s.cap) (((ak ((s.len:Int)+(v.len:Int))).toNat)-0) (s.cap-0)) h) (((0:Int)<=(s.len:Int)/\(s.len:Int)<=(((((ak
 ((s.len:Int)+(v.len:Int))).toNat)-0):Nat):Int))/\∃n17:Int,∃bd:I,Sem.run ae (Builtin.copy_ #[229,229] 3 #[.slice (bj (bj s.a 1 0 s.cap) 1 (Int.toNat (s.len:Int)) (s.cap-0))
 ((((ak ((s.len:Int)+(v.len:Int))).toNat)-0)-(Int.toNat (s.len:Int))) ((s.cap-0)-(Int.toNat (s.len:Int))),v]) c=.ok n17 bd/\((0:Int)<=i/\i<=(((((ak ((s.len:Int)+
 (v.len:Int))).toNat)-0):Nat):Int))/\dc 454 #[.slice (bj (bj s.a 1 0 s.cap) 1 (i.toNat) (s.cap-0)) ((((ak ((s.len:Int)+(v.len:Int))).toNat)-0)-(i.toNat)) ((s.cap-0)-(i.toNat)),.int
 .i64 (v.len:Int)] bd λk=>Q (.slice (bj s.a 1 0 s.cap) (((ak ((s.len:Int)+(v.len:Int))).toNat)-0) (s.cap-0)) k))))
def ao.xv:aB:=(.q (.q (.q (.s a1 (.q (.s a1 a2))))))
def Z.xw(x:ai)(target:ai)(cmp:ic)(w:I)(Q:O->I->Prop):Prop:=eT 0 (x.len:Int) w λg h b aX aH=>ad (decide (b<aX)) ((0:Int)<=1/\∃c0:av,x.a=
 some c0/\(w7 b aX x)/\a_ aH (c0.add (Int.toNat (ak (Int.fdiv (IntKind.wrap .u64 (ak (b+aX))) (2^(min (Int.toNat 1) 64))))*1)) λc=>iA ae cmp.f/\Calls ae cmp.f (cmp.pre++ #[.slice c.a c.len c.cap,
 .slice target.a target.len target.cap]++cmp.cap) aH λi aJ=>∃n10:Int,i=.returned (.int .i64 n10)/\wZ n10 g b aX aJ h aH) (aV (λe:ah->I->Prop=>ad (decide (b<(x.len:Int))) (bc x b λeH=>a_ aH (bn
 eH b 1) λd=>iA ae cmp.f/\Calls ae cmp.f (cmp.pre++ #[.slice d.a d.len d.cap,.slice target.a target.len target.cap]++cmp.cap) aH λj k=>∃n16:Int,j=.returned (.int .i64 n16)/\e (n16
 ==0) k) (e false aH)) (λ(l:ah) bd=>Q (.tuple #[.int .i64 b,.bool l]) bd))
def ao.xw:aB:=eV
def Z.xx(s:ai)(f:ic)(w:I)(Q:O->I->Prop):Prop:=bG 455 #[s,.func (.func f.f) f.pre f.cap] w λa w1=>Q (.bool
 (decide (a>=0))) w1
def ao.xx:aB:=(.q (.q .l))
def Z.xy(s:ai)(f:ic)(w:I)(Q:O->I->Prop):Prop:=bG 456 #[s,.func (.func f.f) f.pre f.cap] w λa w1=>Q (.bool (decide (a>=0))) w1
def ao.xy:aB:=(.q (.q .l))
def Z.xz(s:ai)(w:I)(Q:O->I->Prop):Prop:=ad (Option.isNone s.a) (Q () w) (aq (w.alloc (.cells #[] 3)) λw1=>ap 88 (.slice (some (aa w)) 0 0) s w1 λs2 b=>Q s2 b)
def ao.xz:aB:=a23
def Z.uv(x:Int)(w:I)(Q:O->I->Prop):Prop:=ad (x==0) (Q (64:Int) w) ((0:Int)<=58/\((0:Int)<=(Int.fdiv (IntKind.wrap .u64 ((dI .u64 x (IntKind.wrap .u64 (0-x)))*
 285870213051353865)) (2^(min (Int.toNat 58) 64)))/\(Int.fdiv (IntKind.wrap .u64 ((dI .u64 x (IntKind.wrap .u64 (0-x)))*285870213051353865)) (2^(min (Int.toNat 58) 64)))<((64:Nat):Int))/\bS w (Addr.add ⟨3,0,none⟩
 ((Int.fdiv (IntKind.wrap .u64 ((dI .u64 x (IntKind.wrap .u64 (0-x)))*285870213051353865)) (2^(min (Int.toNat 58) 64))).toNat*1)) λcx=>Q (.int .i64 (ak cx)) w)
def ao.uv:aB:=a23
theorem Z.JO(x:Int)(w:I)(Q:O->I->Prop)(h:Z.uv x w Q):aA ae 450 #[.int .u64 x] w Q:=okF (λw Q=>Z.uv x w Q) ao.uv func450 h
def Z.uw(s:ai)(f:ic)(w:I)(Q:O->I->Prop):Prop:=c3 0 w λg d b aC=>ad (decide (b<(s.len:Int))) (bc s b λa5=>a_ aC (bn a5 b 1) λcK=>iA ae f.f/\
 Calls ae f.f (f.pre++ #[.slice cK.a cK.len cK.cap]++f.cap) aC λh c=>∃e:ah,h=.returned (.bool e)/\ad e (Q (.int .i64 b) c) (g (ak (b+1)) c/\d (ak (b+1)) c<d b aC)) (Q (.int .i64 (-1)) aC)
def ao.uw:aB:=a24
theorem Z.JP(s:ai)(f:ic)(w:I)(Q:O->I->Prop)(h:Z.uw s f w Q):aA ae 455 #[.slice s.a s.len s.cap,.func (.func f.f) f.pre f.cap] w Q:=okF (λw Q=>Z.uw s f w Q) ao.uw func455 h
def Z.ux(s:ai)(f:ic)(w:I)(Q:O->I->Prop):Prop:=c3 0 w λe c a aC=>ad (decide (a<(s.len:Int))) (bc s a λa5=>aY aC (bn a5 a 1) λn6=>iA ae f.f/\Calls
 ae f.f (f.pre++ #[.int .i64 n6]++f.cap) aC λg b=>∃d:ah,g=.returned (.bool d)/\ad d (Q (.int .i64 a) b) (e (ak (a+1)) b/\c (ak (a+1)) b<c a aC)) (Q (.int .i64 (-1)) aC)
def ao.ux:aB:=a24
theorem Z.JQ(s:ai)(f:ic)(w:I)(Q:O->I->Prop)(h:Z.ux s f w Q):aA ae 456 #[.slice s.a s.len s.cap,.func (.func f.f) f.pre f.cap] w Q:=okF (λw Q=>Z.ux s f w Q) ao.ux func456 h
set_option maxRecDepth 100000
def Z.xA(l:ai)(d:Int)(e:Int)(f:Int)(four:Int)(aj:Int)(w:I)(Q:O->I->Prop):Prop:=aq (w.alloc (.cells #[d,e,f] 39))
 λw1=>aV (λb1:ah->I->Prop=>ad (decide ((l.len:Int)>64)) (b1 true w1) (br 12 #[l,.func (.func 10) #[] #[]] w1 λg h=>b1 g h)) (λ(i:
 ah) a=>ad ((((i||(decide (four<0)))||(decide (four>32)))||(decide (aj<0)))||(decide (aj>128))) (Q (.tuple #[.pointer none,(1:Int)]) a) (aY a (aa w) λn8=>bh a w 1 λn9=>bh a w 2 λn10=>gf
 13 #[.agg #[n8,n9,n10]] a λj n14 b=>ad (n14 !=0) (Q (.tuple #[.pointer none,n14]) b) (gf 14 #[(200:Int)] b λk n18 c=>ad (n18 !=0) (Q (.tuple
 #[.pointer none,n18]) c) (gH 15 #[] c λm n=>bl 16 #[l] n λo bk=>aq (bk.alloc (.cells #[j,k,m,o,four,aj] 63)) λp=>Q (.tuple #[.pointer (some (aa bk)),(0:Int)]) p))))
def ao.xA:aB:=(.q (.q (.s (.s (.z [12,10,12,8,9,8,9,8,9,8]) (.c (.q .l) .l)) (.q (.s a1 a23)))))
def Z.xB(g:aw av)(b:ai)(now:Int)(w:I)(Q:O->I->Prop):Prop:=aq (w.alloc gV) λw1=>ad (Option.isNone g) (False) (EI 23 #[g,b,aZ now] w1 λ
 c n5 cK n7 n8 i ag=>aq (ag.alloc gV) λj=>b7 j (aa ag) [n5,cK,n7,n8] 4 λk=>ad (!i) (False) (gU 24 #[c] k λa n15 aP=>aq
 (aP.alloc z3) λd=>bE d (aa aP) (Array.toList a)/\Array.size a=82/\aq (setCells d (aa aP) 0 (Array.toList a)) λl=>ad (n15 !=0) (False) (bx l λbd e=>pt g λfy=>fk e bd (fy.add 3) λ
 m=>¬e ((aa aP).add 45).block/\∃f:Y O,aG bd ((aa aP).add 45) 0 37=some f/\hG 25 #[m,.agg f.toArray] bd λn25 n b8=>ad (!n) (∃h:Y O,
 aG b8 (aa aP) 0 82=some h/\wP 26 #[c,.agg h.toArray,n25] b8 λn30 o n32 n33 p=>b7 p (aa w) [n30,o,n32,n33]
 4 λq=>w8 q w Q) (False))))
def ao.xB:aB:=(.q (.s (.q (.c .l .l)) (.q (.s (.q (.c .l .l)) (.q (.s (.q (.c .l .l)) (.s (.s (.d 11 true [0,3000,0,5,1005003,2006,8,509,511] [0,3000,0,5,1005003,2006,3007] [7039,39,2046,2012]
 [1,3039,11,44,1044042,46,39,39,2046] (.z 6 0 (.out 6 false (.z 4 7 .e)))) a1) .l)))))))
def Z.xC(b:ai)(w:I)(Q:O->I->Prop):Prop:=EJ 31 #[b] w λd c n5 w1=>aq (w1.alloc z4) λf=>bE f (aa w1) (Array.toList d)/\Array.size d=39/\aq (setCells f
 (aa w1) 0 (Array.toList d)) λh=>ad (n5 !=0) (False) (bx h λaJ e=>bc c 0 λdF=>h4 e aJ (bn dF 0 1) λn11=>bc c 1 λeH=>h4 e aJ (bn eH 1 1) λn13=>((0:Int)<=4/\4<=(c.len:Int))/\bl
 30 #[.slice (bj c.a 1 (Int.toNat 4) c.cap) (c.len-(Int.toNat 4)) (c.cap-(Int.toNat 4))] aJ λi g=>af e aJ g/\Q (.tuple #[.int .u8 n11,.int .u8 n13,i,(0:Int)])
 g)
def ao.xC:aB:=(.q (.q (.s (.q (.c .l .l)) (.s (.d 10 true [0,1,2,0,2003,0,2006,1000000000263,1000000000575,511,512] [0,1,2,0,2003,0,2006,3,6,9,0] [9017,4002] [8,2017,8,2020,8,2023,20,23,26,0] (.z 8 0 (.bJ 8 (.t 9 (.tail [.r,.r,
 .r]))))) .l))))
def Z.uy(r:Array O)(w:I)(Q:O->I->Prop):Prop:=aq (w.alloc (.cells r 32)) λw1=>∃cq:Y O,aG w1 (aa w) 0 40=some cq/\br 11 #[.agg cq.toArray] w1 λa b=>Q
 (.bool (!a)) b
def ao.uy:aB:=(.q (.q .l))
theorem Z.JR(r:Array O)(w:I)(Q:O->I->Prop)(h:Z.uy r w Q):aA ae 10 #[.agg r] w Q:=okF (λw Q=>Z.uy r w Q) ao.uy func10 h
def Z.uz(r:Array O)(w:I)(Q:O->I->Prop):Prop:=aq (w.alloc (.cells r 32)) λw1=>∃cq:Y O,aG w1 (aa w) 0 40=some cq/\br 32 #[.agg cq.toArray] w1 λa b=>Q a b
def ao.uz:aB:=(.q (.q .l))
theorem Z.JS(r:Array O)(w:I)(Q:O->I->Prop)(h:Z.uz r w Q):aA ae 11 #[.agg r] w Q:=okF (λw Q=>Z.uz r w Q) ao.uz func11 h
def Z.xD(l:Int)(m:Int)(n:Int)(w:I)(Q:O->I->Prop):Prop:=aq (w.alloc (.cells #[l,m,n] 39)) λw1=>aY w1 (aa w) λbB=>
 aV (λe:ah->I->Prop=>ad (decide (bB<0)) (e true w1) (aY w1 (aa w) λaX=>e (decide (aX>1048576)) w1)) (λ(o:ah) b=>aV (λf:ah->I->Prop=>ad o (f true b) (bh b w 1 λn8=>f (decide (n8
 <1)) b)) (λ(p:ah) c=>aV (λg:ah->I->Prop=>ad p (g true c) (bh c w 1 λn12=>g (decide (n12>1073741824)) c)) (λ(q:ah) d=>aV (λh:ah->I->Prop=>ad q (h true d)
 (bh d w 2 λn16=>h (decide (n16<1)) d)) (λ(r:ah) bd=>aV (λi:ah->I->Prop=>ad r (i true bd) (bh bd w 2 λn20=>i (decide (n20>1000)) bd)) (λ(s:ah) bk=>ad s (Q (.tuple
 #[.pointer none,(1:Int)]) bk) (aY bk (aa w) λn23=>bh bk w 1 λn24=>bh bk w 2 λn25=>∃j:aw Nat,∃a:I,Sem.run ae (Instr.makeMap 107 none) bk=.ok (.map j) a
 /\∃k:Array O,Sem.run ae (Instr.build 112 #[(1,.agg #[n23,n24,n25]),(2,.map j)]) a=.ok (.agg k) a/\aq (a.alloc (.cells k 112)) λt=>Q
 (.tuple #[.pointer (some (aa a)),(0:Int)]) t))))))
def ao.xD:aB:=(.q (.s (.s (.z [12,10,12,10,12,10,12,10,12,10]) (.c (.q .l) .l)) (.q .l)))
def Z.xE(most:Int)(w:I)(Q:O->I->Prop):Prop:=ad ((decide (most<1))||(decide (most>200))) (Q (.tuple #[.pointer none,(1:Int)]) w) (∃m1:aw Nat,∃ag:I,Sem.run ae (Instr.makeMap
 113 none) w=.ok (.map m1) ag/\aq (ag.alloc (.cells #[most,.map m1,aZ 0] 115)) λa=>Q (.tuple #[.pointer (some (aa ag)),(0:Int)]) a)
def ao.xE:aB:=(.q (.s a5 (.q .l)))
def Z.uA(w:I)(Q:O->I->Prop):Prop:=∃m1:aw Nat,∃ag:I,Sem.run ae (Instr.makeMap 116 none) w=.ok (.map m1) ag/\aq (ag.alloc (.cells #[.map m1]
 118)) λa=>Q (.pointer (some (aa ag))) a
def ao.uA:aB:=(.q (.q .l))
theorem Z.JT(w:I)(Q:O->I->Prop)(h:Z.uA w Q):aA ae 15 #[] w Q:=okF (λw Q=>Z.uA w Q) ao.uA func15 h
def Z.xF(l:ai)(w:I)(Q:O->I->Prop):Prop:=jI ⟨none,0,0⟩ 0 w λk d b aX aH=>ad (decide (aX<(l.len:Int))) (aV (λe:ai->I->Prop=>k1 l aX aH 40 λm=>al aH z5 m 40 λn=>aq
 (n.drew) λf=>((0:Int)<=aX/\aX<=(l.cap:Int))/\¬False/\∃g:Y O,aG f (aa aH) 0 40=some g/\br 34 #[.slice (bj l.a 40 0 l.cap) ((aX.toNat)-0) (l.cap-0),.agg g.toArray] f
 λo c=>ad (!o) (∃h:Y O,aG c (aa aH) 0 40=some h/\∃i:ai,∃bd:I,Sem.run ae (Instr.buildSlice 37 1 #[(0,.agg h.toArray)]) c=.ok i bd/\ap
 37 b i bd λp q=>e p q) (e b c)) (λ(j:ai) bk=>k j (ak (aX+1)) bk/\d j (ak (aX+1)) bk<d b aX aH)) (Q b
 aH)
def ao.xF:aB:=(.q (.q (.s (.q (.bg (.loop [(3,.slice),(8,(.int .i64))] [0,6,7] (.q (.s (.c .l .l) (.s (.c7 [(3,.slice)] [0,6,7,8] (.bg (.q (.s (.e 4 false [0,0,502,0,1003002,5] [6013] [1,5,1014013,6,1016015,18] (.z 4 0
 (.tail [.r,.r]))) (.c .r .l))))) .r)))))) (.q .l))))
def Z.rX(b:aw av)(op:Array O)(w:I)(Q:O->I->Prop):Prop:=aq (w.alloc (.cells op 90)) λw1=>aq (w1.alloc nS) λag=>aV (λi:ah->I->Prop=>ad (Option.isNone b) (i true
 ag) (aY ag (aa w) λaX=>i (decide (aX<1)) ag)) (λ(r:ah) g=>aV (λj:ah->I->Prop=>ad r (j true g) (aY g (aa w) λn8=>j (decide (n8>14)) g)) (λ(s:ah) c=>ad s (∃d:Array O,
 Sem.run ae (Instr.build 77 #[(1,.int .i64 1)]) c=.ok (.agg d) c/\bE c (aa w1) (Array.toList d)/\Array.size d=10/\aq (setCells c (aa w1) 0 (Array.toList d)) λaP=>∃k:Y O,
 aG aP (aa w1) 0 10=some k/\Q (.agg k.toArray) aP) (∃l:Y O,aG c (aa w) 0 51=some l/\eS 47 #[b,.agg l.toArray] c λh t e=>aq (e.alloc nS) λm=>bE m
 (aa e) (Array.toList h)/\Array.size h=10/\aq (setCells m (aa e) 0 (Array.toList h)) λa=>ad t (∃f:Y O,aG a (aa e) 0 10=some f/\bE a (aa w1) (Array.toList f.toArray)/\Array.size
 f.toArray=10/\aq (setCells a (aa w1) 0 (Array.toList f.toArray)) λbk=>∃n:Y O,aG bk (aa w1) 0 10=some n/\Q (.agg n.toArray) bk) (pt b λa24=>∃o:aw av,a.cell? (a24.add 12)=some
 (o)/\ad (Option.isNone o) (∃p:Array O,Sem.run ae (Instr.build 77 #[(1,.int .i64 13)]) a=.ok (.agg p) a/\rU a w1 p Q) (∃q:Y O,aG a (aa w) 0 51=some q/\hJ
 48 #[b,.agg q.toArray] a λu v=>rU v w1 u Q)))))
def ao.rX:aB:=(.q (.s lL (.s (.q a1) (.s a1 (.q .l)))))
theorem Z.EW(b:aw av)(op:Array O)(w:I)(Q:O->I->Prop)(h:Z.rX b op w Q):aA ae 21 #[b,.agg op] w Q:=okF (λw Q=>Z.rX b op w Q) ao.rX func21 h
def Z.xG(g:aw av)(b:ai)(now:Int)(w:I)(Q:O->I->Prop):Prop:=aq (w.alloc gV) λw1=>aV (λb1:ah->I->Prop=>ad ((b.len:Int)==0) (b1 true w1) (bc b 0 λa3=>bS w1 (bn a3 0
 1) λaX=>(0:Int)<=4/\b1 (((Int.fdiv aX (2^(min (Int.toNat 4) 8))):Int) !=4) w1)) (λ(e:ah) a=>ad e (b7 a (aa w) [(0:Int),(),(0:Int),(0:Int)] 4 λf=>BQ f w Q b) (pt g λeH=>∃
 c:aw av,a.cell? (eH.add 2)=some (c)/\eD 52 #[c,b,aZ now] a λd n17 h=>ad (n17 !=0) (False) (ad ((d.len:Int)==0) (False) (b7 h (aa w) [(0:Int),(),(0:Int),(0:Int)] 4 λbd=>BQ bd w Q d))))
def ao.xG:aB:=(.q (.s fl (.q (.s (.bg dF) (.q .l)))))
def Z.xH(b:ai)(w:I)(Q:O->I->Prop):Prop:=aq (w.alloc z3) λw1=>gU 53 #[b] w1 λeW n5 ag=>aq (ag.alloc z4) λj=>bE j (aa ag) (Array.toList eW)/\Array.size eW
 =39/\aq (setCells j (aa ag) 0 (Array.toList eW)) λd=>ad (n5 !=0) (wW d w Q n5) (cT d ag 37 λr=>ad r (∃g:Array O,Sem.run ae (Instr.build 92 #[]) d=.ok (.agg g) d/\bE d (aa w)
 (Array.toList g)/\Array.size g=82/\aq (setCells d (aa w) 0 (Array.toList g)) λk=>∃l:Y O,aG k (aa w) 0 82=some l/\Q (.tuple #[.agg l.toArray,(13:Int)]) k) (bx d λc e=>¬e ((aa
 ag):av).block/\∃h:Y O,aG c (aa ag) 0 39=some h/\lK e c ag 2 λn18=>((0:Int)<=n18/\n18<=(b.len:Int))/\(nQ 54 #[.agg h.toArray,.slice (bj b.a 1 (n18.toNat) b.cap) (b.len-
 (n18.toNat)) (b.cap-(n18.toNat))] c λn21 n22 n23 n24 s n26 n27 f=>af e c f/\aq (f.alloc jn) λm=>af e f m/\b7 m (aa f) [.int .u16 n21,.int .u16 n22,.int .u8 n23,n24,s,
 n26] 6 λn=>ad (n27 !=0) (wW n w Q n27) (dK n ag f w Q))/\(aq (c.alloc jn) λi=>af e c i/\nQ 54 #[.agg h.toArray,.slice (bj b.a 1 (n18.toNat) b.cap) (b.len-(n18.toNat)) (b.cap
 -(n18.toNat))] i λt u v x y z o p=>af e i p/\b7 p (aa c) [.int .u16 t,.int .u16 u,.int .u8 v,x,y,z] 6 λq=>ad (o !=0) (wW q w Q o) (dK q ag
 c w Q))))
def ao.xH:aB:=(.q (.q (.s a1 (.s a1 (.s (.d 11 true [0,0,0,3,1003001,1004000,2005,7,0,1000000000767,511] [0,0,0,3,1003001,1004000,2005,7,0,1009007,9] [6020,20,2026,7,0,6] [5,1,5,23,1023021,1024020,26,20,20,0,1026006,28] (.z 5 0
 (.two 5 (.z 3 6 (.bJ 9 (.out 10 false .e))) 9 (.bJ 5 (.z 3 6 (.out 10 false .e)))))) (.s a1 (.q .l)))))))
def Z.uB(l:ai)(f:Array O)(w:I)(Q:O->I->Prop):Prop:=aq (w.alloc (.cells f 27)) λw1=>bG 33 #[l,.func (.func 55) #[]
 #[.pointer (some (aa w))]] w1 λaX ag=>aq (ag.drew) λaH=>ad (decide (aX<0)) (Q (.tuple #[aX,true]) aH) (bc l aX λc0=>¬False/\bq aH ((bn c0 aX 40).add 39) λa=>Q (.tuple #[aX,a]) aH)
def ao.uB:aB:=(.q (.q (.s (.d 11 false [0,0,3001,4,1005004003,1006003,1007003,1008003,1003000,511] [0,0,3001,4,1005004003,1006003,1007003,1008003,1,10] [10010,2004]
 [7,7,2011,1013000,1013006,1015014013,1016013,1017013,1018013,11,20] (.z 4 0 (.t 10 (.sp 13 (.z 6 4 .e) (.z 6 4 .e))))) .l)))
theorem Z.JU(l:ai)(f:Array O)(w:I)(Q:O->I->Prop)(h:Z.uB l f w Q):aA ae 25 #[l,.agg f] w Q:=okF (λw Q=>Z.uB l f w Q) ao.uB func25 h
def Z.uC(b:ai)(p:Array O)(e:Int)(w:I)(Q:O->I->Prop):Prop:=aq (w.alloc (.cells p 92)) λw1=>aq (w1.alloc gV) λag=>aV (λa:Int->I->Prop=>bq ag (aa w) λf=>
 ad f (a 1 ag) (a 13 ag)) (λ(n5:Int) c=>∃d:Y O,aG c (((aa w).add 45).add 17) 0 17=some d/\eD 57 #[b,.agg d.toArray,.int .u8 n5] c λg n11 aJ=>b7 aJ (aa w1)
 [(3:Int),g,e,(0:Int)] 4 λaP=>w8 aP w1 Q)
def ao.uC:aB:=(.q (.q (.s (.c7 [(7,(.int .u8))] [0,2,4,6] (.q (.c .r .l))) (.q (.q .l)))))
theorem Z.JV(b:ai)(p:Array O)(a:Int)(w:I)(Q:O->I->Prop)(h:Z.uC b p a w Q):aA ae 26 #[b,.agg p,a] w Q:=okF (λw Q=>Z.uC b p a w Q) ao.uC func26 h
def Z.xI(b:ai)(w:I)(Q:O->I->Prop):Prop:=aq (w.alloc z4) λw1=>gU 62 #[b] w1 λeW n5 ag=>bE ag (aa w) (Array.toList eW)/\Array.size eW=39/\aq (setCells ag (aa
 w) 0 (Array.toList eW)) λf=>ad (n5 !=0) (False) (bh f w 2 λn7=>((0:Int)<=n7/\n7<=(b.len:Int))/\bx f λaJ d=>kz d aJ w 1 λn10=>¬d ((aa w):av).block/\bq aJ (aa w) λk=>wQ 63 #[k]
 aJ λn14 n15 n16 n17 aP=>af d aJ aP/\∃n18:Int,cellAt (#[.int .u8 n14,.int .u8 n15,.int .u8 n16,.int .u8 n17]:Array O) 0=some (.int .u8 n18)/\ad (n10 !=n18) (False) (ad (decide (((((b.len-(n7.toNat)):Nat):
 Int):Int)<4)) (False) (∃g:Y O,aG aP (aa w) 0 39=some g/\bl 65 #[.agg g.toArray,.int .i64 (((b.len-(n7.toNat)):Nat):Int)] aP λl h=>aq (h.alloc (.cells #[l,.slice (bj b.a 1 (n7.toNat) b.cap) (b.len-(n7.toNat)) (b.cap-(n7.toNat))] 28)) λb8=>br 64 #[.slice (some (aa h)) 2 2] b8 λm e=>ad (!m) (False) (∃c:Y O,aG
 e (aa w) 0 39=some c/\bE e (aa w) (Array.toList c.toArray)/\Array.size c.toArray=39/\aq (setCells e (aa w) 0 (Array.toList c.toArray)) λi=>∃j:Y O,aG i (aa w) 0 39=some j/\Q (.tuple
 #[.agg j.toArray,.slice (bj b.a 1 (n7.toNat) b.cap) (b.len-(n7.toNat)) (b.cap-(n7.toNat)),(0:Int)]) i))))
def ao.xI:aB:=(.q (.q (.s (.q (.c .l .l)) (.q (.s (.bg (.s (.d 6 true [0,1,0,3002,1005001,1006004] [0,1,0,3002,1005001,7] [7019,19] [3,20,3,3021,1024020,26] (.z 4 0 (.bJ 4 (.t 5 (.tail [.r,.r]))))) (.c .l dF))) (.q .l))))))
def Z.uD(r:Array O)(w:I)(Q:O->I->Prop):Prop:=aq (w.alloc (.cells r 32)) λw1=>∃cq:Y O,aG w1 (aa w) 0 18=some cq/\br 66 #[.agg cq.toArray] w1 λg b=>aV
 (λc:ah->I->Prop=>ad g (∃d:Y O,aG b ((aa w).add 18) 0 18=some d/\br 66 #[.agg d.toArray] b λh aJ=>c h aJ) (c false b)) (λ(i:ah) aP=>aV (λe:ah->I->
 Prop=>ad i (bq aP (aa w) λj=>cT aP w 18 λk=>e (j==k) aP) (e false aP)) (λ(l:ah) a=>aV (λf:ah->I->Prop=>ad l (ef a w 37 λn19=>ef a w 38 λn20=>f (decide (n19<=
 n20)) a) (f false a)) (λ(m:ah) bk=>Q m bk)))
def ao.uD:aB:=(.q (.s (.z [12,10,12,28,30,16]) .l))
theorem Z.JW(r:Array O)(w:I)(Q:O->I->Prop)(h:Z.uD r w Q):aA ae 32 #[.agg r] w Q:=okF (λw Q=>Z.uD r w Q) ao.uD func32 h
def Z.uE(ahead:ai)(r:Array O)(w:I)(Q:O->I->Prop):Prop:=aq (w.alloc (.cells r 32)) λw1=>∃cq:Y O,aG w1 (aa w) 0 40=some cq/\br 32 #[.agg cq.toArray] w1 λc
 a=>aV (λb:ah->I->Prop=>ad (!c) (b true a) (br 12 #[ahead,.func (.func 67) #[] #[.pointer (some (aa w))]] a λd e=>b d e)) (λ
 (f:ah) g=>Q f g)
def ao.uE:aB:=(.q (.s (.z [12,10]) .l))
theorem Z.JX(ahead:ai)(r:Array O)(w:I)(Q:O->I->Prop)(h:Z.uE ahead r w Q):aA ae 34 #[ahead,.agg r] w Q:=okF (λw Q=>Z.uE ahead r w Q) ao.uE func34 h
def Z.rY(i:Int)(j:Int)(k:Int)(l:Int)(m:Int)(n:Int)(o:Int)(p:Int)(q:Int)(r:Int)(w:I)(Q:O->I->Prop):Prop:=aq (w.alloc
 (.cells #[j,k,aZ l] 133)) λw1=>aq (w1.alloc (.cells #[aZ m,n,o,p,q,r] 127)) λag
 =>gf 71 #[i] ag λe n6 c=>ad (n6 !=0) (Q (.tuple #[.pointer none,(1:Int)]) c) (aY c (aa w) λn7=>bh c w 1 λn8=>dY c w 2 λn9=>gf 72 #[e,.agg #[n7,
 n8,aZ n9]] c λs n13 f=>ad (n13 !=0) (Q (.tuple #[.pointer none,n13]) f) (bx f λa d=>¬d ((aa w):av).block/\aY a (aa w) λn16=>bh a w 1 λn17=>dY a w 2 λn18=>¬d
 ((aa w1):av).block/\di a (aa w1) λn19=>bh a w1 1 λn20=>bh a w1 2 λn21=>bh a w1 3 λn22=>bh a w1 4 λn23=>bh a w1 5 λn24=>gH 73 #[] a λt b=>af d a b/\∃g:
 Array O,Sem.run ae (Instr.build 151 #[(0,e),(1,.agg #[n16,n17,aZ n18]),(2,.agg #[aZ n19,n20,n21,n22,n23,n24]),(3,.pointer
 t)]) b=.ok (.agg g) b/\aq (b.alloc (.cells g 151)) λu=>bG 74 #[.pointer (some (aa b)),s] u λn32 h=>ad (n32 !=0) (Q (.tuple #[.pointer none,n32]) h) (Q (.tuple
 #[.pointer (some (aa b)),(0:Int)]) h)))
def ao.rY:aB:=(.q (.q (.s a1 (.q (.s a1 (.s (.d 4 true [0,0,0,0,504,5,506] [0,0,0,0,504,2004] [6029,12] [9,2004,0,1008053063680,2033] (.z 3 0 (.bJ 3 (.tail [.r,.r,.r])))) a27))))))
def Z.rZ(a:Int)(w:I)(Q:O->I->Prop):Prop:=Q (.int .i64 (ak ((ak (4*a))+64))) w
def ao.rZ:aB:=(.q (.q .l))
def Z.nT(b:aw av)(op:Array O)(w:I)(Q:O->I->Prop):Prop:=aq (w.alloc (.cells op 90)) λw1=>aq (w1.alloc nS) λag=>aY ag (aa w) λa=>ad (a==3) (aq (ag.drew) λaC=>
 pt b λa5=>¬False/\∃g:aw av,aC.cell? (a5.add 10)=some (g)/\¬False/\∃h:Y O,aG aC ((aa w).add 6) 0 23=some h/\bG 75 #[g,.agg h.toArray] aC λn10 aJ
 =>∃i:Array O,Sem.run ae (Instr.build 77 #[(1,n10)]) aJ=.ok (.agg i) aJ/\rV aJ w1 i Q) (ad (a==5) (aq (ag.drew) λc=>pt b λjr=>¬False/\∃j:aw av,c.cell? (jr.add
 10)=some (j)/\¬False/\bh c w 2 λn17=>¬False/\∃k:Y O,aG c ((aa w).add 29) 0 21=some k/\bG 76 #[j,n17,.agg k.toArray] c λn21 e=>∃
 l:Array O,Sem.run ae (Instr.build 77 #[(1,n21)]) e=.ok (.agg l) e/\rV e w1 l Q) (ad (a==8) (False) (ad (a==11) (aq (ag.drew) λf=>pt b λa26=>¬False/\∃m:aw av,
 f.cell? a26=some (m)/\¬False/\bD f w 50 λp=>dc 78 #[m,p] f λq=>hJ 79 #[b] q λr cN=>rV cN w1 r Q) (ad (a==
 12) (False) (ad (a==13) (False) (ad (a==14) (False) (∃d:Array O,Sem.run ae (Instr.build 77 #[]) ag=.ok (.agg d) ag/\bE ag (aa w1) (Array.toList d)/\Array.size d=10/\aq (setCells ag (aa w1)
 0 (Array.toList d)) λn=>∃o:Y O,aG n (aa w1) 0 10=some o/\Q (.tuple #[.agg o.toArray,false]) n)))))))
def ao.nT:aB:=(.q (.s (.q (.bg (.q (.c (.s (.d 6 false [0,3000,0,5,1005003,7,508,509] [0,3000,0,5,1005003,2006,0] [8010,0,6] [1,3010,4,15,1015013,17,1017004,0] (.z 6 0 (.tail [.r,.r,.r,.r]))) .l) (.q (.c (.s (.d 8 false
 [0,3000,0,5,0,7,1007005003,9,510,511] [0,3000,0,5,0,7,1007005003,2008,0] [10020,0,6] [1,3020,4,25,4,27,1027025023,29,1029004,0] (.z 8 0 (.tail [.r,.r,.r,.r]))) .l) (.q (.c .l (.q (.c (.s (.e 6 false [0,3000,0,5,1005003] [7047]
 [1,3047,4,52,1052050] (.z 6 0 .e)) (.q .l)) (.q (.c .l dF)))))))))))) (.q .l)))
theorem Z.EX(b:aw av)(op:Array O)(w:I)(Q:O->I->Prop)(h:Z.nT b op w Q):aA ae 47 #[b,.agg op] w Q:=okF (λw Q=>Z.nT b op w Q) ao.nT func47 h
def Z.uF(b:aw av)(op:Array O)(w:I)(Q:O->I->Prop):Prop:=aq (w.alloc (.cells op 90)) λw1=>aq (w1.alloc nS) λag=>aY ag (aa w) λa=>ad (a==1) (aq (ag.drew) λaC=>pt
 b λa5=>¬False/\∃d:aw av,aC.cell? (a5.add 12)=some (d)/\¬False/\bD aC w 1 λh=>mU 82 #[d,h] aC λn10 i n12 n13 j n15 aJ=>∃e:Array O,
 Sem.run ae (Instr.build 77 #[(0,.agg #[n10,i,n12,n13,j,n15])]) aJ=.ok (.agg e) aJ/\rU aJ w1 e Q) (ad (a==2) (False) (ad (a==4)
 (False) (ad (a==6) (False) (ad (a==7) (False) (ad (a==9) (False) (pt b λmj=>∃f:aw av,ag.cell? (mj.add 11)=some (f)/\gH 88 #[f] ag λk l=>bG 89
 #[k] l λn26 c=>∃g:Array O,Sem.run ae (Instr.build 77 #[(1,n26)]) c=.ok (.agg g) c/\rU c w1 g Q))))))
def ao.uF:aB:=(.q (.s (.q (.bg (.q (.c (.s (.d 6 false [0,3000,0,5,1005003,7,508] [0,3000,0,5,1005003,2006] [8012,0] [1,3012,4,17,1017015,19,1019004] (.z 6 0 (.tail [.r,.r,.r]))) .l) (.q (.c .l (.q (.c .l (.q (.c .l
 dF)))))))))) (.q .l)))
theorem Z.JY(b:aw av)(op:Array O)(w:I)(Q:O->I->Prop)(h:Z.uF b op w Q):aA ae 48 #[b,.agg op] w Q:=okF (λw Q=>Z.uF b op w Q) ao.uF func48 h
def Z.xJ(j:aw av)(b:ai)(now:Int)(w:I)(Q:O->I->Prop):Prop:=ad (Option.isNone j) (False) (gU 94 #[b] w λa aX w1=>aq (w1.alloc z4) λaH=>bE
 aH (aa w1) (Array.toList a)/\Array.size a=39/\aq (setCells aH (aa w1) 0 (Array.toList a)) λc=>ad (aX !=0) (False) (cT c w1 37 λd=>ad (!d) (bl 30 #[b] c λe aJ=>Q
 (.tuple #[e,(0:Int)]) aJ) (False)))
def ao.xJ:aB:=(.q (.s (.q (.c .l .l)) (.q (.s (.q (.c .l .l)) (.s a1 .l)))))
def Z.xK(b:ai)(w:I)(Q:O->I->Prop):Prop:=aq (w.alloc z4) λw1=>ad ((b.len:Int)==0) (ug w1 w Q) (bc b 0 λa5=>bS w1 (bn a5 0 1) λn6=>(0:Int)<=4/\ad (((Int.fdiv n6 (2^(min (Int.toNat 4)
 8))):Int)==4) (gU 94 #[b] w1 λa n10 c=>fK c w a Q n10) (ad (((Int.fdiv n6 (2^(min (Int.toNat 4) 8))):Int)==6) (gU 99 #[b] w1 λd n16 e=>fK e w
 d Q n16) (w2 w1 w Q)))
def ao.xK:aB:=(.q (.s a1 (.s (.q (.bg a26)) (.q .l))))
def Z.xL(h_2:Array O)(data:ai)(w:I)(Q:O->I->Prop):Prop:=aq (w.alloc (.cells h_2 65)) λw1=>aq (w1.alloc jn) λag=>aV (λd:Int->I->Prop=>cJ ag w 1 λaX=>ad (aX==6)
 (∃e:Y O,aG ag (aa w) 0 39=some e/\nQ 100 #[.agg e.toArray,data] ag λn8 n9 n10 n11 i n13 n14 j=>b7 j (aa w1) [.int .u16 n8,.int .u16 n9,.int .u8 n10,n11,i,n13] 6 λk=>d n14 k) (ad (aX==17) (∃f:Y O,aG ag (aa w) 0 39=some f/\nQ 101 #[.agg f.toArray,data] ag λn19 n20 n21 n22 l n24 n25 m=>b7 m (aa
 w1) [.int .u16 n19,.int .u16 n20,.int .u8 n21,n22,l,n24] 6 λn=>d n25 n) (d 6 ag))) (λ(n27:Int) g=>ad (n27 !=0) (b7 g (aa w1) [.int .u16 0,.int .u16 0,.int .u8 0,(0:Int),false,(0:Int)] 6 λb=>e0 b (aa w1) λn30=>ef b w1 1 λn31=>cJ b w1 2 λn32=>bh b w1 3 λn33=>cT b w1 4 λo=>bh b w1 5 λn35=>Q (.tuple #[.agg #[.int .u16 n30,.int .u16 n31,.int .u8
 n32,n33,o,n35],n27]) b) (fI 102 #[data,(0:Int)] g λn38 cr=>fI 102 #[data,(2:Int)] cr λn41 p=>st
 p (aa w1) (.int .u16 n38) λq=>st q ((aa w1).add 1) (.int .u16 n41) λc=>e0 c (aa w1) λr=>aV (λh:ah->I->Prop=>ad (r==0) (h true c) (ef c w1 1 λs=>h (s==0) c)) (λ
 (t:ah) a=>ad t (b7 a (aa w1) [.int .u16 0,.int .u16 0,.int .u8 0,(0:Int),false,(0:Int)] 6 λu=>ql u w1 Q) (e0 a (aa w1) λv=>ef a w1 1 λx=>cJ a w1 2 λy=>bh a w1 3 λ
 z=>cT a w1 4 λA=>bh a w1 5 λB=>b7 a (aa w1) [.int .u16 v,.int .u16 x,.int .u8 y,z,A,B] 6 λC=>o2 C w1 Q))))
def ao.xL:aB:=(.q (.s (.c7 [(5,(.int .i64))] [1,4] (.q (.bg (.q (.c .r (.q (.c .r .r))))))) (.s a1 (.q (.s eG (.q .l))))))
def Z.uG(r:Array O)(x:av)(w:I)(Q:O->I->Prop):Prop:=aq (w.alloc (.cells r 32)) λw1=>∃cq:Y O,aG w1 (aa w) 0 40=some cq/\∃a:Y O,aG w1 x 0 37=some
 a/\br 56 #[.agg cq.toArray,.agg a.toArray] w1 λb aC=>Q b aC
def ao.uG:aB:=(.q (.q .l))
theorem Z.JZ(r:Array O)(x:av)(w:I)(Q:O->I->Prop)(h:Z.uG r x w Q):aA ae 55 #[.agg r,.pointer (some x)] w Q:=okF (λw Q=>Z.uG r x w Q) ao.uG func55 h
def Z.uH(r:Array O)(f:Array O)(w:I)(Q:O->I->Prop):Prop:=aq (w.alloc (.cells r 32)) λw1=>aq (w1.alloc (.cells f 27)) λag=>cJ ag w 36 λo=>aV (λd:ah->I
 ->Prop=>ad (o==0) (d true ag) (cJ ag w 36 λn5=>cJ ag w1 36 λn6=>d (n5==n6) ag)) (λ(p:ah) aJ=>∃e:Y O,aG aJ (aa w) 0 40=some e/\br 32 #[.agg e.toArray] aJ λq a=>aV (λ
 g:ah->I->Prop=>ad (q&&p) (ef a w1 35 λn14=>ef a w 37 λn15=>g (decide (n14>=n15)) a) (g false a)) (λ(s:ah) b=>aV (λh:ah->I->Prop=>ad s (ef b w1 35 λn19=>ef
 b w 38 λn20=>h (decide (n19<=n20)) b) (h false b)) (λ(t:ah) bk=>aV (λi:ah->I->Prop=>ad t (∃j:Y O,aG bk (aa w1) 0 17=some j/\∃k:Y O,aG bk (aa w) 0 18=
 some k/\br 103 #[.agg j.toArray,.agg k.toArray] bk λu v=>i u v) (i false bk)) (λ(x:ah) c=>aV (λl:ah->I->Prop=>ad x (∃m:Y O,aG c ((aa w1).add 17) 0 17
 =some m/\∃n:Y O,aG c ((aa w).add 18) 0 18=some n/\br 103 #[.agg m.toArray,.agg n.toArray] c λy z=>l y z) (l false c)) (λ(A:ah) B=>Q A B)))))
def ao.uH:aB:=(.q (.s (.z [12,16]) (.s (.z [9,5,6,16,18,16,18,16,18,16]) .l)))
theorem Z.J0(r:Array O)(f:Array O)(w:I)(Q:O->I->Prop)(h:Z.uH r f w Q):aA ae 56 #[.agg r,.agg f] w Q:=okF (λw Q=>Z.uH r f w Q) ao.uH func56 h
set_option maxRecDepth 100000
def Z.xM(a:aw av)(b:Int)(w:I)(Q:O->I->Prop):Prop:=pt a λa1=>a_ w (a1.add 82) λs2=>lJ 161 #[s2,b,(2:Int)] w λn5 d c=>
 Q (.int .u16 (IntKind.wrap .u16 n5)) c
def ao.xM:aB:=a25
def Z.xN(a:aw av)(f:ai)(g:ai)(w:I)(Q:O->I->Prop):Prop:=pt a λa1=>bq w ((a1.add 39).add 4) λh=>ad h (Q (.tuple #[]) w) (bG 411 #[a] w
 λn5 i=>fI 379 #[a,n5] i λn8 j=>fI 378 #[.int .u16 n8,f,g] j λn11 b=>aV (λc:Int->I->Prop=>aV
 (λd:ah->I->Prop=>ad (n11==0) (pt a λfJ=>bS b (fJ.add 1) λn15=>d (n15==17) b) (d false b)) (λ(k:ah) e=>ad k (c (fj .u16 65535 n11) e) (c n11 e))) (λ(n18:Int) l=>bG
 411 #[a] l λn22 m=>dc 377 #[a,n22,.int .u16 n18] m λb8=>Q (.tuple #[]) b8))
def ao.xN:aB:=(.s (.q (.c .l .l)) (.q (.s (.c7 [(6,(.int .u16))] [0] (.s (.z [9,22]) (.c .r .l))) .r)))
def Z.qp(a:ai)(w:I)(Q:O->I->Prop):Prop:=Q (.bool ((decide ((a.len:Int)>=1))&&(decide ((a.len:Int)<=24)))) w
def ao.qp:aB:=fJ
def Z.xO(t:aw av)(key:ai)(w:I)(Q:O->I->Prop):Prop:=pt t λa1=>aY w (a1.add 3) λbB=>pt t λa3=>aY w (a3.add 4) λaX=>wT ⟨none,0,0⟩ bB aX w λq h f n8 n9 g=>ad
 (decide (n9>0)) (EK 362 #[t,n8,.bool (n9==1)] g λr s u v n17 b=>aq (b.alloc jK) λbd=>b7 bd (aa b) [r,s,u,
 v] 4 λa=>ad (n17 !=0) (Q (.tuple #[(),n17]) a) (bq a (aa b) λx=>bD a b 1 λy=>bD a b 2 λz=>bD a b 3 λA=>∃d:Array O,Sem.run
 ae (Instr.build 552 #[(0,n8),(1,.agg #[x,y,z,A])]) a=.ok (.agg d) a/\aq (a.alloc (.cells #[(0:Int),
 false,(),(),(),(0:Int)] 552)) λi=>bE i (aa a) (Array.toList d)/\Array.size d=6/\aq (setCells i (aa a) 0 (Array.toList d)) λc=>aV (λj:
 Int->I->Prop=>ad (decide (n9>1)) (bq c (aa b) λB=>bD c b 1 λC=>bD c b 2 λD=>bD c b 3 λE=>bG 412 #[.agg #[B,C,D,
 E],key] c λn34 F=>st F ((aa a).add 5) n34 λe=>bD e b 3 λG=>bh e a 5 λn37=>bc G n37 λH=>aY e (bn H n37 1) λn39=>
 j n39 e) (j n8 c)) (λ(n40:Int) k=>∃l:Y O,aG k (aa a) 0 6=some l/\∃m:ai,∃n:I,Sem.run ae (Instr.buildSlice 548 1 #[(0,.agg l.toArray)]) k=.ok m n/\ap 548 f m n λo p=>q o n40 (ak (n9-1)) p/\h o n40 (ak (n9-1)) p<h f n8 n9 g))) (Q (.tuple #[f,
 .int .i64 0]) g)
def ao.xO:aB:=(.q (.q (.q (.s (.q (.bg (.loop [(6,.slice),(7,(.int .i64)),(8,(.int .i64))] [0,1] (.s (.q (.c .l .l)) (.s (.bg (.q (.s a1 (.q (.s (.c7 [(7,(.int .i64))] [0,1,6,8,11] jr) .r))))) .r))))) (.q .l)))))
def Z.uI(s:aw av)(w:I)(Q:O->I->Prop):Prop:=ad (Option.isNone s) (Q (0:Int) w) (pt s λa1=>aY w a1 λbB=>pt s λa3=>a_ w (a3.add 1) λf=>eT bB 0 w λg e n7 n8 c=>
 ad (decide (n8<(f.len:Int))) (bx c λa b=>pt s λeH=>fk b a (eH.add 1) λh=>bc h n8 λfJ=>h4 b a (bn fJ n8 1) λn15=>pt s λgp=>fk b a (gp.add 2) λi=>bc i n8 λik=>h4
 b a (bn ik n8 1) λn19=>bG 414 #[.int .u8 (j1 .u8 n15 n19)] a λn22 d=>af b a d/\g (ak (n7-n22)) (ak (n8+1)) d/\e (ak (n7-n22)) (ak (n8+1)) d<e n7 n8 c) (Q n7 c))
def ao.uI:aB:=(.q (.s a1 (.q (.s (.q (.bg (.loop [(3,(.int .i64)),(16,(.int .i64))] [0,15] (.q (.s (.c .l .l) (.s (.bg (.q (.d 17 true [0,0,3001,0,1005004,7,0,3008,0,1012011,14,1014007,16,1016000,518]
 [0,0,3001,0,1005004,7,0,3008,0,1012011,14,1014007,16,1016000,1017000] [18019,4] [4,1,3020,5,1024023,26,1,3027,5,1031030,33,1033026,35,1035019,37] (.z 16 0 (.bJ 16 (.tail [.r,.r])))))) .r)))))) (.q .l)))))
theorem Z.J1(s:aw av)(w:I)(Q:O->I->Prop)(h:Z.uI s w Q):aA ae 386 #[s] w Q:=okF (λw Q=>Z.uI s w Q) ao.uI func386 h
def Z.uJ(t:aw av)(kB:ai)(l:ah)(m:ai)(n:ai)(o:ai)(w:I)(Q:O->I->Prop):Prop:=aq (w.alloc (.cells #[l,m,n,o] 524)) λw1=>aq (w1.alloc (.cells #[(0:Int)] 34)) λag=>bx ag λc f=>pt t λa5=>¬f
 (a5.add 1).block/\∃g:aw av,c.cell? (a5.add 1)=some (g)/\pt t λeV=>eU f c (eV.add 4) λn8=>bG 386 #[g] c λn11 d=>af f c d/\ad (decide (n11<(ak ((ak (2*n8))+
 3)))) (st d (aa w1) (2:Int) λaP=>aY aP (aa w1) λn13=>Q n13 aP) (aq (d.alloc (.cells #[t,(),()] 584)) λa=>aq (a.alloc (.cells #[.pointer none]
 582)) λp=>st p (aa a) (.pointer (some (aa d))) λb=>∃h:aw av,b.cell? (aa a)=some (h)/\bq b (aa w) λq=>bD b w 1 λr=>bD b w 2 λs=>bD b w 3 λu=>
 ue 420 #[h,kB,.agg #[q,r,s,u]] b λn24 n25 n26 bk=>st bk (aa w1) n26 λ
 e=>aY e (aa w1) λn28=>ad (n28 !=0) (aY e (aa w1) λn29=>st e (aa w1) n29 λv=>rM ae 418 #[.pointer (some (aa w1)),.pointer (some (aa a))] v λcN=>aY cN (aa w1) λn32
 =>Q n32 cN) (aq (e.drew) λb5=>¬False/\∃i:aw av,b5.cell? (aa a)=some (i)/\¬False/\∃j:aw av,b5.cell? (aa a)=some (j)/\pt j λx=>¬False/\a_ b5
 (x.add 2) λy=>dc 419 #[i,y] b5 λz=>pt t λA=>st z (A.add 3) n24 λB=>pt t λC=>st B (C.add 4) n25 λD=>st D
 (aa w1) (0:Int) λE=>rM ae 418 #[.pointer (some (aa w1)),.pointer (some (aa a))] E λk=>aY k (aa w1) λF=>Q F k))
def ao.uJ:aB:=(.q (.s (.s (.e 11 true [0,4000,0,5005,1010004] [12010] [1,4010,1,5015,1020014] (.z 4 0 (.z 6 5 (.bJ 4 .e)))) (.c (.q .l) .l)) (.q (.s .l (.q (.s a1 (.s (.e 5 false [0,0,3001,1004000] [6037] [8,8,3038,1041037]
 (.z 5 0 .e)) (.q (.q .l)))))))))
theorem Z.J2(t:aw av)(kB:ai)(a:ah)(b:ai)(c:ai)(d:ai)(w:I)(Q:O->I->Prop):Z.uJ t kB a b c d w Q=Bt ae tk ao.uJ Tryz.f388 [t,kB,.agg #[a,b,c,d]] w Q:=by kernel_rfl
theorem Z.J3(t:aw av)(kB:ai)(a:ah)(b:ai)(c:ai)(d:ai)(w:I)(Q:O->I->Prop)(h:Z.uJ t kB a b c d w Q):Calls ae 388 #[t,kB,.agg #[a,b,c,d]] w λe w1=>∃v,e=.returned v/\Q v w1:=
 Jw BB func388 (by kernel_rfl) (Eq.mp (Z.J2 t kB a b c d w Q) h)
def Z.uK(n:Int)(w:I)(Q:O->I->Prop):Prop:=Q (.bool ((decide (n>=0))&&(decide (n<=65535)))) w
def ao.uK:aB:=a3
def Z.r0(gB:Int)(parts:ai)(w:I)(Q:O->I->Prop):Prop:=fe 375 #[aZ gB,parts] w λa w1=>Q (aZ a) w1
def ao.r0:aB:=(.q (.q .l))
def Z.xP(t:aw av)(b:aw av)(w:I)(Q:O->I->Prop):Prop:=bG 434 #[b] w λd w1=>c3 d w1 λe c n6 a=>pt t λeG=>a_ a eG λb_=>bc b_ n6
 λdF=>aY a (bn dF n6 1) λn11=>ad (n11 !=(-1)) (bG 434 #[b] a λn14 aP=>e n14 aP/\c n14 aP<c n6 a) (Q n6 a)
def ao.xP:aB:=(.q (.q (.s (.bg (.loop [(5,(.int .i64))] [0,1] (.s (.q (.c .l .l)) (.bg .r)))) (.q .l))))
def Z.r2(s:ah)(t:ai)(u:ai)(v:ai)(key:ai)(val:ai)(w:I)(Q:O->I->Prop):Prop:=aq (w.alloc (.cells #[s,t,u,v] 524)) λw1=>aq (w1.alloc jK) λag=>bq ag (aa w) λx=>aV (λk:ah->I->Prop=>ad (!x) (k true ag) (bq ag (aa w) λy=>bD ag w 1 λcK=>
 bD ag w 2 λz=>bD ag w 3 λA=>br 415 #[.agg #[y,cK,z,A]] ag λB C=>k (!B) C)) (λ(D:ah) l=>aV (λm:ah->
 I->Prop=>ad D (m true l) (br 435 #[key] l λE F=>m (!E) F)) (λ(G:ah) b=>ad (G||(decide ((val.len:Int)>24))) (b7 b (aa w1) [false,(),
 (),()] 4 λc=>bq c (aa w1) λH=>bD c w1 1 λJ=>bD c w1 2 λK=>bD c w1 3 λL=>Q (.tuple #[.agg #[H,J,K,
 L],false]) c) (bq b (aa w) λM=>bD b w 1 λN=>bD b w 2 λP=>bD b w 3 λR=>wR 416 #[.agg #[M,N,P,
 R]] b λS T U V a=>aq (a.alloc jK) λW=>b7 W (aa a) [S,T,U,V] 4 λcr=>bq cr (aa w) λ
 X=>bD cr w 1 λY=>bD cr w 2 λab=>bD cr w 3 λac=>hG 413 #[.agg #[X,Y,ab,ac],key] cr
 λd ae n=>ad ae (bx n λf o=>jJ o f a 2 λaj=>bl 30 #[val] f λak p=>af o f p/\bc aj d λal=>st p (bn al d 1) ak λam=>BF am a w1 Q) (bx n λg h=>jJ h g a 1 λan=>bl 30 #[key] g λao e=>af h g e/\aq (e.alloc (.cells #[ao] 28)) λq=>af h e q/\bl 436 #[an,d,.slice (some (aa e)) 1 1] q λap ar=>st ar ((aa a).add 1) ap λau=>bx au λi j=>jJ j i a 2 λav=>bl 30 #[val] i λaw ec=>af j i ec/\aq (ec.alloc (.cells #[aw]
 28)) λr=>af j ec r/\bl 436 #[av,d,.slice (some (aa ec)) 1 1] r λax ay=>st ay ((aa a).add 2) ax λ
 az=>BF az a w1 Q))))
def ao.r2:aB:=(.q (.s (.s (.z [12,10,12,10,12,11]) (.c (.q .l) .l)) (.q (.q (.s (.q (.c (.s (.d 5 true [0,1,0,0,4,505,506] [0,1,0,0,4,1002001,1005004] [6039,0] [9,40,10,3,43,1041040,1044043] (.z 4 0 (.bJ 4 (.tail [.r,.r])))) (.q
 .l)) .l)) (.s (.d 6 true [0,1,0,0,2003,1000000000054,507,508] [0,1,0,0,2003,1005002001,0,1007006] [8046,0] [9,47,10,2,2049,1051048047,9,1053052] (.z 4 0 (.bJ 4 (.bJ 5 (.tail [.r,.r,.r]))))) (.s (.d 6 true
 [0,1,0,0,2003,1000000000054,507,508] [0,1,0,0,2003,1005002001,0,1007006] [8054,0] [9,55,10,3,2057,1059056055,9,1061060] (.z 4 0 (.bJ 4 (.bJ 5 (.tail [.r,.r,.r]))))) (.q .l))))))))
def Z.xQ(a:aw av)(w:I)(Q:O->I->Prop):Prop:=aq (w.drew) λw1=>pt a λa2=>¬False/\aY w1 (a2.add 2) λb=>pt a λa4=>¬False/\aY w1 ((a4.add 39).add 3) λn5=>Q (.int
 .i64 (ak (b+n5))) w1
def ao.xQ:aB:=(.q (.s (.d 12 false [0,5000,0,5006,1011005,513] [0,5000,0,5006,1011005,13] [13003,3] [1,5003,1,5009,1014008,16] (.z 12 0 (.tail [.r,.r]))) .l))
def Z.r3(a:ah)(b:ai)(c:ai)(d:ai)(key:ai)(w:I)(Q:O->I->Prop):Prop:=aq (w.alloc (.cells #[a,b,c,d] 524)) λw1=>bD w1 w 1 λs2=>hG 437 #[s2,key,.func (.func
 244) #[] #[]] w1 λn5 e f=>Q (.tuple #[n5,e]) f
def ao.r3:aB:=(.q (.q .l))
def Z.qq(o:ah)(p:ai)(q:ai)(r:ai)(w:I)(Q:O->I->Prop):Prop:=aq (w.alloc (.cells #[o,p,q,
 r] 524)) λw1=>bD w1 w 1 λs2=>c3 0 w1 λs f n5 a=>ad (decide (n5<(s2.len:Int))) (bc s2 n5 λeV=>a_ a (bn eV n5 1) λg=>br 435 #[g]
 a λt b=>aV (λh:ah->I->Prop=>ad (!t) (h true b) (aV (λi:ah->I->Prop=>ad (decide (n5>0)) (bD b w 1 λu=>bc u (ak (n5-1)) λjr=>a_ b (jr.add ((ak (n5-1)).toNat*1))
 λv=>bG 244 #[v,g] b λn19 x=>i (decide (n19>=0)) x) (i false b)) (λ(y:ah) z=>h y z))) (λ(A:ah) b8=>ad A (Q false
 b8) (s (ak (n5+1)) b8/\f (ak (n5+1)) b8<f n5 a))) (bq a (aa w) λB=>ad B (bD a w 2 λC=>bD a w 1 λD=>aV (λj:ah->I->Prop=>ad ((C.len:Int)==(D.len:Int)) (bD a w 3 λE=>j
 ((E.len:Int)==0) a) (j false a)) (λ(F:ah) c=>aV (λk:ah->I->Prop=>ad F (bD c w 2 λG=>br 439 #[G,.func (.func 438)
 #[] #[]] c λH b5=>k (!H) b5) (k false c)) (λ(J:ah) K=>Q J K))) (bD a w 1 λL=>aV (λl:ah->I->Prop=>ad (decide ((L.len:Int)>0)) (bD a w 3 λM=>bD a w 1 λN
 =>l ((M.len:Int)==(ak ((N.len:Int)+1))) a) (l false a)) (λ(P:ah) d=>aV (λm:ah->I->Prop=>ad P (bD d w 2 λR=>m ((R.len:Int)==0) d) (m false d)) (λ(S:ah) e=>aV
 (λn:ah->I->Prop=>ad S (bD e w 3 λT=>br 441 #[T,.func (.func 440) #[] #[]] e λU V=>n (!U) V) (n false e)) (λ(W:
 ah) X=>Q W X)))))
def ao.qq:aB:=(.q (.s (.q (.bg (.loop [(10,(.int .i64))] [1,8,9] (.q (.s (.c .l .l) (.s (.bg (.q (.s (.z [12,40,6,28]) (.c (.q .l) .l)))) .r)))))) (.s (.q (.c (.q (.s (.z [24,13,15,16]) .l)) .l)) (.q (.s (.z
 [15,25,27,13,15,16]) .l)))))
def Z.r4(k:ah)(l:ai)(m:ai)(n:ai)(w:I)(Q:O->I->Prop):Prop:=aq (w.alloc (.cells #[k,l,m,
 n] 524)) λw1=>aq (w1.alloc jK) λag=>bx ag λa b=>¬b ((aa w):av).block/\bq a (aa w) λe=>jJ b a w 3 λcK=>(bl 442 #[cK] a λb_ c=>af b a c/\∃f:Array O,(∀g:I,Sem.run ae (Instr.build 524 #[(0,e),(3,b_)]) g=.ok (.agg f) g)/\aq (c.alloc jK) λaP=>af b c aP/\
 dz aP c f w w1 Q)/\(aq (a.alloc jK) λd=>af b a d/\bl 442 #[cK] d λo h=>af b d h/\∃i:Array O,(∀j:I,Sem.run ae (Instr.build
 524 #[(0,e),(3,o)]) j=.ok (.agg i) j)/\dz h a i w w1 Q)
def ao.r4:aB:=(.q (.s (.d 7 true [0,1,0,2002,1004001,0,507] [0,1,0,2002,1004001,0,1006005] [6008,4,0] [2,9,2,2010,1012009,0,1013003] (.z 4 0 (.two 4 (.t 5 (.bJ 6 .e)) 6 (.bJ 4 (.t 5 .e))))) (.s (.q (.bg (.loop [(17,(.int
 .i64))] [1,2,3,15,16] (.q (.s (.c .l .l) (.s (.bg (.q (.d 5 true [0,1,0,2002,1004003001,506,507] [0,1,0,2002,1004001,0,1006005] [7021,0] [4,22,6,2023,1025022,4,1027026] (.z 3 0 (.bJ 3 (.bJ 4 (.tail [.r,.r,.r]))))))) .r)))))) (.s
 (.q (.bg (.loop [(32,(.int .i64))] [2,3,30,31] (.q (.s (.c .l .l) (.s (.bg (.q (.d 5 true [0,1,0,2002,1004003001,506,507] [0,1,0,2002,1004001,0,1006005] [7036,0] [4,37,8,2038,1040037,4,1042041] (.z 3 0 (.bJ 3 (.bJ 4 (.tail [.r,.r,
 .r]))))))) .r)))))) (.q .l)))))
def Z.r5(x:av)(a:av)(w:I)(Q:O->I->Prop):Prop:=aY w x λcx=>ad (cx !=0) (aq (w.drew) λag=>¬False/\∃b:aw av,ag.cell? a=some (b)/\¬False/\∃c:aw
 av,ag.cell? a=some (c)/\pt c λa5=>¬False/\a_ ag (a5.add 1) λcK=>dc 419 #[b,cK] ag λd=>Q (.tuple #[]) d) (Q (.tuple #[]) w)
def ao.r5:aB:=(.q (.c (.e 5 false [0,0,3001,1004000] [6004] [2,2,3005,1008004] (.z 5 0 .e)) .l))
theorem Z.J4(x:av)(a:av)(w:I)(Q:O->I->Prop):Z.r5 x a w Q=rG ae tk ao.r5 Tryz.f418 [.pointer (some x),.pointer (some a)] w Q:=by kernel_rfl
theorem Z.EY(x:av)(a:av)(w:I)(K:I->Prop)(h:Z.r5 x a w λ_ w1=>K w1):rM ae 418 #[.pointer (some x),.pointer (some a)] w K:=
 Jv BB ⟨_,func418,by kernel_rfl,by kernel_rfl⟩ func418 (by kernel_rfl) (Eq.mp (Z.J4 x a w _) h)
def Z.xR(c:aw av)(l:ai)(w:I)(Q:O->I->Prop):Prop:=c3 0 w λn d a aC=>ad (decide (a<(l.len:Int))) (aV (λe:I->Prop=>bc l a λc0=>aY aC (bn c0 a 1) λn7=>pt c
 λeG=>∃f:aw av,aC.cell? eG=some (f)/\pt f λdF=>∃g:aw av,aC.cell? (dF.add 1)=some (g)/\br 443 #[g,n7] aC λo aP=>pt c λjr=>∃
 h:aw av,aP.cell? jr=some (h)/\pt h λlL=>∃i:aw av,aP.cell? (lL.add 1)=some (i)/\bG 230 #[i,n7] aP λn21 b=>ad o (pt c λa22=>∃
 j:aw av,b.cell? a22=some (j)/\pt j λa24=>∃k:aw av,b.cell? a24=some (k)/\br 285 #[k,n7] b λq p=>e p) (e b)) (λm=>n
 (ak (a+1)) m/\d (ak (a+1)) m<d a aC)) (Q (.tuple #[]) aC)
def ao.xR:aB:=(.q (.bg (.loop [(9,(.int .i64))] [0,7,8] (.q (.s (.c .l .l) (.s (.c7 [] [0,7,8,9] (.bg (.q (.q (.q (.q (.c .r .l))))))) .r))))))
def Z.xS(c:aw av)(kB:ai)(x:ah)(y:ai)(z:ai)(A:ai)(w:I)(Q:O->I->Prop):Prop:=aq (w.alloc (.cells #[x,y,z,A] 524)) λw1=>bq w1 (aa w) λB=>bD w1 w 1 λC=>bD w1 w 2 λD=>bD w1 w 3 λE=>aq (w1.alloc jK)
 λF=>b7 F (aa w1) [B,C,D,E] 4 λG=>c3 (ak ((kB.len:Int)-1)) G λH k n10 b=>ad (decide (n10>=0)) (bx b λaP f=>pt c λfJ
 =>fk f aP (fJ.add 2) λJ=>bc kB n10 λgp=>eU f aP (bn gp n10 6) λn17=>aq (aP.alloc (.cells #[n17] 3)) λbd=>af f aP bd/\ap 88 J (.slice (some (aa
 aP)) 1 1) bd λK l=>af f bd l/\pt c λfl=>st l (fl.add 2) K λbk=>aV (λm:ah->I->Prop=>ad (n10==0) (bD bk w1 1 λL=>m ((L.len:Int)==0) bk) (m
 false bk)) (λ(M:ah) i=>ad M (bx i λa g=>¬g ((aa w1):av).block/\bq a (aa w1) λN=>bD a w1 1 λP=>bD a w1 2 λR=>bD a w1 3 λS=>pt c λn=>¬g n.block/\∃o:
 aw av,a.cell? n=some (o)/\pt o λT=>eU g a (T.add 4) λn36=>ue 444 #[.agg #[N,P,R,S],n36] a λn39 n40 n41 p=>af g a p/\Q (.tuple #[n39,n40,n41]) p) (aV (λq:aw av->I->Prop=>ad (decide (n10>0)) (bc kB (ak (n10-1)) λU=>q (some (U.add
 ((ak (n10-1)).toNat*6))) i) (q none i)) (λ(r:aw av) e=>bq e (aa w1) λV=>bD e w1 1 λW=>bD e w1 2 λX=>bD e w1 3 λY=>EL 445 #[c,.agg #[V,
 W,X,Y],r] e λs ab ac t d=>ad (t !=0) (Q (.tuple #[(0:Int),(0:Int),t]) d) (ad (n10==0) (ue
 446 #[c,s] d λae ag aj al=>Q (.tuple #[ae,ag,aj]) al) (pt r λh=>bq d (h.add 1) λam=>a_ d ((h.add 1).add 1) λan=>
 a_ d ((h.add 1).add 2) λao=>a_ d ((h.add 1).add 3) λar=>wR 447 #[.agg #[am,an,ao,ar],ab,ac,
 s] d λau ax ay az aA=>b7 aA (aa w1) [au,ax,ay,az] 4 λu=>H (ak (n10-1)) u/\k (ak (n10-1)) u<
 k n10 b)))))) (bq b (aa w1) λaB=>bD b w1 1 λaC=>bD b w1 2 λaD=>bD b w1 3 λaE=>eD 448 #[c,.agg #[aB,aC,aD,aE]] b λaF v j=>ad (v !=0) (Q (.tuple #[(0:Int),(0:Int),v]) j) (bc aF 0 λaG=>aY j ((bn aG 0 2).add 1) λaH=>Q (.tuple #[aH,(1:Int),(0:Int)]) j))
def ao.xS:aB:=(.q (.q (.s (.q (.bg (.loop [(10,(.int .i64))] [0,1,9] (.s (.q (.c .l .l)) (.s (.bg (.s (.d 12 true [0,0,3001,0,0,1006005,3007,1010004,512,513,1000000012287] [0,0,3001,0,0,1006005,3007,1010004,1,13,1013011]
 [14025,0] [1,1,3026,2,11,1031030,3032,1035029,26,38,1038036] (.z 10 0 (.bJ 10 (.bJ 11 (.tail [.r,.r,.r]))))) (.s (.s (.z [9,13]) (.c (.s (.d 12 true [0,0,6001,1007000,9,9,9,512,513,514] [0,0,6001,1007000,9,9,4008] [12047,3006]
 [10,1,6048,1054047,56,56,4055] (.z 8 0 (.bJ 8 (.z 3 9 (.tail [.r,.r,.r]))))) .l) .l)) (.q (.s (.c7 [(11,.ptr)] [0,1,9,10] (.q (.c .r .l))) (.q (.s a1 (.s a1 .r)))))))) .r))))) a23)))
def Z.r6(e:ah)(f:ai)(g:ai)(h:ai)(w:I)(Q:O->I->Prop):Prop:=aq (w.alloc (.cells #[e,f,g,
 h] 524)) λw1=>bq w1 (aa w) λi=>bD w1 w 1 λj=>bD w1 w 2 λk=>bD w1 w 3 λl=>br 415 #[.agg #[i,j,k,
 l]] w1 λm a=>aV (λb:ah->I->Prop=>ad (!m) (b true a) (bD a w 1 λn=>b (decide ((n.len:Int)>255)) a)) (λ(o:ah) aP=>ad o (Q (.tuple #[(),(4:Int)])
 aP) (bq aP (aa w) λp=>bD aP w 1 λq=>bD aP w 2 λr=>bD aP w 3 λs=>bl 452 #[.agg #[p,q,r,s]] aP λ
 c d=>ad (decide ((c.len:Int)>232)) (Q (.tuple #[(),(10:Int)]) d) (Q (.tuple #[c,(0:Int)]) d)))
def ao.r6:aB:=(.q (.s (.s (.z [12,13]) (.c (.q .l) .l)) a23))
def Z.xT(b:aw av)(w:I)(Q:O->I->Prop):Prop:=pt b λa1=>aY w a1 λbB=>aq (w.drew) λa=>pt b λa4=>¬False/\aY a a4 λn5=>pt b λc0=>¬False/\aY a (c0.add 1)
 λn7=>pt b λeG=>¬False/\aY a (eG.add 2) λn9=>(n9:Int)≠0/\pt b λdF=>(∃u:O,a.cell? dF=some u)/\a.frozen? dF=false/\aq (a.setCell dF (.int .i64 (Int.tmod (ak (n5+n7)) n9))) λc=>Q
 bB c
def ao.xT:aB:=(.q (.q (.s (.d 15 false [0,0,3001,0,3005,1008004,0,3010,1013009,515,516,1000000098303] [0,0,3001,0,3005,1008004,0,3010,1013009,1,16,1016014] [17008,0] [1,1,3009,1,3013,1016012,1,3018,1021017,9,24,1024022]
 (.z 15 0 (.tail [.r,.r,.r]))) (.q .l))))
def Z.qs(a:ai)(w:I)(Q:O->I->Prop):Prop:=Q (.bool ((decide ((a.len:Int)>=1))&&(decide ((a.len:Int)<=24)))) w
def ao.qs:aB:=fJ
def Z.xU(v:ai)(w:I)(Q:O->I->Prop):Prop:=Q (.bool (decide ((v.len:Int)>24))) w
def ao.xU:aB:=(.q (.q .l))
theorem Z.J5(v:ai)(w:I)(Q:O->I->Prop)(h:Z.xU v w Q):aA ae 438 #[v] w Q:=okF (λw Q=>Z.xU v w Q) ao.xU func438 h
def Z.xV(a:Int)(w:I)(Q:O->I->Prop):Prop:=Q (.bool ((decide (a<0))||(decide (a>=1600)))) w
def ao.xV:aB:=a3
theorem Z.J6(a:Int)(w:I)(Q:O->I->Prop)(h:Z.xV a w Q):aA ae 440 #[a] w Q:=okF (λw Q=>Z.xV a w Q) ao.xV func440 h
def Z.uL(s:aw av)(no:Int)(w:I)(Q:O->I->Prop):Prop:=br 286 #[s,no] w λd w1=>aV (λb:ah->I->Prop=>ad d (pt s λa5=>a_ w1 (a5.add
 1) λcK=>br 287 #[cK,no] w1 λe f=>b e f) (b false w1)) (λ(g:ah) a=>aV (λc:ah->I->Prop=>ad g (pt s λe5=>a_ a (e5.add 2) λh=>br
 287 #[h,no] a λi j=>c (!i) j) (c false a)) (λ(k:ah) l=>Q k l))
def ao.uL:aB:=(.q (.s (.z [12,19,21,22]) .l))
theorem Z.J7(s:aw av)(no:Int)(w:I)(Q:O->I->Prop)(h:Z.uL s no w Q):aA ae 443 #[s,no] w Q:=okF (λw Q=>Z.uL s no w Q) ao.uL func443 h
set_option maxRecDepth 100000
def Z.xW(c:aw av)(d:ah)(e:ai)(f:ai)(g:ai)(w:I)(Q:O->I->Prop):Prop:=aq (w.alloc (.cells #[d,e,f,g] 524)) λw1=>bq w1 (aa w) λh=>bD w1 w 1 λi=>bD w1 w 2 λj=>bD w1 w 3 λk=>nR 460 #[c,.agg #[h,i,j,k]] w1 λn8 n9 l=>∃a:ai,∃b:I,Sem.run ae (Instr.buildSlice 610 1 #[(0,.agg #[(),n8])]) l=.ok a b/\Q (.tuple #[a,n9]) b
def ao.xW:aB:=a25
def Z.r7(i:ah)(j:ai)(k:ai)(l:ai)(w:I)(Q:O->I->Prop):Prop:=aq (w.alloc (.cells #[i,j,k,
 l] 524)) λw1=>bD w1 w 1 λs2=>aq (w1.alloc (.cells #[.int .u8 (IntKind.wrap .u8 (s2.len:Int))] 5)) λb=>aV (λd:ai->I->Prop=>bq b (aa w) λm=>ad (!m) (bD
 b w 3 λcK=>bc cK 0 λeV=>aY b (bn eV 0 1) λn8=>bl 174 #[.slice (some (aa w1)) 1 1,aZ (IntKind.wrap .u64 n8),(2:Int)] b λn o=>d n o) (d ⟨(some (aa w1)),1,1⟩ b)) (λ(p:ai) e=>bD e w
 1 λq=>jI p 0 e λr f c n18 a=>ad (decide (n18<(q.len:Int))) (bq a (aa w) λs=>bD a w 1 λt=>bD a w 2 λu=>bD a w 3 λv=>bl 462 #[.agg #[s,t,u,v],n18] a λx y=>ap 28 c x y λg h=>r g (ak (n18+1)) h/\f g (ak
 (n18+1)) h<f c n18 a) (Q c a))
def ao.r7:aB:=(.q (.q (.s (.c7 [(3,.slice)] [1] (.q (.c .r .l))) (.s (.q (.bg (.loop [(3,.slice),(23,(.int .i64))] [1,22] a4))) (.q .l)))))
set_option maxRecDepth 100000
def Z.xX(c:aw av)(l:ah)(m:ai)(n:ai)(o:ai)(w:I)(Q:O->I->Prop):Prop:=aq (w.alloc (.cells #[l,m,n,o] 524)) λw1=>bq w1 (aa w) λp=>bD w1 w 1 λq=>bD w1 w 2 λr=>bD w1 w 3 λs=>eD 465 #[.agg #[p,q,
 r,s]] w1 λt n9 a=>ad (n9 !=0) (Q (.tuple #[(0:Int),n9]) a) (pt c λdF=>∃f:aw av,a.cell? dF=some (f)/\pt f λeH=>∃g:aw
 av,a.cell? (eH.add 1)=some (g)/\nR 228 #[g] a λn16 n17 b=>ad (n17 !=0) (Q (.tuple #[(0:Int),n17]) b) (pt c λik=>a_ b (ik.add 1) λu=>aq (b.alloc
 (.cells #[n16] 3)) λv=>ap 88 u (.slice (some (aa b)) 1 1) v λx bk=>pt c λa23=>st bk (a23.add 1) x λd=>aV (λh:Int->I
 ->Prop=>bq d (aa w) λy=>ad y (h 1 d) (h 2 d)) (λ(n27:Int) e=>pt c λz=>∃i:aw av,e.cell? z=some (i)/\pt i λA=>di e (A.add 2) λn32=>eD 121 #[n16,.agg #[n27,aZ n32,t]] e λB n36 b5=>ad (n36 !=0) (Q (.tuple #[(0:Int),n36]) b5) (pt c λC=>∃j:aw av,b5.cell? C=some (j)/\pt j λ
 D=>∃k:aw av,b5.cell? D=some (k)/\bG 231 #[k,n16,B] b5 λE F=>Q (.tuple #[n16,E]) F))))
def ao.xX:aB:=(.q (.q (.s a1 (.q (.s a1 (.q (.q (.s (.c7 [(9,(.int .i64))] [0,6,8] (.q (.c .r .l))) a23))))))))
def Z.r8(g:ah)(h:ai)(j:ai)(k:ai)(i:Int)(w:I)(Q:O->I->Prop):Prop:=aq (w.alloc (.cells #[g,h,j,k] 524)) λw1=>bx w1 λag b=>jJ b ag w 1 λl=>bc l i λa5=>fk b ag (bn a5 i 1) λcK=>jJ b ag w 1 λm=>bc m i λeG=>fk b ag (bn eG i 1) λb_
 =>aq (ag.alloc (.cells #[.int .u8 (IntKind.wrap .u8 (cK.len:Int))] 5)) λd=>af b ag d/\aq (d.alloc (.cells #[.slice (some (aa ag)) 1 1,b_] 28)) λn=>bl 173 #[.slice (some
 (aa d)) 2 2] n λf aP=>bq aP (aa w) λo=>ad o (bx aP λa c=>jJ c a w 2 λp=>bc p i λmj=>fk c a (bn mj i 1) λq=>jJ c a w 2 λr=>bc r i λa22=>fk c a (bn a22 i
 1) λs=>aq (a.alloc (.cells #[.int .u8 (IntKind.wrap .u8 (q.len:Int))] 5)) λe=>af c a e/\aq (e.alloc (.cells #[f,.slice (some (aa a)) 1 1,s]
 28)) λt=>bl 173 #[.slice (some (aa e)) 3 3] t λu v=>Q u v) (bD aP w 3 λx=>bc x (ak (i+1)) λy=>aY aP (y.add ((ak (i+1)).toNat*1)) λn31=>
 bl 174 #[f,aZ (IntKind.wrap .u64 n31),(2:Int)] aP λz A=>Q z A)
def ao.r8:aB:=(.q (.s (.d 13 true [0,1,0,1002001,4003,0,9,0,1010009,12,1012007,14,515] [0,1,0,1002001,4003,0,9,0,1010009,12,1012007,2013] [15006,6] [3,7,2,1008007,4009,3,15,2,1016015,18,1018013,2019] (.z 7 0 (.z 5 8 (.bJ 7 (.tail
 [.r,.r,.r]))))) (.s (.q (.c (.s (.d 14 true [0,0,2,0,1003002,4004,0,10,0,1011010,13,1013008000,15,516] [0,0,2,0,1003002,4004,0,10,0,1011010,13,1013008000,2014] [16023,5] [6,3,25,2,1026025,4027,3,33,2,1034033,36,1036031023,2037] (.z 8 0
 (.z 5 9 (.bJ 8 (.tail [.r,.r,.r]))))) .l) .l)) (.q .l))))
def Z.r9(a:ah)(b:ai)(c:ai)(d:ai)(w:I)(Q:O->I->Prop):Prop:=aq (w.alloc (.cells #[a,b,c,
 d] 524)) λw1=>bq w1 (aa w) λe=>bD w1 w 1 λf=>bD w1 w 2 λg=>bD w1 w 3 λh=>eD 431 #[.agg #[e,f,g,
 h]] w1 λi n9 j=>Q (.tuple #[i,n9]) j
def ao.r9:aB:=(.q (.q .l))
set_option maxRecDepth 100000
def Z.xY(b:ai)(v:Array O)(code:Int)(w:I)(Q:O->I->Prop):Prop:=aq (w.alloc (.cells v 24)) λw1=>gU 62 #[b] w1 λeW n5 ag=>aq (ag.alloc
 z4) λk=>bE k (aa ag) (Array.toList eW)/\Array.size eW=39/\aq (setCells k (aa ag) 0 (Array.toList eW)) λl=>ad (n5 !=0) (False) (bq l (aa ag) λx=>wQ 63 #[x] l λn11 n12 n13 n14 e=>aq
 (e.alloc z9) λy=>b7 y (aa e) [.int .u8 n11,.int .u8 n12,.int .u8 n13,.int .u8 n14] 4 λf=>cJ f ag 1 λn17=>bS f (aa e) λn18=>ad (n17==n18) (False) (∃m:Y O,aG f (aa w) 0 17=some m
 /\br 104 #[.agg m.toArray] f λz g=>aV (λn:ah->I->Prop=>ad (!z) (n true g) (bq g (aa w) λA=>bq g (aa ag) λB=>n (!(A==B)) g)) (λ(C:ah) h=>ad C (False)
 (bh h ag 2 λn28=>aV (λo:Int->I->Prop=>bq h (aa ag) λD=>ad D (o 1000 h) (o (ak (n28+8)) h)) (λ(n31:Int) E=>∃n33:Int,∃p:I,Sem.run ae (Builtin.min_ #[3,3]
 3 #[n31,.int .i64 (b.len:Int)]) E=.ok n33 p/\((0:Int)<=n33/\n33<=(b.cap:Int))/\bx p λc d=>¬d ((aa ag):av).block/\bq c (aa ag) λF=>¬d ((aa e):av).block/\
 bS c (aa e) λn38=>¬d ((aa w):av).block/\∃q:Y O,aG c (aa w) 0 17=some q/\¬d ((aa ag).add 3).block/\∃r:Y O,aG c ((aa ag).add 3) 0 17=some r/\∃s:Array O,
 (∀t:I,Sem.run ae (Instr.build 65 #[(0,F),(1,.int .u8 n38),(3,.agg q.toArray),(4,.agg r.toArray),(6,.int .u8 64)]) t=.ok (.agg s) t)/\kz d c e 1 λG=>((0:Int)<=4/\(4:
 Int)<=4/\(4:Int)<=gG/\((1:Nat):Int)*4<=140737488355328)/\aq (c.alloc (.cells (gF ae 5 (Int.toNat 4)) 5)) λi=>af d c i/\aq (i.alloc (.cells #[.slice (some (aa c)) (Int.toNat 4)
 (Int.toNat 4),.slice (bj b.a 1 0 b.cap) ((n33.toNat)-0) (b.cap-0)] 28)) λj=>af d i j/\eD 105 #[.agg s,.int .u8 G,.int .u8 code,.slice (some (aa i)) 2 2] j λH J u=>af d
 j u/\Q (.tuple #[H,J]) u)))))
def ao.xY:aB:=(.q (.q (.s (.q (.c .l .l)) (.q (.s (.bg (.q (.c .l (.s (.z [12,16]) (.c .l .l))))) (.q (.s (.c7 [(11,(.int .i64))] [0,2,4,8,10] (.q (.c .r .l))) (.q (.s (.d 17 true
 [0,1,0,3,0,0,6,1000000000090,0,9,0,0,0,1012011,1000000009856,15,15,517,518] [0,1,0,3,0,0,6,1000000000090,0,9,0,0,0,1012011,1000000009856,15,3014] [17052,2006]
 [9,53,11,55,5,9,58,405324966463344640,11,61,3,0,13,1064063,44387478927363608576,67,3066] (.z 11 0 (.t 12 (.bJ 11 (.bJ 13 (.bJ 14 (.t 15 (.t 16 (.tail [.r,.r]))))))))) .l)))))))))
def Z.o4(a:Array O)(bits:Int)(w:I)(Q:O->I->Prop):Prop:=aq (w.alloc (.cells a 24)) λw1=>aq (w1.alloc kA) λag=>∃c:Y O,aG ag (aa w) 0 17=some c/\eS 106
 #[.agg c.toArray,bits] ag λb e aC=>bE aC (aa w1) (Array.toList b)/\Array.size b=18/\aq (setCells aC (aa w1) 0 (Array.toList b)) λaJ=>∃d:Y O,aG aJ (aa w1) 0 18=some d/\Q (.tuple #[.agg
 d.toArray,e]) aJ
def ao.o4:aB:=(.q (.q .l))
theorem Z.J8(a:Array O)(bits:Int)(w:I)(Q:O->I->Prop)(h:Z.o4 a bits w Q):aA ae 58 #[.agg a,bits] w Q:=okF (λw Q=>Z.o4 a bits w Q) ao.o4 func58 h
def Z.xZ(b:ai)(w:I)(Q:O->I->Prop):Prop:=aq (w.alloc z4) λw1=>aV (λb1:Int->I->Prop=>ad ((b.len:Int)==0) (False) (bc b 0 λa3=>bS w1 (bn a3 0 1) λaX=>(0:Int)<=4/\ad
 (((Int.fdiv aX (2^(min (Int.toNat 4) 8))):Int)==4) (gU 94 #[b] w1 λc n8 aH=>bE aH (aa w) (Array.toList c)/\Array.size c=39/\aq (setCells aH (aa w) 0 (Array.toList c)) λj=>b1 n8
 j) (bc b 0 λdF=>bS w1 (bn dF 0 1) λn11=>(0:Int)<=4/\ad (((Int.fdiv n11 (2^(min (Int.toNat 4) 8))):Int)==6) (gU 99 #[b] w1 λd n15 aP=>bE aP (aa w) (Array.toList d)/\
 Array.size d=39/\aq (setCells aP (aa w) 0 (Array.toList d)) λk=>b1 n15 k) (False)))) (λ(n17:Int) bd=>aV (λf:Int->I->Prop=>aV (λg:ah->I->Prop=>ad (n17==0) (cT bd w 37 λl=>
 g l bd) (g false bd)) (λ(m:ah) b8=>ad m (f 13 b8) (f n17 b8))) (λ(n24:Int) e=>∃a:Y O,aG e (aa w) 0 39=some a/\bE e (aa w) (Array.toList a.toArray)/\Array.size
 a.toArray=39/\aq (setCells e (aa w) 0 (Array.toList a.toArray)) λh=>∃i:Y O,aG h (aa w) 0 39=some i/\Q (.tuple #[.agg i.toArray,n24]) h))
def ao.xZ:aB:=(.q (.s (.c7 [(3,(.int .i64))] [2] (.bg (.q (.c .l (.q (.c .r (.q (.c .r .l)))))))) (.s (.c7 [(3,(.int .i64))] [2] (.s (.z [9,7]) (.c .r .l))) (.q .l))))
def Z.qt(aj:ah)(w:I)(Q:O->I->Prop):Prop:=aq (w.alloc z9) λw1=>ad aj (b7 w1 (aa w) [.int .u8 58,.int .u8 1,.int .u8 128,.int .u8 129] 4 λag=>bS ag (aa w) λb=>cJ ag w 1 λaX=>cJ ag
 w 2 λn5=>cJ ag w 3 λn6=>Q (.agg #[.int .u8 b,.int .u8 aX,.int .u8 n5,.int .u8 n6]) ag) (b7 w1 (aa w) [.int .u8 1,.int .u8 3,.int .u8 8,.int .u8 0] 4 λa=>bS a (aa w) λn8=>cJ a w 1 λn9=>cJ a w 2 λn10
 =>cJ a w 3 λn11=>Q (.agg #[.int .u8 n8,.int .u8 n9,.int .u8 n10,.int .u8 n11]) a)
def ao.qt:aB:=a23
def Z.o5(parts:ai)(w:I)(Q:O->I->Prop):Prop:=fI 112 #[parts] w λa w1=>Q (.bool (a==0)) w1
def ao.o5:aB:=(.q (.q .l))
def Z.qu(h_2:Array O)(size:Int)(w:I)(Q:O->I->Prop):Prop:=aq (w.alloc (.cells h_2 65)) λw1=>bq w1 (aa w) λb=>ad b (∃a:Y O,aG w1 (aa w) 0 39=some a/\bl
 113 #[.agg a.toArray,size] w1 λcK aC=>Q cK aC) (Q () w1)
def ao.qu:aB:=a23
def Z.uM(p:Array O)(w:I)(Q:O->I->Prop):Prop:=aq (w.alloc (.cells p 30)) λw1=>∃cq:Y O,aG w1 (aa w) 0 18=some cq/\gT 114 #[.agg cq.toArray] w1 λa b
 =>Q (.bool (!(ByteArray.toList a==ByteArray.toList (ByteArray.mk #[])))) b
def ao.uM:aB:=(.q (.q .l))
theorem Z.J9(p:Array O)(w:I)(Q:O->I->Prop)(h:Z.uM p w Q):aA ae 66 #[.agg p] w Q:=okF (λw Q=>Z.uM p w Q) ao.uM func66 h
def Z.nU(n:Int)(w:I)(Q:O->I->Prop):Prop:=ad ((decide (n<16))||(decide (n>1600))) (Q (.tuple #[.pointer none,(1:Int)]) w) (((0:Int)<=n/\n<=n/\n<=gG/\((256:Nat):Int)*n<=
 140737488355328)/\aq (w.alloc (.cells (gF ae 276 (n.toNat)) 276)) λw1=>∃m2:aw Nat,∃a:I,Sem.run ae (Instr.makeMap 235 none) w1=.ok (.map m2) a/\∃eW:
 Array O,Sem.run ae (Instr.build 239 #[(1,.slice (some (aa w)) (n.toNat) (n.toNat)),(2,.map m2)]) a=.ok (.agg eW) a/\aq (a.alloc (.cells eW 239)) λaH=>xs a λc0=>dc
 117 #[.pointer (some c0)] aH λb=>Q (.tuple #[.pointer (some (aa a)),(0:Int)]) b)
def ao.nU:aB:=(.q (.s a5 a25))
def Z.mX(d:aw av)(m:Int)(n:Int)(o:Int)(w:I)(Q:O->I->Prop):Prop:=aq (w.alloc (.cells #[m,n,aZ o] 133)) λw1=>aY w1
 (aa w) λbB=>bh w1 w 1 λp=>dY w1 w 2 λaX=>br 118 #[d,.agg #[bB,p,aZ aX]] w1 λq aH=>ad (!q) (Q (.tuple #[.pointer none,(1:Int)]) aH) (bG 120 #[d]
 aH λn10 aJ=>gf 119 #[n10,(3:Int)] aJ λh n14 i=>ad (n14 !=0) (Q (.tuple #[.pointer none,n14]) i) (bl 122 #[h] i λr s=>eD 121 #[(2:Int),.agg #[(4:Int),aZ 1,r]] s λt n21 bd=>ad (n21 !=0) (Q (.tuple #[.pointer none,n21]) bd) (((0:Int)<=256/\(256:Int)<=256/\(256:Int)<=gG/\((1:Nat):Int)*256<=
 140737488355328)/\aq (bd.alloc (.cells (gF ae 5 (Int.toNat 256)) 5)) λbk=>∃j:Array O,Sem.run ae (Instr.build 249 #[(0,.slice (some (aa bd)) (Int.toNat 256) (Int.toNat 256)),(1,
 .slice (some (aa bd)) (Int.toNat 256) (Int.toNat 256)),(2,t)]) bk=.ok (.agg j) bk/\c3 0 bk λu k n26 f=>ad (decide (n26<3)) (((0:Int)<=n26/\n26<((3:Nat):Int))/\∃e:ai,cellAt
 j (n26.toNat*1)=some (.slice e.a e.len e.cap)/\bG 123 #[d,n26,e] f λn31 g=>ad (n31 !=0) (Q (.tuple #[.pointer none,n31]) g) (u (ak
 (n26+1)) g/\k (ak (n26+1)) g<k n26 f)) (bG 124 #[d] f λn34 b=>ad (n34 !=0) (Q (.tuple #[.pointer none,n34]) b) (aq (b.alloc uf) λv=>b7 v (aa b) [(0:Int),
 .int .i64 0,(2:Int),aZ 0,aZ 0,(0:Int)] 6 λcr=>aY cr (aa b) λn37=>bh cr b 1 λn38=>bh cr b 2 λn39=>dY cr b 3 λn40=>dY cr b 4 λn41=>bh cr b 5 λx=>bG 125
 #[d,.agg #[n37,n38,n39,aZ n40,aZ n41,x],aZ 1] cr λl c=>ad (l !=0) (Q (.tuple #[.pointer none,l]) c) (aY c (aa w) λy=>bh c w 1 λz=>dY
 c w 2 λA=>aY c (aa b) λB=>bh c b 1 λC=>bh c b 2 λD=>dY c b 3 λE=>dY c b 4 λF=>bh c b 5 λG=>gf 126 #[d,.agg #[y,z,
 aZ A],.agg #[B,C,D,aZ E,aZ F,G],aZ 1,h] c λH J K=>Q (.tuple #[H,J]) K))))))
def ao.mX:aB:=(.q (.s a1 (.q (.s a1 (.q (.s a1 (.q (.s (.q (.bg (.loop [(44,(.int .i64))] [0,3,6,43] (.q (.s (.c .l .l) (.s (.bg (.q (.q a1))) .r)))))) (.s (.q a1) (.q a27))))))))))
theorem Z.J_(d:aw av)(a:Int)(b:Int)(c:Int)(w:I)(Q:O->I->Prop)(h:Z.mX d a b c w Q):aA ae 72 #[d,.agg #[a,b,.int .u64 c]] w Q:=okF (λw Q=>Z.mX d a b c w Q) ao.mX func72 h
def Z.qv(w:I)(Q:O->I->Prop):Prop:=∃m1:aw Nat,∃ag:I,Sem.run ae (Instr.makeMap 255 none) w=.ok (.map m1) ag/\∃a:aw Nat,∃aC:I,Sem.run ae
 (Instr.makeMap 256 none) ag=.ok (.map a) aC/\aq (aC.alloc (.cells #[.map m1,.map a] 258)) λaH=>Q (.pointer (some (aa aC))) aH
def ao.qv:aB:=(.q (.q .l))
theorem Z.Ka(w:I)(Q:O->I->Prop)(h:Z.qv w Q):aA ae 73 #[] w Q:=okF (λw Q=>Z.qv w Q) ao.qv func73 h
def Z.x0(b:aw av)(s:aw av)(w:I)(Q:O->I->Prop):Prop:=pt b λa1=>aY w ((a1.add 4).add 2) λbB=>gf 127 #[s,bB] w λc n6 d=>ad (n6 !=0) (Q n6 d) (bx d λa e=>pt b λa9=>mi e a (a9.add 4) λn10=>aY a ((a9.add 4).add 1) λn11=>aY a ((a9.add 4).add 2) λn12=>aY a ((a9.add 4).add 3) λn13=>aY a ((a9.add 4).add 4) λn14=>aY a ((a9.add
 4).add 5) λn15=>pt b λgp=>¬e (gp.add 10).block/\∃f:aw av,a.cell? (gp.add 10)=some (f)/\gf 128 #[.agg #[aZ n10,n11,n12,n13,n14,n15],
 f,c] a λg n21 bd=>ad (n21 !=0) (Q n21 bd) (pt b λa22=>st bd (a22.add 11) (c) λb8=>pt b λa24=>st b8 (a24.add 12) (g) λh=>Q (0:Int) h))
def ao.x0:aB:=(.q (.q (.s a1 (.s (.d 14 true [0,3000,0,3004,0,1008007003,2009,11,512,514] [0,3000,0,3004,0,1008007003,2009,3010] [10022,22,2032,8,7] [1,3022,1,3026,6,1030029025,32,22,22,2032] (.z 9 0 (.out 9 false (.z 4 10
 .e)))) (.s a1 (.q (.q .l)))))))
def Z.uN(f:aw av)(s:Array O)(w:I)(Q:O->I->Prop):Prop:=aq (w.alloc (.cells s 85)) λw1=>aV (λb1:ah->I->Prop=>ad (Option.isNone f) (b1 true w1) (∃i:
 Y O,aG w1 (aa w) 0 23=some i/\br 129 #[.agg i.toArray] w1 λD aC=>b1 (!D) aC)) (λ(E:ah) aJ=>ad E (Q (1:Int) aJ) (bx aJ λe j=>pt f λe1=>¬j e1.block/\∃k:aw Nat,
 e.cell? e1=some (.map k)/\¬j ((aa w):av).block/\aY e (aa w) λn13=>∃F:aw av,∃l:ah,∃m:I,Sem.run ae (Instr.lookup 255 (.map k) n13 true) e=.ok
 (.tuple #[F,l]) m/\bx m λc d=>pt f λmj=>¬d (mj.add 1).block/\∃n:aw Nat,c.cell? (mj.add 1)=some (.map n)/\¬d ((aa w):av).block/\∃o:Y O,aG c (aa w) 0
 23=some o/\hJ 130 #[.agg o.toArray] c λG bk=>af d c bk/\∃n25:Int,∃p:ah,∃b:I,Sem.run ae (Instr.lookup 256 (.map n) (.agg G) true) bk=.ok (.tuple #[n25,p]) b/\af d bk b/\ad (l||p) (Q (7:Int) b) (pt f λa28=>∃q:aw Nat,b.cell? a28=some (.map q)/\∃n30:Int,∃cN:I,Sem.run ae (Builtin.len_ #[255]
 3 #[.map q]) b=.ok n30 cN/\ad (decide (n30>=8)) (Q (2:Int) cN) (st cN ((aa w).add 22) () λH=>bx H λb5 a=>pt f λr=>¬a r.block/\∃g:aw Nat,b5.cell?
 r=some (.map g)/\¬a ((aa w):av).block/\aY b5 (aa w) λn37=>pt f λt=>¬a (t.add 1).block/\∃h:aw Nat,b5.cell? (t.add 1)=some (.map h)/\¬a ((aa w):av).block/\∃u:Y O,aG
 b5 (aa w) 0 23=some u/\¬a ((aa w):av).block/\aY b5 (aa w) λn41=>hJ 130 #[.agg u.toArray] b5 λJ v=>af a b5 v/\∃ (K:O) (x:Int) (y:I),Sem.run ae (Instr.mapEntry
 255 (.map g) n37) v=.ok (.tuple #[K,x]) y/\∃z:I,Sem.run ae (Instr.entryStore 255 (.map g) x (.pointer (some (aa w)))) y=.ok
 () z/\∃ (L:O) (A:Int) (B:I),Sem.run ae (Instr.mapEntry 256 (.map h) (.agg J)) z=.ok (.tuple #[L,A]) B/\∃C:I,Sem.run ae (Instr.entryStore
 256 (.map h) A n41) B=.ok () C/\Q (0:Int) C))))
def ao.uN:aB:=(.q (.s a9 (.s (.d 11 true [0,3000,0,5,1005003,2006,8,509,511] [0,3000,0,5,1005003,2006,3007] [7017,17,2024,2005] [1,3017,4,22,1022020,24,17,17,2024] (.z 6 0 (.out 6 false (.z 4 7 .e)))) (.s (.d 11 true
 [0,3000,0,5,1005003,2006,8,509,511] [0,3000,0,5,1005003,2006,3007] [7027,27,2034,2007] [1,3027,4,32,1032030,34,27,27,2034] (.z 5 0 (.bJ 5 (.bJ 6 (.z 4 7 .e))))) (.s (.bg (.s (.z [6,5]) (.c (.q .l) a1))) (.q (.s (.d 14 true
 [0,3000,0,5,0,3006,0,11,0,13,1000000011816,15,1000000060991,1000000126527,18,519] [0,3000,0,5,0,3006,0,11,0,13,1005003,15,1015003,1011009,18,1018013009] [16049,0,2065,0]
 [1,3049,4,54,1,3055,4,60,4,62,1054052,64,1064052003,1060058,66,1066062058] (.z 11 0 (.t 12 (.t 13 (.bJ 11 (.tail [.r,.r,.r,.r,.r,.r])))))) (.q .l))))))))
theorem Z.Kb(f:aw av)(s:Array O)(w:I)(Q:O->I->Prop)(h:Z.uN f s w Q):aA ae 75 #[f,.agg s] w Q:=okF (λw Q=>Z.uN f s w Q) ao.uN func75 h
def Z.uO(f:aw av)(F:Int)(b:Array O)(w:I)(Q:O->I->Prop):Prop:=aq (w.alloc (.cells b 87)) λw1=>ad (Option.isNone f) (Q (1:Int) w1) (pt f λa2=>∃o:
 aw Nat,w1.cell? a2=some (.map o)/\∃a:aw av,∃p:ah,∃e:I,Sem.run ae (Instr.lookup 255 (.map o) F true) w1=.ok (.tuple #[a,p]) e/\ad (!p) (Q
 (6:Int) e) (aY e (aa w) λn7=>hG 131 #[a,n7] e λn10 G aJ=>aV (λj:ah->I->Prop=>bx aJ λq H=>¬H ((aa w):av).block/\aY q (aa w) λn15=>br 132 #[n15] q λJ c=>∃g:Nat->Prop,ad (!J) (aV (λr:ah->I->Prop=>ad true (r true c) (ef c w 18 λn21=>r (n21==0) c)) (λ(K:ah) b8=>aV (λs:ah->I->Prop=>ad K (s
 true b8) (bh b8 w 19 λn25=>br 133 #[n25] b8 λL M=>s (!L) M)) (λ(N:ah) k=>aV (λt:ah->I->Prop=>ad N (t true k) (cT k w 20 λP=>t P k)) (λ(R:
 ah) S=>j R S)))) (¬g ((aa w).add 1).block/\∃u:Y O,aG c ((aa w).add 1) 0 17=some u/\br 104 #[.agg u.toArray] c λT cr=>af g c cr/\ad (!T) (aV (λv:ah->
 I->Prop=>ad true (v true cr) (ef cr w 18 λn40=>v (n40==0) cr)) (λ(U:ah) l=>aV (λx:ah->I->Prop=>ad U (x true l) (bh l w 19 λV=>br 133 #[V] l λW
 X=>x (!W) X)) (λ(ab:ah) m=>aV (λy:ah->I->Prop=>ad ab (y true m) (cT m w 20 λac=>y ac m)) (λ(ag:ah) aj=>j ag aj)))) (EV g cr w 1 λak=>pt a λal=>BC g
 cr (al.add 1) λam=>aV (λz:ah->I->Prop=>ad (!(ak==am)) (z true cr) (ef cr w 18 λan=>z (an==0) cr)) (λ(ao:ah) j_=>aV (λA:ah->I->Prop=>ad ao (A true j_) (bh j_ w
 19 λap=>br 133 #[ap] j_ λar au=>A (!ar) au)) (λ(ax:ah) n=>aV (λB:ah->I->Prop=>ad ax (B true n) (cT n w 20 λay=>B ay n)) (λ(az:ah) aA=>j az
 aA)))))) (λ(aB:ah) d=>ad aB (Q (1:Int) d) (ad G (Q (7:Int) d) (pt a λaC=>a_ d (aC.add 22) λaD=>ad (decide ((aD.len:Int)>=16)) (Q (2:Int) d) (bx d λec h=>pt a λaE=>
 fk h ec (aE.add 22) λaF=>¬h ((aa w):av).block/\∃C:Y O,aG ec (aa w) 0 21=some C/\∃D:ai,∃i:I,Sem.run ae (Instr.buildSlice 83 1 #[(0,.agg C.toArray)]) ec=
 .ok D i/\af h ec i/\bl 134 #[aF,n10,D] i λaH E=>af h i E/\pt a λaI=>st
 E (aI.add 22) aH λaK=>Q (0:Int) aK))))))
def ao.uO:aB:=(.q (.s a1 (.q (.s a1 (.q (.s (.bg (.s (.c7 [(31,.bool)] [5,7,9,10] (.d 19 true
 [0,3000,1003002,5,1005004,1006004,1007004,1008004,1009007,11,1011010,1012010,11,1014010,1015010,1016010,1017010,1018013010,1019010,1020010,22,1022021,1023021,1024021,1025021,27,1027026,1028026,1029026,1030026,1031029,33,1033032,1034032,1035032]
 [0,5000,1005004,1006004,1007004,1008004,2009,1011010,1012010,11,1014010,1015010,1016010,1017010,1018013010,1019010,2020,1022021,1023021,1024021,2025,1027026,1028026,1029026,1030026,2031,1033032,1034032,36] [36032,32]
 [6,4032,1036005,1037036,1038036,1039036,1040036,42,1042005,1043042,1044042,1042007,1046042,1047042,1048042,1049042,1050045042,1051042,53,1053005,1054053,1055053,1056053,58,1058005,1059058,1060058,1061058,1062058,64,1064005,1065064,1066064,68]
 (.t 0 (.t 1 (.out 2 true (.t 3 (.t 4 (.sp 36 (.z 14 5 (.tail [.r,.r,.r,.split 3,.r,.r,.r,.r,.split 4,.r,.r,.r,.r,.r,.split 2,.r,.r,.r])) (.t 5 (.t 6 (.bJ 7 (.z 3 8 (.sp 42 (.z 8 11 (.tail [.r,.r,.r,.split 3,.r,.r,.r,
 .r,.split 4,.r,.r,.r,.r,.r,.split 2,.r,.r,.r])) (.z 8 11 (.tail [.r,.r,.r,.split 3,.r,.r,.r,.r,.split 4,.r,.r,.r,.r,.r,.split 2,.r,.r,.r]))))))))))))))) (.c (.q .l) a26))) (.s (.d 9 true
 [0,0,3001,0,0,7,1007005004,509,510,1000000001535] [0,0,3001,0,0,7,1007005004,1,10,1010008] [11077,0] [8,8,3078,10,6,84,1084082081,78,87,1087085] (.z 7 0 (.bJ 7 (.bJ 8 (.tail [.r,.r,.r]))))) (.q .l))))))))
theorem Z.Kc(f:aw av)(a:Int)(b:Array O)(w:I)(Q:O->I->Prop)(h:Z.uO f a b w Q):aA ae 76 #[f,a,.agg b] w Q:=okF (λw Q=>Z.uO f a b w Q) ao.uO func76 h
end Go.Proofs.YtkpjknbogcihmaaGreatDoor
