/- Printed by gen.py: functions of the program, each as what must be shown of it. -/
import Derived.Test.YtkdhdlfonmgheaaGreatProg
import Derived.Test.YtkdhdlfonmgheaaGreatKAPlays2
namespace aS
abbrev aP.s:=aP.seq
abbrev aP.l:=aP.leaf
abbrev aP.c:=aP.cond
abbrev aP.r:=aP.cY []
abbrev aQ.t:=aQ.take
abbrev lr.r:=lr.run
end aS
namespace Go.Proofs.YtkdhdlfonmgheaaGreat
noncomputable abbrev ai:=Tryz.prog
open Go aS Go.Proofs.Tryz
namespace F
end F
namespace FT
end FT
namespace G
end G
abbrev aU:ec:=.one (.one .fn)
abbrev e8:ec:=.one (.one .agg)
abbrev gz:ec:=.one (.one .ptr)
abbrev jG:ec:=.one (.one .slice)
abbrev oT:ec:=.fm [(.one .ptr),(.one (.int .i64))]
abbrev qn:ec:=.fm [(.one .slice),(.one (.int .i64))]
abbrev uL:ec:=.one (.one (.int .i64))
abbrev uM:ec:=.one (.one (.int .u8))
abbrev uN:ec:=.one (.one (.int .u64))
abbrev uO:ec:=.one (.flat [.slice,.slice])
abbrev uP:ec:=.one (.flat [.ptr,.slice,(.int .i64)])
abbrev uQ:ec:=.one (.flat [.slice,(.int .i64)])
def FU:O ec:=[(.fm []),aU,uL,uL,(.one (.one .bool)),uM,uM,(.one (.flat [(.int .i64),(.int .i64),.bool,(.int .u8)])),(.one (.flat [(.int .i64),(.int .i64),.bool,(.int .u8)])),(.one (.one .str)),(.one (.one .str)),(.one (.one .str)),uN,(.one (.flat [.str,(.int .u64)])),(.one (.flat [.str,(.int .u64)])),gz,gz,gz,(.one (.flat [.ptr])),(.one (.flat [.ptr])),(.one (.one .any)),(.one (.one (.int .i32))),e8,e8,e8,e8,e8,uN,e8,e8,gz,gz,(.fm [(.one .ptr),(.one .ptr),(.one .bool)]),aU,uL,aU,aU,aU,aU,jG,oT,aU,gz,oT,aU,(.one (.flat [(.int .i64),(.int .i64),(.int .u64)])),(.one (.flat [(.int .i64),(.int .i64),(.int .u64)])),aU,jG,(.one (.flat [(.int .i64),.slice,.slice,(.int .i64)])),(.one (.flat [(.int .i64),.slice,.slice,(.int .i64)])),aU,(.fm [(.one .bool),(.one (.int .i64))]),aU,aU,aU,aU,aU,jG,e8,e8,(.fm [(.one .agg),(.one .bool),(.one (.int .i64))]),aU,aU,(.fm [(.one (.int .i64)),(.one (.int .i64))]),aU,(.fm [(.one .slice),(.one (.int .i64)),(.one (.int .i64))]),aU,jG,qn,aU,aU,oT,aU,aU,jG,gz,(.one (.flat [(.int .i64),.slice])),(.one (.flat [(.int .i64),.slice])),aU,aU,aU,jG,(.one (.flat [(.int .i64),(.int .i64),(.int .u8)])),(.one (.flat [(.int .i64),(.int .i64),(.int .u8)])),gz,jG,(.one (.flat [.slice])),(.one (.flat [.slice])),e8,e8,(.one (.flat [(.int .i64),(.int .i64),(.int .i64),.slice,.slice,.slice])),(.one (.flat [(.int .i64),(.int .i64),(.int .i64),.slice,.slice,.slice])),aU,aU,aU,qn,aU,aU,aU,aU,uN,aU,(.one (.flat [(.int .i64),(.int .i64),(.int .i64),(.int .u64),(.int .u64),(.int .i64)])),(.one (.flat [(.int .i64),(.int .i64),(.int .i64),(.int .u64),(.int .u64),(.int .i64)])),aU,(.fm [(.one .bool),(.one .agg)]),aU,aU,aU,aU,aU,aU,aU,(.fm [(.one .slice),(.one .bool),(.one (.int .i64))]),aU,aU,aU,aU,e8,e8,e8,e8,(.fm [(.one .agg),(.one (.int .i64))]),aU,aU,aU,jG,aU,aU,(.fm [(.one .slice),(.one .bool)]),aU,aU,(.one (.flat [.ptr,(.int .i64)])),(.one (.flat [.ptr,(.int .i64)])),aU,jG,(.one (.one .map)),e8,e8,e8,e8,aU,gz,oT,aU,qn,aU,aU,(.one (.flat [(.int .i64),(.int .u64),.slice])),(.one (.flat [(.int .i64),(.int .u64),.slice])),e8,aU,aU,aU,gz,gz,e8,e8,aU,aU,(.fm [(.one .agg),(.one .bool)]),aU,aU,aU,aU,uO,uO,aU,aU,aU,qn,aU,aU,aU,(.fm [(.one (.int .i64)),(.one .bool)]),aU,aU,aU,aU,aU,e8,e8,(.fm [(.flat [(.int .i64),(.int .i64),(.int .i64),(.int .u64),(.int .u64),(.int .i64)]),(.one (.int .u64)),(.one (.int .i64))]),aU,aU,aU,gz,aU,gz,(.one (.one .map)),e8,e8,aU,(.fm [(.flat [(.int .i64),(.int .i64),(.int .i64),(.int .u64),(.int .u64),(.int .i64)]),(.one (.int .u64)),(.one (.int .i64))]),aU,aU,aU,aU,(.fm [(.flat [(.int .i64),(.int .u64),.slice]),(.one (.int .i64))]),aU,(.one (.flat [.bool,.slice,.slice,.slice])),(.one (.flat [.bool,.slice,.slice,.slice])),(.fm [(.flat [.bool,.slice,.slice,.slice]),(.one .bool)]),aU,gz,aU,jG,uO,uO,(.fm [(.one .agg),(.one .bool)]),aU,aU,aU,gz,jG,aU,(.one (.flat [(.int .i64),.slice,.slice])),(.one (.flat [(.int .i64),.slice,.slice])),(.one (.one (.int .u32))),aU,aU,aU,aU,oT,aU,oT,aU,jG,qn,aU,e8,e8,aU,(.fm [(.one (.int .i64)),(.one (.int .i64))]),aU,aU,aU,(.one (.flat [.ptr,.ptr,(.int .u64),(.int .i64),(.int .i64)])),(.one (.flat [.ptr,.ptr,(.int .u64),(.int .i64),(.int .i64)])),aU,(.fm [(.one .slice),(.one (.int .i64)),(.one (.int .i64))]),aU,aU,(.fm [(.one (.int .u64)),(.one .bool)]),aU,(.fm [(.one .agg),(.one .bool)]),aU,aU,(.fm [(.one .slice),(.one .slice)]),aU,aU,aU,aU,aU,aU,aU,(.fm [(.flat [(.int .i64),(.int .i64),(.int .i64),(.int .u64),(.int .u64),(.int .i64)]),(.one (.int .i64)),(.one (.int .u64)),(.one (.int .i64))]),aU,aU,aU,aU,aU,aU,aU,aU,(.one (.flat [(.int .i64),(.int .i64)])),(.one (.flat [(.int .i64),(.int .i64)])),jG,aU,aU,aU,aU,aU,aU,aU,aU,aU,aU,jG,uP,uP,(.fm [(.flat [.bool,.slice,.slice,.slice]),(.one (.int .i64))]),aU,aU,aU,aU,(.one (.flat [.bool,.bool,.bool,(.int .i64),(.int .i64),.slice])),(.one (.flat [.bool,.bool,.bool,(.int .i64),(.int .i64),.slice])),gz,aU,aU,aU,aU,aU,gz,(.one (.flat [.ptr,.slice,.slice])),(.one (.flat [.ptr,.slice,.slice])),(.fm [(.one (.int .i64)),(.one (.int .i64)),(.one (.int .i64))]),aU,aU,gz,uP,uP,aU,aU,aU,aU,oT,aU,aU,aU,aU,aU,gz,uQ,uQ,aU,aU,aU,aU,aU,aU,aU,aU,gz,jG,(.fm [(.one .slice),(.one (.int .i64)),(.one (.int .i64)),(.one (.int .i64))]),aU,aU,aU,qn,aU,uQ,uQ,aU,aU,aU,aU,uL,(.fm [(.one (.int .i64)),(.one (.int .i64))]),aU,aU,aU,aU,aU,aU,aU,aU,aU,aU,aU,gz,(.one (.flat [.slice,.bool])),(.one (.flat [.slice,.bool])),aU,aU,e8,aU,aU,aU,aU,aU,aU,uN,aU,aU,gz,aU,aU,aU,gz,aU,(.fm [(.flat [.bool,.slice,.slice,.slice]),(.one .slice),(.flat [.bool,.slice,.slice,.slice]),(.one .bool)]),aU,aU,aU,(.one (.flat [.ptr,.ptr,.ptr,.str])),(.one (.flat [.ptr,.ptr,.ptr,.str])),e8,e8,e8,uM,uM,aU,gz,(.one (.one (.int .i32))),(.one (.one (.int .i32))),e8,e8,gz]
def tk:TypeId->ec:=λt=>FU.getD t (.one (.one .any))
theorem yq:Tryz.prog.follows .mixedOrders=true:=by kernel_rfl
def aa(w:J):ag:=w.heap.size
def ar(n:Int):Int:=IntKind.wrap .i64 n
def aM(n:Int)(k:Nat):Prop:=(0:Int)<=n/\n<(k:Int)
def an(c:al)(A B:Prop):Prop:=(c=true->A)/\(c=false->B)
def kV:Int:=9223372036854775807
def st(w:J)(A:ag)(v:Y)(K:J->Prop):Prop:=(∃u:Y,w.cell? A=some u)/\w.frozen? A=false/\ak (w.setCell A v) λw1=>K w1
def l1(w:J)(z:Obj)(l:O Y)(k:Nat)(K:J->Prop):Prop:=ak (w.alloc z) λw1=>bk w1 (aa w) (Array.toList l.toArray)/\Array.size l.toArray=k/\ak (setCells w1 (aa w) 0 (Array.toList l.toArray)) λaj=>K aj
def jH(s:ad)(n:Int)(w:J)(k:Nat)(K:O Y->Prop):Prop:=∃a:ag,s.a=some a/\aM n s.len/\∃l:O Y,a8 w (a.add (n.toNat*k)) 0 k=some l/\K l
def gT(f:Nat)(a:Array Y)(w:J)(K:J->Prop):Prop:=Calls ai f a w λe w'=>e=.returned (.tuple #[])/\K w'
def bS(f:Nat)(a:Array Y)(w:J)(K:Int->J->Prop):Prop:=Calls ai f a w λe w'=>∃bU:Int,e=.returned bU/\K bU w'
def b8(f:Nat)(a:Array Y)(w:J)(K:al->J->Prop):Prop:=Calls ai f a w λe w'=>∃bU:al,e=.returned bU/\K bU w'
def hL(f:Nat)(a:Array Y)(w:J)(K:ad->al->J->Prop):Prop:=Calls ai f a w λe w'=>∃bU:ad,∃b:al,e=.returned (.tuple #[bU,b])/\K bU b w'
def l2(f:Nat)(a:Array Y)(w:J)(K:ad->al->Int->J->Prop):Prop:=Calls ai f a w λe w'=>∃bU:ad,∃b:al,∃c:Int,e=.returned (.tuple #[bU,b,c])/\K bU b c w'
def jI(f:Nat)(a:Array Y)(w:J)(K:av ag->J->Prop):Prop:=Calls ai f a w λe w'=>∃bU:av ag,e=.returned (bU)/\K bU w'
def jn(f:Nat)(a:Array Y)(w:J)(K:av ag->Int->J->Prop):Prop:=Calls ai f a w λe w'=>∃bU:av ag,∃b:Int,e=.returned (.tuple #[bU,b])/\K bU b w'
def bK(f:Nat)(a:Array Y)(w:J)(K:ad->J->Prop):Prop:=Calls ai f a w λe w'=>∃bU:ad,e=.returned bU/\K bU w'
def ed(f:Nat)(a:Array Y)(w:J)(K:ad->Int->J->Prop):Prop:=Calls ai f a w λe w'=>∃bU:ad,∃b:Int,e=.returned (.tuple #[bU,b])/\K bU b w'
def kr(f:Nat)(a:Array Y)(w:J)(K:al->Int->J->Prop):Prop:=Calls ai f a w λe w'=>∃bU:al,∃b:Int,e=.returned (.tuple #[bU,b])/\K bU b w'
def hM(f:Nat)(a:Array Y)(w:J)(K:Array Y->al->J->Prop):Prop:=Calls ai f a w λe w'=>∃bU:Array Y,∃b:al,e=.returned (.tuple #[.agg bU,b])/\K bU b w'
def g4(f:Nat)(a:Array Y)(w:J)(K:Int->Int->J->Prop):Prop:=Calls ai f a w λe w'=>∃bU:Int,∃b:Int,e=.returned (.tuple #[bU,b])/\K bU b w'
def nD(f:Nat)(a:Array Y)(w:J)(K:Int->J->Prop):Prop:=Calls ai f a w λe w'=>∃bU:Int,e=.returned (.int .u32 bU)/\K bU w'
def lC(f:Nat)(a:Array Y)(w:J)(K:Array Y->J->Prop):Prop:=Calls ai f a w λe w'=>∃bU:Array Y,e=.returned (.agg bU)/\K bU w'
def kW(f:Nat)(a:Array Y)(w:J)(K:Int->al->J->Prop):Prop:=Calls ai f a w λe w'=>∃bU:Int,∃b:al,e=.returned (.tuple #[bU,b])/\K bU b w'
def nE(f:Nat)(a:Array Y)(w:J)(K:al->ad->ad->ad->al->J->Prop):Prop:=Calls ai f a w λe w'=>∃bU:al,∃b:ad,∃c:ad,∃d:ad,∃g:al,e=.returned (.tuple #[.agg #[bU,b,c,d],g])/\K bU b c d g w'
def nF(f:Nat)(a:Array Y)(w:J)(K:Int->al->J->Prop):Prop:=Calls ai f a w λe w'=>∃bU:Int,∃b:al,e=.returned (.tuple #[.int .u64 bU,b])/\K bU b w'
def BL(f:Nat)(a:Array Y)(w:J)(K:ad->ad->J->Prop):Prop:=Calls ai f a w λe w'=>∃bU:ad,∃b:ad,e=.returned (.tuple #[bU,b])/\K bU b w'
def lD(f:Nat)(a:Array Y)(w:J)(K:al->ad->ad->ad->Int->J->Prop):Prop:=Calls ai f a w λe w'=>∃bU:al,∃b:ad,∃c:ad,∃d:ad,∃g:Int,e=.returned (.tuple #[.agg #[bU,b,c,d],g])/\K bU b c d g w'
def gK(f:Nat)(a:Array Y)(w:J)(K:al->ad->ad->ad->J->Prop):Prop:=Calls ai f a w λe w'=>∃bU:al,∃b:ad,∃c:ad,∃d:ad,e=.returned (.agg #[bU,b,c,d])/\K bU b c d w'
def qo(f:Nat)(a:Array Y)(w:J)(K:Int->Int->Int->J->Prop):Prop:=Calls ai f a w λe w'=>∃bU:Int,∃b:Int,∃c:Int,e=.returned (.tuple #[bU,b,c])/\K bU b c w'
def ss(f:Nat)(a:Array Y)(w:J)(K:Int->J->Prop):Prop:=Calls ai f a w λe w'=>∃bU:Int,e=.returned (.int .u64 bU)/\K bU w'
def BM(f:Nat)(a:Array Y)(w:J)(K:Int->Int->ad->Int->J->Prop):Prop:=Calls ai f a w λe w'=>∃bU:Int,∃b:Int,∃c:ad,∃d:Int,e=.returned (.tuple #[.agg #[bU,.int .u64 b,c],d])/\K bU b c d w'
def yr(f:Nat)(a:Array Y)(w:J)(K:ad->Int->Int->Int->J->Prop):Prop:=Calls ai f a w λe w'=>∃bU:ad,∃b:Int,∃c:Int,∃d:Int,e=.returned (.tuple #[bU,b,c,d])/\K bU b c d w'
def BN(f:Nat)(a:Array Y)(w:J)(K:al->ad->ad->ad->ad->al->ad->ad->ad->al->J->Prop):Prop:=Calls ai f a w λe w'=>∃bU:al,∃b:ad,∃c:ad,∃d:ad,∃g:ad,∃h:al,∃i:ad,∃j:ad,∃k:ad,∃l:al,e=.returned (.tuple #[.agg #[bU,b,c,d],g,.agg #[h,i,j,k],l])/\K bU b c d g h i j k l w'
def uR(f:Nat)(a:Array Y)(w:J)(K:av ag->av ag->al->J->Prop):Prop:=Calls ai f a w λe w'=>∃bU:av ag,∃b:av ag,∃c:al,e=.returned (.tuple #[bU,b,c])/\K bU b c w'
def BO(f:Nat)(a:Array Y)(w:J)(K:Int->Int->Int->J->Prop):Prop:=Calls ai f a w λe w'=>∃bU:Int,∃b:Int,∃c:Int,e=.returned (.agg #[bU,b,.int .u64 c])/\K bU b c w'
def qp(f:Nat)(a:Array Y)(w:J)(K:Array Y->al->Int->J->Prop):Prop:=Calls ai f a w λe w'=>∃bU:Array Y,∃b:al,∃c:Int,e=.returned (.tuple #[.agg bU,b,c])/\K bU b c w'
def BP(f:Nat)(a:Array Y)(w:J)(K:ad->Int->Int->J->Prop):Prop:=Calls ai f a w λe w'=>∃bU:ad,∃b:Int,∃c:Int,e=.returned (.tuple #[bU,b,c])/\K bU b c w'
def r1(w:J)(A:ag)(K:ad->Prop):Prop:=∃x:ad,w.cell? A=some (.slice x.a x.len x.cap)/\K x
def aF(w:J)(A:ag)(K:Int->Prop):Prop:=∃x:Int,w.cell? A=some (.int .i64 x)/\K x
def b5(w:J)(A:ag)(K:Int->Prop):Prop:=∃x:Int,w.cell? A=some (.int .u64 x)/\K x
def aY(w:J)(A:ag)(K:al->Prop):Prop:=∃x:al,w.cell? A=some (.bool x)/\K x
def dF(w:J)(A:ag)(K:Int->Prop):Prop:=∃x:Int,w.cell? A=some (.int .u8 x)/\K x
def kt:Obj:=.cells #[(0:Int),(0:Int),(0:Int),.int .u64 0,.int .u64 0,(0:Int)] 104
def fc:Obj:=.cells #[(0:Int),false,.int .u8 0,.int .u8 0,.int .u8 0,.int .u8 0,.int .u8 0,.int .u8 0,.int .u8 0,.int .u8 0,.int .u8 0,.int .u8 0,.int .u8 0,.int .u8 0,.int .u8 0,.int .u8 0,.int .u8 0,.int .u8 0,(0:Int),(0:Int),.int .u64 0] 29
def z3:Obj:=.cells #[.int .u8 0] 5
def z4:Obj:=.cells #[(),()] 167
def z5:Obj:=.cells #[false,.int .u8 0,.int .u8 0,.int .u8 0,.int .u8 0,.int .u8 0,.int .u8 0,.int .u8 0,.int .u8 0,.int .u8 0,.int .u8 0,.int .u8 0,.int .u8 0,.int .u8 0,.int .u8 0,.int .u8 0,.int .u8 0,(0:Int)] 26
def cU:Obj:=.cells #[false,(),(),()] 202
def l3:Obj:=.cells #[false,.int .u8 0,.int .u8 0,.int .u8 0,.int .u8 0,.int .u8 0,.int .u8 0,.int .u8 0,.int .u8 0,.int .u8 0,.int .u8 0,.int .u8 0,.int .u8 0,.int .u8 0,.int .u8 0,.int .u8 0,.int .u8 0] 24
def uS:Obj:=.cells #[.int .u8 0,.int .u8 0,.int .u8 0,.int .u8 0,.int .u8 0,.int .u8 0,.int .u8 0,.int .u8 0,.int .u8 0,.int .u8 0,.int .u8 0,.int .u8 0,.int .u8 0,.int .u8 0,.int .u8 0,.int .u8 0,.int .u8 0,.int .u8 0,.int .u8 0,.int .u8 0,.int .u8 0,.int .u8 0,.int .u8 0,.int .u8 0,.int .u8 0,.int .u8 0,.int .u8 0,.int .u8 0,.int .u8 0,.int .u8 0,.int .u8 0,.int .u8 0,.int .u8 0,.int .u8 0,.int .u8 0,.int .u8 0,.int .u8 0,.int .u8 0,.int .u8 0,.int .u8 0,.int .u8 0,.int .u8 0,.int .u8 0,.int .u8 0,.int .u8 0,.int .u8 0,.int .u8 0,.int .u8 0,.int .u8 0,.int .u8 0,.int .u8 0,.int .u8 0,.int .u8 0,.int .u8 0,.int .u8 0,.int .u8 0,.int .u8 0,.int .u8 0,.int .u8 0,.int .u8 0,.int .u8 0,.int .u8 0,.int .u8 0,.int .u8 0,.int .u8 0,.int .u8 0,.int .u8 0,.int .u8 0,.int .u8 0,.int .u8 0,.int .u8 0,.int .u8 0,.int .u8 0,.int .u8 0,.int .u8 0,.int .u8 0,.int .u8 0,.int .u8 0,.int .u8 0,.int .u8 0,.int .u8 0,.int .u8 0,.int .u8 0,.int .u8 0,.int .u8 0,.int .u8 0,.int .u8 0,.int .u8 0,.int .u8 0,.int .u8 0,.int .u8 0,.int .u8 0,.int .u8 0,.int .u8 0,.int .u8 0,.int .u8 0,.int .u8 0,.int .u8 0,.int .u8 0,.int .u8 0,.int .u8 0,.int .u8 0,.int .u8 0,.int .u8 0,.int .u8 0,.int .u8 0,.int .u8 0,.int .u8 0,.int .u8 0,.int .u8 0,.int .u8 0,.int .u8 0,.int .u8 0,.int .u8 0,.int .u8 0,.int .u8 0,.int .u8 0,.int .u8 0,.int .u8 0,.int .u8 0,.int .u8 0,.int .u8 0,.int .u8 0,.int .u8 0,.int .u8 0,.int .u8 0,.int .u8 0,.int .u8 0,.int .u8 0,.int .u8 0,.int .u8 0,.int .u8 0,.int .u8 0,.int .u8 0,.int .u8 0,.int .u8 0,.int .u8 0,.int .u8 0,.int .u8 0,.int .u8 0,.int .u8 0,.int .u8 0,.int .u8 0,.int .u8 0,.int .u8 0,.int .u8 0,.int .u8 0,.int .u8 0,.int .u8 0,.int .u8 0,.int .u8 0,.int .u8 0,.int .u8 0,.int .u8 0,.int .u8 0,.int .u8 0,.int .u8 0,.int .u8 0,.int .u8 0,.int .u8 0,.int .u8 0,.int .u8 0,.int .u8 0,.int .u8 0,.int .u8 0,.int .u8 0,.int .u8 0,.int .u8 0,.int .u8 0,.int .u8 0,.int .u8 0,.int .u8 0,.int .u8 0,.int .u8 0,.int .u8 0,.int .u8 0,.int .u8 0,.int .u8 0,.int .u8 0,.int .u8 0,.int .u8 0,.int .u8 0,.int .u8 0,.int .u8 0,.int .u8 0,.int .u8 0,.int .u8 0,.int .u8 0,.int .u8 0,.int .u8 0,.int .u8 0,.int .u8 0,.int .u8 0,.int .u8 0,.int .u8 0,.int .u8 0,.int .u8 0,.int .u8 0,.int .u8 0,.int .u8 0,.int .u8 0,.int .u8 0,.int .u8 0,.int .u8 0,.int .u8 0,.int .u8 0,.int .u8 0,.int .u8 0,.int .u8 0,.int .u8 0,.int .u8 0,.int .u8 0,.int .u8 0,.int .u8 0,.int .u8 0,.int .u8 0,.int .u8 0,.int .u8 0,.int .u8 0,.int .u8 0,.int .u8 0,.int .u8 0,.int .u8 0,.int .u8 0,.int .u8 0,.int .u8 0,.int .u8 0,.int .u8 0,.int .u8 0,.int .u8 0,.int .u8 0,.int .u8 0,.int .u8 0,.int .u8 0,.int .u8 0,.int .u8 0,.int .u8 0,.int .u8 0,.int .u8 0,.int .u8 0,.int .u8 0,.int .u8 0,.int .u8 0,.int .u8 0,.int .u8 0,.int .u8 0,.int .u8 0,.int .u8 0,.int .u8 0,.int .u8 0,.int .u8 0,.int .u8 0,.int .u8 0,.int .u8 0,.int .u8 0,.int .u8 0] 182
def z9:Obj:=.cells #[(0:Int),.int .u64 0,()] 150
def BQ:Obj:=.cells #[(),(0:Int)] 334
def a1:aP:=(.s .r (.c (.s .r .l) .l))
def gU:aP:=(.s .r (.s (.c .l .l) (.s (.bM (.s .r a1)) .r)))
def ia:aP:=(.s .r (.s (.s .r (.bM (.loop [(8,(.int .i64))] [0,1,7] gU))) (.s .r .l)))
def dP:aP:=(.s .r (.s a1 (.s .r .l)))
def eJ:aP:=(.s .r (.c (.s .r .l) a1))
def g5:aP:=(.s a1 (.s .r (.s .r .l)))
def fo:aP:=(.s .r (.s (.c .l .l) (.s (.bM (.s .r (.s .r a1))) .r)))
def a2:aP:=(.s .r (.s (.c .l .l) (.s (.bM (.s .r .r)) .r)))
def a3:aP:=(.s .r (.s .r (.s .r .l)))
def a4:aP:=(.s (.cY [.r,.r,.r,.pure 2]) .l)
def a5:aP:=(.s (.cY [.r,.r,.r,.pure 2]) (.c (.s .r .l) .l))
def dL:aP:=(.s (.cY [.r,.r,.r,.split 3]) (.c (.s .r .l) .l))
def dG:aP:=(.s .r (.s (.s (.cY [.r,.r,.r,.pure 2,.r,.r,.r,.pure 2]) (.c (.s .r .l) .l)) (.s .r .l)))
def eo:aP:=(.s .r (.s (.cY [.r,.r,.r,.r,.pure 3]) .l))
def a9:aP:=(.s (.cY [.r,.r,.r,.r,.pure 2,.r,.r,.r,.pure 5]) (.c (.s .r .l) .l))
def ei:aP:=(.c (.s .r (.s .r .l)) .l)
def dM:aP:=(.s .r (.s (.cY [.r,.r,.r,.pure 2,.r,.r,.r,.split 7]) .l))
def fK:aP:=(.s (.cY [.r,.r,.r,.r,.split 5]) (.c (.s .r .l) .l))
def dY:aP:=(.s (.cY [.r,.r,.r,.pure 3]) (.c (.s .r .l) .l))
theorem okF{f:Nat}{fn:Func}(p:J->(Y->J->Prop)->Prop)(A:aP){args:O Y}{w:J}{Q:Y->J->Prop}(hf:Tryz.prog.funcs[f]? =some fn)(h:p w Q)(h1:oO fn args.length=true:=by kernel_rfl)(h2:p w Q=qi ai tk A fn args w Q:=by kernel_rfl):aK ai f args.toArray w Q:=Fu yq hf h1 (Eq.mp h2 h)
def uT(c:ad)(d:J)(e:J)(f:J)(g:J->Prop):Prop:=∃a:ad,∃b:J,Sem.run ai (Builtin.append_ #[127,127] 127 #[c,
 .slice (some (aa d)) 1 1]) e=.ok a b/\st b ((aa f).add 1) a λh=>g h
def su(a:J)(c:J)(aj:J)(d:al)(Q:Y->J->Prop):Prop:=r1 a ((aa c).add 1) λe=>r1 a ((aa c).add 2) λf=>r1 a ((aa c).add 3) λg=>bk a (aa aj)
 [d,e,f,g]/\(4:Nat)=4/\ak (setCells a (aa aj) 0 [d,e,f,g]) λb=>aY b (aa aj) λh=>r1 b ((aa aj).add 1) λi=>r1 b ((aa aj).add 2) λj=>r1 b ((aa aj).add 3) λk=>Q (.tuple #[.agg #[h,i,j,k],true]) b
def sw(a:J)(aj:J)(Q:Y->J->Prop)(b:al):Prop:=r1 a ((aa aj).add 1) λc=>r1 a ((aa aj).add 2) λd=>r1 a ((aa aj).add 3) λe=>Q (.tuple #[.agg #[b,c,d,e],false]) a
def bQ(l:J)(a:J)(m:al)(n:ad)(o:ad)(p:ad)(b:J)(q:al)(r:ad)(s:ad)(t:ad)(w:J)(key:ad)(aj:J)(Q:Y->J->Prop):Prop:=bk l (aa a)
 [m,n,o,p]/\(4:Nat)=4/\ak (setCells l (aa a) 0 [m,n,o,p]) λu=>bk u (aa b) [q,r,s,t]/\(4:Nat)=4/\ak (setCells u (aa b) 0 [q,r,s,t]) λf=>bH (λv:J->Prop=>aY f (aa w) λF=>an (!F) (ak (f.drew) λg=>∃h:Nat->Prop,¬h ((aa a).add 1).block/\r1 g ((aa a).add 1)
 λG=>bK 135 #[key] g λH d=>af h g d/\ak (d.alloc (.cells #[H] 48)) λx=>af h d x/\uT G d x a v) (v
 f)) (λi=>r1 i ((aa a).add 1) λI=>r1 i ((aa b).add 1) λK=>∃y:ad,∃z:J,Sem.run ai (Builtin.append_ #[127,127] 127 #[I,
 K]) i=.ok y z/\st z ((aa a).add 1) y λj=>r1 j ((aa a).add 2) λL=>r1 j ((aa b).add 2) λM=>∃A:ad,
 ∃B:J,Sem.run ai (Builtin.append_ #[127,127] 127 #[L,M]) j=.ok A B/\st B ((aa a).add 2)
 A λk=>r1 k ((aa a).add 3) λN=>r1 k ((aa b).add 3) λO=>∃C:ad,∃D:J,Sem.run ai (Builtin.append_ #[58,58] 58 #[N,O]) k=.ok C D/\st D ((aa a).add 3) C λc=>aY c (aa a) λP=>r1 c ((aa a).add 1) λR=>r1 c
 ((aa a).add 2) λS=>r1 c ((aa a).add 3) λT=>b8 203 #[.agg #[P,R,S,T]] c λU e=>an (!U) (bk
 e (aa aj) [false,(),(),()]/\(4:Nat)=4/\ak (setCells e (aa aj) 0 [false,(),(),()]) λE=>aY E (aa aj) λV=>sw E aj Q
 V) (aY e (aa a) λW=>su e a aj W Q))
def uU(d:J)(a:J)(e:al)(f:ad)(g:ad)(h:ad)(i:al)(Q:Y->J->Prop)(c:av ag)(n31:Int):Prop:=bk d (aa a) [e,f,
 g,h]/\(4:Nat)=4/\ak (setCells d (aa a) 0 [e,f,g,h]) λb=>
 an (!i) (Q (.tuple #[(),(0:Int),(0:Int),(4:Int)]) b) (aY b (aa a) λj=>r1 b ((aa a).add 1) λk=>r1 b ((aa a).add 2) λl=>r1 b ((aa a).add 3) λ
 m=>ed 281 #[c,.agg #[j,k,l,m]] b λn o p=>Q (.tuple #[n,n31,.int .i64 (ar (n31+2)),o]) p)
def sx(a:J)(b:J)(c:al)(d:ad)(e:ad)(f:ad)(g:J->Prop):Prop:=bk a (aa b) [c,d,e,f]/\(4
 :Nat)=4/\ak (setCells a (aa b) 0 [c,d,e,f]) λh=>g h
def b2(j:J)(e:J)(q:al)(r:ad)(s:ad)(t:ad)(U:Nat->Prop)(f:J)(u:al)(v:ad)(x:ad)(y:ad)(up:av ag)(n36:Int)(w:J)(h:J)(n31:Int)(Q:Y
 ->J->Prop)(c:av ag):Prop:=bk j (aa e) [q,r,s,t]/\(4:Nat)=4/\ak (setCells j (aa e) 0 [q,r,s,t]) λk=>af U j k/\bk k (aa f) [u,v,x,y]/\(4:
 Nat)=4/\ak (setCells k (aa f) 0 [u,v,x,y]) λl=>bH (λz:J->Prop=>∃A:ag,up=some A/\aF l (A.add 5) λV
 =>an (decide (n36>V)) (ak (l.drew) λd=>∃m:Nat->Prop,¬m ((aa w):ag).block/\aY d (aa w) λB=>r1 d ((aa w).add 1) λC=>r1 d ((aa w).add 2) λD=>r1 d ((aa w).add 3) λE
 =>¬m ((aa h):ag).block/\aY d (aa h) λW=>r1 d ((aa h).add 1) λX=>r1 d ((aa h).add 2) λZ=>r1 d ((aa h).add 3) λab=>bk d (aa e) [B,C,D,E]/\(4:Nat)=4/\ak (setCells d (aa e) 0 [B,C,D,E]) λF=>af m d
 F/\sx F f W X Z ab z) (z l)) (λac=>ak (ac.drew) λb=>∃g:Nat->Prop,¬g ((aa e):ag).block/\aY b (aa e) λG=>r1 b ((aa e).add 1) λH=>r1 b ((aa e).add 2) λ
 I=>r1 b ((aa e).add 3) λK=>∃n:ag,up=some n/\¬g ((n.add 1).add 1).block/\r1 b ((n.add 1).add 1) λL=>∃o:ag,L.a=some o/\aM n31 L.len/\¬g (o.add (n31.toNat*
 1)).block/\r1 b (o.add (n31.toNat*1)) λM=>¬g ((aa f):ag).block/\aY b (aa f) λN=>r1 b ((aa f).add 1) λO=>r1 b ((aa f).add 2) λP=>r1 b ((aa f).add 3) λ
 R=>(nE 282 #[.agg #[G,H,I,K],M,.agg #[N,O,P,R]] b λae ah ai aj am i=>af g b i/\ak (i.alloc cU) λS=>af g i S/\uU S i ae ah ai aj am Q c n31)/\(ak (b.alloc cU) λ
 p=>af g b p/\nE 282 #[.agg #[G,H,I,K],M,.agg #[N,O,
 P,R]] p λao ap aq ar au T=>af g p T/\uU T b ao ap aq ar au Q c n31))
def dg(a:J)(b:J)(w1:J)(Q:Y->J->Prop):Prop:=aY a (aa b) λc=>su a b w1 c Q
def uV(a:J)(c:J)(w1:J)(d:al)(Q:Y->J->Prop):Prop:=r1 a ((aa c).add 1) λe=>r1 a ((aa c).add 2) λf=>r1 a ((aa c).add 3) λg=>bk a (aa w1)
 [d,e,f,g]/\(4:Nat)=4/\ak (setCells a (aa w1) 0 [d,e,f,g]) λb=>aY b (aa w1) λh=>r1 b ((aa w1).add 1) λi=>r1 b ((aa w1).add 2) λj=>r1 b ((aa w1).add 3) λk=>Q (.agg #[h,i,j,k]) b
def ku(n:J)(b:J)(h:Array Y)(l:ad)(w:J)(to:Int)(w1:J)(Q:Y->J->Prop):Prop:=bk n (aa b) (Array.toList h)/\Array.size h=4/\ak (setCells n (aa b) 0
 (Array.toList h)) λB=>∃ (i:Int->J->Prop) (o:Int->J->Nat),i 0 B/\∀ (n19:Int) (c:J),i n19 c->an (decide (n19<(l.len:Int))) (∃j:ag,l.a=some j/\aM n19 l.len/\r1 c (j.add
 (n19.toNat*2)) λp=>aF c ((j.add (n19.toNat*2)).add 1) λn23=>ak (c.alloc BQ) λq=>bk q (aa c) [p,n23]/\(2:Nat)=2/\ak (setCells q (aa c) 0 [p,n23]) λd=>bH (λr:J->Prop=>r1 d (aa c) λC=>an (!(Option.isNone C.a)) (r1 d ((aa b).add 1) λD=>r1 d (aa c) λE=>ak (d.alloc (.cells #[E] 48)) λF=>uT D d F b r) (r d)) (λg=>r1 g ((aa b).add 3) λG=>aF g ((aa c).add 1) λn36=>ak (g.alloc (.cells #[n36] 3)) λH=>∃s:ad,
 ∃t:J,Sem.run ai (Builtin.append_ #[58,58] 58 #[G,.slice (some (aa g)) 1 1]) H=.ok s t/\st t ((aa b).add 3) s λu=>i (ar (n19+1)) u/\o (ar (n19+1)) u<o n19 c)) (ak (c.drew) λk=>¬False/\r1 k ((aa b).add 1) λI=>¬False/\r1 k ((aa w).add 1) λe=>((0:Int)<=(ar (to-
 1))/\(ar (to-1))<=(e.len:Int))/\∃v:ad,∃x:J,Sem.run ai (Builtin.append_ #[127,127] 127 #[I,.slice (aO e.a 1 ((ar (to-1)).toNat) e.cap)
 (e.len-((ar (to-1)).toNat)) (e.cap-((ar (to-1)).toNat))]) k=.ok v x/\st x ((aa b).add 1) v λK=>ak (K.drew) λm=>¬False/\r1 m
 ((aa b).add 3) λL=>¬False/\r1 m ((aa w).add 3) λf=>((0:Int)<=to/\to<=(f.len:Int))/\∃y:ad,∃z:J,Sem.run ai (Builtin.append_ #[58,58] 58 #[L,.slice (aO f.a 1 (to.toNat) f.cap) (f.len-(to.toNat)) (f.cap-(to.toNat))]) m=.ok y z/\st z ((aa b).add 3) y λA=>aY A (aa
 b) λM=>uV A b w1 M Q)
def kx(o:Array Y)(f:J)(c:Nat->Prop)(p:Array Y)(w1:J)(aj:J)(Q:Y->J->Prop)(q:ad):Prop:=gK 204 #[.agg o] f λg h i j d=>af c f d/\gK
 204 #[.agg p] d λk l m n b=>af c d b/\bk b (aa w1) [g,h,i,j]/\(4:Nat)=4/\ak (setCells b (aa w1) 0
 [g,h,i,j]) λe=>af c b e/\bk e (aa aj) [k,l,m,n]/\(4:Nat)=4/\ak (setCells e (aa aj) 0 [k,l,m,n]) λa=>aY a (aa w1) λr=>r1 a ((aa w1).add 1) λs=>
 r1 a ((aa w1).add 2) λt=>r1 a ((aa w1).add 3) λu=>aY a (aa aj) λv=>r1 a ((aa aj).add 1) λw=>r1 a ((aa aj).add 2) λx=>r1 a ((aa aj).add 3) λy=>Q (.tuple #[.agg
 #[r,s,t,u],q,.agg #[v,w,x,y],true]) a
def uW(d:Nat->Prop)(j:J)(e:J)(k:ad)(l:ad)(b:ad)(n29:Int)(m:av ag)(Q:Y->J->Prop):Prop:=af d j e/\∃g:ad,∃c:J,Sem.run ai (Builtin.append_
 #[68,68] 68 #[k,l]) e=.ok g c/\af d e c/\∃h:ad,∃f:J,Sem.run ai
 (Builtin.append_ #[68,68] 68 #[g,.slice (aO b.a 21 (n29.toNat) b.cap) (b.len-(n29.toNat)) (b.cap-(n29.toNat))]) c=.ok h f/\af d c f/\∃i:ag,m=some i/\st f (i.add 1) h λn=>Q (0:Int) n
def nG(A:J)(m:av ag)(n29:Int)(w:J)(Q:Y->J->Prop):Prop:=ak (A.drew) λd=>∃b:Nat->Prop,∃l:ag,m=some l/\¬b (l.add 1).block/\r1 d (l.add 1) λc=>((0:Int)
 <=n29/\n29<=(c.cap:Int))/\¬b ((aa w):ag).block/\∃f:O Y,a8 d (aa w) 0 21=some f/\∃n:ag,m=some n/\¬b (n.add 1).block/\r1 d (n.add 1) λg=>((0:Int)<=n29/\n29<=
 (g.len:Int))/\(∃o:ad,∃e:J,Sem.run ai (Instr.buildSlice 68 0 #[]) d=.ok o e/\af b d e/\(∃p:ad,∃h:J,Sem.run ai (Builtin.append_
 #[68,68] 68 #[o,.slice (aO c.a 21 0 c.cap) ((n29.toNat)-0) (c.cap-0)]) e=.ok p h/\af b e h/\∃q:ad,
 ∃r:J,Sem.run ai (Instr.buildSlice 68 1 #[(0,.agg f.toArray)]) h=.ok q r/\uW b h r p q g n29 m Q)/\(∃s:ad,∃i:J,Sem.run ai
 (Instr.buildSlice 68 1 #[(0,.agg f.toArray)]) e=.ok s i/\af b e i/\∃t:ad,∃u:J,Sem.run ai (Builtin.append_ #[68,68]
 68 #[o,.slice (aO c.a 21 0 c.cap) ((n29.toNat)-0) (c.cap-0)]) i=.ok t u/\uW b i u t s g n29 m Q))/\(∃v:ad,∃j:J,
 Sem.run ai (Instr.buildSlice 68 1 #[(0,.agg f.toArray)]) d=.ok v j/\af b d j/\∃x:ad,∃k:J,Sem.run ai (Instr.buildSlice 68 0 #[]) j
 =.ok x k/\af b j k/\∃y:ad,∃z:J,Sem.run ai (Builtin.append_ #[68,68] 68 #[x,.slice (aO c.a 21 0
 c.cap) ((n29.toNat)-0) (c.cap-0)]) k=.ok y z/\uW b k z y v g n29 m Q)
def gi(a:J)(w1:J)(Q:Y->J->Prop):Prop:=aY a (aa w1) λb=>sw a w1 Q b
def BR(a:J)(b:J)(w1:J)(Q:Y->J->Prop):Prop:=aY a (aa b) λc=>uV a b w1 c Q
def gr(w:J)(b:J)(cO:ad)(a:av ag)(m:av ag)(Q:Y->J->Prop):Prop:=∃c:Nat->Prop,¬c ((aa w).add 23).block/\b5 b ((aa w).add 23) λl=>¬c ((aa w).add
 24).block/\aF b ((aa w).add 24) λn=>ak (b.alloc (.cells #[] 5)) λd=>af c b d/\∃g:ad,∃e:J,Sem.run ai (Builtin.append_ #[48,48] 48 #[.slice (some (aa
 b)) 0 0,cO]) d=.ok g e/\af c d e/\BP 30 #[a,g,.int .u64 l,n] e λo p q f=>b5 f
 ((aa w).add 23) λr=>aF f ((aa w).add 24) λs=>ed 99 #[m,cO,.int .u64 r,s] f λt u v=>∃h:ByteArray,∃i:J,Sem.run ai
 (convert 48 9 o) v=.ok (.string h) i/\∃j:ByteArray,∃k:J,Sem.run ai (convert 48 9 t) i=.ok (.string j) k/\Q
 (.bool (((ByteArray.toList h==ByteArray.toList j)&&(p==u))&&(q==0))) k
def uX(a:J)(w:J)(Q:Y->J->Prop)(n7:Int):Prop:=aY a (aa w) λb=>r1 a ((aa w).add 1) λc=>r1 a ((aa w).add 2) λd=>r1 a ((aa w).add 3) λe=>Q (.tuple #[.agg #[b,c,d,e],n7]) a
def BS(g:ad)(n34:Int)(c:J)(d:J)(n:Int->J->Prop)(h:Int->J->Nat):Prop:=∃i:ag,g.a=some i/\aM n34 g.len/\r1 c (i.add (n34.toNat*1)) λo=>ak (c.drew) λe
 =>∃f:Nat->Prop,¬f ((aa d).add 2).block/\r1 e ((aa d).add 2) λp=>bK 135 #[o] e λq b=>af f e b/\ak (b.alloc (.cells #[q] 48)) λj=>af f b j/\∃k:ad,∃l:J,Sem.run ai (Builtin.append_ #[127,127] 127 #[p,.slice (some (aa b)) 1 1]) j=
 .ok k l/\st l ((aa d).add 2) k λm=>n (ar (n34+1)) m/\h (ar (n34+1)) m<h n34 c
def BT(g:ad)(n17:Int)(c:J)(d:J)(m:Int->J->Prop)(h:Int->J->Nat):Prop:=∃ia:ag,g.a=some ia/\aM n17 g.len/\r1 c (ia.add (n17.toNat*1)) λn=>ak (c.drew) λe
 =>∃f:Nat->Prop,¬f ((aa d).add 1).block/\r1 e ((aa d).add 1) λo=>bK 135 #[n] e λp b=>af f e b/\ak (b.alloc (.cells #[p] 48)) λi=>af f b i/\∃j:ad,∃k:J,Sem.run ai (Builtin.append_ #[127,127] 127 #[o,.slice (some (aa b)) 1 1]) i=
 .ok j k/\st k ((aa d).add 1) j λl=>m (ar (n17+1)) l/\h (ar (n17+1)) l<h n17 c
def yt(a:J)(d:Array Y)(g:J)(w:J)(m:av ag)(Q:Y->J->Prop)(p:al)(n30:Int)(h:al):Prop:=ak (a.alloc fc) λi=>bk i (aa a) (Array.toList d)/\
 Array.size d=21/\ak (setCells i (aa a) 0 (Array.toList d)) λb=>aF b (aa g) λn33=>∃j:O Y,a8 b ((aa g).add 1) 0 18=some j/\b5 b ((aa w).add 23) λn35=>hM 96
 #[m,n33,.agg j.toArray,.int .u64 n35] b λe q c=>ak (c.alloc fc) λk=>bk k (aa c) (Array.toList e)/\Array.size e=21/\ak (setCells k (aa c) 0 (Array.toList e)) λf=>∃
 l:O Y,a8 f (aa a) 0 21=some l/\∃n:O Y,a8 f (aa c) 0 21=some n/\∃o:al,iC ai 29 l.toArray n.toArray o/\Q (.bool (((o&&(p==q))&&((n30==0)
 ==h))&&(h||(n30==1)))) f
def qq(c:al)(b:al->J->Prop)(a:J)(w:J):Prop:=an (!c) (b true a) (aY a (aa w) λd=>r1 a ((aa w).add 1) λe=>r1 a ((aa w).add 2) λf=>r1 a ((aa w).add 3) λg
 =>b8 203 #[.agg #[d,e,f,g]] a λh i=>b (!h) i)
def yu(g:J)(aj:J)(w1:J)(h:J->Prop):Prop:=ak (g.drew) λb=>∃c:Nat->Prop,¬c ((aa aj).add 3).block/\r1 b ((aa aj).add 3) λi=>bS 272 #[.pointer (some (aa
 w1)),(2:Int)] b λn14 a=>af c b a/\ak (a.alloc (.cells #[n14] 3)) λd=>af c a d/\∃e:ad,∃f:J,Sem.run ai (Builtin.append_ #[58,58] 58 #[i,.slice (some (aa a)) 1 1]) d=.ok e f/\st f ((aa aj).add 3) e λj=>h j
def sy(a:J)(w:J)(Q:Y->J->Prop):Prop:=aY a (aa w) λb=>r1 a ((aa w).add 1) λc=>r1 a ((aa w).add 2) λd=>r1 a ((aa w).add 3) λe=>Q (.tuple #[.agg #[b,
 c,d,e],(4:Int)]) a
def fA(m:Y)(n:J)(d:av ag)(o:J->Prop)(h:J->Nat)(p:J):Prop:=∃n15:Int,∃q:Y,∃i:J,Sem.run ai (Instr.entry (m)) n=.ok (.tuple #[n15,q])
 i/\ak (i.drew) λb=>∃j:Nat->Prop,∃c:ag,d=some c/\¬j (c.add 4).block/\r1 b (c.add 4) λk=>lC 137 #[d,n15] b λe f=>af j b f/\∃g:ag,
 k.a=some g/\aM n15 k.len/\bk f (g.add (n15.toNat*256)) (Array.toList e)/\Array.size e=256/\ak (setCells f (g.add (n15.toNat*256)) 0 (Array.toList e)) λl=>o l/\h l<h p
def yv(f:ad)(g:J)(b:J)(h:Nat->Prop)(i:O Y)(Q:Y->J->Prop):Prop:=∃c:ad,∃a:J,Sem.run ai (Builtin.append_ #[48,48] 48 #[f,.slice (some (aa g)) 2 2]) b=.ok c a/\af h b a/\bK 270 #[.agg i.toArray] a λj k=>∃d:ad,∃e:J,Sem.run ai (Builtin.append_
 #[48,48] 48 #[c,j]) k=.ok d e/\Q d e
def uY(a:J)(b:ad)(c:J)(d:ad)(Q:Y->J->Prop):Prop:=ak (a.alloc (.cells #[b,.slice (some (aa c)) 2 2,d] 48)) λe=>bK
 92 #[.slice (some (aa a)) 3 3] e λf g=>Q (.tuple #[f,true]) g
def yw(h:ad)(j:ad)(c:J)(k:Nat->Prop)(l:av Nat)(i:Int)(d:av ag)(Q:Y->J->Prop):Prop:=∃e:ad,∃a:J,Sem.run ai (Builtin.append_ #[136,
 136] 136 #[h,j]) c=.ok e a/\af k c a/\∃b:J,Sem.run ai (Instr.mapUpdate 137
 (.map l) i e) a=.ok () b/\∃f:ag,d=some f/\aF b (f.add 6) λn24=>∃g:ag,d=some g/\st b (g.add 6) (.int .i64 (ar (n24+1))) λm=>Q (0:Int) m
def yx(b:J)(c:J)(a:av ag)(m:av ag)(Q:Y->J->Prop):Prop:=∃d:Nat->Prop,¬d ((aa b):ag).block/\∃e:O Y,a8 c (aa b) 0 21=some e/\¬d ((aa b):
 ag).block/\∃f:O Y,a8 c (aa b) 0 21=some f/\bS 15 #[a,.agg e.toArray] c λh g=>af d c g/\bS 100 #[m,.agg f.toArray] g λi j=>Q
 (.bool (h==i)) j
def uZ(a:J)(w1:J)(Q:Y->J->Prop):Prop:=∃b:Array Y,Sem.run ai (Instr.build 26 #[]) a=.ok (.agg b) a/\bk a (aa w1) (Array.toList b)/\Array.size b=18/\ak
 (setCells a (aa w1) 0 (Array.toList b)) λc=>∃d:O Y,a8 c (aa w1) 0 18=some d/\Q (.tuple #[.agg d.toArray,false]) c
def yy(a:ad):Prop:=(0:Int)<=(ar (232-(a.len:Int)))/\((ar (232-(a.len:Int))):Int)<=(ar (232-(a.len:Int)))/\((ar (232-(a.len:Int))):Int)<=kV/\((1:Nat):Int)*(ar (232-(a.len:Int)))<=
 140737488355328
def yz(a:J)(c:ad)(d:J)(e:ad)(f:J)(b:ad)(g:ad->J->Prop):Prop:=ak (a.alloc (.cells #[c,.slice (some (aa d)) (Int.toNat 4) (Int.toNat 4),e,.slice (some (aa f)) ((ar (232-(b.len:Int))).toNat) ((ar (232-(b.len:Int))).toNat)] 48)) λh=>bK 92 #[.slice (some (aa a)) 4 4] h λi j=>g i j
def yA(d:av ag)(a:J)(Q:Y->J->Prop):Prop:=∃b:ag,d=some b/\∃c:av Nat,a.cell? (b.add 5)=some (.map c)/\∃ (f:Y) (e:J),Sem.run ai (Builtin.clear_
 #[137] 0 #[.map c]) a=.ok f e/\Q (0:Int) e
def u0(c:ad)(d:ad)(e:J)(f:ad->J->Prop):Prop:=∃a:ad,∃b:J,Sem.run ai (Builtin.append_ #[68,68] 68 #[c,d]) e=.ok a b/\f a b
def yB(a:J)(w:J)(Q:Y->J->Prop):Prop:=aF a (aa w) λn9=>b5 a ((aa w).add 1) λn10=>r1 a ((aa w).add 2) λb=>Q (.tuple #[.agg #[n9,.int .u64 n10,b],(4:Int)]) a
def yC(b:J)(w:J)(a:O Y)(Q:Y->J->Prop):Prop:=bk b (aa w) (Array.toList a.toArray)/\Array.size a.toArray=256/\ak (setCells b (aa w) 0 (Array.toList a.toArray)) λc=>∃d:O
 Y,a8 c (aa w) 0 256=some d/\Q (.agg d.toArray) c
def yD(aj:J)(w:J)(fB:Array Y)(Q:Y->J->Prop):Prop:=bk aj (aa w) (Array.toList fB)/\Array.size fB=17/\ak (setCells aj (aa w) 0 (Array.toList fB)) λa=>∃b:O Y,a8 a (aa w) 0
 17=some b/\Q (.tuple #[.agg b.toArray,true]) a
def yE(f:al)(Q:Y->J->Prop)(b:al)(c:Int)(a:J)(d:J)(m:av ag):Prop:=an (!f) (Q (.bool ((!b)&&(c==1))) a) (aF a (aa d) λg=>∃e:O Y,a8 a
 ((aa d).add 1) 0 18=some e/\b8 97 #[m,g,.agg e.toArray] a λh i=>Q (.bool ((b==h)&&(c==0))) i)
def u3(h:J)(b:J)(i:al)(j:ad)(k:ad)(l:ad)(m:Int)(Q:Y->J->Prop)(c:av ag)(n41:Int)(w:J)(up:av ag)(n36:Int)(n31:Int):Prop:=bk h (aa b)
 [i,j,k,l]/\(4:Nat)=4/\ak (setCells h (aa b) 0 [i,j,k,l]) λe=>an (m !=0) (Q (.tuple #[(),(0:Int),(0:Int),m]) e) (∃n:ag,c=some n/\r1 e (n.add 2) λC=>ak (e.alloc (.cells #[n41] 3)) λD=>∃o:
 ad,∃p:J,Sem.run ai (Builtin.append_ #[58,58] 58 #[C,.slice (some (aa e)) 1 1]) D=.ok o p/\∃q:ag,c=some q/\st p (q.add
 2) o λE=>ak (E.drew) λa=>∃d:Nat->Prop,¬d ((aa b):ag).block/\aY a (aa b) λr=>r1 a ((aa b).add 1) λs=>r1 a ((aa b).add 2) λt=>r1 a
 ((aa b).add 3) λu=>¬d ((aa w):ag).block/\aY a (aa w) λv=>r1 a ((aa w).add 1) λx=>r1 a ((aa w).add 2) λy=>r1 a ((aa w).add 3) λz=>(ak (a.alloc cU) λf=>af d
 a f/\ak (f.alloc cU) λA=>af d f A/\b2 A a r s t u d f v x y z up n36 w b n31 Q c)/\(ak (a.alloc cU) λg=>af d a g/\ak (g.alloc cU) λB=>af d g B/\b2 B
 g r s t u d a v x y z up n36 w b n31 Q c))
def oU(c:al)(d:ad)(e:ad)(f:ad)(a:J)(g:Nat->Prop)(h:J)(i:al)(j:ad)(k:ad)(l:ad)(m:J)(w:J)(key:ad)(aj:J)(Q:Y->J->Prop):Prop:=gK
 204 #[.agg #[c,d,e,f]] a λn o p q b=>af g a b/\bQ b h i j k l m n o p q w key aj
 Q
def yF(g:J)(a:J)(c:Array Y)(w:J)(w1:J)(Q:Y->J->Prop):Prop:=bk g (aa a) (Array.toList c)/\Array.size c=4/\ak (setCells g (aa a) 0 (Array.toList c)) λh=>r1
 h ((aa w).add 1) λi=>∃ (d:Int->J->Prop) (k:Int->J->Nat),d 0 h/\∀ (n17:Int) (b:J),d n17 b->an (decide (n17<(i.len:Int))) (BT i n17 b a d k) (r1 b ((aa w).add 2) λ
 j=>∃ (e:Int->J->Prop) (l:Int->J->Nat),e 0 b/\∀ (n34:Int) (f:J),e n34 f->an (decide (n34<(j.len:Int))) (BS j n34 f a e l) (BR f a w1 Q))
def yG(a:J)(w:J)(Q:Y->J->Prop)(n7:Int):Prop:=bk a (aa w) [false,(),(),()]/\(4:Nat)=4/\ak (setCells a (aa w) 0 [false,(),
 (),()]) λb=>uX b w Q n7
set_option maxRecDepth 100000
def ae.oV(s:ad)(w:J)(Q:Y->J->Prop):Prop:=an (Option.isNone s.a) (Q () w) (ak (w.alloc (.cells #[] 5)) λw1=>∃s2:ad,∃b:J,Sem.run ai
 (Builtin.append_ #[48,48] 48 #[.slice (some (aa w)) 0 0,s]) w1=.ok s2 b/\Q s2 b)
def ay.oV:aP:=dP
def ae.oW(a:ad)(b:ad)(w:J)(Q:Y->J->Prop):Prop:=∃s1:ByteArray,∃aj:J,Sem.run ai (convert 48 9 a) w=.ok (.string s1) aj/\∃c:ByteArray,∃d
 :J,Sem.run ai (convert 48 9 b) aj=.ok (.string c) d/\Q (.bool (ByteArray.toList s1==ByteArray.toList c)) d
def ay.oW:aP:=(.s .r (.s .r .l))
def ae.l4(a:ad)(b:ad)(w:J)(Q:Y->J->Prop):Prop:=∃bW:Int,∃aj:J,Sem.run ai (callFunc 230 #[a,b]) w=.ok (.value bW) aj/\Q bW aj
def ay.l4:aP:=(.s .r (.s .r .l))
def ae.u4(s:ad)(w:J)(Q:Y->J->Prop):Prop:=an (Option.isNone s.a) (Q () w) (ak (w.alloc (.cells #[] 5)) λw1=>∃s2:ad,∃b:J,Sem.run ai
 (Builtin.append_ #[215,215] 215 #[.slice (some (aa w)) 0 0,s]) w1=.ok s2 b/\Q s2 b)
def ay.u4:aP:=dP
def ae.u5(x:Int)(w:J)(Q:Y->J->Prop):Prop:=(0:Int)<=x/\∃cr:UInt8,xQ (ByteArray.mk #[0,1,1,2,1,2,2,3,1,2,2,3,2,3,3,4,1,2,2,3,2,3,3,4,2,3,3,4,3,4,4,5,1,2,
 2,3,2,3,3,4,2,3,3,4,3,4,4,5,2,3,3,4,3,4,4,5,3,4,4,5,4,5,5,6,1,2,2,3,2,3,3,4,2,3,3,4,3,4,4,5,2,3,3,4,3,4,4,5,3,4,4,5,4,5,5,6,2,3,3,4,3,4,4,5,3,4,4,5,4,5,5,6,3,4,
 4,5,4,5,5,6,4,5,5,6,5,6,6,7,1,2,2,3,2,3,3,4,2,3,3,4,3,4,4,5,2,3,3,4,3,4,4,5,3,4,4,5,4,5,5,6,2,3,3,4,3,4,4,5,3,4,4,5,4,5,5,6,3,4,4,5,4,5,5,6,4,5,5,6,5,6,6,7,2,3,
 3,4,3,4,4,5,3,4,4,5,4,5,5,6,3,4,4,5,4,5,5,6,4,5,5,6,5,6,6,7,3,4,4,5,4,5,5,6,4,5,5,6,5,6,6,7,4,5,5,6,5,6,6,7,5,6,6,7,6,7,7,8]) (x.toNat)=some cr/\Q (.int .i64 (ar ((cr.toNat
 :Nat):Int))) w
def ay.u5:aP:=(.s .r (.s .r .l))
def ae.u6(s:ad)(i:Int)(j:Int)(w:J)(Q:Y->J->Prop):Prop:=((0:Int)<=(s.len:Int)/\(s.len:Int)<=(s.cap:Int))/\((0:Int)<=j/\j<=(((Int.toNat (s.len:Int)):Nat):
 Int))/\((0:Int)<=i/\i<=(((j.toNat):Nat):Int))/\an (i==j) (Q s w) (ak (w.drew) λw1=>((0:Int)<=i/\i<=(s.cap:Int))/\((0:Int)<=j/\j<=(s.len:Int))/\∃s2:ad,∃b:J,
 Sem.run ai (Builtin.append_ #[127,127] 127 #[.slice (aO s.a 1 0 s.cap) ((i.toNat)-0) (s.cap-0),.slice (aO s.a 1 (j.toNat) s.cap) (s.len-(j.toNat)) (s.cap-(j.toNat))]) w1
 =.ok s2 b/\((0:Int)<=(s.len:Int)/\(s.len:Int)<=(s2.cap:Int))/\((0:Int)<=(s2.len:Int)/\(s2.len:Int)<=(((Int.toNat (s.len:Int)):Nat):Int))/\∃ (aY:Y) (c:J),Sem.run ai
 (Builtin.clear_ #[127] 0 #[.slice (aO s2.a 1 (Int.toNat (s2.len:Int)) s2.cap) ((Int.toNat (s.len:Int))-(Int.toNat (s2.len:Int))) (s2.cap-(Int.toNat (s2.len:Int)))]) b=.ok aY c/\Q s2 c)
def ay.u6:aP:=(.s .r (.s .r (.s a1 (.s .r (.s (.cB 6 false ⟨[0,0,3,0,0,24,36,127],[0,0,3,0,0,24,36,73]⟩ [1048576,2097152,4194304,8388608,16777216,33554432,67108864,1] [1,2,3145728,
 1,4,25165824,37748736,67108864] (.t 0 (.t 1 (.t 2 (.t 3 (.t 4 (.t 5 (.tail [.r,.r])))))))) (.s .r (.s .r .l)))))))
def ae.u7(s:ad)(i:Int)(v:ad)(w:J)(Q:Y->J->Prop):Prop:=((0:Int)<=i/\i<=(s.len:Int))/\an ((v.len:Int)==0) (Q s w) (an (i==(s.len:Int)) (∃s1:ad,
 ∃aj:J,Sem.run ai (Builtin.append_ #[127,127] 127 #[s,v]) w=.ok s1 aj/\Q s1 aj) (an (decide
 (((ar ((s.len:Int)+(v.len:Int))):Int)>(s.cap:Int))) (((0:Int)<=i/\i<=(s.cap:Int))/\∃b:ad,∃d:J,Sem.run ai (Builtin.append_ #[127,3] 127 #[.slice (aO s.a 1 0
 s.cap) ((i.toNat)-0) (s.cap-0),.int .i64 (ar ((ar ((s.len:Int)+(v.len:Int)))-i))]) w=.ok b d/\((0:Int)<=i/\i<=(b.len:Int))/\∃n5:Int,∃e:J,Sem.run ai (Builtin.copy_
 #[127,127] 3 #[.slice (aO b.a 1 (i.toNat) b.cap) (b.len-(i.toNat)) (b.cap-(i.toNat)),v]) d=.ok n5 e/\ak (e.drew) λl=>((0:Int)<=(ar (i+
 (v.len:Int)))/\(ar (i+(v.len:Int)))<=(b.len:Int))/\((0:Int)<=i/\i<=(s.len:Int))/\∃n8:Int,∃f:J,Sem.run ai (Builtin.copy_ #[127,127] 3 #[.slice (aO b.a 1 ((ar (i+
 (v.len:Int))).toNat) b.cap) (b.len-((ar (i+(v.len:Int))).toNat)) (b.cap-((ar (i+(v.len:Int))).toNat)),.slice (aO s.a 1 (i.toNat) s.cap) (s.len-(i.toNat)) (s.cap-(i.toNat))]) l=.ok n8 f/\Q
 b f) (((0:Int)<=(ar ((s.len:Int)+(v.len:Int)))/\(ar ((s.len:Int)+(v.len:Int)))<=(s.cap:Int))/\((0:Int)<=(ar (i+(v.len:Int)))/\(ar (i+(v.len:Int)))<=(((((ar ((s.len:Int)+
 (v.len:Int))).toNat)-0):Nat):Int))/\∃g:al,∃c:J,Sem.run ai (callFunc 252 #[v,.slice (aO (aO s.a 1 0 s.cap) 1 ((ar (i+(v.len:Int))).toNat) (s.cap-0))
 ((((ar ((s.len:Int)+(v.len:Int))).toNat)-0)-((ar (i+(v.len:Int))).toNat)) ((s.cap-0)-((ar (i+(v.len:Int))).toNat))]) w=.ok (.value g) c/\an (!g) (ak (c.drew) λm=>((0:Int)<=(ar (i+
 (v.len:Int)))/\(ar (i+(v.len:Int)))<=(((((ar ((s.len:Int)+(v.len:Int))).toNat)-0):Nat):Int))/\((0:Int)<=i/\i<=(((((ar ((s.len:Int)+(v.len:Int))).toNat)-0):Nat):Int))/\∃n13:Int,∃h:J,Sem.run
 ai (Builtin.copy_ #[127,127] 3 #[.slice (aO (aO s.a 1 0 s.cap) 1 ((ar (i+(v.len:Int))).toNat) (s.cap-0)) ((((ar ((s.len:Int)+(v.len:Int))).toNat)-0)-((ar (i+
 (v.len:Int))).toNat)) ((s.cap-0)-((ar (i+(v.len:Int))).toNat)),.slice (aO (aO s.a 1 0 s.cap) 1 (i.toNat) (s.cap-0)) ((((ar ((s.len:Int)+(v.len:Int))).toNat)-0)-(i.toNat)) ((s.cap-0)-(i.toNat))]) m=
 .ok n13 h/\((0:Int)<=i/\i<=(((((ar ((s.len:Int)+(v.len:Int))).toNat)-0):Nat):Int))/\∃n15:Int,∃j:J,Sem.run ai (Builtin.copy_ #[127,127] 3 #[.slice (aO (aO
 s.a 1 0 s.cap) 1 (i.toNat) (s.cap-0)) ((((ar ((s.len:Int)+(v.len:Int))).toNat)-0)-(i.toNat)) ((s.cap-0)-(i.toNat)),v]) h=.ok n15 j/\Q (.slice (aO s.a 1 0 s.cap)
 (((ar ((s.len:Int)+(v.len:Int))).toNat)-0) (s.cap-0)) j) (((0:Int)<=(s.len:Int)/\(s.len:Int)<=(((((ar ((s.len:Int)+(v.len:Int))).toNat)-0):Nat):Int))/\∃n17:Int,∃k:J,Sem.run ai
 (Builtin.copy_ #[127,127] 3 #[.slice (aO (aO s.a 1 0 s.cap) 1 (Int.toNat (s.len:Int)) (s.cap-0)) ((((ar ((s.len:Int)+(v.len:Int))).toNat)-0)-(Int.toNat (s.len:Int))) ((s.cap-0)-(Int.toNat
 (s.len:Int))),v]) c=.ok n17 k/\((0:Int)<=i/\i<=(((((ar ((s.len:Int)+(v.len:Int))).toNat)-0):Nat):Int))/\gT 253 #[.slice (aO (aO s.a 1 0 s.cap) 1
 (i.toNat) (s.cap-0)) ((((ar ((s.len:Int)+(v.len:Int))).toNat)-0)-(i.toNat)) ((s.cap-0)-(i.toNat)),.int .i64 (v.len:Int)] k λn=>Q (.slice (aO s.a 1 0 s.cap) (((ar ((s.len:Int)+
 (v.len:Int))).toNat)-0) (s.cap-0)) n))))
def ay.u7:aP:=(.s .r (.s .r (.s .r (.s a1 (.s .r (.s a1 (.s (.s .r (.c (.s .r (.s .r (.s (.cB 8 false ⟨[0,0,0,6,9,0,0,96,144],[0,0,0,6,9,0,0,96,144]⟩ [70368744177664,140737488355328,
 281474976710656,562949953421312,1125899906842624,2251799813685248,4503599627370496,9007199254740992,18014398509481984] [512,2,128,422212465065984,633318697598976,1,2,6755399441055744,10133099161583616] (.t 0 (.t 1 (.t 2 (.t 3
 (.t 4 (.t 5 (.t 6 (.t 7 (.tail [.r])))))))))) (.s .r .l)))) .l)) (.s .r (.s (.s .r (.c (.s (.cB 8 false ⟨[0,0,0,6,9,0,0,96,144],[0,0,0,6,9,0,0,96,144]⟩ [590295810358705651712,1180591620717411303424,
 2361183241434822606848,4722366482869645213696,9444732965739290427392,18889465931478580854784,37778931862957161709568,75557863725914323419136,151115727451828646838272] [1,2,128,3541774862152233910272,5312662293228350865408,1,2,
 56668397794435742564352,85002596691653613846528] (.t 0 (.t 1 (.t 2 (.t 3 (.t 4 (.t 5 (.t 6 (.t 7 (.tail [.r])))))))))) (.s .r (.s .r .l))) .l)) a3)))))))))
def ae.u9(x:ad)(target:ad)(cmp:iQ)(w:J)(Q:Y->J->Prop):Prop:=∃ (d:Int->Int->J->Prop) (e:Int->Int->J->Nat),d 0 (x.len:Int) w/\∀ (b:Int)
 (bV:Int) (c:J),d b bV c->an (decide (b<bV)) ((0:Int)<=1/\∃dL:ag,x.a=some dL/\((0:Int)<=(ar (Int.fdiv (IntKind.wrap .u64 (ar (b+bV))) (2^(min (Int.toNat 1) 64))))/\(ar (Int.fdiv (IntKind.wrap .u64 (ar
 (b+bV))) (2^(min (Int.toNat 1) 64))))<(x.len:Int))/\r1 c (dL.add (Int.toNat (ar (Int.fdiv (IntKind.wrap .u64 (ar (b+bV))) (2^(min (Int.toNat 1) 64))))*1)) λh=>h7 ai cmp.f/\Calls ai cmp.f (cmp.pre
 ++ #[.slice h.a h.len h.cap,.slice target.a target.len target.cap]++cmp.cap) c λk g=>∃n10:Int,k=.returned (.int .i64 n10)/\an (decide (n10<0)) (d (ar ((ar (Int.fdiv (IntKind.wrap .u64 (ar (b+bV))) (2^(min
 (Int.toNat 1) 64))))+1)) bV g/\e (ar ((ar (Int.fdiv (IntKind.wrap .u64 (ar (b+bV))) (2^(min (Int.toNat 1) 64))))+1)) bV g<e b bV c) (d b (ar (Int.fdiv (IntKind.wrap .u64 (ar (b+bV))) (2^(min (Int.toNat 1) 64)))) g
 /\e b (ar (Int.fdiv (IntKind.wrap .u64 (ar (b+bV))) (2^(min (Int.toNat 1) 64)))) g<e b bV c)) (bH (λj:al->J->Prop=>an (decide (b<(x.len:Int))) (∃fK:ag,x.a=some fK/\aM b x.len/\r1 c (fK.add
 (Int.toNat b*1)) λi=>h7 ai cmp.f/\Calls ai cmp.f (cmp.pre++ #[.slice i.a i.len i.cap,.slice target.a target.len target.cap]++cmp.cap) c λl m=>∃n16:Int,l=.returned (.int .i64 n16)/\
 j (n16==0) m) (j false c)) (λ(n:al) o=>Q (.tuple #[.int .i64 b,.bool n]) o))
def ay.u9:aP:=(.s .r (.s .r (.s .r (.s (.bM (.loop [(9,(.int .i64)),(10,(.int .i64))] [0,1,2,8] (.s (.s .r (.c .l .l)) (.bM (.s .r (.s .r (.c .r .r))))))) (.s (.cY [.r,.r,.r,.r,
 .r,.split 8]) .l)))))
def ae.u_(s:ad)(f:iQ)(w:J)(Q:Y->J->Prop):Prop:=bS 278 #[s,.func (.func f.f) f.pre f.cap] w λa w1=>Q (.bool
 (decide (a>=0))) w1
def ay.u_:aP:=(.s .r (.s .r .l))
def ae.va(s:ad)(f:iQ)(w:J)(Q:Y->J->Prop):Prop:=bS 279 #[s,.func (.func f.f) f.pre f.cap] w λa w1=>Q (.bool (decide (a>=0))) w1
def ay.va:aP:=(.s .r (.s .r .l))
def ae.vb(s:ad)(w:J)(Q:Y->J->Prop):Prop:=an (Option.isNone s.a) (Q () w) (ak (w.alloc (.cells #[] 3)) λw1=>∃s2:ad,∃b:J,Sem.run ai (Builtin.append_
 #[58,58] 58 #[.slice (some (aa w)) 0 0,s]) w1=.ok s2 b/\Q s2 b)
def ay.vb:aP:=dP
set_option maxRecDepth 100000
def ae.sA(s:ad)(f:iQ)(w:J)(Q:Y->J->Prop):Prop:=∃ (d:Int->J->Prop) (h:Int->J->Nat),d 0 w/\∀ (b:Int) (c:J),d b c->an (decide (b<(s.len:Int)))
 (∃a5:ag,s.a=some a5/\aM b s.len/\r1 c (a5.add (Int.toNat b*1)) λe=>h7 ai f.f/\Calls ai f.f (f.pre++ #[.slice e.a e.len e.cap]++f.cap) c λj g=>∃i:al,j=.returned (.bool i)/\
 an i (Q (.int .i64 b) g) (d (ar (b+1)) g/\h (ar (b+1)) g<h b c)) (Q (.int .i64 (-1)) c)
def ay.sA:aP:=ia
theorem ae.FV(s:ad)(f:iQ)(w:J)(Q:Y->J->Prop)(h:ae.sA s f w Q):aK ai 278 #[.slice s.a s.len s.cap,.func (.func f.f) f.pre f.cap] w Q:=okF (λw Q=>ae.sA s f w Q) ay.sA func278 h
def ae.sB(s:ad)(f:iQ)(w:J)(Q:Y->J->Prop):Prop:=∃ (d:Int->J->Prop) (g:Int->J->Nat),d 0 w/\∀ (b:Int) (c:J),d b c->an (decide (b<(s.len:Int))) (∃a5:
 ag,s.a=some a5/\aM b s.len/\aF c (a5.add (Int.toNat b*1)) λn6=>h7 ai f.f/\Calls ai f.f (f.pre++ #[.int .i64 n6]++f.cap) c λi e=>∃h:al,i=.returned (.bool h)/\an h (Q (.int .i64
 b) e) (d (ar (b+1)) e/\g (ar (b+1)) e<g b c)) (Q (.int .i64 (-1)) c)
def ay.sB:aP:=ia
theorem ae.FW(s:ad)(f:iQ)(w:J)(Q:Y->J->Prop)(h:ae.sB s f w Q):aK ai 279 #[.slice s.a s.len s.cap,.func (.func f.f) f.pre f.cap] w Q:=okF (λw Q=>ae.sB s f w Q) ay.sB func279 h
def ae.vc(s:ad)(w:J)(Q:Y->J->Prop):Prop:=an (Option.isNone s.a) (Q () w) (ak (w.alloc (.cells #[] 48)) λw1=>∃s2:ad,∃b:J,Sem.run ai
 (Builtin.append_ #[127,127] 127 #[.slice (some (aa w)) 0 0,s]) w1=.ok s2 b/\Q s2 b)
def ay.vc:aP:=dP
set_option maxRecDepth 100000
def ae.sC(a:av ag)(t:Array Y)(w:J)(Q:Y->J->Prop):Prop:=ak (w.alloc (.cells t 29)) λw1=>bH (λcn:al->J->Prop=>an (Option.isNone a) (cn true w1) (∃h:O
 Y,a8 w1 (aa w) 0 21=some h/\b8 65 #[.agg h.toArray] w1 λu v=>cn (!u) v)) (λ(x:al) c=>an x (Q (1:Int) c) (aF c (aa w) λn9=>∃i:O Y,a8 c ((aa w).add 1) 0 18=
 some i/\hL 66 #[n9,.agg i.toArray] c λe C f=>aF f ((aa w).add 19) λn15=>b5 f ((aa w).add 20) λn16=>hL 67 #[n15,.int .u64 n16] f λj D k=>∃l:
 ag,a=some l/\∃m:av ag,k.cell? l=some (m)/\l2 55 #[m,e] k λE y n27 n=>an (n27 !=0) (Q n27 n) (ak (n.drew) λb=>∃
 o:Nat->Prop,an (!y) (∃g:ag,a=some g/\¬o (g.add 1).block/\aF b (g.add 1) λn31=>bS 16 #[a] b λn34 d=>af o b d/\an (decide (n34>=n31)) (Q (2:Int) d) (∃p
 :ag,a=some p/\∃q:av ag,d.cell? p=some (q)/\bS 23 #[q,e,j] d λn39 z=>Q n39 z)) (an false (Q
 (2:Int) b) (∃r:ag,a=some r/\∃s:av ag,b.cell? r=some (s)/\bS 23 #[s,e,j] b λA B=>Q A B)))))
def ay.sC:aP:=(.s .r (.s dL (.s .r (.s .r (.s .r (.s (.bM (.s .r (.c (.s .r .l) (.s (.cB 9 true ⟨[0,1,2,4,12,4,36,68,132,276,516,1040],[0,1,2,4,12,4,36,68,132,276,516,1024]⟩ [1125899906842624,
 2251799813685248,4503599627370496,9007199254740992,18014398509481984,36028797018963968,72057594037927936,144115188075855872,288230376151711744,576460752303423488,1152921504606846976,562949953421312] [1024,1125899906842624,
 2251799813685248,4503599627370497,13510798882111488,4503599627370497,40532396646334464,76561193665298432,148618787703226368,310748374288564224,580964351930793984,1152921504606846976] (.t 0 (.t 1 (.t 2 (.sp 52 (.t 3 (.t 5 (.t 6 (.t
 7 (.t 8 (.bR 4 (.tail [.r,.r,.r]))))))) (.t 3 (.t 4 (.t 5 (.t 6 (.t 7 (.t 8 (.tail [.r,.r,.r])))))))))))) (.c (.s .r .l) .l))))) (.s .r .l)))))))
theorem ae.FX(a:av ag)(t:Array Y)(w:J)(Q:Y->J->Prop)(h:ae.sC a t w Q):aK ai 15 #[a,.agg t] w Q:=okF (λw Q=>ae.sC a t w Q) ay.sC func15 h
def ae.vd(a:av ag)(w:J)(Q:Y->J->Prop):Prop:=jI 32 #[a] w λb w1=>bS 56 #[b] w1 λn6 c=>Q n6 c
def ay.vd:aP:=(.s .r (.s .r .l))
def ae.qs(n:Int)(w:J)(Q:Y->J->Prop):Prop:=an ((decide (n<16))||(decide (n>1600))) (Q (.tuple #[.pointer none,(1:Int)]) w) (((0:Int)<=n/\n<=n/\n<=kV/\((256:Nat):Int)*n<=
 140737488355328)/\ak (w.alloc (.cells (hK ai 182 (n.toNat)) 182)) λw1=>∃b:av Nat,∃a:J,Sem.run ai (Instr.makeMap 137 none) w1=.ok (.map b) a/\∃fB:
 Array Y,Sem.run ai (Instr.build 141 #[(1,.slice (some (aa w)) (n.toNat) (n.toNat)),(2,.map b)]) a=.ok (.agg fB) a/\ak (a.alloc (.cells fB 141)) λc=>∃dL:ag,(some (aa a):av
 ag)=some dL/\gT 69 #[.pointer (some dL)] c λd=>Q (.tuple #[.pointer (some (aa a)),(0:Int)]) d)
def ay.qs:aP:=(.s .r (.s a5 a3))
def ae.oX(d:av ag)(s:Int)(t:Int)(u:Int)(w:J)(Q:Y->J->Prop):Prop:=ak (w.alloc (.cells #[s,t,.int .u64 u] 46)) λw1=>
 aF w1 (aa w) λbz=>aF w1 ((aa w).add 1) λv=>b5 w1 ((aa w).add 2) λbV=>b8 70 #[d,.agg #[bz,v,.int .u64 bV]] w1 λx l=>an (!x) (Q (.tuple #[.pointer none,(1:Int)]) l) (bS 72 #[d] l λn10 y=>jn 71 #[n10,(3:Int)] y λm n14 n=>an (n14 !=0) (Q (.tuple #[.pointer none,n14]) n) (bK 74 #[m] n λ
 z A=>ed 73 #[(2:Int),.agg #[(4:Int),.int .u64 1,z]] A λB n21 f=>an (n21 !=0) (Q (.tuple #[.pointer none,n21]) f) (((0:Int)<=256/\(256:Int)<=256/\(256:
 Int)<=kV/\((1:Nat):Int)*256<=140737488355328)/\ak (f.alloc (.cells (hK ai 5 (Int.toNat 256)) 5)) λi=>∃o:Array Y,Sem.run ai (Instr.build 151 #[(0,.slice (some (aa f))
 (Int.toNat 256) (Int.toNat 256)),(1,.slice (some (aa f)) (Int.toNat 256) (Int.toNat 256)),(2,B)]) i=.ok (.agg o) i/\∃ (j:Int->J->Prop) (p:Int->J->Nat),j 0 i/\∀ (n26:Int)
 (g:J),j n26 g->an (decide (n26<3)) (((0:Int)<=n26/\n26<((3:Nat):Int))/\∃h:ad,cellAt o (n26.toNat*1)=some (.slice h.a h.len h.cap)/\bS 75 #[d,n26,h] g λn31 k=>an (n31 !=0) (Q (.tuple #[.pointer none,n31]) k) (j (ar (n26+1)) k/\p (ar (n26+1)) k<p n26 g)) (bS 76 #[d] g λn34 b=>an (n34 !=0)
 (Q (.tuple #[.pointer none,n34]) b) (ak (b.alloc kt) λq=>bk q (aa b) [(0:Int),(0:Int),(2:Int),.int .u64 0,.int .u64 0,(0:Int)]/\(6:Nat)=6/\ak (setCells q (aa b) 0 [(0:Int),
 .int .i64 0,(2:Int),.int .u64 0,.int .u64 0,(0:Int)]) λe=>aF e (aa b) λn37=>aF e ((aa b).add 1) λn38=>aF e ((aa b).add 2) λn39=>b5 e ((aa b).add 3) λn40=>b5 e (Addr.add
 (aa b) 4) λn41=>aF e ((aa b).add 5) λC=>bS 77 #[d,.agg #[n37,n38,n39,.int .u64 n40,.int .u64 n41,C],.int .u64 1] e λr c=>an (r !=0)
 (Q (.tuple #[.pointer none,r]) c) (aF c (aa w) λD=>aF c ((aa w).add 1) λE=>b5 c ((aa w).add 2) λF=>aF c (aa b) λG=>aF c ((aa b).add 1) λH=>aF c ((aa
 b).add 2) λI=>b5 c ((aa b).add 3) λK=>b5 c ((aa b).add 4) λL=>aF c ((aa b).add 5) λM=>jn 78 #[d,.agg #[D,E,.int .u64 F],.agg #[G,H,I,.int .u64 K,.int .u64 L,M],.int .u64 1,m] c λN O P=>Q (.tuple #[N,O]) P))))))
def ay.oX:aP:=(.s .r (.s a1 (.s .r (.s a1 (.s .r (.s a1 (.s .r (.s (.s .r (.bM (.loop [(44,(.int .i64))] [0,3,6,43] fo))) (.s (.s .r a1) (.s .r (.s (.s .r a1) (.s .r .l))))))))))))
theorem ae.FY(d:av ag)(a:Int)(b:Int)(c:Int)(w:J)(Q:Y->J->Prop)(h:ae.oX d a b c w Q):aK ai 19 #[d,.agg #[a,b,.int .u64 c]] w Q:=okF (λw Q=>ae.oX d a b c w Q) ay.oX func19 h
def ae.ve(s:av ag)(key:ad)(w:J)(Q:Y->J->Prop):Prop:=bH (λcc:al->J->Prop=>an (Option.isNone s) (cc true w) (b8 79 #[key] w λh aj=>cc
 (!h) aj)) (λ(i:al) a=>an i (Q (.tuple #[false,(1:Int)]) a) (∃dG:ag,s=some dG/\aY a (dG.add 18) λj=>an j (Q (.tuple #[false,(8:Int)]) a) (∃a9:ag,s=some a9/\∃d:av ag,
 a.cell? a9=some (d)/\l2 80 #[d,key] a λo k n15 b=>an (n15 !=0) (bS 81 #[s,n15] b λn18 l=>Q (.tuple #[false,
 n18]) l) (an (!k) (Q (.tuple #[false,(0:Int)]) b) (bS 82 #[s] b λn21 c=>an (n21==0) (Q (.tuple #[false,(2:Int)]) c) (∃e:ag,s=some e/\∃f:av
 ag,c.cell? e=some (f)/\kr 83 #[f,key] c λp n27 g=>an (n27 !=0) (bS 81 #[s,n27] g λn30 m=>Q (.tuple
 #[false,n30]) m) (bS 84 #[s,.int .i64 (-1)] g λn33 n=>Q (.tuple #[.bool (n33==0),n33]) n)))))))
def ay.ve:aP:=(.s .r (.s (.bM (.s (.cY [.r,.r,.r,.split 3]) (.c (.s .r .l) a1))) (.s .r (.s (.bM (.s .r (.c (.s .r .l) eJ))) (.s (.s .r a1) (.s .r (.s .r .l)))))))
def ae.vf(s:av ag)(key:ad)(val:ad)(w:J)(Q:Y->J->Prop):Prop:=bH (λcc:al->J->Prop=>an (Option.isNone s) (cc true w) (b8 79 #[key] w λh
 aj=>cc (!h) aj)) (λ(i:al) a=>an (i||(decide ((val.len:Int)>24))) (Q (1:Int) a) (∃dG:ag,s=some dG/\aY a (dG.add 18) λj=>an j (Q (8:Int) a) (bS 82 #[s] a λn11 b
 =>an (n11==0) (Q (2:Int) b) (∃fK:ag,s=some fK/\∃e:av ag,b.cell? fK=some (e)/\l2 80 #[e,key] b λp k n18 c=>an (n18 !=0) (bS
 81 #[s,n18] c λn21 l=>Q n21 l) (∃f:ag,s=some f/\∃g:av ag,c.cell? f=some (g)/\bS 85 #[g,key,val] c λn26 d=>an (n26 !=0) (bS 81 #[s,n26] d λn29 m=>Q n29 m) (an k (bS 84 #[s,(0:Int)] d λn32
 n=>Q n32 n) (bS 84 #[s,(1:Int)] d λn35 o=>Q n35 o)))))))
def ay.vf:aP:=(.s .r (.s (.bM (.s (.cY [.r,.r,.r,.split 3,.r,.r,.r,.r,.pure 3]) (.c (.s .r .l) eJ))) (.s .r (.s a1 (.s (.s .r a1) (.s a1 (.s .r .l)))))))
def ae.sD(a:av ag)(service:Int)(p:Array Y)(now:Int)(w:J)(Q:Y->J->Prop):Prop:=ak (w.alloc (.cells p 26)) λw1=>ak (w1.alloc fc) λaj=>∃l:O Y,a8 aj
 (aa w) 0 18=some l/\hL 87 #[a,service,.agg l.toArray] aj λm B c=>an (!B) (∃f:Array Y,Sem.run ai (Instr.build 29 #[]) c=.ok (.agg f) c/\bk c (aa w1)
 (Array.toList f)/\Array.size f=21/\ak (setCells c (aa w1) 0 (Array.toList f)) λn=>∃o:O Y,a8 n (aa w1) 0 21=some o/\Q (.tuple #[.agg o.toArray,false,(1:Int)]) n) (∃dM:ag,a=some
 dM/\∃q:av ag,c.cell? dM=some (q)/\l2 55 #[q,m] c λC D n17 d=>an ((n17 !=0)||(!D)) (∃g:Array Y,Sem.run ai (Instr.build
 29 #[]) d=.ok (.agg g) d/\bk d (aa w1) (Array.toList g)/\Array.size g=21/\ak (setCells d (aa w1) 0 (Array.toList g)) λr=>∃s:O Y,a8 r (aa w1) 0 21=some s/\Q (.tuple
 #[.agg s.toArray,false,n17]) r) (hM 88 #[m,C] d λk E e=>ak (e.alloc fc) λt=>bk t (aa e) (Array.toList k)/\Array.size k=
 21/\ak (setCells t (aa e) 0 (Array.toList k)) λb=>an (!E) (∃h:Array Y,Sem.run ai (Instr.build 29 #[]) b=.ok (.agg h) b/\bk b (aa w1) (Array.toList h)/\Array.size h=21/\ak
 (setCells b (aa w1) 0 (Array.toList h)) λu=>∃v:O Y,a8 u (aa w1) 0 21=some v/\Q (.tuple #[.agg v.toArray,false,(4:Int)]) u) (b5 b ((aa e).add 20) λn30=>an (decide (n30<=now))
 (∃i:Array Y,Sem.run ai (Instr.build 29 #[]) b=.ok (.agg i) b/\bk b (aa w1) (Array.toList i)/\Array.size i=21/\ak (setCells b (aa w1) 0 (Array.toList i)) λx=>∃y:O
 Y,a8 x (aa w1) 0 21=some y/\Q (.tuple #[.agg y.toArray,false,(0:Int)]) x) (∃j:O Y,a8 b (aa e) 0 21=some j/\bk b (aa w1) (Array.toList j.toArray)/\Array.size j.toArray=
 21/\ak (setCells b (aa w1) 0 (Array.toList j.toArray)) λz=>∃A:O Y,a8 z (aa w1) 0 21=some A/\Q (.tuple #[.agg A.toArray,true,(0:Int)]) z))))
def ay.sD:aP:=(.s .r (.s .r (.s a1 (.s .r (.s a5 (.s .r (.s (.bM eJ) (.s .r .l))))))))
theorem ae.FZ(a:av ag)(service:Int)(p:Array Y)(now:Int)(w:J)(Q:Y->J->Prop)(h:ae.sD a service p now w Q):aK ai 27 #[a,service,.agg p,.int .u64 now] w Q:=okF (λw Q=>ae.sD a service p now w Q) ay.sD func27 h
def ae.sE(a:av ag)(service:Int)(p:Array Y)(w:J)(Q:Y->J->Prop):Prop:=ak (w.alloc (.cells p 26)) λw1=>∃c:O Y,a8 w1 (aa w) 0 18=some c/\hL
 87 #[a,service,.agg c.toArray] w1 λe f b=>an (!f) (Q (.tuple #[false,(1:Int)]) b) (∃dG:ag,a=some dG/\∃d:av ag,b.cell? dG=some (d)/\kr
 22 #[d,e] b λg n12 h=>Q (.tuple #[g,n12]) h)
def ay.sE:aP:=(.s .r dP)
theorem ae.F0(a:av ag)(service:Int)(p:Array Y)(w:J)(Q:Y->J->Prop)(h:ae.sE a service p w Q):aK ai 28 #[a,service,.agg p] w Q:=okF (λw Q=>ae.sE a service p w Q) ay.sE func28 h
def ae.vg(a:av ag)(service:Int)(backend:Int)(w:J)(Q:Y->J->Prop):Prop:=ak (w.alloc (.cells #[backend] 3)) λw1=>ed 89 #[a,service]
 w1 λb n5 aj=>an (n5 !=0) (Q (.tuple #[(0:Int),n5]) aj) (g4 90 #[a,b,.func (.func 91) #[] #[.pointer (some (aa w))]] aj λn8 n9 c=>Q (.tuple
 #[n8,n9]) c)
def ay.vg:aP:=(.s .r dP)
def ae.vh(a:av ag)(h:ad)(now:Int)(most:Int)(w:J)(Q:Y->J->Prop):Prop:=ak (w.alloc (.cells #[.int .u64 now] 27)) λw1=>an (Option.isNone a) (Q (.tuple #[(),
 .int .i64 0,(1:Int)]) w1) (∃bz:Int,∃c:J,Sem.run ai (Builtin.min_ #[3,3] 3 #[most,(64:Int)]) w1=.ok bz c/\an (decide (bz<1)) (Q (.tuple #[(),(0:Int),
 .int .i64 0]) c) (∃a4:ag,a=some a4/\∃d:av ag,c.cell? a4=some (d)/\ed 42 #[d,h,(),.int .i64 (ar (bz+1))] c λcO n9 b=>
 an (n9 !=0) (Q (.tuple #[(),(0:Int),n9]) b) (bH (λe:ad->ad->J->Prop=>an (decide ((cO.len:Int)>bz)) (((0:Int)<=bz/\bz<=(cO.cap:Int))/\∃dM:ag,(aO cO.a 2 0 cO.cap)=
 some dM/\((0:Int)<=(ar (bz-1))/\(ar (bz-1))<((((bz.toNat)-0):Nat):Int))/\r1 b (dM.add ((ar (bz-1)).toNat*2)) λi=>ak (b.alloc z3) λf=>ak (f.alloc (.cells #[i,
 .slice (some (aa b)) 1 1] 48)) λj=>bK 92 #[.slice (some (aa f)) 2 2] j λk l=>e k ⟨(aO cO.a 2 0 cO.cap),((bz.toNat)-0),(cO.cap-0)⟩ l) (e ⟨none,0,0⟩ cO b)) (λ(m:ad) (n:
 ad) o=>g4 90 #[a,n,.func (.func 93) #[] #[.pointer (some (aa w))]] o λn23 n24 g=>an (n24 !=0) (Q (.tuple #[(),(0:Int),n24]) g) (Q (.tuple #[m,n23,(0:Int)]) g)))))
def ay.vh:aP:=(.s .r (.s a1 (.s .r (.s a1 (.s .r (.s a1 (.s (.ez [(8,.slice),(11,.slice)] [0,6] (.s .r (.c (.s .r .r) .l))) dP)))))))
def ae.vi(a:av ag)(service:Int)(w:J)(Q:Y->J->Prop):Prop:=ed 89 #[a,service] w λe bV w1=>an (bV !=0) (Q (.tuple #[(),bV])
 w1) (∃ (f:ad->Int->J->Prop) (l:ad->Int->J->Nat),f ⟨none,0,0⟩ 0 w1/\∀ (c:ad) (n8:Int) (b:J),f c n8 b->an (decide (n8<(e.len:Int))) (∃ei:ag,e.a=some ei/\aM n8 e.len/\r1 b (ei.add
 (n8.toNat*2)) λm=>r1 b ((ei.add (n8.toNat*2)).add 1) λn=>ak (b.alloc z4) λo=>bk o (aa b) [m,n]/\(2:Nat)=2/\ak (setCells o (aa b) 0
 [m,n]) λg=>r1 g (aa b) λt=>r1 g ((aa b).add 1) λu=>hM 88 #[t,u] g λh v d=>ak
 (d.alloc fc) λp=>bk p (aa d) (Array.toList h)/\Array.size h=21/\ak (setCells p (aa d) 0 (Array.toList h)) λi=>an (!v) (Q (.tuple #[(),(4:Int)]) i) (∃q:O Y,a8 i
 (aa d) 0 21=some q/\∃r:ad,∃s:J,Sem.run ai (Instr.buildSlice 68 1 #[(0,.agg q.toArray)]) i=.ok r s/\∃j:ad,∃k:J,Sem.run ai
 (Builtin.append_ #[68,68] 68 #[c,r]) s=.ok j k/\f j (ar (n8+1)) k/\l j (ar (n8+1)) k<
 l c n8 b)) (Q (.tuple #[c,(0:Int)]) b))
def ay.vi:aP:=(.s .r (.s .r (.s a1 (.s .r (.s (.s .r (.bM (.loop [(8,.slice),(24,(.int .i64))] [22,23] (.s .r (.s (.c .l .l) (.s (.bM (.s .r (.s .r (.s a1 .r)))) .r)))))) (.s .r .l))))))
def ae.vj(a:av ag)(w:J)(Q:Y->J->Prop):Prop:=an (Option.isNone a) (Q (.pointer none) w) (∃a1:ag,a=some a1/\∃bj:av ag,w.cell? a1=some (bj)/\Q (bj) w)
def ay.vj:aP:=dP
def ae.qt(s:av ag)(most:Int)(w:J)(Q:Y->J->Prop):Prop:=an (((Option.isNone s)||(decide (most<1)))||(decide (most>400))) (Q (.tuple #[.pointer none,(1:Int)]) w) (ak (w.alloc (.cells
 #[s,most] 134)) λw1=>Q (.tuple #[.pointer (some (aa w)),(0:Int)]) w1)
def ay.qt:aP:=dG
def ae.vk(s:av ag)(w:J)(Q:Y->J->Prop):Prop:=an (Option.isNone s) (Q (1:Int) w) (∃a1:ag,s=some a1/\aY w (a1.add 18) λbX=>an bX (Q (8:Int) w) (bS 94
 #[s] w λn5 a=>Q n5 a))
def ay.vk:aP:=(.s .r (.s (.bM eJ) (.s .r .l)))
def ae.vl(s:av ag)(a:ad)(to:ad)(most:Int)(w:J)(Q:Y->J->Prop):Prop:=an (Option.isNone s) (Q (.tuple #[(),(1:Int)]) w) (∃a1:ag,s=some a1/\∃bj:av
 ag,w.cell? a1=some (bj)/\ed 111 #[bj,a,to,most] w λb n6 c=>Q (.tuple #[b,n6]) c)
def ay.vl:aP:=dP
def ae.vm(s:av ag)(key:ad)(w:J)(Q:Y->J->Prop):Prop:=an (Option.isNone s) (Q (.tuple #[(),false,(1:Int)]) w) (∃a1:ag,s=some a1/\∃bj:av ag,w.cell? a1
 =some (bj)/\l2 80 #[bj,key] w λa b n7 c=>Q (.tuple #[a,b,n7]) c)
def ay.vm:aP:=dP
def ae.yH(s:av ag)(w:J)(Q:Y->J->Prop):Prop:=an (Option.isNone s) (Q (0:Int) w) (∃a1:ag,s=some a1/\aF w (a1.add 17) λbz=>Q bz w)
def ay.yH:aP:=dP
def ae.oY(t:Array Y)(w:J)(Q:Y->J->Prop):Prop:=ak (w.alloc (.cells t 29)) λw1=>aF w1 (aa w) λbz=>∃b:O Y,a8 w1 ((aa w).add 1) 0 18=some b/\hL 66
 #[bz,.agg b.toArray] w1 λi d a=>bH (λc:al->J->Prop=>an d (aF a ((aa w).add 19) λn9=>b8 124 #[n9] a λe f=>c e f) (c false a)) (λ(g:al) h=>Q g h)
def ay.oY:aP:=(.s .r (.s .r (.s (.cY [.r,.r,.split 3]) .l)))
theorem ae.F1(t:Array Y)(w:J)(Q:Y->J->Prop)(h:ae.oY t w Q):aK ai 65 #[.agg t] w Q:=okF (λw Q=>ae.oY t w Q) ay.oY func65 h
def ae.l5(service:Int)(p:Array Y)(w:J)(Q:Y->J->Prop):Prop:=ak (w.alloc (.cells p 26)) λw1=>∃m:O Y,a8 w1 (aa w) 0 17=some m/\aF w1 ((aa w).add 17) λB=>
 hM 125 #[.agg m.toArray,B] w1 λi C d=>ak (d.alloc z5) λn=>bk n (aa d) (Array.toList i)/\Array.size i=18/\ak (setCells n (aa d) 0 (Array.toList i)) λe=>bH (λo:al->J->
 Prop=>an (!C) (o true e) (∃q:O Y,a8 e (aa d) 0 18=some q/\∃r:O Y,a8 e (aa w) 0 18=some r/\∃s:al,iC ai 26 q.toArray r.toArray s/\o (!s) e)) (λ
 (D:al) t=>bH (λu:al->J->Prop=>an D (u true t) (b8 124 #[service] t λE F=>u (!E) F)) (λ(G:al) f=>an G (Q (.tuple #[(),false]) f) (bH (λ
 v:Int->J->Prop=>aY f (aa w) λH=>an H (v 6 f) (v 4 f)) (λ(n24:Int) I=>ak (I.drew) λb=>∃a:Nat->Prop,¬a ((aa w).add 17).block/\aF b ((aa w).add 17) λn28=>¬a ((aa
 w):ag).block/\∃g:O Y,a8 b (aa w) 0 17=some g/\(bK 126 #[(),.int .u64 (IntKind.wrap .u64 service),(2:Int)] b λx c=>af a b c/\(ak (c.alloc (.cells #[.int .u8 n24,
 .int .u8 (IntKind.wrap .u8 n28)] 5)) λj=>af a c j/\bK 127 #[.agg g.toArray] j λK y=>af a j y/\uY y x c K Q)/\(bK 127 #[.agg g.toArray] c λL h=>af a c
 h/\ak (h.alloc (.cells #[.int .u8 n24,.int .u8 (IntKind.wrap .u8 n28)] 5)) λz=>af a h z/\uY z x h L Q))/\(ak (b.alloc (.cells #[.int .u8 n24,.int .u8 (IntKind.wrap .u8 n28)] 5)) λk=>af
 a b k/\bK 126 #[(),.int .u64 (IntKind.wrap .u64 service),(2:Int)] k λM l=>af a k l/\bK 127 #[.agg g.toArray] l λN A=>af a l A/\uY A M b N Q)))))
def ay.l5:aP:=(.s .r (.s .r (.s (.s (.cY [.r,.r,.r,.split 3,.r,.r,.r,.r,.split 3]) (.c (.s .r .l) .l)) (.s .r (.s (.ez [(8,(.int .u8))] [0,3] (.s .r (.c .r .l))) (.s (.cB 11 true ⟨[0,1,2,0,0,16,32,72,0,256,
 516,1156,3072,8191,16383],[0,1,2,0,0,16,32,72,0,256,512,1156,2048,4096,0]⟩ [4294967296,8589934592,17179869184,34359738368,68719476736,137438953472,274877906944,549755813888,1099511627776,2199023255552,
 4398046511104,8796093022208,17592186044416,16,32] [1,4294967296,8589934592,256,8,68719476736,137438953472,309237645312,8,1099511627776,2199023255552,4964982194176,8796093022208,17592186044416,0] (.t 0 (.t 1 (.t 3 (.t 4 (.t
 5 (.t 6 (.t 8 (.t 9 (.two 2 (.two 7 (.bR 10 (.tail [.r,.r,.r,.r])) 10 (.bR 7 (.tail [.r,.r,.r,.r]))) 7 (.bR 2 (.bR 10 (.tail [.r,.r,.r,.r]))))))))))))) .l))))))
theorem ae.F2(service:Int)(p:Array Y)(w:J)(Q:Y->J->Prop)(h:ae.l5 service p w Q):aK ai 66 #[service,.agg p] w Q:=okF (λw Q=>ae.l5 service p w Q) ay.l5 func66 h
def ae.qu(backend:Int)(a:Int)(w:J)(Q:Y->J->Prop):Prop:=b8 124 #[backend] w λb w1=>an (!b) (Q (.tuple #[(),false]) w1) (bK 126 #[(),
 .int .u64 (IntKind.wrap .u64 backend),(2:Int)] w1 λc d=>bK 126 #[c,.int .u64 a,(8:Int)] d λe f=>Q (.tuple #[e,true]) f)
def ay.qu:aP:=dP
def ae.vn(f:av ag)(w:J)(Q:Y->J->Prop):Prop:=∃ (c:Int->J->Prop) (d:Int->J->Nat),c 0 w/\∀ (a:Int) (b:J),c a b->an (decide (a<4)) (∃a5:ag,f=some a5/\
 ((0:Int)<=a/\a<((4:Nat):Int))/\st b (Addr.add a5 (a.toNat*1)) (.int .i64 (-1)) λe=>c (ar (a+1)) e/\d (ar (a+1)) e<d a b) (Q (.tuple #[]) b)
def ay.vn:aP:=(.s .r (.bM (.loop [(3,(.int .i64))] [0] a2)))
def ae.qv(d:av ag)(l:Int)(m:Int)(n:Int)(w:J)(Q:Y->J->Prop):Prop:=ak (w.alloc (.cells #[l,m,.int .u64 n] 46)) λw1=>
 bH (λcn:al->J->Prop=>an (!(Option.isNone d)) (aF w1 (aa w) λo=>cn (decide (o>=8)) w1) (cn false w1)) (λ(p:al) a=>bH (λg:al->J->Prop=>an p (aF a (aa w) λn7=>g (decide (n7<=64)) a)
 (g false a)) (λ(q:al) b=>bH (λh:al->J->Prop=>an q (aF b ((aa w).add 1) λn11=>h (decide (n11>=1)) b) (h false b)) (λ(r:al) c=>bH (λi:al->J->Prop=>an r (aF c
 ((aa w).add 1) λn15=>i (decide (n15<=1000)) c) (i false c)) (λ(s:al) e=>bH (λj:al->J->Prop=>an s (b5 e ((aa w).add 2) λn19=>j (decide (n19>=1)) e) (j false e)) (λ
 (t:al) f=>bH (λk:al->J->Prop=>an t (b5 f ((aa w).add 2) λn23=>k (decide (n23<=1048576)) f) (k false f)) (λ(u:al) v=>Q u v))))))
def ay.qv:aP:=(.s .r (.s (.cY [.r,.r,.r,.split 3,.r,.r,.r,.r,.split 3,.r,.r,.r,.r,.split 3,.r,.r,.r,.r,.split 3,.r,.r,.r,.r,.split 3,.r,.r,.r,.r,.split 3]) .l))
def ae.qw(n:Int)(first:Int)(w:J)(Q:Y->J->Prop):Prop:=b8 128 #[n] w λg w1=>an (((!g)||(decide (first<0)))||(decide (first>n))) (Q (.tuple #[.pointer none,(1:Int)])
 w1) (bS 129 #[n] w1 λn6 d=>((0:Int)<=n6/\n6<=n6/\n6<=kV/\((1:Nat):Int)*n6<=140737488355328)/\ak (d.alloc (.cells (hK ai 5 (n6.toNat)) 5)) λb=>ak (b.alloc (.cells
 #[n,.slice (some (aa d)) (n6.toNat) (n6.toNat),()] 218)) λh=>∃ (c:Int->J->Prop) (e:Int->J->Nat),c 0 h/\∀ (n11:Int) (a:J),c n11 a->an (decide (n11<
 first)) (∃dY:ag,(some (aa b):av ag)=some dY/\r1 a (dY.add 1) λi=>gT 130 #[i,n11] a λf=>c (ar (n11+1)) f/\e (ar (n11+1)) f<e n11 a)
 (gT 131 #[.pointer (some (aa b))] a λj=>Q (.tuple #[.pointer (some (aa b)),(0:Int)]) j))
def ay.qw:aP:=(.s .r (.s (.s (.cY [.r,.r,.r,.r,.pure 2,.r,.r,.r,.pure 3]) (.c (.s .r .l) .l)) (.s .r (.s (.s .r (.bM (.loop [(27,(.int .i64))] [6,26] a2))) (.s .r (.s .r .l))))))
def ae.vo(d:av ag)(w:J)(Q:Y->J->Prop):Prop:=an (Option.isNone d) (Q (0:Int) w) (∃a1:ag,d=some a1/\r1 w (a1.add 4) λs2=>Q (.int .i64 (s2.len:Int)) w)
def ay.vo:aP:=dP
def ae.vp(no:Int)(u:Int)(v:Int)(x:ad)(w:J)(Q:Y->J->Prop):Prop:=ak (w.alloc (.cells #[u,.int .u64 v,x] 150)) λw1=>
 b8 132 #[no] w1 λy aj=>bH (λj:al->J->Prop=>an (!y) (j true aj) (aF aj (aa w) λn6=>b8 133 #[n6] aj λz A=>j (!z) A)) (λ(B:al) f=>an B (Q (.tuple
 #[(),(1:Int)]) f) (r1 f ((aa w).add 2) λC=>an (decide ((C.len:Int)>232)) (Q (.tuple #[(),(10:Int)]) f) (ak (f.alloc (.cells #[.int .u8 83,.int .u8 84,.int .u8 78,.int .u8 67]
 5)) λD=>∃k:ad,∃g:J,Sem.run ai (convert 48 48 (.slice (some (aa f)) 4 4)) D=.ok k g/\aF g (aa w) λn16=>ak (g.alloc (.cells #[.int .u8 1,
 .int .u8 (IntKind.wrap .u8 n16)] 5)) λl=>ak (l.alloc (.cells #[k,.slice (some (aa g)) 2 2] 48)) λE=>bK 92 #[.slice (some (aa l)) 2 2] E λF m=>r1 m
 ((aa w).add 2) λG=>bK 126 #[F,.int .u64 (IntKind.wrap .u64 (G.len:Int)),(2:Int)] m λH I=>bK 126 #[H,.int .u64 (IntKind.wrap .u64 no),(4:Int)] I λK n=>b5 n ((aa w).add 1) λn29=>bK 126 #[K,.int .u64 n29,(8:Int)] n λo L=>bH (λp:ad->J->Prop=>ak (L.drew) λb=>∃d:Nat->Prop,¬
 d ((aa w).add 2).block/\r1 b ((aa w).add 2) λq=>¬d ((aa w).add 2).block/\r1 b ((aa w).add 2) λe=>(((0:Int)<=4/\(4:Int)<=4/\(4:Int)<=kV/\((1:Nat):Int)*4<=140737488355328)/\ak
 (b.alloc (.cells (hK ai 5 (Int.toNat 4)) 5)) λh=>af d b h/\(yy e)/\ak (h.alloc (.cells (hK ai 5 ((ar (232-(e.len:Int))).toNat)) 5)) λr=>af d h r/\
 yz r o b q h e p)/\((yy e)/\ak (b.alloc (.cells (hK ai 5 ((ar (232-(e.len:Int))).toNat)) 5)) λi=>af d b i/\((0:Int)<=4/\(4:Int)<=4/\(4:Int)<=kV/\((1:Nat):
 Int)*4<=140737488355328)/\ak (i.alloc (.cells (hK ai 5 (Int.toNat 4)) 5)) λs=>af d i s/\yz s o i q b e p)) (λ(c:ad) M=>ak (M.drew) λN=>∃U:Nat->Prop,((0:
 Int)<=20/\20<=(c.len:Int))/\nD 134 #[c] N λO P=>∃V:Nat->Prop,bK 126 #[(),.int .u64 (IntKind.wrap .u64 O),(4:Int)] P λR S=>∃T:Int,∃t
 :J,Sem.run ai (Builtin.copy_ #[48,48] 3 #[.slice (aO c.a 1 (Int.toNat 20) c.cap) (c.len-(Int.toNat 20)) (c.cap-(Int.toNat 20)),R]) S=.ok T t
 /\Q (.tuple #[c,(0:Int)]) t))))
def ay.vp:aP:=(.s .r (.s (.bM (.s (.cY [.r,.r,.r,.r,.split 4]) (.c (.s .r .l) a1))) (.s .r (.s .r (.s .r (.s .r (.s (.ez [(6,.slice)] [] (.cB 9 true ⟨[0,0,0,4,0,16,32,64,128,267,512,2047],[0,0,0,4,0,16,
 32,64,128,267,512,1025]⟩ [17592186044416,35184372088832,70368744177664,140737488355328,281474976710656,562949953421312,1125899906842624,2251799813685248,4503599627370496,9007199254740992,18014398509481984,64] [64,0,8,
 70368744177664,8,281474976710656,562949953421312,1125899906842624,2251799813685248,4697113673859072,9007199254740992,18014398509481984] (.t 0 (.t 2 (.t 3 (.t 4 (.t 5 (.t 6 (.t 7 (.two 1 (.bR 8 (.tail [.r,.r,.r])) 8 (.bR 1 (.tail
 [.r,.r,.r])))))))))))) (.s (.cB 6 true ⟨[0,1,0,4,8,24,34],[0,1,0,4,8,16,34]⟩ [36028797018963968,72057594037927936,144115188075855872,288230376151711744,576460752303423488,1152921504606846976,2305843009213693952] [64,
 36028797018963968,64,144115188075855872,288230376151711744,576460752303423488,1224979098644774912] (.t 0 (.t 1 (.t 2 (.out 3 true (.t 4 (.out 5 false (.tail [.r])))))))) (.s .r .l)))))))))
def ae.sF(s:av ag)(w:J)(Q:Y->J->Prop):Prop:=an (Option.isNone s) (Q () w) (∃a1:ag,s=some a1/\r1 w (a1.add 1) λs2=>bK 135 #[s2] w λa b=>Q a b)
def ay.sF:aP:=dP
theorem ae.F3(s:av ag)(w:J)(Q:Y->J->Prop)(h:ae.sF s w Q):aK ai 74 #[s] w Q:=okF (λw Q=>ae.sF s w Q) ay.sF func74 h
def ae.vq(d:av ag)(i:Int)(b:ad)(w:J)(Q:Y->J->Prop):Prop:=b8 108 #[d,i] w λs w1=>an ((!s)||((b.len:Int) !=256)) (Q (1:Int) w1) (∃a4:
 ag,d=some a4/\b8 136 #[.pointer (some a4),(2:Int)] w1 λt n=>an t (Q (3:Int) n) (ak (n.drew) λe=>∃c:Nat->Prop,∃ei:ag,d=some ei/\¬c (ei.add 5).block/\∃h:av Nat,
 e.cell? (ei.add 5)=some (.map h)/\∃fK:ag,d=some fK/\¬c (fK.add 5).block/\∃j:av Nat,e.cell? (fK.add 5)=some (.map j)/\256<=b.len/\∃dP:ag,b.a=some dP/\¬c dP.block/\∃k:O Y,
 a8 e dP 0 256=some k/\(∃o:ad,∃f:J,Sem.run ai (Instr.lookup 137 (.map j) i false) e=.ok o f/\af c e f/\∃p:ad,∃l:J,
 Sem.run ai (Instr.buildSlice 136 1 #[(0,.agg k.toArray)]) f=.ok p l/\af c f l/\yw o p l c h i d Q)/\(∃q:ad,∃g:J,Sem.run ai (Instr.buildSlice
 136 1 #[(0,.agg k.toArray)]) e=.ok q g/\af c e g/\∃r:ad,∃m:J,Sem.run ai (Instr.lookup 137 (.map j) i false) g=.ok r m/\af c g m/\yw r q m c h i d Q)))
def ay.vq:aP:=(.s .r (.s (.bM (.s (.cY [.r,.r,.r,.r,.r,.pure 3]) (.c (.s .r .l) a1))) (.s (.cB 16 true ⟨[0,1,2,4,0,0,32,64,128,0,768,0,2048,4096,8192,17408,65535],[0,1,2,4,0,0,32,64,128,0,
 768,0,2048,4096,8192,17408,32792]⟩ [4194304,8388608,16777216,33554432,67108864,134217728,268435456,536870912,1073741824,2147483648,4294967296,8589934592,17179869184,34359738368,68719476736,137438953472,0] [1,4194304,
 8388608,16777216,2,1,134217728,268435456,536870912,2,3221225472,4,8589934592,17179869184,34359738368,73014444032,137539616768] (.t 0 (.t 1 (.t 2 (.t 3 (.t 4 (.t 5 (.t 6 (.t 7 (.t 8 (.t 9 (.t 11 (.t 12 (.t 13 (.two 10 (.bR 14
 (.bR 15 (.tail [.r]))) 14 (.bR 10 (.bR 15 (.tail [.r])))))))))))))))))) (.s .r (.s .r .l)))))
def ae.vr(d:av ag)(w:J)(Q:Y->J->Prop):Prop:=an (Option.isNone d) (Q (1:Int) w) (∃a1:ag,d=some a1/\b8 136 #[.pointer (some a1),(3:Int)] w λj aj=>an j (Q
 (3:Int) aj) (∃a5:ag,d=some a5/\∃g:av Nat,aj.cell? (a5.add 5)=some (.map g)/\∃ (a:Y) (h:J),Sem.run ai (Instr.range 137 (.map g)) aj=.ok a h/\∃ (c:J->Prop)
 (i:J->Nat),c h/\∀ (b:J),c b->(∃ (k:Y) (l:Y) (e:J),Sem.run ai (Instr.next (a) false 0) b=.ok (.tuple #[true,k,l]) e/\an true (fA a e d c i b) (yA d e
 Q))\/(∃f:J,Sem.run ai (Instr.next (a) false 0) b=.ok (.tuple #[false]) f/\an false (fA a f d c i b) (yA d f Q))))
def ay.vr:aP:=(.s .r (.s (.bM eJ) (.s (.s .r (.bM (.loop [] [0,16] (.s .r (.s (.c .l .l) (.bM (.s (.cY [.um [(.one (.int .i64)),(.one .any)]]) (.cB 8 true ⟨[0,1,2,4,0,0,0,96,255,511],[0,1,2,4,0,0,0,
 96,24,384]⟩ [2097152,4194304,8388608,16777216,33554432,67108864,134217728,268435456,536870912,0] [1,2097152,4194304,8388608,8,1,8,201326592,50331648,805306368] (.t 0 (.t 1 (.t 2 (.t 3 (.t 4 (.t 5 (.t 6 (.bR 7 (.tail
 [.r,.r]))))))))))))))))) (.s .r (.s .r .l)))))
def ae.nH(d:av ag)(i:Int)(j:Int)(k:Int)(l:Int)(m:Int)(n:Int)(gen:Int)(w:J)(Q:Y->J->Prop):Prop:=ak (w.alloc (.cells #[i,j,k,.int .u64 l,.int .u64 m,n] 104)) λw1=>(2:Int)≠0/\ak (w1.drew) λaj=>∃b:Nat->Prop,¬b ((aa w):ag).block/\aF aj (aa w) λbV=>aF aj (Addr.add
 (aa w) 1) λn5=>aF aj ((aa w).add 2) λn6=>b5 aj ((aa w).add 3) λn7=>b5 aj ((aa w).add 4) λn8=>aF aj ((aa w).add 5) λn9=>bS 72 #[d] aj λn12 c=>af b aj c/\bK
 138 #[.agg #[bV,n5,n6,.int .u64 n7,.int .u64 n8,n9],n12] c λo e=>∃p:Nat->Prop,∃f:Array Y,(∀g:J,Sem.run ai (Instr.build 150
 #[(0,.int .i64 3),(1,.int .u64 gen),(2,o)]) g=.ok (.agg f) g)/\ed 73 #[.int .i64 (ar (Int.tmod gen 2)),.agg f] e λq n22 a=>af p e a/\an (n22 !=0) (Q n22
 a) (bS 75 #[d,.int .i64 (ar (Int.tmod gen 2)),q] a λn25 h=>an (n25 !=0) (Q n25 h) (bS 76 #[d] h λn28 r=>Q n28
 r))
def ay.nH:aP:=(.s .r (.s .r (.s (.cB 12 true ⟨[0,0,0,0,8,20,34,97,128,256,256,1023,4095],[0,0,0,0,8,20,34,65,128,256,256,512,1024]⟩ [32768,65536,131072,262144,524288,1048576,2097152,4194304,
 16384,8388608,16777216,256,512] [128,4,16,1,262144,655360,1114112,2129920,4194304,16384,16384,8388608,16777216] (.t 0 (.t 1 (.t 2 (.t 3 (.bR 4 (.out 5 true (.t 6 (.bR 7 (.t 8 (.t 9 (.t 10 (.t 11 (.tail [.r]))))))))))))))
 (.s a1 (.s (.s .r a1) (.s .r .l))))))
theorem ae.F4(d:av ag)(a:Int)(b:Int)(c:Int)(e:Int)(f:Int)(g:Int)(gen:Int)(w:J)(Q:Y->J->Prop)(h:ae.nH d a b c e f g gen w Q):aK ai 77 #[d,.agg #[a,b,c,.int .u64 e,.int .u64 f,g],.int .u64 gen] w Q:=okF (λw Q=>ae.nH d a b c e f g gen w Q) ay.nH func77 h
set_option maxRecDepth 100000
def ae.oZ(d:av ag)(f:Int)(g:Int)(h:Int)(i:Int)(j:Int)(k:Int)(l:Int)(m:Int)(n:Int)(gen:Int)(s:av ag)(w:J)(Q:Y->J
 ->Prop):Prop:=ak (w.alloc (.cells #[f,g,.int .u64 h] 46)) λw1=>ak (w1.alloc (.cells #[i,j,k,.int .u64 l,.int .u64 m,
 n] 104)) λaj=>aF aj (aa w) λo=>jn 139 #[d,o] aj λc n7 b=>an (n7 !=0) (Q (.tuple #[.pointer none,n7]) b) (aF b (aa w1) λn8=>aF b ((aa w1).add 1)
 λn9=>jn 140 #[c,s,.int .u64 (IntKind.wrap .u64 (gen+1)),n8,n9] b λp n13 a=>an (n13 !=0) (Q (.tuple #[.pointer none,n13]) a) (aF a (aa w) λn14=>aF a
 ((aa w).add 1) λn15=>b5 a ((aa w).add 2) λn16=>aF a (aa w1) λn17=>aF a ((aa w1).add 1) λn18=>aF a ((aa w1).add 2) λn19=>b5 a ((aa w1).add 3) λn20=>b5 a ((aa w1).add 4)
 λn21=>aF a ((aa w1).add 5) λn22=>b5 a ((aa w1).add 3) λn23=>aF a ((aa w1).add 5) λn24=>∃e:Array Y,Sem.run ai (Instr.build 158 #[(0,p),(1,d),(2,
 c),(3,s),(4,.agg #[n14,n15,.int .u64 n16]),(5,.agg #[n17,n18,n19,.int .u64 n20,.int .u64 n21,n22]),(6,.int .u64 gen),(7,.int .u64 n23),(10,
 n24)]) a=.ok (.agg e) a/\ak (a.alloc (.cells e 158)) λq=>Q (.tuple #[.pointer (some (aa a)),(0:Int)]) q))
def ay.oZ:aP:=(.s .r (.s .r (.s a1 dP)))
theorem ae.F5(d:av ag)(a:Int)(b:Int)(c:Int)(e:Int)(f:Int)(g:Int)(i:Int)(j:Int)(k:Int)(gen:Int)(s:av ag)(w:J)(Q:Y->J->Prop)(h:ae.oZ d a b c e f g i j k gen s w Q):aK ai 78 #[d,.agg #[a,b,.int .u64 c],.agg #[e,f,g,.int .u64 i,.int .u64 j,k],.int .u64 gen,s] w Q:=okF (λw Q=>ae.oZ d a b c e f g i j k gen s w Q) ay.oZ func78 h
def ae.qx(a:ad)(w:J)(Q:Y->J->Prop):Prop:=Q (.bool ((decide ((a.len:Int)>=1))&&(decide ((a.len:Int)<=24)))) w
def ay.qx:aP:=eo
def ae.vt(t:av ag)(key:ad)(w:J)(Q:Y->J->Prop):Prop:=bH (λcc:al->J->Prop=>an (Option.isNone t) (cc true w) (b8 141 #[key] w λn aj=>cc (!n)
 aj)) (λ(o:al) f=>an o (an (Option.isNone t) (Q (.tuple #[(),false,(1:Int)]) f) (Q (.tuple #[(),false,(0:Int)]) f)) (ed 142 #[t,key] f λc n10 b=>an ((n10 !=0)||((c.len:Int)==0)) (Q (.tuple #[(),false,n10]) b) (∃dM:ag,c.a=some dM/\((0:Int)<=(ar ((c.len:Int)-1))/\(ar ((c.len:Int)-1))<
 (c.len:Int))/\aY b ((dM.add ((ar ((c.len:Int)-1)).toNat*6)).add 1) λg=>r1 b (((dM.add ((ar ((c.len:Int)-1)).toNat*6)).add 1).add 1) λh=>r1 b (((dM.add ((ar ((c.len:Int)-1)).toNat*6)).add
 1).add 2) λi=>r1 b (((dM.add ((ar ((c.len:Int)-1)).toNat*6)).add 1).add 3) λj=>ak (b.alloc cU) λk=>bk k (aa b) [g,h,i,j]/\(4:Nat)=4/\ak (setCells k (aa b) 0 [g,h,i,j]) λd=>aY d (aa b) λp=>r1 d ((aa b).add 1) λq=>
 r1 d ((aa b).add 2) λr=>r1 d ((aa b).add 3) λs=>kW 143 #[.agg #[p,q,r,s],key] d
 λn24 u e=>an (!u) (Q (.tuple #[(),false,(0:Int)]) e) (r1 e ((aa b).add 2) λl=>∃m:ag,l.a=some m/\aM n24 l.len/\r1 e (m.add (n24.toNat*1)) λv=>Q (.tuple
 #[v,true,(0:Int)]) e))))
def ay.vt:aP:=(.s .r (.s (.s (.cY [.r,.r,.r,.split 3]) (.c (.s a1 (.s .r .l)) .l)) (.s .r (.s dY (.s .r dP)))))
def ae.vu(s:av ag)(E:Int)(w:J)(Q:Y->J->Prop):Prop:=∃a1:ag,s=some a1/\st w (a1.add 18) true λaj=>∃a3:ag,s=some a3/\st aj (a3.add 16) (0:Int) λn=>∃
 a5:ag,s=some a5/\∃o:av ag,n.cell? (a5.add 3)=some (o)/\gT 144 #[o] n λp=>∃a9:ag,s=some a9/\∃q:av ag,p.cell? (a9.add 2)=some (q)/\bK
 145 #[q] p λg F=>∃ (h:Int->J->Prop) (r:Int->J->Nat),h 0 F/\∀ (n16:Int) (c:J),h n16 c->an (decide (n16<(g.len:Int))) (∃fo:ag,g.a=some fo/\aM n16
 g.len/\aF c (fo.add (n16.toNat*1)) λn19=>∃t:ag,s=some t/\∃v:av ag,c.cell? (t.add 2)=some (v)/\b8 146 #[v,n19] c λL x=>h (ar (n16
 +1)) x/\r (ar (n16+1)) x<r n16 c) (bH (λy:J->Prop=>ak (c.drew) λb=>∃d:Nat->Prop,∃i:ag,s=some i/\¬d (i.add 2).block/\∃z:av ag,b.cell? (i.add 2)=some (.pointer
 z)/\∃j:ag,s=some j/\¬d (j.add 3).block/\∃A:av ag,b.cell? (j.add 3)=some (A)/\∃k:ag,s=some k/\¬d (k.add 13).block/\b5 b (k.add 13) λn33=>∃l:ag,s=some
 l/\¬d (l.add 7).block/\aF b (l.add 7) λn35=>∃m:ag,s=some m/\¬d ((m.add 7).add 1).block/\aF b ((m.add 7).add 1) λn37=>jn 140 #[z,A,.int .u64 (IntKind.wrap .u64
 (n33+1)),n35,n37] b λG n41 e=>af d b e/\an (n41==0) (∃f:ag,s=some f/\(∃u:Y,e.cell? f=some u)/\e.frozen? f=false/\ak (e.setCell f (G)) λH=>
 y H) (y e)) (λB=>∃C:ag,s=some C/\aF B ((C.add 7).add 5) λI=>∃D:ag,s=some D/\st B (D.add 17) I λK=>Q E K))
def ay.vu:aP:=(.s .r (.s .r (.s .r (.s (.s .r (.bM (.loop [(26,(.int .i64))] [0,1,24,25] a2))) (.s (.ez [] [0,1] (.s (.cB 28 true ⟨[0,1,2,4,0,16,32,64,0,256,512,1024,2048,0,8192,16384,32768,65536,
 0,262144,524288,1048576,2097152,4329608,8388608,16777216,16777216,67108863,268435455],[0,1,2,4,0,16,32,64,0,256,512,1024,2048,0,8192,16384,32768,65536,0,262144,524288,1048576,2097152,4329608,8388608,
 16777216,16777216,33554432,67108864]⟩ [274877906944,549755813888,1099511627776,2199023255552,4398046511104,8796093022208,17592186044416,35184372088832,70368744177664,140737488355328,281474976710656,562949953421312,
 1125899906842624,2251799813685248,4503599627370496,9007199254740992,18014398509481984,36028797018963968,72057594037927936,144115188075855872,288230376151711744,576460752303423488,1152921504606846976,2305843009213693952,
 137438953472,4611686018427387904,9223372036854775808,128,256] [1,274877906944,549755813888,1099511627776,1,4398046511104,8796093022208,17592186044416,1,70368744177664,140737488355328,281474976710656,562949953421312,1,
 2251799813685248,4503599627370496,9007199254740992,18014398509481984,1,72057594037927936,144115188075855872,288230376151711744,576460752303423488,1190113584927997952,2305843009213693952,137438953472,137438953472,
 4611686018427387904,9223372036854775808] (.t 0 (.t 1 (.t 2 (.t 3 (.t 4 (.t 5 (.t 6 (.t 7 (.t 8 (.t 9 (.t 10 (.t 11 (.t 12 (.t 13 (.t 14 (.t 15 (.t 16 (.t 17 (.t 18 (.t 19 (.t 20 (.t 21 (.t 22 (.bR 23 (.t 24 (.t 25 (.t 26 (.t 27 (.tail
 [.r])))))))))))))))))))))))))))))) (.s .r (.c .r .l)))) (.s .r (.s .r .l)))))))
def ae.vv(s:av ag)(w:J)(Q:Y->J->Prop):Prop:=∃a1:ag,s=some a1/\∃bj:av ag,w.cell? a1=some (bj)/\g4 147 #[bj] w λn5 n6 a=>∃dG:ag,s
 =some dG/\∃b:av ag,a.cell? (dG.add 3)=some (b)/\bS 148 #[b] a λn11 d=>∃n12:Int,∃c:J,Sem.run ai (Builtin.max_ #[3,3] 3 #[.int .i64 (ar ((ar (n11
 -(ar (2*n6))))-4)),(0:Int)]) d=.ok n12 c/\Q n12 c
def ay.vv:aP:=a3
def ae.vw(t:av ag)(key:ad)(w:J)(Q:Y->J->Prop):Prop:=bH (λcc:al->J->Prop=>an (Option.isNone t) (cc true w) (b8 141 #[key] w λl aj=>cc
 (!l) aj)) (λ(m:al) f=>an m (Q (.tuple #[false,(1:Int)]) f) (ed 142 #[t,key] f λb n10 d=>an ((n10 !=0)||((b.len:Int)==0)) (Q (.tuple #[false,n10]) d) (∃dM:ag,b.a=some dM/\((0:Int)<=(ar ((b.len:Int)-1))/\(ar ((b.len:Int)-1))<(b.len:Int))/\aY d ((dM.add ((ar ((b.len:Int)-1)).toNat*6)).add 1) λn=>r1 d (((dM.add ((ar
 ((b.len:Int)-1)).toNat*6)).add 1).add 1) λo=>r1 d (((dM.add ((ar ((b.len:Int)-1)).toNat*6)).add 1).add 2) λp=>r1 d (((dM.add ((ar ((b.len:Int)-1)).toNat*6)).add 1).add 3) λq=>nE 149
 #[.agg #[n,o,p,q],key] d λg h i j r c=>ak (c.alloc cU) λk=>bk k (aa c) [g,
 h,i,j]/\(4:Nat)=4/\ak (setCells k (aa c) 0 [g,h,i,j])
 λe=>an (!r) (Q (.tuple #[false,(0:Int)]) e) (aY e (aa c) λs=>r1 e ((aa c).add 1) λu=>r1 e ((aa c).add 2) λv=>r1 e ((aa c).add 3) λx=>bS 150
 #[t,b,.agg #[s,u,v,x]] e λn31 y=>Q (.tuple #[.bool (n31==0),n31]) y))))
def ay.vw:aP:=(.s .r (.s dL (.s .r (.s dY (.s .r g5)))))
def ae.vx(s:av ag)(keys:Int)(w:J)(Q:Y->J->Prop):Prop:=∃a1:ag,s=some a1/\aF w (a1.add 17) λbz=>∃a3:ag,s=some a3/\st w (a3.add 17) (.int .i64 (ar (bz+keys))) λa=>
 bH (λc:J->Prop=>∃dL:ag,s=some dL/\aF a (dL.add 16) λn7=>an (n7==0) (∃eo:ag,s=some eo/\b5 a (eo.add 14) λn9=>∃ei:ag,s=some ei/\st a (ei.add 15) (.int .u64 n9) λf=>c f) (c
 a)) (λd=>∃dY:ag,s=some dY/\aF d (dY.add 16) λn14=>∃eJ:ag,s=some eJ/\st d (eJ.add 16) (.int .i64 (ar (n14+1))) λg=>ak (g.drew) λb=>∃fo:ag,s=some fo/\¬False/\aF b
 (fo.add 16) λn19=>∃e:ag,s=some e/\¬False/\aF b ((e.add 4).add 1) λn21=>an (decide (n19>=n21)) (bS 94 #[s] b λn24 h=>Q n24 h) (Q (0:Int) b))
def ay.vx:aP:=(.s .r (.s .r (.s (.ez [] [0] (.s .r (.c .r .l))) (.s .r (.s (.s (.cB 9 false ⟨[0,1,2,4,0,16,32,64,128,264],[0,1,2,4,0,16,32,64,128,264]⟩ [4294967296,8589934592,17179869184,34359738368,
 68719476736,137438953472,274877906944,549755813888,1099511627776,2199023255552] [1,4294967296,8589934592,17179869184,1,68719476736,137438953472,274877906944,549755813888,1133871366144] (.t 0 (.t 1 (.t 2 (.t 3 (.t 4 (.t 5 (.t 6
 (.t 7 (.t 8 (.tail [.r]))))))))))) (.c (.s .r .l) .l)) (.s .r .l))))))
def ae.vy(t:av ag)(key:ad)(val:ad)(w:J)(Q:Y->J->Prop):Prop:=bH (λcc:al->J->Prop=>an (Option.isNone t) (cc true w) (b8 141 #[key] w λv aj
 =>cc (!v) aj)) (λ(x:al) l=>an (x||(decide ((val.len:Int)>24))) (Q (1:Int) l) (ak (l.drew) λi=>∃j:Nat->Prop,∃a9:ag,t=some a9/\¬j (a9.add 1).block/\∃m:av ag,i.cell? (a9.add 1)=
 some (m)/\∃dM:ag,t=some dM/\¬j (dM.add 4).block/\aF i (dM.add 4) λn12=>bS 148 #[m] i λn15 k=>af j i k/\an (decide (n15<(ar ((ar (2*n12))+3)))) (Q (2:Int)
 k) (ed 142 #[t,key] k λb n19 c=>an (n19 !=0) (Q n19 c) (ak (c.alloc cU) λn=>bk n (aa c) [true,(),(),()]/\(4:Nat)=4/\ak (setCells n (aa c) 0 [true,(),(),()]) λe=>bH (λo:J->Prop=>an (decide ((b.len:Int)>0)) (∃g:ag,b.a=some g/\((0:Int)<=(ar
 ((b.len:Int)-1))/\(ar ((b.len:Int)-1))<(b.len:Int))/\aY e ((g.add ((ar ((b.len:Int)-1)).toNat*6)).add 1) λy=>r1 e (((g.add ((ar ((b.len:Int)-1)).toNat*6)).add 1).add 1) λz=>r1 e
 (((g.add ((ar ((b.len:Int)-1)).toNat*6)).add 1).add 2) λA=>r1 e (((g.add ((ar ((b.len:Int)-1)).toNat*6)).add 1).add 3) λB=>sx e c y z A B o) (o e)) (λh=>aY h (aa c) λ
 C=>r1 h ((aa c).add 1) λD=>r1 h ((aa c).add 2) λE=>r1 h ((aa c).add 3) λF=>nE 151 #[.agg #[C,D,E,F],key,val] h λp q r s G d=>ak (d.alloc cU) λu=>bk u (aa d) [p,q,r,
 s]/\(4:Nat)=4/\ak (setCells u (aa d) 0 [p,q,r,s]) λf=>an (!G) (Q (4:Int) f) (aY f (aa d)
 λH=>r1 f ((aa d).add 1) λI=>r1 f ((aa d).add 2) λK=>r1 f ((aa d).add 3) λL=>bS 150 #[t,b,.agg #[H,I,K,L]] f λM N=>Q M N))))))
def ay.vy:aP:=(.s .r (.s (.bM (.s (.cY [.r,.r,.r,.split 3,.r,.r,.r,.r,.pure 3]) (.c (.s .r .l) (.s (.cB 11 true ⟨[0,1,2,4,8,0,32,64,128,256,512,1040,2064],[0,1,2,4,8,0,32,64,128,256,512,1040,
 2048]⟩ [67108864,134217728,268435456,536870912,1073741824,2147483648,4294967296,8589934592,17179869184,34359738368,68719476736,137438953472,33554432] [1,67108864,134217728,268435456,536870912,1,2147483648,4294967296,
 8589934592,17179869184,34359738368,69793218560,137438953472] (.t 0 (.t 1 (.t 2 (.t 3 (.t 5 (.t 6 (.t 7 (.t 8 (.t 9 (.t 10 (.bR 4 (.tail [.r,.r]))))))))))))) (.c (.s .r .l) .l))))) (.s .r (.s a1 (.s .r (.s (.ez [] [0,1,2,7,9] (.s
 .r (.c .r .l))) dP))))))
def ae.sG(a:av ag)(service:Int)(p:Array Y)(w:J)(Q:Y->J->Prop):Prop:=ak (w.alloc (.cells p 26)) λw1=>an (Option.isNone a) (Q (.tuple #[(),false]) w1)
 (∃b:O Y,a8 w1 (aa w) 0 18=some b/\hL 66 #[service,.agg b.toArray] w1 λc d e=>Q (.tuple #[c,d]) e)
def ay.sG:aP:=dP
theorem ae.F6(a:av ag)(service:Int)(p:Array Y)(w:J)(Q:Y->J->Prop)(h:ae.sG a service p w Q):aK ai 87 #[a,service,.agg p] w Q:=okF (λw Q=>ae.sG a service p w Q) ay.sG func87 h
def ae.qy(key:ad)(val:ad)(w:J)(Q:Y->J->Prop):Prop:=ak (w.alloc fc) λw1=>nF 156 #[key,(0:Int),(2:Int)] w1 λbV C aj=>an (((!C)||(decide ((key.len:Int)
 <4)))||((val.len:Int) !=10)) (∃e:Array Y,Sem.run ai (Instr.build 29 #[]) aj=.ok (.agg e) aj/\bk aj (aa w) (Array.toList e)/\Array.size e=21/\ak (setCells aj (aa w) 0 (Array.toList e)) λn
 =>∃o:O Y,a8 n (aa w) 0 21=some o/\Q (.tuple #[.agg o.toArray,false]) n) (((0:Int)<=4/\4<=(key.len:Int))/\hM 157 #[.slice (aO key.a 1 (Int.toNat 4) key.cap) (key.len-(Int.toNat 4)) (key.cap-
 (Int.toNat 4))] aj λi M d=>ak (d.alloc l3) λp=>bk p (aa d) (Array.toList i)/\Array.size i=17/\ak (setCells p (aa d) 0 (Array.toList i)) λD=>nF 156 #[val,(0:Int),(2:Int)] D λn17 N E=>nF 156 #[val,(2:Int),(8:Int)] E λn21 P F=>ak (F.drew) λb=>∃j:Nat->Prop,¬j ((aa d):ag).block/\∃q:O Y,
 a8 b (aa d) 0 17=some q/\∃k:ag,key.a=some k/\aM 3 key.len/\¬j (k.add (Int.toNat 3*1)).block/\dF b (k.add (Int.toNat 3*1)) λn27=>∃r:Array Y,(∀s:J,Sem.run ai
 (Instr.build 26 #[(0,.agg q.toArray),(1,.int .i64 (ar n27))]) s=.ok (.agg r) s)/\∃f:Array Y,(∀t:J,Sem.run ai (Instr.build 29 #[(0,.int .i64 (ar bV)),(1,.agg r),(2,.int
 .i64 (ar n17)),(3,.int .u64 n21)]) t=.ok (.agg f) t)/\ak (b.alloc fc) λl=>af j b l/\bk l (aa b) (Array.toList f)/\Array.size f=21/\ak (setCells l (aa b) 0 (Array.toList f)) λm=>aF
 m (aa b) λn34=>∃u:O Y,a8 m ((aa b).add 1) 0 18=some u/\hL 66 #[n34,.agg u.toArray] m λG H v=>bH (λx:al->J->Prop=>an (!H) (x true v) (b8
 158 #[G,key] v λI K=>x (!I) K)) (λ(L:al) c=>an L (∃g:Array Y,Sem.run ai (Instr.build 29 #[]) c=.ok (.agg g)
 c/\bk c (aa w) (Array.toList g)/\Array.size g=21/\ak (setCells c (aa w) 0 (Array.toList g)) λy=>∃z:O Y,a8 y (aa w) 0 21=some z/\Q (.tuple #[.agg z.toArray,false]) y) (∃h:
 O Y,a8 c (aa b) 0 21=some h/\bk c (aa w) (Array.toList h.toArray)/\Array.size h.toArray=21/\ak (setCells c (aa w) 0 (Array.toList h.toArray)) λA=>∃B:O Y,a8 A (aa w) 0 21=
 some B/\Q (.tuple #[.agg B.toArray,true]) A)))
def ay.qy:aP:=(.s .r (.s .r (.s (.s (.cY [.r,.r,.r,.pure 3,.r,.r,.r,.r,.pure 3]) (.c (.s .r .l) .l)) (.s .r (.s .r (.s .r (.s (.cB 13 true ⟨[0,1,0,0,8,16,32,68,0,256,0,1666,0,8191],[0,1,0,0,8,16,32,68,
 0,256,0,1666,0,6144]⟩ [1125899906842624,2251799813685248,4503599627370496,9007199254740992,18014398509481984,36028797018963968,72057594037927936,144115188075855872,288230376151711744,576460752303423488,1152921504606846976,
 2305843009213693952,16384,0] [64,1125899906842624,256,1,9007199254740992,18014398509481984,36028797018963968,76561193665298432,1024,288230376151711744,4096,1875749244799811584,0,2305843009213710336] (.t 0 (.t 1 (.t 2 (.t 3
 (.t 4 (.t 5 (.t 6 (.t 7 (.t 8 (.t 9 (.t 10 (.t 11 (.bR 12 (.tail [.r]))))))))))))))) (.s .r (.s (.s (.cY [.r,.r,.r,.split 4]) (.c (.s .r .l) .l)) (.s .r .l))))))))))
def ae.vz(a:av ag)(service:Int)(w:J)(Q:Y->J->Prop):Prop:=BL 159 #[service] w λb d w1=>an ((Option.isNone a)||(Option.isNone b.a)) (Q (.tuple #[(),
 .int .i64 1]) w1) (∃a5:ag,a=some a5/\∃c:av ag,w1.cell? a5=some (c)/\ed 42 #[c,b,d,(1048576:Int)] w1 λe n10 f=>Q
 (.tuple #[e,n10]) f)
def ay.vz:aP:=(.s .r (.s .r (.s a5 (.s .r .l))))
def ae.vA(a:av ag)(l:ad)(choose:iQ)(w:J)(Q:Y->J->Prop):Prop:=∃ (e:Int->Int->J->Prop) (m:Int->Int->J->Nat),e 0 0 w/\∀ (c:Int) (bV:Int) (b:J),e c bV
 b->an (decide (bV<(l.len:Int))) (bH (λn:Int->J->Prop=>∃dG:ag,l.a=some dG/\aM bV l.len/\r1 b (dG.add (bV.toNat*2)) λcO=>r1 b ((dG.add (bV.toNat*2)).add 1) λo=>ak (b.alloc z4) λp=>
 bk p (aa b) [cO,o]/\(2:Nat)=2/\ak (setCells p (aa b) 0 [cO,o]) λg=>r1 g (aa b) λz=>r1 g ((aa b).add 1)
 λA=>hM 88 #[z,A] g λh B d=>ak (d.alloc fc) λq=>bk q (aa d) (Array.toList h)/\Array.size h=21/\ak (setCells q (aa d) 0
 (Array.toList h)) λi=>an (!B) (Q (.tuple #[(0:Int),(4:Int)]) i) (∃r:O Y,a8 i (aa d) 0 21=some r/\h7 ai choose.f/\Calls ai choose.f (choose.pre++ #[.agg r.toArray]++
 choose.cap) i λC s=>∃t:al,C=.returned t/\an (!t) (n c s) (ak (s.drew) λj=>∃u:Nat->Prop,∃k:ag,a=some k/\¬u k.block/\∃v:av ag,j.cell? k=some
 (v)/\¬u ((aa b):ag).block/\r1 j (aa b) λD=>kr 22 #[v,D] j λE n32 x=>an (n32 !=0) (Q (.tuple #[(0:Int),n32]) x) (n (ar
 (c+1)) x)))) (λ(n33:Int) y=>e n33 (ar (bV+1)) y/\m n33 (ar (bV+1)) y<m c bV b)) (Q (.tuple #[c,(0:Int)]) b)
def ay.vA:aP:=(.s .r (.s .r (.s (.s .r (.bM (.loop [(8,(.int .i64)),(17,(.int .i64))] [0,2,15,16] (.s .r (.s (.c .l .l) (.s (.ez [(8,(.int .i64))] [0,2,15,16,17] (.bM (.s .r (.s .r (.s a1 (.s (.s .r (.c .l
 .l)) (.s (.s (.cB 11 true ⟨[0,1,2,4,0,16,40,64,128,128,511,2047],[0,1,2,4,0,16,40,64,128,128,256,512]⟩ [68719476736,137438953472,274877906944,549755813888,1099511627776,2199023255552,4398046511104,34359738368,
 8796093022208,17592186044416,8192,16384] [1,68719476736,137438953472,274877906944,1024,1099511627776,2748779069440,4398046511104,34359738368,34359738368,8796093022208,17592186044416] (.t 0 (.t 1 (.t 2 (.t 3 (.t 4 (.t 5 (.out 6
 false (.t 7 (.t 8 (.t 9 (.t 10 (.tail [.r]))))))))))))) a1) .r))))))) .r)))))) (.s .r .l))))
def ae.sH(t:Array Y)(x:ag)(w:J)(Q:Y->J->Prop):Prop:=ak (w.alloc (.cells t 29)) λw1=>aF w1 x λbz=>bH (λa:al->J->Prop=>an (decide (bz<0)) (a true
 w1) (aF w1 ((aa w).add 19) λbV=>aF w1 x λn5=>a (bV==n5) w1)) (λ(b:al) c=>Q b c)
def ay.sH:aP:=(.s .r (.s (.cY [.r,.r,.r,.split 4]) .l))
theorem ae.F7(t:Array Y)(x:ag)(w:J)(Q:Y->J->Prop)(h:ae.sH t x w Q):aK ai 91 #[.agg t,.pointer (some x)] w Q:=okF (λw Q=>ae.sH t x w Q) ay.sH func91 h
def ae.nI(parts:ad)(w:J)(Q:Y->J->Prop):Prop:=∃ (d:ad->Int->J->Prop) (f:ad->Int->J->Nat),d ⟨none,0,0⟩ 0 w/\∀ (c:ad) (bV:Int) (b:J),d c bV b->an (decide (bV<
 (parts.len:Int))) (∃dL:ag,parts.a=some dL/\aM bV parts.len/\r1 b (dL.add (bV.toNat*1)) λg=>∃cO:ad,∃e:J,Sem.run ai (Builtin.append_ #[48,48] 48 #[c,g]) b=.ok cO e/\d cO (ar (bV+1)) e/\f cO (ar (bV+1)) e<f c bV b) (Q c b)
def ay.nI:aP:=(.s .r (.s .r (.s (.s .r (.bM (.loop [(3,.slice),(8,(.int .i64))] [6,7] a2))) (.s .r .l))))
theorem ae.F8(parts:ad)(w:J)(Q:Y->J->Prop)(h:ae.nI parts w Q):aK ai 92 #[parts] w Q:=okF (λw Q=>ae.nI parts w Q) ay.nI func92 h
def ae.sI(t:Array Y)(x:ag)(w:J)(Q:Y->J->Prop):Prop:=ak (w.alloc (.cells t 29)) λw1=>b5 w1 ((aa w).add 20) λbz=>b5 w1 x λa=>Q (.bool (decide (bz<=a))) w1
def ay.sI:aP:=(.s .r (.s .r .l))
theorem ae.F9(t:Array Y)(x:ag)(w:J)(Q:Y->J->Prop)(h:ae.sI t x w Q):aK ai 93 #[.agg t,.pointer (some x)] w Q:=okF (λw Q=>ae.sI t x w Q) ay.sI func93 h
def ae.vB(s:av ag)(w:J)(Q:Y->J->Prop):Prop:=∃a1:ag,s=some a1/\∃bj:av ag,w.cell? (a1.add 3)=some (bj)/\g4 160 #[bj] w λn5 n6 y=>
 an (n6 !=0) (bS 81 #[s,n6] y λn9 am=>Q n9 am) (ak (y.drew) λi=>∃dM:ag,s=some dM/\¬False/\∃z:av ag,i.cell? (dM.add 3)=some (z)/\∃dY
 :ag,s=some dY/\¬False/\aF i ((dY.add 7).add 2) λn14=>bS 161 #[z,n14] i λn17 ao=>ak (ao.drew) λd=>∃e:Nat->Prop,∃j:ag,s=some j/\¬e (j.add
 13).block/\b5 d (j.add 13) λn21=>∃k:ag,s=some k/\¬e (k.add 3).block/\∃A:av ag,d.cell? (k.add 3)=some (A)/\bK 74 #[A] d λap l=>af e d l
 /\∃B:Array Y,(∀C:J,Sem.run ai (Instr.build 150 #[(0,.int .i64 4),(1,.int .u64 (IntKind.wrap .u64 (n21+1))),(2,ap)]) C=.ok (.agg B) C)/\ed 73 #[n5,.agg B] l λaq n32 f=>af e l f/\an (n32 !=0) (bS 81 #[s,n32] f λn35 ar=>Q n35 ar) (∃D:ag,s=some D/\∃E:av ag,f.cell? (D.add
 2)=some (E)/\bS 162 #[E,n5,aq] f λn40 m=>an (n40 !=0) (bS 81 #[s,n40] m λau aw=>Q au aw) (∃
 F:ag,s=some F/\∃G:av ag,m.cell? (F.add 2)=some (G)/\bS 163 #[G] m λH n=>an (H !=0) (bS 81 #[s,H] n λax ay=>Q
 ax ay) (∃I:ag,s=some I/\∃K:av ag,n.cell? I=some (K)/\g4 147 #[K] n λaz aA aB=>ak (aB.drew) λa=>∃g:Nat->Prop,∃o:ag,s=some
 o/\¬g (o.add 14).block/\b5 a (o.add 14) λaC=>∃p:ag,s=some p/\¬g ((p.add 7).add 4).block/\b5 a ((p.add 7).add 4) λaD=>∃q:ag,s=some q/\¬g (q.add 17).block/\aF a (q.add 17)
 λaE=>∃h:Array Y,(∀L:J,Sem.run ai (Instr.build 104 #[(0,az),(1,aA),(2,n5),(3,.int .u64 aC),(4,.int .u64 (IntKind.wrap .u64 (aD+1))),(5,aE)])
 L=.ok (.agg h) L)/\ak (a.alloc kt) λr=>af g a r/\bk r (aa a) (Array.toList h)/\Array.size h=6/\ak (setCells r (aa a) 0 (Array.toList h)) λaG=>ak (aG.drew) λb=>∃M:ag,s=
 some M/\¬False/\∃N:av ag,b.cell? (M.add 1)=some (N)/\¬False/\aF b (aa a) λaH=>aF b ((aa a).add 1) λaI=>aF b ((aa a).add 2) λaJ=>b5 b ((aa a).add 3) λ
 aK=>b5 b ((aa a).add 4) λaL=>aF b ((aa a).add 5) λaM=>∃O:ag,s=some O/\¬False/\b5 b (O.add 13) λaN=>bS 77 #[N,.agg #[aH,aI,aJ,.int .u64 aK,.int .u64 aL,aM],.int .u64 (IntKind.wrap .u64 (aN+1))] b λP t=>an (P !=0) (bS 81 #[s,P] t λaO aP=>Q aO aP) (∃R:ag,s=
 some R/\∃S:av ag,t.cell? (R.add 3)=some (S)/\gT 131 #[S] t λaQ=>ak (aQ.drew) λc=>∃T:Nat->Prop,¬T ((aa a):ag).block/\aF c (aa a) λU=>aF
 c ((aa a).add 1) λV=>aF c ((aa a).add 2) λW=>b5 c ((aa a).add 3) λX=>b5 c ((aa a).add 4) λZ=>aF c ((aa a).add 5) λab=>∃u:ag,s=some u/\¬T (u.add
 13).block/\b5 c (u.add 13) λaR=>∃v:ag,s=some v/\bk c (v.add 7) [U,V,W,.int .u64 X,.int .u64 Z,ab]/\(6:Nat)=6/\ak (setCells c (v.add 7) 0
 [U,V,W,.int .u64 X,.int .u64 Z,ab]) λaS=>∃ac:ag,s=some ac/\st aS (ac.add 13) (.int .u64 (IntKind.wrap .u64 (aR+1))) λaT=>∃ad:ag,s=some ad
 /\st aT (ad.add 16) (0:Int) λaU=>ak (aU.drew) λx=>∃ah:ag,s=some ah/\¬False/\∃aj:av ag,x.cell? ah=some (aj)/\∃al:ag,s=some al/\¬False/\b5 x (al.add
 13) λaV=>gT 164 #[aj,.int .u64 (IntKind.wrap .u64 (aV+1))] x λaW=>Q (0:Int) aW)))))
def ay.vB:aP:=(.s .r (.s .r (.s a1 (.s (.cB 9 false ⟨[0,1,2,4,0,16,32,64,128,264],[0,1,2,4,0,16,32,64,128,264]⟩ [33554432,67108864,134217728,268435456,536870912,1073741824,2147483648,
 4294967296,8589934592,17179869184] [1,33554432,67108864,134217728,1,536870912,1073741824,2147483648,4294967296,8858370048] (.t 0 (.t 1 (.t 2 (.t 3 (.t 4 (.t 5 (.t 6 (.t 7 (.t 8 (.tail [.r]))))))))))) (.s (.cB 17 true ⟨[0,0,2,
 4,8,16,0,64,128,256,512,1056,3073,4096,8192,8192,32767,131071],[0,0,2,4,8,16,0,64,128,256,512,1056,2049,4096,8192,8192,16384,32768]⟩ [68719476736,137438953472,274877906944,549755813888,1099511627776,
 2199023255552,4398046511104,8796093022208,17592186044416,35184372088832,70368744177664,140737488355328,281474976710656,34359738368,562949953421312,1125899906842624,32,16] [8,1,137438953472,274877906944,549755813888,
 1099511627776,1,4398046511104,8796093022208,17592186044416,35184372088832,72567767433216,140806207832064,281474976710656,34359738368,34359738368,562949953421312,1125899906842624] (.t 0 (.t 1 (.t 2 (.t 3 (.t 4 (.t 5 (.t 6 (.t 7
 (.t 8 (.t 9 (.bR 10 (.t 11 (.bR 12 (.t 13 (.t 14 (.t 15 (.t 16 (.tail [.r]))))))))))))))))))) (.s a1 (.s (.s .r a1) (.s (.s .r a1) (.s .r (.s (.cB 19 true ⟨[0,0,0,0,8,16,32,0,128,256,512,1024,2048,0,8192,16384,32768,
 69703,0,524287],[0,0,0,0,8,16,32,0,128,256,512,1024,2048,0,8192,16384,32768,69703,0,393216]⟩ [77371252455336267181195264,154742504910672534362390528,309485009821345068724781056,618970019642690137449562112,
 1237940039285380274899124224,2475880078570760549798248448,4951760157141521099596496896,9903520314283042199192993792,19807040628566084398385987584,39614081257132168796771975168,79228162514264337593543950336,
 158456325028528675187087900672,316912650057057350374175801344,633825300114114700748351602688,1267650600228229401496703205376,2535301200456458802993406410752,5070602400912917605986812821504,10141204801825835211973625643008,1024,0]
 [256,512,8,1,618970019642690137449562112,1237940039285380274899124224,2475880078570760549798248448,1,9903520314283042199192993792,19807040628566084398385987584,39614081257132168796771975168,79228162514264337593543950336,
 158456325028528675187087900672,1,633825300114114700748351602688,1267650600228229401496703205376,2535301200456458802993406410752,5393008409894303831330853486592,0,10141204801825835211973625644032] (.t 0 (.t 1 (.t 2 (.t 3 (.t 4 (.t 5
 (.t 6 (.t 7 (.t 8 (.t 9 (.t 10 (.t 11 (.t 12 (.t 13 (.t 14 (.t 15 (.t 16 (.t 17 (.bR 18 (.tail [.r]))))))))))))))))))))) (.s (.s (.cB 10 false ⟨[0,1,2,4,0,0,32,64,128,256,536,2047],[0,1,2,4,0,0,32,64,128,256,536,
 1024]⟩ [20282409603651670423947251286016,40564819207303340847894502572032,81129638414606681695789005144064,162259276829213363391578010288128,324518553658426726783156020576256,649037107316853453566312041152512,
 1298074214633706907132624082305024,2596148429267413814265248164610048,5192296858534827628530496329220096,10384593717069655257060992658440192,20769187434139310514121985316880384,2048] [1,20282409603651670423947251286016,
 40564819207303340847894502572032,81129638414606681695789005144064,1024,1,649037107316853453566312041152512,1298074214633706907132624082305024,2596148429267413814265248164610048,5192296858534827628530496329220096,
 10871371547557295347235726689304576,20769187434139310514121985316880384] (.t 0 (.t 1 (.t 2 (.t 3 (.t 4 (.t 5 (.t 6 (.t 7 (.t 8 (.t 9 (.tail [.r,.r])))))))))))) a1) (.s .r (.s (.cB 15 true ⟨[0,0,0,0,0,16,32,64,128,137,649,1161,
 4091,8187,12283,32767,65535,98303],[0,0,0,0,0,16,32,64,128,1,512,1032,2,4096,8448,4,32768,65536]⟩ [42535295865117307932921825928971026432,85070591730234615865843651857942052864,
 170141183460469231731687303715884105728,340282366920938463463374607431768211456,680564733841876926926749214863536422912,1361129467683753853853498429727072845824,2722258935367507707706996859454145691648,
 5444517870735015415413993718908291383296,10889035741470030830827987437816582766592,21778071482940061661655974875633165533184,43556142965880123323311949751266331066368,0,87112285931760246646623899502532662132736,
 174224571863520493293247799005065324265472,0,348449143727040986586495598010130648530944,696898287454081973172991196020261297061888,0] [1,1,1,1024,1,680564733841876926926749214863536422912,1361129467683753853853498429727072845824,
 2722258935367507707706996859454145691648,5444517870735015415413993718908291383296,42535295865117307932921825928971026432,21778071482940061661655974875633165533184,43896425332801061786775324358698099277824,
 85070591730234615865843651857942052864,87112285931760246646623899502532662132736,185113607604990524124075786442881907032064,170141183460469231731687303715884105728,348449143727040986586495598010130648530944,
 696898287454081973172991196020261297061888] (.t 0 (.t 1 (.t 2 (.t 3 (.t 4 (.t 5 (.t 6 (.t 7 (.t 8 (.t 9 (.t 10 (.out 11 false (.t 12 (.t 13 (.out 14 false (.tail [.r,.r,.r]))))))))))))))))) (.s (.cB 9 false ⟨[0,1,2,4,0,16,32,64,
 128,264],[0,1,2,4,0,16,32,64,128,264]⟩ [1393796574908163946345982392040522594123776,2787593149816327892691964784081045188247552,5575186299632655785383929568162090376495104,11150372599265311570767859136324180752990208,
 22300745198530623141535718272648361505980416,44601490397061246283071436545296723011960832,89202980794122492566142873090593446023921664,178405961588244985132285746181186892047843328,356811923176489970264571492362373784095686656,
 713623846352979940529142984724747568191373312] [1,1393796574908163946345982392040522594123776,2787593149816327892691964784081045188247552,5575186299632655785383929568162090376495104,1,22300745198530623141535718272648361505980416,
 44601490397061246283071436545296723011960832,89202980794122492566142873090593446023921664,178405961588244985132285746181186892047843328,367962295775755281835339351498697964848676864] (.t 0 (.t 1 (.t 2 (.t 3 (.t 4 (.t 5 (.t 6 (.t 7 (.t 8
 (.tail [.r]))))))))))) (.s .r .l)))))))))))))))
def ae.vC(d:av ag)(i:Int)(w:J)(Q:Y->J->Prop):Prop:=bH (λcc:al->J->Prop=>an ((!(Option.isNone d))&&(decide (i>=0))) (∃a2:ag,d=some a2/\r1 w (a2.add 4) λa=>cc
 (decide (i<(a.len:Int))) w) (cc false w)) (λ(b:al) c=>Q b c)
def ay.vC:aP:=dM
def ae.vD(t:av ag)(g:ad)(to:ad)(most:Int)(w:J)(Q:Y->J->Prop):Prop:=ak (w.alloc (.cells #[g] 48)) λw1=>ak (w1.alloc (.cells #[to] 48)) λaj=>ak (aj.alloc (.cells #[most] 3)) λb=>an (Option.isNone t) (Q (.tuple #[(),(1:Int)]) b) (∃a4:ag,t=some a4/\aF b (a4.add 4) λn5=>bH (λf:
 al->J->Prop=>an (n5==0) (f true b) (aF b (aa aj) λn7=>f (decide (n7<1)) b)) (λ(h:al) c=>an h (Q (.tuple #[(),(0:Int)]) c) (ak (c.alloc (.cells #[()] 86)) λ
 i=>ak (i.drew) λa=>∃d:Nat->Prop,∃dY:ag,t=some dY/\¬d (dY.add 3).block/\aF a (dY.add 3) λn14=>∃eJ:ag,t=some eJ/\¬d (eJ.add 4).block/\aF a (eJ.add 4) λn16=>¬d ((aa w):
 ag).block/\r1 a (aa w) λj=>af d a a/\kr 174 #[t,n14,n16,j,.func (.func 175) #[] #[.pointer (some (aa w1)),.pointer (some (aa
 w)),.pointer (some (aa c)),.pointer (some (aa aj))]] a λl n21 e=>an (n21 !=0) (Q (.tuple #[(),n21]) e) (r1 e (aa c) λk=>Q (.tuple #[k,(0:Int)]) e))))
def ay.vD:aP:=(.s .r (.s a1 (.s (.s (.cY [.r,.r,.r,.r,.r,.r,.split 2]) (.c (.s .r .l) .l)) (.s .r (.s (.cB 16 true ⟨[0,0,2,4,8,0,32,64,128,0,0,1809,2048,4096,4096,16383,65535],[0,0,2,4,8,0,32,
 64,128,0,0,1809,2048,4096,4096,8192,16384]⟩ [33554432,67108864,134217728,268435456,536870912,1073741824,2147483648,4294967296,8589934592,17179869184,34359738368,68719476736,16777216,137438953472,274877906944,2048,
 4096] [1,1,67108864,134217728,268435456,1,1073741824,2147483648,4294967296,32,1248,60699967488,68719476736,16777216,16777216,137438953472,274877906944] (.t 0 (.t 1 (.t 2 (.t 3 (.t 4 (.t 5 (.t 6 (.t 7 (.t 8 (.t 9 (.bR 10
 (.out 11 false (.t 12 (.t 13 (.t 14 (.t 15 (.tail [.r])))))))))))))))))) (.s a1 (.s .r .l)))))))
def ae.vE(d:av ag)(i:Int)(w:J)(Q:Y->J->Prop):Prop:=b8 108 #[d,i] w λf w1=>an (!f) (Q (.tuple #[(),(1:Int)]) w1) (∃a4:ag,d=
 some a4/\b8 136 #[.pointer (some a4),(1:Int)] w1 λg c=>an g (Q (.tuple #[(),(3:Int)]) c) (lC 137 #[d,i] c λb a=>ak (a.alloc uS) λe=>bk
 e (aa a) (Array.toList b)/\Array.size b=256/\ak (setCells e (aa a) 0 (Array.toList b)) λh=>Q (.tuple #[.slice (aO (some (aa a)) 1 0 256) (256-0) (256-0),(0:Int)]) h))
def ay.vE:aP:=(.s .r (.s (.bM eJ) (.s .r (.s .r .l))))
def ae.mO(n:Int)(w:J)(Q:Y->J->Prop):Prop:=Q (.bool ((decide (n>=0))&&(decide (n<=65535)))) w
def ay.mO:aP:=(.s .r a4)
def ae.o0(a:Array Y)(bits:Int)(w:J)(Q:Y->J->Prop):Prop:=ak (w.alloc (.cells a 24)) λw1=>ak (w1.alloc z5) λaj=>∃c:O Y,a8 aj (aa w) 0 17=some c/\hM 191
 #[.agg c.toArray,bits] aj λb g d=>bk d (aa w1) (Array.toList b)/\Array.size b=18/\ak (setCells d (aa w1) 0 (Array.toList b)) λe=>∃f:O Y,a8 e (aa w1) 0 18=some f/\Q (.tuple #[.agg
 f.toArray,g]) e
def ay.o0:aP:=(.s .r (.s .r .l))
theorem ae.F_(a:Array Y)(bits:Int)(w:J)(Q:Y->J->Prop)(h:ae.o0 a bits w Q):aK ai 125 #[.agg a,bits] w Q:=okF (λw Q=>ae.o0 a bits w Q) ay.o0 func125 h
def ae.gV(b:ad)(n:Int)(size:Int)(w:J)(Q:Y->J->Prop):Prop:=bK 135 #[b] w λg w1=>b8 192 #[size] w1 λj h=>an (!j) (Q g h) (∃ (d:ad->Int->J->Prop) (i:ad->Int->J->Nat),d g (ar (size-1)) h/\∀ (c:ad) (n10:Int) (a:J),d c n10 a->an (decide (n10>=0)) ((0:Int)<=(ar (8*n10))/\ak (a.alloc
 (.cells #[.int .u8 (IntKind.wrap .u8 (Int.fdiv n (2^(min ((ar (8*n10)).toNat) 64))))] 5)) λk=>∃e:ad,∃f:J,Sem.run ai (Builtin.append_ #[48,48] 48 #[c,.slice (some (aa a)) 1 1]) k=.ok e f/\d e (ar (n10-1)) f/\i e (ar (n10-1)) f<i c n10 a) (Q c a))
def ay.gV:aP:=(.s .r (.s .r (.s a1 (.s (.s .r (.bM (.loop [(7,.slice),(8,(.int .i64))] [1] (.s (.s .r (.c .l .l)) (.s (.bM .r) .r))))) (.s .r .l)))))
def ae.l6(a:Array Y)(w:J)(Q:Y->J->Prop):Prop:=ak (w.alloc (.cells a 24)) λw1=>∃b:O Y,a8 w1 (aa w) 0 17=some b/\bK 193 #[.agg b.toArray] w1 λd c=>ak
 (c.alloc (.cells #[d] 48)) λe=>bK 92 #[.slice (some (aa c)) 1 1] e λf g=>Q f g
def ay.l6:aP:=(.s .r (.s .r .l))
theorem ae.Ga(a:Array Y)(w:J)(Q:Y->J->Prop)(h:ae.l6 a w Q):aK ai 127 #[.agg a] w Q:=okF (λw Q=>ae.l6 a w Q) ay.l6 func127 h
def ae.vF(n:Int)(w:J)(Q:Y->J->Prop):Prop:=Q (.bool ((decide (n>=1))&&(decide (n<=1600)))) w
def ay.vF:aP:=(.s .r a4)
def ae.vG(n:Int)(w:J)(Q:Y->J->Prop):Prop:=(8:Int)≠0/\Q (.int .i64 (ar (Int.tdiv (ar ((ar (n+8))-1)) 8))) w
def ay.vG:aP:=(.s .r (.s .r .l))
def ae.vH(s:ad)(no:Int)(w:J)(Q:Y->J->Prop):Prop:=ak (w.drew) λw1=>(8:Int)≠0/\∃a2:ag,s.a=some a2/\aM (ar (Int.tdiv no 8)) s.len/\¬False/\dF w1 (a2.add ((ar (Int.tdiv no
 8)).toNat*1)) λb=>(8:Int)≠0/\(0:Int)<=(Int.tmod no 8)/\∃a4:ag,s.a=some a4/\aM (ar (Int.tdiv no 8)) s.len/\st w1 (a4.add ((ar (Int.tdiv no 8)).toNat*1)) (.int .u8 (nv .u8 b (IntKind.wrap .u8 (1*2^(min
 ((Int.tmod no 8).toNat) 8))))) λc=>Q (.tuple #[]) c
def ay.vH:aP:=(.cB 8 false ⟨[0,0,2,5,8,0,32,64,144,511,1023],[0,0,2,5,8,0,32,64,144,5,768]⟩ [16,32,64,128,256,512,1024,2048,4096,8192,0] [1,2,32,80,128,2,512,1024,2304,80,12288] (.t 0
 (.t 1 (.t 2 (.t 3 (.t 4 (.t 5 (.t 6 (.t 7 (.tail [.r,.r,.r]))))))))))
def ae.sJ(s:av ag)(w:J)(Q:Y->J->Prop):Prop:=an (!(Option.isNone s)) (∃a1:ag,s=some a1/\r1 w (a1.add 1) λs2=>bK 194 #[s2] w λ
 a b=>∃dL:ag,s=some dL/\st b (dL.add 2) a λc=>Q (.tuple #[]) c) (Q (.tuple #[]) w)
def ay.sJ:aP:=(.s .r (.c .r .l))
theorem ae.Gb(s:av ag)(w:J)(Q:Y->J->Prop)(h:ae.sJ s w Q):aK ai 131 #[s] w Q:=okF (λw Q=>ae.sJ s w Q) ay.sJ func131 h
def ae.vI(no:Int)(w:J)(Q:Y->J->Prop):Prop:=Q (.bool ((decide (no>=0))&&(decide (no<1600)))) w
def ay.vI:aP:=(.s .r a4)
theorem ae.BU(no:Int)(w:J)(Q:Y->J->Prop)(h:ae.vI no w Q):aK ai 132 #[no] w Q:=okF (λw Q=>ae.vI no w Q) ay.vI func132 h
def ae.vJ(a:Int)(w:J)(Q:Y->J->Prop):Prop:=Q (.bool ((decide (a>=1))&&(decide (a<=4)))) w
def ay.vJ:aP:=(.s .r a4)
theorem ae.BV(a:Int)(w:J)(Q:Y->J->Prop)(h:ae.vJ a w Q):aK ai 133 #[a] w Q:=okF (λw Q=>ae.vJ a w Q) ay.vJ func133 h
def ae.o1(b:ad)(w:J)(Q:Y->J->Prop):Prop:=ak (w.drew) λw1=>((0:Int)<=20/\20<=(b.cap:Int))/\((0:Int)<=24/\24<=(b.len:Int))/\ak (w1.alloc (.cells #[.slice (aO b.a 1 0 b.cap)
 ((Int.toNat 20)-0) (b.cap-0),.slice (aO b.a 1 (Int.toNat 24) b.cap) (b.len-(Int.toNat 24)) (b.cap-(Int.toNat 24))] 48)) λaj=>nD 195 #[.slice (some (aa w1)) 2 2] aj λn5 c=>Q (.int .u32 n5) c
def ay.o1:aP:=(.s .r (.s (.cB 4 false ⟨[0,1,0,4,10,16,63],[0,1,0,4,10,16,32]⟩ [8,16,32,64,128,256,4] [1,8,1,32,80,128,256] (.t 0 (.t 1 (.t 2 (.t 3 (.tail [.r,.r,.r])))))) .l))
def ae.vK(f:av ag)(a:Int)(w:J)(Q:Y->J->Prop):Prop:=∃a1:ag,f=some a1/\((0:Int)<=a/\a<((4:Nat):Int))/\aF w (Addr.add a1 (a.toNat*1)) λbz=>an (bz==
 (-1)) (Q false w) (an (bz==0) (∃a3:ag,f=some a3/\((0:Int)<=a/\a<((4:Nat):Int))/\st w (Addr.add a3 (a.toNat*1)) (.int .i64 (-1)) λc=>Q true c) (ak (w.drew) λb=>∃dL:ag,f
 =some dL/\((0:Int)<=a/\a<((4:Nat):Int))/\¬False/\aF b (Addr.add dL (a.toNat*1)) λn7=>∃eo:ag,f=some eo/\((0:Int)<=a/\a<((4:Nat):Int))/\st b (Addr.add eo (a.toNat*1))
 (.int .i64 (ar (n7-1))) λd=>Q false d))
def ay.vK:aP:=(.s .r (.s (.s .r (.bM (.s .r (.c (.s .r .l) (.s .r ei))))) (.s (.cB 7 false ⟨[0,0,1,6,8,16,1,127,191],[0,0,1,6,8,16,1,66,160]⟩ [262144,524288,1048576,2097152,4194304,8388608,16777216,
 33554432,0] [1,2,262144,1572864,2097152,4194304,262144,17301504,41943040] (.t 0 (.t 1 (.t 2 (.t 3 (.t 4 (.t 5 (.t 6 (.tail [.r,.r]))))))))) (.s .r .l))))
set_option maxRecDepth 100000
def ae.vL(d:av ag)(i:Int)(w:J)(Q:Y->J->Prop):Prop:=ak (w.alloc uS) λw1=>∃a2:ag,d=some a2/\∃e:av Nat,w1.cell? (a2.add 5)=some (.map e)/\∃b:ad,∃c:J,
 Sem.run ai (Instr.lookup 137 (.map e) i false) w1=.ok b c/\an (decide ((b.len:Int)>0)) (∃dL:ag,b.a=some dL/\((0:Int)<=(ar ((b.len:Int)-1))/\(ar
 ((b.len:Int)-1))<(b.len:Int))/\∃f:O Y,a8 c (dL.add ((ar ((b.len:Int)-1)).toNat*256)) 0 256=some f/\yC c w f Q) (∃ei:ag,d=some ei/\r1 c (ei.add 4) λg=>jH g i c 256 λh=>
 yC c w h Q)
def ay.vL:aP:=(.s .r (.s (.s .r a1) (.s .r .l)))
def ae.qz(f:Int)(g:Int)(h:Int)(i:Int)(j:Int)(k:Int)(l:Int)(w:J)(Q:Y->J->Prop):Prop:=ak (w.alloc (.cells #[f,g,h,.int .u64 i,.int .u64 j,k] 104)) λw1=>aF w1 (aa w) λbz=>bK 126 #[(),.int .u64 (IntKind.wrap .u64 bz),(4:Int)] w1 λm a=>aF a ((aa w).add 1)
 λn6=>bK 126 #[m,.int .u64 (IntKind.wrap .u64 n6),(1:Int)] a λn b=>aF b ((aa w).add 2) λn10=>bK 126 #[n,.int .u64 (IntKind.wrap .u64 n10),(4:Int)] b λo p=>bK 126 #[o,.int .u64 (IntKind.wrap .u64 l),(4:Int)] p λq c=>b5 c ((aa w).add 3) λn17=>bK 126 #[q,.int .u64 n17,
 .int .i64 8] c λr d=>b5 d ((aa w).add 4) λn21=>bK 126 #[r,.int .u64 n21,(8:Int)] d λs e=>aF e ((aa w).add 5) λn25=>bK 126 #[s,.int .u64 (IntKind.wrap .u64 n25),(4:Int)] e λt u=>Q t u
def ay.qz:aP:=(.s .r (.s .r (.s .r (.s .r (.s .r a3)))))
def ae.qA(d:av ag)(ao:Int)(w:J)(Q:Y->J->Prop):Prop:=an (((Option.isNone d)||(decide (ao<8)))||(decide (ao>64))) (Q (.tuple #[.pointer none,(1:Int)]) w) (((0:Int)<=ao
 /\ao<=ao/\ao<=kV/\((48:Nat):Int)*ao<=140737488355328)/\ak (w.alloc (.cells (hK ai 288 (ao.toNat)) 288)) λw1=>ak (w1.alloc (.cells #[d,.slice (some (aa w))
 (ao.toNat) (ao.toNat),(0:Int)] 281)) λaj=>Q (.tuple #[.pointer (some (aa w1)),(0:Int)]) aj)
def ay.qA:aP:=dG
def ae.o2(c:av ag)(s:av ag)(gen:Int)(root:Int)(aN:Int)(w:J)(Q:Y->J->Prop):Prop:=bH (λcc:al->J->Prop=>an (((((Option.isNone c)||(Option.isNone s))||(decide
 (aN<0)))||(decide (aN>12)))||(decide (root<0))) (cc true w) (∃a2:ag,c=some a2/\∃b:av ag,w.cell? a2=some (b)/\bS 72 #[b] w λn6 d=>cc (decide (root>=n6)) d))
 (λ(e:al) a=>an (e||(!((root==0)==(aN==0)))) (Q (.tuple #[.pointer none,(1:Int)]) a) (ak (a.alloc (.cells #[c,s,.int .u64 gen,root,aN] 239)) λf=>Q
 (.tuple #[.pointer (some (aa a)),(0:Int)]) f))
def ay.o2:aP:=(.s .r (.s (.s (.cY [.r,.r,.r,.pure 2,.r,.r,.r,.pure 2,.r,.r,.r,.pure 2,.r,.r,.r,.pure 2,.r,.r,.r,.split 7,.r,.r,.r,.r,.r,.r,.r,.r,.pure 5]) (.c (.s .r .l) .l)) (.s .r .l)))
def ae.nJ(a:ad)(w:J)(Q:Y->J->Prop):Prop:=Q (.bool ((decide ((a.len:Int)>=1))&&(decide ((a.len:Int)<=24)))) w
def ay.nJ:aP:=eo
def ae.vM(t:av ag)(key:ad)(w:J)(Q:Y->J->Prop):Prop:=∃a1:ag,t=some a1/\aF w (a1.add 3) λbz=>∃a3:ag,t=some a3/\aF w (a3.add 4) λbV=>∃ (i:ad->Int->Int->J->
 Prop) (l:ad->Int->Int->J->Nat),i ⟨none,0,0⟩ bz bV w/\∀ (e:ad) (n8:Int) (n9:Int) (f:J),i e n8 n9 f->an (decide (n9>0)) (lD 196 #[t,n8,.bool (n9==1)] f λm n
 o p n17 c=>ak (c.alloc cU) λq=>bk q (aa c) [m,n,o,p]/\(4:Nat)=4/\ak (setCells q (aa c) 0 [m,n,o,p]) λb=>an (n17 !=0) (Q (.tuple #[(),n17]) b) (aY b (aa c) λB=>r1 b ((aa c).add 1) λC=>r1 b
 ((aa c).add 2) λD=>r1 b ((aa c).add 3) λE=>∃g:Array Y,Sem.run ai (Instr.build 232 #[(0,n8),(1,.agg #[B,C,D,
 E])]) b=.ok (.agg g) b/\ak (b.alloc (.cells #[(0:Int),false,(),(),(),(0:Int)] 232)) λr=>bk r (aa b) (Array.toList g)
 /\Array.size g=6/\ak (setCells r (aa b) 0 (Array.toList g)) λd=>bH (λs:Int->J->Prop=>an (decide (n9>1)) (aY d (aa c) λF=>r1 d ((aa c).add 1) λG=>r1 d ((aa c).add 2) λ
 H=>r1 d ((aa c).add 3) λI=>bS 197 #[.agg #[F,G,H,I],key] d λn34 K=>st K (Addr.add
 (aa b) 5) n34 λh=>r1 h ((aa c).add 3) λu=>aF h ((aa b).add 5) λn37=>∃v:ag,u.a=some v/\aM n37 u.len/\aF h (v.add (n37.toNat*1)) λn39=>s n39 h) (s n8
 d)) (λ(n40:Int) x=>∃y:O Y,a8 x (aa b) 0 6=some y/\∃z:ad,∃A:J,Sem.run ai (Instr.buildSlice 228 1 #[(0,.agg y.toArray)]) x=.ok z A
 /\∃j:ad,∃k:J,Sem.run ai (Builtin.append_ #[228,228] 228 #[e,z]) A=.ok j k/\i j n40 (ar
 (n9-1)) k/\l j n40 (ar (n9-1)) k<l e n8 n9 f))) (Q (.tuple #[e,(0:Int)]) f)
def ay.vM:aP:=(.s .r (.s .r (.s .r (.s (.s .r (.bM (.loop [(6,.slice),(7,(.int .i64)),(8,(.int .i64))] [0,1] (.s (.s .r (.c .l .l)) (.s (.bM (.s .r (.s a1 (.s .r (.s (.ez [(7,(.int .i64))] [0,1,6,8,11] (.s .r (.c
 (.s .r .r) .l))) .r))))) .r))))) (.s .r .l)))))
def ae.qB(a:al)(b:ad)(c:ad)(d:ad)(key:ad)(w:J)(Q:Y->J->Prop):Prop:=ak (w.alloc (.cells #[a,b,c,d] 202)) λw1=>aY w1 (aa w) λbX=>r1 w1 ((aa w).add 1) λe=>r1 w1 ((aa w).add 2) λf=>r1 w1 ((aa w).add 3) λg=>kW 198 #[.agg #[bX,e,f,g],key] w1 λn8 h i=>Q (.tuple #[n8,h]) i
def ay.qB:aP:=(.s .r (.s .r .l))
def ae.sK(s:av ag)(w:J)(Q:Y->J->Prop):Prop:=an (!(Option.isNone s)) (∃a1:ag,s=some a1/\r1 w (a1.add 2) λs2=>bK 194 #[s2] w λa
 b=>∃dL:ag,s=some dL/\st b (dL.add 1) a λc=>Q (.tuple #[]) c) (Q (.tuple #[]) w)
def ay.sK:aP:=(.s .r (.c .r .l))
theorem ae.Gc(s:av ag)(w:J)(Q:Y->J->Prop)(h:ae.sK s w Q):aK ai 144 #[s] w Q:=okF (λw Q=>ae.sK s w Q) ay.sK func144 h
def ae.vN(c:av ag)(w:J)(Q:Y->J->Prop):Prop:=bK 199 #[c,.func (.func 200) #[] #[]] w λa w1=>Q a w1
def ay.vN:aP:=(.s .r (.s .r .l))
def ae.vO(c:av ag)(no:Int)(w:J)(Q:Y->J->Prop):Prop:=jI 201 #[c,no] w λa w1=>bH (λd:al->J->Prop=>an (Option.isNone a) (d true w1) (∃
 a5:ag,a=some a5/\aF w1 (a5.add 4) λn6=>d (decide (n6>0)) w1)) (λ(e:al) b=>an e (Q false b) (∃a9:ag,a=some a9/\bk b a9 [false,false,false,(0:Int),(0:Int),
 ()]/\(6:Nat)=6/\ak (setCells b a9 0 [false,false,false,(0:Int),(0:Int),()]) λf=>Q true f))
def ay.vO:aP:=(.s .r (.s .r (.s (.s (.cY [.r,.r,.r,.split 5]) (.c (.s .r .l) .l)) (.s .r (.s .r .l)))))
def ae.vP(t:av ag)(w:J)(Q:Y->J->Prop):Prop:=an (Option.isNone t) (Q (.tuple #[(0:Int),(0:Int)]) w) (ak (w.drew) λw1=>∃a2:ag,t=some a2/\¬False/\aF w1 (a2.add 3) λa=>∃
 a4:ag,t=some a4/\¬False/\aF w1 (a4.add 4) λn5=>Q (.tuple #[a,n5]) w1)
def ay.vP:aP:=(.s .r (.s a1 (.s (.cB 9 false ⟨[0,1,2,4,0,16,32,64,15,511],[0,1,2,4,0,16,32,64,8,128]⟩ [64,128,256,512,1024,2048,4096,8192,4,8] [1,64,128,256,1,1024,2048,4096,512,8192] (.t
 0 (.t 1 (.t 2 (.t 3 (.t 4 (.t 5 (.t 6 (.t 7 (.t 8 (.tail [.r]))))))))))) .l)))
def ae.sL(s:av ag)(w:J)(Q:Y->J->Prop):Prop:=an (Option.isNone s) (Q (0:Int) w) (∃a1:ag,s=some a1/\aF w a1 λbz=>∃a3:ag,s=some a3/\r1 w (a3.add 1) λj=>∃ (e:
 Int->Int->J->Prop) (g:Int->Int->J->Nat),e bz 0 w/\∀ (n7:Int) (n8:Int) (d:J),e n7 n8 d->an (decide (n8<(j.len:Int))) (ak (d.drew) λb=>∃c:Nat->Prop,∃fK:ag,s=some fK/\¬c
 (fK.add 1).block/\r1 b (fK.add 1) λh=>∃dP:ag,h.a=some dP/\aM n8 h.len/\¬c (dP.add (n8.toNat*1)).block/\dF b (dP.add (n8.toNat*1)) λn15=>∃gU:ag,s=some gU/\¬c (gU.add
 2).block/\r1 b (gU.add 2) λi=>∃fo:ag,i.a=some fo/\aM n8 i.len/\¬c (fo.add (n8.toNat*1)).block/\dF b (fo.add (n8.toNat*1)) λn19=>bS 202 #[.int .u8 (nv .u8 n15 n19)] b
 λn22 f=>af c b f/\e (ar (n7-n22)) (ar (n8+1)) f/\g (ar (n7-n22)) (ar (n8+1)) f<g n7 n8 d) (Q n7 d))
def ay.sL:aP:=(.s .r (.s a1 (.s .r (.s (.s .r (.bM (.loop [(3,(.int .i64)),(16,(.int .i64))] [0,15] (.s .r (.s (.c .l .l) (.s (.bM (.s .r (.cB 17 true ⟨[0,0,2,4,8,0,48,64,0,256,512,1024,0,6144,8192,
 16512,32768,65537,262143],[0,0,2,4,8,0,48,64,0,256,512,1024,0,6144,8192,16512,32768,65537,131073]⟩ [524288,1048576,2097152,4194304,8388608,16777216,33554432,67108864,134217728,268435456,536870912,1073741824,
 2147483648,4294967296,8589934592,17179869184,34359738368,68719476736,8] [8,1,1048576,2097152,4194304,16,25165824,33554432,1,134217728,268435456,536870912,16,3221225472,4294967296,8657043456,17179869184,34360262656,
 68719476736] (.t 0 (.t 1 (.t 2 (.t 3 (.t 4 (.t 5 (.t 6 (.t 7 (.t 8 (.t 9 (.t 10 (.t 11 (.t 12 (.t 13 (.t 14 (.t 15 (.bR 16 (.tail [.r,.r]))))))))))))))))))))) .r)))))) (.s .r .l)))))
theorem ae.Gd(s:av ag)(w:J)(Q:Y->J->Prop)(h:ae.sL s w Q):aK ai 148 #[s] w Q:=okF (λw Q=>ae.sL s w Q) ay.sL func148 h
def ae.qC(k:al)(l:ad)(m:ad)(n:ad)(key:ad)(w:J)(Q:Y->J->Prop):Prop:=ak (w.alloc (.cells #[k,l,m,n] 202)) λw1=>ak (w1.alloc cU) λaj=>aY aj (aa w) λo=>r1 aj ((aa w).add 1) λp=>r1 aj ((aa w).add 2) λq=>r1 aj ((aa w).add 3) λr=>kW
 198 #[.agg #[o,p,q,r],key] aj λn9 s c=>aY c (aa w) λt=>bH (λu:al->J->Prop=>qq t u c
 w) (λ(v:al) b=>an (v||(!s)) (bk b (aa w1) [false,(),(),()]/\(4:Nat)=4/\ak (setCells b (aa w1) 0 [false,(),(),()]) λx=>gi x w1 Q) (aY b (aa w) λy=>r1 b ((aa w).add 1) λz=>r1 b ((aa w).add 2) λA=>r1 b ((aa w).add 3) λB=>gK 204 #[.agg #[y,z,A,B]] b λd e f g a=>ak (a.alloc cU) λh=>bk h (aa a) [d,e,f,g]/\
 (4:Nat)=4/\ak (setCells h (aa a) 0 [d,e,f,g]) λi=>r1 i ((aa a).add 1) λC=>bK 205
 #[C,n9,.int .i64 (ar (n9+1))] i λD E=>st E ((aa a).add 1) D λj=>r1 j ((aa a).add 2) λF=>bK 205
 #[F,n9,.int .i64 (ar (n9+1))] j λG H=>st H ((aa a).add 2) G λI=>dg I a w1 Q))
def ay.qC:aP:=(.s .r (.s .r (.s (.s (.cY [.r,.r,.r,.r,.split 3,.r,.r,.r,.r,.pure 2]) (.c (.s .r .l) .l)) (.s .r a3))))
def ae.sM(t:av ag)(iF:ad)(r:al)(s:ad)(u:ad)(v:ad)(w:J)(Q:Y->J->Prop):Prop:=ak (w.alloc (.cells #[r,s,u,v] 202)) λw1=>ak (w1.alloc (.cells #[(0:Int)] 34)) λaj=>ak (aj.drew) λc=>∃g:Nat->Prop,∃
 a5:ag,t=some a5/\¬g (a5.add 1).block/\∃h:av ag,c.cell? (a5.add 1)=some (h)/\∃dG:ag,t=some dG/\¬g (dG.add 4).block/\aF c (dG.add 4) λn8=>bS 148 #[h] c λn11
 d=>af g c d/\an (decide (n11<(ar ((ar (2*n8))+3)))) (st d (aa w1) (2:Int) λi=>aF i (aa w1) λn13=>Q n13 i) (ak (d.alloc (.cells #[t,(),()]
 297)) λa=>ak (a.alloc (.cells #[.pointer none] 295)) λx=>st x (aa a) (.pointer (some (aa d))) λb=>∃j:av ag,b.cell? (aa a)=some (j)/\aY b (aa w) λy=>
 r1 b ((aa w).add 1) λz=>r1 b ((aa w).add 2) λA=>r1 b ((aa w).add 3) λB=>qo 208 #[j,iF,.agg #[y,z,A,B]] b λn24 n25 n26 C=>st C (aa w1) n26 λe=>aF e (aa w1) λn28=>an (n28 !=0) (aF e (aa w1) λn29=>st e (aa w1) n29 λD=>ql
 ai 206 #[.pointer (some (aa w1)),.pointer (some (aa a))] D λk=>aF k (aa w1) λn32=>Q n32 k) (ak (e.drew) λf=>¬False/\∃l:av ag,f.cell? (aa a)=some (.pointer
 l)/\¬False/\∃m:av ag,f.cell? (aa a)=some (m)/\∃n:ag,m=some n/\¬False/\r1 f (n.add 2) λE=>gT 207 #[l,E] f λF=>∃
 o:ag,t=some o/\st F (o.add 3) n24 λG=>∃p:ag,t=some p/\st G (p.add 4) n25 λH=>st H (aa w1) (0:Int) λI=>ql ai 206 #[.pointer (some
 (aa w1)),.pointer (some (aa a))] I λq=>aF q (aa w1) λK=>Q K q))
def ay.sM:aP:=(.s .r (.s (.s (.cB 11 true ⟨[0,1,2,4,8,0,32,64,128,256,512,1040],[0,1,2,4,8,0,32,64,128,256,512,1040]⟩ [1024,2048,4096,8192,16384,32768,65536,131072,262144,524288,1048576,
 2097152] [1,1024,2048,4096,8192,1,32768,65536,131072,262144,524288,1064960] (.t 0 (.t 1 (.t 2 (.t 3 (.t 5 (.t 6 (.t 7 (.t 8 (.t 9 (.t 10 (.bR 4 (.tail [.r]))))))))))))) (.c (.s .r .l) .l)) (.s .r (.s .l (.s .r (.s a1 (.s (.cB 5
 false ⟨[0,0,2,4,8,17],[0,0,2,4,8,17]⟩ [137438953472,274877906944,549755813888,1099511627776,2199023255552,4398046511104] [128,128,274877906944,549755813888,1099511627776,2336462209024] (.t 0 (.t 1 (.t 2 (.t 3 (.t 4
 (.tail [.r]))))))) (.s .r (.s .r .l)))))))))
theorem ae.Ge(t:av ag)(iF:ad)(a:al)(b:ad)(c:ad)(d:ad)(w:J)(Q:Y->J->Prop):ae.sM t iF a b c d w Q=yg ai tk ay.sM Tryz.f150 [t,iF,.agg #[a,b,c,d]] w Q:=by kernel_rfl
theorem ae.Gf(t:av ag)(iF:ad)(a:al)(b:ad)(c:ad)(d:ad)(w:J)(Q:Y->J->Prop)(h:ae.sM t iF a b c d w Q):Calls ai 150 #[t,iF,.agg #[a,b,c,d]] w λe w1=>∃v,e=.returned v/\Q v w1:=
 FJ yq func150 (by kernel_rfl) (Eq.mp (ae.Ge t iF a b c d w Q) h)
def ae.qD(B:al)(C:ad)(D:ad)(E:ad)(key:ad)(val:ad)(w:J)(Q:Y->J->Prop):Prop:=ak (w.alloc (.cells #[B,C,D,E] 202)) λw1=>ak (w1.alloc cU) λaj=>aY aj (aa w) λF=>bH (λG:al->J->Prop=>qq F G aj w) (λ(H:al) m=>bH (λn:al->J
 ->Prop=>an H (n true m) (b8 209 #[key] m λI K=>n (!I) K)) (λ(L:al) c=>an (L||(decide ((val.len:Int)>24))) (bk c (aa w1) [false,(),
 (),()]/\(4:Nat)=4/\ak (setCells c (aa w1) 0 [false,(),(),()]) λM=>gi M w1 Q) (aY c (aa w) λN=>r1 c ((aa w).add 1) λO=>r1 c
 ((aa w).add 2) λP=>r1 c ((aa w).add 3) λR=>gK 204 #[.agg #[N,O,P,R]] c λo p q r b=>ak (b.alloc
 cU) λs=>bk s (aa b) [o,p,q,r]/\(4:Nat)=4/\ak (setCells s (aa b) 0 [o,p,q,r]) λd=>aY d (aa w) λS=>r1 d ((aa w).add 1) λT=>r1 d ((aa w).add 2) λU=>r1 d ((aa w).add 3) λV=>kW 198 #[.agg #[S,
 T,U,V],key] d λe W t=>an W (ak (t.drew) λh=>∃u:Nat->Prop,¬u ((aa b).add 2).block/\r1 h
 ((aa b).add 2) λv=>bK 135 #[val] h λX x=>af u h x/\∃y:ag,v.a=some y/\aM e v.len/\st x (y.add (e.toNat*1)) X λZ=>dg Z b w1 Q) (ak (t.drew) λi=>∃j:Nat->Prop,¬j ((aa b).add 1).block/\r1 i ((aa b).add 1) λab=>bK 135 #[key] i λ
 ac f=>af j i f/\ak (f.alloc (.cells #[ac] 48)) λz=>af j f z/\bK 210 #[ab,e,.slice (some (aa f)) 1 1]
 z λah ai=>st ai ((aa b).add 1) ah λam=>ak (am.drew) λk=>∃l:Nat->Prop,¬l ((aa b).add 2).block/\r1 k ((aa b).add 2) λao=>bK
 135 #[val] k λap g=>af l k g/\ak (g.alloc (.cells #[ap] 48)) λA=>af l g A/\bK 210
 #[ao,e,.slice (some (aa g)) 1 1] A λaq ar=>st ar ((aa b).add 2) aq λau=>dg au b w1 Q))))
def ay.qD:aP:=(.s .r (.s (.s (.cY [.r,.r,.r,.r,.split 3,.r,.r,.r,.r,.split 3,.r,.r,.r,.r,.pure 3]) (.c (.s .r .l) .l)) (.s .r (.s .r (.s (.s .r (.c (.s (.cB 5 true ⟨[0,1,0,0,8,31,63],[0,1,0,0,8,6,48]⟩
 [549755813888,1099511627776,2199023255552,4398046511104,8796093022208,17592186044416,0] [256,549755813888,512,4,4398046511104,3298534883328,26388279066624] (.t 0 (.t 1 (.t 2 (.t 3 (.bR 4 (.tail [.r,.r]))))))) (.s .r .l)) .l))
 (.s (.cB 6 true ⟨[0,1,0,0,8,16,54,127,255],[0,1,0,0,8,16,38,0,192]⟩ [70368744177664,140737488355328,281474976710656,562949953421312,1125899906842624,2251799813685248,4503599627370496,9007199254740992,0] [256,
 70368744177664,512,2,562949953421312,1125899906842624,2674012278751232,256,13510798882111488] (.t 0 (.t 1 (.t 2 (.t 3 (.bR 4 (.bR 5 (.tail [.r,.r,.r])))))))) (.s (.cB 6 true ⟨[0,1,0,0,8,16,54,127,255],[0,1,0,0,8,
 16,38,0,192]⟩ [18014398509481984,36028797018963968,72057594037927936,144115188075855872,288230376151711744,576460752303423488,1152921504606846976,2305843009213693952,0] [256,18014398509481984,512,4,144115188075855872,
 288230376151711744,684547143360315392,256,3458764513820540928] (.t 0 (.t 1 (.t 2 (.t 3 (.bR 4 (.bR 5 (.tail [.r,.r,.r])))))))) (.s .r .l))))))))
def ae.ky(b:ad)(i:Int)(size:Int)(w:J)(Q:Y->J->Prop):Prop:=hL 215 #[b,i,size] w λd j w1=>bH (λf:al->J->Prop=>an (!j) (f
 true w1) (b8 192 #[size] w1 λk l=>f (!k) l)) (λ(m:al) g=>an m (Q (.tuple #[.int .u64 0,false]) g) (∃ (e:Int->Int->J->Prop) (h:Int->Int->J->Nat),e 0 0 g/\∀ (n13:
 Int) (n14:Int) (c:J),e n13 n14 c->an (decide (n14<(d.len:Int))) (∃gU:ag,d.a=some gU/\aM n14 d.len/\dF c (gU.add (n14.toNat*1)) λn17=>(0:Int)<=8/\e (nv .u64 (IntKind.wrap .u64 (n13*2^
 (min (Int.toNat 8) 64))) (IntKind.wrap .u64 n17)) (ar (n14+1)) c/\h (nv .u64 (IntKind.wrap .u64 (n13*2^(min (Int.toNat 8) 64))) (IntKind.wrap .u64 n17)) (ar (n14+1)) c<h n13 n14 c) (Q (.tuple #[.int .u64 n13,true]) c)))
def ay.ky:aP:=(.s .r (.s .r (.s dL (.s .r (.s (.s .r (.bM (.loop [(10,(.int .u64)),(29,(.int .i64))] [27,28] a2))) (.s .r .l))))))
def ae.qE(b:ad)(w:J)(Q:Y->J->Prop):Prop:=ak (w.alloc l3) λw1=>hM 216 #[b] w1 λfB d aj=>bk aj (aa w) (Array.toList fB)/\Array.size fB=17/\ak (setCells aj (aa w)
 0 (Array.toList fB)) λa=>∃c:O Y,a8 a (aa w) 0 17=some c/\Q (.tuple #[.agg c.toArray,d]) a
def ay.qE:aP:=(.s .r (.s .r .l))
def ae.qF(service:Int)(w:J)(Q:Y->J->Prop):Prop:=b8 124 #[service] w λc w1=>an (!c) (Q (.tuple #[(),()]) w1) (bK 126 #[(),.int .u64
 (IntKind.wrap .u64 service),(2:Int)] w1 λd a=>bH (λb:ad->J->Prop=>an (decide (service<65535)) (bK 126 #[(),.int .u64 (IntKind.wrap .u64 ((IntKind.wrap .u64 service)+1)),(2:Int)] a λ
 e f=>b e f) (b ⟨none,0,0⟩ a)) (λ(g:ad) h=>Q (.tuple #[d,g]) h))
def ay.qF:aP:=(.s .r (.s a1 (.s .r (.s (.ez [(3,.slice)] [2] (.s .r (.c .r .l))) (.s .r .l)))))
def ae.sN(s:av ag)(w:J)(Q:Y->J->Prop):Prop:=an (Option.isNone s) (Q (.tuple #[.int .i64 (-1),(1:Int)]) w) (∃a1:ag,s=some a1/\aF w a1 λbz=>∃ (c:Int->J->Prop) (d:
 Int->J->Nat),c 0 w/\∀ (n5:Int) (a:J),c n5 a->an (decide (n5<bz)) (b8 217 #[s,n5] a λe b=>an (!e) (∃ei:ag,s=some ei/\r1 b (ei.add 1) λf=>gT
 130 #[f,n5] b λg=>Q (.tuple #[n5,(0:Int)]) g) (c (ar (n5+1)) b/\d (ar (n5+1)) b<d n5 a)) (Q (.tuple #[.int .i64 (-1),(2:Int)]) a))
def ay.sN:aP:=(.s .r (.s a1 (.s (.s .r (.bM (.loop [(11,(.int .i64))] [0,10] (.s .r (.s (.c .l .l) (.s (.bM (.s .r (.s .r ei))) .r)))))) (.s .r .l))))
theorem ae.Gg(s:av ag)(w:J)(Q:Y->J->Prop)(h:ae.sN s w Q):aK ai 160 #[s] w Q:=okF (λw Q=>ae.sN s w Q) ay.sN func160 h
def ae.sO(s:av ag)(no:Int)(w:J)(Q:Y->J->Prop):Prop:=b8 218 #[s,no] w λb w1=>an (!b) (Q (1:Int) w1) (∃a4:ag,s=some a4/\r1 w1 (a4.add 1)
 λc=>b8 214 #[c,no] w1 λd a=>an (!d) (Q (6:Int) a) (∃a9:ag,s=some a9/\r1 a (a9.add 1) λe=>gT 219 #[e,no] a λf=>Q (0:Int) f))
def ay.sO:aP:=(.s .r (.s (.bM eJ) (.s .r (.s .r .l))))
theorem ae.Gh(s:av ag)(no:Int)(w:J)(Q:Y->J->Prop)(h:ae.sO s no w Q):aK ai 161 #[s,no] w Q:=okF (λw Q=>ae.sO s no w Q) ay.sO func161 h
def ae.vQ(c:av ag)(no:Int)(b:ad)(w:J)(Q:Y->J->Prop):Prop:=b8 220 #[c,no] w λl w1=>an ((!l)||((b.len:Int) !=256)) (Q (1:Int) w1) (jI
 201 #[c,no] w1 λf g=>bH (λh:av ag->J->Prop=>an (Option.isNone f) (jn 221 #[c] g λd n11 a=>an (n11 !=0) (Q n11 a) (∃fK:ag,d
 =some fK/\(∃u:Y,a.cell? fK=some u)/\a.frozen? fK=false/\ak (a.setCell fK true) λm=>∃dP:ag,d=some dP/\st m (dP.add 3) no λn=>h d n)) (h f g)) (λ(e:av
 ag) o=>bK 135 #[b] o λp q=>∃i:ag,e=some i/\st q (i.add 5) p λr=>∃j:ag,e=some j/\st r (j.add 1) true λs=>∃k:ag,e=some k/\st s (k.add 2) true λt=>Q (0:Int) t))
def ay.vQ:aP:=(.s .r (.s (.s (.cY [.r,.r,.r,.r,.r,.pure 3]) (.c (.s .r .l) .l)) (.s .r (.s (.ez [(7,.ptr)] [2] (.s .r (.c (.s .r (.s a1 (.s .r .r))) .l))) (.s .r (.s .r .l))))))
def ae.vR(c:av ag)(w:J)(Q:Y->J->Prop):Prop:=an (Option.isNone c) (Q (1:Int) w) (bK 145 #[c] w λd w1=>∃ (e:Int->J->Prop) (g:Int->J->Nat),
 e 0 w1/\∀ (n6:Int) (b:J),e n6 b->an (decide (n6<(d.len:Int))) (∃eo:ag,d.a=some eo/\aM n6 d.len/\aF b (eo.add (n6.toNat*1)) λn9=>jI 201 #[c,n9] b λh o=>ak
 (o.drew) λf=>∃dP:ag,c=some dP/\¬False/\∃i:av ag,f.cell? dP=some (i)/\∃gU:ag,h=some gU/\¬False/\r1 f (gU.add 5) λp=>bS 75 #[i,n9,p] f λn20 j=>an (n20 !=0) (Q n20 j) (∃k:ag,h=some k/\st j (k.add 1) false λl=>e (ar (n6+1)) l/\g (ar (n6+1)) l<g n6 b)) (∃m:ag,c
 =some m/\∃n:av ag,b.cell? m=some (n)/\bS 76 #[n] b λn27 q=>Q n27 q))
def ay.vR:aP:=(.s .r (.s a1 (.s (.s .r (.bM (.loop [(12,(.int .i64))] [0,10,11] (.s .r (.s (.c .l .l) (.s (.bM (.s .r (.s .r (.s (.s (.cB 9 false ⟨[0,1,2,4,0,0,32,64,128,280,1023],[0,1,2,4,0,0,32,64,
 128,280,512]⟩ [524288,1048576,2097152,4194304,8388608,16777216,33554432,67108864,134217728,268435456,64] [1,524288,1048576,2097152,16,32,16777216,33554432,67108864,146800640,268435456] (.t 0 (.t 1 (.t 2 (.t 3 (.t 4 (.t
 5 (.t 6 (.t 7 (.t 8 (.tail [.r,.r]))))))))))) a1) .r)))) .r)))))) (.s .r .l))))
def ae.sP(t:av ag)(gen:Int)(w:J)(Q:Y->J->Prop):Prop:=an (!(Option.isNone t)) (∃a1:ag,t=some a1/\st w (a1.add 2) (.int .u64 gen) λaj=>Q (.tuple #[]) aj) (Q (.tuple #[]) w)
def ay.sP:aP:=(.s .r (.c .r .l))
theorem ae.Gi(t:av ag)(gen:Int)(w:J)(Q:Y->J->Prop)(h:ae.sP t gen w Q):aK ai 164 #[t,.int .u64 gen] w Q:=okF (λw Q=>ae.sP t gen w Q) ay.sP func164 h
def ae.qG(no:Int)(b:ad)(w:J)(Q:Y->J->Prop):Prop:=ak (w.alloc z9) λw1=>an ((b.len:Int) !=256) (bk w1 (aa w) [(0:Int),.int .u64 0,()]/\(3:Nat)=3/\ak (setCells w1 (aa w)
 0 [(0:Int),.int .u64 0,()]) λaj=>aF aj (aa w) λz=>b5 aj ((aa w).add 1) λbV=>r1 aj ((aa w).add 2) λA=>Q (.tuple #[.agg #[z,.int .u64 bV,A],(9:Int)])
 aj) (((0:Int)<=4/\4<=(b.cap:Int))/\∃n:ByteArray,∃c:J,Sem.run ai (convert 48 9 (.slice (aO b.a 1 0 b.cap) ((Int.toNat 4)-0) (b.cap-0))) w1=.ok (.string n) c/\an
 (!(ByteArray.toList n==ByteArray.toList (ByteArray.mk #[83,84,78,67]))) (bk c (aa w) [(0:Int),.int .u64 0,()]/\(3:Nat)=3/\ak (setCells c (aa w) 0 [(0:Int),.int .u64 0,()]) λB=>
 yB B w Q) (∃fK:ag,b.a=some fK/\aM 4 b.len/\dF c (fK.add (Int.toNat 4*1)) λn13=>an (n13 !=1) (bk c (aa w) [(0:Int),.int .u64 0,()]/\(3:Nat)=3/\ak (setCells c (aa w) 0 [(0:Int),.int
 .u64 0,()]) λd=>aF d (aa w) λn15=>b5 d ((aa w).add 1) λn16=>r1 d ((aa w).add 2) λC=>Q (.tuple #[.agg #[n15,.int .u64 n16,C],(12:Int)]) d)
 (nD 134 #[b] c λn20 D=>ss 227 #[b,(20:Int),(24:Int)] D λn23 h=>an (((IntKind.wrap .u64 n20):Int) !=n23) (bk h (aa w) [(0:Int),.int .u64
 0,()]/\(3:Nat)=3/\ak (setCells h (aa w) 0 [(0:Int),.int .u64 0,()]) λe=>aF e (aa w) λn25=>b5 e ((aa w).add 1) λn26=>r1 e ((aa w).add 2) λE=>Q (.tuple #[.agg
 #[n25,.int .u64 n26,E],(5:Int)]) e) (ss 227 #[b,(6:Int),(8:Int)] h λn30 o=>∃p:ag,b.a=some p/\aM 5 b.len/\dF o (p.add
 (Int.toNat 5*1)) λn32=>b8 133 #[.int .i64 (ar n32)] o λF q=>bH (λr:al->J->Prop=>an ((!F)||(decide (((ar n30):Int)>232))) (r true q) (((0:Int)<=(ar (24+(ar n30)))/\(ar (24+(ar
 n30)))<=(b.len:Int))/\b8 228 #[.slice (aO b.a 1 ((ar (24+(ar n30))).toNat) b.cap) (b.len-((ar (24+(ar n30))).toNat)) (b.cap-((ar (24+(ar n30))).toNat))] q λG H=>r (!G) H)) (λ(I:
 al) i=>an I (bk i (aa w) [(0:Int),.int .u64 0,()]/\(3:Nat)=3/\ak (setCells i (aa w) 0 [(0:Int),.int .u64 0,()]) λK=>yB K w Q) (b8 132 #[no] i λL
 s=>bH (λt:al->J->Prop=>an (!L) (t true s) (ss 227 #[b,(8:Int),(12:Int)] s λM N=>t (M !=(IntKind.wrap .u64 no)) N)) (λ(O:al) j=>an O
 (bk j (aa w) [(0:Int),.int .u64 0,()]/\(3:Nat)=3/\ak (setCells j (aa w) 0 [(0:Int),.int .u64 0,()]) λf=>aF f (aa w) λP=>b5 f ((aa w).add 1) λR=>r1 f
 ((aa w).add 2) λS=>Q (.tuple #[.agg #[P,.int .u64 R,S],(1:Int)]) f) (hL 229 #[b,(24:Int),.int .i64 (ar n30)] j λu X T=>ak
 (T.drew) λk=>∃v:Nat->Prop,∃l:ag,b.a=some l/\aM 5 b.len/\¬v (l.add (Int.toNat 5*1)).block/\dF k (l.add (Int.toNat 5*1)) λx=>ss 227 #[b,(12:Int),(20:Int)] k λy m=>af v k m/\bk m (aa w) [.int .i64 (ar x),.int .u64 y,u]/\(3:Nat)=3/\ak (setCells m (aa w) 0 [.int .i64 (ar x),.int .u64 y,u]) λg=>aF g (aa w) λU=>b5 g ((aa w).add 1) λV=>r1 g ((aa w).add 2) λW=>Q (.tuple #[.agg #[U,.int .u64 V,W],(0:Int)]) g))))))))
def ay.qG:aP:=(.s .r (.s (.bM (.s .r (.c (.s .r .l) (.s .r (.c (.s .r .l) eJ))))) (.s .r (.s (.bM (.s (.cY [.r,.r,.r,.r,.r,.r,.r,.pure 2,.r,.r,.r,.split 6]) (.c (.s .r .l) fK))) (.s .r (.s (.cB 7 true ⟨[0,1,2,
 4,0,16,0,104,255,511],[0,1,2,4,0,16,0,104,128,0]⟩ [37778931862957161709568,75557863725914323419136,151115727451828646838272,302231454903657293676544,604462909807314587353088,1208925819614629174706176,
 2417851639229258349412352,4835703278458516698824704,0,32] [2,37778931862957161709568,75557863725914323419136,151115727451828646838272,2,604462909807314587353088,128,3929008913747544817795072,4835703278458516698824720,0] (.t 0
 (.t 1 (.t 2 (.t 3 (.t 4 (.t 6 (.bR 5 (.tail [.r,.r,.r]))))))))) .l))))))
def ae.vS(t:av ag)(no:Int)(level:Int)(c:ad)(f:iQ)(w:J)(Q:Y->J->Prop):Prop:=lD 196 #[.pointer t,.int .i64 no,.bool (level==1)] w λv d e g n7 w1=>ak
 (w1.alloc cU) λx=>bk x (aa w1) [.bool v,.slice d.a d.len d.cap,.slice e.a e.len e.cap,.slice g.a g.len g.cap]/\(4:Nat)=4/\ak (setCells x (aa w1) 0 [.bool v,.slice d.a d.len d.cap,.slice e.a e.len
 e.cap,.slice g.a g.len g.cap]) λh=>an (n7 !=0) (Q (.tuple #[.bool false,.int .i64 n7]) h) (aY h (aa w1) λD=>r1 h (Addr.add (aa w1) 1) λk=>r1 h (Addr.add (aa w1) 2) λl=>r1 h (Addr.add (aa w1) 3) λm
 =>h7 ai f.f/\Calls ai f.f (f.pre++ #[.int .i64 no,.agg #[.bool D,.slice k.a k.len k.cap,.slice l.a l.len l.cap,.slice m.a m.len m.cap]]++f.cap) h λE n=>∃y:al,E=.returned
 (.bool y)/\an (!y) (Q (.tuple #[.bool false,.int .i64 0]) n) (an (level==1) (Q (.tuple #[.bool true,.int .i64 0]) n) (ak (n.drew) λb=>∃o:Nat->Prop,¬o (Addr.add (aa w1) 3).block/\r1 b (Addr.add (aa w1) 3)
 λi=>¬o ((aa w1):ag).block/\aY b (aa w1) λF=>r1 b (Addr.add (aa w1) 1) λp=>r1 b (Addr.add (aa w1) 2) λq=>r1 b (Addr.add (aa w1) 3) λr=>bS 197 #[.agg #[.bool F,.slice p.a p.len
 p.cap,.slice q.a q.len q.cap,.slice r.a r.len r.cap],.slice c.a c.len c.cap] b λn26 z=>af o b z/\((0:Int)<=n26/\n26<=(i.len:Int))/\∃ (s:Int->J->Prop) (A:Int->J->
 Nat),s 0 z/\∀ (n29:Int) (j:J),s n29 j->an (decide (n29<(((i.len-(Int.toNat n26)):Nat):Int))) (∃B:ag,(aO i.a 1 (Int.toNat n26) i.cap)=some B/\((0:Int)<=n29/\n29<(((i.len-(Int.toNat
 n26)):Nat):Int))/\aF j (B.add (Int.toNat n29*1)) λn32=>kr 174 #[.pointer t,.int .i64 n32,.int .i64 (ar (level-1)),.slice c.a c.len c.cap,.func (.func f.f) f.pre f.cap] j λC n36 u
 =>an ((n36 !=0)||(!C)) (Q (.tuple #[.bool C,.int .i64 n36]) u) (s (ar (n29+1)) u/\A (ar (n29+1)) u<A n29 j)) (Q (.tuple #[.bool true,.int .i64 0]) j))))
def ay.vS:aP:=(.s .r (.s .r (.s a1 (.s a1 (.s a1 (.s (.s (.cB 8 true ⟨[0,1,0,0,12,18,32,0],[0,1,0,0,12,18,32,0]⟩ [68719476736,137438953472,274877906944,549755813888,1099511627776,2199023255552,
 4398046511104,8796093022208] [4096,68719476736,4096,8,824633720832,1236950581248,2199023255552,0] (.t 0 (.t 1 (.t 2 (.t 3 (.t 7 (.bR 4 (.t 5 (.t 6 .fin))))))))) (.bM (.loop [(43,(.int .i64))] [0,2,3,4,41,42] (.s .r (.s (.c
 .l .l) (.s (.bM (.s .r (.s .r a5))) .r)))))) (.s .r .l)))))))
def ae.vT(X:Int)(A:al)(B:ad)(C:ad)(D:ad)(x:ag)(E:ag)(c:ag)(F:ag)(w:J)(Q:Y->J->Prop):Prop:=ak (w.alloc (.cells #[A,B,C,D] 202)) λw1=>r1 w1 ((aa w).add 1) λs2=>∃ (i:Int->J->Prop) (m:Int->J->Nat),i 0 w1/\∀ (n5
 :Int) (b:J),i n5 b->an (decide (n5<(s2.len:Int))) (∃dG:ag,s2.a=some dG/\aM n5 s2.len/\r1 b (dG.add (n5.toNat*1)) λcO=>r1 b x λG=>bH (λn:al->J->Prop=>an (decide ((G.len:Int)>0))
 (r1 b x λH=>bS 176 #[cO,H] b λn14 I=>n (decide (n14>=0)) I) (n false b)) (λ(K:al) j=>bH (λo:al->J->Prop=>an K (aY j
 (aa w) λL=>o L j) (o false j)) (λ(M:al) d=>an M (Q false d) (bH (λp:J->Prop=>aY d (aa w) λN=>bH (λq:al->J->Prop=>an N (r1 d E λO=>bS
 176 #[cO,O] d λn27 P=>q (decide (n27>=0)) P) (q false d)) (λ(R:al) r=>an R (ak (r.drew) λe=>∃g:Nat->Prop,¬g c.block/\r1
 e c λS=>¬g ((aa w).add 2).block/\r1 e ((aa w).add 2) λs=>∃k:ag,s.a=some k/\aM n5 s.len/\¬g (k.add (n5.toNat*1)).block/\r1 e (k.add (n5.toNat*1)) λT=>∃t:
 Array Y,(∀v:J,Sem.run ai (Instr.build 167 #[(0,cO),(1,T)]) v=.ok (.agg t) v)/\∃y:ad,∃l:J,Sem.run ai (Instr.buildSlice
 86 1 #[(0,.agg t)]) e=.ok y l/\af g e l/\∃z:ad,∃h:J,Sem.run ai (Builtin.append_ #[86,86] 86 #[S,y]) l=.ok z h/\(∃u:Y,h.cell? c=some u)/\h.frozen? c=false/\ak (h.setCell c z) λU=>p U) (p r)))
 (λf=>r1 f c λV=>aF f F λW=>an ((V.len:Int)==W) (Q false f) (i (ar (n5+1)) f/\m (ar (n5+1)) f<m n5 b)))))) (Q true b)
def ay.vT:aP:=(.s .r (.s (.s .r (.bM (.loop [(14,(.int .i64))] [2,3,4,5,7,12,13] (.s .r (.s (.c .l .l) (.s (.bM (.s .r (.s (.s (.cY [.r,.r,.r,.r,.split 4,.r,.r,.r,.r,.r,.split 2]) (.c (.s .r .l) .l)) (.s
 (.ez [] [2,3,4,5,7,12,13,14] (.s (.cY [.r,.r,.r,.split 4]) (.c (.cB 9 true ⟨[0,0,0,4,0,24,32,66,128,257,1023],[0,0,0,4,0,24,32,66,128,257,512]⟩ [1099511627776,2199023255552,4398046511104,8796093022208,
 17592186044416,35184372088832,70368744177664,140737488355328,281474976710656,562949953421312,0] [16,1024,128,4398046511104,512,26388279066624,35184372088832,72567767433216,140737488355328,282574488338432,562949953421328] (.t
 0 (.t 1 (.t 2 (.t 3 (.t 4 (.t 5 (.t 6 (.t 7 (.bR 8 (.tail [.r,.r]))))))))))) .l))) a1)))) .r)))))) (.s .r .l)))
def ae.o3(a:Array Y)(bits:Int)(w:J)(Q:Y->J->Prop):Prop:=ak (w.alloc (.cells a 24)) λw1=>ak (w1.alloc z5) λaj=>∃i:O Y,a8 aj (aa w) 0 17=some i/\bK 127
 #[.agg i.toArray] aj λb j=>∃k:O Y,a8 j (aa w) 0 17=some k/\b8 237 #[.agg k.toArray] j λy l=>an (((!y)||(decide (bits<0)))||(decide (bits>(ar (8*(b.len:Int)))))) (uZ l w1 Q) (∃
 (g:Int->J->Prop) (m:Int->J->Nat),g 0 l/\∀ (n16:Int) (d:J),g n16 d->an (decide (n16<(b.len:Int))) (∃n18:Int,∃n:J,Sem.run ai (Builtin.max_ #[3,3] 3 #[.int .i64
 (ar (bits-(ar (8*n16)))),(0:Int)]) d=.ok n18 n/\∃n20:Int,∃o:J,Sem.run ai (Builtin.min_ #[3,3] 3 #[n18,(8:Int)]) n=.ok n20 o/\ak (o.drew)
 λp=>∃q:ag,b.a=some q/\aM n16 b.len/\¬False/\dF p (q.add (n16.toNat*1)) λn24=>(0:Int)<=(ar (8-n20))/\∃r:ag,b.a=some r/\aM n16 b.len/\st p (r.add (n16.toNat*1)) (.int .u8
 (jD .u8 n24 (IntKind.wrap .u8 (255*2^(min ((ar (8-n20)).toNat) 8))))) λs=>g (ar (n16+1)) s/\m (ar (n16+1)) s<m n16 d) (hM 216 #[b] d λh z e=>ak (e.alloc
 l3) λt=>bk t (aa e) (Array.toList h)/\Array.size h=17/\ak (setCells t (aa e) 0 (Array.toList h)) λc=>∃u:O Y,a8 c (aa e) 0 17=some u/\∃f:Array Y,Sem.run ai
 (Instr.build 26 #[(0,.agg u.toArray),(1,bits)]) c=.ok (.agg f) c/\bk c (aa w1) (Array.toList f)/\Array.size f=18/\ak (setCells c (aa w1) 0 (Array.toList f)) λv=>∃x:O
 Y,a8 v (aa w1) 0 18=some x/\Q (.tuple #[.agg x.toArray,true]) v))
def ay.o3:aP:=(.s .r (.s .r (.s a9 (.s (.s .r (.bM (.loop [(30,(.int .i64))] [1,4,6,29] (.s .r (.s (.c .l .l) (.s (.bM (.s .r (.s .r (.cB 7 false ⟨[0,0,3,4,0,16,32,72,255,511],[0,0,3,4,0,16,32,72,3,384]⟩
 [549755813888,1099511627776,2199023255552,4398046511104,8796093022208,17592186044416,35184372088832,70368744177664,140737488355328,0] [64,128,1649267441664,2199023255552,256,8796093022208,17592186044416,39582418599936,
 1649267441664,211106232532992] (.t 0 (.t 1 (.t 2 (.t 3 (.t 4 (.t 5 (.t 6 (.tail [.r,.r,.r])))))))))))) .r)))))) (.s .r (.s .r .l))))))
theorem ae.Gj(a:Array Y)(bits:Int)(w:J)(Q:Y->J->Prop)(h:ae.o3 a bits w Q):aK ai 191 #[.agg a,bits] w Q:=okF (λw Q=>ae.o3 a bits w Q) ay.o3 func191 h
def ae.vU(size:Int)(w:J)(Q:Y->J->Prop):Prop:=Q (.bool ((decide (size>=1))&&(decide (size<=8)))) w
def ay.vU:aP:=(.s .r a4)
theorem ae.BW(size:Int)(w:J)(Q:Y->J->Prop)(h:ae.vU size w Q):aK ai 192 #[size] w Q:=okF (λw Q=>ae.vU size w Q) ay.vU func192 h
def ae.o4(a:Array Y)(w:J)(Q:Y->J->Prop):Prop:=ak (w.alloc (.cells a 24)) λw1=>aY w1 (aa w) λbX=>an bX (Q (.slice (aO (some ((aa w).add 1)) 1 0 16) (16-0) (16-0)) w1) (((0:
 Int)<=12/\12<=((16:Nat):Int))/\Q (.slice (aO (some ((aa w).add 1)) 1 (Int.toNat 12) 16) (16-(Int.toNat 12)) (16-(Int.toNat 12))) w1)
def ay.o4:aP:=dP
theorem ae.Gk(a:Array Y)(w:J)(Q:Y->J->Prop)(h:ae.o4 a w Q):aK ai 193 #[.agg a] w Q:=okF (λw Q=>ae.o4 a w Q) ay.o4 func193 h
end Go.Proofs.YtkdhdlfonmgheaaGreat
