/- Contracts of the functions that the statement reaches, and the plain laws over them; each theorem stands with its conditions. -/
import Derived.Laws.Externs
import Derived.Laws.Small
import Derived.Lib.Builder
import Derived.Lib.Bytealg
import Derived.Lib.ConvBytes
import Derived.Lib.MakeNoZero
import Derived.Lib.SlBytesConst
import Derived.Lib.UnsafeStr
import Derived.Test.YtkdhdlfonmgheaaGreatRows
import Derived.Test.YtkdhdlfonmgheaaGreatVAPlays2
namespace Go.Proofs.YtkdhdlfonmgheaaGreat
open Go aS Go.Proofs.Tryz
theorem qU{n:Nat}(h:n<256):((UInt8.ofNat n).toNat:Nat)=n:=by
 simp[kl h]
theorem BY{src dst:TypeId}{w:J}{s:ad}{ns:O Int}(hs:Tryz.prog.underlying src=some (.slice 5))(hd:Tryz.prog.underlying dst=some .string)(h:Src 1 w s (ns.map (.int .u8))):
 Sem.run ai (convert src dst s) w=.ok (.string (S (ns.map λn=>UInt8.ofNat n.toNat))) w:=by
 rw[Fz hs (by kernel_rfl) hd h,FE]
def tl(f:Nat->Int)(k m:Nat):O UInt8:=(List.range (m-k)).map λj=>UInt8.ofNat (f (k+j)).toNat
theorem yI{w:J}{A:ag}:∀ (vs:O Y) (i:Nat),(∀j v,vs[j]? =some v->w.cell? (A.add (i+j))=some v)->a8 w A i vs.length=some vs
 | [],_,_=>rfl
 |v::vs,i,h=>by
  have h0:=h 0 v rfl
  have a:=yI vs (i+1) (λj u b=>by rw[show i+1+j=i+(j+1) from I];exact h (j+1) u (by simpa using b))
  rw[lj]at h0
  simp[a8,h0,a]
def aD(l:O UInt8):O Y:=l.map λb=>Value.int .u8 (b.toNat:Int)
theorem dm(l:O UInt8):(aD l).length=l.length:=by simp[aD]
theorem pt{l:O UInt8}{i:Nat}(h:i<l.length):(aD l)[i]? =some (.int .u8 ((l[i].toNat:Nat):Int)):=by simp[aD,h]
def qV(c:Nat):av Nat:=if 48<=c/\c<=57 then some (c-48) else if 97<=c|||32/\c|||32<=122 then some ((c|||32)-97+10) else none
theorem GK(c:UInt8):((c.toNat:Int).toNat.toUInt8)=c:=by simp
theorem iG(l:O UInt8):∀v∈aD l,Plain v:=by
 intro v a;obtain⟨n,_,rfl⟩:=fy.1 a;trivial
theorem mU(a b:O UInt8):aD (a++b)=aD a++aD b:=by simp[aD]
theorem take_succ{α:Type}(ls:O α){i:Nat}(h:i<ls.length):ls.take (i+1)=ls.take i++ [ls[i]]:=by
 rw[iy h]
structure a_ where
 ej:al
 b:O UInt8
 h:b.length=16
 deriving DecidableEq
def a_.c(a:a_):O Y:=a.ej::aD a.b
structure bl where
 addr:a_
 bits:Int
 deriving DecidableEq
def bl.c(p:bl):O Y:=p.addr.c++ [.int .i64 p.bits]
theorem a_.ext'{a b:a_}(h1:a.ej=b.ej)(h2:a.b=b.b):a=b:=by
 cases a;cases b;simp_all
theorem a_.bd(a:a_):a.c.length=17:=by simp[a_.c,dm,a.h]
theorem bl.bd(p:bl):p.c.length=18:=by simp[bl.c,a_.bd]
theorem wC:∀ {a b:O UInt8},aD a=aD b->a=b
 | [],[],_=>rfl
 | [],_::_,h=>by simp[aD]at h
 |_::_,[],h=>by simp[aD]at h
 |x::a,y::b,h=>by
  simp only[aD,g2,List.cons.injEq,Value.int.injEq,true_and]at h
  have h1:x=y:=by
   have:x.toNat=y.toNat:=by exact_mod_cast h.1
   exact rN.1 this
  rw[h1,wC (a:=a) (b:=b) h.2]
theorem a_.qW{a b:a_}(h:a.c=b.c):a=b:=by
 simp only[a_.c,List.cons.injEq,Value.bool.injEq]at h;exact a_.ext' h.1 (wC h.2)
theorem bl.qW{p q:bl}(h:p.c=q.c):p=q:=by
 simp only[bl.c]at h;obtain⟨h1,h2⟩:=List.append_inj h (by simp[a_.bd]);have a:=a_.qW h1
 cases p;cases q
 simp_all
def fp(n:Nat):O UInt8:=List.replicate n 0
def a_.zero:a_:=⟨false,fp 16,by simp[fp]⟩
def bl.zero:bl:=⟨a_.zero,0⟩
theorem sZ{α:Type}:∀ (l:O α),l.length=16->∃bU a b c d e f g h i j k m n o p,l=[bU,a,b,c,d,e,f,g,h,i,j,k,m,n,o,p]
 | [bU,a,b,c,d,e,f,g,h,i,j,k,m,n,o,p],_=>⟨bU,a,b,c,d,e,f,g,h,i,j,k,m,n,o,p,rfl⟩
def lF(n:Nat):O c5:=List.replicate n (.int .u8)
theorem wD:∀ (l:O UInt8),eT (lF l.length) (aD l)
 | []=>rfl
 |_::l=>⟨_,_,rfl,⟨_,rfl⟩,wD l⟩
theorem a_.eT(a:a_):aS.eT (.bool::lF 16) a.c:=⟨_,_,rfl,⟨_,rfl⟩,by have:=wD a.b;rwa[a.h]at this⟩
theorem bl.eT(p:bl):aS.eT ((.bool::lF 16)++ [.int .i64]) p.c:=yc p.addr.eT ⟨_,_,rfl,⟨_,rfl⟩,rfl⟩
theorem yJ(a b:bl):iC ai 26 a.c.toArray b.c.toArray (decide (a=b)):=by
 have h:=iC.flat (P:=ai) (T:=26) (d:=(Tryz.prog.underlying 26).get (by kernel_rfl)) (ls:=(.bool::lF 16)++ [.int .i64]) (oo _).symm (by kernel_rfl) (by kernel_rfl) (by kernel_rfl) a.eT b.eT;have e:fJ a.c b.c=decide (a=b):=by
  rw[eQ,uE a.eT b.eT,b_];exact⟨bl.qW,λh=>by rw[h]⟩
 rwa[e]at h
theorem GL(a b:O UInt8)(g:a.length=12)(i:b.length=12):iC ai 357 (aD a).toArray (aD b).toArray (decide (a=b)):=by
 have c:=wD a;have f:=wD b;rw[g]at c;rw[i]at f;have h:=iC.flat (P:=ai) (T:=357) (d:=(Tryz.prog.underlying 357).get (by kernel_rfl)) (ls:=lF 12) (oo _).symm (by kernel_rfl) (by kernel_rfl) (by kernel_rfl) c f;have e:fJ (aD a) (aD b)=decide (a=b):=by
  rw[eQ,uE c f,b_];exact⟨wC,λh=>by rw[h]⟩
 rwa[e]at h
theorem GM(w:J):Sem.run ai (Instr.build 24 #[]) w=.ok (.agg a_.zero.c.toArray) w:=by kernel_rfl
theorem BZ(w:J):Sem.run ai (Instr.build 26 #[]) w=.ok (.agg bl.zero.c.toArray) w:=by kernel_rfl
theorem GN(w:J):Sem.run ai (Instr.build 357 #[]) w=.ok (.agg (aD (fp 12)).toArray) w:=by kernel_rfl
theorem GO(w:J)(ej:al)(b:O UInt8)(h:b.length=16):Sem.run ai (Instr.build 24 #[(0,ej),(1,.agg (aD b).toArray)]) w=.ok (.agg (a_.mk ej b h).c.toArray) w:=by
 obtain⟨bU,a,d,e,f,g,i,j,k,l,m,n,o,p,q,r,rfl⟩:=sZ b h
 kernel_rfl
theorem yK(w:J)(a:a_)(n:Int):Sem.run ai (Instr.build 26 #[(0,.agg a.c.toArray),(1,.int .i64 n)]) w=.ok (.agg (bl.mk a n).c.toArray) w:=by
 obtain⟨ej,b,h⟩:=a;obtain⟨bU,d,e,f,g,i,j,k,l,m,o,p,q,r,s,t,rfl⟩:=sZ b h
 kernel_rfl
def Var(w:J)(b:Nat)(vs:O Y)(T:TypeId):Prop:=bu w b vs.toArray T
section
variable {w w':J}{b:Nat}{vs us:O Y}{T:TypeId}
theorem Var.new(w:J)(vs:O Y)(T:TypeId):Var (w.alloc (.cells vs.toArray T)) w.heap.size vs T:=bu.new _ _ _
theorem Var.rd(h:Var w b vs T){n:Nat}(a:vs.length=n):a8 w b 0 n=some vs:=by
 have:=qj h n 0 0 (by simp[a]);rw[this];simp[←a]
theorem Var.qX(h:Var w b vs T){o n:Nat}(a:o+n<=vs.length):a8 w ⟨b,o,none⟩ 0 n=some ((vs.drop o).take n):=by
 have:=qj h n o 0 (by simpa using a);rw[this];simp
theorem Var.cell(h:Var w b vs T){i:Nat}:w.cell? ⟨b,i,none⟩=vs[i]? :=by
 rw[bu.cell h];simp
theorem Var.ext(h:Var w b vs T)(hx:Ext w w'):Var w' b vs T:=bu.ext h hx
theorem Var.ah{W:Nat->Prop}(h:Var w b vs T)(hx:af W w w')(a:¬W b):Var w' b vs T:=bu.ah h hx a
theorem Var.drew(h:Var w b vs T):Var w.drew b vs T:=bu.drew h
theorem Var.lt(h:Var w b vs T):b<w.heap.size:=bu.lt h
theorem Var.b3(h:Var w b vs T)(a:us.length=vs.length)(c:∀v∈us,Plain v):bk w b us:=bu.b3 h 0 us (by simp[a]) c
theorem Var.put(h:Var w b vs T)(a:us.length=vs.length):Var (setCells w b 0 us) b us T:=by
 have:=bu.se us 0 0 h;simp only[lj]at this;have e:(gJ vs.toArray 0 us)=us.toArray:=by
  have h1:=sh us vs.toArray 0 (by simp[a]);rw[cF,a,List.take_zero,hG,dr (by rw[Array.length_toList,iE];simp)]at h1;apply Array.toList_inj.1;rw[h1]
 rwa[e]at this
end
theorem a_.plain(a:a_):∀v∈a.c,Plain v:=by
 intro v b;rcases de.1 b with rfl|b
 .trivial
 .exact iG _ v b
theorem bl.plain(p:bl):∀v∈p.c,Plain v:=by
 intro v a;rcases c1.1 a with a|a
 .exact p.addr.plain v a
 .rw[fz.1 a];trivial
theorem Ext.put{w0 w:J}{b:Nat}{us:O Y}(h:Ext w0 w)(a:w0.heap.size<=b):Ext w0 (setCells w b 0 us):=
 Ext.df h (af.j6 (.refl _ _) us 0) (λk c=>by subst c;exact a)
theorem aX{w:J}{K:J->Prop}(h:K w):ak w K:=h
theorem bc{w:J}{c:Array Y}{vs:O Y}{T:TypeId}(hc:c=vs.toArray){K:J->Prop}(h:∀w',Var w' w.heap.size vs T->Ext w w'->w'.heap.size=w.heap.size+1->K w'):ak (w.alloc (.cells c T)) K:=by
 subst hc;exact h _ (Var.new _ _ _) (af.alloc (.refl _ _) _) (by simp)
theorem cp{w:J}{b:Nat}{vs us l:O Y}{T:TypeId}(a:Var w b vs T)(c:us.length=vs.length)(d:l=us){K:J->Prop}(h:∀w',Var w' b us T->af (λq=>q=b) w w'->w'.heap.size=w.heap.size->K w'):ak (setCells w b 0 l) K:=by
 subst d;refine h _ (a.put c) (af.j6 (.refl _ _) l 0) ?_;have:∀ (vs:O Y) (i:Nat) (w:J),(setCells w b i vs).heap.size=w.heap.size:=by
  intro vs
  induction vs with
  |nil=>intro i w;rfl
  |cons v vs e=>intro i w;rw[setCells,e];simp[World.setCell]
 exact this _ _ _
theorem Ext.cD{w0 w w':J}{b:Nat}(h:Ext w0 w)(hc:af (λq=>q=b) w w')(a:w0.heap.size<=b):Ext w0 w':=Ext.df h hc (λk c=>by subst c;exact a)
def a_.raw(a:a_):O UInt8:=if a.ej then a.b else a.b.drop 12
theorem a_.jJ(a:a_):a.raw.length=if a.ej then 16 else 4:=by
 unfold a_.raw;split
 .exact a.h
 .simp[a.h]
def a_.dZ(a:a_):al:=a.ej||decide (a.b.take 12=fp 12)
theorem Var.qY{w:J}{b o n c:Nat}{vs:O Y}{T:TypeId}{l:O UInt8}(h:Var w b vs T)(e:o+n<=vs.length)(d:(vs.drop o).take n=aD l):Src 1 w ⟨some ⟨b,o,none⟩,n,c⟩ (aD l):=by
 have hlen:n=l.length:=by
  have:=congrArg List.length d;rw[cz,dw,dm]at this;omega
 refine⟨by rw[dm];show _=n*1;omega,(λh=>by cases h),λa f=>?_⟩
 cases f;show a8 w ⟨b,o,none⟩ 0 (n*1)=_;rw[fE,h.qX e,d]
theorem o4(a:a_)(w:J):aK ai 193 #[.agg a.c.toArray] w (λv w'=>∃s:ad,v=s/\s.len=a.raw.length/\s.cap=s.len/\Src 1 w' s (aD a.raw)/\Ext w w'):=by
 refine ae.Gk _ w _ ?_;(delta ae.o4 ak aY aa an;dsimp only);have f:=Var.new w a.c 24;have hx:Ext w (w.alloc (.cells a.c.toArray 24)):=af.alloc (.refl _ _) _;refine⟨a.ej,f.cell,λh=>?_,λh=>⟨⟨by decide,by decide⟩,?_⟩⟩
 .have d:a.raw=a.b:=by simp[a_.raw,h]
  have e:aO (some (Addr.add w.heap.size 1)) 1 0 16=some ⟨w.heap.size,1,none⟩:=by rw[az,mJ (by decide)]
  refine⟨⟨some ⟨w.heap.size,1,none⟩,16,16⟩,by rw[e],by rw[d,a.h],rfl,f.qY (by rw[a.bd];decide) ?_,hx⟩;rw[d];simp[a_.c,dr,dm,a.h]
 .have d:a.raw=a.b.drop 12:=by simp[a_.raw,h]
  have e:aO (some (Addr.add w.heap.size 1)) 1 (Int.toNat 12) 16=some ⟨w.heap.size,13,none⟩:=by
   rw[az,show Int.toNat 12=12 from rfl,mJ (by decide)]
  refine⟨⟨some ⟨w.heap.size,13,none⟩,4,4⟩,by rw[e];rfl,by rw[d];simp[a.h],rfl,f.qY (by rw[a.bd];decide) ?_,hx⟩;rw[d];simp[a_.c,aD,dr,a.h,mu]
theorem lG:h8 ai 48 5 1 1:=⟨by kernel_rfl⟩
theorem GP{s:ad}{l:O UInt8}{w:J}(hs:Src 1 w s (aD l))(n:l.length<=1000000):
 aK ai 92 #[.slice (some w.heap.size) 1 1] (w.alloc (.cells #[s] 48)) (λv w'=>∃a:ad,v=a/\aT 1 5 w' a (aD l)/\a.len=l.length/\Ext w w'/\∀k,aE a k->w.heap.size<=k):=by
 refine ae.F8 ⟨some w.heap.size,1,1⟩ _ _ ?_;(delta ae.nI an aM r1 ar;dsimp only);have b:Ext w (w.alloc (.cells #[s] 48)):=af.alloc (.refl _ _) _;have d:=Var.new w [s] 48;have o:s.len=l.length:=by have:=hs.len;rw[dm]at this;omega
 refine⟨λa i w'=>(i=0/\a=⟨none,0,0⟩/\w'=w.alloc (.cells #[s] 48))\/(i=1/\aT 1 5 w' a (aD l)/\a.len=l.length/\Ext w w'/\∀k,aE a k->w.heap.size<=k),λ_ i _=>(1-i).toNat,.inl ⟨rfl,rfl,rfl⟩,?_⟩;rintro a _ w1 (⟨rfl,rfl,rfl⟩|⟨rfl,e,f,hx,hf⟩)
 .refine⟨λ_=>⟨_,rfl,⟨Int.le_refl 0,(by decide:(0:Int)<((1:Nat):Int))⟩,s,?_,?_⟩,λh=>(by have h:decide ((0:Int)<((1:Nat):Int))=false:=h;exact absurd h (by decide))⟩
  .rw[show Int.toNat 0*1=0 from rfl,add_zero']
   have:=d.cell (i:=0);exact this
  .obtain⟨s2,aj,h1,h2,g,j,m⟩:=lG.append (cC:=48) (hs.ext b) (aT.none 1 5 _) (iG l) (by show(2*(0+s.len)+1000)*1<=_;omega)
   refine⟨s2,aj,h1,.inr ⟨rfl,by simpa using h2,by rw[g];show 0+s.len=_;omega,Ext.df b j (λk c=>(gy k c).elim),λk c=>?_⟩,(by show((1:Int)-IntKind.wrap .i64 (0+1)).toNat<((1:Int)-0).toNat;decide)⟩;rcases m k c with h|h
   .exact(gy k h).elim
   .exact eC b.size h
 .exact⟨λh=>(by have h:decide ((1:Int)<((1:Nat):Int))=true:=h;exact absurd h (by decide)),λ_=>⟨a,rfl,e,f,hx,hf⟩⟩
theorem l6(a:a_)(w:J):aK ai 127 #[.agg a.c.toArray] w (λv w'=>∃s:ad,v=s/\aT 1 5 w' s (aD a.raw)/\s.len=a.raw.length/\Ext w w'/\∀k,aE s k->w.heap.size<=k):=by
 refine ae.Ga _ w _ ?_;delta ae.l6 ak aa bK;have e:=Var.new w a.c 24;have hx:Ext w (w.alloc (.cells a.c.toArray 24)):=af.alloc (.refl _ _) _;refine⟨a.c,e.rd a.bd,(o4 a _).use ?_⟩;rintro _ w1 ⟨s,rfl,h1,h2,f,b⟩;have hlen:=a.jJ;refine⟨s,rfl,(GP f (by rw[hlen];split<;>omega)).use ?_⟩;rintro _ aj ⟨d,rfl,aw,ax,g,h⟩;exact⟨d,rfl,d,rfl,aw,ax,(hx.trans b).trans g,λk i=>eC (hx.trans b).size (h k i)⟩
theorem B0{mN cS ty:TypeId}{w:J}{b o dl oS:Nat}{s:ad}{l:O UInt8}(hu:Tryz.prog.underlying mN=some (.slice 5))(hs:Src 1 w s (aD l))(e:s.len<=dl)(a:bk w ⟨b,o,none⟩ (aD l)):
 Sem.run ai (Builtin.copy_ #[mN,cS] ty #[.slice (some ⟨b,o,none⟩) dl oS,s]) w=.ok s.len (setCells w ⟨b,o,none⟩ 0 (aD l)):=by
 have f:Nat.min s.len dl=s.len:=iz e;have c:=h6 (P:=ai) (w:=w) (t:=5) (d:=.int .u8) (by kernel_rfl);have hc:Tryz.prog.cellsOf 5=1:=by kernel_rfl
 rw[hc]at c;have hf:=qk (P:=ai) hs;have g:=p8 (P:=ai) (A:=⟨b,o,none⟩) (aD l) 0 w (by simpa using a.1) a.2;simp[Builtin.copy_,dj hu,Builtin.lenOf,c,f,hf,g];rfl
def lH(l:O UInt8)(h:l.length=4):a_:=⟨false,fp 12++l,by simp[fp,h]⟩
theorem qO{s:ad}{l:O UInt8}{w:J}(hs:Src 1 w s (aD l))(b:l.length=4):aK ai 266 #[.slice s.a s.len s.cap] w (λv w'=>v=.agg (lH l b).c.toArray/\Ext w w'):=by
 refine okF (ae.qO s) ay.qO func266 ?_;delta ae.qO ak l3 aa;have p:s.len=4:=by have:=hs.len;rw[dm]at this;omega
 have f:=Var.new w a_.zero.c 24;have hx:Ext w (w.alloc (.cells a_.zero.c.toArray 24)):=af.alloc (.refl _ _) _;have e:aO (some (Addr.add ⟨w.heap.size,0,none⟩ 1)) 1 (Int.toNat 12) 16=some ⟨w.heap.size,13,none⟩:=by
  rw[az,show Int.toNat 12=12 from rfl,mJ (by decide)]
 have h:=hs.ext hx;have i:=bu.b3 f 13 (aD l) (by rw[dm,b];simp[a_.bd]) (iG l);have g:=bu.se (aD l) 13 0 f;have j:gJ a_.zero.c.toArray (13+0) (aD l)=(lH l b).c.toArray:=by
  have h1:=sh (aD l) a_.zero.c.toArray 13 (by rw[dm,b];simp[a_.bd]);rw[dr (by rw[Array.length_toList,iE,dm,b];simp[a_.bd])]at h1;apply Array.toList_inj.1;rw[lj,h1];have h2:(lH l b).c=(.bool false::aD (fp 12))++aD l:=by
   show Value.bool false::aD (fp 12++l)=_;rw[mU];rfl
  rw[h2]
  congr 1
 rw[j]at g;refine⟨⟨by decide,by decide⟩,((s.len:Nat):Int),setCells (w.alloc (.cells a_.zero.c.toArray 24)) ⟨w.heap.size,13,none⟩ 0 (aD l),?_,?_⟩
 .rw[e]
  exact B0 (by kernel_rfl) h (by show s.len<=4;omega) i
 .have d:Var (setCells (w.alloc (.cells a_.zero.c.toArray 24)) ⟨w.heap.size,13,none⟩ 0 (aD l)) w.heap.size (lH l b).c 24:=g
  have m:Ext w (setCells (w.alloc (.cells a_.zero.c.toArray 24)) ⟨w.heap.size,13,none⟩ 0 (aD l)):=Ext.df hx (af.j6 (.refl _ _) (aD l) 0) (λk n=>by subst n;exact bt _);have o:=d.put (us:=(lH l b).c) rfl;exact⟨_,d.rd (a_.bd _),d.b3 rfl (a_.plain _),by simp[a_.bd],_,o.rd (a_.bd _),rfl,Ext.put m (bt _)⟩
def ib(l:O UInt8):av a_:=if h:l.length=4 then some (lH l h) else if h:l.length=16 then some ⟨true,l,h⟩ else none
theorem o8{s:ad}{l:O UInt8}{w:J}(hs:Src 1 w s (aD l)):aK ai 216 #[s] w (λv w'=>v=.tuple #[.agg ((ib l).getD a_.zero).c.toArray,.bool (ib l).isSome]/\Ext w w'):=by
 refine okF (ae.o8 s) ay.o8 func216 ?_;delta ae.o8 ak l3 an lC yD aa;have m:s.len=l.length:=by have:=hs.len;rw[dm]at this;omega
 have e:=Var.new w a_.zero.c 24;have hx:Ext w (w.alloc (.cells a_.zero.c.toArray 24)):=af.alloc (.refl _ _) _;have g:=hs.ext hx;unfold ib;refine⟨λh=>?_,λh=>⟨λh2=>?_,λh2=>?_⟩⟩
 .have d:l.length=4:=by have:=eq_of_beq h;omega
  rw[dif_pos d];refine(qO g d).use ?_;rintro _ aj ⟨rfl,i⟩;have j:=e.ext i;have f:=j.put (us:=(lH l d).c) (by simp[a_.bd]);exact⟨_,rfl,j.b3 (by simp[a_.bd]) (a_.plain _),by simp[a_.bd],_,f.rd (a_.bd _),rfl,Ext.put (hx.trans i) (bt _)⟩
 .have d:l.length≠4:=by have:=ne_of_beq_false h;omega
  have b:l.length=16:=by have:=eq_of_beq h2;omega
  rw[dif_neg d,dif_pos b];obtain⟨A,aq⟩:∃A,s.a=some A:=by
   cases n:s.a with
   |some A=>exact⟨A,rfl⟩
   |none=>have:=hs.nil n;rw[show l=[] from wC (by simpa[aD] using this)]at b;simp at b
  have k:=g.rd A aq;rw[m,b]at k;have f:=e.put (us:=(a_.mk true l b).c) (by simp[a_.bd]);refine⟨I,A,aq,_,k,_,GO _ true l b,e.b3 (by simp[a_.bd]) (a_.plain _),by simp[a_.bd],_,f.rd (a_.bd _),rfl,Ext.put hx (bt _)⟩
 .have d:l.length≠4:=by have:=ne_of_beq_false h;omega
  have b:l.length≠16:=by have:=ne_of_beq_false h2;omega
  rw[dif_neg d,dif_neg b];have f:=e.put (us:=a_.zero.c) rfl;exact⟨_,GM _,e.b3 rfl (a_.plain _),rfl,_,f.rd (a_.bd _),rfl,Ext.put hx (bt _)⟩
theorem o9(a:a_)(w:J):aK ai 237 #[.agg a.c.toArray] w (λv w'=>v=a.dZ/\Ext w w'):=by
 refine ae.Gr _ w _ ?_;(delta ae.o9 ak aY aa an;dsimp only);have d:=Var.new w a.c 24;have hx:Ext w (w.alloc (.cells a.c.toArray 24)):=af.alloc (.refl _ _) _;have e:aO (some (Addr.add w.heap.size 1)) 1 0 16=some ⟨w.heap.size,1,none⟩:=by rw[az,mJ (by decide)]
 refine⟨a.ej,d.cell,cq (λb w1=>b=a.dZ/\Ext w w1) (λq f=>⟨λh=>f _ _ ⟨by simp[a_.dZ,h],hx⟩,λh=>⟨⟨by decide,by decide⟩,by decide,_,e,(aD (a.b.take 12)),?_,_,GN _,_,GL _ _ (by simp[a.h]) (by simp[fp]),f _ _ ⟨by simp[a_.dZ,h],hx⟩⟩⟩) ?_⟩
 .rw[d.qX (by rw[a.bd];decide)]
  simp[a_.c,aD,mv]
 .rintro _ w1 ⟨rfl,g⟩
  exact⟨rfl,g⟩
def aW(c k:Nat):Nat:=c/2^(8-k)*2^(8-k)
theorem GQ(c k:Nat):aW c k<=c:=Nat.div_mul_le_self _ _
def j7(c:UInt8)(k:Nat):UInt8:=UInt8.ofNat (aW c.toNat k)
theorem yL(c:UInt8)(k:Nat):(j7 c k).toNat=aW c.toNat k:=by
 have:=GQ c.toNat k;have:=lU c;exact qU I
theorem GR(c:Nat)(h:c<256):aW c 0=0:=by
 have:c/2^8=0:=Nat.div_eq_of_lt h;simp[aW];omega
theorem GS:∀c:Nat,c<256->∀k:Nat,k<9->jD .u8 (c:Int) (IntKind.wrap .u8 (255*2^(min (Int.toNat (8-(k:Int))) 8)))=((aW c k:Nat):Int):=by decide+kernel
theorem GU:∀c:Nat,c<256->∀m:Nat,m<8->((Int.tmod (Int.fdiv (c:Int) (2^(min (Int.toNat ((7-m:Nat):Int)) 8))) 2==1)=true->IntKind.wrap .u8 (((aW c m:Nat):Int)+IntKind.wrap .u8 (1*2^(min (Int.toNat ((7-m:Nat):Int)) 8)))=((aW c (m+1):Nat):Int))/\
 ((Int.tmod (Int.fdiv (c:Int) (2^(min (Int.toNat ((7-m:Nat):Int)) 8))) 2==1)=false->aW c m=aW c (m+1)):=by decide+kernel
def kb(n i:Nat):Nat:=min (n-8*i) 8
def gj(n:Nat)(l:O UInt8):O UInt8:=l.mapIdx λi c=>j7 c (kb n i)
theorem pv(n:Nat)(l:O UInt8):(gj n l).length=l.length:=by simp[gj]
def kA(n:Nat)(l:O UInt8)(k:Nat):O UInt8:=l.mapIdx λi c=>if i<k then j7 c (kb n i) else c
theorem GV(n:Nat)(l:O UInt8):kA n l 0=l:=by
 apply np
 .simp[kA]
 .intro i h1 h2;simp[kA]
theorem GW(n:Nat)(l:O UInt8):kA n l l.length=gj n l:=by
 apply np
 .simp[kA,gj]
 .intro i h1 h2
  have:i<l.length:=by simpa[gj] using h2
  simp[kA,gj,this]
theorem GX{n:Nat}{l:O UInt8}{k:Nat}(h:k<l.length):kA n l (k+1)=(kA n l k).set k (j7 l[k] (kb n k)):=by
 apply np
 .simp[kA]
 .intro i h1 h2
  simp only[kA,tP,oq];by_cases e:k=i
  .subst e;simp
  .rw[if_neg e]
   by_cases a:i<k
   .simp[a,show i<k+1 from I]
   .simp[a,show¬i<k+1 from I]
theorem GY{n:Nat}{l:O UInt8}{k:Nat}(h:k<l.length):(kA n l k)[k]? =some l[k]:=by simp[kA,h]
theorem B1{l:O UInt8}{i:Nat}{x:UInt8}:(aD l).set i (.int .u8 (x.toNat:Int))=aD (l.set i x):=by simp[aD,List.map_set]
theorem GZ{l:O UInt8}{i:Nat}{x:UInt8}(h:l[i]? =some x):(aD l)[i]? =some (.int .u8 (x.toNat:Int)):=by simp[aD,h]
def gu(a:a_)(n:Int):av bl:=if a.dZ=true/\0<=n/\n<=8*(a.raw.length:Int) then some ⟨(ib (gj n.toNat a.raw)).getD a_.zero,n⟩ else none
theorem B2(a:a_)(n:Int):((((!a.dZ)||(decide (n<0)))||(decide (n>8*(a.raw.length:Int))))=true->gu a n=none)/\((((!a.dZ)||(decide (n<0)))||(decide (n>8*(a.raw.length:Int))))=false->a.dZ=true/\0<=n/\n<=8*(a.raw.length:Int)):=by
 unfold gu
 cases hg:a.dZ
 .simp
 .simp;omega
theorem o3(a:a_)(n:Int)(w:J):aK ai 191 #[.agg a.c.toArray,.int .i64 n] w (λv w'=>v=.tuple #[.agg ((gu a n).getD bl.zero).c.toArray,.bool (gu a n).isSome]/\Ext w w'):=by
 refine ae.Gj _ n w _ ?_;(delta ae.o3 z5 aa bK b8 an ar uZ aM dF st hM l3;dsimp only);refine bc (vs:=a.c) rfl λw1 f u aC=>bc (vs:=bl.zero.c) rfl λaj O d aF=>?_;have f:=f.ext d;have d:=Ext.trans u d;have x:w.heap.size<=w1.heap.size:=u.size;have P:w1.heap.size<aj.heap.size:=by omega
 refine⟨a.c,f.rd a.bd,(l6 a aj).use ?_⟩;rintro _ Q ⟨s,rfl,g,y,j,hf⟩;have R:=f.ext j;refine⟨s,rfl,a.c,R.rd a.bd,(o9 a Q).use ?_⟩;rintro _ z ⟨rfl,l⟩;have o:=(O.ext j).ext l;have S:=g.ext l;have B:Ext w z:=Ext.trans (Ext.trans d j) l;have T:=a.jJ;have aG:a.raw.length<=16:=by rw[T];split<;>omega
 obtain⟨U,V⟩:=B2 a n;refine⟨a.dZ,rfl,?_⟩;rw[bB (n:=8*((s.len:Nat):Int)) I I];refine⟨λh=>?_,λh=>?_⟩
 .rw[y]at h
  rw[U h];refine⟨_,BZ _,o.b3 rfl (bl.plain _),rfl,cp o rfl rfl λaH W X _=>?_⟩;exact⟨_,W.rd (bl.bd _),rfl,Ext.cD B X x⟩
 .rw[y]at h
  obtain⟨hg,Y,Z⟩:=V h;refine⟨λi w'=>∃k:Nat,i=k/\k<=a.raw.length/\af (aE s) z w'/\aT 1 5 w' s (aD (kA n.toNat a.raw k)),λi _=>((a.raw.length:Int)-i).toNat,⟨0,rfl,cR _,.refl _ _,by rw[GV];exact S⟩,?_⟩;rintro _ e ⟨k,rfl,C,p,q⟩;refine⟨λaJ=>?_,λr=>?_⟩
  .have aJ:k<a.raw.length:=by have:=cl aJ;omega
   have ab:=q.ext (af.drew (.refl _ _):Ext e e.drew);obtain⟨A,aq,t,D,ac,ad,ag⟩:=ab.at (GZ (GY (n:=n.toNat) aJ));have ak:(a.raw[k]).toNat<256:=lU _;have aI:(8:Int)*(k:Int)=((8*k:Nat):Int):=by omega
   refine⟨_,e,run_max_int2 ..,_,e,run_min_int2 ..,aX ⟨A,aq,t,id,_,D,?_⟩⟩;rw[bB (n:=8*(k:Int)) I I,bB (n:=n-8*(k:Int)) I I];have al:(if (8:Int)<(if (0:Int)>n-8*(k:Int) then 0 else n-8*(k:Int)) then (8:Int) else (if (0:Int)>n-8*(k:Int) then 0 else n-8*(k:Int)))=((kb n.toNat k:Nat):Int):=by
    unfold kb;split<;>split<;>omega
   rw[al];have am:kb n.toNat k<9:=by unfold kb;omega
   rw[bB (n:=8-((kb n.toNat k:Nat):Int)) I I,GS _ ak _ am,bB (n:=(k:Int)+1) I I];refine⟨I,A,aq,t,⟨_,D⟩,ac,aX ⟨⟨k+1,I,I,?_,?_⟩,?_⟩⟩
   .exact af.set (af.drew p) (λ_=>ad) _
   .have:=ag (.int .u8 ((j7 a.raw[k] (kb n.toNat k)).toNat:Nat))
    rw[B1,←GX aJ,yL]at this;exact this
   .show((a.raw.length:Int)-((k:Int)+1)).toNat<((a.raw.length:Int)-(k:Int)).toNat
    omega
  .have r:k=a.raw.length:=by have:=cw r;omega
   subst r;rw[GW]at q;have ao:∀b,b<aj.heap.size->¬aE s b:=λb t g=>by have:=hf b g;omega
   have ap:=o.ah p (ao _ P);have au:Ext w e:=Ext.df B p (λk C=>by have:=hf k C;have:=d.size;omega);refine(o8 q.src).use ?_;rintro _ av ⟨rfl,E⟩;have F:Ext w av:=Ext.trans au E;have G:=ap.ext E;obtain⟨m,H⟩:∃m,m=(ib (gj n.toNat a.raw)).getD a_.zero:=⟨_,rfl⟩;have aw:gu a n=some ⟨m,n⟩:=by unfold gu;rw[if_pos ⟨hg,Y,Z⟩,H]
   rw[←H];refine⟨_,_,rfl,bc (vs:=a_.zero.c) rfl λaL K L aN=>⟨K.b3 (by simp[a_.bd]) (a_.plain _),by simp[a_.bd],cp K (us:=m.c) (by simp[a_.bd]) rfl λax ay M _=>?_⟩⟩;have N:=(G.ext L).ah M (by have:=G.lt;omega);have az:Ext w ax:=Ext.cD (Ext.trans F L) M F.size;refine⟨m.c,ay.rd (a_.bd _),_,yK _ m n,N.b3 (by simp[bl.bd]) (bl.plain _),by simp[bl.bd],cp N (us:=(bl.mk m n).c) (by simp[bl.bd]) rfl λaO aA aB _=>?_⟩;refine⟨_,aA.rd (bl.bd _),?_,Ext.cD az aB x⟩;rw[aw];rfl
def a_.eM(a:a_):Nat:=if a.ej then 0 else 12
theorem nM(a:a_)(w:J):aK ai 222 #[.agg a.c.toArray] w (λv w'=>v=a.eM/\Ext w w'):=by
 refine ae.GC _ w _ ?_;(delta ae.nM ak aY aa an;dsimp only);have b:=Var.new w a.c 24;have hx:Ext w (w.alloc (.cells a.c.toArray 24)):=af.alloc (.refl _ _) _;exact⟨a.ej,b.cell,λh=>⟨by simp[a_.eM,h],hx⟩,λh=>⟨by simp[a_.eM,h],hx⟩⟩
theorem B3(l:O UInt8)(h:l.length=12):l=fp 12↔∀i,(hi:i<12)->l[i]=0:=by
 constructor
 .rintro rfl i hi;simp only[fp,List.getElem_replicate]
 .intro h2
  apply np
  .simp[fp,h]
  .intro i a b
   rw[h2 i I];simp only[fp,List.getElem_replicate]
theorem a_.yM(a:a_){i:Nat}(h:i<16):a.c[1+i]? =some (.int .u8 (((a.b[i]'(by rw[a.h];exact h)).toNat:Nat):Int)):=by
 rw[Nat.add_comm];show(aD a.b)[i]? =_;exact pt (by rw[a.h];exact h)
theorem pk(a:a_)(w:J):aK ai 223 #[.agg a.c.toArray] w (λv w'=>v=a.dZ/\Ext w w'):=by
 refine ae.GD _ w _ ?_;(delta ae.pk ak an aY aa dF ar;dsimp only);have f:=Var.new w a.c 24;have hx:Ext w (w.alloc (.cells a.c.toArray 24)):=af.alloc (.refl _ _) _;obtain⟨w1,r⟩:∃w1,w1=w.alloc (.cells a.c.toArray 24):=⟨_,rfl⟩;rw[←r]at f hx⊢;refine⟨λi w'=>w1=w'/\∃k:Nat,i=k/\k<=12/\(a.ej=false->∀j,(m:j<k)->(g:j<16)->a.b[j]'(by rw[a.h];exact g)=0),λi _=>((12:Int)-i).toNat,⟨rfl,0,rfl,I,λ_ j m=>I⟩,?_⟩;rintro _ _ ⟨rfl,k,rfl,y,n⟩;refine⟨λaJ=>?_,λl=>?_⟩
 .have aJ:k<12:=by have:=cl aJ;omega
  have s:=a.yM (i:=k) I;have t:Addr.add (Addr.add w.heap.size 1) (Int.toNat (k:Int)*1)=⟨w.heap.size,1+k,none⟩:=by rw[az,az];simp
  refine⟨a.ej,f.cell,cq (λb w'=>w1=w'/\(b=true↔a.ej=false/\a.b[k]'(by rw[a.h];omega)≠0)) (λq o=>⟨λh=>⟨⟨I,I⟩,_,by rw[t,f.cell];exact s,o _ _ ⟨rfl,?_⟩⟩,λh=>o _ _ ⟨rfl,?_⟩⟩) ?_⟩
  .have d:a.ej=false:=by simpa using h
   simp only[d,true_and,bne_iff_ne,ne_eq];refine not_congr ?_;constructor
   .intro h;exact rN.1 (by exact_mod_cast h)
   .intro h;rw[h];rfl
  .have d:a.ej=true:=by simpa using h
   simp[d]
  .rintro b _ ⟨rfl,p⟩
   refine⟨λh=>?_,λh=>?_⟩
   .obtain⟨d,u⟩:=p.1 h
    refine⟨?_,hx⟩;have:¬a.b.take 12=fp 12:=by
     rw[B3 _ (by simp[a.h])];intro x;have:=x k aJ;simp at this;exact u this
    simp[a_.dZ,d,this]
   .rw[bB I I]
    refine⟨⟨rfl,k+1,I,I,λd j m g=>?_⟩,?_⟩
    .by_cases e:j=k
     .subst e
      rcases Classical.em (a.b[j]'(by rw[a.h];omega)=0) with h0|h0
      .exact h0
      .have:=p.2 ⟨d,h0⟩;rw[h]at this;cases this
     .exact n d j I g
    .show((12:Int)-((k:Int)+1)).toNat<((12:Int)-(k:Int)).toNat
     omega
 .have l:k=12:=by have:=cw l;omega
  subst l;refine⟨?_,hx⟩
  cases d:a.ej
  .have:a.b.take 12=fp 12:=by
    rw[B3 _ (by simp[a.h])];intro i hi;have:=n d i hi I;simpa using this
   simp[a_.dZ,d,this]
  .simp[a_.dZ,d]
theorem po(a:a_)(w:J):aK ai 270 #[.agg a.c.toArray] w (λv w'=>∃s:ad,v=s/\aT 1 5 w' s (aD a.raw)/\s.len=a.raw.length/\Ext w w'):=by
 refine ae.GH _ w _ ?_;delta ae.po ak aa bS;have d:=Var.new w a.c 24;have f:Ext w (w.alloc (.cells a.c.toArray 24)):=af.alloc (.refl _ _) _;obtain⟨w1,l⟩:∃w1,w1=w.alloc (.cells a.c.toArray 24):=⟨_,rfl⟩;rw[←l]at d f⊢;have g:Ext w1 (w1.alloc (.cells #[] 5)):=af.alloc (.refl _ _) _;have m:=aT.new (sz:=1) (T:=5) w1 [] 0 (by simp) (by decide);refine⟨a.c,(d.ext g).rd a.bd,(nM a _).use ?_⟩;rintro _ n ⟨rfl,i⟩;have o:=(d.ext g).ext i;have p:=m.ext i;have y:a.eM<=12:=by unfold a_.eM;split<;>omega
 have hlen:=a.jJ;have z:a.raw.length=16-a.eM:=by rw[hlen];unfold a_.eM;split<;>rfl
 have q:a.raw=a.b.drop a.eM:=by unfold a_.raw a_.eM;split<;>simp
 have e:aO (some (Addr.add w.heap.size 1)) 1 (Int.toNat (a.eM:Int)) 16=some ⟨w.heap.size,1+a.eM,none⟩:=by
  rw[az,di,mJ I,fE,cF]
 have r:Src 1 n ⟨some ⟨w.heap.size,1+a.eM,none⟩,16-a.eM,16-a.eM⟩ (aD a.raw):=by
  refine o.qY (by rw[a.bd];omega) ?_;rw[q,a_.c,Nat.add_comm,List.drop_succ_cons,dr (by rw[dw,dm,a.h];exact bt _)];simp[aD,mu]
 obtain⟨s2,t,h1,h2,u,x,A⟩:=lG.append (cC:=48) r p (iG _) (by show(2*(0+(16-a.eM))+1000)*1<=_;omega);refine⟨_,rfl,⟨I,I⟩,s2,t,by rw[e];exact h1,s2,rfl,by simpa using h2,by rw[u];show 0+(16-a.eM)=_;omega,?_⟩;exact Ext.df (Ext.trans (Ext.trans f g) i) x (λk j=>by rw[jl]at j;subst j;exact f.size)
theorem B4(i:Nat):kb i (i/8)=i%8:=by unfold kb;omega
theorem G0(i:Nat):kb (i+1) (i/8)=i%8+1:=by unfold kb;omega
theorem G1{i j:Nat}(h:j≠i/8):kb (i+1) j=kb i j:=by unfold kb;omega
theorem B5{i:Nat}{l:O UInt8}(h:i/8<l.length):gj (i+1) l=(gj i l).set (i/8) (j7 l[i/8] (i%8+1)):=by
 apply np
 .simp[gj]
 .intro j h1 h2
  simp only[gj,tP,oq];by_cases e:i/8=j
  .subst e;rw[if_pos rfl,G0]
  .rw[if_neg e,G1 (λh=>e h.symm)]
theorem G2{i:Nat}{l:O UInt8}(h:i/8<l.length)(a:j7 l[i/8] (i%8)=j7 l[i/8] (i%8+1)):gj (i+1) l=gj i l:=by
 rw[B5 h,←a];apply np
 .simp
 .intro j h1 h2
  simp only[oq];by_cases e:i/8=j
  .subst e;rw[if_pos rfl];simp only[gj,tP,B4]
  .rw[if_neg e]
theorem G3(l:O UInt8):gj 0 l=fp l.length:=by
 apply np
 .simp[gj,fp]
 .intro j h1 h2
  simp only[gj,tP,fp,List.getElem_replicate];have:kb 0 j=0:=by unfold kb;omega
  rw[this];unfold j7;rw[GR _ (lU _)];rfl
theorem G4(w:J)(ej:al):Sem.run ai (Instr.build 24 #[(0,ej)]) w=.ok (.agg (a_.mk ej (fp 16) (by simp[fp])).c.toArray) w:=by kernel_rfl
def gL(a:a_)(k:Nat):O UInt8:=fp a.eM++gj k a.raw
theorem mV(a:a_)(k:Nat):(gL a k).length=16:=by
 unfold gL;rw[cG,pv,a.jJ];unfold a_.eM;split<;>simp[fp]
theorem G5(a:a_):gL a 0=fp 16:=by
 unfold gL;rw[G3,a.jJ];unfold a_.eM;split<;>simp[fp]
theorem G6(a:a_){k:Nat}(h:k/8<a.raw.length):(gL a k).set (a.eM+k/8) (j7 a.raw[k/8] (k%8+1))=gL a (k+1):=by
 unfold gL;rw[tQ (h:=by simp[fp]),B5 h];simp[fp]
theorem Var.G7{w:J}{b:Nat}{vs:O Y}{T:TypeId}(h:Var w b vs T)(i:Nat)(v:Y):Var (w.setCell ⟨b,i,none⟩ v) b (vs.set i v) T:=by
 have:=bu.set h i v;simpa[Var] using this
theorem G8(a:a_){j:Nat}(h:j<a.raw.length):a.eM+j<16/\∀h2,a.b[a.eM+j]'h2=a.raw[j]:=by
 have c:=a.jJ;have hf:a.eM=if a.ej then 0 else 12:=rfl
 refine⟨?_,λh2=>?_⟩
 .rw[hf];rw[c]at h;split at h<;>simp_all<;>omega
 .unfold a_.raw
  simp only[hf];split<;>simp
theorem ph(a:a_)(n:Int)(w:J):aK ai 165 #[.agg a.c.toArray,.int .i64 n] w (λv w'=>v=.tuple #[.agg ((gu a n).getD bl.zero).c.toArray,.bool (gu a n).isSome]/\Ext w w'):=by
 refine ae.Gz _ n w _ ?_;(delta ae.ph z5 aa bS b8 an ar uZ aY dF st;dsimp only);refine bc (vs:=a.c) rfl λw1 o D ay=>bc (vs:=bl.zero.c) rfl λaj N p aA=>?_;have o:=o.ext p;have p:=Ext.trans D p;have E:w.heap.size<=w1.heap.size:=D.size;refine⟨a.c,o.rd a.bd,(nM a aj).use ?_⟩;rintro _ O ⟨rfl,t⟩;have F:=o.ext t;refine⟨_,rfl,a.c,F.rd a.bd,(pk a O).use ?_⟩;rintro _ g ⟨rfl,u⟩;have r:=F.ext u;have j:=(N.ext t).ext u;have s:Ext w g:=Ext.trans (Ext.trans p t) u;have aB:a.eM<=12:=by unfold a_.eM;split<;>omega
 have aC:a.raw.length=16-a.eM:=by rw[a.jJ];unfold a_.eM;split<;>rfl
 obtain⟨P,Q⟩:=B2 a n;refine⟨a.dZ,rfl,?_⟩;rw[bB (n:=16-((a.eM:Nat):Int)) I I,bB (n:=8*(16-((a.eM:Nat):Int))) I I,show 16-((a.eM:Nat):Int)=((a.raw.length:Nat):Int) from I];refine⟨λh=>?_,λh=>?_⟩
 .rw[P h]
  refine⟨_,BZ _,j.b3 rfl (bl.plain _),rfl,cp j rfl rfl λaE R S _=>?_⟩;exact⟨_,R.rd (bl.bd _),rfl,Ext.cD s S E⟩
 .obtain⟨hg,T,U⟩:=Q h
  refine⟨a.ej,r.cell,_,G4 _ _,_,yK _ _ n,bc (vs:=bl.zero.c) rfl λaF l x aG=>⟨l.b3 (by simp[bl.bd]) (bl.plain _),by simp[bl.bd],cp l (us:=(bl.mk (a_.mk a.ej (gL a 0) (mV a 0)) n).c) (by simp[bl.bd]) (by simp[G5]) λy V z aH=>?_⟩⟩;have W:=(r.ext x).ah z (by have:=r.lt;omega);have X:=(j.ext x).ah z (by have:=j.lt;omega);have Y:Ext w y:=Ext.cD (Ext.trans s x) z s.size;refine⟨λi w'=>∃k:Nat,i=k/\(k:Int)<=n/\af (λq=>q=g.heap.size) y w'/\Var w' g.heap.size (bl.mk (a_.mk a.ej (gL a k) (mV a k)) n).c 26,λi _=>(n-i).toNat,⟨0,rfl,I,.refl _ _,V⟩,?_⟩;rintro _ Z ⟨k,rfl,aI,m,f⟩;have ab:=W.ah m (by have:=r.lt;omega);have G:=X.ah m (by have:=j.lt;omega);refine⟨λaJ=>?_,λH=>?_⟩
  .have aJ:(k:Int)<n:=cl aJ
   have A:k/8<a.raw.length:=by omega
   obtain⟨B,ac⟩:=G8 a A;have K:=a.yM (i:=a.eM+k/8) B;rw[ac]at K;have ad:(a.raw[k/8]).toNat<256:=lU _;obtain⟨ag,ak⟩:=GU (a.raw[k/8]).toNat ad (k%8) (hZ _ I);have ediv:Int.tdiv (k:Int) 8=((k/8:Nat):Int):=by rw[FC I];rfl
   have emod:Int.tmod (k:Int) 8=((k%8:Nat):Int):=by rw[FD I];rfl
   rw[ediv,emod,bB (n:=((k/8:Nat):Int)) I I,bB (n:=((a.eM:Nat):Int)+((k/8:Nat):Int)) I I,bB (n:=7-((k%8:Nat):Int)) I I,gq (n:=7-((k%8:Nat):Int)) I I,show 7-((k%8:Nat):Int)=((7-k%8:Nat):Int) from I];have L:∀b:Nat,Addr.add (Addr.add ⟨b,0,none⟩ 1) (Int.toNat (((a.eM:Nat):Int)+((k/8:Nat):Int))*1)=⟨b,1+(a.eM+k/8),none⟩:=by
    intro b;rw[az,az];congr 1;omega
   rw[L,L];have M:(bl.mk (a_.mk a.ej (gL a k) (mV a k)) n).c[1+(a.eM+k/8)]? =some (.int .u8 ((aW (a.raw[k/8]).toNat (k%8):Nat):Int)):=by
    rw[bl.c,tR (by rw[a_.bd];omega),a_.yM _ B];have:(gL a k)[a.eM+k/8]'(by rw[mV];exact B)=j7 a.raw[k/8] (k%8):=by
     unfold gL;rw[p1 (by simp[fp])];simp only[fp,mw,Nat.add_sub_cancel_left,gj,tP,B4]
    simp only[this,yL]
   have al:((n-((k:Int)+1)).toNat)<(n-(k:Int)).toNat:=by omega
   refine j4 (λw'=>af (λq=>q=g.heap.size) y w'/\Var w' g.heap.size (bl.mk (a_.mk a.ej (gL a (k+1)) (mV a (k+1))) n).c 26) (λq l=>⟨by decide,⟨I,I⟩,_,by rw[ab.cell];exact K,by decide,I,by decide,λC=>?_,λC=>?_⟩) ?_
   .refine⟨by decide,by decide,⟨I,I⟩,_,by rw[f.cell];exact M,by decide,I,⟨I,I⟩,⟨_,by rw[f.cell];exact M⟩,bu.frozen f _ rfl,aX (l _ ⟨af.gS m _,?_⟩)⟩
    rw[ag C];have:=f.G7 (1+(a.eM+k/8)) (.int .u8 ((aW (a.raw[k/8]).toNat (k%8+1):Nat):Int));have e:(bl.mk (a_.mk a.ej (gL a k) (mV a k)) n).c.set (1+(a.eM+k/8)) (.int .u8 ((aW (a.raw[k/8]).toNat (k%8+1):Nat):Int))=(bl.mk (a_.mk a.ej (gL a (k+1)) (mV a (k+1))) n).c:=by
     rw[bl.c,List.set_append_left (h:=by rw[a_.bd];omega),bl.c]
     congr 1
     rw[a_.c,Nat.add_comm 1,List.set_cons_succ,a_.c]
     congr 1
     show(aD (gL a k)).set _ _=aD (gL a (k+1));rw[←yL,B1,G6 a A]
    rwa[e]at this
   .refine l _ ⟨m,?_⟩
    have am:j7 a.raw[k/8] (k%8)=j7 a.raw[k/8] (k%8+1):=by unfold j7;rw[ak C]
    have e:gL a (k+1)=gL a k:=by unfold gL;rw[G2 A am]
    simp only[e];exact f
   .rintro aL ⟨ao,ap⟩
    rw[bB (n:=(k:Int)+1) I I];exact⟨⟨k+1,I,I,ao,ap⟩,al⟩
  .have H:n=(k:Int):=by have:=cw H;omega
   have aq:gu a n=some ⟨a_.mk a.ej (gL a k) (mV a k),n⟩:=by
    unfold gu;rw[if_pos ⟨hg,T,U⟩]
    congr 2
    have au:n.toNat=k:=by omega
    rw[au];apply a_.ext'
    .cases d:a.ej
     .have:(gj k a.raw).length=4:=by rw[pv,a.jJ,d];rfl
      simp[ib,this,lH]
     .have:(gj k a.raw).length=16:=by rw[pv,a.jJ,d];rfl
      simp[ib,this]
    .cases d:a.ej
     .have:(gj k a.raw).length=4:=by rw[pv,a.jJ,d];rfl
      simp[ib,this,lH,gL,a_.eM,d]
     .have:(gj k a.raw).length=16:=by rw[pv,a.jJ,d];rfl
      simp[ib,this,gL,a_.eM,d,fp]
   refine⟨_,f.rd (bl.bd _),G.b3 (by simp[bl.bd]) (bl.plain _),by simp[bl.bd],cp G (us:=(bl.mk (a_.mk a.ej (gL a k) (mV a k)) n).c) (by simp[bl.bd]) rfl λaM av aw _=>?_⟩;have ax:Ext w Z:=Ext.cD Y m s.size;refine⟨_,av.rd (bl.bd _),?_,Ext.cD ax aw E⟩;rw[aq];rfl
theorem Src.sub{w:J}{s:ad}{vs:O Y}{lo hi:Nat}(h:Src 1 w s vs)(hc:s.len<=s.cap)(h1:lo<=hi)(h2:hi<=s.len):Src 1 w ⟨aO s.a 1 lo s.cap,hi-lo,s.cap-lo⟩ ((vs.drop lo).take (hi-lo)):=by
 have l:vs.length=s.len:=by have:=h.len;omega
 refine⟨by simp;omega,λc=>?_,λa b=>?_⟩
 .have f:s.a=none:=by
   unfold aO at c;split at c
   .exact c
   .simpa using c
  simp[h.nil f]
 .show a8 w a 0 ((hi-lo)*1)=_
  by_cases e:hi=lo
  .rw[show hi-lo=0 from I];simp[a8]
  .have aq:∃A,s.a=some A/\a=A.add lo:=by
    unfold aO at b;rw[if_neg I]at b
    cases hs:s.a with
    |none=>rw[hs]at b;cases b
    |some A=>rw[hs]at b;exact⟨A,rfl,by simpa using b.symm⟩
   obtain⟨A,aq,rfl⟩:=aq;have g:=h.rd A aq;have:=yI (w:=w) (A:=A.add lo) ((vs.drop lo).take (hi-lo)) 0 (λj v d=>by
    rw[add_add];have i:j<hi-lo:=by have:=(jV.1 d).1;simp at this;omega
    rw[List.getElem?_take_of_lt i,tJ]at d;have:=mI g d;simpa using this)
   have k:((vs.drop lo).take (hi-lo)).length=hi-lo:=by simp;omega
   rw[k]at this;rw[fE];exact this
def ic(l:O UInt8):Nat:=l.foldl (λn c=>n*256+c.toNat) 0
theorem G9(l m:O UInt8):ic (l++m)=m.foldl (λn c=>n*256+c.toNat) (ic l):=by simp[ic,List.foldl_append]
theorem yN(l:O UInt8)(c:UInt8):ic (l++ [c])=ic l*256+c.toNat:=by rw[G9];rfl
theorem s0:∀ (k:Nat) (l:O UInt8),l.length=k->ic l<256^k:=by
 intro k
 induction k with
 |zero=>intro l h;rw[mq.1 h];simp[ic]
 |succ k a=>
  intro l h;obtain⟨m,c,rfl⟩:∃m c,l=m++ [c]:=by
   rcases List.eq_nil_or_concat l with rfl|⟨m,c,b⟩
   .simp at h
   .exact⟨m,c,by rw[b,List.concat_eq_append]⟩
  rw[yN,Nat.pow_succ];have:=a m (by simpa using h);have:=lU c;omega
theorem G_{a b:Nat}(c:a<2^64)(d:b<2^64):nv .u64 (a:Int) (b:Int)=((a|||b:Nat):Int):=by
 have e:BitVec.ofInt 64 (a:Int)=BitVec.ofNat 64 a:=by simp
 have f:BitVec.ofInt 64 (b:Int)=BitVec.ofNat 64 b:=by simp
 unfold nv;show IntKind.u64.wrap (((BitVec.ofInt 64 (a:Int)|||BitVec.ofInt 64 (b:Int)).toNat:Nat):Int)=_;rw[e,f,BitVec.toNat_or,BitVec.toNat_ofNat,BitVec.toNat_ofNat,kl c,kl d];have:a|||b<2^64:=Nat.or_lt_two_pow c d;have:a|||b<18446744073709551616:=this;rw[gq I I]
theorem Ha(n c:Nat)(hc:c<256):n*256|||c=n*256+c:=by
 have:=Nat.shiftLeft_add_eq_or_of_lt (i:=8) (b:=c) (by simpa using hc) n;rw[Nat.shiftLeft_eq]at this;exact this.symm
theorem ky{s:ad}{l:O UInt8}{w:J}(hs:Src 1 w s (aD l))(hc:s.len<=s.cap){a k:Nat}(t:1<=k/\k<=8)(u:a+k<=l.length)(x:l.length<=1000000000000):
 aK ai 156 #[s,a,k] w (λv w'=>v=.tuple #[.int .u64 ((ic ((l.drop a).take k):Nat):Int),true]/\w=w'):=by
 refine okF (ae.ky s a k) ay.ky func156 ?_;(delta ae.ky hL an b8 aM dF ar;dsimp only);have y:s.len=l.length:=by have:=hs.len;rw[dm]at this;omega
 refine Calls.mono (ae.Gn s a k w (λv w'=>v=.tuple #[.slice (aO s.a 1 a s.cap) k (s.cap-a),true]/\w=w') ?_) ?_
 .delta ae.lE an ar
  rw[bB (n:=(s.len:Int)-(a:Int)) I I,bB (n:=(a:Int)+(k:Int)) I I];refine⟨λh=>?_,λ_=>⟨⟨I,I⟩,⟨I,I⟩,?_,rfl⟩⟩
  .simp only[jy,b_]at h;omega
  .rw[show Int.toNat ((a:Int)+(k:Int))-Int.toNat (a:Int)=k from I];rfl
 rintro _ _ ⟨_,rfl,rfl,rfl⟩;refine⟨⟨aO s.a 1 a s.cap,k,s.cap-a⟩,true,rfl,cq (λb w'=>b=false/\w=w') (λq f=>⟨λh=>by simp at h,λ_=>?_⟩) ?_⟩
 .refine Calls.mono (ae.BW k w (λv w'=>v=true/\w=w') ⟨?_,rfl⟩) ?_
  .have h1:decide ((k:Int)>=1)=true:=dD I
   have h2:decide ((k:Int)<=8)=true:=dD I;rw[h1,h2];rfl
  .rintro _ _ ⟨_,rfl,rfl,rfl⟩
   exact⟨_,rfl,f _ _ ⟨rfl,rfl⟩⟩
 rintro _ _ ⟨rfl,rfl⟩;have c:=Src.sub hs hc (lo:=a) (hi:=a+k) I I;rw[show a+k-a=k from I]at c;have c:Src 1 w ⟨aO s.a 1 a s.cap,k,s.cap-a⟩ (aD ((l.drop a).take k)):=by
  simpa[aD,mu,mv] using c
 obtain⟨m,e⟩:∃m,m=(l.drop a).take k:=⟨_,rfl⟩;have z:m.length=k:=by rw[e];simp;omega
 rw[←e]at c⊢;refine⟨λh=>by simp at h,λ_=>⟨λn i w'=>w=w'/\∃j:Nat,i=j/\j<=k/\n=((ic (m.take j):Nat):Int),λ_ i _=>((k:Int)-i).toNat,⟨rfl,0,rfl,cR _,rfl⟩,?_⟩⟩;rintro _ _ _ ⟨rfl,j,rfl,B,rfl⟩;refine⟨λaJ=>?_,λd=>?_⟩
 .have aJ:((j:Int)<(k:Int)):=cl aJ
  have aJ:j<k:=by omega
  obtain⟨A,aq,g,o⟩:=c.at (pt (l:=m) (i:=j) I);have h1:=s0 j (m.take j) (by simp;omega);have h2:256^j<=256^7:=tS I I;have h2:256^j<=72057594037927936:=h2;have p:(m[j]).toNat<256:=lU _;have r:((ic (m.take j):Nat):Int)*2^(min (Int.toNat 8) 64)=((ic (m.take j)*256:Nat):Int):=by
   show((ic (m.take j):Nat):Int)*256=_;omega
  refine⟨A,aq,g,_,o,by decide,?_⟩;rw[r,gq (n:=((ic (m.take j)*256:Nat):Int)) I I,gq (n:=((m[j].toNat:Nat):Int)) I I,G_ (by show _<18446744073709551616;omega) (by show _<18446744073709551616;omega),Ha _ _ p,bB (n:=(j:Int)+1) I I];refine⟨⟨rfl,j+1,I,I,?_⟩,?_⟩
  .rw[take_succ m I,yN]
  .show((k:Int)-((j:Int)+1)).toNat<((k:Int)-(j:Int)).toNat
   omega
 .have d:¬((j:Int)<(k:Int)):=cw d
  have d:j=k:=by omega
  subst d;exact⟨by rw[dr I],rfl⟩
theorem yO{w:J}{s:ad}{l:O UInt8}(h:Src 1 w s (aD l))(g:l.length<=1000000):
 aK ai 135 #[s] w (λv w'=>∃b:ad,v=b/\aT 1 5 w' b (aD l)/\Ext w w'/\∀k,aE b k->w.heap.size<=k):=by
 have i:s.len=l.length:=by have:=h.len;rw[dm]at this;omega
 refine okF (ae.oV s) ay.oV func135 ?_;delta ae.oV an aa;refine⟨λc=>?_,λ_=>?_⟩
 .have c:s.a=none:=by simpa using c
  rw[h.nil c];exact⟨⟨none,0,0⟩,rfl,aT.none _ _ _,.refl _ _,λk d=>(gy k d).elim⟩
 .obtain⟨b,w',h1,h2,j,e,f,_⟩:=lG.clone (cC:=48) h (iG l) I
  exact aX ⟨b,w',h1,b,rfl,h2,e,f⟩
theorem B6{w:J}{s:ad}{l:O UInt8}(c:UInt8)(b:aT 1 5 w s (aD l))(g:l.length<=1000000):
 ∃ (a:ad) (w':J),Sem.run ai (Builtin.append_ #[48,48] 48 #[s,.slice (some w.heap.size) 1 1]) (w.alloc (.cells #[.int .u8 (c.toNat:Int)] 5))=.ok a w'/\
  aT 1 5 w' a (aD (l++ [c]))/\af (aE s) w w'/\(∀k,aE a k->aE s k\/w.heap.size<=k):=by
 have h:s.len=l.length:=by have:=b.1;rw[dm]at this;omega
 obtain⟨a,w',h1,h2,i,d,e⟩:=lG.push (cC:=48) (w:=w) (s:=s) (xs:=[.int .u8 (c.toNat:Int)]) rfl b (λv f=>by rw[fz.1 f];trivial) I;exact⟨a,w',h1,by rw[mU];exact h2,d,e⟩
def bL(n k:Nat):O UInt8:=(List.range k).map λj=>UInt8.ofNat (n/256^(k-1-j)%256)
theorem dH(n k:Nat):(bL n k).length=k:=by simp[bL]
theorem gV{s:ad}{l:O UInt8}{w:J}(hs:Src 1 w s (aD l))(C:l.length<=100000){n k:Nat}(f:n<2^64)(D:1<=k/\k<=8):
 aK ai 126 #[s,.int .u64 n,k] w (λv w'=>∃a:ad,v=a/\aT 1 5 w' a (aD (l++bL n k))/\Ext w w'/\∀q,aE a q->w.heap.size<=q):=by
 have f:n<18446744073709551616:=f;refine okF (ae.gV s n k) ay.gV func126 ?_;delta ae.gV bK b8 an ar aa;refine(yO hs I).use ?_;rintro _ w1 ⟨s1,rfl,g,m,o⟩;refine⟨s1,rfl,Calls.mono (ae.BW k w1 (λv w'=>v=true/\w1=w') ⟨?_,rfl⟩) ?_⟩
 .have h1:decide ((k:Int)>=1)=true:=dD I
  have h2:decide ((k:Int)<=8)=true:=dD I;rw[h1,h2];rfl
 rintro _ _ ⟨_,rfl,rfl,rfl⟩;rw[bB (n:=(k:Int)-1) I I];refine⟨_,rfl,λh=>by simp at h,λ_=>⟨λt i w'=>∃j:Nat,i=(k:Int)-1-j/\j<=k/\Ext w w'/\(∀q,aE t q->w.heap.size<=q)/\aT 1 5 w' t (aD (l++(bL n k).take j)),λ_ i _=>(i+1).toNat,⟨0,I,I,m,o,by simpa using g⟩,?_⟩⟩;rintro t _ aj ⟨j,rfl,E,b,c,d⟩;refine⟨λaJ=>?_,λe=>?_⟩
 .have aJ:j<k:=by have:=cl aJ;omega
  rw[bB (n:=8*((k:Int)-1-j)) I I,bB (n:=(k:Int)-1-j-1) I I];have p:IntKind.wrap .u8 (Int.fdiv (n:Int) (2^(min (Int.toNat (8*((k:Int)-1-j))) 64)))=((((UInt8.ofNat (n/256^(k-1-j)%256)).toNat:Nat)):Int):=by
   rw[qU (hZ _ I),show min (Int.toNat (8*((k:Int)-1-j))) 64=8*(k-1-j) from I,FB];have r:((2:Int)^(8*(k-1-j)))=((256^(k-1-j):Nat):Int):=by
    rw[Int.pow_mul];simp
   rw[r,Int.fdiv_eq_ediv_of_nonneg _ (Int.natCast_nonneg _)];generalize 256^(k-1-j)=z;rfl
  rw[p];obtain⟨u,x,h1,h2,y,A⟩:=B6 (UInt8.ofNat (n/256^(k-1-j)%256)) d (by simp[bL];omega);refine⟨I,aX ⟨u,x,h1,⟨j+1,I,I,Ext.df b y c,λq B=>?_,?_⟩,?_⟩⟩
  .rcases A q B with h|h
   .exact c q h
   .exact eC b.size h
  .rw[take_succ _ (by rw[dH];exact aJ),←cM]
   have:(bL n k)[j]'(by rw[dH];exact aJ)=UInt8.ofNat (n/256^(k-1-j)%256):=by simp[bL]
   rw[this];exact h2
  .show((k:Int)-1-j-1+1).toNat<((k:Int)-1-j+1).toNat
   omega
 .have e:j=k:=by have:=cw e;omega
  subst e;rw[dr (by rw[dH];exact bt _)]at d;exact⟨t,rfl,d,b,c⟩
theorem B7{l:O UInt8}{a:a_}(h:ib l=some a):a.dZ=true:=by
 unfold ib at h;split at h
 .cases h;simp[lH,a_.dZ,fp]
 .split at h
  .cases h;simp[a_.dZ]
  .cases h
theorem o0(a:a_)(n:Int)(w:J):aK ai 125 #[.agg a.c.toArray,.int .i64 n] w (λv w'=>v=.tuple #[.agg ((gu a n).getD bl.zero).c.toArray,.bool (gu a n).isSome]/\Ext w w'):=by
 refine ae.F_ _ n w _ ?_;delta ae.o0 z5 aa hM;refine bc (vs:=a.c) rfl λw1 g b k=>bc (vs:=bl.zero.c) rfl λaj h d l=>⟨a.c,(g.ext d).rd a.bd,(o3 a n aj).use ?_⟩;rintro _ m ⟨rfl,e⟩;have f:=h.ext e;refine⟨_,_,rfl,f.b3 (by simp[bl.bd]) (bl.plain _),by simp[bl.bd],cp f (us:=((gu a n).getD bl.zero).c) (by simp[bl.bd]) rfl λo i j _=>?_⟩;exact⟨_,i.rd (bl.bd _),rfl,Ext.cD (Ext.trans (Ext.trans b d) e) j b.size⟩
theorem a_.s3{cs:O Y}(h:jm (.bool::lF 16) cs):∃a:a_,cs=a.c:=by
 obtain⟨_,us,rfl,⟨b,rfl⟩,h2⟩:=h;obtain⟨l,d,rfl⟩:=BD h2;exact⟨⟨b,l,d⟩,rfl⟩
theorem bl.s3{cs:O Y}(h:jm ((.bool::lF 16)++ [.int .i64]) cs):∃p:bl,cs=p.c/\ -9223372036854775808<=p.bits/\p.bits<=9223372036854775807:=by
 obtain⟨us,ts,rfl,h1,h2⟩:=yi h;obtain⟨a,rfl⟩:=a_.s3 h1;obtain⟨_,_,rfl,⟨n,rfl,b,d⟩,rfl⟩:=h2;exact⟨⟨a,n⟩,rfl,Fx b d⟩
theorem B8{l:O UInt8}{a:a_}(h:ib l=some a):a.raw=l/\(a.ej=true↔l.length=16):=by
 unfold ib at h;split at h
 .rename_i b
  cases h;refine⟨?_,?_⟩
  .show(fp 12++l).drop 12=l
   exact List.drop_left' (by simp[fp])
  .simp[lH,b]
 .split at h
  .rename_i c;cases h;exact⟨rfl,by simp[c]⟩
  .cases h
theorem B9{l:O UInt8}(h:l.length=4\/l.length=16):∃a,ib l=some a:=by
 unfold ib;rcases h with h|h
 .exact⟨_,dif_pos h⟩
 .rw[dif_neg I];exact⟨_,dif_pos h⟩
theorem wE(a:a_):a.raw.length=4\/a.raw.length=16:=by rw[a.jJ];split<;>simp
theorem yP{a:a_}{n:Int}{p:bl}(h:gu a n=some p):p.bits=n/\p.addr.dZ=true/\p.addr.raw=gj n.toNat a.raw/\p.addr.raw.length=a.raw.length:=by
 unfold gu at h;split at h
 .rename_i hc
  have e:(gj n.toNat a.raw).length=4\/(gj n.toNat a.raw).length=16:=by rw[pv];exact wE a
  obtain⟨b,c⟩:=B9 e;rw[c]at h
  cases h;have d:=B8 c;exact⟨rfl,B7 c,d.1,by show b.raw.length=_;rw[d.1,pv]⟩
 .cases h
theorem qE{s:ad}{l:O UInt8}{w:J}(hs:Src 1 w s (aD l)):aK ai 157 #[s] w (λv w'=>v=.tuple #[.agg ((ib l).getD a_.zero).c.toArray,.bool (ib l).isSome]/\Ext w w'):=by
 refine okF (ae.qE s) ay.qE func157 ?_;delta ae.qE l3 hM aa;refine bc (vs:=a_.zero.c) rfl λw1 e a h=>(o8 (hs.ext a)).use ?_;rintro _ aj ⟨rfl,b⟩;have d:=e.ext b;refine⟨_,_,rfl,d.b3 (by simp[a_.bd]) (a_.plain _),by simp[a_.bd],cp d (us:=((ib l).getD a_.zero).c) (by simp[a_.bd]) rfl λi f g _=>?_⟩;exact⟨_,f.rd (a_.bd _),rfl,Ext.cD (Ext.trans a b) g (bt _)⟩
end Go.Proofs.YtkdhdlfonmgheaaGreat
namespace Go.Proofs.YtkdhdlfonmgheaaGreat
abbrev Key:=O UInt8
abbrev aR:=Key×Key
def eA:Key->Key->Int
 | [],[]=>0
 | [],_::_=> -1
 |_::_,[]=>1
 |a::x,b::y=>if a.toNat<b.toNat then -1 else if b.toNat<a.toNat then 1 else eA x y
theorem Hb{a b:UInt8}(h1:¬a.toNat<b.toNat)(h2:¬b.toNat<a.toNat):a=b:=rN.1 I
theorem yQ:∀a:Key,eA a a=0
 | []=>rfl
 |a::x=>by simp[eA,yQ x]
theorem yR:∀ {a b:Key},eA a b=0->a=b
 | [],[],_=>rfl
 | [],_::_,h=>by simp[eA]at h
 |_::_,[],h=>by simp[eA]at h
 |a::x,b::y,h=>by
  unfold eA at h
  split at h
  .cases h
  .rename_i h1
   split at h
   .cases h
   .rename_i h2
    rw[Hb h1 h2,yR h]
theorem Hc{a b:Key}:eA a b=0↔a=b:=⟨yR,λh=>h▸yQ _⟩
theorem B_:∀a b:Key,eA a b= -1\/eA a b=0\/eA a b=1
 | [],[]=>.inr (.inl rfl)
 | [],_::_=>.inl rfl
 |_::_,[]=>.inr (.inr rfl)
 |a::x,b::y=>by
  unfold eA
  split
  .exact .inl rfl
  .split
   .exact .inr (.inr rfl)
   .exact B_ x y
theorem Ca:∀a b:Key,eA b a=-eA a b
 | [],[]=>rfl
 | [],_::_=>rfl
 |_::_,[]=>rfl
 |a::x,b::y=>by
  unfold eA
  by_cases h1:a.toNat<b.toNat
  .have h2:¬b.toNat<a.toNat:=by omega
   simp[h1,h2]
  .by_cases h2:b.toNat<a.toNat
   .simp[h1,h2]
   .simp only[h1,h2,if_false]
    exact Ca x y
theorem Cb:∀ {a b c:Key},eA a b<0->eA b c<0->eA a c<0
 | [],[],_,h,_=>by simp[eA]at h
 | [],_::_,[],_,h=>by simp[eA]at h
 | [],_::_,_::_,_,_=>by simp[eA]
 |_::_,[],_,h,_=>by simp[eA]at h
 |_::_,_::_,[],_,h=>by simp[eA]at h
 |a::x,b::y,c::z,h1,h2=>by
  unfold eA at h1 h2⊢
  by_cases a1:a.toNat<b.toNat
  .by_cases a2:b.toNat<c.toNat
   .rw[if_pos I];decide
   .rw[if_neg a2]at h2
    by_cases a3:c.toNat<b.toNat
    .rw[if_pos a3]at h2;omega
    .rw[if_pos I];decide
  .rw[if_neg a1]at h1
   by_cases a2:b.toNat<a.toNat
   .rw[if_pos a2]at h1;omega
   .rw[if_neg a2]at h1
    by_cases a3:b.toNat<c.toNat
    .rw[if_pos I];decide
    .rw[if_neg a3]at h2
     by_cases a4:c.toNat<b.toNat
     .rw[if_pos a4]at h2;omega
     .rw[if_neg a4]at h2
      rw[if_neg I,if_neg I]
      exact Cb h1 h2
def bD(a b:Key):Prop:=eA a b<0
def dQ(a b:Key):Prop:=¬eA b a<0
instance (a b:Key):Decidable (bD a b):=by unfold bD;infer_instance
instance (a b:Key):Decidable (dQ a b):=by unfold dQ;infer_instance
theorem l7{a b c:Key}(h1:bD a b)(h2:bD b c):bD a c:=Cb h1 h2
theorem kB(a:Key):¬bD a a:=by unfold bD;rw[yQ];decide
theorem j8{a b:Key}(h:bD a b):¬bD b a:=λh2=>kB a (l7 h h2)
theorem wF(a b:Key):bD a b\/a=b\/bD b a:=by
 unfold bD;have h:=Ca a b;rcases B_ a b with h1|h1|h1
 .exact .inl I
 .exact .inr (.inl (yR h1))
 .exact .inr (.inr I)
theorem pw{a b:Key}:dQ a b↔bD a b\/a=b:=by
 constructor
 .intro h
  rcases wF a b with h1|h1|h1
  .exact .inl h1
  .exact .inr h1
  .exact absurd h1 h
 .rintro(h|rfl)
  .exact j8 h
  .exact kB _
theorem Cc(a:Key):dQ a a:=kB a
theorem iH{a b:Key}(h:bD a b):dQ a b:=pw.2 (.inl h)
theorem Cd{a b:Key}:¬bD a b↔dQ b a:=Iff.rfl
theorem nO{a b c:Key}(h1:bD a b)(h2:dQ b c):bD a c:=by
 rcases pw.1 h2 with h|rfl
 .exact l7 h1 h
 .exact h1
theorem kC{a b c:Key}(h1:dQ a b)(h2:bD b c):bD a c:=by
 rcases pw.1 h1 with h|rfl
 .exact l7 h h2
 .exact h2
theorem yS{a b c:Key}(h1:dQ a b)(h2:dQ b c):dQ a c:=by
 rcases pw.1 h1 with h|rfl
 .exact iH (nO h h2)
 .exact h2
def hN(l:O aR):Prop:=l.Pairwise λa b=>bD a.1 b.1
def gM(l:O aR)(k v:Key):O aR:=(l.filter λp=>decide (bD p.1 k))++(k,v)::l.filter λp=>decide (bD k p.1)
def e3(l:O aR)(k:Key):O aR:=l.filter λp=>decide (p.1≠k)
def fe(l:O aR)(k:Key):av Key:=(l.find? λp=>decide (p.1=k)).map (·.2)
def gW(l:O aR)(fr to:Key):O aR:=l.filter λp=>decide (dQ fr p.1)&&(to.isEmpty||decide (bD p.1 to))
def fL(lo hi:av Key)(k:Key):Prop:=(∀a,lo=some a->dQ a k)/\(∀b,hi=some b->bD k b)
theorem Hd{a b:O aR}{k v:Key}(h:∀p∈b,bD k p.1):gM (a++b) k v=gM a k v++b:=by
 have d:b.filter (λp=>decide (bD p.1 k))=[]:=mx.2 λp c=>by simpa using j8 (h p c)
 have e:b.filter (λp=>decide (bD k p.1))=b:=jA.2 λp c=>dD (h p c);unfold gM;rw[gG,gG,d,e,fl,cM,mn]
theorem He{a b:O aR}{k v:Key}(h:∀p∈a,bD p.1 k):gM (a++b) k v=a++gM b k v:=by
 have d:a.filter (λp=>decide (bD p.1 k))=a:=jA.2 λp c=>dD (h p c);have e:a.filter (λp=>decide (bD k p.1))=[]:=mx.2 λp c=>by simpa using j8 (h p c)
 unfold gM;rw[gG,gG,d,e,hG,cM]
theorem s4(a b:O aR)(k:Key):e3 (a++b) k=e3 a k++e3 b k:=gG ..
theorem s5{a:O aR}{k:Key}(h:∀p∈a,p.1≠k):e3 a k=a:=jA.2 λp b=>dD (h p b)
theorem nP{a b:Key}(h:bD a b):a≠b:=λe=>kB b (e▸h)
theorem s6{a b:O aR}:hN (a++b)↔hN a/\hN b/\∀p∈a,∀q∈b,bD p.1 q.1:=my
theorem Hf{l:O aR}{k v:Key}{p:aR}:p∈gM l k v↔p=(k,v)\/(p∈l/\p.1≠k):=by
 unfold gM;rw[c1,de,fU,fU,b_,b_];constructor
 .rintro(⟨h,h2⟩|rfl|⟨h,h2⟩)
  .exact .inr ⟨h,nP h2⟩
  .exact .inl rfl
  .exact .inr ⟨h,(nP h2).symm⟩
 .rintro(rfl|⟨h,h2⟩)
  .exact .inr (.inl rfl)
  .rcases wF p.1 k with a|a|a
   .exact .inl ⟨h,a⟩
   .exact absurd a h2
   .exact .inr (.inr ⟨h,a⟩)
end Go.Proofs.YtkdhdlfonmgheaaGreat
namespace Go.Proofs.YtkdhdlfonmgheaaGreat
structure aG where
 leaf:al
 keys:O Key
 vals:O Key
 kids:O Nat
 deriving DecidableEq
abbrev Below:=av Key->av Key->Nat->O Nat->O aR->Prop
inductive dV (W:Below):av Key->av Key->O Key->O Nat->O Nat->O aR->Prop
 |one {lo hi:av Key}{k:Nat}{p:O Nat}{L:O aR} (h:W lo hi k p L):dV W lo hi [] [k] p L
 |cons {lo hi:av Key}{s:Key}{k:Nat}{bh bj:O Nat}{bp bJ:O aR}{ks:O Key}{kids:O Nat} (h:W lo (some s) k bh bp) (t:dV W (some s) hi ks kids bj bJ):
  dV W lo hi (s::ks) (k::kids) (bh++bj) (bp++bJ)
variable {W:Below}{lo hi:av Key}
theorem dV.len{ks:O Key}{kids p:O Nat}{L:O aR}(h:dV W lo hi ks kids p L):kids.length=ks.length+1:=by
 induction h with
 |one _=>rfl
 |cons _ _ a=>simp[a]
theorem dV.app{s:Key}{iV kX:O Key}{jq l8 bh bj:O Nat}{bp bJ:O aR}(h1:dV W lo (some s) iV jq bh bp)(h2:dV W (some s) hi kX l8 bj bJ):
 dV W lo hi (iV++s::kX) (jq++l8) (bh++bj) (bp++bJ):=by
 generalize a:some s=m at h1
 induction h1 with
 |one h=>subst a;exact .cons h h2
 |cons h t b=>
  rw[cM,cM];exact .cons h (b a)
theorem dV.cut:∀ {iV:O Key}{s:Key}{kX:O Key}{lo:av Key}{kids p:O Nat}{L:O aR},dV W lo hi (iV++s::kX) kids p L->
 ∃ (jq l8 bh bj:O Nat) (bp bJ:O aR),kids=jq++l8/\p=bh++bj/\L=bp++bJ/\dV W lo (some s) iV jq bh bp/\dV W (some s) hi kX l8 bj bJ
 | [],s,kX,lo,kids,p,L,h=>by
  cases h with
  |cons h t=>exact⟨_,_,_,_,_,_,rfl,rfl,rfl,.one h,t⟩
 |a::iV,s,kX,lo,kids,p,L,h=>by
  cases h with
  |cons h t=>
   obtain⟨cc,cn,bh,bj,bp,bJ,rfl,rfl,rfl,h1,h2⟩:=dV.cut t
   exact⟨_::cc,cn,_++bh,bj,_++bp,bJ,rfl,by rw[cM],by rw[cM],.cons h h1,h2⟩
theorem dV.mono{V:Below}{ks:O Key}{kids p:O Nat}{L:O aR}(h:dV W lo hi ks kids p L)(a:∀lo hi k p L,(∀x∈p,x∈p)->W lo hi k p L->V lo hi k p L):dV V lo hi ks kids p L:=by
 induction h with
 |one h=>exact .one (a _ _ _ _ _ (λ_ h=>h) h)
 |cons h _ b=>exact .cons (a _ _ _ _ _ (λ_ h=>h) h) b
theorem dV.l9{V:Below}{ks:O Key}{kids p:O Nat}{L:O aR}(h:dV W lo hi ks kids p L)(b:∀lo hi k a L,(∀x∈a,x∈p)->W lo hi k a L->V lo hi k a L):dV V lo hi ks kids p L:=by
 induction h with
 |one h=>exact .one (b _ _ _ _ _ (λ_ h=>h) h)
 |cons h _ c=>
  exact .cons (b _ _ _ _ _ (λx hx=>km _ hx) h) (c λlo hi k a L hs=>b lo hi k a L λx hx=>iA _ (hs x hx))
def cI(k:Key):Prop:=1<=k.length/\k.length<=24
structure wG(n:aG):Prop where
 ok:∀k∈n.keys,cI k
 e9:n.keys.Pairwise bD
structure hC(n:aG):Prop extends wG n where
 leaf:n.leaf=true
 len:n.vals.length=n.keys.length
 kids:n.kids=[]
 vals:∀v∈n.vals,v.length<=24
structure yT(n:aG):Prop extends wG n where
 inner:n.leaf=false
 some:n.keys≠ []
 len:n.kids.length=n.keys.length+1
 vals:n.vals=[]
 kids:∀k∈n.kids,k<1600
def aG.dW(n:aG):O aR:=n.keys.zip n.vals
def aG.within(n:aG)(lo hi:av Key):Prop:=∀k∈n.keys,fL lo hi k
def e0(P:Nat->av aG):Nat->Below
 |0=> λ_ _ _ _ _=>False
 |1=> λlo hi no p L=>∃n,P no=some n/\hC n/\n.within lo hi/\n.keys≠ []/\p=[no]/\L=n.dW
 |h+2=> λlo hi no p L=>∃n a,P no=some n/\yT n/\n.within lo hi/\p=no::a/\
  dV (λlo hi k p L=>e0 P (h+1) lo hi k p L/\∃m,P k=some m/\2<=m.keys.length) lo hi n.keys n.kids a L
theorem e0.agree{P Q:Nat->av aG}:∀ {h:Nat}{lo hi:av Key}{no:Nat}{p:O Nat}{L:O aR},e0 P h lo hi no p L->(∀x∈p,P x=Q x)->e0 Q h lo hi no p L/\no∈p
 |0,_,_,_,_,_,d,_=>d.elim
 |1,_,_,no,_,_,⟨n,h1,h2,e,f,b,g⟩,a=>by
  have c:no∈ [no]:=by simp
  rw[b]
  exact⟨⟨n,by rw[←a no (by rw[b];exact c)];exact h1,h2,e,f,rfl,g⟩,c⟩
 |h+2,_,_,no,_,_,⟨n,i,h1,h2,e,f,b⟩,a=>by
  subst f
  refine⟨⟨n,i,by rw[←a no (by simp)];exact h1,h2,e,rfl,b.l9 λlo hi k q L hs ⟨d,m,c,h2⟩=>?_⟩,by simp⟩
  have:=e0.agree d λx hx=>a x (jW _ (hs x hx))
  exact⟨this.1,m,by rw[←a k (jW _ (hs k this.2))];exact c,h2⟩
end Go.Proofs.YtkdhdlfonmgheaaGreat
namespace Go.Proofs.YtkdhdlfonmgheaaGreat
variable {W:Below}{lo hi:av Key}{P:Nat->av aG}
theorem Hg{lo hi:av Key}{s k:Key}(h1:fL lo (some s) k)(h2:fL lo hi s):fL lo hi k:=
 ⟨h1.1,λb a=>l7 (h1.2 s rfl) (h2.2 b a)⟩
theorem Hh{lo hi:av Key}{s k:Key}(h1:fL (some s) hi k)(h2:fL lo hi s):fL lo hi k:=
 ⟨λa b=>yS (h2.1 a b) (h1.1 s rfl),h1.2⟩
theorem dV.e9{ks:O Key}{kids p:O Nat}{L:O aR}(h:dV W lo hi ks kids p L)(cK:∀lo hi k p L,W lo hi k p L->hN L/\∀q∈L,fL lo hi q.1)(e:ks.Pairwise bD)(c:∀s∈ks,fL lo hi s):
 hN L/\∀q∈L,fL lo hi q.1:=by
 induction h with
 |one h=>exact cK _ _ _ _ _ h
 | @cons lo hi s k bh bj bp bJ ks kids h t f=>
  obtain⟨r1,cr⟩:=cK _ _ _ _ _ h;have d:=jB.1 e;obtain⟨aF,bX⟩:=f d.2 λx hx=>⟨λa g=>by cases g;exact iH (d.1 x hx),(c x (jW _ hx)).2⟩;have hs:=c s om;refine⟨s6.2 ⟨r1,aF,λx hx y i=>nO ((cr x hx).2 s rfl) ((bX y i).1 s rfl)⟩,λq b=>?_⟩;rcases c1.1 b with b|b
  .exact Hg (cr q b) hs
  .exact Hh (bX q b) hs
theorem Ce:∀ {ks vs:O Key},ks.Pairwise bD->hN (ks.zip vs)
 | [],vs,_=>by rw[List.zip_nil_left];exact List.Pairwise.nil
 |k::ks,[],_=>by rw[List.zip_nil_right];exact List.Pairwise.nil
 |k::ks,v::vs,h=>by
  rw[List.zip_cons_cons]
  have:=jB.1 h
  exact jB.2 ⟨λq a=>this.1 _ (rO a).1,Ce this.2⟩
theorem hC.dW{n:aG}(h:hC n):hN n.dW/\n.dW.length=n.keys.length:=⟨Ce h.e9,by unfold aG.dW;rw[ot,h.len,Nat.min_self]⟩
theorem e0.e9:∀ {h:Nat}{lo hi:av Key}{no:Nat}{p:O Nat}{L:O aR},e0 P h lo hi no p L->hN L/\∀q∈L,fL lo hi q.1
 |0,_,_,_,_,_,a=>a.elim
 |1,_,_,_,_,_,⟨n,_,h2,b,_,_,c⟩=>by
  subst c
  exact⟨h2.dW.1,λq d=>b _ (rO d).1⟩
 |h+2,_,_,_,_,_,⟨n,_,_,h2,b,_,e⟩=>e.e9 (λ_ _ _ _ _ a=>e0.e9 a.1) h2.e9 b
theorem dV.count{ks:O Key}{kids p:O Nat}{L:O aR}(h:dV W lo hi ks kids p L){c:Nat}(cK:∀lo hi k p L,W lo hi k p L->p.length+1<=L.length/\c<=L.length):
 p.length+kids.length<=L.length/\c*kids.length<=L.length:=by
 induction h with
 |one h=>have:=cK _ _ _ _ _ h;simp;omega
 |cons h _ a=>
  have:=cK _ _ _ _ _ h;simp only[cG,gx,Nat.mul_add,fE];omega
theorem e0.count:∀ {h:Nat}{lo hi:av Key}{no:Nat}{p:O Nat}{L:O aR},e0 P h lo hi no p L->((∃m,P no=some m/\2<=m.keys.length)\/2<=h)->p.length+1<=L.length/\2^h<=L.length
 |0,_,_,_,_,_,b,_=>b.elim
 |1,_,_,_,_,_,⟨n,h1,h2,_,_,d,f⟩,a=>by
  rcases a with ⟨m,e,a⟩|a
  .rw[h1]at e
   cases e
   subst d f
   have:=h2.dW.2
   simp only[jC];omega
  .omega
 |h+2,_,_,_,_,_,⟨n,i,_,h2,_,g,d⟩,_=>by
  have hc:=d.count (c:=2^(h+1)) λlo hi k p L ⟨b,a⟩=>e0.count b (.inl a)
  have j:=h2.len
  have hs:1<=n.keys.length:=List.length_pos_iff.2 h2.some
  subst g
  have:2^(h+1)*2<=2^(h+1)*n.kids.length:=Nat.mul_le_mul_left _ I
  rw[Nat.pow_succ 2 (h+1)]
  simp only[gx]
  omega
theorem e0.pages{h:Nat}{lo hi:av Key}{no:Nat}{p:O Nat}{L:O aR}(a:e0 P h lo hi no p L):p.length<=L.length/\1<=L.length/\(2<=h->2^h<=L.length):=by
 match h with
 |0=>exact a.elim
 |1=>
  obtain⟨n,h1,h2,_,b,c,d⟩:=a;subst c d;have:=h2.dW.2;have e:=List.length_pos_iff.2 b;simp only[jC];exact⟨I,I,I⟩
 |h+2=>
  have:=e0.count a (.inr I);exact⟨I,I,λ_=>this.2⟩
end Go.Proofs.YtkdhdlfonmgheaaGreat
namespace Go.Proofs.YtkdhdlfonmgheaaGreat
variable {W V:Below}{lo hi:av Key}
inductive fC (W:Below) (lo:av Key):av Key->O Key->O Nat->O Nat->O aR->Prop
 |nil:fC W lo lo [] [] [] []
 |more {s:Key}{ks:O Key}{kids p:O Nat}{L:O aR} (h:dV W lo (some s) ks kids p L):fC W lo (some s) (ks++ [s]) kids p L
inductive gN (W:Below) (hi:av Key):av Key->O Key->O Nat->O Nat->O aR->Prop
 |nil:gN W hi hi [] [] [] []
 |more {s:Key}{ks:O Key}{kids p:O Nat}{L:O aR} (h:dV W (some s) hi ks kids p L):gN W hi (some s) (s::ks) kids p L
variable {m:av Key}{iV kX:O Key}{jq l8 bh bj:O Nat}{bp bJ:O aR}
theorem fC.Hi(h1:fC W lo m iV jq bh bp)(h2:dV W m hi kX l8 bj bJ):dV W lo hi (iV++kX) (jq++l8) (bh++bj) (bp++bJ):=by
 cases h1 with
 |nil=>exact h2
 |more h=>rw[cM];exact h.app h2
theorem dV.post(h1:dV W lo m iV jq bh bp)(h2:gN W hi m kX l8 bj bJ):dV W lo hi (iV++kX) (jq++l8) (bh++bj) (bp++bJ):=by
 cases h2 with
 |nil=>simpa using h1
 |more h=>exact h1.app h
theorem fC.cons{s:Key}{k:Nat}{p:O Nat}{L:O aR}(h:W lo (some s) k p L)(t:fC W (some s) m iV jq bh bp):fC W lo m (s::iV) (k::jq) (p++bh) (L++bp):=by
 cases t with
 |nil=>rw[fl,fl];exact fC.more (ks:=[]) (.one h)
 |more t=>exact fC.more (ks:=s::_) (.cons h t)
theorem fC.l9(h:fC W lo m iV jq bh bp)(b:∀lo hi k a L,(∀x∈a,x∈bh)->W lo hi k a L->V lo hi k a L):fC V lo m iV jq bh bp:=by
 cases h with
 |nil=>exact .nil
 |more h=>exact .more (h.l9 b)
theorem gN.l9(h:gN W hi m iV jq bh bp)(b:∀lo hi k a L,(∀x∈a,x∈bh)->W lo hi k a L->V lo hi k a L):gN V hi m iV jq bh bp:=by
 cases h with
 |nil=>exact .nil
 |more h=>exact .more (h.l9 b)
theorem dV.at{ks:O Key}{kids p:O Nat}{L:O aR}(h:dV W lo hi ks kids p L):∀ (i:Nat) (c:i<kids.length),∃ (d e:av Key) (bh q bj:O Nat) (bp M bJ:O aR),
 p=bh++(q++bj)/\L=bp++(M++bJ)/\W d e kids[i] q M/\fC W lo d (ks.take i) (kids.take i) bh bp/\gN W hi e (ks.drop i) (kids.drop (i+1)) bj bJ:=by
 induction h with
 | @one lo hi k p L h=>
  intro i c;have:i=0:=by simp at c;omega
  subst this;exact⟨lo,hi,[],p,[],[],L,[],by simp,by simp,h,.nil,.nil⟩
 | @cons lo hi s k bh bj bp bJ ks kids h t f=>
  intro i c
  cases i with
  |zero=>exact⟨lo,some s,[],bh,bj,[],bp,bJ,rfl,rfl,h,.nil,.more t⟩
  |succ i=>
   obtain⟨d,e,a,q,b,A,M,B,rfl,rfl,h1,h2,g⟩:=f i (by simpa using c);exact⟨d,e,bh++a,q,b,bp++A,M,B,by rw[cM],by rw[cM],h1,fC.cons h h2,g⟩
theorem fC.inv{kids p:O Nat}{L:O aR}(h:fC W lo m [] kids p L):m=lo/\kids=[]/\p=[]/\L=[]:=by
 generalize e:([]:O Key)=K at h
 cases h with
 |nil=>exact⟨rfl,rfl,rfl,rfl⟩
 |more h=>simp at e
theorem gN.head{ks:O Key}{kids p:O Nat}{L:O aR}(h:gN W hi m ks kids p L)(b:0<kids.length):∃ (s:Key) (a:av Key) (q bj:O Nat) (M bJ:O aR) (hs:0<ks.length),
 m=some s/\s=ks[0]/\p=q++bj/\L=M++bJ/\W (some s) a (kids[0]) q M/\gN W hi a (ks.drop 1) (kids.drop 1) bj bJ:=by
 cases h with
 |nil=>simp at b
 | @more s ks kids p L h=>
  obtain⟨d,a,bh,q,bj,bp,M,bJ,rfl,rfl,h1,h2,c⟩:=h.at 0 b;rw[List.take_zero]at h2;obtain⟨rfl,_,rfl,rfl⟩:=h2.inv;exact⟨s,a,q,bj,M,bJ,by simp,rfl,rfl,rfl,rfl,h1,by simpa using c⟩
end Go.Proofs.YtkdhdlfonmgheaaGreat
namespace Go.Proofs.YtkdhdlfonmgheaaGreat
variable {W V:Below}{lo hi m:av Key}
def dy(ks:O Key)(k:Key):Nat:=ks.findIdx λs=>decide (bD k s)
theorem wH(ks:O Key)(k:Key):dy ks k<=ks.length:=List.findIdx_le_length
theorem Hj{ks:O Key}{k:Key}{i:Nat}(h:i<dy ks k)(hi:i<ks.length):dQ ks[i] k:=by
 have:=List.not_of_lt_findIdx h;exact Cd.1 (by simpa using this)
theorem Hk{ks:O Key}{k:Key}(h:dy ks k<ks.length):bD k ks[dy ks k]:=by
 have:=List.findIdx_getElem (p:=λs=>decide (bD k s)) (xs:=ks) (w:=h);exact cl this
theorem fC.Hl{i:Nat}{ks:O Key}{kids p:O Nat}{L:O aR}(h:fC W lo m (ks.take i) kids p L){k:Key}(b:∀ (j:Nat) (c:j<ks.length),j<i->dQ ks[j] k)(d:∀a,lo=some a->dQ a k):∀a,m=some a->dQ a k:=by
 generalize e:ks.take i=K at h
 cases h with
 |nil=>exact d
 | @more s l kids p L h=>
  intro a f
  cases f;have g:s∈ks.take i:=by rw[e];simp
  obtain⟨j,c,rfl⟩:=List.mem_take_iff_getElem.1 g;exact b j I I
theorem gN.Hm{i:Nat}{ks:O Key}{kids p:O Nat}{L:O aR}(h:gN W hi m (ks.drop i) kids p L){k:Key}(b:∀ (h:i<ks.length),bD k ks[i])(c:∀a,hi=some a->bD k a):∀a,m=some a->bD k a:=by
 generalize e:ks.drop i=K at h
 cases h with
 |nil=>exact c
 | @more s f kids p L h=>
  intro a d
  cases d;have aJ:i<ks.length:=by
   have:=congrArg List.length e;simp at this;omega
  have:ks[i]=s:=by
   have:=kk aJ;rw[e]at this;exact(List.cons.inj this).1.symm
  rw[←this];exact b aJ
theorem fC.below{ks:O Key}{kids p:O Nat}{L:O aR}(h:fC W lo m ks kids p L)(cK:∀lo hi k p L,W lo hi k p L->hN L/\∀q∈L,fL lo hi q.1)(f:ks.Pairwise bD)(c:∀s∈ks,fL lo hi s)
 {k:Key} (g:∀a,m=some a->dQ a k):∀q∈L,bD q.1 k:=by
 cases h with
 |nil=>intro q d;cases d
 | @more s i kids p L h=>
  have e:=my.1 f;have:=h.e9 cK e.1 λx hx=>⟨(c x (by simp[hx])).1,λb c=>by cases c;exact e.2.2 x hx s (by simp)⟩;exact λq d=>nO ((this.2 q d).2 s rfl) (g s rfl)
theorem gN.Hn{ks:O Key}{kids p:O Nat}{L:O aR}(h:gN W hi m ks kids p L)(cK:∀lo hi k p L,W lo hi k p L->hN L/\∀q∈L,fL lo hi q.1)(d:ks.Pairwise bD)(e:∀s∈ks,fL lo hi s)
 {k:Key} (f:∀a,m=some a->bD k a):∀q∈L,bD k q.1:=by
 cases h with
 |nil=>intro q b;cases b
 | @more s i kids p L h=>
  have c:=jB.1 d;have:=h.e9 cK c.2 λx hx=>⟨λa g=>by cases g;exact iH (c.1 x hx),(e x (by simp[hx])).2⟩;exact λq b=>nO (f s rfl) ((this.2 q b).1 s rfl)
def Loc(k:Key)(u:O aR->O aR):Prop:=∀bp M bJ:O aR,(∀p∈bp,bD p.1 k)->(∀p∈bJ,bD k p.1)->u (bp++(M++bJ))=bp++(u M++bJ)
theorem Ho(k v:Key):Loc k λL=>gM L k v:=λbp M bJ h1 h2=>by
 show gM _ _ _=_
 rw[He h1,Hd h2]
theorem yU(k:Key):Loc k λL=>e3 L k:=λbp M bJ h1 h2=>by
 show e3 _ _=_
 rw[s4,s4,s5 λp a=>nP (h1 p a),s5 λp a=>(nP (h2 p a)).symm]
end Go.Proofs.YtkdhdlfonmgheaaGreat
namespace Go.Proofs.YtkdhdlfonmgheaaGreat
variable {W V:Below}{lo hi m:av Key}{P Q:Nat->av aG}
def fq(P:Nat->av aG)(h:Nat):Below:=λlo hi k p L=>e0 P h lo hi k p L/\∃m,P k=some m/\2<=m.keys.length
theorem fq.agree{h no:Nat}{p:O Nat}{L:O aR}(b:fq P h lo hi no p L)(a:∀x∈p,P x=Q x):fq Q h lo hi no p L:=by
 obtain⟨h1,m,h2,c⟩:=b;have:=h1.agree a;exact⟨this.1,m,by rw[←a no this.2];exact h2,c⟩
theorem Hp{α:Type}{l:O α}(h:1<=l.length):l≠ []:=λe=>by subst e;simp at h
theorem fq.in{h no:Nat}{p:O Nat}{L:O aR}(a:fq P h lo hi no p L):L≠ []/\hN L/\∀q∈L,fL lo hi q.1:=⟨Hp a.1.pages.2.1,a.1.e9⟩
theorem dV.sorted{ks:O Key}{kids p:O Nat}{L:O aR}(h:dV W lo hi ks kids p L)(cK:∀lo hi k p L,W lo hi k p L->L≠ []/\hN L/\∀q∈L,fL lo hi q.1):
 L≠ []/\(∀q∈L,fL lo hi q.1)/\ks.Pairwise bD/\∀s∈ks,(∀a,lo=some a->bD a s)/\∀b,hi=some b->bD s b:=by
 induction h with
 |one h=>exact⟨(cK _ _ _ _ _ h).1,(cK _ _ _ _ _ h).2.2,.nil,by simp⟩
 | @cons lo hi s k bh bj bp bJ ks kids h t l=>
  obtain⟨bW,_,cr⟩:=cK _ _ _ _ _ h;obtain⟨bz,bX,aF,aj⟩:=l;obtain⟨x,hx⟩:=p2 _ bW;obtain⟨y,i⟩:=p2 _ bz;have f:∀a,lo=some a->bD a s:=λa e=>kC ((cr x hx).1 a e) ((cr x hx).2 s rfl);have j:∀b,hi=some b->bD s b:=λb g=>kC ((bX y i).1 s rfl) ((bX y i).2 b g);refine⟨by simp[bW],λq c=>?_,jB.2 ⟨λz d=>(aj z d).1 s rfl,aF⟩,λz d=>?_⟩
  .rcases c1.1 c with c|c
   .exact⟨(cr q c).1,λb g=>l7 ((cr q c).2 s rfl) (j b g)⟩
   .exact⟨λa e=>iH (nO (f a e) ((bX q c).1 s rfl)),(bX q c).2⟩
  .rcases de.1 d with rfl|d
   .exact⟨f,j⟩
   .exact⟨λa e=>l7 (f a e) ((aj z d).1 s rfl),(aj z d).2⟩
def dt(P:Nat->av aG):Nat->aG->av Key->av Key->O Nat->O aR->Prop
 |0,_,_,_,_,_=>False
 |1,n,lo,hi,p,L=>hC n/\n.within lo hi/\p=[]/\L=n.dW
 |h+2,n,lo,hi,p,L=>n.leaf=false/\n.vals=[]/\(∀k∈n.keys,cI k)/\(∀k∈n.kids,k<1600)/\dV (fq P (h+1)) lo hi n.keys n.kids p L
theorem dt.agree:∀ {h:Nat}{n:aG}{p:O Nat}{L:O aR},dt P h n lo hi p L->(∀x∈p,P x=Q x)->dt Q h n lo hi p L
 |0,_,_,_,h,_=>h.elim
 |1,_,_,_,h,_=>h
 |_+2,_,_,_,⟨h1,h2,a,b,c⟩,d=>⟨h1,h2,a,b,c.l9 λ_ _ _ _ _ hs e=>e.agree λx hx=>d x (hs x hx)⟩
theorem dt.lay:∀ {h:Nat}{n:aG}{x:Nat}{p:O Nat}{L:O aR},dt P h n lo hi p L->n.keys≠ []->Q x=some n->(∀y∈p,P y=Q y)->e0 Q h lo hi x (x::p) L
 |0,_,_,_,_,h,_,_,_=>h.elim
 |1,n,x,p,L,⟨h1,h2,b,c⟩,d,hx,_=>by
  subst b
  exact⟨n,hx,h1,h2,d,rfl,c⟩
 |h+2,n,x,p,L,g,d,hx,i=>by
  obtain⟨h1,h2,b,c,e⟩:=g.agree i
  have hs:=e.sorted λ_ _ _ _ _ j=>j.in
  exact⟨n,p,hx,⟨⟨b,hs.2.2.1⟩,h1,d,e.len,h2,c⟩,λs f=>⟨λa k=>iH ((hs.2.2.2 s f).1 a k),(hs.2.2.2 s f).2⟩,rfl,e⟩
def aG.left(n:aG)(i:Nat):aG:=if n.leaf then ⟨true,n.keys.take i,n.vals.take i,[]⟩ else ⟨false,n.keys.take i,[],n.kids.take (i+1)⟩
def aG.right(n:aG)(i:Nat):aG:=if n.leaf then ⟨true,n.keys.drop i,n.vals.drop i,[]⟩ else ⟨false,n.keys.drop (i+1),[],n.kids.drop (i+1)⟩
theorem dt.leaf{h:Nat}{n:aG}{p:O Nat}{L:O aR}(a:dt P h n lo hi p L):n.leaf=decide (h=1):=by
 match h,a with
 |0,a=>exact a.elim
 |1,a=>rw[a.1.leaf];rfl
 |h+2,a=>rw[a.1];simp
theorem dt.yV{h:Nat}{n:aG}{p:O Nat}{L:O aR}(g:dt P h n lo hi p L){i:Nat}(h1:1<=i)(m:i<n.keys.length):
 ∃ (bh bj:O Nat) (bp bJ:O aR),p=bh++bj/\L=bp++bJ/\dt P h (n.left i) lo (some n.keys[i]) bh bp/\dt P h (n.right i) (some n.keys[i]) hi bj bJ:=by
 match h,g with
 |0,g=>exact g.elim
 |1,⟨a,b,c,d⟩=>
  subst c d;have q:=a.e9;have iT:n.keys=n.keys.take i++n.keys.drop i:=(fV _ _).symm;have o:=q;rw[iT]at o;obtain⟨r1,aF,b5⟩:=my.1 o;have hd:n.keys.drop i=n.keys[i]::n.keys.drop (i+1):=kk m;have hf:n.left i=⟨true,n.keys.take i,n.vals.take i,[]⟩:=by unfold aG.left;rw[a.leaf];rfl
  have hg:n.right i=⟨true,n.keys.drop i,n.vals.drop i,[]⟩:=by unfold aG.right;rw[a.leaf];rfl
  rw[hf,hg];refine⟨[],[],n.dW.take i,n.dW.drop i,rfl,(fV _ _).symm,⟨⟨⟨λk f=>a.ok k (eY f),r1⟩,rfl,by simp[a.len],rfl,λv g=>a.vals v (eY g)⟩,λk f=>⟨(b k (eY f)).1,λs hs=>?_⟩,rfl,?_⟩,
   ⟨⟨⟨λk f=>a.ok k (e6 f),aF⟩,rfl,by simp[a.len],rfl,λv g=>a.vals v (e6 g)⟩,λk f=>⟨λs hs=>?_,(b k (e6 f)).2⟩,rfl,?_⟩⟩
  .cases hs
   exact b5 k f _ (by rw[hd];exact om)
  .exact List.take_zipWith
  .cases hs
   have f:k∈n.keys.drop i:=f;rw[hd]at f aF;rcases de.1 f with rfl|f
   .exact Cc _
   .exact iH ((jB.1 aF).1 k f)
  .exact List.drop_zipWith
 |h+2,⟨a,b,c,d,e⟩=>
  have hf:n.left i=⟨false,n.keys.take i,[],n.kids.take (i+1)⟩:=by unfold aG.left;rw[a];rfl
  have hg:n.right i=⟨false,n.keys.drop (i+1),[],n.kids.drop (i+1)⟩:=by unfold aG.right;rw[a];rfl
  have iT:n.keys=n.keys.take i++n.keys[i]::n.keys.drop (i+1):=by rw[←kk m,fV]
  rw[iT]at e;obtain⟨cc,cn,bh,bj,bp,bJ,j,rfl,rfl,s1,s2⟩:=e.cut;have l:=s1.len;rw[cz,iz I]at l;have r:n.kids.take (i+1)=cc:=by rw[j,←l,List.take_left]
  have t:n.kids.drop (i+1)=cn:=by rw[j,←l,List.drop_left]
  rw[hf,hg,r,t];exact⟨bh,bj,bp,bJ,rfl,rfl,⟨rfl,rfl,λk f=>c k (eY f),λk f=>d k (by rw[j];simp[f]),s1⟩,⟨rfl,rfl,λk f=>c k (e6 f),λk f=>d k (by rw[j];simp[f]),s2⟩⟩
end Go.Proofs.YtkdhdlfonmgheaaGreat
namespace Go.Proofs.YtkdhdlfonmgheaaGreat
variable {lo hi:av Key}{P Q:Nat->av aG}
def ee(a:aG)(s:Key)(b:aG):aG:=if a.leaf then ⟨true,a.keys++b.keys,a.vals++b.vals,[]⟩ else ⟨false,a.keys++s::b.keys,[],a.kids++b.kids⟩
theorem px{a b c d:O Key}(h:a.length=c.length):(a++b).zip (c++d)=a.zip c++b.zip d:=List.zip_append h
theorem dt.merge{h:Nat}{a b:aG}{s:Key}{pa l:O Nat}{m n:O aR}(g:dt P h a lo (some s) pa m)(o:dt P h b (some s) hi l n)(hs:cI s)(p:∀k,lo=some k->dQ k s)(q:∀k,hi=some k->dQ s k):
 dt P h (ee a s b) lo hi (pa++l) (m++n):=by
 match h,g,o with
 |0,g,_=>exact g.elim
 |1,⟨a1,a2,a3,a4⟩,⟨cr,bX,i,j⟩=>
  subst a3 a4 i j;have e:ee a s b=⟨true,a.keys++b.keys,a.vals++b.vals,[]⟩:=by unfold ee;rw[a1.leaf];rfl
  rw[e];refine⟨⟨⟨λk d=>?_,my.2 ⟨a1.e9,cr.e9,λx hx y r=>nO ((a2 x hx).2 s rfl) ((bX y r).1 s rfl)⟩⟩,rfl,by simp[a1.len,cr.len],rfl,λv f=>?_⟩,λk d=>?_,rfl,?_⟩
  .rcases c1.1 d with d|d
   .exact a1.ok k d
   .exact cr.ok k d
  .rcases c1.1 f with f|f
   .exact a1.vals v f
   .exact cr.vals v f
  .rcases c1.1 d with d|d
   .exact⟨(a2 k d).1,λc hc=>nO ((a2 k d).2 s rfl) (q c hc)⟩
   .exact⟨λc hc=>yS (p c hc) ((bX k d).1 s rfl),(bX k d).2⟩
  .exact(px a1.len.symm).symm
 |h+2,⟨a1,a2,a3,a4,a5⟩,⟨cr,bX,i,j,t⟩=>
  have e:ee a s b=⟨false,a.keys++s::b.keys,[],a.kids++b.kids⟩:=by unfold ee;rw[a1];rfl
  rw[e];refine⟨rfl,rfl,λk d=>?_,λk d=>?_,a5.app t⟩
  .rcases c1.1 d with d|d
   .exact a3 k d
   .rcases de.1 d with rfl|d
    .exact hs
    .exact i k d
  .rcases c1.1 d with d|d
   .exact a4 k d
   .exact j k d
theorem e0.kY{h no:Nat}{p:O Nat}{L:O aR}(b:e0 P h lo hi no p L):∃n a,P no=some n/\p=no::a/\n.keys≠ []/\dt P h n lo hi a L:=by
 match h,b with
 |0,b=>exact b.elim
 |1,⟨n,h1,h2,e,c,d,f⟩=>exact⟨n,[],h1,d,c,h2,e,rfl,f⟩
 |h+2,⟨n,a,h1,h2,e,c,d⟩=>exact⟨n,a,h1,c,h2.some,h2.inner,h2.vals,h2.ok,h2.kids,d⟩
def gk(n:aG)(fr to:Nat)(ks:O Key)(kids:O Nat):aG:=⟨false,n.keys.take fr++ks++n.keys.drop (to-1),[],n.kids.take fr++kids++n.kids.drop to⟩
end Go.Proofs.YtkdhdlfonmgheaaGreat
namespace Go.Proofs.YtkdhdlfonmgheaaGreat
def cellsOf(n:aG):O Nat:=if n.leaf then List.zipWith (λk v=>2+k.length+v.length) n.keys n.vals else n.keys.map λk=>3+k.length
def bN(n:aG):Nat:=(if n.leaf then 1 else 3)+(cellsOf n).sum
def gA(c:O Nat)(most:Nat):Nat:=match (List.range most).find? λi=>decide (c.sum<=2*(c.take (i+1)).sum) with
 |some i=>i+1
 |none=>most
theorem nQ{B:Nat}:∀ {l:O Nat},(∀x∈l,x<=B)->l.sum<=B*l.length
 | [],_=>by simp
 |a::l,h=>by
  have h1:=h a (by simp)
  have h2:=nQ (l:=l) λx hx=>h x (by simp[hx])
  rw[rP,gx,Nat.mul_add,fE]
  omega
theorem yW(l:O Nat)(i:Nat):(l.take i).sum+(l.drop i).sum=l.sum:=by
 rw[←lV,fV]
theorem qZ{l:O Nat}{i:Nat}(h:i<l.length):(l.take (i+1)).sum=(l.take i).sum+l[i]:=by
 rw[iy h,lV];simp
theorem Cf{c:O Nat}{most:Nat}(a:1<=most)(hs:0<c.sum):1<=gA c most/\gA c most<=most/\2*(c.take (gA c most-1)).sum<c.sum/\(gA c most=most\/c.sum<=2*(c.take (gA c most)).sum):=by
 unfold gA
 cases h:(List.range most).find? λi=>decide (c.sum<=2*(c.take (i+1)).sum) with
 |none=>
  have b:=jZ.1 h;refine⟨a,bt _,?_,.inl rfl⟩;by_cases h1:most=1
  .subst h1;simpa using hs
  .have:=b (most-2) (kj.2 I)
   have e:most-2+1=most-1:=by omega
   rw[e]at this;simp at this;exact this
 |some i=>
  have hi:i<most:=kj.1 (j0 h);have d:=kO h;refine⟨by simp,by simp;omega,?_,.inr (by simpa using d)⟩;show 2*(c.take (i+1-1)).sum<c.sum;rw[Nat.add_sub_cancel]
  cases i with
  |zero=>simpa using hs
  |succ j=>
   have:=(List.find?_range_eq_some.1 h).2.2 j I;simpa using this
theorem Hq{c:O Nat}(a:∀x∈c,x<=50)(h1:232<=c.sum)(h2:c.sum<=309):
 2<=gA c (c.length-1)/\gA c (c.length-1)+2<=c.length/\(c.take (gA c (c.length-1))).sum<=231/\(c.drop (gA c (c.length-1))).sum<=231:=by
 have e:=nQ a;have b:=Cf (c:=c) (most:=c.length-1) I I;generalize gA c (c.length-1)=i at b⊢;obtain⟨a1,a2,a3,a4⟩:=b;have hs:=yW c i;have ht:=qZ (l:=c) (i:=i-1) I;rw[Nat.sub_add_cancel a1]at ht;have hc:=a c[i-1] (cW _);have hd:=nQ (l:=c.drop i) λx hx=>a x (e6 hx);have d:=nQ (l:=c.take i) λx hx=>a x (eY hx);rw[dw]at hd;rw[cz,iz I]at d;have key:c.sum<=2*(c.take i).sum:=by
  rcases a4 with h|h
  .have:c.length-i=1:=by omega
   rw[this]at hd;omega
  .exact h
 refine⟨I,?_,I,I⟩;rcases eu (c.length-i) 2 with h|h
 .have:c.length-i=1:=by omega
  rw[this]at hd;omega
 .omega
theorem Hr{c:O Nat}(a:∀x∈c,x<=27)(h1:230<=c.sum)(h2:c.sum<=332):
 2<=gA c (c.length-2)/\gA c (c.length-2)+3<=c.length/\(c.take (gA c (c.length-2))).sum<=229/\(c.drop (gA c (c.length-2)+1)).sum<=229:=by
 have e:=nQ a;have b:=Cf (c:=c) (most:=c.length-2) I I;generalize gA c (c.length-2)=i at b⊢;obtain⟨a1,a2,a3,a4⟩:=b;have hs:=yW c (i+1);have ht:=qZ (l:=c) (i:=i-1) I;have hu:=qZ (l:=c) (i:=i) I;rw[Nat.sub_add_cancel a1]at ht;have hc:=a c[i-1] (cW _);have f:=a c[i] (cW _);have hd:=nQ (l:=c.drop (i+1)) λx hx=>a x (e6 hx);have d:=nQ (l:=c.take i) λx hx=>a x (eY hx);rw[dw]at hd;rw[cz,iz I]at d;have key:c.sum<=2*(c.take i).sum:=by
  rcases a4 with h|h
  .have:c.length-(i+1)=1:=by omega
   rw[this]at hd;omega
  .exact h
 refine⟨I,?_,I,I⟩;rcases eu (c.length-(i+1)) 2 with h|h
 .have:c.length-(i+1)<=1:=by omega
  have:27*(c.length-(i+1))<=27*1:=Nat.mul_le_mul_left _ this;omega
 .omega
end Go.Proofs.YtkdhdlfonmgheaaGreat
namespace Go.Proofs.YtkdhdlfonmgheaaGreat
variable {W:Below}{lo hi m:av Key}{P Q:Nat->av aG}
theorem gN.inv{kids p:O Nat}{L:O aR}(h:gN W hi m [] kids p L):m=hi/\kids=[]/\p=[]/\L=[]:=by
 generalize e:([]:O Key)=K at h
 cases h with
 |nil=>exact⟨rfl,rfl,rfl,rfl⟩
 |more h=>simp at e
theorem fC.last{ks:O Key}{kids p:O Nat}{L:O aR}(h:fC W lo m ks kids p L)(c:0<kids.length):∃ (s:Key) (a:av Key) (bh r:O Nat) (bp N:O aR) (hs:0<ks.length),
 m=some s/\s=ks[ks.length-1]/\p=bh++r/\L=bp++N/\W a (some s) (kids[kids.length-1]) r N/\fC W lo a (ks.take (ks.length-1)) (kids.take (kids.length-1)) bh bp/\kids.length=ks.length:=by
 cases h with
 |nil=>simp at c
 | @more s ks kids p L h=>
  have d:=h.len;obtain⟨a,f,bh,q,bj,bp,M,bJ,rfl,rfl,h1,h2,b⟩:=h.at (kids.length-1) I;rw[tN I]at b;obtain⟨rfl,_,rfl,rfl⟩:=b.inv;refine⟨s,a,bh,q,bp,M,by simp,rfl,by simp,by simp,by simp,h1,?_,by simp;omega⟩;have e:(ks++ [s]).take ((ks++ [s]).length-1)=ks.take (kids.length-1):=by
   rw[d];simp
  rw[e];exact h2
theorem dt.at{h:Nat}{n:aG}{p:O Nat}{L:O aR}(v:dt P (h+2) n lo hi p L){k:Key}(m:fL lo hi k):∃ (f g:av Key) (bh q bj:O Nat) (bp M bJ:O aR) (B:dy n.keys k<n.kids.length),
 p=bh++(q++bj)/\L=bp++(M++bJ)/\fq P (h+1) f g n.kids[dy n.keys k] q M/\fL f g k/\(∀u,Loc k u->u L=bp++(u M++bJ))/\n.kids.length=n.keys.length+1/\
 fC (fq P (h+1)) lo f (n.keys.take (dy n.keys k)) (n.kids.take (dy n.keys k)) bh bp/\gN (fq P (h+1)) hi g (n.keys.drop (dy n.keys k)) (n.kids.drop (dy n.keys k+1)) bj bJ:=by
 obtain⟨a,b,c,d,e⟩:=v;have w:=e.len;have C:=wH n.keys k;have hs:=e.sorted λ_ _ _ _ _ i=>i.in;have o:∀s∈n.keys,fL lo hi s:=λs h=>⟨λa x=>iH ((hs.2.2.2 s h).1 a x),(hs.2.2.2 s h).2⟩;obtain⟨f,g,bh,q,bj,bp,M,bJ,rfl,rfl,h1,h2,l⟩:=e.at (dy n.keys k) I;have r:=h2.Hl (k:=k) (λj y h=>Hj h y) m.1;have t:=l.Hm (k:=k) (λh=>Hk h) m.2;have z:(n.keys.take (dy n.keys k)).Pairwise bD:=hs.2.2.1.sublist (tT _ _);have A:(n.keys.drop (dy n.keys k)).Pairwise bD:=hs.2.2.1.sublist (List.drop_sublist _ _);exact⟨f,g,bh,q,bj,bp,M,bJ,I,rfl,rfl,h1,⟨r,t⟩,λu hu=>hu _ _ _ (h2.below (hi:=hi) (λ_ _ _ _ _ i=>i.in.2) z (λs h=>o s (eY h)) r) (l.Hn (lo:=lo) (λ_ _ _ _ _ i=>i.in.2) A (λs h=>o s (e6 h)) t),
  w,h2,l⟩
theorem dt.build{h:Nat}{d e:av Key}{a kb ks:O Key}{b c kids bh bj q:O Nat}{bp M bJ:O aR}(h1:fC (fq P (h+1)) lo d a b bh bp)(h2:gN (fq P (h+1)) hi e kb c bj bJ)
 (hs:dV (fq Q (h+1)) d e ks kids q M) (g:∀x∈bh++bj,P x=Q x) (i:∀s∈a++ks++kb,cI s) (hd:∀x∈b++kids++c,x<1600):
 dt Q (h+2) ⟨false,a++ks++kb,[],b++kids++c⟩ lo hi (bh++(q++bj)) (bp++(M++bJ)):=by
 have aw:fC (fq Q (h+1)) lo d a b bh bp:=h1.l9 λ_ _ _ _ _ hs f=>f.agree λx hx=>g x (km _ (hs x hx));have ax:gN (fq Q (h+1)) hi e kb c bj bJ:=h2.l9 λ_ _ _ _ _ hs f=>f.agree λx hx=>g x (iA _ (hs x hx));refine⟨rfl,rfl,i,hd,?_⟩;show dV _ lo hi (a++ks++kb) (b++kids++c) _ _;rw[cM,cM];exact aw.Hi (hs.post ax)
end Go.Proofs.YtkdhdlfonmgheaaGreat
namespace Go.Proofs.YtkdhdlfonmgheaaGreat
variable {lo hi:av Key}{P Q:Nat->av aG}
theorem dt.one{h x:Nat}{n:aG}{p:O Nat}{L:O aR}(a:dt P h n lo hi p L)(h2:2<=n.keys.length)(hx:Q x=some n)(b:∀y∈p,P y=Q y):dV (fq Q h) lo hi [] [x] (x::p) L:=
 .one ⟨a.lay (λe=>by rw[e]at h2;simp at h2) hx b,n,hx,h2⟩
theorem lI{n:aG}(h:n.leaf=true):cellsOf n=List.zipWith (λk v=>2+k.length+v.length) n.keys n.vals:=by unfold cellsOf;rw[h];rfl
theorem lJ{n:aG}(h:n.leaf=false):cellsOf n=n.keys.map λk=>3+k.length:=by unfold cellsOf;rw[h];rfl
theorem yX{B:Nat}{f:Key->Key->Nat}:∀ {ks vs:O Key},(∀k∈ks,∀v∈vs,f k v<=B)->∀x∈List.zipWith f ks vs,x<=B
 | [],vs,_,x,hx=>by simp at hx
 |k::ks,[],_,x,hx=>by simp at hx
 |k::ks,v::vs,h,x,hx=>by
  rw[List.zipWith_cons_cons]at hx
  rcases de.1 hx with rfl|hx
  .exact h k (by simp) v (by simp)
  .exact yX (λk a v b=>h k (by simp[a]) v (by simp[b])) x hx
def ct(n:aG):Nat:=gA (cellsOf n) (if n.leaf then n.keys.length-1 else n.keys.length-2)
theorem dt.two{h x y:Nat}{n:aG}{p:O Nat}{L:O aR}(b:dt P h n lo hi p L)(h1:232<bN n)(h2:n.leaf=true->bN n<=310)(r:n.leaf=false->bN n<=335):
 1<=ct n/\(if n.leaf then ct n<=n.keys.length-1/\1<=n.keys.length-1 else ct n<=n.keys.length-2/\1<=n.keys.length-2)/\bN (n.left (ct n))<=232/\bN (n.right (ct n))<=232/\
  ∃ (u:ct n<n.keys.length) (bh bj:O Nat) (bp bJ:O aR),p=bh++bj/\L=bp++bJ/\cI n.keys[ct n]/\
   (Q x=some (n.left (ct n))->Q y=some (n.right (ct n))->(∀z∈p,P z=Q z)->dV (fq Q h) lo hi [n.keys[ct n]] [x,y] ((x::bh)++(y::bj)) (bp++bJ)):=by
 have main:∀ (i:Nat),2<=i->(F:i<n.keys.length)->2<=(n.left i).keys.length->2<=(n.right i).keys.length->∃ (u:i<n.keys.length) (bh bj:O Nat) (bp bJ:O aR),p=bh++bj/\L=bp++bJ/\cI n.keys[i]/\
  (Q x=some (n.left i)->Q y=some (n.right i)->(∀z∈p,P z=Q z)->dV (fq Q h) lo hi [n.keys[i]] [x,y] ((x::bh)++(y::bj)) (bp++bJ)):=by
  intro i G s w A;obtain⟨bh,bj,bp,bJ,rfl,rfl,v1,v2⟩:=b.yV (by omega:1<=i) s;have B:cI n.keys[i]:=by
   match h,b with
   |0,b=>exact b.elim
   |1,b=>exact b.1.ok _ (cW _)
   |h+2,b=>exact b.2.2.1 _ (cW _)
  refine⟨s,bh,bj,bp,bJ,rfl,rfl,B,λhx C t=>?_⟩;have s1:=v1.one w hx λz f=>t z (km _ f);have s2:=v2.one A C λz f=>t z (iA _ f);exact s1.app s2
 match h,b with
 |0,b=>exact b.elim
 |1,b=>
  have a:n.leaf=true:=b.1.leaf;have g:(cellsOf n).length=n.keys.length:=by rw[lI a,List.length_zipWith,b.1.len,Nat.min_self]
  have j:∀c∈cellsOf n,c<=50:=by
   rw[lI a];exact yX λk l v D=>by have:=(b.1.ok k l).2;have:=b.1.vals v D;omega
  have E:bN n=1+(cellsOf n).sum:=by unfold bN;rw[a];rfl
  have h2:=h2 a;obtain⟨a1,a2,a3,a4⟩:=Hq j I I;have m:ct n=gA (cellsOf n) ((cellsOf n).length-1):=by unfold ct;rw[a,g];rfl
  rw[←m]at a1 a2 a3 a4;have d:n.left (ct n)=⟨true,n.keys.take (ct n),n.vals.take (ct n),[]⟩:=by unfold aG.left;rw[a];rfl
  have e:n.right (ct n)=⟨true,n.keys.drop (ct n),n.vals.drop (ct n),[]⟩:=by unfold aG.right;rw[a];rfl
  have o:cellsOf (n.left (ct n))=(cellsOf n).take (ct n):=by rw[d,lI rfl,lI a];exact List.take_zipWith.symm
  have q:cellsOf (n.right (ct n))=(cellsOf n).drop (ct n):=by rw[e,lI rfl,lI a];exact List.drop_zipWith.symm
  refine⟨I,by rw[a];exact⟨I,I⟩,?_,?_,main _ a1 I (by rw[d];show 2<=(n.keys.take _).length;rw[cz];omega) (by rw[e];show 2<=(n.keys.drop _).length;rw[dw];omega)⟩
  .unfold bN;rw[o,d];show 1+_<=_;omega
  .unfold bN;rw[q,e];show 1+_<=_;omega
 |h+2,b=>
  have a:n.leaf=false:=b.1;have g:(cellsOf n).length=n.keys.length:=by rw[lJ a,dk]
  have j:∀c∈cellsOf n,c<=27:=by
   rw[lJ a];intro c hc;obtain⟨k,l,rfl⟩:=fy.1 hc;have:=(b.2.2.1 k l).2;omega
  have E:bN n=3+(cellsOf n).sum:=by unfold bN;rw[a];rfl
  have r:=r a;obtain⟨a1,a2,a3,a4⟩:=Hr j I I;have m:ct n=gA (cellsOf n) ((cellsOf n).length-2):=by unfold ct;rw[a,g];rfl
  rw[←m]at a1 a2 a3 a4;have d:n.left (ct n)=⟨false,n.keys.take (ct n),[],n.kids.take (ct n+1)⟩:=by unfold aG.left;rw[a];rfl
  have e:n.right (ct n)=⟨false,n.keys.drop (ct n+1),[],n.kids.drop (ct n+1)⟩:=by unfold aG.right;rw[a];rfl
  have o:cellsOf (n.left (ct n))=(cellsOf n).take (ct n):=by rw[d,lJ rfl,lJ a];exact mv
  have q:cellsOf (n.right (ct n))=(cellsOf n).drop (ct n+1):=by rw[e,lJ rfl,lJ a];exact mu
  refine⟨I,by rw[a];exact⟨I,I⟩,?_,?_,main _ a1 I (by rw[d];show 2<=(n.keys.take _).length;rw[cz];omega) (by rw[e];show 2<=(n.keys.drop _).length;rw[dw];omega)⟩
  .unfold bN;rw[o,d];show 3+_<=_;omega
  .unfold bN;rw[q,e];show 3+_<=_;omega
end Go.Proofs.YtkdhdlfonmgheaaGreat
namespace Go.Proofs.YtkdhdlfonmgheaaGreat
variable {lo hi:av Key}{P Q:Nat->av aG}
theorem dt.cells{h:Nat}{n:aG}{p:O Nat}{L:O aR}(a:dt P h n lo hi p L):(cellsOf n).length=n.keys.length/\∀c∈cellsOf n,c<=if n.leaf then 50 else 27:=by
 match h,a with
 |0,a=>exact a.elim
 |1,a=>
  have b:n.leaf=true:=a.1.leaf;rw[lI b,b];exact⟨by rw[List.length_zipWith,a.1.len,Nat.min_self],yX λk d v e=>by have:=(a.1.ok k d).2;have:=a.1.vals v e;simp only[if_true];omega⟩
 |h+2,a=>
  have b:n.leaf=false:=a.1;rw[lJ b,b];refine⟨by rw[dk],λc hc=>?_⟩;obtain⟨k,d,rfl⟩:=fy.1 hc;have:=(a.2.2.1 k d).2;show 3+k.length<=27;omega
theorem dt.yY{h:Nat}{n:aG}{p:O Nat}{L:O aR}(b:dt P h n lo hi p L)(hs:80<=bN n):2<=n.keys.length:=by
 obtain⟨h1,h2⟩:=b.cells;have:=nQ h2;rw[h1]at this;unfold bN at hs
 cases a:n.leaf with
 |true=>rw[a]at hs this;simp only[if_true]at hs this;omega
 |false=>rw[a]at hs this;simp only[gp,if_false]at hs this;omega
theorem Hs{a b:aG}{s:Key}(h:a.leaf=b.leaf)(f:a.leaf=true->a.vals.length=a.keys.length):bN (ee a s b)=if a.leaf then bN a+bN b-1 else bN a+bN b+s.length:=by
 cases c:a.leaf with
 |true=>
  have e:ee a s b=⟨true,a.keys++b.keys,a.vals++b.vals,[]⟩:=by unfold ee;rw[c];rfl
  have d:b.leaf=true:=by rw[←h,c]
  unfold bN;rw[e,lI rfl,lI c,lI d,c,d];simp only[if_true];rw[p3 (f c).symm,lV];omega
 |false=>
  have e:ee a s b=⟨false,a.keys++s::b.keys,[],a.kids++b.kids⟩:=by unfold ee;rw[c];rfl
  have d:b.leaf=false:=by rw[←h,c]
  unfold bN;rw[e,lJ rfl,lJ c,lJ d,c,d];simp only[gp,if_false,gb,g2,lV,rP];omega
def iW(ks:O Key):Nat:=(ks.map λk=>3+k.length).sum
theorem wI(a b:O Key):iW (a++b)=iW a+iW b:=by unfold iW;rw[gb,lV]
theorem Cg{n:aG}(h:n.leaf=false):bN n=3+iW n.keys:=by unfold bN iW;rw[h,lJ h];rfl
theorem Ht(k:Key):iW [k]=3+k.length:=by simp[iW]
theorem yZ{n:aG}{ks:O Key}{kids:O Nat}{fr j:Nat}(h:n.leaf=false)(a:ks.length<=1)(b:∀k∈ks,cI k)(c:fr<=j):
 bN ⟨false,n.keys.take fr++ks++n.keys.drop j,[],kids⟩<=bN n+27:=by
 rw[Cg h,Cg rfl];show 3+iW (n.keys.take fr++ks++n.keys.drop j)<=_;rw[wI,wI];have h1:iW ks<=27:=by
  match ks,a with
  | [],_=>simp[iW]
  | [k],_=>rw[Ht];have:=(b k (by simp)).2;omega
 have h2:iW n.keys=iW (n.keys.take fr)+iW (n.keys.drop fr):=by rw[←wI,fV]
 have d:iW (n.keys.drop fr)=iW ((n.keys.drop fr).take (j-fr))+iW (n.keys.drop j):=by
  rw[←wI]
  congr 1
  have:n.keys.drop j=(n.keys.drop fr).drop (j-fr):=by rw[kN];congr 1;omega
  rw[this,fV]
 omega
end Go.Proofs.YtkdhdlfonmgheaaGreat
namespace Go.Proofs.YtkdhdlfonmgheaaGreat
variable {lo hi:av Key}{P Q:Nat->av aG}
def mW(Q:Nat->av aG)(n:aG)(ks:O Key)(kids:O Nat):Prop:=
 (bN n<=232/\∃x,ks=[]/\kids=[x]/\Q x=some n)\/
 (232<bN n/\∃ (x y:Nat) (a:ct n<n.keys.length),ks=[n.keys[ct n]]/\kids=[x,y]/\Q x=some (n.left (ct n))/\Q y=some (n.right (ct n)))
theorem dt.fits{h:Nat}{n:aG}{p:O Nat}{L:O aR}{ks:O Key}{kids:O Nat}(a:dt P h n lo hi p L)(h2:2<=n.keys.length)(d:n.leaf=true->bN n<=310)(e:n.leaf=false->bN n<=335)
 (hf:mW Q n ks kids) (b:∀x∈p,P x=Q x):∃c,dV (fq Q h) lo hi ks kids c L/\c.Perm (kids++p)/\(∀s∈ks,cI s)/\ks.length<=1:=by
 rcases hf with ⟨_,x,rfl,rfl,hx⟩|⟨hs,x,y,j,rfl,rfl,hx,f⟩
 .exact⟨x::p,a.one h2 hx b,List.Perm.refl _,by simp,by simp⟩
 .obtain⟨_,_,_,_,_,bh,bj,bp,bJ,rfl,rfl,g,i⟩:=a.two (Q:=Q) (x:=x) (y:=y) hs d e
  refine⟨_,i hx f b,?_,by simpa using g,by simp⟩;show((x::bh)++(y::bj)).Perm ([x,y]++(bh++bj));simp only[mn,hG];exact(nn).cons x
theorem Hu{h:Nat}{a c:aG}{f g:av Key}{i:Nat}{bh bj b:O Nat}{bp h_ bJ:O aR}{ks:O Key}{kids:O Nat}(h0:a.leaf=false)(j:∀k∈a.keys,cI k)(l:∀x∈a.kids,x<1600)
 (p:fC (fq P (h+1)) lo f (a.keys.take i) (a.kids.take i) bh bp) (q:gN (fq P (h+1)) hi g (a.keys.drop i) (a.kids.drop (i+1)) bj bJ) (m:dt P (h+1) c f g b h_) (h1:80<=bN c) (h2:bN c<=282)
 (hf:mW Q c ks kids) (d:∀x∈bh++(b++bj),P x=Q x) (r:∀x∈kids,x<1600):
 ∃n,dt Q (h+2) (gk a i (i+1) ks kids) lo hi n (bp++(h_++bJ))/\n.Perm (kids++(bh++(b++bj)))/\bN (gk a i (i+1) ks kids)<=bN a+27/\a.keys.length<=(gk a i (i+1) ks kids).keys.length:=by
 obtain⟨eB,hs,t,o,u⟩:=m.fits (m.yY h1) (λ_=>I) (λ_=>I) hf λx hx=>d x (iA _ (km _ hx));have v:=dt.build p q hs (λx hx=>by
  rcases c1.1 hx with hx|hx
  .exact d x (km _ hx)
  .exact d x (iA _ (iA _ hx)))
  (λs hs=>by
    rcases c1.1 hs with hs|hs
    .rcases c1.1 hs with hs|hs
     .exact j s (eY hs)
     .exact o s hs
    .exact j s (e6 hs))
  (λx hx=>by
    rcases c1.1 hx with hx|hx
    .rcases c1.1 hx with hx|hx
     .exact l x (eY hx)
     .exact r x hx
    .exact l x (e6 hx))
 have e:gk a i (i+1) ks kids=⟨false,a.keys.take i++ks++a.keys.drop i,[],a.kids.take i++kids++a.kids.drop (i+1)⟩:=by unfold gk;rw[Nat.add_sub_cancel]
 rw[e];refine⟨_,v,?_,yZ h0 u o (bt _),?_⟩
 .have aw:(eB++bj).Perm (kids++(b++bj)):=by
   rw[←cM];exact t.append_right _
  refine(List.Perm.append_left bh aw).trans ?_;have ax:=(rQ (l₁:=bh) (l₂:=kids)).append_right (b++bj);rw[cM,cM]at ax;exact ax
 .show a.keys.length<=(a.keys.take i++ks++a.keys.drop i).length
  have:=congrArg List.length (fV i a.keys);simp only[cG]at this⊢;omega
end Go.Proofs.YtkdhdlfonmgheaaGreat
namespace Go.Proofs.YtkdhdlfonmgheaaGreat
variable {lo hi:av Key}{P Q:Nat->av aG}
theorem wJ{a b:aG}{s:Key}:a.keys.length+b.keys.length<=(ee a s b).keys.length:=by
 unfold ee;split
 .show _<=(a.keys++b.keys).length
  rw[cG];omega
 .show _<=(a.keys++s::b.keys).length
  rw[cG,gx];omega
theorem Ch{a b:aG}{s:Key}:(ee a s b).leaf=a.leaf:=by
 unfold ee
 cases h:a.leaf<;>simp
theorem wK{h:Nat}{a b:aG}{s:Key}{ft dR d f:av Key}{pa g:O Nat}{i j:O aR}(c:dt P h a ft dR pa i)(k:dt P h b d f g j)(hs:cI s)(h1:bN a+bN b<=311):
 ((ee a s b).leaf=true->bN (ee a s b)<=310)/\((ee a s b).leaf=false->bN (ee a s b)<=335):=by
 have l:a.leaf=b.leaf:=by rw[c.leaf,k.leaf]
 have m:a.leaf=true->a.vals.length=a.keys.length:=λh1=>by
  match h,c with
  |0,c=>exact c.elim
  |1,c=>exact c.1.len
  |h+2,c=>rw[c.1]at h1;cases h1
 rw[Ch,Hs l m];have:=hs.2;constructor
 .intro e;rw[e];simp only[if_true];omega
 .intro e;rw[e];simp only[gp,if_false];omega
theorem Hv{h:Nat}{d g:aG}{u v:av Key}{i:Nat}{bh bj f:O Nat}{bp h_ bJ:O aR}{k:Key}(h0:d.leaf=false)(w:∀k∈d.keys,cI k)(C:∀x∈d.kids,x<1600)(hlen:d.kids.length=d.keys.length+1)(S:∀x n,P x=some n->bN n<=232)
 (dR:1<=i) (ag:i<d.kids.length) (D:fL u v k)
 (T:fC (fq P (h+1)) lo u (d.keys.take i) (d.kids.take i) bh bp) (U:gN (fq P (h+1)) hi v (d.keys.drop i) (d.kids.drop (i+1)) bj bJ) (E:dt P (h+1) g u v f h_) (h1:bN g<80):
 ∃ (o:aG) (y:O Nat) (F:i-1<d.kids.length) (ah:i-1<d.keys.length),P d.kids[i-1]=some o/\bh.Perm (d.kids[i-1]::y)/\2<=o.keys.length/\
  ∀ (Q:Nat->av aG) (ks:O Key) (kids:O Nat),mW Q (ee o d.keys[i-1] g) ks kids->(∀x∈y++(f++bj),P x=Q x)->(∀x∈kids,x<1600)->
   ∃G,dt Q (h+2) (gk d (i-1) (i+1) ks kids) lo hi G (bp++(h_++bJ))/\G.Perm (kids++(y++(f++bj)))/\bN (gk d (i-1) (i+1) ks kids)<=bN d+27/\d.keys.length<=(gk d (i-1) (i+1) ks kids).keys.length+1:=by
 obtain⟨s,V,aL,r,bF,N,hs,rfl,z,rfl,rfl,⟨A,m,j,p⟩,H,ai⟩:=T.last (by rw[cz];omega);have W:(d.keys.take i).length=i:=by rw[cz];omega
 have X:(d.kids.take i).length=i:=by rw[cz];omega
 have z:s=d.keys[i-1]'I:=by
  rw[z,ou];congr 1;omega
 have Y:(d.kids.take i)[(d.kids.take i).length-1]'I=d.kids[i-1]'I:=by
  rw[ou];congr 1;omega
 rw[Y]at A j;obtain⟨o,q,t,rfl,_,J⟩:=A.kY;rw[t]at j;have p:2<=o.keys.length:=by rw[Option.some.inj j];exact p
 clear j;subst z;have B:=(show fq P (h+1) V (some (d.keys[i-1]'I)) (d.kids[i-1]'I) (d.kids[i-1]'I::q) N from⟨A,o,t,p⟩).in;obtain⟨x,hx⟩:=p2 _ B.1;have K:=w _ (cW (l:=d.keys) (n:=i-1) I);have Z:=dt.merge J E K (λc hc=>iH (kC ((B.2.2 x hx).1 c hc) ((B.2.2 x hx).2 _ rfl))) (λc hc=>iH (kC (D.1 _ rfl) (D.2 c hc)));have L:=wK J E K (by have:=S _ _ t;omega);have aj:=wJ (a:=o) (b:=g) (s:=d.keys[i-1]'I);refine⟨o,aL++q,I,I,t,nn,p,λQ ks kids hf M aa=>?_⟩;obtain⟨eB,ab,ac,R,ad⟩:=Z.fits I L.1 L.2 hf λx hx=>M x (by
  rcases c1.1 hx with hx|hx
  .exact km _ (iA _ hx)
  .exact iA _ (km _ hx))
 have ae:(d.keys.take i).take ((d.keys.take i).length-1)=d.keys.take (i-1):=by rw[W,ov];congr 1;omega
 have af:(d.kids.take i).take ((d.kids.take i).length-1)=d.kids.take (i-1):=by rw[X,ov];congr 1;omega
 rw[ae,af]at H;have F:=dt.build H U ab (λx hx=>M x (by
  rcases c1.1 hx with hx|hx
  .exact km _ (km _ hx)
  .exact iA _ (iA _ hx)))
  (λs hs=>by
    rcases c1.1 hs with hs|hs
    .rcases c1.1 hs with hs|hs
     .exact w s (eY hs)
     .exact R s hs
    .exact w s (e6 hs))
  (λx hx=>by
    rcases c1.1 hx with hx|hx
    .rcases c1.1 hx with hx|hx
     .exact C x (eY hx)
     .exact aa x hx
    .exact C x (e6 hx))
 have e:gk d (i-1) (i+1) ks kids=⟨false,d.keys.take (i-1)++ks++d.keys.drop i,[],d.kids.take (i-1)++kids++d.kids.drop (i+1)⟩:=by unfold gk;rw[Nat.add_sub_cancel]
 rw[e];refine⟨_,by simpa[cM] using F,?_,yZ h0 ad R I,?_⟩
 .have aw:(eB++bj).Perm (kids++(q++(f++bj))):=by
   have:=ac.append_right bj;simpa[cM] using this
  refine(List.Perm.append_left aL aw).trans ?_;have ax:=(rQ (l₁:=aL) (l₂:=kids)).append_right (q++(f++bj));simpa[cM] using ax
 .show d.keys.length<=(d.keys.take (i-1)++ks++d.keys.drop i).length+1
  simp only[cG,cz,dw];omega
end Go.Proofs.YtkdhdlfonmgheaaGreat
namespace Go.Proofs.YtkdhdlfonmgheaaGreat
variable {lo hi:av Key}{P Q:Nat->av aG}
theorem Hw{h:Nat}{d j:aG}{w y:av Key}{i:Nat}{bh bj f:O Nat}{bp h_ bJ:O aR}{k:Key}(h0:d.leaf=false)(z:∀k∈d.keys,cI k)(E:∀x∈d.kids,x<1600)(hlen:d.kids.length=d.keys.length+1)(U:∀x n,P x=some n->bN n<=232)
 (p:i+1<d.kids.length) (F:fL w y k)
 (V:fC (fq P (h+1)) lo w (d.keys.take i) (d.kids.take i) bh bp) (W:gN (fq P (h+1)) hi y (d.keys.drop i) (d.kids.drop (i+1)) bj bJ) (G:dt P (h+1) j w y f h_) (h1:bN j<80):
 ∃ (o:aG) (A:O Nat) (H:i+1<d.kids.length) (ae:i<d.keys.length),P d.kids[i+1]=some o/\bj.Perm (d.kids[i+1]::A)/\2<=o.keys.length/\
  ∀ (Q:Nat->av aG) (ks:O Key) (kids:O Nat),mW Q (ee j d.keys[i] o) ks kids->(∀x∈bh++(f++A),P x=Q x)->(∀x∈kids,x<1600)->
   ∃J,dt Q (h+2) (gk d i (i+2) ks kids) lo hi J (bp++(h_++bJ))/\J.Perm (kids++(bh++(f++A)))/\bN (gk d i (i+2) ks kids)<=bN d+27/\d.keys.length<=(gk d i (i+2) ks kids).keys.length+1:=by
 obtain⟨s,X,r,g,N,af,hs,rfl,B,rfl,rfl,⟨C,m,q,t⟩,K⟩:=W.head (by rw[dw];omega);have B:s=d.keys[i]'I:=by rw[B,tU];rfl
 have Y:(d.kids.drop (i+1))[0]'(by rw[dw];omega)=d.kids[i+1]'p:=by rw[tU]
 rw[Y]at C q;obtain⟨o,u,v,rfl,_,L⟩:=C.kY;rw[v]at q;have t:2<=o.keys.length:=by rw[Option.some.inj q];exact t
 clear q;subst B;have D:=(show fq P (h+1) (some (d.keys[i]'I)) X (d.kids[i+1]'p) (d.kids[i+1]'p::u) N from⟨C,o,v,t⟩).in;obtain⟨x,hx⟩:=p2 _ D.1;have M:=z _ (cW (l:=d.keys) (n:=i) I);have Z:=dt.merge G L M (λc hc=>iH (kC (F.1 c hc) (F.2 _ rfl))) (λc hc=>iH (kC ((D.2.2 x hx).1 _ rfl) ((D.2.2 x hx).2 c hc)));have R:=wK G L M (by have:=U _ _ v;omega);have ag:=wJ (a:=j) (b:=o) (s:=d.keys[i]'I);refine⟨o,u++g,p,I,v,List.Perm.refl _,t,λQ ks kids hf S aa=>?_⟩;obtain⟨eB,ab,ac,T,ad⟩:=Z.fits I R.1 R.2 hf λx hx=>S x (by
  rcases c1.1 hx with hx|hx
  .exact iA _ (km _ hx)
  .exact iA _ (iA _ (km _ hx)))
 rw[kN,kN]at K;have H:=dt.build V K ab (λx hx=>S x (by
  rcases c1.1 hx with hx|hx
  .exact km _ hx
  .exact iA _ (iA _ (iA _ hx))))
  (λs hs=>by
    rcases c1.1 hs with hs|hs
    .rcases c1.1 hs with hs|hs
     .exact z s (eY hs)
     .exact T s hs
    .exact z s (e6 hs))
  (λx hx=>by
    rcases c1.1 hx with hx|hx
    .rcases c1.1 hx with hx|hx
     .exact E x (eY hx)
     .exact aa x hx
    .exact E x (e6 hx))
 have e:gk d i (i+2) ks kids=⟨false,d.keys.take i++ks++d.keys.drop (i+1),[],d.kids.take i++kids++d.kids.drop (i+1+1)⟩:=rfl;rw[e];refine⟨_,by simpa[cM] using H,?_,yZ h0 ad T I,?_⟩
 .have aw:(eB++g).Perm (kids++(f++(u++g))):=by
   have:=ac.append_right g;simpa[cM] using this
  refine(List.Perm.append_left bh aw).trans ?_;have ax:=(rQ (l₁:=bh) (l₂:=kids)).append_right (f++(u++g));simpa[cM] using ax
 .show d.keys.length<=(d.keys.take i++ks++d.keys.drop (i+1)).length+1
  simp only[cG,cz,dw];omega
end Go.Proofs.YtkdhdlfonmgheaaGreat
namespace Go.Proofs.YtkdhdlfonmgheaaGreat
variable {lo hi:av Key}{P:Nat->av aG}
def cT(ks:O Key)(k:Key):Nat:=ks.findIdx λs=>decide (¬bD s k)
theorem q0(ks:O Key)(k:Key):cT ks k<=ks.length:=List.findIdx_le_length
theorem py{ks:O Key}{k:Key}{j:Nat}(h:j<cT ks k)(a:j<ks.length):bD ks[j] k:=by
 have:=List.not_of_lt_findIdx h;simpa using this
theorem q1{ks:O Key}{k:Key}(hs:ks.Pairwise bD){j:Nat}(h:cT ks k<=j)(b:j<ks.length):dQ k ks[j]:=by
 have h1:cT ks k<ks.length:=by omega
 have h2:dQ k ks[cT ks k]:=by
  have:=List.findIdx_getElem (p:=λs=>decide (¬bD s k)) (xs:=ks) (w:=h1);exact Cd.1 (cl this)
 rcases eu (cT ks k) j with a|a
 .exact iH (kC h2 (ln.1 hs _ _ h1 b a))
 .have:cT ks k=j:=by omega
  subst this;exact h2
theorem Hx{α:Type}{f:α->al}{L:O α}{i:Nat}(h1:∀x∈L.take i,f x=true)(h2:∀x∈L.drop i,f x=false):L.filter f=L.take i:=by
 conv=>lhs;rw[←fV i L]
 rw[gG,jA.2 h1,mx.2 (λx hx=>by rw[h2 x hx];decide),fl]
theorem Ci{α:Type}{f:α->al}{L:O α}{i:Nat}(h1:∀x∈L.take i,f x=false)(h2:∀x∈L.drop i,f x=true):L.filter f=L.drop i:=by
 conv=>lhs;rw[←fV i L]
 rw[gG,mx.2 (λx hx=>by rw[h1 x hx];decide),jA.2 h2,hG]
theorem y0{ks vs:O Key}{i:Nat}{x:aR}(h:x∈(ks.zip vs).take i):∃ (j:Nat) (a:j<ks.length),j<i/\x.1=ks[j]:=by
 obtain⟨j,a,rfl⟩:=List.mem_take_iff_getElem.1 h;have h1:j<(ks.zip vs).length:=by omega
 rw[ot]at h1;exact⟨j,I,I,by rw[tV]⟩
theorem y1{ks vs:O Key}{i:Nat}{x:aR}(h:x∈(ks.zip vs).drop i):∃ (j:Nat) (a:j<ks.length),i<=j/\x.1=ks[j]:=by
 obtain⟨j,a,rfl⟩:=List.mem_drop_iff_getElem.1 h;have h1:i+j<(ks.zip vs).length:=by omega
 rw[ot]at h1;exact⟨i+j,I,I,by rw[tV]⟩
theorem Hy{ks vs:O Key}{k v:Key}(hs:ks.Pairwise bD):gM (ks.zip vs) k v=(ks.zip vs).take (cT ks k)++(k,v)::(ks.zip vs).drop (if ks[cT ks k]? =some k then cT ks k+1 else cT ks k):=by
 unfold gM;rw[Hx (f:=λp:aR=>decide (bD p.1 k)) (i:=cT ks k) (λx hx=>by
  obtain⟨j,a,h1,e⟩:=y0 hx;rw[e];exact dD (py h1 a)) (λx hx=>by
  obtain⟨j,a,h1,e⟩:=y1 hx;rw[e];exact g_ (q1 hs h1 a))]
 congr 2
 split
 .rename_i he
  obtain⟨aJ,he⟩:=jV.1 he;refine Ci (λx hx=>?_) (λx hx=>?_)
  .obtain⟨j,a,h1,e⟩:=y0 hx
   rw[e];refine g_ ?_;rcases eu j (cT ks k) with h2|h2
   .exact j8 (py h2 a)
   .have:j=cT ks k:=by omega
    subst this;rw[he];exact kB _
  .obtain⟨j,a,h1,e⟩:=y1 hx
   rw[e];refine dD ?_;have:=ln.1 hs _ j aJ a I;rwa[he]at this
 .rename_i he
  refine Ci (λx hx=>?_) (λx hx=>?_)
  .obtain⟨j,a,h1,e⟩:=y0 hx
   rw[e];exact g_ (j8 (py h1 a))
  .obtain⟨j,a,h1,e⟩:=y1 hx
   rw[e];refine dD ?_;rcases pw.1 (q1 hs h1 a) with h2|h2
   .exact h2
   .have aJ:cT ks k<ks.length:=by omega
    rcases eu (cT ks k) j with b|b
    .exact kC (q1 hs (bt _) aJ) (ln.1 hs _ _ aJ a b)
    .have:j=cT ks k:=by omega
     subst this;exact absurd ((dU aJ).trans (congrArg some h2.symm)) he
end Go.Proofs.YtkdhdlfonmgheaaGreat
namespace Go.Proofs.YtkdhdlfonmgheaaGreat
open Go aS Go.Proofs.Tryz
theorem Hz(n k:Nat):bL n (k+1)=bL (n/256) k++ [UInt8.ofNat (n%256)]:=by
 unfold bL;rw[List.range_succ,gb]
 congr 1
 .apply List.map_congr_left
  intro j a;have:=kj.1 a;rw[show k+1-1-j=(k-1-j)+1 from I,Nat.pow_succ,Nat.mul_comm,←Nat.div_div_eq_div_mul]
 .simp
theorem q2:∀ (k n:Nat),n<256^k->ic (bL n k)=n
 |0,n,h=>by
  have:n=0:=by simpa using h
  subst this;rfl
 |k+1,n,h=>by
  rw[Nat.pow_succ]at h
  rw[Hz,yN,q2 k (n/256) I,qU (hZ _ I)]
  omega
def cQ(n:aG):Prop:=hC n\/yT n
def nR(l:Key):O UInt8:=UInt8.ofNat l.length::l
def gS(n:aG)(i:Nat):O UInt8:=nR (n.keys.getD i [])++if n.leaf then nR (n.vals.getD i []) else bL (n.kids.getD (i+1) 0) 2
def ie(n:aG)(i m:Nat):O UInt8:=((List.range' i m).map (gS n)).flatten
theorem HA(n:aG)(i m:Nat):ie n i (m+1)=gS n i++ie n (i+1) m:=rfl
theorem y2(n:aG)(m:Nat):ie n 0 (m+1)=ie n 0 m++gS n m:=by
 unfold ie;rw[List.range'_concat,gb,List.flatten_append];simp
def preB(n:aG):O UInt8:=UInt8.ofNat n.keys.length::if n.leaf then [] else bL (n.kids.getD 0 0) 2
def jK(n:aG):O UInt8:=preB n++ie n 0 n.keys.length
theorem nS(l:Key):(nR l).length=l.length+1:=rfl
theorem cQ.keys{n:aG}(h:cQ n):wG n:=by
 rcases h with h|h
 .exact h.towG
 .exact h.towG
theorem cQ.vals{n:aG}(h:cQ n):∀v∈n.vals,v.length<=24:=by
 rcases h with h|h
 .exact h.vals
 .rw[h.vals];simp
theorem cQ.kids{n:aG}(h:cQ n):∀k∈n.kids,k<1600:=by
 rcases h with h|h
 .rw[h.kids];simp
 .exact h.kids
theorem wL{α:Type}{l:O α}{i:Nat}{d:α}(h:i<l.length):l.getD i d∈l:=by
 rw[gd,dU h];exact cW h
theorem y3{n:aG}(h:cQ n){i:Nat}(hi:i<n.keys.length):(cellsOf n)[i]? =some (gS n i).length:=by
 unfold cellsOf gS;rcases h with h|h
 .rw[h.leaf]
  simp only[if_true];have a:i<n.vals.length:=by rw[h.len];exact hi
  rw[List.getElem?_zipWith,dU hi,dU a];simp[gd,dU hi,dU a,nS];omega
 .rw[h.inner]
  simp only[gp,if_false];rw[nq,dU hi];simp[gd,dU hi,nS,dH];omega
theorem q3{n:aG}(h:cQ n):(cellsOf n).length=n.keys.length:=by
 unfold cellsOf;rcases h with h|h
 .rw[h.leaf];simp[h.len]
 .rw[h.inner];simp
theorem y4{n:aG}(h:cQ n):∀m,m<=n.keys.length->(ie n 0 m).length=((cellsOf n).take m).sum
 |0,_=>by simp[ie]
 |m+1,b=>by
  have a:m<(cellsOf n).length:=by rw[q3 h];omega
  have h1:=y3 h (i:=m) I
  rw[dU a]at h1
  have h1:(cellsOf n)[m]=(gS n m).length:=Option.some.inj h1
  rw[y2,cG,y4 h m I,qZ a,h1]
theorem y5{n:aG}(h:cQ n):(jK n).length=bN n:=by
 have e:((cellsOf n).take n.keys.length).sum=(cellsOf n).sum:=by rw[dr (by rw[q3 h];exact bt _)]
 unfold jK bN preB;rw[cG,y4 h _ (bt _),e]
 cases n.leaf<;>simp[dH]
theorem wM{n:aG}(h:cQ n):2*n.keys.length<=bN n:=by
 have h1:∀l:O Nat,(∀x∈l,2<=x)->2*l.length<=l.sum:=by
  intro l
  induction l with
  |nil=>simp
  |cons a l c=>
   intro h;have:=h a (by simp);have:=c λx hx=>h x (by simp[hx]);simp only[gx,rP];omega
 have h2:=h1 (cellsOf n) (by
  intro x hx;obtain⟨i,hi,rfl⟩:=fF hx;have d:i<n.keys.length:=by rwa[←q3 h]
  have b:=y3 h d;rw[dU hi]at b;rw[Option.some.inj b];unfold gS;rw[cG,nS];split
  .rw[nS];omega
  .rw[dH];omega)
 rw[q3 h]at h2;unfold bN;omega
abbrev Rd:=O UInt8×al
def ig(r:Rd)(k:Nat):O UInt8×Rd:=if r.2=false\/r.1.length<k then ([],(r.1,false)) else (r.1.take k,(r.1.drop k,true))
def rdNum(r:Rd)(k:Nat):Nat×Rd:=(if (ig r k).1.length=k then ic (ig r k).1 else 0,(ig r k).2)
def j9(r:Rd):O UInt8×Rd:=ig (rdNum r 1).2 (rdNum r 1).1
def pz(s:aG×Rd):aG×Rd:=
 let t:=j9 s.2
 if s.1.leaf then (⟨s.1.leaf,s.1.keys++ [t.1],s.1.vals++ [(j9 t.2).1],s.1.kids⟩,(j9 t.2).2)
 else (⟨s.1.leaf,s.1.keys++ [t.1],s.1.vals,s.1.kids++ [(rdNum t.2 2).1]⟩,(rdNum t.2 2).2)
def iI(s:aG×Rd):Nat->aG×Rd
 |0=>s
 |i+1=>pz (iI s i)
def mX(leaf:al)(r:Rd):aG×Rd:=if leaf then (⟨true,[],[],[]⟩,r) else (⟨false,[],[],[(rdNum r 2).1]⟩,(rdNum r 2).2)
def iX(leaf:al)(b:O UInt8):aG×Rd:=iI (mX leaf (rdNum (b,true) 1).2) (rdNum (b,true) 1).1
def l_(leaf:al)(b:O UInt8)(n:aG):Prop:=cQ n/\n.leaf=leaf/\bN n<=232/\jK n=b
theorem Cj(a b:O UInt8):ig (a++b,true) a.length=(a,(b,true)):=by
 unfold ig;rw[if_neg (by simp)];simp
theorem wN{n k:Nat}(b:O UInt8)(h:n<256^k):rdNum (bL n k++b,true) k=(n,(b,true)):=by
 unfold rdNum;have:=Cj (bL n k) b;rw[dH]at this;rw[this];simp[dH,q2 k n h]
theorem Ck(n:Nat)(h:n<256): [UInt8.ofNat n]=bL n 1:=by
 simp[bL,kl h]
theorem y6(l:Key)(b:O UInt8)(h:l.length<256):j9 (nR l++b,true)=(l,(b,true)):=by
 have e:nR l++b=bL l.length 1++(l++b):=by
  rw[←Ck _ h];rfl
 unfold j9;rw[e,wN _ (by simpa using h)];exact Cj l b
theorem HC{n:aG}(h:cQ n){i:Nat}(hi:i<n.keys.length)(b:O UInt8):
 pz (⟨n.leaf,n.keys.take i,n.vals.take i,if n.leaf then [] else n.kids.take (i+1)⟩,(gS n i++b,true))=
  (⟨n.leaf,n.keys.take (i+1),n.vals.take (i+1),if n.leaf then [] else n.kids.take (i+2)⟩,(b,true)):=by
 have e:n.keys.getD i []∈n.keys:=wL hi;have f:=(h.keys.ok _ e).2;have d:n.keys.take (i+1)=n.keys.take i++ [n.keys.getD i []]:=by
  rw[take_succ _ hi,gd,dU hi];rfl
 unfold pz;unfold gS;rcases h with h|h
 .have a:i<n.vals.length:=by rw[h.len];exact hi
  have c:n.vals.getD i []∈n.vals:=wL a;have ev:n.vals.take (i+1)=n.vals.take i++ [n.vals.getD i []]:=by
   rw[take_succ _ a,gd,dU a];rfl
  simp only[h.leaf,if_true];rw[cM,y6 _ _ I];simp only;rw[y6 _ _ (by have:=h.vals _ c;omega),d,ev]
 .have a:i+1<n.kids.length:=by rw[h.len];omega
  have c:n.kids.getD (i+1) 0∈n.kids:=wL a;have ev:n.kids.take (i+2)=n.kids.take (i+1)++ [n.kids.getD (i+1) 0]:=by
   rw[take_succ _ a,gd,dU a];rfl
  simp only[h.inner,gp,if_false,h.vals];rw[cM,y6 _ _ I];simp only;rw[wN _ (by have:=h.kids _ c;show _<65536;omega),d,ev];simp
theorem Cl{n:aG}(h:cQ n):∀i,i<=n.keys.length->
 iI (⟨n.leaf,[],[],if n.leaf then [] else n.kids.take 1⟩,(ie n 0 n.keys.length,true)) i=(⟨n.leaf,n.keys.take i,n.vals.take i,if n.leaf then [] else n.kids.take (i+1)⟩,(ie n i (n.keys.length-i),true))
 |0,_=>by simp[iI]
 |i+1,hi=>by
  rw[iI,Cl h i I,show n.keys.length-i=n.keys.length-(i+1)+1 from I,HA]
  exact HC h I _
theorem y7{n:aG}(h:cQ n)(g:bN n<=232):iX n.leaf (jK n)=(n,([],true)):=by
 have i:=wM h;unfold iX;have b:rdNum (jK n,true) 1=(n.keys.length,((if n.leaf then [] else bL (n.kids.getD 0 0) 2)++ie n 0 n.keys.length,true)):=by
  have:jK n=bL n.keys.length 1++((if n.leaf then [] else bL (n.kids.getD 0 0) 2)++ie n 0 n.keys.length):=by
   rw[←Ck _ I];rfl
  rw[this,wN _ (by show _<256;omega)]
 rw[b];simp only;have c:mX n.leaf ((if n.leaf then [] else bL (n.kids.getD 0 0) 2)++ie n 0 n.keys.length,true)=(⟨n.leaf,[],[],if n.leaf then [] else n.kids.take 1⟩,(ie n 0 n.keys.length,true)):=by
  unfold mX;rcases h with h|h
  .simp[h.leaf]
  .have hd:0<n.kids.length:=by rw[h.len];omega
   have d:n.kids.getD 0 0∈n.kids:=wL hd;have:=h.kids _ d;simp only[h.inner,gp,if_false];rw[wN _ (by show _<65536;omega)]
   cases e:n.kids with
   |nil=>rw[e]at hd;simp at hd
   |cons a l=>simp
 rw[c,Cl h _ (bt _)];have f:ie n n.keys.length (n.keys.length-n.keys.length)=[]:=by rw[oe];rfl
 rw[f,dr (bt _)];rcases h with h|h
 .rw[dr (by rw[h.len];exact bt _)]
  have:=h.kids;have:=h.leaf
  cases n
  simp_all
 .rw[dr (by rw[h.vals];simp),dr (by rw[h.len];exact bt _)]
  have:=h.inner
  cases n
  simp_all
theorem l_.uniq{leaf:al}{b:O UInt8}{n m:aG}(h1:l_ leaf b n)(h2:l_ leaf b m):n=m:=by
 obtain⟨a1,a2,a3,a4⟩:=h1;obtain⟨cr,bX,d,e⟩:=h2;have a:=y7 a1 a3;have c:=y7 cr d;rw[a2,a4]at a;rw[bX,e,a]at c;exact congrArg Prod.fst c
def s7(n:Nat):Nat:=if n%2=1 then (n/2)^^^0x82f63b78 else n/2
def wO:Nat->Nat->Nat
 |0,n=>n
 |k+1,n=>s7 (wO k n)
def Cm(n:Nat)(c:UInt8):Nat:=wO 8 (n^^^c.toNat)
def lK(n:Nat)(l:O UInt8):Nat:=l.foldl Cm n
def iY(l:O UInt8):Nat:=4294967295-lK 4294967295 l
theorem HD{n:Nat}(h:n<4294967296):s7 n<4294967296:=by
 unfold s7;split
 .exact Nat.xor_lt_two_pow (n:=32) (by show _<4294967296;omega) (by decide)
 .omega
theorem y8{n:Nat}(h:n<4294967296):∀k,wO k n<4294967296
 |0=>h
 |k+1=>HD (y8 h k)
theorem HE{n:Nat}(h:n<4294967296)(c:UInt8):Cm n c<4294967296:=
 y8 (Nat.xor_lt_two_pow (n:=32) h (by have:=lU c;show _<4294967296;omega)) 8
theorem wP:∀ (l:O UInt8) {n:Nat},n<4294967296->lK n l<4294967296
 | [],_,h=>h
 |c::l,_,h=>wP l (HE h c)
theorem Cn(n:Nat)(a b:O UInt8):lK n (a++b)=lK (lK n a) b:=by simp[lK,List.foldl_append]
theorem y9(l:O UInt8):iY l<4294967296:=by unfold iY;omega
structure jL where
 kind:Nat
 gen:Nat
 body:O UInt8
 deriving DecidableEq
structure nT(p:jL):Prop where
 cc:1<=p.kind
 cn:p.kind<=4
 gen:p.gen<18446744073709551616
 body:p.body.length<=232
def gX:O UInt8:=[83,84,78,67]
def e_(no:Nat)(p:jL):O UInt8:=gX++([1,UInt8.ofNat p.kind]++(bL p.body.length 2++(bL no 4++bL p.gen 8)))
def ff(p:jL):O UInt8:=p.body++List.replicate (232-p.body.length) 0
def eN(no:Nat)(p:jL):O UInt8:=e_ no p++(bL (iY (e_ no p++ff p)) 4++ff p)
theorem nU(no:Nat)(p:jL):(e_ no p).length=20:=by simp[e_,gX,dH]
theorem wQ{p:jL}(h:nT p):(ff p).length=232:=by
 have:=h.body;simp[ff];omega
theorem s8{p:jL}(no:Nat)(h:nT p):(eN no p).length=256:=by simp[eN,nU,dH,wQ h]
def sumOf(l:O UInt8):Nat:=iY (l.take 20++l.drop 24)
def dX(l:O UInt8)(a k:Nat):Nat:=ic ((l.drop a).take k)
def fD(no:Int)(l:O UInt8):Except Int jL:=
 if l.length≠256 then .error 9
 else if l.take 4≠gX then .error 4
 else if l.getD 4 0≠1 then .error 12
 else if sumOf l≠dX l 20 4 then .error 5
 else if¬(1<=(l.getD 5 0).toNat/\(l.getD 5 0).toNat<=4)\/232<dX l 6 2\/(l.drop (24+dX l 6 2)).all (λc=>c==0)=false then .error 4
 else if¬(0<=no/\no<1600)\/(dX l 8 4:Int)≠no then .error 1
 else .ok ⟨(l.getD 5 0).toNat,dX l 12 8,(l.drop 24).take (dX l 6 2)⟩
theorem drop_left'{α:Type}{a b:O α}{n:Nat}(h:a.length=n):(a++b).drop n=b:=by subst h;exact List.drop_left
theorem mY{α:Type}{a b:O α}{n:Nat}(h:a.length=n):(a++b).take n=a:=by subst h;exact List.take_left
theorem s9{a b:O UInt8}{n k m:Nat}(c:a.length=m)(h:n<256^k):dX (a++(bL n k++b)) m k=n:=by
 unfold dX;rw[drop_left' c,mY (dH n k),q2 k n h]
theorem wR{no:Nat}{p:jL}(n:no<1600)(h:nT p):fD no (eN no p)=.ok p:=by
 have o:=h.body;have e:=h.cc;have f:=h.cn;have hg:=h.gen;have ht:=wQ h;have b:=nU no p;have hc:=y9 (e_ no p++ff p);have bW:dX (eN no p) 20 4=iY (e_ no p++ff p):=s9 b (by show _<4294967296;exact hc);have a:eN no p=(gX++ [1,UInt8.ofNat p.kind])++(bL p.body.length 2++((bL no 4++bL p.gen 8)++(bL (iY (e_ no p++ff p)) 4++ff p))):=by
  show e_ no p++_=_;rw[show e_ no p=(gX++ [1,UInt8.ofNat p.kind])++(bL p.body.length 2++(bL no 4++bL p.gen 8)) by simp[e_]];simp only[cM]
 have bz:dX (eN no p) 6 2=p.body.length:=by rw[a];exact s9 rfl (by show _<65536;omega)
 have g:eN no p=((gX++ [1,UInt8.ofNat p.kind])++bL p.body.length 2)++(bL no 4++(bL p.gen 8++(bL (iY (e_ no p++ff p)) 4++ff p))):=by rw[a];simp only[cM]
 have i:dX (eN no p) 8 4=no:=by rw[g];exact s9 (by simp[gX,dH]) (by show _<4294967296;omega)
 have j:eN no p=((gX++ [1,UInt8.ofNat p.kind])++(bL p.body.length 2++bL no 4))++(bL p.gen 8++(bL (iY (e_ no p++ff p)) 4++ff p)):=by rw[a];simp only[cM]
 have bV:dX (eN no p) 12 8=p.gen:=by rw[j];exact s9 (by simp[gX,dH]) (by show _<18446744073709551616;exact hg)
 have k:eN no p=(e_ no p++bL (iY (e_ no p++ff p)) 4)++ff p:=by simp[eN]
 have l:(e_ no p++bL (iY (e_ no p++ff p)) 4).length=24:=by simp[b,dH]
 have d24:(eN no p).drop 24=ff p:=by rw[k];exact drop_left' l
 have t4:(eN no p).take 4=gX:=by rw[a];rfl
 have m:(eN no p).getD 4 0=1:=by rw[a];rfl
 have d:((eN no p).getD 5 0).toNat=p.kind:=by rw[a];show(UInt8.ofNat p.kind).toNat=p.kind;exact qU I
 have s:sumOf (eN no p)=iY (e_ no p++ff p):=by
  unfold sumOf;rw[d24,show(eN no p).take 20=e_ no p from mY b]
 unfold fD;rw[if_neg (by rw[s8 no h];simp),if_neg (by rw[t4];simp),if_neg (by rw[m];simp),if_neg (by rw[s,bW];simp),if_neg (by
  rw[d,bz];rintro(h1|h1|h1)
  .exact h1 ⟨e,f⟩
  .omega
  .rw[List.all_eq_false]at h1
   obtain⟨c,hc,h1⟩:=h1;rw[←kN,d24]at hc;unfold ff at hc;rw[List.drop_left]at hc;exact h1 (by rw[xE hc];rfl)),if_neg (by rw[i];rintro(h1|h1)<;>omega),d,bz,bV,d24]
 have:(ff p).take p.body.length=p.body:=by unfold ff;exact List.take_left
 rw[this]
def ih(s:ad):Y:=s
abbrev gO(w:J)(s:ad):Prop:=∀k,aE s k->w.heap.size<=k
theorem gO.mono{w w':J}{s:ad}(h:gO w' s)(hx:w.heap.size<=w'.heap.size):gO w s:=λk a=>eC hx (h k a)
theorem len8{w:J}{s:ad}{l:O UInt8}(h:Src 1 w s (aD l)):s.len=l.length:=by have:=h.len;rw[dm]at this;omega
theorem mb{w:J}{T:TypeId}{s:ad}{l:O UInt8}(h:aT 1 T w s (aD l)):s.len=l.length:=by have:=h.1;rw[dm]at this;omega
theorem nV{w:J}{s:ad}{l:O UInt8}{lo hi:Nat}(h:Src 1 w s (aD l))(hc:s.len<=s.cap)(h1:lo<=hi)(h2:hi<=s.len):Src 1 w ⟨aO s.a 1 lo s.cap,hi-lo,s.cap-lo⟩ (aD ((l.drop lo).take (hi-lo))):=by
 have:=Src.sub h hc h1 h2;simpa[aD,mu,mv] using this
def eW(ps:O (ad×O UInt8)):O UInt8:=(ps.map (·.2)).flatten
theorem Co(a:O (ad×O UInt8))(p:ad×O UInt8):eW (a++ [p])=eW a++p.2:=by simp[eW]
theorem HF(ps:O (ad×O UInt8))(j:Nat):(eW (ps.take j)).length<=(eW ps).length:=by
 have h:ps=ps.take j++ps.drop j:=(fV j ps).symm;have:(eW ps).length=(eW (ps.take j)).length+(eW (ps.drop j)).length:=by
  conv=>lhs;rw[h]
  unfold eW;rw[gb,List.flatten_append,cG]
 omega
theorem Cp(ps:O (ad×O UInt8)){j:Nat}(a:j<ps.length):(ps[j]).2.length<=(eW ps).length:=by
 have h:ps=ps.take j++ps[j]::ps.drop (j+1):=by rw[←kk a,fV]
 have:(eW ps).length=(eW (ps.take j)).length+((ps[j]).2.length+(eW (ps.drop (j+1))).length):=by
  conv=>lhs;rw[h]
  unfold eW;rw[gb,List.flatten_append,cG,g2,List.flatten_cons,cG]
 omega
theorem wS{s:ad}{w:J}(ps:O (ad×O UInt8))(hs:Src 1 w s (ps.map λp=>ih p.1))(f:∀p∈ps,Src 1 w p.1 (aD p.2))(t:(eW ps).length<=100000)(u:ps.length<=100000):
 aK ai 92 #[s] w (λv w'=>∃a:ad,v=a/\aT 1 5 w' a (aD (eW ps))/\Ext w w'/\gO w a):=by
 refine okF (ae.nI s) ay.nI func92 ?_;(delta ae.nI an aM r1 ar;dsimp only);have x:s.len=ps.length:=by have:=hs.len;rw[dk]at this;omega
 refine⟨λa i w'=>∃j:Nat,i=j/\j<=ps.length/\aT 1 5 w' a (aD (eW (ps.take j)))/\Ext w w'/\gO w a,λ_ i _=>((ps.length:Int)-i).toNat,⟨0,rfl,cR _,aT.none 1 5 _,.refl _ _,λk c=>(gy k c).elim⟩,?_⟩;rintro a _ w1 ⟨j,rfl,y,b,hx,hf⟩;refine⟨λaJ=>?_,λd=>?_⟩
 .have aJ:j<ps.length:=by have:=cl aJ;omega
  obtain⟨A,aq,g,l⟩:=(hs.ext hx).at (i:=j) (v:=ih (ps[j]).1) (by simp[aJ]);have e:=(f _ (cW aJ)).ext hx;have h1:=Cp ps aJ;have h2:=HF ps j;have m:=len8 e;have o:=mb b;obtain⟨s2,aj,aw,ax,z,q,r⟩:=lG.append (cC:=48) e b (iG _) (by rw[m,o];omega);rw[bB (n:=(j:Int)+1) I I];refine⟨A,aq,g,(ps[j]).1,l,s2,aj,aw,⟨j+1,I,I,?_,Ext.df hx q hf,λk c=>?_⟩,?_⟩
  .rw[take_succ _ aJ]
   rw[Co,mU];exact ax
  .rcases r k c with h|h
   .exact hf k h
   .exact eC hx.size h
  .show((ps.length:Int)-((j:Int)+1)).toNat<((ps.length:Int)-(j:Int)).toNat
   omega
 .have d:j=ps.length:=by have:=cw d;omega
  subst d;rw[h4]at b;exact⟨a,rfl,b,hx,hf⟩
theorem HG{s:ad}{l:O UInt8}{w:J}(hs:Src 1 w s (aD l))(hc:s.len<=s.cap){a k:Nat}(b:a+k<=l.length)(c:l.length<=1000000000000):
 aK ai 215 #[s,a,k] w (λv w'=>v=.tuple #[.slice (aO s.a 1 a s.cap) k (s.cap-a),true]/\w=w'):=by
 have d:=len8 hs;refine okF (ae.lE s a k) ay.lE func215 ?_;delta ae.lE an ar;rw[bB (n:=(s.len:Int)-(a:Int)) I I,bB (n:=(a:Int)+(k:Int)) I I];refine⟨λh=>?_,λ_=>⟨⟨I,I⟩,⟨I,I⟩,?_,rfl⟩⟩
 .simp only[jy,b_]at h;omega
 .rw[show Int.toNat ((a:Int)+(k:Int))-Int.toNat (a:Int)=k from I];rfl
theorem HH{s:ad}{l:O UInt8}{w:J}(hs:Src 1 w s (aD l)){a k:Nat}(b:l.length<a+k)(c:a<=l.length)(d:l.length<=1000000000000)(f:k<=1000000000000):
 aK ai 215 #[s,a,k] w (λv w'=>v=.tuple #[(),false]/\w=w'):=by
 have g:=len8 hs;refine okF (ae.lE s a k) ay.lE func215 ?_;delta ae.lE an ar;rw[bB (n:=(s.len:Int)-(a:Int)) I I,bB (n:=(a:Int)+(k:Int)) I I];have e:(((decide ((a:Int)<0))||(decide ((k:Int)<0)))||(decide ((a:Int)>(s.len:Int)))||(decide ((k:Int)>((s.len:Int)-(a:Int)))))=true:=by
  simp only[jy,b_];omega
 exact⟨λ_=>⟨rfl,rfl⟩,λh=>(by rw[e]at h;cases h)⟩
theorem qJ{s:ad}{l:O UInt8}{w:J}(hs:Src 1 w s (aD l))(hc:s.len<=s.cap){a k:Nat}(d:a+k<=l.length)(f:l.length<=100000):
 aK ai 229 #[s,a,k] w (λv w'=>∃b:ad,v=.tuple #[b,true]/\aT 1 5 w' b (aD ((l.drop a).take k))/\Ext w w'/\gO w b):=by
 have g:=len8 hs;refine okF (ae.qJ s a k) ay.qJ func229 ?_;delta ae.qJ hL bK;refine(HG hs hc d I).use ?_;rintro _ _ ⟨rfl,rfl⟩;have c:=nV hs hc (lo:=a) (hi:=a+k) I I;rw[show a+k-a=k from I]at c;refine⟨⟨aO s.a 1 a s.cap,k,s.cap-a⟩,true,rfl,(yO c (by simp;omega)).use ?_⟩;rintro _ w1 ⟨b,rfl,e,hx,hf⟩;exact⟨b,rfl,b,rfl,e,hx,hf⟩
theorem HI{s:ad}{l:O UInt8}{w:J}(hs:Src 1 w s (aD l)){k:Nat}(d:k<=8)(e:l.length<k):
 aK ai 156 #[s,.int .i64 (0:Nat),k] w (λv w'=>v=.tuple #[.int .u64 0,false]/\w=w'):=by
 refine okF (ae.ky s (0:Nat) k) ay.ky func156 ?_;(delta ae.ky hL an b8 aM dF ar;dsimp only);refine(HH hs (a:=0) I I I I).use ?_;rintro _ _ ⟨rfl,rfl⟩;refine⟨⟨none,0,0⟩,false,rfl,cq (λb w'=>b=true/\w=w') (λq c=>⟨λ_=>c _ _ ⟨rfl,rfl⟩,λh=>by simp at h⟩) ?_⟩;rintro _ _ ⟨rfl,rfl⟩;exact⟨λ_=>⟨rfl,rfl⟩,λh=>by simp at h⟩
theorem wT{a:Nat}(b:a<4294967296):(BitVec.ofInt 32 (a:Int))=BitVec.ofNat 32 a:=by simp
theorem wU{a b:Nat}(c:a<4294967296)(d:b<4294967296):oI .u32 (a:Int) (b:Int)=((a^^^b:Nat):Int):=by
 unfold oI;show IntKind.u32.wrap (((BitVec.ofInt 32 (a:Int)^^^BitVec.ofInt 32 (b:Int)).toNat:Nat):Int)=_;rw[wT c,wT d,BitVec.toNat_xor,BitVec.toNat_ofNat,BitVec.toNat_ofNat,kl (by simpa using c),kl (by simpa using d)];have:a^^^b<4294967296:=Nat.xor_lt_two_pow (n:=32) c d;rw[ye I I]
theorem HJ{a b:Nat}(c:a<4294967296)(d:b<4294967296):jD .u32 (a:Int) (b:Int)=((a&&&b:Nat):Int):=by
 unfold jD;show IntKind.u32.wrap (((BitVec.ofInt 32 (a:Int)&&&BitVec.ofInt 32 (b:Int)).toNat:Nat):Int)=_;rw[wT c,wT d,BitVec.toNat_and,BitVec.toNat_ofNat,BitVec.toNat_ofNat,kl (by simpa using c),kl (by simpa using d)];have:a&&&b<=a:=Nat.and_le_left;rw[ye I I]
theorem HK{n:Nat}(b:n<4294967296):
 oI .u32 (Int.fdiv (n:Int) (2^(min (Int.toNat 1) 32))) (jD .u32 2197175160 (IntKind.wrap .u32 (0-(jD .u32 (n:Int) 1))))=((s7 n:Nat):Int):=by
 have c:jD .u32 (n:Int) 1=((n%2:Nat):Int):=by
  have:=HJ b (show 1<4294967296 from I);rw[Nat.and_one_is_mod]at this;exact this
 have d:Int.fdiv (n:Int) (2^(min (Int.toNat 1) 32))=((n/2:Nat):Int):=by
  rw[Int.fdiv_eq_ediv_of_nonneg _ (by decide)];rfl
 rw[c,d];unfold s7;rcases Nat.mod_two_eq_zero_or_one n with h|h
 .rw[h,if_neg I]
  have a:jD .u32 2197175160 (IntKind.wrap .u32 (0-((0:Nat):Int)))=((0:Nat):Int):=by decide+kernel
  rw[a,wU I I,Nat.xor_zero]
 .rw[h,if_pos rfl]
  have a:jD .u32 2197175160 (IntKind.wrap .u32 (0-((1:Nat):Int)))=((2197175160:Nat):Int):=by decide+kernel
  rw[a,wU I I]
theorem qL{s:ad}{l:O UInt8}{w:J}{n:Nat}(hs:Src 1 w s (aD l))(e:n<4294967296)(h:l.length<=1000000):
 aK ai 238 #[.int .u32 n,s] w (λv w'=>v=.int .u32 (lK n l:Nat)/\w=w'):=by
 have o:=len8 hs;refine okF (ae.qL n s) ay.qL func238 ?_;(delta ae.qL an aM dF ar;dsimp only);refine⟨λm i w'=>∃j:Nat,i=j/\j<=l.length/\m=((lK n (l.take j):Nat):Int)/\w=w',λ_ i _=>((l.length:Int)-i).toNat,⟨0,rfl,cR _,rfl,rfl⟩,?_⟩;rintro _ _ _ ⟨j,rfl,p,rfl,rfl⟩;refine⟨λaJ=>?_,λa=>?_⟩
 .have aJ:j<l.length:=by have:=cl aJ;omega
  obtain⟨A,aq,f,g⟩:=hs.at (pt aJ);have c:=wP (l.take j) e;have hc:=lU (l[j]);have hx:=Nat.xor_lt_two_pow (n:=32) c (show(l[j]).toNat<4294967296 from I);refine⟨A,aq,f,_,g,λm i w'=>∃k:Nat,i=k/\k<=8/\m=((wO k (lK n (l.take j)^^^(l[j]).toNat):Nat):Int)/\w=w',λ_ i _=>((8:Int)-i).toNat,⟨0,rfl,I,?_,rfl⟩,?_⟩
  .rw[ye I I,wU c I];rfl
  rintro _ _ _ ⟨k,rfl,q,rfl,rfl⟩;refine⟨λd=>?_,λb=>?_⟩
  .have d:k<8:=by have:=cl d;omega
   rw[HK (y8 hx k),bB (n:=(k:Int)+1) I I];refine⟨by decide,⟨k+1,I,I,rfl,rfl⟩,?_⟩;show((8:Int)-((k:Int)+1)).toNat<((8:Int)-(k:Int)).toNat;omega
  .have b:k=8:=by have:=cw b;omega
   subst b;rw[bB (n:=(j:Int)+1) I I];refine⟨⟨j+1,I,I,?_,rfl⟩,?_⟩
   .rw[take_succ _ aJ,Cn];rfl
   .show((l.length:Int)-((j:Int)+1)).toNat<((l.length:Int)-(j:Int)).toNat
    omega
 .have a:j=l.length:=by have:=cw a;omega
  subst a;rw[h4];exact⟨rfl,rfl⟩
theorem HL{n:Nat}(h:n<4294967296):4294967295^^^n=4294967295-n:=by
 apply Nat.eq_of_testBit_eq;intro i;have h1:(4294967295-n).testBit i=(decide (i<32)&& !n.testBit i):=by
  have:=Nat.testBit_two_pow_sub_succ (n:=32) (x:=n) (by simpa using h) i;rw[←this];congr 1;omega
 have h2:(4294967295:Nat).testBit i=decide (i<32):=by
  have:=Nat.testBit_two_pow_sub_one 32 i;exact this
 rw[Nat.testBit_xor,h1,h2];by_cases hi:i<32
 .simp[hi]
 .have:n.testBit i=false:=by
   apply Nat.testBit_lt_two_pow;exact fP h (tS (n:=2) I (show 32<=i from I))
  simp[hi,this]
theorem HM{s:ad}{w:J}(ps:O (ad×O UInt8))(hs:Src 1 w s (ps.map λp=>ih p.1))(e:∀p∈ps,Src 1 w p.1 (aD p.2))(h:(eW ps).length<=100000)(k:ps.length<=100000):
 aK ai 195 #[s] w (λv w'=>v=.int .u32 (iY (eW ps):Nat)/\w=w'):=by
 refine okF (ae.vV s) ay.vV func195 ?_;(delta ae.vV an aM r1 nD ar;dsimp only);have l:s.len=ps.length:=by have:=hs.len;rw[dk]at this;omega
 refine⟨λm i w'=>∃j:Nat,i=j/\j<=ps.length/\m=((lK 4294967295 (eW (ps.take j)):Nat):Int)/\w=w',λ_ i _=>((ps.length:Int)-i).toNat,⟨0,rfl,cR _,rfl,rfl⟩,?_⟩;rintro _ _ _ ⟨j,rfl,o,rfl,rfl⟩;refine⟨λaJ=>?_,λd=>?_⟩
 .have aJ:j<ps.length:=by have:=cl aJ;omega
  obtain⟨A,aq,f,g⟩:=hs.at (i:=j) (v:=ih (ps[j]).1) (by simp[aJ]);have c:=wP (eW (ps.take j)) (n:=4294967295) (by decide);refine⟨A,aq,f,(ps[j]).1,g,(qL (e _ (cW aJ)) c (by have:=Cp ps aJ;omega)).use ?_⟩;rintro _ _ ⟨rfl,rfl⟩;rw[bB (n:=(j:Int)+1) I I];refine⟨_,rfl,⟨j+1,I,I,?_,rfl⟩,?_⟩
  .rw[take_succ _ aJ,←Cn,Co]
  .show((ps.length:Int)-((j:Int)+1)).toNat<((ps.length:Int)-(j:Int)).toNat
   omega
 .have d:j=ps.length:=by have:=cw d;omega
  subst d;rw[h4];have c:=wP (eW ps) (n:=4294967295) (by decide);refine⟨?_,rfl⟩;have:=wU (a:=4294967295) (b:=lK 4294967295 (eW ps)) (by decide) c;rw[HL c]at this;exact congrArg _ this
theorem o1{s:ad}{l:O UInt8}{w:J}(hs:Src 1 w s (aD l))(hc:s.len<=s.cap)(e:l.length=256):
 aK ai 134 #[s] w (λv w'=>v=.int .u32 (sumOf l:Nat)/\Ext w w'):=by
 have f:=len8 hs;refine okF (ae.o1 s) ay.o1 func134 ?_;delta ae.o1 ak nD aa;have b:Ext w w.drew:=af.drew (.refl _ _);refine⟨⟨by decide,I⟩,⟨by decide,I⟩,?_⟩;have h1:=nV (hs.ext b) hc (lo:=0) (hi:=20) I I;have h2:=nV (hs.ext b) hc (lo:=24) (hi:=s.len) I I;have c:∀o,Ext w.drew (w.drew.alloc o):=λo=>af.alloc (.refl _ _) o;refine(HM [(⟨aO s.a 1 0 s.cap,20-0,s.cap-0⟩,(l.drop 0).take (20-0)),(⟨aO s.a 1 24 s.cap,s.len-24,s.cap-24⟩,(l.drop 24).take (s.len-24))] (s:=⟨some w.drew.heap.size,2,2⟩) (Src.new w.drew _ 2 rfl) ?_ ?_ ?_).use ?_
 .intro p d
  simp only[de,fG,fQ]at d;rcases d with rfl|rfl
  .exact h1.ext (c _)
  .exact h2.ext (c _)
 .simp[eW];omega
 .simp
 rintro _ w1 ⟨rfl,rfl⟩;refine⟨_,rfl,?_,b.trans (c _)⟩;have:eW [((⟨aO s.a 1 0 s.cap,20-0,s.cap-0⟩:ad),(l.drop 0).take (20-0)),(⟨aO s.a 1 24 s.cap,s.len-24,s.cap-24⟩,(l.drop 24).take (s.len-24))]=l.take 20++l.drop 24:=by
  simp only[eW,g2,List.map_nil,List.flatten_cons,List.flatten_nil,fl,iN];rw[dr (l:=l.drop 24) (by rw[dw];omega)]
 rw[this];rfl
theorem aT.HN{T:TypeId}{w:J}{s:ad}{vs us:O Y}{b o:Nat}(h:aT 1 T w s vs)(d:s.a=some ⟨b,0,none⟩)(n:o+us.length<=s.len):
 aT 1 T (setCells w ⟨b,o,none⟩ 0 us) s (vs.take o++us++vs.drop (o+us.length)):=by
 obtain⟨h1,h2,g,i⟩:=h;rcases i with ⟨j,_⟩|⟨p,c,e,k,f,ht⟩
 .rw[j]at d;cases d
 .rw[d]at e
  cases e;have q:c.toList.length=s.cap:=by simpa using f
  have m:o+us.length<=c.size:=by omega
  rw[fE]at h1 f;refine⟨by simp;omega,h2,g,.inr ⟨b,_,d,bu.lB k us,by rw[iE];omega,?_⟩⟩;rw[fE]at ht⊢;rw[lA _ _ _ m,←ht,ov,iz I,cM,cM,tW,tW,cz,iz I,
   dr (l:=c.toList.take o) (by rw[cz];omega),dr (l:=us) I,List.drop_take,show s.len-o-us.length=s.len-(o+us.length) from I]
theorem HO(w:J)(l:O UInt8):
 ∃w',Sem.run ai (convert 48 48 (.slice (some w.heap.size) l.length l.length)) (w.alloc (.cells (aD l).toArray 5))=.ok (.slice (some w.heap.size) l.length l.length) w'/\
  Src 1 w' ⟨some w.heap.size,l.length,l.length⟩ (aD l)/\Ext w w'/\w'.heap.size=w.heap.size+1:=by
 refine⟨_,Go.Lib.run_convert_bytes_const (P:=ai) w 48 5 (aD l).toArray l.length l.length (by kernel_rfl) (by kernel_rfl),⟨by rw[dm,fE],(λh=>by cases h),λa b=>?_⟩,af.alloc (.refl _ _) _,by simp⟩
 cases b;have:=yI (w:=w.alloc (.cells (aD l).toArray 5 ((aD l).toArray.size,(aD l).toArray.size+1))) (A:=w.heap.size) (aD l) 0 (λj v c=>by
  rw[az];show(World.cell? _ _)=_;have:(w.alloc (.cells (aD l).toArray 5 ((aD l).toArray.size,(aD l).toArray.size+1))).heap[w.heap.size]? =some (.cells (aD l).toArray 5 ((aD l).toArray.size,(aD l).toArray.size+1)):=by
   show(w.heap.push _)[w.heap.size]? =_;simp
  simp only[World.cell?,this];simpa using c)
 rw[dm]at this;rw[fE];exact this
theorem y_(n:Nat):hK ai 5 n=(aD (List.replicate n 0)).toArray:=by
 rw[Bs (v:=.int .u8 0) (by kernel_rfl) (by kernel_rfl)];simp[aD]
theorem HP{A Z T C:O UInt8}{n m:Nat}(aq:A.length=n)(a:Z.length=m):(aD (A++(Z++T))).take n++aD C++(aD (A++(Z++T))).drop (n+m)=aD (A++(C++T)):=by
 have b:(aD (A++(Z++T))).take n=aD A:=by rw[mU];exact mY (by rw[dm,aq])
 have c:(aD (A++(Z++T))).drop (n+m)=aD T:=by rw[←cM,mU];exact drop_left' (by rw[dm,cG,aq,a])
 rw[b,c,mU,mU,cM]
theorem cE(w:J):Ext w w.drew:=af.drew (.refl _ _)
theorem c8(w:J)(o:Obj):Ext w (w.alloc o):=af.alloc (.refl _ _) o
theorem pA(w:J)(o:Obj):(w.alloc o).heap.size=w.heap.size+1:=by simp
theorem wV{s:ad}{p:jL}{no:Nat}{w:J}(hs:Src 1 w s (aD p.body))(a0:no<1600)(i:nT p):
 aK ai 73 #[no,.agg #[p.kind,.int .u64 p.gen,s]] w (λv w'=>∃D:ad,v=.tuple #[D,(0:Int)]/\aT 1 5 w' D (aD (eN no p))/\Ext w w'/\gO w D):=by
 have a1:=i.cc;have a2:=i.cn;have a3:=i.gen;have a4:=i.body;have M:=len8 hs;refine okF (ae.vp no p.kind p.gen s) ay.vp func73 ?_;(delta ae.vp b8 an aF aa r1 bK b5 kV yy ar yz nD;dsimp only);refine bc (vs:=[p.kind,.int .u64 p.gen,s]) rfl λw1 u E a5=>?_;have bf:∀ {w':J},Ext w1 w'->w'.cell? (Addr.add w.heap.size 2)=some (.slice s.a s.len s.cap):=λhx=>by rw[az];exact(u.ext hx).cell
 have aZ:∀ {w':J},Ext w1 w'->w'.cell? (Addr.add w.heap.size 1)=some (.int .u64 p.gen):=λhx=>by rw[az];exact(u.ext hx).cell
 refine Calls.mono (ae.BU no w1 (λv w'=>v=true/\w1=w') ⟨by simp;omega,rfl⟩) ?_;rintro _ _ ⟨_,rfl,rfl,rfl⟩;refine⟨_,rfl,cq (λb w'=>b=false/\w1=w') (λq j=>⟨λh1=>by simp at h1,λh1=>⟨p.kind,u.cell,?_⟩⟩) ?_⟩
 .refine Calls.mono (ae.BV p.kind w1 (λv w'=>v=true/\w1=w') ⟨by simp;omega,rfl⟩) ?_
  rintro _ _ ⟨_,rfl,rfl,rfl⟩;exact⟨_,rfl,j _ _ ⟨rfl,rfl⟩⟩
 rintro b _ ⟨rfl,rfl⟩;refine⟨λh=>(by cases h),λ_=>⟨s,bf (.refl _ _),λh=>(by have:=cl h;omega),λ_=>aX ?_⟩⟩
 obtain⟨aj,ac,ag,N,a6⟩:=HO w1 gX;refine⟨⟨some w1.heap.size,4,4⟩,aj,ac,p.kind,(u.ext N).cell,?_⟩;have ah:IntKind.wrap .u8 (p.kind:Int)=(((UInt8.ofNat p.kind).toNat:Nat):Int):=by rw[qU I,uG I I]
 rw[ah];have y:=Src.new (T:=5) (sz:=1) aj (aD [1,UInt8.ofNat p.kind]) 2 rfl;have F:=c8 aj (.cells (aD [1,UInt8.ofNat p.kind]).toArray 5);obtain⟨f,al⟩:∃f,f=aj.alloc (.cells (aD [1,UInt8.ofNat p.kind]).toArray 5):=⟨_,rfl⟩;show ak (aj.alloc (.cells (aD [1,UInt8.ofNat p.kind]).toArray 5)) _;rw[←al]at y F⊢;refine aX ?_;have G:=Src.new (T:=48) (sz:=1) f [.slice (some w1.heap.size) 4 4,.slice (some aj.heap.size) 2 2] 2 rfl;have z:=c8 f (.cells #[.slice (some w1.heap.size) 4 4,.slice (some aj.heap.size) 2 2] 48);obtain⟨A,O⟩:∃A,A=f.alloc (.cells #[.slice (some w1.heap.size) 4 4,.slice (some aj.heap.size) 2 2] 48):=⟨_,rfl⟩;have G:Src 1 A ⟨some f.heap.size,2,2⟩ [.slice (some w1.heap.size) 4 4,.slice (some aj.heap.size) 2 2]:=by rw[O];exact G
 rw[←O]at z⊢;have am:Ext w1 A:=N.trans (F.trans z);refine aX ((wS (s:=⟨some f.heap.size,2,2⟩) [((⟨some w1.heap.size,4,4⟩:ad),gX),(⟨some aj.heap.size,2,2⟩,[1,UInt8.ofNat p.kind])] G ?_ (by simp[eW,gX]) (by simp)).use ?_)
 .intro q j
  simp only[de,fG,fQ]at j;rcases j with rfl|rfl
  .exact ag.ext (F.trans z)
  .exact y.ext z
 rintro _ a7 ⟨ao,rfl,P,ap,a8⟩;have Q:=am.trans ap;have aq:eW [((⟨some w1.heap.size,4,4⟩:ad),gX),(⟨some aj.heap.size,2,2⟩,[1,UInt8.ofNat p.kind])]=gX++ [1,UInt8.ofNat p.kind]:=by simp[eW]
 rw[aq]at P;refine⟨ao,rfl,s,bf Q,?_⟩;rw[gq (n:=(s.len:Int)) I I,gq (n:=(no:Int)) I I];refine(gV P.src (n:=s.len) (k:=2) (by simp[gX]) (by show _<18446744073709551616;omega) ⟨by decide,by decide⟩).use ?_;rintro _ a9 ⟨au,rfl,av,aw,a_⟩;have ax:=Q.trans aw;refine⟨au,rfl,(gV av.src (n:=no) (k:=4) (by simp[gX,dH]) (by show _<18446744073709551616;omega) ⟨by decide,by decide⟩).use ?_⟩;rintro _ ba ⟨aA,rfl,aB,aC,bb⟩;have R:=ax.trans aC;refine⟨aA,rfl,_,aZ R,(gV aB.src (n:=p.gen) (k:=8) (by simp[gX,dH]) (by show _<18446744073709551616;omega) ⟨by decide,by decide⟩).use ?_⟩;rintro _ d ⟨cO,rfl,S,aE,bd⟩;have B:=R.trans aE;have aG:gX++ [1,UInt8.ofNat p.kind]++bL s.len 2++bL no 4++bL p.gen 8=e_ no p:=by rw[M];simp[e_]
 rw[aG]at S;refine⟨cO,rfl,cq (λt w'=>aT 1 5 w' t (aD (e_ no p++(List.replicate 4 0++ff p)))/\Ext w1 w'/\gO w t) (λq j=>?_) ?_⟩
 .have m:=cE d
  have U:=B.trans m;have aH:IntKind.wrap .i64 (232-(s.len:Int))=((232-s.len:Nat):Int):=by rw[bB I I];omega
  refine aX ⟨λ_=>False,id,s,bf U,id,s,bf U,?_⟩;rw[aH];simp only[di,show Int.toNat 4=4 from rfl];rw[y_,y_];have fin:∀ (H eK:J) (kt fc:ad),Ext d eK->Src 1 eK kt (aD (List.replicate 4 0))->Src 1 eK fc (aD (List.replicate (232-s.len) 0))->
   Calls ai 92 #[.slice (some eK.heap.size) 4 4] (eK.alloc (.cells #[cO,kt,s,fc] 48)) λaI aJ=>∃V:ad,aI=.returned V/\q V aJ:=by
   intro H eK kt fc C h1 h2;have r:=c8 eK (.cells #[cO,kt,s,fc] 48);refine(wS (s:=⟨some eK.heap.size,4,4⟩) [(cO,e_ no p),(kt,List.replicate 4 0),(s,p.body),(fc,List.replicate (232-s.len) 0)] (Src.new eK _ 4 rfl) ?_ (by simp[eW,nU];omega) (by simp)).use ?_
   .intro x hx
    simp only[de,fG,fQ]at hx;rcases hx with rfl|rfl|rfl|rfl
    .exact S.src.ext (C.trans r)
    .exact h1.ext r
    .exact hs.ext ((E.trans (B.trans C)).trans r)
    .exact h2.ext r
   .rintro _ W ⟨aL,rfl,aM,hx,hf⟩
    refine⟨aL,rfl,j _ _ ⟨?_,(B.trans C).trans (r.trans hx),hf.mono (E.trans ((B.trans C).trans r)).size⟩⟩;have e:eW [(cO,e_ no p),(kt,List.replicate 4 0),(s,p.body),(fc,List.replicate (232-s.len) 0)]=e_ no p++(List.replicate 4 0++ff p):=by simp[eW,ff,M]
    rwa[e]at aM
  refine⟨⟨⟨by decide,by decide,by decide,by decide⟩,aX ⟨c8 _ _,⟨I,Int.le_refl _,I,I⟩,aX ⟨c8 _ _,aX ?_⟩⟩⟩,⟨⟨I,Int.le_refl _,I,I⟩,aX ⟨c8 _ _,⟨by decide,by decide,by decide,by decide⟩,aX ⟨c8 _ _,aX ?_⟩⟩⟩⟩
  .refine fin d _ ⟨some d.drew.heap.size,4,4⟩ ⟨some ⟨(d.drew.alloc _).heap.size,0,none⟩,232-s.len,232-s.len⟩ (m.trans ((c8 _ _).trans (c8 _ _))) (Src.ext (Src.new _ _ _ (by simp[aD])) (c8 _ _)) (Src.new _ _ _ (by simp[aD]))
  .refine fin d _ ⟨some ⟨(d.drew.alloc _).heap.size,0,none⟩,4,4⟩ ⟨some d.drew.heap.size,232-s.len,232-s.len⟩ (m.trans ((c8 _ _).trans (c8 _ _))) (Src.new _ _ _ (by simp[aD])) (Src.ext (Src.new _ _ _ (by simp[aD])) (c8 _ _))
 rintro t H ⟨g,aN,X⟩;have be:t.len=256:=by
  have:=mb g;rw[this];simp[nU,wQ i]
 have m:=cE H;refine aX ⟨λ_=>False,⟨by decide,I⟩,(o1 (g.src.ext m) g.2.1 (by simp[nU,wQ i])).use ?_⟩;rintro _ W ⟨rfl,aP⟩;have es:sumOf (e_ no p++(List.replicate 4 0++ff p))=iY (e_ no p++ff p):=by
  unfold sumOf;rw[mY (nU no p),←cM,drop_left' (by simp[nU])]
 rw[es];have bg:=y9 (e_ no p++ff p);refine⟨_,rfl,λ_=>False,?_⟩;rw[gq I I];refine(gV (s:=⟨none,0,0⟩) (l:=[]) (n:=iY (e_ no p++ff p)) (k:=4) (aT.none 1 5 W).src (by simp) (by show _<18446744073709551616;omega) ⟨by decide,by decide⟩).use ?_;rintro _ aQ ⟨aR,rfl,K,aS,bh⟩;rw[hG]at K;have Y:=m.trans (aP.trans aS);have Z:=g.ext Y;have ab:=mb K;rw[dH]at ab;obtain⟨b,c,L,aU,bi,_⟩:∃b c,t.a=some ⟨b,0,none⟩/\bu aQ b c 5/\c.size=t.cap*1/\c.toList.take (t.len*1)=aD (e_ no p++(List.replicate 4 0++ff p)):=by
  rcases Z.2.2.2 with ⟨_,hc⟩|⟨b,c,h1,h2,aV,aW⟩
  .have:=g.2.1;omega
  .exact⟨b,c,h1,h2,aV,aW⟩
 have aY:aO t.a 1 (Int.toNat 20) t.cap=some ⟨b,20,none⟩:=by
  rw[L,show Int.toNat 20=20 from rfl,mJ (by have:=g.2.1;omega)]
 have bj:=g.2.1;refine⟨aR,rfl,_,_,by rw[aY];exact B0 (by kernel_rfl) K.src (by rw[ab];show 4<=t.len-20;omega) (aU.b3 _ _ (by rw[dm,dH];omega) (iG _)),t,rfl,?_,?_,X⟩
 .have:=aT.HN Z L (o:=20) (us:=aD (bL (iY (e_ no p++ff p)) 4)) (by rw[dm,dH];omega)
  have e:(aD (e_ no p++(List.replicate 4 0++ff p))).take 20++aD (bL (iY (e_ no p++ff p)) 4)++(aD (e_ no p++(List.replicate 4 0++ff p))).drop (20+(aD (bL (iY (e_ no p++ff p)) 4)).length)=aD (eN no p):=by
   rw[dm,dH];exact HP (nU no p) (by simp)
  rwa[e]at this
 .refine Ext.df (E.trans (aN.trans Y)) (af.j6 (.refl _ _) _ 0) λk y=>?_
  subst y;exact X _ ⟨_,L,rfl⟩
theorem mQ{s:ad}{l:O UInt8}{w:J}(hs:Src 1 w s (aD l))(hc:s.len<=s.cap){a k:Nat}{e:Int}(he:e=((a+k:Nat):Int))(b:1<=k/\k<=8)(c:a+k<=l.length)(d:l.length<=1000):
 aK ai 227 #[s,a,e] w (λv w'=>v=.int .u64 (dX l a k:Nat)/\w=w'):=by
 subst he;refine okF (ae.mQ s a ((a+k:Nat):Int)) ay.mQ func227 ?_;delta ae.mQ nF ar;rw[bB I I,show(((a+k:Nat):Int)-(a:Int))=(k:Int) from I];refine(ky hs hc b c I).use ?_;rintro _ _ ⟨rfl,rfl⟩;exact⟨_,_,rfl,rfl,rfl⟩
theorem qI{s:ad}{l:O UInt8}{w:J}(hs:Src 1 w s (aD l))(o:l.length<=1000):
 aK ai 228 #[s] w (λv w'=>v=.bool (l.all λc=>c==0)/\w=w'):=by
 have p:=len8 hs;refine okF (ae.qI s) ay.qI func228 ?_;(delta ae.qI an aM dF ar;dsimp only);refine⟨λi w'=>∃j:Nat,i=j/\j<=l.length/\w=w'/\∀ (k:Nat) (a:k<l.length),k<j->l[k]=0,λi _=>((l.length:Int)-i).toNat,⟨0,rfl,cR _,rfl,λk a h=>I⟩,?_⟩;rintro _ _ ⟨j,rfl,q,rfl,d⟩;refine⟨λaJ=>?_,λb=>?_⟩
 .have aJ:j<l.length:=by have:=cl aJ;omega
  obtain⟨A,aq,f,g⟩:=hs.at (pt aJ);refine⟨A,aq,f,_,g,λe=>?_,λm=>?_⟩
  .refine⟨?_,rfl⟩
   have:(l.all λc=>c==0)=false:=by
    rw[List.all_eq_false];refine⟨l[j],cW _,λh=>?_⟩;have h:=eq_of_beq h;rw[h]at e;simp at e
   rw[this]
  .have h0:l[j]=0:=by
    have:((l[j]).toNat:Int)=0:=by simpa using m
    exact rN.1 (by show(l[j]).toNat=0;omega)
   rw[bB (n:=(j:Int)+1) I I];refine⟨⟨j+1,I,I,rfl,λk a h=>?_⟩,?_⟩
   .rcases eu k j with h1|h1
    .exact d k a h1
    .have:k=j:=by omega
     subst this;exact h0
   .show((l.length:Int)-((j:Int)+1)).toNat<((l.length:Int)-(j:Int)).toNat
    omega
 .have b:j=l.length:=by have:=cw b;omega
  subst b;refine⟨?_,rfl⟩;have:(l.all λc=>c==0)=true:=by
   rw[pX];intro c hc;obtain⟨k,a,rfl⟩:=fF hc;rw[d k a a];rfl
  rw[this]
def Cq(kind gen:Int)(s:ad):Y:=.agg #[kind,.int .u64 gen,s]
def wW(r:Except Int jL)(w w':J)(v:Y):Prop:=
 match r with
 | .ok p=>∃s:ad,v=.tuple #[Cq p.kind p.gen s,(0:Int)]/\aT 1 5 w' s (aD p.body)/\gO w s
 | .error e=>v=.tuple #[Cq 0 0 ⟨none,0,0⟩,e]
theorem Cr{w':J}{h:Nat}{vs:O Y}(n g:Int)(s:ad)(b:Var w' h vs 150)(e:vs.length=3){K:Int->Int->ad->J->Prop}(i:∀aj,af (λq=>q=h) w' aj->K n g s aj):
 bk w' h [n,.int .u64 g,s]/\(3:Nat)=3/\ak (setCells w' h 0 [n,.int .u64 g,s]) λaj=>
  ∃f:Int,aj.cell? h=some (.int .i64 f)/\∃bV:Int,aj.cell? (Addr.add h 1)=some (.int .u64 bV)/\∃c:ad,aj.cell? (Addr.add h 2)=some (.slice c.a c.len c.cap)/\K f bV c aj:=by
 refine⟨b.b3 (by rw[e];rfl) ?_,rfl,cp b (us:=[n,.int .u64 g,s]) (by rw[e];rfl) rfl λaj d hc _=>?_⟩
 .intro v b
  simp only[de,fG,fQ]at b;rcases b with rfl|rfl|rfl<;>trivial
 .exact⟨n,d.cell,g,by rw[az];exact d.cell,s,by rw[az];exact d.cell,i aj hc⟩
theorem qG{s:ad}{l:O UInt8}{w:J}(hs:Src 1 w s (aD l))(hc:s.len<=s.cap)(t:l.length<=1000)(no:Int):
 aK ai 172 #[no,s] w (λv w'=>wW (fD no l) w w' v/\Ext w w'):=by
 have au:=len8 hs;refine okF (ae.qG no s) ay.qG func172 ?_;(delta ae.qG z9 an aa aF b5 r1 yB aM dF nD ss b8 ar hL;dsimp only);refine bc (vs:=[(0:Int),.int .u64 0,()]) rfl λw1 z u _=>?_
 have out:∀ (w':J) (e:Int),Ext w1 w'->fD no l=.error e->
  bk w' w.heap.size [(0:Int),.int .u64 0,()]/\(3:Nat)=3/\ak (setCells w' w.heap.size 0 [(0:Int),.int .u64 0,()]) λaj=>
  ∃g:Int,aj.cell? w.heap.size=some (.int .i64 g)/\∃bV:Int,aj.cell? (Addr.add w.heap.size 1)=some (.int .u64 bV)/\∃d:ad,aj.cell? (Addr.add w.heap.size 2)=some (.slice d.a d.len d.cap)/\
   (λv w'=>wW (fD no l) w w' v/\Ext w w') (.tuple #[.agg #[g,.int .u64 bV,d],e]) aj:=by
  intro w' e hx he;refine Cr 0 0 ⟨none,0,0⟩ (z.ext hx) rfl (K:=λg bV d aj=>(λv w'=>wW (fD no l) w w' v/\Ext w w') (.tuple #[.agg #[g,.int .u64 bV,d],e]) aj) λaj x=>⟨?_,Ext.cD (u.trans hx) x (bt _)⟩;rw[he];rfl
 refine⟨λh=>out _ _ (.refl _ _) ?_,λh=>?_⟩
 .have h:(s.len:Int)≠256:=by simpa using h
  unfold fD;rw[if_pos I]
 have h:(s.len:Int)=256:=by simpa using h
 have M:l.length=256:=by omega
 have m:=hs.ext u;have N:=nV m hc (lo:=0) (hi:=4) I I;have P:Src 1 w1 ⟨aO s.a 1 0 s.cap,4-0,s.cap-0⟩ (((l.take 4).map λb=>(b.toNat:Int)).map (.int .u8)):=by
  rw[oh];exact N
 have D:=BY (src:=48) (dst:=9) (by kernel_rfl) (by kernel_rfl) P;have Q:(((l.take 4).map λb=>(b.toNat:Int)).map λn=>UInt8.ofNat n.toNat)=l.take 4:=by
  rw[oh];have:((λn:Int=>UInt8.ofNat n.toNat)∘ λb:UInt8=>(b.toNat:Int))=id:=by funext b;simp
  rw[this,List.map_id]
 rw[Q]at D;refine⟨⟨by decide,I⟩,S (l.take 4),w1,D,?_⟩;have R:(ByteArray.toList (S (l.take 4))==ByteArray.toList (ByteArray.mk #[83,84,78,67]))=decide (l.take 4=gX):=by
  rw[show(ByteArray.mk #[83,84,78,67])=S gX from rfl,Bz];rw[eQ];simp
 rw[R];refine⟨λh=>out _ _ (.refl _ _) ?_,λh=>?_⟩
 .have h:l.take 4≠gX:=by simpa using h
  unfold fD;rw[if_neg I,if_pos h]
 have o:l.take 4=gX:=by simpa using h
 obtain⟨T,U,av,V⟩:=m.at (pt (l:=l) (i:=4) I);have aw:s.len=256:=by omega
 refine⟨T,U,⟨by decide,I⟩,_,V,λh=>out _ _ (.refl _ _) ?_,λh=>?_⟩
 .have h:(((l[4]'I).toNat:Nat):Int)≠1:=by simpa using h
  unfold fD;rw[if_neg I,if_neg (by simp[o]),if_pos (by
   intro e;apply h;rw[gd,dU I]at e;have e:(l[4]'I)=1:=e;rw[e];rfl)]
 have y:l.getD 4 0=1:=by
  have h:(((l[4]'I).toNat:Nat):Int)=1:=by simpa using h
  rw[gd,dU I];exact rN.1 (by show(l[4]'I).toNat=1;omega)
 refine(o1 m hc M).use ?_;rintro _ aj ⟨rfl,f⟩;have j:=m.ext f;refine⟨_,rfl,(mQ j hc (a:=20) (k:=4) (e:=24) rfl (by decide) I t).use ?_⟩;rintro _ _ ⟨rfl,rfl⟩;have ax:sumOf l<4294967296:=y9 _;rw[gq (n:=((sumOf l:Nat):Int)) I I];refine⟨_,rfl,λh=>out _ _ f ?_,λh=>?_⟩
 .have h:((sumOf l:Nat):Int)≠((dX l 20 4:Nat):Int):=by simpa using h
  unfold fD;rw[if_neg I,if_neg (by simp[o]),if_neg (λh=>h y),if_pos I]
 have az:sumOf l=dX l 20 4:=by
  have h:((sumOf l:Nat):Int)=((dX l 20 4:Nat):Int):=by simpa using h
  omega
 refine(mQ j hc (a:=6) (k:=2) (e:=8) rfl (by decide) I t).use ?_;rintro _ _ ⟨rfl,rfl⟩;have aA:dX l 6 2<65536:=s0 2 _ (by simp;omega);obtain⟨W,X,aB,Y⟩:=j.at (pt (l:=l) (i:=5) I);have A:l.getD 5 0=l[5]'I:=by rw[gd,dU I];rfl
 have aC:=lU (l[5]'I);refine⟨_,rfl,W,X,⟨by decide,I⟩,_,Y,?_⟩;rw[bB (n:=(((l[5]'I).toNat:Nat):Int)) I I,bB (n:=((dX l 6 2:Nat):Int)) I I];refine Calls.mono (ae.BV (((l[5]'I).toNat:Nat):Int) aj (λv w'=>v=.bool (decide (1<=(l[5]'I).toNat/\(l[5]'I).toNat<=4))/\aj=w') ⟨?_,rfl⟩) ?_
 .have e:(decide ((((l[5]'I).toNat:Nat):Int)>=1)&&decide ((((l[5]'I).toNat:Nat):Int)<=4))=decide (1<=(l[5]'I).toNat/\(l[5]'I).toNat<=4):=by
   rw[eQ];simp only[dh,b_];omega
  rw[e]
 rintro _ _ ⟨_,rfl,rfl,rfl⟩;have aE:24+dX l 6 2<=256->True:=λ_=>trivial;refine⟨_,rfl,cq (λb w'=>b=decide (¬(1<=(l[5]'I).toNat/\(l[5]'I).toNat<=4)\/232<dX l 6 2\/(l.drop (24+dX l 6 2)).all (λc=>c==0)=false)/\aj=w') (λq p=>⟨λh1=>p _ _ ⟨?_,rfl⟩,λh1=>?_⟩) ?_⟩
 .refine(dD ?_).symm
  simp only[jy,jh,jX,b_]at h1;rcases h1 with h1|h1
  .exact .inl h1
  .exact .inr (.inl I)
 .simp only[rL,mz,jX,b_]at h1
  have Z:dX l 6 2<=232:=by omega
  rw[bB (n:=24+((dX l 6 2:Nat):Int)) I I];refine⟨⟨I,I⟩,?_⟩;have ab:Int.toNat (24+((dX l 6 2:Nat):Int))=24+dX l 6 2:=by omega
  rw[ab];have E:=nV j hc (lo:=24+dX l 6 2) (hi:=s.len) I I;rw[dr (l:=l.drop (24+dX l 6 2)) (by rw[dw];omega)]at E;refine(qI E (by rw[dw];omega)).use ?_;rintro _ _ ⟨rfl,rfl⟩;refine⟨_,rfl,p _ _ ⟨?_,rfl⟩⟩
  cases aG:(l.drop (24+dX l 6 2)).all (λc=>c==0) with
  |true=>exact(g_ (by rintro(h2|h2|h2)<;>first|exact h2 h1.1|omega|cases h2)).symm
  |false=>exact(dD (.inr (.inr rfl))).symm
 rintro b _ ⟨rfl,rfl⟩;refine⟨λh=>out _ _ f ?_,λh=>?_⟩
 .have h:=cl h
  unfold fD;rw[if_neg I,if_neg (by simp[o]),if_neg (λh=>h y),if_neg I,if_pos (by rw[A];exact h)]
 have r:=cw h;have F:¬(¬(1<=(l.getD 5 0).toNat/\(l.getD 5 0).toNat<=4)\/232<dX l 6 2\/(l.drop (24+dX l 6 2)).all (λc=>c==0)=false):=by rw[A];exact r
 have Z:dX l 6 2<=232:=by
  rcases eu 232 (dX l 6 2) with h1|h1
  .exact absurd (.inr (.inl h1)) r
  .exact h1
 have aH:1<=(l[5]'I).toNat/\(l[5]'I).toNat<=4:=Decidable.byContradiction λh=>r (.inl h);refine Calls.mono (ae.BU no aj (λv w'=>v=.bool (decide (0<=no/\no<1600))/\aj=w') ⟨by simp[ge_iff_le],rfl⟩) ?_;rintro _ _ ⟨_,rfl,rfl,rfl⟩;have aI:dX l 8 4<4294967296:=s0 4 _ (by simp;omega);refine⟨_,rfl,cq (λb w'=>b=decide (¬(0<=no/\no<1600)\/(dX l 8 4:Int)≠no)/\aj=w') (λq p=>⟨λh1=>p _ _ ⟨?_,rfl⟩,λh1=>?_⟩) ?_⟩
 .refine(dD ?_).symm
  simp only[jh,jX]at h1;exact .inl h1
 .simp only[mz,b_]at h1
  refine(mQ j hc (a:=8) (k:=4) (e:=12) rfl (by decide) I t).use ?_;rintro _ _ ⟨rfl,rfl⟩;refine⟨_,rfl,p _ _ ⟨?_,rfl⟩⟩;rw[gq (n:=no) I I,eQ,b_,bne_iff_ne];exact⟨λh=>.inr h,λh=>h.resolve_left (λh2=>h2 h1)⟩
 rintro b _ ⟨rfl,rfl⟩;refine⟨λh=>out _ _ f ?_,λh=>?_⟩
 .have h:=cl h
  unfold fD;rw[if_neg I,if_neg (by simp[o]),if_neg (λh=>h y),if_neg I,if_neg F,if_pos h]
 have ac:=cw h;have af:fD no l=.ok ⟨(l.getD 5 0).toNat,dX l 12 8,(l.drop 24).take (dX l 6 2)⟩:=by
  unfold fD;rw[if_neg I,if_neg (by simp[o]),if_neg (λh=>h y),if_neg I,if_neg F,if_neg ac]
 refine(qJ j hc (a:=24) (k:=dX l 6 2) I I).use ?_;rintro _ ag ⟨B,rfl,al,am,G⟩;have H:=cE ag;have C:=f.trans (am.trans H);have L:=m.ext C;obtain⟨ao,ap,aJ,aq⟩:=L.at (pt (l:=l) (i:=5) I);refine⟨B,true,rfl,aX ⟨λ_=>False,ao,ap,⟨by decide,I⟩,id,_,aq,(mQ L hc (a:=12) (k:=8) (e:=20) rfl (by decide) I t).use ?_⟩⟩;rintro _ _ ⟨rfl,rfl⟩;rw[bB (n:=(((l[5]'I).toNat:Nat):Int)) I I];refine⟨_,rfl,.refl _ _,Cr _ _ B (z.ext C) rfl (K:=λg bV d aj=>(λv w'=>wW (fD no l) w w' v/\Ext w w') (.tuple #[.agg #[g,.int .u64 bV,d],(0:Int)]) aj) λaL x=>⟨?_,Ext.cD (u.trans C) x (bt _)⟩⟩;rw[af];refine⟨B,by rw[A];rfl,(al.ext H).ah x λk r e=>?_,G.mono (u.trans f).size⟩;have:=G k r;have:=z.lt;have:=f.size;subst e;omega
theorem Cs{P:Program}{w:J}:∀ (l:O UInt8) (a:ag) (acc:ByteArray),(∀j x,l[j]? =some x->w.cell? (a.add j)=some (.int .u8 (x.toNat:Int)))->
 (Extern.Bytes.loadBytes a l.length acc).run P w=.ok ⟨acc.data++l.toArray⟩ w
 | [],a,acc,_=>by simp[Extern.Bytes.loadBytes]
 |x::l,a,acc,h=>by
  have h0:=h 0 x rfl
  rw[add_zero']at h0
  have b:=Cs (P:=P) l (a.add 1) (acc.push x) (λj y c=>by
   rw[add_add,Nat.add_comm]
   exact h (j+1) y (by simpa using c))
  have hx:(x.toNat:Int).toNat.toUInt8=x:=GK x
  simp only[gx,Extern.Bytes.loadBytes,Sem.run_bind,xL h0,Result.andThen,hx]
  rw[b]
  congr 2
  simp[ByteArray.push]
theorem Ct{P:Program}{w:J}{s:ad}{l:O UInt8}(h:Src 1 w s (aD l)):(Extern.Bytes.bytesOf s).run P w=.ok (S l) w:=by
 cases hs:s.a with
 |none=>
  have h0:l=[]:=by
   have:=h.nil hs
   cases l with
   |nil=>rfl
   |cons a l=>simp[aD]at this
  subst h0;rfl
 |some A=>
  have b:=h.rd A hs;rw[fE]at b;have:=Cs (P:=P) (w:=w) l A .empty (λj x c=>by
   have:=mI b (j:=j) (v:=.int .u8 (x.toNat:Int)) (by simp[aD,c]);simpa using this)
  show(Extern.Bytes.loadBytes A s.len .empty).run P w=_;rw[len8 h,this]
  congr 1
  show(ByteArray.mk (ByteArray.empty.data++l.toArray))=ByteArray.mk l.toArray
  congr 1
  exact Array.empty_append ..
theorem Cu:∀a b:Key,Lib.compareBytes a b=eA a b
 | [],[]=>rfl
 | [],_::_=>rfl
 |_::_,[]=>rfl
 |a::x,b::y=>by
  simp only[Lib.compareBytes,eA,UInt8.lt_iff_toNat_lt,Cu x y]
theorem l4{s t:ad}{l m:Key}{w:J}(hs:Src 1 w s (aD l))(ht:Src 1 w t (aD m)):
 aK ai 176 #[s,t] w (λv w'=>v=.int .i64 (eA l m)/\w=w'):=by
 refine okF (ae.l4 s t) ay.l4 func176 ?_;unfold ae.l4;refine⟨eA l m,w,?_,rfl,rfl⟩;rw[run_callFunc_extern func230 rfl rfl rfl rfl];have:(Extern.BytealgCompare.compare #[s,t]).run ai w=.ok (.int .i64 (eA l m)) w:=by
  change Sem.run ai (do pure (goInt (Extern.BytealgCompare.cmp (←Extern.Bytes.bytesOf s) (←Extern.Bytes.bytesOf t)))) w=_
  simp only[Sem.run_bind,Ct hs,Ct ht,Result.andThen,Sem.run_pure];rw[Lib.cmp_eq];show Result.ok (goInt (Lib.compareBytes l m)) w=_;rw[Cu];rfl
 rw[this];rfl
theorem wX{s:ad}{l:O UInt8}{w:J}(h:Src 1 w s (aD l)):Sem.run ai (convert 48 9 s) w=.ok (.string (S l)) w:=by
 have a:Src 1 w s ((l.map λb=>(b.toNat:Int)).map (.int .u8)):=by rw[oh];exact h
 have:=BY (src:=48) (dst:=9) (by kernel_rfl) (by kernel_rfl) a;rw[oh]at this;have e:((λn:Int=>UInt8.ofNat n.toNat)∘ λb:UInt8=>(b.toNat:Int))=id:=by funext b;simp
 rw[e,List.map_id]at this;exact this
theorem oW{s t:ad}{l m:Key}{w:J}(hs:Src 1 w s (aD l))(ht:Src 1 w t (aD m)):
 aK ai 158 #[s,t] w (λv w'=>v=.bool (decide (l=m))/\w=w'):=by
 refine okF (ae.oW s t) ay.oW func158 ?_;unfold ae.oW;refine⟨_,_,wX hs,_,_,wX ht,?_,rfl⟩;rw[Bz]
 congr 1
 rw[eQ];simp
def In(B:Nat->Prop)(w:J)(s:ad):Prop:=∀k,aE s k->B k/\k<w.heap.size
def bA(B:Nat->Prop)(w:J)(t:ad)(l:Key):Prop:=Src 1 w t (aD l)/\t.len<=t.cap/\In B w t
def bw(B:Nat->Prop)(w:J)(s:ad)(ls:O Key):Prop:=
 ∃ts:O ad,ts.length=ls.length/\Src 1 w s (ts.map ih)/\s.len<=s.cap/\In B w s/\∀ (i:Nat) (h1:i<ts.length) (h2:i<ls.length),bA B w ts[i] ls[i]
def gl(ds:O Nat):O Y:=ds.map λd=>.int .i64 ((d:Nat):Int)
def cZ(B:Nat->Prop)(w:J)(s:ad)(ds:O Nat):Prop:=Src 1 w s (gl ds)/\s.len<=s.cap/\In B w s
def bx(B:Nat->Prop)(w:J)(s:ad)(ls:O Key):Prop:=
 ∃ts:O ad,ts.length=ls.length/\aT 1 48 w s (ts.map ih)/\In B w s/\∀ (i:Nat) (h1:i<ts.length) (h2:i<ls.length),bA B w ts[i] ls[i]/\∀k,aE ts[i] k->¬aE s k
def cX(B:Nat->Prop)(w:J)(s:ad)(ds:O Nat):Prop:=aT 1 3 w s (gl ds)/\In B w s
section
variable {B C:Nat->Prop}{w w':J}{s t:ad}{l:Key}{ls:O Key}{ds:O Nat}
theorem In.ah{V:Nat->Prop}(h:In B w s)(hc:af V w w'):In B w' s:=λk a=>⟨(h k a).1,fP (h k a).2 hc.size⟩
theorem In.a7(h:In B w s)(b:∀k,k<w.heap.size->B k->C k):In C w s:=λk a=>⟨b k (h k a).2 (h k a).1,(h k a).2⟩
theorem bA.ah{V:Nat->Prop}(h:bA B w t l)(hc:af V w w')(a:∀k,B k->¬V k):bA B w' t l:=⟨h.1.ah hc λk b=>a k (h.2.2 k b).1,h.2.1,In.ah h.2.2 hc⟩
theorem bA.jr{V:Nat->Prop}(h:bA B w t l)(hc:af V w w')(a:∀k,aE t k->¬V k):bA B w' t l:=⟨h.1.ah hc a,h.2.1,In.ah h.2.2 hc⟩
theorem bA.ext(h:bA B w t l)(hc:Ext w w'):bA B w' t l:=bA.ah h hc λ_ _ h=>h
theorem bA.a7(h:bA B w t l)(a:∀k,k<w.heap.size->B k->C k):bA C w t l:=⟨h.1,h.2.1,In.a7 h.2.2 a⟩
theorem bw.ah{V:Nat->Prop}(h:bw B w s ls)(hc:af V w w')(a:∀k,B k->¬V k):bw B w' s ls:=by
 obtain⟨ts,h1,h2,c,b,d⟩:=h;exact⟨ts,h1,h2.ah hc λk e=>a k (b k e).1,c,In.ah b hc,λi f g=>bA.ah (d i f g) hc a⟩
theorem bw.ext(h:bw B w s ls)(hc:Ext w w'):bw B w' s ls:=bw.ah h hc λ_ _ h=>h
theorem bw.a7(h:bw B w s ls)(a:∀k,k<w.heap.size->B k->C k):bw C w s ls:=by
 obtain⟨ts,h1,h2,b,c,d⟩:=h;exact⟨ts,h1,h2,b,In.a7 c a,λi e f=>bA.a7 (d i e f) a⟩
theorem cZ.ah{V:Nat->Prop}(h:cZ B w s ds)(hc:af V w w')(a:∀k,B k->¬V k):cZ B w' s ds:=⟨h.1.ah hc λk b=>a k (h.2.2 k b).1,h.2.1,In.ah h.2.2 hc⟩
theorem cZ.ext(h:cZ B w s ds)(hc:Ext w w'):cZ B w' s ds:=cZ.ah h hc λ_ _ h=>h
theorem cZ.a7(h:cZ B w s ds)(a:∀k,k<w.heap.size->B k->C k):cZ C w s ds:=⟨h.1,h.2.1,In.a7 h.2.2 a⟩
theorem bw.len(h:bw B w s ls):s.len=ls.length:=by
 obtain⟨ts,h1,h2,_⟩:=h;have:=h2.len;rw[dk]at this;omega
theorem q4(ds:O Nat):(gl ds).length=ds.length:=by simp[gl]
theorem cZ.len(h:cZ B w s ds):s.len=ds.length:=by
 have:=h.1.len;rw[q4]at this;omega
theorem bw.at(h:bw B w s ls){i:Nat}(hi:i<ls.length):∃ (A:ag) (t:ad),s.a=some A/\((0:Int)<=(i:Int)/\(i:Int)<(s.len:Int))/\w.cell? (A.add (Int.toNat (i:Int)*1))=some (.slice t.a t.len t.cap)/\bA B w t ls[i]/\B A.block:=by
 obtain⟨ts,h1,h2,e,b,c⟩:=h;obtain⟨A,aq,d,hc⟩:=h2.at (i:=i) (v:=ih (ts[i]'I)) (by simp[h1,hi]);exact⟨A,ts[i]'I,aq,d,hc,c i I hi,(b _ ⟨A,aq,rfl⟩).1⟩
theorem cZ.at(h:cZ B w s ds){i:Nat}(hi:i<ds.length):∃A:ag,s.a=some A/\((0:Int)<=(i:Int)/\(i:Int)<((s.len:Nat):Int))/\w.cell? (A.add (Int.toNat (i:Int)*1))=some (.int .i64 ((ds[i]:Nat):Int)):=by
 obtain⟨A,aq,b,hc⟩:=h.1.at (i:=i) (v:=.int .i64 ((ds[i]:Nat):Int)) (by simp[gl,hi]);exact⟨A,aq,b,hc⟩
theorem bx.iZ(h:bx B w s ls):bw B w s ls:=by
 obtain⟨ts,h1,h2,a,b⟩:=h;exact⟨ts,h1,h2.src,h2.2.1,a,λi c d=>(b i c d).1⟩
theorem cX.q5(h:cX B w s ds):cZ B w s ds:=⟨h.1.src,h.1.2.1,h.2⟩
theorem bx.none(B:Nat->Prop)(w:J):bx B w ⟨.none,0,0⟩ []:=⟨[],rfl,aT.none _ _ _,λk a=>(gy k a).elim,λi h=>by simp at h⟩
theorem cX.none(B:Nat->Prop)(w:J):cX B w ⟨.none,0,0⟩ []:=⟨aT.none _ _ _,λk a=>(gy k a).elim⟩
theorem bw.none(B:Nat->Prop)(w:J):bw B w ⟨.none,0,0⟩ []:=bx.iZ (bx.none B w)
theorem cZ.none(B:Nat->Prop)(w:J):cZ B w ⟨.none,0,0⟩ []:=cX.q5 (cX.none B w)
theorem bx.ah{V:Nat->Prop}(h:bx B w s ls)(hc:af V w w')(a:∀k,B k->¬V k):bx B w' s ls:=by
 obtain⟨ts,h1,h2,b,c⟩:=h;exact⟨ts,h1,h2.ah hc λk f=>a k (b k f).1,In.ah b hc,λi d e=>⟨bA.ah (c i d e).1 hc a,(c i d e).2⟩⟩
theorem bx.ext(h:bx B w s ls)(hc:Ext w w'):bx B w' s ls:=bx.ah h hc λ_ _ h=>h
theorem cX.ah{V:Nat->Prop}(h:cX B w s ds)(hc:af V w w')(a:∀k,B k->¬V k):cX B w' s ds:=⟨h.1.ah hc λk b=>a k (h.2 k b).1,In.ah h.2 hc⟩
theorem cX.ext(h:cX B w s ds)(hc:Ext w w'):cX B w' s ds:=cX.ah h hc λ_ _ h=>h
theorem bA.some(h:bA B w t l)(b:l≠ []):∃A,t.a=some A:=by
 cases c:t.a with
 |none=>
  have:=h.1.nil c;exfalso;apply b
  cases l with
  |nil=>rfl
  |cons a l=>simp[aD]at this
 |some A=>exact⟨A,rfl⟩
end
theorem q6:h8 ai 127 48 1 24:=⟨by kernel_rfl⟩
theorem s_:h8 ai 58 3 1 8:=⟨by kernel_rfl⟩
theorem wY(ts:O ad):∀v∈ts.map ih,Plain v:=by
 intro v a;obtain⟨n,_,rfl⟩:=fy.1 a;trivial
theorem Cv(ds:O Nat):∀v∈gl ds,Plain v:=by
 intro v a;obtain⟨n,_,rfl⟩:=fy.1 a;trivial
theorem kZ{B:Nat->Prop}{w:J}{s:ad}{l:O UInt8}(h:Src 1 w s (aD l))(d:l.length<=1000000)(e:∀k,w.heap.size<=k->B k):
 aK ai 135 #[s] w (λv w'=>∃a:ad,v=a/\bA B w' a l/\Ext w w'/\gO w a):=by
 refine(yO h d).mono ?_;rintro _ w' ⟨a,rfl,b,hx,hf⟩;exact⟨a,rfl,⟨b.src,b.2.1,λk c=>⟨e k (hf k c),b.lt k c⟩⟩,hx,hf⟩
theorem Cw{B:Nat->Prop}{w:J}{s t:ad}{ls:O Key}{l:Key}(n:bx B w s ls)(ht:bA B w t l)(hd:∀k,aE t k->¬aE s k)(A:ls.length<=1000000)(o:∀k,w.heap.size<=k->B k):
 ∃ (b:ad) (w':J),Sem.run ai (Builtin.append_ #[127,127] 127 #[s,.slice (some w.heap.size) 1 1]) (w.alloc (.cells #[t] 48))=.ok b w'/\
  bx B w' b (ls++ [l])/\af (aE s) w w'/\(∀k,aE b k->aE s k\/w.heap.size<=k):=by
 obtain⟨ts,h1,h2,p,q⟩:=n;have C:s.len=ls.length:=by have:=h2.1;rw[dk]at this;omega
 obtain⟨b,w',aw,ax,D,c,d⟩:=q6.push (cC:=127) (w:=w) (s:=s) (xs:=[ih t]) rfl h2 (λv r=>by rw[fz.1 r];trivial) I;refine⟨b,w',aw,⟨ts++ [t],by simp[h1],?_,?_,λi f u=>?_⟩,c,d⟩
 .rw[gb];exact ax
 .intro k a
  refine⟨?_,ax.lt k a⟩;rcases d k a with h|h
  .exact(p k h).1
  .exact o k h
 .have g:∀ (x:ad),(∀k,aE x k->k<w.heap.size)->(∀k,aE x k->¬aE s k)->∀k,aE x k->¬aE b k:=λx hx y k a z=>by
   rcases d k z with h|h
   .exact y k a h
   .have:=hx k a;omega
  have E:i<ts.length+1:=by simpa using f
  rcases eu i ts.length with h|h
  .obtain⟨j,m⟩:=q i h I
   simp only[ow h,ow (show i<ls.length from I)];exact⟨bA.jr j c m,g _ (λk a=>(j.2.2 k a).2) m⟩
  .have:i=ts.length:=by omega
   subst this;have e:(ts++ [t])[ts.length]'f=t:=by simp
   have:(ls++ [l])[ts.length]'u=l:=by rw[p1 I];simp
   rw[this,e];exact⟨bA.jr ht c hd,g _ (λk a=>(ht.2.2 k a).2) hd⟩
theorem HQ{B:Nat->Prop}{w:J}{s:ad}{ds:O Nat}(d:Nat)(c:cX B w s ds)(l:ds.length<=1000000)(g:∀k,w.heap.size<=k->B k):
 ∃ (b:ad) (w':J),Sem.run ai (Builtin.append_ #[58,58] 58 #[.slice s.a s.len s.cap,.slice (some ⟨w.heap.size,0,none⟩) 1 1]) (w.alloc (.cells #[.int .i64 ((d:Nat):Int)] 3))=.ok (.slice b.a b.len b.cap) w'/\
  cX B w' b (ds++ [d])/\af (aE s) w w'/\(∀k,aE b k->aE s k\/w.heap.size<=k):=by
 have m:s.len=ds.length:=by have:=c.1.1;rw[q4]at this;omega
 obtain⟨b,w',aw,ax,n,i,e⟩:=s_.push (cC:=58) (w:=w) (s:=s) (xs:=[.int .i64 ((d:Nat):Int)]) rfl c.1 (λv j=>by rw[fz.1 j];trivial) I;refine⟨b,w',aw,⟨by simpa[gl] using ax,λk f=>⟨?_,ax.lt k f⟩⟩,i,e⟩;rcases e k f with h|h
 .exact(c.2 k h).1
 .exact g k h
structure bI(B:Nat->Prop)(w:J)(n:aG)(K V D:ad):Prop where
 keys:bw B w K n.keys
 vals:bw B w V n.vals
 kids:cZ B w D n.kids
def ep(n:aG)(K V D:ad):O Y:=[n.leaf,K,V,D]
def c9(n:aG)(K V D:ad):Y:=.agg #[n.leaf,K,V,D]
section
variable {B C:Nat->Prop}{w w':J}{n:aG}{K V D:ad}
theorem bI.ah{W:Nat->Prop}(h:bI B w n K V D)(hc:af W w w')(a:∀k,B k->¬W k):bI B w' n K V D:=⟨bw.ah h.keys hc a,bw.ah h.vals hc a,cZ.ah h.kids hc a⟩
theorem bI.ext(h:bI B w n K V D)(hc:Ext w w'):bI B w' n K V D:=bI.ah h hc λ_ _ h=>h
theorem bI.a7(h:bI B w n K V D)(a:∀k,k<w.heap.size->B k->C k):bI C w n K V D:=⟨bw.a7 h.keys a,bw.a7 h.vals a,cZ.a7 h.kids a⟩
theorem bP{b:Nat}{T:TypeId}{leaf:al}(h:Var w b [leaf,K,V,D] T):
 w.cell? b=some (.bool leaf)/\w.cell? (Addr.add b 1)=some (.slice K.a K.len K.cap)/\w.cell? (Addr.add b 2)=some (.slice V.a V.len V.cap)/\w.cell? (Addr.add b 3)=some (.slice D.a D.len D.cap):=by
 rw[az,az,az];exact⟨h.cell,h.cell,h.cell,h.cell⟩
end
theorem HR{B:Nat->Prop}{w:J}{s:ad}{ls:O Key}(h:bw B w s ls)(f:ls.length<=1000000):
   aK ai 242 #[s,.func (.func 241) #[] #[]] w (λv w'=>v=.bool (ls.any λv=>decide (24<v.length))/\w=w'):=by
 refine okF (ae.u_ s ⟨241,#[],#[]⟩) ay.u_ func242 ?_
 delta ae.u_ bS
 have g:=bw.len h
 have e:h7 ai 241:=⟨_,(oo (show(Tryz.prog.funcs[241]?).isSome=true by kernel_rfl)).symm,by kernel_rfl,by kernel_rfl⟩
 refine Calls.mono (ae.FV s ⟨241,#[],#[]⟩ w (λv w'=>(∃i:Int,v=i/\(decide (i>=0))=(ls.any λv=>decide (24<v.length)))/\w=w') ?_) ?_
 · (delta ae.sA an aM r1 ar;dsimp only)
   refine⟨λi w'=>∃j:Nat,i=j/\j<=ls.length/\w=w'/\∀ (k:Nat) (a:k<ls.length),k<j->(ls[k]).length<=24,λi _=>((ls.length:Int)-i).toNat,⟨0,rfl,cR _,rfl,λk a h=>I⟩,?_⟩
   rintro _ _ ⟨j,rfl,l,rfl,d⟩
   refine⟨λaJ=>?_,λc=>?_⟩
   · have aJ:j<ls.length:=by have:=cl aJ;omega
     obtain⟨A,t,aq,b,hc,ht,_⟩:=bw.at h aJ
     refine⟨A,aq,b,t,hc,e,?_⟩
     have m:=len8 ht.1
     refine Calls.mono (ae.Gs t w (λv w'=>v=.bool (decide (24<(ls[j]).length))/\w=w') ⟨?_,rfl⟩) ?_
     · congr 1
       rw[eQ,b_,b_];omega
     rintro _ _ ⟨_,rfl,rfl,rfl⟩
     refine⟨_,rfl,λb=>⟨⟨j,rfl,?_⟩,rfl⟩,λb=>?_⟩
     · have:(ls.any λv=>decide (24<v.length))=true:=List.any_eq_true.2 ⟨_,cW aJ,b⟩
       rw[this];exact dD I
     · have b:=cw b
       rw[bB (n:=(j:Int)+1) I I]
       refine⟨⟨j+1,I,I,rfl,λk a h=>?_⟩,?_⟩
       · rcases eu k j with h1|h1
         · exact d k a h1
         · have:k=j:=by omega
           subst this;omega
       · show((ls.length:Int)-((j:Int)+1)).toNat<((ls.length:Int)-(j:Int)).toNat
         omega
   · have c:j=ls.length:=by have:=cw c;omega
     subst c
     refine⟨⟨-1,rfl,?_⟩,rfl⟩
     have:(ls.any λv=>decide (24<v.length))=false:=by
       rw[rH]
       intro x hx
       obtain⟨k,a,rfl⟩:=fF hx
       have:=d k a a
       simp;omega
     rw[this];rfl
 · rintro _ _ ⟨_,rfl,⟨i,rfl,hi⟩,rfl⟩
   exact⟨i,rfl,by rw[hi],rfl⟩
theorem HS{B:Nat->Prop}{w:J}{s:ad}{ds:O Nat}(h:cZ B w s ds)(g:ds.length<=1000000):
   aK ai 244 #[s,.func (.func 243) #[] #[]] w (λv w'=>v=.bool (ds.any λd=>decide (1600<=d))/\w=w'):=by
 refine okF (ae.va s ⟨243,#[],#[]⟩) ay.va func244 ?_
 delta ae.va bS
 have l:=cZ.len h
 have f:h7 ai 243:=⟨_,(oo (show(Tryz.prog.funcs[243]?).isSome=true by kernel_rfl)).symm,by kernel_rfl,by kernel_rfl⟩
 refine Calls.mono (ae.FW s ⟨243,#[],#[]⟩ w (λv w'=>(∃i:Int,v=i/\(decide (i>=0))=(ds.any λd=>decide (1600<=d)))/\w=w') ?_) ?_
 · (delta ae.sB an aM aF ar;dsimp only)
   refine⟨λi w'=>∃j:Nat,i=j/\j<=ds.length/\w=w'/\∀ (k:Nat) (a:k<ds.length),k<j->ds[k]<1600,λi _=>((ds.length:Int)-i).toNat,⟨0,rfl,cR _,rfl,λk a h=>I⟩,?_⟩
   rintro _ _ ⟨j,rfl,m,rfl,e⟩
   refine⟨λaJ=>?_,λc=>?_⟩
   · have aJ:j<ds.length:=by have:=cl aJ;omega
     obtain⟨A,aq,b,hc⟩:=cZ.at h aJ
     refine⟨A,aq,b,_,hc,f,?_⟩
     refine Calls.mono (ae.Gt ((ds[j]:Nat):Int) w (λv w'=>v=.bool (decide (1600<=ds[j]))/\w=w') ⟨?_,rfl⟩) ?_
     · congr 1
       rw[eQ,jy,b_,b_,b_];omega
     rintro _ _ ⟨_,rfl,rfl,rfl⟩
     refine⟨_,rfl,λb=>⟨⟨j,rfl,?_⟩,rfl⟩,λb=>?_⟩
     · have:(ds.any λd=>decide (1600<=d))=true:=List.any_eq_true.2 ⟨_,cW aJ,b⟩
       rw[this];exact dD I
     · have b:=cw b
       rw[bB (n:=(j:Int)+1) I I]
       refine⟨⟨j+1,I,I,rfl,λk a h=>?_⟩,?_⟩
       · rcases eu k j with h1|h1
         · exact e k a h1
         · have:k=j:=by omega
           subst this;omega
       · show((ds.length:Int)-((j:Int)+1)).toNat<((ds.length:Int)-(j:Int)).toNat
         omega
   · have c:j=ds.length:=by have:=cw c;omega
     subst c
     refine⟨⟨-1,rfl,?_⟩,rfl⟩
     have:(ds.any λd=>decide (1600<=d))=false:=by
       rw[rH]
       intro x hx
       obtain⟨k,a,rfl⟩:=fF hx
       have:=e k a a
       simp;omega
     rw[this];rfl
 · rintro _ _ ⟨_,rfl,⟨i,rfl,hi⟩,rfl⟩
   exact⟨i,rfl,by rw[hi],rfl⟩
theorem Cx:∀ {l:O Key},(∀ (i:Nat) (h:i+1<l.length),bD l[i] l[i+1])->l.Pairwise bD
 | [],_=>.nil
 |a::l,h=>by
  have e:=Cx (l:=l) λi hi=>h (i+1) (by simpa using hi)
  refine jB.2 ⟨λb d=>?_,e⟩
  cases l with
  |nil=>simp at d
  |cons c l=>
   have h0:bD a c:=h 0 (by simp)
   rcases de.1 d with rfl|d
   .exact h0
   .exact l7 h0 ((jB.1 e).1 b d)
instance (k:Key):Decidable (cI k):=by unfold cI;infer_instance
theorem o7{w:J}{t:ad}{l:Key}(h:Src 1 w t (aD l)):aK ai 209 #[t] w (λv w'=>v=.bool (decide (cI l))/\w=w'):=by
 have a:=len8 h;refine okF (ae.o7 t) ay.o7 func209 ?_;unfold ae.o7;refine⟨?_,rfl⟩
 congr 1
 rw[eQ,dh,b_,b_,b_];unfold cI;omega
theorem kz{B:Nat->Prop}{w:J}{n:aG}{K V D:ad}(h:bI B w n K V D)(h1:n.keys.length<=100000)(h2:n.vals.length<=100000)(O:n.kids.length<=100000):
 aK ai 203 #[c9 n K V D] w (λv w'=>∃b:al,v=b/\(b=true↔cQ n)/\Ext w w'):=by
 refine okF (ae.kz n.leaf K V D) ay.kz func203 ?_;(delta ae.kz r1 aa an aM b8 ar bS aY;dsimp only);refine bc (vs:=[n.leaf,K,V,D]) rfl λw1 d m _=>?_;obtain⟨b6,aZ,bf,bq⟩:=bP d;have g:=h.ext m;have x:=bw.len g.keys;have P:=bw.len g.vals;have aV:=cZ.len g.kids;refine⟨K,aZ,λi w'=>∃j:Nat,i=j/\j<=n.keys.length/\w1=w'/\(∀ (k:Nat) (f:k<n.keys.length),k<j->cI n.keys[k])/\∀ (k:Nat) (f:k+1<n.keys.length),k+1<j->bD n.keys[k] n.keys[k+1],
  λi _=>((n.keys.length:Int)-i).toNat,⟨0,rfl,cR _,rfl,λk f h=>I,λk f h=>I⟩,?_⟩
 rintro _ _ ⟨j,rfl,o,rfl,y,z⟩;refine⟨λaJ=>?_,λp=>?_⟩
 .have aJ:j<n.keys.length:=by have:=cl aJ;omega
  obtain⟨A,t,aq,a,hc,ht,_⟩:=bw.at g.keys aJ;refine⟨A,aq,a,t,hc,(o7 ht.1).use ?_⟩;rintro _ _ ⟨rfl,rfl⟩;refine⟨_,rfl,cq (λb w'=>w1=w'/\(b=true->¬cQ n)/\(b=false->cI n.keys[j]/\∀ (o:1<=j),bD (n.keys[j-1]'I) n.keys[j])) (λq c=>⟨λa=>?_,λa=>?_⟩) ?_⟩
  .have a:¬cI n.keys[j]:=by simpa using a
   exact c _ _ ⟨rfl,λ_ hs=>a (hs.keys.ok _ (cW aJ)),λh=>by cases h⟩
  .have a:cI n.keys[j]:=by simpa using a
   refine cq (λb w'=>w1=w'/\(b=true->¬cQ n)/\(b=false->∀ (o:1<=j),bD (n.keys[j-1]'I) n.keys[j])) (λeB C=>⟨λh0=>?_,λh0=>?_⟩) ?_
   .have h0:1<=j:=by have:=cl h0;omega
    rw[bB (n:=(j:Int)-1) I I,show(j:Int)-1=((j-1:Nat):Int) from I];obtain⟨F,t2,G,r,H,L,_⟩:=bw.at g.keys (i:=j-1) I;refine⟨K,aZ,F,G,r,t2,H,(l4 L.1 ht.1).use ?_⟩;rintro _ _ ⟨rfl,rfl⟩;refine⟨_,rfl,C _ _ ⟨rfl,λhc hs=>?_,λhc _=>?_⟩⟩
    .have hc:=cl hc
     have:bD (n.keys[j-1]'I) n.keys[j]:=ln.1 hs.keys.e9 (j-1) j I aJ I;unfold bD at this;omega
    .have hc:=cw hc
     unfold bD;omega
   .have h0:=cw h0
    exact C _ _ ⟨rfl,λh=>(by cases h),λ_ o=>I⟩
   .rintro b w' ⟨rfl,aw,ax⟩
    exact c _ _ ⟨rfl,aw,λr=>⟨a,ax r⟩⟩
  .rintro b w' ⟨rfl,aw,ax⟩
   refine⟨λa=>⟨false,rfl,⟨λh=>(by cases h),λhs=>absurd hs (aw a)⟩,m⟩,λa=>?_⟩;obtain⟨M,N⟩:=ax a;rw[bB (n:=(j:Int)+1) I I];refine⟨⟨j+1,I,I,rfl,λk f h=>?_,λk f h=>?_⟩,?_⟩
   .rcases eu k j with h1|h1
    .exact y k f h1
    .have:k=j:=by omega
     subst this;exact M
   .rcases eu (k+1) j with h1|h1
    .exact z k f h1
    .have:j=k+1:=by omega
     subst this;exact N I
   .show((n.keys.length:Int)-((j:Int)+1)).toNat<((n.keys.length:Int)-(j:Int)).toNat
    omega
 .have p:j=n.keys.length:=by have:=cw p;omega
  subst p;have E:wG n:=⟨λk f=>by
   obtain⟨i,hi,rfl⟩:=fF f;exact y i hi hi,Cx λi hi=>z i hi hi⟩
  refine⟨n.leaf,b6,λl=>⟨V,bf,K,aZ,?_⟩,λl=>⟨K,aZ,?_⟩⟩
  .refine cq (λb w'=>w1=w'/\b=(decide (n.vals.length=n.keys.length)&&decide (n.kids=[]))) (λq c=>⟨λa=>⟨D,bq,c _ _ ⟨rfl,?_⟩⟩,λa=>c _ _ ⟨rfl,?_⟩⟩) ?_
   .have a:=eq_of_beq a
    rw[dD (show n.vals.length=n.keys.length from I),g9,eQ,jY,b_,←mq];omega
   .have a:¬((V.len:Int)=(K.len:Int)):=λe=>by rw[e]at a;simp at a
    rw[g_ I,kn]
   rintro b w' ⟨rfl,rfl⟩;refine cq (λb w'=>w1=w'/\(b=true↔cQ n)) (λq c=>⟨λa=>⟨V,bf,(HR g.vals I).use ?_⟩,λa=>c _ _ ⟨rfl,?_⟩⟩) ?_
   .rintro _ _ ⟨rfl,rfl⟩
    refine⟨_,rfl,c _ _ ⟨rfl,?_⟩⟩;simp only[dh,b_]at a;rw[jh,rH];constructor
    .intro s
     exact .inl ⟨E,l,a.1,a.2,λv d=>by have:=s v d;simp at this;omega⟩
    .rintro(hs|hs)
     .intro v d;have:=hs.vals v d;simp;omega
     .have:=hs.inner;rw[l]at this;cases this
   .have a:¬(n.vals.length=n.keys.length/\n.kids=[]):=by simpa using a
    refine⟨λh=>(by cases h),?_⟩;rintro(hs|hs)
    .exact absurd ⟨hs.len,hs.kids⟩ a
    .have:=hs.inner;rw[l]at this;cases this
   rintro b w' ⟨rfl,a⟩;exact⟨b,rfl,a,m⟩
  .refine cq (λb w'=>w1=w'/\b=(decide (n.keys≠ [])&&decide (n.kids.length=n.keys.length+1))) (λq c=>⟨λa=>⟨D,bq,K,aZ,c _ _ ⟨rfl,?_⟩⟩,λa=>c _ _ ⟨rfl,?_⟩⟩) ?_
   .have a:=cl a
    have u:n.keys≠ []:=λe=>by rw[e]at x;simp at x;omega
    rw[dD u,g9,eQ,jY,b_,bB I I];omega
   .have a:=cw a
    have u:n.keys=[]:=mq.1 I;rw[g_ (λh=>h u),kn]
   rintro b w' ⟨rfl,rfl⟩;refine cq (λb w'=>w1=w'/\b=(decide (n.keys≠ [])&&decide (n.kids.length=n.keys.length+1)&&decide (n.vals=[]))) (λq c=>⟨λa=>⟨V,bf,c _ _ ⟨rfl,?_⟩⟩,λa=>c _ _ ⟨rfl,?_⟩⟩) ?_
   .rw[a,g9,eQ,jY,b_,←mq]
    omega
   .rw[a,kn]
   rintro b w' ⟨rfl,rfl⟩;refine cq (λb w'=>w1=w'/\(b=true↔cQ n)) (λq c=>⟨λa=>⟨D,bq,(HS g.kids I).use ?_⟩,λa=>c _ _ ⟨rfl,?_⟩⟩) ?_
   .rintro _ _ ⟨rfl,rfl⟩
    refine⟨_,rfl,c _ _ ⟨rfl,?_⟩⟩;simp only[dh,b_]at a;rw[jh,rH];constructor
    .intro s
     exact .inr ⟨E,l,a.1.1,a.1.2,a.2,λv d=>by have:=s v d;simp at this;omega⟩
    .rintro(hs|hs)
     .have:=hs.leaf;rw[l]at this;cases this
     .intro v d;have:=hs.kids v d;simp;omega
   .have a:¬((n.keys≠ []/\n.kids.length=n.keys.length+1)/\n.vals=[]):=λe=>by
     rw[dD e.1.1,dD e.1.2,dD e.2]at a;cases a
    refine⟨λh=>(by cases h),?_⟩;rintro(hs|hs)
    .have:=hs.leaf;rw[l]at this;cases this
    .exact absurd ⟨⟨hs.some,hs.len⟩,hs.vals⟩ a
   rintro b w' ⟨rfl,a⟩;exact⟨b,rfl,a,m⟩
end Go.Proofs.YtkdhdlfonmgheaaGreat
