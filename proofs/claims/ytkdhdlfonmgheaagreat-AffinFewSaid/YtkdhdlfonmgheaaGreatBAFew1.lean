/- Contracts of the functions that the statement reaches, and the plain laws over them; each theorem stands with its conditions. -/
import Derived.Laws.Externs
import Derived.Laws.Small
import Derived.Lib.Builder
import Derived.Lib.Bytealg
import Derived.Lib.ConvBytes
import Derived.Lib.MakeNoZero
import Derived.Lib.SlBytesConst
import Derived.Lib.UnsafeStr
import Derived.Test.YtkdhdlfonmgheaaGreatRows
import Derived.Test.YtkdhdlfonmgheaaGreatVAFew2
namespace Go.Proofs.YtkdhdlfonmgheaaGreat
open Go aR Go.Proofs.Tryz
theorem qb{n:Nat}(h:n<256):((UInt8.ofNat n).toNat:Nat)=n:=by
 simp[iL h]
theorem yC{src dst:TypeId}{w:J}{s:ad}{ns:O Int}(hs:Tryz.prog.underlying src=some (.slice 5))(hd:Tryz.prog.underlying dst=some .string)(h:Src 1 w s (ns.map (.int .u8))):
 Sem.run aj (convert src dst s) w=.ok (.string (S (ns.map λn=>UInt8.ofNat n.toNat))) w:=by
 rw[BR hs (by kernel_rfl) hd h,BU]
theorem vl{w:J}{A:ag}:∀ (vs:O Y) (i:Nat),(∀j v,vs[j]? =some v->w.cell? (A.add (i+j))=some v)->bE w A i vs.length=some vs
 | [],_,_=>rfl
 |v::vs,i,h=>by
  have h0:=h 0 v rfl
  have a:=vl vs (i+1) (λj u b=>by rw[show i+1+j=i+(j+1) from I];exact h (j+1) u (by simpa using b))
  rw[k8]at h0
  simp[bE,h0,a]
def aA(l:O UInt8):O Y:=l.map λb=>Value.int .u8 (b.toNat:Int)
theorem dg(l:O UInt8):(aA l).length=l.length:=by simp[aA]
theorem oy{l:O UInt8}{i:Nat}(h:i<l.length):(aA l)[i]? =some (.int .u8 ((l[i].toNat:Nat):Int)):=by simp[aA,h]
def oz(c:Nat):ar Nat:=if 48<=c/\c<=57 then some (c-48) else if 97<=c|||32/\c|||32<=122 then some ((c|||32)-97+10) else none
theorem CJ(c:UInt8):((c.toNat:Int).toNat.toUInt8)=c:=by simp
theorem jW(l:O UInt8):∀v∈aA l,Plain v:=by
 intro v a;obtain⟨n,_,rfl⟩:=e6.1 a;trivial
theorem lP(a b:O UInt8):aA (a++b)=aA a++aA b:=by simp[aA]
theorem take_succ{α:Type}(ls:O α){i:Nat}(h:i<ls.length):ls.take (i+1)=ls.take i++ [ls[i]]:=by
 rw[j_ h]
structure bq where
 gm:al
 b:O UInt8
 h:b.length=16
 deriving DecidableEq
def bq.c(a:bq):O Y:=a.gm::aA a.b
structure bX where
 addr:bq
 bits:Int
 deriving DecidableEq
def bX.c(p:bX):O Y:=p.addr.c++ [.int .i64 p.bits]
theorem bq.ext'{a b:bq}(h1:a.gm=b.gm)(c:a.b=b.b):a=b:=by
 cases a;cases b;simp_all
theorem bq.bS(a:bq):a.c.length=17:=by simp[bq.c,dg,a.h]
theorem bX.bS(p:bX):p.c.length=18:=by simp[bX.c,bq.bS]
theorem ta:∀ {a b:O UInt8},aA a=aA b->a=b
 | [],[],_=>rfl
 | [],_::_,h=>by simp[aA]at h
 |_::_,[],h=>by simp[aA]at h
 |x::a,y::b,h=>by
  simp only[aA,g0,List.cons.injEq,Value.int.injEq,true_and]at h
  have h1:x=y:=by
   have:x.toNat=y.toNat:=by exact_mod_cast h.1
   exact UInt8.toNat_inj.1 this
  rw[h1,ta (a:=a) (b:=b) h.2]
theorem bq.oA{a b:bq}(h:a.c=b.c):a=b:=by
 simp only[bq.c,List.cons.injEq,Value.bool.injEq]at h;exact bq.ext' h.1 (ta h.2)
theorem bX.oA{p q:bX}(h:p.c=q.c):p=q:=by
 simp only[bX.c]at h;obtain⟨h1,a⟩:=List.append_inj h (by simp[bq.bS]);have b:=bq.oA h1
 cases p;cases q
 simp_all
def jw(n:Nat):O UInt8:=List.replicate n 0
def bq.zero:bq:=⟨false,jw 16,by simp[jw]⟩
def bX.zero:bX:=⟨bq.zero,0⟩
theorem vm{α:Type}:∀ (l:O α),l.length=16->∃a b c d e f g h i j k m n o p q,l=[a,b,c,d,e,f,g,h,i,j,k,m,n,o,p,q]
 | [a,b,c,d,e,f,g,h,i,j,k,m,n,o,p,q],_=>⟨a,b,c,d,e,f,g,h,i,j,k,m,n,o,p,q,rfl⟩
def jX(n:Nat):O cB:=List.replicate n (.int .u8)
theorem tb:∀ (l:O UInt8),dW (jX l.length) (aA l)
 | []=>rfl
 |_::l=>⟨_,_,rfl,⟨_,rfl⟩,tb l⟩
theorem bq.dW(a:bq):aR.dW (.bool::jX 16) a.c:=⟨_,_,rfl,⟨_,rfl⟩,by have:=tb a.b;rwa[a.h]at this⟩
theorem bX.dW(p:bX):aR.dW ((.bool::jX 16)++ [.int .i64]) p.c:=uU p.addr.dW ⟨_,_,rfl,⟨_,rfl⟩,rfl⟩
theorem CK(a b:bX):iR aj 26 a.c.toArray b.c.toArray (decide (a=b)):=by
 have h:=iR.flat (P:=aj) (T:=26) (d:=(Tryz.prog.underlying 26).get (by kernel_rfl)) (ls:=(.bool::jX 16)++ [.int .i64]) (nx _).symm (by kernel_rfl) (by kernel_rfl) (by kernel_rfl) a.dW b.dW;have e:eY a.c b.c=decide (a=b):=by
  rw[fA,rz a.dW b.dW,cA];exact⟨bX.oA,λh=>by rw[h]⟩
 rwa[e]at h
theorem CL(a b:O UInt8)(g:a.length=12)(i:b.length=12):iR aj 357 (aA a).toArray (aA b).toArray (decide (a=b)):=by
 have c:=tb a;have f:=tb b;rw[g]at c;rw[i]at f;have h:=iR.flat (P:=aj) (T:=357) (d:=(Tryz.prog.underlying 357).get (by kernel_rfl)) (ls:=jX 12) (nx _).symm (by kernel_rfl) (by kernel_rfl) (by kernel_rfl) c f;have e:eY (aA a) (aA b)=decide (a=b):=by
  rw[fA,rz c f,cA];exact⟨ta,λh=>by rw[h]⟩
 rwa[e]at h
theorem CM(w:J):Sem.run aj (Instr.build 24 #[]) w=.ok (.agg bq.zero.c.toArray) w:=by kernel_rfl
theorem CN(w:J):Sem.run aj (Instr.build 26 #[]) w=.ok (.agg bX.zero.c.toArray) w:=by kernel_rfl
theorem CO(w:J):Sem.run aj (Instr.build 357 #[]) w=.ok (.agg (aA (jw 12)).toArray) w:=by kernel_rfl
theorem CP(w:J)(gm:al)(b:O UInt8)(h:b.length=16):Sem.run aj (Instr.build 24 #[(0,gm),(1,.agg (aA b).toArray)]) w=.ok (.agg (bq.mk gm b h).c.toArray) w:=by
 obtain⟨a,d,e,f,g,i,j,k,l,m,n,o,p,q,r,s,rfl⟩:=vm b h
 kernel_rfl
theorem tc(w:J)(a:bq)(n:Int):Sem.run aj (Instr.build 26 #[(0,.agg a.c.toArray),(1,.int .i64 n)]) w=.ok (.agg (bX.mk a n).c.toArray) w:=by
 obtain⟨gm,b,h⟩:=a;obtain⟨d,e,f,g,i,j,k,l,m,o,p,q,r,s,t,u,rfl⟩:=vm b h
 kernel_rfl
def Var(w:J)(b:Nat)(vs:O Y)(T:TypeId):Prop:=bg w b vs.toArray T
section
variable {w w':J}{b:Nat}{vs us:O Y}{T:TypeId}
theorem Var.new(w:J)(vs:O Y)(T:TypeId):Var (w.alloc (.cells vs.toArray T)) w.heap.size vs T:=bg.new _ _ _
theorem Var.rd(h:Var w b vs T){n:Nat}(a:vs.length=n):bE w b 0 n=some vs:=by
 have:=nQ h n 0 0 (by simp[a]);rw[this];simp[←a]
theorem Var.td(h:Var w b vs T){o n:Nat}(a:o+n<=vs.length):bE w ⟨b,o,none⟩ 0 n=some ((vs.drop o).take n):=by
 have:=nQ h n o 0 (by simpa using a);rw[this];simp
theorem Var.cell(h:Var w b vs T){i:Nat}:w.cell? ⟨b,i,none⟩=vs[i]? :=by
 rw[bg.cell h];simp
theorem Var.ext(h:Var w b vs T)(hx:Ext w w'):Var w' b vs T:=bg.ext h hx
theorem Var.af{W:Nat->Prop}(h:Var w b vs T)(hx:ae W w w')(a:¬W b):Var w' b vs T:=bg.af h hx a
theorem Var.drew(h:Var w b vs T):Var w.drew b vs T:=bg.drew h
theorem Var.lt(h:Var w b vs T):b<w.heap.size:=bg.lt h
theorem Var.bU(h:Var w b vs T)(a:us.length=vs.length)(c:∀v∈us,Plain v):bh w b us:=bg.bU h 0 us (by simp[a]) c
theorem Var.put(h:Var w b vs T)(a:us.length=vs.length):Var (setCells w b 0 us) b us T:=by
 have:=bg.pJ us 0 0 h;simp only[k8]at this;have e:(fR vs.toArray 0 us)=us.toArray:=by
  have h1:=pK us vs.toArray 0 (by simp[a]);rw[cU,a,List.take_zero,kc,dJ (by rw[Array.length_toList,iU];simp)]at h1;apply Array.toList_inj.1;rw[h1]
 rwa[e]at this
end
theorem bq.plain(a:bq):∀v∈a.c,Plain v:=by
 intro v b;rcases c7.1 b with rfl|b
 .trivial
 .exact jW _ v b
theorem bX.plain(p:bX):∀v∈p.c,Plain v:=by
 intro v a;rcases cL.1 a with a|a
 .exact p.addr.plain v a
 .rw[fo.1 a];trivial
theorem Ext.put{w0 w:J}{b:Nat}{us:O Y}(h:Ext w0 w)(a:w0.heap.size<=b):Ext w0 (setCells w b 0 us):=
 Ext.dj h (ae.jT (.refl _ _) us 0) (λk c=>by subst c;exact a)
theorem aX{w:J}{K:J->Prop}(h:K w):an w K:=h
theorem bd{w:J}{c:Array Y}{vs:O Y}{T:TypeId}(hc:c=vs.toArray){K:J->Prop}(h:∀w',Var w' w.heap.size vs T->Ext w w'->w'.heap.size=w.heap.size+1->K w'):an (w.alloc (.cells c T)) K:=by
 subst hc;exact h _ (Var.new _ _ _) (ae.alloc (.refl _ _) _) (by simp)
theorem cl{w:J}{b:Nat}{vs us l:O Y}{T:TypeId}(a:Var w b vs T)(c:us.length=vs.length)(d:l=us){K:J->Prop}(h:∀w',Var w' b us T->ae (λq=>q=b) w w'->w'.heap.size=w.heap.size->K w'):an (setCells w b 0 l) K:=by
 subst d;refine h _ (a.put c) (ae.jT (.refl _ _) l 0) ?_;have:∀ (vs:O Y) (i:Nat) (w:J),(setCells w b i vs).heap.size=w.heap.size:=by
  intro vs
  induction vs with
  |nil=>intro i w;rfl
  |cons v vs e=>intro i w;rw[setCells,e];simp[World.setCell]
 exact this _ _ _
theorem Ext.cC{w0 w w':J}{b:Nat}(h:Ext w0 w)(hc:ae (λq=>q=b) w w')(a:w0.heap.size<=b):Ext w0 w':=Ext.dj h hc (λk c=>by subst c;exact a)
def bq.raw(a:bq):O UInt8:=if a.gm then a.b else a.b.drop 12
theorem bq.oB(a:bq):a.raw.length=if a.gm then 16 else 4:=by
 unfold bq.raw;split
 .exact a.h
 .simp[a.h]
def bq.ew(a:bq):al:=a.gm||decide (a.b.take 12=jw 12)
theorem Var.te{w:J}{b o n c:Nat}{vs:O Y}{T:TypeId}{l:O UInt8}(h:Var w b vs T)(e:o+n<=vs.length)(d:(vs.drop o).take n=aA l):Src 1 w ⟨some ⟨b,o,none⟩,n,c⟩ (aA l):=by
 have hlen:n=l.length:=by
  have:=congrArg List.length d;rw[cK,dc,dg]at this;omega
 refine⟨by rw[dg];show _=n*1;omega,(λh=>by cases h),λa f=>?_⟩
 cases f;show bE w ⟨b,o,none⟩ 0 (n*1)=_;rw[fH,h.td e,d]
theorem mO(a:bq)(w:J):aL aj 193 #[.agg a.c.toArray] w (λv w'=>∃s:ad,v=s/\s.len=a.raw.length/\s.cap=s.len/\Src 1 w' s (aA a.raw)/\Ext w w'):=by
 refine ah.Cx _ w _ ?_;(delta ah.mO an aW aa ao;dsimp only);have f:=Var.new w a.c 24;have hx:Ext w (w.alloc (.cells a.c.toArray 24)):=ae.alloc (.refl _ _) _;refine⟨a.gm,f.cell,λh=>?_,λh=>⟨⟨by decide,by decide⟩,?_⟩⟩
 .have d:a.raw=a.b:=by simp[bq.raw,h]
  have e:aJ (some (Addr.add w.heap.size 1)) 1 0 16=some ⟨w.heap.size,1,none⟩:=by rw[ay,nT (by decide)]
  refine⟨⟨some ⟨w.heap.size,1,none⟩,16,16⟩,by rw[e],by rw[d,a.h],rfl,f.te (by rw[a.bS];decide) ?_,hx⟩;rw[d];simp[bq.c,dJ,dg,a.h]
 .have d:a.raw=a.b.drop 12:=by simp[bq.raw,h]
  have e:aJ (some (Addr.add w.heap.size 1)) 1 (Int.toNat 12) 16=some ⟨w.heap.size,13,none⟩:=by
   rw[ay,show Int.toNat 12=12 from rfl,nT (by decide)]
  refine⟨⟨some ⟨w.heap.size,13,none⟩,4,4⟩,by rw[e];rfl,by rw[d];simp[a.h],rfl,f.te (by rw[a.bS];decide) ?_,hx⟩;rw[d];simp[bq.c,aA,dJ,a.h,mb]
theorem qc:ia aj 48 5 1 1:=⟨by kernel_rfl⟩
theorem CQ{s:ad}{l:O UInt8}{w:J}(hs:Src 1 w s (aA l))(o:l.length<=1000000):
 aL aj 92 #[.slice (some w.heap.size) 1 1] (w.alloc (.cells #[s] 48)) (λv w'=>∃a:ad,v=a/\aZ 1 5 w' a (aA l)/\a.len=l.length/\Ext w w'/\∀k,aC a k->w.heap.size<=k):=by
 refine ah.Cl ⟨some w.heap.size,1,1⟩ _ _ ?_;(delta ah.lK ao aK r1 au;dsimp only);have b:Ext w (w.alloc (.cells #[s] 48)):=ae.alloc (.refl _ _) _;have d:=Var.new w [s] 48;have p:s.len=l.length:=by have:=hs.len;rw[dg]at this;omega
 refine⟨λa i w'=>(i=0/\a=⟨none,0,0⟩/\w'=w.alloc (.cells #[s] 48))\/(i=1/\aZ 1 5 w' a (aA l)/\a.len=l.length/\Ext w w'/\∀k,aC a k->w.heap.size<=k),λ_ i _=>(1-i).toNat,.inl ⟨rfl,rfl,rfl⟩,?_⟩;rintro a _ w1 (⟨rfl,rfl,rfl⟩|⟨rfl,e,f,hx,hf⟩)
 .refine⟨λ_=>⟨_,rfl,⟨Int.le_refl 0,(by decide:(0:Int)<((1:Nat):Int))⟩,s,?_,?_⟩,λh=>(by have h:decide ((0:Int)<((1:Nat):Int))=false:=h;exact absurd h (by decide))⟩
  .rw[show Int.toNat 0*1=0 from rfl,add_zero']
   have:=d.cell (i:=0);exact this
  .obtain⟨s2,ai,h1,g,j,m,n⟩:=qc.append (dK:=48) (hs.ext b) (aZ.none 1 5 _) (jW l) (by show(2*(0+s.len)+1000)*1<=_;omega)
   refine⟨s2,ai,h1,.inr ⟨rfl,by simpa using g,by rw[j];show 0+s.len=_;omega,Ext.dj b m (λk c=>(hN k c).elim),λk c=>?_⟩,(by show((1:Int)-IntKind.wrap .i64 (0+1)).toNat<((1:Int)-0).toNat;decide)⟩;rcases n k c with h|h
   .exact(hN k h).elim
   .exact ei b.size h
 .exact⟨λh=>(by have h:decide ((1:Int)<((1:Nat):Int))=true:=h;exact absurd h (by decide)),λ_=>⟨a,rfl,e,f,hx,hf⟩⟩
theorem kl(a:bq)(w:J):aL aj 127 #[.agg a.c.toArray] w (λv w'=>∃s:ad,v=s/\aZ 1 5 w' s (aA a.raw)/\s.len=a.raw.length/\Ext w w'/\∀k,aC s k->w.heap.size<=k):=by
 refine ah.Cn _ w _ ?_;delta ah.kl an aa bJ;have e:=Var.new w a.c 24;have hx:Ext w (w.alloc (.cells a.c.toArray 24)):=ae.alloc (.refl _ _) _;refine⟨a.c,e.rd a.bS,(mO a _).use ?_⟩;rintro _ w1 ⟨s,rfl,h1,l,f,b⟩;have hlen:=a.oB;refine⟨s,rfl,(CQ f (by rw[hlen];split<;>omega)).use ?_⟩;rintro _ ai ⟨d,rfl,av,g,h,i⟩;exact⟨d,rfl,d,rfl,av,g,(hx.trans b).trans h,λk j=>ei (hx.trans b).size (i k j)⟩
theorem yD{kS dR ty:TypeId}{w:J}{b o dl mA:Nat}{s:ad}{l:O UInt8}(hu:Tryz.prog.underlying kS=some (.slice 5))(hs:Src 1 w s (aA l))(e:s.len<=dl)(a:bh w ⟨b,o,none⟩ (aA l)):
 Sem.run aj (Builtin.copy_ #[kS,dR] ty #[.slice (some ⟨b,o,none⟩) dl mA,s]) w=.ok s.len (setCells w ⟨b,o,none⟩ 0 (aA l)):=by
 have f:Nat.min s.len dl=s.len:=jl e;have c:=gE (P:=aj) (w:=w) (t:=5) (d:=.int .u8) (by kernel_rfl);have hc:Tryz.prog.cellsOf 5=1:=by kernel_rfl
 rw[hc]at c;have hf:=nR (P:=aj) hs;have g:=po (P:=aj) (A:=⟨b,o,none⟩) (aA l) 0 w (by simpa using a.1) a.2;simp[Builtin.copy_,cV hu,Builtin.lenOf,c,f,hf,g];rfl
def kW(l:O UInt8)(h:l.length=4):bq:=⟨false,jw 12++l,by simp[jw,h]⟩
theorem ov{s:ad}{l:O UInt8}{w:J}(hs:Src 1 w s (aA l))(b:l.length=4):aL aj 266 #[.slice s.a s.len s.cap] w (λv w'=>v=.agg (kW l b).c.toArray/\Ext w w'):=by
 refine okF (ah.ov s) az.ov func266 ?_;delta ah.ov an z5 aa;have q:s.len=4:=by have:=hs.len;rw[dg]at this;omega
 have f:=Var.new w bq.zero.c 24;have hx:Ext w (w.alloc (.cells bq.zero.c.toArray 24)):=ae.alloc (.refl _ _) _;have e:aJ (some (Addr.add ⟨w.heap.size,0,none⟩ 1)) 1 (Int.toNat 12) 16=some ⟨w.heap.size,13,none⟩:=by
  rw[ay,show Int.toNat 12=12 from rfl,nT (by decide)]
 have h:=hs.ext hx;have i:=bg.bU f 13 (aA l) (by rw[dg,b];simp[bq.bS]) (jW l);have g:=bg.pJ (aA l) 13 0 f;have j:fR bq.zero.c.toArray (13+0) (aA l)=(kW l b).c.toArray:=by
  have h1:=pK (aA l) bq.zero.c.toArray 13 (by rw[dg,b];simp[bq.bS]);rw[dJ (by rw[Array.length_toList,iU,dg,b];simp[bq.bS])]at h1;apply Array.toList_inj.1;rw[k8,h1];have m:(kW l b).c=(.bool false::aA (jw 12))++aA l:=by
   show Value.bool false::aA (jw 12++l)=_;rw[lP];rfl
  rw[m]
  congr 1
 rw[j]at g;refine⟨⟨by decide,by decide⟩,((s.len:Nat):Int),setCells (w.alloc (.cells bq.zero.c.toArray 24)) ⟨w.heap.size,13,none⟩ 0 (aA l),?_,?_⟩
 .rw[e]
  exact yD (by kernel_rfl) h (by show s.len<=4;omega) i
 .have d:Var (setCells (w.alloc (.cells bq.zero.c.toArray 24)) ⟨w.heap.size,13,none⟩ 0 (aA l)) w.heap.size (kW l b).c 24:=g
  have n:Ext w (setCells (w.alloc (.cells bq.zero.c.toArray 24)) ⟨w.heap.size,13,none⟩ 0 (aA l)):=Ext.dj hx (ae.jT (.refl _ _) (aA l) 0) (λk o=>by subst o;exact bl _);have p:=d.put (us:=(kW l b).c) rfl;exact⟨_,d.rd (bq.bS _),d.bU rfl (bq.plain _),by simp[bq.bS],_,p.rd (bq.bS _),rfl,Ext.put n (bl _)⟩
def ie(l:O UInt8):ar bq:=if h:l.length=4 then some (kW l h) else if h:l.length=16 then some ⟨true,l,h⟩ else none
theorem mR{s:ad}{l:O UInt8}{w:J}(hs:Src 1 w s (aA l)):aL aj 216 #[s] w (λv w'=>v=.tuple #[.agg ((ie l).getD bq.zero).c.toArray,.bool (ie l).isSome]/\Ext w w'):=by
 refine okF (ah.mR s) az.mR func216 ?_;delta ah.mR an z5 ao jU vh aa;have n:s.len=l.length:=by have:=hs.len;rw[dg]at this;omega
 have e:=Var.new w bq.zero.c 24;have hx:Ext w (w.alloc (.cells bq.zero.c.toArray 24)):=ae.alloc (.refl _ _) _;have i:=hs.ext hx;unfold ie;refine⟨λh=>?_,λh=>⟨λg=>?_,λg=>?_⟩⟩
 .have d:l.length=4:=by have:=eq_of_beq h;omega
  rw[dif_pos d];refine(ov i d).use ?_;rintro _ ai ⟨rfl,j⟩;have k:=e.ext j;have f:=k.put (us:=(kW l d).c) (by simp[bq.bS]);exact⟨_,rfl,k.bU (by simp[bq.bS]) (bq.plain _),by simp[bq.bS],_,f.rd (bq.bS _),rfl,Ext.put (hx.trans j) (bl _)⟩
 .have d:l.length≠4:=by have:=ne_of_beq_false h;omega
  have b:l.length=16:=by have:=eq_of_beq g;omega
  rw[dif_neg d,dif_pos b];obtain⟨A,aq⟩:∃A,s.a=some A:=by
   cases o:s.a with
   |some A=>exact⟨A,rfl⟩
   |none=>have:=hs.nil o;rw[show l=[] from ta (by simpa[aA] using this)]at b;simp at b
  have m:=i.rd A aq;rw[n,b]at m;have f:=e.put (us:=(bq.mk true l b).c) (by simp[bq.bS]);refine⟨I,A,aq,_,m,_,CP _ true l b,e.bU (by simp[bq.bS]) (bq.plain _),by simp[bq.bS],_,f.rd (bq.bS _),rfl,Ext.put hx (bl _)⟩
 .have d:l.length≠4:=by have:=ne_of_beq_false h;omega
  have b:l.length≠16:=by have:=ne_of_beq_false g;omega
  rw[dif_neg d,dif_neg b];have f:=e.put (us:=bq.zero.c) rfl;exact⟨_,CM _,e.bU rfl (bq.plain _),rfl,_,f.rd (bq.bS _),rfl,Ext.put hx (bl _)⟩
theorem mS(a:bq)(w:J):aL aj 237 #[.agg a.c.toArray] w (λv w'=>v=a.ew/\Ext w w'):=by
 refine ah.CD _ w _ ?_;(delta ah.mS an aW aa ao;dsimp only);have d:=Var.new w a.c 24;have hx:Ext w (w.alloc (.cells a.c.toArray 24)):=ae.alloc (.refl _ _) _;have e:aJ (some (Addr.add w.heap.size 1)) 1 0 16=some ⟨w.heap.size,1,none⟩:=by rw[ay,nT (by decide)]
 refine⟨a.gm,d.cell,cH (λb w1=>b=a.ew/\Ext w w1) (λq f=>⟨λh=>f _ _ ⟨by simp[bq.ew,h],hx⟩,λh=>⟨⟨by decide,by decide⟩,by decide,_,e,(aA (a.b.take 12)),?_,_,CO _,_,CL _ _ (by simp[a.h]) (by simp[jw]),f _ _ ⟨by simp[bq.ew,h],hx⟩⟩⟩) ?_⟩
 .rw[d.td (by rw[a.bS];decide)]
  simp[bq.c,aA,mc]
 .rintro _ w1 ⟨rfl,g⟩
  exact⟨rfl,g⟩
def g5(c k:Nat):Nat:=c/2^(8-k)*2^(8-k)
theorem CR(c k:Nat):g5 c k<=c:=Nat.div_mul_le_self _ _
def qd(c:UInt8)(k:Nat):UInt8:=UInt8.ofNat (g5 c.toNat k)
theorem CS(c:UInt8)(k:Nat):(qd c k).toNat=g5 c.toNat k:=by
 have:=CR c.toNat k;have:=ny c;exact qb I
theorem CT:∀c:Nat,c<256->∀k:Nat,k<9->h8 .u8 (c:Int) (IntKind.wrap .u8 (255*2^(min (Int.toNat (8-(k:Int))) 8)))=((g5 c k:Nat):Int):=by decide+kernel
def kb(n i:Nat):Nat:=min (n-8*i) 8
def jY(n:Nat)(l:O UInt8):O UInt8:=l.mapIdx λi c=>qd c (kb n i)
theorem yE(n:Nat)(l:O UInt8):(jY n l).length=l.length:=by simp[jY]
def iY(n:Nat)(l:O UInt8)(k:Nat):O UInt8:=l.mapIdx λi c=>if i<k then qd c (kb n i) else c
theorem CU(n:Nat)(l:O UInt8):iY n l 0=l:=by
 apply qT
 .simp[iY]
 .intro i h1 a;simp[iY]
theorem CV(n:Nat)(l:O UInt8):iY n l l.length=jY n l:=by
 apply qT
 .simp[iY,jY]
 .intro i h1 a
  have:i<l.length:=by simpa[jY] using a
  simp[iY,jY,this]
theorem CW{n:Nat}{l:O UInt8}{k:Nat}(h:k<l.length):iY n l (k+1)=(iY n l k).set k (qd l[k] (kb n k)):=by
 apply qT
 .simp[iY]
 .intro i h1 b
  simp only[iY,List.getElem_mapIdx,o9];by_cases e:k=i
  .subst e;simp
  .rw[if_neg e]
   by_cases a:i<k
   .simp[a,show i<k+1 from I]
   .simp[a,show¬i<k+1 from I]
theorem CX{n:Nat}{l:O UInt8}{k:Nat}(h:k<l.length):(iY n l k)[k]? =some l[k]:=by simp[iY,h]
theorem CY{l:O UInt8}{i:Nat}{x:UInt8}:(aA l).set i (.int .u8 (x.toNat:Int))=aA (l.set i x):=by simp[aA,List.map_set]
theorem CZ{l:O UInt8}{i:Nat}{x:UInt8}(h:l[i]? =some x):(aA l)[i]? =some (.int .u8 (x.toNat:Int)):=by simp[aA,h]
def gI(a:bq)(n:Int):ar bX:=if a.ew=true/\0<=n/\n<=8*(a.raw.length:Int) then some ⟨(ie (jY n.toNat a.raw)).getD bq.zero,n⟩ else none
theorem C0(a:bq)(n:Int):((((!a.ew)||(decide (n<0)))||(decide (n>8*(a.raw.length:Int))))=true->gI a n=none)/\((((!a.ew)||(decide (n<0)))||(decide (n>8*(a.raw.length:Int))))=false->a.ew=true/\0<=n/\n<=8*(a.raw.length:Int)):=by
 unfold gI
 cases hg:a.ew
 .simp
 .simp;omega
theorem mN(a:bq)(n:Int)(w:J):aL aj 191 #[.agg a.c.toArray,.int .i64 n] w (λv w'=>v=.tuple #[.agg ((gI a n).getD bX.zero).c.toArray,.bool (gI a n).isSome]/\Ext w w'):=by
 refine ah.Cw _ n w _ ?_;(delta ah.mN z3 aa bJ cc ao au aK en st ju z5;dsimp only);refine bd (vs:=a.c) rfl λw1 f u aE=>bd (vs:=bX.zero.c) rfl λai O d aF=>?_;have f:=f.ext d;have d:=Ext.trans u d;have x:w.heap.size<=w1.heap.size:=u.size;have P:w1.heap.size<ai.heap.size:=by omega
 refine⟨a.c,f.rd a.bS,(kl a ai).use ?_⟩;rintro _ Q ⟨s,rfl,g,y,j,hf⟩;have R:=f.ext j;refine⟨s,rfl,a.c,R.rd a.bS,(mS a Q).use ?_⟩;rintro _ z ⟨rfl,l⟩;have o:=(O.ext j).ext l;have S:=g.ext l;have B:Ext w z:=Ext.trans (Ext.trans d j) l;have T:=a.oB;have aG:a.raw.length<=16:=by rw[T];split<;>omega
 obtain⟨U,V⟩:=C0 a n;refine⟨a.ew,rfl,?_⟩;rw[bz (n:=8*((s.len:Nat):Int)) I I];refine⟨λh=>?_,λh=>?_⟩
 .rw[y]at h
  rw[U h];refine⟨_,CN _,o.bU rfl (bX.plain _),rfl,cl o rfl rfl λaH W X _=>?_⟩;exact⟨_,W.rd (bX.bS _),rfl,Ext.cC B X x⟩
 .rw[y]at h
  obtain⟨hg,Y,Z⟩:=V h;refine⟨λi w'=>∃k:Nat,i=k/\k<=a.raw.length/\ae (aC s) z w'/\aZ 1 5 w' s (aA (iY n.toNat a.raw k)),λi _=>((a.raw.length:Int)-i).toNat,⟨0,rfl,cX _,.refl _ _,by rw[CU];exact S⟩,?_⟩;rintro _ e ⟨k,rfl,C,p,q⟩;refine⟨λaI=>?_,λr=>?_⟩
  .have aI:k<a.raw.length:=by have:=cu aI;omega
   have ab:=q.ext (ae.drew (.refl _ _):Ext e e.drew);obtain⟨A,aq,t,D,ac,ad,ag⟩:=ab.at (CZ (CX (n:=n.toNat) aI));have ak:(a.raw[k]).toNat<256:=ny _;have aJ:(8:Int)*(k:Int)=((8*k:Nat):Int):=by omega
   refine⟨_,e,run_max_int2 ..,_,e,run_min_int2 ..,aX ⟨A,aq,t,id,_,D,?_⟩⟩;rw[bz (n:=8*(k:Int)) I I,bz (n:=n-8*(k:Int)) I I];have al:(if (8:Int)<(if (0:Int)>n-8*(k:Int) then 0 else n-8*(k:Int)) then (8:Int) else (if (0:Int)>n-8*(k:Int) then 0 else n-8*(k:Int)))=((kb n.toNat k:Nat):Int):=by
    unfold kb;split<;>split<;>omega
   rw[al];have am:kb n.toNat k<9:=by unfold kb;omega
   rw[bz (n:=8-((kb n.toNat k:Nat):Int)) I I,CT _ ak _ am,bz (n:=(k:Int)+1) I I];refine⟨I,A,aq,t,⟨_,D⟩,ac,aX ⟨⟨k+1,I,I,?_,?_⟩,?_⟩⟩
   .exact ae.set (ae.drew p) (λ_=>ad) _
   .have:=ag (.int .u8 ((qd a.raw[k] (kb n.toNat k)).toNat:Nat))
    rw[CY,←CW aI,CS]at this;exact this
   .show((a.raw.length:Int)-((k:Int)+1)).toNat<((a.raw.length:Int)-(k:Int)).toNat
    omega
  .have r:k=a.raw.length:=by have:=cQ r;omega
   subst r;rw[CV]at q;have an:∀b,b<ai.heap.size->¬aC s b:=λb t g=>by have:=hf b g;omega
   have ap:=o.af p (an _ P);have ar:Ext w e:=Ext.dj B p (λk C=>by have:=hf k C;have:=d.size;omega);refine(mR q.src).use ?_;rintro _ av ⟨rfl,E⟩;have F:Ext w av:=Ext.trans ar E;have G:=ap.ext E;obtain⟨m,H⟩:∃m,m=(ie (jY n.toNat a.raw)).getD bq.zero:=⟨_,rfl⟩;have aw:gI a n=some ⟨m,n⟩:=by unfold gI;rw[if_pos ⟨hg,Y,Z⟩,H]
   rw[←H];refine⟨_,_,rfl,bd (vs:=bq.zero.c) rfl λaM K L aN=>⟨K.bU (by simp[bq.bS]) (bq.plain _),by simp[bq.bS],cl K (us:=m.c) (by simp[bq.bS]) rfl λax ay M _=>?_⟩⟩;have N:=(G.ext L).af M (by have:=G.lt;omega);have az:Ext w ax:=Ext.cC (Ext.trans F L) M F.size;refine⟨m.c,ay.rd (bq.bS _),_,tc _ m n,N.bU (by simp[bX.bS]) (bX.plain _),by simp[bX.bS],cl N (us:=(bX.mk m n).c) (by simp[bX.bS]) rfl λaO aB aD _=>?_⟩;refine⟨_,aB.rd (bX.bS _),?_,Ext.cC az aD x⟩;rw[aw];rfl
theorem Src.sub{w:J}{s:ad}{vs:O Y}{lo hi:Nat}(h:Src 1 w s vs)(hc:s.len<=s.cap)(h1:lo<=hi)(l:hi<=s.len):Src 1 w ⟨aJ s.a 1 lo s.cap,hi-lo,s.cap-lo⟩ ((vs.drop lo).take (hi-lo)):=by
 have m:vs.length=s.len:=by have:=h.len;omega
 refine⟨by simp;omega,λc=>?_,λa b=>?_⟩
 .have f:s.a=none:=by
   unfold aJ at c;split at c
   .exact c
   .simpa using c
  simp[h.nil f]
 .show bE w a 0 ((hi-lo)*1)=_
  by_cases e:hi=lo
  .rw[show hi-lo=0 from I];simp[bE]
  .have aq:∃A,s.a=some A/\a=A.add lo:=by
    unfold aJ at b;rw[if_neg I]at b
    cases hs:s.a with
    |none=>rw[hs]at b;cases b
    |some A=>rw[hs]at b;exact⟨A,rfl,by simpa using b.symm⟩
   obtain⟨A,aq,rfl⟩:=aq;have g:=h.rd A aq;have:=vl (w:=w) (A:=A.add lo) ((vs.drop lo).take (hi-lo)) 0 (λj v d=>by
    rw[add_add];have i:j<hi-lo:=by have:=(jL.1 d).1;simp at this;omega
    rw[List.getElem?_take_of_lt i,qN]at d;have:=rv g d;simpa using this)
   have k:((vs.drop lo).take (hi-lo)).length=hi-lo:=by simp;omega
   rw[k]at this;rw[fH];exact this
def gJ(l:O UInt8):Nat:=l.foldl (λn c=>n*256+c.toNat) 0
theorem C1(l m:O UInt8):gJ (l++m)=m.foldl (λn c=>n*256+c.toNat) (gJ l):=by simp[gJ,List.foldl_append]
theorem vn(l:O UInt8)(c:UInt8):gJ (l++ [c])=gJ l*256+c.toNat:=by rw[C1];rfl
theorem qe:∀ (k:Nat) (l:O UInt8),l.length=k->gJ l<256^k:=by
 intro k
 induction k with
 |zero=>intro l h;rw[nu.1 h];simp[gJ]
 |succ k a=>
  intro l h;obtain⟨m,c,rfl⟩:∃m c,l=m++ [c]:=by
   rcases List.eq_nil_or_concat l with rfl|⟨m,c,b⟩
   .simp at h
   .exact⟨m,c,by rw[b,List.concat_eq_append]⟩
  rw[vn,Nat.pow_succ];have:=a m (by simpa using h);have:=ny c;omega
theorem C2{a b:Nat}(c:a<2^64)(d:b<2^64):lr .u64 (a:Int) (b:Int)=((a|||b:Nat):Int):=by
 have e:BitVec.ofInt 64 (a:Int)=BitVec.ofNat 64 a:=by simp
 have f:BitVec.ofInt 64 (b:Int)=BitVec.ofNat 64 b:=by simp
 unfold lr;show IntKind.u64.wrap (((BitVec.ofInt 64 (a:Int)|||BitVec.ofInt 64 (b:Int)).toNat:Nat):Int)=_;rw[e,f,BitVec.toNat_or,BitVec.toNat_ofNat,BitVec.toNat_ofNat,iL c,iL d];have:a|||b<2^64:=Nat.or_lt_two_pow c d;have:a|||b<18446744073709551616:=this;rw[gj I I]
theorem C3(n c:Nat)(hc:c<256):n*256|||c=n*256+c:=by
 have:=Nat.shiftLeft_add_eq_or_of_lt (i:=8) (b:=c) (by simpa using hc) n;rw[Nat.shiftLeft_eq]at this;exact this.symm
theorem iX{s:ad}{l:O UInt8}{w:J}(hs:Src 1 w s (aA l))(hc:s.len<=s.cap){a k:Nat}(u:1<=k/\k<=8)(x:a+k<=l.length)(y:l.length<=1000000000000):
 aL aj 156 #[s,a,k] w (λv w'=>v=.tuple #[.int .u64 ((gJ ((l.drop a).take k):Nat):Int),true]/\w=w'):=by
 refine okF (ah.iX s a k) az.iX func156 ?_;(delta ah.iX gU ao cc aK en au;dsimp only);have z:s.len=l.length:=by have:=hs.len;rw[dg]at this;omega
 refine Calls.mono (ah.CA s a k w (λv w'=>v=.tuple #[.slice (aJ s.a 1 a s.cap) k (s.cap-a),true]/\w=w') ?_) ?_
 .delta ah.jV ao au
  rw[bz (n:=(s.len:Int)-(a:Int)) I I,bz (n:=(a:Int)+(k:Int)) I I];refine⟨λh=>?_,λ_=>⟨⟨I,I⟩,⟨I,I⟩,?_,rfl⟩⟩
  .simp only[h5,cA]at h;omega
  .rw[show Int.toNat ((a:Int)+(k:Int))-Int.toNat (a:Int)=k from I];rfl
 rintro _ _ ⟨_,rfl,rfl,rfl⟩;refine⟨⟨aJ s.a 1 a s.cap,k,s.cap-a⟩,true,rfl,cH (λb w'=>b=false/\w=w') (λq g=>⟨λh=>by simp at h,λ_=>?_⟩) ?_⟩
 .refine Calls.mono (ah.yA k w (λv w'=>v=true/\w=w') ⟨?_,rfl⟩) ?_
  .have h1:decide ((k:Int)>=1)=true:=dw I
   have d:decide ((k:Int)<=8)=true:=dw I;rw[h1,d];rfl
  .rintro _ _ ⟨_,rfl,rfl,rfl⟩
   exact⟨_,rfl,g _ _ ⟨rfl,rfl⟩⟩
 rintro _ _ ⟨rfl,rfl⟩;have c:=Src.sub hs hc (lo:=a) (hi:=a+k) I I;rw[show a+k-a=k from I]at c;have c:Src 1 w ⟨aJ s.a 1 a s.cap,k,s.cap-a⟩ (aA ((l.drop a).take k)):=by
  simpa[aA,mb,mc] using c
 obtain⟨m,f⟩:∃m,m=(l.drop a).take k:=⟨_,rfl⟩;have B:m.length=k:=by rw[f];simp;omega
 rw[←f]at c⊢;refine⟨λh=>by simp at h,λ_=>⟨λn i w'=>w=w'/\∃j:Nat,i=j/\j<=k/\n=((gJ (m.take j):Nat):Int),λ_ i _=>((k:Int)-i).toNat,⟨rfl,0,rfl,cX _,rfl⟩,?_⟩⟩;rintro _ _ _ ⟨rfl,j,rfl,C,rfl⟩;refine⟨λaI=>?_,λe=>?_⟩
 .have aI:((j:Int)<(k:Int)):=cu aI
  have aI:j<k:=by omega
  obtain⟨A,aq,o,p⟩:=c.at (oy (l:=m) (i:=j) I);have h1:=qe j (m.take j) (by simp;omega);have d:256^j<=256^7:=qU I I;have d:256^j<=72057594037927936:=d;have r:(m[j]).toNat<256:=ny _;have t:((gJ (m.take j):Nat):Int)*2^(min (Int.toNat 8) 64)=((gJ (m.take j)*256:Nat):Int):=by
   show((gJ (m.take j):Nat):Int)*256=_;omega
  refine⟨A,aq,o,_,p,by decide,?_⟩;rw[t,gj (n:=((gJ (m.take j)*256:Nat):Int)) I I,gj (n:=((m[j].toNat:Nat):Int)) I I,C2 (by show _<18446744073709551616;omega) (by show _<18446744073709551616;omega),C3 _ _ r,bz (n:=(j:Int)+1) I I];refine⟨⟨rfl,j+1,I,I,?_⟩,?_⟩
  .rw[take_succ m I,vn]
  .show((k:Int)-((j:Int)+1)).toNat<((k:Int)-(j:Int)).toNat
   omega
 .have e:¬((j:Int)<(k:Int)):=cQ e
  have e:j=k:=by omega
  subst e;exact⟨by rw[dJ I],rfl⟩
theorem vo{w:J}{s:ad}{l:O UInt8}(h:Src 1 w s (aA l))(i:l.length<=1000000):
 aL aj 135 #[s] w (λv w'=>∃b:ad,v=b/\aZ 1 5 w' b (aA l)/\Ext w w'/\∀k,aC b k->w.heap.size<=k):=by
 have j:s.len=l.length:=by have:=h.len;rw[dg]at this;omega
 refine okF (ah.mE s) az.mE func135 ?_;delta ah.mE ao aa;refine⟨λc=>?_,λ_=>?_⟩
 .have c:s.a=none:=by simpa using c
  rw[h.nil c];exact⟨⟨none,0,0⟩,rfl,aZ.none _ _ _,.refl _ _,λk d=>(hN k d).elim⟩
 .obtain⟨b,w',h1,e,m,f,g,_⟩:=qc.clone (dK:=48) h (jW l) I
  exact aX ⟨b,w',h1,b,rfl,e,f,g⟩
theorem C4{w:J}{s:ad}{l:O UInt8}(c:UInt8)(b:aZ 1 5 w s (aA l))(h:l.length<=1000000):
 ∃ (a:ad) (w':J),Sem.run aj (Builtin.append_ #[48,48] 48 #[s,.slice (some w.heap.size) 1 1]) (w.alloc (.cells #[.int .u8 (c.toNat:Int)] 5))=.ok a w'/\
  aZ 1 5 w' a (aA (l++ [c]))/\ae (aC s) w w'/\(∀k,aC a k->aC s k\/w.heap.size<=k):=by
 have i:s.len=l.length:=by have:=b.1;rw[dg]at this;omega
 obtain⟨a,w',h1,d,j,e,f⟩:=qc.push (dK:=48) (w:=w) (s:=s) (xs:=[.int .u8 (c.toNat:Int)]) rfl b (λv g=>by rw[fo.1 g];trivial) I;exact⟨a,w',h1,by rw[lP];exact d,e,f⟩
def bF(n k:Nat):O UInt8:=(List.range k).map λj=>UInt8.ofNat (n/256^(k-1-j)%256)
theorem du(n k:Nat):(bF n k).length=k:=by simp[bF]
theorem gl{s:ad}{l:O UInt8}{w:J}(hs:Src 1 w s (aA l))(D:l.length<=100000){n k:Nat}(g:n<2^64)(E:1<=k/\k<=8):
 aL aj 126 #[s,.int .u64 n,k] w (λv w'=>∃a:ad,v=a/\aZ 1 5 w' a (aA (l++bF n k))/\Ext w w'/\∀q,aC a q->w.heap.size<=q):=by
 have g:n<18446744073709551616:=g;refine okF (ah.gl s n k) az.gl func126 ?_;delta ah.gl bJ cc ao au aa;refine(vo hs I).use ?_;rintro _ w1 ⟨s1,rfl,m,o,p⟩;refine⟨s1,rfl,Calls.mono (ah.yA k w1 (λv w'=>v=true/\w1=w') ⟨?_,rfl⟩) ?_⟩
 .have h1:decide ((k:Int)>=1)=true:=dw I
  have b:decide ((k:Int)<=8)=true:=dw I;rw[h1,b];rfl
 rintro _ _ ⟨_,rfl,rfl,rfl⟩;rw[bz (n:=(k:Int)-1) I I];refine⟨_,rfl,λh=>by simp at h,λ_=>⟨λt i w'=>∃j:Nat,i=(k:Int)-1-j/\j<=k/\Ext w w'/\(∀q,aC t q->w.heap.size<=q)/\aZ 1 5 w' t (aA (l++(bF n k).take j)),λ_ i _=>(i+1).toNat,⟨0,I,I,o,p,by simpa using m⟩,?_⟩⟩;rintro t _ ai ⟨j,rfl,F,c,d,e⟩;refine⟨λaI=>?_,λf=>?_⟩
 .have aI:j<k:=by have:=cu aI;omega
  rw[bz (n:=8*((k:Int)-1-j)) I I,bz (n:=(k:Int)-1-j-1) I I];have r:IntKind.wrap .u8 (Int.fdiv (n:Int) (2^(min (Int.toNat (8*((k:Int)-1-j))) 64)))=((((UInt8.ofNat (n/256^(k-1-j)%256)).toNat:Nat)):Int):=by
   rw[qb (hG _ I),show min (Int.toNat (8*((k:Int)-1-j))) 64=8*(k-1-j) from I,BT];have u:((2:Int)^(8*(k-1-j)))=((256^(k-1-j):Nat):Int):=by
    rw[Int.pow_mul];simp
   rw[u,Int.fdiv_eq_ediv_of_nonneg _ (Int.natCast_nonneg _)];generalize 256^(k-1-j)=z;rfl
  rw[r];obtain⟨x,y,h1,b,A,B⟩:=C4 (UInt8.ofNat (n/256^(k-1-j)%256)) e (by simp[bF];omega);refine⟨I,aX ⟨x,y,h1,⟨j+1,I,I,Ext.dj c A d,λq C=>?_,?_⟩,?_⟩⟩
  .rcases B q C with h|h
   .exact d q h
   .exact ei c.size h
  .rw[take_succ _ (by rw[du];exact aI),←cY]
   have:(bF n k)[j]'(by rw[du];exact aI)=UInt8.ofNat (n/256^(k-1-j)%256):=by simp[bF]
   rw[this];exact b
  .show((k:Int)-1-j-1+1).toNat<((k:Int)-1-j+1).toNat
   omega
 .have f:j=k:=by have:=cQ f;omega
  subst f;rw[dJ (by rw[du];exact bl _)]at e;exact⟨t,rfl,e,c,d⟩
theorem yF{l:O UInt8}{a:bq}(h:ie l=some a):a.ew=true:=by
 unfold ie at h;split at h
 .cases h;simp[kW,bq.ew,jw]
 .split at h
  .cases h;simp[bq.ew]
  .cases h
theorem mJ(a:bq)(n:Int)(w:J):aL aj 125 #[.agg a.c.toArray,.int .i64 n] w (λv w'=>v=.tuple #[.agg ((gI a n).getD bX.zero).c.toArray,.bool (gI a n).isSome]/\Ext w w'):=by
 refine ah.Cm _ n w _ ?_;delta ah.mJ z3 aa ju;refine bd (vs:=a.c) rfl λw1 g b k=>bd (vs:=bX.zero.c) rfl λai h d l=>⟨a.c,(g.ext d).rd a.bS,(mN a n ai).use ?_⟩;rintro _ m ⟨rfl,e⟩;have f:=h.ext e;refine⟨_,_,rfl,f.bU (by simp[bX.bS]) (bX.plain _),by simp[bX.bS],cl f (us:=((gI a n).getD bX.zero).c) (by simp[bX.bS]) rfl λo i j _=>?_⟩;exact⟨_,i.rd (bX.bS _),rfl,Ext.cC (Ext.trans (Ext.trans b d) e) j b.size⟩
theorem bq.qf{cs:O Y}(h:g3 (.bool::jX 16) cs):∃a:bq,cs=a.c:=by
 obtain⟨_,us,rfl,⟨b,rfl⟩,d⟩:=h;obtain⟨l,e,rfl⟩:=yj d;exact⟨⟨b,l,e⟩,rfl⟩
theorem bX.qf{cs:O Y}(h:g3 ((.bool::jX 16)++ [.int .i64]) cs):∃p:bX,cs=p.c/\ -9223372036854775808<=p.bits/\p.bits<=9223372036854775807:=by
 obtain⟨us,ts,rfl,h1,b⟩:=u3 h;obtain⟨a,rfl⟩:=bq.qf h1;obtain⟨_,_,rfl,⟨n,rfl,d,e⟩,rfl⟩:=b;exact⟨⟨a,n⟩,rfl,BP d e⟩
theorem yG{l:O UInt8}{a:bq}(h:ie l=some a):a.raw=l/\(a.gm=true↔l.length=16):=by
 unfold ie at h;split at h
 .rename_i b
  cases h;refine⟨?_,?_⟩
  .show(jw 12++l).drop 12=l
   exact List.drop_left' (by simp[jw])
  .simp[kW,b]
 .split at h
  .rename_i c;cases h;exact⟨rfl,by simp[c]⟩
  .cases h
theorem yH{l:O UInt8}(h:l.length=4\/l.length=16):∃a,ie l=some a:=by
 unfold ie;rcases h with h|h
 .exact⟨_,dif_pos h⟩
 .rw[dif_neg I];exact⟨_,dif_pos h⟩
theorem vp(a:bq):a.raw.length=4\/a.raw.length=16:=by rw[a.oB];split<;>simp
theorem vq{a:bq}{n:Int}{p:bX}(h:gI a n=some p):p.bits=n/\p.addr.ew=true/\p.addr.raw=jY n.toNat a.raw/\p.addr.raw.length=a.raw.length:=by
 unfold gI at h;split at h
 .rename_i hc
  have e:(jY n.toNat a.raw).length=4\/(jY n.toNat a.raw).length=16:=by rw[yE];exact vp a
  obtain⟨b,c⟩:=yH e;rw[c]at h
  cases h;have d:=yG c;exact⟨rfl,yF c,d.1,by show b.raw.length=_;rw[d.1,yE]⟩
 .cases h
theorem oc{s:ad}{l:O UInt8}{w:J}(hs:Src 1 w s (aA l)):aL aj 157 #[s] w (λv w'=>v=.tuple #[.agg ((ie l).getD bq.zero).c.toArray,.bool (ie l).isSome]/\Ext w w'):=by
 refine okF (ah.oc s) az.oc func157 ?_;delta ah.oc z5 ju aa;refine bd (vs:=bq.zero.c) rfl λw1 e a h=>(mR (hs.ext a)).use ?_;rintro _ ai ⟨rfl,b⟩;have d:=e.ext b;refine⟨_,_,rfl,d.bU (by simp[bq.bS]) (bq.plain _),by simp[bq.bS],cl d (us:=((ie l).getD bq.zero).c) (by simp[bq.bS]) rfl λi f g _=>?_⟩;exact⟨_,f.rd (bq.bS _),rfl,Ext.cC (Ext.trans a b) g (bl _)⟩
end Go.Proofs.YtkdhdlfonmgheaaGreat
namespace Go.Proofs.YtkdhdlfonmgheaaGreat
abbrev Key:=O UInt8
abbrev aS:=Key×Key
def eT:Key->Key->Int
 | [],[]=>0
 | [],_::_=> -1
 |_::_,[]=>1
 |a::x,b::y=>if a.toNat<b.toNat then -1 else if b.toNat<a.toNat then 1 else eT x y
theorem C5{a b:UInt8}(h1:¬a.toNat<b.toNat)(c:¬b.toNat<a.toNat):a=b:=UInt8.toNat_inj.1 I
theorem vr:∀a:Key,eT a a=0
 | []=>rfl
 |a::x=>by simp[eT,vr x]
theorem vt:∀ {a b:Key},eT a b=0->a=b
 | [],[],_=>rfl
 | [],_::_,h=>by simp[eT]at h
 |_::_,[],h=>by simp[eT]at h
 |a::x,b::y,h=>by
  unfold eT at h
  split at h
  .cases h
  .rename_i h1
   split at h
   .cases h
   .rename_i c
    rw[C5 h1 c,vt h]
theorem C6{a b:Key}:eT a b=0↔a=b:=⟨vt,λh=>h▸vr _⟩
theorem yI:∀a b:Key,eT a b= -1\/eT a b=0\/eT a b=1
 | [],[]=>.inr (.inl rfl)
 | [],_::_=>.inl rfl
 |_::_,[]=>.inr (.inr rfl)
 |a::x,b::y=>by
  unfold eT
  split
  .exact .inl rfl
  .split
   .exact .inr (.inr rfl)
   .exact yI x y
theorem yJ:∀a b:Key,eT b a=-eT a b
 | [],[]=>rfl
 | [],_::_=>rfl
 |_::_,[]=>rfl
 |a::x,b::y=>by
  unfold eT
  by_cases h1:a.toNat<b.toNat
  .have c:¬b.toNat<a.toNat:=by omega
   simp[h1,c]
  .by_cases c:b.toNat<a.toNat
   .simp[h1,c]
   .simp only[h1,c,if_false]
    exact yJ x y
theorem yK:∀ {a b c:Key},eT a b<0->eT b c<0->eT a c<0
 | [],[],_,h,_=>by simp[eT]at h
 | [],_::_,[],_,h=>by simp[eT]at h
 | [],_::_,_::_,_,_=>by simp[eT]
 |_::_,[],_,h,_=>by simp[eT]at h
 |_::_,_::_,[],_,h=>by simp[eT]at h
 |a::x,b::y,c::z,h1,d=>by
  unfold eT at h1 d⊢
  by_cases a1:a.toNat<b.toNat
  .by_cases a2:b.toNat<c.toNat
   .rw[if_pos I];decide
   .rw[if_neg a2]at d
    by_cases a3:c.toNat<b.toNat
    .rw[if_pos a3]at d;omega
    .rw[if_pos I];decide
  .rw[if_neg a1]at h1
   by_cases a2:b.toNat<a.toNat
   .rw[if_pos a2]at h1;omega
   .rw[if_neg a2]at h1
    by_cases a3:b.toNat<c.toNat
    .rw[if_pos I];decide
    .rw[if_neg a3]at d
     by_cases a4:c.toNat<b.toNat
     .rw[if_pos a4]at d;omega
     .rw[if_neg a4]at d
      rw[if_neg I,if_neg I]
      exact yK h1 d
def bP(a b:Key):Prop:=eT a b<0
def gn(a b:Key):Prop:=¬eT b a<0
instance (a b:Key):Decidable (bP a b):=by unfold bP;infer_instance
instance (a b:Key):Decidable (gn a b):=by unfold gn;infer_instance
theorem kX{a b c:Key}(h1:bP a b)(d:bP b c):bP a c:=yK h1 d
theorem oC(a:Key):¬bP a a:=by unfold bP;rw[vr];decide
theorem jZ{a b:Key}(h:bP a b):¬bP b a:=λc=>oC a (kX h c)
theorem tf(a b:Key):bP a b\/a=b\/bP b a:=by
 unfold bP;have h:=yJ a b;rcases yI a b with h1|h1|h1
 .exact .inl I
 .exact .inr (.inl (vt h1))
 .exact .inr (.inr I)
theorem m0{a b:Key}:gn a b↔bP a b\/a=b:=by
 constructor
 .intro h
  rcases tf a b with h1|h1|h1
  .exact .inl h1
  .exact .inr h1
  .exact absurd h1 h
 .rintro(h|rfl)
  .exact jZ h
  .exact oC _
theorem C7(a:Key):gn a a:=oC a
theorem hU{a b:Key}(h:bP a b):gn a b:=m0.2 (.inl h)
theorem yL{a b:Key}:¬bP a b↔gn b a:=Iff.rfl
theorem m3{a b c:Key}(h1:bP a b)(d:gn b c):bP a c:=by
 rcases m0.1 d with h|rfl
 .exact kX h1 h
 .exact h1
theorem jx{a b c:Key}(h1:gn a b)(d:bP b c):bP a c:=by
 rcases m0.1 h1 with h|rfl
 .exact kX h d
 .exact d
theorem yM{a b c:Key}(h1:gn a b)(d:gn b c):gn a c:=by
 rcases m0.1 h1 with h|rfl
 .exact hU (m3 h d)
 .exact d
def ig(l:O aS):Prop:=l.Pairwise λa b=>bP a.1 b.1
def fK(l:O aS)(k v:Key):O aS:=(l.filter λp=>decide (bP p.1 k))++(k,v)::l.filter λp=>decide (bP k p.1)
def fT(l:O aS)(k:Key):O aS:=l.filter λp=>decide (p.1≠k)
def gx(l:O aS)(k:Key):ar Key:=(l.find? λp=>decide (p.1=k)).map (·.2)
def e2(lo hi:ar Key)(k:Key):Prop:=(∀a,lo=some a->gn a k)/\(∀b,hi=some b->bP k b)
theorem C8{a b:O aS}{k v:Key}(h:∀p∈b,bP k p.1):fK (a++b) k v=fK a k v++b:=by
 have d:b.filter (λp=>decide (bP p.1 k))=[]:=o_.2 λp c=>by simpa using jZ (h p c)
 have e:b.filter (λp=>decide (bP k p.1))=b:=kD.2 λp c=>dw (h p c);unfold fK;rw[kE,kE,d,e,fY,cY,o3]
theorem C9{a b:O aS}{k v:Key}(h:∀p∈a,bP p.1 k):fK (a++b) k v=a++fK b k v:=by
 have d:a.filter (λp=>decide (bP p.1 k))=a:=kD.2 λp c=>dw (h p c);have e:a.filter (λp=>decide (bP k p.1))=[]:=o_.2 λp c=>by simpa using jZ (h p c)
 unfold fK;rw[kE,kE,d,e,kc,cY]
theorem tg(a b:O aS)(k:Key):fT (a++b) k=fT a k++fT b k:=kE ..
theorem vu{a:O aS}{k:Key}(h:∀p∈a,p.1≠k):fT a k=a:=kD.2 λp b=>dw (h p b)
theorem oD{a b:Key}(h:bP a b):a≠b:=λe=>oC b (e▸h)
theorem C_{a b:O aS}:ig (a++b)↔ig a/\ig b/\∀p∈a,∀q∈b,bP p.1 q.1:=pb
theorem Da{l:O aS}{k v:Key}{p:aS}:p∈fK l k v↔p=(k,v)\/(p∈l/\p.1≠k):=by
 unfold fK;rw[cL,c7,gf,gf,cA,cA];constructor
 .rintro(⟨h,a⟩|rfl|⟨h,a⟩)
  .exact .inr ⟨h,oD a⟩
  .exact .inl rfl
  .exact .inr ⟨h,(oD a).symm⟩
 .rintro(rfl|⟨h,a⟩)
  .exact .inr (.inl rfl)
  .rcases tf p.1 k with b|b|b
   .exact .inl ⟨h,b⟩
   .exact absurd b a
   .exact .inr (.inr ⟨h,b⟩)
end Go.Proofs.YtkdhdlfonmgheaaGreat
namespace Go.Proofs.YtkdhdlfonmgheaaGreat
structure aB where
 leaf:al
 keys:O Key
 vals:O Key
 kids:O Nat
 deriving DecidableEq
abbrev Below:=ar Key->ar Key->Nat->O Nat->O aS->Prop
inductive dS (W:Below):ar Key->ar Key->O Key->O Nat->O Nat->O aS->Prop
 |one {lo hi:ar Key}{k:Nat}{p:O Nat}{L:O aS} (h:W lo hi k p L):dS W lo hi [] [k] p L
 |cons {lo hi:ar Key}{s:Key}{k:Nat}{bo bj:O Nat}{bm bG:O aS}{ks:O Key}{kids:O Nat} (h:W lo (some s) k bo bm) (t:dS W (some s) hi ks kids bj bG):
  dS W lo hi (s::ks) (k::kids) (bo++bj) (bm++bG)
variable {W:Below}{lo hi:ar Key}
theorem dS.len{ks:O Key}{kids p:O Nat}{L:O aS}(h:dS W lo hi ks kids p L):kids.length=ks.length+1:=by
 induction h with
 |one _=>rfl
 |cons _ _ a=>simp[a]
theorem dS.app{s:Key}{g6 jy:O Key}{hV km bo bj:O Nat}{bm bG:O aS}(h1:dS W lo (some s) g6 hV bo bm)(b:dS W (some s) hi jy km bj bG):
 dS W lo hi (g6++s::jy) (hV++km) (bo++bj) (bm++bG):=by
 generalize a:some s=m at h1
 induction h1 with
 |one h=>subst a;exact .cons h b
 |cons h t c=>
  rw[cY,cY];exact .cons h (c a)
theorem dS.cut:∀ {g6:O Key}{s:Key}{jy:O Key}{lo:ar Key}{kids p:O Nat}{L:O aS},dS W lo hi (g6++s::jy) kids p L->
 ∃ (hV km bo bj:O Nat) (bm bG:O aS),kids=hV++km/\p=bo++bj/\L=bm++bG/\dS W lo (some s) g6 hV bo bm/\dS W (some s) hi jy km bj bG
 | [],s,jy,lo,kids,p,L,h=>by
  cases h with
  |cons h t=>exact⟨_,_,_,_,_,_,rfl,rfl,rfl,.one h,t⟩
 |a::g6,s,jy,lo,kids,p,L,h=>by
  cases h with
  |cons h t=>
   obtain⟨cn,cp,bo,bj,bm,bG,rfl,rfl,rfl,h1,b⟩:=dS.cut t
   exact⟨_::cn,cp,_++bo,bj,_++bm,bG,rfl,by rw[cY],by rw[cY],.cons h h1,b⟩
theorem dS.kn{V:Below}{ks:O Key}{kids p:O Nat}{L:O aS}(h:dS W lo hi ks kids p L)(b:∀lo hi k a L,(∀x∈a,x∈p)->W lo hi k a L->V lo hi k a L):dS V lo hi ks kids p L:=by
 induction h with
 |one h=>exact .one (b _ _ _ _ _ (λ_ h=>h) h)
 |cons h _ c=>
  exact .cons (b _ _ _ _ _ (λx hx=>iv _ hx) h) (c λlo hi k a L hs=>b lo hi k a L λx hx=>gD _ (hs x hx))
def cR(k:Key):Prop:=1<=k.length/\k.length<=24
structure th(n:aB):Prop where
 ok:∀k∈n.keys,cR k
 e9:n.keys.Pairwise bP
structure g7(n:aB):Prop extends th n where
 leaf:n.leaf=true
 len:n.vals.length=n.keys.length
 kids:n.kids=[]
 vals:∀v∈n.vals,v.length<=24
structure yN(n:aB):Prop extends th n where
 inner:n.leaf=false
 some:n.keys≠ []
 len:n.kids.length=n.keys.length+1
 vals:n.vals=[]
 kids:∀k∈n.kids,k<1600
def aB.fu(n:aB):O aS:=n.keys.zip n.vals
def aB.within(n:aB)(lo hi:ar Key):Prop:=∀k∈n.keys,e2 lo hi k
def e_(P:Nat->ar aB):Nat->Below
 |0=> λ_ _ _ _ _=>False
 |1=> λlo hi no p L=>∃n,P no=some n/\g7 n/\n.within lo hi/\n.keys≠ []/\p=[no]/\L=n.fu
 |h+2=> λlo hi no p L=>∃n a,P no=some n/\yN n/\n.within lo hi/\p=no::a/\
  dS (λlo hi k p L=>e_ P (h+1) lo hi k p L/\∃m,P k=some m/\2<=m.keys.length) lo hi n.keys n.kids a L
theorem e_.agree{P Q:Nat->ar aB}:∀ {h:Nat}{lo hi:ar Key}{no:Nat}{p:O Nat}{L:O aS},e_ P h lo hi no p L->(∀x∈p,P x=Q x)->e_ Q h lo hi no p L/\no∈p
 |0,_,_,_,_,_,e,_=>e.elim
 |1,_,_,no,_,_,⟨n,h1,a,f,g,c,i⟩,b=>by
  have d:no∈ [no]:=by simp
  rw[c]
  exact⟨⟨n,by rw[←b no (by rw[c];exact d)];exact h1,a,f,g,rfl,i⟩,d⟩
 |h+2,_,_,no,_,_,⟨n,j,h1,a,f,g,c⟩,b=>by
  subst g
  refine⟨⟨n,j,by rw[←b no (by simp)];exact h1,a,f,rfl,c.kn λlo hi k q L hs ⟨e,m,d,a⟩=>?_⟩,by simp⟩
  have:=e_.agree e λx hx=>b x (iJ _ (hs x hx))
  exact⟨this.1,m,by rw[←b k (iJ _ (hs k this.2))];exact d,a⟩
end Go.Proofs.YtkdhdlfonmgheaaGreat
namespace Go.Proofs.YtkdhdlfonmgheaaGreat
variable {W:Below}{lo hi:ar Key}{P:Nat->ar aB}
theorem Db{lo hi:ar Key}{s k:Key}(h1:e2 lo (some s) k)(a:e2 lo hi s):e2 lo hi k:=
 ⟨h1.1,λb c=>kX (h1.2 s rfl) (a.2 b c)⟩
theorem Dc{lo hi:ar Key}{s k:Key}(h1:e2 (some s) hi k)(b:e2 lo hi s):e2 lo hi k:=
 ⟨λa c=>yM (b.1 a c) (h1.1 s rfl),h1.2⟩
theorem dS.e9{ks:O Key}{kids p:O Nat}{L:O aS}(h:dS W lo hi ks kids p L)(cD:∀lo hi k p L,W lo hi k p L->ig L/\∀q∈L,e2 lo hi q.1)(e:ks.Pairwise bP)(c:∀s∈ks,e2 lo hi s):
 ig L/\∀q∈L,e2 lo hi q.1:=by
 induction h with
 |one h=>exact cD _ _ _ _ _ h
 | @cons lo hi s k bo bj bm bG ks kids h t f=>
  obtain⟨r1,cf⟩:=cD _ _ _ _ _ h;have d:=kF.1 e;obtain⟨aF,bH⟩:=f d.2 λx hx=>⟨λa g=>by cases g;exact hU (d.1 x hx),(c x (iJ _ hx)).2⟩;have hs:=c s qS;refine⟨C_.2 ⟨r1,aF,λx hx y i=>m3 ((cf x hx).2 s rfl) ((bH y i).1 s rfl)⟩,λq b=>?_⟩;rcases cL.1 b with b|b
  .exact Db (cf q b) hs
  .exact Dc (bH q b) hs
theorem yO:∀ {ks vs:O Key},ks.Pairwise bP->ig (ks.zip vs)
 | [],vs,_=>by rw[List.zip_nil_left];exact List.Pairwise.nil
 |k::ks,[],_=>by rw[List.zip_nil_right];exact List.Pairwise.nil
 |k::ks,v::vs,h=>by
  rw[List.zip_cons_cons]
  have:=kF.1 h
  exact kF.2 ⟨λq a=>this.1 _ (List.of_mem_zip a).1,yO this.2⟩
theorem g7.fu{n:aB}(h:g7 n):ig n.fu/\n.fu.length=n.keys.length:=⟨yO h.e9,by unfold aB.fu;rw[pc,h.len,Nat.min_self]⟩
theorem e_.e9:∀ {h:Nat}{lo hi:ar Key}{no:Nat}{p:O Nat}{L:O aS},e_ P h lo hi no p L->ig L/\∀q∈L,e2 lo hi q.1
 |0,_,_,_,_,_,a=>a.elim
 |1,_,_,_,_,_,⟨n,_,b,c,_,_,d⟩=>by
  subst d
  exact⟨b.fu.1,λq e=>c _ (List.of_mem_zip e).1⟩
 |h+2,_,_,_,_,_,⟨n,_,_,b,c,_,f⟩=>f.e9 (λ_ _ _ _ _ a=>e_.e9 a.1) b.e9 c
theorem dS.count{ks:O Key}{kids p:O Nat}{L:O aS}(h:dS W lo hi ks kids p L){c:Nat}(cD:∀lo hi k p L,W lo hi k p L->p.length+1<=L.length/\c<=L.length):
 p.length+kids.length<=L.length/\c*kids.length<=L.length:=by
 induction h with
 |one h=>have:=cD _ _ _ _ _ h;simp;omega
 |cons h _ a=>
  have:=cD _ _ _ _ _ h;simp only[cM,hJ,Nat.mul_add,fH];omega
theorem e_.count:∀ {h:Nat}{lo hi:ar Key}{no:Nat}{p:O Nat}{L:O aS},e_ P h lo hi no p L->((∃m,P no=some m/\2<=m.keys.length)\/2<=h)->p.length+1<=L.length/\2^h<=L.length
 |0,_,_,_,_,_,d,_=>d.elim
 |1,_,_,_,_,_,⟨n,h1,b,_,_,f,g⟩,a=>by
  rcases a with ⟨m,e,a⟩|a
  .rw[h1]at e
   cases e
   subst f g
   have:=b.fu.2
   simp only[h6];omega
  .omega
 |h+2,_,_,_,_,_,⟨n,j,_,b,_,i,f⟩,_=>by
  have hc:=f.count (c:=2^(h+1)) λlo hi k p L ⟨d,a⟩=>e_.count d (.inl a)
  have l:=b.len
  have hs:1<=n.keys.length:=List.length_pos_iff.2 b.some
  subst i
  have:2^(h+1)*2<=2^(h+1)*n.kids.length:=Nat.mul_le_mul_left _ I
  rw[Nat.pow_succ 2 (h+1)]
  simp only[hJ]
  omega
theorem e_.pages{h:Nat}{lo hi:ar Key}{no:Nat}{p:O Nat}{L:O aS}(a:e_ P h lo hi no p L):p.length<=L.length/\1<=L.length/\(2<=h->2^h<=L.length):=by
 match h with
 |0=>exact a.elim
 |1=>
  obtain⟨n,h1,b,_,c,d,e⟩:=a;subst d e;have:=b.fu.2;have f:=List.length_pos_iff.2 c;simp only[h6];exact⟨I,I,I⟩
 |h+2=>
  have:=e_.count a (.inr I);exact⟨I,I,λ_=>this.2⟩
end Go.Proofs.YtkdhdlfonmgheaaGreat
namespace Go.Proofs.YtkdhdlfonmgheaaGreat
variable {W V:Below}{lo hi:ar Key}
inductive eU (W:Below) (lo:ar Key):ar Key->O Key->O Nat->O Nat->O aS->Prop
 |nil:eU W lo lo [] [] [] []
 |more {s:Key}{ks:O Key}{kids p:O Nat}{L:O aS} (h:dS W lo (some s) ks kids p L):eU W lo (some s) (ks++ [s]) kids p L
inductive fL (W:Below) (hi:ar Key):ar Key->O Key->O Nat->O Nat->O aS->Prop
 |nil:fL W hi hi [] [] [] []
 |more {s:Key}{ks:O Key}{kids p:O Nat}{L:O aS} (h:dS W (some s) hi ks kids p L):fL W hi (some s) (s::ks) kids p L
variable {m:ar Key}{g6 jy:O Key}{hV km bo bj:O Nat}{bm bG:O aS}
theorem eU.Dd(h1:eU W lo m g6 hV bo bm)(a:dS W m hi jy km bj bG):dS W lo hi (g6++jy) (hV++km) (bo++bj) (bm++bG):=by
 cases h1 with
 |nil=>exact a
 |more h=>rw[cY];exact h.app a
theorem dS.post(h1:dS W lo m g6 hV bo bm)(a:fL W hi m jy km bj bG):dS W lo hi (g6++jy) (hV++km) (bo++bj) (bm++bG):=by
 cases a with
 |nil=>simpa using h1
 |more h=>exact h1.app h
theorem eU.cons{s:Key}{k:Nat}{p:O Nat}{L:O aS}(h:W lo (some s) k p L)(t:eU W (some s) m g6 hV bo bm):eU W lo m (s::g6) (k::hV) (p++bo) (L++bm):=by
 cases t with
 |nil=>rw[fY,fY];exact eU.more (ks:=[]) (.one h)
 |more t=>exact eU.more (ks:=s::_) (.cons h t)
theorem eU.kn(h:eU W lo m g6 hV bo bm)(b:∀lo hi k a L,(∀x∈a,x∈bo)->W lo hi k a L->V lo hi k a L):eU V lo m g6 hV bo bm:=by
 cases h with
 |nil=>exact .nil
 |more h=>exact .more (h.kn b)
theorem fL.kn(h:fL W hi m g6 hV bo bm)(b:∀lo hi k a L,(∀x∈a,x∈bo)->W lo hi k a L->V lo hi k a L):fL V hi m g6 hV bo bm:=by
 cases h with
 |nil=>exact .nil
 |more h=>exact .more (h.kn b)
theorem dS.at{ks:O Key}{kids p:O Nat}{L:O aS}(h:dS W lo hi ks kids p L):∀ (i:Nat) (c:i<kids.length),∃ (d e:ar Key) (bo q bj:O Nat) (bm M bG:O aS),
 p=bo++(q++bj)/\L=bm++(M++bG)/\W d e kids[i] q M/\eU W lo d (ks.take i) (kids.take i) bo bm/\fL W hi e (ks.drop i) (kids.drop (i+1)) bj bG:=by
 induction h with
 | @one lo hi k p L h=>
  intro i c;have:i=0:=by simp at c;omega
  subst this;exact⟨lo,hi,[],p,[],[],L,[],by simp,by simp,h,.nil,.nil⟩
 | @cons lo hi s k bo bj bm bG ks kids h t f=>
  intro i c
  cases i with
  |zero=>exact⟨lo,some s,[],bo,bj,[],bm,bG,rfl,rfl,h,.nil,.more t⟩
  |succ i=>
   obtain⟨d,e,a,q,b,A,M,B,rfl,rfl,h1,g,j⟩:=f i (by simpa using c);exact⟨d,e,bo++a,q,b,bm++A,M,B,by rw[cY],by rw[cY],h1,eU.cons h g,j⟩
theorem eU.inv{kids p:O Nat}{L:O aS}(h:eU W lo m [] kids p L):m=lo/\kids=[]/\p=[]/\L=[]:=by
 generalize e:([]:O Key)=K at h
 cases h with
 |nil=>exact⟨rfl,rfl,rfl,rfl⟩
 |more h=>simp at e
theorem fL.head{ks:O Key}{kids p:O Nat}{L:O aS}(h:fL W hi m ks kids p L)(b:0<kids.length):∃ (s:Key) (a:ar Key) (q bj:O Nat) (M bG:O aS) (hs:0<ks.length),
 m=some s/\s=ks[0]/\p=q++bj/\L=M++bG/\W (some s) a (kids[0]) q M/\fL W hi a (ks.drop 1) (kids.drop 1) bj bG:=by
 cases h with
 |nil=>simp at b
 | @more s ks kids p L h=>
  obtain⟨e,a,bo,q,bj,bm,M,bG,rfl,rfl,h1,c,d⟩:=h.at 0 b;rw[List.take_zero]at c;obtain⟨rfl,_,rfl,rfl⟩:=c.inv;exact⟨s,a,q,bj,M,bG,by simp,rfl,rfl,rfl,rfl,h1,by simpa using d⟩
end Go.Proofs.YtkdhdlfonmgheaaGreat
namespace Go.Proofs.YtkdhdlfonmgheaaGreat
variable {W V:Below}{lo hi m:ar Key}
def ey(ks:O Key)(k:Key):Nat:=ks.findIdx λs=>decide (bP k s)
theorem vv(ks:O Key)(k:Key):ey ks k<=ks.length:=List.findIdx_le_length
theorem De{ks:O Key}{k:Key}{i:Nat}(h:i<ey ks k)(hi:i<ks.length):gn ks[i] k:=by
 have:=List.not_of_lt_findIdx h;exact yL.1 (by simpa using this)
theorem Df{ks:O Key}{k:Key}(h:ey ks k<ks.length):bP k ks[ey ks k]:=by
 have:=List.findIdx_getElem (p:=λs=>decide (bP k s)) (xs:=ks) (w:=h);exact cu this
theorem eU.Dg{i:Nat}{ks:O Key}{kids p:O Nat}{L:O aS}(h:eU W lo m (ks.take i) kids p L){k:Key}(b:∀ (j:Nat) (c:j<ks.length),j<i->gn ks[j] k)(d:∀a,lo=some a->gn a k):∀a,m=some a->gn a k:=by
 generalize e:ks.take i=K at h
 cases h with
 |nil=>exact d
 | @more s l kids p L h=>
  intro a f
  cases f;have g:s∈ks.take i:=by rw[e];simp
  obtain⟨j,c,rfl⟩:=List.mem_take_iff_getElem.1 g;exact b j I I
theorem fL.Dh{i:Nat}{ks:O Key}{kids p:O Nat}{L:O aS}(h:fL W hi m (ks.drop i) kids p L){k:Key}(b:∀ (h:i<ks.length),bP k ks[i])(c:∀a,hi=some a->bP k a):∀a,m=some a->bP k a:=by
 generalize e:ks.drop i=K at h
 cases h with
 |nil=>exact c
 | @more s f kids p L h=>
  intro a d
  cases d;have aI:i<ks.length:=by
   have:=congrArg List.length e;simp at this;omega
  have:ks[i]=s:=by
   have:=l_ aI;rw[e]at this;exact(List.cons.inj this).1.symm
  rw[←this];exact b aI
theorem eU.below{ks:O Key}{kids p:O Nat}{L:O aS}(h:eU W lo m ks kids p L)(cD:∀lo hi k p L,W lo hi k p L->ig L/\∀q∈L,e2 lo hi q.1)(f:ks.Pairwise bP)(c:∀s∈ks,e2 lo hi s)
 {k:Key} (g:∀a,m=some a->gn a k):∀q∈L,bP q.1 k:=by
 cases h with
 |nil=>intro q d;cases d
 | @more s i kids p L h=>
  have e:=pb.1 f;have:=h.e9 cD e.1 λx hx=>⟨(c x (by simp[hx])).1,λb c=>by cases c;exact e.2.2 x hx s (by simp)⟩;exact λq d=>m3 ((this.2 q d).2 s rfl) (g s rfl)
theorem fL.Di{ks:O Key}{kids p:O Nat}{L:O aS}(h:fL W hi m ks kids p L)(cD:∀lo hi k p L,W lo hi k p L->ig L/\∀q∈L,e2 lo hi q.1)(d:ks.Pairwise bP)(e:∀s∈ks,e2 lo hi s)
 {k:Key} (f:∀a,m=some a->bP k a):∀q∈L,bP k q.1:=by
 cases h with
 |nil=>intro q b;cases b
 | @more s i kids p L h=>
  have c:=kF.1 d;have:=h.e9 cD c.2 λx hx=>⟨λa g=>by cases g;exact hU (c.1 x hx),(e x (by simp[hx])).2⟩;exact λq b=>m3 (f s rfl) ((this.2 q b).1 s rfl)
def Loc(k:Key)(u:O aS->O aS):Prop:=∀bm M bG:O aS,(∀p∈bm,bP p.1 k)->(∀p∈bG,bP k p.1)->u (bm++(M++bG))=bm++(u M++bG)
theorem Dj(k v:Key):Loc k λL=>fK L k v:=λbm M bG h1 a=>by
 show fK _ _ _=_
 rw[C9 h1,C8 a]
theorem Dk(k:Key):Loc k λL=>fT L k:=λbm M bG h1 b=>by
 show fT _ _=_
 rw[tg,tg,vu λp a=>oD (h1 p a),vu λp a=>(oD (b p a)).symm]
end Go.Proofs.YtkdhdlfonmgheaaGreat
namespace Go.Proofs.YtkdhdlfonmgheaaGreat
variable {W V:Below}{lo hi m:ar Key}{P Q:Nat->ar aB}
def eN(P:Nat->ar aB)(h:Nat):Below:=λlo hi k p L=>e_ P h lo hi k p L/\∃m,P k=some m/\2<=m.keys.length
theorem eN.agree{h no:Nat}{p:O Nat}{L:O aS}(b:eN P h lo hi no p L)(a:∀x∈p,P x=Q x):eN Q h lo hi no p L:=by
 obtain⟨h1,m,c,d⟩:=b;have:=h1.agree a;exact⟨this.1,m,by rw[←a no this.2];exact c,d⟩
theorem Dl{α:Type}{l:O α}(h:1<=l.length):l≠ []:=λe=>by subst e;simp at h
theorem eN.in{h no:Nat}{p:O Nat}{L:O aS}(a:eN P h lo hi no p L):L≠ []/\ig L/\∀q∈L,e2 lo hi q.1:=⟨Dl a.1.pages.2.1,a.1.e9⟩
theorem dS.sorted{ks:O Key}{kids p:O Nat}{L:O aS}(h:dS W lo hi ks kids p L)(cD:∀lo hi k p L,W lo hi k p L->L≠ []/\ig L/\∀q∈L,e2 lo hi q.1):
 L≠ []/\(∀q∈L,e2 lo hi q.1)/\ks.Pairwise bP/\∀s∈ks,(∀a,lo=some a->bP a s)/\∀b,hi=some b->bP s b:=by
 induction h with
 |one h=>exact⟨(cD _ _ _ _ _ h).1,(cD _ _ _ _ _ h).2.2,.nil,by simp⟩
 | @cons lo hi s k bo bj bm bG ks kids h t l=>
  obtain⟨bL,_,cf⟩:=cD _ _ _ _ _ h;obtain⟨bx,bH,aF,ai⟩:=l;obtain⟨x,hx⟩:=pd _ bL;obtain⟨y,i⟩:=pd _ bx;have f:∀a,lo=some a->bP a s:=λa e=>jx ((cf x hx).1 a e) ((cf x hx).2 s rfl);have j:∀b,hi=some b->bP s b:=λb g=>jx ((bH y i).1 s rfl) ((bH y i).2 b g);refine⟨by simp[bL],λq c=>?_,kF.2 ⟨λz d=>(ai z d).1 s rfl,aF⟩,λz d=>?_⟩
  .rcases cL.1 c with c|c
   .exact⟨(cf q c).1,λb g=>kX ((cf q c).2 s rfl) (j b g)⟩
   .exact⟨λa e=>hU (m3 (f a e) ((bH q c).1 s rfl)),(bH q c).2⟩
  .rcases c7.1 d with rfl|d
   .exact⟨f,j⟩
   .exact⟨λa e=>kX (f a e) ((ai z d).1 s rfl),(ai z d).2⟩
def cZ(P:Nat->ar aB):Nat->aB->ar Key->ar Key->O Nat->O aS->Prop
 |0,_,_,_,_,_=>False
 |1,n,lo,hi,p,L=>g7 n/\n.within lo hi/\p=[]/\L=n.fu
 |h+2,n,lo,hi,p,L=>n.leaf=false/\n.vals=[]/\(∀k∈n.keys,cR k)/\(∀k∈n.kids,k<1600)/\dS (eN P (h+1)) lo hi n.keys n.kids p L
theorem cZ.agree:∀ {h:Nat}{n:aB}{p:O Nat}{L:O aS},cZ P h n lo hi p L->(∀x∈p,P x=Q x)->cZ Q h n lo hi p L
 |0,_,_,_,h,_=>h.elim
 |1,_,_,_,h,_=>h
 |_+2,_,_,_,⟨h1,a,b,c,d⟩,e=>⟨h1,a,b,c,d.kn λ_ _ _ _ _ hs f=>f.agree λx hx=>e x (hs x hx)⟩
theorem cZ.lay:∀ {h:Nat}{n:aB}{x:Nat}{p:O Nat}{L:O aS},cZ P h n lo hi p L->n.keys≠ []->Q x=some n->(∀y∈p,P y=Q y)->e_ Q h lo hi x (x::p) L
 |0,_,_,_,_,h,_,_,_=>h.elim
 |1,n,x,p,L,⟨h1,b,c,d⟩,e,hx,_=>by
  subst c
  exact⟨n,hx,h1,b,e,rfl,d⟩
 |h+2,n,x,p,L,i,e,hx,j=>by
  obtain⟨h1,b,c,d,f⟩:=i.agree j
  have hs:=f.sorted λ_ _ _ _ _ k=>k.in
  exact⟨n,p,hx,⟨⟨c,hs.2.2.1⟩,h1,e,f.len,b,d⟩,λs g=>⟨λa l=>hU ((hs.2.2.2 s g).1 a l),(hs.2.2.2 s g).2⟩,rfl,f⟩
def aB.left(n:aB)(i:Nat):aB:=if n.leaf then ⟨true,n.keys.take i,n.vals.take i,[]⟩ else ⟨false,n.keys.take i,[],n.kids.take (i+1)⟩
def aB.right(n:aB)(i:Nat):aB:=if n.leaf then ⟨true,n.keys.drop i,n.vals.drop i,[]⟩ else ⟨false,n.keys.drop (i+1),[],n.kids.drop (i+1)⟩
theorem cZ.leaf{h:Nat}{n:aB}{p:O Nat}{L:O aS}(a:cZ P h n lo hi p L):n.leaf=decide (h=1):=by
 match h,a with
 |0,a=>exact a.elim
 |1,a=>rw[a.1.leaf];rfl
 |h+2,a=>rw[a.1];simp
theorem cZ.vw{h:Nat}{n:aB}{p:O Nat}{L:O aS}(g:cZ P h n lo hi p L){i:Nat}(h1:1<=i)(m:i<n.keys.length):
 ∃ (bo bj:O Nat) (bm bG:O aS),p=bo++bj/\L=bm++bG/\cZ P h (n.left i) lo (some n.keys[i]) bo bm/\cZ P h (n.right i) (some n.keys[i]) hi bj bG:=by
 match h,g with
 |0,g=>exact g.elim
 |1,⟨a,b,c,d⟩=>
  subst c d;have q:=a.e9;have hM:n.keys=n.keys.take i++n.keys.drop i:=(gg _ _).symm;have o:=q;rw[hM]at o;obtain⟨r1,aF,cd⟩:=pb.1 o;have hd:n.keys.drop i=n.keys[i]::n.keys.drop (i+1):=l_ m;have hf:n.left i=⟨true,n.keys.take i,n.vals.take i,[]⟩:=by unfold aB.left;rw[a.leaf];rfl
  have hg:n.right i=⟨true,n.keys.drop i,n.vals.drop i,[]⟩:=by unfold aB.right;rw[a.leaf];rfl
  rw[hf,hg];refine⟨[],[],n.fu.take i,n.fu.drop i,rfl,(gg _ _).symm,⟨⟨⟨λk f=>a.ok k (eQ f),r1⟩,rfl,by simp[a.len],rfl,λv g=>a.vals v (eQ g)⟩,λk f=>⟨(b k (eQ f)).1,λs hs=>?_⟩,rfl,?_⟩,
   ⟨⟨⟨λk f=>a.ok k (eP f),aF⟩,rfl,by simp[a.len],rfl,λv g=>a.vals v (eP g)⟩,λk f=>⟨λs hs=>?_,(b k (eP f)).2⟩,rfl,?_⟩⟩
  .cases hs
   exact cd k f _ (by rw[hd];exact qS)
  .exact List.take_zipWith
  .cases hs
   have f:k∈n.keys.drop i:=f;rw[hd]at f aF;rcases c7.1 f with rfl|f
   .exact C7 _
   .exact hU ((kF.1 aF).1 k f)
  .exact List.drop_zipWith
 |h+2,⟨a,b,c,d,e⟩=>
  have hf:n.left i=⟨false,n.keys.take i,[],n.kids.take (i+1)⟩:=by unfold aB.left;rw[a];rfl
  have hg:n.right i=⟨false,n.keys.drop (i+1),[],n.kids.drop (i+1)⟩:=by unfold aB.right;rw[a];rfl
  have hM:n.keys=n.keys.take i++n.keys[i]::n.keys.drop (i+1):=by rw[←l_ m,gg]
  rw[hM]at e;obtain⟨cn,cp,bo,bj,bm,bG,j,rfl,rfl,s1,s2⟩:=e.cut;have l:=s1.len;rw[cK,jl I]at l;have r:n.kids.take (i+1)=cn:=by rw[j,←l,List.take_left]
  have t:n.kids.drop (i+1)=cp:=by rw[j,←l,List.drop_left]
  rw[hf,hg,r,t];exact⟨bo,bj,bm,bG,rfl,rfl,⟨rfl,rfl,λk f=>c k (eQ f),λk f=>d k (by rw[j];simp[f]),s1⟩,⟨rfl,rfl,λk f=>c k (eP f),λk f=>d k (by rw[j];simp[f]),s2⟩⟩
end Go.Proofs.YtkdhdlfonmgheaaGreat
namespace Go.Proofs.YtkdhdlfonmgheaaGreat
variable {lo hi:ar Key}{P Q:Nat->ar aB}
def dv(a:aB)(s:Key)(b:aB):aB:=if a.leaf then ⟨true,a.keys++b.keys,a.vals++b.vals,[]⟩ else ⟨false,a.keys++s::b.keys,[],a.kids++b.kids⟩
theorem qg{a b c d:O Key}(h:a.length=c.length):(a++b).zip (c++d)=a.zip c++b.zip d:=List.zip_append h
theorem cZ.merge{h:Nat}{a b:aB}{s:Key}{pa l:O Nat}{m n:O aS}(g:cZ P h a lo (some s) pa m)(o:cZ P h b (some s) hi l n)(hs:cR s)(p:∀k,lo=some k->gn k s)(q:∀k,hi=some k->gn s k):
 cZ P h (dv a s b) lo hi (pa++l) (m++n):=by
 match h,g,o with
 |0,g,_=>exact g.elim
 |1,⟨a1,a2,a3,a4⟩,⟨cf,bH,i,j⟩=>
  subst a3 a4 i j;have e:dv a s b=⟨true,a.keys++b.keys,a.vals++b.vals,[]⟩:=by unfold dv;rw[a1.leaf];rfl
  rw[e];refine⟨⟨⟨λk d=>?_,pb.2 ⟨a1.e9,cf.e9,λx hx y r=>m3 ((a2 x hx).2 s rfl) ((bH y r).1 s rfl)⟩⟩,rfl,by simp[a1.len,cf.len],rfl,λv f=>?_⟩,λk d=>?_,rfl,?_⟩
  .rcases cL.1 d with d|d
   .exact a1.ok k d
   .exact cf.ok k d
  .rcases cL.1 f with f|f
   .exact a1.vals v f
   .exact cf.vals v f
  .rcases cL.1 d with d|d
   .exact⟨(a2 k d).1,λc hc=>m3 ((a2 k d).2 s rfl) (q c hc)⟩
   .exact⟨λc hc=>yM (p c hc) ((bH k d).1 s rfl),(bH k d).2⟩
  .exact(qg a1.len.symm).symm
 |h+2,⟨a1,a2,a3,a4,a5⟩,⟨cf,bH,i,j,t⟩=>
  have e:dv a s b=⟨false,a.keys++s::b.keys,[],a.kids++b.kids⟩:=by unfold dv;rw[a1];rfl
  rw[e];refine⟨rfl,rfl,λk d=>?_,λk d=>?_,a5.app t⟩
  .rcases cL.1 d with d|d
   .exact a3 k d
   .rcases c7.1 d with rfl|d
    .exact hs
    .exact i k d
  .rcases cL.1 d with d|d
   .exact a4 k d
   .exact j k d
theorem e_.jz{h no:Nat}{p:O Nat}{L:O aS}(c:e_ P h lo hi no p L):∃n b,P no=some n/\p=no::b/\n.keys≠ []/\cZ P h n lo hi b L:=by
 match h,c with
 |0,c=>exact c.elim
 |1,⟨n,h1,a,f,d,e,g⟩=>exact⟨n,[],h1,e,d,a,f,rfl,g⟩
 |h+2,⟨n,b,h1,a,f,d,e⟩=>exact⟨n,b,h1,d,a.some,a.inner,a.vals,a.ok,a.kids,e⟩
def fi(n:aB)(fr to:Nat)(ks:O Key)(kids:O Nat):aB:=⟨false,n.keys.take fr++ks++n.keys.drop (to-1),[],n.kids.take fr++kids++n.kids.drop to⟩
end Go.Proofs.YtkdhdlfonmgheaaGreat
namespace Go.Proofs.YtkdhdlfonmgheaaGreat
def cellsOf(n:aB):O Nat:=if n.leaf then List.zipWith (λk v=>2+k.length+v.length) n.keys n.vals else n.keys.map λk=>3+k.length
def br(n:aB):Nat:=(if n.leaf then 1 else 3)+(cellsOf n).sum
def fF(c:O Nat)(most:Nat):Nat:=match (List.range most).find? λi=>decide (c.sum<=2*(c.take (i+1)).sum) with
 |some i=>i+1
 |none=>most
theorem lQ{B:Nat}:∀ {l:O Nat},(∀x∈l,x<=B)->l.sum<=B*l.length
 | [],_=>by simp
 |a::l,h=>by
  have h1:=h a (by simp)
  have b:=lQ (l:=l) λx hx=>h x (by simp[hx])
  rw[List.sum_cons,hJ,Nat.mul_add,fH]
  omega
theorem vx(l:O Nat)(i:Nat):(l.take i).sum+(l.drop i).sum=l.sum:=by
 rw[←lg,gg]
theorem oE{l:O Nat}{i:Nat}(h:i<l.length):(l.take (i+1)).sum=(l.take i).sum+l[i]:=by
 rw[j_ h,lg];simp
theorem yP{c:O Nat}{most:Nat}(a:1<=most)(hs:0<c.sum):1<=fF c most/\fF c most<=most/\2*(c.take (fF c most-1)).sum<c.sum/\(fF c most=most\/c.sum<=2*(c.take (fF c most)).sum):=by
 unfold fF
 cases h:(List.range most).find? λi=>decide (c.sum<=2*(c.take (i+1)).sum) with
 |none=>
  have b:=iM.1 h;refine⟨a,bl _,?_,.inl rfl⟩;by_cases h1:most=1
  .subst h1;simpa using hs
  .have:=b (most-2) (jh.2 I)
   have e:most-2+1=most-1:=by omega
   rw[e]at this;simp at this;exact this
 |some i=>
  have hi:i<most:=jh.1 (h7 h);have d:=iN h;refine⟨by simp,by simp;omega,?_,.inr (by simpa using d)⟩;show 2*(c.take (i+1-1)).sum<c.sum;rw[Nat.add_sub_cancel]
  cases i with
  |zero=>simpa using hs
  |succ j=>
   have:=(List.find?_range_eq_some.1 h).2.2 j I;simpa using this
theorem Dm{c:O Nat}(a:∀x∈c,x<=50)(h1:232<=c.sum)(e:c.sum<=309):
 2<=fF c (c.length-1)/\fF c (c.length-1)+2<=c.length/\(c.take (fF c (c.length-1))).sum<=231/\(c.drop (fF c (c.length-1))).sum<=231:=by
 have f:=lQ a;have b:=yP (c:=c) (most:=c.length-1) I I;generalize fF c (c.length-1)=i at b⊢;obtain⟨a1,a2,a3,a4⟩:=b;have hs:=vx c i;have ht:=oE (l:=c) (i:=i-1) I;rw[Nat.sub_add_cancel a1]at ht;have hc:=a c[i-1] (cI _);have hd:=lQ (l:=c.drop i) λx hx=>a x (eP hx);have d:=lQ (l:=c.take i) λx hx=>a x (eQ hx);rw[dc]at hd;rw[cK,jl I]at d;have key:c.sum<=2*(c.take i).sum:=by
  rcases a4 with h|h
  .have:c.length-i=1:=by omega
   rw[this]at hd;omega
  .exact h
 refine⟨I,?_,I,I⟩;rcases ed (c.length-i) 2 with h|h
 .have:c.length-i=1:=by omega
  rw[this]at hd;omega
 .omega
theorem Dn{c:O Nat}(a:∀x∈c,x<=27)(h1:230<=c.sum)(e:c.sum<=332):
 2<=fF c (c.length-2)/\fF c (c.length-2)+3<=c.length/\(c.take (fF c (c.length-2))).sum<=229/\(c.drop (fF c (c.length-2)+1)).sum<=229:=by
 have f:=lQ a;have b:=yP (c:=c) (most:=c.length-2) I I;generalize fF c (c.length-2)=i at b⊢;obtain⟨a1,a2,a3,a4⟩:=b;have hs:=vx c (i+1);have ht:=oE (l:=c) (i:=i-1) I;have hu:=oE (l:=c) (i:=i) I;rw[Nat.sub_add_cancel a1]at ht;have hc:=a c[i-1] (cI _);have g:=a c[i] (cI _);have hd:=lQ (l:=c.drop (i+1)) λx hx=>a x (eP hx);have d:=lQ (l:=c.take i) λx hx=>a x (eQ hx);rw[dc]at hd;rw[cK,jl I]at d;have key:c.sum<=2*(c.take i).sum:=by
  rcases a4 with h|h
  .have:c.length-(i+1)=1:=by omega
   rw[this]at hd;omega
  .exact h
 refine⟨I,?_,I,I⟩;rcases ed (c.length-(i+1)) 2 with h|h
 .have:c.length-(i+1)<=1:=by omega
  have:27*(c.length-(i+1))<=27*1:=Nat.mul_le_mul_left _ this;omega
 .omega
end Go.Proofs.YtkdhdlfonmgheaaGreat
namespace Go.Proofs.YtkdhdlfonmgheaaGreat
variable {W:Below}{lo hi m:ar Key}{P Q:Nat->ar aB}
theorem fL.inv{kids p:O Nat}{L:O aS}(h:fL W hi m [] kids p L):m=hi/\kids=[]/\p=[]/\L=[]:=by
 generalize e:([]:O Key)=K at h
 cases h with
 |nil=>exact⟨rfl,rfl,rfl,rfl⟩
 |more h=>simp at e
theorem eU.last{ks:O Key}{kids p:O Nat}{L:O aS}(h:eU W lo m ks kids p L)(c:0<kids.length):∃ (s:Key) (a:ar Key) (bo r:O Nat) (bm N:O aS) (hs:0<ks.length),
 m=some s/\s=ks[ks.length-1]/\p=bo++r/\L=bm++N/\W a (some s) (kids[kids.length-1]) r N/\eU W lo a (ks.take (ks.length-1)) (kids.take (kids.length-1)) bo bm/\kids.length=ks.length:=by
 cases h with
 |nil=>simp at c
 | @more s ks kids p L h=>
  have d:=h.len;obtain⟨a,g,bo,q,bj,bm,M,bG,rfl,rfl,h1,f,b⟩:=h.at (kids.length-1) I;rw[List.drop_of_length_le I]at b;obtain⟨rfl,_,rfl,rfl⟩:=b.inv;refine⟨s,a,bo,q,bm,M,by simp,rfl,by simp,by simp,by simp,h1,?_,by simp;omega⟩;have e:(ks++ [s]).take ((ks++ [s]).length-1)=ks.take (kids.length-1):=by
   rw[d];simp
  rw[e];exact f
theorem cZ.at{h:Nat}{n:aB}{p:O Nat}{L:O aS}(w:cZ P (h+2) n lo hi p L){k:Key}(o:e2 lo hi k):∃ (f g:ar Key) (bo q bj:O Nat) (bm M bG:O aS) (C:ey n.keys k<n.kids.length),
 p=bo++(q++bj)/\L=bm++(M++bG)/\eN P (h+1) f g n.kids[ey n.keys k] q M/\e2 f g k/\(∀u,Loc k u->u L=bm++(u M++bG))/\n.kids.length=n.keys.length+1/\
 eU (eN P (h+1)) lo f (n.keys.take (ey n.keys k)) (n.kids.take (ey n.keys k)) bo bm/\fL (eN P (h+1)) hi g (n.keys.drop (ey n.keys k)) (n.kids.drop (ey n.keys k+1)) bj bG:=by
 obtain⟨a,b,c,d,e⟩:=w;have x:=e.len;have D:=vv n.keys k;have hs:=e.sorted λ_ _ _ _ _ i=>i.in;have r:∀s∈n.keys,e2 lo hi s:=λs h=>⟨λa y=>hU ((hs.2.2.2 s h).1 a y),(hs.2.2.2 s h).2⟩;obtain⟨f,g,bo,q,bj,bm,M,bG,rfl,rfl,h1,l,m⟩:=e.at (ey n.keys k) I;have t:=l.Dg (k:=k) (λj z h=>De h z) o.1;have v:=m.Dh (k:=k) (λh=>Df h) o.2;have A:(n.keys.take (ey n.keys k)).Pairwise bP:=hs.2.2.1.sublist (List.take_sublist _ _);have B:(n.keys.drop (ey n.keys k)).Pairwise bP:=hs.2.2.1.sublist (List.drop_sublist _ _);exact⟨f,g,bo,q,bj,bm,M,bG,I,rfl,rfl,h1,⟨t,v⟩,λu hu=>hu _ _ _ (l.below (hi:=hi) (λ_ _ _ _ _ i=>i.in.2) A (λs h=>r s (eQ h)) t) (m.Di (lo:=lo) (λ_ _ _ _ _ i=>i.in.2) B (λs h=>r s (eP h)) v),
  x,l,m⟩
theorem cZ.build{h:Nat}{d e:ar Key}{a kb ks:O Key}{b c kids bo bj q:O Nat}{bm M bG:O aS}(h1:eU (eN P (h+1)) lo d a b bo bm)(i:fL (eN P (h+1)) hi e kb c bj bG)
 (hs:dS (eN Q (h+1)) d e ks kids q M) (g:∀x∈bo++bj,P x=Q x) (j:∀s∈a++ks++kb,cR s) (hd:∀x∈b++kids++c,x<1600):
 cZ Q (h+2) ⟨false,a++ks++kb,[],b++kids++c⟩ lo hi (bo++(q++bj)) (bm++(M++bG)):=by
 have av:eU (eN Q (h+1)) lo d a b bo bm:=h1.kn λ_ _ _ _ _ hs f=>f.agree λx hx=>g x (iv _ (hs x hx));have k:fL (eN Q (h+1)) hi e kb c bj bG:=i.kn λ_ _ _ _ _ hs f=>f.agree λx hx=>g x (gD _ (hs x hx));refine⟨rfl,rfl,j,hd,?_⟩;show dS _ lo hi (a++ks++kb) (b++kids++c) _ _;rw[cY,cY];exact av.Dd (hs.post k)
end Go.Proofs.YtkdhdlfonmgheaaGreat
namespace Go.Proofs.YtkdhdlfonmgheaaGreat
variable {lo hi:ar Key}{P Q:Nat->ar aB}
theorem cZ.one{h x:Nat}{n:aB}{p:O Nat}{L:O aS}(b:cZ P h n lo hi p L)(a:2<=n.keys.length)(hx:Q x=some n)(c:∀y∈p,P y=Q y):dS (eN Q h) lo hi [] [x] (x::p) L:=
 .one ⟨b.lay (λe=>by rw[e]at a;simp at a) hx c,n,hx,a⟩
theorem j0{n:aB}(h:n.leaf=true):cellsOf n=List.zipWith (λk v=>2+k.length+v.length) n.keys n.vals:=by unfold cellsOf;rw[h];rfl
theorem j1{n:aB}(h:n.leaf=false):cellsOf n=n.keys.map λk=>3+k.length:=by unfold cellsOf;rw[h];rfl
theorem vy{B:Nat}{f:Key->Key->Nat}:∀ {ks vs:O Key},(∀k∈ks,∀v∈vs,f k v<=B)->∀x∈List.zipWith f ks vs,x<=B
 | [],vs,_,x,hx=>by simp at hx
 |k::ks,[],_,x,hx=>by simp at hx
 |k::ks,v::vs,h,x,hx=>by
  rw[List.zipWith_cons_cons]at hx
  rcases c7.1 hx with rfl|hx
  .exact h k (by simp) v (by simp)
  .exact vy (λk a v b=>h k (by simp[a]) v (by simp[b])) x hx
def b3(n:aB):Nat:=fF (cellsOf n) (if n.leaf then n.keys.length-1 else n.keys.length-2)
theorem cZ.two{h x y:Nat}{n:aB}{p:O Nat}{L:O aS}(b:cZ P h n lo hi p L)(h1:232<br n)(r:n.leaf=true->br n<=310)(s:n.leaf=false->br n<=335):
 1<=b3 n/\(if n.leaf then b3 n<=n.keys.length-1/\1<=n.keys.length-1 else b3 n<=n.keys.length-2/\1<=n.keys.length-2)/\br (n.left (b3 n))<=232/\br (n.right (b3 n))<=232/\
  ∃ (w:b3 n<n.keys.length) (bo bj:O Nat) (bm bG:O aS),p=bo++bj/\L=bm++bG/\cR n.keys[b3 n]/\
   (Q x=some (n.left (b3 n))->Q y=some (n.right (b3 n))->(∀z∈p,P z=Q z)->dS (eN Q h) lo hi [n.keys[b3 n]] [x,y] ((x::bo)++(y::bj)) (bm++bG)):=by
 have main:∀ (i:Nat),2<=i->(H:i<n.keys.length)->2<=(n.left i).keys.length->2<=(n.right i).keys.length->∃ (w:i<n.keys.length) (bo bj:O Nat) (bm bG:O aS),p=bo++bj/\L=bm++bG/\cR n.keys[i]/\
  (Q x=some (n.left i)->Q y=some (n.right i)->(∀z∈p,P z=Q z)->dS (eN Q h) lo hi [n.keys[i]] [x,y] ((x::bo)++(y::bj)) (bm++bG)):=by
  intro i J t A B;obtain⟨bo,bj,bm,bG,rfl,rfl,v1,C⟩:=b.vw (by omega:1<=i) t;have D:cR n.keys[i]:=by
   match h,b with
   |0,b=>exact b.elim
   |1,b=>exact b.1.ok _ (cI _)
   |h+2,b=>exact b.2.2.1 _ (cI _)
  refine⟨t,bo,bj,bm,bG,rfl,rfl,D,λhx E u=>?_⟩;have s1:=v1.one A hx λz f=>u z (iv _ f);have s2:=C.one B E λz f=>u z (gD _ f);exact s1.app s2
 match h,b with
 |0,b=>exact b.elim
 |1,b=>
  have a:n.leaf=true:=b.1.leaf;have g:(cellsOf n).length=n.keys.length:=by rw[j0 a,List.length_zipWith,b.1.len,Nat.min_self]
  have j:∀c∈cellsOf n,c<=50:=by
   rw[j0 a];exact vy λk l v F=>by have:=(b.1.ok k l).2;have:=b.1.vals v F;omega
  have G:br n=1+(cellsOf n).sum:=by unfold br;rw[a];rfl
  have r:=r a;obtain⟨a1,a2,a3,a4⟩:=Dm j I I;have m:b3 n=fF (cellsOf n) ((cellsOf n).length-1):=by unfold b3;rw[a,g];rfl
  rw[←m]at a1 a2 a3 a4;have d:n.left (b3 n)=⟨true,n.keys.take (b3 n),n.vals.take (b3 n),[]⟩:=by unfold aB.left;rw[a];rfl
  have e:n.right (b3 n)=⟨true,n.keys.drop (b3 n),n.vals.drop (b3 n),[]⟩:=by unfold aB.right;rw[a];rfl
  have o:cellsOf (n.left (b3 n))=(cellsOf n).take (b3 n):=by rw[d,j0 rfl,j0 a];exact List.take_zipWith.symm
  have q:cellsOf (n.right (b3 n))=(cellsOf n).drop (b3 n):=by rw[e,j0 rfl,j0 a];exact List.drop_zipWith.symm
  refine⟨I,by rw[a];exact⟨I,I⟩,?_,?_,main _ a1 I (by rw[d];show 2<=(n.keys.take _).length;rw[cK];omega) (by rw[e];show 2<=(n.keys.drop _).length;rw[dc];omega)⟩
  .unfold br;rw[o,d];show 1+_<=_;omega
  .unfold br;rw[q,e];show 1+_<=_;omega
 |h+2,b=>
  have a:n.leaf=false:=b.1;have g:(cellsOf n).length=n.keys.length:=by rw[j1 a,dG]
  have j:∀c∈cellsOf n,c<=27:=by
   rw[j1 a];intro c hc;obtain⟨k,l,rfl⟩:=e6.1 hc;have:=(b.2.2.1 k l).2;omega
  have G:br n=3+(cellsOf n).sum:=by unfold br;rw[a];rfl
  have s:=s a;obtain⟨a1,a2,a3,a4⟩:=Dn j I I;have m:b3 n=fF (cellsOf n) ((cellsOf n).length-2):=by unfold b3;rw[a,g];rfl
  rw[←m]at a1 a2 a3 a4;have d:n.left (b3 n)=⟨false,n.keys.take (b3 n),[],n.kids.take (b3 n+1)⟩:=by unfold aB.left;rw[a];rfl
  have e:n.right (b3 n)=⟨false,n.keys.drop (b3 n+1),[],n.kids.drop (b3 n+1)⟩:=by unfold aB.right;rw[a];rfl
  have o:cellsOf (n.left (b3 n))=(cellsOf n).take (b3 n):=by rw[d,j1 rfl,j1 a];exact mc
  have q:cellsOf (n.right (b3 n))=(cellsOf n).drop (b3 n+1):=by rw[e,j1 rfl,j1 a];exact mb
  refine⟨I,by rw[a];exact⟨I,I⟩,?_,?_,main _ a1 I (by rw[d];show 2<=(n.keys.take _).length;rw[cK];omega) (by rw[e];show 2<=(n.keys.drop _).length;rw[dc];omega)⟩
  .unfold br;rw[o,d];show 3+_<=_;omega
  .unfold br;rw[q,e];show 3+_<=_;omega
end Go.Proofs.YtkdhdlfonmgheaaGreat
namespace Go.Proofs.YtkdhdlfonmgheaaGreat
variable {lo hi:ar Key}{P Q:Nat->ar aB}
theorem cZ.cells{h:Nat}{n:aB}{p:O Nat}{L:O aS}(a:cZ P h n lo hi p L):(cellsOf n).length=n.keys.length/\∀c∈cellsOf n,c<=if n.leaf then 50 else 27:=by
 match h,a with
 |0,a=>exact a.elim
 |1,a=>
  have b:n.leaf=true:=a.1.leaf;rw[j0 b,b];exact⟨by rw[List.length_zipWith,a.1.len,Nat.min_self],vy λk d v e=>by have:=(a.1.ok k d).2;have:=a.1.vals v e;simp only[if_true];omega⟩
 |h+2,a=>
  have b:n.leaf=false:=a.1;rw[j1 b,b];refine⟨by rw[dG],λc hc=>?_⟩;obtain⟨k,d,rfl⟩:=e6.1 hc;have:=(a.2.2.1 k d).2;show 3+k.length<=27;omega
theorem cZ.vz{h:Nat}{n:aB}{p:O Nat}{L:O aS}(b:cZ P h n lo hi p L)(hs:80<=br n):2<=n.keys.length:=by
 obtain⟨h1,c⟩:=b.cells;have:=lQ c;rw[h1]at this;unfold br at hs
 cases a:n.leaf with
 |true=>rw[a]at hs this;simp only[if_true]at hs this;omega
 |false=>rw[a]at hs this;simp only[fl,if_false]at hs this;omega
theorem Dp{a b:aB}{s:Key}(h:a.leaf=b.leaf)(f:a.leaf=true->a.vals.length=a.keys.length):br (dv a s b)=if a.leaf then br a+br b-1 else br a+br b+s.length:=by
 cases c:a.leaf with
 |true=>
  have e:dv a s b=⟨true,a.keys++b.keys,a.vals++b.vals,[]⟩:=by unfold dv;rw[c];rfl
  have d:b.leaf=true:=by rw[←h,c]
  unfold br;rw[e,j0 rfl,j0 c,j0 d,c,d];simp only[if_true];rw[qV (f c).symm,lg];omega
 |false=>
  have e:dv a s b=⟨false,a.keys++s::b.keys,[],a.kids++b.kids⟩:=by unfold dv;rw[c];rfl
  have d:b.leaf=false:=by rw[←h,c]
  unfold br;rw[e,j1 rfl,j1 c,j1 d,c,d];simp only[fl,if_false,fB,g0,lg,List.sum_cons];omega
def g8(ks:O Key):Nat:=(ks.map λk=>3+k.length).sum
theorem ti(a b:O Key):g8 (a++b)=g8 a+g8 b:=by unfold g8;rw[fB,lg]
theorem yQ{n:aB}(h:n.leaf=false):br n=3+g8 n.keys:=by unfold br g8;rw[h,j1 h];rfl
theorem Dq(k:Key):g8 [k]=3+k.length:=by simp[g8]
theorem vA{n:aB}{ks:O Key}{kids:O Nat}{fr j:Nat}(h:n.leaf=false)(a:ks.length<=1)(b:∀k∈ks,cR k)(c:fr<=j):
 br ⟨false,n.keys.take fr++ks++n.keys.drop j,[],kids⟩<=br n+27:=by
 rw[yQ h,yQ rfl];show 3+g8 (n.keys.take fr++ks++n.keys.drop j)<=_;rw[ti,ti];have h1:g8 ks<=27:=by
  match ks,a with
  | [],_=>simp[g8]
  | [k],_=>rw[Dq];have:=(b k (by simp)).2;omega
 have d:g8 n.keys=g8 (n.keys.take fr)+g8 (n.keys.drop fr):=by rw[←ti,gg]
 have e:g8 (n.keys.drop fr)=g8 ((n.keys.drop fr).take (j-fr))+g8 (n.keys.drop j):=by
  rw[←ti]
  congr 1
  have:n.keys.drop j=(n.keys.drop fr).drop (j-fr):=by rw[jM];congr 1;omega
  rw[this,gg]
 omega
end Go.Proofs.YtkdhdlfonmgheaaGreat
namespace Go.Proofs.YtkdhdlfonmgheaaGreat
variable {lo hi:ar Key}{P Q:Nat->ar aB}
def kY(Q:Nat->ar aB)(n:aB)(ks:O Key)(kids:O Nat):Prop:=
 (br n<=232/\∃x,ks=[]/\kids=[x]/\Q x=some n)\/
 (232<br n/\∃ (x y:Nat) (a:b3 n<n.keys.length),ks=[n.keys[b3 n]]/\kids=[x,y]/\Q x=some (n.left (b3 n))/\Q y=some (n.right (b3 n)))
theorem cZ.fits{h:Nat}{n:aB}{p:O Nat}{L:O aS}{ks:O Key}{kids:O Nat}(a:cZ P h n lo hi p L)(d:2<=n.keys.length)(e:n.leaf=true->br n<=310)(f:n.leaf=false->br n<=335)
 (hf:kY Q n ks kids) (b:∀x∈p,P x=Q x):∃c,dS (eN Q h) lo hi ks kids c L/\c.Perm (kids++p)/\(∀s∈ks,cR s)/\ks.length<=1:=by
 rcases hf with ⟨_,x,rfl,rfl,hx⟩|⟨hs,x,y,k,rfl,rfl,hx,g⟩
 .exact⟨x::p,a.one d hx b,List.Perm.refl _,by simp,by simp⟩
 .obtain⟨_,_,_,_,_,bo,bj,bm,bG,rfl,rfl,i,j⟩:=a.two (Q:=Q) (x:=x) (y:=y) hs e f
  refine⟨_,j hx g b,?_,by simpa using i,by simp⟩;show((x::bo)++(y::bj)).Perm ([x,y]++(bo++bj));simp only[o3,kc];exact(lf).cons x
theorem Dr{h:Nat}{a c:aB}{f g:ar Key}{i:Nat}{bo bj b:O Nat}{bm gG bG:O aS}{ks:O Key}{kids:O Nat}(h0:a.leaf=false)(j:∀k∈a.keys,cR k)(l:∀x∈a.kids,x<1600)
 (q:eU (eN P (h+1)) lo f (a.keys.take i) (a.kids.take i) bo bm) (r:fL (eN P (h+1)) hi g (a.keys.drop i) (a.kids.drop (i+1)) bj bG) (m:cZ P (h+1) c f g b gG) (h1:80<=br c) (z:br c<=282)
 (hf:kY Q c ks kids) (d:∀x∈bo++(b++bj),P x=Q x) (t:∀x∈kids,x<1600):
 ∃n,cZ Q (h+2) (fi a i (i+1) ks kids) lo hi n (bm++(gG++bG))/\n.Perm (kids++(bo++(b++bj)))/\br (fi a i (i+1) ks kids)<=br a+27/\a.keys.length<=(fi a i (i+1) ks kids).keys.length:=by
 obtain⟨u,hs,v,o,w⟩:=m.fits (m.vz h1) (λ_=>I) (λ_=>I) hf λx hx=>d x (gD _ (iv _ hx));have y:=cZ.build q r hs (λx hx=>by
  rcases cL.1 hx with hx|hx
  .exact d x (iv _ hx)
  .exact d x (gD _ (gD _ hx)))
  (λs hs=>by
    rcases cL.1 hs with hs|hs
    .rcases cL.1 hs with hs|hs
     .exact j s (eQ hs)
     .exact o s hs
    .exact j s (eP hs))
  (λx hx=>by
    rcases cL.1 hx with hx|hx
    .rcases cL.1 hx with hx|hx
     .exact l x (eQ hx)
     .exact t x hx
    .exact l x (eP hx))
 have e:fi a i (i+1) ks kids=⟨false,a.keys.take i++ks++a.keys.drop i,[],a.kids.take i++kids++a.kids.drop (i+1)⟩:=by unfold fi;rw[Nat.add_sub_cancel]
 rw[e];refine⟨_,y,?_,vA h0 w o (bl _),?_⟩
 .have av:(u++bj).Perm (kids++(b++bj)):=by
   rw[←cY];exact v.append_right _
  refine(List.Perm.append_left bo av).trans ?_;have p:=(pe (l₁:=bo) (l₂:=kids)).append_right (b++bj);rw[cY,cY]at p;exact p
 .show a.keys.length<=(a.keys.take i++ks++a.keys.drop i).length
  have:=congrArg List.length (gg i a.keys);simp only[cM]at this⊢;omega
end Go.Proofs.YtkdhdlfonmgheaaGreat
namespace Go.Proofs.YtkdhdlfonmgheaaGreat
variable {lo hi:ar Key}{P Q:Nat->ar aB}
theorem tj{a b:aB}{s:Key}:a.keys.length+b.keys.length<=(dv a s b).keys.length:=by
 unfold dv;split
 .show _<=(a.keys++b.keys).length
  rw[cM];omega
 .show _<=(a.keys++s::b.keys).length
  rw[cM,hJ];omega
theorem yR{a b:aB}{s:Key}:(dv a s b).leaf=a.leaf:=by
 unfold dv
 cases h:a.leaf<;>simp
theorem tl{h:Nat}{a b:aB}{s:Key}{d f g i:ar Key}{pa j:O Nat}{k l:O aS}(c:cZ P h a d f pa k)(m:cZ P h b g i j l)(hs:cR s)(h1:br a+br b<=311):
 ((dv a s b).leaf=true->br (dv a s b)<=310)/\((dv a s b).leaf=false->br (dv a s b)<=335):=by
 have n:a.leaf=b.leaf:=by rw[c.leaf,m.leaf]
 have o:a.leaf=true->a.vals.length=a.keys.length:=λh1=>by
  match h,c with
  |0,c=>exact c.elim
  |1,c=>exact c.1.len
  |h+2,c=>rw[c.1]at h1;cases h1
 rw[yR,Dp n o];have:=hs.2;constructor
 .intro e;rw[e];simp only[if_true];omega
 .intro e;rw[e];simp only[fl,if_false];omega
theorem Ds{h:Nat}{d g:aB}{u v:ar Key}{i:Nat}{bo bj f:O Nat}{bm gG bG:O aS}{k:Key}(h0:d.leaf=false)(w:∀k∈d.keys,cR k)(C:∀x∈d.kids,x<1600)(hlen:d.kids.length=d.keys.length+1)(S:∀x n,P x=some n->br n<=232)
 (ai:1<=i) (aj:i<d.kids.length) (D:e2 u v k)
 (T:eU (eN P (h+1)) lo u (d.keys.take i) (d.kids.take i) bo bm) (U:fL (eN P (h+1)) hi v (d.keys.drop i) (d.kids.drop (i+1)) bj bG) (E:cZ P (h+1) g u v f gG) (h1:br g<80):
 ∃ (o:aB) (y:O Nat) (F:i-1<d.kids.length) (ak:i-1<d.keys.length),P d.kids[i-1]=some o/\bo.Perm (d.kids[i-1]::y)/\2<=o.keys.length/\
  ∀ (Q:Nat->ar aB) (ks:O Key) (kids:O Nat),kY Q (dv o d.keys[i-1] g) ks kids->(∀x∈y++(f++bj),P x=Q x)->(∀x∈kids,x<1600)->
   ∃G,cZ Q (h+2) (fi d (i-1) (i+1) ks kids) lo hi G (bm++(gG++bG))/\G.Perm (kids++(y++(f++bj)))/\br (fi d (i-1) (i+1) ks kids)<=br d+27/\d.keys.length<=(fi d (i-1) (i+1) ks kids).keys.length+1:=by
 obtain⟨s,V,aM,r,bp,N,hs,rfl,z,rfl,rfl,⟨A,m,j,p⟩,H,al⟩:=T.last (by rw[cK];omega);have W:(d.keys.take i).length=i:=by rw[cK];omega
 have X:(d.kids.take i).length=i:=by rw[cK];omega
 have z:s=d.keys[i-1]'I:=by
  rw[z,pg];congr 1;omega
 have Y:(d.kids.take i)[(d.kids.take i).length-1]'I=d.kids[i-1]'I:=by
  rw[pg];congr 1;omega
 rw[Y]at A j;obtain⟨o,q,t,rfl,_,J⟩:=A.jz;rw[t]at j;have p:2<=o.keys.length:=by rw[Option.some.inj j];exact p
 clear j;subst z;have B:=(show eN P (h+1) V (some (d.keys[i-1]'I)) (d.kids[i-1]'I) (d.kids[i-1]'I::q) N from⟨A,o,t,p⟩).in;obtain⟨x,hx⟩:=pd _ B.1;have K:=w _ (cI (l:=d.keys) (n:=i-1) I);have Z:=cZ.merge J E K (λc hc=>hU (jx ((B.2.2 x hx).1 c hc) ((B.2.2 x hx).2 _ rfl))) (λc hc=>hU (jx (D.1 _ rfl) (D.2 c hc)));have L:=tl J E K (by have:=S _ _ t;omega);have am:=tj (a:=o) (b:=g) (s:=d.keys[i-1]'I);refine⟨o,aM++q,I,I,t,lf,p,λQ ks kids hf M aa=>?_⟩;obtain⟨ab,ac,ad,R,ae⟩:=Z.fits I L.1 L.2 hf λx hx=>M x (by
  rcases cL.1 hx with hx|hx
  .exact iv _ (gD _ hx)
  .exact gD _ (iv _ hx))
 have af:(d.keys.take i).take ((d.keys.take i).length-1)=d.keys.take (i-1):=by rw[W,List.take_take];congr 1;omega
 have ag:(d.kids.take i).take ((d.kids.take i).length-1)=d.kids.take (i-1):=by rw[X,List.take_take];congr 1;omega
 rw[af,ag]at H;have F:=cZ.build H U ac (λx hx=>M x (by
  rcases cL.1 hx with hx|hx
  .exact iv _ (iv _ hx)
  .exact gD _ (gD _ hx)))
  (λs hs=>by
    rcases cL.1 hs with hs|hs
    .rcases cL.1 hs with hs|hs
     .exact w s (eQ hs)
     .exact R s hs
    .exact w s (eP hs))
  (λx hx=>by
    rcases cL.1 hx with hx|hx
    .rcases cL.1 hx with hx|hx
     .exact C x (eQ hx)
     .exact aa x hx
    .exact C x (eP hx))
 have e:fi d (i-1) (i+1) ks kids=⟨false,d.keys.take (i-1)++ks++d.keys.drop i,[],d.kids.take (i-1)++kids++d.kids.drop (i+1)⟩:=by unfold fi;rw[Nat.add_sub_cancel]
 rw[e];refine⟨_,by simpa[cY] using F,?_,vA h0 ae R I,?_⟩
 .have av:(ab++bj).Perm (kids++(q++(f++bj))):=by
   have:=ad.append_right bj;simpa[cY] using this
  refine(List.Perm.append_left aM av).trans ?_;have ah:=(pe (l₁:=aM) (l₂:=kids)).append_right (q++(f++bj));simpa[cY] using ah
 .show d.keys.length<=(d.keys.take (i-1)++ks++d.keys.drop i).length+1
  simp only[cM,cK,dc];omega
end Go.Proofs.YtkdhdlfonmgheaaGreat
namespace Go.Proofs.YtkdhdlfonmgheaaGreat
variable {lo hi:ar Key}{P Q:Nat->ar aB}
theorem Dt{h:Nat}{d j:aB}{w y:ar Key}{i:Nat}{bo bj f:O Nat}{bm gG bG:O aS}{k:Key}(h0:d.leaf=false)(z:∀k∈d.keys,cR k)(E:∀x∈d.kids,x<1600)(hlen:d.kids.length=d.keys.length+1)(U:∀x n,P x=some n->br n<=232)
 (p:i+1<d.kids.length) (F:e2 w y k)
 (V:eU (eN P (h+1)) lo w (d.keys.take i) (d.kids.take i) bo bm) (W:fL (eN P (h+1)) hi y (d.keys.drop i) (d.kids.drop (i+1)) bj bG) (G:cZ P (h+1) j w y f gG) (h1:br j<80):
 ∃ (o:aB) (A:O Nat) (H:i+1<d.kids.length) (ag:i<d.keys.length),P d.kids[i+1]=some o/\bj.Perm (d.kids[i+1]::A)/\2<=o.keys.length/\
  ∀ (Q:Nat->ar aB) (ks:O Key) (kids:O Nat),kY Q (dv j d.keys[i] o) ks kids->(∀x∈bo++(f++A),P x=Q x)->(∀x∈kids,x<1600)->
   ∃J,cZ Q (h+2) (fi d i (i+2) ks kids) lo hi J (bm++(gG++bG))/\J.Perm (kids++(bo++(f++A)))/\br (fi d i (i+2) ks kids)<=br d+27/\d.keys.length<=(fi d i (i+2) ks kids).keys.length+1:=by
 obtain⟨s,X,r,g,N,ah,hs,rfl,B,rfl,rfl,⟨C,m,q,t⟩,K⟩:=W.head (by rw[dc];omega);have B:s=d.keys[i]'I:=by rw[B,qW];rfl
 have Y:(d.kids.drop (i+1))[0]'(by rw[dc];omega)=d.kids[i+1]'p:=by rw[qW]
 rw[Y]at C q;obtain⟨o,u,v,rfl,_,L⟩:=C.jz;rw[v]at q;have t:2<=o.keys.length:=by rw[Option.some.inj q];exact t
 clear q;subst B;have D:=(show eN P (h+1) (some (d.keys[i]'I)) X (d.kids[i+1]'p) (d.kids[i+1]'p::u) N from⟨C,o,v,t⟩).in;obtain⟨x,hx⟩:=pd _ D.1;have M:=z _ (cI (l:=d.keys) (n:=i) I);have Z:=cZ.merge G L M (λc hc=>hU (jx (F.1 c hc) (F.2 _ rfl))) (λc hc=>hU (jx ((D.2.2 x hx).1 _ rfl) ((D.2.2 x hx).2 c hc)));have R:=tl G L M (by have:=U _ _ v;omega);have ai:=tj (a:=j) (b:=o) (s:=d.keys[i]'I);refine⟨o,u++g,p,I,v,List.Perm.refl _,t,λQ ks kids hf S aa=>?_⟩;obtain⟨ab,ac,ad,T,ae⟩:=Z.fits I R.1 R.2 hf λx hx=>S x (by
  rcases cL.1 hx with hx|hx
  .exact gD _ (iv _ hx)
  .exact gD _ (gD _ (iv _ hx)))
 rw[jM,jM]at K;have H:=cZ.build V K ac (λx hx=>S x (by
  rcases cL.1 hx with hx|hx
  .exact iv _ hx
  .exact gD _ (gD _ (gD _ hx))))
  (λs hs=>by
    rcases cL.1 hs with hs|hs
    .rcases cL.1 hs with hs|hs
     .exact z s (eQ hs)
     .exact T s hs
    .exact z s (eP hs))
  (λx hx=>by
    rcases cL.1 hx with hx|hx
    .rcases cL.1 hx with hx|hx
     .exact E x (eQ hx)
     .exact aa x hx
    .exact E x (eP hx))
 have e:fi d i (i+2) ks kids=⟨false,d.keys.take i++ks++d.keys.drop (i+1),[],d.kids.take i++kids++d.kids.drop (i+1+1)⟩:=rfl;rw[e];refine⟨_,by simpa[cY] using H,?_,vA h0 ae T I,?_⟩
 .have av:(ab++g).Perm (kids++(f++(u++g))):=by
   have:=ad.append_right g;simpa[cY] using this
  refine(List.Perm.append_left bo av).trans ?_;have af:=(pe (l₁:=bo) (l₂:=kids)).append_right (f++(u++g));simpa[cY] using af
 .show d.keys.length<=(d.keys.take i++ks++d.keys.drop (i+1)).length+1
  simp only[cM,cK,dc];omega
end Go.Proofs.YtkdhdlfonmgheaaGreat
namespace Go.Proofs.YtkdhdlfonmgheaaGreat
variable {lo hi:ar Key}{P:Nat->ar aB}
def cO(ks:O Key)(k:Key):Nat:=ks.findIdx λs=>decide (¬bP s k)
theorem qh(ks:O Key)(k:Key):cO ks k<=ks.length:=List.findIdx_le_length
theorem m4{ks:O Key}{k:Key}{j:Nat}(h:j<cO ks k)(a:j<ks.length):bP ks[j] k:=by
 have:=List.not_of_lt_findIdx h;simpa using this
theorem oF{ks:O Key}{k:Key}(hs:ks.Pairwise bP){j:Nat}(h:cO ks k<=j)(c:j<ks.length):gn k ks[j]:=by
 have h1:cO ks k<ks.length:=by omega
 have a:gn k ks[cO ks k]:=by
  have:=List.findIdx_getElem (p:=λs=>decide (¬bP s k)) (xs:=ks) (w:=h1);exact yL.1 (cu this)
 rcases ed (cO ks k) j with b|b
 .exact hU (jx a (lh.1 hs _ _ h1 c b))
 .have:cO ks k=j:=by omega
  subst this;exact a
theorem Du{α:Type}{f:α->al}{L:O α}{i:Nat}(h1:∀x∈L.take i,f x=true)(a:∀x∈L.drop i,f x=false):L.filter f=L.take i:=by
 conv=>lhs;rw[←gg i L]
 rw[kE,kD.2 h1,o_.2 (λx hx=>by rw[a x hx];decide),fY]
theorem yS{α:Type}{f:α->al}{L:O α}{i:Nat}(h1:∀x∈L.take i,f x=false)(a:∀x∈L.drop i,f x=true):L.filter f=L.drop i:=by
 conv=>lhs;rw[←gg i L]
 rw[kE,o_.2 (λx hx=>by rw[h1 x hx];decide),kD.2 a,kc]
theorem vB{ks vs:O Key}{i:Nat}{x:aS}(h:x∈(ks.zip vs).take i):∃ (j:Nat) (a:j<ks.length),j<i/\x.1=ks[j]:=by
 obtain⟨j,a,rfl⟩:=List.mem_take_iff_getElem.1 h;have h1:j<(ks.zip vs).length:=by omega
 rw[pc]at h1;exact⟨j,I,I,by rw[List.getElem_zip]⟩
theorem vC{ks vs:O Key}{i:Nat}{x:aS}(h:x∈(ks.zip vs).drop i):∃ (j:Nat) (a:j<ks.length),i<=j/\x.1=ks[j]:=by
 obtain⟨j,a,rfl⟩:=List.mem_drop_iff_getElem.1 h;have h1:i+j<(ks.zip vs).length:=by omega
 rw[pc]at h1;exact⟨i+j,I,I,by rw[List.getElem_zip]⟩
theorem Dv{ks vs:O Key}{k v:Key}(hs:ks.Pairwise bP):fK (ks.zip vs) k v=(ks.zip vs).take (cO ks k)++(k,v)::(ks.zip vs).drop (if ks[cO ks k]? =some k then cO ks k+1 else cO ks k):=by
 unfold fK;rw[Du (f:=λp:aS=>decide (bP p.1 k)) (i:=cO ks k) (λx hx=>by
  obtain⟨j,a,h1,e⟩:=vB hx;rw[e];exact dw (m4 h1 a)) (λx hx=>by
  obtain⟨j,a,h1,e⟩:=vC hx;rw[e];exact iw (oF hs h1 a))]
 congr 2
 split
 .rename_i he
  obtain⟨aI,he⟩:=jL.1 he;refine yS (λx hx=>?_) (λx hx=>?_)
  .obtain⟨j,a,h1,e⟩:=vB hx
   rw[e];refine iw ?_;rcases ed j (cO ks k) with b|b
   .exact jZ (m4 b a)
   .have:j=cO ks k:=by omega
    subst this;rw[he];exact oC _
  .obtain⟨j,a,h1,e⟩:=vC hx
   rw[e];refine dw ?_;have:=lh.1 hs _ j aI a I;rwa[he]at this
 .rename_i he
  refine yS (λx hx=>?_) (λx hx=>?_)
  .obtain⟨j,a,h1,e⟩:=vB hx
   rw[e];exact iw (jZ (m4 h1 a))
  .obtain⟨j,a,h1,e⟩:=vC hx
   rw[e];refine dw ?_;rcases m0.1 (oF hs h1 a) with b|b
   .exact b
   .have aI:cO ks k<ks.length:=by omega
    rcases ed (cO ks k) j with c|c
    .exact jx (oF hs (bl _) aI) (lh.1 hs _ _ aI a c)
    .have:j=cO ks k:=by omega
     subst this;exact absurd ((dI aI).trans (congrArg some b.symm)) he
end Go.Proofs.YtkdhdlfonmgheaaGreat
namespace Go.Proofs.YtkdhdlfonmgheaaGreat
open Go aR Go.Proofs.Tryz
theorem Dw(n k:Nat):bF n (k+1)=bF (n/256) k++ [UInt8.ofNat (n%256)]:=by
 unfold bF;rw[List.range_succ,fB]
 congr 1
 .apply List.map_congr_left
  intro j a;have:=jh.1 a;rw[show k+1-1-j=(k-1-j)+1 from I,Nat.pow_succ,Nat.mul_comm,←Nat.div_div_eq_div_mul]
 .simp
theorem oG:∀ (k n:Nat),n<256^k->gJ (bF n k)=n
 |0,n,h=>by
  have:n=0:=by simpa using h
  subst this;rfl
 |k+1,n,h=>by
  rw[Nat.pow_succ]at h
  rw[Dw,vn,oG k (n/256) I,qb (hG _ I)]
  omega
def cr(n:aB):Prop:=g7 n\/yN n
def lR(l:Key):O UInt8:=UInt8.ofNat l.length::l
def fZ(n:aB)(i:Nat):O UInt8:=lR (n.keys.getD i [])++if n.leaf then lR (n.vals.getD i []) else bF (n.kids.getD (i+1) 0) 2
def gK(n:aB)(i m:Nat):O UInt8:=((List.range' i m).map (fZ n)).flatten
theorem Dx(n:aB)(i m:Nat):gK n i (m+1)=fZ n i++gK n (i+1) m:=rfl
theorem vD(n:aB)(m:Nat):gK n 0 (m+1)=gK n 0 m++fZ n m:=by
 unfold gK;rw[List.range'_concat,fB,List.flatten_append];simp
def preB(n:aB):O UInt8:=UInt8.ofNat n.keys.length::if n.leaf then [] else bF (n.kids.getD 0 0) 2
def ih(n:aB):O UInt8:=preB n++gK n 0 n.keys.length
theorem lS(l:Key):(lR l).length=l.length+1:=rfl
theorem cr.keys{n:aB}(h:cr n):th n:=by
 rcases h with h|h
 .exact h.toth
 .exact h.toth
theorem cr.vals{n:aB}(h:cr n):∀v∈n.vals,v.length<=24:=by
 rcases h with h|h
 .exact h.vals
 .rw[h.vals];simp
theorem cr.kids{n:aB}(h:cr n):∀k∈n.kids,k<1600:=by
 rcases h with h|h
 .rw[h.kids];simp
 .exact h.kids
theorem tm{α:Type}{l:O α}{i:Nat}{d:α}(h:i<l.length):l.getD i d∈l:=by
 rw[fI,dI h];exact cI h
theorem vE{n:aB}(h:cr n){i:Nat}(hi:i<n.keys.length):(cellsOf n)[i]? =some (fZ n i).length:=by
 unfold cellsOf fZ;rcases h with h|h
 .rw[h.leaf]
  simp only[if_true];have a:i<n.vals.length:=by rw[h.len];exact hi
  rw[List.getElem?_zipWith,dI hi,dI a];simp[fI,dI hi,dI a,lS];omega
 .rw[h.inner]
  simp only[fl,if_false];rw[lj,dI hi];simp[fI,dI hi,lS,du];omega
theorem oH{n:aB}(h:cr n):(cellsOf n).length=n.keys.length:=by
 unfold cellsOf;rcases h with h|h
 .rw[h.leaf];simp[h.len]
 .rw[h.inner];simp
theorem vF{n:aB}(h:cr n):∀m,m<=n.keys.length->(gK n 0 m).length=((cellsOf n).take m).sum
 |0,_=>by simp[gK]
 |m+1,b=>by
  have a:m<(cellsOf n).length:=by rw[oH h];omega
  have h1:=vE h (i:=m) I
  rw[dI a]at h1
  have h1:(cellsOf n)[m]=(fZ n m).length:=Option.some.inj h1
  rw[vD,cM,vF h m I,oE a,h1]
theorem vG{n:aB}(h:cr n):(ih n).length=br n:=by
 have e:((cellsOf n).take n.keys.length).sum=(cellsOf n).sum:=by rw[dJ (by rw[oH h];exact bl _)]
 unfold ih br preB;rw[cM,vF h _ (bl _),e]
 cases n.leaf<;>simp[du]
theorem tn{n:aB}(h:cr n):2*n.keys.length<=br n:=by
 have h1:∀l:O Nat,(∀x∈l,2<=x)->2*l.length<=l.sum:=by
  intro l
  induction l with
  |nil=>simp
  |cons a l c=>
   intro h;have:=h a (by simp);have:=c λx hx=>h x (by simp[hx]);simp only[hJ,List.sum_cons];omega
 have d:=h1 (cellsOf n) (by
  intro x hx;obtain⟨i,hi,rfl⟩:=e0 hx;have e:i<n.keys.length:=by rwa[←oH h]
  have b:=vE h e;rw[dI hi]at b;rw[Option.some.inj b];unfold fZ;rw[cM,lS];split
  .rw[lS];omega
  .rw[du];omega)
 rw[oH h]at d;unfold br;omega
abbrev Rd:=O UInt8×al
def gL(r:Rd)(k:Nat):O UInt8×Rd:=if r.2=false\/r.1.length<k then ([],(r.1,false)) else (r.1.take k,(r.1.drop k,true))
def rdNum(r:Rd)(k:Nat):Nat×Rd:=(if (gL r k).1.length=k then gJ (gL r k).1 else 0,(gL r k).2)
def iB(r:Rd):O UInt8×Rd:=gL (rdNum r 1).2 (rdNum r 1).1
def m5(s:aB×Rd):aB×Rd:=
 let t:=iB s.2
 if s.1.leaf then (⟨s.1.leaf,s.1.keys++ [t.1],s.1.vals++ [(iB t.2).1],s.1.kids⟩,(iB t.2).2)
 else (⟨s.1.leaf,s.1.keys++ [t.1],s.1.vals,s.1.kids++ [(rdNum t.2 2).1]⟩,(rdNum t.2 2).2)
def gW(s:aB×Rd):Nat->aB×Rd
 |0=>s
 |i+1=>m5 (gW s i)
def kZ(leaf:al)(r:Rd):aB×Rd:=if leaf then (⟨true,[],[],[]⟩,r) else (⟨false,[],[],[(rdNum r 2).1]⟩,(rdNum r 2).2)
def g9(leaf:al)(b:O UInt8):aB×Rd:=gW (kZ leaf (rdNum (b,true) 1).2) (rdNum (b,true) 1).1
def ko(leaf:al)(b:O UInt8)(n:aB):Prop:=cr n/\n.leaf=leaf/\br n<=232/\ih n=b
theorem yT(a b:O UInt8):gL (a++b,true) a.length=(a,(b,true)):=by
 unfold gL;rw[if_neg (by simp)];simp
theorem tp{n k:Nat}(b:O UInt8)(h:n<256^k):rdNum (bF n k++b,true) k=(n,(b,true)):=by
 unfold rdNum;have:=yT (bF n k) b;rw[du]at this;rw[this];simp[du,oG k n h]
theorem yU(n:Nat)(h:n<256): [UInt8.ofNat n]=bF n 1:=by
 simp[bF,iL h]
theorem vH(l:Key)(b:O UInt8)(h:l.length<256):iB (lR l++b,true)=(l,(b,true)):=by
 have e:lR l++b=bF l.length 1++(l++b):=by
  rw[←yU _ h];rfl
 unfold iB;rw[e,tp _ (by simpa using h)];exact yT l b
theorem Dz{n:aB}(h:cr n){i:Nat}(hi:i<n.keys.length)(b:O UInt8):
 m5 (⟨n.leaf,n.keys.take i,n.vals.take i,if n.leaf then [] else n.kids.take (i+1)⟩,(fZ n i++b,true))=
  (⟨n.leaf,n.keys.take (i+1),n.vals.take (i+1),if n.leaf then [] else n.kids.take (i+2)⟩,(b,true)):=by
 have e:n.keys.getD i []∈n.keys:=tm hi;have f:=(h.keys.ok _ e).2;have d:n.keys.take (i+1)=n.keys.take i++ [n.keys.getD i []]:=by
  rw[take_succ _ hi,fI,dI hi];rfl
 unfold m5;unfold fZ;rcases h with h|h
 .have a:i<n.vals.length:=by rw[h.len];exact hi
  have c:n.vals.getD i []∈n.vals:=tm a;have ev:n.vals.take (i+1)=n.vals.take i++ [n.vals.getD i []]:=by
   rw[take_succ _ a,fI,dI a];rfl
  simp only[h.leaf,if_true];rw[cY,vH _ _ I];simp only;rw[vH _ _ (by have:=h.vals _ c;omega),d,ev]
 .have a:i+1<n.kids.length:=by rw[h.len];omega
  have c:n.kids.getD (i+1) 0∈n.kids:=tm a;have ev:n.kids.take (i+2)=n.kids.take (i+1)++ [n.kids.getD (i+1) 0]:=by
   rw[take_succ _ a,fI,dI a];rfl
  simp only[h.inner,fl,if_false,h.vals];rw[cY,vH _ _ I];simp only;rw[tp _ (by have:=h.kids _ c;show _<65536;omega),d,ev];simp
theorem yV{n:aB}(h:cr n):∀i,i<=n.keys.length->
 gW (⟨n.leaf,[],[],if n.leaf then [] else n.kids.take 1⟩,(gK n 0 n.keys.length,true)) i=(⟨n.leaf,n.keys.take i,n.vals.take i,if n.leaf then [] else n.kids.take (i+1)⟩,(gK n i (n.keys.length-i),true))
 |0,_=>by simp[gW]
 |i+1,hi=>by
  rw[gW,yV h i I,show n.keys.length-i=n.keys.length-(i+1)+1 from I,Dx]
  exact Dz h I _
theorem vI{n:aB}(h:cr n)(g:br n<=232):g9 n.leaf (ih n)=(n,([],true)):=by
 have i:=tn h;unfold g9;have b:rdNum (ih n,true) 1=(n.keys.length,((if n.leaf then [] else bF (n.kids.getD 0 0) 2)++gK n 0 n.keys.length,true)):=by
  have:ih n=bF n.keys.length 1++((if n.leaf then [] else bF (n.kids.getD 0 0) 2)++gK n 0 n.keys.length):=by
   rw[←yU _ I];rfl
  rw[this,tp _ (by show _<256;omega)]
 rw[b];simp only;have c:kZ n.leaf ((if n.leaf then [] else bF (n.kids.getD 0 0) 2)++gK n 0 n.keys.length,true)=(⟨n.leaf,[],[],if n.leaf then [] else n.kids.take 1⟩,(gK n 0 n.keys.length,true)):=by
  unfold kZ;rcases h with h|h
  .simp[h.leaf]
  .have hd:0<n.kids.length:=by rw[h.len];omega
   have d:n.kids.getD 0 0∈n.kids:=tm hd;have:=h.kids _ d;simp only[h.inner,fl,if_false];rw[tp _ (by show _<65536;omega)]
   cases e:n.kids with
   |nil=>rw[e]at hd;simp at hd
   |cons a l=>simp
 rw[c,yV h _ (bl _)];have f:gK n n.keys.length (n.keys.length-n.keys.length)=[]:=by rw[nt];rfl
 rw[f,dJ (bl _)];rcases h with h|h
 .rw[dJ (by rw[h.len];exact bl _)]
  have:=h.kids;have:=h.leaf
  cases n
  simp_all
 .rw[dJ (by rw[h.vals];simp),dJ (by rw[h.len];exact bl _)]
  have:=h.inner
  cases n
  simp_all
theorem ko.uniq{leaf:al}{b:O UInt8}{n m:aB}(h1:ko leaf b n)(d:ko leaf b m):n=m:=by
 obtain⟨a1,a2,a3,a4⟩:=h1;obtain⟨cf,bH,e,f⟩:=d;have a:=vI a1 a3;have c:=vI cf e;rw[a2,a4]at a;rw[bH,f,a]at c;exact congrArg Prod.fst c
def qi(n:Nat):Nat:=if n%2=1 then (n/2)^^^0x82f63b78 else n/2
def tq:Nat->Nat->Nat
 |0,n=>n
 |k+1,n=>qi (tq k n)
def yW(n:Nat)(c:UInt8):Nat:=tq 8 (n^^^c.toNat)
def j2(n:Nat)(l:O UInt8):Nat:=l.foldl yW n
def g_(l:O UInt8):Nat:=4294967295-j2 4294967295 l
theorem DA{n:Nat}(h:n<4294967296):qi n<4294967296:=by
 unfold qi;split
 .exact Nat.xor_lt_two_pow (n:=32) (by show _<4294967296;omega) (by decide)
 .omega
theorem vJ{n:Nat}(h:n<4294967296):∀k,tq k n<4294967296
 |0=>h
 |k+1=>DA (vJ h k)
theorem DB{n:Nat}(h:n<4294967296)(c:UInt8):yW n c<4294967296:=
 vJ (Nat.xor_lt_two_pow (n:=32) h (by have:=ny c;show _<4294967296;omega)) 8
theorem tr:∀ (l:O UInt8) {n:Nat},n<4294967296->j2 n l<4294967296
 | [],_,h=>h
 |c::l,_,h=>tr l (DB h c)
theorem yX(n:Nat)(a b:O UInt8):j2 n (a++b)=j2 (j2 n a) b:=by simp[j2,List.foldl_append]
theorem vK(l:O UInt8):g_ l<4294967296:=by unfold g_;omega
structure ij where
 kind:Nat
 gen:Nat
 body:O UInt8
 deriving DecidableEq
structure lT(p:ij):Prop where
 cn:1<=p.kind
 cp:p.kind<=4
 gen:p.gen<18446744073709551616
 body:p.body.length<=232
def fU:O UInt8:=[83,84,78,67]
def eB(no:Nat)(p:ij):O UInt8:=fU++([1,UInt8.ofNat p.kind]++(bF p.body.length 2++(bF no 4++bF p.gen 8)))
def eH(p:ij):O UInt8:=p.body++List.replicate (232-p.body.length) 0
def dT(no:Nat)(p:ij):O UInt8:=eB no p++(bF (g_ (eB no p++eH p)) 4++eH p)
theorem lU(no:Nat)(p:ij):(eB no p).length=20:=by simp[eB,fU,du]
theorem tt{p:ij}(h:lT p):(eH p).length=232:=by
 have:=h.body;simp[eH];omega
theorem qj{p:ij}(no:Nat)(h:lT p):(dT no p).length=256:=by simp[dT,lU,du,tt h]
def sumOf(l:O UInt8):Nat:=g_ (l.take 20++l.drop 24)
def dm(l:O UInt8)(a k:Nat):Nat:=gJ ((l.drop a).take k)
def fa(no:Int)(l:O UInt8):Except Int ij:=
 if l.length≠256 then .error 9
 else if l.take 4≠fU then .error 4
 else if l.getD 4 0≠1 then .error 12
 else if sumOf l≠dm l 20 4 then .error 5
 else if¬(1<=(l.getD 5 0).toNat/\(l.getD 5 0).toNat<=4)\/232<dm l 6 2\/(l.drop (24+dm l 6 2)).all (λc=>c==0)=false then .error 4
 else if¬(0<=no/\no<1600)\/(dm l 8 4:Int)≠no then .error 1
 else .ok ⟨(l.getD 5 0).toNat,dm l 12 8,(l.drop 24).take (dm l 6 2)⟩
theorem drop_left'{α:Type}{a b:O α}{n:Nat}(h:a.length=n):(a++b).drop n=b:=by subst h;exact List.drop_left
theorem k0{α:Type}{a b:O α}{n:Nat}(h:a.length=n):(a++b).take n=a:=by subst h;exact List.take_left
theorem qk{a b:O UInt8}{n k m:Nat}(c:a.length=m)(h:n<256^k):dm (a++(bF n k++b)) m k=n:=by
 unfold dm;rw[drop_left' c,k0 (du n k),oG k n h]
theorem tu{no:Nat}{p:ij}(n:no<1600)(h:lT p):fa no (dT no p)=.ok p:=by
 have o:=h.body;have e:=h.cn;have f:=h.cp;have hg:=h.gen;have ht:=tt h;have b:=lU no p;have hc:=vK (eB no p++eH p);have bL:dm (dT no p) 20 4=g_ (eB no p++eH p):=qk b (by show _<4294967296;exact hc);have a:dT no p=(fU++ [1,UInt8.ofNat p.kind])++(bF p.body.length 2++((bF no 4++bF p.gen 8)++(bF (g_ (eB no p++eH p)) 4++eH p))):=by
  show eB no p++_=_;rw[show eB no p=(fU++ [1,UInt8.ofNat p.kind])++(bF p.body.length 2++(bF no 4++bF p.gen 8)) by simp[eB]];simp only[cY]
 have bx:dm (dT no p) 6 2=p.body.length:=by rw[a];exact qk rfl (by show _<65536;omega)
 have g:dT no p=((fU++ [1,UInt8.ofNat p.kind])++bF p.body.length 2)++(bF no 4++(bF p.gen 8++(bF (g_ (eB no p++eH p)) 4++eH p))):=by rw[a];simp only[cY]
 have i:dm (dT no p) 8 4=no:=by rw[g];exact qk (by simp[fU,du]) (by show _<4294967296;omega)
 have j:dT no p=((fU++ [1,UInt8.ofNat p.kind])++(bF p.body.length 2++bF no 4))++(bF p.gen 8++(bF (g_ (eB no p++eH p)) 4++eH p)):=by rw[a];simp only[cY]
 have cv:dm (dT no p) 12 8=p.gen:=by rw[j];exact qk (by simp[fU,du]) (by show _<18446744073709551616;exact hg)
 have k:dT no p=(eB no p++bF (g_ (eB no p++eH p)) 4)++eH p:=by simp[dT]
 have l:(eB no p++bF (g_ (eB no p++eH p)) 4).length=24:=by simp[b,du]
 have d24:(dT no p).drop 24=eH p:=by rw[k];exact drop_left' l
 have t4:(dT no p).take 4=fU:=by rw[a];rfl
 have m:(dT no p).getD 4 0=1:=by rw[a];rfl
 have d:((dT no p).getD 5 0).toNat=p.kind:=by rw[a];show(UInt8.ofNat p.kind).toNat=p.kind;exact qb I
 have s:sumOf (dT no p)=g_ (eB no p++eH p):=by
  unfold sumOf;rw[d24,show(dT no p).take 20=eB no p from k0 b]
 unfold fa;rw[if_neg (by rw[qj no h];simp),if_neg (by rw[t4];simp),if_neg (by rw[m];simp),if_neg (by rw[s,bL];simp),if_neg (by
  rw[d,bx];rintro(h1|h1|h1)
  .exact h1 ⟨e,f⟩
  .omega
  .rw[List.all_eq_false]at h1
   obtain⟨c,hc,h1⟩:=h1;rw[←jM,d24]at hc;unfold eH at hc;rw[List.drop_left]at hc;exact h1 (by rw[um hc];rfl)),if_neg (by rw[i];rintro(h1|h1)<;>omega),d,bx,cv,d24]
 have:(eH p).take p.body.length=p.body:=by unfold eH;exact List.take_left
 rw[this]
def gM(s:ad):Y:=s
abbrev ga(w:J)(s:ad):Prop:=∀k,aC s k->w.heap.size<=k
theorem ga.mono{w w':J}{s:ad}(h:ga w' s)(hx:w.heap.size<=w'.heap.size):ga w s:=λk a=>ei hx (h k a)
theorem len8{w:J}{s:ad}{l:O UInt8}(h:Src 1 w s (aA l)):s.len=l.length:=by have:=h.len;rw[dg]at this;omega
theorem k1{w:J}{T:TypeId}{s:ad}{l:O UInt8}(h:aZ 1 T w s (aA l)):s.len=l.length:=by have:=h.1;rw[dg]at this;omega
theorem m6{w:J}{s:ad}{l:O UInt8}{lo hi:Nat}(h:Src 1 w s (aA l))(hc:s.len<=s.cap)(h1:lo<=hi)(b:hi<=s.len):Src 1 w ⟨aJ s.a 1 lo s.cap,hi-lo,s.cap-lo⟩ (aA ((l.drop lo).take (hi-lo))):=by
 have:=Src.sub h hc h1 b;simpa[aA,mb,mc] using this
def d_(a:O (ad×O UInt8)):O UInt8:=(a.map (·.2)).flatten
theorem yY(a:O (ad×O UInt8))(p:ad×O UInt8):d_ (a++ [p])=d_ a++p.2:=by simp[d_]
theorem DC(a:O (ad×O UInt8))(j:Nat):(d_ (a.take j)).length<=(d_ a).length:=by
 have h:a=a.take j++a.drop j:=(gg j a).symm;have:(d_ a).length=(d_ (a.take j)).length+(d_ (a.drop j)).length:=by
  conv=>lhs;rw[h]
  unfold d_;rw[fB,List.flatten_append,cM]
 omega
theorem yZ(a:O (ad×O UInt8)){j:Nat}(b:j<a.length):(a[j]).2.length<=(d_ a).length:=by
 have h:a=a.take j++a[j]::a.drop (j+1):=by rw[←l_ b,gg]
 have:(d_ a).length=(d_ (a.take j)).length+((a[j]).2.length+(d_ (a.drop (j+1))).length):=by
  conv=>lhs;rw[h]
  unfold d_;rw[fB,List.flatten_append,cM,g0,List.flatten_cons,cM]
 omega
theorem tv{s:ad}{w:J}(a:O (ad×O UInt8))(hs:Src 1 w s (a.map λp=>gM p.1))(g:∀p∈a,Src 1 w p.1 (aA p.2))(x:(d_ a).length<=100000)(y:a.length<=100000):
 aL aj 92 #[s] w (λv w'=>∃b:ad,v=b/\aZ 1 5 w' b (aA (d_ a))/\Ext w w'/\ga w b):=by
 refine okF (ah.lK s) az.lK func92 ?_;(delta ah.lK ao aK r1 au;dsimp only);have z:s.len=a.length:=by have:=hs.len;rw[dG]at this;omega
 refine⟨λb i w'=>∃j:Nat,i=j/\j<=a.length/\aZ 1 5 w' b (aA (d_ (a.take j)))/\Ext w w'/\ga w b,λ_ i _=>((a.length:Int)-i).toNat,⟨0,rfl,cX _,aZ.none 1 5 _,.refl _ _,λk d=>(hN k d).elim⟩,?_⟩;rintro b _ w1 ⟨j,rfl,B,c,hx,hf⟩;refine⟨λaI=>?_,λe=>?_⟩
 .have aI:j<a.length:=by have:=cu aI;omega
  obtain⟨A,aq,l,m⟩:=(hs.ext hx).at (i:=j) (v:=gM (a[j]).1) (by simp[aI]);have f:=(g _ (cI aI)).ext hx;have h1:=yZ a aI;have C:=DC a j;have o:=len8 f;have q:=k1 c;obtain⟨s2,ai,av,r,D,t,u⟩:=qc.append (dK:=48) f c (jW _) (by rw[o,q];omega);rw[bz (n:=(j:Int)+1) I I];refine⟨A,aq,l,(a[j]).1,m,s2,ai,av,⟨j+1,I,I,?_,Ext.dj hx t hf,λk d=>?_⟩,?_⟩
  .rw[take_succ _ aI]
   rw[yY,lP];exact r
  .rcases u k d with h|h
   .exact hf k h
   .exact ei hx.size h
  .show((a.length:Int)-((j:Int)+1)).toNat<((a.length:Int)-(j:Int)).toNat
   omega
 .have e:j=a.length:=by have:=cQ e;omega
  subst e;rw[jj]at c;exact⟨b,rfl,c,hx,hf⟩
theorem DD{s:ad}{l:O UInt8}{w:J}(hs:Src 1 w s (aA l))(hc:s.len<=s.cap){a k:Nat}(b:a+k<=l.length)(c:l.length<=1000000000000):
 aL aj 215 #[s,a,k] w (λv w'=>v=.tuple #[.slice (aJ s.a 1 a s.cap) k (s.cap-a),true]/\w=w'):=by
 have d:=len8 hs;refine okF (ah.jV s a k) az.jV func215 ?_;delta ah.jV ao au;rw[bz (n:=(s.len:Int)-(a:Int)) I I,bz (n:=(a:Int)+(k:Int)) I I];refine⟨λh=>?_,λ_=>⟨⟨I,I⟩,⟨I,I⟩,?_,rfl⟩⟩
 .simp only[h5,cA]at h;omega
 .rw[show Int.toNat ((a:Int)+(k:Int))-Int.toNat (a:Int)=k from I];rfl
theorem DE{s:ad}{l:O UInt8}{w:J}(hs:Src 1 w s (aA l)){a k:Nat}(b:l.length<a+k)(c:a<=l.length)(d:l.length<=1000000000000)(f:k<=1000000000000):
 aL aj 215 #[s,a,k] w (λv w'=>v=.tuple #[(),false]/\w=w'):=by
 have g:=len8 hs;refine okF (ah.jV s a k) az.jV func215 ?_;delta ah.jV ao au;rw[bz (n:=(s.len:Int)-(a:Int)) I I,bz (n:=(a:Int)+(k:Int)) I I];have e:(((decide ((a:Int)<0))||(decide ((k:Int)<0)))||(decide ((a:Int)>(s.len:Int)))||(decide ((k:Int)>((s.len:Int)-(a:Int)))))=true:=by
  simp only[h5,cA];omega
 exact⟨λ_=>⟨rfl,rfl⟩,λh=>(by rw[e]at h;cases h)⟩
theorem om{s:ad}{l:O UInt8}{w:J}(hs:Src 1 w s (aA l))(hc:s.len<=s.cap){a k:Nat}(d:a+k<=l.length)(f:l.length<=100000):
 aL aj 229 #[s,a,k] w (λv w'=>∃b:ad,v=.tuple #[b,true]/\aZ 1 5 w' b (aA ((l.drop a).take k))/\Ext w w'/\ga w b):=by
 have g:=len8 hs;refine okF (ah.om s a k) az.om func229 ?_;delta ah.om gU bJ;refine(DD hs hc d I).use ?_;rintro _ _ ⟨rfl,rfl⟩;have c:=m6 hs hc (lo:=a) (hi:=a+k) I I;rw[show a+k-a=k from I]at c;refine⟨⟨aJ s.a 1 a s.cap,k,s.cap-a⟩,true,rfl,(vo c (by simp;omega)).use ?_⟩;rintro _ w1 ⟨b,rfl,e,hx,hf⟩;exact⟨b,rfl,b,rfl,e,hx,hf⟩
theorem DF{s:ad}{l:O UInt8}{w:J}(hs:Src 1 w s (aA l)){k:Nat}(d:k<=8)(e:l.length<k):
 aL aj 156 #[s,.int .i64 (0:Nat),k] w (λv w'=>v=.tuple #[.int .u64 0,false]/\w=w'):=by
 refine okF (ah.iX s (0:Nat) k) az.iX func156 ?_;(delta ah.iX gU ao cc aK en au;dsimp only);refine(DE hs (a:=0) I I I I).use ?_;rintro _ _ ⟨rfl,rfl⟩;refine⟨⟨none,0,0⟩,false,rfl,cH (λb w'=>b=true/\w=w') (λq c=>⟨λ_=>c _ _ ⟨rfl,rfl⟩,λh=>by simp at h⟩) ?_⟩;rintro _ _ ⟨rfl,rfl⟩;exact⟨λ_=>⟨rfl,rfl⟩,λh=>by simp at h⟩
theorem tw{a:Nat}(b:a<4294967296):(BitVec.ofInt 32 (a:Int))=BitVec.ofNat 32 a:=by simp
theorem tx{a b:Nat}(c:a<4294967296)(d:b<4294967296):mm .u32 (a:Int) (b:Int)=((a^^^b:Nat):Int):=by
 unfold mm;show IntKind.u32.wrap (((BitVec.ofInt 32 (a:Int)^^^BitVec.ofInt 32 (b:Int)).toNat:Nat):Int)=_;rw[tw c,tw d,BitVec.toNat_xor,BitVec.toNat_ofNat,BitVec.toNat_ofNat,iL (by simpa using c),iL (by simpa using d)];have:a^^^b<4294967296:=Nat.xor_lt_two_pow (n:=32) c d;rw[uX I I]
theorem DG{a b:Nat}(c:a<4294967296)(d:b<4294967296):h8 .u32 (a:Int) (b:Int)=((a&&&b:Nat):Int):=by
 unfold h8;show IntKind.u32.wrap (((BitVec.ofInt 32 (a:Int)&&&BitVec.ofInt 32 (b:Int)).toNat:Nat):Int)=_;rw[tw c,tw d,BitVec.toNat_and,BitVec.toNat_ofNat,BitVec.toNat_ofNat,iL (by simpa using c),iL (by simpa using d)];have:a&&&b<=a:=Nat.and_le_left;rw[uX I I]
theorem DH{n:Nat}(b:n<4294967296):
 mm .u32 (Int.fdiv (n:Int) (2^(min (Int.toNat 1) 32))) (h8 .u32 2197175160 (IntKind.wrap .u32 (0-(h8 .u32 (n:Int) 1))))=((qi n:Nat):Int):=by
 have c:h8 .u32 (n:Int) 1=((n%2:Nat):Int):=by
  have:=DG b (show 1<4294967296 from I);rw[Nat.and_one_is_mod]at this;exact this
 have d:Int.fdiv (n:Int) (2^(min (Int.toNat 1) 32))=((n/2:Nat):Int):=by
  rw[Int.fdiv_eq_ediv_of_nonneg _ (by decide)];rfl
 rw[c,d];unfold qi;rcases Nat.mod_two_eq_zero_or_one n with h|h
 .rw[h,if_neg I]
  have a:h8 .u32 2197175160 (IntKind.wrap .u32 (0-((0:Nat):Int)))=((0:Nat):Int):=by decide+kernel
  rw[a,tx I I,Nat.xor_zero]
 .rw[h,if_pos rfl]
  have a:h8 .u32 2197175160 (IntKind.wrap .u32 (0-((1:Nat):Int)))=((2197175160:Nat):Int):=by decide+kernel
  rw[a,tx I I]
theorem oq{s:ad}{l:O UInt8}{w:J}{n:Nat}(hs:Src 1 w s (aA l))(e:n<4294967296)(h:l.length<=1000000):
 aL aj 238 #[.int .u32 n,s] w (λv w'=>v=.int .u32 (j2 n l:Nat)/\w=w'):=by
 have o:=len8 hs;refine okF (ah.oq n s) az.oq func238 ?_;(delta ah.oq ao aK en au;dsimp only);refine⟨λm i w'=>∃j:Nat,i=j/\j<=l.length/\m=((j2 n (l.take j):Nat):Int)/\w=w',λ_ i _=>((l.length:Int)-i).toNat,⟨0,rfl,cX _,rfl,rfl⟩,?_⟩;rintro _ _ _ ⟨j,rfl,p,rfl,rfl⟩;refine⟨λaI=>?_,λa=>?_⟩
 .have aI:j<l.length:=by have:=cu aI;omega
  obtain⟨A,aq,f,g⟩:=hs.at (oy aI);have c:=tr (l.take j) e;have hc:=ny (l[j]);have hx:=Nat.xor_lt_two_pow (n:=32) c (show(l[j]).toNat<4294967296 from I);refine⟨A,aq,f,_,g,λm i w'=>∃k:Nat,i=k/\k<=8/\m=((tq k (j2 n (l.take j)^^^(l[j]).toNat):Nat):Int)/\w=w',λ_ i _=>((8:Int)-i).toNat,⟨0,rfl,I,?_,rfl⟩,?_⟩
  .rw[uX I I,tx c I];rfl
  rintro _ _ _ ⟨k,rfl,q,rfl,rfl⟩;refine⟨λd=>?_,λb=>?_⟩
  .have d:k<8:=by have:=cu d;omega
   rw[DH (vJ hx k),bz (n:=(k:Int)+1) I I];refine⟨by decide,⟨k+1,I,I,rfl,rfl⟩,?_⟩;show((8:Int)-((k:Int)+1)).toNat<((8:Int)-(k:Int)).toNat;omega
  .have b:k=8:=by have:=cQ b;omega
   subst b;rw[bz (n:=(j:Int)+1) I I];refine⟨⟨j+1,I,I,?_,rfl⟩,?_⟩
   .rw[take_succ _ aI,yX];rfl
   .show((l.length:Int)-((j:Int)+1)).toNat<((l.length:Int)-(j:Int)).toNat
    omega
 .have a:j=l.length:=by have:=cQ a;omega
  subst a;rw[jj];exact⟨rfl,rfl⟩
theorem DI{n:Nat}(h:n<4294967296):4294967295^^^n=4294967295-n:=by
 apply Nat.eq_of_testBit_eq;intro i;have h1:(4294967295-n).testBit i=(decide (i<32)&& !n.testBit i):=by
  have:=Nat.testBit_two_pow_sub_succ (n:=32) (x:=n) (by simpa using h) i;rw[←this];congr 1;omega
 have a:(4294967295:Nat).testBit i=decide (i<32):=by
  have:=Nat.testBit_two_pow_sub_one 32 i;exact this
 rw[Nat.testBit_xor,h1,a];by_cases hi:i<32
 .simp[hi]
 .have:n.testBit i=false:=by
   apply Nat.testBit_lt_two_pow;exact fm h (qU (n:=2) I (show 32<=i from I))
  simp[hi,this]
theorem DJ{s:ad}{w:J}(c:O (ad×O UInt8))(hs:Src 1 w s (c.map λp=>gM p.1))(f:∀p∈c,Src 1 w p.1 (aA p.2))(k:(d_ c).length<=100000)(l:c.length<=100000):
 aL aj 195 #[s] w (λv w'=>v=.int .u32 (g_ (d_ c):Nat)/\w=w'):=by
 refine okF (ah.sM s) az.sM func195 ?_;(delta ah.sM ao aK r1 lF au;dsimp only);have o:s.len=c.length:=by have:=hs.len;rw[dG]at this;omega
 refine⟨λm i w'=>∃j:Nat,i=j/\j<=c.length/\m=((j2 4294967295 (d_ (c.take j)):Nat):Int)/\w=w',λ_ i _=>((c.length:Int)-i).toNat,⟨0,rfl,cX _,rfl,rfl⟩,?_⟩;rintro _ _ _ ⟨j,rfl,q,rfl,rfl⟩;refine⟨λaI=>?_,λe=>?_⟩
 .have aI:j<c.length:=by have:=cu aI;omega
  obtain⟨A,aq,g,h⟩:=hs.at (i:=j) (v:=gM (c[j]).1) (by simp[aI]);have d:=tr (d_ (c.take j)) (n:=4294967295) (by decide);refine⟨A,aq,g,(c[j]).1,h,(oq (f _ (cI aI)) d (by have:=yZ c aI;omega)).use ?_⟩;rintro _ _ ⟨rfl,rfl⟩;rw[bz (n:=(j:Int)+1) I I];refine⟨_,rfl,⟨j+1,I,I,?_,rfl⟩,?_⟩
  .rw[take_succ _ aI,←yX,yY]
  .show((c.length:Int)-((j:Int)+1)).toNat<((c.length:Int)-(j:Int)).toNat
   omega
 .have e:j=c.length:=by have:=cQ e;omega
  subst e;rw[jj];have d:=tr (d_ c) (n:=4294967295) (by decide);refine⟨?_,rfl⟩;have:=tx (a:=4294967295) (b:=j2 4294967295 (d_ c)) (by decide) d;rw[DI d]at this;exact congrArg _ this
theorem mK{s:ad}{l:O UInt8}{w:J}(hs:Src 1 w s (aA l))(hc:s.len<=s.cap)(f:l.length=256):
 aL aj 134 #[s] w (λv w'=>v=.int .u32 (sumOf l:Nat)/\Ext w w'):=by
 have g:=len8 hs;refine okF (ah.mK s) az.mK func134 ?_;delta ah.mK an lF aa;have b:Ext w w.drew:=ae.drew (.refl _ _);refine⟨⟨by decide,I⟩,⟨by decide,I⟩,?_⟩;have h1:=m6 (hs.ext b) hc (lo:=0) (hi:=20) I I;have e:=m6 (hs.ext b) hc (lo:=24) (hi:=s.len) I I;have c:∀o,Ext w.drew (w.drew.alloc o):=λo=>ae.alloc (.refl _ _) o;refine(DJ [(⟨aJ s.a 1 0 s.cap,20-0,s.cap-0⟩,(l.drop 0).take (20-0)),(⟨aJ s.a 1 24 s.cap,s.len-24,s.cap-24⟩,(l.drop 24).take (s.len-24))] (s:=⟨some w.drew.heap.size,2,2⟩) (Src.new w.drew _ 2 rfl) ?_ ?_ ?_).use ?_
 .intro p d
  simp only[c7,ff,fp]at d;rcases d with rfl|rfl
  .exact h1.ext (c _)
  .exact e.ext (c _)
 .simp[d_];omega
 .simp
 rintro _ w1 ⟨rfl,rfl⟩;refine⟨_,rfl,?_,b.trans (c _)⟩;have:d_ [((⟨aJ s.a 1 0 s.cap,20-0,s.cap-0⟩:ad),(l.drop 0).take (20-0)),(⟨aJ s.a 1 24 s.cap,s.len-24,s.cap-24⟩,(l.drop 24).take (s.len-24))]=l.take 20++l.drop 24:=by
  simp only[d_,g0,List.map_nil,List.flatten_cons,List.flatten_nil,fY,jk];rw[dJ (l:=l.drop 24) (by rw[dc];omega)]
 rw[this];rfl
theorem aZ.DK{T:TypeId}{w:J}{s:ad}{vs us:O Y}{b o:Nat}(h:aZ 1 T w s vs)(d:s.a=some ⟨b,0,none⟩)(p:o+us.length<=s.len):
 aZ 1 T (setCells w ⟨b,o,none⟩ 0 us) s (vs.take o++us++vs.drop (o+us.length)):=by
 obtain⟨h1,g,i,j⟩:=h;rcases j with ⟨k,_⟩|⟨q,c,e,m,f,ht⟩
 .rw[k]at d;cases d
 .rw[d]at e
  cases e;have r:c.toList.length=s.cap:=by simpa using f
  have n:o+us.length<=c.size:=by omega
  rw[fH]at h1 f;refine⟨by simp;omega,g,i,.inr ⟨b,_,d,bg.lD m us,by rw[iU];omega,?_⟩⟩;rw[fH]at ht⊢;rw[lC _ _ _ n,←ht,List.take_take,jl I,cY,cY,List.take_append,List.take_append,cK,jl I,
   dJ (l:=c.toList.take o) (by rw[cK];omega),dJ (l:=us) I,List.drop_take,show s.len-o-us.length=s.len-(o+us.length) from I]
theorem DL(w:J)(l:O UInt8):
 ∃w',Sem.run aj (convert 48 48 (.slice (some w.heap.size) l.length l.length)) (w.alloc (.cells (aA l).toArray 5))=.ok (.slice (some w.heap.size) l.length l.length) w'/\
  Src 1 w' ⟨some w.heap.size,l.length,l.length⟩ (aA l)/\Ext w w'/\w'.heap.size=w.heap.size+1:=by
 refine⟨_,Go.Lib.run_convert_bytes_const (P:=aj) w 48 5 (aA l).toArray l.length l.length (by kernel_rfl) (by kernel_rfl),⟨by rw[dg,fH],(λh=>by cases h),λa b=>?_⟩,ae.alloc (.refl _ _) _,by simp⟩
 cases b;have:=vl (w:=w.alloc (.cells (aA l).toArray 5 ((aA l).toArray.size,(aA l).toArray.size+1))) (A:=w.heap.size) (aA l) 0 (λj v c=>by
  rw[ay];show(World.cell? _ _)=_;have:(w.alloc (.cells (aA l).toArray 5 ((aA l).toArray.size,(aA l).toArray.size+1))).heap[w.heap.size]? =some (.cells (aA l).toArray 5 ((aA l).toArray.size,(aA l).toArray.size+1)):=by
   show(w.heap.push _)[w.heap.size]? =_;simp
  simp only[World.cell?,this];simpa using c)
 rw[dg]at this;rw[fH];exact this
theorem vL(n:Nat):gw aj 5 n=(aA (List.replicate n 0)).toArray:=by
 rw[x_ (v:=.int .u8 0) (by kernel_rfl) (by kernel_rfl)];simp[aA]
theorem DM{A Z T C:O UInt8}{n m:Nat}(aq:A.length=n)(a:Z.length=m):(aA (A++(Z++T))).take n++aA C++(aA (A++(Z++T))).drop (n+m)=aA (A++(C++T)):=by
 have b:(aA (A++(Z++T))).take n=aA A:=by rw[lP];exact k0 (by rw[dg,aq])
 have c:(aA (A++(Z++T))).drop (n+m)=aA T:=by rw[←cY,lP];exact drop_left' (by rw[dg,cM,aq,a])
 rw[b,c,lP,lP,cY]
theorem cJ(w:J):Ext w w.drew:=ae.drew (.refl _ _)
theorem dD(w:J)(o:Obj):Ext w (w.alloc o):=ae.alloc (.refl _ _) o
theorem ql(w:J)(o:Obj):(w.alloc o).heap.size=w.heap.size+1:=by simp
theorem tz{s:ad}{p:ij}{no:Nat}{w:J}(hs:Src 1 w s (aA p.body))(a2:no<1600)(i:lT p):
 aL aj 73 #[no,.agg #[p.kind,.int .u64 p.gen,s]] w (λv w'=>∃E:ad,v=.tuple #[E,(0:Int)]/\aZ 1 5 w' E (aA (dT no p))/\Ext w w'/\ga w E):=by
 have a3:=i.cn;have a4:=i.cp;have a5:=i.gen;have a6:=i.body;have O:=len8 hs;refine okF (ah.si no p.kind p.gen s) az.si func73 ?_;(delta ah.si cc ao aF aa r1 bJ cd jt eS au vd lF;dsimp only);refine bd (vs:=[p.kind,.int .u64 p.gen,s]) rfl λw1 y F a7=>?_;have a8:∀ {w':J},Ext w1 w'->w'.cell? (Addr.add w.heap.size 2)=some (.slice s.a s.len s.cap):=λhx=>by rw[ay];exact(y.ext hx).cell
 have aT:∀ {w':J},Ext w1 w'->w'.cell? (Addr.add w.heap.size 1)=some (.int .u64 p.gen):=λhx=>by rw[ay];exact(y.ext hx).cell
 refine Calls.mono (ah.yy no w1 (λv w'=>v=true/\w1=w') ⟨by simp;omega,rfl⟩) ?_;rintro _ _ ⟨_,rfl,rfl,rfl⟩;refine⟨_,rfl,cH (λb w'=>b=false/\w1=w') (λq j=>⟨λh1=>by simp at h1,λh1=>⟨p.kind,y.cell,?_⟩⟩) ?_⟩
 .refine Calls.mono (ah.yz p.kind w1 (λv w'=>v=true/\w1=w') ⟨by simp;omega,rfl⟩) ?_
  rintro _ _ ⟨_,rfl,rfl,rfl⟩;exact⟨_,rfl,j _ _ ⟨rfl,rfl⟩⟩
 rintro b _ ⟨rfl,rfl⟩;refine⟨λh=>(by cases h),λ_=>⟨s,a8 (.refl _ _),λh=>(by have:=cu h;omega),λ_=>aX ?_⟩⟩
 obtain⟨ai,ag,ak,P,a9⟩:=DL w1 fU;refine⟨⟨some w1.heap.size,4,4⟩,ai,ag,p.kind,(y.ext P).cell,?_⟩;have al:IntKind.wrap .u8 (p.kind:Int)=(((UInt8.ofNat p.kind).toNat:Nat):Int):=by rw[qb I,uW I I]
 rw[al];have z:=Src.new (T:=5) (sz:=1) ai (aA [1,UInt8.ofNat p.kind]) 2 rfl;have G:=dD ai (.cells (aA [1,UInt8.ofNat p.kind]).toArray 5);obtain⟨f,am⟩:∃f,f=ai.alloc (.cells (aA [1,UInt8.ofNat p.kind]).toArray 5):=⟨_,rfl⟩;show an (ai.alloc (.cells (aA [1,UInt8.ofNat p.kind]).toArray 5)) _;rw[←am]at z G⊢;refine aX ?_;have H:=Src.new (T:=48) (sz:=1) f [.slice (some w1.heap.size) 4 4,.slice (some ai.heap.size) 2 2] 2 rfl;have A:=dD f (.cells #[.slice (some w1.heap.size) 4 4,.slice (some ai.heap.size) 2 2] 48);obtain⟨B,Q⟩:∃B,B=f.alloc (.cells #[.slice (some w1.heap.size) 4 4,.slice (some ai.heap.size) 2 2] 48):=⟨_,rfl⟩;have H:Src 1 B ⟨some f.heap.size,2,2⟩ [.slice (some w1.heap.size) 4 4,.slice (some ai.heap.size) 2 2]:=by rw[Q];exact H
 rw[←Q]at A⊢;have ap:Ext w1 B:=P.trans (G.trans A);refine aX ((tv (s:=⟨some f.heap.size,2,2⟩) [((⟨some w1.heap.size,4,4⟩:ad),fU),(⟨some ai.heap.size,2,2⟩,[1,UInt8.ofNat p.kind])] H ?_ (by simp[d_,fU]) (by simp)).use ?_)
 .intro q j
  simp only[c7,ff,fp]at j;rcases j with rfl|rfl
  .exact ak.ext (G.trans A)
  .exact z.ext A
 rintro _ a_ ⟨aq,rfl,R,ar,ba⟩;have S:=ap.trans ar;have av:d_ [((⟨some w1.heap.size,4,4⟩:ad),fU),(⟨some ai.heap.size,2,2⟩,[1,UInt8.ofNat p.kind])]=fU++ [1,UInt8.ofNat p.kind]:=by simp[d_]
 rw[av]at R;refine⟨aq,rfl,s,a8 S,?_⟩;rw[gj (n:=(s.len:Int)) I I,gj (n:=(no:Int)) I I];refine(gl R.src (n:=s.len) (k:=2) (by simp[fU]) (by show _<18446744073709551616;omega) ⟨by decide,by decide⟩).use ?_;rintro _ bb ⟨aw,rfl,ax,aB,bc⟩;have aC:=S.trans aB;refine⟨aw,rfl,(gl ax.src (n:=no) (k:=4) (by simp[fU,du]) (by show _<18446744073709551616;omega) ⟨by decide,by decide⟩).use ?_⟩;rintro _ be ⟨aD,rfl,aE,aG,bf⟩;have U:=aC.trans aG;refine⟨aD,rfl,_,aT U,(gl aE.src (n:=p.gen) (k:=8) (by simp[fU,du]) (by show _<18446744073709551616;omega) ⟨by decide,by decide⟩).use ?_⟩;rintro _ d ⟨u,rfl,V,aH,bh⟩;have C:=U.trans aH;have aI:fU++ [1,UInt8.ofNat p.kind]++bF s.len 2++bF no 4++bF p.gen 8=eB no p:=by rw[O];simp[eB]
 rw[aI]at V;refine⟨u,rfl,cH (λt w'=>aZ 1 5 w' t (aA (eB no p++(List.replicate 4 0++eH p)))/\Ext w1 w'/\ga w t) (λq j=>?_) ?_⟩
 .have m:=cJ d
  have W:=C.trans m;have aK:IntKind.wrap .i64 (232-(s.len:Int))=((232-s.len:Nat):Int):=by rw[bz I I];omega
  refine aX ⟨λ_=>False,id,s,a8 W,id,s,a8 W,?_⟩;rw[aK];simp only[dO,show Int.toNat 4=4 from rfl];rw[vL,vL];have fin:∀ (K dU:J) (iW fD:ad),Ext d dU->Src 1 dU iW (aA (List.replicate 4 0))->Src 1 dU fD (aA (List.replicate (232-s.len) 0))->
   Calls aj 92 #[.slice (some dU.heap.size) 4 4] (dU.alloc (.cells #[u,iW,s,fD] 48)) λaM aN=>∃X:ad,aM=.returned X/\q X aN:=by
   intro K dU iW fD D h1 L;have r:=dD dU (.cells #[u,iW,s,fD] 48);refine(tv (s:=⟨some dU.heap.size,4,4⟩) [(u,eB no p),(iW,List.replicate 4 0),(s,p.body),(fD,List.replicate (232-s.len) 0)] (Src.new dU _ 4 rfl) ?_ (by simp[d_,lU];omega) (by simp)).use ?_
   .intro x hx
    simp only[c7,ff,fp]at hx;rcases hx with rfl|rfl|rfl|rfl
    .exact V.src.ext (D.trans r)
    .exact h1.ext r
    .exact hs.ext ((F.trans (C.trans D)).trans r)
    .exact L.ext r
   .rintro _ Y ⟨aO,rfl,aP,hx,hf⟩
    refine⟨aO,rfl,j _ _ ⟨?_,(C.trans D).trans (r.trans hx),hf.mono (F.trans ((C.trans D).trans r)).size⟩⟩;have e:d_ [(u,eB no p),(iW,List.replicate 4 0),(s,p.body),(fD,List.replicate (232-s.len) 0)]=eB no p++(List.replicate 4 0++eH p):=by simp[d_,eH,O]
    rwa[e]at aP
  refine⟨⟨⟨by decide,by decide,by decide,by decide⟩,aX ⟨dD _ _,⟨I,Int.le_refl _,I,I⟩,aX ⟨dD _ _,aX ?_⟩⟩⟩,⟨⟨I,Int.le_refl _,I,I⟩,aX ⟨dD _ _,⟨by decide,by decide,by decide,by decide⟩,aX ⟨dD _ _,aX ?_⟩⟩⟩⟩
  .refine fin d _ ⟨some d.drew.heap.size,4,4⟩ ⟨some ⟨(d.drew.alloc _).heap.size,0,none⟩,232-s.len,232-s.len⟩ (m.trans ((dD _ _).trans (dD _ _))) (Src.ext (Src.new _ _ _ (by simp[aA])) (dD _ _)) (Src.new _ _ _ (by simp[aA]))
  .refine fin d _ ⟨some ⟨(d.drew.alloc _).heap.size,0,none⟩,4,4⟩ ⟨some d.drew.heap.size,232-s.len,232-s.len⟩ (m.trans ((dD _ _).trans (dD _ _))) (Src.new _ _ _ (by simp[aA])) (Src.ext (Src.new _ _ _ (by simp[aA])) (dD _ _))
 rintro t K ⟨g,aQ,Z⟩;have bi:t.len=256:=by
  have:=k1 g;rw[this];simp[lU,tt i]
 have m:=cJ K;refine aX ⟨λ_=>False,⟨by decide,I⟩,(mK (g.src.ext m) g.2.1 (by simp[lU,tt i])).use ?_⟩;rintro _ Y ⟨rfl,aR⟩;have es:sumOf (eB no p++(List.replicate 4 0++eH p))=g_ (eB no p++eH p):=by
  unfold sumOf;rw[k0 (lU no p),←cY,drop_left' (by simp[lU])]
 rw[es];have bj:=vK (eB no p++eH p);refine⟨_,rfl,λ_=>False,?_⟩;rw[gj I I];refine(gl (s:=⟨none,0,0⟩) (l:=[]) (n:=g_ (eB no p++eH p)) (k:=4) (aZ.none 1 5 Y).src (by simp) (by show _<18446744073709551616;omega) ⟨by decide,by decide⟩).use ?_;rintro _ aS ⟨aU,rfl,M,aV,bk⟩;rw[kc]at M;have ab:=m.trans (aR.trans aV);have ac:=g.ext ab;have af:=k1 M;rw[du]at af;obtain⟨b,c,N,aW,bl,_⟩:∃b c,t.a=some ⟨b,0,none⟩/\bg aS b c 5/\c.size=t.cap*1/\c.toList.take (t.len*1)=aA (eB no p++(List.replicate 4 0++eH p)):=by
  rcases ac.2.2.2 with ⟨_,hc⟩|⟨b,c,h1,L,aY,a0⟩
  .have:=g.2.1;omega
  .exact⟨b,c,h1,L,aY,a0⟩
 have a1:aJ t.a 1 (Int.toNat 20) t.cap=some ⟨b,20,none⟩:=by
  rw[N,show Int.toNat 20=20 from rfl,nT (by have:=g.2.1;omega)]
 have bm:=g.2.1;refine⟨aU,rfl,_,_,by rw[a1];exact yD (by kernel_rfl) M.src (by rw[af];show 4<=t.len-20;omega) (aW.bU _ _ (by rw[dg,du];omega) (jW _)),t,rfl,?_,?_,Z⟩
 .have:=aZ.DK ac N (o:=20) (us:=aA (bF (g_ (eB no p++eH p)) 4)) (by rw[dg,du];omega)
  have e:(aA (eB no p++(List.replicate 4 0++eH p))).take 20++aA (bF (g_ (eB no p++eH p)) 4)++(aA (eB no p++(List.replicate 4 0++eH p))).drop (20+(aA (bF (g_ (eB no p++eH p)) 4)).length)=aA (dT no p):=by
   rw[dg,du];exact DM (lU no p) (by simp)
  rwa[e]at this
 .refine Ext.dj (F.trans (aQ.trans ab)) (ae.jT (.refl _ _) _ 0) λk z=>?_
  subst z;exact Z _ ⟨_,N,rfl⟩
theorem kU{s:ad}{l:O UInt8}{w:J}(hs:Src 1 w s (aA l))(hc:s.len<=s.cap){a k:Nat}{e:Int}(he:e=((a+k:Nat):Int))(b:1<=k/\k<=8)(c:a+k<=l.length)(d:l.length<=1000):
 aL aj 227 #[s,a,e] w (λv w'=>v=.int .u64 (dm l a k:Nat)/\w=w'):=by
 subst he;refine okF (ah.kU s a ((a+k:Nat):Int)) az.kU func227 ?_;delta ah.kU lG au;rw[bz I I,show(((a+k:Nat):Int)-(a:Int))=(k:Int) from I];refine(iX hs hc b c I).use ?_;rintro _ _ ⟨rfl,rfl⟩;exact⟨_,_,rfl,rfl,rfl⟩
theorem oh{s:ad}{l:O UInt8}{w:J}(hs:Src 1 w s (aA l))(o:l.length<=1000):
 aL aj 228 #[s] w (λv w'=>v=.bool (l.all λc=>c==0)/\w=w'):=by
 have p:=len8 hs;refine okF (ah.oh s) az.oh func228 ?_;(delta ah.oh ao aK en au;dsimp only);refine⟨λi w'=>∃j:Nat,i=j/\j<=l.length/\w=w'/\∀ (k:Nat) (a:k<l.length),k<j->l[k]=0,λi _=>((l.length:Int)-i).toNat,⟨0,rfl,cX _,rfl,λk a h=>I⟩,?_⟩;rintro _ _ ⟨j,rfl,q,rfl,d⟩;refine⟨λaI=>?_,λb=>?_⟩
 .have aI:j<l.length:=by have:=cu aI;omega
  obtain⟨A,aq,f,g⟩:=hs.at (oy aI);refine⟨A,aq,f,_,g,λe=>?_,λm=>?_⟩
  .refine⟨?_,rfl⟩
   have:(l.all λc=>c==0)=false:=by
    rw[List.all_eq_false];refine⟨l[j],cI _,λh=>?_⟩;have h:=eq_of_beq h;rw[h]at e;simp at e
   rw[this]
  .have h0:l[j]=0:=by
    have:((l[j]).toNat:Int)=0:=by simpa using m
    exact UInt8.toNat_inj.1 (by show(l[j]).toNat=0;omega)
   rw[bz (n:=(j:Int)+1) I I];refine⟨⟨j+1,I,I,rfl,λk a h=>?_⟩,?_⟩
   .rcases ed k j with h1|h1
    .exact d k a h1
    .have:k=j:=by omega
     subst this;exact h0
   .show((l.length:Int)-((j:Int)+1)).toNat<((l.length:Int)-(j:Int)).toNat
    omega
 .have b:j=l.length:=by have:=cQ b;omega
  subst b;refine⟨?_,rfl⟩;have:(l.all λc=>c==0)=true:=by
   rw[nr];intro c hc;obtain⟨k,a,rfl⟩:=e0 hc;rw[d k a a];rfl
  rw[this]
def y0(kind gen:Int)(s:ad):Y:=.agg #[kind,.int .u64 gen,s]
def tA(r:Except Int ij)(w w':J)(v:Y):Prop:=
 match r with
 | .ok p=>∃s:ad,v=.tuple #[y0 p.kind p.gen s,(0:Int)]/\aZ 1 5 w' s (aA p.body)/\ga w s
 | .error e=>v=.tuple #[y0 0 0 ⟨none,0,0⟩,e]
theorem y1{w':J}{h:Nat}{vs:O Y}(n g:Int)(s:ad)(b:Var w' h vs 150)(e:vs.length=3){K:Int->Int->ad->J->Prop}(i:∀ai,ae (λq=>q=h) w' ai->K n g s ai):
 bh w' h [n,.int .u64 g,s]/\(3:Nat)=3/\an (setCells w' h 0 [n,.int .u64 g,s]) λai=>
  ∃f:Int,ai.cell? h=some (.int .i64 f)/\∃cv:Int,ai.cell? (Addr.add h 1)=some (.int .u64 cv)/\∃c:ad,ai.cell? (Addr.add h 2)=some (.slice c.a c.len c.cap)/\K f cv c ai:=by
 refine⟨b.bU (by rw[e];rfl) ?_,rfl,cl b (us:=[n,.int .u64 g,s]) (by rw[e];rfl) rfl λai d hc _=>?_⟩
 .intro v b
  simp only[c7,ff,fp]at b;rcases b with rfl|rfl|rfl<;>trivial
 .exact⟨n,d.cell,g,by rw[ay];exact d.cell,s,by rw[ay];exact d.cell,i ai hc⟩
theorem od{s:ad}{l:O UInt8}{w:J}(hs:Src 1 w s (aA l))(hc:s.len<=s.cap)(u:l.length<=1000)(no:Int):
 aL aj 172 #[no,s] w (λv w'=>tA (fa no l) w w' v/\Ext w w'):=by
 have av:=len8 hs;refine okF (ah.od no s) az.od func172 ?_;(delta ah.od rQ ao aa aF cd r1 vf aK en lF pQ cc au gU;dsimp only);refine bd (vs:=[(0:Int),.int .u64 0,()]) rfl λw1 A x _=>?_
 have out:∀ (w':J) (e:Int),Ext w1 w'->fa no l=.error e->
  bh w' w.heap.size [(0:Int),.int .u64 0,()]/\(3:Nat)=3/\an (setCells w' w.heap.size 0 [(0:Int),.int .u64 0,()]) λai=>
  ∃g:Int,ai.cell? w.heap.size=some (.int .i64 g)/\∃cv:Int,ai.cell? (Addr.add w.heap.size 1)=some (.int .u64 cv)/\∃d:ad,ai.cell? (Addr.add w.heap.size 2)=some (.slice d.a d.len d.cap)/\
   (λv w'=>tA (fa no l) w w' v/\Ext w w') (.tuple #[.agg #[g,.int .u64 cv,d],e]) ai:=by
  intro w' e hx he;refine y1 0 0 ⟨none,0,0⟩ (A.ext hx) rfl (K:=λg cv d ai=>(λv w'=>tA (fa no l) w w' v/\Ext w w') (.tuple #[.agg #[g,.int .u64 cv,d],e]) ai) λai y=>⟨?_,Ext.cC (x.trans hx) y (bl _)⟩;rw[he];rfl
 refine⟨λh=>out _ _ (.refl _ _) ?_,λh=>?_⟩
 .have h:(s.len:Int)≠256:=by simpa using h
  unfold fa;rw[if_pos I]
 have h:(s.len:Int)=256:=by simpa using h
 have N:l.length=256:=by omega
 have o:=hs.ext x;have P:=m6 o hc (lo:=0) (hi:=4) I I;have Q:Src 1 w1 ⟨aJ s.a 1 0 s.cap,4-0,s.cap-0⟩ (((l.take 4).map λb=>(b.toNat:Int)).map (.int .u8)):=by
  rw[nw];exact P
 have E:=yC (src:=48) (dst:=9) (by kernel_rfl) (by kernel_rfl) Q;have R:(((l.take 4).map λb=>(b.toNat:Int)).map λn=>UInt8.ofNat n.toNat)=l.take 4:=by
  rw[nw];have:((λn:Int=>UInt8.ofNat n.toNat)∘ λb:UInt8=>(b.toNat:Int))=id:=by funext b;simp
  rw[this,List.map_id]
 rw[R]at E;refine⟨⟨by decide,I⟩,S (l.take 4),w1,E,?_⟩;have T:(ByteArray.toList (S (l.take 4))==ByteArray.toList (ByteArray.mk #[83,84,78,67]))=decide (l.take 4=fU):=by
  rw[show(ByteArray.mk #[83,84,78,67])=S fU from rfl,yf];rw[fA];simp
 rw[T];refine⟨λh=>out _ _ (.refl _ _) ?_,λh=>?_⟩
 .have h:l.take 4≠fU:=by simpa using h
  unfold fa;rw[if_neg I,if_pos h]
 have p:l.take 4=fU:=by simpa using h
 obtain⟨U,V,aw,W⟩:=o.at (oy (l:=l) (i:=4) I);have ax:s.len=256:=by omega
 refine⟨U,V,⟨by decide,I⟩,_,W,λh=>out _ _ (.refl _ _) ?_,λh=>?_⟩
 .have h:(((l[4]'I).toNat:Nat):Int)≠1:=by simpa using h
  unfold fa;rw[if_neg I,if_neg (by simp[p]),if_pos (by
   intro e;apply h;rw[fI,dI I]at e;have e:(l[4]'I)=1:=e;rw[e];rfl)]
 have z:l.getD 4 0=1:=by
  have h:(((l[4]'I).toNat:Nat):Int)=1:=by simpa using h
  rw[fI,dI I];exact UInt8.toNat_inj.1 (by show(l[4]'I).toNat=1;omega)
 refine(mK o hc N).use ?_;rintro _ ai ⟨rfl,f⟩;have j:=o.ext f;refine⟨_,rfl,(kU j hc (a:=20) (k:=4) (e:=24) rfl (by decide) I u).use ?_⟩;rintro _ _ ⟨rfl,rfl⟩;have ay:sumOf l<4294967296:=vK _;rw[gj (n:=((sumOf l:Nat):Int)) I I];refine⟨_,rfl,λh=>out _ _ f ?_,λh=>?_⟩
 .have h:((sumOf l:Nat):Int)≠((dm l 20 4:Nat):Int):=by simpa using h
  unfold fa;rw[if_neg I,if_neg (by simp[p]),if_neg (λh=>h z),if_pos I]
 have aB:sumOf l=dm l 20 4:=by
  have h:((sumOf l:Nat):Int)=((dm l 20 4:Nat):Int):=by simpa using h
  omega
 refine(kU j hc (a:=6) (k:=2) (e:=8) rfl (by decide) I u).use ?_;rintro _ _ ⟨rfl,rfl⟩;have aC:dm l 6 2<65536:=qe 2 _ (by simp;omega);obtain⟨X,Y,aD,Z⟩:=j.at (oy (l:=l) (i:=5) I);have B:l.getD 5 0=l[5]'I:=by rw[fI,dI I];rfl
 have aE:=ny (l[5]'I);refine⟨_,rfl,X,Y,⟨by decide,I⟩,_,Z,?_⟩;rw[bz (n:=(((l[5]'I).toNat:Nat):Int)) I I,bz (n:=((dm l 6 2:Nat):Int)) I I];refine Calls.mono (ah.yz (((l[5]'I).toNat:Nat):Int) ai (λv w'=>v=.bool (decide (1<=(l[5]'I).toNat/\(l[5]'I).toNat<=4))/\ai=w') ⟨?_,rfl⟩) ?_
 .have e:(decide ((((l[5]'I).toNat:Nat):Int)>=1)&&decide ((((l[5]'I).toNat:Nat):Int)<=4))=decide (1<=(l[5]'I).toNat/\(l[5]'I).toNat<=4):=by
   rw[fA];simp only[dn,cA];omega
  rw[e]
 rintro _ _ ⟨_,rfl,rfl,rfl⟩;have aG:24+dm l 6 2<=256->True:=λ_=>trivial;refine⟨_,rfl,cH (λb w'=>b=decide (¬(1<=(l[5]'I).toNat/\(l[5]'I).toNat<=4)\/232<dm l 6 2\/(l.drop (24+dm l 6 2)).all (λc=>c==0)=false)/\ai=w') (λq r=>⟨λh1=>r _ _ ⟨?_,rfl⟩,λh1=>?_⟩) ?_⟩
 .refine(dw ?_).symm
  simp only[h5,iI,j9,cA]at h1;rcases h1 with h1|h1
  .exact .inl h1
  .exact .inr (.inl I)
 .simp only[o8,nz,j9,cA]at h1
  have ab:dm l 6 2<=232:=by omega
  rw[bz (n:=24+((dm l 6 2:Nat):Int)) I I];refine⟨⟨I,I⟩,?_⟩;have ac:Int.toNat (24+((dm l 6 2:Nat):Int))=24+dm l 6 2:=by omega
  rw[ac];have F:=m6 j hc (lo:=24+dm l 6 2) (hi:=s.len) I I;rw[dJ (l:=l.drop (24+dm l 6 2)) (by rw[dc];omega)]at F;refine(oh F (by rw[dc];omega)).use ?_;rintro _ _ ⟨rfl,rfl⟩;refine⟨_,rfl,r _ _ ⟨?_,rfl⟩⟩
  cases aH:(l.drop (24+dm l 6 2)).all (λc=>c==0) with
  |true=>exact(iw (by rintro(m|m|m)<;>first|exact m h1.1|omega|cases m)).symm
  |false=>exact(dw (.inr (.inr rfl))).symm
 rintro b _ ⟨rfl,rfl⟩;refine⟨λh=>out _ _ f ?_,λh=>?_⟩
 .have h:=cu h
  unfold fa;rw[if_neg I,if_neg (by simp[p]),if_neg (λh=>h z),if_neg I,if_pos (by rw[B];exact h)]
 have t:=cQ h;have G:¬(¬(1<=(l.getD 5 0).toNat/\(l.getD 5 0).toNat<=4)\/232<dm l 6 2\/(l.drop (24+dm l 6 2)).all (λc=>c==0)=false):=by rw[B];exact t
 have ab:dm l 6 2<=232:=by
  rcases ed 232 (dm l 6 2) with h1|h1
  .exact absurd (.inr (.inl h1)) t
  .exact h1
 have aI:1<=(l[5]'I).toNat/\(l[5]'I).toNat<=4:=Decidable.byContradiction λh=>t (.inl h);refine Calls.mono (ah.yy no ai (λv w'=>v=.bool (decide (0<=no/\no<1600))/\ai=w') ⟨by simp[ge_iff_le],rfl⟩) ?_;rintro _ _ ⟨_,rfl,rfl,rfl⟩;have aM:dm l 8 4<4294967296:=qe 4 _ (by simp;omega);refine⟨_,rfl,cH (λb w'=>b=decide (¬(0<=no/\no<1600)\/(dm l 8 4:Int)≠no)/\ai=w') (λq r=>⟨λh1=>r _ _ ⟨?_,rfl⟩,λh1=>?_⟩) ?_⟩
 .refine(dw ?_).symm
  simp only[iI,j9]at h1;exact .inl h1
 .simp only[nz,cA]at h1
  refine(kU j hc (a:=8) (k:=4) (e:=12) rfl (by decide) I u).use ?_;rintro _ _ ⟨rfl,rfl⟩;refine⟨_,rfl,r _ _ ⟨?_,rfl⟩⟩;rw[gj (n:=no) I I,fA,cA,bne_iff_ne];exact⟨λh=>.inr h,λh=>h.resolve_left (λm=>m h1)⟩
 rintro b _ ⟨rfl,rfl⟩;refine⟨λh=>out _ _ f ?_,λh=>?_⟩
 .have h:=cu h
  unfold fa;rw[if_neg I,if_neg (by simp[p]),if_neg (λh=>h z),if_neg I,if_neg G,if_pos h]
 have ae:=cQ h;have ag:fa no l=.ok ⟨(l.getD 5 0).toNat,dm l 12 8,(l.drop 24).take (dm l 6 2)⟩:=by
  unfold fa;rw[if_neg I,if_neg (by simp[p]),if_neg (λh=>h z),if_neg I,if_neg G,if_neg ae]
 refine(om j hc (a:=24) (k:=dm l 6 2) I I).use ?_;rintro _ ak ⟨C,rfl,al,am,H⟩;have L:=cJ ak;have D:=f.trans (am.trans L);have M:=o.ext D;obtain⟨ap,aq,aN,ar⟩:=M.at (oy (l:=l) (i:=5) I);refine⟨C,true,rfl,aX ⟨λ_=>False,ap,aq,⟨by decide,I⟩,id,_,ar,(kU M hc (a:=12) (k:=8) (e:=20) rfl (by decide) I u).use ?_⟩⟩;rintro _ _ ⟨rfl,rfl⟩;rw[bz (n:=(((l[5]'I).toNat:Nat):Int)) I I];refine⟨_,rfl,.refl _ _,y1 _ _ C (A.ext D) rfl (K:=λg cv d ai=>(λv w'=>tA (fa no l) w w' v/\Ext w w') (.tuple #[.agg #[g,.int .u64 cv,d],(0:Int)]) ai) λaO y=>⟨?_,Ext.cC (x.trans D) y (bl _)⟩⟩;rw[ag];refine⟨C,by rw[B];rfl,(al.ext L).af y λk t e=>?_,H.mono (x.trans f).size⟩;have:=H k t;have:=A.lt;have:=f.size;subst e;omega
theorem y2{P:Program}{w:J}:∀ (l:O UInt8) (a:ag) (acc:ByteArray),(∀j x,l[j]? =some x->w.cell? (a.add j)=some (.int .u8 (x.toNat:Int)))->
 (Extern.Bytes.loadBytes a l.length acc).run P w=.ok ⟨acc.data++l.toArray⟩ w
 | [],a,acc,_=>by simp[Extern.Bytes.loadBytes]
 |x::l,a,acc,h=>by
  have h0:=h 0 x rfl
  rw[add_zero']at h0
  have b:=y2 (P:=P) l (a.add 1) (acc.push x) (λj y c=>by
   rw[add_add,Nat.add_comm]
   exact h (j+1) y (by simpa using c))
  have hx:(x.toNat:Int).toNat.toUInt8=x:=CJ x
  simp only[hJ,Extern.Bytes.loadBytes,Sem.run_bind,uv h0,Result.andThen,hx]
  rw[b]
  congr 2
  simp[ByteArray.push]
theorem y3{P:Program}{w:J}{s:ad}{l:O UInt8}(h:Src 1 w s (aA l)):(Extern.Bytes.bytesOf s).run P w=.ok (S l) w:=by
 cases hs:s.a with
 |none=>
  have h0:l=[]:=by
   have:=h.nil hs
   cases l with
   |nil=>rfl
   |cons a l=>simp[aA]at this
  subst h0;rfl
 |some A=>
  have b:=h.rd A hs;rw[fH]at b;have:=y2 (P:=P) (w:=w) l A .empty (λj x c=>by
   have:=rv b (j:=j) (v:=.int .u8 (x.toNat:Int)) (by simp[aA,c]);simpa using this)
  show(Extern.Bytes.loadBytes A s.len .empty).run P w=_;rw[len8 h,this]
  congr 1
  show(ByteArray.mk (ByteArray.empty.data++l.toArray))=ByteArray.mk l.toArray
  congr 1
  exact Array.empty_append ..
theorem y4:∀a b:Key,Lib.compareBytes a b=eT a b
 | [],[]=>rfl
 | [],_::_=>rfl
 |_::_,[]=>rfl
 |a::x,b::y=>by
  simp only[Lib.compareBytes,eT,UInt8.lt_iff_toNat_lt,y4 x y]
theorem lI{s t:ad}{l m:Key}{w:J}(hs:Src 1 w s (aA l))(ht:Src 1 w t (aA m)):
 aL aj 176 #[s,t] w (λv w'=>v=.int .i64 (eT l m)/\w=w'):=by
 refine okF (ah.lI s t) az.lI func176 ?_;unfold ah.lI;refine⟨eT l m,w,?_,rfl,rfl⟩;rw[run_callFunc_extern func230 rfl rfl rfl rfl];have:(Extern.BytealgCompare.compare #[s,t]).run aj w=.ok (.int .i64 (eT l m)) w:=by
  change Sem.run aj (do pure (goInt (Extern.BytealgCompare.cmp (←Extern.Bytes.bytesOf s) (←Extern.Bytes.bytesOf t)))) w=_
  simp only[Sem.run_bind,y3 hs,y3 ht,Result.andThen,Sem.run_pure];rw[Lib.cmp_eq];show Result.ok (goInt (Lib.compareBytes l m)) w=_;rw[y4];rfl
 rw[this];rfl
theorem y5{s:ad}{l:O UInt8}{w:J}(h:Src 1 w s (aA l)):Sem.run aj (convert 48 9 s) w=.ok (.string (S l)) w:=by
 have a:Src 1 w s ((l.map λb=>(b.toNat:Int)).map (.int .u8)):=by rw[nw];exact h
 have:=yC (src:=48) (dst:=9) (by kernel_rfl) (by kernel_rfl) a;rw[nw]at this;have e:((λn:Int=>UInt8.ofNat n.toNat)∘ λb:UInt8=>(b.toNat:Int))=id:=by funext b;simp
 rw[e,List.map_id]at this;exact this
theorem mF{s t:ad}{l m:Key}{w:J}(hs:Src 1 w s (aA l))(ht:Src 1 w t (aA m)):
 aL aj 158 #[s,t] w (λv w'=>v=.bool (decide (l=m))/\w=w'):=by
 refine okF (ah.mF s t) az.mF func158 ?_;unfold ah.mF;refine⟨_,_,y5 hs,_,_,y5 ht,?_,rfl⟩;rw[yf]
 congr 1
 rw[fA];simp
def In(B:Nat->Prop)(w:J)(s:ad):Prop:=∀k,aC s k->B k/\k<w.heap.size
def bn(B:Nat->Prop)(w:J)(t:ad)(l:Key):Prop:=Src 1 w t (aA l)/\t.len<=t.cap/\In B w t
def a_(B:Nat->Prop)(w:J)(s:ad)(ls:O Key):Prop:=
 ∃ts:O ad,ts.length=ls.length/\Src 1 w s (ts.map gM)/\s.len<=s.cap/\In B w s/\∀ (i:Nat) (h1:i<ts.length) (a:i<ls.length),bn B w ts[i] ls[i]
def fj(ds:O Nat):O Y:=ds.map λd=>.int .i64 ((d:Nat):Int)
def cw(B:Nat->Prop)(w:J)(s:ad)(ds:O Nat):Prop:=Src 1 w s (fj ds)/\s.len<=s.cap/\In B w s
def bk(B:Nat->Prop)(w:J)(s:ad)(ls:O Key):Prop:=
 ∃ts:O ad,ts.length=ls.length/\aZ 1 48 w s (ts.map gM)/\In B w s/\∀ (i:Nat) (h1:i<ts.length) (a:i<ls.length),bn B w ts[i] ls[i]/\∀k,aC ts[i] k->¬aC s k
def cG(B:Nat->Prop)(w:J)(s:ad)(ds:O Nat):Prop:=aZ 1 3 w s (fj ds)/\In B w s
section
variable {B C:Nat->Prop}{w w':J}{s t:ad}{l:Key}{ls:O Key}{ds:O Nat}
theorem In.af{V:Nat->Prop}(h:In B w s)(hc:ae V w w'):In B w' s:=λk a=>⟨(h k a).1,fm (h k a).2 hc.size⟩
theorem In.aY(h:In B w s)(b:∀k,k<w.heap.size->B k->C k):In C w s:=λk a=>⟨b k (h k a).2 (h k a).1,(h k a).2⟩
theorem bn.af{V:Nat->Prop}(h:bn B w t l)(hc:ae V w w')(a:∀k,B k->¬V k):bn B w' t l:=⟨h.1.af hc λk b=>a k (h.2.2 k b).1,h.2.1,In.af h.2.2 hc⟩
theorem bn.iZ{V:Nat->Prop}(h:bn B w t l)(hc:ae V w w')(a:∀k,aC t k->¬V k):bn B w' t l:=⟨h.1.af hc a,h.2.1,In.af h.2.2 hc⟩
theorem bn.ext(h:bn B w t l)(hc:Ext w w'):bn B w' t l:=bn.af h hc λ_ _ h=>h
theorem bn.aY(h:bn B w t l)(a:∀k,k<w.heap.size->B k->C k):bn C w t l:=⟨h.1,h.2.1,In.aY h.2.2 a⟩
theorem a_.af{V:Nat->Prop}(h:a_ B w s ls)(hc:ae V w w')(a:∀k,B k->¬V k):a_ B w' s ls:=by
 obtain⟨ts,h1,c,d,b,e⟩:=h;exact⟨ts,h1,c.af hc λk f=>a k (b k f).1,d,In.af b hc,λi g j=>bn.af (e i g j) hc a⟩
theorem a_.ext(h:a_ B w s ls)(hc:Ext w w'):a_ B w' s ls:=a_.af h hc λ_ _ h=>h
theorem a_.aY(h:a_ B w s ls)(a:∀k,k<w.heap.size->B k->C k):a_ C w s ls:=by
 obtain⟨ts,h1,b,c,d,e⟩:=h;exact⟨ts,h1,b,c,In.aY d a,λi f g=>bn.aY (e i f g) a⟩
theorem cw.af{V:Nat->Prop}(h:cw B w s ds)(hc:ae V w w')(a:∀k,B k->¬V k):cw B w' s ds:=⟨h.1.af hc λk b=>a k (h.2.2 k b).1,h.2.1,In.af h.2.2 hc⟩
theorem cw.ext(h:cw B w s ds)(hc:Ext w w'):cw B w' s ds:=cw.af h hc λ_ _ h=>h
theorem cw.aY(h:cw B w s ds)(a:∀k,k<w.heap.size->B k->C k):cw C w s ds:=⟨h.1,h.2.1,In.aY h.2.2 a⟩
theorem a_.len(h:a_ B w s ls):s.len=ls.length:=by
 obtain⟨ts,h1,a,_⟩:=h;have:=a.len;rw[dG]at this;omega
theorem oI(ds:O Nat):(fj ds).length=ds.length:=by simp[fj]
theorem cw.len(h:cw B w s ds):s.len=ds.length:=by
 have:=h.1.len;rw[oI]at this;omega
theorem a_.at(h:a_ B w s ls){i:Nat}(hi:i<ls.length):∃ (A:ag) (t:ad),s.a=some A/\((0:Int)<=(i:Int)/\(i:Int)<(s.len:Int))/\w.cell? (A.add (Int.toNat (i:Int)*1))=some (.slice t.a t.len t.cap)/\bn B w t ls[i]/\B A.block:=by
 obtain⟨ts,h1,b,f,c,d⟩:=h;obtain⟨A,aq,e,hc⟩:=b.at (i:=i) (v:=gM (ts[i]'I)) (by simp[h1,hi]);exact⟨A,ts[i]'I,aq,e,hc,d i I hi,(c _ ⟨A,aq,rfl⟩).1⟩
theorem cw.at(h:cw B w s ds){i:Nat}(hi:i<ds.length):∃A:ag,s.a=some A/\((0:Int)<=(i:Int)/\(i:Int)<((s.len:Nat):Int))/\w.cell? (A.add (Int.toNat (i:Int)*1))=some (.int .i64 ((ds[i]:Nat):Int)):=by
 obtain⟨A,aq,b,hc⟩:=h.1.at (i:=i) (v:=.int .i64 ((ds[i]:Nat):Int)) (by simp[fj,hi]);exact⟨A,aq,b,hc⟩
theorem bk.ik(h:bk B w s ls):a_ B w s ls:=by
 obtain⟨ts,h1,a,b,c⟩:=h;exact⟨ts,h1,a.src,a.2.1,b,λi d e=>(c i d e).1⟩
theorem cG.qm(h:cG B w s ds):cw B w s ds:=⟨h.1.src,h.1.2.1,h.2⟩
theorem bk.none(B:Nat->Prop)(w:J):bk B w ⟨.none,0,0⟩ []:=⟨[],rfl,aZ.none _ _ _,λk a=>(hN k a).elim,λi h=>by simp at h⟩
theorem cG.none(B:Nat->Prop)(w:J):cG B w ⟨.none,0,0⟩ []:=⟨aZ.none _ _ _,λk a=>(hN k a).elim⟩
theorem a_.none(B:Nat->Prop)(w:J):a_ B w ⟨.none,0,0⟩ []:=bk.ik (bk.none B w)
theorem cw.none(B:Nat->Prop)(w:J):cw B w ⟨.none,0,0⟩ []:=cG.qm (cG.none B w)
theorem bk.af{V:Nat->Prop}(h:bk B w s ls)(hc:ae V w w')(a:∀k,B k->¬V k):bk B w' s ls:=by
 obtain⟨ts,h1,f,b,c⟩:=h;exact⟨ts,h1,f.af hc λk g=>a k (b k g).1,In.af b hc,λi d e=>⟨bn.af (c i d e).1 hc a,(c i d e).2⟩⟩
theorem bk.ext(h:bk B w s ls)(hc:Ext w w'):bk B w' s ls:=bk.af h hc λ_ _ h=>h
theorem cG.af{V:Nat->Prop}(h:cG B w s ds)(hc:ae V w w')(a:∀k,B k->¬V k):cG B w' s ds:=⟨h.1.af hc λk b=>a k (h.2 k b).1,In.af h.2 hc⟩
theorem cG.ext(h:cG B w s ds)(hc:Ext w w'):cG B w' s ds:=cG.af h hc λ_ _ h=>h
theorem bn.some(h:bn B w t l)(b:l≠ []):∃A,t.a=some A:=by
 cases c:t.a with
 |none=>
  have:=h.1.nil c;exfalso;apply b
  cases l with
  |nil=>rfl
  |cons a l=>simp[aA]at this
 |some A=>exact⟨A,rfl⟩
end
theorem qn:ia aj 127 48 1 24:=⟨by kernel_rfl⟩
theorem qo:ia aj 58 3 1 8:=⟨by kernel_rfl⟩
theorem vM(ts:O ad):∀v∈ts.map gM,Plain v:=by
 intro v a;obtain⟨n,_,rfl⟩:=e6.1 a;trivial
theorem y6(ds:O Nat):∀v∈fj ds,Plain v:=by
 intro v a;obtain⟨n,_,rfl⟩:=e6.1 a;trivial
theorem jA{B:Nat->Prop}{w:J}{s:ad}{l:O UInt8}(h:Src 1 w s (aA l))(d:l.length<=1000000)(e:∀k,w.heap.size<=k->B k):
 aL aj 135 #[s] w (λv w'=>∃a:ad,v=a/\bn B w' a l/\Ext w w'/\ga w a):=by
 refine(vo h d).mono ?_;rintro _ w' ⟨a,rfl,b,hx,hf⟩;exact⟨a,rfl,⟨b.src,b.2.1,λk c=>⟨e k (hf k c),b.lt k c⟩⟩,hx,hf⟩
theorem y7{B:Nat->Prop}{w:J}{s t:ad}{ls:O Key}{l:Key}(p:bk B w s ls)(ht:bn B w t l)(hd:∀k,aC t k->¬aC s k)(D:ls.length<=1000000)(q:∀k,w.heap.size<=k->B k):
 ∃ (b:ad) (w':J),Sem.run aj (Builtin.append_ #[127,127] 127 #[s,.slice (some w.heap.size) 1 1]) (w.alloc (.cells #[t] 48))=.ok b w'/\
  bk B w' b (ls++ [l])/\ae (aC s) w w'/\(∀k,aC b k->aC s k\/w.heap.size<=k):=by
 obtain⟨ts,h1,f,r,u⟩:=p;have E:s.len=ls.length:=by have:=f.1;rw[dG]at this;omega
 obtain⟨b,w',av,g,F,c,d⟩:=qn.push (dK:=127) (w:=w) (s:=s) (xs:=[gM t]) rfl f (λv y=>by rw[fo.1 y];trivial) I;refine⟨b,w',av,⟨ts++ [t],by simp[h1],?_,?_,λi j z=>?_⟩,c,d⟩
 .rw[fB];exact g
 .intro k a
  refine⟨?_,g.lt k a⟩;rcases d k a with h|h
  .exact(r k h).1
  .exact q k h
 .have m:∀ (x:ad),(∀k,aC x k->k<w.heap.size)->(∀k,aC x k->¬aC s k)->∀k,aC x k->¬aC b k:=λx hx A k a C=>by
   rcases d k C with h|h
   .exact A k a h
   .have:=hx k a;omega
  have G:i<ts.length+1:=by simpa using j
  rcases ed i ts.length with h|h
  .obtain⟨n,o⟩:=u i h I
   simp only[ph h,ph (show i<ls.length from I)];exact⟨bn.iZ n c o,m _ (λk a=>(n.2.2 k a).2) o⟩
  .have:i=ts.length:=by omega
   subst this;have e:(ts++ [t])[ts.length]'j=t:=by simp
   have:(ls++ [l])[ts.length]'z=l:=by rw[qX I];simp
   rw[this,e];exact⟨bn.iZ ht c hd,m _ (λk a=>(ht.2.2 k a).2) hd⟩
theorem DN{B:Nat->Prop}{w:J}{s:ad}{ds:O Nat}(d:Nat)(c:cG B w s ds)(m:ds.length<=1000000)(i:∀k,w.heap.size<=k->B k):
 ∃ (b:ad) (w':J),Sem.run aj (Builtin.append_ #[58,58] 58 #[.slice s.a s.len s.cap,.slice (some ⟨w.heap.size,0,none⟩) 1 1]) (w.alloc (.cells #[.int .i64 ((d:Nat):Int)] 3))=.ok (.slice b.a b.len b.cap) w'/\
  cG B w' b (ds++ [d])/\ae (aC s) w w'/\(∀k,aC b k->aC s k\/w.heap.size<=k):=by
 have n:s.len=ds.length:=by have:=c.1.1;rw[oI]at this;omega
 obtain⟨b,w',av,e,o,j,f⟩:=qo.push (dK:=58) (w:=w) (s:=s) (xs:=[.int .i64 ((d:Nat):Int)]) rfl c.1 (λv l=>by rw[fo.1 l];trivial) I;refine⟨b,w',av,⟨by simpa[fj] using e,λk g=>⟨?_,e.lt k g⟩⟩,j,f⟩;rcases f k g with h|h
 .exact(c.2 k h).1
 .exact i k h
structure bt(B:Nat->Prop)(w:J)(n:aB)(K V D:ad):Prop where
 keys:a_ B w K n.keys
 vals:a_ B w V n.vals
 kids:cw B w D n.kids
def dY(n:aB)(K V D:ad):O Y:=[n.leaf,K,V,D]
def c0(n:aB)(K V D:ad):Y:=.agg #[n.leaf,K,V,D]
section
variable {B C:Nat->Prop}{w w':J}{n:aB}{K V D:ad}
theorem bt.af{W:Nat->Prop}(h:bt B w n K V D)(hc:ae W w w')(a:∀k,B k->¬W k):bt B w' n K V D:=⟨a_.af h.keys hc a,a_.af h.vals hc a,cw.af h.kids hc a⟩
theorem bt.ext(h:bt B w n K V D)(hc:Ext w w'):bt B w' n K V D:=bt.af h hc λ_ _ h=>h
theorem bt.aY(h:bt B w n K V D)(a:∀k,k<w.heap.size->B k->C k):bt C w n K V D:=⟨a_.aY h.keys a,a_.aY h.vals a,cw.aY h.kids a⟩
theorem bC{b:Nat}{T:TypeId}{leaf:al}(h:Var w b [leaf,K,V,D] T):
 w.cell? b=some (.bool leaf)/\w.cell? (Addr.add b 1)=some (.slice K.a K.len K.cap)/\w.cell? (Addr.add b 2)=some (.slice V.a V.len V.cap)/\w.cell? (Addr.add b 3)=some (.slice D.a D.len D.cap):=by
 rw[ay,ay,ay];exact⟨h.cell,h.cell,h.cell,h.cell⟩
end
theorem DO{B:Nat->Prop}{w:J}{s:ad}{ls:O Key}(h:a_ B w s ls)(f:ls.length<=1000000):
   aL aj 242 #[s,.func (.func 241) #[] #[]] w (λv w'=>v=.bool (ls.any λv=>decide (24<v.length))/\w=w'):=by
 refine okF (ah.r6 s ⟨241,#[],#[]⟩) az.r6 func242 ?_
 delta ah.r6 b7
 have g:=a_.len h
 have e:iT aj 241:=⟨_,(nx (show(Tryz.prog.funcs[241]?).isSome=true by kernel_rfl)).symm,by kernel_rfl,by kernel_rfl⟩
 refine Calls.mono (ah.Ca s ⟨241,#[],#[]⟩ w (λv w'=>(∃i:Int,v=i/\(decide (i>=0))=(ls.any λv=>decide (24<v.length)))/\w=w') ?_) ?_
 · (delta ah.pT ao aK r1 au;dsimp only)
   refine⟨λi w'=>∃j:Nat,i=j/\j<=ls.length/\w=w'/\∀ (k:Nat) (a:k<ls.length),k<j->(ls[k]).length<=24,λi _=>((ls.length:Int)-i).toNat,⟨0,rfl,cX _,rfl,λk a h=>I⟩,?_⟩
   rintro _ _ ⟨j,rfl,l,rfl,d⟩
   refine⟨λaI=>?_,λc=>?_⟩
   · have aI:j<ls.length:=by have:=cu aI;omega
     obtain⟨A,t,aq,b,hc,ht,_⟩:=a_.at h aI
     refine⟨A,aq,b,t,hc,e,?_⟩
     have m:=len8 ht.1
     refine Calls.mono (ah.CE t w (λv w'=>v=.bool (decide (24<(ls[j]).length))/\w=w') ⟨?_,rfl⟩) ?_
     · congr 1
       rw[fA,cA,cA];omega
     rintro _ _ ⟨_,rfl,rfl,rfl⟩
     refine⟨_,rfl,λb=>⟨⟨j,rfl,?_⟩,rfl⟩,λb=>?_⟩
     · have:(ls.any λv=>decide (24<v.length))=true:=List.any_eq_true.2 ⟨_,cI aI,b⟩
       rw[this];exact dw I
     · have b:=cQ b
       rw[bz (n:=(j:Int)+1) I I]
       refine⟨⟨j+1,I,I,rfl,λk a h=>?_⟩,?_⟩
       · rcases ed k j with h1|h1
         · exact d k a h1
         · have:k=j:=by omega
           subst this;omega
       · show((ls.length:Int)-((j:Int)+1)).toNat<((ls.length:Int)-(j:Int)).toNat
         omega
   · have c:j=ls.length:=by have:=cQ c;omega
     subst c
     refine⟨⟨-1,rfl,?_⟩,rfl⟩
     have:(ls.any λv=>decide (24<v.length))=false:=by
       rw[o4]
       intro x hx
       obtain⟨k,a,rfl⟩:=e0 hx
       have:=d k a a
       simp;omega
     rw[this];rfl
 · rintro _ _ ⟨_,rfl,⟨i,rfl,hi⟩,rfl⟩
   exact⟨i,rfl,by rw[hi],rfl⟩
theorem DP{B:Nat->Prop}{w:J}{s:ad}{ds:O Nat}(h:cw B w s ds)(g:ds.length<=1000000):
   aL aj 244 #[s,.func (.func 243) #[] #[]] w (λv w'=>v=.bool (ds.any λd=>decide (1600<=d))/\w=w'):=by
 refine okF (ah.r7 s ⟨243,#[],#[]⟩) az.r7 func244 ?_
 delta ah.r7 b7
 have l:=cw.len h
 have f:iT aj 243:=⟨_,(nx (show(Tryz.prog.funcs[243]?).isSome=true by kernel_rfl)).symm,by kernel_rfl,by kernel_rfl⟩
 refine Calls.mono (ah.Cb s ⟨243,#[],#[]⟩ w (λv w'=>(∃i:Int,v=i/\(decide (i>=0))=(ds.any λd=>decide (1600<=d)))/\w=w') ?_) ?_
 · (delta ah.pU ao aK aF au;dsimp only)
   refine⟨λi w'=>∃j:Nat,i=j/\j<=ds.length/\w=w'/\∀ (k:Nat) (a:k<ds.length),k<j->ds[k]<1600,λi _=>((ds.length:Int)-i).toNat,⟨0,rfl,cX _,rfl,λk a h=>I⟩,?_⟩
   rintro _ _ ⟨j,rfl,m,rfl,e⟩
   refine⟨λaI=>?_,λc=>?_⟩
   · have aI:j<ds.length:=by have:=cu aI;omega
     obtain⟨A,aq,b,hc⟩:=cw.at h aI
     refine⟨A,aq,b,_,hc,f,?_⟩
     refine Calls.mono (ah.CF ((ds[j]:Nat):Int) w (λv w'=>v=.bool (decide (1600<=ds[j]))/\w=w') ⟨?_,rfl⟩) ?_
     · congr 1
       rw[fA,h5,cA,cA,cA];omega
     rintro _ _ ⟨_,rfl,rfl,rfl⟩
     refine⟨_,rfl,λb=>⟨⟨j,rfl,?_⟩,rfl⟩,λb=>?_⟩
     · have:(ds.any λd=>decide (1600<=d))=true:=List.any_eq_true.2 ⟨_,cI aI,b⟩
       rw[this];exact dw I
     · have b:=cQ b
       rw[bz (n:=(j:Int)+1) I I]
       refine⟨⟨j+1,I,I,rfl,λk a h=>?_⟩,?_⟩
       · rcases ed k j with h1|h1
         · exact e k a h1
         · have:k=j:=by omega
           subst this;omega
       · show((ds.length:Int)-((j:Int)+1)).toNat<((ds.length:Int)-(j:Int)).toNat
         omega
   · have c:j=ds.length:=by have:=cQ c;omega
     subst c
     refine⟨⟨-1,rfl,?_⟩,rfl⟩
     have:(ds.any λd=>decide (1600<=d))=false:=by
       rw[o4]
       intro x hx
       obtain⟨k,a,rfl⟩:=e0 hx
       have:=e k a a
       simp;omega
     rw[this];rfl
 · rintro _ _ ⟨_,rfl,⟨i,rfl,hi⟩,rfl⟩
   exact⟨i,rfl,by rw[hi],rfl⟩
theorem y8:∀ {l:O Key},(∀ (i:Nat) (h:i+1<l.length),bP l[i] l[i+1])->l.Pairwise bP
 | [],_=>.nil
 |a::l,h=>by
  have e:=y8 (l:=l) λi hi=>h (i+1) (by simpa using hi)
  refine kF.2 ⟨λb d=>?_,e⟩
  cases l with
  |nil=>simp at d
  |cons c l=>
   have h0:bP a c:=h 0 (by simp)
   rcases c7.1 d with rfl|d
   .exact h0
   .exact kX h0 ((kF.1 e).1 b d)
instance (k:Key):Decidable (cR k):=by unfold cR;infer_instance
theorem mQ{w:J}{t:ad}{l:Key}(h:Src 1 w t (aA l)):aL aj 209 #[t] w (λv w'=>v=.bool (decide (cR l))/\w=w'):=by
 have a:=len8 h;refine okF (ah.mQ t) az.mQ func209 ?_;unfold ah.mQ;refine⟨?_,rfl⟩
 congr 1
 rw[fA,dn,cA,cA,cA];unfold cR;omega
theorem jv{B:Nat->Prop}{w:J}{n:aB}{K V D:ad}(h:bt B w n K V D)(h1:n.keys.length<=100000)(P:n.vals.length<=100000)(Q:n.kids.length<=100000):
 aL aj 203 #[c0 n K V D] w (λv w'=>∃b:al,v=b/\(b=true↔cr n)/\Ext w w'):=by
 refine okF (ah.jv n.leaf K V D) az.jv func203 ?_;(delta ah.jv r1 aa ao aK cc au b7 aW;dsimp only);refine bd (vs:=[n.leaf,K,V,D]) rfl λw1 d m _=>?_;obtain⟨bQ,aT,a8,bc⟩:=bC d;have g:=h.ext m;have y:=a_.len g.keys;have R:=a_.len g.vals;have aQ:=cw.len g.kids;refine⟨K,aT,λi w'=>∃j:Nat,i=j/\j<=n.keys.length/\w1=w'/\(∀ (k:Nat) (f:k<n.keys.length),k<j->cR n.keys[k])/\∀ (k:Nat) (f:k+1<n.keys.length),k+1<j->bP n.keys[k] n.keys[k+1],
  λi _=>((n.keys.length:Int)-i).toNat,⟨0,rfl,cX _,rfl,λk f h=>I,λk f h=>I⟩,?_⟩
 rintro _ _ ⟨j,rfl,o,rfl,z,C⟩;refine⟨λaI=>?_,λp=>?_⟩
 .have aI:j<n.keys.length:=by have:=cu aI;omega
  obtain⟨A,t,aq,a,hc,ht,_⟩:=a_.at g.keys aI;refine⟨A,aq,a,t,hc,(mQ ht.1).use ?_⟩;rintro _ _ ⟨rfl,rfl⟩;refine⟨_,rfl,cH (λb w'=>w1=w'/\(b=true->¬cr n)/\(b=false->cR n.keys[j]/\∀ (o:1<=j),bP (n.keys[j-1]'I) n.keys[j])) (λq c=>⟨λa=>?_,λa=>?_⟩) ?_⟩
  .have a:¬cR n.keys[j]:=by simpa using a
   exact c _ _ ⟨rfl,λ_ hs=>a (hs.keys.ok _ (cI aI)),λh=>by cases h⟩
  .have a:cR n.keys[j]:=by simpa using a
   refine cH (λb w'=>w1=w'/\(b=true->¬cr n)/\(b=false->∀ (o:1<=j),bP (n.keys[j-1]'I) n.keys[j])) (λS E=>⟨λh0=>?_,λh0=>?_⟩) ?_
   .have h0:1<=j:=by have:=cu h0;omega
    rw[bz (n:=(j:Int)-1) I I,show(j:Int)-1=((j-1:Nat):Int) from I];obtain⟨G,t2,H,r,L,M,_⟩:=a_.at g.keys (i:=j-1) I;refine⟨K,aT,G,H,r,t2,L,(lI M.1 ht.1).use ?_⟩;rintro _ _ ⟨rfl,rfl⟩;refine⟨_,rfl,E _ _ ⟨rfl,λhc hs=>?_,λhc _=>?_⟩⟩
    .have hc:=cu hc
     have:bP (n.keys[j-1]'I) n.keys[j]:=lh.1 hs.keys.e9 (j-1) j I aI I;unfold bP at this;omega
    .have hc:=cQ hc
     unfold bP;omega
   .have h0:=cQ h0
    exact E _ _ ⟨rfl,λh=>(by cases h),λ_ o=>I⟩
   .rintro b w' ⟨rfl,av,s⟩
    exact c _ _ ⟨rfl,av,λr=>⟨a,s r⟩⟩
  .rintro b w' ⟨rfl,av,s⟩
   refine⟨λa=>⟨false,rfl,⟨λh=>(by cases h),λhs=>absurd hs (av a)⟩,m⟩,λa=>?_⟩;obtain⟨N,O⟩:=s a;rw[bz (n:=(j:Int)+1) I I];refine⟨⟨j+1,I,I,rfl,λk f h=>?_,λk f h=>?_⟩,?_⟩
   .rcases ed k j with h1|h1
    .exact z k f h1
    .have:k=j:=by omega
     subst this;exact N
   .rcases ed (k+1) j with h1|h1
    .exact C k f h1
    .have:j=k+1:=by omega
     subst this;exact O I
   .show((n.keys.length:Int)-((j:Int)+1)).toNat<((n.keys.length:Int)-(j:Int)).toNat
    omega
 .have p:j=n.keys.length:=by have:=cQ p;omega
  subst p;have F:th n:=⟨λk f=>by
   obtain⟨i,hi,rfl⟩:=e0 f;exact z i hi hi,y8 λi hi=>C i hi hi⟩
  refine⟨n.leaf,bQ,λl=>⟨V,a8,K,aT,?_⟩,λl=>⟨K,aT,?_⟩⟩
  .refine cH (λb w'=>w1=w'/\b=(decide (n.vals.length=n.keys.length)&&decide (n.kids=[]))) (λq c=>⟨λa=>⟨D,bc,c _ _ ⟨rfl,?_⟩⟩,λa=>c _ _ ⟨rfl,?_⟩⟩) ?_
   .have a:=eq_of_beq a
    rw[dw (show n.vals.length=n.keys.length from I),h4,fA,ji,cA,←nu];omega
   .have a:¬((V.len:Int)=(K.len:Int)):=λe=>by rw[e]at a;simp at a
    rw[iw I,kG]
   rintro b w' ⟨rfl,rfl⟩;refine cH (λb w'=>w1=w'/\(b=true↔cr n)) (λq c=>⟨λa=>⟨V,a8,(DO g.vals I).use ?_⟩,λa=>c _ _ ⟨rfl,?_⟩⟩) ?_
   .rintro _ _ ⟨rfl,rfl⟩
    refine⟨_,rfl,c _ _ ⟨rfl,?_⟩⟩;simp only[dn,cA]at a;rw[iI,o4];constructor
    .intro u
     exact .inl ⟨F,l,a.1,a.2,λv d=>by have:=u v d;simp at this;omega⟩
    .rintro(hs|hs)
     .intro v d;have:=hs.vals v d;simp;omega
     .have:=hs.inner;rw[l]at this;cases this
   .have a:¬(n.vals.length=n.keys.length/\n.kids=[]):=by simpa using a
    refine⟨λh=>(by cases h),?_⟩;rintro(hs|hs)
    .exact absurd ⟨hs.len,hs.kids⟩ a
    .have:=hs.inner;rw[l]at this;cases this
   rintro b w' ⟨rfl,a⟩;exact⟨b,rfl,a,m⟩
  .refine cH (λb w'=>w1=w'/\b=(decide (n.keys≠ [])&&decide (n.kids.length=n.keys.length+1))) (λq c=>⟨λa=>⟨D,bc,K,aT,c _ _ ⟨rfl,?_⟩⟩,λa=>c _ _ ⟨rfl,?_⟩⟩) ?_
   .have a:=cu a
    have x:n.keys≠ []:=λe=>by rw[e]at y;simp at y;omega
    rw[dw x,h4,fA,ji,cA,bz I I];omega
   .have a:=cQ a
    have x:n.keys=[]:=nu.1 I;rw[iw (λh=>h x),kG]
   rintro b w' ⟨rfl,rfl⟩;refine cH (λb w'=>w1=w'/\b=(decide (n.keys≠ [])&&decide (n.kids.length=n.keys.length+1)&&decide (n.vals=[]))) (λq c=>⟨λa=>⟨V,a8,c _ _ ⟨rfl,?_⟩⟩,λa=>c _ _ ⟨rfl,?_⟩⟩) ?_
   .rw[a,h4,fA,ji,cA,←nu]
    omega
   .rw[a,kG]
   rintro b w' ⟨rfl,rfl⟩;refine cH (λb w'=>w1=w'/\(b=true↔cr n)) (λq c=>⟨λa=>⟨D,bc,(DP g.kids I).use ?_⟩,λa=>c _ _ ⟨rfl,?_⟩⟩) ?_
   .rintro _ _ ⟨rfl,rfl⟩
    refine⟨_,rfl,c _ _ ⟨rfl,?_⟩⟩;simp only[dn,cA]at a;rw[iI,o4];constructor
    .intro u
     exact .inr ⟨F,l,a.1.1,a.1.2,a.2,λv d=>by have:=u v d;simp at this;omega⟩
    .rintro(hs|hs)
     .have:=hs.leaf;rw[l]at this;cases this
     .intro v d;have:=hs.kids v d;simp;omega
   .have a:¬((n.keys≠ []/\n.kids.length=n.keys.length+1)/\n.vals=[]):=λe=>by
     rw[dw e.1.1,dw e.1.2,dw e.2]at a;cases a
    refine⟨λh=>(by cases h),?_⟩;rintro(hs|hs)
    .have:=hs.leaf;rw[l]at this;cases this
    .exact absurd ⟨⟨hs.some,hs.len⟩,hs.vals⟩ a
   rintro b w' ⟨rfl,a⟩;exact⟨b,rfl,a,m⟩
theorem DQ{w:J}{a b:ad}{c lb:O UInt8}(h:Src 1 w a (aA c))(i:Src 1 w b (aA lb))(k:c.length+lb.length<=1000):
 aL aj 92 #[.slice (some w.heap.size) 2 2] (w.alloc (.cells #[a,b] 48)) (λv w'=>∃d:ad,v=d/\aZ 1 5 w' d (aA (c++lb))/\Ext w w'/\ga w d):=by
 have hx:=dD w (.cells #[a,b] 48);refine(tv (s:=⟨some w.heap.size,2,2⟩) [(a,c),(b,lb)] (Src.new w _ 2 rfl) ?_ (by simp[d_];omega) (by simp)).mono ?_
 .intro p f
  simp only[c7,ff,fp]at f;rcases f with rfl|rfl
  .exact h.ext hx
  .exact i.ext hx
 .rintro _ w' ⟨d,rfl,g,j,hf⟩
  have e:d_ [(a,c),(b,lb)]=c++lb:=by simp[d_]
  rw[e]at g;exact⟨d,rfl,g,hx.trans j,hf.mono hx.size⟩
theorem y9{w:J}{a b c:ad}{d lb f:O UInt8}(j:Src 1 w a (aA d))(k:Src 1 w b (aA lb))(hc:Src 1 w c (aA f))(m:d.length+lb.length+f.length<=1000):
 aL aj 92 #[.slice (some w.heap.size) 3 3] (w.alloc (.cells #[a,b,c] 48)) (λv w'=>∃g:ad,v=g/\aZ 1 5 w' g (aA (d++(lb++f)))/\Ext w w'/\ga w g):=by
 have hx:=dD w (.cells #[a,b,c] 48);refine(tv (s:=⟨some w.heap.size,3,3⟩) [(a,d),(b,lb),(c,f)] (Src.new w _ 3 rfl) ?_ (by simp[d_];omega) (by simp)).mono ?_
 .intro p h
  simp only[c7,ff,fp]at h;rcases h with rfl|rfl|rfl
  .exact j.ext hx
  .exact k.ext hx
  .exact hc.ext hx
 .rintro _ w' ⟨g,rfl,i,l,hf⟩
  have e:d_ [(a,d),(b,lb),(c,f)]=d++(lb++f):=by simp[d_]
  rw[e]at i;exact⟨g,rfl,i,hx.trans l,hf.mono hx.size⟩
theorem y_(w:J){n:Nat}(a:n<=255):Src 1 (w.alloc (.cells #[.int .u8 (IntKind.wrap .u8 (n:Int))] 5)) ⟨some w.heap.size,1,1⟩ (aA [UInt8.ofNat n])/\Ext w (w.alloc (.cells #[.int .u8 (IntKind.wrap .u8 (n:Int))] 5)):=by
 have e:(#[.int .u8 (IntKind.wrap .u8 (n:Int))]:Array Y)=(aA [UInt8.ofNat n]).toArray:=by
  rw[uW I I];simp[aA,iL (show n<256 from I)]
 rw[e];exact⟨Src.new w _ 1 rfl,dD _ _⟩
theorem eV{α:Type}{l:O α}{i:Nat}{d:α}(h:i<l.length):l.getD i d=l[i]:=by
 rw[fI,dI h];rfl
theorem cr.j3{n:aB}(h:cr n)(a:n.leaf=true):n.vals.length=n.keys.length:=by
 rcases h with h|h
 .exact h.len
 .have:=h.inner;rw[a]at this;cases this
theorem cr.oJ{n:aB}(h:cr n)(a:n.leaf=false):n.kids.length=n.keys.length+1:=by
 rcases h with h|h
 .have:=h.leaf;rw[a]at this;cases this
 .exact h.len
theorem lN{B:Nat->Prop}{w:J}{n:aB}{K V D:ad}(h:bt B w n K V D)(hs:cr n){i:Nat}(hi:i<n.keys.length)(ac:n.keys.length<=100000):
 aL aj 298 #[c0 n K V D,i] w (λv w'=>∃s:ad,v=s/\aZ 1 5 w' s (aA (fZ n i))/\Ext w w'/\ga w s):=by
 refine okF (ah.lN n.leaf K V D (i:Int)) az.lN func298 ?_;(delta ah.lN aa r1 aK bJ aW ao au aF;dsimp only);refine bd (vs:=[n.leaf,K,V,D]) rfl λw1 r e _=>?_;have u:=cJ w1;have Q:=e.trans u;have R:=h.ext Q;obtain⟨bQ,aT,a8,bc⟩:=bC (r.ext u);obtain⟨A,t,aq,L,hc,ht,_⟩:=a_.at R.keys hi;have ae:=(hs.keys.ok _ (cI hi)).2;have S:=len8 ht.1;obtain⟨T,x⟩:=y_ w1.drew (n:=t.len) I;refine aX ⟨λ_=>False,id,K,aT,A,aq,L,id,t,hc,id,K,aT,A,aq,L,id,t,hc,aX ⟨x,aX ?_⟩⟩;refine(DQ (a:=⟨some w1.drew.heap.size,1,1⟩) (b:=t) T (ht.1.ext x) (by simp;omega)).use ?_;rintro _ y ⟨M,rfl,z,U,af⟩;have d:=u.trans (x.trans U);obtain⟨d0,d1,d2,d3⟩:=bC (r.ext d);have W: [UInt8.ofNat t.len]++n.keys[i]=lR (n.keys.getD i []):=by rw[eV hi,S];rfl
 rw[W]at z;have N:=h.ext (e.trans d);refine⟨M,rfl,n.leaf,d0,λf=>?_,λf=>?_⟩
 .have ag:=hs.j3 f
  have C:i<n.vals.length:=by omega
  have g:=cJ y;have X:=N.ext g;obtain⟨ai,ak,O,al⟩:=bC (r.ext (d.trans g));obtain⟨m,t2,o,p,q,P,_⟩:=a_.at X.vals C;have am:=hs.vals _ (cI C);have Y:=len8 P.1;obtain⟨Z,j⟩:=y_ y.drew (n:=t2.len) I;refine aX ⟨λ_=>False,id,V,O,m,o,p,id,t2,q,id,V,O,m,o,p,id,t2,q,aX ⟨j,aX ?_⟩⟩;refine(y9 (a:=M) (b:=⟨some y.drew.heap.size,1,1⟩) (c:=t2) (z.src.ext (g.trans j)) Z (P.1.ext j) (by rw[lS,eV hi];simp;omega)).use ?_;rintro _ ab ⟨l,rfl,E,F,G⟩;refine⟨l,rfl,l,rfl,?_,(e.trans d).trans (g.trans (j.trans F)),G.mono ((e.trans d).trans (g.trans j)).size⟩;have:lR (n.keys.getD i [])++([UInt8.ofNat t2.len]++n.vals[i])=fZ n i:=by
   unfold fZ;rw[f,if_pos rfl,eV C,Y];rfl
  rwa[this]at E
 .have an:=hs.oJ f
  have H:i+1<n.kids.length:=by omega
  obtain⟨m,o,p,q⟩:=cw.at N.kids H;have ap:=hs.kids _ (cI H);rw[bz (n:=(i:Int)+1) I I,show(i:Int)+1=((i+1:Nat):Int) from I];refine⟨D,d3,m,o,p,_,q,?_⟩;rw[gj (n:=((n.kids[i+1]:Nat):Int)) I I];refine(gl z.src (n:=n.kids[i+1]) (k:=2) (by rw[lS,eV hi];omega) (by show _<18446744073709551616;omega) ⟨by decide,by decide⟩).use ?_;rintro _ ab ⟨l,rfl,E,F,G⟩;refine⟨l,rfl,l,rfl,?_,(e.trans d).trans F,ga.mono G (e.trans d).size⟩;have:lR (n.keys.getD i [])++bF n.kids[i+1] 2=fZ n i:=by
   unfold fZ;rw[f,if_neg (by simp),eV H]
  rwa[this]at E
theorem tB{n:aB}(hs:cr n){i:Nat}(hi:i<n.keys.length):(fZ n i).length<=100:=by
 unfold fZ;have:=(hs.keys.ok _ (cI hi)).2;rw[cM,lS,eV hi];split
 .rename_i b
  have a:i<n.vals.length:=by have:=hs.j3 b;omega
  have:=hs.vals _ (cI a);rw[lS,eV a];omega
 .rw[du];omega
theorem vN{n:aB}(hs:cr n):∀m,m<=n.keys.length->(gK n 0 m).length<=100*m
 |0,_=>by simp[gK]
 |m+1,a=>by
  have:=vN hs m I
  have:=tB hs (i:=m) I
  rw[vD,cM];omega
theorem mX{B:Nat->Prop}{w:J}{n:aB}{K V D:ad}(h:bt B w n K V D)(hs:cr n)(ak:n.keys.length<=255):
 aL aj 293 #[c0 n K V D] w (λv w'=>∃s:ad,v=s/\aZ 1 5 w' s (aA (ih n))/\Ext w w'/\ga w s):=by
 refine okF (ah.mX n.leaf K V D) az.mX func293 ?_;(delta ah.mX r1 aa aW ao aK aF bJ au;dsimp only);refine bd (vs:=[n.leaf,K,V,D]) rfl λw1 g l _=>?_;obtain⟨bQ,aT,a8,bc⟩:=bC g;have u:=h.ext l;have E:=a_.len u.keys;have F:(#[.int .u8 (IntKind.wrap .u8 (K.len:Int))]:Array Y)=(aA [UInt8.ofNat n.keys.length]).toArray:=by
  rw[E,uW I I];simp[aA,iL (show n.keys.length<256 from I)]
 refine⟨K,aT,?_⟩;rw[F];have m:=aZ.new (T:=5) (sz:=1) w1 (aA [UInt8.ofNat n.keys.length]) 1 rfl (by decide);have c:=dD w1 (.cells (aA [UInt8.ofNat n.keys.length]).toArray 5);obtain⟨ai,G⟩:∃ai,ai=w1.alloc (.cells (aA [UInt8.ofNat n.keys.length]).toArray 5):=⟨_,rfl⟩;rw[←G]at m c⊢;obtain⟨d0,d1,d2,d3⟩:=bC (g.ext c);have H:=l.trans c;refine aX (cH (λd w'=>aZ 1 5 w' d (aA (preB n))/\Ext ai w'/\ga w1 d) (λq x=>⟨n.leaf,d0,λa=>?_,λa=>x _ _ ⟨?_,.refl _ _,?_⟩⟩) ?_)
 .have a:n.leaf=false:=by simpa using a
  have al:=hs.oJ a;have o:0<n.kids.length:=by omega
  obtain⟨L,M,N,O⟩:=cw.at (h.ext H).kids o;have am:=hs.kids _ (cI o);refine⟨D,d3,L,M,N,_,O,?_⟩;rw[gj (n:=((n.kids[0]:Nat):Int)) I I];refine(gl m.src (n:=n.kids[0]) (k:=2) (by simp) (by show _<18446744073709551616;omega) ⟨by decide,by decide⟩).use ?_;rintro _ P ⟨p,rfl,e,b,f⟩;refine⟨p,rfl,x _ _ ⟨?_,b,ga.mono f c.size⟩⟩;have: [UInt8.ofNat n.keys.length]++bF n.kids[0] 2=preB n:=by
   unfold preB;rw[a,if_neg (by simp),eV o];rfl
  rwa[this]at e
 .have a:n.leaf=true:=by simpa using a
  have:preB n=[UInt8.ofNat n.keys.length]:=by unfold preB;rw[a];rfl
  rw[this];exact m
 .rintro k ⟨A,aq,rfl⟩
  cases aq;exact bl _
 rintro an ap ⟨Q,R,S⟩;have y:=c.trans R;obtain⟨d0,d1,d2,d3⟩:=bC (g.ext y);have ar:(preB n).length<=3:=by
  unfold preB
  cases n.leaf<;>simp[du]
 refine⟨K,d1,λd i w'=>∃j:Nat,i=j/\j<=n.keys.length/\aZ 1 5 w' d (aA (preB n++gK n 0 j))/\Ext w1 w'/\ga w1 d,λ_ i _=>((n.keys.length:Int)-i).toNat,⟨0,rfl,cX _,by simpa[gK] using Q,y,S⟩,?_⟩;rintro p _ P ⟨j,rfl,U,e,b,f⟩;refine⟨λaI=>?_,λr=>?_⟩
 .have aI:j<n.keys.length:=by have:=cu aI;omega
  obtain⟨f0,f1,f2,f3⟩:=bC (g.ext b);refine⟨n.leaf,f0,K,f1,V,f2,D,f3,(lN (u.ext b) hs aI I).use ?_⟩;rintro _ aw ⟨W,rfl,z,t,ax⟩;have C:=k1 e;have X:=k1 z;have cf:=tB hs aI;have bH:=vN hs j U;rw[cM]at C;obtain⟨Z,ab,av,ac,ay,ae,af⟩:=qc.append (dK:=48) z.src (e.ext t) (jW _) (by rw[C,X];omega);rw[bz (n:=(j:Int)+1) I I];refine⟨W,rfl,Z,ab,av,⟨j+1,I,I,?_,Ext.dj (b.trans t) ae f,λk ag=>?_⟩,?_⟩
  .rw[vD,←cY,lP];exact ac
  .rcases af k ag with h|h
   .exact f k h
   .exact ei (b.trans t).size h
  .show((n.keys.length:Int)-((j:Int)+1)).toNat<((n.keys.length:Int)-(j:Int)).toNat
   omega
 .have r:j=n.keys.length:=by have:=cQ r;omega
  subst r;exact⟨p,rfl,e,l.trans b,f.mono l.size⟩
theorem mV{B:Nat->Prop}{w:J}{n:aB}{K V D:ad}(h:bt B w n K V D)(hs:cr n)(f:n.keys.length<=255):
 aL aj 280 #[c0 n K V D] w (λv w'=>v=.int .i64 (br n:Nat)/\Ext w w'):=by
 have g:n.vals.length<=100000:=by
  rcases hs with hs|hs
  .rw[hs.len];omega
  .rw[hs.vals];simp
 have i:n.kids.length<=100000:=by
  rcases hs with hs|hs
  .rw[hs.kids];simp
  .rw[hs.len];omega
 refine okF (ah.mV n.leaf K V D) az.mV func280 ?_;(delta ah.mV aW aa r1 cc ao bJ;dsimp only);refine bd (vs:=[n.leaf,K,V,D]) rfl λw1 d a _=>?_;obtain⟨bQ,aT,a8,bc⟩:=bC d;refine⟨n.leaf,bQ,K,aT,V,a8,D,bc,(jv (h.ext a) I g i).use ?_⟩;rintro _ ai ⟨b,rfl,j,c⟩;have k:=j.2 hs;subst k;obtain⟨bQ,aT,a8,bc⟩:=bC (d.ext c);refine⟨true,rfl,λh=>(by cases h),λ_=>⟨n.leaf,bQ,K,aT,V,a8,D,bc,(mX (h.ext (a.trans c)) hs f).use ?_⟩⟩;rintro _ p ⟨l,rfl,m,o,_⟩;have e:=k1 m;rw[vG hs]at e;exact⟨l,rfl,by rw[e],(a.trans c).trans o⟩
def za(n:aB)(w w':J)(v:Y):Prop:=
 (∃s:ad,v=.tuple #[s,(0:Int)]/\aZ 1 5 w' s (aA (ih n))/\ga w s/\cr n/\br n<=232)\/
 (∃e:Int,v=.tuple #[(),e]/\e≠0/\(cr n->232<br n))
theorem mU{B:Nat->Prop}{w:J}{n:aB}{K V D:ad}(h:bt B w n K V D)(o:n.keys.length<=100000)(p:n.vals.length<=100000)(r:n.kids.length<=100000):
 aL aj 274 #[c0 n K V D] w (λv w'=>za n w w' v/\Ext w w'):=by
 refine okF (ah.mU n.leaf K V D) az.mU func274 ?_;(delta ah.mU aW aa r1 cc ao bJ;dsimp only);refine bd (vs:=[n.leaf,K,V,D]) rfl λw1 e f _=>?_;obtain⟨bQ,aT,a8,bc⟩:=bC e;refine⟨n.leaf,bQ,K,aT,V,a8,D,bc,(jv (h.ext f) o p r).use ?_⟩;rintro _ ai ⟨b,rfl,g,i⟩;have d:=f.trans i;obtain⟨bQ,aT,a8,bc⟩:=bC (e.ext i);have y:=a_.len h.keys;refine⟨b,rfl,cH (λc w'=>ai=w'/\(c=true->cr n->255<n.keys.length)/\(c=false->cr n/\n.keys.length<=255)) (λq j=>⟨λh1=>j _ _ ⟨rfl,λ_ hs=>?_,λh=>(by cases h)⟩,λh1=>⟨K,aT,j _ _ ⟨rfl,λa hs=>?_,λa=>?_⟩⟩⟩) ?_⟩
 .have h1:b=false:=by simpa using h1
  rw[g.2 hs]at h1;cases h1
 .have:=cu a;omega
 .have h1:b=true:=by simpa using h1
  have:=cQ a;exact⟨g.1 h1,I⟩
 rintro c w' ⟨rfl,av,s⟩;refine⟨λh1=>⟨.inr ⟨4,rfl,by decide,λhs=>?_⟩,d⟩,λh1=>?_⟩
 .have:=av h1 hs
  have:=tn hs;omega
 obtain⟨hs,t⟩:=s h1;refine⟨n.leaf,bQ,K,aT,V,a8,D,bc,(mX (h.ext d) hs t).use ?_⟩;rintro _ z ⟨k,rfl,l,m,u⟩;have x:=k1 l;rw[vG hs]at x;refine⟨k,rfl,λa=>⟨.inr ⟨10,rfl,by decide,λ_=>?_⟩,d.trans m⟩,λa=>⟨.inl ⟨k,rfl,l,u.mono d.size,hs,?_⟩,d.trans m⟩⟩
 .have:=cu a;omega
 .have:=cQ a;omega
theorem ow{B:Nat->Prop}{w:J}{n:aB}{K V D:ad}(h:bt B w n K V D)(d:n.keys.length<=100000)(f:n.vals.length<=100000)(g:n.kids.length<=100000):
 aL aj 295 #[c0 n K V D] w (λv w'=>za n w w' v/\Ext w w'):=by
 refine okF (ah.ow n.leaf K V D) az.ow func295 ?_;(delta ah.ow aW aa r1 eR;dsimp only);refine bd (vs:=[n.leaf,K,V,D]) rfl λw1 i a _=>?_;obtain⟨bQ,aT,a8,bc⟩:=bC i;refine⟨n.leaf,bQ,K,aT,V,a8,D,bc,(mU (h.ext a) d f g).use ?_⟩;rintro _ ai ⟨j,c⟩;rcases j with ⟨s,rfl,k,hf,hs,b⟩|⟨e,rfl,he,b⟩
 .exact⟨s,0,rfl,.inl ⟨s,rfl,k,hf.mono a.size,hs,b⟩,a.trans c⟩
 .exact⟨⟨none,0,0⟩,e,rfl,.inr ⟨e,rfl,he,b⟩,a.trans c⟩
end Go.Proofs.YtkdhdlfonmgheaaGreat
