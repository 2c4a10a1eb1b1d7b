/- Contracts of the functions that the statement reaches, and the plain laws over them; each theorem stands with its conditions. -/
import Derived.Laws.Externs
import Derived.Laws.Small
import Derived.Lib.Builder
import Derived.Lib.Bytealg
import Derived.Lib.ConvBytes
import Derived.Lib.MakeNoZero
import Derived.Lib.SlBytesConst
import Derived.Lib.UnsafeStr
import Derived.Test.YtcmgnhkpfllinaaGreatRows
import Derived.Test.YtcmgnhkpfllinaaGreatVALasts2
namespace Go.Proofs.YtcmgnhkpfllinaaGreat
open Go aS Go.Proofs.Tryz
variable{n i o b k:Nat}{w:J}{s:ad}{l:O UInt8}{K:U2}{vs:O aa}{T:TypeId}
theorem r0(h:n<256):((UInt8.ofNat n).toNat:Nat)=n:=by
 simp[kr h]
theorem IP{w':J}(h:Ext w w'){A:af}{v:aa}(hc:w.cell? A=some v):w'.cell? A=some v:=by
 have b:A.block<w.heap.size:=by
  simp only[World.cell?]at hc
  cases a:w.heap[A.block]? with
  |none=>simp[a]at hc
  |some o=>exact(mn.1 a).1
 simp only[World.cell?]at hc⊢;rw[h.block _ b id];exact hc
theorem DB{src dst:TypeId}{ns:O Int}(hs:Tryz.prog.underlying src=some (.slice 5))(hd:Tryz.prog.underlying dst=some .string)(h:Src 1 w s (ns.map (.int .u8))):
 Sem.run aj (convert src dst s) w=.ok (.string (S (ns.map λn=>UInt8.ofNat n.toNat))) w:=by
 rw[Hx hs U3 hd h,HC]
def tl(f:Nat->Int)(k m:Nat):O UInt8:=(List.range (m-k)).map λj=>UInt8.ofNat (f (k+j)).toNat
theorem Ak{A:af}:∀ (vs:O aa) (i:Nat),(∀j v,vs[j]? =some v->w.cell? (A.add (i+j))=some v)->bf w A i vs.length=some vs
 | [],_,_=>rfl
 |v::vs,i,h=>by
  have h0:=h 0 v rfl
  have a:=Ak vs (i+1) (λj u b=>by rw[show i+1+j=i+(j+1) from I];exact h (j+1) u (by simpa using b))
  rw[lU]at h0
  simp[bf,h0,a]
def aC(l:O UInt8):O aa:=l.map λb=>Value.int .u8 (b.toNat:Int)
theorem de(l:O UInt8):(aC l).length=l.length:=by simp[aC]
theorem oG(h:i<l.length):(aC l)[i]? =some (.int .u8 ((l[i].toNat:Nat):Int)):=by simp[aC,h]
def r2(c:Nat):au Nat:=if 48<=c/\c<=57 then some (c-48) else if 97<=c|||32/\c|||32<=122 then some ((c|||32)-97+10) else none
theorem IQ(c:UInt8):((c.toNat:Int).toNat.toUInt8)=c:=by simp
theorem jd(l:O UInt8):∀v∈aC l,Plain v:=by
 intro v a;obtain⟨n,_,rfl⟩:=eJ.1 a;trivial
theorem nx(a b:O UInt8):aC (a++b)=aC a++aC b:=by simp[aC]
theorem take_succ{α:Type}(ls:O α)(h:i<ls.length):ls.take (i+1)=ls.take i++ [ls[i]]:=by
 rw[ib h]
structure bc where
 eo:ao
 b:O UInt8
 h:b.length=16
 deriving DecidableEq
def bc.c(a:bc):O aa:=a.eo::aC a.b
structure br where
 addr:bc
 bits:Int
 deriving DecidableEq
def br.c(p:br):O aa:=p.addr.c++ [.int .i64 p.bits]
theorem bc.ext'{a b:bc}(h1:a.eo=b.eo)(h2:a.b=b.b):a=b:=by
 cases a;cases b;simp_all
theorem bc.ba(a:bc):a.c.length=17:=by simp[bc.c,de,a.h]
theorem br.ba(p:br):p.c.length=18:=by simp[br.c,bc.ba]
theorem xW:∀ {a b:O UInt8},aC a=aC b->a=b
 | [],[],_=>rfl
 | [],_::_,h=>by simp[aC]at h
 |_::_,[],h=>by simp[aC]at h
 |x::a,y::b,h=>by
  simp only[aC,hJ,List.cons.injEq,Value.int.injEq,true_and]at h
  have h1:x=y:=by
   have:x.toNat=y.toNat:=by exact_mod_cast h.1
   exact qK.1 this
  rw[h1,xW (a:=a) (b:=b) h.2]
theorem bc.r3{a b:bc}(h:a.c=b.c):a=b:=by
 simp only[bc.c,List.cons.injEq,Value.bool.injEq]at h;exact bc.ext' h.1 (xW h.2)
theorem br.r3{p q:br}(h:p.c=q.c):p=q:=by
 simp only[br.c]at h;obtain⟨h1,h2⟩:=List.append_inj h (by simp[bc.ba]);have a:=bc.r3 h1
 cases p;cases q
 simp_all
def fx(n:Nat):O UInt8:=List.replicate n 0
def bc.zero:bc:=⟨false,fx 16,by simp[fx]⟩
def br.zero:br:=⟨bc.zero,0⟩
theorem tZ{α:Type}:∀ (l:O α),l.length=16->∃bV a b c d e f g h i j k m n o p,l=[bV,a,b,c,d,e,f,g,h,i,j,k,m,n,o,p]
 | [bV,a,b,c,d,e,f,g,h,i,j,k,m,n,o,p],_=>⟨bV,a,b,c,d,e,f,g,h,i,j,k,m,n,o,p,rfl⟩
def l5(n:Nat):O c8:=List.replicate n (.int .u8)
theorem xX:∀ (l:O UInt8),eV (l5 l.length) (aC l)
 | []=>rfl
 |_::l=>⟨_,_,rfl,⟨_,rfl⟩,xX l⟩
theorem bc.eV(a:bc):aS.eV (.bool::l5 16) a.c:=⟨_,_,rfl,⟨_,rfl⟩,by have:=xX a.b;rwa[a.h]at this⟩
theorem br.eV(p:br):aS.eV ((.bool::l5 16)++ [.int .i64]) p.c:=zx p.addr.eV ⟨_,_,rfl,⟨_,rfl⟩,rfl⟩
theorem Al(a b:br):jo aj 55 a.c.toArray b.c.toArray (decide (a=b)):=by
 have h:=jo.flat (P:=aj) (T:=55) (d:=(Tryz.prog.underlying 55).get U3) (ls:=(.bool::l5 16)++ [.int .i64]) (n1 _).symm U3 U3 U3 a.eV b.eV;have e:fS a.c b.c=decide (a=b):=by
  rw[eG,vI a.eV b.eV,b8];exact⟨br.r3,λh=>by rw[h]⟩
 rwa[e]at h
theorem IS(a b:O UInt8)(g:a.length=12)(i:b.length=12):jo aj 358 (aC a).toArray (aC b).toArray (decide (a=b)):=by
 have c:=xX a;have f:=xX b;rw[g]at c;rw[i]at f;have h:=jo.flat (P:=aj) (T:=358) (d:=(Tryz.prog.underlying 358).get U3) (ls:=l5 12) (n1 _).symm U3 U3 U3 c f;have e:fS (aC a) (aC b)=decide (a=b):=by
  rw[eG,vI c f,b8];exact⟨xW,λh=>by rw[h]⟩
 rwa[e]at h
theorem IT(w:J):Sem.run aj (Instr.build 53 #[]) w=.ok (.agg bc.zero.c.toArray) w:=by kernel_rfl
theorem DC(w:J):Sem.run aj (Instr.build 55 #[]) w=.ok (.agg br.zero.c.toArray) w:=by kernel_rfl
theorem IU(w:J):Sem.run aj (Instr.build 358 #[]) w=.ok (.agg (aC (fx 12)).toArray) w:=by kernel_rfl
theorem IV(w:J)(eo:ao)(b:O UInt8)(h:b.length=16):Sem.run aj (Instr.build 53 #[(0,eo),(1,.agg (aC b).toArray)]) w=.ok (.agg (bc.mk eo b h).c.toArray) w:=by
 obtain⟨bV,a,d,e,f,g,i,j,k,l,m,n,o,p,q,r,rfl⟩:=tZ b h
 kernel_rfl
theorem Am(w:J)(a:bc)(n:Int):Sem.run aj (Instr.build 55 #[(0,.agg a.c.toArray),(1,.int .i64 n)]) w=.ok (.agg (br.mk a n).c.toArray) w:=by
 obtain⟨eo,b,h⟩:=a;obtain⟨bV,d,e,f,g,i,j,k,l,m,o,p,q,r,s,t,rfl⟩:=tZ b h
 kernel_rfl
def Var(w:J)(b:Nat)(vs:O aa)(T:TypeId):Prop:=bu w b vs.toArray T
section
variable {w w':J}{b:Nat}{vs us:O aa}{T:TypeId}
theorem Var.new(w:J)(vs:O aa)(T:TypeId):Var (w.alloc (.cells vs.toArray T)) w vs T:=bu.new _ _ _
theorem Var.rd(h:Var w b vs T)(a:vs.length=n):bf w b 0 n=some vs:=by
 have:=q7 h n 0 0 (by simp[a]);rw[this];simp[←a]
theorem Var.r4(h:Var w b vs T)(a:o+n<=vs.length):bf w ⟨b,o,none⟩ 0 n=some ((vs.drop o).take n):=by
 have:=q7 h n o 0 (by simpa using a);rw[this];simp
theorem Var.cell(h:Var w b vs T):w.cell? ⟨b,i,none⟩=vs[i]? :=by
 rw[bu.cell h];simp
theorem Var.ext(h:Var w b vs T)(hx:Ext w w'):Var w' b vs T:=bu.ext h hx
theorem Var.ah{W:U1}(h:Var w b vs T)(hx:ag W w w')(a:¬W b):Var w' b vs T:=bu.ah h hx a
theorem Var.drew(h:Var w b vs T):Var w.drew b vs T:=bu.drew h
theorem Var.lt(h:Var w b vs T):b<w:=bu.lt h
theorem Var.ct(h:Var w b vs T)(a:us.length=vs.length)(c:∀v∈us,Plain v):bp w b us:=bu.ct h 0 us (by simp[a]) c
theorem Var.put(h:Var w b vs T)(a:us.length=vs.length):Var (setCells w b 0 us) b us T:=by
 have:=bu.tc us 0 0 h;simp only[lU]at this;have e:(gV vs.toArray 0 us)=us.toArray:=by
  have h1:=te us vs.toArray 0 (by simp[a]);rw[cA,a,List.take_zero,hK,dO (by rw[Array.length_toList,ja];simp)]at h1;apply Array.toList_inj.1;rw[h1]
 rwa[e]at this
end
theorem bc.plain(a:bc):∀v∈a.c,Plain v:=by
 intro v b;rcases cZ.1 b with rfl|b
 .trivial
 .exact jd _ v b
theorem br.plain(p:br):∀v∈p.c,Plain v:=by
 intro v a;rcases cR.1 a with a|a
 .exact p.addr.plain v a
 .rw[e8.1 a];trivial
theorem Ext.put{w0:J}{us:O aa}(h:Ext w0 w)(a:w0<=b):Ext w0 (setCells w b 0 us):=
 Ext.d_ h (ag.kA (.refl _ _) us 0) (λk c=>by subst c;exact a)
theorem aT(h:K w):an w K:=h
theorem a6{c:Array aa}(hc:c=vs.toArray)(h:∀w',Var w' w vs T->Ext w w'->w'.heap.size=w+1->K w'):an (w.alloc (.cells c T)) K:=by
 subst hc;exact h _ (Var.new _ _ _) (ag.alloc (.refl _ _) _) U9
theorem cP{us l:O aa}(a:Var w b vs T)(c:us.length=vs.length)(d:l=us)(h:∀w',Var w' b us T->ag (λq=>q=b) w w'->w'.heap.size=w->K w'):an (setCells w b 0 l) K:=by
 subst d;refine h _ (a.put c) (ag.kA (.refl _ _) l 0) ?_;have:∀ (vs:O aa) (i:Nat) (w:J),(setCells w b i vs).heap.size=w:=by
  intro vs
  induction vs with
  |nil=>intro i w;rfl
  |cons v vs e=>intro i w;rw[setCells,e];simp[World.setCell]
 exact this _ _ _
theorem Ext.cp{w0 w':J}(h:Ext w0 w)(hc:ag (λq=>q=b) w w')(a:w0<=b):Ext w0 w':=Ext.d_ h hc (λk c=>by subst c;exact a)
def bc.raw(a:bc):O UInt8:=if a.eo then a.b else a.b.drop 12
theorem bc.j5(a:bc):a.raw.length=if a.eo then 16 else 4:=by
 unfold bc.raw;split
 .exact a.h
 .simp[a.h]
def bc.ep(a:bc):ao:=a.eo||decide (a.b.take 12=fx 12)
theorem Var.r5{c:Nat}(h:Var w b vs T)(e:o+n<=vs.length)(d:(vs.drop o).take n=aC l):Src 1 w ⟨some ⟨b,o,none⟩,n,c⟩ (aC l):=by
 have hlen:n=l.length:=by
  have:=congrArg List.length d;rw[cF,eH,de]at this;omega
 refine⟨by rw[de];show _=n*1;omega,(λh=>by cases h),λa f=>?_⟩
 cases f;show bf w ⟨b,o,none⟩ 0 (n*1)=_;rw[f_,h.r4 e,d]
theorem pW(a:bc)(w:J):aH aj 214 #[.agg a.c.toArray] w (λv w'=>∃s:ad,v=s/\s.len=a.raw.length/\s.cap=s.len/\Src 1 w' s (aC a.raw)/\Ext w w'):=by
 refine ae.Iv _ w _ ?_;(delta ae.pW an aW Y ak;dsimp only);have f:=Var.new w a.c 53;have hx:Ext w (w.alloc (.cells a.c.toArray 53)):=ag.alloc (.refl _ _) _;refine⟨a.eo,f.cell,λh=>?_,λh=>⟨⟨by decide,by decide⟩,?_⟩⟩
 .have d:a.raw=a.b:=by simp[bc.raw,h]
  have e:a7 (some (Addr.add w 1)) 1 0 16=some ⟨w,1,none⟩:=by rw[aA,nk (by decide)]
  refine⟨⟨some ⟨w,1,none⟩,16,16⟩,by rw[e],by rw[d,a.h],rfl,f.r5 (by rw[a.ba];decide) ?_,hx⟩;rw[d];simp[bc.c,dO,de,a.h]
 .have d:a.raw=a.b.drop 12:=by simp[bc.raw,h]
  have e:a7 (some (Addr.add w 1)) 1 (Int.toNat 12) 16=some ⟨w,13,none⟩:=by
   rw[aA,show Int.toNat 12=12 from rfl,nk (by decide)]
  refine⟨⟨some ⟨w,13,none⟩,4,4⟩,by rw[e];rfl,by rw[d];simp[a.h],rfl,f.r5 (by rw[a.ba];decide) ?_,hx⟩;rw[d];simp[bc.c,aC,dO,a.h,m4]
theorem l6:ij aj 39 5 1 1:=⟨by kernel_rfl⟩
theorem IW(hs:Src 1 w s (aC l))(n:l.length<=1000000):
 aH aj 103 #[.slice (some w) 1 1] (w.alloc (.cells #[s] 39)) (λv w'=>∃a:ad,v=a/\aR 1 5 w' a (aC l)/\a.len=l.length/\Ext w w'/\∀k,aD a k->w<=k):=by
 refine ae.H7 ⟨some w.heap.size,1,1⟩ _ _ ?_;(delta ae.oy ak aO al ar;dsimp only);have b:Ext w (w.alloc (.cells #[s] 39)):=ag.alloc (.refl _ _) _;have d:=Var.new w [s] 39;have o:s.len=l.length:=by have:=hs.len;rw[de]at this;omega
 refine⟨λa i w'=>(i=0/\a=⟨none,0,0⟩/\w'=w.alloc (.cells #[s] 39))\/(i=1/\aR 1 5 w' a (aC l)/\a.len=l.length/\Ext w w'/\∀k,aD a k->w<=k),λ_ i _=>(1-i).toNat,.inl ⟨rfl,rfl,rfl⟩,?_⟩;rintro a _ w1 (⟨rfl,rfl,rfl⟩|⟨rfl,e,f,hx,hf⟩)
 .refine⟨λ_=>⟨_,rfl,⟨Int.le_refl 0,(by decide:(0:Int)<((1:Nat):Int))⟩,s,?_,?_⟩,λh=>(by have h:decide ((0:Int)<((1:Nat):Int))=false:=h;exact absurd h (by decide))⟩
  .rw[show Int.toNat 0*1=0 from rfl,add_zero']
   have:=d.cell (i:=0);exact this
  .obtain⟨s2,ai,h1,h2,g,j,m⟩:=l6.append (cB:=39) (hs.ext b) (aR.none 1 5 _) (jd l) (by show(2*(0+s.len)+1000)*1<=_;omega)
   refine⟨s2,ai,h1,.inr ⟨rfl,by simpa using h2,by rw[g];show 0+s.len=_;omega,Ext.d_ b j (λk c=>(fH k c).elim),λk c=>?_⟩,(by show((1:Int)-IntKind.wrap .i64 (0+1)).toNat<((1:Int)-0).toNat;decide)⟩;rcases m k c with h|h
   .exact(fH k h).elim
   .exact eO b.size h
 .exact⟨λh=>(by have h:decide ((1:Int)<((1:Nat):Int))=true:=h;exact absurd h (by decide)),λ_=>⟨a,rfl,e,f,hx,hf⟩⟩
theorem mJ(a:bc)(w:J):aH aj 167 #[.agg a.c.toArray] w (λv w'=>∃s:ad,v=s/\aR 1 5 w' s (aC a.raw)/\s.len=a.raw.length/\Ext w w'/\∀k,aD s k->w<=k):=by
 refine ae.Im _ w _ ?_;delta ae.mJ an Y bH;have e:=Var.new w a.c 53;have hx:Ext w (w.alloc (.cells a.c.toArray 53)):=ag.alloc (.refl _ _) _;refine⟨a.c,e.rd a.ba,(pW a _).use ?_⟩;rintro _ w1 ⟨s,rfl,h1,h2,f,b⟩;have hlen:=a.j5;refine⟨s,rfl,(IW f (by rw[hlen];split<;>omega)).use ?_⟩;rintro _ ai ⟨d,rfl,ay,az,g,h⟩;exact⟨d,rfl,d,rfl,ay,az,(hx.trans b).trans g,λk i=>eO (hx.trans b).size (h k i)⟩
theorem DD{np cS ty:TypeId}{dl pF:Nat}(hu:Tryz.prog.underlying np=some (.slice 5))(hs:Src 1 w s (aC l))(e:s.len<=dl)(a:bp w ⟨b,o,none⟩ (aC l)):
 Sem.run aj (Builtin.copy_ #[np,cS] ty #[.slice (some ⟨b,o,none⟩) dl pF,s]) w=.ok s.len (setCells w ⟨b,o,none⟩ 0 (aC l)):=by
 have f:Nat.min s.len dl=s.len:=iX e;have c:=iA (P:=aj) (w:=w) (t:=5) (d:=.int .u8) U3;have hc:Tryz.prog.cellsOf 5=1:=by kernel_rfl
 rw[hc]at c;have hf:=q8 (P:=aj) hs;have g:=qU (P:=aj) (A:=⟨b,o,none⟩) (aC l) 0 w (by simpa using a.1) a.2;simp[Builtin.copy_,di hu,Builtin.lenOf,c,f,hf,g];rfl
def l7(l:O UInt8)(h:l.length=4):bc:=⟨false,fx 12++l,by simp[fx,h]⟩
theorem rQ(hs:Src 1 w s (aC l))(b:l.length=4):aH aj 220 #[.slice s.a s.len s.cap] w (λv w'=>v=.agg (l7 l b).c.toArray/\Ext w w'):=by
 refine okF (ae.rQ s) ax.rQ func220 ?_;delta ae.rQ an z4 Y;have p:s.len=4:=by have:=hs.len;rw[de]at this;omega
 have f:=Var.new w bc.zero.c 53;have hx:Ext w (w.alloc (.cells bc.zero.c.toArray 53)):=ag.alloc (.refl _ _) _;have e:a7 (some (Addr.add ⟨w,0,none⟩ 1)) 1 (Int.toNat 12) 16=some ⟨w,13,none⟩:=by
  rw[aA,show Int.toNat 12=12 from rfl,nk (by decide)]
 have h:=hs.ext hx;have i:=bu.ct f 13 (aC l) (by rw[de,b];simp[bc.ba]) (jd l);have g:=bu.tc (aC l) 13 0 f;have j:gV bc.zero.c.toArray (13+0) (aC l)=(l7 l b).c.toArray:=by
  have h1:=te (aC l) bc.zero.c.toArray 13 (by rw[de,b];simp[bc.ba]);rw[dO (by rw[Array.length_toList,ja,de,b];simp[bc.ba])]at h1;apply Array.toList_inj.1;rw[lU,h1];have h2:(l7 l b).c=(.bool false::aC (fx 12))++aC l:=by
   show Value.bool false::aC (fx 12++l)=_;rw[nx];rfl
  rw[h2]
  congr 1
 rw[j]at g;refine⟨⟨by decide,by decide⟩,((s.len:Nat):Int),setCells (w.alloc (.cells bc.zero.c.toArray 53)) ⟨w,13,none⟩ 0 (aC l),?_,?_⟩
 .rw[e]
  exact DD U3 h (by show s.len<=4;omega) i
 .have d:Var (setCells (w.alloc (.cells bc.zero.c.toArray 53)) ⟨w,13,none⟩ 0 (aC l)) w (l7 l b).c 53:=g
  have m:Ext w (setCells (w.alloc (.cells bc.zero.c.toArray 53)) ⟨w,13,none⟩ 0 (aC l)):=Ext.d_ hx (ag.kA (.refl _ _) (aC l) 0) (λk n=>by subst n;exact bk _);have o:=d.put (us:=(l7 l b).c) rfl;exact⟨_,d.rd (bc.ba _),d.ct rfl (bc.plain _),by simp[bc.ba],_,o.rd (bc.ba _),rfl,Ext.put m (bk _)⟩
def iF(l:O UInt8):au bc:=if h:l.length=4 then some (l7 l h) else if h:l.length=16 then some ⟨true,l,h⟩ else none
theorem pR(hs:Src 1 w s (aC l)):aH aj 172 #[s] w (λv w'=>v=.tuple #[.agg ((iF l).getD bc.zero).c.toArray,.bool (iF l).isSome]/\Ext w w'):=by
 refine okF (ae.pR s) ax.pR func172 ?_;delta ae.pR an z4 ak l2 Aa Y;have m:s.len=l.length:=by have:=hs.len;rw[de]at this;omega
 have e:=Var.new w bc.zero.c 53;have hx:Ext w (w.alloc (.cells bc.zero.c.toArray 53)):=ag.alloc (.refl _ _) _;have g:=hs.ext hx;unfold iF;refine⟨λh=>?_,λh=>⟨λh2=>?_,λh2=>?_⟩⟩
 .have d:l.length=4:=U4 (eq_of_beq h)
  rw[dif_pos d];refine(rQ g d).use ?_;rintro _ ai ⟨rfl,i⟩;have j:=e.ext i;have f:=j.put (us:=(l7 l d).c) (by simp[bc.ba]);exact⟨_,rfl,j.ct (by simp[bc.ba]) (bc.plain _),by simp[bc.ba],_,f.rd (bc.ba _),rfl,Ext.put (hx.trans i) (bk _)⟩
 .have d:l.length≠4:=U4 (ne_of_beq_false h)
  have b:l.length=16:=U4 (eq_of_beq h2)
  rw[dif_neg d,dif_pos b];obtain⟨A,av⟩:∃A,s.a=some A:=by
   cases n:s.a with
   |some A=>exact⟨A,rfl⟩
   |none=>have:=hs.nil n;rw[show l=[] from xW (by simpa[aC] using this)]at b;simp at b
  have k:=g.rd A av;rw[m,b]at k;have f:=e.put (us:=(bc.mk true l b).c) (by simp[bc.ba]);refine⟨I,A,av,_,k,_,IV _ true l b,e.ct (by simp[bc.ba]) (bc.plain _),by simp[bc.ba],_,f.rd (bc.ba _),rfl,Ext.put hx (bk _)⟩
 .have d:l.length≠4:=U4 (ne_of_beq_false h)
  have b:l.length≠16:=U4 (ne_of_beq_false h2)
  rw[dif_neg d,dif_neg b];have f:=e.put (us:=bc.zero.c) rfl;exact⟨_,IT _,e.ct rfl (bc.plain _),rfl,_,f.rd (bc.ba _),rfl,Ext.put hx (bk _)⟩
theorem pZ(a:bc)(w:J):aH aj 258 #[.agg a.c.toArray] w (λv w'=>v=a.ep/\Ext w w'):=by
 refine ae.Iz _ w _ ?_;(delta ae.pZ an aW Y ak;dsimp only);have d:=Var.new w a.c 53;have hx:Ext w (w.alloc (.cells a.c.toArray 53)):=ag.alloc (.refl _ _) _;have e:a7 (some (Addr.add w 1)) 1 0 16=some ⟨w,1,none⟩:=by rw[aA,nk (by decide)]
 refine⟨a.eo,d.cell,cc (λb w1=>b=a.ep/\Ext w w1) (λq f=>⟨λh=>f _ _ ⟨by simp[bc.ep,h],hx⟩,λh=>⟨⟨by decide,by decide⟩,by decide,_,e,(aC (a.b.take 12)),?_,_,IU _,_,IS _ _ (by simp[a.h]) (by simp[fx]),f _ _ ⟨by simp[bc.ep,h],hx⟩⟩⟩) ?_⟩
 .rw[d.r4 (by rw[a.ba];decide)]
  simp[bc.c,aC,mu]
 .rintro _ w1 ⟨rfl,g⟩
  exact⟨rfl,g⟩
def aQ(c k:Nat):Nat:=c/2^(8-k)*2^(8-k)
theorem IX(c k:Nat):aQ c k<=c:=Nat.div_mul_le_self _ _
def kF(c:UInt8)(k:Nat):UInt8:=UInt8.ofNat (aQ c.toNat k)
theorem An(c:UInt8)(k:Nat):(kF c k).toNat=aQ c.toNat k:=by
 have:=IX c.toNat k;have:=mv c;exact r0 I
theorem IY(c:Nat)(h:c<256):aQ c 0=0:=by
 have:c/2^8=0:=Nat.div_eq_of_lt h;simp[aQ];omega
theorem IZ:∀c:Nat,c<256->∀k:Nat,k<9->jZ .u8 (c:Int) (IntKind.wrap .u8 (255*2^(min (Int.toNat (8-(k:Int))) 8)))=((aQ c k:Nat):Int):=by decide+kernel
theorem I0:∀c:Nat,c<256->∀m:Nat,m<8->((Int.tmod (Int.fdiv (c:Int) (2^(min (Int.toNat ((7-m:Nat):Int)) 8))) 2==1)=true->IntKind.wrap .u8 (((aQ c m:Nat):Int)+IntKind.wrap .u8 (1*2^(min (Int.toNat ((7-m:Nat):Int)) 8)))=((aQ c (m+1):Nat):Int))/\
 ((Int.tmod (Int.fdiv (c:Int) (2^(min (Int.toNat ((7-m:Nat):Int)) 8))) 2==1)=false->aQ c m=aQ c (m+1)):=by decide+kernel
def kb(n i:Nat):Nat:=min (n-8*i) 8
def gn(n:Nat)(l:O UInt8):O UInt8:=l.mapIdx λi c=>kF c (kb n i)
theorem p_(n:Nat)(l:O UInt8):(gn n l).length=l.length:=by simp[gn]
def k0(n:Nat)(l:O UInt8)(k:Nat):O UInt8:=l.mapIdx λi c=>if i<k then kF c (kb n i) else c
theorem I1(n:Nat)(l:O UInt8):k0 n l 0=l:=by
 apply mw
 .simp[k0]
 .intro i h1 h2;simp[k0]
theorem I2(n:Nat)(l:O UInt8):k0 n l l.length=gn n l:=by
 apply mw
 .simp[k0,gn]
 .intro i h1 h2
  have:i<l.length:=by simpa[gn] using h2
  simp[k0,gn,this]
theorem I3(h:k<l.length):k0 n l (k+1)=(k0 n l k).set k (kF l[k] (kb n k)):=by
 apply mw
 .simp[k0]
 .intro i h1 h2
  simp only[k0,uY,o_];by_cases e:k=i
  .subst e;simp
  .rw[if_neg e]
   by_cases a:i<k
   .simp[a,show i<k+1 from I]
   .simp[a,show¬i<k+1 from I]
theorem I4(h:k<l.length):(k0 n l k)[k]? =some l[k]:=by simp[k0,h]
theorem DE{x:UInt8}:(aC l).set i (.int .u8 (x.toNat:Int))=aC (l.set i x):=by simp[aC,List.map_set]
theorem I5{x:UInt8}(h:l[i]? =some x):(aC l)[i]? =some (.int .u8 (x.toNat:Int)):=by simp[aC,h]
def gA(a:bc)(n:Int):au br:=if a.ep=true/\0<=n/\n<=8*(a.raw.length:Int) then some ⟨(iF (gn n.toNat a.raw)).getD bc.zero,n⟩ else none
theorem DF(a:bc)(n:Int):((((!a.ep)||(decide (n<0)))||(decide (n>8*(a.raw.length:Int))))=true->gA a n=none)/\((((!a.ep)||(decide (n<0)))||(decide (n>8*(a.raw.length:Int))))=false->a.ep=true/\0<=n/\n<=8*(a.raw.length:Int)):=by
 unfold gA
 cases hg:a.ep
 .simp
 .simp;omega
theorem pV(a:bc)(n:Int)(w:J):aH aj 213 #[.agg a.c.toArray,.int .i64 n] w (λv w'=>v=.tuple #[.agg ((gA a n).getD br.zero).c.toArray,.bool (gA a n).isSome]/\Ext w w'):=by
 refine ae.Iu _ n w _ ?_;(delta ae.pV z9 Y bH bP ak ar wh aO cq st h4 z4;dsimp only);refine a6 (vs:=a.c) rfl λw1 f u aE=>a6 (vs:=br.zero.c) rfl λai O d aF=>?_;have f:=f.ext d;have d:=Ext.trans u d;have x:w.heap.size<=w1.heap.size:=u.size;have P:w1.heap.size<ai.heap.size:=by omega
 refine⟨a.c,f.rd a.ba,(mJ a ai).use ?_⟩;rintro _ Q ⟨s,rfl,g,y,j,hf⟩;have R:=f.ext j;refine⟨s,rfl,a.c,R.rd a.ba,(pZ a Q).use ?_⟩;rintro _ z ⟨rfl,l⟩;have o:=(O.ext j).ext l;have S:=g.ext l;have B:Ext w z:=Ext.trans (Ext.trans d j) l;have T:=a.j5;have aG:a.raw.length<=16:=by rw[T];split<;>omega
 obtain⟨U,V⟩:=DF a n;refine⟨a.ep,rfl,?_⟩;rw[bq (n:=8*((s.len:Nat):Int)) I I];refine⟨λh=>?_,λh=>?_⟩
 .rw[y]at h
  rw[U h];refine⟨_,DC _,o.ct rfl (br.plain _),rfl,cP o rfl rfl λaJ W X _=>?_⟩;exact⟨_,W.rd (br.ba _),rfl,Ext.cp B X x⟩
 .rw[y]at h
  obtain⟨hg,Z,aa⟩:=V h;refine⟨λi w'=>∃k:Nat,i=k/\k<=a.raw.length/\ag (aD s) z w'/\aR 1 5 w' s (aC (k0 n.toNat a.raw k)),λi _=>((a.raw.length:Int)-i).toNat,⟨0,rfl,cI _,.refl _ _,by rw[I1];exact S⟩,?_⟩;rintro _ e ⟨k,rfl,C,p,q⟩;refine⟨λaI=>?_,λr=>?_⟩
  .have aI:k<a.raw.length:=by have:=b2 aI;omega
   have ab:=q.ext (ag.drew (.refl _ _):Ext e e.drew);obtain⟨A,av,t,D,ac,ad,af⟩:=ab.at (I5 (I4 (n:=n.toNat) aI));have al:(a.raw[k]).toNat<256:=mv _;have aK:(8:Int)*(k:Int)=((8*k:Nat):Int):=by omega
   refine⟨_,e,run_max_int2 ..,_,e,run_min_int2 ..,aT ⟨A,av,t,id,_,D,?_⟩⟩;rw[bq (n:=8*(k:Int)) I I,bq (n:=n-8*(k:Int)) I I];have am:(if (8:Int)<(if (0:Int)>n-8*(k:Int) then 0 else n-8*(k:Int)) then (8:Int) else (if (0:Int)>n-8*(k:Int) then 0 else n-8*(k:Int)))=((kb n.toNat k:Nat):Int):=by
    unfold kb;split<;>split<;>omega
   rw[am];have an:kb n.toNat k<9:=by unfold kb;omega
   rw[bq (n:=8-((kb n.toNat k:Nat):Int)) I I,IZ _ al _ an,bq (n:=(k:Int)+1) I I];refine⟨I,A,av,t,⟨_,D⟩,ac,aT ⟨⟨k+1,I,I,?_,?_⟩,?_⟩⟩
   .exact ag.set (ag.drew p) (λ_=>ad) _
   .have:=af (.int .u8 ((kF a.raw[k] (kb n.toNat k)).toNat:Nat))
    rw[DE,←I3 aI,An]at this;exact this
   .show((a.raw.length:Int)-((k:Int)+1)).toNat<((a.raw.length:Int)-(k:Int)).toNat
    omega
  .have r:k=a.raw.length:=by have:=cr r;omega
   subst r;rw[I2]at q;have ao:∀b,b<ai.heap.size->¬aD s b:=λb t g=>by have:=hf b g;omega
   have ap:=o.ah p (ao _ P);have aq:Ext w e:=Ext.d_ B p (λk C=>by have:=hf k C;have:=d.size;omega);refine(pR q.src).use ?_;rintro _ au ⟨rfl,E⟩;have F:Ext w au:=Ext.trans aq E;have G:=ap.ext E;obtain⟨m,H⟩:=U6 ((iF (gn n.toNat a.raw)).getD bc.zero);have aw:gA a n=some ⟨m,n⟩:=by unfold gA;rw[if_pos ⟨hg,Z,aa⟩,H]
   rw[←H];refine⟨_,_,rfl,a6 (vs:=bc.zero.c) rfl λaL K L aM=>⟨K.ct (by simp[bc.ba]) (bc.plain _),by simp[bc.ba],cP K (us:=m.c) (by simp[bc.ba]) rfl λax ay M _=>?_⟩⟩;have N:=(G.ext L).ah M (by have:=G.lt;omega);have az:Ext w ax:=Ext.cp (Ext.trans F L) M F.size;refine⟨m.c,ay.rd (bc.ba _),_,Am _ m n,N.ct (by simp[br.ba]) (br.plain _),by simp[br.ba],cP N (us:=(br.mk m n).c) (by simp[br.ba]) rfl λaN aA aB _=>?_⟩;refine⟨_,aA.rd (br.ba _),?_,Ext.cp az aB x⟩;rw[aw];rfl
def bc.eP(a:bc):Nat:=if a.eo then 0 else 12
theorem oD(a:bc)(w:J):aH aj 210 #[.agg a.c.toArray] w (λv w'=>v=a.eP/\Ext w w'):=by
 refine ae.II _ w _ ?_;(delta ae.oD an aW Y ak;dsimp only);have b:=Var.new w a.c 53;have hx:Ext w (w.alloc (.cells a.c.toArray 53)):=ag.alloc (.refl _ _) _;exact⟨a.eo,b.cell,λh=>⟨by simp[bc.eP,h],hx⟩,λh=>⟨by simp[bc.eP,h],hx⟩⟩
theorem DG(l:O UInt8)(h:l.length=12):l=fx 12↔∀i,(hi:i<12)->l[i]=0:=by
 constructor
 .rintro rfl i hi;simp only[fx,List.getElem_replicate]
 .intro h2
  apply mw
  .simp[fx,h]
  .intro i a b
   rw[h2 i I];simp only[fx,List.getElem_replicate]
theorem bc.Ao(a:bc)(h:i<16):a.c[1+i]? =some (.int .u8 (((a.b[i]'(a.h▸h)).toNat:Nat):Int)):=by
 rw[Nat.add_comm];show(aC a.b)[i]? =_;exact oG (a.h▸h)
theorem p7(a:bc)(w:J):aH aj 211 #[.agg a.c.toArray] w (λv w'=>v=a.ep/\Ext w w'):=by
 refine ae.IJ _ w _ ?_;(delta ae.p7 an ak aW Y cq ar;dsimp only);have f:=Var.new w a.c 53;have hx:Ext w (w.alloc (.cells a.c.toArray 53)):=ag.alloc (.refl _ _) _;obtain⟨w1,r⟩:=U6 (w.alloc (.cells a.c.toArray 53));rw[←r]at f hx⊢;refine⟨λi w'=>w1=w'/\∃k:Nat,i=k/\k<=12/\(a.eo=false->∀j,(m:j<k)->(g:j<16)->a.b[j]'(a.h▸g)=0),λi _=>((12:Int)-i).toNat,⟨rfl,0,rfl,I,λ_ j m=>I⟩,?_⟩;rintro _ _ ⟨rfl,k,rfl,y,n⟩;refine⟨λaI=>?_,λl=>?_⟩
 .have aI:k<12:=U4 (b2 aI)
  have s:=a.Ao (i:=k) I;have t:Addr.add (Addr.add w 1) (Int.toNat (k:Int)*1)=⟨w,1+k,none⟩:=by rw[aA,aA];simp
  refine⟨a.eo,f.cell,cc (λb w'=>w1=w'/\(b=true↔a.eo=false/\a.b[k]'(by rw[a.h];omega)≠0)) (λq o=>⟨λh=>⟨⟨I,I⟩,_,by rw[t,f.cell];exact s,o _ _ ⟨rfl,?_⟩⟩,λh=>o _ _ ⟨rfl,?_⟩⟩) ?_⟩
  .have d:a.eo=false:=by simpa using h
   simp only[d,true_and,bne_iff_ne,ne_eq];refine not_congr ?_;constructor
   .intro h;exact qK.1 (by exact_mod_cast h)
   .intro h;rw[h];rfl
  .have d:a.eo=true:=by simpa using h
   simp[d]
  .rintro b _ ⟨rfl,p⟩
   refine⟨λh=>?_,λh=>?_⟩
   .obtain⟨d,u⟩:=p.1 h
    refine⟨?_,hx⟩;have:¬a.b.take 12=fx 12:=by
     rw[DG _ (by simp[a.h])];intro x;have:=x k aI;simp at this;exact u this
    simp[bc.ep,d,this]
   .rw[bq I I]
    refine⟨⟨rfl,k+1,I,I,λd j m g=>?_⟩,?_⟩
    .by_cases e:j=k
     .subst e
      rcases Classical.em (a.b[j]'(by rw[a.h];omega)=0) with h0|h0
      .exact h0
      .have:=p.2 ⟨d,h0⟩;rw[h]at this;cases this
     .exact n d j I g
    .show((12:Int)-((k:Int)+1)).toNat<((12:Int)-(k:Int)).toNat
     omega
 .have l:k=12:=U4 (cr l)
  subst l;refine⟨?_,hx⟩
  cases d:a.eo
  .have:a.b.take 12=fx 12:=by
    rw[DG _ (by simp[a.h])];intro i hi;have:=n d i hi I;simpa using this
   simp[bc.ep,d,this]
  .simp[bc.ep,d]
theorem p8(a:bc)(w:J):aH aj 216 #[.agg a.c.toArray] w (λv w'=>∃s:ad,v=s/\aR 1 5 w' s (aC a.raw)/\s.len=a.raw.length/\Ext w w'):=by
 refine ae.IL _ w _ ?_;delta ae.p8 an Y bB;have d:=Var.new w a.c 53;have f:Ext w (w.alloc (.cells a.c.toArray 53)):=ag.alloc (.refl _ _) _;obtain⟨w1,l⟩:=U6 (w.alloc (.cells a.c.toArray 53));rw[←l]at d f⊢;have g:Ext w1 (w1.alloc (.cells #[] 5)):=ag.alloc (.refl _ _) _;have m:=aR.new (sz:=1) (T:=5) w1 [] 0 U9 (by decide);refine⟨a.c,(d.ext g).rd a.ba,(oD a _).use ?_⟩;rintro _ n ⟨rfl,i⟩;have o:=(d.ext g).ext i;have p:=m.ext i;have y:a.eP<=12:=by unfold bc.eP;split<;>omega
 have hlen:=a.j5;have z:a.raw.length=16-a.eP:=by rw[hlen];unfold bc.eP;split<;>rfl
 have q:a.raw=a.b.drop a.eP:=by unfold bc.raw bc.eP;split<;>simp
 have e:a7 (some (Addr.add w 1)) 1 (Int.toNat (a.eP:Int)) 16=some ⟨w,1+a.eP,none⟩:=by
  rw[aA,c2,nk I,f_,cA]
 have r:Src 1 n ⟨some ⟨w,1+a.eP,none⟩,16-a.eP,16-a.eP⟩ (aC a.raw):=by
  refine o.r5 (by rw[a.ba];omega) ?_;rw[q,bc.c,Nat.add_comm,List.drop_succ_cons,dO (by rw[eH,de,a.h];exact bk _)];simp[aC,m4]
 obtain⟨s2,t,h1,h2,u,x,A⟩:=l6.append (cB:=39) r p (jd _) (by show(2*(0+(16-a.eP))+1000)*1<=_;omega);refine⟨_,rfl,⟨I,I⟩,s2,t,by rw[e];exact h1,s2,rfl,by simpa using h2,by rw[u];show 0+(16-a.eP)=_;omega,?_⟩;exact Ext.d_ (Ext.trans (Ext.trans f g) i) x (λk j=>by rw[jr]at j;subst j;exact f.size)
theorem DH(i:Nat):kb i (i/8)=i%8:=by unfold kb;omega
theorem I6(i:Nat):kb (i+1) (i/8)=i%8+1:=by unfold kb;omega
theorem I7{j:Nat}(h:j≠i/8):kb (i+1) j=kb i j:=by unfold kb;omega
theorem DI(h:i/8<l.length):gn (i+1) l=(gn i l).set (i/8) (kF l[i/8] (i%8+1)):=by
 apply mw
 .simp[gn]
 .intro j h1 h2
  simp only[gn,uY,o_];by_cases e:i/8=j
  .subst e;rw[if_pos rfl,I6]
  .rw[if_neg e,I7 (λh=>e h.symm)]
theorem I8(h:i/8<l.length)(a:kF l[i/8] (i%8)=kF l[i/8] (i%8+1)):gn (i+1) l=gn i l:=by
 rw[DI h,←a];apply mw
 .simp
 .intro j h1 h2
  simp only[o_];by_cases e:i/8=j
  .subst e;rw[if_pos rfl];simp only[gn,uY,DH]
  .rw[if_neg e]
theorem I9(l:O UInt8):gn 0 l=fx l.length:=by
 apply mw
 .simp[gn,fx]
 .intro j h1 h2
  simp only[gn,uY,fx,List.getElem_replicate];have:kb 0 j=0:=by unfold kb;omega
  rw[this];unfold kF;rw[IY _ (mv _)];rfl
theorem I_(w:J)(eo:ao):Sem.run aj (Instr.build 53 #[(0,eo)]) w=.ok (.agg (bc.mk eo (fx 16) (by simp[fx])).c.toArray) w:=by kernel_rfl
def gW(a:bc)(k:Nat):O UInt8:=fx a.eP++gn k a.raw
theorem ny(a:bc)(k:Nat):(gW a k).length=16:=by
 unfold gW;rw[cz,p_,a.j5];unfold bc.eP;split<;>simp[fx]
theorem Ja(a:bc):gW a 0=fx 16:=by
 unfold gW;rw[I9,a.j5];unfold bc.eP;split<;>simp[fx]
theorem Jb(a:bc)(h:k/8<a.raw.length):(gW a k).set (a.eP+k/8) (kF a.raw[k/8] (k%8+1))=gW a (k+1):=by
 unfold gW;rw[uZ (h:=by simp[fx]),DI h];simp[fx]
theorem Var.Jc(h:Var w b vs T)(i:Nat)(v:aa):Var (w.setCell ⟨b,i,none⟩ v) b (vs.set i v) T:=by
 have:=bu.set h i v;simpa[Var] using this
theorem Jd(a:bc){j:Nat}(h:j<a.raw.length):a.eP+j<16/\∀h2,a.b[a.eP+j]'h2=a.raw[j]:=by
 have c:=a.j5;have hf:a.eP=if a.eo then 0 else 12:=rfl
 refine⟨?_,λh2=>?_⟩
 .rw[hf];rw[c]at h;split at h<;>simp_all<;>omega
 .unfold bc.raw
  simp only[hf];split<;>simp
theorem p4(a:bc)(n:Int)(w:J):aH aj 161 #[.agg a.c.toArray,.int .i64 n] w (λv w'=>v=.tuple #[.agg ((gA a n).getD br.zero).c.toArray,.bool (gA a n).isSome]/\Ext w w'):=by
 refine ae.IG _ n w _ ?_;(delta ae.p4 z9 Y bB bP ak ar wh aW cq st;dsimp only);refine a6 (vs:=a.c) rfl λw1 o D ay=>a6 (vs:=br.zero.c) rfl λai N p az=>?_;have o:=o.ext p;have p:=Ext.trans D p;have E:w.heap.size<=w1.heap.size:=D.size;refine⟨a.c,o.rd a.ba,(oD a ai).use ?_⟩;rintro _ O ⟨rfl,t⟩;have F:=o.ext t;refine⟨_,rfl,a.c,F.rd a.ba,(p7 a O).use ?_⟩;rintro _ g ⟨rfl,u⟩;have r:=F.ext u;have j:=(N.ext t).ext u;have s:Ext w g:=Ext.trans (Ext.trans p t) u;have aB:a.eP<=12:=by unfold bc.eP;split<;>omega
 have aD:a.raw.length=16-a.eP:=by rw[a.j5];unfold bc.eP;split<;>rfl
 obtain⟨P,Q⟩:=DF a n;refine⟨a.ep,rfl,?_⟩;rw[bq (n:=16-((a.eP:Nat):Int)) I I,bq (n:=8*(16-((a.eP:Nat):Int))) I I,show 16-((a.eP:Nat):Int)=((a.raw.length:Nat):Int) from I];refine⟨λh=>?_,λh=>?_⟩
 .rw[P h]
  refine⟨_,DC _,j.ct rfl (br.plain _),rfl,cP j rfl rfl λaE R S _=>?_⟩;exact⟨_,R.rd (br.ba _),rfl,Ext.cp s S E⟩
 .obtain⟨hg,T,U⟩:=Q h
  refine⟨a.eo,r.cell,_,I_ _ _,_,Am _ _ n,a6 (vs:=br.zero.c) rfl λaF l x aG=>⟨l.ct (by simp[br.ba]) (br.plain _),by simp[br.ba],cP l (us:=(br.mk (bc.mk a.eo (gW a 0) (ny a 0)) n).c) (by simp[br.ba]) (by simp[Ja]) λy V z aJ=>?_⟩⟩;have W:=(r.ext x).ah z (by have:=r.lt;omega);have X:=(j.ext x).ah z (by have:=j.lt;omega);have Z:Ext w y:=Ext.cp (Ext.trans s x) z s.size;refine⟨λi w'=>∃k:Nat,i=k/\(k:Int)<=n/\ag (λq=>q=g.heap.size) y w'/\Var w' g.heap.size (br.mk (bc.mk a.eo (gW a k) (ny a k)) n).c 55,λi _=>(n-i).toNat,⟨0,rfl,I,.refl _ _,V⟩,?_⟩;rintro _ aa ⟨k,rfl,aK,m,f⟩;have ab:=W.ah m (by have:=r.lt;omega);have G:=X.ah m (by have:=j.lt;omega);refine⟨λaI=>?_,λH=>?_⟩
  .have aI:(k:Int)<n:=b2 aI
   have A:k/8<a.raw.length:=by omega
   obtain⟨B,ac⟩:=Jd a A;have K:=a.Ao (i:=a.eP+k/8) B;rw[ac]at K;have ad:(a.raw[k/8]).toNat<256:=mv _;obtain⟨af,al⟩:=I0 (a.raw[k/8]).toNat ad (k%8) (hG _ I);have ediv:Int.tdiv (k:Int) 8=((k/8:Nat):Int):=by rw[HA I];rfl
   have emod:Int.tmod (k:Int) 8=((k%8:Nat):Int):=by rw[HB I];rfl
   rw[ediv,emod,bq (n:=((k/8:Nat):Int)) I I,bq (n:=((a.eP:Nat):Int)+((k/8:Nat):Int)) I I,bq (n:=7-((k%8:Nat):Int)) I I,gF (n:=7-((k%8:Nat):Int)) I I,show 7-((k%8:Nat):Int)=((7-k%8:Nat):Int) from I];have L:∀b:Nat,Addr.add (Addr.add ⟨b,0,none⟩ 1) (Int.toNat (((a.eP:Nat):Int)+((k/8:Nat):Int))*1)=⟨b,1+(a.eP+k/8),none⟩:=by
    intro b;rw[aA,aA];congr 1;omega
   rw[L,L];have M:(br.mk (bc.mk a.eo (gW a k) (ny a k)) n).c[1+(a.eP+k/8)]? =some (.int .u8 ((aQ (a.raw[k/8]).toNat (k%8):Nat):Int)):=by
    rw[br.c,u0 (by rw[bc.ba];omega),bc.Ao _ B];have:(gW a k)[a.eP+k/8]'(by rw[ny];exact B)=kF a.raw[k/8] (k%8):=by
     unfold gW;rw[qL (by simp[fx])];simp only[fx,m5,Nat.add_sub_cancel_left,gn,uY,DH]
    simp only[this,An]
   have am:((n-((k:Int)+1)).toNat)<(n-(k:Int)).toNat:=by omega
   refine j2 (λw'=>ag (λq=>q=g.heap.size) y w'/\Var w' g.heap.size (br.mk (bc.mk a.eo (gW a (k+1)) (ny a (k+1))) n).c 55) (λq l=>⟨by decide,⟨I,I⟩,_,by rw[ab.cell];exact K,by decide,I,by decide,λC=>?_,λC=>?_⟩) ?_
   .refine⟨by decide,by decide,⟨I,I⟩,_,by rw[f.cell];exact M,by decide,I,⟨I,I⟩,⟨_,by rw[f.cell];exact M⟩,bu.frozen f _ rfl,aT (l _ ⟨ag.g8 m _,?_⟩)⟩
    rw[af C];have:=f.Jc (1+(a.eP+k/8)) (.int .u8 ((aQ (a.raw[k/8]).toNat (k%8+1):Nat):Int));have e:(br.mk (bc.mk a.eo (gW a k) (ny a k)) n).c.set (1+(a.eP+k/8)) (.int .u8 ((aQ (a.raw[k/8]).toNat (k%8+1):Nat):Int))=(br.mk (bc.mk a.eo (gW a (k+1)) (ny a (k+1))) n).c:=by
     rw[br.c,List.set_append_left (h:=by rw[bc.ba];omega),br.c]
     congr 1
     rw[bc.c,Nat.add_comm 1,List.set_cons_succ,bc.c]
     congr 1
     show(aC (gW a k)).set _ _=aC (gW a (k+1));rw[←An,DE,Jb a A]
    rwa[e]at this
   .refine l _ ⟨m,?_⟩
    have an:kF a.raw[k/8] (k%8)=kF a.raw[k/8] (k%8+1):=by unfold kF;rw[al C]
    have e:gW a (k+1)=gW a k:=by unfold gW;rw[I8 A an]
    simp only[e];exact f
   .rintro aL ⟨ao,ap⟩
    rw[bq (n:=(k:Int)+1) I I];exact⟨⟨k+1,I,I,ao,ap⟩,am⟩
  .have H:n=(k:Int):=by have:=cr H;omega
   have aq:gA a n=some ⟨bc.mk a.eo (gW a k) (ny a k),n⟩:=by
    unfold gA;rw[if_pos ⟨hg,T,U⟩]
    congr 2
    have au:n.toNat=k:=by omega
    rw[au];apply bc.ext'
    .cases d:a.eo
     .have:(gn k a.raw).length=4:=by rw[p_,a.j5,d];rfl
      simp[iF,this,l7]
     .have:(gn k a.raw).length=16:=by rw[p_,a.j5,d];rfl
      simp[iF,this]
    .cases d:a.eo
     .have:(gn k a.raw).length=4:=by rw[p_,a.j5,d];rfl
      simp[iF,this,l7,gW,bc.eP,d]
     .have:(gn k a.raw).length=16:=by rw[p_,a.j5,d];rfl
      simp[iF,this,gW,bc.eP,d,fx]
   refine⟨_,f.rd (br.ba _),G.ct (by simp[br.ba]) (br.plain _),by simp[br.ba],cP G (us:=(br.mk (bc.mk a.eo (gW a k) (ny a k)) n).c) (by simp[br.ba]) rfl λaM av aw _=>?_⟩;have ax:Ext w aa:=Ext.cp Z m s.size;refine⟨_,av.rd (br.ba _),?_,Ext.cp ax aw E⟩;rw[aq];rfl
theorem Src.sub{lo hi:Nat}(h:Src 1 w s vs)(hc:s.len<=s.cap)(h1:lo<=hi)(h2:hi<=s.len):Src 1 w ⟨a7 s.a 1 lo s.cap,hi-lo,s.cap-lo⟩ ((vs.drop lo).take (hi-lo)):=by
 have l:vs.length=s.len:=U4 h.len
 refine⟨by simp;omega,λc=>?_,λa b=>?_⟩
 .have f:s.a=none:=by
   unfold a7 at c;split at c
   .exact c
   .simpa using c
  simp[h.nil f]
 .show bf w a 0 ((hi-lo)*1)=_
  by_cases e:hi=lo
  .rw[show hi-lo=0 from I];simp[bf]
  .have av:∃A,s.a=some A/\a=A.add lo:=by
    unfold a7 at b;rw[if_neg I]at b
    cases hs:s.a with
    |none=>rw[hs]at b;cases b
    |some A=>rw[hs]at b;exact⟨A,rfl,by simpa using b.symm⟩
   obtain⟨A,av,rfl⟩:=av;have g:=h.rd A av;have:=Ak (w:=w) (A:=A.add lo) ((vs.drop lo).take (hi-lo)) 0 (λj v d=>by
    rw[add_add];have i:j<hi-lo:=by have:=(kn.1 d).1;simp at this;omega
    rw[List.getElem?_take_of_lt i,uT]at d;have:=nj g d;simpa using this)
   have k:((vs.drop lo).take (hi-lo)).length=hi-lo:=by simp;omega
   rw[k]at this;rw[f_];exact this
def iG(l:O UInt8):Nat:=l.foldl (λn c=>n*256+c.toNat) 0
theorem Je(l m:O UInt8):iG (l++m)=m.foldl (λn c=>n*256+c.toNat) (iG l):=by simp[iG,List.foldl_append]
theorem Ap(l:O UInt8)(c:UInt8):iG (l++ [c])=iG l*256+c.toNat:=by rw[Je];rfl
theorem oH:∀ (k:Nat) (l:O UInt8),l.length=k->iG l<256^k:=by
 intro k
 induction k with
 |zero=>intro l h;rw[mo.1 h];simp[iG]
 |succ k a=>
  intro l h;obtain⟨m,c,rfl⟩:∃m c,l=m++ [c]:=by
   rcases List.eq_nil_or_concat l with rfl|⟨m,c,b⟩
   .simp at h
   .exact⟨m,c,by rw[b,List.concat_eq_append]⟩
  rw[Ap,Nat.pow_succ];have:=a m (by simpa using h);have:=mv c;omega
theorem Jf{a:Nat}(c:a<2^64)(d:b<2^64):oa .u64 (a:Int) (b:Int)=((a|||b:Nat):Int):=by
 have e:BitVec.ofInt 64 (a:Int)=BitVec.ofNat 64 a:=by simp
 have f:BitVec.ofInt 64 (b:Int)=BitVec.ofNat 64 b:=by simp
 unfold oa;show IntKind.u64.wrap (((BitVec.ofInt 64 (a:Int)|||BitVec.ofInt 64 (b:Int)).toNat:Nat):Int)=_;rw[e,f,BitVec.toNat_or,BitVec.toNat_ofNat,BitVec.toNat_ofNat,kr c,kr d];have:a|||b<2^64:=Nat.or_lt_two_pow c d;have:a|||b<18446744073709551616:=this;rw[gF I I]
theorem Jg(n c:Nat)(hc:c<256):n*256|||c=n*256+c:=by
 have:=Nat.shiftLeft_add_eq_or_of_lt (i:=8) (b:=c) (by simpa using hc) n;rw[Nat.shiftLeft_eq]at this;exact this.symm
theorem kE(hs:Src 1 w s (aC l))(hc:s.len<=s.cap){a:Nat}(t:1<=k/\k<=8)(u:a+k<=l.length)(x:l.length<=1000000000000):
 aH aj 106 #[s,a,k] w (λv w'=>v=.tuple #[.int .u64 ((iG ((l.drop a).take k):Nat):Int),true]/\w=w'):=by
 refine okF (ae.kE s a k) ax.kE func106 ?_;(delta ae.kE ik ak bP aO cq ar;dsimp only);have y:s.len=l.length:=by have:=hs.len;rw[de]at this;omega
 refine Calls.mono (ae.Io s a k w (λv w'=>v=.tuple #[.slice (a7 s.a 1 a s.cap) k (s.cap-a),true]/\w=w') ?_) ?_
 .delta ae.l4 ak ar
  rw[bq (n:=(s.len:Int)-(a:Int)) I I,bq (n:=(a:Int)+(k:Int)) I I];refine⟨λh=>?_,λ_=>⟨⟨I,I⟩,⟨I,I⟩,?_,rfl⟩⟩
  .simp only[jE,b8]at h;omega
  .rw[show Int.toNat ((a:Int)+(k:Int))-Int.toNat (a:Int)=k from I];rfl
 rintro _ _ ⟨_,rfl,rfl,rfl⟩;refine⟨⟨a7 s.a 1 a s.cap,k,s.cap-a⟩,true,rfl,cc (λb w'=>b=false/\w=w') (λq f=>⟨λh=>by simp at h,λ_=>?_⟩) ?_⟩
 .refine Calls.mono (ae.Dy k w (λv w'=>v=true/\w=w') ⟨?_,rfl⟩) ?_
  .have h1:decide ((k:Int)>=1)=true:=dh I
   have h2:decide ((k:Int)<=8)=true:=dh I;rw[h1,h2];rfl
  .rintro _ _ ⟨_,rfl,rfl,rfl⟩
   exact⟨_,rfl,f _ _ ⟨rfl,rfl⟩⟩
 rintro _ _ ⟨rfl,rfl⟩;have c:=Src.sub hs hc (lo:=a) (hi:=a+k) I I;rw[show a+k-a=k from I]at c;have c:Src 1 w ⟨a7 s.a 1 a s.cap,k,s.cap-a⟩ (aC ((l.drop a).take k)):=by
  simpa[aC,m4,mu] using c
 obtain⟨m,e⟩:=U6 ((l.drop a).take k);have z:m.length=k:=by rw[e];simp;omega
 rw[←e]at c⊢;refine⟨λh=>by simp at h,λ_=>⟨λn i w'=>w=w'/\∃j:Nat,i=j/\j<=k/\n=((iG (m.take j):Nat):Int),λ_ i _=>((k:Int)-i).toNat,⟨rfl,0,rfl,cI _,rfl⟩,?_⟩⟩;rintro _ _ _ ⟨rfl,j,rfl,B,rfl⟩;refine⟨λaI=>?_,λd=>?_⟩
 .have aI:((j:Int)<(k:Int)):=b2 aI
  have aI:j<k:=I
  obtain⟨A,av,g,o⟩:=c.at (oG (l:=m) (i:=j) I);have h1:=oH j (m.take j) (by simp;omega);have h2:256^j<=256^7:=u3 I I;have h2:256^j<=72057594037927936:=h2;have p:(m[j]).toNat<256:=mv _;have r:((iG (m.take j):Nat):Int)*2^(min (Int.toNat 8) 64)=((iG (m.take j)*256:Nat):Int):=by
   show((iG (m.take j):Nat):Int)*256=_;omega
  refine⟨A,av,g,_,o,by decide,?_⟩;rw[r,gF (n:=((iG (m.take j)*256:Nat):Int)) I I,gF (n:=((m[j].toNat:Nat):Int)) I I,Jf (by show _<18446744073709551616;omega) (by show _<18446744073709551616;omega),Jg _ _ p,bq (n:=(j:Int)+1) I I];refine⟨⟨rfl,j+1,I,I,?_⟩,?_⟩
  .rw[take_succ m I,Ap]
  .show((k:Int)-((j:Int)+1)).toNat<((k:Int)-(j:Int)).toNat
   omega
 .have d:¬((j:Int)<(k:Int)):=cr d
  have d:j=k:=I
  subst d;exact⟨by rw[dO I],rfl⟩
theorem Aq(h:Src 1 w s (aC l))(g:l.length<=1000000):
 aH aj 46 #[s] w (λv w'=>∃b:ad,v=b/\aR 1 5 w' b (aC l)/\Ext w w'/\∀k,aD b k->w<=k):=by
 have i:s.len=l.length:=by have:=h.len;rw[de]at this;omega
 refine okF (ae.pJ s) ax.pJ func46 ?_;delta ae.pJ ak Y;refine⟨λc=>?_,λ_=>?_⟩
 .have c:s.a=none:=by simpa using c
  rw[h.nil c];exact⟨⟨none,0,0⟩,rfl,aR.none _ _ _,.refl _ _,λk d=>(fH k d).elim⟩
 .obtain⟨b,w',h1,h2,j,e,f,_⟩:=l6.clone (cB:=39) h (jd l) I
  exact aT ⟨b,w',h1,b,rfl,h2,e,f⟩
theorem DJ(c:UInt8)(b:aR 1 5 w s (aC l))(g:l.length<=1000000):
 ∃ (a:ad) (w':J),Sem.run aj (Builtin.append_ #[39,39] 39 #[s,.slice (some w) 1 1]) (w.alloc (.cells #[.int .u8 (c.toNat:Int)] 5))=.ok a w'/\
  aR 1 5 w' a (aC (l++ [c]))/\ag (aD s) w w'/\(∀k,aD a k->aD s k\/w<=k):=by
 have h:s.len=l.length:=by have:=b.1;rw[de]at this;omega
 obtain⟨a,w',h1,h2,i,d,e⟩:=l6.push (cB:=39) (w:=w) (s:=s) (xs:=[.int .u8 (c.toNat:Int)]) rfl b (λv f=>by rw[e8.1 f];trivial) I;exact⟨a,w',h1,by rw[nx];exact h2,d,e⟩
def bQ(n k:Nat):O UInt8:=(List.range k).map λj=>UInt8.ofNat (n/256^(k-1-j)%256)
theorem dI(n k:Nat):(bQ n k).length=k:=by simp[bQ]
theorem hA(hs:Src 1 w s (aC l))(C:l.length<=100000)(f:n<2^64)(D:1<=k/\k<=8):
 aH aj 115 #[s,.int .u64 n,k] w (λv w'=>∃a:ad,v=a/\aR 1 5 w' a (aC (l++bQ n k))/\Ext w w'/\∀q,aD a q->w<=q):=by
 have f:n<18446744073709551616:=f;refine okF (ae.hA s n k) ax.hA func115 ?_;delta ae.hA bH bP ak ar Y;refine(Aq hs I).use ?_;rintro _ w1 ⟨s1,rfl,g,m,o⟩;refine⟨s1,rfl,Calls.mono (ae.Dy k w1 (λv w'=>v=true/\w1=w') ⟨?_,rfl⟩) ?_⟩
 .have h1:decide ((k:Int)>=1)=true:=dh I
  have h2:decide ((k:Int)<=8)=true:=dh I;rw[h1,h2];rfl
 rintro _ _ ⟨_,rfl,rfl,rfl⟩;rw[bq (n:=(k:Int)-1) I I];refine⟨_,rfl,λh=>by simp at h,λ_=>⟨λt i w'=>∃j:Nat,i=(k:Int)-1-j/\j<=k/\Ext w w'/\(∀q,aD t q->w<=q)/\aR 1 5 w' t (aC (l++(bQ n k).take j)),λ_ i _=>(i+1).toNat,⟨0,I,I,m,o,by simpa using g⟩,?_⟩⟩;rintro t _ ai ⟨j,rfl,E,b,c,d⟩;refine⟨λaI=>?_,λe=>?_⟩
 .have aI:j<k:=U4 (b2 aI)
  rw[bq (n:=8*((k:Int)-1-j)) I I,bq (n:=(k:Int)-1-j-1) I I];have p:IntKind.wrap .u8 (Int.fdiv (n:Int) (2^(min (Int.toNat (8*((k:Int)-1-j))) 64)))=((((UInt8.ofNat (n/256^(k-1-j)%256)).toNat:Nat)):Int):=by
   rw[r0 (hG _ I),show min (Int.toNat (8*((k:Int)-1-j))) 64=8*(k-1-j) from I,Hz];have r:((2:Int)^(8*(k-1-j)))=((256^(k-1-j):Nat):Int):=by
    rw[Int.pow_mul];simp
   rw[r,Int.fdiv_eq_ediv_of_nonneg _ (Int.natCast_nonneg _)];generalize 256^(k-1-j)=z;rfl
  rw[p];obtain⟨u,x,h1,h2,y,A⟩:=DJ (UInt8.ofNat (n/256^(k-1-j)%256)) d (by simp[bQ];omega);refine⟨I,aT ⟨u,x,h1,⟨j+1,I,I,Ext.d_ b y c,λq B=>?_,?_⟩,?_⟩⟩
  .rcases A q B with h|h
   .exact c q h
   .exact eO b.size h
  .rw[take_succ _ (by rw[dI];exact aI),←cO]
   have:(bQ n k)[j]'(by rw[dI];exact aI)=UInt8.ofNat (n/256^(k-1-j)%256):=by simp[bQ]
   rw[this];exact h2
  .show((k:Int)-1-j-1+1).toNat<((k:Int)-1-j+1).toNat
   omega
 .have e:j=k:=U4 (cr e)
  subst e;rw[dO (by rw[dI];exact bk _)]at d;exact⟨t,rfl,d,b,c⟩
theorem DK{a:bc}(h:iF l=some a):a.ep=true:=by
 unfold iF at h;split at h
 .cases h;simp[l7,bc.ep,fx]
 .split at h
  .cases h;simp[bc.ep]
  .cases h
theorem pQ(a:bc)(n:Int)(w:J):aH aj 166 #[.agg a.c.toArray,.int .i64 n] w (λv w'=>v=.tuple #[.agg ((gA a n).getD br.zero).c.toArray,.bool (gA a n).isSome]/\Ext w w'):=by
 refine ae.Il _ n w _ ?_;delta ae.pQ z9 Y h4;refine a6 (vs:=a.c) rfl λw1 g b k=>a6 (vs:=br.zero.c) rfl λai h d l=>⟨a.c,(g.ext d).rd a.ba,(pV a n ai).use ?_⟩;rintro _ m ⟨rfl,e⟩;have f:=h.ext e;refine⟨_,_,rfl,f.ct (by simp[br.ba]) (br.plain _),by simp[br.ba],cP f (us:=((gA a n).getD br.zero).c) (by simp[br.ba]) rfl λo i j _=>?_⟩;exact⟨_,i.rd (br.ba _),rfl,Ext.cp (Ext.trans (Ext.trans b d) e) j b.size⟩
theorem bc.t_{cs:O aa}(h:jJ (.bool::l5 16) cs):∃a:bc,cs=a.c:=by
 obtain⟨_,us,rfl,⟨b,rfl⟩,h2⟩:=h;obtain⟨l,d,rfl⟩:=Dh h2;exact⟨⟨b,l,d⟩,rfl⟩
theorem br.t_{cs:O aa}(h:jJ ((.bool::l5 16)++ [.int .i64]) cs):∃p:br,cs=p.c/\ -9223372036854775808<=p.bits/\p.bits<=9223372036854775807:=by
 obtain⟨us,ts,rfl,h1,h2⟩:=zD h;obtain⟨a,rfl⟩:=bc.t_ h1;obtain⟨_,_,rfl,⟨n,rfl,b,d⟩,rfl⟩:=h2;exact⟨⟨a,n⟩,rfl,Hu b d⟩
theorem DL{a:bc}(h:iF l=some a):a.raw=l/\(a.eo=true↔l.length=16):=by
 unfold iF at h;split at h
 .rename_i b
  cases h;refine⟨?_,?_⟩
  .show(fx 12++l).drop 12=l
   exact sN (by simp[fx])
  .simp[l7,b]
 .split at h
  .rename_i c;cases h;exact⟨rfl,by simp[c]⟩
  .cases h
theorem DM(h:l.length=4\/l.length=16):∃a,iF l=some a:=by
 unfold iF;obtain h|h:=h
 .exact⟨_,dif_pos h⟩
 .rw[dif_neg I];exact⟨_,dif_pos h⟩
theorem xY(a:bc):a.raw.length=4\/a.raw.length=16:=by rw[a.j5];split<;>simp
theorem Ar{a:bc}{n:Int}{p:br}(h:gA a n=some p):p.bits=n/\p.addr.ep=true/\p.addr.raw=gn n.toNat a.raw/\p.addr.raw.length=a.raw.length:=by
 unfold gA at h;split at h
 .rename_i hc
  have e:(gn n.toNat a.raw).length=4\/(gn n.toNat a.raw).length=16:=by rw[p_];exact xY a
  obtain⟨b,c⟩:=DM e;rw[c]at h
  cases h;have d:=DL c;exact⟨rfl,DK c,d.1,by show b.raw.length=_;rw[d.1,p_]⟩
 .cases h
theorem rC(hs:Src 1 w s (aC l)):aH aj 107 #[s] w (λv w'=>v=.tuple #[.agg ((iF l).getD bc.zero).c.toArray,.bool (iF l).isSome]/\Ext w w'):=by
 refine okF (ae.rC s) ax.rC func107 ?_;delta ae.rC z4 h4 Y;refine a6 (vs:=bc.zero.c) rfl λw1 e a h=>(pR (hs.ext a)).use ?_;rintro _ ai ⟨rfl,b⟩;have d:=e.ext b;refine⟨_,_,rfl,d.ct (by simp[bc.ba]) (bc.plain _),by simp[bc.ba],cP d (us:=((iF l).getD bc.zero).c) (by simp[bc.ba]) rfl λi f g _=>?_⟩;exact⟨_,f.rd (bc.ba _),rfl,Ext.cp (Ext.trans a b) g (bk _)⟩
end Go.Proofs.YtcmgnhkpfllinaaGreat
namespace Go.Proofs.YtcmgnhkpfllinaaGreat
abbrev Key:=O UInt8
abbrev aP:=Key×Key
def ey:Key->Key->Int
 | [],[]=>0
 | [],_::_=> -1
 |_::_,[]=>1
 |a::x,b::y=>if a.toNat<b.toNat then -1 else if b.toNat<a.toNat then 1 else ey x y
theorem Jh{a b:UInt8}(h1:¬a.toNat<b.toNat)(h2:¬b.toNat<a.toNat):a=b:=qK.1 I
theorem As:∀a:Key,ey a a=0
 | []=>rfl
 |a::x=>by simp[ey,As x]
theorem Au:∀ {a b:Key},ey a b=0->a=b
 | [],[],_=>rfl
 | [],_::_,h=>by simp[ey]at h
 |_::_,[],h=>by simp[ey]at h
 |a::x,b::y,h=>by
  unfold ey at h
  split at h
  .cases h
  .rename_i h1
   split at h
   .cases h
   .rename_i h2
    rw[Jh h1 h2,Au h]
theorem Ji{a b:Key}:ey a b=0↔a=b:=⟨Au,λh=>h▸As _⟩
theorem DN:∀a b:Key,ey a b= -1\/ey a b=0\/ey a b=1
 | [],[]=>.inr (.inl rfl)
 | [],_::_=>.inl rfl
 |_::_,[]=>.inr (.inr rfl)
 |a::x,b::y=>by
  unfold ey
  split
  .exact .inl rfl
  .split
   .exact .inr (.inr rfl)
   .exact DN x y
theorem DO:∀a b:Key,ey b a=-ey a b
 | [],[]=>rfl
 | [],_::_=>rfl
 |_::_,[]=>rfl
 |a::x,b::y=>by
  unfold ey
  by_cases h1:a.toNat<b.toNat
  .have h2:¬b.toNat<a.toNat:=I
   simp[h1,h2]
  .by_cases h2:b.toNat<a.toNat
   .simp[h1,h2]
   .simp only[h1,h2,if_false]
    exact DO x y
theorem DP:∀ {a b c:Key},ey a b<0->ey b c<0->ey a c<0
 | [],[],_,h,_=>by simp[ey]at h
 | [],_::_,[],_,h=>by simp[ey]at h
 | [],_::_,_::_,_,_=>by simp[ey]
 |_::_,[],_,h,_=>by simp[ey]at h
 |_::_,_::_,[],_,h=>by simp[ey]at h
 |a::x,b::y,c::z,h1,h2=>by
  unfold ey at h1 h2⊢
  by_cases a1:a.toNat<b.toNat
  .by_cases a2:b.toNat<c.toNat
   .rw[if_pos I];decide
   .rw[if_neg a2]at h2
    by_cases a3:c.toNat<b.toNat
    .rw[if_pos a3]at h2;omega
    .rw[if_pos I];decide
  .rw[if_neg a1]at h1
   by_cases a2:b.toNat<a.toNat
   .rw[if_pos a2]at h1;omega
   .rw[if_neg a2]at h1
    by_cases a3:b.toNat<c.toNat
    .rw[if_pos I];decide
    .rw[if_neg a3]at h2
     by_cases a4:c.toNat<b.toNat
     .rw[if_pos a4]at h2;omega
     .rw[if_neg a4]at h2
      rw[if_neg I,if_neg I]
      exact DP h1 h2
def bF(a b:Key):Prop:=ey a b<0
def dL(a b:Key):Prop:=¬ey b a<0
instance (a b:Key):Decidable (bF a b):=by unfold bF;infer_instance
instance (a b:Key):Decidable (dL a b):=by unfold dL;infer_instance
theorem mK{a b c:Key}(h1:bF a b)(h2:bF b c):bF a c:=DP h1 h2
theorem k1(a:Key):¬bF a a:=by unfold bF;rw[As];decide
theorem kG{a b:Key}(h:bF a b):¬bF b a:=λh2=>k1 a (mK h h2)
theorem xZ(a b:Key):bF a b\/a=b\/bF b a:=by
 unfold bF;have h:=DO a b;rcases DN a b with h1|h1|h1
 .exact .inl I
 .exact .inr (.inl (Au h1))
 .exact .inr (.inr I)
theorem qa{a b:Key}:dL a b↔bF a b\/a=b:=by
 constructor
 .intro h
  rcases xZ a b with h1|h1|h1
  .exact .inl h1
  .exact .inr h1
  .exact absurd h1 h
 .rintro(h|rfl)
  .exact kG h
  .exact k1 _
theorem DQ(a:Key):dL a a:=k1 a
theorem je{a b:Key}(h:bF a b):dL a b:=qa.2 (.inl h)
theorem DR{a b:Key}:¬bF a b↔dL b a:=Iff.rfl
theorem oI{a b c:Key}(h1:bF a b)(h2:dL b c):bF a c:=by
 rcases qa.1 h2 with h|rfl
 .exact mK h1 h
 .exact h1
theorem k2{a b c:Key}(h1:dL a b)(h2:bF b c):bF a c:=by
 rcases qa.1 h1 with h|rfl
 .exact mK h h2
 .exact h2
theorem Av{a b c:Key}(h1:dL a b)(h2:dL b c):dL a c:=by
 rcases qa.1 h1 with h|rfl
 .exact je (oI h h2)
 .exact h2
def il(l:O aP):Prop:=l.Pairwise λa b=>bF a.1 b.1
def gX(l:O aP)(k v:Key):O aP:=(l.filter λp=>decide (bF p.1 k))++(k,v)::l.filter λp=>decide (bF k p.1)
def e4(l:O aP)(k:Key):O aP:=l.filter λp=>decide (p.1≠k)
def fl(l:O aP)(k:Key):au Key:=(l.find? λp=>decide (p.1=k)).map (·.2)
def hC(l:O aP)(fr to:Key):O aP:=l.filter λp=>decide (dL fr p.1)&&(to.isEmpty||decide (bF p.1 to))
def fy(lo hi:au Key)(k:Key):Prop:=(∀a,lo=some a->dL a k)/\(∀b,hi=some b->bF k b)
theorem Jj{a b:O aP}{k v:Key}(h:∀p∈b,bF k p.1):gX (a++b) k v=gX a k v++b:=by
 have d:b.filter (λp=>decide (bF p.1 k))=[]:=m6.2 λp c=>by simpa using kG (h p c)
 have e:b.filter (λp=>decide (bF k p.1))=b:=jU.2 λp c=>dh (h p c);unfold gX;rw[gE,gE,d,e,fp,cO,m0]
theorem Jk{a b:O aP}{k v:Key}(h:∀p∈a,bF p.1 k):gX (a++b) k v=a++gX b k v:=by
 have d:a.filter (λp=>decide (bF p.1 k))=a:=jU.2 λp c=>dh (h p c);have e:a.filter (λp=>decide (bF k p.1))=[]:=m6.2 λp c=>by simpa using kG (h p c)
 unfold gX;rw[gE,gE,d,e,hK,cO]
theorem ua(a b:O aP)(k:Key):e4 (a++b) k=e4 a k++e4 b k:=gE ..
theorem uc{a:O aP}{k:Key}(h:∀p∈a,p.1≠k):e4 a k=a:=jU.2 λp b=>dh (h p b)
theorem oJ{a b:Key}(h:bF a b):a≠b:=λe=>k1 b (e▸h)
theorem ud{a b:O aP}:il (a++b)↔il a/\il b/\∀p∈a,∀q∈b,bF p.1 q.1:=mx
theorem Jl{l:O aP}{k v:Key}{p:aP}:p∈gX l k v↔p=(k,v)\/(p∈l/\p.1≠k):=by
 unfold gX;rw[cR,cZ,gw,gw,b8,b8];constructor
 .rintro(⟨h,h2⟩|rfl|⟨h,h2⟩)
  .exact .inr ⟨h,oJ h2⟩
  .exact .inl rfl
  .exact .inr ⟨h,(oJ h2).symm⟩
 .rintro(rfl|⟨h,h2⟩)
  .exact .inr (.inl rfl)
  .rcases xZ p.1 k with a|a|a
   .exact .inl ⟨h,a⟩
   .exact absurd a h2
   .exact .inr (.inr ⟨h,a⟩)
end Go.Proofs.YtcmgnhkpfllinaaGreat
namespace Go.Proofs.YtcmgnhkpfllinaaGreat
variable{ks:O Key}{kids p:O Nat}{L:O aP}
structure aG where
 leaf:ao
 keys:O Key
 vals:O Key
 kids:O Nat
 deriving DecidableEq
abbrev Below:=au Key->au Key->Nat->O Nat->O aP->Prop
inductive dP (W:Below):au Key->au Key->O Key->O Nat->O Nat->O aP->Prop
 |one {lo hi:au Key}{k:Nat}{p:O Nat}{L:O aP} (h:W lo hi k p L):dP W lo hi [] [k] p L
 |cons {lo hi:au Key}{s:Key}{k:Nat}{bh bj:O Nat}{bn bK:O aP}{ks:O Key}{kids:O Nat} (h:W lo (some s) k bh bn) (t:dP W (some s) hi ks kids bj bK):
  dP W lo hi (s::ks) (k::kids) (bh++bj) (bn++bK)
variable {W:Below}{lo hi:au Key}
theorem dP.len(h:dP W lo hi ks kids p L):kids.length=ks.length+1:=by
 induction h with
 |one _=>rfl
 |cons _ _ a=>simp[a]
theorem dP.app{s:Key}{jt lI:O Key}{jK mL bh bj:O Nat}{bn bK:O aP}(h1:dP W lo (some s) jt jK bh bn)(h2:dP W (some s) hi lI mL bj bK):
 dP W lo hi (jt++s::lI) (jK++mL) (bh++bj) (bn++bK):=by
 generalize a:some s=m at h1
 induction h1 with
 |one h=>subst a;exact .cons h h2
 |cons h t b=>
  rw[cO,cO];exact .cons h (b a)
theorem dP.cut:∀ {jt:O Key}{s:Key}{lI:O Key}{lo:au Key}{kids p:O Nat}{L:O aP},dP W lo hi (jt++s::lI) kids p L->
 ∃ (jK mL bh bj:O Nat) (bn bK:O aP),kids=jK++mL/\p=bh++bj/\L=bn++bK/\dP W lo (some s) jt jK bh bn/\dP W (some s) hi lI mL bj bK
 | [],s,lI,lo,kids,p,L,h=>by
  cases h with
  |cons h t=>exact⟨_,_,_,_,_,_,rfl,rfl,rfl,.one h,t⟩
 |a::jt,s,lI,lo,kids,p,L,h=>by
  cases h with
  |cons h t=>
   obtain⟨b1,cf,bh,bj,bn,bK,rfl,rfl,rfl,h1,h2⟩:=dP.cut t
   exact⟨_::b1,cf,_++bh,bj,_++bn,bK,rfl,by rw[cO],by rw[cO],.cons h h1,h2⟩
theorem dP.mono{V:Below}(h:dP W lo hi ks kids p L)(a:∀lo hi k p L,(∀x∈p,x∈p)->W lo hi k p L->V lo hi k p L):dP V lo hi ks kids p L:=by
 induction h with
 |one h=>exact .one (a _ _ _ _ _ (λ_ h=>h) h)
 |cons h _ b=>exact .cons (a _ _ _ _ _ (λ_ h=>h) h) b
theorem dP.mM{V:Below}(h:dP W lo hi ks kids p L)(b:∀lo hi k a L,(∀x∈a,x∈p)->W lo hi k a L->V lo hi k a L):dP V lo hi ks kids p L:=by
 induction h with
 |one h=>exact .one (b _ _ _ _ _ (λ_ h=>h) h)
 |cons h _ c=>
  exact .cons (b _ _ _ _ _ (λx hx=>kt _ hx) h) (c λlo hi k a L hs=>b lo hi k a L λx hx=>iy _ (hs x hx))
def cK(k:Key):Prop:=1<=k.length/\k.length<=24
structure x0(n:aG):Prop where
 ok:∀k∈n.keys,cK k
 fg:n.keys.Pairwise bF
structure hT(n:aG):Prop extends x0 n where
 leaf:n.leaf=true
 len:n.vals.length=n.keys.length
 kids:n.kids=[]
 vals:∀v∈n.vals,v.length<=24
structure x1(n:aG):Prop extends x0 n where
 inner:n.leaf=false
 some:n.keys≠ []
 len:n.kids.length=n.keys.length+1
 vals:n.vals=[]
 kids:∀k∈n.kids,k<1600
def aG.dT(n:aG):O aP:=n.keys.zip n.vals
def aG.within(n:aG)(lo hi:au Key):Prop:=∀k∈n.keys,fy lo hi k
def er(P:Nat->au aG):Nat->Below
 |0=> λ_ _ _ _ _=>False
 |1=> λlo hi no p L=>∃n,P no=some n/\hT n/\n.within lo hi/\n.keys≠ []/\p=[no]/\L=n.dT
 |h+2=> λlo hi no p L=>∃n a,P no=some n/\x1 n/\n.within lo hi/\p=no::a/\
  dP (λlo hi k p L=>er P (h+1) lo hi k p L/\∃m,P k=some m/\2<=m.keys.length) lo hi n.keys n.kids a L
theorem er.agree{P Q:Nat->au aG}:∀ {h:Nat}{lo hi:au Key}{no:Nat}{p:O Nat}{L:O aP},er P h lo hi no p L->(∀x∈p,P x=Q x)->er Q h lo hi no p L/\no∈p
 |0,_,_,_,_,_,d,_=>d.elim
 |1,_,_,no,_,_,⟨n,h1,h2,e,f,b,g⟩,a=>by
  have c:no∈ [no]:=by simp
  rw[b]
  exact⟨⟨n,by rw[←a no (b▸c)];exact h1,h2,e,f,rfl,g⟩,c⟩
 |h+2,_,_,no,_,_,⟨n,i,h1,h2,e,f,b⟩,a=>by
  subst f
  refine⟨⟨n,i,by rw[←a no U9];exact h1,h2,e,rfl,b.mM λlo hi k q L hs ⟨d,m,c,h2⟩=>?_⟩,by simp⟩
  have:=er.agree d λx hx=>a x (jQ _ (hs x hx))
  exact⟨this.1,m,by rw[←a k (jQ _ (hs k this.2))];exact c,h2⟩
end Go.Proofs.YtcmgnhkpfllinaaGreat
namespace Go.Proofs.YtcmgnhkpfllinaaGreat
variable{lo hi:au Key}{p:O Nat}{L:O aP}
variable {W:Below}{lo hi:au Key}{P:Nat->au aG}
theorem Jm{s k:Key}(h1:fy lo (some s) k)(h2:fy lo hi s):fy lo hi k:=
 ⟨h1.1,λb a=>mK (h1.2 s rfl) (h2.2 b a)⟩
theorem Jn{s k:Key}(h1:fy (some s) hi k)(h2:fy lo hi s):fy lo hi k:=
 ⟨λa b=>Av (h2.1 a b) (h1.1 s rfl),h1.2⟩
theorem dP.fg{ks:O Key}{kids:O Nat}(h:dP W lo hi ks kids p L)(cv:∀lo hi k p L,W lo hi k p L->il L/\∀q∈L,fy lo hi q.1)(e:ks.Pairwise bF)(c:∀s∈ks,fy lo hi s):
 il L/\∀q∈L,fy lo hi q.1:=by
 induction h with
 |one h=>exact cv _ _ _ _ _ h
 | @cons lo hi s k bh bj bn bK ks kids h t f=>
  obtain⟨r1,cH⟩:=cv _ _ _ _ _ h;have d:=jV.1 e;obtain⟨cq,ck⟩:=f d.2 λx hx=>⟨λa g=>by cases g;exact je (d.1 x hx),(c x (jQ _ hx)).2⟩;have hs:=c s o9;refine⟨ud.2 ⟨r1,cq,λx hx y i=>oI ((cH x hx).2 s rfl) ((ck y i).1 s rfl)⟩,λq b=>?_⟩;rcases cR.1 b with b|b
  .exact Jm (cH q b) hs
  .exact Jn (ck q b) hs
theorem DS:∀ {ks vs:O Key},ks.Pairwise bF->il (ks.zip vs)
 | [],vs,_=>by rw[List.zip_nil_left];exact List.Pairwise.nil
 |k::ks,[],_=>by rw[List.zip_nil_right];exact List.Pairwise.nil
 |k::ks,v::vs,h=>by
  rw[List.zip_cons_cons]
  have:=jV.1 h
  exact jV.2 ⟨λq a=>this.1 _ (sO a).1,DS this.2⟩
theorem hT.dT{n:aG}(h:hT n):il n.dT/\n.dT.length=n.keys.length:=⟨DS h.fg,by unfold aG.dT;rw[n2,h.len,Nat.min_self]⟩
theorem er.fg:∀ {h:Nat}{lo hi:au Key}{no:Nat}{p:O Nat}{L:O aP},er P h lo hi no p L->il L/\∀q∈L,fy lo hi q.1
 |0,_,_,_,_,_,a=>a.elim
 |1,_,_,_,_,_,⟨n,_,h2,b,_,_,c⟩=>by
  subst c
  exact⟨h2.dT.1,λq d=>b _ (sO d).1⟩
 |h+2,_,_,_,_,_,⟨n,_,_,h2,b,_,e⟩=>e.fg (λ_ _ _ _ _ a=>er.fg a.1) h2.fg b
theorem dP.count{ks:O Key}{kids:O Nat}(h:dP W lo hi ks kids p L){c:Nat}(cv:∀lo hi k p L,W lo hi k p L->p.length+1<=L.length/\c<=L.length):
 p.length+kids.length<=L.length/\c*kids.length<=L.length:=by
 induction h with
 |one h=>have:=cv _ _ _ _ _ h;simp;omega
 |cons h _ a=>
  have:=cv _ _ _ _ _ h;simp only[cz,fi,Nat.mul_add,f_];omega
theorem er.count:∀ {h:Nat}{lo hi:au Key}{no:Nat}{p:O Nat}{L:O aP},er P h lo hi no p L->((∃m,P no=some m/\2<=m.keys.length)\/2<=h)->p.length+1<=L.length/\2^h<=L.length
 |0,_,_,_,_,_,b,_=>b.elim
 |1,_,_,_,_,_,⟨n,h1,h2,_,_,d,f⟩,a=>by
  obtain⟨m,e,a⟩|a:=a
  .rw[h1]at e
   cases e
   subst d f
   have:=h2.dT.2
   simp only[jW];omega
  .omega
 |h+2,_,_,_,_,_,⟨n,i,_,h2,_,g,d⟩,_=>by
  have hc:=d.count (c:=2^(h+1)) λlo hi k p L ⟨b,a⟩=>er.count b (.inl a)
  have j:=h2.len
  have hs:1<=n.keys.length:=u4.2 h2.some
  subst g
  have:2^(h+1)*2<=2^(h+1)*n.kids.length:=Nat.mul_le_mul_left _ I
  rw[Nat.pow_succ 2 (h+1)]
  simp only[fi]
  omega
theorem er.pages{h:Nat}{no:Nat}(a:er P h lo hi no p L):p.length<=L.length/\1<=L.length/\(2<=h->2^h<=L.length):=by
 match h with
 |0=>exact a.elim
 |1=>
  obtain⟨n,h1,h2,_,b,c,d⟩:=a;subst c d;have:=h2.dT.2;have e:=u4.2 b;simp only[jW];exact⟨I,I,I⟩
 |h+2=>
  have:=er.count a (.inr I);exact⟨I,I,λ_=>this.2⟩
end Go.Proofs.YtcmgnhkpfllinaaGreat
namespace Go.Proofs.YtcmgnhkpfllinaaGreat
variable{p kids:O Nat}{L:O aP}
variable {W V:Below}{lo hi:au Key}
inductive fK (W:Below) (lo:au Key):au Key->O Key->O Nat->O Nat->O aP->Prop
 |nil:fK W lo lo [] [] [] []
 |more {s:Key}{ks:O Key}{kids p:O Nat}{L:O aP} (h:dP W lo (some s) ks kids p L):fK W lo (some s) (ks++ [s]) kids p L
inductive gY (W:Below) (hi:au Key):au Key->O Key->O Nat->O Nat->O aP->Prop
 |nil:gY W hi hi [] [] [] []
 |more {s:Key}{ks:O Key}{kids p:O Nat}{L:O aP} (h:dP W (some s) hi ks kids p L):gY W hi (some s) (s::ks) kids p L
variable {m:au Key}{jt lI:O Key}{jK mL bh bj:O Nat}{bn bK:O aP}
theorem fK.Jo(h1:fK W lo m jt jK bh bn)(h2:dP W m hi lI mL bj bK):dP W lo hi (jt++lI) (jK++mL) (bh++bj) (bn++bK):=by
 cases h1 with
 |nil=>exact h2
 |more h=>rw[cO];exact h.app h2
theorem dP.post(h1:dP W lo m jt jK bh bn)(h2:gY W hi m lI mL bj bK):dP W lo hi (jt++lI) (jK++mL) (bh++bj) (bn++bK):=by
 cases h2 with
 |nil=>simpa using h1
 |more h=>exact h1.app h
theorem fK.cons{s:Key}{k:Nat}(h:W lo (some s) k p L)(t:fK W (some s) m jt jK bh bn):fK W lo m (s::jt) (k::jK) (p++bh) (L++bn):=by
 cases t with
 |nil=>rw[fp,fp];exact fK.more (ks:=[]) (.one h)
 |more t=>exact fK.more (ks:=s::_) (.cons h t)
theorem fK.mM(h:fK W lo m jt jK bh bn)(b:∀lo hi k a L,(∀x∈a,x∈bh)->W lo hi k a L->V lo hi k a L):fK V lo m jt jK bh bn:=by
 cases h with
 |nil=>exact .nil
 |more h=>exact .more (h.mM b)
theorem gY.mM(h:gY W hi m jt jK bh bn)(b:∀lo hi k a L,(∀x∈a,x∈bh)->W lo hi k a L->V lo hi k a L):gY V hi m jt jK bh bn:=by
 cases h with
 |nil=>exact .nil
 |more h=>exact .more (h.mM b)
theorem dP.at{ks:O Key}(h:dP W lo hi ks kids p L):∀ (i:Nat) (c:i<kids.length),∃ (d e:au Key) (bh q bj:O Nat) (bn M bK:O aP),
 p=bh++(q++bj)/\L=bn++(M++bK)/\W d e kids[i] q M/\fK W lo d (ks.take i) (kids.take i) bh bn/\gY W hi e (ks.drop i) (kids.drop (i+1)) bj bK:=by
 induction h with
 | @one lo hi k p L h=>
  intro i c;have:i=0:=by simp at c;omega
  subst this;exact⟨lo,hi,[],p,[],[],L,[],by simp,by simp,h,.nil,.nil⟩
 | @cons lo hi s k bh bj bn bK ks kids h t f=>
  intro i c
  cases i with
  |zero=>exact⟨lo,some s,[],bh,bj,[],bn,bK,rfl,rfl,h,.nil,.more t⟩
  |succ i=>
   obtain⟨d,e,a,q,b,A,M,B,rfl,rfl,h1,h2,g⟩:=f i (by simpa using c);exact⟨d,e,bh++a,q,b,bn++A,M,B,by rw[cO],by rw[cO],h1,fK.cons h h2,g⟩
theorem fK.inv(h:fK W lo m [] kids p L):m=lo/\kids=[]/\p=[]/\L=[]:=by
 generalize e:([]:O Key)=K at h
 cases h with
 |nil=>exact⟨rfl,rfl,rfl,rfl⟩
 |more h=>simp at e
theorem gY.head{ks:O Key}(h:gY W hi m ks kids p L)(b:0<kids.length):∃ (s:Key) (a:au Key) (q bj:O Nat) (M bK:O aP) (hs:0<ks.length),
 m=some s/\s=ks[0]/\p=q++bj/\L=M++bK/\W (some s) a (kids[0]) q M/\gY W hi a (ks.drop 1) (kids.drop 1) bj bK:=by
 cases h with
 |nil=>simp at b
 | @more s ks kids p L h=>
  obtain⟨d,a,bh,q,bj,bn,M,bK,rfl,rfl,h1,h2,c⟩:=h.at 0 b;rw[List.take_zero]at h2;obtain⟨rfl,_,rfl,rfl⟩:=h2.inv;exact⟨s,a,q,bj,M,bK,by simp,rfl,rfl,rfl,rfl,h1,by simpa using c⟩
end Go.Proofs.YtcmgnhkpfllinaaGreat
namespace Go.Proofs.YtcmgnhkpfllinaaGreat
variable{ks:O Key}{k:Key}{i:Nat}{kids p:O Nat}{L:O aP}
variable {W V:Below}{lo hi m:au Key}
def dD(ks:O Key)(k:Key):Nat:=ks.findIdx λs=>decide (bF k s)
theorem x2(ks:O Key)(k:Key):dD ks k<=ks.length:=List.findIdx_le_length
theorem Jp(h:i<dD ks k)(hi:i<ks.length):dL ks[i] k:=by
 have:=List.not_of_lt_findIdx h;exact DR.1 (by simpa using this)
theorem Jq(h:dD ks k<ks.length):bF k ks[dD ks k]:=by
 have:=List.findIdx_getElem (p:=λs=>decide (bF k s)) (xs:=ks) (w:=h);exact b2 this
theorem fK.Jr(h:fK W lo m (ks.take i) kids p L)(b:∀ (j:Nat) (c:j<ks.length),j<i->dL ks[j] k)(d:∀a,lo=some a->dL a k):∀a,m=some a->dL a k:=by
 generalize e:ks.take i=K at h
 cases h with
 |nil=>exact d
 | @more s l kids p L h=>
  intro a f
  cases f;have g:s∈ks.take i:=by rw[e];simp
  obtain⟨j,c,rfl⟩:=List.mem_take_iff_getElem.1 g;exact b j I I
theorem gY.Js(h:gY W hi m (ks.drop i) kids p L)(b:∀ (h:i<ks.length),bF k ks[i])(c:∀a,hi=some a->bF k a):∀a,m=some a->bF k a:=by
 generalize e:ks.drop i=K at h
 cases h with
 |nil=>exact c
 | @more s f kids p L h=>
  intro a d
  cases d;have aI:i<ks.length:=by
   have:=congrArg List.length e;simp at this;omega
  have:ks[i]=s:=by
   have:=kp aI;rw[e]at this;exact(List.cons.inj this).1.symm
  rw[←this];exact b aI
theorem fK.below(h:fK W lo m ks kids p L)(cv:∀lo hi k p L,W lo hi k p L->il L/\∀q∈L,fy lo hi q.1)(f:ks.Pairwise bF)(c:∀s∈ks,fy lo hi s)
  (g:∀a,m=some a->dL a k):∀q∈L,bF q.1 k:=by
 cases h with
 |nil=>intro q d;cases d
 | @more s i kids p L h=>
  have e:=mx.1 f;have:=h.fg cv e.1 λx hx=>⟨(c x (by simp[hx])).1,λb c=>by cases c;exact e.2.2 x hx s U9⟩;exact λq d=>oI ((this.2 q d).2 s rfl) (g s rfl)
theorem gY.Jt(h:gY W hi m ks kids p L)(cv:∀lo hi k p L,W lo hi k p L->il L/\∀q∈L,fy lo hi q.1)(d:ks.Pairwise bF)(e:∀s∈ks,fy lo hi s)
  (f:∀a,m=some a->bF k a):∀q∈L,bF k q.1:=by
 cases h with
 |nil=>intro q b;cases b
 | @more s i kids p L h=>
  have c:=jV.1 d;have:=h.fg cv c.2 λx hx=>⟨λa g=>by cases g;exact je (c.1 x hx),(e x (by simp[hx])).2⟩;exact λq b=>oI (f s rfl) ((this.2 q b).1 s rfl)
def Loc(k:Key)(u:O aP->O aP):Prop:=∀bn M bK:O aP,(∀p∈bn,bF p.1 k)->(∀p∈bK,bF k p.1)->u (bn++(M++bK))=bn++(u M++bK)
theorem Ju(k v:Key):Loc k λL=>gX L k v:=λbn M bK h1 h2=>by
 show gX _ _ _=_
 rw[Jk h1,Jj h2]
theorem Aw(k:Key):Loc k λL=>e4 L k:=λbn M bK h1 h2=>by
 show e4 _ _=_
 rw[ua,ua,uc λp a=>oJ (h1 p a),uc λp a=>(oJ (h2 p a)).symm]
end Go.Proofs.YtcmgnhkpfllinaaGreat
namespace Go.Proofs.YtcmgnhkpfllinaaGreat
variable{h:Nat}{p:O Nat}{L:O aP}
variable {W V:Below}{lo hi m:au Key}{P Q:Nat->au aG}
def fz(P:Nat->au aG)(h:Nat):Below:=λlo hi k p L=>er P h lo hi k p L/\∃m,P k=some m/\2<=m.keys.length
theorem fz.agree{no:Nat}(b:fz P h lo hi no p L)(a:∀x∈p,P x=Q x):fz Q h lo hi no p L:=by
 obtain⟨h1,m,h2,c⟩:=b;have:=h1.agree a;exact⟨this.1,m,by rw[←a no this.2];exact h2,c⟩
theorem Jv{α:Type}{l:O α}(h:1<=l.length):l≠ []:=λe=>by subst e;simp at h
theorem fz.in{no:Nat}(a:fz P h lo hi no p L):L≠ []/\il L/\∀q∈L,fy lo hi q.1:=⟨Jv a.1.pages.2.1,a.1.fg⟩
theorem dP.sorted{ks:O Key}{kids:O Nat}(h:dP W lo hi ks kids p L)(cv:∀lo hi k p L,W lo hi k p L->L≠ []/\il L/\∀q∈L,fy lo hi q.1):
 L≠ []/\(∀q∈L,fy lo hi q.1)/\ks.Pairwise bF/\∀s∈ks,(∀a,lo=some a->bF a s)/\∀b,hi=some b->bF s b:=by
 induction h with
 |one h=>exact⟨(cv _ _ _ _ _ h).1,(cv _ _ _ _ _ h).2.2,.nil,by simp⟩
 | @cons lo hi s k bh bj bn bK ks kids h t l=>
  obtain⟨b6,_,cH⟩:=cv _ _ _ _ _ h;obtain⟨bx,ck,cq,ai⟩:=l;obtain⟨x,hx⟩:=qM _ b6;obtain⟨y,i⟩:=qM _ bx;have f:∀a,lo=some a->bF a s:=λa e=>k2 ((cH x hx).1 a e) ((cH x hx).2 s rfl);have j:∀b,hi=some b->bF s b:=λb g=>k2 ((ck y i).1 s rfl) ((ck y i).2 b g);refine⟨by simp[b6],λq c=>?_,jV.2 ⟨λz d=>(ai z d).1 s rfl,cq⟩,λz d=>?_⟩
  .rcases cR.1 c with c|c
   .exact⟨(cH q c).1,λb g=>mK ((cH q c).2 s rfl) (j b g)⟩
   .exact⟨λa e=>je (oI (f a e) ((ck q c).1 s rfl)),(ck q c).2⟩
  .rcases cZ.1 d with rfl|d
   .exact⟨f,j⟩
   .exact⟨λa e=>mK (f a e) ((ai z d).1 s rfl),(ai z d).2⟩
def dy(P:Nat->au aG):Nat->aG->au Key->au Key->O Nat->O aP->Prop
 |0,_,_,_,_,_=>False
 |1,n,lo,hi,p,L=>hT n/\n.within lo hi/\p=[]/\L=n.dT
 |h+2,n,lo,hi,p,L=>n.leaf=false/\n.vals=[]/\(∀k∈n.keys,cK k)/\(∀k∈n.kids,k<1600)/\dP (fz P (h+1)) lo hi n.keys n.kids p L
theorem dy.agree:∀ {h:Nat}{n:aG}{p:O Nat}{L:O aP},dy P h n lo hi p L->(∀x∈p,P x=Q x)->dy Q h n lo hi p L
 |0,_,_,_,h,_=>h.elim
 |1,_,_,_,h,_=>h
 |_+2,_,_,_,⟨h1,h2,a,b,c⟩,d=>⟨h1,h2,a,b,c.mM λ_ _ _ _ _ hs e=>e.agree λx hx=>d x (hs x hx)⟩
theorem dy.lay:∀ {h:Nat}{n:aG}{x:Nat}{p:O Nat}{L:O aP},dy P h n lo hi p L->n.keys≠ []->Q x=some n->(∀y∈p,P y=Q y)->er Q h lo hi x (x::p) L
 |0,_,_,_,_,h,_,_,_=>h.elim
 |1,n,x,p,L,⟨h1,h2,b,c⟩,d,hx,_=>by
  subst b
  exact⟨n,hx,h1,h2,d,rfl,c⟩
 |h+2,n,x,p,L,g,d,hx,i=>by
  obtain⟨h1,h2,b,c,e⟩:=g.agree i
  have hs:=e.sorted λ_ _ _ _ _ j=>j.in
  exact⟨n,p,hx,⟨⟨b,hs.2.2.1⟩,h1,d,e.len,h2,c⟩,λs f=>⟨λa k=>je ((hs.2.2.2 s f).1 a k),(hs.2.2.2 s f).2⟩,rfl,e⟩
def aG.left(n:aG)(i:Nat):aG:=if n.leaf then ⟨true,n.keys.take i,n.vals.take i,[]⟩ else ⟨false,n.keys.take i,[],n.kids.take (i+1)⟩
def aG.right(n:aG)(i:Nat):aG:=if n.leaf then ⟨true,n.keys.drop i,n.vals.drop i,[]⟩ else ⟨false,n.keys.drop (i+1),[],n.kids.drop (i+1)⟩
theorem dy.leaf{n:aG}(a:dy P h n lo hi p L):n.leaf=decide (h=1):=by
 match h,a with
 |0,a=>exact a.elim
 |1,a=>rw[a.1.leaf];rfl
 |h+2,a=>rw[a.1];simp
theorem dy.Ax{n:aG}(g:dy P h n lo hi p L){i:Nat}(h1:1<=i)(m:i<n.keys.length):
 ∃ (bh bj:O Nat) (bn bK:O aP),p=bh++bj/\L=bn++bK/\dy P h (n.left i) lo (some n.keys[i]) bh bn/\dy P h (n.right i) (some n.keys[i]) hi bj bK:=by
 match h,g with
 |0,g=>exact g.elim
 |1,⟨a,b,c,d⟩=>
  subst c d;have q:=a.fg;have gx:n.keys=n.keys.take i++n.keys.drop i:=(ga _ _).symm;have o:=q;rw[gx]at o;obtain⟨r1,cq,al⟩:=mx.1 o;have hd:n.keys.drop i=n.keys[i]::n.keys.drop (i+1):=kp m;have hf:n.left i=⟨true,n.keys.take i,n.vals.take i,[]⟩:=by unfold aG.left;rw[a.leaf];rfl
  have hg:n.right i=⟨true,n.keys.drop i,n.vals.drop i,[]⟩:=by unfold aG.right;rw[a.leaf];rfl
  rw[hf,hg];refine⟨[],[],n.dT.take i,n.dT.drop i,rfl,(ga _ _).symm,⟨⟨⟨λk f=>a.ok k (fq f),r1⟩,rfl,by simp[a.len],rfl,λv g=>a.vals v (fq g)⟩,λk f=>⟨(b k (fq f)).1,λs hs=>?_⟩,rfl,?_⟩,
   ⟨⟨⟨λk f=>a.ok k (fZ f),cq⟩,rfl,by simp[a.len],rfl,λv g=>a.vals v (fZ g)⟩,λk f=>⟨λs hs=>?_,(b k (fZ f)).2⟩,rfl,?_⟩⟩
  .cases hs
   exact al k f _ (hd▸o9)
  .exact List.take_zipWith
  .cases hs
   have f:k∈n.keys.drop i:=f;rw[hd]at f cq;rcases cZ.1 f with rfl|f
   .exact DQ _
   .exact je ((jV.1 cq).1 k f)
  .exact List.drop_zipWith
 |h+2,⟨a,b,c,d,e⟩=>
  have hf:n.left i=⟨false,n.keys.take i,[],n.kids.take (i+1)⟩:=by unfold aG.left;rw[a];rfl
  have hg:n.right i=⟨false,n.keys.drop (i+1),[],n.kids.drop (i+1)⟩:=by unfold aG.right;rw[a];rfl
  have gx:n.keys=n.keys.take i++n.keys[i]::n.keys.drop (i+1):=by rw[←kp m,ga]
  rw[gx]at e;obtain⟨b1,cf,bh,bj,bn,bK,j,rfl,rfl,s1,s2⟩:=e.cut;have l:=s1.len;rw[cF,iX I]at l;have r:n.kids.take (i+1)=b1:=by rw[j,←l,List.take_left]
  have t:n.kids.drop (i+1)=cf:=by rw[j,←l,List.drop_left]
  rw[hf,hg,r,t];exact⟨bh,bj,bn,bK,rfl,rfl,⟨rfl,rfl,λk f=>c k (fq f),λk f=>d k (by rw[j];simp[f]),s1⟩,⟨rfl,rfl,λk f=>c k (fZ f),λk f=>d k (by rw[j];simp[f]),s2⟩⟩
end Go.Proofs.YtcmgnhkpfllinaaGreat
namespace Go.Proofs.YtcmgnhkpfllinaaGreat
variable {lo hi:au Key}{P Q:Nat->au aG}
def ed(a:aG)(s:Key)(b:aG):aG:=if a.leaf then ⟨true,a.keys++b.keys,a.vals++b.vals,[]⟩ else ⟨false,a.keys++s::b.keys,[],a.kids++b.kids⟩
theorem qb{a b c d:O Key}(h:a.length=c.length):(a++b).zip (c++d)=a.zip c++b.zip d:=List.zip_append h
theorem dy.merge{h:Nat}{a b:aG}{s:Key}{pa l:O Nat}{m n:O aP}(g:dy P h a lo (some s) pa m)(o:dy P h b (some s) hi l n)(hs:cK s)(p:∀k,lo=some k->dL k s)(q:∀k,hi=some k->dL s k):
 dy P h (ed a s b) lo hi (pa++l) (m++n):=by
 match h,g,o with
 |0,g,_=>exact g.elim
 |1,⟨a1,a2,a3,a4⟩,⟨cH,ck,i,j⟩=>
  subst a3 a4 i j;have e:ed a s b=⟨true,a.keys++b.keys,a.vals++b.vals,[]⟩:=by unfold ed;rw[a1.leaf];rfl
  rw[e];refine⟨⟨⟨λk d=>?_,mx.2 ⟨a1.fg,cH.fg,λx hx y r=>oI ((a2 x hx).2 s rfl) ((ck y r).1 s rfl)⟩⟩,rfl,by simp[a1.len,cH.len],rfl,λv f=>?_⟩,λk d=>?_,rfl,?_⟩
  .rcases cR.1 d with d|d
   .exact a1.ok k d
   .exact cH.ok k d
  .rcases cR.1 f with f|f
   .exact a1.vals v f
   .exact cH.vals v f
  .rcases cR.1 d with d|d
   .exact⟨(a2 k d).1,λc hc=>oI ((a2 k d).2 s rfl) (q c hc)⟩
   .exact⟨λc hc=>Av (p c hc) ((ck k d).1 s rfl),(ck k d).2⟩
  .exact(qb a1.len.symm).symm
 |h+2,⟨a1,a2,a3,a4,a5⟩,⟨cH,ck,i,j,t⟩=>
  have e:ed a s b=⟨false,a.keys++s::b.keys,[],a.kids++b.kids⟩:=by unfold ed;rw[a1];rfl
  rw[e];refine⟨rfl,rfl,λk d=>?_,λk d=>?_,a5.app t⟩
  .rcases cR.1 d with d|d
   .exact a3 k d
   .rcases cZ.1 d with rfl|d
    .exact hs
    .exact i k d
  .rcases cR.1 d with d|d
   .exact a4 k d
   .exact j k d
theorem er.j6{h no:Nat}{p:O Nat}{L:O aP}(b:er P h lo hi no p L):∃n a,P no=some n/\p=no::a/\n.keys≠ []/\dy P h n lo hi a L:=by
 match h,b with
 |0,b=>exact b.elim
 |1,⟨n,h1,h2,e,c,d,f⟩=>exact⟨n,[],h1,d,c,h2,e,rfl,f⟩
 |h+2,⟨n,a,h1,h2,e,c,d⟩=>exact⟨n,a,h1,c,h2.some,h2.inner,h2.vals,h2.ok,h2.kids,d⟩
def gp(n:aG)(fr to:Nat)(ks:O Key)(kids:O Nat):aG:=⟨false,n.keys.take fr++ks++n.keys.drop (to-1),[],n.kids.take fr++kids++n.kids.drop to⟩
end Go.Proofs.YtcmgnhkpfllinaaGreat
namespace Go.Proofs.YtcmgnhkpfllinaaGreat
variable{c:O Nat}
def cellsOf(n:aG):O Nat:=if n.leaf then List.zipWith (λk v=>2+k.length+v.length) n.keys n.vals else n.keys.map λk=>3+k.length
def bS(n:aG):Nat:=(if n.leaf then 1 else 3)+(cellsOf n).sum
def gZ(c:O Nat)(most:Nat):Nat:=match (List.range most).find? λi=>decide (c.sum<=2*(c.take (i+1)).sum) with
 |some i=>i+1
 |none=>most
theorem oK{B:Nat}:∀ {l:O Nat},(∀x∈l,x<=B)->l.sum<=B*l.length
 | [],_=>by simp
 |a::l,h=>by
  have h1:=h a U9
  have h2:=oK (l:=l) λx hx=>h x (by simp[hx])
  rw[sP,fi,Nat.mul_add,f_]
  omega
theorem Ay(l:O Nat)(i:Nat):(l.take i).sum+(l.drop i).sum=l.sum:=by
 rw[←my,ga]
theorem r6{l:O Nat}{i:Nat}(h:i<l.length):(l.take (i+1)).sum=(l.take i).sum+l[i]:=by
 rw[ib h,my];simp
theorem DT{most:Nat}(a:1<=most)(hs:0<c.sum):1<=gZ c most/\gZ c most<=most/\2*(c.take (gZ c most-1)).sum<c.sum/\(gZ c most=most\/c.sum<=2*(c.take (gZ c most)).sum):=by
 unfold gZ
 cases h:(List.range most).find? λi=>decide (c.sum<=2*(c.take (i+1)).sum) with
 |none=>
  have b:=jX.1 h;refine⟨a,bk _,?_,.inl rfl⟩;by_cases h1:most=1
  .subst h1;simpa using hs
  .have:=b (most-2) (jS.2 I)
   have e:most-2+1=most-1:=I
   rw[e]at this;simp at this;exact this
 |some i=>
  have hi:i<most:=jS.1 (jY h);have d:=kR h;refine⟨by simp,by simp;omega,?_,.inr (by simpa using d)⟩;show 2*(c.take (i+1-1)).sum<c.sum;rw[Nat.add_sub_cancel]
  cases i with
  |zero=>simpa using hs
  |succ j=>
   have:=(List.find?_range_eq_some.1 h).2.2 j I;simpa using this
theorem Jw(a:∀x∈c,x<=50)(h1:232<=c.sum)(h2:c.sum<=309):
 2<=gZ c (c.length-1)/\gZ c (c.length-1)+2<=c.length/\(c.take (gZ c (c.length-1))).sum<=231/\(c.drop (gZ c (c.length-1))).sum<=231:=by
 have e:=oK a;have b:=DT (c:=c) (most:=c.length-1) I I;generalize gZ c (c.length-1)=i at b⊢;obtain⟨a1,a2,a3,a4⟩:=b;have hs:=Ay c i;have ht:=r6 (l:=c) (i:=i-1) I;rw[Nat.sub_add_cancel a1]at ht;have hc:=a c[i-1] (cJ _);have hd:=oK (l:=c.drop i) λx hx=>a x (fZ hx);have d:=oK (l:=c.take i) λx hx=>a x (fq hx);rw[eH]at hd;rw[cF,iX I]at d;have key:c.sum<=2*(c.take i).sum:=by
  obtain h|h:=a4
  .have:c.length-i=1:=I
   rw[this]at hd;omega
  .exact h
 refine⟨I,?_,I,I⟩;rcases dV (c.length-i) 2 with h|h
 .have:c.length-i=1:=I
  rw[this]at hd;omega
 .omega
theorem Jx(a:∀x∈c,x<=27)(h1:230<=c.sum)(h2:c.sum<=332):
 2<=gZ c (c.length-2)/\gZ c (c.length-2)+3<=c.length/\(c.take (gZ c (c.length-2))).sum<=229/\(c.drop (gZ c (c.length-2)+1)).sum<=229:=by
 have e:=oK a;have b:=DT (c:=c) (most:=c.length-2) I I;generalize gZ c (c.length-2)=i at b⊢;obtain⟨a1,a2,a3,a4⟩:=b;have hs:=Ay c (i+1);have ht:=r6 (l:=c) (i:=i-1) I;have hu:=r6 (l:=c) (i:=i) I;rw[Nat.sub_add_cancel a1]at ht;have hc:=a c[i-1] (cJ _);have f:=a c[i] (cJ _);have hd:=oK (l:=c.drop (i+1)) λx hx=>a x (fZ hx);have d:=oK (l:=c.take i) λx hx=>a x (fq hx);rw[eH]at hd;rw[cF,iX I]at d;have key:c.sum<=2*(c.take i).sum:=by
  obtain h|h:=a4
  .have:c.length-(i+1)=1:=I
   rw[this]at hd;omega
  .exact h
 refine⟨I,?_,I,I⟩;rcases dV (c.length-(i+1)) 2 with h|h
 .have:c.length-(i+1)<=1:=I
  have:27*(c.length-(i+1))<=27*1:=Nat.mul_le_mul_left _ this;omega
 .omega
end Go.Proofs.YtcmgnhkpfllinaaGreat
namespace Go.Proofs.YtcmgnhkpfllinaaGreat
variable{kids p:O Nat}{L:O aP}
variable {W:Below}{lo hi m:au Key}{P Q:Nat->au aG}
theorem gY.inv(h:gY W hi m [] kids p L):m=hi/\kids=[]/\p=[]/\L=[]:=by
 generalize e:([]:O Key)=K at h
 cases h with
 |nil=>exact⟨rfl,rfl,rfl,rfl⟩
 |more h=>simp at e
theorem fK.last{ks:O Key}(h:fK W lo m ks kids p L)(c:0<kids.length):∃ (s:Key) (a:au Key) (bh r:O Nat) (bn N:O aP) (hs:0<ks.length),
 m=some s/\s=ks[ks.length-1]/\p=bh++r/\L=bn++N/\W a (some s) (kids[kids.length-1]) r N/\fK W lo a (ks.take (ks.length-1)) (kids.take (kids.length-1)) bh bn/\kids.length=ks.length:=by
 cases h with
 |nil=>simp at c
 | @more s ks kids p L h=>
  have d:=h.len;obtain⟨a,f,bh,q,bj,bn,M,bK,rfl,rfl,h1,h2,b⟩:=h.at (kids.length-1) I;rw[uX I]at b;obtain⟨rfl,_,rfl,rfl⟩:=b.inv;refine⟨s,a,bh,q,bn,M,by simp,rfl,by simp,by simp,by simp,h1,?_,by simp;omega⟩;have e:(ks++ [s]).take ((ks++ [s]).length-1)=ks.take (kids.length-1):=by
   rw[d];simp
  rw[e];exact h2
theorem dy.at{h:Nat}{n:aG}(v:dy P (h+2) n lo hi p L){k:Key}(m:fy lo hi k):∃ (f g:au Key) (bh q bj:O Nat) (bn M bK:O aP) (B:dD n.keys k<n.kids.length),
 p=bh++(q++bj)/\L=bn++(M++bK)/\fz P (h+1) f g n.kids[dD n.keys k] q M/\fy f g k/\(∀u,Loc k u->u L=bn++(u M++bK))/\n.kids.length=n.keys.length+1/\
 fK (fz P (h+1)) lo f (n.keys.take (dD n.keys k)) (n.kids.take (dD n.keys k)) bh bn/\gY (fz P (h+1)) hi g (n.keys.drop (dD n.keys k)) (n.kids.drop (dD n.keys k+1)) bj bK:=by
 obtain⟨a,b,c,d,e⟩:=v;have w:=e.len;have C:=x2 n.keys k;have hs:=e.sorted λ_ _ _ _ _ i=>i.in;have o:∀s∈n.keys,fy lo hi s:=λs h=>⟨λa x=>je ((hs.2.2.2 s h).1 a x),(hs.2.2.2 s h).2⟩;obtain⟨f,g,bh,q,bj,bn,M,bK,rfl,rfl,h1,h2,l⟩:=e.at (dD n.keys k) I;have r:=h2.Jr (k:=k) (λj y h=>Jp h y) m.1;have t:=l.Js (k:=k) (λh=>Jq h) m.2;have z:(n.keys.take (dD n.keys k)).Pairwise bF:=hs.2.2.1.sublist (u5 _ _);have A:(n.keys.drop (dD n.keys k)).Pairwise bF:=hs.2.2.1.sublist (List.drop_sublist _ _);exact⟨f,g,bh,q,bj,bn,M,bK,I,rfl,rfl,h1,⟨r,t⟩,λu hu=>hu _ _ _ (h2.below (hi:=hi) (λ_ _ _ _ _ i=>i.in.2) z (λs h=>o s (fq h)) r) (l.Jt (lo:=lo) (λ_ _ _ _ _ i=>i.in.2) A (λs h=>o s (fZ h)) t),
  w,h2,l⟩
theorem dy.build{h:Nat}{d e:au Key}{a kb ks:O Key}{b c bh bj q:O Nat}{bn M bK:O aP}(h1:fK (fz P (h+1)) lo d a b bh bn)(h2:gY (fz P (h+1)) hi e kb c bj bK)
 (hs:dP (fz Q (h+1)) d e ks kids q M) (g:∀x∈bh++bj,P x=Q x) (i:∀s∈a++ks++kb,cK s) (hd:∀x∈b++kids++c,x<1600):
 dy Q (h+2) ⟨false,a++ks++kb,[],b++kids++c⟩ lo hi (bh++(q++bj)) (bn++(M++bK)):=by
 have ay:fK (fz Q (h+1)) lo d a b bh bn:=h1.mM λ_ _ _ _ _ hs f=>f.agree λx hx=>g x (kt _ (hs x hx));have az:gY (fz Q (h+1)) hi e kb c bj bK:=h2.mM λ_ _ _ _ _ hs f=>f.agree λx hx=>g x (iy _ (hs x hx));refine⟨rfl,rfl,i,hd,?_⟩;show dP _ lo hi (a++ks++kb) (b++kids++c) _ _;rw[cO,cO];exact ay.Jo (hs.post az)
end Go.Proofs.YtcmgnhkpfllinaaGreat
namespace Go.Proofs.YtcmgnhkpfllinaaGreat
variable{n:aG}
variable {lo hi:au Key}{P Q:Nat->au aG}
theorem dy.one{h x:Nat}{p:O Nat}{L:O aP}(a:dy P h n lo hi p L)(h2:2<=n.keys.length)(hx:Q x=some n)(b:∀y∈p,P y=Q y):dP (fz Q h) lo hi [] [x] (x::p) L:=
 .one ⟨a.lay (λe=>by rw[e]at h2;simp at h2) hx b,n,hx,h2⟩
theorem l8(h:n.leaf=true):cellsOf n=List.zipWith (λk v=>2+k.length+v.length) n.keys n.vals:=by unfold cellsOf;rw[h];rfl
theorem l9(h:n.leaf=false):cellsOf n=n.keys.map λk=>3+k.length:=by unfold cellsOf;rw[h];rfl
theorem Az{B:Nat}{f:Key->Key->Nat}:∀ {ks vs:O Key},(∀k∈ks,∀v∈vs,f k v<=B)->∀x∈List.zipWith f ks vs,x<=B
 | [],vs,_,x,hx=>by simp at hx
 |k::ks,[],_,x,hx=>by simp at hx
 |k::ks,v::vs,h,x,hx=>by
  rw[List.zipWith_cons_cons]at hx
  rcases cZ.1 hx with rfl|hx
  .exact h k U9 v U9
  .exact Az (λk a v b=>h k (by simp[a]) v (by simp[b])) x hx
def cD(n:aG):Nat:=gZ (cellsOf n) (if n.leaf then n.keys.length-1 else n.keys.length-2)
theorem dy.two{h x y:Nat}{p:O Nat}{L:O aP}(b:dy P h n lo hi p L)(h1:232<bS n)(h2:n.leaf=true->bS n<=310)(r:n.leaf=false->bS n<=335):
 1<=cD n/\(if n.leaf then cD n<=n.keys.length-1/\1<=n.keys.length-1 else cD n<=n.keys.length-2/\1<=n.keys.length-2)/\bS (n.left (cD n))<=232/\bS (n.right (cD n))<=232/\
  ∃ (u:cD n<n.keys.length) (bh bj:O Nat) (bn bK:O aP),p=bh++bj/\L=bn++bK/\cK n.keys[cD n]/\
   (Q x=some (n.left (cD n))->Q y=some (n.right (cD n))->(∀z∈p,P z=Q z)->dP (fz Q h) lo hi [n.keys[cD n]] [x,y] ((x::bh)++(y::bj)) (bn++bK)):=by
 have main:∀ (i:Nat),2<=i->(F:i<n.keys.length)->2<=(n.left i).keys.length->2<=(n.right i).keys.length->∃ (u:i<n.keys.length) (bh bj:O Nat) (bn bK:O aP),p=bh++bj/\L=bn++bK/\cK n.keys[i]/\
  (Q x=some (n.left i)->Q y=some (n.right i)->(∀z∈p,P z=Q z)->dP (fz Q h) lo hi [n.keys[i]] [x,y] ((x::bh)++(y::bj)) (bn++bK)):=by
  intro i G s w A;obtain⟨bh,bj,bn,bK,rfl,rfl,v1,v2⟩:=b.Ax (by omega:1<=i) s;have B:cK n.keys[i]:=by
   match h,b with
   |0,b=>exact b.elim
   |1,b=>exact b.1.ok _ (cJ _)
   |h+2,b=>exact b.2.2.1 _ (cJ _)
  refine⟨s,bh,bj,bn,bK,rfl,rfl,B,λhx C t=>?_⟩;have s1:=v1.one w hx λz f=>t z (kt _ f);have s2:=v2.one A C λz f=>t z (iy _ f);exact s1.app s2
 match h,b with
 |0,b=>exact b.elim
 |1,b=>
  have a:n.leaf=true:=b.1.leaf;have g:(cellsOf n).length=n.keys.length:=by rw[l8 a,List.length_zipWith,b.1.len,Nat.min_self]
  have j:∀c∈cellsOf n,c<=50:=by
   rw[l8 a];exact Az λk l v D=>U5 ((b.1.ok k l).2) (b.1.vals v D)
  have E:bS n=1+(cellsOf n).sum:=by unfold bS;rw[a];rfl
  have h2:=h2 a;obtain⟨a1,a2,a3,a4⟩:=Jw j I I;have m:cD n=gZ (cellsOf n) ((cellsOf n).length-1):=by unfold cD;rw[a,g];rfl
  rw[←m]at a1 a2 a3 a4;have d:n.left (cD n)=⟨true,n.keys.take (cD n),n.vals.take (cD n),[]⟩:=by unfold aG.left;rw[a];rfl
  have e:n.right (cD n)=⟨true,n.keys.drop (cD n),n.vals.drop (cD n),[]⟩:=by unfold aG.right;rw[a];rfl
  have o:cellsOf (n.left (cD n))=(cellsOf n).take (cD n):=by rw[d,l8 rfl,l8 a];exact List.take_zipWith.symm
  have q:cellsOf (n.right (cD n))=(cellsOf n).drop (cD n):=by rw[e,l8 rfl,l8 a];exact List.drop_zipWith.symm
  refine⟨I,by rw[a];exact⟨I,I⟩,?_,?_,main _ a1 I (by rw[d];show 2<=(n.keys.take _).length;rw[cF];omega) (by rw[e];show 2<=(n.keys.drop _).length;rw[eH];omega)⟩
  .unfold bS;rw[o,d];show 1+_<=_;omega
  .unfold bS;rw[q,e];show 1+_<=_;omega
 |h+2,b=>
  have a:n.leaf=false:=b.1;have g:(cellsOf n).length=n.keys.length:=by rw[l9 a,cU]
  have j:∀c∈cellsOf n,c<=27:=by
   rw[l9 a];intro c hc;obtain⟨k,l,rfl⟩:=eJ.1 hc;have:=(b.2.2.1 k l).2;omega
  have E:bS n=3+(cellsOf n).sum:=by unfold bS;rw[a];rfl
  have r:=r a;obtain⟨a1,a2,a3,a4⟩:=Jx j I I;have m:cD n=gZ (cellsOf n) ((cellsOf n).length-2):=by unfold cD;rw[a,g];rfl
  rw[←m]at a1 a2 a3 a4;have d:n.left (cD n)=⟨false,n.keys.take (cD n),[],n.kids.take (cD n+1)⟩:=by unfold aG.left;rw[a];rfl
  have e:n.right (cD n)=⟨false,n.keys.drop (cD n+1),[],n.kids.drop (cD n+1)⟩:=by unfold aG.right;rw[a];rfl
  have o:cellsOf (n.left (cD n))=(cellsOf n).take (cD n):=by rw[d,l9 rfl,l9 a];exact mu
  have q:cellsOf (n.right (cD n))=(cellsOf n).drop (cD n+1):=by rw[e,l9 rfl,l9 a];exact m4
  refine⟨I,by rw[a];exact⟨I,I⟩,?_,?_,main _ a1 I (by rw[d];show 2<=(n.keys.take _).length;rw[cF];omega) (by rw[e];show 2<=(n.keys.drop _).length;rw[eH];omega)⟩
  .unfold bS;rw[o,d];show 3+_<=_;omega
  .unfold bS;rw[q,e];show 3+_<=_;omega
end Go.Proofs.YtcmgnhkpfllinaaGreat
namespace Go.Proofs.YtcmgnhkpfllinaaGreat
variable{n:aG}
variable {lo hi:au Key}{P Q:Nat->au aG}
theorem dy.cells{h:Nat}{p:O Nat}{L:O aP}(a:dy P h n lo hi p L):(cellsOf n).length=n.keys.length/\∀c∈cellsOf n,c<=if n.leaf then 50 else 27:=by
 match h,a with
 |0,a=>exact a.elim
 |1,a=>
  have b:n.leaf=true:=a.1.leaf;rw[l8 b,b];exact⟨by rw[List.length_zipWith,a.1.len,Nat.min_self],Az λk d v e=>by have:=(a.1.ok k d).2;have:=a.1.vals v e;simp only[if_true];omega⟩
 |h+2,a=>
  have b:n.leaf=false:=a.1;rw[l9 b,b];refine⟨by rw[cU],λc hc=>?_⟩;obtain⟨k,d,rfl⟩:=eJ.1 hc;have:=(a.2.2.1 k d).2;show 3+k.length<=27;omega
theorem dy.AA{h:Nat}{p:O Nat}{L:O aP}(b:dy P h n lo hi p L)(hs:80<=bS n):2<=n.keys.length:=by
 obtain⟨h1,h2⟩:=b.cells;have:=oK h2;rw[h1]at this;unfold bS at hs
 cases a:n.leaf with
 |true=>rw[a]at hs this;simp only[if_true]at hs this;omega
 |false=>rw[a]at hs this;simp only[gv,if_false]at hs this;omega
theorem Jy{a b:aG}{s:Key}(h:a.leaf=b.leaf)(f:a.leaf=true->a.vals.length=a.keys.length):bS (ed a s b)=if a.leaf then bS a+bS b-1 else bS a+bS b+s.length:=by
 cases c:a.leaf with
 |true=>
  have e:ed a s b=⟨true,a.keys++b.keys,a.vals++b.vals,[]⟩:=by unfold ed;rw[c];rfl
  have d:b.leaf=true:=by rw[←h,c]
  unfold bS;rw[e,l8 rfl,l8 c,l8 d,c,d];simp only[if_true];rw[qN (f c).symm,my];omega
 |false=>
  have e:ed a s b=⟨false,a.keys++s::b.keys,[],a.kids++b.kids⟩:=by unfold ed;rw[c];rfl
  have d:b.leaf=false:=by rw[←h,c]
  unfold bS;rw[e,l9 rfl,l9 c,l9 d,c,d];simp only[gv,if_false,fP,hJ,my,sP];omega
def ju(ks:O Key):Nat:=(ks.map λk=>3+k.length).sum
theorem x3(a b:O Key):ju (a++b)=ju a+ju b:=by unfold ju;rw[fP,my]
theorem DU(h:n.leaf=false):bS n=3+ju n.keys:=by unfold bS ju;rw[h,l9 h];rfl
theorem Jz(k:Key):ju [k]=3+k.length:=by simp[ju]
theorem AB{ks:O Key}{kids:O Nat}{fr j:Nat}(h:n.leaf=false)(a:ks.length<=1)(b:∀k∈ks,cK k)(c:fr<=j):
 bS ⟨false,n.keys.take fr++ks++n.keys.drop j,[],kids⟩<=bS n+27:=by
 rw[DU h,DU rfl];show 3+ju (n.keys.take fr++ks++n.keys.drop j)<=_;rw[x3,x3];have h1:ju ks<=27:=by
  match ks,a with
  | [],_=>simp[ju]
  | [k],_=>rw[Jz];have:=(b k U9).2;omega
 have h2:ju n.keys=ju (n.keys.take fr)+ju (n.keys.drop fr):=by rw[←x3,ga]
 have d:ju (n.keys.drop fr)=ju ((n.keys.drop fr).take (j-fr))+ju (n.keys.drop j):=by
  rw[←x3]
  congr 1
  have:n.keys.drop j=(n.keys.drop fr).drop (j-fr):=by rw[lu];congr 1;omega
  rw[this,ga]
 omega
end Go.Proofs.YtcmgnhkpfllinaaGreat
namespace Go.Proofs.YtcmgnhkpfllinaaGreat
variable {lo hi:au Key}{P Q:Nat->au aG}
def nz(Q:Nat->au aG)(n:aG)(ks:O Key)(kids:O Nat):Prop:=
 (bS n<=232/\∃x,ks=[]/\kids=[x]/\Q x=some n)\/
 (232<bS n/\∃ (x y:Nat) (a:cD n<n.keys.length),ks=[n.keys[cD n]]/\kids=[x,y]/\Q x=some (n.left (cD n))/\Q y=some (n.right (cD n)))
theorem dy.fits{h:Nat}{n:aG}{p:O Nat}{L:O aP}{ks:O Key}{kids:O Nat}(a:dy P h n lo hi p L)(h2:2<=n.keys.length)(d:n.leaf=true->bS n<=310)(e:n.leaf=false->bS n<=335)
 (hf:nz Q n ks kids) (b:∀x∈p,P x=Q x):∃c,dP (fz Q h) lo hi ks kids c L/\c.Perm (kids++p)/\(∀s∈ks,cK s)/\ks.length<=1:=by
 obtain⟨_,x,rfl,rfl,hx⟩|⟨hs,x,y,j,rfl,rfl,hx,f⟩:=hf
 .exact⟨x::p,a.one h2 hx b,List.Perm.refl _,by simp,by simp⟩
 .obtain⟨_,_,_,_,_,bh,bj,bn,bK,rfl,rfl,g,i⟩:=a.two (Q:=Q) (x:=x) (y:=y) hs d e
  refine⟨_,i hx f b,?_,by simpa using g,by simp⟩;show((x::bh)++(y::bj)).Perm ([x,y]++(bh++bj));simp only[m0,hK];exact(n0).cons x
theorem JA{h:Nat}{a c:aG}{f g:au Key}{i:Nat}{bh bj b:O Nat}{bn iC bK:O aP}{ks:O Key}{kids:O Nat}(h0:a.leaf=false)(j:∀k∈a.keys,cK k)(l:∀x∈a.kids,x<1600)
 (p:fK (fz P (h+1)) lo f (a.keys.take i) (a.kids.take i) bh bn) (q:gY (fz P (h+1)) hi g (a.keys.drop i) (a.kids.drop (i+1)) bj bK) (m:dy P (h+1) c f g b iC) (h1:80<=bS c) (h2:bS c<=282)
 (hf:nz Q c ks kids) (d:∀x∈bh++(b++bj),P x=Q x) (r:∀x∈kids,x<1600):
 ∃n,dy Q (h+2) (gp a i (i+1) ks kids) lo hi n (bn++(iC++bK))/\n.Perm (kids++(bh++(b++bj)))/\bS (gp a i (i+1) ks kids)<=bS a+27/\a.keys.length<=(gp a i (i+1) ks kids).keys.length:=by
 obtain⟨eM,hs,t,o,u⟩:=m.fits (m.AA h1) (λ_=>I) (λ_=>I) hf λx hx=>d x (iy _ (kt _ hx));have v:=dy.build p q hs (λx hx=>by
  rcases cR.1 hx with hx|hx
  .exact d x (kt _ hx)
  .exact d x (iy _ (iy _ hx)))
  (λs hs=>by
    rcases cR.1 hs with hs|hs
    .rcases cR.1 hs with hs|hs
     .exact j s (fq hs)
     .exact o s hs
    .exact j s (fZ hs))
  (λx hx=>by
    rcases cR.1 hx with hx|hx
    .rcases cR.1 hx with hx|hx
     .exact l x (fq hx)
     .exact r x hx
    .exact l x (fZ hx))
 have e:gp a i (i+1) ks kids=⟨false,a.keys.take i++ks++a.keys.drop i,[],a.kids.take i++kids++a.kids.drop (i+1)⟩:=by unfold gp;rw[Nat.add_sub_cancel]
 rw[e];refine⟨_,v,?_,AB h0 u o (bk _),?_⟩
 .have ay:(eM++bj).Perm (kids++(b++bj)):=by
   rw[←cO];exact t.append_right _
  refine(List.Perm.append_left bh ay).trans ?_;have az:=(sQ (l₁:=bh) (l₂:=kids)).append_right (b++bj);rw[cO,cO]at az;exact az
 .show a.keys.length<=(a.keys.take i++ks++a.keys.drop i).length
  have:=congrArg List.length (ga i a.keys);simp only[cz]at this⊢;omega
end Go.Proofs.YtcmgnhkpfllinaaGreat
namespace Go.Proofs.YtcmgnhkpfllinaaGreat
variable{a b:aG}{s:Key}
variable {lo hi:au Key}{P Q:Nat->au aG}
theorem x4:a.keys.length+b.keys.length<=(ed a s b).keys.length:=by
 unfold ed;split
 .show _<=(a.keys++b.keys).length
  rw[cz];omega
 .show _<=(a.keys++s::b.keys).length
  rw[cz,fi];omega
theorem DV:(ed a s b).leaf=a.leaf:=by
 unfold ed
 cases h:a.leaf<;>simp
theorem x5{h:Nat}{fA dW d f:au Key}{pa g:O Nat}{i j:O aP}(c:dy P h a fA dW pa i)(k:dy P h b d f g j)(hs:cK s)(h1:bS a+bS b<=311):
 ((ed a s b).leaf=true->bS (ed a s b)<=310)/\((ed a s b).leaf=false->bS (ed a s b)<=335):=by
 have l:a.leaf=b.leaf:=by rw[c.leaf,k.leaf]
 have m:a.leaf=true->a.vals.length=a.keys.length:=λh1=>by
  match h,c with
  |0,c=>exact c.elim
  |1,c=>exact c.1.len
  |h+2,c=>rw[c.1]at h1;cases h1
 rw[DV,Jy l m];have:=hs.2;constructor
 .intro e;rw[e];simp only[if_true];omega
 .intro e;rw[e];simp only[gv,if_false];omega
theorem JB{h:Nat}{d g:aG}{u v:au Key}{i:Nat}{bh bj f:O Nat}{bn iC bK:O aP}{k:Key}(h0:d.leaf=false)(w:∀k∈d.keys,cK k)(C:∀x∈d.kids,x<1600)(hlen:d.kids.length=d.keys.length+1)(S:∀x n,P x=some n->bS n<=232)
 (dW:1<=i) (ag:i<d.kids.length) (D:fy u v k)
 (T:fK (fz P (h+1)) lo u (d.keys.take i) (d.kids.take i) bh bn) (U:gY (fz P (h+1)) hi v (d.keys.drop i) (d.kids.drop (i+1)) bj bK) (E:dy P (h+1) g u v f iC) (h1:bS g<80):
 ∃ (o:aG) (y:O Nat) (F:i-1<d.kids.length) (ah:i-1<d.keys.length),P d.kids[i-1]=some o/\bh.Perm (d.kids[i-1]::y)/\2<=o.keys.length/\
  ∀ (Q:Nat->au aG) (ks:O Key) (kids:O Nat),nz Q (ed o d.keys[i-1] g) ks kids->(∀x∈y++(f++bj),P x=Q x)->(∀x∈kids,x<1600)->
   ∃G,dy Q (h+2) (gp d (i-1) (i+1) ks kids) lo hi G (bn++(iC++bK))/\G.Perm (kids++(y++(f++bj)))/\bS (gp d (i-1) (i+1) ks kids)<=bS d+27/\d.keys.length<=(gp d (i-1) (i+1) ks kids).keys.length+1:=by
 obtain⟨s,V,aL,r,bG,N,hs,rfl,z,rfl,rfl,⟨A,m,j,p⟩,H,ai⟩:=T.last (by rw[cF];omega);have W:(d.keys.take i).length=i:=by rw[cF];omega
 have X:(d.kids.take i).length=i:=by rw[cF];omega
 have z:s=d.keys[i-1]'I:=by
  rw[z,pb];congr 1;omega
 have Y:(d.kids.take i)[(d.kids.take i).length-1]'I=d.kids[i-1]'I:=by
  rw[pb];congr 1;omega
 rw[Y]at A j;obtain⟨o,q,t,rfl,_,J⟩:=A.j6;rw[t]at j;have p:2<=o.keys.length:=by rw[Option.some.inj j];exact p
 clear j;subst z;have B:=(show fz P (h+1) V (some (d.keys[i-1]'I)) (d.kids[i-1]'I) (d.kids[i-1]'I::q) N from⟨A,o,t,p⟩).in;obtain⟨x,hx⟩:=qM _ B.1;have K:=w _ (cJ (l:=d.keys) (n:=i-1) I);have Z:=dy.merge J E K (λc hc=>je (k2 ((B.2.2 x hx).1 c hc) ((B.2.2 x hx).2 _ rfl))) (λc hc=>je (k2 (D.1 _ rfl) (D.2 c hc)));have L:=x5 J E K (U4 (S _ _ t));have aj:=x4 (a:=o) (b:=g) (s:=d.keys[i-1]'I);refine⟨o,aL++q,I,I,t,n0,p,λQ ks kids hf M aa=>?_⟩;obtain⟨eM,ab,ac,R,ad⟩:=Z.fits I L.1 L.2 hf λx hx=>M x (by
  rcases cR.1 hx with hx|hx
  .exact kt _ (iy _ hx)
  .exact iy _ (kt _ hx))
 have ae:(d.keys.take i).take ((d.keys.take i).length-1)=d.keys.take (i-1):=by rw[W,pc];congr 1;omega
 have af:(d.kids.take i).take ((d.kids.take i).length-1)=d.kids.take (i-1):=by rw[X,pc];congr 1;omega
 rw[ae,af]at H;have F:=dy.build H U ab (λx hx=>M x (by
  rcases cR.1 hx with hx|hx
  .exact kt _ (kt _ hx)
  .exact iy _ (iy _ hx)))
  (λs hs=>by
    rcases cR.1 hs with hs|hs
    .rcases cR.1 hs with hs|hs
     .exact w s (fq hs)
     .exact R s hs
    .exact w s (fZ hs))
  (λx hx=>by
    rcases cR.1 hx with hx|hx
    .rcases cR.1 hx with hx|hx
     .exact C x (fq hx)
     .exact aa x hx
    .exact C x (fZ hx))
 have e:gp d (i-1) (i+1) ks kids=⟨false,d.keys.take (i-1)++ks++d.keys.drop i,[],d.kids.take (i-1)++kids++d.kids.drop (i+1)⟩:=by unfold gp;rw[Nat.add_sub_cancel]
 rw[e];refine⟨_,by simpa[cO] using F,?_,AB h0 ad R I,?_⟩
 .have ay:(eM++bj).Perm (kids++(q++(f++bj))):=by
   have:=ac.append_right bj;simpa[cO] using this
  refine(List.Perm.append_left aL ay).trans ?_;have az:=(sQ (l₁:=aL) (l₂:=kids)).append_right (q++(f++bj));simpa[cO] using az
 .show d.keys.length<=(d.keys.take (i-1)++ks++d.keys.drop i).length+1
  simp only[cz,cF,eH];omega
end Go.Proofs.YtcmgnhkpfllinaaGreat
namespace Go.Proofs.YtcmgnhkpfllinaaGreat
variable {lo hi:au Key}{P Q:Nat->au aG}
theorem JC{h:Nat}{d j:aG}{w y:au Key}{i:Nat}{bh bj f:O Nat}{bn iC bK:O aP}{k:Key}(h0:d.leaf=false)(z:∀k∈d.keys,cK k)(E:∀x∈d.kids,x<1600)(hlen:d.kids.length=d.keys.length+1)(U:∀x n,P x=some n->bS n<=232)
 (p:i+1<d.kids.length) (F:fy w y k)
 (V:fK (fz P (h+1)) lo w (d.keys.take i) (d.kids.take i) bh bn) (W:gY (fz P (h+1)) hi y (d.keys.drop i) (d.kids.drop (i+1)) bj bK) (G:dy P (h+1) j w y f iC) (h1:bS j<80):
 ∃ (o:aG) (A:O Nat) (H:i+1<d.kids.length) (ae:i<d.keys.length),P d.kids[i+1]=some o/\bj.Perm (d.kids[i+1]::A)/\2<=o.keys.length/\
  ∀ (Q:Nat->au aG) (ks:O Key) (kids:O Nat),nz Q (ed j d.keys[i] o) ks kids->(∀x∈bh++(f++A),P x=Q x)->(∀x∈kids,x<1600)->
   ∃J,dy Q (h+2) (gp d i (i+2) ks kids) lo hi J (bn++(iC++bK))/\J.Perm (kids++(bh++(f++A)))/\bS (gp d i (i+2) ks kids)<=bS d+27/\d.keys.length<=(gp d i (i+2) ks kids).keys.length+1:=by
 obtain⟨s,X,r,g,N,af,hs,rfl,B,rfl,rfl,⟨C,m,q,t⟩,K⟩:=W.head (by rw[eH];omega);have B:s=d.keys[i]'I:=by rw[B,u6];rfl
 have Y:(d.kids.drop (i+1))[0]'(by rw[eH];omega)=d.kids[i+1]'p:=by rw[u6]
 rw[Y]at C q;obtain⟨o,u,v,rfl,_,L⟩:=C.j6;rw[v]at q;have t:2<=o.keys.length:=by rw[Option.some.inj q];exact t
 clear q;subst B;have D:=(show fz P (h+1) (some (d.keys[i]'I)) X (d.kids[i+1]'p) (d.kids[i+1]'p::u) N from⟨C,o,v,t⟩).in;obtain⟨x,hx⟩:=qM _ D.1;have M:=z _ (cJ (l:=d.keys) (n:=i) I);have Z:=dy.merge G L M (λc hc=>je (k2 (F.1 c hc) (F.2 _ rfl))) (λc hc=>je (k2 ((D.2.2 x hx).1 _ rfl) ((D.2.2 x hx).2 c hc)));have R:=x5 G L M (U4 (U _ _ v));have ag:=x4 (a:=j) (b:=o) (s:=d.keys[i]'I);refine⟨o,u++g,p,I,v,List.Perm.refl _,t,λQ ks kids hf S aa=>?_⟩;obtain⟨eM,ab,ac,T,ad⟩:=Z.fits I R.1 R.2 hf λx hx=>S x (by
  rcases cR.1 hx with hx|hx
  .exact iy _ (kt _ hx)
  .exact iy _ (iy _ (kt _ hx)))
 rw[lu,lu]at K;have H:=dy.build V K ab (λx hx=>S x (by
  rcases cR.1 hx with hx|hx
  .exact kt _ hx
  .exact iy _ (iy _ (iy _ hx))))
  (λs hs=>by
    rcases cR.1 hs with hs|hs
    .rcases cR.1 hs with hs|hs
     .exact z s (fq hs)
     .exact T s hs
    .exact z s (fZ hs))
  (λx hx=>by
    rcases cR.1 hx with hx|hx
    .rcases cR.1 hx with hx|hx
     .exact E x (fq hx)
     .exact aa x hx
    .exact E x (fZ hx))
 have e:gp d i (i+2) ks kids=⟨false,d.keys.take i++ks++d.keys.drop (i+1),[],d.kids.take i++kids++d.kids.drop (i+1+1)⟩:=rfl;rw[e];refine⟨_,by simpa[cO] using H,?_,AB h0 ad T I,?_⟩
 .have ay:(eM++g).Perm (kids++(f++(u++g))):=by
   have:=ac.append_right g;simpa[cO] using this
  refine(List.Perm.append_left bh ay).trans ?_;have az:=(sQ (l₁:=bh) (l₂:=kids)).append_right (f++(u++g));simpa[cO] using az
 .show d.keys.length<=(d.keys.take i++ks++d.keys.drop (i+1)).length+1
  simp only[cz,cF,eH];omega
end Go.Proofs.YtcmgnhkpfllinaaGreat
namespace Go.Proofs.YtcmgnhkpfllinaaGreat
variable{ks vs:O Key}{k:Key}{i:Nat}
variable {lo hi:au Key}{P:Nat->au aG}
def cT(ks:O Key)(k:Key):Nat:=ks.findIdx λs=>decide (¬bF s k)
theorem r7(ks:O Key)(k:Key):cT ks k<=ks.length:=List.findIdx_le_length
theorem qc{j:Nat}(h:j<cT ks k)(a:j<ks.length):bF ks[j] k:=by
 have:=List.not_of_lt_findIdx h;simpa using this
theorem r8(hs:ks.Pairwise bF){j:Nat}(h:cT ks k<=j)(b:j<ks.length):dL k ks[j]:=by
 have h1:cT ks k<ks.length:=I
 have h2:dL k ks[cT ks k]:=by
  have:=List.findIdx_getElem (p:=λs=>decide (¬bF s k)) (xs:=ks) (w:=h1);exact DR.1 (b2 this)
 rcases dV (cT ks k) j with a|a
 .exact je (k2 h2 (lV.1 hs _ _ h1 b a))
 .have:cT ks k=j:=I
  subst this;exact h2
theorem JD{α:Type}{f:α->ao}{L:O α}(h1:∀x∈L.take i,f x=true)(h2:∀x∈L.drop i,f x=false):L.filter f=L.take i:=by
 conv=>lhs;rw[←ga i L]
 rw[gE,jU.2 h1,m6.2 (λx hx=>by rw[h2 x hx];decide),fp]
theorem DW{α:Type}{f:α->ao}{L:O α}(h1:∀x∈L.take i,f x=false)(h2:∀x∈L.drop i,f x=true):L.filter f=L.drop i:=by
 conv=>lhs;rw[←ga i L]
 rw[gE,m6.2 (λx hx=>by rw[h1 x hx];decide),jU.2 h2,hK]
theorem AD{x:aP}(h:x∈(ks.zip vs).take i):∃ (j:Nat) (a:j<ks.length),j<i/\x.1=ks[j]:=by
 obtain⟨j,a,rfl⟩:=List.mem_take_iff_getElem.1 h;have h1:j<(ks.zip vs).length:=I
 rw[n2]at h1;exact⟨j,I,I,by rw[u7]⟩
theorem AE{x:aP}(h:x∈(ks.zip vs).drop i):∃ (j:Nat) (a:j<ks.length),i<=j/\x.1=ks[j]:=by
 obtain⟨j,a,rfl⟩:=List.mem_drop_iff_getElem.1 h;have h1:i+j<(ks.zip vs).length:=I
 rw[n2]at h1;exact⟨i+j,I,I,by rw[u7]⟩
theorem JE{v:Key}(hs:ks.Pairwise bF):gX (ks.zip vs) k v=(ks.zip vs).take (cT ks k)++(k,v)::(ks.zip vs).drop (if ks[cT ks k]? =some k then cT ks k+1 else cT ks k):=by
 unfold gX;rw[JD (f:=λp:aP=>decide (bF p.1 k)) (i:=cT ks k) (λx hx=>by
  obtain⟨j,a,h1,e⟩:=AD hx;rw[e];exact dh (qc h1 a)) (λx hx=>by
  obtain⟨j,a,h1,e⟩:=AE hx;rw[e];exact gS (r8 hs h1 a))]
 congr 2
 split
 .rename_i he
  obtain⟨aI,he⟩:=kn.1 he;refine DW (λx hx=>?_) (λx hx=>?_)
  .obtain⟨j,a,h1,e⟩:=AD hx
   rw[e];refine gS ?_;rcases dV j (cT ks k) with h2|h2
   .exact kG (qc h2 a)
   .have:j=cT ks k:=I
    subst this;rw[he];exact k1 _
  .obtain⟨j,a,h1,e⟩:=AE hx
   rw[e];refine dh ?_;have:=lV.1 hs _ j aI a I;rwa[he]at this
 .rename_i he
  refine DW (λx hx=>?_) (λx hx=>?_)
  .obtain⟨j,a,h1,e⟩:=AD hx
   rw[e];exact gS (kG (qc h1 a))
  .obtain⟨j,a,h1,e⟩:=AE hx
   rw[e];refine dh ?_;rcases qa.1 (r8 hs h1 a) with h2|h2
   .exact h2
   .have aI:cT ks k<ks.length:=I
    rcases dV (cT ks k) j with b|b
    .exact k2 (r8 hs (bk _) aI) (lV.1 hs _ _ aI a b)
    .have:j=cT ks k:=I
     subst this;exact absurd ((dR aI).trans (congrArg some h2.symm)) he
end Go.Proofs.YtcmgnhkpfllinaaGreat
namespace Go.Proofs.YtcmgnhkpfllinaaGreat
open Go aS Go.Proofs.Tryz
variable{n:aG}{α:Type}{i k a b:Nat}{w:J}{s t:ad}{l:O UInt8}{T:TypeId}{V B:U1}
theorem JF(n k:Nat):bQ n (k+1)=bQ (n/256) k++ [UInt8.ofNat (n%256)]:=by
 unfold bQ;rw[List.range_succ,fP]
 congr 1
 .apply u9
  intro j a;have:=jS.1 a;rw[show k+1-1-j=(k-1-j)+1 from I,Nat.pow_succ,Nat.mul_comm,←Nat.div_div_eq_div_mul]
 .simp
theorem r9:∀ (k n:Nat),n<256^k->iG (bQ n k)=n
 |0,n,h=>by
  have:n=0:=by simpa using h
  subst this;rfl
 |k+1,n,h=>by
  rw[Nat.pow_succ]at h
  rw[JF,Ap,r9 k (n/256) I,r0 (hG _ I)]
  omega
def cM(n:aG):Prop:=hT n\/x1 n
def oL(l:Key):O UInt8:=UInt8.ofNat l.length::l
def g8(n:aG)(i:Nat):O UInt8:=oL (n.keys.getD i [])++if n.leaf then oL (n.vals.getD i []) else bQ (n.kids.getD (i+1) 0) 2
def iH(n:aG)(i m:Nat):O UInt8:=((List.range' i m).map (g8 n)).flatten
theorem JG(n:aG)(i m:Nat):iH n i (m+1)=g8 n i++iH n (i+1) m:=rfl
theorem AF(n:aG)(m:Nat):iH n 0 (m+1)=iH n 0 m++g8 n m:=by
 unfold iH;rw[List.range'_concat,fP,u_];simp
def preB(n:aG):O UInt8:=UInt8.ofNat n.keys.length::if n.leaf then [] else bQ (n.kids.getD 0 0) 2
def j7(n:aG):O UInt8:=preB n++iH n 0 n.keys.length
theorem oM(l:Key):(oL l).length=l.length+1:=rfl
theorem cM.keys(h:cM n):x0 n:=by
 obtain h|h:=h
 .exact h.tox0
 .exact h.tox0
theorem cM.vals(h:cM n):∀v∈n.vals,v.length<=24:=by
 obtain h|h:=h
 .exact h.vals
 .rw[h.vals];simp
theorem cM.kids(h:cM n):∀k∈n.kids,k<1600:=by
 obtain h|h:=h
 .rw[h.kids];simp
 .exact h.kids
theorem x6{l:O α}{d:α}(h:i<l.length):l.getD i d∈l:=by
 rw[ft,dR h];exact cJ h
theorem AG(h:cM n)(hi:i<n.keys.length):(cellsOf n)[i]? =some (g8 n i).length:=by
 unfold cellsOf g8;obtain h|h:=h
 .rw[h.leaf]
  simp only[if_true];have a:i<n.vals.length:=by rw[h.len];exact hi
  rw[List.getElem?_zipWith,dR hi,dR a];simp[ft,dR hi,dR a,oM];omega
 .rw[h.inner]
  simp only[gv,if_false];rw[mz,dR hi];simp[ft,dR hi,oM,dI];omega
theorem r_(h:cM n):(cellsOf n).length=n.keys.length:=by
 unfold cellsOf;obtain h|h:=h
 .rw[h.leaf];simp[h.len]
 .rw[h.inner];simp
theorem AH(h:cM n):∀m,m<=n.keys.length->(iH n 0 m).length=((cellsOf n).take m).sum
 |0,_=>by simp[iH]
 |m+1,b=>by
  have a:m<(cellsOf n).length:=by rw[r_ h];omega
  have h1:=AG h (i:=m) I
  rw[dR a]at h1
  have h1:(cellsOf n)[m]=(g8 n m).length:=Option.some.inj h1
  rw[AF,cz,AH h m I,r6 a,h1]
theorem AI(h:cM n):(j7 n).length=bS n:=by
 have e:((cellsOf n).take n.keys.length).sum=(cellsOf n).sum:=by rw[dO (by rw[r_ h];exact bk _)]
 unfold j7 bS preB;rw[cz,AH h _ (bk _),e]
 cases n.leaf<;>simp[dI]
theorem x7(h:cM n):2*n.keys.length<=bS n:=by
 have h1:∀l:O Nat,(∀x∈l,2<=x)->2*l.length<=l.sum:=by
  intro l
  induction l with
  |nil=>simp
  |cons a l c=>
   intro h;have:=h a U9;have:=c λx hx=>h x (by simp[hx]);simp only[fi,sP];omega
 have h2:=h1 (cellsOf n) (by
  intro x hx;obtain⟨i,hi,rfl⟩:=fe hx;have d:i<n.keys.length:=by rwa[←r_ h]
  have b:=AG h d;rw[dR hi]at b;rw[Option.some.inj b];unfold g8;rw[cz,oM];split
  .rw[oM];omega
  .rw[dI];omega)
 rw[r_ h]at h2;unfold bS;omega
abbrev Rd:=O UInt8×ao
def iI(r:Rd)(k:Nat):O UInt8×Rd:=if r.2=false\/r.1.length<k then ([],(r.1,false)) else (r.1.take k,(r.1.drop k,true))
def rdNum(r:Rd)(k:Nat):Nat×Rd:=(if (iI r k).1.length=k then iG (iI r k).1 else 0,(iI r k).2)
def kH(r:Rd):O UInt8×Rd:=iI (rdNum r 1).2 (rdNum r 1).1
def qd(s:aG×Rd):aG×Rd:=
 let t:=kH s.2
 if s.1.leaf then (⟨s.1.leaf,s.1.keys++ [t.1],s.1.vals++ [(kH t.2).1],s.1.kids⟩,(kH t.2).2)
 else (⟨s.1.leaf,s.1.keys++ [t.1],s.1.vals,s.1.kids++ [(rdNum t.2 2).1]⟩,(rdNum t.2 2).2)
def jf(s:aG×Rd):Nat->aG×Rd
 |0=>s
 |i+1=>qd (jf s i)
def nA(leaf:ao)(r:Rd):aG×Rd:=if leaf then (⟨true,[],[],[]⟩,r) else (⟨false,[],[],[(rdNum r 2).1]⟩,(rdNum r 2).2)
def jv(leaf:ao)(b:O UInt8):aG×Rd:=jf (nA leaf (rdNum (b,true) 1).2) (rdNum (b,true) 1).1
def mN(leaf:ao)(b:O UInt8)(n:aG):Prop:=cM n/\n.leaf=leaf/\bS n<=232/\j7 n=b
theorem DX(a b:O UInt8):iI (a++b,true) a.length=(a,(b,true)):=by
 unfold iI;rw[if_neg U9];simp
theorem x8{n:Nat}(b:O UInt8)(h:n<256^k):rdNum (bQ n k++b,true) k=(n,(b,true)):=by
 unfold rdNum;have:=DX (bQ n k) b;rw[dI]at this;rw[this];simp[dI,r9 k n h]
theorem DY(n:Nat)(h:n<256): [UInt8.ofNat n]=bQ n 1:=by
 simp[bQ,kr h]
theorem AJ(l:Key)(b:O UInt8)(h:l.length<256):kH (oL l++b,true)=(l,(b,true)):=by
 have e:oL l++b=bQ l.length 1++(l++b):=by
  rw[←DY _ h];rfl
 unfold kH;rw[e,x8 _ (by simpa using h)];exact DX l b
theorem JI(h:cM n)(hi:i<n.keys.length)(b:O UInt8):
 qd (⟨n.leaf,n.keys.take i,n.vals.take i,if n.leaf then [] else n.kids.take (i+1)⟩,(g8 n i++b,true))=
  (⟨n.leaf,n.keys.take (i+1),n.vals.take (i+1),if n.leaf then [] else n.kids.take (i+2)⟩,(b,true)):=by
 have e:n.keys.getD i []∈n.keys:=x6 hi;have f:=(h.keys.ok _ e).2;have d:n.keys.take (i+1)=n.keys.take i++ [n.keys.getD i []]:=by
  rw[take_succ _ hi,ft,dR hi];rfl
 unfold qd;unfold g8;obtain h|h:=h
 .have a:i<n.vals.length:=by rw[h.len];exact hi
  have c:n.vals.getD i []∈n.vals:=x6 a;have ev:n.vals.take (i+1)=n.vals.take i++ [n.vals.getD i []]:=by
   rw[take_succ _ a,ft,dR a];rfl
  simp only[h.leaf,if_true];rw[cO,AJ _ _ I];simp only;rw[AJ _ _ (U4 (h.vals _ c)),d,ev]
 .have a:i+1<n.kids.length:=by rw[h.len];omega
  have c:n.kids.getD (i+1) 0∈n.kids:=x6 a;have ev:n.kids.take (i+2)=n.kids.take (i+1)++ [n.kids.getD (i+1) 0]:=by
   rw[take_succ _ a,ft,dR a];rfl
  simp only[h.inner,gv,if_false,h.vals];rw[cO,AJ _ _ I];simp only;rw[x8 _ (by have:=h.kids _ c;show _<65536;omega),d,ev];simp
theorem DZ(h:cM n):∀i,i<=n.keys.length->
 jf (⟨n.leaf,[],[],if n.leaf then [] else n.kids.take 1⟩,(iH n 0 n.keys.length,true)) i=(⟨n.leaf,n.keys.take i,n.vals.take i,if n.leaf then [] else n.kids.take (i+1)⟩,(iH n i (n.keys.length-i),true))
 |0,_=>by simp[jf]
 |i+1,hi=>by
  rw[jf,DZ h i I,show n.keys.length-i=n.keys.length-(i+1)+1 from I,JG]
  exact JI h I _
theorem AK(h:cM n)(g:bS n<=232):jv n.leaf (j7 n)=(n,([],true)):=by
 have i:=x7 h;unfold jv;have b:rdNum (j7 n,true) 1=(n.keys.length,((if n.leaf then [] else bQ (n.kids.getD 0 0) 2)++iH n 0 n.keys.length,true)):=by
  have:j7 n=bQ n.keys.length 1++((if n.leaf then [] else bQ (n.kids.getD 0 0) 2)++iH n 0 n.keys.length):=by
   rw[←DY _ I];rfl
  rw[this,x8 _ (by show _<256;omega)]
 rw[b];simp only;have c:nA n.leaf ((if n.leaf then [] else bQ (n.kids.getD 0 0) 2)++iH n 0 n.keys.length,true)=(⟨n.leaf,[],[],if n.leaf then [] else n.kids.take 1⟩,(iH n 0 n.keys.length,true)):=by
  unfold nA;obtain h|h:=h
  .simp[h.leaf]
  .have hd:0<n.kids.length:=by rw[h.len];omega
   have d:n.kids.getD 0 0∈n.kids:=x6 hd;have:=h.kids _ d;simp only[h.inner,gv,if_false];rw[x8 _ (by show _<65536;omega)]
   cases e:n.kids with
   |nil=>rw[e]at hd;simp at hd
   |cons a l=>simp
 rw[c,DZ h _ (bk _)];have f:iH n n.keys.length (n.keys.length-n.keys.length)=[]:=by rw[o5];rfl
 rw[f,dO (bk _)];obtain h|h:=h
 .rw[dO (by rw[h.len];exact bk _)]
  have:=h.kids;have:=h.leaf
  cases n
  simp_all
 .rw[dO (by rw[h.vals];simp),dO (by rw[h.len];exact bk _)]
  have:=h.inner
  cases n
  simp_all
theorem mN.uniq{leaf:ao}{b:O UInt8}{m:aG}(h1:mN leaf b n)(h2:mN leaf b m):n=m:=by
 obtain⟨a1,a2,a3,a4⟩:=h1;obtain⟨cH,ck,d,e⟩:=h2;have a:=AK a1 a3;have c:=AK cH d;rw[a2,a4]at a;rw[ck,e,a]at c;exact congrArg Prod.fst c
def ue(n:Nat):Nat:=if n%2=1 then (n/2)^^^0x82f63b78 else n/2
def x9:Nat->Nat->Nat
 |0,n=>n
 |k+1,n=>ue (x9 k n)
def D1(n:Nat)(c:UInt8):Nat:=x9 8 (n^^^c.toNat)
def l_(n:Nat)(l:O UInt8):Nat:=l.foldl D1 n
def jw(l:O UInt8):Nat:=4294967295-l_ 4294967295 l
theorem JJ{n:Nat}(h:n<4294967296):ue n<4294967296:=by
 unfold ue;split
 .exact Nat.xor_lt_two_pow (n:=32) (by show _<4294967296;omega) (by decide)
 .omega
theorem AL{n:Nat}(h:n<4294967296):∀k,x9 k n<4294967296
 |0=>h
 |k+1=>JJ (AL h k)
theorem JK{n:Nat}(h:n<4294967296)(c:UInt8):D1 n c<4294967296:=
 AL (Nat.xor_lt_two_pow (n:=32) h (by have:=mv c;show _<4294967296;omega)) 8
theorem x_:∀ (l:O UInt8) {n:Nat},n<4294967296->l_ n l<4294967296
 | [],_,h=>h
 |c::l,_,h=>x_ l (JK h c)
theorem D2(n:Nat)(a b:O UInt8):l_ n (a++b)=l_ (l_ n a) b:=by simp[l_,List.foldl_append]
theorem AM(l:O UInt8):jw l<4294967296:=by unfold jw;omega
structure jg where
 kind:Nat
 gen:Nat
 body:O UInt8
 deriving DecidableEq
structure oN(p:jg):Prop where
 b1:1<=p.kind
 cf:p.kind<=4
 gen:p.gen<18446744073709551616
 body:p.body.length<=232
def hD:O UInt8:=[83,84,78,67]
def fh(no:Nat)(p:jg):O UInt8:=hD++([1,UInt8.ofNat p.kind]++(bQ p.body.length 2++(bQ no 4++bQ p.gen 8)))
def fm(p:jg):O UInt8:=p.body++List.replicate (232-p.body.length) 0
def eX(no:Nat)(p:jg):O UInt8:=fh no p++(bQ (jw (fh no p++fm p)) 4++fm p)
theorem oO(no:Nat)(p:jg):(fh no p).length=20:=by simp[fh,hD,dI]
theorem ya{p:jg}(h:oN p):(fm p).length=232:=by
 have:=h.body;simp[fm];omega
theorem uf{p:jg}(no:Nat)(h:oN p):(eX no p).length=256:=by simp[eX,oO,dI,ya h]
def sumOf(l:O UInt8):Nat:=jw (l.take 20++l.drop 24)
def dt(l:O UInt8)(a k:Nat):Nat:=iG ((l.drop a).take k)
def dX(no:Int)(l:O UInt8):Except Int jg:=
 if l.length≠256 then .error 9
 else if l.take 4≠hD then .error 4
 else if l.getD 4 0≠1 then .error 12
 else if sumOf l≠dt l 20 4 then .error 5
 else if¬(1<=(l.getD 5 0).toNat/\(l.getD 5 0).toNat<=4)\/232<dt l 6 2\/(l.drop (24+dt l 6 2)).all (λc=>c==0)=false then .error 4
 else if¬(0<=no/\no<1600)\/(dt l 8 4:Int)≠no then .error 1
 else .ok ⟨(l.getD 5 0).toNat,dt l 12 8,(l.drop 24).take (dt l 6 2)⟩
theorem drop_left'{a b:O α}{n:Nat}(h:a.length=n):(a++b).drop n=b:=by subst h;exact List.drop_left
theorem nB{a b:O α}{n:Nat}(h:a.length=n):(a++b).take n=a:=by subst h;exact List.take_left
theorem ug{a b:O UInt8}{n m:Nat}(c:a.length=m)(h:n<256^k):dt (a++(bQ n k++b)) m k=n:=by
 unfold dt;rw[drop_left' c,nB (dI n k),r9 k n h]
theorem yb{no:Nat}{p:jg}(n:no<1600)(h:oN p):dX no (eX no p)=.ok p:=by
 have o:=h.body;have e:=h.b1;have f:=h.cf;have hg:=h.gen;have ht:=ya h;have b:=oO no p;have hc:=AM (fh no p++fm p);have b6:dt (eX no p) 20 4=jw (fh no p++fm p):=ug b (by show _<4294967296;exact hc);have a:eX no p=(hD++ [1,UInt8.ofNat p.kind])++(bQ p.body.length 2++((bQ no 4++bQ p.gen 8)++(bQ (jw (fh no p++fm p)) 4++fm p))):=by
  show fh no p++_=_;rw[show fh no p=(hD++ [1,UInt8.ofNat p.kind])++(bQ p.body.length 2++(bQ no 4++bQ p.gen 8)) by simp[fh]];simp only[cO]
 have bx:dt (eX no p) 6 2=p.body.length:=by rw[a];exact ug rfl (by show _<65536;omega)
 have g:eX no p=((hD++ [1,UInt8.ofNat p.kind])++bQ p.body.length 2)++(bQ no 4++(bQ p.gen 8++(bQ (jw (fh no p++fm p)) 4++fm p))):=by rw[a];simp only[cO]
 have i:dt (eX no p) 8 4=no:=by rw[g];exact ug (by simp[hD,dI]) (by show _<4294967296;omega)
 have j:eX no p=((hD++ [1,UInt8.ofNat p.kind])++(bQ p.body.length 2++bQ no 4))++(bQ p.gen 8++(bQ (jw (fh no p++fm p)) 4++fm p)):=by rw[a];simp only[cO]
 have bA:dt (eX no p) 12 8=p.gen:=by rw[j];exact ug (by simp[hD,dI]) (by show _<18446744073709551616;exact hg)
 have k:eX no p=(fh no p++bQ (jw (fh no p++fm p)) 4)++fm p:=by simp[eX]
 have l:(fh no p++bQ (jw (fh no p++fm p)) 4).length=24:=by simp[b,dI]
 have d24:(eX no p).drop 24=fm p:=by rw[k];exact drop_left' l
 have t4:(eX no p).take 4=hD:=by rw[a];rfl
 have m:(eX no p).getD 4 0=1:=by rw[a];rfl
 have d:((eX no p).getD 5 0).toNat=p.kind:=by rw[a];show(UInt8.ofNat p.kind).toNat=p.kind;exact r0 I
 have s:sumOf (eX no p)=jw (fh no p++fm p):=by
  unfold sumOf;rw[d24,show(eX no p).take 20=fh no p from nB b]
 unfold dX;rw[if_neg (by rw[uf no h];simp),if_neg (by rw[t4];simp),if_neg (by rw[m];simp),if_neg (by rw[s,b6];simp),if_neg (by
  rw[d,bx];rintro(h1|h1|h1)
  .exact h1 ⟨e,f⟩
  .omega
  .rw[List.all_eq_false]at h1
   obtain⟨c,hc,h1⟩:=h1;rw[←lu,d24]at hc;unfold fm at hc;rw[List.drop_left]at hc;exact h1 (by rw[va hc];rfl)),if_neg (by rw[i];rintro(h1|h1)<;>omega),d,bx,bA,d24]
 have:(fm p).take p.body.length=p.body:=by unfold fm;exact List.take_left
 rw[this]
def iJ(s:ad):aa:=s
abbrev g0(w:J)(s:ad):Prop:=∀k,aD s k->w<=k
theorem g0.mono{w':J}(h:g0 w' s)(hx:w.heap.size<=w'.heap.size):g0 w s:=λk a=>eO hx (h k a)
theorem len8(h:Src 1 w s (aC l)):s.len=l.length:=by have:=h.len;rw[de]at this;omega
theorem mO(h:aR 1 T w s (aC l)):s.len=l.length:=by have:=h.1;rw[de]at this;omega
theorem oP{lo hi:Nat}(h:Src 1 w s (aC l))(hc:s.len<=s.cap)(h1:lo<=hi)(h2:hi<=s.len):Src 1 w ⟨a7 s.a 1 lo s.cap,hi-lo,s.cap-lo⟩ (aC ((l.drop lo).take (hi-lo))):=by
 have:=Src.sub h hc h1 h2;simpa[aC,m4,mu] using this
def eY(ps:O (ad×O UInt8)):O UInt8:=(ps.map (·.2)).flatten
theorem D3(a:O (ad×O UInt8))(p:ad×O UInt8):eY (a++ [p])=eY a++p.2:=by simp[eY]
theorem JL(ps:O (ad×O UInt8))(j:Nat):(eY (ps.take j)).length<=(eY ps).length:=by
 have h:ps=ps.take j++ps.drop j:=(ga j ps).symm;have:(eY ps).length=(eY (ps.take j)).length+(eY (ps.drop j)).length:=by
  conv=>lhs;rw[h]
  unfold eY;rw[fP,u_,cz]
 omega
theorem D4(ps:O (ad×O UInt8)){j:Nat}(a:j<ps.length):(ps[j]).2.length<=(eY ps).length:=by
 have h:ps=ps.take j++ps[j]::ps.drop (j+1):=by rw[←kp a,ga]
 have:(eY ps).length=(eY (ps.take j)).length+((ps[j]).2.length+(eY (ps.drop (j+1))).length):=by
  conv=>lhs;rw[h]
  unfold eY;rw[fP,u_,cz,hJ,vb,cz]
 omega
theorem yc(ps:O (ad×O UInt8))(hs:Src 1 w s (ps.map λp=>iJ p.1))(f:∀p∈ps,Src 1 w p.1 (aC p.2))(t:(eY ps).length<=100000)(u:ps.length<=100000):
 aH aj 103 #[s] w (λv w'=>∃a:ad,v=a/\aR 1 5 w' a (aC (eY ps))/\Ext w w'/\g0 w a):=by
 refine okF (ae.oy s) ax.oy func103 ?_;(delta ae.oy ak aO al ar;dsimp only);have x:s.len=ps.length:=by have:=hs.len;rw[cU]at this;omega
 refine⟨λa i w'=>∃j:Nat,i=j/\j<=ps.length/\aR 1 5 w' a (aC (eY (ps.take j)))/\Ext w w'/\g0 w a,λ_ i _=>((ps.length:Int)-i).toNat,⟨0,rfl,cI _,aR.none 1 5 _,.refl _ _,λk c=>(fH k c).elim⟩,?_⟩;rintro a _ w1 ⟨j,rfl,y,b,hx,hf⟩;refine⟨λaI=>?_,λd=>?_⟩
 .have aI:j<ps.length:=U4 (b2 aI)
  obtain⟨A,av,g,l⟩:=(hs.ext hx).at (i:=j) (v:=iJ (ps[j]).1) (by simp[aI]);have e:=(f _ (cJ aI)).ext hx;have h1:=D4 ps aI;have h2:=JL ps j;have m:=len8 e;have o:=mO b;obtain⟨s2,ai,ay,az,z,q,r⟩:=l6.append (cB:=39) e b (jd _) (by rw[m,o];omega);rw[bq (n:=(j:Int)+1) I I];refine⟨A,av,g,(ps[j]).1,l,s2,ai,ay,⟨j+1,I,I,?_,Ext.d_ hx q hf,λk c=>?_⟩,?_⟩
  .rw[take_succ _ aI]
   rw[D3,nx];exact az
  .rcases r k c with h|h
   .exact hf k h
   .exact eO hx.size h
  .show((ps.length:Int)-((j:Int)+1)).toNat<((ps.length:Int)-(j:Int)).toNat
   omega
 .have d:j=ps.length:=U4 (cr d)
  subst d;rw[ic]at b;exact⟨a,rfl,b,hx,hf⟩
theorem JM(hs:Src 1 w s (aC l))(hc:s.len<=s.cap)(b:a+k<=l.length)(c:l.length<=1000000000000):
 aH aj 170 #[s,a,k] w (λv w'=>v=.tuple #[.slice (a7 s.a 1 a s.cap) k (s.cap-a),true]/\w=w'):=by
 have d:=len8 hs;refine okF (ae.l4 s a k) ax.l4 func170 ?_;delta ae.l4 ak ar;rw[bq (n:=(s.len:Int)-(a:Int)) I I,bq (n:=(a:Int)+(k:Int)) I I];refine⟨λh=>?_,λ_=>⟨⟨I,I⟩,⟨I,I⟩,?_,rfl⟩⟩
 .simp only[jE,b8]at h;omega
 .rw[show Int.toNat ((a:Int)+(k:Int))-Int.toNat (a:Int)=k from I];rfl
theorem JN(hs:Src 1 w s (aC l))(b:l.length<a+k)(c:a<=l.length)(d:l.length<=1000000000000)(f:k<=1000000000000):
 aH aj 170 #[s,a,k] w (λv w'=>v=.tuple #[(),false]/\w=w'):=by
 have g:=len8 hs;refine okF (ae.l4 s a k) ax.l4 func170 ?_;delta ae.l4 ak ar;rw[bq (n:=(s.len:Int)-(a:Int)) I I,bq (n:=(a:Int)+(k:Int)) I I];have e:(((decide ((a:Int)<0))||(decide ((k:Int)<0)))||(decide ((a:Int)>(s.len:Int)))||(decide ((k:Int)>((s.len:Int)-(a:Int)))))=true:=by
  simp only[jE,b8];omega
 exact⟨λ_=>⟨rfl,rfl⟩,λh=>(by rw[e]at h;cases h)⟩
theorem rN(hs:Src 1 w s (aC l))(hc:s.len<=s.cap)(d:a+k<=l.length)(f:l.length<=100000):
 aH aj 194 #[s,a,k] w (λv w'=>∃b:ad,v=.tuple #[b,true]/\aR 1 5 w' b (aC ((l.drop a).take k))/\Ext w w'/\g0 w b):=by
 have g:=len8 hs;refine okF (ae.rN s a k) ax.rN func194 ?_;delta ae.rN ik bH;refine(JM hs hc d I).use ?_;rintro _ _ ⟨rfl,rfl⟩;have c:=oP hs hc (lo:=a) (hi:=a+k) I I;rw[show a+k-a=k from I]at c;refine⟨⟨a7 s.a 1 a s.cap,k,s.cap-a⟩,true,rfl,(Aq c (by simp;omega)).use ?_⟩;rintro _ w1 ⟨b,rfl,e,hx,hf⟩;exact⟨b,rfl,b,rfl,e,hx,hf⟩
theorem JO(hs:Src 1 w s (aC l))(d:k<=8)(e:l.length<k):
 aH aj 106 #[s,.int .i64 (0:Nat),k] w (λv w'=>v=.tuple #[.int .u64 0,false]/\w=w'):=by
 refine okF (ae.kE s (0:Nat) k) ax.kE func106 ?_;(delta ae.kE ik ak bP aO cq ar;dsimp only);refine(JN hs (a:=0) I I I I).use ?_;rintro _ _ ⟨rfl,rfl⟩;refine⟨⟨none,0,0⟩,false,rfl,cc (λb w'=>b=true/\w=w') (λq c=>⟨λ_=>c _ _ ⟨rfl,rfl⟩,λh=>by simp at h⟩) ?_⟩;rintro _ _ ⟨rfl,rfl⟩;exact⟨λ_=>⟨rfl,rfl⟩,λh=>by simp at h⟩
theorem yd(b:a<4294967296):(BitVec.ofInt 32 (a:Int))=BitVec.ofNat 32 a:=by simp
theorem ye(c:a<4294967296)(d:b<4294967296):pt .u32 (a:Int) (b:Int)=((a^^^b:Nat):Int):=by
 unfold pt;show IntKind.u32.wrap (((BitVec.ofInt 32 (a:Int)^^^BitVec.ofInt 32 (b:Int)).toNat:Nat):Int)=_;rw[yd c,yd d,BitVec.toNat_xor,BitVec.toNat_ofNat,BitVec.toNat_ofNat,kr (by simpa using c),kr (by simpa using d)];have:a^^^b<4294967296:=Nat.xor_lt_two_pow (n:=32) c d;rw[zz I I]
theorem JP(c:a<4294967296)(d:b<4294967296):jZ .u32 (a:Int) (b:Int)=((a&&&b:Nat):Int):=by
 unfold jZ;show IntKind.u32.wrap (((BitVec.ofInt 32 (a:Int)&&&BitVec.ofInt 32 (b:Int)).toNat:Nat):Int)=_;rw[yd c,yd d,BitVec.toNat_and,BitVec.toNat_ofNat,BitVec.toNat_ofNat,kr (by simpa using c),kr (by simpa using d)];have:a&&&b<=a:=Nat.and_le_left;rw[zz I I]
theorem JQ{n:Nat}(b:n<4294967296):
 pt .u32 (Int.fdiv (n:Int) (2^(min (Int.toNat 1) 32))) (jZ .u32 2197175160 (IntKind.wrap .u32 (0-(jZ .u32 (n:Int) 1))))=((ue n:Nat):Int):=by
 have c:jZ .u32 (n:Int) 1=((n%2:Nat):Int):=by
  have:=JP b (show 1<4294967296 from I);rw[Nat.and_one_is_mod]at this;exact this
 have d:Int.fdiv (n:Int) (2^(min (Int.toNat 1) 32))=((n/2:Nat):Int):=by
  rw[Int.fdiv_eq_ediv_of_nonneg _ (by decide)];rfl
 rw[c,d];unfold ue;rcases Nat.mod_two_eq_zero_or_one n with h|h
 .rw[h,if_neg I]
  have a:jZ .u32 2197175160 (IntKind.wrap .u32 (0-((0:Nat):Int)))=((0:Nat):Int):=by decide+kernel
  rw[a,ye I I,Nat.xor_zero]
 .rw[h,if_pos rfl]
  have a:jZ .u32 2197175160 (IntKind.wrap .u32 (0-((1:Nat):Int)))=((2197175160:Nat):Int):=by decide+kernel
  rw[a,ye I I]
theorem rR{n:Nat}(hs:Src 1 w s (aC l))(e:n<4294967296)(h:l.length<=1000000):
 aH aj 221 #[.int .u32 n,s] w (λv w'=>v=.int .u32 (l_ n l:Nat)/\w=w'):=by
 have o:=len8 hs;refine okF (ae.rR n s) ax.rR func221 ?_;(delta ae.rR ak aO cq ar;dsimp only);refine⟨λm i w'=>∃j:Nat,i=j/\j<=l.length/\m=((l_ n (l.take j):Nat):Int)/\w=w',λ_ i _=>((l.length:Int)-i).toNat,⟨0,rfl,cI _,rfl,rfl⟩,?_⟩;rintro _ _ _ ⟨j,rfl,p,rfl,rfl⟩;refine⟨λaI=>?_,λa=>?_⟩
 .have aI:j<l.length:=U4 (b2 aI)
  obtain⟨A,av,f,g⟩:=hs.at (oG aI);have c:=x_ (l.take j) e;have hc:=mv (l[j]);have hx:=Nat.xor_lt_two_pow (n:=32) c (show(l[j]).toNat<4294967296 from I);refine⟨A,av,f,_,g,λm i w'=>∃k:Nat,i=k/\k<=8/\m=((x9 k (l_ n (l.take j)^^^(l[j]).toNat):Nat):Int)/\w=w',λ_ i _=>((8:Int)-i).toNat,⟨0,rfl,I,?_,rfl⟩,?_⟩
  .rw[zz I I,ye c I];rfl
  rintro _ _ _ ⟨k,rfl,q,rfl,rfl⟩;refine⟨λd=>?_,λb=>?_⟩
  .have d:k<8:=U4 (b2 d)
   rw[JQ (AL hx k),bq (n:=(k:Int)+1) I I];refine⟨by decide,⟨k+1,I,I,rfl,rfl⟩,?_⟩;show((8:Int)-((k:Int)+1)).toNat<((8:Int)-(k:Int)).toNat;omega
  .have b:k=8:=U4 (cr b)
   subst b;rw[bq (n:=(j:Int)+1) I I];refine⟨⟨j+1,I,I,?_,rfl⟩,?_⟩
   .rw[take_succ _ aI,D2];rfl
   .show((l.length:Int)-((j:Int)+1)).toNat<((l.length:Int)-(j:Int)).toNat
    omega
 .have a:j=l.length:=U4 (cr a)
  subst a;rw[ic];exact⟨rfl,rfl⟩
theorem JR{n:Nat}(h:n<4294967296):4294967295^^^n=4294967295-n:=by
 apply Nat.eq_of_testBit_eq;intro i;have h1:(4294967295-n).testBit i=(decide (i<32)&& !n.testBit i):=by
  have:=Nat.testBit_two_pow_sub_succ (n:=32) (x:=n) (by simpa using h) i;rw[←this];congr 1;omega
 have h2:(4294967295:Nat).testBit i=decide (i<32):=by
  have:=Nat.testBit_two_pow_sub_one 32 i;exact this
 rw[Nat.testBit_xor,h1,h2];by_cases hi:i<32
 .simp[hi]
 .have:n.testBit i=false:=by
   apply Nat.testBit_lt_two_pow;exact fO h (u3 (n:=2) I (show 32<=i from I))
  simp[hi,this]
theorem JS(ps:O (ad×O UInt8))(hs:Src 1 w s (ps.map λp=>iJ p.1))(e:∀p∈ps,Src 1 w p.1 (aC p.2))(h:(eY ps).length<=100000)(k:ps.length<=100000):
 aH aj 174 #[s] w (λv w'=>v=.int .u32 (jw (eY ps):Nat)/\w=w'):=by
 refine okF (ae.xr s) ax.xr func174 ?_;(delta ae.xr ak aO al ot ar;dsimp only);have l:s.len=ps.length:=by have:=hs.len;rw[cU]at this;omega
 refine⟨λm i w'=>∃j:Nat,i=j/\j<=ps.length/\m=((l_ 4294967295 (eY (ps.take j)):Nat):Int)/\w=w',λ_ i _=>((ps.length:Int)-i).toNat,⟨0,rfl,cI _,rfl,rfl⟩,?_⟩;rintro _ _ _ ⟨j,rfl,o,rfl,rfl⟩;refine⟨λaI=>?_,λd=>?_⟩
 .have aI:j<ps.length:=U4 (b2 aI)
  obtain⟨A,av,f,g⟩:=hs.at (i:=j) (v:=iJ (ps[j]).1) (by simp[aI]);have c:=x_ (eY (ps.take j)) (n:=4294967295) (by decide);refine⟨A,av,f,(ps[j]).1,g,(rR (e _ (cJ aI)) c (U4 (D4 ps aI))).use ?_⟩;rintro _ _ ⟨rfl,rfl⟩;rw[bq (n:=(j:Int)+1) I I];refine⟨_,rfl,⟨j+1,I,I,?_,rfl⟩,?_⟩
  .rw[take_succ _ aI,←D2,D3]
  .show((ps.length:Int)-((j:Int)+1)).toNat<((ps.length:Int)-(j:Int)).toNat
   omega
 .have d:j=ps.length:=U4 (cr d)
  subst d;rw[ic];have c:=x_ (eY ps) (n:=4294967295) (by decide);refine⟨?_,rfl⟩;have:=ye (a:=4294967295) (b:=l_ 4294967295 (eY ps)) (by decide) c;rw[JR c]at this;exact congrArg _ this
theorem pP(hs:Src 1 w s (aC l))(hc:s.len<=s.cap)(e:l.length=256):
 aH aj 116 #[s] w (λv w'=>v=.int .u32 (sumOf l:Nat)/\Ext w w'):=by
 have f:=len8 hs;refine okF (ae.pP s) ax.pP func116 ?_;delta ae.pP an ot Y;have b:Ext w w.drew:=ag.drew (.refl _ _);refine⟨⟨by decide,I⟩,⟨by decide,I⟩,?_⟩;have h1:=oP (hs.ext b) hc (lo:=0) (hi:=20) I I;have h2:=oP (hs.ext b) hc (lo:=24) (hi:=s.len) I I;have c:∀o,Ext w.drew (w.drew.alloc o):=λo=>ag.alloc (.refl _ _) o;refine(JS [(⟨a7 s.a 1 0 s.cap,20-0,s.cap-0⟩,(l.drop 0).take (20-0)),(⟨a7 s.a 1 24 s.cap,s.len-24,s.cap-24⟩,(l.drop 24).take (s.len-24))] (s:=⟨some w.drew.heap.size,2,2⟩) (Src.new w.drew _ 2 rfl) ?_ ?_ ?_).use ?_
 .intro p d
  simp only[cZ,e2,e_]at d;obtain rfl|rfl:=d
  .exact h1.ext (c _)
  .exact h2.ext (c _)
 .simp[eY];omega
 .simp
 rintro _ w1 ⟨rfl,rfl⟩;refine⟨_,rfl,?_,b.trans (c _)⟩;have:eY [((⟨a7 s.a 1 0 s.cap,20-0,s.cap-0⟩:ad),(l.drop 0).take (20-0)),(⟨a7 s.a 1 24 s.cap,s.len-24,s.cap-24⟩,(l.drop 24).take (s.len-24))]=l.take 20++l.drop 24:=by
  simp only[eY,hJ,List.map_nil,vb,List.flatten_nil,fp,iV];rw[dO (l:=l.drop 24) (by rw[eH];omega)]
 rw[this];rfl
theorem aR.JT{vs us:O aa}{o:Nat}(h:aR 1 T w s vs)(d:s.a=some ⟨b,0,none⟩)(n:o+us.length<=s.len):
 aR 1 T (setCells w ⟨b,o,none⟩ 0 us) s (vs.take o++us++vs.drop (o+us.length)):=by
 obtain⟨h1,h2,g,i⟩:=h;obtain⟨j,_⟩|⟨p,c,e,k,f,ht⟩:=i
 .rw[j]at d;cases d
 .rw[d]at e
  cases e;have q:c.toList.length=s.cap:=by simpa using f
  have m:o+us.length<=c.size:=I
  rw[f_]at h1 f;refine⟨by simp;omega,h2,g,.inr ⟨b,_,d,bu.kB k us,by rw[ja];omega,?_⟩⟩;rw[f_]at ht⊢;rw[l1 _ _ _ m,←ht,pc,iX I,cO,cO,vc,vc,cF,iX I,
   dO (l:=c.toList.take o) (by rw[cF];omega),dO (l:=us) I,List.drop_take,show s.len-o-us.length=s.len-(o+us.length) from I]
theorem JU(w:J)(l:O UInt8):
 ∃w',Sem.run aj (convert 39 39 (.slice (some w) l.length l.length)) (w.alloc (.cells (aC l).toArray 5))=.ok (.slice (some w) l.length l.length) w'/\
  Src 1 w' ⟨some w.heap.size,l.length,l.length⟩ (aC l)/\Ext w w'/\w'.heap.size=w+1:=by
 refine⟨_,Go.Lib.run_convert_bytes_const (P:=aj) w 39 5 (aC l).toArray l.length l.length U3 U3,⟨by rw[de,f_],(λh=>by cases h),λa b=>?_⟩,ag.alloc (.refl _ _) _,by simp⟩
 cases b;have:=Ak (w:=w.alloc (.cells (aC l).toArray 5 ((aC l).toArray.size,(aC l).toArray.size+1))) (A:=w) (aC l) 0 (λj v c=>by
  rw[aA];show(World.cell? _ _)=_;have:(w.alloc (.cells (aC l).toArray 5 ((aC l).toArray.size,(aC l).toArray.size+1))).heap[w.heap.size]? =some (.cells (aC l).toArray 5 ((aC l).toArray.size,(aC l).toArray.size+1)):=by
   show(w.heap.push _)[w.heap.size]? =_;simp
  simp only[World.cell?,this];simpa using c)
 rw[de]at this;rw[f_];exact this
theorem AN(n:Nat):ig aj 5 n=(aC (List.replicate n 0)).toArray:=by
 rw[C7 (v:=.int .u8 0) U3 U3];simp[aC]
theorem JV{A Z T C:O UInt8}{n m:Nat}(av:A.length=n)(a:Z.length=m):(aC (A++(Z++T))).take n++aC C++(aC (A++(Z++T))).drop (n+m)=aC (A++(C++T)):=by
 have b:(aC (A++(Z++T))).take n=aC A:=by rw[nx];exact nB (by rw[de,av])
 have c:(aC (A++(Z++T))).drop (n+m)=aC T:=by rw[←cO,nx];exact drop_left' (by rw[de,cz,av,a])
 rw[b,c,nx,nx,cO]
theorem cw(w:J):Ext w w.drew:=ag.drew (.refl _ _)
theorem c5(w:J)(o:Obj):Ext w (w.alloc o):=ag.alloc (.refl _ _) o
theorem qe(w:J)(o:Obj):(w.alloc o).heap.size=w+1:=by simp
theorem yf{p:jg}{no:Nat}(hs:Src 1 w s (aC p.body))(aY:no<1600)(i:oN p):
 aH aj 56 #[no,.agg #[p.kind,.int .u64 p.gen,s]] w (λv w'=>∃D:ad,v=.tuple #[D,U8]/\aR 1 5 w' D (aC (eX no p))/\Ext w w'/\g0 w D):=by
 have a0:=i.b1;have a1:=i.cf;have a2:=i.gen;have a3:=i.body;have M:=len8 hs;refine okF (ae.wR no p.kind p.gen s) ax.wR func56 ?_;(delta ae.wR bP ak r1 Y al bH bO lE zZ ar z1 ot;dsimp only);refine a6 (vs:=[p.kind,.int .u64 p.gen,s]) rfl λw1 u E a4=>?_;have bo:∀ {w':J},Ext w1 w'->w'.cell? (Addr.add w 2)=some (.slice s.a s.len s.cap):=λhx=>by rw[aA];exact(u.ext hx).cell
 have aZ:∀ {w':J},Ext w1 w'->w'.cell? (Addr.add w 1)=some (.int .u64 p.gen):=λhx=>by rw[aA];exact(u.ext hx).cell
 refine Calls.mono (ae.Dw no w1 (λv w'=>v=true/\w1=w') ⟨by simp;omega,rfl⟩) ?_;rintro _ _ ⟨_,rfl,rfl,rfl⟩;refine⟨_,rfl,cc (λb w'=>b=false/\w1=w') (λq j=>⟨λh1=>by simp at h1,λh1=>⟨p.kind,u.cell,?_⟩⟩) ?_⟩
 .refine Calls.mono (ae.Dx p.kind w1 (λv w'=>v=true/\w1=w') ⟨by simp;omega,rfl⟩) ?_
  rintro _ _ ⟨_,rfl,rfl,rfl⟩;exact⟨_,rfl,j _ _ ⟨rfl,rfl⟩⟩
 rintro b _ ⟨rfl,rfl⟩;refine⟨nofun,λ_=>⟨s,bo (.refl _ _),λh=>(by have:=b2 h;omega),λ_=>aT ?_⟩⟩
 obtain⟨ai,ac,af,N,a5⟩:=JU w1 hD;refine⟨⟨some w1.heap.size,4,4⟩,ai,ac,p.kind,(u.ext N).cell,?_⟩;have ah:IntKind.wrap .u8 (p.kind:Int)=(((UInt8.ofNat p.kind).toNat:Nat):Int):=by rw[r0 I,vK I I]
 rw[ah];have y:=Src.new (T:=5) (sz:=1) ai (aC [1,UInt8.ofNat p.kind]) 2 rfl;have F:=c5 ai (.cells (aC [1,UInt8.ofNat p.kind]).toArray 5);obtain⟨f,am⟩:=U6 (ai.alloc (.cells (aC [1,UInt8.ofNat p.kind]).toArray 5));show an (ai.alloc (.cells (aC [1,UInt8.ofNat p.kind]).toArray 5)) _;rw[←am]at y F⊢;refine aT ?_;have G:=Src.new (T:=39) (sz:=1) f [.slice (some w1) 4 4,.slice (some ai) 2 2] 2 rfl;have z:=c5 f (.cells #[.slice (some w1) 4 4,.slice (some ai) 2 2] 39);obtain⟨A,O⟩:=U6 (f.alloc (.cells #[.slice (some w1) 4 4,.slice (some ai) 2 2] 39));have G:Src 1 A ⟨some f.heap.size,2,2⟩ [.slice (some w1) 4 4,.slice (some ai) 2 2]:=by rw[O];exact G
 rw[←O]at z⊢;have ao:Ext w1 A:=N.trans (F.trans z);refine aT ((yc (s:=⟨some f.heap.size,2,2⟩) [((⟨some w1.heap.size,4,4⟩:ad),hD),(⟨some ai.heap.size,2,2⟩,[1,UInt8.ofNat p.kind])] G ?_ (by simp[eY,hD]) U9).use ?_)
 .intro q j
  simp only[cZ,e2,e_]at j;obtain rfl|rfl:=j
  .exact af.ext (F.trans z)
  .exact y.ext z
 rintro _ a8 ⟨ap,rfl,P,aq,a9⟩;have Q:=ao.trans aq;have au:eY [((⟨some w1.heap.size,4,4⟩:ad),hD),(⟨some ai.heap.size,2,2⟩,[1,UInt8.ofNat p.kind])]=hD++ [1,UInt8.ofNat p.kind]:=by simp[eY]
 rw[au]at P;refine⟨ap,rfl,s,bo Q,?_⟩;rw[gF (n:=(s.len:Int)) I I,gF (n:=(no:Int)) I I];refine(hA P.src (n:=s.len) (k:=2) (by simp[hD]) (by show _<18446744073709551616;omega) ⟨by decide,by decide⟩).use ?_;rintro _ a_ ⟨av,rfl,aw,ay,ba⟩;have az:=Q.trans ay;refine⟨av,rfl,(hA aw.src (n:=no) (k:=4) (by simp[hD,dI]) (by show _<18446744073709551616;omega) ⟨by decide,by decide⟩).use ?_⟩;rintro _ bb ⟨aB,rfl,aD,aE,bc⟩;have R:=az.trans aE;refine⟨aB,rfl,_,aZ R,(hA aD.src (n:=p.gen) (k:=8) (by simp[hD,dI]) (by show _<18446744073709551616;omega) ⟨by decide,by decide⟩).use ?_⟩;rintro _ d ⟨cG,rfl,S,aF,bd⟩;have B:=R.trans aF;have aG:hD++ [1,UInt8.ofNat p.kind]++bQ s.len 2++bQ no 4++bQ p.gen 8=fh no p:=by rw[M];simp[fh]
 rw[aG]at S;refine⟨cG,rfl,cc (λt w'=>aR 1 5 w' t (aC (fh no p++(List.replicate 4 0++fm p)))/\Ext w1 w'/\g0 w t) (λq j=>?_) ?_⟩
 .have m:=cw d
  have U:=B.trans m;have aI:IntKind.wrap .i64 (232-(s.len:Int))=((232-s.len:Nat):Int):=by rw[bq I I];omega
  refine aT ⟨λ_=>False,id,s,bo U,id,s,bo U,?_⟩;rw[aI];simp only[c2,show Int.toNat 4=4 from rfl];rw[AN,AN];have fin:∀ (H eW:J) (fk gI:ad),Ext d eW->Src 1 eW fk (aC (List.replicate 4 0))->Src 1 eW gI (aC (List.replicate (232-s.len) 0))->
   Calls aj 103 #[.slice (some eW) 4 4] (eW.alloc (.cells #[cG,fk,s,gI] 39)) λaJ aK=>∃V:ad,aJ=.returned V/\q V aK:=by
   intro H eW fk gI C h1 h2;have r:=c5 eW (.cells #[cG,fk,s,gI] 39);refine(yc (s:=⟨some eW.heap.size,4,4⟩) [(cG,fh no p),(fk,List.replicate 4 0),(s,p.body),(gI,List.replicate (232-s.len) 0)] (Src.new eW _ 4 rfl) ?_ (by simp[eY,oO];omega) U9).use ?_
   .intro x hx
    simp only[cZ,e2,e_]at hx;obtain rfl|rfl|rfl|rfl:=hx
    .exact S.src.ext (C.trans r)
    .exact h1.ext r
    .exact hs.ext ((E.trans (B.trans C)).trans r)
    .exact h2.ext r
   .rintro _ W ⟨aL,rfl,aM,hx,hf⟩
    refine⟨aL,rfl,j _ _ ⟨?_,(B.trans C).trans (r.trans hx),hf.mono (E.trans ((B.trans C).trans r)).size⟩⟩;have e:eY [(cG,fh no p),(fk,List.replicate 4 0),(s,p.body),(gI,List.replicate (232-s.len) 0)]=fh no p++(List.replicate 4 0++fm p):=by simp[eY,fm,M]
    rwa[e]at aM
  refine⟨⟨⟨by decide,by decide,by decide,by decide⟩,aT ⟨c5 _ _,⟨I,Int.le_refl _,I,I⟩,aT ⟨c5 _ _,aT ?_⟩⟩⟩,⟨⟨I,Int.le_refl _,I,I⟩,aT ⟨c5 _ _,⟨by decide,by decide,by decide,by decide⟩,aT ⟨c5 _ _,aT ?_⟩⟩⟩⟩
  .refine fin d _ ⟨some d.drew.heap.size,4,4⟩ ⟨some ⟨(d.drew.alloc _).heap.size,0,none⟩,232-s.len,232-s.len⟩ (m.trans ((c5 _ _).trans (c5 _ _))) (Src.ext (Src.new _ _ _ (by simp[aC])) (c5 _ _)) (Src.new _ _ _ (by simp[aC]))
  .refine fin d _ ⟨some ⟨(d.drew.alloc _).heap.size,0,none⟩,4,4⟩ ⟨some d.drew.heap.size,232-s.len,232-s.len⟩ (m.trans ((c5 _ _).trans (c5 _ _))) (Src.new _ _ _ (by simp[aC])) (Src.ext (Src.new _ _ _ (by simp[aC])) (c5 _ _))
 rintro t H ⟨g,aN,X⟩;have be:t.len=256:=by
  have:=mO g;rw[this];simp[oO,ya i]
 have m:=cw H;refine aT ⟨λ_=>False,⟨by decide,I⟩,(pP (g.src.ext m) g.2.1 (by simp[oO,ya i])).use ?_⟩;rintro _ W ⟨rfl,aO⟩;have es:sumOf (fh no p++(List.replicate 4 0++fm p))=jw (fh no p++fm p):=by
  unfold sumOf;rw[nB (oO no p),←cO,drop_left' (by simp[oO])]
 rw[es];have bf:=AM (fh no p++fm p);refine⟨_,rfl,λ_=>False,?_⟩;rw[gF I I];refine(hA (s:=⟨none,0,0⟩) (l:=[]) (n:=jw (fh no p++fm p)) (k:=4) (aR.none 1 5 W).src U9 (by show _<18446744073709551616;omega) ⟨by decide,by decide⟩).use ?_;rintro _ aP ⟨aQ,rfl,K,aS,bg⟩;rw[hK]at K;have Z:=m.trans (aO.trans aS);have aa:=g.ext Z;have ab:=mO K;rw[dI]at ab;obtain⟨b,c,L,aU,bh,_⟩:∃b c,t.a=some ⟨b,0,none⟩/\bu aP b c 5/\c.size=t.cap*1/\c.toList.take (t.len*1)=aC (fh no p++(List.replicate 4 0++fm p)):=by
  obtain⟨_,hc⟩|⟨b,c,h1,h2,aV,aW⟩:=aa.2.2.2
  .have:=g.2.1;omega
  .exact⟨b,c,h1,h2,aV,aW⟩
 have aX:a7 t.a 1 (Int.toNat 20) t.cap=some ⟨b,20,none⟩:=by
  rw[L,show Int.toNat 20=20 from rfl,nk (by have:=g.2.1;omega)]
 have bi:=g.2.1;refine⟨aQ,rfl,_,_,by rw[aX];exact DD U3 K.src (by rw[ab];show 4<=t.len-20;omega) (aU.ct _ _ (by rw[de,dI];omega) (jd _)),t,rfl,?_,?_,X⟩
 .have:=aR.JT aa L (o:=20) (us:=aC (bQ (jw (fh no p++fm p)) 4)) (by rw[de,dI];omega)
  have e:(aC (fh no p++(List.replicate 4 0++fm p))).take 20++aC (bQ (jw (fh no p++fm p)) 4)++(aC (fh no p++(List.replicate 4 0++fm p))).drop (20+(aC (bQ (jw (fh no p++fm p)) 4)).length)=aC (eX no p):=by
   rw[de,dI];exact JV (oO no p) U9
  rwa[e]at this
 .refine Ext.d_ (E.trans (aN.trans Z)) (ag.kA (.refl _ _) _ 0) λk y=>?_
  subst y;exact X _ ⟨_,L,rfl⟩
theorem nt(hs:Src 1 w s (aC l))(hc:s.len<=s.cap){e:Int}(he:e=((a+k:Nat):Int))(b:1<=k/\k<=8)(c:a+k<=l.length)(d:l.length<=1000):
 aH aj 192 #[s,a,e] w (λv w'=>v=.int .u64 (dt l a k:Nat)/\w=w'):=by
 subst he;refine okF (ae.nt s a ((a+k:Nat):Int)) ax.nt func192 ?_;delta ae.nt mG ar;rw[bq I I,show(((a+k:Nat):Int)-(a:Int))=(k:Int) from I];refine(kE hs hc b c I).use ?_;rintro _ _ ⟨rfl,rfl⟩;exact⟨_,_,rfl,rfl,rfl⟩
theorem rM(hs:Src 1 w s (aC l))(o:l.length<=1000):
 aH aj 193 #[s] w (λv w'=>v=.bool (l.all λc=>c==0)/\w=w'):=by
 have p:=len8 hs;refine okF (ae.rM s) ax.rM func193 ?_;(delta ae.rM ak aO cq ar;dsimp only);refine⟨λi w'=>∃j:Nat,i=j/\j<=l.length/\w=w'/\∀ (k:Nat) (a:k<l.length),k<j->l[k]=0,λi _=>((l.length:Int)-i).toNat,⟨0,rfl,cI _,rfl,λk a h=>I⟩,?_⟩;rintro _ _ ⟨j,rfl,q,rfl,d⟩;refine⟨λaI=>?_,λb=>?_⟩
 .have aI:j<l.length:=U4 (b2 aI)
  obtain⟨A,av,f,g⟩:=hs.at (oG aI);refine⟨A,av,f,_,g,λe=>?_,λm=>?_⟩
  .refine⟨?_,rfl⟩
   have:(l.all λc=>c==0)=false:=by
    rw[List.all_eq_false];refine⟨l[j],cJ _,λh=>?_⟩;have h:=eq_of_beq h;rw[h]at e;simp at e
   rw[this]
  .have h0:l[j]=0:=by
    have:((l[j]).toNat:Int)=0:=by simpa using m
    exact qK.1 (by show(l[j]).toNat=0;omega)
   rw[bq (n:=(j:Int)+1) I I];refine⟨⟨j+1,I,I,rfl,λk a h=>?_⟩,?_⟩
   .rcases dV k j with h1|h1
    .exact d k a h1
    .have:k=j:=I
     subst this;exact h0
   .show((l.length:Int)-((j:Int)+1)).toNat<((l.length:Int)-(j:Int)).toNat
    omega
 .have b:j=l.length:=U4 (cr b)
  subst b;refine⟨?_,rfl⟩;have:(l.all λc=>c==0)=true:=by
   rw[nV];intro c hc;obtain⟨k,a,rfl⟩:=fe hc;rw[d k a a];rfl
  rw[this]
def D5(kind gen:Int)(s:ad):aa:=.agg #[kind,.int .u64 gen,s]
def yg(r:Except Int jg)(w w':J)(v:aa):Prop:=
 match r with
 | .ok p=>∃s:ad,v=.tuple #[D5 p.kind p.gen s,U8]/\aR 1 5 w' s (aC p.body)/\g0 w s
 | .error e=>v=.tuple #[D5 0 0 ⟨none,0,0⟩,e]
theorem D6{w':J}{h:Nat}{vs:O aa}(n g:Int)(s:ad)(b:Var w' h vs 137)(e:vs.length=3){K:Int->Int->ad->U2}(i:∀ai,ag (λq=>q=h) w' ai->K n g s ai):
 bp w' h [n,.int .u64 g,s]/\(3:Nat)=3/\an (setCells w' h 0 [n,.int .u64 g,s]) λai=>
  ∃f:Int,ai.cell? h=some (.int .i64 f)/\∃bA:Int,ai.cell? (Addr.add h 1)=some (.int .u64 bA)/\∃c:ad,ai.cell? (Addr.add h 2)=some (.slice c.a c.len c.cap)/\K f bA c ai:=by
 refine⟨b.ct (by rw[e];rfl) ?_,rfl,cP b (us:=[n,.int .u64 g,s]) (by rw[e];rfl) rfl λai d hc _=>?_⟩
 .intro v b
  simp only[cZ,e2,e_]at b;rcases b with rfl|rfl|rfl<;>trivial
 .exact⟨n,d.cell,g,by rw[aA];exact d.cell,s,by rw[aA];exact d.cell,i ai hc⟩
theorem oA(hs:Src 1 w s (aC l))(hc:s.len<=s.cap)(t:l.length<=1000)(no:Int):
 aH aj 137 #[no,s] w (λv w'=>yg (dX no l) w w' v/\Ext w w'):=by
 have av:=len8 hs;refine okF (ae.oA no s) ax.oA func137 ?_;(delta ae.oA ou ak Y r1 bO al z8 aO cq ot kY bP ar ik;dsimp only);refine a6 (vs:=[U8,.int .u64 0,()]) rfl λw1 z u _=>?_
 have out:∀ (w':J) (e:Int),Ext w1 w'->dX no l=.error e->
  bp w' w [U8,.int .u64 0,()]/\(3:Nat)=3/\an (setCells w' w 0 [U8,.int .u64 0,()]) λai=>
  ∃g:Int,ai.cell? w.heap.size=some (.int .i64 g)/\∃bA:Int,ai.cell? (Addr.add w 1)=some (.int .u64 bA)/\∃d:ad,ai.cell? (Addr.add w 2)=some (.slice d.a d.len d.cap)/\
   (λv w'=>yg (dX no l) w w' v/\Ext w w') (.tuple #[.agg #[g,.int .u64 bA,d],e]) ai:=by
  intro w' e hx he;refine D6 0 0 ⟨none,0,0⟩ (z.ext hx) rfl (K:=λg bA d ai=>(λv w'=>yg (dX no l) w w' v/\Ext w w') (.tuple #[.agg #[g,.int .u64 bA,d],e]) ai) λai x=>⟨?_,Ext.cp (u.trans hx) x (bk _)⟩;rw[he];rfl
 refine⟨λh=>out _ _ (.refl _ _) ?_,λh=>?_⟩
 .have h:(s.len:Int)≠256:=by simpa using h
  unfold dX;rw[if_pos I]
 have h:(s.len:Int)=256:=by simpa using h
 have M:l.length=256:=I
 have m:=hs.ext u;have N:=oP m hc (lo:=0) (hi:=4) I I;have P:Src 1 w1 ⟨a7 s.a 1 0 s.cap,4-0,s.cap-0⟩ (((l.take 4).map λb=>(b.toNat:Int)).map (.int .u8)):=by
  rw[iW];exact N
 have D:=DB (src:=39) (dst:=9) U3 U3 P;have Q:(((l.take 4).map λb=>(b.toNat:Int)).map λn=>UInt8.ofNat n.toNat)=l.take 4:=by
  rw[iW];have:((λn:Int=>UInt8.ofNat n.toNat)∘ λb:UInt8=>(b.toNat:Int))=id:=by funext b;simp
  rw[this,List.map_id]
 rw[Q]at D;refine⟨⟨by decide,I⟩,S (l.take 4),w1,D,?_⟩;have R:(ByteArray.toList (S (l.take 4))==ByteArray.toList (ByteArray.mk #[83,84,78,67]))=decide (l.take 4=hD):=by
  rw[show(ByteArray.mk #[83,84,78,67])=S hD from rfl,Dd];rw[eG];simp
 rw[R];refine⟨λh=>out _ _ (.refl _ _) ?_,λh=>?_⟩
 .have h:l.take 4≠hD:=by simpa using h
  unfold dX;rw[if_neg I,if_pos h]
 have o:l.take 4=hD:=by simpa using h
 obtain⟨T,U,aw,V⟩:=m.at (oG (l:=l) (i:=4) I);have ay:s.len=256:=I
 refine⟨T,U,⟨by decide,I⟩,_,V,λh=>out _ _ (.refl _ _) ?_,λh=>?_⟩
 .have h:(((l[4]'I).toNat:Nat):Int)≠1:=by simpa using h
  unfold dX;rw[if_neg I,if_neg (by simp[o]),if_pos (by
   intro e;apply h;rw[ft,dR I]at e;have e:(l[4]'I)=1:=e;rw[e];rfl)]
 have y:l.getD 4 0=1:=by
  have h:(((l[4]'I).toNat:Nat):Int)=1:=by simpa using h
  rw[ft,dR I];exact qK.1 (by show(l[4]'I).toNat=1;omega)
 refine(pP m hc M).use ?_;rintro _ ai ⟨rfl,f⟩;have j:=m.ext f;refine⟨_,rfl,(nt j hc (a:=20) (k:=4) (e:=24) rfl (by decide) I t).use ?_⟩;rintro _ _ ⟨rfl,rfl⟩;have az:sumOf l<4294967296:=AM _;rw[gF (n:=((sumOf l:Nat):Int)) I I];refine⟨_,rfl,λh=>out _ _ f ?_,λh=>?_⟩
 .have h:((sumOf l:Nat):Int)≠((dt l 20 4:Nat):Int):=by simpa using h
  unfold dX;rw[if_neg I,if_neg (by simp[o]),if_neg (λh=>h y),if_pos I]
 have aA:sumOf l=dt l 20 4:=by
  have h:((sumOf l:Nat):Int)=((dt l 20 4:Nat):Int):=by simpa using h
  omega
 refine(nt j hc (a:=6) (k:=2) (e:=8) rfl (by decide) I t).use ?_;rintro _ _ ⟨rfl,rfl⟩;have aB:dt l 6 2<65536:=oH 2 _ (by simp;omega);obtain⟨W,X,aD,Z⟩:=j.at (oG (l:=l) (i:=5) I);have A:l.getD 5 0=l[5]'I:=by rw[ft,dR I];rfl
 have aE:=mv (l[5]'I);refine⟨_,rfl,W,X,⟨by decide,I⟩,_,Z,?_⟩;rw[bq (n:=(((l[5]'I).toNat:Nat):Int)) I I,bq (n:=((dt l 6 2:Nat):Int)) I I];refine Calls.mono (ae.Dx (((l[5]'I).toNat:Nat):Int) ai (λv w'=>v=.bool (decide (1<=(l[5]'I).toNat/\(l[5]'I).toNat<=4))/\ai=w') ⟨?_,rfl⟩) ?_
 .have e:(decide ((((l[5]'I).toNat:Nat):Int)>=1)&&decide ((((l[5]'I).toNat:Nat):Int)<=4))=decide (1<=(l[5]'I).toNat/\(l[5]'I).toNat<=4):=by
   rw[eG];simp only[dg,b8];omega
  rw[e]
 rintro _ _ ⟨_,rfl,rfl,rfl⟩;have aF:24+dt l 6 2<=256->True:=λ_=>trivial;refine⟨_,rfl,cc (λb w'=>b=decide (¬(1<=(l[5]'I).toNat/\(l[5]'I).toNat<=4)\/232<dt l 6 2\/(l.drop (24+dt l 6 2)).all (λc=>c==0)=false)/\ai=w') (λq p=>⟨λh1=>p _ _ ⟨?_,rfl⟩,λh1=>?_⟩) ?_⟩
 .refine(dh ?_).symm
  simp only[jE,jD,ko,b8]at h1;obtain h1|h1:=h1
  .exact .inl h1
  .exact .inr (.inl I)
 .simp only[qH,m7,ko,b8]at h1
  have aa:dt l 6 2<=232:=I
  rw[bq (n:=24+((dt l 6 2:Nat):Int)) I I];refine⟨⟨I,I⟩,?_⟩;have ab:Int.toNat (24+((dt l 6 2:Nat):Int))=24+dt l 6 2:=I
  rw[ab];have E:=oP j hc (lo:=24+dt l 6 2) (hi:=s.len) I I;rw[dO (l:=l.drop (24+dt l 6 2)) (by rw[eH];omega)]at E;refine(rM E (by rw[eH];omega)).use ?_;rintro _ _ ⟨rfl,rfl⟩;refine⟨_,rfl,p _ _ ⟨?_,rfl⟩⟩
  cases aG:(l.drop (24+dt l 6 2)).all (λc=>c==0) with
  |true=>exact(gS (by rintro(h2|h2|h2)<;>first|exact h2 h1.1|omega|cases h2)).symm
  |false=>exact(dh (.inr (.inr rfl))).symm
 rintro b _ ⟨rfl,rfl⟩;refine⟨λh=>out _ _ f ?_,λh=>?_⟩
 .have h:=b2 h
  unfold dX;rw[if_neg I,if_neg (by simp[o]),if_neg (λh=>h y),if_neg I,if_pos (by rw[A];exact h)]
 have r:=cr h;have F:¬(¬(1<=(l.getD 5 0).toNat/\(l.getD 5 0).toNat<=4)\/232<dt l 6 2\/(l.drop (24+dt l 6 2)).all (λc=>c==0)=false):=by rw[A];exact r
 have aa:dt l 6 2<=232:=by
  rcases dV 232 (dt l 6 2) with h1|h1
  .exact absurd (.inr (.inl h1)) r
  .exact h1
 have aI:1<=(l[5]'I).toNat/\(l[5]'I).toNat<=4:=qO λh=>r (.inl h);refine Calls.mono (ae.Dw no ai (λv w'=>v=.bool (decide (0<=no/\no<1600))/\ai=w') ⟨by simp[ge_iff_le],rfl⟩) ?_;rintro _ _ ⟨_,rfl,rfl,rfl⟩;have aJ:dt l 8 4<4294967296:=oH 4 _ (by simp;omega);refine⟨_,rfl,cc (λb w'=>b=decide (¬(0<=no/\no<1600)\/(dt l 8 4:Int)≠no)/\ai=w') (λq p=>⟨λh1=>p _ _ ⟨?_,rfl⟩,λh1=>?_⟩) ?_⟩
 .refine(dh ?_).symm
  simp only[jD,ko]at h1;exact .inl h1
 .simp only[m7,b8]at h1
  refine(nt j hc (a:=8) (k:=4) (e:=12) rfl (by decide) I t).use ?_;rintro _ _ ⟨rfl,rfl⟩;refine⟨_,rfl,p _ _ ⟨?_,rfl⟩⟩;rw[gF (n:=no) I I,eG,b8,bne_iff_ne];exact⟨λh=>.inr h,λh=>h.resolve_left (λh2=>h2 h1)⟩
 rintro b _ ⟨rfl,rfl⟩;refine⟨λh=>out _ _ f ?_,λh=>?_⟩
 .have h:=b2 h
  unfold dX;rw[if_neg I,if_neg (by simp[o]),if_neg (λh=>h y),if_neg I,if_neg F,if_pos h]
 have ac:=cr h;have af:dX no l=.ok ⟨(l.getD 5 0).toNat,dt l 12 8,(l.drop 24).take (dt l 6 2)⟩:=by
  unfold dX;rw[if_neg I,if_neg (by simp[o]),if_neg (λh=>h y),if_neg I,if_neg F,if_neg ac]
 refine(rN j hc (a:=24) (k:=dt l 6 2) I I).use ?_;rintro _ ag ⟨B,rfl,am,ao,G⟩;have H:=cw ag;have C:=f.trans (ao.trans H);have L:=m.ext C;obtain⟨ap,aq,aK,au⟩:=L.at (oG (l:=l) (i:=5) I);refine⟨B,true,rfl,aT ⟨λ_=>False,ap,aq,⟨by decide,I⟩,id,_,au,(nt L hc (a:=12) (k:=8) (e:=20) rfl (by decide) I t).use ?_⟩⟩;rintro _ _ ⟨rfl,rfl⟩;rw[bq (n:=(((l[5]'I).toNat:Nat):Int)) I I];refine⟨_,rfl,.refl _ _,D6 _ _ B (z.ext C) rfl (K:=λg bA d ai=>(λv w'=>yg (dX no l) w w' v/\Ext w w') (.tuple #[.agg #[g,.int .u64 bA,d],U8]) ai) λaL x=>⟨?_,Ext.cp (u.trans C) x (bk _)⟩⟩;rw[af];refine⟨B,by rw[A];rfl,(am.ext H).ah x λk r e=>?_,G.mono (u.trans f).size⟩;have:=G k r;have:=z.lt;have:=f.size;subst e;omega
theorem D7{P:Program}:∀ (l:O UInt8) (a:af) (acc:ByteArray),(∀j x,l[j]? =some x->w.cell? (a.add j)=some (.int .u8 (x.toNat:Int)))->
 (Extern.Bytes.loadBytes a l.length acc).run P w=.ok ⟨acc.data++l.toArray⟩ w
 | [],a,acc,_=>by simp[Extern.Bytes.loadBytes]
 |x::l,a,acc,h=>by
  have h0:=h 0 x rfl
  rw[add_zero']at h0
  have b:=D7 (P:=P) l (a.add 1) (acc.push x) (λj y c=>by
   rw[add_add,Nat.add_comm]
   exact h (j+1) y (by simpa using c))
  have hx:(x.toNat:Int).toNat.toUInt8=x:=IQ x
  simp only[fi,Extern.Bytes.loadBytes,Sem.run_bind,y5 h0,Result.andThen,hx]
  rw[b]
  congr 2
  simp[ByteArray.push]
theorem D8{P:Program}(h:Src 1 w s (aC l)):(Extern.Bytes.bytesOf s).run P w=.ok (S l) w:=by
 cases hs:s.a with
 |none=>
  have h0:l=[]:=by
   have:=h.nil hs
   cases l with
   |nil=>rfl
   |cons a l=>simp[aC]at this
  subst h0;rfl
 |some A=>
  have b:=h.rd A hs;rw[f_]at b;have:=D7 (P:=P) (w:=w) l A .empty (λj x c=>by
   have:=nj b (j:=j) (v:=.int .u8 (x.toNat:Int)) (by simp[aC,c]);simpa using this)
  show(Extern.Bytes.loadBytes A s.len .empty).run P w=_;rw[len8 h,this]
  congr 1
  show(ByteArray.mk (ByteArray.empty.data++l.toArray))=ByteArray.mk l.toArray
  congr 1
  exact Array.empty_append ..
theorem D9:∀a b:Key,Lib.compareBytes a b=ey a b
 | [],[]=>rfl
 | [],_::_=>rfl
 |_::_,[]=>rfl
 |a::x,b::y=>by
  simp only[Lib.compareBytes,ey,UInt8.lt_iff_toNat_lt,D9 x y]
theorem lH{l m:Key}(hs:Src 1 w s (aC l))(ht:Src 1 w t (aC m)):
 aH aj 219 #[s,t] w (λv w'=>v=.int .i64 (ey l m)/\w=w'):=by
 refine okF (ae.lH s t) ax.lH func219 ?_;unfold ae.lH;refine⟨ey l m,w,?_,rfl,rfl⟩;rw[run_callFunc_extern func259 rfl rfl rfl rfl];have:(Extern.BytealgCompare.compare #[s,t]).run aj w=.ok (.int .i64 (ey l m)) w:=by
  change Sem.run aj (do pure (goInt (Extern.BytealgCompare.cmp (←Extern.Bytes.bytesOf s) (←Extern.Bytes.bytesOf t)))) w=_
  simp only[Sem.run_bind,D8 hs,D8 ht,Result.andThen,Sem.run_pure];rw[Lib.cmp_eq];show Result.ok (goInt (Lib.compareBytes l m)) w=_;rw[D9];rfl
 rw[this];rfl
theorem yh(h:Src 1 w s (aC l)):Sem.run aj (convert 39 9 s) w=.ok (.string (S l)) w:=by
 have a:Src 1 w s ((l.map λb=>(b.toNat:Int)).map (.int .u8)):=by rw[iW];exact h
 have:=DB (src:=39) (dst:=9) U3 U3 a;rw[iW]at this;have e:((λn:Int=>UInt8.ofNat n.toNat)∘ λb:UInt8=>(b.toNat:Int))=id:=by funext b;simp
 rw[e,List.map_id]at this;exact this
theorem pK{l m:Key}(hs:Src 1 w s (aC l))(ht:Src 1 w t (aC m)):
 aH aj 108 #[s,t] w (λv w'=>v=.bool (decide (l=m))/\w=w'):=by
 refine okF (ae.pK s t) ax.pK func108 ?_;unfold ae.pK;refine⟨_,_,yh hs,_,_,yh ht,?_,rfl⟩;rw[Dd]
 congr 1
 rw[eG];simp
def In(B:U1)(w:J)(s:ad):Prop:=∀k,aD s k->B k/\k<w
def bI(B:U1)(w:J)(t:ad)(l:Key):Prop:=Src 1 w t (aC l)/\t.len<=t.cap/\In B w t
def bW(B:U1)(w:J)(s:ad)(ls:O Key):Prop:=
 ∃ts:O ad,ts.length=ls.length/\Src 1 w s (ts.map iJ)/\s.len<=s.cap/\In B w s/\∀ (i:Nat) (h1:i<ts.length) (h2:i<ls.length),bI B w ts[i] ls[i]
def ej(ds:O Nat):O aa:=ds.map λd=>.int .i64 ((d:Nat):Int)
def c9(B:U1)(w:J)(s:ad)(ds:O Nat):Prop:=Src 1 w s (ej ds)/\s.len<=s.cap/\In B w s
def bD(B:U1)(w:J)(s:ad)(ls:O Key):Prop:=
 ∃ts:O ad,ts.length=ls.length/\aR 1 39 w s (ts.map iJ)/\In B w s/\∀ (i:Nat) (h1:i<ts.length) (h2:i<ls.length),bI B w ts[i] ls[i]/\∀k,aD ts[i] k->¬aD s k
def cW(B:U1)(w:J)(s:ad)(ds:O Nat):Prop:=aR 1 3 w s (ej ds)/\In B w s
section
variable {B C:U1}{w w':J}{s t:ad}{l:Key}{ls:O Key}{ds:O Nat}
theorem In.ah(h:In B w s)(hc:ag V w w'):In B w' s:=λk a=>⟨(h k a).1,fO (h k a).2 hc.size⟩
theorem In.bg(h:In B w s)(b:∀k,k<w.heap.size->B k->C k):In C w s:=λk a=>⟨b k (h k a).2 (h k a).1,(h k a).2⟩
theorem bI.ah(h:bI B w t l)(hc:ag V w w')(a:∀k,B k->¬V k):bI B w' t l:=⟨h.1.ah hc λk b=>a k (h.2.2 k b).1,h.2.1,In.ah h.2.2 hc⟩
theorem bI.k3(h:bI B w t l)(hc:ag V w w')(a:∀k,aD t k->¬V k):bI B w' t l:=⟨h.1.ah hc a,h.2.1,In.ah h.2.2 hc⟩
theorem bI.ext(h:bI B w t l)(hc:Ext w w'):bI B w' t l:=bI.ah h hc λ_ _ h=>h
theorem bI.bg(h:bI B w t l)(a:∀k,k<w.heap.size->B k->C k):bI C w t l:=⟨h.1,h.2.1,In.bg h.2.2 a⟩
theorem bW.ah(h:bW B w s ls)(hc:ag V w w')(a:∀k,B k->¬V k):bW B w' s ls:=by
 obtain⟨ts,h1,h2,c,b,d⟩:=h;exact⟨ts,h1,h2.ah hc λk e=>a k (b k e).1,c,In.ah b hc,λi f g=>bI.ah (d i f g) hc a⟩
theorem bW.ext(h:bW B w s ls)(hc:Ext w w'):bW B w' s ls:=bW.ah h hc λ_ _ h=>h
theorem bW.bg(h:bW B w s ls)(a:∀k,k<w.heap.size->B k->C k):bW C w s ls:=by
 obtain⟨ts,h1,h2,b,c,d⟩:=h;exact⟨ts,h1,h2,b,In.bg c a,λi e f=>bI.bg (d i e f) a⟩
theorem c9.ah(h:c9 B w s ds)(hc:ag V w w')(a:∀k,B k->¬V k):c9 B w' s ds:=⟨h.1.ah hc λk b=>a k (h.2.2 k b).1,h.2.1,In.ah h.2.2 hc⟩
theorem c9.ext(h:c9 B w s ds)(hc:Ext w w'):c9 B w' s ds:=c9.ah h hc λ_ _ h=>h
theorem c9.bg(h:c9 B w s ds)(a:∀k,k<w.heap.size->B k->C k):c9 C w s ds:=⟨h.1,h.2.1,In.bg h.2.2 a⟩
theorem bW.len(h:bW B w s ls):s.len=ls.length:=by
 obtain⟨ts,h1,h2,_⟩:=h;have:=h2.len;rw[cU]at this;omega
theorem oQ(ds:O Nat):(ej ds).length=ds.length:=by simp[ej]
theorem c9.len(h:c9 B w s ds):s.len=ds.length:=by
 have:=h.1.len;rw[oQ]at this;omega
theorem bW.at(h:bW B w s ls)(hi:i<ls.length):∃ (A:af) (t:ad),s.a=some A/\((0:Int)<=(i:Int)/\(i:Int)<(s.len:Int))/\w.cell? (A.add (Int.toNat (i:Int)*1))=some (.slice t.a t.len t.cap)/\bI B w t ls[i]/\B A.block:=by
 obtain⟨ts,h1,h2,e,b,c⟩:=h;obtain⟨A,av,d,hc⟩:=h2.at (i:=i) (v:=iJ (ts[i]'I)) (by simp[h1,hi]);exact⟨A,ts[i]'I,av,d,hc,c i I hi,(b _ ⟨A,av,rfl⟩).1⟩
theorem c9.at(h:c9 B w s ds)(hi:i<ds.length):∃A:af,s.a=some A/\((0:Int)<=(i:Int)/\(i:Int)<((s.len:Nat):Int))/\w.cell? (A.add (Int.toNat (i:Int)*1))=some (.int .i64 ((ds[i]:Nat):Int)):=by
 obtain⟨A,av,b,hc⟩:=h.1.at (i:=i) (v:=.int .i64 ((ds[i]:Nat):Int)) (by simp[ej,hi]);exact⟨A,av,b,hc⟩
theorem bD.k4(h:bD B w s ls):bW B w s ls:=by
 obtain⟨ts,h1,h2,a,b⟩:=h;exact⟨ts,h1,h2.src,h2.2.1,a,λi c d=>(b i c d).1⟩
theorem cW.sd(h:cW B w s ds):c9 B w s ds:=⟨h.1.src,h.1.2.1,h.2⟩
theorem bD.none(B:U1)(w:J):bD B w ⟨.none,0,0⟩ []:=⟨[],rfl,aR.none _ _ _,λk a=>(fH k a).elim,λi h=>by simp at h⟩
theorem cW.none(B:U1)(w:J):cW B w ⟨.none,0,0⟩ []:=⟨aR.none _ _ _,λk a=>(fH k a).elim⟩
theorem bW.none(B:U1)(w:J):bW B w ⟨.none,0,0⟩ []:=bD.k4 (bD.none B w)
theorem c9.none(B:U1)(w:J):c9 B w ⟨.none,0,0⟩ []:=cW.sd (cW.none B w)
theorem bD.ah(h:bD B w s ls)(hc:ag V w w')(a:∀k,B k->¬V k):bD B w' s ls:=by
 obtain⟨ts,h1,h2,b,c⟩:=h;exact⟨ts,h1,h2.ah hc λk f=>a k (b k f).1,In.ah b hc,λi d e=>⟨bI.ah (c i d e).1 hc a,(c i d e).2⟩⟩
theorem bD.ext(h:bD B w s ls)(hc:Ext w w'):bD B w' s ls:=bD.ah h hc λ_ _ h=>h
theorem cW.ah(h:cW B w s ds)(hc:ag V w w')(a:∀k,B k->¬V k):cW B w' s ds:=⟨h.1.ah hc λk b=>a k (h.2 k b).1,In.ah h.2 hc⟩
theorem cW.ext(h:cW B w s ds)(hc:Ext w w'):cW B w' s ds:=cW.ah h hc λ_ _ h=>h
theorem bI.some(h:bI B w t l)(b:l≠ []):∃A,t.a=some A:=by
 cases c:t.a with
 |none=>
  have:=h.1.nil c;exfalso;apply b
  cases l with
  |nil=>rfl
  |cons a l=>simp[aC]at this
 |some A=>exact⟨A,rfl⟩
end
theorem se:ij aj 93 39 1 24:=⟨by kernel_rfl⟩
theorem qf:ij aj 72 3 1 8:=⟨by kernel_rfl⟩
theorem yi(ts:O ad):∀v∈ts.map iJ,Plain v:=by
 intro v a;obtain⟨n,_,rfl⟩:=eJ.1 a;trivial
theorem AO(ds:O Nat):∀v∈ej ds,Plain v:=by
 intro v a;obtain⟨n,_,rfl⟩:=eJ.1 a;trivial
theorem mP(h:Src 1 w s (aC l))(d:l.length<=1000000)(e:∀k,w.heap.size<=k->B k):
 aH aj 46 #[s] w (λv w'=>∃a:ad,v=a/\bI B w' a l/\Ext w w'/\g0 w a):=by
 refine(Aq h d).mono ?_;rintro _ w' ⟨a,rfl,b,hx,hf⟩;exact⟨a,rfl,⟨b.src,b.2.1,λk c=>⟨e k (hf k c),b.lt k c⟩⟩,hx,hf⟩
theorem D_{ls:O Key}{l:Key}(n:bD B w s ls)(ht:bI B w t l)(hd:∀k,aD t k->¬aD s k)(A:ls.length<=1000000)(o:∀k,w.heap.size<=k->B k):
 ∃ (b:ad) (w':J),Sem.run aj (Builtin.append_ #[93,93] 93 #[s,.slice (some w) 1 1]) (w.alloc (.cells #[t] 39))=.ok b w'/\
  bD B w' b (ls++ [l])/\ag (aD s) w w'/\(∀k,aD b k->aD s k\/w<=k):=by
 obtain⟨ts,h1,h2,p,q⟩:=n;have C:s.len=ls.length:=by have:=h2.1;rw[cU]at this;omega
 obtain⟨b,w',ay,az,D,c,d⟩:=se.push (cB:=93) (w:=w) (s:=s) (xs:=[iJ t]) rfl h2 (λv r=>by rw[e8.1 r];trivial) I;refine⟨b,w',ay,⟨ts++ [t],by simp[h1],?_,?_,λi f u=>?_⟩,c,d⟩
 .rw[fP];exact az
 .intro k a
  refine⟨?_,az.lt k a⟩;rcases d k a with h|h
  .exact(p k h).1
  .exact o k h
 .have g:∀ (x:ad),(∀k,aD x k->k<w)->(∀k,aD x k->¬aD s k)->∀k,aD x k->¬aD b k:=λx hx y k a z=>by
   rcases d k z with h|h
   .exact y k a h
   .have:=hx k a;omega
  have E:i<ts.length+1:=by simpa using f
  rcases dV i ts.length with h|h
  .obtain⟨j,m⟩:=q i h I
   simp only[pd h,pd (show i<ls.length from I)];exact⟨bI.k3 j c m,g _ (λk a=>(j.2.2 k a).2) m⟩
  .have:i=ts.length:=I
   subst this;have e:(ts++ [t])[ts.length]'f=t:=by simp
   have:(ls++ [l])[ts.length]'u=l:=by rw[qL I];simp
   rw[this,e];exact⟨bI.k3 ht c hd,g _ (λk a=>(ht.2.2 k a).2) hd⟩
theorem JW{ds:O Nat}(d:Nat)(c:cW B w s ds)(l:ds.length<=1000000)(g:∀k,w.heap.size<=k->B k):
 ∃ (b:ad) (w':J),Sem.run aj (Builtin.append_ #[72,72] 72 #[.slice s.a s.len s.cap,.slice (some ⟨w,0,none⟩) 1 1]) (w.alloc (.cells #[.int .i64 ((d:Nat):Int)] 3))=.ok (.slice b.a b.len b.cap) w'/\
  cW B w' b (ds++ [d])/\ag (aD s) w w'/\(∀k,aD b k->aD s k\/w<=k):=by
 have m:s.len=ds.length:=by have:=c.1.1;rw[oQ]at this;omega
 obtain⟨b,w',ay,az,n,i,e⟩:=qf.push (cB:=72) (w:=w) (s:=s) (xs:=[.int .i64 ((d:Nat):Int)]) rfl c.1 (λv j=>by rw[e8.1 j];trivial) I;refine⟨b,w',ay,⟨by simpa[ej] using az,λk f=>⟨?_,az.lt k f⟩⟩,i,e⟩;rcases e k f with h|h
 .exact(c.2 k h).1
 .exact g k h
structure b7(B:U1)(w:J)(n:aG)(K V D:ad):Prop where
 keys:bW B w K n.keys
 vals:bW B w V n.vals
 kids:c9 B w D n.kids
def ee(n:aG)(K V D:ad):O aa:=[n.leaf,K,V,D]
def dz(n:aG)(K V D:ad):aa:=.agg #[n.leaf,K,V,D]
section
variable {B C:U1}{w w':J}{n:aG}{K V D:ad}
theorem b7.ah{W:U1}(h:b7 B w n K V D)(hc:ag W w w')(a:∀k,B k->¬W k):b7 B w' n K V D:=⟨bW.ah h.keys hc a,bW.ah h.vals hc a,c9.ah h.kids hc a⟩
theorem b7.ext(h:b7 B w n K V D)(hc:Ext w w'):b7 B w' n K V D:=b7.ah h hc λ_ _ h=>h
theorem b7.bg(h:b7 B w n K V D)(a:∀k,k<w.heap.size->B k->C k):b7 C w n K V D:=⟨bW.bg h.keys a,bW.bg h.vals a,c9.bg h.kids a⟩
theorem bT{leaf:ao}(h:Var w b [leaf,K,V,D] T):
 w.cell? b=some (.bool leaf)/\w.cell? (Addr.add b 1)=some (.slice K.a K.len K.cap)/\w.cell? (Addr.add b 2)=some (.slice V.a V.len V.cap)/\w.cell? (Addr.add b 3)=some (.slice D.a D.len D.cap):=by
 rw[aA,aA,aA];exact⟨h.cell,h.cell,h.cell,h.cell⟩
end
theorem JX{ls:O Key}(h:bW B w s ls)(f:ls.length<=1000000):
   aH aj 225 #[s,.func (.func 224) #[] #[]] w (λv w'=>v=.bool (ls.any λv=>decide (24<v.length))/\w=w'):=by
 refine okF (ae.wC s ⟨224,#[],#[]⟩) ax.wC func225 ?_
 delta ae.wC bB
 have g:=bW.len h
 have e:hY aj 224:=⟨_,(n1 (show(Tryz.prog.funcs[224]?).isSome=true by kernel_rfl)).symm,by kernel_rfl,by kernel_rfl⟩
 refine Calls.mono (ae.HU s ⟨224,#[],#[]⟩ w (λv w'=>(∃i:Int,v=i/\(decide (i>=0))=(ls.any λv=>decide (24<v.length)))/\w=w') ?_) ?_
 · (delta ae.tx ak aO al ar;dsimp only)
   refine⟨λi w'=>∃j:Nat,i=j/\j<=ls.length/\w=w'/\∀ (k:Nat) (a:k<ls.length),k<j->(ls[k]).length<=24,λi _=>((ls.length:Int)-i).toNat,⟨0,rfl,cI _,rfl,λk a h=>I⟩,?_⟩
   rintro _ _ ⟨j,rfl,l,rfl,d⟩
   refine⟨λaI=>?_,λc=>?_⟩
   · have aI:j<ls.length:=U4 (b2 aI)
     obtain⟨A,t,av,b,hc,ht,_⟩:=bW.at h aI
     refine⟨A,av,b,t,hc,e,?_⟩
     have m:=len8 ht.1
     refine Calls.mono (ae.Iw t w (λv w'=>v=.bool (decide (24<(ls[j]).length))/\w=w') ⟨?_,rfl⟩) ?_
     · congr 1
       rw[eG,b8,b8];omega
     rintro _ _ ⟨_,rfl,rfl,rfl⟩
     refine⟨_,rfl,λb=>⟨⟨j,rfl,?_⟩,rfl⟩,λb=>?_⟩
     · have:(ls.any λv=>decide (24<v.length))=true:=List.any_eq_true.2 ⟨_,cJ aI,b⟩
       rw[this];exact dh I
     · have b:=cr b
       rw[bq (n:=(j:Int)+1) I I]
       refine⟨⟨j+1,I,I,rfl,λk a h=>?_⟩,?_⟩
       · rcases dV k j with h1|h1
         · exact d k a h1
         · have:k=j:=I
           subst this;omega
       · show((ls.length:Int)-((j:Int)+1)).toNat<((ls.length:Int)-(j:Int)).toNat
         omega
   · have c:j=ls.length:=U4 (cr c)
     subst c
     refine⟨⟨-1,rfl,?_⟩,rfl⟩
     have:(ls.any λv=>decide (24<v.length))=false:=by
       rw[qG]
       intro x hx
       obtain⟨k,a,rfl⟩:=fe hx
       have:=d k a a
       simp;omega
     rw[this];rfl
 · rintro _ _ ⟨_,rfl,⟨i,rfl,hi⟩,rfl⟩
   exact⟨i,rfl,by rw[hi],rfl⟩
theorem JY{ds:O Nat}(h:c9 B w s ds)(g:ds.length<=1000000):
   aH aj 227 #[s,.func (.func 226) #[] #[]] w (λv w'=>v=.bool (ds.any λd=>decide (1600<=d))/\w=w'):=by
 refine okF (ae.wD s ⟨226,#[],#[]⟩) ax.wD func227 ?_
 delta ae.wD bB
 have l:=c9.len h
 have f:hY aj 226:=⟨_,(n1 (show(Tryz.prog.funcs[226]?).isSome=true by kernel_rfl)).symm,by kernel_rfl,by kernel_rfl⟩
 refine Calls.mono (ae.HV s ⟨226,#[],#[]⟩ w (λv w'=>(∃i:Int,v=i/\(decide (i>=0))=(ds.any λd=>decide (1600<=d)))/\w=w') ?_) ?_
 · (delta ae.tz ak aO r1 ar;dsimp only)
   refine⟨λi w'=>∃j:Nat,i=j/\j<=ds.length/\w=w'/\∀ (k:Nat) (a:k<ds.length),k<j->ds[k]<1600,λi _=>((ds.length:Int)-i).toNat,⟨0,rfl,cI _,rfl,λk a h=>I⟩,?_⟩
   rintro _ _ ⟨j,rfl,m,rfl,e⟩
   refine⟨λaI=>?_,λc=>?_⟩
   · have aI:j<ds.length:=U4 (b2 aI)
     obtain⟨A,av,b,hc⟩:=c9.at h aI
     refine⟨A,av,b,_,hc,f,?_⟩
     refine Calls.mono (ae.Ix ((ds[j]:Nat):Int) w (λv w'=>v=.bool (decide (1600<=ds[j]))/\w=w') ⟨?_,rfl⟩) ?_
     · congr 1
       rw[eG,jE,b8,b8,b8];omega
     rintro _ _ ⟨_,rfl,rfl,rfl⟩
     refine⟨_,rfl,λb=>⟨⟨j,rfl,?_⟩,rfl⟩,λb=>?_⟩
     · have:(ds.any λd=>decide (1600<=d))=true:=List.any_eq_true.2 ⟨_,cJ aI,b⟩
       rw[this];exact dh I
     · have b:=cr b
       rw[bq (n:=(j:Int)+1) I I]
       refine⟨⟨j+1,I,I,rfl,λk a h=>?_⟩,?_⟩
       · rcases dV k j with h1|h1
         · exact e k a h1
         · have:k=j:=I
           subst this;omega
       · show((ds.length:Int)-((j:Int)+1)).toNat<((ds.length:Int)-(j:Int)).toNat
         omega
   · have c:j=ds.length:=U4 (cr c)
     subst c
     refine⟨⟨-1,rfl,?_⟩,rfl⟩
     have:(ds.any λd=>decide (1600<=d))=false:=by
       rw[qG]
       intro x hx
       obtain⟨k,a,rfl⟩:=fe hx
       have:=e k a a
       simp;omega
     rw[this];rfl
 · rintro _ _ ⟨_,rfl,⟨i,rfl,hi⟩,rfl⟩
   exact⟨i,rfl,by rw[hi],rfl⟩
theorem Ea:∀ {l:O Key},(∀ (i:Nat) (h:i+1<l.length),bF l[i] l[i+1])->l.Pairwise bF
 | [],_=>.nil
 |a::l,h=>by
  have e:=Ea (l:=l) λi hi=>h (i+1) (by simpa using hi)
  refine jV.2 ⟨λb d=>?_,e⟩
  cases l with
  |nil=>simp at d
  |cons c l=>
   have h0:bF a c:=h 0 U9
   rcases cZ.1 d with rfl|d
   .exact h0
   .exact mK h0 ((jV.1 e).1 b d)
instance (k:Key):Decidable (cK k):=by unfold cK;infer_instance
theorem pU{l:Key}(h:Src 1 w t (aC l)):aH aj 199 #[t] w (λv w'=>v=.bool (decide (cK l))/\w=w'):=by
 have a:=len8 h;refine okF (ae.pU t) ax.pU func199 ?_;unfold ae.pU;refine⟨?_,rfl⟩
 congr 1
 rw[eG,dg,b8,b8,b8];unfold cK;omega
theorem kZ{K V D:ad}(h:b7 B w n K V D)(h1:n.keys.length<=100000)(h2:n.vals.length<=100000)(O:n.kids.length<=100000):
 aH aj 182 #[dz n K V D] w (λv w'=>∃b:ao,v=b/\(b=true↔cM n)/\Ext w w'):=by
 refine okF (ae.kZ n.leaf K V D) ax.kZ func182 ?_;(delta ae.kZ al Y ak aO bP ar bB aW;dsimp only);refine a6 (vs:=[n.leaf,K,V,D]) rfl λw1 d m _=>?_;obtain⟨b9,aZ,bo,bt⟩:=bT d;have g:=h.ext m;have x:=bW.len g.keys;have P:=bW.len g.vals;have aX:=c9.len g.kids;refine⟨K,aZ,λi w'=>∃j:Nat,i=j/\j<=n.keys.length/\w1=w'/\(∀ (k:Nat) (f:k<n.keys.length),k<j->cK n.keys[k])/\∀ (k:Nat) (f:k+1<n.keys.length),k+1<j->bF n.keys[k] n.keys[k+1],
  λi _=>((n.keys.length:Int)-i).toNat,⟨0,rfl,cI _,rfl,λk f h=>I,λk f h=>I⟩,?_⟩
 rintro _ _ ⟨j,rfl,o,rfl,y,z⟩;refine⟨λaI=>?_,λp=>?_⟩
 .have aI:j<n.keys.length:=U4 (b2 aI)
  obtain⟨A,t,av,a,hc,ht,_⟩:=bW.at g.keys aI;refine⟨A,av,a,t,hc,(pU ht.1).use ?_⟩;rintro _ _ ⟨rfl,rfl⟩;refine⟨_,rfl,cc (λb w'=>w1=w'/\(b=true->¬cM n)/\(b=false->cK n.keys[j]/\∀ (o:1<=j),bF (n.keys[j-1]'I) n.keys[j])) (λq c=>⟨λa=>?_,λa=>?_⟩) ?_⟩
  .have a:¬cK n.keys[j]:=by simpa using a
   exact c _ _ ⟨rfl,λ_ hs=>a (hs.keys.ok _ (cJ aI)),λh=>by cases h⟩
  .have a:cK n.keys[j]:=by simpa using a
   refine cc (λb w'=>w1=w'/\(b=true->¬cM n)/\(b=false->∀ (o:1<=j),bF (n.keys[j-1]'I) n.keys[j])) (λeM C=>⟨λh0=>?_,λh0=>?_⟩) ?_
   .have h0:1<=j:=U4 (b2 h0)
    rw[bq (n:=(j:Int)-1) I I,show(j:Int)-1=((j-1:Nat):Int) from I];obtain⟨F,t2,G,r,H,L,_⟩:=bW.at g.keys (i:=j-1) I;refine⟨K,aZ,F,G,r,t2,H,(lH L.1 ht.1).use ?_⟩;rintro _ _ ⟨rfl,rfl⟩;refine⟨_,rfl,C _ _ ⟨rfl,λhc hs=>?_,λhc _=>?_⟩⟩
    .have hc:=b2 hc
     have:bF (n.keys[j-1]'I) n.keys[j]:=lV.1 hs.keys.fg (j-1) j I aI I;unfold bF at this;omega
    .have hc:=cr hc
     unfold bF;omega
   .have h0:=cr h0
    exact C _ _ ⟨rfl,nofun,λ_ o=>I⟩
   .rintro b w' ⟨rfl,ay,az⟩
    exact c _ _ ⟨rfl,ay,λr=>⟨a,az r⟩⟩
  .rintro b w' ⟨rfl,ay,az⟩
   refine⟨λa=>⟨false,rfl,⟨nofun,λhs=>absurd hs (ay a)⟩,m⟩,λa=>?_⟩;obtain⟨M,N⟩:=az a;rw[bq (n:=(j:Int)+1) I I];refine⟨⟨j+1,I,I,rfl,λk f h=>?_,λk f h=>?_⟩,?_⟩
   .rcases dV k j with h1|h1
    .exact y k f h1
    .have:k=j:=I
     subst this;exact M
   .rcases dV (k+1) j with h1|h1
    .exact z k f h1
    .have:j=k+1:=I
     subst this;exact N I
   .show((n.keys.length:Int)-((j:Int)+1)).toNat<((n.keys.length:Int)-(j:Int)).toNat
    omega
 .have p:j=n.keys.length:=U4 (cr p)
  subst p;have E:x0 n:=⟨λk f=>by
   obtain⟨i,hi,rfl⟩:=fe f;exact y i hi hi,Ea λi hi=>z i hi hi⟩
  refine⟨n.leaf,b9,λl=>⟨V,bo,K,aZ,?_⟩,λl=>⟨K,aZ,?_⟩⟩
  .refine cc (λb w'=>w1=w'/\b=(decide (n.vals.length=n.keys.length)&&decide (n.kids=[]))) (λq c=>⟨λa=>⟨D,bt,c _ _ ⟨rfl,?_⟩⟩,λa=>c _ _ ⟨rfl,?_⟩⟩) ?_
   .have a:=eq_of_beq a
    rw[dh (show n.vals.length=n.keys.length from I),hX,eG,kq,b8,←mo];omega
   .have a:¬((V.len:Int)=(K.len:Int)):=λe=>by rw[e]at a;simp at a
    rw[gS I,kS]
   rintro b w' ⟨rfl,rfl⟩;refine cc (λb w'=>w1=w'/\(b=true↔cM n)) (λq c=>⟨λa=>⟨V,bo,(JX g.vals I).use ?_⟩,λa=>c _ _ ⟨rfl,?_⟩⟩) ?_
   .rintro _ _ ⟨rfl,rfl⟩
    refine⟨_,rfl,c _ _ ⟨rfl,?_⟩⟩;simp only[dg,b8]at a;rw[jD,qG];constructor
    .intro s
     exact .inl ⟨E,l,a.1,a.2,λv d=>by have:=s v d;simp at this;omega⟩
    .rintro(hs|hs)
     .intro v d;have:=hs.vals v d;simp;omega
     .have:=hs.inner;rw[l]at this;cases this
   .have a:¬(n.vals.length=n.keys.length/\n.kids=[]):=by simpa using a
    refine⟨nofun,?_⟩;rintro(hs|hs)
    .exact absurd ⟨hs.len,hs.kids⟩ a
    .have:=hs.inner;rw[l]at this;cases this
   rintro b w' ⟨rfl,a⟩;exact⟨b,rfl,a,m⟩
  .refine cc (λb w'=>w1=w'/\b=(decide (n.keys≠ [])&&decide (n.kids.length=n.keys.length+1))) (λq c=>⟨λa=>⟨D,bt,K,aZ,c _ _ ⟨rfl,?_⟩⟩,λa=>c _ _ ⟨rfl,?_⟩⟩) ?_
   .have a:=b2 a
    have u:n.keys≠ []:=λe=>by rw[e]at x;simp at x;omega
    rw[dh u,hX,eG,kq,b8,bq I I];omega
   .have a:=cr a
    have u:n.keys=[]:=mo.1 I;rw[gS (λh=>h u),kS]
   rintro b w' ⟨rfl,rfl⟩;refine cc (λb w'=>w1=w'/\b=(decide (n.keys≠ [])&&decide (n.kids.length=n.keys.length+1)&&decide (n.vals=[]))) (λq c=>⟨λa=>⟨V,bo,c _ _ ⟨rfl,?_⟩⟩,λa=>c _ _ ⟨rfl,?_⟩⟩) ?_
   .rw[a,hX,eG,kq,b8,←mo]
    omega
   .rw[a,kS]
   rintro b w' ⟨rfl,rfl⟩;refine cc (λb w'=>w1=w'/\(b=true↔cM n)) (λq c=>⟨λa=>⟨D,bt,(JY g.kids I).use ?_⟩,λa=>c _ _ ⟨rfl,?_⟩⟩) ?_
   .rintro _ _ ⟨rfl,rfl⟩
    refine⟨_,rfl,c _ _ ⟨rfl,?_⟩⟩;simp only[dg,b8]at a;rw[jD,qG];constructor
    .intro s
     exact .inr ⟨E,l,a.1.1,a.1.2,a.2,λv d=>by have:=s v d;simp at this;omega⟩
    .rintro(hs|hs)
     .have:=hs.leaf;rw[l]at this;cases this
     .intro v d;have:=hs.kids v d;simp;omega
   .have a:¬((n.keys≠ []/\n.kids.length=n.keys.length+1)/\n.vals=[]):=λe=>by
     rw[dh e.1.1,dh e.1.2,dh e.2]at a;cases a
    refine⟨nofun,?_⟩;rintro(hs|hs)
    .have:=hs.leaf;rw[l]at this;cases this
    .exact absurd ⟨⟨hs.some,hs.len⟩,hs.vals⟩ a
   rintro b w' ⟨rfl,a⟩;exact⟨b,rfl,a,m⟩
end Go.Proofs.YtcmgnhkpfllinaaGreat
