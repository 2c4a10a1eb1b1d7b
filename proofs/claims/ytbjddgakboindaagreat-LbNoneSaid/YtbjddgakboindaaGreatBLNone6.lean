/- Contracts of the functions that the statement reaches, and the plain laws over them; each theorem stands with its conditions. -/
import Derived.Test.YtbjddgakboindaaGreatBLNone5
namespace Go.Proofs.YtbjddgakboindaaGreat
open Go aQ Go.Proofs.Tryz
section
variable {w w' w1:I}{s t:ae}{zs us:O Y}{T:TypeId}{n x:Nat}{l:O UInt8}
theorem pz(a:zs.length=n)(hu:us.length=n)(c:∀v∈us,Plain v){K:I->Prop}(d:∀w',Var w' w.heap.size us T->Ext w w'->K w'):an (w.alloc (.cells zs.toArray T)) λw1=>b_ w1 w.heap.size (Array.toList us.toArray)/\Array.size us.toArray=n/\an (setCells w1 w.heap.size 0 (Array.toList us.toArray)) K:=
 aN (vs:=zs) rfl λw1 b hx _=>⟨b.bX (by simp[a,hu]) (λv h=>c v (by simpa using h)),by simp[hu],cA b (us:=us) (by simp[a,hu]) rfl λw' e f _=>d w' e (Ext.bN hx f (ba _))⟩
theorem q0(a:Var w x zs T)(b:zs.length=n)(hu:us.length=n)(f:∀v∈us,Plain v){K:O Y->I->Prop}(g:∀w',Var w' x us T->af (λq=>q=x) w w'->K us w'):b_ w x (Array.toList us.toArray)/\Array.size us.toArray=n/\an (setCells w x 0 (Array.toList us.toArray)) λc=>∃d:O Y,aV c x 0 n=some d/\K d c:=
 ⟨a.bX (by simp[b,hu]) (λv h=>f v (by simpa using h)),by simp[hu],cA a (us:=us) (by simp[b,hu]) rfl λw' e i _=>⟨us,e.rd hu,g w' e i⟩⟩
theorem tn{b:aj}:Plain b:=trivial
theorem eu{k:IntKind}{n:Int}:Plain (.int k n):=trivial
theorem dN{v:Y}{l:O Y}(h:Plain v)(a:∀v∈l,Plain v):∀u∈v::l,Plain u:=λu hu=>(cY.1 hu).elim (λe=>e▸h) (a u)
theorem l3{k l:O Y}(h:∀v∈k,Plain v)(a:∀v∈l,Plain v):∀u∈k++l,Plain u:=λu hu=>(cS.1 hu).elim (h u) (a u)
theorem lA:∀u∈([]:O Y),Plain u:=λu hu=>(by cases hu)
theorem zW:∀v∈eo,Plain v:=dN tn (dN eu (dN eu (l3 (aH.plain _) (l3 (aH.plain _) (dN tn (dN eu lA))))))
theorem Hl:jM [0,0,0,0]=some aH.zero:=by rfl
theorem sd(hs:Src 1 w s (ax ik))(hc:s.len<=s.cap):aC ai 110 #[s] w (λv w'=>v=.tuple #[.agg eo.toArray,(0:Int)]/\Ext w w'):=by
 have E:s.len=28:=len8 hs;obtain⟨A,ar,aJ,d⟩:=zV hs;refine okF (aa.sd s) ao.sd func110 ?_;(delta aa.sd z3 b4 ah ad jI gh lf bl bq cG bw al;dsimp only);refine aN (vs:=zU) (by kernel_rfl) λw1 y f F=>(sq (hs.ext f) hc).use ?_;rintro _ ag ⟨rfl,m⟩;have g:=(hs.ext f).ext m;refine⟨_,rfl,λh=>(by cases h),λ_=>(jh g hc (a:=6) (k:=2) (by decide) (by decide) (by decide)).use ?_⟩;rintro _ _ ⟨rfl,rfl⟩;have h1:=o1 (l:=[0,0,0,0]) (Src.sub g hc (lo:=12) (hi:=16) (by decide) J);rw[Hl]at h1;refine⟨_,_,rfl,⟨by decide,J⟩,by decide,h1.use ?_⟩;rintro _ G ⟨rfl,n⟩;refine⟨_,_,rfl,pz (us:=aH.zero.c) (by rfl) aH.zero.aX (aH.plain _) λH z o=>?_⟩;have B:=(g.ext n).ext o;have p:=o1 (l:=[0,0,0,0]) (Src.sub B hc (lo:=16) (hi:=20) (by decide) J);rw[Hl]at p;refine⟨⟨by decide,J⟩,by decide,p.use ?_⟩;rintro _ bJ ⟨rfl,q⟩;refine⟨_,_,rfl,pz (us:=aH.zero.c) (by rfl) aH.zero.aX (aH.plain _) λbZ C r=>?_⟩;have i:=b1 bZ;have j:=((((m.trans n).trans o).trans q).trans r).trans i;have t:=C.ext i;have u:=(((z.ext q).ext r).ext i);have x:=y.ext j;refine aO ?_;generalize bZ.drew=e at j t u x;have b:=f.trans j;refine⟨A,ar,(d e b 9 _ rfl).1,id,17,(d e b 9 _ rfl).2,A,ar,(d e b 0 _ rfl).1,id,69,(d e b 0 _ rfl).2,id,_,u.rd aH.zero.aX,id,_,t.rd aH.zero.aX,A,ar,(d e b 8 _ rfl).1,id,9,(d e b 8 _ rfl).2,eo.toArray,by kernel_rfl,q0 x (by rfl) (by rfl) zW λI _ D=>⟨rfl,Ext.bN b D (ba _)⟩⟩
theorem nP(hs:Src 1 w s (ax l))(hc:s.len<=s.cap){a:Nat}(b:a+2<=l.length)(c:l.length<=100000):aC ai 114 #[s,a] w (λv w'=>v=.int .u16 (IntKind.wrap .u16 (gW ((l.drop a).take 2):Nat))/\w=w'):=by
 refine okF (aa.nP s (a:Nat)) ao.nP func114 ?_;(delta aa.nP jI;dsimp only);refine(jh hs hc (a:=a) (k:=2) (by decide) b J).use ?_;rintro _ _ ⟨rfl,rfl⟩;exact⟨_,_,rfl,rfl,rfl⟩
def q1:O UInt8:=[0,0,0,0,0,0,0,0,0,17,0,8]
def jv:O UInt8:=[0,5,0,80,0,8,255,137]
theorem NW(a b:ae):py (cP [(a,q1),(b,jv)])=0:=by
 show py (cP [((⟨none,0,0⟩:ae),q1),(⟨none,0,0⟩,jv)])=0;unfold py;rw[CY (by decide+kernel)];decide+kernel
theorem sx(w:I):aC ai 248 #[.agg eo.toArray,(8:Int)] w (λv w'=>∃t:ae,v=t/\aT 1 5 w' t (ax q1)/\Ext w w'/\∀q,aB t q->w.heap.size<=q):=by
 refine okF (aa.sx eo.toArray 8) ao.sx func248 ?_;(delta aa.sx bC ad bn aS ah EI lQ cG aZ ap fP;dsimp only);refine aN (vs:=eo) rfl λw1 A B M=>?_;have r:=b1 w1;have e:=A.ext r;have i:=B.trans r;refine aO ?_;generalize w1.drew=ag at e i;refine⟨λq=>ag.heap.size<=q,by rw[qV];have:=e.lt;show¬ag.heap.size<=w.heap.size;omega,aH.zero.c,by rw[aw];exact e.fE (o:=3) (n:=17) (by decide),by rw[qV];have:=e.lt;show¬ag.heap.size<=w.heap.size;omega,aH.zero.c,by rw[aw];exact e.fE (o:=20) (n:=17) (by decide),(jK aH.zero ag).use ?_⟩;rintro _ C ⟨a,rfl,D,_,f,N⟩;refine⟨a,rfl,af.bL f,(jK aH.zero C).use ?_⟩;rintro _ O ⟨b,rfl,hb,_,g,P⟩;refine⟨b,rfl,aO ((Fs (la:=[0,0,0,0]) (lb:=[0,0,0,0]) (D.src.ext g) hb.src (by decide)).use ?_)⟩;rintro _ j ⟨c,rfl,s,u,E⟩;have F:=((i.trans f).trans g).trans u;have y:=((e.ext f).ext g).ext u;have G:=((i.trans f).trans g).size;refine⟨c,rfl,false,y.cell,λh=>(by cases h),λ_=>⟨17,by rw[aw];exact y.cell,aO ?_⟩⟩;have z:=c5 j (.cells #[.int .u8 0,.int .u8 17] 5);have f0:lV 1 5 w (j.alloc (.cells #[.int .u8 0,.int .u8 17] 5)) c (ax [0,0,0,0,0,0,0,0]):=⟨s.ext z,F.trans z,λq m=>dQ G (E q m)⟩;have Q:c.len=8:=iM s;obtain⟨d,H,aG,_,p,R,_,_⟩:=lV.app (df:=31) mz f0 (Src.new j (ax [0,17]) 2 rfl) (ic _) (by show(2*(c.len+2)+1000)*1<=_;omega);refine⟨d,H,aG,(gV (l:=[0,0,0,0,0,0,0,0,0,17]) (n:=8) (k:=2) p.o.src (by decide) (by decide) (by decide)).use ?_⟩;rintro _ cC ⟨t,rfl,J,K,L⟩;exact⟨t,rfl,t,rfl,J,p.x.trans K,λq m=>by have:=L q m;have:=p.x.size;omega⟩
end
def h8(a b c d:Int)(e:aj)(f:Int):O Y:=[.int .u16 a,.int .u16 b,.int .u8 c,d,e,f]
theorem Hm(a b c d:Int)(e:aj)(f:Int):∀v∈h8 a b c d e f,Plain v:=dN eu (dN eu (dN eu (dN eu (dN tn (dN eu lA)))))
section
variable {w w' w1:I}{s t:ae}{x:Nat}{T:TypeId}{a b c d f a' b' c' d' f':Int}{e e':aj}
theorem vI(g:Var w x (h8 a b c d e f) T){K:I->Prop}(h:∀w',Var w' x (h8 a' b' c' d' e' f') T->af (λq=>q=x) w w'->K w'):b_ w x (h8 a' b' c' d' e' f')/\(6:Nat)=6/\an (setCells w x 0 (h8 a' b' c' d' e' f')) K:=
 ⟨g.bX rfl (Hm _ _ _ _ _ _),rfl,cA g (us:=h8 a' b' c' d' e' f') rfl rfl λw' i j _=>h w' i j⟩
theorem C1(g:Var w x (h8 a b c d e f) T){K:Int->Int->Int->Int->aj->Int->Prop}(n:K a b c d e f):∃h:Int,w.cell? x=some (.int .u16 h)/\∃i:Int,w.cell? (Addr.add x 1)=some (.int .u16 i)/\∃j:Int,w.cell? (Addr.add x 2)=some (.int .u8 j)/\∃k:Int,w.cell? (Addr.add x 3)=some (.int .i64 k)/\∃l:aj,w.cell? (Addr.add x 4)=some (.bool l)/\∃m:Int,w.cell? (Addr.add x 5)=some (.int .i64 m)/\K h i j k l m:=by
 simp only[aw];exact⟨a,g.cell,b,g.cell,c,g.cell,d,g.cell,e,g.cell,f,g.cell,n⟩
theorem sr(hs:Src 1 w s (ax jv))(hb:∀q,aB s q->q<w.heap.size):aC ai 185 #[.agg eo.toArray,s] w (λv w'=>v=true/\Ext w w'):=by
 have i:s.len=8:=len8 hs;refine okF (aa.sr eo.toArray s) ao.sr func185 ?_;(delta aa.sr ad bn bF;dsimp only);refine aN (vs:=eo) rfl λw1 j c m=>⟨eo,j.rd rfl,?_⟩;have g:=sx w1;rw[show(8:Int)=(s.len:Int) from by rw[i];rfl]at g;refine g.use ?_;rintro _ d ⟨t,rfl,h,e,hf⟩;refine⟨t,rfl,aO ?_⟩;have b:=c5 d (.cells #[t,s] 31);refine(qg (ps:=[(t,q1),(s,jv)]) (Src.new d [fV t,fV s] 2 rfl) ?_ ?_ ?_ (by show(20:Nat)<=100000;decide) (by show 2<=100000;decide)).use ?_
 .intro p a
  rcases cY.1 a with rfl|a
  .exact h.src.ext b
  .rw[ej.1 a];exact((hs.ext c).ext e).ext b
 .rintro q ⟨n,k,rfl⟩
  cases k;show d.heap.size<_;rw[na];omega
 .intro p a q f
  rcases cY.1 a with rfl|a
  .exact fB (h.lt q f) b.size
  .rw[ej.1 a]at f
   exact fB (hb q f) ((c.trans e).trans b).size
 rintro _ o ⟨rfl,l⟩;rw[NW];exact⟨_,rfl,rfl,((c.trans e).trans b).trans l⟩
theorem se(hs:Src 1 w s (ax jv))(hc:s.len<=s.cap)(hb:∀q,aB s q->q<w.heap.size):aC ai 113 #[.agg eo.toArray,s] w (λv w'=>v=.tuple #[.agg (h8 0 0 0 6 false 8).toArray,(0:Int)]/\Ext w w'):=by
 have t:s.len=8:=len8 hs;refine okF (aa.se eo.toArray s) ao.se func113 ?_;(delta aa.se z4 ah h6 al aS ad bF bH xb fD g8 fP cG bh r1 fb;dsimp only);refine aN (vs:=eo) rfl λw1 l e u=>aN (vs:=h8 0 0 0 0 false 0) rfl λag m f x=>⟨λh=>absurd (b8 h) J,λ_=>?_⟩;have c:=e.trans f;have g:=nP (a:=4) (hs.ext c) hc (by decide) (by decide);have i:=nP (a:=6) (hs.ext c) hc (by decide) (by decide);rw[show IntKind.wrap .u16 (gW ((jv.drop 4).take 2):Nat)=8 from by decide+kernel]at g;rw[show IntKind.wrap .u16 (gW ((jv.drop 6).take 2):Nat)=65417 from by decide+kernel]at i;refine g.use ?_;rintro _ _ ⟨rfl,rfl⟩;refine⟨_,rfl,i.use ?_⟩;rintro _ _ ⟨rfl,rfl⟩;have n:IntKind.wrap .i64 8=8:=by decide
 rw[n];refine⟨_,rfl,λh=>(by cases h),λ_=>⟨λh=>absurd (b8 h) J,λ_=>⟨λh=>absurd (b8 h) J,λ_=>cc (λb w'=>b=false/\ag=w') (λk d=>⟨λh=>(by cases h),λ_=>d _ _ ⟨rfl,rfl⟩⟩) ?_⟩⟩⟩;rintro _ _ ⟨rfl,rfl⟩;refine⟨λh=>(by cases h),λ_=>cc (λb w'=>b=false/\Ext ag w') (λk d=>⟨λ_=>⟨eo,(l.ext f).rd rfl,(sr (hs.ext c) λq o=>fB (hb q o) c.size).use ?_⟩,λh=>(by cases h)⟩) ?_⟩
 .rintro _ y ⟨rfl,hx⟩
  exact⟨_,rfl,d _ _ ⟨rfl,hx⟩⟩
 rintro _ z ⟨rfl,j⟩;refine⟨λh=>(by cases h),λ_=>vI (m.ext j) (a':=0) (b':=0) (c':=0) (d':=6) (e':=false) (f':=8) λA p r=>C1 p ⟨rfl,Ext.bN (c.trans j) r e.size⟩⟩
theorem p6(hs:Src 1 w s (ax jv))(hc:s.len<=s.cap)(hb:∀q,aB s q->q<w.heap.size):aC ai 56 #[.agg eo.toArray,s] w (λv w'=>v=.tuple #[.agg (h8 5 80 0 6 false 8).toArray,(0:Int)]/\Ext w w'):=by
 refine okF (aa.p6 eo.toArray s) ao.p6 func56 ?_;(delta aa.p6 z4 fP cG ad ah uw bH h6 st fD g8 bh r1 fb aS xb;dsimp only);refine aN (vs:=eo) rfl λw1 u j U=>aN (vs:=h8 0 0 0 0 false 0) rfl λag J m V=>cc (λn w'=>n=0/\Var w' w1.heap.size (h8 0 0 0 6 false 8) 75/\Ext w w') (λk p=>⟨17,by rw[aw];exact(u.ext m).cell,λh=>(by cases h),λ_=>⟨λ_=>⟨eo,(u.ext m).rd rfl,(se (hs.ext (j.trans m)) hc λq L=>fB (hb q L) (j.trans m).size).use ?_⟩,λh=>(by cases h)⟩⟩) ?_
 .rintro _ W ⟨rfl,x⟩
  exact⟨_,_,_,_,_,_,_,rfl,vI (J.ext x) (a':=0) (b':=0) (c':=0) (d':=6) (e':=false) (f':=8) λX M N=>p _ _ ⟨rfl,M,Ext.bN ((j.trans m).trans x) N j.size⟩⟩
 rintro _ y ⟨rfl,z,r⟩;have a6:=nP (a:=0) (hs.ext r) hc (by decide) (by decide);have bI:=nP (a:=2) (hs.ext r) hc (by decide) (by decide);rw[show IntKind.wrap .u16 (gW ((jv.drop 0).take 2):Nat)=5 from by decide+kernel]at a6;rw[show IntKind.wrap .u16 (gW ((jv.drop 2).take 2):Nat)=80 from by decide+kernel]at bI;refine⟨λh=>(by cases h),λ_=>a6.use ?_⟩;rintro _ _ ⟨rfl,rfl⟩;refine⟨_,rfl,bI.use ?_⟩;rintro _ _ ⟨rfl,rfl⟩;obtain⟨bW,b9⟩:=eP z (i:=0) (by show 0<6;decide);have t:=eO z (i:=0) (.int .u16 5);have A:=dX y w1.heap.size 0 (.int .u16 5);refine⟨_,rfl,bW,b9,aO ?_⟩;generalize y.setCell w1.heap.size (.int .u16 5)=B at t A;obtain⟨O,P⟩:=eP t (i:=1) (by show 1<6;decide);have l:=eO t (i:=1) (.int .u16 80);have C:=dX B w1.heap.size 1 (.int .u16 80);refine⟨by rw[aw,cz];exact O,by rw[aw,cz];exact P,aO ?_⟩;rw[aw,cz];generalize B.setCell ⟨w1.heap.size,1,none⟩ (.int .u16 80)=o at l C;have Q:Ext w o:=Ext.bN (Ext.bN r A j.size) C j.size
 replace l:Var o w1.heap.size (h8 5 80 0 6 false 8) 75:=l
 refine⟨5,l.cell,cc (λb w'=>b=false/\o=w') (λk p=>⟨λh=>(by cases h),λ_=>⟨80,l.cell,p _ _ ⟨rfl,rfl⟩⟩⟩) ?_⟩;rintro _ _ ⟨rfl,rfl⟩;refine⟨λh=>(by cases h),λ_=>?_⟩;have tl:=C1 (K:=λa b c d e f=>b_ o w1.heap.size (h8 a b c d e f)/\(6:Nat)=6/\an (setCells o w1.heap.size 0 (h8 a b c d e f)) λg=>∃D:Int,g.cell? w1.heap.size=some (.int .u16 D)/\∃E:Int,g.cell? (Addr.add w1.heap.size 1)=some (.int .u16 E)/\∃F:Int,g.cell? (Addr.add w1.heap.size 2)=some (.int .u8 F)/\∃G:Int,g.cell? (Addr.add w1.heap.size 3)=some (.int .i64 G)/\∃H:aj,g.cell? (Addr.add w1.heap.size 4)=some (.bool H)/\∃I:Int,g.cell? (Addr.add w1.heap.size 5)=some (.int .i64 I)/\((Value.tuple #[.agg #[.int .u16 D,.int .u16 E,.int .u8 F,G,H,I],(0:Int)]=.tuple #[.agg (h8 5 80 0 6 false 8).toArray,(0:Int)])/\Ext w g)) l ?_
 .have R:Addr.add w1.heap.size 1=⟨w1.heap.size,1,none⟩:=by rw[aw]
  rw[R]at tl;exact tl
 .exact vI l (a':=5) (b':=80) (c':=0) (d':=6) (e':=false) (f':=8) λg S T=>C1 S ⟨rfl,Ext.bN Q T j.size⟩
end
def zX:O Y:=aH.zero.c++(aH.zero.c++ [.int .u16 5,.int .u16 80,.int .u8 17])
def mN:O Y:=aH.zero.c++(aH.zero.c++ [.int .u16 0,.int .u16 0,.int .u8 0])
def lB:O Y:=eo++(h8 5 80 0 6 false 8++zX)
def NX:O Y:=zU++(h8 0 0 0 0 false 0++mN)
theorem NY:∀v∈zX,Plain v:=l3 (aH.plain _) (l3 (aH.plain _) (dN eu (dN eu (dN eu lA))))
theorem zY:∀v∈lB,Plain v:=l3 zW (l3 (Hm _ _ _ _ _ _) NY)
section
variable {w w' w1:I}{s t:ae}
theorem Hn(hs:Src 1 w s (ax jv)):∀q,aB s q->q<w.heap.size:=by
 obtain⟨A,ar,_,hc⟩:=hs.at (i:=0) (v:=.int .u8 0) rfl;have:=G3 hc;rw[qV]at this;rintro q ⟨b,a,rfl⟩;rw[ar]at a
 cases a;exact this
theorem r4(hs:Src 1 w s (ax ik))(hc:s.len<=s.cap):aC ai 55 #[s] w (λv w'=>v=.tuple #[.agg eo.toArray,(0:Int)]/\Ext w w'):=by
 have f:s.len=28:=len8 hs;obtain⟨A,ar,aJ,b⟩:=zV hs;refine okF (aa.r4 s) ao.r4 func55 ?_;(delta aa.r4 z3 ah bl bq cG bw nI ad;dsimp only);refine aN (vs:=zU) (by kernel_rfl) λw1 d a g=>⟨λh=>?_,λ_=>⟨A,ar,(b w1 a 0 _ rfl).1,69,(b w1 a 0 _ rfl).2,by decide,λ_=>(sd (hs.ext a) hc).use ?_,λh=>absurd h (by decide+kernel)⟩⟩
 .have h:=eq_of_beq h
  omega
 rintro _ i ⟨rfl,c⟩;exact⟨_,_,rfl,q0 (d.ext c) (by rfl) (by rfl) zW λj _ e=>⟨rfl,Ext.bN (a.trans c) e (ba _)⟩⟩
theorem p4(hs:Src 1 w s (ax ik))(hc:s.len<=s.cap):aC ai 20 #[s] w (λv w'=>v=.tuple #[.agg lB.toArray,(0:Int)]/\Ext w w'):=by
 have E:s.len=28:=len8 hs;refine okF (aa.p4 s) ao.p4 func20 ?_;(delta aa.p4 hO nI z3 ad ah fb aS bC rR e5 r1 uw z4 bH gN fD g8 fP cG bh;dsimp only);refine aN (vs:=NX) (by kernel_rfl) λw1 F p Q=>(r4 (hs.ext p) hc).use ?_;rintro _ ag ⟨rfl,x⟩;refine⟨_,_,rfl,pz (us:=eo) (by rfl) (by rfl) zW λi y G=>⟨λh=>(by cases h),λ_=>⟨false,by rw[aw];exact y.cell,λh=>(by cases h),λ_=>?_⟩⟩⟩;have z:=b1 i;have g:=y.ext z;have j:Ext w1 i.drew:=(x.trans G).trans z;have H:ag.heap.size<i.drew.heap.size:=g.lt;have R:w1.heap.size<=ag.heap.size:=x.size;refine aO ?_;generalize i.drew=k at g j H;have A:=F.ext j;have I:=hs.ext (p.trans j);have l:Src 1 k ⟨aW s.a 1 (Int.toNat 20) s.cap,s.len-Int.toNat 20,s.cap-Int.toNat 20⟩ (ax jv):=by
  have h:=Src.sub I hc (lo:=20) (hi:=s.len) J (ba _);have e:((ax ik).drop 20).take (s.len-20)=ax jv:=by rw[E];rfl
  rw[e]at h;exact h
 have B:=p.trans j;have C:s.len-Int.toNat 20<=s.cap-Int.toNat 20:=by omega
 refine⟨λq=>k.heap.size<=q,by show¬k.heap.size<=ag.heap.size;omega,eo,g.rd rfl,by rw[qV];show¬k.heap.size<=ag.heap.size;omega,20,by rw[aw];exact g.cell,⟨by decide,J⟩,(p6 l C (Hn l)).use ?_,aN (vs:=h8 0 0 0 0 false 0) rfl λS K m _=>⟨af.bL m,(p6 (l.ext m) C (Hn (l.ext m))).use ?_⟩⟩
 .rintro _ T ⟨rfl,r⟩
  refine⟨5,80,0,6,false,8,0,rfl,af.bL r,aN (vs:=h8 0 0 0 0 false 0) rfl λU L D _=>⟨af.bL D,vI L (a':=5) (b':=80) (c':=0) (d':=6) (e':=false) (f':=8) λV b M=>⟨λh=>(by cases h),λ_=>?_⟩⟩⟩;have f:=Ext.bN ((r.trans D)) M r.size;have d:=g.ext f;have t:=A.ext f;simp only[aw,cz];exact⟨eo,d.rd rfl,5,b.cell,80,b.cell,0,b.cell,6,b.cell,false,b.cell,8,b.cell,aH.zero.c,d.fE (o:=3) (n:=17) (by decide),aH.zero.c,d.fE (o:=20) (n:=17) (by decide),5,b.cell,80,b.cell,17,d.cell,zX.toArray,by kernel_rfl,lB.toArray,by kernel_rfl,q0 t (by rfl) (by rfl) zY λW _ N=>⟨rfl,Ext.bN (B.trans f) N (ba _)⟩⟩
 .rintro _ X ⟨rfl,u⟩
  refine⟨5,80,0,6,false,8,0,rfl,af.bL u,vI (K.ext u) (a':=5) (b':=80) (c':=0) (d':=6) (e':=false) (f':=8) λY b O=>⟨λh=>(by cases h),λ_=>?_⟩⟩;have f:=Ext.bN (m.trans u) O (ba _);have d:=g.ext f;have t:=A.ext f;simp only[aw,cz];exact⟨eo,d.rd rfl,5,b.cell,80,b.cell,0,b.cell,6,b.cell,false,b.cell,8,b.cell,aH.zero.c,d.fE (o:=3) (n:=17) (by decide),aH.zero.c,d.fE (o:=20) (n:=17) (by decide),5,b.cell,80,b.cell,17,d.cell,zX.toArray,by kernel_rfl,lB.toArray,by kernel_rfl,q0 t (by rfl) (by rfl) zY λZ _ P=>⟨rfl,Ext.bN (B.trans f) P (ba _)⟩⟩
end
def mO(i:Nat):O Y:=(List.range 251).map λq=>.int .i64 (if (List.range i).any (λj=>ju j==q) then 2 else -1)
theorem vJ(i:Nat):(mO i).length=251:=by simp[mO]
theorem zZ(i:Nat){q:Nat}(a:q<251):(mO i)[q]? =some (.int .i64 (if (List.range i).any (λj=>ju j==q) then 2 else -1)):=by
 unfold mO;rw[oy,List.getElem?_range a];rfl
theorem C2(i:Nat):ju i<251:=hZ _ (by decide)
theorem Ho{i:Nat}(hi:i<251):(mO i)[ju i]? =some (.int .i64 (-1)):=by
 rw[zZ i (C2 i),if_neg];rw[ov];rintro⟨j,a,he⟩;exact NN i hi j (jY.1 a) (eq_of_beq he)
theorem NZ(i:Nat):(mO i).set (ju i) (2:Int)=mO (i+1):=by
 refine List.ext_getElem? λq=>?_;by_cases a:q<251
 .rw[List.getElem?_set,zZ (i+1) a,vJ,zZ i a,List.range_succ,List.any_append]
  by_cases e:ju i=q
  .rw[if_pos e,if_pos (e▸C2 i)]
   simp[e]
  .rw[if_neg e]
   simp[e]
 .rw[ny (by rw[dE,vJ];omega),ny (by rw[vJ];omega)]
theorem N0{q:Nat}(a:q<251):(mO 251)[q]? =some (.int .i64 2):=by
 rw[zZ 251 a,if_pos];obtain⟨i,hi,e⟩:=NO q a;exact ov.2 ⟨i,jY.2 hi,by rw[e];exact beq_self_eq_true _⟩
section
variable {w w' w1:I}{s t ls z1:ae}{x bE i:Nat}{T:TypeId}{vs:O Y}
theorem vK(h:aT 1 T w s vs){u:Y}(hi:vs[i]? =some u)(v:Y):∃A:av,s.a=some A/\((0:Int)<=(i:Int)/\(i:Int)<(s.len:Int))/\(∃u:Y,w.cell? (A.add (Int.toNat (i:Int)*1))=some u)/\w.frozen? (A.add (Int.toNat (i:Int)*1))=false/\
 aT 1 T (w.setCell (A.add (Int.toNat (i:Int)*1)) v) s (vs.set i v)/\af (aB s) w (w.setCell (A.add (Int.toNat (i:Int)*1)) v):=by
 obtain⟨b,cs,hb,c,_⟩:=h.cell (i:=i) hi;obtain⟨A,ar,aJ,hc⟩:=h.src.at hi;rw[hb]at ar
 cases ar;have e:(Addr.mk b 0 none).add (Int.toNat (i:Int)*1)=⟨b,i,none⟩:=by rw[aw,d_,gd,cz]
 refine⟨_,hb,aJ,?_⟩;rw[e]at hc⊢;exact⟨⟨_,hc⟩,c.frozen _ rfl,h.set hb (i:=i) v,af.set (.refl _ _) (λ_=>⟨_,hb,rfl⟩) _⟩
theorem sj(w:I):aC ai 143 #[(2:Int),(251:Int),.int .u64 1] w (λv w'=>∃x:Nat,v=.pointer (some x)/\Var w' x [.int .i64 ((ju 0:Nat):Int),.int .i64 ((173:Nat):Int),.int .i64 ((251:Nat):Int)] 364/\Ext w w'/\w.heap.size<=x):=by
 refine okF (aa.sj 2 251 1) ao.sj func143 ?_;(delta aa.sj bn aZ fq ad al;dsimp only);have e:=gV (s:=⟨none,0,0⟩) (l:=[]) (n:=2) (k:=2) (aT.none 1 5 w).src (by decide) (by decide) (by decide);rw[show IntKind.wrap .u64 2=((2:Nat):Int) from by decide];refine e.use ?_;rintro _ w1 ⟨t,rfl,f,b,hf⟩;have a:=c5 w1 (.cells #[t] 31);have c:=su (gO:=1) (ps:=[(t,[0,2])]) (Src.new (T:=31) w1 [fV t] 1 rfl) (λp g=>by rw[ej.1 g];exact f.src.ext a) (by show 2<=100000;decide) (by show 1<=100000;decide) (by decide);rw[show qZ 1 (cP [(t,[0,2])])=16824252002199258834 from NK]at c;refine⟨t,rfl,aO (c.use ?_)⟩;rintro _ _ ⟨rfl,rfl⟩;have d:=b1 (w1.alloc (.cells #[t] 31));refine⟨_,rfl,aO ⟨by decide,by decide,by decide,aN (vs:=[.int .i64 ((ju 0:Nat):Int),.int .i64 ((173:Nat):Int),.int .i64 ((251:Nat):Int)]) (by kernel_rfl) λj h i m=>⟨_,rfl,h,((b.trans a).trans d).trans i,((b.trans a).trans d).size⟩⟩⟩
theorem N1{a st:Nat}(d:Var w x [a,st,.int .i64 ((251:Nat):Int)] 364)(h:a<251/\st<=251)(ht:Var w bE [s] 274)(hx:bE≠x)(hs:aT 1 3 w s vs)(f:vs[a]? =some (.int .i64 (-1))):
 aC ai 216 #[.pointer (some bE),.pointer (some x)] w (λv w'=>v=a/\Var w' x [.int .i64 ((a+st)%251:Nat),st,.int .i64 ((251:Nat):Int)] 364/\af (λq=>q=x) w w'):=by
 refine okF (aa.yl (some bE) (some x)) ao.yl func216 ?_;(delta aa.yl b4 dj ay aR bl bq r1 bw ah;dsimp only);refine(NU d ⟨h.1,h.2,by decide⟩).use ?_;rintro _ w1 ⟨rfl,g,b⟩;have i:aT 1 3 w1 s vs:=hs.ak b λq j e=>by
  obtain⟨c,k⟩:=aT.block hs j;subst e;exact absurd (bc.inj k d).2 (by decide)
 obtain⟨A,ar,hb,hc⟩:=i.src.at f;refine⟨_,rfl,λn w'=>n=(a:Int)/\w1=w',λ_ _=>0,⟨rfl,rfl⟩,?_⟩;rintro _ _ ⟨rfl,rfl⟩;exact⟨_,rfl,s,(ht.ak b hx).cell,A,ar,hb,_,hc,λh=>absurd h (by decide),λ_=>⟨rfl,g,b⟩⟩
structure kQ(w:I)(bE x:Nat)(s:ae)(i:Nat):Prop where
 t:Var w bE [s] 274
 v:Var w x [.int .i64 (ju i:Nat),.int .i64 ((173:Nat):Int),.int .i64 ((251:Nat):Int)] 364
 o:aT 1 3 w s (mO i)
 n:bE≠x
theorem kQ.ext(h:kQ w bE x s i)(hx:Ext w w'):kQ w' bE x s i:=⟨h.t.ext hx,h.v.ext hx,h.o.ext hx,h.n⟩
theorem kQ.Hp(h:kQ w bE x s i):∀q,aB s q->q≠bE/\q≠x:=λq b=>by
 obtain⟨c,a⟩:=aT.block h.o b
 exact⟨λe=>by subst e;exact absurd (bc.inj a h.t).2 (by decide),λe=>by subst e;exact absurd (bc.inj a h.v).2 (by decide)⟩
theorem N2(h:kQ w bE x s 0)(I:Src 2 w ls [.int .i64 2,.int .i64 1])(Z:Src 1 w z1 [.pointer (some ⟨x,0,none⟩)])(K:∀q,aB ls q->q≠x/\¬aB s q)(D:∀q,aB z1 q->q≠x/\¬aB s q):
 aC ai 144 #[.pointer (some ⟨bE,0,none⟩),.slice ls.a ls.len ls.cap,.slice z1.a z1.len z1.cap] w (λv w'=>v=.tuple #[]/\kQ w' bE x s 251/\af (λq=>q=x\/aB s q) w w'):=by
 have aK:ls.len=1:=by have:=I.len;simp at this;omega
 have ab:s.len=251:=by have:=h.o.1;rw[vJ]at this;omega
 refine okF (aa.x0 (some ⟨bE,0,none⟩) ls z1) ao.x0 func144 ?_;(delta aa.x0 ay aR dj fO ah bl bq r1 bw rS bH ad bh bC eU b4 st al;dsimp only);refine⟨_,rfl,s,h.t.cell,λn w'=>∃i:Nat,i<=251/\n=((251-i:Nat):Int)/\kQ w' bE x s i/\af (λq=>q=x\/aB s q) w w',λn _=>n.toNat,⟨0,by decide,by rw[ab],h,.refl _ _⟩,?_⟩;rintro _ aL ⟨i,hi,rfl,ac,ae⟩;refine⟨λn m w'=>(n=((251-i:Nat):Int)/\m=0/\kQ w' bE x s i/\af (λq=>q=x\/aB s q) w w')\/(i<251/\n=((251-(i+1):Nat):Int)/\m=1/\kQ w' bE x s (i+1)/\af (λq=>q=x\/aB s q) w w'),λ_ m _=>((1:Int)-m).toNat,.inl ⟨rfl,rfl,ac,ae⟩,?_⟩;rintro _ _ k (⟨rfl,rfl,g,r⟩|⟨f,rfl,rfl,g,r⟩)
 rotate_left
 .refine⟨λaJ=>absurd (b8 aJ) J,λ_=>⟨⟨i+1,f,rfl,g,r⟩,by show(((251-(i+1):Nat):Int)).toNat<(((251-i:Nat):Int)).toNat;omega⟩⟩
 refine⟨λ_=>?_,λu=>absurd (cL u) J⟩;have ag:=I.ak r λq d E=>E.elim (K q d).1 (K q d).2;obtain⟨aM,A,ar,L⟩:1<=ls.len/\∃A,ls.a=some A/\aV k (A.add (0*2)) 0 2=some [.int .i64 2,.int .i64 1]:=by
  obtain⟨_,A,ar,aj⟩:=tb (c:=λp:O Y=>p) (l:=[[.int .i64 2,.int .i64 1]]) ag (λp am=>by rw[ej.1 am];rfl) (by decide) (i:=0) (by decide);exact⟨J,A,ar,aj⟩
 have jQ:=oH L (j:=0) (v:=.int .i64 2) rfl;have aA:=oH L (j:=1) (v:=.int .i64 1) rfl;rw[kT,add_zero']at jQ;rw[cz]at aA;refine⟨A,ar,⟨J,J⟩,2,jQ,1,aA,aN (vs:=[.int .i64 0,.int .i64 0]) rfl λaP M an _=>⟨M.bX rfl (dN eu (dN eu lA)),rfl,cA M (us:=[.int .i64 2,.int .i64 1]) rfl rfl λy N ap _=>?_⟩⟩;have P:Ext k y:=Ext.bN an ap (ba _);have Q:=g.ext P;have R:=r.trans (af.bL (W:=λq=>q=x\/aB s q) P);refine⟨1,by rw[aw];exact N.cell,λn m w'=>(n=((251-i:Nat):Int)/\m=0/\y=w')\/(i<251/\n=((251-(i+1):Nat):Int)/\m=1/\kQ w' bE x s (i+1)/\af (λq=>q=x\/aB s q) w w'),λ_ m _=>((1:Int)-m).toNat,.inl ⟨rfl,rfl,rfl⟩,?_⟩;rintro _ _ bm (⟨rfl,rfl,rfl⟩|⟨f,rfl,rfl,aq,au⟩)
 rotate_left
 .refine⟨λaJ=>absurd (b8 aJ) J,λ_=>⟨.inr ⟨f,rfl,by decide,aq,au⟩,by show((1:Int)-IntKind.wrap .i64 (0+1)).toNat<((1:Int)-0).toNat;decide⟩⟩
 refine⟨λ_=>⟨λh0=>?_,λh0=>?_⟩,λu=>absurd (cL u) J⟩
 .have h0:=eq_of_beq h0
  obtain rfl:i=251:=by omega
  exact⟨rfl,Q,R⟩
 have f:i<251:=by
  refine Nat.lt_of_not_le λu=>?_;obtain rfl:i=251:=by omega
  cases h0
 have F:=b1 y;have b:=Q.ext F;have S:=N.ext F;have G:=R.trans (af.bL (W:=λq=>q=x\/aB s q) F);refine aO ?_;generalize y.drew=bZ at b S G;have av:k.heap.size≠x:=by have:=g.v.lt;omega
 have aQ:k.heap.size≠bE:=by have:=g.t.lt;omega
 obtain⟨B,T,ax,az⟩:=(Z.ak G λq d E=>E.elim (D q d).1 (D q d).2).at (i:=0) (v:=.pointer (some ⟨x,0,none⟩)) rfl;refine⟨λq=>q=x,_,rfl,b.n,s,b.t.cell,B,T,ax,by rw[qV];exact(D _ ⟨B,T,rfl⟩).1,_,az,av,2,S.cell,(N1 b.v ⟨C2 i,by decide⟩ b.t b.n b.o (Ho f)).use ?_⟩;rintro _ aS ⟨rfl,U,z⟩;rw[NM]at U;have aD:=b.o.ak z λq d e=>(b.Hp q d).2 e;obtain⟨C,aE,aF,aH,aI,V,H⟩:=vK aD (Ho f) (.int .i64 2);rw[NZ]at V;refine⟨_,rfl,z,C,aE,aF,aH,aI,aO ?_⟩;have aG:IntKind.wrap .i64 (((251-i:Nat):Int)-1)=((251-(i+1):Nat):Int):=by rw[bT J J];omega
 rw[aG];have X:=b.Hp;exact⟨.inr ⟨f,rfl,by decide,⟨(b.t.ak z b.n).ak H λd=>(X _ d).1 rfl,U.ak H λd=>(X _ d).2 rfl,V,b.n⟩,(G.trans (z.mono λ_ _ h=>.inl h)).trans (H.mono λ_ _ h=>.inr h)⟩,by show((1:Int)-IntKind.wrap .i64 (0+1)).toNat<((1:Int)-0).toNat;decide⟩
end
theorem il{a:(aj->I->Prop)->Prop}{rest:aj->I->Prop}{w0:I}{b:aj}(c:aj)(h1:b=true->∀k:aj->I->Prop,(∀w',Ext w0 w'->k c w')->a k)(d:∀w',Ext w0 w'->rest (b&&c) w'):
 a_ (λk=>(b=true->a k)/\(b=false->k false w0)) rest:=
 ⟨⟨λh=>h1 h rest (λw' hx=>by have:=d w' hx;rwa[h,jb]at this),λh=>by have:=d w0 (.refl _ _);rwa[h,mW]at this⟩⟩
theorem l4{a:(aj->I->Prop)->Prop}{rest:aj->I->Prop}{w0:I}{b:aj}(c:aj)(h1:b=false->∀k:aj->I->Prop,(∀w',Ext w0 w'->k c w')->a k)(d:∀w',Ext w0 w'->rest (b||c) w'):
 a_ (λk=>(b=true->k true w0)/\(b=false->a k)) rest:=
 ⟨⟨λh=>by have:=d w0 (.refl _ _);rwa[h,Bool.true_or]at this,λh=>h1 h rest (λw' hx=>by have:=d w' hx;rwa[h,nu]at this)⟩⟩
structure cg where
 id:Int
 addr:aH
 port:Int
 weight:Int
 pA:aj
 deriving DecidableEq
def cg.c(b:cg):O Y:=.int .i64 b.id::(b.addr.c++ [.int .u16 b.port,.int .i64 b.weight,.bool b.pA])
structure dP where
 id:Int
 addr:aH
 port:Int
 j9:Int
 bits:Int
 cd:Int
 deriving DecidableEq
def dP.c(s:dP)(k:ae):O Y:=.int .i64 s.id::(s.addr.c++ [.int .u16 s.port,.int .u8 s.j9,.int .i64 s.bits,.int .u64 s.cd,.slice k.a k.len k.cap])
structure ga where
 addr:aH
 port:Int
 j9:Int
 deriving DecidableEq
def ga.c(d:ga):O Y:=d.addr.c++ [.int .u16 d.port,.int .u8 d.j9]
def dP.jV(s:dP):ga:=⟨s.addr,s.port,s.j9⟩
theorem cg.aX(b:cg):b.c.length=21:=by simp[cg.c,aH.aX]
theorem dP.aX(s:dP)(k:ae):(s.c k).length=23:=by simp[dP.c,aH.aX]
theorem ga.aX(d:ga):d.c.length=19:=by simp[ga.c,aH.aX]
theorem ga.plain(d:ga):∀v∈d.c,Plain v:=by
 intro v a;rcases cS.1 a with a|a
 .exact d.addr.plain v a
 .simp only[cY,fC,fM]at a
  rcases a with rfl|rfl<;>trivial
variable {w:I}{b:Nat}{T:TypeId}{s:dP}{k:ae}
theorem g0(h:Var w b (s.c k) T):w.cell? ⟨b,0,none⟩=some (.int .i64 s.id)/\w.cell? (Addr.add ⟨b,0,none⟩ 1)=some (.bool s.addr.eg)/\w.cell? (Addr.add ⟨b,0,none⟩ 18)=some (.int .u16 s.port)/\w.cell? (Addr.add ⟨b,0,none⟩ 19)=some (.int .u8 s.j9)/\
 w.cell? (Addr.add ⟨b,0,none⟩ 20)=some (.int .i64 s.bits)/\w.cell? (Addr.add ⟨b,0,none⟩ 21)=some (.int .u64 s.cd)/\w.cell? (Addr.add ⟨b,0,none⟩ 22)=some (.slice k.a k.len k.cap):=by
 simp only[aw,h.cell];refine⟨rfl,?_,?_,?_,?_,?_,?_⟩<;>simp[dP.c,List.getElem?_append,aH.aX]
 simp[aH.c]
theorem Hq(h:Var w b (s.c k) T):aV w (Addr.add ⟨b,0,none⟩ 1) 0 17=some s.addr.c:=by
 rw[aw,h.fE (by rw[dP.aX];decide)];show some ((s.addr.c++_).take 17)=_;rw[kZ (by rw[aH.aX];decide),ey (by rw[aH.aX];decide)]
def tp(n:Int):aj:=decide (n>=0)&&decide (n<=65535)
def tq(n:Int):aj:=decide (n>=0)&&decide (n<=10)
def q2(s:dP)(k:ae):aj:=tp s.id&&s.addr.eH&&decide (s.port>0)&&((s.j9==6)||(s.j9==17))&&decide (s.bits>=0)&&decide (s.bits<=if s.addr.eg then 128 else 32)&&decide (s.cd>=1)&&decide (s.cd<=1073741824)&&((k.len:Int)==0)
theorem r_(n:Int)(w:I):aC ai 103 #[n] w (λv w'=>v=.bool (tp n)/\w=w'):=by
 refine okF (aa.r_ n) ao.r_ func103 ?_;exact⟨rfl,rfl⟩
theorem uP(n:Int)(w:I):aC ai 105 #[n] w (λv w'=>v=.bool (tq n)/\w=w'):=by
 refine okF (aa.uP n) ao.uP func105 ?_;exact⟨rfl,rfl⟩
theorem Hr(a:aH)(w:I):aC ai 104 #[.agg a.c.toArray] w (λv w'=>v=a.eH/\Ext w w'):=by
 refine aa.EM _ w _ ?_;(delta aa.oY ad bF;dsimp only);refine aN (vs:=a.c) rfl λw1 b d _=>⟨_,b.rd a.aX,(nQ a w1).use ?_⟩;rintro _ f ⟨rfl,e⟩;exact⟨_,rfl,rfl,Ext.trans d e⟩
theorem p9(s:dP)(k:ae)(w:I):aC ai 101 #[.agg (s.c k).toArray] w (λv w'=>v=.bool (q2 s k)/\Ext w w'):=by
 refine aa.Jd _ w _ ?_;(delta aa.p9 fb aS ad ah fP cG r1 bF g8 fD bh dJ dC aE aR;dsimp only);refine aN (vs:=s.c k) rfl λw1 b y _=>cc (λn w'=>w1=w'/\n=if s.addr.eg then 128 else 32) (λq a=>⟨_,(g0 b).2.1,λh=>a _ _ ⟨rfl,by rw[h];rfl⟩,λh=>a _ _ ⟨rfl,by rw[h];rfl⟩⟩) ?_;rintro _ _ ⟨rfl,rfl⟩;refine⟨_,(g0 b).2.2.2.1,l4 (s.j9==17) (λ_ q a=>⟨_,(g0 b).2.2.2.1,a _ (.refl _ _)⟩) λe f=>?_⟩;have d:=b.ext f;have z:=Ext.trans y f;refine⟨_,(g0 d).1,(r_ s.id e).use ?_⟩;rintro _ _ ⟨rfl,rfl⟩;refine⟨_,rfl,il s.addr.eH (λ_ q a=>⟨_,Hq d,(Hr s.addr e).use ?_⟩) λE g=>?_⟩
 .rintro _ F ⟨rfl,A⟩
  exact⟨_,rfl,a _ A⟩
 have i:=d.ext g;have B:=Ext.trans z g;refine il (decide (s.port>0)) (λ_ q a=>⟨_,(g0 i).2.2.1,a _ (.refl _ _)⟩) λG j=>?_;have l:=i.ext j;refine il (decide (s.bits>=0)) (λ_ q a=>⟨_,(g0 l).2.2.2.2.1,a _ (.refl _ _)⟩) λH m=>?_;have o:=l.ext m;refine il (decide (s.bits<=if s.addr.eg then 128 else 32)) (λ_ q a=>⟨_,(g0 o).2.2.2.2.1,a _ (.refl _ _)⟩) λbO p=>?_;have r:=o.ext p;refine il (decide (s.cd>=1)) (λ_ q a=>⟨_,(g0 r).2.2.2.2.2.1,a _ (.refl _ _)⟩) λJ t=>?_;have u:=r.ext t;refine il (decide (s.cd<=1073741824)) (λ_ q a=>⟨_,(g0 u).2.2.2.2.2.1,a _ (.refl _ _)⟩) λK x=>?_;have C:=u.ext x;exact il ((k.len:Int)==0) (λ_ q a=>⟨k,(g0 C).2.2.2.2.2.2,a _ (.refl _ _)⟩) λL D=>⟨rfl,Ext.trans B (Ext.trans j (Ext.trans m (Ext.trans p (Ext.trans t (Ext.trans x D)))))⟩
theorem Hs(w:I)(a:aH)(n m:Int):Sem.run ai (Instr.build 144 #[(0,.agg a.c.toArray),(1,.int .u16 n),(2,.int .u8 m)]) w=.ok (.agg (ga.mk a n m).c.toArray) w:=by
 obtain⟨eg,b,h⟩:=a;obtain⟨d,e,f,g,i,j,k,l,o,p,q,r,s,t,u,v,rfl⟩:=o5 b h
 kernel_rfl
theorem oW(s:dP)(k:ae)(w:I):aC ai 79 #[.agg (s.c k).toArray] w (λv w'=>v=.agg s.jV.c.toArray/\Ext w w'):=by
 refine aa.I_ _ w _ ?_;(delta aa.oW ad g8 fD fP cG;dsimp only);refine aN (vs:=s.c k) rfl λw1 e b _=>aN (vs:=(ga.mk aH.zero 0 0).c) (by kernel_rfl) λag hd d _=>?_;have a:=e.ext d;exact⟨_,Hq a,_,(g0 a).2.2.1,_,(g0 a).2.2.2.1,s.jV.c.toArray,Hs _ _ _ _,hd.bX (by simp[ga.aX]) (ga.plain _),by simp[ga.aX],cA hd (us:=s.jV.c) (by simp[ga.aX]) rfl λh f g _=>⟨_,f.rd (ga.aX _),rfl,Ext.bN (Ext.trans b d) g b.size⟩⟩
theorem C3:iG ai 32 36 21 48:=⟨by kernel_rfl⟩
theorem N3{s v:ae}{vs xs:O Y}{i jE:Nat}{ag:Array Y}{aj:TypeId}{w:I}(G:aT 21 36 w s vs)(L:Src 21 w v xs)(g:v.len=1)(am:v.a=some ⟨jE,0,none⟩)(R:bc w jE ag aj)(an:¬aB s jE)
 (S:∀u∈xs,Plain u) (aP:∀u∈vs,Plain u) (hi:i<=s.len) (a_:s.len<=1000000):
 aC ai 106 #[s,.int .i64 (i:Int),v] w (λu w'=>∃y:ae,u=y/\aT 21 36 w' y (vs.take (i*21)++xs++vs.drop (i*21))/\y.len=s.len+1/\af (aB s) w w'/\(∀k,aB y k->aB s k\/w.heap.size<=k)):=by
 obtain⟨h1,bb,bd,aQ,aq,aR,aS,D,au,aU⟩:=(C3).out;obtain⟨d0,eo⟩:=k2 _ aq;refine okF (aa.xi s i v) ao.xi func106 ?_;(delta aa.xi ah ap al eM;dsimp only);have be:=G.2.1;have bf:=G.2.2.1;have bg:maxLen=9223372036854775807:=rfl;have p:xs.length=21:=by have:=L.len;rw[g]at this;omega
 have T:=G.1;refine⟨⟨J,J⟩,λh=>by rw[g]at h;simp at h,λ_=>⟨λh=>?_,λh=>?_⟩⟩
 .have aV:i=s.len:=by have:=eq_of_beq h;omega
  subst aV;obtain⟨y,w',aA,aX,U,M,E⟩:=(C3).append (df:=32) L G S (by rw[g];omega);refine⟨y,w',aA,y,rfl,?_,by rw[U,g],M,E⟩;rwa[ey J,tD J,g3]
 have aJ:i<s.len:=by
  have h:¬((i:Int)=(s.len:Int)):=λe=>by rw[e]at h;simp at h
  omega
 rcases G.2.2.2 with ⟨_,hc⟩|⟨b,c,hb,F,av,aw⟩
 .omega
 have aY:b≠jE:=λe=>an ⟨_,hb,e⟩;have aG:IntKind.wrap .i64 ((s.len:Int)+(v.len:Int))=((s.len+1:Nat):Int):=by rw[g,bT J J];rfl
 have aM:IntKind.wrap .i64 ((i:Int)+(v.len:Int))=((i+1:Nat):Int):=by rw[g,bT J J];rfl
 have aZ:IntKind.wrap .i64 (((s.len+1:Nat):Int)-(i:Int))=((s.len+1-i:Nat):Int):=by rw[bT J J];omega
 have bh:c.toList.length=s.cap*21:=by simpa using av
 have ax:∀k,k<=s.len->vs.take (k*21)=c.toList.take (k*21):=λk d=>by rw[←aw,rk,iS J]
 have ay:vs.drop (i*21)=(c.toList.drop (i*21)).take ((s.len-i)*21):=by rw[←aw,List.drop_take,show s.len*21-i*21=(s.len-i)*21 from J]
 have az:∀u∈vs.drop (i*21),Plain u:=λu hu=>aP u (gK hu);have z:(vs.drop (i*21)).length=(s.len-i)*21:=by rw[ek,T];omega
 have H:∀ (V o l m:Nat),l<m->aW (some (Addr.mk V o none)) 21 l m=some ⟨V,o+l*21,none⟩:=λV o l m bi=>oK J;simp only[aG,aM,aZ,d_,q_,A0];refine⟨λhg=>?_,λhg=>?_⟩
 .have bj:s.cap<s.len+1:=by have:=b8 hg;omega
  have a0:Src 21 w ⟨some b,i,s.cap⟩ (vs.take (i*21)):=by
   have:=F.pY (sz:=21) (o:=0) (n:=i) (cap:=s.cap) J;rw[kx]at this;rwa[ax i J]
  obtain⟨j,zs,rest,aA,aX,U,M,E⟩:=Et (P:=ai) (g5:= #[32,3]) (df:=32) (k4:=3) (k:=.i64) (s:=⟨some b,i,s.cap⟩) (n:=s.len+1-i) rfl rfl h1 (by kernel_rfl) aQ aq aR aS D (by rw[au];exact aU) a0 (by show s.cap<i+_;omega) (by rw[au];show(2*(i+_)+1000)*_<=_;omega);have a1:i+(s.len+1-i)=s.len+1:=by omega
  simp only[a1]at aA M E;obtain⟨C,X⟩:∃C,C=(vs.take (i*21)++zs++rest).toArray:=⟨_,rfl⟩;rw[←X]at E;obtain⟨B,Z⟩:∃B,B=w.drew.alloc (.cells C 36):=⟨_,rfl⟩;rw[←Z]at E;have aD:bc B w.heap.size C 36:=by rw[Z];exact bc.new w.drew _ _
  have aE:Ext w B:=by rw[Z];exact af.alloc (af.drew (.refl _ _)) _
  have f:(vs.take (i*21)).length=i*21:=by rw[c9,T];omega
  have aF:C.size=j*21:=by rw[X];simp[f,U,M];omega
  have bk:C.toList.length=j*21:=by simpa using aF
  have K:=nH (P:=ai) (k7:=32) (dV:=32) (ty:=3) (A:=⟨w.heap.size,0+i*21,none⟩) (dl:=s.len+1-i) (j6:=j-i) (n:=1) h1 eo D (x:=v) (by rw[g];exact iS J) (xs:=xs) (by have:=L.ext aE;have e:(⟨v.a,1,v.cap⟩:ae)=v:=(by rw[←g]);rw[e];exact this) (by rw[cz];exact aD.bX _ _ J S);obtain⟨r,ab⟩:∃r,r=setCells B ⟨w.heap.size,0+i*21,none⟩ 0 xs:=⟨_,rfl⟩;rw[←ab]at K;have aH:bc r w.heap.size (gE C (i*21) xs) 36:=by rw[ab,cz];exact aD.k8 xs
  have a2:Ext w r:=by rw[ab];exact Ext.ee aE (af.iV (.refl _ _) xs 0) (λk d=>by subst d;exact ba _)
  have a3:Ext r r.drew:=af.drew (.refl _ _);have aI:=Ext.trans a2 a3;have ac:=nH (P:=ai) (w:=r.drew) (k7:=32) (dV:=32) (ty:=3) (A:=⟨w.heap.size,0+(i+1)*21,none⟩) (dl:=s.len+1-(i+1)) (j6:=j-(i+1)) (n:=s.len-i) h1 eo D (x:=⟨some ⟨b,0+i*21,none⟩,s.len-i,s.cap-i⟩) (iS (by show s.len-i<=_;omega)) (xs:=vs.drop (i*21))
   (by have:=(F.ext aI).pY (sz:=21) (o:=i*21) (n:=s.len-i) (cap:=s.cap-i) J;rw[ay,cz];exact this) (by rw[cz];exact bc.bX (bc.drew aH) _ _ (by rw[h4];omega) az)
  have N:aW (some (Addr.mk w.heap.size 0 none)) 21 i j=some ⟨w.heap.size,0+i*21,none⟩:=H _ _ _ _ J;have Q:aW (some (Addr.mk w.heap.size 0 none)) 21 (i+1) j=some ⟨w.heap.size,0+(i+1)*21,none⟩:=H _ _ _ _ J;have a4:aW s.a 21 i s.cap=some ⟨b,0+i*21,none⟩:=by rw[hb];exact H _ _ _ _ J
  have a5:Sem.run ai (Builtin.append_ #[32,3] 32 #[.slice s.a i s.cap,.int .i64 ((s.len+1-i:Nat):Int)]) w=.ok (.slice (some w.heap.size) (s.len+1) j) B:=by rw[hb];exact E
  refine⟨⟨J,J⟩,⟨some w.heap.size,s.len+1,j⟩,B,a5,⟨J,by show(i:Int)<=((s.len+1:Nat):Int);omega⟩,_,r,by rw[N];exact K,aO ⟨⟨J,by show((i+1:Nat):Int)<=((s.len+1:Nat):Int);omega⟩,⟨J,J⟩,_,_,by rw[Q,a4];exact ac,⟨some w.heap.size,s.len+1,j⟩,rfl,?_,rfl,?_,?_⟩⟩
  .refine aT.mk' ((bc.drew aH).k8 (o:=0+(i+1)*21) _) (by simp[f,p,z];omega) J J (by rw[h4,h4,aF]) ?_
   rw[j5 _ _ _ (by rw[h4];omega),j5 _ _ _ J];have t1:C.toList.take (i*21)=vs.take (i*21):=by rw[X,rn,c_];exact oA f
   have t2:(C.toList.take (i*21)++xs++C.toList.drop (i*21+xs.length)).take (0+(i+1)*21)=vs.take (i*21)++xs:=by
    rw[t1,kZ (by simp[f,p];omega),ey (by simp[f,p];omega)]
   rw[t2,kZ (by simp[f,p,z];omega),ey (by simp[f,p,z];omega)]
  .exact af.bL (Ext.ee aI (af.iV (.refl _ _) _ 0) (λk d=>by subst d;exact ba _))
  .rintro k ⟨A,ar,d⟩
   cases ar;exact .inr (Nat.le_of_eq d)
 .have bl:s.len+1<=s.cap:=by have:=cL hg;omega
  have N:aW s.a 21 (i+1) s.cap=some ⟨b,0+(i+1)*21,none⟩:=by rw[hb];exact H _ _ _ _ J
  have Q:aW s.a 21 i s.cap=some ⟨b,0+i*21,none⟩:=by rw[hb];exact H _ _ _ _ J
  have a6:Sem.run ai (callFunc 172 #[v,.slice (some ⟨b,0+(i+1)*21,none⟩) (s.len+1-(i+1)) (s.cap-(i+1))]) w=.ok (.value false) w:=by
   rw[am,run_callFunc_extern (e:=Extern.SlicesOverlaps.overlaps #[32,32] #[4]) func172 (by kernel_rfl) (by kernel_rfl) (by kernel_rfl) (by kernel_rfl)];have:=Lib.run_overlaps_apart (P:=ai) w 32 4 36 h1 21 (λw=>by have:=iq (w:=w) eo;rwa[D]at this) jE ⟨b,0+(i+1)*21,none⟩ v.len v.cap (s.len+1-(i+1)) (s.cap-(i+1)) (λe=>aY e.symm) aj 36 ag.size c.size
    (by have:=R;unfold bc at this;simp[World.shape?,this]) (by have:=F;unfold bc at this;simp[World.shape?,this]) J (R.frozen _ rfl) (R.frozen _ rfl)
   rw[this];rfl
  have K:=nH (P:=ai) (w:=w.drew) (k7:=32) (dV:=32) (ty:=3) (A:=⟨b,0+(i+1)*21,none⟩) (dl:=s.len+1-(i+1)) (j6:=s.cap-(i+1)) (n:=s.len-i) h1 eo D (x:=⟨some ⟨b,0+i*21,none⟩,s.len+1-i,s.cap-i⟩) ((Nat.min_eq_right (by show _<=s.len+1-i;omega)).trans J) (xs:=vs.drop (i*21))
   (by have:=(bc.drew F).pY (sz:=21) (o:=i*21) (n:=s.len-i) (cap:=s.cap-i) J;rw[ay,cz];exact this) (by rw[cz];exact bc.bX (bc.drew F) _ _ J az)
  obtain⟨t,ad⟩:∃t,t=setCells w.drew ⟨b,0+(i+1)*21,none⟩ 0 (vs.drop (i*21)):=⟨_,rfl⟩;rw[←ad]at K;have aK:bc t b (gE c ((i+1)*21) (vs.drop (i*21))) 36:=by rw[ad,cz];exact(bc.drew F).k8 _
  have aL:af (aB s) w t:=by
   rw[ad];exact af.mono (W:=λq=>q=b) (af.iV (af.drew (.refl _ _)) _ 0) (λk _ d=>⟨_,hb,d.symm⟩)
  have a7:Src 21 t v xs:=L.ak aL (λk d a8=>by obtain⟨A,ar,rfl⟩:=d;rw[am]at ar;cases ar;exact an a8);have ac:=nH (P:=ai) (w:=t) (k7:=32) (dV:=32) (ty:=3) (A:=⟨b,0+i*21,none⟩) (dl:=s.len+1-i) (j6:=s.cap-i) (n:=1) h1 eo D (x:=v) (by rw[g];exact iS J) (xs:=xs) (by have e:(⟨v.a,1,v.cap⟩:ae)=v:=(by rw[←g]);rw[e];exact a7) (by rw[cz];exact aK.bX _ _ (by rw[h4];omega) S);refine⟨⟨J,J⟩,⟨J,J⟩,false,w,by rw[N];exact a6,λ_=>aO ⟨⟨J,J⟩,⟨J,J⟩,_,t,by rw[N,Q];exact K,⟨J,J⟩,_,_,by rw[Q];exact ac,⟨s.a,s.len+1,s.cap⟩,rfl,?_,rfl,?_,λk d=>.inl d⟩,λh=>by simp at h⟩
  .have aN:aT 21 36 (setCells t ⟨b,0+i*21,none⟩ 0 xs) ⟨some b,s.len+1,s.cap⟩ (vs.take (i*21)++xs++vs.drop (i*21)):=by
    have f:(vs.take (i*21)).length=i*21:=by rw[c9,T];omega
    refine aT.mk' (aK.k8 (o:=0+i*21) _) (by simp[f,p,z];omega) J J (by rw[h4,h4,av]) ?_;rw[j5 _ _ _ (by rw[h4];omega),j5 _ _ _ J];have t1:(c.toList.take ((i+1)*21)++vs.drop (i*21)++c.toList.drop ((i+1)*21+(vs.drop (i*21)).length)).take (0+i*21)=vs.take (i*21):=by
     rw[cz,kZ (by simp[z];omega),kZ (by simp;omega),rk,ax i J,iS J]
    have t2:(c.toList.take ((i+1)*21)++vs.drop (i*21)++c.toList.drop ((i+1)*21+(vs.drop (i*21)).length)).drop (0+i*21+xs.length)=vs.drop (i*21)++c.toList.drop ((i+1)*21+(vs.drop (i*21)).length):=by
     have a9:(c.toList.take ((i+1)*21)).length=0+i*21+xs.length:=by simp;omega
     rw[c_,←a9,List.drop_left]
    rw[t1,t2,←c_,kZ (by simp[f,p,z];omega),ey (by simp[f,p,z];omega)]
   rw[←hb]at aN;exact aN
  .exact aL.trans (af.mono (W:=λq=>q=b) (af.iV (.refl _ _) _ 0) (λk _ d=>⟨_,hb,d.symm⟩))
def gq(l:O cg):O Y:=(l.map cg.c).flatten
theorem vL:∀l:O cg,(gq l).length=l.length*21
 | []=>rfl
 |b::l=>by
  show(b.c++gq l).length=_
  rw[cT,vL l,cg.aX,iR];omega
theorem cg.plain(b:cg):∀v∈b.c,Plain v:=by
 intro v a;rcases cY.1 a with rfl|a
 .trivial
 rcases cS.1 a with a|a
 .exact b.addr.plain v a
 .simp only[cY,fC,fM]at a
  rcases a with rfl|rfl|rfl<;>trivial
theorem Ht(l:O cg):∀v∈gq l,Plain v:=by
 intro v a;obtain⟨x,hx,a⟩:=List.mem_flatten.1 a;obtain⟨b,_,rfl⟩:=ew.1 hx;exact b.plain v a
theorem Hu(a b:O cg):gq (a++b)=gq a++gq b:=by simp[gq]
theorem N4(b:cg):gq [b]=b.c:=by simp[gq]
theorem Hv:∀ (l:O cg) (k:Nat),(gq l).take (k*21)=gq (l.take k)
 | [],k=>by simp[gq]
 |b::l,0=>by simp[gq]
 |b::l,k+1=>by
  show(b.c++gq l).take _=b.c++gq (l.take k)
  rw[List.take_append,ey (by rw[cg.aX];omega),cg.aX,show(k+1)*21-21=k*21 from J,Hv l k]
theorem C4:∀ (l:O cg) (k:Nat),(gq l).drop (k*21)=gq (l.drop k)
 | [],k=>by simp[gq]
 |b::l,0=>by simp[gq]
 |b::l,k+1=>by
  show(b.c++gq l).drop _=gq (l.drop k)
  rw[List.drop_append,tD (by rw[cg.aX];omega),cg.aX,show(k+1)*21-21=k*21 from J,C4 l k,kU]
theorem N5{l:O cg}{i:Nat}(h:i<l.length):((gq l).drop (i*21)).take 21=(l[i]).c:=by
 rw[C4,lG h];show((l[i]).c++gq _).take 21=_;exact oA (cg.aX _)
abbrev l5(w:I)(s:ae)(l:O cg):Prop:=Src 21 w s (gq l)
theorem l5.len{w:I}{s:ae}{l:O cg}(h:l5 w s l):s.len=l.length:=by
 have:=Src.len h;rw[vL]at this;omega
theorem l5.get{w:I}{s:ae}{l:O cg}(h:l5 w s l){i:Nat}(hi:i<l.length):∃A,s.a=some A/\((0:Int)<=(i:Int)/\(i:Int)<(s.len:Int))/\aV w (A.add (Int.toNat (i:Int)*21)) 0 21=some (l[i]).c:=by
 have d:=l5.len h
 cases b:s.a with
 |none=>
  have:=congrArg List.length (h.nil b);rw[vL,mX]at this;omega
 |some A=>
  refine⟨A,rfl,⟨J,J⟩,?_⟩;rw[d_,Ev (h.rd A b) (by rw[d];omega),N5 hi]
theorem N6{s:ae}{l:O cg}{w:I}(hs:l5 w s l)(n:l.length<=1000000):
 aC ai 57 #[s] w (λv w'=>∃b:ae,v=b/\aT 21 36 w' b (gq l)/\b.len=l.length/\Ext w w'/\∀k,aB b k->w.heap.size<=k):=by
 refine okF (aa.xh s) ao.xh func57 ?_;(delta aa.xh ah ap;dsimp only);have e:=l5.len hs;refine⟨λh=>?_,λ_=>?_⟩
 .have c:s.a=none:=by cases c:s.a with
   |none=>rfl
   |some A=>rw[c]at h;cases h
  have d:=hs.nil c;have h0:l.length=0:=by
   have:=congrArg List.length d;rw[vL,mX]at this;omega
  exact⟨⟨none,0,0⟩,rfl,by rw[d];exact aT.none _ _ _,h0.symm,.refl _ _,λk f=>(gU k f).elim⟩
 .obtain⟨b,w',h1,g,i,j,m,_⟩:=C3.clone (df:=32) hs (Ht l) J
  exact⟨⟨some w.heap.size,0,0⟩,_,by kernel_rfl,b,w',h1,b,rfl,g,by rw[i,e],j,m⟩
theorem cmp_isNaN_int(x:Int)(w:I):aC ai 238 #[x] w (λv w'=>v=false/\w=w'):=by
 refine okF (aa.cmp_isNaN_int x) ao.cmp_isNaN_int func238 ?_;unfold aa.cmp_isNaN_int;simp
def oe(a b:Int):Int:=if a<b then -1 else if a>b then 1 else 0
theorem rX(x y:Int)(w:I):aC ai 170 #[x,y] w (λv w'=>v=.int .i64 (oe x y)/\w=w'):=by
 refine okF (aa.rX x y) ao.rX func170 ?_;(delta aa.rX bF ah;dsimp only);refine(cmp_isNaN_int x w).use ?_;rintro _ _ ⟨rfl,rfl⟩;refine⟨_,rfl,(cmp_isNaN_int y w).use ?_⟩;rintro _ _ ⟨rfl,rfl⟩;refine⟨_,rfl,λh=>by simp at h,λ_=>⟨λh=>by simp at h,λ_=>⟨λh=>?_,λh=>⟨λa=>?_,λa=>?_⟩⟩⟩⟩
 .have h:=b8 h
  exact⟨by unfold oe;rw[if_pos h],rfl⟩
 .have h:=cL h
  have a:=b8 a;exact⟨by unfold oe;rw[if_neg h,if_pos a],rfl⟩
 .have h:=cL h
  have a:=cL a;exact⟨by unfold oe;rw[if_neg h,if_neg a],rfl⟩
def nk(l:O cg):Prop:=l.Pairwise λa b=>a.id<b.id
def fK(l:O cg)(id:Int):Nat:=l.findIdx λb=>decide (id<=b.id)
def hasB(l:O cg)(id:Int):aj:=l.any λb=>b.id==id
theorem nk.lt{l:O cg}(h:nk l){i j:Nat}(hi:i<j)(a:j<l.length):(l[i]).id<(l[j]).id:=mV.1 h i j J a hi
theorem N7{l:O cg}{id:Int}{a:Nat}(d:a<=l.length)(h1:∀ (j:Nat) (h:j<l.length),j<a->(l[j]).id<id)(c:∀ (j:Nat) (h:j<l.length),a<=j->id<=(l[j]).id):fK l id=a:=by
 unfold fK;rcases eF a l.length with h|h
 .exact(List.findIdx_eq h).2 ⟨eL (c a h (ba _)),λj b=>im (by have:=h1 j J b;omega)⟩
 .have:a=l.length:=by omega
  subst this;refine List.findIdx_eq_length_of_false λx hx=>?_;obtain⟨j,b,rfl⟩:=fi hx;exact im (by have:=h1 j b b;omega)
theorem C5(l:O cg)(id:Int):fK l id<=l.length:=List.findIdx_le_length
theorem Hw{l:O cg}{id:Int}{j:Nat}(h:j<fK l id):(l[j]'(fB h (C5 l id))).id<id:=by
 have:=List.not_of_lt_findIdx h;simp only[gk,lF]at this;omega
theorem C6{l:O cg}(b:nk l){id:Int}{j:Nat}(h:fK l id<=j)(c:j<l.length):id<=(l[j]).id:=by
 have d:fK l id<l.length:=by omega
 have h1:id<=(l[fK l id]).id:=by
  have:=List.findIdx_getElem (w:=d);exact b8 this
 rcases eF (fK l id) j with a|a
 .have:=b.lt a c;omega
 .have:j=fK l id:=by omega
  subst this;exact h1
theorem Hx{l:O cg}(a:nk l)(id:Int):hasB l id=true↔∃h:fK l id<l.length,(l[fK l id]).id=id:=by
 unfold hasB;rw[ov];constructor
 .rintro⟨b,hb,he⟩
  obtain⟨j,d,rfl⟩:=fi hb;have he:=eq_of_beq he;have h1:¬j<fK l id:=λh=>by have:=Hw h;omega
  refine⟨J,?_⟩;have e:=C6 a (ba (fK l id)) J;rcases eF (fK l id) j with c|c
  .have:=a.lt c d;omega
  .have:j=fK l id:=by omega
   subst this;exact he
 .rintro⟨h,he⟩
  exact⟨_,c3 h,by simp[he]⟩
theorem o0(b:cg)(id:Int)(w:I):aC ai 169 #[.agg b.c.toArray,id] w (λv w'=>v=.int .i64 (oe b.id id)/\Ext w w'):=by
 refine aa.Jn _ id w _ ?_;(delta aa.o0 r1 ad b4;dsimp only);refine aN (vs:=b.c) rfl λw1 a d _=>⟨b.id,a.cell,(rX b.id id w1).use ?_⟩;rintro _ _ ⟨rfl,rfl⟩;exact⟨_,rfl,rfl,d⟩
theorem N8{s:ae}{l:O cg}(id:Int){w:I}(hs:l5 w s l)(g:nk l)(L:l.length<=1000000):
 aC ai 168 #[s,id,.func (.func 169) #[] #[]] w (λv w'=>v=.tuple #[.int .i64 ((fK l id:Nat):Int),.bool (hasB l id)]/\Ext w w'):=by
 refine okF (aa.xl s id ⟨169,#[],#[]⟩) ao.xl func168 ?_;(delta aa.xl fO ah xe al xa k9 bq;dsimp only);have C:=l5.len hs;have u:jB ai 169:=⟨_,(mc (show(Tryz.prog.funcs[169]?).isSome=true by kernel_rfl)).symm,by kernel_rfl,by kernel_rfl⟩;refine⟨λlo hi w'=>∃a b:Nat,lo=a/\hi=b/\a<=b/\b<=l.length/\Ext w w'/\(∀ (j:Nat) (h:j<l.length),j<a->(l[j]).id<id)/\(∀ (j:Nat) (h:j<l.length),b<=j->id<=(l[j]).id),λlo hi _=>(hi-lo).toNat,
  ⟨0,l.length,rfl,by rw[C],c8 _,ba _,.refl _ _,λj _ h=>J,λj h k=>J⟩,?_⟩
 rintro _ _ aF ⟨a,b,rfl,rfl,M,hb,e,h1,k⟩;have hm:=Ew (a:=a) (b:=b) J;refine⟨λh=>?_,λh=>?_⟩
 .have aJ:(a:Int)<(b:Int):=b8 h
  rw[hm];obtain⟨m,D⟩:∃m,m=(a+b)/2:=⟨_,rfl⟩;rw[←D];have E:a<=m:=by omega
  have N:m<b:=by omega
  obtain⟨A,ar,n,o⟩:=l5.get (hs.ext e) (i:=m) J;refine⟨by decide,A,ar,n,_,o,u,(o0 _ id aF).use ?_⟩;rintro _ x ⟨rfl,f⟩;have y:=Ext.trans e f;have F:IntKind.wrap .i64 ((m:Int)+1)=((m+1:Nat):Int):=by rw[bT J J];rfl
  refine⟨_,rfl,λhc=>?_,λhc=>?_⟩
  .have hc:=b8 hc
   have G:(l[m]).id<id:=by
    unfold oe at hc;split at hc
    .assumption
    .split at hc<;>omega
   rw[F];have p:((b:Int)-((m+1:Nat):Int)).toNat<((b:Int)-(a:Int)).toNat:=by omega
   refine⟨⟨m+1,b,rfl,rfl,J,hb,y,λj z H=>?_,k⟩,p⟩;rcases eF j m with d|d
   .have:=g.lt d (by omega:m<l.length);omega
   .have:j=m:=by omega
    subst this;exact G
  .have hc:=cL hc
   have r:id<=(l[m]).id:=by
    unfold oe at hc;split at hc
    .omega
    .omega
   have p:((m:Int)-(a:Int)).toNat<((b:Int)-(a:Int)).toNat:=by omega
   refine⟨⟨a,m,rfl,rfl,E,J,y,h1,λj z H=>?_⟩,p⟩;rcases eF m j with d|d
   .have:=g.lt d z;omega
   .have:j=m:=by omega
    subst this;exact r
 .have r:¬(a:Int)<(b:Int):=cL h
  have K:b=a:=by omega
  subst K;have t:fK l id=b:=N7 hb h1 k;refine cc (λc w'=>Ext w w'/\c=hasB l id) (λq B=>⟨λh=>?_,λh=>?_⟩) ?_
  .have aJ:(b:Int)<(s.len:Int):=b8 h
   have aJ:b<l.length:=by omega
   obtain⟨A,ar,n,o⟩:=l5.get (hs.ext e) aJ;refine⟨A,ar,n,_,o,u,(o0 _ id aF).use ?_⟩;rintro _ x ⟨rfl,f⟩;refine⟨_,rfl,B _ _ ⟨Ext.trans e f,?_⟩⟩;rw[fL,Hx g,jy];constructor
   .intro hc
    refine⟨J,?_⟩;simp only[t];unfold oe at hc;split at hc
    .omega
    .split at hc<;>omega
   .rintro⟨_,he⟩
    simp only[t]at he;unfold oe;rw[if_neg J,if_neg J]
  .have r:¬(b:Int)<(s.len:Int):=cL h
   refine B _ _ ⟨e,?_⟩
   symm
   rw[Bool.eq_false_iff];intro hc;obtain⟨d,_⟩:=(Hx g id).1 hc;omega
  .rintro _ x ⟨f,rfl⟩
   exact⟨by rw[t],f⟩
theorem og{P:Program}{T:TypeId}{z:Y}(h:(P.info? T).bind (·.zero)=some z):∃i,P.info? T=some i/\i.zero=some z:=by
 cases hi:P.info? T with
 |none=>rw[hi]at h;cases h
 |some i=>rw[hi]at h;exact⟨i,rfl,h⟩
theorem ga.m7{a b:ga}(h:a.c=b.c):a=b:=by
 simp only[ga.c]at h;obtain⟨h1,d⟩:=List.append_inj h (by simp[aH.aX]);have e:=aH.m7 h1
 cases a;cases b
 simp_all
theorem ga.ed(d:ga):aQ.ed ((.bool::nT 16)++ [.int .u16,.int .u8]) d.c:=um d.addr.ed ⟨_,_,rfl,⟨_,rfl⟩,_,_,rfl,⟨_,rfl⟩,rfl⟩
theorem N9(a b:ga):j1 ai 144 a.c.toArray b.c.toArray (decide (a=b)):=by
 have h:=j1.flat (P:=ai) (T:=144) (d:=(Tryz.prog.underlying 144).get (by kernel_rfl)) (ls:=(.bool::nT 16)++ [.int .u16,.int .u8]) (mc _).symm (by kernel_rfl) (by kernel_rfl) (by kernel_rfl) a.ed b.ed;have e:fN a.c b.c=decide (a=b):=by
  rw[fL,uo a.ed b.ed,cX];exact⟨ga.m7,λh=>by rw[h]⟩
 rwa[e]at h
def pB:Y->Prop
 | .bool _=>True
 | .int _ _=>True
 | .pointer _=>True
 |_=>False
theorem N_(n:Nat):∀v,pB v->Instr.sameBits n v v=true:=by
 intro v a
 cases v<;>simp only[pB]at a<;>cases n<;>simp[Instr.sameBits]
theorem Hy(n:Nat)(l:O Y)(h:∀v∈l,pB v):Instr.sameBits (n+1) (.agg l.toArray) (.agg l.toArray)=true:=by
 have:∀l:O Y,(∀v∈l,pB v)->((l.zip l).all λ(x,y)=>Instr.sameBits n x y)=true:=by
  intro l
  induction l with
  |nil=>intro _;rfl
  |cons v l a=>
   intro h;simp only[List.zip_cons_cons,List.all_cons,dH];exact⟨N_ n v (h v (by simp)),a λu hu=>h u (by simp[hu])⟩
 show((l.toArray.size==l.toArray.size)&&_)=true;rw[beq_self_eq_true,jb];exact this l h
theorem Hz(l:O UInt8):∀v∈ax l,pB v:=by
 intro v a;obtain⟨b,_,rfl⟩:=ew.1 a;trivial
theorem ga.bare(d:ga):∀v∈d.c,pB v:=by
 intro v a;rcases cS.1 a with a|a
 .rcases cY.1 a with rfl|a
  .trivial
  .exact Hz _ v a
 .simp only[cY,fC,fM]at a
  rcases a with rfl|rfl<;>trivial
theorem Oa(b:aj)(d:ga)(w:I):(Instr.checkKey b 10000 144 (.agg d.c.toArray)).run ai w=.ok () w:=by
 obtain⟨⟨eg,l,h⟩,port,j9⟩:=d;obtain⟨a,e,f,g,i,j,k,m,n,o,p,q,r,s,t,u,rfl⟩:=o5 l h
 kernel_rfl
abbrev encI:Int->Y:=λn=>n
abbrev vM:ga->Y:=λd=>.agg d.c.toArray
theorem C7:jf ai 3 encI:=jf.int (by kernel_rfl)
theorem z2:jf ai 144 vM:=
 jf.agg (d:=(Tryz.prog.underlying 144).get (by kernel_rfl)) (mc _).symm (by kernel_rfl) (λa b w=>(N9 a b).2 w) Oa (λd=>Hy 9999 d.c d.bare)
structure Rec where
 s:dP
 bs:O cg
 bj:Nat
 k:ae
structure kR where
 p:Nat
 m1:Nat
 m2:Nat
def Rec.aG(r:Rec):Int×Y:=(r.s.id,.pointer (some r.bj))
def Rec.aM(r:Rec):ga×Y:=(r.s.jV,r.s.id)
structure eX(w:I)(bR:kR)(R:O Rec):Prop where
 v:Var w bR.p [.map (some bR.m1),.map (some bR.m2)] 126
 bW:dc w bR.m1 encI (R.map Rec.aG)
 b9:dc w bR.m2 vM (R.map Rec.aM)
 ne:bR.m1≠bR.m2
 sv:∀r∈R,Var w r.bj (r.s.c r.k) 34
 b7:∀r∈R,aT 21 36 w r.k (gq r.bs)
 du:∀r∈R,nk r.bs
 fy:∀r∈R,r.bs.length<=16
 ids:R.Pairwise λa b=>a.s.id<b.s.id
 len:R.length<=8
 apart:∀a∈R,∀b∈R,a.s.id≠b.s.id->a.bj≠b.bj/\∀q,aB a.k q->¬aB b.k q
def i_(bR:kR)(R:O Rec)(q:Nat):Prop:=q=bR.p\/q=bR.m1\/q=bR.m2\/∃r∈R,q=r.bj\/aB r.k q
variable {w w':I}{bR:kR}{R:O Rec}{r:Rec}
theorem Var.inj{b:Nat}{vs us:O Y}{T az:TypeId}(h:Var w b vs T)(a:Var w b us az):T=az:=(bc.inj h a).2
theorem eX.ak{W:Nat->Prop}(h:eX w bR R)(hc:af W w w')(a:∀q,i_ bR R q->¬W q):eX w' bR R:=
 ⟨h.v.ak hc (a _ (.inl rfl)),h.bW.ak hc (a _ (.inr (.inl rfl))),h.b9.ak hc (a _ (.inr (.inr (.inl rfl)))),h.ne,
  λr b=>(h.sv r b).ak hc (a _ (.inr (.inr (.inr ⟨r,b,.inl rfl⟩)))),λr b=>(h.b7 r b).ak hc λq c=>a _ (.inr (.inr (.inr ⟨r,b,.inr c⟩))),
  h.du,h.fy,h.ids,h.len,h.apart⟩
theorem eX.ext(h:eX w bR R)(hc:Ext w w'):eX w' bR R:=h.ak hc λ_ _ h=>h
theorem eX.lt(h:eX w bR R){q:Nat}(a:i_ bR R q):q<w.heap.size:=by
 rcases a with rfl|rfl|rfl|⟨r,b,rfl|a⟩
 .exact h.v.lt
 .exact h.bW.lt
 .exact h.b9.lt
 .exact(h.sv r b).lt
 .exact(h.b7 r b).lt q a
theorem eX.uniq(h:eX w bR R){a b:Rec}(e:a∈R)(hb:b∈R)(he:a.s.id=b.s.id):a=b:=by
 obtain⟨i,hi,rfl⟩:=fi e;obtain⟨j,d,rfl⟩:=fi hb;have:=mV.1 h.ids;rcases Nat.lt_trichotomy i j with c|c|c
 .have:=this i j hi d c;omega
 .subst c;rfl
 .have:=this j i d hi c;omega
theorem eX.cells(h:eX w bR R):w.cell? bR.p=some (.map (some bR.m1))/\w.cell? (Addr.add bR.p 1)=some (.map (some bR.m2)):=by
 rw[aw];exact⟨h.v.cell,h.v.cell⟩
theorem z6:Tryz.prog.underlying 123=some (.map 3 145):=by kernel_rfl
theorem z7:Tryz.prog.underlying 124=some (.map 144 3):=by kernel_rfl
theorem HA:(Tryz.prog.info? 145).bind (·.zero)=some (.pointer none):=by kernel_rfl
theorem HB:(Tryz.prog.info? 3).bind (·.zero)=some (.int .i64 0):=by kernel_rfl
def jW(R:O Rec)(id:Int):aj:=R.any λr=>r.s.id==id
def oh(R:O Rec)(d:ga):aj:=R.any λr=>decide (r.s.jV=d)
theorem vN{id:Int}:jW R id=true↔∃r∈R,r.s.id=id:=by simp[jW]
theorem z8{id:Int}:jW R id=false↔∀r∈R,r.s.id≠id:=by simp[jW]
theorem Ob{d:ga}:oh R d=true↔∃r∈R,r.s.jV=d:=by simp[oh]
theorem HC{d:ga}:oh R d=false↔∀r∈R,r.s.jV≠d:=by simp[oh]
theorem eX.look(h:eX w bR R)(id:Int):∃p:aq av,Sem.run ai (Instr.lookup 123 (.map (some bR.m1)) id true) w=.ok (.tuple #[.pointer p,.bool (jW R id)]) w/\(∀r∈R,r.s.id=id->p=some ⟨r.bj,0,none⟩):=by
 cases b:jW R id with
 |true=>
  obtain⟨r,a,rfl⟩:=vN.1 b;exact⟨some r.bj,h.bW.uv C7 z6 (k:=r.s.id) (v:=.pointer (some r.bj)) (ew.2 ⟨r,a,rfl⟩) true,λg d he=>by rw[h.uniq d a he]⟩
 |false=>
  have c:=z8.1 b;obtain⟨i,hi,e⟩:=og HA;exact⟨none,h.bW.oL C7 z6 hi e (λv f=>by
   obtain⟨r,a,he⟩:=ew.1 f;simp only[Rec.aG,Prod.mk.injEq]at he;exact c r a he.1) true,λr a he=>absurd he (c r a)⟩
theorem eX.Oc(h:eX w bR R)(d:ga):∃n:Int,Sem.run ai (Instr.lookup 124 (.map (some bR.m2)) (.agg d.c.toArray) true) w=.ok (.tuple #[n,.bool (oh R d)]) w:=by
 cases b:oh R d with
 |true=>
  obtain⟨r,a,rfl⟩:=Ob.1 b;exact⟨r.s.id,h.b9.uv z2 z7 (k:=r.s.jV) (v:=r.s.id) (ew.2 ⟨r,a,rfl⟩) true⟩
 |false=>
  have e:=HC.1 b;obtain⟨i,hi,f⟩:=og HB;exact⟨0,h.b9.oL z2 z7 hi f (λv g=>by
   obtain⟨r,a,he⟩:=ew.1 g;simp only[Rec.aM,Prod.mk.injEq]at he;exact e r a he.1) true⟩
theorem oT(w:I):aC ai 17 #[] w (λv w'=>∃bR:kR,v=.pointer (some bR.p)/\eX w' bR []/\Ext w w'/\∀q,i_ bR [] q->w.heap.size<=q):=by
 refine aa.I3 w _ ?_;delta aa.oT ad;obtain⟨aA,c⟩:=dc.make (P:=ai) (enc:=encI) 123 w;obtain⟨d,e⟩:=dc.make (P:=ai) (enc:=vM) 124 (w.alloc (.map #[] 0));have f:Ext w (w.alloc (.map #[] 0)):=af.alloc (.refl _ _) _;have b:Ext (w.alloc (.map #[] 0)) ((w.alloc (.map #[] 0)).alloc (.map #[] 0)):=af.alloc (.refl _ _) _;refine⟨some w.heap.size,_,aA,some (w.alloc (.map #[] 0)).heap.size,_,d,aN (vs:=[.map (some w.heap.size),.map (some (w.alloc (.map #[] 0)).heap.size)]) rfl λaF g a i=>?_⟩;have hs:(w.alloc (.map #[] 0)).heap.size=w.heap.size+1:=by simp
 have j:((w.alloc (.map #[] 0)).alloc (.map #[] 0)).heap.size=w.heap.size+2:=by simp
 refine⟨⟨_,w.heap.size,(w.alloc (.map #[] 0)).heap.size⟩,rfl,⟨g,(c.ext b).ext a,e.ext a,by show w.heap.size≠(w.alloc (.map #[] 0)).heap.size;rw[hs];omega,by simp,by simp,by simp,by simp,by simp,by simp,by simp⟩,Ext.trans (Ext.trans f b) a,?_⟩;rintro q (rfl|rfl|rfl|⟨r,h,_⟩)
 .show w.heap.size<=((w.alloc (.map #[] 0)).alloc (.map #[] 0)).heap.size;omega
 .exact ba _
 .show w.heap.size<=(w.alloc (.map #[] 0)).heap.size;omega
 .cases h
section
variable {α β:Type}
def jw(f:α->Int)(x:α)(l:O α):O α:=l.filter (λy=>decide (f y<f x))++x::l.filter (λy=>decide (f x<f y))
theorem Od(f:α->Int)(g:β->Int)(h:α->β)(hf:∀x,g (h x)=f x)(x:α)(l:O α):(jw f x l).map h=jw g (h x) (l.map h):=by
 unfold jw;rw[e_,gu,List.filter_map,List.filter_map];simp only[Function.comp_def,hf]
theorem HD(f:α->Int)(x:α):∀l:O α,(∀y∈l,f y≠f x)->(jw f x l).Perm (x::l)
 |l,h=>by
  unfold jw
  refine mT.trans (List.Perm.cons _ ?_)
  have e:l.filter (λy=>decide (f x<f y))=l.filter (λy=> !decide (f y<f x)):=by
   apply List.filter_congr;intro y a;have:=h y a;rw[fL];simp;omega
  rw[e];exact List.filter_append_perm _ _
theorem HE{f:α->Int}{x y:α}{l:O α}(h:y∈jw f x l):y=x\/y∈l:=by
 unfold jw at h;rcases cS.1 h with h|h
 .exact .inr (hY.1 h).1
 .rcases cY.1 h with h|h
  .exact .inl h
  .exact .inr (hY.1 h).1
theorem Oe{f:α->Int}{x:α}{l:O α}(h:l.Pairwise λa b=>f a<f b):(jw f x l).Pairwise λa b=>f a<f b:=by
 unfold jw;rw[pF,mf];refine⟨h.filter _,⟨λy c=>?_,h.filter _⟩,λa d b hb=>?_⟩
 .exact b8 (hY.1 c).2
 .have h1:f a<f x:=b8 (hY.1 d).2
  rcases cY.1 hb with rfl|hb
  .exact h1
  .have e:f x<f b:=b8 (hY.1 hb).2
   omega
theorem Of{f:α->Int}{x:α}{l:O α}(h:∀y∈l,f y≠f x):(jw f x l).length=l.length+1:=by
 rw[(HD f x l h).length_eq];simp
end
variable {w w':I}{bR:kR}{R:O Rec}{r:Rec}
def ko(R:O Rec)(s:dP)(k:ae):Int:=if q2 s k then if jW R s.id||oh R s.jV then 7 else if R.length>=8 then 2 else 0 else 1
theorem dP.plain(s:dP)(k:ae):∀v∈s.c k,Plain v:=by
 intro v a;rcases cY.1 a with rfl|a
 .trivial
 rcases cS.1 a with a|a
 .exact s.addr.plain v a
 .simp only[cY,fC,fM]at a
  rcases a with rfl|rfl|rfl|rfl|rfl<;>trivial
theorem dP.C8(s:dP)(k b:ae):(s.c k).set 22 (.slice b.a b.len b.cap)=s.c b:=by
 unfold dP.c;rw[List.set_cons_succ,wc _ _ (by rw[aH.aX];decide),aH.aX];rfl
theorem Var.set{b i:Nat}{vs:O Y}{T:TypeId}(h:Var w b vs T)(v:Y):Var (w.setCell ⟨b,i,none⟩ v) b (vs.set i v) T:=by
 have:=bc.set h i v;rwa[show vs.toArray.setIfInBounds i v=(vs.set i v).toArray by simp]at this
theorem tr{b i:Nat}{vs:O Y}{T:TypeId}{v:Y}(a:Var w b vs T){K:I->Prop}(h:∀w',Var w' b (vs.set i v) T->af (λq=>q=b) w w'->w'.heap.size=w.heap.size->K w'):an (w.setCell ⟨b,i,none⟩ v) K:=
 h _ (a.set v) (af.set (W:=λq=>q=b) (A:=⟨b,i,none⟩) (.refl _ _) (λ_=>rfl) v) (by simp[World.setCell])
theorem Og(h:eX w bR R)(s:dP)(k:ae):aC ai 52 #[.pointer (some bR.p),.agg (s.c k).toArray] w
 (λv w'=>v=.int .i64 (ko R s k)/\((ko R s k≠0/\eX w' bR R/\Ext w w')\/(ko R s k=0/\∃b,w.heap.size<=b/\eX w' bR (jw (λx=>x.s.id) ⟨s,[],b,⟨none,0,0⟩⟩ R)/\af (i_ bR R) w w'))):=by
 refine aa.I7 (some bR.p) _ w _ ?_;(delta aa.uJ ah ad bF bC ay r1 mq st;dsimp only);refine aN (vs:=s.c k) rfl λw1 j aq _=>cc (λb w'=>Ext w1 w'/\b= !q2 s k) (λq g=>⟨λh=>by simp at h,λ_=>⟨_,j.rd (dP.aX _ _),(p9 s k w1).use ?_⟩⟩) ?_
 .rintro _ a9 ⟨rfl,ar⟩
  exact⟨_,rfl,g _ _ ⟨ar,rfl⟩⟩
 rintro _ o ⟨K,rfl⟩;have A:=Ext.trans aq K;refine⟨λhm=>?_,λhm=>?_⟩
 .have hm:q2 s k=false:=by simpa using hm
  have e:ko R s k=1:=by unfold ko;rw[hm];rfl
  rw[e];exact⟨rfl,.inl ⟨by decide,h.ext A,A⟩⟩
 have hm:q2 s k=true:=by simpa using hm
 have L:Ext o o.drew:=af.drew (.refl _ _);have M:=Ext.trans A L;have N:=h.ext M;have O:=(j.ext K).ext L;obtain⟨au,av,a_⟩:=N.look s.id;have Q:Ext o.drew o.drew.drew:=af.drew (.refl _ _);have S:=Ext.trans M Q;have ax:=h.ext S;have U:=O.ext Q;refine aO ⟨λ_=>False,_,rfl,id,_,N.cells.1,id,_,(g0 O).1,au,_,_,av,aO ⟨λ_=>False,_,rfl,id,_,ax.cells.2,id,_,U.rd (dP.aX _ _),(oW s k _).use ?_⟩⟩;rintro _ bm ⟨rfl,B⟩;have r:=Ext.trans S B;have m:=h.ext r;have C:=U.ext B;obtain⟨n25,az⟩:=m.Oc s.jV;refine⟨_,rfl,B,n25,_,_,az,.refl _ _,λhb=>?_,λhb=>?_⟩
 .have e:ko R s k=7:=by unfold ko;rw[hm,hb];rfl
  rw[e];exact⟨rfl,.inl ⟨by decide,m,r⟩⟩
 refine⟨_,rfl,_,m.cells.1,_,_,m.bW.len z6,λi=>?_,λi=>?_⟩
 .have i:=b8 i
  rw[dU]at i;have e:ko R s k=2:=by unfold ko;rw[hm,hb,if_pos rfl];simp only[gb,if_false];rw[if_pos J]
  rw[e];exact⟨rfl,.inl ⟨by decide,m,r⟩⟩
 have i:=cL i;rw[dU]at i;have V:ko R s k=0:=by unfold ko;rw[hm,hb,if_pos rfl];simp only[gb,if_false];rw[if_neg J]
 simp only[q8]at hb;have W:=z8.1 hb.1;have eY:=HC.1 hb.2;have aA:bm.cell? (Addr.add w.heap.size 22)=some (.slice k.a k.len k.cap):=(g0 C).2.2.2.2.2.2;refine⟨⟨_,aA⟩,by rw[aw];exact bc.frozen C _ rfl,?_⟩;rw[aw];refine tr C λD X aB bb=>?_;have ev:(s.c k).set (0+22) ()=s.c ⟨none,0,0⟩:=s.C8 k ⟨none,0,0⟩;rw[ev]at X;have aD:Ext w D:=Ext.bN r aB (ba _);have Y:Ext D D.drew:=af.drew (.refl _ _);have Z:=Ext.trans aD Y;have ab:=h.ext Z;have t:=X.ext Y;refine aO ⟨λ_=>False,_,rfl,id,_,ab.cells.1,id,_,(g0 t).1,_,rfl,id,_,ab.cells.2,id,_,t.rd (dP.aX _ _),id,_,(g0 t).1,(oW s _ _).use ?_⟩;rintro _ E ⟨rfl,F⟩;have ac:=Ext.trans Z F;have f:=h.ext ac;have ag:=t.ext F;obtain⟨bd,aE,aF⟩:=og HA;obtain⟨be,aH,aI⟩:=og HB;obtain⟨aK,aL,aP,aQ,bf,aR⟩:=f.bW.wT C7 z6 (k:=s.id) aE aF (λv j=>by
  obtain⟨x,hx,he⟩:=ew.1 j;simp only[Rec.aG,Prod.mk.injEq]at he;exact W x hx he.1)
 obtain⟨u,aS,aU,bg,aV⟩:=aR.store (P:=ai) 123 (.pointer (some w.heap.size));have G:af (λq=>q=bR.m1) E u:=aQ.trans aU;have aW:dc u bR.m2 vM (R.map Rec.aM):=f.b9.ak G (λe=>h.ne e.symm);obtain⟨aY,aZ,a0,a1,bh,a2⟩:=aW.wT z2 z7 (k:=s.jV) aH aI (λv j=>by
  obtain⟨x,hx,he⟩:=ew.1 j;simp only[Rec.aM,Prod.mk.injEq]at he;exact eY x hx he.1)
 obtain⟨n,a3,a4,bi,a5⟩:=a2.store (P:=ai) 124 s.id;have H:af (λq=>q=bR.m2) u n:=a1.trans a4;refine⟨_,rfl,F,_,aK,aL,aP,u,aS,_,aY,aZ,a0,n,a3,by rw[V],.inr ⟨V,w.heap.size,ba _,?_,?_⟩⟩
 .have z:af (λq=>q=bR.m1\/q=bR.m2) E n:=(af.mono G λ_ _ h=>.inl h).trans (af.mono H λ_ _ h=>.inr h)
  have aj:∀y∈R,y.s.id≠s.id:=W;obtain⟨x,hx⟩:∃x:Rec,x=⟨s,[],w.heap.size,⟨none,0,0⟩⟩:=⟨_,rfl⟩;have al:(jw (λx:Rec=>x.s.id) x R).Perm (x::R):=HD _ _ _ (by rw[hx];exact aj);rw[←hx];have l:∀y∈jw (λx:Rec=>x.s.id) x R,y=x\/y∈R:=λy d=>HE d;have a6:dc n bR.m1 encI ((jw (λx:Rec=>x.s.id) x R).map Rec.aG):=by
   refine(aV.ak H h.ne).perm ?_;have:=(al.map Rec.aG).symm;rw[gu]at this;rw[hx]at this⊢;exact this
  have a7:dc n bR.m2 vM ((jw (λx:Rec=>x.s.id) x R).map Rec.aM):=by
   refine a5.perm ?_;have:=(al.map Rec.aM).symm;rw[gu]at this;rw[hx]at this⊢;exact this
  have I:∀q c T,bc E q c T->¬(q=bR.m1\/q=bR.m2):=by
   rintro q c T am (rfl|rfl)
   .exact f.bW.jG am
   .exact f.b9.jG am
  have aJ:∀y∈R,y.bj<w.heap.size:=λy d=>(h.sv y d).lt;refine⟨f.v.ak z (I _ _ _ f.v),a6,a7,h.ne,λy d=>?_,λy d=>?_,λy d=>?_,λy d=>?_,Oe h.ids,?_,λa a8 b hb an=>?_⟩
  .rcases l y d with rfl|d
   .rw[hx];exact ag.ak z (I _ _ _ ag)
   .exact(f.sv y d).ak z (I _ _ _ (f.sv y d))
  .rcases l y d with rfl|d
   .rw[hx];exact aT.none _ _ _
   .exact(f.b7 y d).ak z λq g hm=>hm.elim (λe=>by subst e;exact(f.b7 y d).A2 g f.bW) (λe=>by subst e;exact(f.b7 y d).A2 g f.b9)
  .rcases l y d with rfl|d
   .rw[hx];exact List.Pairwise.nil
   .exact h.du y d
  .rcases l y d with rfl|d
   .rw[hx];exact c8 _
   .exact h.fy y d
  .rw[Of (by rw[hx];exact aj)];omega
  .rcases l a a8 with rfl|ao<;>rcases l b hb with rfl|ap
   .exact absurd rfl an
   .refine⟨?_,λq g=>?_⟩
    .have:=aJ b ap;rw[hx];show w.heap.size≠_;omega
    .rw[hx]at g;exact(gU q g).elim
   .refine⟨?_,λq _ g=>?_⟩
    .have:=aJ a ao;rw[hx];show _≠w.heap.size;omega
    .rw[hx]at g;exact(gU q g).elim
   .exact h.apart a ao b ap an
 .exact(af.bL ac).trans ((af.mono G λq _ e=>.inr (.inl e)).trans (af.mono H λq _ e=>.inr (.inr (.inl e))))
variable {w w':I}{bR:kR}{R:O Rec}{r:Rec}
abbrev l6:=dP×O cg
def fm(R:O Rec):O l6:=R.map λr=>(r.s,r.bs)
def pC(L:O l6)(s:dP)(k:ae):Int×O l6:=
 if q2 s k then if (L.any λx=>x.1.id==s.id)||(L.any λx=>decide (x.1.jV=s.jV)) then (7,L) else if L.length>=8 then (2,L) else (0,jw (λx=>x.1.id) (s,[]) L) else (1,L)
def z_(L:O l6)(a:Int)(g:O cg->O cg):O l6:=L.map λx=>if x.1.id=a then (x.1,g x.2) else x
def tt(s:dP)(b:cg):aj:=tp b.id&&b.addr.eH&&(b.addr.eg==s.addr.eg)&& !(b.port==0)&&tq b.weight&& !b.pA
def om(b:cg)(l:O cg):O cg:=l.take (fK l b.id)++ [b]++l.drop (fK l b.id)
def tu(L:O l6)(a:Int)(b:cg):Int×O l6:=
 match L.find? λx=>x.1.id==a with
 |none=>(6,L)
 |some x=>if tt x.1 b then if hasB x.2 b.id then (7,L) else if x.2.length>=16 then (2,L) else (0,z_ L a (om b)) else (1,L)
def q3(L:O l6)(a b:Int):aj:=L.any λx=>(x.1.id==a)&&hasB x.2 b
def Step(bR:kR)(R:O Rec)(w:I)(x:Int×O l6)(v:Y)(w':I):Prop:=
 v=x.1/\∃a,eX w' bR a/\fm a=x.2/\af (i_ bR R) w w'/\∀q,i_ bR a q->i_ bR R q\/w.heap.size<=q
theorem Step.same(h:eX w bR R)(hx:Ext w w'){e:Int}{v:Y}(a:v=e):Step bR R w (e,fm R) v w':=
 ⟨a,R,h.ext hx,rfl,af.bL hx,λ_ h=>.inl h⟩
theorem Aa(R:O Rec)(p:l6->aj):(fm R).any p=R.any λr=>p (r.s,r.bs):=by unfold fm;rw[List.any_map];rfl
theorem Oh(h:eX w bR R)(s:dP)(k:ae):aC ai 52 #[.pointer (some bR.p),.agg (s.c k).toArray] w (λv w'=>Step bR R w (pC (fm R) s k) v w'):=by
 refine(Og h s k).mono ?_;have e:(pC (fm R) s k).1=ko R s k:=by
  unfold pC ko;rw[Aa,Aa,show(fm R).length=R.length by simp[fm]];show _=if q2 s k then if (jW R s.id||oh R s.jV)=true then (7:Int) else if R.length>=8 then 2 else 0 else 1
  unfold jW oh;split
  .split
   .rfl
   .split<;>rfl
  .rfl
 have aM:ko R s k≠0->(pC (fm R) s k).2=fm R:=by
  intro a;rw[←e]at a;unfold pC at a⊢;split
  .split
   .rfl
   .split
    .rfl
    .rename_i h1 f g
     rw[if_pos h1,if_neg f,if_neg g]at a;exact absurd rfl a
  .rfl
 have j:ko R s k=0->(pC (fm R) s k).2=jw (λx=>x.1.id) (s,[]) (fm R):=by
  intro h0;rw[←e]at h0;unfold pC at h0⊢;split
  .split
   .rename_i h1 f
    rw[if_pos h1,if_pos f]at h0;exact absurd h0 (show(7:Int)≠0 by decide)
   .split
    .rename_i h1 f g
     rw[if_pos h1,if_neg f,if_pos g]at h0;exact absurd h0 (show(2:Int)≠0 by decide)
    .rfl
  .rename_i h1
   rw[if_neg h1]at h0;exact absurd h0 (show(1:Int)≠0 by decide)
 rintro v w' ⟨rfl,⟨a,i,hx⟩|⟨h0,b,hb,i,hc⟩⟩
 .exact⟨by rw[e],R,i,(aM a).symm,af.bL hx,λ_ h=>.inl h⟩
 .refine⟨by rw[e],_,i,?_,hc,λq d=>?_⟩
  .rw[j h0]
   exact Od (λx:Rec=>x.s.id) (λx:l6=>x.1.id) (λr:Rec=>(r.s,r.bs)) (λ_=>rfl) _ _
  .rcases d with rfl|rfl|rfl|⟨x,hx,d⟩
   .exact .inl (.inl rfl)
   .exact .inl (.inr (.inl rfl))
   .exact .inl (.inr (.inr (.inl rfl)))
   .rcases HE hx with rfl|hx
    .rcases d with rfl|d
     .exact .inr hb
     .exact(gU q d).elim
    .exact .inl (.inr (.inr (.inr ⟨x,hx,d⟩)))
theorem eX.set(h:eX w bR R)(n:r∈R){bs:O cg}{k:ae}(hc:af (λq=>q=r.bj\/aB r.k q) w w')(B:Var w' r.bj (r.s.c k) 34)(C:aT 21 36 w' k (gq bs))(D:nk bs)(E:bs.length<=16)
 (p:∀q,aB k q->aB r.k q\/w.heap.size<=q):∃t,eX w' bR t/\fm t=(fm R).map (λx=>if x.1.id=r.s.id then (x.1,bs) else x)/\∀q,i_ bR t q->i_ bR R q\/w.heap.size<=q:=by
 obtain⟨g,hg⟩:∃g:Rec->Rec,g=λx=>if x.s.id=r.s.id then ⟨x.s,bs,x.bj,k⟩ else x:=⟨_,rfl⟩
 have j:∀x,(g x).s=x.s/\(g x).bj=x.bj:=λx=>by rw[hg];simp only;split<;>exact⟨rfl,rfl⟩
 have F:g r=⟨r.s,bs,r.bj,k⟩:=by rw[hg];simp
 have G:∀x∈R,x.s.id≠r.s.id->g x=x:=λx _ hx=>by rw[hg];simp[hx]
 have l:∀x∈R,(x=r/\g x=⟨r.s,bs,r.bj,k⟩)\/(x.s.id≠r.s.id/\g x=x):=λx hx=>by
  by_cases he:x.s.id=r.s.id
  .have:=h.uniq hx n he
   subst this;exact .inl ⟨rfl,F⟩
  .exact .inr ⟨he,G x hx he⟩
 have z:=h.b7 r n;have u:=h.sv r n;have cU:∀q c T,bc w q c T->T≠36->q≠r.bj->¬(q=r.bj\/aB r.k q):=by
  rintro q c T H I d (e|e)
  .exact d e
  .exact I (z.jG e H).symm
 have hm:∀ {α:Type}{enc:α->Y}{M:O (α×Y)}{q:Nat},dc w q enc M->¬(q=r.bj\/aB r.k q):=by
  rintro α enc M q A (rfl|e)
  .exact A.jG u
  .exact z.A2 e A
 have aG:(R.map g).map Rec.aG=R.map Rec.aG:=by
  rw[kV];exact rm λx _=>by simp only[Function.comp,Rec.aG,(j x).1,(j x).2]
 have aM:(R.map g).map Rec.aM=R.map Rec.aM:=by
  rw[kV];exact rm λx _=>by simp only[Function.comp,Rec.aM,(j x).1]
 have hold:∀x∈R,∀q,aB x.k q->q<w.heap.size:=λx hx=>(h.b7 x hx).lt;refine⟨R.map g,⟨h.v.ak hc (cU _ _ _ h.v (by decide) (λe=>by have:=h.v;rw[e]at this;exact absurd (this.inj u) (by decide))),by rw[aG];exact h.bW.ak hc (hm h.bW),by rw[aM];exact h.b9.ak hc (hm h.b9),h.ne,λy f=>?_,λy f=>?_,λy f=>?_,λy f=>?_,?_,by rw[dU];exact h.len,λa J b hb i=>?_⟩,?_,λq d=>?_⟩
 .obtain⟨x,hx,rfl⟩:=ew.1 f
  rcases l x hx with ⟨rfl,he⟩|⟨i,he⟩
  .rw[he];exact B
  .rw[he];exact(h.sv x hx).ak hc (cU _ _ _ (h.sv x hx) (by decide) (h.apart x hx r n i).1)
 .obtain⟨x,hx,rfl⟩:=ew.1 f
  rcases l x hx with ⟨rfl,he⟩|⟨i,he⟩
  .rw[he];exact C
  .rw[he]
   refine(h.b7 x hx).ak hc λq d hm=>?_;rcases hm with rfl|hm
   .exact absurd ((h.b7 x hx).jG d u) (by decide)
   .exact(h.apart x hx r n i).2 q d hm
 .obtain⟨x,hx,rfl⟩:=ew.1 f
  rcases l x hx with ⟨rfl,he⟩|⟨i,he⟩
  .rw[he];exact D
  .rw[he];exact h.du x hx
 .obtain⟨x,hx,rfl⟩:=ew.1 f
  rcases l x hx with ⟨rfl,he⟩|⟨i,he⟩
  .rw[he];exact E
  .rw[he];exact h.fy x hx
 .rw[List.pairwise_map]
  exact h.ids.imp λ{a b} K=>by rw[(j a).1,(j b).1];exact K
 .obtain⟨x,hx,rfl⟩:=ew.1 J
  obtain⟨y,f,rfl⟩:=ew.1 hb;rw[(j x).1,(j y).1]at i;refine⟨by rw[(j x).2,(j y).2];exact(h.apart x hx y f i).1,λq d m=>?_⟩;rcases l x hx with ⟨rfl,he⟩|⟨L,he⟩<;>rcases l y f with ⟨rfl,o⟩|⟨N,o⟩
  .exact i rfl
  .rw[he]at d;rw[o]at m
   rcases p q d with h1|h1
   .exact(h.apart x hx y f i).2 q h1 m
   .have:=hold y f q m;omega
  .rw[he]at d;rw[o]at m
   rcases p q m with h1|h1
   .exact(h.apart x hx y f i).2 q d h1
   .have:=hold x hx q d;omega
  .rw[he]at d;rw[o]at m
   exact(h.apart x hx y f i).2 q d m
 .unfold fm
  rw[kV,kV];refine rm λx hx=>?_;simp only[Function.comp];rcases l x hx with ⟨rfl,he⟩|⟨i,he⟩
  .rw[he,if_pos rfl]
  .rw[he,if_neg i]
 .rcases d with rfl|rfl|rfl|⟨y,f,d⟩
  .exact .inl (.inl rfl)
  .exact .inl (.inr (.inl rfl))
  .exact .inl (.inr (.inr (.inl rfl)))
  .obtain⟨x,hx,rfl⟩:=ew.1 f
   rcases l x hx with ⟨rfl,he⟩|⟨i,he⟩
   .rw[he]at d
    rcases d with rfl|d
    .exact .inl (.inr (.inr (.inr ⟨x,hx,.inl rfl⟩)))
    .rcases p q d with h1|h1
     .exact .inl (.inr (.inr (.inr ⟨x,hx,.inr h1⟩)))
     .exact .inr h1
   .rw[he]at d
    exact .inl (.inr (.inr (.inr ⟨x,hx,d⟩)))
variable {w w':I}{bR:kR}{R:O Rec}{r:Rec}
theorem p_(h:eX w bR R)(a:r∈R)(id:Int):aC ai 102 #[.pointer (some r.bj),id] w (λv w'=>v=.tuple #[.int .i64 ((fK r.bs id:Nat):Int),.bool (hasB r.bs id)]/\Ext w w'):=by
 refine okF (aa.p_ (some r.bj) id) ao.p_ func102 ?_;(delta aa.p_ ay aR gF;dsimp only);refine⟨_,rfl,r.k,(g0 (h.sv r a)).2.2.2.2.2.2,(N8 id (h.b7 r a).src (h.du r a) (by have:=h.fy r a;omega)).use ?_⟩;rintro _ c ⟨rfl,b⟩;exact⟨_,_,rfl,rfl,b⟩
theorem HF(h:eX w bR R)(a:Int):(fm R).find? (λx=>x.1.id==a)=(R.find? λr=>r.s.id==a).map λr=>(r.s,r.bs):=by
 unfold fm;rw[List.find?_map];rfl
theorem Oi(h:eX w bR R)(a:r∈R):R.find? (λx=>x.s.id==r.s.id)=some r:=by
 cases hf:R.find? (λx=>x.s.id==r.s.id) with
 |none=>
  have:=ky.1 hf r a;simp at this
 |some x=>
  have hx:=kX hf;have hm:=j0 hf;rw[h.uniq hm a (eq_of_beq hx)]
theorem Oj(h:eX w bR R)(a:r∈R)(b:Int):q3 (fm R) r.s.id b=hasB r.bs b:=by
 unfold q3;rw[Aa,fL,ov];constructor
 .rintro⟨x,hx,he⟩
  simp only[dH,jy]at he;rw[h.uniq hx a he.1]at he;exact he.2
 .intro he
  exact⟨r,a,by simp[he]⟩
theorem Ol{a:Int}(b:jW R a=false)(c:Int):q3 (fm R) a c=false:=by
 unfold q3;rw[Aa,q7];intro x hx;have:=z8.1 b x hx;simp[this]
theorem Om(h:eX w bR R)(b a:Int):aC ai 83 #[.pointer (some bR.p),b,a] w
 (λv w'=>Ext w w'/\((∃r∈R,r.s.id=b/\hasB r.bs a=true/\v=.tuple #[.pointer (some r.bj),.int .i64 ((fK r.bs a:Nat):Int),(0:Int)])\/(q3 (fm R) b a=false/\v=.tuple #[.pointer none,(0:Int),(6:Int)]))):=by
 refine okF (aa.xM (some bR.p) b a) ao.xM func83 ?_;(delta aa.xM ah ay gF;dsimp only);obtain⟨e,f,g⟩:=h.look b;refine⟨λi=>by simp at i,λ_=>⟨_,rfl,_,h.cells.1,e,_,w,f,λhb=>?_,λhb=>?_⟩⟩
 .have hb:jW R b=false:=by simpa using hb
  exact⟨.refl _ _,.inr ⟨Ol hb a,rfl⟩⟩
 .have hb:jW R b=true:=by simpa using hb
  obtain⟨r,c,rfl⟩:=vN.1 hb;rw[g r c rfl];refine(p_ h c a).use ?_;rintro _ j ⟨rfl,d⟩;refine⟨_,_,rfl,λhb=>?_,λhb=>?_⟩
  .have hb:hasB r.bs a=false:=by simpa using hb
   exact⟨d,.inr ⟨by rw[Oj h c,hb],rfl⟩⟩
  .have hb:hasB r.bs a=true:=by simpa using hb
   exact⟨d,.inl ⟨r,c,rfl,hb,rfl⟩⟩
theorem On{a:Int}(h:eX w bR R)(b:r∈R)(c:r.s.id=a)(g:O cg->O cg):(fm R).map (λx=>if x.1.id=r.s.id then (x.1,g r.bs) else x)=z_ (fm R) a g:=by
 subst c;unfold z_ fm;rw[kV,kV];refine rm λx hx=>?_;simp only[Function.comp];by_cases he:x.s.id=r.s.id
 .rw[if_pos he,if_pos he,h.uniq hx b he]
 .rw[if_neg he,if_neg he]
theorem Oo{l:O cg}(h:nk l){b:cg}(c:hasB l b.id=false):nk (om b l):=by
 unfold om nk;rw[c_,pF];refine⟨List.Pairwise.sublist (List.take_sublist _ _) h,?_,λx hx y a=>?_⟩
 .rw[List.singleton_append,mf]
  refine⟨λx hx=>?_,List.Pairwise.sublist (List.drop_sublist _ _) h⟩;obtain⟨j,d,rfl⟩:=fi hx;rw[rl];rw[ek]at d;have h1:=C6 h (id:=b.id) (j:=fK l b.id+j) J J;have f:(l[fK l b.id+j]'J).id≠b.id:=by
   intro e;have:hasB l b.id=true:=by unfold hasB;exact ov.2 ⟨_,c3 _,by rw[e];simp⟩
   rw[this]at c;cases c
  omega
 .obtain⟨j,d,rfl⟩:=List.mem_take_iff_getElem.1 hx
  have h1:(l[j]'J).id<b.id:=Hw J;rcases cS.1 a with a|a
  .rw[ej.1 a];exact h1
  .obtain⟨i,hi,rfl⟩:=fi a
   rw[ek]at hi;rw[rl];have f:=C6 h (id:=b.id) (j:=fK l b.id+i) J J;omega
theorem Oq{l:O cg}(b:cg):(om b l).length=l.length+1:=by
 unfold om;have:=C5 l b.id;simp;omega
theorem Step.Ot{x:Int×O l6}{v:Y}{w1:I}(hx:Ext w w1)(h:Step bR R w1 x v w'):Step bR R w x v w':=by
 obtain⟨a,b,h1,c,d,e⟩:=h;exact⟨a,b,h1,c,(af.bL hx).trans d,λq f=>(e q f).imp id λh=>dQ hx.size h⟩
theorem Ou(a:r∈R):∀q,q=r.bj\/aB r.k q->i_ bR R q:=λ_ b=>.inr (.inr (.inr ⟨r,a,b⟩))
variable {w w':I}{bR:kR}{R:O Rec}{r:Rec}
theorem nm{b:Nat}{T:TypeId}{x:cg}(h:Var w b x.c T):w.cell? ⟨b,0,none⟩=some (.int .i64 x.id)/\w.cell? (Addr.add ⟨b,0,none⟩ 1)=some (.bool x.addr.eg)/\w.cell? (Addr.add ⟨b,0,none⟩ 18)=some (.int .u16 x.port)/\w.cell? (Addr.add ⟨b,0,none⟩ 19)=some (.int .i64 x.weight)/\w.cell? (Addr.add ⟨b,0,none⟩ 20)=some (.bool x.pA):=by
 simp only[aw,h.cell];refine⟨rfl,rfl,?_,?_,?_⟩<;>simp[cg.c,List.getElem?_append,aH.aX]
theorem Ov{b:Nat}{T:TypeId}{x:cg}(h:Var w b x.c T):aV w (Addr.add ⟨b,0,none⟩ 1) 0 17=some x.addr.c:=by
 rw[aw,h.fE (by rw[cg.aX];decide)];show some ((x.addr.c++_).take 17)=_;rw[kZ (by rw[aH.aX];decide),ey (by rw[aH.aX];decide)]
theorem Ow(x:cg)(w:I):Sem.run ai (Instr.buildSlice 32 1 #[(0,.agg x.c.toArray)]) w=.ok (.slice (some ⟨w.heap.size,0,none⟩) 1 1) (w.alloc (.cells x.c.toArray 36)):=by
 obtain⟨id,⟨eg,b,h⟩,port,weight,pA⟩:=x;obtain⟨a,d,e,f,g,i,j,k,l,m,n,o,p,q,r,s,rfl⟩:=o5 b h
 kernel_rfl
def oo(s:dP)(b:cg):aj:= !tp b.id|| !b.addr.eH|| !(b.addr.eg==s.addr.eg)||b.port==0|| !tq b.weight||b.pA
theorem Ox(s:dP)(b:cg):oo s b= !tt s b:=by
 unfold oo tt
 cases tp b.id<;>cases b.addr.eH<;>cases (b.addr.eg==s.addr.eg)<;>cases (b.port==0)<;>cases tq b.weight<;>cases b.pA<;>rfl
theorem C9{x:Nat}{T:TypeId}{b:cg}{w1:I}(c:aj){b0:aj}(hc:c=(b0||b.port==0|| !tq b.weight||b.pA))(e:Var w1 x b.c T){q:aj->I->Prop}(a:∀w',Ext w1 w'->q c w'):
 a_ (λf:aj->I->Prop=>(b0=true->f true w1)/\(b0=false->∃n21:Int,w1.cell? (Addr.add x 18)=some (.int .u16 n21)/\f ((n21:Int)==0) w1))
  (λ(g:aj) (bZ:I)=>a_ (λh:aj->I->Prop=>(g=true->h true bZ)/\(g=false->∃n25:Int,bZ.cell? (Addr.add x 19)=some (.int .i64 n25)/\
    Calls ai 105 #[n25] bZ λp r=>∃i:aj,p=.returned i/\h (!i) r))
    (λ(j:aj) (d:I)=>a_ (λk:aj->I->Prop=>(j=true->k true d)/\(j=false->∃l:aj,d.cell? (Addr.add x 20)=some (.bool l)/\k l d))
      (λ(s:aj) (t:I)=>q s t))):=by
 subst hc;refine l4 (b.port==0) (λ_ q a=>⟨_,(nm e).2.2.1,a _ (.refl _ _)⟩) λag m=>?_;have n:=e.ext m;refine l4 (!tq b.weight) (λ_ q a=>⟨_,(nm n).2.2.2.1,(uP _ ag).use ?_⟩) λw o=>?_
 .rintro _ _ ⟨rfl,rfl⟩
  exact⟨_,rfl,a _ (.refl _ _)⟩
 have u:=n.ext o;exact l4 b.pA (λ_ q a=>⟨_,(nm u).2.2.2.2,a _ (.refl _ _)⟩) λy v=>a _ (Ext.trans m (Ext.trans o v))
theorem Oy(h:eX w bR R)(j:Int)(b:cg):aC ai 53 #[.pointer (some bR.p),j,.agg b.c.toArray] w (λv w'=>Step bR R w (tu (fm R) j b) v w'):=by
 refine aa.I8 (some bR.p) j _ w _ ?_;(delta aa.uK ah ay r1 ad gF bC bF g8 fD bh fb aS EH A5 aR eU bn st;dsimp only);refine aN (vs:=b.c) rfl λw1 A B ar=>⟨λX=>by simp at X,λ_=>?_⟩;have h1:=h.ext B;obtain⟨Y,l,Z⟩:=h1.look j;refine⟨_,rfl,_,h1.cells.1,Y,_,w1,l,λhb=>?_,λhb=>?_⟩
 .have hb:jW R j=false:=by simpa using hb
  have e:tu (fm R) j b=(6,fm R):=by
   unfold tu;rw[HF h];have:R.find? (λr=>r.s.id==j)=none:=ky.2 λx hx=>by simpa using z8.1 hb x hx
   rw[this];rfl
  rw[e];exact Step.same h B rfl
 have hb:jW R j=true:=by simpa using hb
 obtain⟨r,a,rfl⟩:=vN.1 hb;have ab:=Z r a rfl;rw[ab];have f:tu (fm R) r.s.id b=if tt r.s b then if hasB r.bs b.id then (7,fm R) else if r.bs.length>=16 then (2,fm R) else (0,z_ (fm R) r.s.id (om b)) else (1,fm R):=by
  unfold tu;rw[HF h,Oi h a];rfl
 refine⟨_,(nm A).1,(p_ h1 a b.id).use ?_⟩;rintro _ C ⟨rfl,o⟩;have ac:=Ext.trans B o;refine⟨_,_,rfl,cc (λc w'=>Ext C w'/\c=oo r.s b) (λq d=>?_) ?_⟩
 .have hd:Ext C C.drew:=af.drew (.refl _ _)
  have t:=(A.ext o).ext hd;refine aO ⟨λ_=>False,id,_,(nm t).1,(r_ b.id _).use ?_⟩;rintro _ _ ⟨rfl,rfl⟩;refine⟨_,rfl,λ_=>False,λhi=>?_,λhi=>⟨id,_,Ov t,(Hr b.addr _).use ?_⟩⟩
  .refine C9 (b0:=true) (oo r.s b) ?_ t λw' hx=>d _ _ ⟨Ext.trans hd hx,rfl⟩
   unfold oo;rw[hi];rfl
  rintro _ cC ⟨rfl,D⟩;have E:=t.ext D;have F:=Ext.trans hd D;refine⟨_,rfl,D,λhg=>?_,λhg=>?_⟩
  .refine C9 (b0:=true) (oo r.s b) ?_ E λw' hx=>d _ _ ⟨Ext.trans F hx,rfl⟩
   unfold oo;rw[hi,hg];rfl
  .have ae:=(h1.ext o).ext F
   refine⟨id,_,(nm E).2.1,_,rfl,id,_,(g0 (ae.sv r a)).2.1,?_⟩;refine C9 (b0:= !(b.addr.eg==r.s.addr.eg)) (oo r.s b) ?_ E λw' hx=>d _ _ ⟨Ext.trans F hx,rfl⟩;unfold oo;rw[hi,hg];rfl
 rintro _ g ⟨L,rfl⟩;rw[Ox];have n:=Ext.trans ac L;have M:=h.ext n;refine⟨λhc=>?_,λhc=>⟨λu=>?_,λu=>⟨_,rfl,r.k,(g0 (M.sv r a)).2.2.2.2.2.2,λl=>?_,λl=>?_⟩⟩⟩
 .have hc:tt r.s b=false:=by simpa using hc
  rw[hc]at f;rw[f];exact Step.same h n rfl
 all_goals have hc:tt r.s b=true:=by simpa using hc
 all_goals rw[hc,if_pos rfl]at f
 .rw[u,if_pos rfl]at f
  rw[f];exact Step.same h n rfl
 all_goals rw[u]at f
 all_goals simp only[gb,if_false]at f
 all_goals have au:=l5.len (M.b7 r a).src
 .have l:(r.k.len:Int)>=16:=b8 l
  rw[if_pos J]at f;rw[f];exact Step.same h n rfl
 have l:¬(r.k.len:Int)>=16:=cL l;rw[if_neg J]at f;have hd:Ext g g.drew:=af.drew (.refl _ _);have N:=Ext.trans n hd;have y:=h.ext N;have O:=((A.ext o).ext L).ext hd;have av:w.heap.size<g.drew.heap.size:=O.lt;have P:Ext g.drew (g.drew.alloc (.cells b.c.toArray 36)):=af.alloc (.refl _ _) _;have Q:=Ext.trans N P;have G:=h.ext Q;have H:=G.b7 r a;have z:=G.sv r a;have ag:¬aB r.k g.drew.heap.size:=λd=>by have:=(y.b7 r a).lt _ d;omega
 refine aO ⟨aB r.k,_,rfl,?_,r.k,(g0 (y.sv r a)).2.2.2.2.2.2,?_,_,O.rd b.aX,⟨some g.drew.heap.size,1,1⟩,_,Ow b _,af.bL P,?_⟩
 .rw[aw];intro d;exact absurd ((y.b7 r a).jG d (y.sv r a)) (by decide)
 .intro d
  have:=(h.b7 r a).lt _ d;simp at this
 refine(N3 (v:=⟨some g.drew.heap.size,1,1⟩) (i:=fK r.bs b.id) H (Src.new _ _ 1 (by rw[b.aX])) rfl rfl (bc.new _ _ _) ag b.plain (Ht _) (by have:=C5 r.bs b.id;omega) J).use ?_;rintro _ aj ⟨m,rfl,al,ax,I,S⟩;have K:Var aj r.bj (r.s.c r.k) 34:=z.ak I λd=>absurd (H.jG d z) (by decide);refine⟨m,rfl,I,_,rfl,⟨_,(g0 K).2.2.2.2.2.2⟩,by rw[aw];exact bc.frozen K _ rfl,?_⟩;rw[aw];refine tr K λT U V az=>?_;have ev:(r.s.c r.k).set (0+22) m=r.s.c m:=r.s.C8 r.k m;rw[ev]at U;have W:af (λq=>q=r.bj\/aB r.k q) (g.drew.alloc (.cells b.c.toArray 36)) T:=(af.mono I λ_ _ h=>.inr h).trans (af.mono V λ_ _ h=>.inl h);have am:¬aB m r.bj:=λd=>by
  rcases S _ d with h1|h1
  .exact absurd (H.jG h1 z) (by decide)
  .have:=z.lt;omega
 have an:aT 21 36 T m (gq (om b r.bs)):=by
  have:=al.ak V (λq d e=>by subst e;exact am d);unfold om;rw[Hu,Hu,N4,←Hv,←C4];exact this
 rw[f];obtain⟨ao,aA,ap,aq⟩:=G.set a W U an (Oo (h.du r a) u) (by rw[Oq];omega) S;refine Step.Ot Q ⟨rfl,ao,aA,?_,af.mono W λq _ d=>Ou a q d,aq⟩;rw[ap,On h a rfl (om b)]
def dP.zero:dP:=⟨0,aH.zero,0,0,0,0⟩
abbrev fg:ae:=⟨none,0,0⟩
def cg.zero:cg:=⟨0,aH.zero,0,0,false⟩
theorem Oz(w:I):Sem.run ai (Instr.build 36 #[]) w=.ok (.agg cg.zero.c.toArray) w:=by kernel_rfl
variable {w w':I}{bR:kR}{R:O Rec}{r:Rec}
theorem OA(h:eX w bR R)(b:r∈R):aC ai 22 #[.pointer (some ⟨bR.p,0,none⟩),.int .i64 r.s.id] w
 (λv w'=>∃k:ae,v=.tuple #[.agg (r.s.c k).toArray,.bool true]/\aT 21 36 w' k (gq r.bs)/\Ext w w'/\∀q,aB k q->w.heap.size<=q):=by
 refine aa.I5 (some ⟨bR.p,0,none⟩) _ w _ ?_;(delta aa.uH z5 ah Bc ad ay w2 aR bn st;dsimp only);refine aN (vs:=dP.zero.c fg) (by kernel_rfl) λw1 i g N=>⟨λB=>by simp at B,λ_=>?_⟩;have h1:=h.ext g;obtain⟨C,D,o⟩:=h1.look r.s.id;have E:jW R r.s.id=true:=vN.2 ⟨r,b,rfl⟩;have F:=h1.sv r b;refine⟨_,rfl,_,h1.cells.1,C,_,w1,D,λhb=>(by rw[E]at hb;cases hb),λ_=>⟨_,o r b rfl,_,F.rd (dP.aX _ _),aN (vs:=dP.zero.c fg) (by kernel_rfl) λO t G P=>⟨t.bX (by simp[dP.aX]) (dP.plain _ _),by simp[dP.aX],cA t (us:=r.s.c r.k) (by simp[dP.aX]) rfl λH u I Q=>?_⟩⟩⟩;have d:Ext w1 H:=Ext.bN G I (ba _);have x:=h1.ext d;refine⟨_,o r b rfl,r.k,(g0 (x.sv r b)).2.2.2.2.2.2,(N6 (x.b7 r b).src (by have:=h.fy r b;omega)).use ?_⟩;rintro _ J ⟨k,rfl,K,S,j,l⟩;have m:=u.ext j;refine⟨k,rfl,⟨_,(g0 m).2.2.2.2.2.2⟩,by rw[aw];exact bc.frozen m _ rfl,?_⟩;rw[aw];refine tr m λbm y n T=>?_;have ev:(r.s.c r.k).set (0+22) (.slice k.a k.len k.cap)=r.s.c k:=r.s.C8 r.k k;rw[ev]at y;have z:Var bm w.heap.size (dP.zero.c fg) 34:=((i.ext d).ext j).ak n (by have:=i.lt;omega);refine⟨_,y.rd (dP.aX _ _),z.bX (by simp[dP.aX]) (dP.plain _ _),by simp[dP.aX],cA z (us:=r.s.c k) (by simp[dP.aX]) rfl λU L A V=>⟨_,L.rd (dP.aX _ _),k,rfl,?_,?_,λq f=>?_⟩⟩
 .refine(K.ak n λq f e=>?_).ak A λq f e=>?_
  .subst e;have:=l _ f;have:=u.lt;omega
  .subst e;have:=l _ f;have:=d.size;have:=i.lt;omega
 .have M:Ext w J:=Ext.trans g (Ext.trans d j)
  exact Ext.bN (Ext.bN M n g.size) A (ba _)
 .have:=l q f;have:=(Ext.trans g d).size;omega
theorem OB(h:eX w bR R)(i:r∈R)(a:aH)(p q:Int)(hd:r.s.jV=⟨a,p,q⟩):aC ai 21 #[.pointer (some bR.p),.agg a.c.toArray,.int .u16 p,.int .u8 q] w (λv w'=>v=.tuple #[r.s.id,true]/\Ext w w'):=by
 refine aa.I4 (some bR.p) _ p q w _ ?_;(delta aa.uG ah bC ay ad;dsimp only);refine aN (vs:=a.c) rfl λw1 j l n=>⟨λh=>(by cases h),λ_=>?_⟩;have e:=b1 w1;have b:=l.trans e;have d:=h.ext b;have f:=j.ext e;refine aO ?_;generalize w1.drew=ag at d f b;have g:=d.b9.uv z2 z7 (k:=r.s.jV) (v:=r.s.id) (ew.2 ⟨r,i,rfl⟩) true;rw[hd]at g;exact⟨λ_=>False,_,rfl,id,_,d.cells.2,id,_,f.rd a.aX,_,λm=>Hs m a p q,_,_,_,g,.refl _ _,rfl,b⟩
theorem HG(h:eX w bR R)(d a:Int):aC ai 40 #[.pointer (some ⟨bR.p,0,none⟩),.int .i64 d,.int .i64 a] w
 (λv w'=>Ext w w'/\((∃r∈R,r.s.id=d/\∃hb:fK r.bs a<r.bs.length,hasB r.bs a=true/\v=.tuple #[.agg (r.bs[fK r.bs a]).c.toArray,.bool true])\/(q3 (fm R) d a=false/\v=.tuple #[.agg cg.zero.c.toArray,.bool false]))):=by
 refine okF (aa.xC (some ⟨bR.p,0,none⟩) d a) ao.xC func40 ?_;(delta aa.xC m4 Ez ah xd ad ay aR k9 bq;dsimp only);refine aN (vs:=cg.zero.c) (by kernel_rfl) λw1 m g B=>(Om (h.ext g) d a).use ?_;rintro _ ag ⟨e,⟨r,i,rfl,hb,rfl⟩|⟨o,rfl⟩⟩
 .have n:=(h.ext g).ext e
  have f:=m.ext e;have aJ:fK r.bs a<r.bs.length:=by
   refine Nat.lt_of_not_le λq=>?_;unfold hasB at hb;unfold fK at q;obtain⟨x,hx,he⟩:=ov.1 hb;have C:=List.findIdx_lt_length_of_exists (p:=λb:cg=>decide (a<=b.id)) (xs:=r.bs) ⟨x,hx,by rw[cX,eq_of_beq he];exact Int.le_refl _⟩;omega
  obtain⟨D,A,ar,j⟩:=tb (c:=cg.c) (l:=r.bs) (n.b7 r i).src (λb _=>b.aX) (by decide) aJ;have j:aV ag (A.add (Int.toNat ((fK r.bs a:Nat):Int)*21)) 0 21=some (r.bs[fK r.bs a]).c:=by rw[d_];exact j
  refine⟨_,_,_,rfl,λhb=>(by cases hb),λ_=>⟨_,rfl,r.k,(g0 (n.sv r i)).2.2.2.2.2.2,A,ar,⟨J,J⟩,_,j,f.bX (by simp[cg.aX]) (cg.plain _),by simp[cg.aX],cA f (us:=(r.bs[fK r.bs a]).c) (by simp[cg.aX]) rfl λE t u _=>⟨_,t.rd (cg.aX _),Ext.bN (g.trans e) u (ba _),.inl ⟨r,i,rfl,aJ,hb,rfl⟩⟩⟩⟩
 .have f:=m.ext e
  exact⟨_,_,_,rfl,λ_=>⟨_,Oz ag,f.bX (by simp[cg.aX]) (cg.plain _),by simp[cg.aX],cA f (us:=cg.zero.c) (by simp[cg.aX]) rfl λF y z _=>⟨_,y.rd (cg.aX _),Ext.bN (g.trans e) z (ba _),.inr ⟨o,rfl⟩⟩⟩,λhb=>(by cases hb)⟩
section
variable {w w' w1:I}{s t ls:ae}{x bE i:Nat}
theorem OC(h:kQ w bE x s 251)(n:Nat):aC ai 74 #[.pointer (some bE),.int .u64 (n:Nat)] w (λv w'=>v=.tuple #[(2:Int),true]/\Ext w w'):=by
 have a:s.len=251:=by have:=h.o.1;rw[vJ]at this;omega
 refine okF (aa.xL (some bE) (n:Nat)) ao.xL func74 ?_;(delta aa.xL ah ay aR r1;dsimp only);refine cc (λb w'=>b=false/\w=w') (λk f=>⟨λh=>(by cases h),λ_=>⟨_,rfl,s,h.t.cell,f _ _ ⟨by rw[a];rfl,rfl⟩⟩⟩) ?_;rintro _ _ ⟨rfl,rfl⟩;have d:=b1 w;have c:=h.ext d;have g:n%251<251:=hZ _ (by decide);obtain⟨A,ar,hb,hc⟩:=c.o.src.at (N0 g);have e:Int.tmod (n:Int) (IntKind.wrap .u64 (s.len:Int))=((n%251:Nat):Int):=by
  rw[a,show IntKind.wrap .u64 ((251:Nat):Int)=((251:Nat):Int) from by decide];exact(Int.ofNat_tmod n 251).symm
 refine⟨λh=>(by cases h),λ_=>aO ⟨_,rfl,id,s,c.t.cell,_,rfl,id,s,c.t.cell,by rw[a];decide,A,ar,?_⟩⟩;rw[e];exact⟨hb,2,hc,λ_=>⟨rfl,d⟩,λh=>absurd h (by decide)⟩
theorem r6(w:I):aC ai 75 #[.int .u64 1,.agg bK.zero.c.toArray] w (λv w'=>v=.int .u64 14921627313678984130/\Ext w w'):=by
 refine okF (aa.r6 1 bK.zero.c.toArray) ao.r6 func75 ?_;(delta aa.r6 bC ad rR e5 r1 bn fq aZ;dsimp only);refine aN (vs:=bK.zero.c) rfl λw1 u x z=>?_;have l:=b1 w1;have d:=u.ext l;have e:=x.trans l;have aJ:w.heap.size<w1.drew.heap.size:=d.lt;refine aO ?_;generalize w1.drew=ag at d e aJ;have fin:∀ (b:I) (s1 s2:ae),Ext w b->Src 1 b s1 (ax [0,0,0,0])->Src 1 b s2 (ax [0])->aC ai 145 #[.int .u64 1,.slice (some b.heap.size) 2 2] (b.alloc (.cells #[s1,s2] 31)) (λv w'=>v=.int .u64 14921627313678984130/\Ext w w'):=λb s1 s2 hx h1 y=>by
  have f:=c5 b (.cells #[s1,s2] 31);have m:=qb (gO:=1) (ps:=[(s1,[0,0,0,0]),(s2,[0])]) (Src.new (T:=31) b [fV s1,fV s2] 2 rfl) (λp g=>by
   rcases cY.1 g with rfl|g
   .exact h1.ext f
   .rw[ej.1 g];exact y.ext f) (by show 5<=100000;decide) (by show 2<=100000;decide) (by decide)
  rw[show qZ 1 (cP [(s1,[0,0,0,0]),(s2,[0])])=14921627313678984130 from NL]at m;refine m.mono ?_;rintro _ _ ⟨rfl,rfl⟩;exact⟨rfl,hx.trans f⟩
 have r:IntKind.wrap .u8 0=0:=by decide
 refine⟨λq=>ag.heap.size<=q,by show¬ag.heap.size<=w.heap.size;omega,aH.zero.c,d.fE (o:=0) (n:=17) (by decide),by rw[qV];show¬ag.heap.size<=w.heap.size;omega,0,by rw[aw];exact d.cell,(jK aH.zero ag).use ?_,?_⟩
 .rintro _ h ⟨a,rfl,i,_,s,hf⟩
  rw[r];have j:=c5 h (.cells #[.int .u8 0] 5);refine⟨a,rfl,af.bL s,aO ⟨af.bL j,aO ⟨af.bL (c5 _ _),(fin _ a ⟨some h.heap.size,1,1⟩ ((e.trans s).trans j) (i.src.ext j) (Src.new h (ax [0]) 1 rfl)).use ?_⟩⟩⟩;rintro _ A ⟨rfl,hx⟩;exact⟨_,rfl,rfl,hx⟩
 .rw[r]
  have t:=c5 ag (.cells #[.int .u8 0] 5);refine aO ⟨af.bL t,(jK aH.zero _).use ?_⟩;rintro _ B ⟨a,rfl,i,_,k,hf⟩;refine⟨a,rfl,af.bL k,aO ⟨af.bL (c5 _ _),(fin _ a ⟨some ag.heap.size,1,1⟩ ((e.trans t).trans k) i.src ((Src.new ag (ax [0]) 1 rfl).ext k)).use ?_⟩⟩;rintro _ C ⟨rfl,hx⟩;exact⟨_,rfl,rfl,hx⟩
theorem uZ(n:Int)(w:I):aC ai 213 #[n] w (λv w'=>v=.bool (tp n)/\w=w'):=by
 refine okF (aa.uZ n) ao.uZ func213 ?_;exact⟨rfl,rfl⟩
theorem Ab(b:Src 2 w ls [(2:Int),(1:Int)]):ls.len=1/\∃A,ls.a=some A/\w.cell? (A.add (Int.toNat 0*2))=some (.int .i64 2)/\w.cell? ((A.add (Int.toNat 0*2)).add 1)=some (.int .i64 1):=by
 have e:ls.len=1:=by have:=b.len;simp at this;omega
 obtain⟨_,A,ar,d⟩:=tb (c:=λp:O Y=>p) (l:=[[(2:Int),(1:Int)]]) b (λp f=>by rw[ej.1 f];rfl) (by decide) (i:=0) (by decide);have jQ:=oH d (j:=0) (v:=.int .i64 2) rfl;have aA:=oH d (j:=1) (v:=.int .i64 1) rfl;rw[kT,add_zero']at jQ;rw[cz]at aA;exact⟨e,A,ar,jQ,aA⟩
theorem sh(g:Src 2 w ls [(2:Int),(1:Int)]):aC ai 140 #[ls] w (λv w'=>v=true/\Ext w w'):=by
 have p:=(Ab g).1;refine okF (aa.sh ls) ao.sh func140 ?_;(delta aa.sh dj ah bl bq r1 bw rS bH ad bC bF bh al e5;dsimp only);refine⟨λn w'=>(n=0\/n=1)/\Ext w w',λn _=>((1:Int)-n).toNat,⟨.inl rfl,.refl _ _⟩,?_⟩;rintro _ i ⟨rfl|rfl,c⟩
 rotate_left
 .refine⟨λaJ=>absurd (b8 aJ) J,λ_=>⟨?_,c⟩⟩
  rw[p];rfl
 refine⟨λ_=>?_,λq=>absurd (cL q) J⟩;obtain⟨_,A,ar,jQ,aA⟩:=Ab (g.ext c);refine⟨A,ar,⟨J,J⟩,2,jQ,1,aA,aN (vs:=[(0:Int),(0:Int)]) rfl λx j r _=>⟨j.bX rfl (dN eu (dN eu lA)),rfl,cA j (us:=[(2:Int),(1:Int)]) rfl rfl λd s t _=>?_⟩⟩;have u:Ext i d:=Ext.bN r t (ba _);have l:=b1 d;have e:=s.ext l;have m:=(c.trans u).trans l;refine aO ?_;generalize d.drew=a at e m;refine⟨λ_=>False,id,2,e.cell,(uZ 2 a).use ?_⟩;rintro _ _ ⟨rfl,rfl⟩;have o:a.cell? (Addr.add i.heap.size 1)=some (.int .i64 1):=by rw[aw];exact e.cell
 refine⟨_,rfl,λ_=>False,λh=>absurd h (by decide),λ_=>⟨λh=>absurd (b8 h) J,λ_=>cc (λb w'=>b=false/\a=w') (λk f=>⟨λh=>(by cases h),λ_=>⟨1,o,f _ _ ⟨by decide,rfl⟩⟩⟩) ?_⟩⟩;rintro _ _ ⟨rfl,rfl⟩;refine cc (λb w'=>b=false/\a=w') (λk f=>⟨λh=>(by cases h),λ_=>⟨1,o,f _ _ ⟨by decide,rfl⟩⟩⟩) ?_;rintro _ _ ⟨rfl,rfl⟩;exact⟨λh=>(by cases h),λ_=>⟨⟨.inr (by decide),m⟩,by show((1:Int)-IntKind.wrap .i64 (0+1)).toNat<((1:Int)-0).toNat;decide⟩⟩
theorem OD(w:I):aC ai 214 #[.int .u64 1,.int .u64 251] w (λv w'=>v=.tuple #[.int .u64 0,.int .u64 251]/\w=w'):=by
 have h:aC ai 276 #[.int .u64 1,.int .u64 251] w (λv w'=>v=.tuple #[.int .u64 0,.int .u64 251]/\w=w'):=by
  refine okF (aa.xp 1 251) ao.xp func276 ?_;unfold aa.xp;exact⟨by decide,by decide,by decide,by decide,by decide,by kernel_rfl,rfl⟩
 refine okF (aa.xo 1 251) ao.xo func214 ?_;(delta aa.xo ah Ey aZ w3;dsimp only);refine⟨λh=>(by cases h),λ_=>h.use ?_⟩;rintro _ _ ⟨rfl,rfl⟩;exact⟨_,_,rfl,rfl,rfl⟩
end
structure gS where
 src:aH
 dst:aH
 sp:Int
 dp:Int
 HH:Int
 deriving DecidableEq
def gS.c(f:gS):O Y:=f.src.c++(f.dst.c++ [.int .u16 f.sp,.int .u16 f.dp,.int .u8 f.HH])
def HI:O c4:=(.bool::nT 16)++((.bool::nT 16)++ [.int .u16,.int .u16,.int .u8])
theorem gS.aX(f:gS):f.c.length=37:=by simp[gS.c,aH.aX]
theorem gS.plain(f:gS):∀v∈f.c,Plain v:=l3 (aH.plain _) (l3 (aH.plain _) (dN eu (dN eu (dN eu lA))))
theorem gS.m7{a b:gS}(h:a.c=b.c):a=b:=by
 simp only[gS.c]at h;obtain⟨h1,e⟩:=List.append_inj h (by simp[aH.aX]);obtain⟨d,f⟩:=List.append_inj e (by simp[aH.aX]);have h1:=aH.m7 h1;have d:=aH.m7 d
 cases a;cases b
 simp_all
theorem gS.ed(f:gS):aQ.ed HI f.c:=um f.src.ed (um f.dst.ed ⟨_,_,rfl,⟨_,rfl⟩,_,_,rfl,⟨_,rfl⟩,_,_,rfl,⟨_,rfl⟩,rfl⟩)
theorem OE(a b:gS):j1 ai 30 a.c.toArray b.c.toArray (decide (a=b)):=by
 have h:=j1.flat (P:=ai) (T:=30) (d:=(Tryz.prog.underlying 30).get (by kernel_rfl)) (ls:=HI) (mc _).symm (by kernel_rfl) (by kernel_rfl) (by kernel_rfl) a.ed b.ed;have e:fN a.c b.c=decide (a=b):=by
  rw[fL,uo a.ed b.ed,cX];exact⟨gS.m7,λh=>by rw[h]⟩
 rwa[e]at h
theorem aH.bare(a:aH):∀v∈a.c,pB v:=by
 intro v b;rcases cY.1 b with rfl|b
 .trivial
 .exact Hz _ v b
theorem gS.bare(f:gS):∀v∈f.c,pB v:=by
 intro v a;rcases cS.1 a with a|a
 .exact aH.bare _ v a
 .rcases cS.1 a with a|a
  .exact aH.bare _ v a
  .simp only[cY,fC,fM]at a
   rcases a with rfl|rfl|rfl<;>trivial
theorem OF(b:aj)(f:gS)(w:I):(Instr.checkKey b 10000 30 (.agg f.c.toArray)).run ai w=.ok () w:=by
 obtain⟨⟨eg,l,h⟩,⟨e,a,d⟩,sp,dp,HH⟩:=f;obtain⟨g,i,j,k,m,n,o,p,q,r,s,t,u,v,x,y,rfl⟩:=o5 l h;obtain⟨z,A,B,C,D,E,F,G,H,J,K,L,M,N,O,P,rfl⟩:=o5 a d
 kernel_rfl
abbrev vO:gS->Y:=λf=>.agg f.c.toArray
theorem tv:jf ai 30 vO:=
 jf.agg (d:=(Tryz.prog.underlying 30).get (by kernel_rfl)) (mc _).symm (by kernel_rfl) (λa b w=>(OE a b).2 w) OF (λf=>Hy 9999 f.c f.bare)
theorem vP:Tryz.prog.underlying 157=some (.map 30 93):=by kernel_rfl
theorem HJ:Tryz.prog.underlying 158=some (.map 30 30):=by kernel_rfl
def e3:O Y:=.int .i64 0:: .int .i64 0::(aH.zero.c++ [.int .u16 0,.int .i64 0,.int .u64 0])
theorem mP:∀v∈e3,Plain v:=dN eu (dN eu (l3 (aH.plain _) (dN eu (dN eu (dN eu lA)))))
theorem C_:(Tryz.prog.info? 93).bind (·.zero)=some (.agg e3.toArray):=by kernel_rfl
theorem HK:(Tryz.prog.info? 30).bind (·.zero)=some (.agg mN.toArray):=by kernel_rfl
structure kp(w:I)(b m1 m2 most:Nat)(bp bM:O (gS×Y)):Prop where
 v:Var w b [most,.map (some m1),.map (some m2)] 160
 bW:dc w m1 vO bp
 b9:dc w m2 vO bM
 n:m1≠m2
section
variable {w w' w1:I}{b m1 m2 most:Nat}{bp bM:O (gS×Y)}
theorem kp.ak{W:Nat->Prop}(h:kp w b m1 m2 most bp bM)(hc:af W w w')(a:¬W b/\¬W m1/\¬W m2):kp w' b m1 m2 most bp bM:=⟨h.v.ak hc a.1,h.bW.ak hc a.2.1,h.b9.ak hc a.2.2,h.n⟩
theorem kp.ext(h:kp w b m1 m2 most bp bM)(hx:Ext w w'):kp w' b m1 m2 most bp bM:=h.ak hx ⟨id,id,id⟩
theorem nN(hm:1<=most/\most<=4096)(w:I):aC ai 47 #[most] w (λv w'=>∃b m1 m2:Nat,v=.tuple #[.pointer (some b),(0:Int)]/\kp w' b m1 m2 most [] []/\Ext w w'/\w.heap.size<=b/\w.heap.size<=m1/\w.heap.size<=m2):=by
 refine okF (aa.nN (most:Nat)) ao.nN func47 ?_;delta aa.nN ah ad;obtain⟨aA,e⟩:=dc.make (P:=ai) (enc:=vO) 157 w;obtain⟨f,g⟩:=dc.make (P:=ai) (enc:=vO) 158 (w.alloc (.map #[] 0));have a:Ext w (w.alloc (.map #[] 0)):=c5 _ _;have c:Ext (w.alloc (.map #[] 0)) ((w.alloc (.map #[] 0)).alloc (.map #[] 0)):=c5 _ _;have hs:=na w (.map #[] 0);refine⟨λh=>?_,λ_=>⟨some w.heap.size,_,aA,some (w.alloc (.map #[] 0)).heap.size,_,f,aN (vs:=[most,.map (some w.heap.size),.map (some (w.alloc (.map #[] 0)).heap.size)]) rfl λaF i d j=>⟨_,_,_,rfl,⟨i,(e.ext c).ext d,g.ext d,J⟩,(a.trans c).trans d,(a.trans c).size,ba _,a.size⟩⟩⟩;rw[im J,im J]at h
 cases h
theorem OG{m:Int}(h:(decide (m<1)||decide (m>4096))=true)(w:I):aC ai 47 #[m] w (λv w'=>v=.tuple #[.pointer none,(1:Int)]/\w=w'):=by
 refine okF (aa.nN m) ao.nN func47 ?_;delta aa.nN ah ad;exact⟨λ_=>⟨rfl,rfl⟩,λhb=>by rw[h]at hb;cases hb⟩
theorem OH(h:kp w b m1 m2 most [] bM)(f:gS)(now:Nat):aC ai 58 #[.pointer (some ⟨b,0,none⟩),.agg f.c.toArray,.int .u64 (now:Nat)] w (λv w'=>v=.tuple #[.agg e3.toArray,.bool false]/\Ext w w'):=by
 refine okF (aa.xD (some ⟨b,0,none⟩) f.c.toArray (now:Nat)) ao.xD func58 ?_;(delta aa.xD z9 ah ad bC ay dJ dC;dsimp only);refine aN (vs:=f.c) rfl λw1 B d _=>aN (vs:=e3) (by kernel_rfl) λag C g _=>⟨λh=>(by cases h),λ_=>?_⟩;have e:=b1 ag;have j:=((h.ext d).ext g).ext e;have p:=(B.ext g).ext e;have l:=C.ext e;have m:=(d.trans g).trans e;refine aO ?_;generalize ag.drew=a at j p l m;obtain⟨i,hi,D⟩:=og C_;have q:∀w',Ext a w'->Sem.run ai (Instr.lookup 157 (.map (some m1)) (.agg f.c.toArray) true) w'=.ok (.tuple #[.agg e3.toArray,.bool false]) w':=λw' hx=>(j.bW.ext hx).oL tv vP (k:=f) hi D (λv E=>(by cases E)) true;refine⟨λ_=>False,_,rfl,id,some m1,by rw[aw];exact j.v.cell,id,f.c,p.rd f.aX,⟨e3.toArray,false,a,q a (.refl _ _),.refl _ _,aN (vs:=e3) (by kernel_rfl) λJ r s _=>⟨af.bL s,r.bX (by simp) (by simpa using mP),by rfl,cA r (us:=e3) (by simp) rfl λt K F _=>cc (λb w'=>b=true/\t=w') (λk n=>⟨λ_=>n _ _ ⟨rfl,rfl⟩,λh=>(by cases h)⟩) ?_⟩⟩,aN (vs:=e3) (by kernel_rfl) λu x o _=>⟨af.bL o,e3.toArray,false,u,q u o,x.bX (by simp) (by simpa using mP),by rfl,cA x (us:=e3) (by simp) rfl λy L G _=>cc (λb w'=>b=true/\y=w') (λk n=>⟨λ_=>n _ _ ⟨rfl,rfl⟩,λh=>(by cases h)⟩) ?_⟩⟩
 .rintro _ _ ⟨rfl,rfl⟩
  have z:Ext a t:=Ext.bN s F (ba _);exact⟨λ_=>⟨e3.toArray,by kernel_rfl,q0 (l.ext z) (by rfl) (by rfl) mP λM _ H=>⟨rfl,Ext.bN (m.trans z) H d.size⟩⟩,λh=>(by cases h)⟩
 .rintro _ _ ⟨rfl,rfl⟩
  have A:Ext a y:=Ext.bN o G (ba _);exact⟨λ_=>⟨e3.toArray,by kernel_rfl,q0 (l.ext A) (by rfl) (by rfl) mP λcC _ I=>⟨rfl,Ext.bN (m.trans A) I d.size⟩⟩,λh=>(by cases h)⟩
end
abbrev HL:Int×Int->Y:=λp=>.agg #[p.1,p.2]
theorem OI:Tryz.prog.underlying 195=some (.map 197 199):=by kernel_rfl
structure l7(w:I)(b m:Nat)(du iJ:Int):Prop where
 v:Var w b [du,iJ,.map (some m)] 201
 k:dc w m HL []
section
variable {w w' w1:I}{b m:Nat}{du iJ:Int}{bR:kR}{R:O Rec}{r:Rec}
theorem l7.ak{W:Nat->Prop}(h:l7 w b m du iJ)(hc:af W w w')(a:¬W b/\¬W m):l7 w' b m du iJ:=⟨h.v.ak hc a.1,h.k.ak hc a.2⟩
theorem l7.ext(h:l7 w b m du iJ)(hx:Ext w w'):l7 w' b m du iJ:=h.ak hx ⟨id,id⟩
def iC(n:Int):aj:=decide (n>=1)&&decide (n<=100)
theorem r9(n:Int)(w:I):aC ai 99 #[n] w (λv w'=>v=.bool (iC n)/\w=w'):=by
 refine okF (aa.r9 n) ao.r9 func99 ?_;exact⟨rfl,rfl⟩
theorem r3(du iJ:Int)(w:I):aC ai 48 #[du,iJ] w (λv w'=>Ext w w'/\(((iC du&&iC iJ)=false/\v=.tuple #[.pointer none,(1:Int)])\/((iC du&&iC iJ)=true/\∃b m:Nat,v=.tuple #[.pointer (some b),(0:Int)]/\l7 w' b m du iJ/\w.heap.size<=b/\w.heap.size<=m))):=by
 refine okF (aa.r3 du iJ) ao.r3 func48 ?_;(delta aa.r3 bF ah ad;dsimp only);refine(r9 du w).use ?_;rintro _ _ ⟨rfl,rfl⟩;refine⟨_,rfl,cc (λc w'=>c= !(iC du&&iC iJ)/\w=w') (λk a=>⟨λhb=>a _ _ ⟨?_,rfl⟩,λhb=>(r9 iJ w).use ?_⟩) ?_⟩
 .have:iC du=false:=by simpa using hb
  rw[this];rfl
 .rintro _ _ ⟨rfl,rfl⟩
  have:iC du=true:=by simpa using hb
  exact⟨_,rfl,a _ _ ⟨by rw[this];rfl,rfl⟩⟩
 rintro _ _ ⟨rfl,rfl⟩;obtain⟨aA,e⟩:=dc.make (P:=ai) (enc:=HL) 195 w;have d:Ext w (w.alloc (.map #[] 0)):=c5 _ _;refine⟨λhb=>⟨.refl _ _,.inl ⟨by rw[kr]at hb;exact hb,rfl⟩⟩,λhb=>⟨some w.heap.size,_,aA,aN (vs:=[du,iJ,.map (some w.heap.size)]) rfl λg f hx h=>⟨d.trans hx,.inr ⟨by rw[nx]at hb;exact hb,_,_,rfl,⟨f,e.ext hx⟩,d.size,ba _⟩⟩⟩⟩
theorem OJ(h:l7 w b m du iJ)(sv:Int):aC ai 72 #[.pointer (some b),sv] w (λv w'=>v=()/\Ext w w'):=by
 refine okF (aa.xK (some b) sv) ao.xK func72 ?_;(delta aa.xK ah ay EF A6 A7 bH ad r1 aS bh ap eM;dsimp only);refine⟨λh=>(by cases h),λ_=>⟨_,rfl,some m,by rw[aw];exact h.v.cell,?_⟩⟩;obtain⟨L,a,d,e,f,g,o⟩:=ly.begin h.k OI;have i:L=[]:=by
  have:=d.length_eq;rw[dU]at this;exact Al this
 subst i;refine⟨_,a,e,λs w'=>s=⟨none,0,0⟩/\a=w',λ_ _=>0,⟨rfl,rfl⟩,?_⟩;rintro _ _ ⟨rfl,rfl⟩;have j:w.heap.size≠m:=by have:=h.k.lt;omega
 rcases f.next j 0 with ⟨_,c,l,n,_⟩|⟨x,hx,_⟩
 .refine .inr ⟨c,l,λh=>(by cases h),λ_=>(F3 (s:=⟨none,0,0⟩) (zs:=[]) (aT.none 1 3 c) (by simp)).use ?_⟩
  rintro _ p ⟨rfl,hc,_⟩;exact⟨rfl,rfl,(g.trans n).trans (hc.mono λq _ h=>(gU q h).elim)⟩
 .cases hx
theorem OK:iG ai 179 269 2 16:=⟨by kernel_rfl⟩
theorem OL(h:eX w bR R)(d:r∈R){a:aH}{p:Int}(m:r.bs=[⟨2,a,p,1,false⟩]):aC ai 71 #[.pointer (some bR.p),r.s.id,()] w (λv w'=>∃t:ae,v=t/\aT 2 269 w' t [(2:Int),(1:Int)]/\Ext w w'/\∀q,aB t q->w.heap.size<=q):=by
 refine okF (aa.xJ (some bR.p) r.s.id ⟨none,0,0⟩) ao.xJ func71 ?_;(delta aa.xJ ah ay aR mu k9 bq w2 ad m4 fb aS r1 bF bh ap al;dsimp only);obtain⟨z,C,D⟩:=h.look r.s.id;have E:jW R r.s.id=true:=vN.2 ⟨r,d,rfl⟩;have O:r.k.len=1:=by
  have:=(h.b7 r d).1;rw[m,vL]at this;simp at this;omega
 refine⟨λh=>(by cases h),λ_=>⟨_,rfl,_,h.cells.1,z,_,w,C,λhb=>(by rw[E]at hb;cases hb),λ_=>⟨_,D r d rfl,r.k,(g0 (h.sv r d)).2.2.2.2.2.2,λs n w'=>(n=0/\s=⟨none,0,0⟩/\Ext w w')\/(n=1/\lV 2 269 w w' s [(2:Int),(1:Int)]),λ_ n _=>((1:Int)-n).toNat,.inl ⟨rfl,rfl,.refl _ _⟩,?_⟩⟩⟩;rintro s _ P (⟨rfl,rfl,u⟩|⟨rfl,hf⟩)
 rotate_left
 .exact⟨λaJ=>absurd (b8 aJ) J,λ_=>⟨s,rfl,hf.o,hf.x,hf.f⟩⟩
 refine⟨λ_=>?_,λF=>absurd (cL F) J⟩;have y:=(h.ext u).b7 r d;rw[m]at y;obtain⟨_,A,ar,G⟩:=tb (c:=cg.c) (l:=[⟨2,a,p,1,false⟩]) y.src (λb _=>b.aX) (by decide) (i:=0) (by show 0<1;decide);refine cc (λs w'=>lV 2 269 w w' s [(2:Int),(1:Int)]) (λk H=>⟨A,ar,⟨J,J⟩,_,G,pz (us:=cg.c ⟨2,a,p,1,false⟩) (by rfl) (cg.aX _) (cg.plain _) λe g I=>⟨false,(nm g).2.2.2.2,cc (λb w'=>b=true/\e=w') (λb9 K=>⟨λ_=>⟨2,(nm g).1,(MJ (s:=⟨none,0,0⟩) (ds:=[]) (B:=λ_=>True) ⟨(aT.none 1 3 e).src,ba _,λq j=>(gU q j).elim⟩ 2 (by simp)).use ?_⟩,λh=>(by cases h)⟩) ?_⟩⟩) ?_
 .rintro _ _ ⟨rfl,rfl⟩
  exact⟨_,rfl,K _ _ ⟨rfl,rfl⟩⟩
 .rintro _ _ ⟨rfl,rfl⟩
  refine⟨λ_=>⟨2,(nm g).1,1,(nm g).2.2.2.1,aO ?_⟩,λh=>(by cases h)⟩;have L:=c5 e (.cells #[(2:Int),(1:Int)] 269);have f0:lV 2 269 w (e.alloc (.cells #[(2:Int),(1:Int)] 269)) ⟨none,0,0⟩ []:=⟨aT.none _ _ _,(u.trans I).trans L,λq j=>(gU q j).elim⟩;obtain⟨t,M,aG,_,N,_⟩:=lV.app (df:=179) OK f0 (Src.new (T:=269) e [(2:Int),(1:Int)] 1 rfl) (dN eu (dN eu lA)) (by show(2*(0+1)+1000)*16<=281474976710656;decide);exact⟨t,M,aG,H _ _ N⟩
 .rintro t Q hf
  exact⟨.inr ⟨by decide,hf⟩,by show((1:Int)-IntKind.wrap .i64 (0+1)).toNat<((1:Int)-0).toNat;decide⟩
end
def iD(m:Nat):O Y:=List.replicate m (.int .i64 (-1))++List.replicate (251-m) (.int .i64 0)
theorem Da{m:Nat}(h:m<=251):(iD m).length=251:=by unfold iD;simp;omega
theorem OM{m n:Nat}(h:m+n<=251):(iD m).take m++List.replicate n (.int .i64 (-1))++(iD m).drop (m+n)=iD (m+n):=by
 unfold iD;rw[oA (by simp),List.drop_append,List.drop_eq_nil_of_le (by simp),kU,mg,List.drop_replicate,List.replicate_append_replicate]
 congr 2
 omega
theorem ON:iD 251=mO 0:=by kernel_rfl
theorem OO:hL ai 3 251=(iD 0).toArray:=by kernel_rfl
section
variable {w w' w1:I}{b m n:Nat}{x:ae}
theorem HM(c:Var w b (iD m) 3)(hm:m+n<=251){dl j6:Nat}(g:Nat.min x.len dl=n)(hx:Src 1 w ⟨x.a,n,x.cap⟩ (List.replicate n (.int .i64 (-1)))):
 ∃w',Sem.run ai (Builtin.copy_ #[181,181] 3 #[.slice (some ⟨b,m,none⟩) dl j6,x]) w=.ok n w'/\Var w' b (iD (m+n)) 3/\af (λq=>q=b) w w':=by
 have f:=Da (m:=m) J;have i:b_ w ⟨b,m,none⟩ (List.replicate n (.int .i64 (-1))):=bc.bX c m _ (by simp[f];omega) (λv h=>by rw[(List.mem_replicate.1 h).2];trivial);refine⟨_,nH (e:=3) (d:=(Tryz.prog.underlying 3).get (by kernel_rfl)) (sz:=1) (by kernel_rfl) (mc _).symm (by kernel_rfl) g hx i,?_,af.iV (.refl _ _) _ 0⟩;have h:=bc.pU (List.replicate n (.int .i64 (-1))) m 0 c;rw[kT]at h;have e:gE (iD m).toArray m (List.replicate n (.int .i64 (-1)))=(iD (m+n)).toArray:=by
  have:=j5 (List.replicate n (.int .i64 (-1))) (iD m).toArray m (by simp[f];omega);rw[mg]at this;apply tE.1;rw[this];exact OM hm
 rw[e]at h;exact h
theorem OP(hx:Src 1 w x [.int .i64 (-1)]):aC ai 142 #[.slice x.a x.len x.cap,.int .i64 251] w (λv w'=>∃t:ae,v=.slice t.a t.len t.cap/\aT 1 3 w' t (mO 0)/\Ext w w'/\∀q,aB t q->w.heap.size<=q):=by
 have b:x.len=1:=by have:=hx.len;simp at this;omega
 refine okF (aa.xk x 251) ao.xk func142 ?_;(delta aa.xk ah w3 aZ j7 al ad dj bC;dsimp only);refine k3 (λw'=>w=w') (λk d=>⟨λh=>(by cases h),λ_=>d _ rfl⟩) ?_;rintro _ rfl;have j:=OD w;rw[show(1:Int)=IntKind.wrap .u64 ((x.len:Nat):Int) from by rw[b];decide,show(.int .u64 251:Y)=.int .u64 (IntKind.wrap .u64 251) from by rw[show IntKind.wrap .u64 251=251 from by decide]]at j;refine j.use ?_;rintro _ _ ⟨rfl,rfl⟩;rw[show IntKind.wrap .u64 251=251 from by decide];have D:IntKind.wrap .i64 251=251:=by decide
 refine⟨_,_,rfl,k3 (λw'=>w=w') (λk d=>⟨λh=>(by cases h),λ_=>d _ rfl⟩) ?_⟩;rintro _ rfl;rw[D];refine⟨by decide,?_⟩;show an (w.alloc (.cells (hL ai 3 251) 3)) _;rw[OO];refine aN (vs:=iD 0) rfl λp E r U=>?_;have F:Src 1 p ⟨x.a,1,x.cap⟩ (List.replicate 1 (.int .i64 (-1))):=by
  have h:=hx.ext r;obtain⟨a,l,c⟩:=x;dsimp only at b h⊢;subst b;exact h
 obtain⟨G,H,I,K⟩:=HM (n:=1) (x:=x) E (by decide) (dl:=251) (j6:=251) (by rw[b];rfl) F;refine⟨_,G,H,λn w'=>∃m:Nat,n=(m:Int)/\1<=m/\m<=251/\Var w' w.heap.size (iD m) 3/\af (λq=>q=w.heap.size) p w',λn _=>((251:Int)-n).toNat,⟨1,rfl,ba _,by decide,I,K⟩,?_⟩;rintro _ s ⟨m,rfl,V,hm,u,y⟩;refine⟨λaJ=>?_,λL=>?_⟩
 .have X:m<251:=by have:=b8 aJ;omega
  have z:=b1 s;have f:=u.ext z;have A:=y.trans (af.bL (W:=λq=>q=w.heap.size) z);refine aO ?_;generalize s.drew=B at f A;obtain⟨n,C⟩:∃n,n=Nat.min m (251-m):=⟨_,rfl⟩;have g:1<=n/\n<=m/\m+n<=251:=by rw[C];show 1<=min m (251-m)/\min m (251-m)<=m/\m+min m (251-m)<=251;omega
  have M:Src 1 B ⟨some ⟨w.heap.size,0,none⟩,n,251-0⟩ (List.replicate n (.int .i64 (-1))):=by
   refine⟨by simp,λh=>(by cases h),λa N=>?_⟩
   cases N;have e:(iD m).take n=List.replicate n (.int .i64 (-1)):=by
    unfold iD;rw[kZ (by rw[mg];omega),List.take_replicate,iS g.2.1]
   rw[gd,f.fE (o:=0) (n:=n) (by rw[Da hm];omega),kx,e]
  obtain⟨O,P,Q,R⟩:=HM (x:=⟨some ⟨w.heap.size,0,none⟩,m-0,251-0⟩) f g.2.2 (dl:=251-m) (j6:=251-m) (by rw[C];rfl) M;have aG:aW (some ⟨w.heap.size,0,none⟩) 1 m 251=some ⟨w.heap.size,m,none⟩:=by
   unfold aW;rw[if_neg J];show some (Addr.add ⟨w.heap.size,0,none⟩ (m*1))=_;rw[aw,gd,cz]
  have aM:aW (some ⟨w.heap.size,0,none⟩) 1 0 251=some ⟨w.heap.size,0,none⟩:=by
   unfold aW;rw[if_neg (by decide)];rfl
  rw[d_];show ∃Z:Nat->Prop,_;refine⟨λ_=>False,⟨J,by show(m:Int)<=251;omega⟩,⟨J,by show(m:Int)<=251;omega⟩,(n:Nat),O,?_,?_⟩
  .show Sem.run ai (Builtin.copy_ #[181,181] 3 #[.slice (aW (some ⟨w.heap.size,0,none⟩) 1 m 251) (251-m) (251-m),.slice (aW (some ⟨w.heap.size,0,none⟩) 1 0 251) (m-0) (251-0)]) B=_
   rw[aG,aM];exact P
  .have S:IntKind.wrap .i64 ((m:Int)+(n:Int))=((m+n:Nat):Int):=by rw[bT J J];omega
   rw[S];exact⟨⟨m+n,rfl,J,g.2.2,Q,A.trans R⟩,by show((251:Int)-((m+n:Nat):Int)).toNat<((251:Int)-(m:Nat)).toNat;omega⟩
 .obtain rfl:m=251:=by have:=cL L;simp at this;omega
  have i:=Da (m:=251) (by decide);refine⟨⟨some ⟨w.heap.size,0,none⟩,251,251⟩,rfl,?_,Ext.bN r y (ba _),λq T=>by have:=Nr T;omega⟩;rw[←ON];exact⟨by show(iD 251).length=251*1;rw[i],ba _,by show 251<=maxLen;decide,.inr ⟨_,_,rfl,u,by simp[i],by show List.take (251*1) (iD 251)=iD 251;rw[ey (by rw[i];decide)]⟩⟩
end
theorem OQ:iG ai 275 276 1 8:=⟨by kernel_rfl⟩
section
variable {w w' w1:I}{ls:ae}
theorem r5(g:Src 2 w ls [(2:Int),(1:Int)])(z:∀q,aB ls q->q<w.heap.size):aC ai 73 #[ls,(251:Int),.int .u64 1] w (λv w'=>∃ (bE x:Nat) (s:ae),v=.tuple #[.pointer (some bE),(0:Int)]/\kQ w' bE x s 251/\Ext w w'):=by
 have av:=(Ab g).1;refine okF (aa.r5 ls 251 1) ao.r5 func73 ?_;(delta aa.r5 bF ah bn ad w6 bl bq r1 bw rS bH g7 aZ ap bh al eM;dsimp only);refine(sh g).use ?_;rintro _ w1 ⟨rfl,B⟩;refine⟨_,rfl,cc (λb w'=>b=false/\w1=w') (λk R=>⟨λh=>(by cases h),λ_=>(si w1).use ?_⟩) ?_⟩
 .rintro _ _ ⟨rfl,rfl⟩
  exact⟨_,rfl,R _ _ ⟨rfl,rfl⟩⟩
 rintro _ _ ⟨rfl,rfl⟩;refine⟨λh=>(by cases h),λ_=>aO ?_⟩;have C:=c5 w1 (.cells #[.int .i64 (-1)] 3);refine(OP (x:=⟨some w1.heap.size,1,1⟩) (Src.new (T:=3) w1 [.int .i64 (-1)] 1 rfl)).use ?_;rintro _ D ⟨s,rfl,E,S,U⟩;have i:=(B.trans C).trans S;have ax:=i.size;refine⟨s,rfl,aN (vs:=[s]) rfl λj F l ay=>?_⟩;refine⟨λy n m w'=>(m=0/\y=⟨none,0,0⟩/\n=0/\Ext j w')\/(m=1/\n=1/\∃x:Nat,j.heap.size<=x/\Var w' x [.int .i64 ((ju 0:Nat):Int),.int .i64 ((173:Nat):Int),.int .i64 ((251:Nat):Int)] 364/\lV 1 276 j w' y [.pointer (some x)]),λ_ _ m _=>((1:Int)-m).toNat,.inl ⟨rfl,rfl,rfl,.refl _ _⟩,?_⟩;rintro y _ _ G (⟨rfl,rfl,rfl,r⟩|⟨rfl,rfl,x,V,H,d⟩)
 .refine⟨λ_=>?_,λW=>absurd (cL W) J⟩
  obtain⟨_,A,ar,jQ,aA⟩:=Ab (((g.ext i).ext l).ext r);refine⟨A,ar,⟨J,J⟩,2,jQ,1,aA,aN (vs:=[(0:Int),(0:Int)]) rfl λaz I X _=>⟨I.bX rfl (dN eu (dN eu lA)),rfl,cA I (us:=[(2:Int),(1:Int)]) rfl rfl λK L Y _=>⟨2,L.cell,(sj K).use ?_⟩⟩⟩;have M:Ext G K:=Ext.bN X Y (ba _);rintro _ p ⟨x,rfl,Z,N,V⟩;refine⟨_,rfl,aO ?_⟩;have ab:=(r.trans M).trans N;have O:=c5 p (.cells #[.pointer (some x)] 276);have f0:lV 1 276 j (p.alloc (.cells #[.pointer (some x)] 276)) ⟨none,0,0⟩ []:=⟨aT.none _ _ _,ab.trans O,λq a=>(gU q a).elim⟩;obtain⟨t,P,aG,_,ac,_,af,_⟩:=lV.app (df:=275) OQ f0 (Src.new (T:=276) p [.pointer (some x)] 1 rfl) (λv ag=>by rw[ej.1 ag];trivial) (by show(2*(0+1)+1000)*8<=281474976710656;decide);have Q:Ext p P:=O.trans (af.mono λq _ h=>(gU q h).elim);have aD:=(r.trans M).size;refine⟨t,P,aG,1,by rw[aw];exact((L.ext N).ext Q).cell,.inr ⟨by decide,by decide,x,J,Z.ext Q,ac⟩,by show((1:Int)-IntKind.wrap .i64 (0+1)).toNat<((1:Int)-0).toNat;decide⟩
 .refine⟨λaJ=>absurd (b8 aJ) J,λ_=>⟨λh=>(by cases h),λ_=>?_⟩⟩
  have aj:=F.ext d.x;have ak:=(E.ext l).ext d.x;have aE:=F.lt;have u:∀q,aB s q->w.heap.size<=q/\q<D.heap.size:=λq a=>⟨dQ (B.trans C).size (U q a),E.lt q a⟩;have am:kQ G D.heap.size x s 0:=⟨aj,H,ak,J⟩;refine(N2 am (((g.ext i).ext l).ext d.x) d.o.src (λq a=>⟨by have:=z q a;omega,λh=>by have:=z q a;have:=(u q h).1;omega⟩) (λq a=>⟨λe=>?_,λh=>by have:=d.f q a;have:=(u q h).2;omega⟩)).use ?_
  .obtain⟨c,an⟩:=aT.block d.o a
   subst e;exact absurd (bc.inj an H).2 (by decide)
  rintro _ aF ⟨rfl,aq,au⟩;exact⟨rfl,_,x,s,rfl,aq,Ext.ee ((i.trans l).trans d.x) au λq a=>a.elim (λe=>J) λh=>(u q h).1⟩
end
theorem HN(z:Int):∃m:Nat,IntKind.wrap .u64 z=(m:Int)/\m<18446744073709551616:=by
 rw[AT];exact⟨(z%18446744073709551616).toNat,J,J⟩
section
variable {w w' w1:I}{s t o y:ae}{l k:O UInt8}{a rb:Nat}
theorem OR{k:O UInt8}(h:aT 1 5 w s (ax l))(d:Src 1 w t (ax k))(h1:1<=k.length)(r:a+k.length<=l.length):
 ∃w':I,Sem.run ai (Builtin.copy_ #[31,31] 3 #[.slice (aW s.a 1 a s.cap) (s.len-a) (s.cap-a),t]) w=.ok t.len w'/\aT 1 5 w' s (ax (l.take a++k++l.drop (a+k.length)))/\af (aB s) w w':=by
 have u:=iM h;have v:=len8 d;obtain⟨js,i,j,⟨x,y⟩|⟨b,c,hb,f,m,ht⟩⟩:=h
 .omega
 rw[gd]at m ht;have n:aW s.a 1 a s.cap=some ⟨b,a,none⟩:=by
  unfold aW;rw[if_neg J,hb];show some (Addr.add b (a*1))=_;rw[aw,gd,cz]
 rw[n];have o:b_ w ⟨b,a,none⟩ (ax k):=bc.bX f a _ (by rw[dh];omega) (ic _);have g:=bc.pU (ax k) a 0 f;rw[kT]at g;refine⟨_,BF (by kernel_rfl) d J o,⟨by rw[dh,cT,cT,c9,ek];omega,i,j,.inr ⟨b,_,hb,g,by rw[h4];omega,?_⟩⟩,(af.iV (.refl _ _) _ 0).mono λq _ e=>⟨_,hb,e.symm⟩⟩;rw[gd,j5 (ax k) c a (by rw[dh];omega),dh];obtain⟨R,p⟩:∃R,c.toList=ax l++R:=⟨_,by rw[←ht];exact(g2 s.len c.toList).symm⟩;have z:(ax l).length=l.length:=dh l;have t1:(ax l++R).take a=ax (l.take a):=by rw[kZ J];unfold ax;rw[mU]
 have t2:(ax l++R).drop (a+k.length)=ax (l.drop (a+k.length))++R:=by rw[List.drop_append_of_le_length J];unfold ax;rw[me]
 have aM:ax (l.take a)++ax k++ax (l.drop (a+k.length))=ax (l.take a++k++l.drop (a+k.length)):=by
  unfold ax;rw[e_,e_]
 rw[p,t1,t2,←c_,aM];exact oA (by rw[dh,cT,cT,c9,ek];omega)
theorem qh(hs:Src 1 w o (ax l))(d:Src 1 w y (ax k))(L:l.length=k.length)(he:l.length%2=0)(M:l.length<=1000){n:Nat}(q:n<65536):aC ai 257 #[.int .u16 (n:Nat),o,y] w (λv w'=>(∃m:Nat,v=.int .u16 (m:Nat)/\m<65536)/\Ext w w'):=by
 have N:=len8 hs;have O:=len8 d;refine okF (aa.qh (n:Nat) o y) ao.qh func257 ?_;(delta aa.qh ah fO bl bq cG bw al h6 aZ;dsimp only);refine⟨λ_=>⟨⟨n,rfl,q⟩,.refl _ _⟩,λ_=>?_⟩;obtain⟨r,s,t⟩:=HN (gg .u16 65535 (n:Nat));rw[s];refine⟨λz j w'=>∃m i:Nat,z=(m:Int)/\m<18446744073709551616/\j=((2*i:Nat):Int)/\Ext w w',λ_ j _=>((o.len:Int)-j).toNat,⟨r,0,rfl,t,rfl,.refl _ _⟩,?_⟩;rintro _ _ aF ⟨m,i,rfl,hm,rfl,f⟩;refine⟨λaJ=>?_,λ_=>(qj hm aF).use ?_⟩
 .have u:2*i<l.length:=by have:=b8 aJ;omega
  have x:2*i+1<l.length:=by omega
  have c:=f.trans (b1 aF);refine aO ?_;generalize aF.drew=P at c;obtain⟨A,ar,hb,hc⟩:=pt (hs.ext c) u;obtain⟨Q,g,C,D⟩:=pt (hs.ext c) x;obtain⟨B,e,E,gc⟩:=pt (d.ext c) (i:=2*i) J;obtain⟨R,p,F,G⟩:=pt (d.ext c) (i:=2*i+1) J;rw[ar]at g
  cases g;rw[e]at p
  cases p;rw[pv J,show IntKind.wrap .i64 (((2*i:Nat):Int)+2)=((2*(i+1):Nat):Int) from by rw[bT J J];omega];refine⟨A,ar,hb,id,_,hc,by decide,A,ar,C,id,_,D,B,e,E,id,_,gc,by decide,B,e,F,id,_,G,?_,?_⟩
  .obtain⟨H,I,K⟩:=HN ((m:Int)+_)
   exact⟨H,i+1,I,K,rfl,c⟩
  .show((o.len:Int)-((2*(i+1):Nat):Int)).toNat<((o.len:Int)-((2*i:Nat):Int)).toNat
   omega
 .rintro _ _ ⟨rfl,rfl⟩
  have hf:=Hh m;have h:=C0 (a:=65535) (b:=kP m) (by decide) J;exact⟨_,rfl,⟨_,congrArg (Value.int .u16) h,oz (n:=16) (by decide) J⟩,f⟩
end
structure h9(w:I)(rb:Nat)(s:ae)(l:O UInt8):Prop where
 v:Var w rb (lB++ [.slice s.a s.len s.cap]) 342
 o:aT 1 5 w s (ax l)
 n:l.length=28
theorem vQ(n:Nat):([]++bU n 2).length=2:=by rw[kU,Nz];rfl
section
variable {w w' w1:I}{s t o y:ae}{l lo k5:O UInt8}{a n rb:Nat}
theorem h9.ext(h:h9 w rb s l)(hx:Ext w w'):h9 w' rb s l:=⟨h.v.ext hx,h.o.ext hx,h.n⟩
theorem h9.nb(h:h9 w rb s l):¬aB s rb:=λa=>by
 obtain⟨c,b⟩:=aT.block h.o a
 exact absurd (bc.inj b h.v).2 (by decide)
theorem h9.Ac(h:h9 w rb s l):s.len=28:=(iM h.o).trans h.n
theorem h9.copy{k:O UInt8}(h:h9 w rb s l)(b:Src 1 w t (ax k))(h1:1<=k.length)(f:a+k.length<=28):
 ∃w':I,Sem.run ai (Builtin.copy_ #[31,31] 3 #[.slice (aW s.a 1 a s.cap) (s.len-a) (s.cap-a),.slice t.a t.len t.cap]) w=.ok (.int .i64 ((t.len:Nat):Int)) w'/\(∃c,h9 w' rb s c)/\af (aB s) w w':=by
 have g:=h.n;obtain⟨w',e,d,hc⟩:=OR (a:=a) h.o b h1 J;exact⟨w',e,⟨_,h.v.ak hc h.nb,d,by rw[cT,cT,c9,ek];omega⟩,hc⟩
theorem HO(h:h9 w rb s l)(b:a+2<=28):aC ai 258 #[.pointer (some ⟨rb,0,none⟩),.int .i64 (a:Nat)] w (λv w'=>(∃n:Nat,v=.int .u16 (n:Nat)/\n<65536)/\w=w'):=by
 refine okF (aa.yu (some ⟨rb,0,none⟩) (a:Nat)) ao.yu func258 ?_;(delta aa.yu ay aR jI;dsimp only);refine⟨_,rfl,s,by rw[aw];exact h.v.cell,(jh h.o.src h.o.2.1 (a:=a) (k:=2) (by decide) (by rw[h.n];exact b) (by rw[h.n];decide)).use ?_⟩;rintro _ _ ⟨rfl,rfl⟩;refine⟨_,_,rfl,⟨(gW ((l.drop a).take 2))%65536,?_,hZ _ (by decide)⟩,rfl⟩
 congr 1
theorem HP(h:h9 w rb s l)(d:a+2<=28)(p:n<65536):aC ai 256 #[.pointer (some ⟨rb,0,none⟩),.int .i64 (a:Nat),.int .u16 (n:Nat)] w (λv w'=>v=.tuple #[]/\(∃f,h9 w' rb s f)/\af (aB s) w w'):=by
 have q:=h.Ac;refine okF (aa.yt (some ⟨rb,0,none⟩) (a:Nat) (n:Nat)) ao.yt func256 ?_;(delta aa.yt bC ay eU aR bn aZ;dsimp only);have b:=b1 w;have h1:=h.ext b;refine aO ?_;generalize w.drew=w1 at b h1;have g:=gV (s:=⟨none,0,0⟩) (l:=[]) (n:=n) (k:=2) (aT.none 1 5 w1).src (by decide) J (by decide);rw[eZ (n:=(n:Int)) J J,d_];refine⟨λ_=>False,_,rfl,id,s,by rw[aw];exact h1.v.cell,⟨J,J⟩,g.use ?_⟩;rintro _ aF ⟨t,rfl,i,c,hf⟩;obtain⟨j,e,m,o⟩:=(h1.ext c).copy (a:=a) i.src (by rw[vQ];decide) (by rw[vQ];exact d);exact⟨t,rfl,af.bL c,_,j,e,rfl,m,(af.bL (b.trans c)).trans o⟩
theorem HQ(h:h9 w rb s l):aC ai 296 #[.pointer (some ⟨rb,0,none⟩)] w (λv w'=>v=.int .i64 ((26:Nat):Int)/\Ext w w'):=by
 refine okF (aa.yB (some ⟨rb,0,none⟩)) ao.yB func296 ?_;(delta aa.yB ay r1 al;dsimp only);have a:=b1 w;have h1:=h.ext a;refine aO ⟨_,rfl,id,20,by rw[aw];exact h1.v.cell,_,rfl,id,6,by rw[aw,aw];exact h1.v.cell,congrArg (Value.int .i64) (by decide),a⟩
theorem HR(h:h9 w rb s l)(p:Src 1 w o (ax lo))(q:Src 1 w y (ax k5))(r:lo.length=k5.length)(he:lo.length%2=0)(t:lo.length<=1000):aC ai 259 #[.pointer (some ⟨rb,0,none⟩),.slice o.a o.len o.cap,.slice y.a y.len y.cap] w (λv w'=>v=.tuple #[]/\(∃u,h9 w' rb s u)/\af (aB s) w w'):=by
 refine okF (aa.yv (some ⟨rb,0,none⟩) o y) ao.yv func259 ?_;(delta aa.yv ay aS ah b4 h6 cG eM;dsimp only);refine⟨_,rfl,false,by rw[aw,aw];exact h.v.cell,λh=>(by cases h),λ_=>(HQ h).use ?_⟩;rintro _ D ⟨rfl,c⟩;refine⟨_,rfl,(HO (h.ext c) (a:=26) (by decide)).use ?_⟩;rintro _ _ ⟨⟨n8,rfl,x⟩,rfl⟩;refine⟨_,rfl,(qh (p.ext c) (q.ext c) r he t x).use ?_⟩;rintro _ e ⟨⟨m,rfl,hm⟩,f⟩;have d:=(h.ext c).ext f;refine⟨_,rfl,cc (λz w'=>(∃n:Nat,z=(n:Int)/\n<65536)/\e=w') (λk g=>cc (λb w'=>e=w') (λb9 i=>⟨λ_=>⟨_,rfl,17,by rw[aw];exact d.v.cell,i _ _ rfl⟩,λ_=>i _ _ rfl⟩) ?_) ?_⟩
 .rintro b _ rfl
  have hb:=C0 (a:=65535) (b:=m) (by decide) hm;exact⟨λ_=>g _ _ ⟨⟨_,hb,oz (n:=16) (by decide) hm⟩,rfl⟩,λ_=>g _ _ ⟨⟨m,rfl,hm⟩,rfl⟩⟩
 rintro _ _ ⟨⟨n,rfl,A⟩,rfl⟩;refine(HQ d).use ?_;rintro _ E ⟨rfl,j⟩;refine⟨_,rfl,(HP (d.ext j) (a:=26) (by decide) A).use ?_⟩;rintro _ bZ ⟨rfl,B,C⟩;exact⟨rfl,rfl,B,(af.bL ((c.trans f).trans j)).trans C⟩
theorem OS(h:h9 w rb s l)(L:n<65536):aC ai 198 #[.pointer (some ⟨rb,0,none⟩),.int .i64 2,.int .u16 (n:Nat)] w (λv w'=>v=.tuple #[]/\(∃j,h9 w' rb s j)/\∃W,af W w w'/\∀q,W q->aB s q):=by
 have M:=h.Ac;refine okF (aa.yd (some ⟨rb,0,none⟩) 2 (n:Nat)) ao.yd func198 ?_;(delta aa.yd ay r1 bn aZ aR al eM;dsimp only);have x:=gV (s:=⟨none,0,0⟩) (l:=[]) (n:=n) (k:=2) (aT.none 1 5 w).src (by decide) J (by decide);rw[eZ (n:=(n:Int)) J J];refine⟨_,rfl,20,by rw[aw];exact h.v.cell,x.use ?_⟩;rintro _ y ⟨t,rfl,ht,f,z⟩;have c:=h.ext f;have A:IntKind.wrap .i64 (2+20)=22:=by decide
 rw[A,show IntKind.wrap .i64 (22+2)=24 from by decide];have B:Src 1 y ⟨aW s.a 1 (Int.toNat 22) s.cap,Int.toNat 24-Int.toNat 22,s.cap-Int.toNat 22⟩ (ax ((l.drop 22).take 2)):=by
  have m:=Src.sub c.o.src c.o.2.1 (lo:=22) (hi:=24) (by decide) J;have e:((ax l).drop 22).take (24-22)=ax ((l.drop 22).take 2):=by unfold ax;rw[mU,me]
  rw[e]at m;exact m
 have N:=h.o.2.1;have O:=h.n;have p:((l.drop 22).take 2).length=2:=by rw[c9,ek];omega
 refine⟨t,rfl,_,rfl,s,by rw[aw];exact c.v.cell,⟨by decide,J⟩,⟨by decide,by decide⟩,(sY B J).use ?_⟩;rintro _ P ⟨o,rfl,C,d,D⟩;have r:=c.ext d;obtain⟨E,e,⟨j,F⟩,g⟩:=r.copy (a:=22) (ht.ext d).src (by rw[vQ];decide) (by rw[vQ];decide);have u:∀q,aB s q->q<w.heap.size:=λq b=>h.o.lt q b;have G:=(ht.ext d).ak g λq b i=>by have:=z q b;have:=u q i;omega
 have H:=C.ak g λq b i=>by have:=D q b;have:=u q i;have:=f.size;omega
 refine⟨o,rfl,_,rfl,s,by rw[aw];exact r.v.cell,⟨by decide,J⟩,_,E,e,(HR F H.src G.src (by rw[p,vQ]) (by rw[p]) J).use ?_⟩;rintro _ Q ⟨rfl,I,K⟩;exact⟨rfl,rfl,I,_,((af.bL (f.trans d)).trans g).trans K,λq b=>b⟩
end
theorem HS:aH.zero.raw=[0,0,0,0]:=by rfl
section
variable {w w' w1:I}{s t o y:ae}{l lo k5:O UInt8}{a n rb:Nat}
theorem OT(h:h9 w rb s l):aC ai 197 #[.pointer (some ⟨rb,0,none⟩),.int .i64 16,.agg aH.zero.c.toArray] w (λv w'=>v=.tuple #[]/\(∃g,h9 w' rb s g)/\af (aB s) w w'):=by
 have Y:=h.Ac;refine okF (aa.yc (some ⟨rb,0,none⟩) 16 aH.zero.c.toArray) ao.yc func197 ?_;(delta aa.yc ad bn ay aR al aS ah h6 eM;dsimp only);refine aN (vs:=aH.zero.c) rfl λw1 K x _=>⟨_,K.rd aH.zero.aX,(jK aH.zero w1).use ?_⟩;rintro _ L ⟨t,rfl,ht,i,y,C⟩;rw[HS]at ht i;have i:t.len=4:=i;have j:=(h.ext x).ext y;refine⟨t,rfl,?_⟩;rw[show IntKind.wrap .i64 (16+((t.len:Nat):Int))=20 from by rw[i];decide];have M:Src 1 L ⟨aW s.a 1 (Int.toNat 16) s.cap,Int.toNat 20-Int.toNat 16,s.cap-Int.toNat 16⟩ (ax ((l.drop 16).take 4)):=by
  have D:=Src.sub j.o.src j.o.2.1 (lo:=16) (hi:=20) (by decide) J;have e:((ax l).drop 16).take (20-16)=ax ((l.drop 16).take 4):=by unfold ax;rw[mU,me]
  rw[e]at D;exact D
 have Z:=h.o.2.1;have ab:=h.n;have p:((l.drop 16).take 4).length=4:=by rw[c9,ek];omega
 refine⟨_,rfl,s,by rw[aw];exact j.v.cell,⟨by decide,J⟩,⟨by decide,by decide⟩,(sY M J).use ?_⟩;rintro _ ac ⟨o,rfl,N,f,E⟩;have F:=j.ext f;obtain⟨z,e,⟨g,A⟩,r⟩:=F.copy (a:=16) (k:=[0,0,0,0]) (ht.ext f).src (by decide) (by decide);have u:∀q,aB s q->q<w.heap.size:=λq b=>h.o.lt q b;have ae:=x.size;have ag:=y.size;have G:=(ht.ext f).ak r λq b d=>by have:=C q b;have:=u q d;omega
 have H:=N.ak r λq b d=>by have:=E q b;have:=u q d;omega
 have O:af (aB s) w z:=(af.bL ((x.trans y).trans f)).trans r;refine⟨o,rfl,_,rfl,s,by rw[aw];exact F.v.cell,⟨by decide,J⟩,_,z,e,k3 (λw'=>(∃g,h9 w' rb s g)/\af (aB s) z w') (λk P=>⟨_,rfl,false,A.v.cell,λ_=>(HO A (a:=10) (by decide)).use ?_,λh=>(by cases h)⟩) ?_⟩
 .rintro _ _ ⟨⟨n,rfl,Q⟩,rfl⟩
  refine⟨_,rfl,(qh H.src G.src (by rw[p];rfl) (by rw[p]) J Q).use ?_⟩;rintro _ aj ⟨⟨m,rfl,hm⟩,I⟩;refine⟨_,rfl,(HP (A.ext I) (a:=10) (by decide) hm).use ?_⟩;rintro _ am ⟨rfl,R,S⟩;exact⟨rfl,P _ ⟨R,(af.bL I).trans S⟩⟩
 rintro an ⟨⟨ap,T⟩,B⟩;have aq:=f.size;have ar:=r.size;have U:=G.ak B λq b d=>by have:=C q b;have:=u q d;omega
 have V:=H.ak B λq b d=>by have:=E q b;have:=u q d;omega
 refine(HR T V.src U.src (by rw[p];rfl) (by rw[p]) J).use ?_;rintro _ au ⟨rfl,W,X⟩;exact⟨rfl,rfl,W,(O.trans B).trans X⟩
theorem sg(hs:Src 1 w s (ax ik))(hc:s.len<=s.cap):aC ai 125 #[.slice s.a s.len s.cap,.int .i64 1,.agg aH.zero.c.toArray,.int .u16 8080] w (λv w'=>∃t:ae,v=.tuple #[.slice t.a t.len t.cap,.int .i64 0]/\t.len=28/\Ext w w'):=by
 refine okF (aa.sg s 1 aH.zero.c.toArray 8080) ao.sg func125 ?_;(delta aa.sg nI hO ad ah bF aS bC bn eM al xs aR;dsimp only);refine aN (vs:=aH.zero.c) rfl λw1 C D _=>(p4 (hs.ext D) hc).use ?_;rintro _ ag ⟨rfl,l⟩;refine⟨_,_,rfl,pz (us:=lB) (by rfl) (by rfl) zY λL M m=>⟨λh=>(by cases h),λ_=>⟨_,((C.ext l).ext m).rd aH.zero.aX,(oY aH.zero L).use ?_⟩⟩⟩;rintro _ p ⟨rfl,r⟩;have N:=((D.trans l).trans m).trans r;have E:=((C.ext l).ext m).ext r;have F:=M.ext r;refine⟨_,rfl,cc (λb w'=>b=false/\p=w') (λk u=>⟨λh=>(by cases h),λ_=>⟨false,E.cell,false,F.cell,u _ _ ⟨rfl,rfl⟩⟩⟩) ?_⟩;rintro _ _ ⟨rfl,rfl⟩;refine⟨λh=>(by cases h),λ_=>?_⟩;have x:=b1 p;have d:=N.trans x;have y:=E.ext x;have G:=F.ext x;refine aO ?_;generalize p.drew=X at d y G;refine⟨λ_=>False,id,lB,G.rd (by rfl),(sY (hs.ext d) (by decide)).use ?_⟩;rintro _ O ⟨o,rfl,P,e,Q⟩;refine⟨o,rfl,af.bL e,(lB++ [Value.slice o.a o.len o.cap]).toArray,by kernel_rfl,?_⟩;refine aN (vs:=lB++ [.slice o.a o.len o.cap]) rfl ?_;intro f R g _;refine cc (λn w'=>n=12/\f=w') (λk u=>⟨false,((y.ext e).ext g).cell,λh=>(by cases h),λ_=>u _ _ ⟨rfl,rfl⟩⟩) ?_;rintro _ _ ⟨rfl,rfl⟩;have i:=b1 f;have z:=((y.ext e).ext g).ext i;have H:h9 f.drew O.heap.size o ik:=⟨R.ext i,(P.ext g).ext i,rfl⟩;have I:=((d.trans e).trans g).trans i;refine aO ?_;generalize f.drew=S at z H I;refine⟨λ_=>False,id,_,z.rd aH.zero.aX,id,_,z.rd aH.zero.aX,(jK aH.zero S).use ?_⟩;rintro _ bO ⟨t,rfl,ht,j,A,Y⟩;rw[HS]at j;have j:t.len=4:=j;refine⟨t,rfl,?_⟩;rw[show IntKind.wrap .i64 (12+(IntKind.wrap .i64 (1*((t.len:Nat):Int))))=16 from by rw[j];decide,show IntKind.wrap .i64 (2*1)=2 from by decide];refine⟨af.bL A,(OT (H.ext A)).use ?_⟩;rintro _ cC ⟨rfl,⟨Z,T⟩,U⟩;refine⟨rfl,(OS (n:=8080) T (by decide)).use ?_⟩;rintro _ ab ⟨rfl,⟨ac,J⟩,V,W,gp⟩;have K:∀q,aB o q->w.heap.size<=q:=λq B=>dQ d.size (Q q B);exact⟨rfl,_,rfl,o,by rw[aw];exact J.v.cell,o,rfl,J.Ac,Ext.ee (Ext.ee (I.trans A) U K) W λq B=>K q (gp q B)⟩
theorem sf(hs:Src 1 w s (ax ik))(hc:s.len<=s.cap):aC ai 119 #[s,.agg aH.zero.c.toArray,.int .u16 8080] w (λv w'=>∃t:ae,v=.tuple #[t,(0:Int)]/\t.len=28/\Ext w w'):=by
 refine okF (aa.sf s aH.zero.c.toArray 8080) ao.sf func119 ?_;(delta aa.sf ad eG;dsimp only);refine aN (vs:=aH.zero.c) rfl λw1 b a _=>⟨_,b.rd aH.zero.aX,(sg (hs.ext a) hc).use ?_⟩;rintro _ e ⟨t,rfl,ht,d⟩;exact⟨t,_,rfl,t,rfl,ht,a.trans d⟩
end
def gj:gS:=⟨aH.zero,aH.zero,5,80,17⟩
def lC:gS:=⟨aH.zero,aH.zero,8080,5,17⟩
def gr(u:Int):O Y:=.int .i64 1:: .int .i64 2::(aH.zero.c++ [.int .u16 8080,.int .i64 6,.int .u64 u])
theorem HT(u:Int):∀v∈gr u,Plain v:=dN eu (dN eu (l3 (aH.plain _) (dN eu (dN eu (dN eu lA)))))
theorem OU(w:I):aC ai 186 #[(0:Int)] w (λv w'=>v=.int .i64 6/\w=w'):=by
 refine okF (aa.By 0) ao.By func186 ?_;exact⟨rfl,rfl⟩
theorem OV(w:I):aC ai 116 #[(6:Int)] w (λv w'=>v=.int .u64 40/\w=w'):=by
 refine okF (aa.xT 6) ao.xT func116 ?_;(delta aa.xT ah aZ;dsimp only);refine⟨λh=>(by cases h),λ_=>⟨λh=>(by cases h),λ_=>cc (λb w'=>b=false/\w=w') (λk a=>⟨λh=>(by cases h),λ_=>a _ _ ⟨rfl,rfl⟩⟩) ?_⟩⟩;rintro _ _ ⟨rfl,rfl⟩;exact⟨λh=>(by cases h),λ_=>⟨λh=>(by cases h),λ_=>⟨λ_=>⟨rfl,rfl⟩,λh=>(by cases h)⟩⟩⟩
section
variable {w w' w1 aF bm:I}{b m1 m2 most gl:Nat}{bM:O (gS×Y)}{u:Int}
theorem OW(u:Int)(w:I):aC ai 188 #[.agg gj.c.toArray,.agg (gr u).toArray] w (λv w'=>v=.agg lC.c.toArray/\Ext w w'):=by
 refine okF (aa.x9 gj.c.toArray (gr u).toArray) ao.x9 func188 ?_;(delta aa.x9 rT ad g8 fD fP cG;dsimp only);refine aN (vs:=gj.c) rfl λw1 f d _=>aN (vs:=gr u) rfl λag g a _=>aN (vs:=mN) (by kernel_rfl) λi h b _=>?_;have h1:=(f.ext a).ext b;have e:=g.ext b;simp only[aw,cz];exact⟨aH.zero.c,e.fE (o:=2) (n:=17) (by show 2+17<=22;decide),aH.zero.c,h1.fE (o:=0) (n:=17) (by show 0+17<=37;decide),8080,e.cell,5,h1.cell,17,h1.cell,lC.c.toArray,by kernel_rfl,q0 h (by rfl) (by rfl) lC.plain λj _ hc=>⟨rfl,Ext.bN ((d.trans a).trans b) hc ((d.trans a).size)⟩⟩
theorem OX(h:kp w b m1 m2 most [] bM)(f:gS):aC ai 134 #[.pointer (some ⟨b,0,none⟩),.agg f.c.toArray] w (λv w'=>v=.bool false/\Ext w w'):=by
 refine okF (aa.xZ (some ⟨b,0,none⟩) f.c.toArray) ao.xZ func134 ?_;(delta aa.xZ bC ay ad z9 ah;dsimp only);refine aN (vs:=f.c) rfl λw1 s l _=>?_;have d:=b1 w1;have e:=(h.ext l).ext d;have m:=s.ext d;have a:=l.trans d;refine aO ?_;generalize w1.drew=g at e m a;obtain⟨i,hi,t⟩:=og C_;have n:∀w',Ext g w'->Sem.run ai (Instr.lookup 157 (.map (some m1)) (.agg f.c.toArray) true) w'=.ok (.tuple #[.agg e3.toArray,.bool false]) w':=λw' hx=>(e.bW.ext hx).oL tv vP (k:=f) hi t (λv u=>(by cases u)) true;refine⟨λ_=>False,_,rfl,id,some m1,by rw[aw];exact e.v.cell,id,f.c,m.rd f.aX,⟨e3.toArray,false,g,n g (.refl _ _),.refl _ _,aN (vs:=e3) (by kernel_rfl) λz o p _=>⟨af.bL p,o.bX (by simp) (by simpa using mP),by rfl,cA o (us:=e3) (by simp) rfl λA B x _=>⟨λh=>(by cases h),λ_=>⟨rfl,Ext.bN (a.trans p) x a.size⟩⟩⟩⟩,aN (vs:=e3) (by kernel_rfl) λq r j _=>⟨af.bL j,e3.toArray,false,q,n q j,r.bX (by simp) (by simpa using mP),by rfl,cA r (us:=e3) (by simp) rfl λC D y _=>⟨λh=>(by cases h),λ_=>⟨rfl,Ext.bN (a.trans j) y a.size⟩⟩⟩⟩
theorem OY(h:kp bm b m1 m2 most [] [])(hm:1<=most)(hf:Var bm w.heap.size gj.c 30)(he:Var bm w1.heap.size (gr u) 93)(M:Var bm aF.heap.size lC.c 30)(N:Ext w bm){Q:Y->I->Prop}
 (R:∀ag w',Ext w ag->l2 m1 m2 ag w'->Q (.int .i64 0) w'):aa.xU (some ⟨b,0,none⟩) w w1 aF ⟨gl,0,none⟩ false bm Q:=by
 (delta aa.xU ah ad bC ay z9 e5 r1 bF;dsimp only);refine cc (λb w'=>b=false/\bm=w') (λk S=>⟨λh=>(by cases h),λ_=>S _ _ ⟨rfl,rfl⟩⟩) ?_;rintro _ _ ⟨rfl,rfl⟩;obtain⟨i,hi,t⟩:=og C_;obtain⟨j,U,W⟩:=og HK;refine⟨λh=>(by cases h),λ_=>cc (λb w'=>b=false/\Ext bm w') (λb9 l=>?_) ?_⟩
 .have d:=b1 bm
  have a:=h.ext d;have z:=hf.ext d;refine aO ?_;generalize bm.drew=f at a z d;have m:∀w',Ext f w'->Sem.run ai (Instr.lookup 157 (.map (some m1)) (.agg gj.c.toArray) true) w'=.ok (.tuple #[.agg e3.toArray,.bool false]) w':=λw' hx=>(a.bW.ext hx).oL tv vP (k:=gj) hi t (λv g=>(by cases g)) true;exact⟨λ_=>False,_,rfl,id,some m1,by rw[aw];exact a.v.cell,id,gj.c,z.rd gj.aX,⟨e3.toArray,false,f,m f (.refl _ _),.refl _ _,aN (vs:=e3) (by kernel_rfl) λau A B _=>⟨af.bL B,A.bX (by simp) (by simpa using mP),by rfl,cA A (us:=e3) (by simp) rfl λav ax X _=>l _ _ ⟨rfl,Ext.bN (d.trans B) X d.size⟩⟩⟩,aN (vs:=e3) (by kernel_rfl) λC D r _=>⟨af.bL r,e3.toArray,false,C,m C r,D.bX (by simp) (by simpa using mP),by rfl,cA D (us:=e3) (by simp) rfl λaz aA Z _=>l _ _ ⟨rfl,Ext.bN (d.trans r) Z d.size⟩⟩⟩
 .rintro _ E ⟨rfl,F⟩
  refine cc (λb w'=>b=false/\Ext bm w') (λb9 l=>?_) ?_
  .have d:=b1 E
   have a:=(h.ext F).ext d;refine aO ?_;have hx:=F.trans d;generalize E.drew=f at a hx;have m:=a.bW.len (P:=ai) (o:=3) vP;exact⟨λ_=>False,λ_=>⟨_,rfl,id,some m1,by rw[aw];exact a.v.cell,_,rfl,id,most,a.v.cell,_,f,m,.refl _ _,l _ _ ⟨im (by show¬((0:Nat):Int)>=_;omega),hx⟩⟩,λh=>(by cases h)⟩
  rintro _ aB ⟨rfl,s⟩;refine⟨λh=>(by cases h),λ_=>?_⟩;refine⟨gj.c,(hf.ext s).rd gj.aX,(OX (h.ext s) gj).use ?_⟩;rintro _ G ⟨rfl,ab⟩;have hx:=(s.trans ab).trans (b1 G);refine⟨_,rfl,aO ?_⟩;generalize G.drew=f at hx;have a:=h.ext hx;have p:=hf.ext hx;have H:=he.ext hx;have J:=M.ext hx;have nb:∀ {q:Nat}{vs:O Y}{T:TypeId},Var f q vs T->¬(q=m1\/q=m2):=λg ac=>ac.elim (λe=>by subst e;exact a.bW.jG g) λe=>by subst e;exact a.b9.jG g
  obtain⟨ae,aj,al,ca,_,am⟩:=a.bW.wT tv vP (k:=gj) hi t (λv g=>by cases g);obtain⟨wb,rb,cb,_,aC⟩:=am.store (P:=ai) 157 (.agg (gr u).toArray);have l:=a.b9.ak (ca.trans cb) λe=>a.n e.symm;obtain⟨an,ao,rc,K,_,ap⟩:=l.wT tv HJ (k:=lC) U W (λv g=>by cases g);obtain⟨wd,rd,aq,_,Kd⟩:=ap.store (P:=ai) 158 (.agg gj.c.toArray);have L:=λ{x y:I} (c:af (λq=>q=m1) x y)=>c.mono (V:=λq=>q=m1\/q=m2) λ_ _ h=>.inl h;have ar:=λ{x y:I} (c:af (λq=>q=m2) x y)=>c.mono (V:=λq=>q=m1\/q=m2) λ_ _ h=>.inr h;exact⟨λq=>q=m1\/q=m2,_,rfl,nb a.v,some m1,by rw[aw];exact a.v.cell,nb p,gj.c,p.rd gj.aX,_,rfl,nb a.v,some m2,by rw[aw];exact a.v.cell,nb J,lC.c,J.rd lC.aX,nb H,gr u,H.rd (by rfl),nb p,gj.c,p.rd gj.aX,_,ae,aj,al,L ca,wb,rb,L cb,_,an,ao,rc,ar K,wd,rd,R f wd (N.trans hx) ((((l2.one ca).trans (.one cb)).trans (.two K)).trans (.two aq))⟩
theorem OZ{now:Int}(h:kp w b m1 m2 most [] [])(hm:1<=most):aC ai 118 #[.pointer (some ⟨b,0,none⟩),.agg gj.c.toArray,.agg (gr u).toArray,.int .u64 now] w (λv w'=>v=.int .i64 0/\∃ag,Ext w ag/\l2 m1 m2 ag w'):=by
 refine okF (aa.xV (some ⟨b,0,none⟩) gj.c.toArray (gr u).toArray now) ao.xV func118 ?_;(delta aa.xV ah ad mq rT bC ay;dsimp only);refine aN (vs:=gj.c) rfl λw1 p C _=>aN (vs:=gr u) rfl λag q g _=>⟨λh=>(by cases h),λ_=>⟨gj.c,(p.ext g).rd gj.aX,gr u,q.rd (by rfl),(OW u ag).use ?_⟩⟩;rintro _ aF ⟨rfl,i⟩;refine⟨_,rfl,pz (us:=lC.c) (by rfl) (by rfl) lC.plain λr D l=>aO ?_⟩;have d:=b1 r;have m:=(((C.trans g).trans i).trans l).trans d;have e:=h.ext m;have s:=(((p.ext g).ext i).ext l).ext d;have t:=((q.ext i).ext l).ext d;have n:=D.ext d;generalize r.drew=f at m e s t n;obtain⟨j,E,F⟩:=og HK;have x:∀w',Ext f w'->Sem.run ai (Instr.lookup 158 (.map (some m2)) (.agg lC.c.toArray) true) w'=.ok (.tuple #[.agg mN.toArray,.bool false]) w':=λw' hx=>(e.b9.ext hx).oL tv HJ (k:=lC) E F (λv G=>(by cases G)) true;have jg:∀v∈mN,Plain v:=gS.plain ⟨aH.zero,aH.zero,0,0,0⟩;have go:=λ{bm:I}{a:Nat} (hx:Ext f bm)=>OY (gl:=a) (Q:=λv w'=>v=.int .i64 0/\∃ag,Ext w ag/\l2 m1 m2 ag w') (e.ext hx) hm (s.ext hx) (t.ext hx) (n.ext hx) (m.trans hx) λag w' hx hc=>⟨rfl,ag,hx,hc⟩;exact⟨λ_=>False,_,rfl,id,some m2,by rw[aw];exact e.v.cell,id,lC.c,n.rd lC.aX,⟨mN.toArray,false,f,x f (.refl _ _),.refl _ _,aN (vs:=mN) (by kernel_rfl) λK y z _=>⟨af.bL z,y.bX (by simp) (by simpa using jg),by rfl,cA y (us:=mN) (by simp) rfl λL M H _=>go (Ext.bN z H (ba _))⟩⟩,aN (vs:=mN) (by kernel_rfl) λA B o _=>⟨af.bL o,mN.toArray,false,A,x A o,B.bX (by simp) (by simpa using jg),by rfl,cA B (us:=mN) (by simp) rfl λN O J _=>go (Ext.bN o J (ba _))⟩⟩
end
def lD:O UInt8->Nat
 | []=>0
 | [a]=>256*a.toNat
 |a::b::r=>256*a.toNat+b.toNat+lD r
def kq:O Y:=.bool false:: .int .u8 17:: .int .i64 0::(aH.zero.c++(aH.zero.c++ [.bool false,.int .u8 9]))
def Db:O UInt8:=((([]++bU 5 2)++bU 80 2)++bU 8 2)++ [0,0]
def Ad:O UInt8:=((([69,0]++bU 28 2)++ [0,0,0,0,9,17,0,0])++aH.zero.raw)++aH.zero.raw
section
variable {w w' w1:I}{s t:ae}{l:O UInt8}
theorem sT{n:Nat}(b:n<65536)(w:I):aC ai 292 #[.int .u64 (n:Nat)] w (λv w'=>v=.int .u64 (n:Nat)/\w=w'):=by
 refine okF (aa.sT (n:Nat)) ao.sT func292 ?_;(delta aa.sT fO ah al aZ;dsimp only);refine⟨λa _ w'=>a=(n:Int)/\w=w',λ_ _ _=>0,⟨rfl,rfl⟩,?_⟩;rintro _ i _ ⟨rfl,rfl⟩;refine⟨λh=>?_,λ_=>⟨rfl,rfl⟩⟩;rw[im (p:=(n:Int)>=65536) J,Bool.and_false]at h
 cases h
theorem sS(hs:Src 1 w s (ax l))(z:l.length<=1000)(ht:lD l<65536):aC ai 241 #[s] w (λv w'=>v=.int .u64 (lD l:Nat)/\w=w'):=by
 have C:=len8 hs;refine okF (aa.sS s) ao.sS func241 ?_;(delta aa.sS fO ah bl bq cG bw al fq aZ;dsimp only);refine⟨λa i w'=>∃m k:Nat,a=(m:Int)/\i=(k:Int)/\m+lD (l.drop k)=lD l/\k<=l.length+1/\w=w',λ_ i _=>((1002:Int)-i).toNat,⟨0,0,rfl,rfl,by simp,J,rfl⟩,?_⟩;rintro _ _ _ ⟨m,k,rfl,rfl,hm,D,rfl⟩;refine⟨λh=>?_,λh=>?_⟩
 .have aJ:k<l.length:=by have:=b8 h;omega
  obtain⟨A,ar,hb,hc⟩:=pt hs aJ;have h1:=(l[k]).toNat_lt;have j:IntKind.wrap .i64 ((k:Int)+1)=((k+1:Nat):Int):=pv J;have o:IntKind.wrap .i64 ((k:Int)+2)=((k+2:Nat):Int):=by rw[bT J J];omega
  have f:IntKind.wrap .u64 ((l[k].toNat:Nat):Int)=((l[k].toNat:Nat):Int):=eZ J J;rw[j,o];refine cc (λa w'=>∃b:Nat,a=(b:Int)/\b+lD (l.drop (k+2))=lD l/\w=w') (λq g=>⟨A,ar,hb,_,hc,λc=>?_,λc=>?_⟩) ?_
  .have d:k+1<l.length:=by have:=b8 c;omega
   obtain⟨B,p,r,t⟩:=pt hs d;have E:=(l[k+1]).toNat_lt;have e:l.drop k=l[k]::l[k+1]::l.drop (k+2):=by rw[lG aJ,lG d]
   rw[e,lD]at hm;refine⟨B,p,r,_,t,g _ _ ⟨m+(256*l[k].toNat+l[k+1].toNat),?_,J,rfl⟩⟩;have u:IntKind.wrap .u64 ((l[k+1].toNat:Nat):Int)=((l[k+1].toNat:Nat):Int):=eZ J J;rw[f,u];rw[eZ (n:=256*_) J J,eZ (n:=(m:Int)+_) J J,eZ J J];omega
  .have d:¬k+1<l.length:=by have:=cL c;omega
   have e:l.drop k=[l[k]]:=by rw[lG aJ,List.drop_eq_nil_of_le J]
   have aM:l.drop (k+2)=[]:=List.drop_eq_nil_of_le J;rw[e,lD]at hm;refine g _ _ ⟨m+256*l[k].toNat,?_,by rw[aM];exact hm,rfl⟩;rw[f,eZ (n:=256*_) J J,eZ J J];omega
  .rintro _ _ ⟨b,rfl,x,rfl⟩
   exact⟨⟨b,k+2,rfl,rfl,x,J,rfl⟩,by show((1002:Int)-((k+2:Nat):Int)).toNat<((1002:Int)-(k:Nat)).toNat;omega⟩
 .have y:l.length<=k:=by have:=cL h;omega
  rw[List.drop_eq_nil_of_le y,lD,kT]at hm;subst hm;refine(sT ht w).use ?_;rintro _ _ ⟨rfl,rfl⟩;exact⟨_,rfl,rfl,rfl⟩
theorem qt(hs:Src 1 w s (ax l))(a:l.length<=1000){n:Nat}(ht:lD l+n=65535):aC ai 176 #[s] w (λv w'=>v=.int .u16 (n:Nat)/\w=w'):=by
 refine okF (aa.qt s) ao.qt func176 ?_;(delta aa.qt fq;dsimp only);refine(sS hs a J).use ?_;rintro _ _ ⟨rfl,rfl⟩;refine⟨_,rfl,?_,rfl⟩
 congr 1
 rw[eZ J J,IK J J];omega
end
theorem O0:((aH.zero.raw++aH.zero.raw)++ [0,17])++bU 8 2=q1:=by decide+kernel
theorem O1:lD (q1++Db)+65417=65535:=by decide+kernel
theorem O2:lD Ad+45522=65535:=by decide+kernel
theorem O3:((ax Db).set 6 (.int .u8 (IntKind.wrap .u8 (IntKind.wrap .u16 (Int.tdiv 65417 256))))).set 7 (.int .u8 (IntKind.wrap .u8 (Int.tmod 65417 256)))=ax jv:=by kernel_rfl
theorem O4:((ax Ad).set 10 (.int .u8 (IntKind.wrap .u8 (IntKind.wrap .u16 (Int.tdiv 45522 256))))).set 11 (.int .u8 (IntKind.wrap .u8 (Int.tmod 45522 256)))++ax jv=ax ik:=by kernel_rfl
theorem Ae(l:O UInt8)(n:Nat)(h:l.length=n)(w:I):Src 1 (w.alloc (.cells (ax l).toArray 5)) ⟨some w.heap.size,n,n⟩ (ax l):=Src.new w (ax l) n (by rw[dh,h];omega)
section
variable {w0 w w' w1 ag:I}{s t x:ae}{l k:O UInt8}
theorem pD(b:aT 1 5 w s (ax l))(hf:fW w0 s)(d:Ext w0 w)(hx:Src 1 w x (ax k))(i:l.length+k.length<=1000):∃ (a:ae) (w':I),Sem.run ai (Builtin.append_ #[31,31] 31 #[s,x]) w=.ok a w'/\aT 1 5 w' a (ax (l++k))/\Ext w0 w'/\fW w0 a:=by
 have h1:=iM b;have j:=len8 hx;obtain⟨a,w',e,o,_,c,f⟩:=mz.append (df:=31) hx b (ic _) J;rw[←my]at o;exact⟨a,w',e,o,de d c λq g h=>by have:=hf q h;omega,λq g=>(f q g).elim (hf q) λh=>dQ d.size h⟩
theorem qu(w:I):aC ai 180 #[.agg aH.zero.c.toArray] w (λv w'=>v=true/\Ext w w'):=by
 refine okF (aa.qu aH.zero.c.toArray) ao.qu func180 ?_;(delta aa.qu aS ad ah bF;dsimp only);refine aN (vs:=aH.zero.c) rfl λw1 a d _=>⟨false,a.cell,cc (λb w'=>b=true/\Ext w w') (λk e=>⟨λ_=>⟨_,a.rd aH.zero.aX,(nS aH.zero w1).use ?_⟩,λh=>(by cases h)⟩) ?_⟩
 .rintro _ aF ⟨rfl,f⟩
  exact⟨_,rfl,e _ _ ⟨by decide+kernel,d.trans f⟩⟩
 .rintro _ i ⟨rfl,g⟩
  exact⟨rfl,g⟩
theorem sR(w:I):aC ai 177 #[.agg kq.toArray,.int .i64 8] w (λv w'=>∃t:ae,v=.slice t.a t.len t.cap/\aT 1 5 w' t (ax q1)/\Ext w w'/\fW w t):=by
 refine okF (aa.sR kq.toArray 8) ao.sR func177 ?_;(delta aa.sR bC ad bn ap aS ah fP cG aZ;dsimp only);refine aN (vs:=kq) rfl λw1 s u _=>aO ?_;have d:=u.trans (b1 w1);have b:=s.ext (b1 w1);generalize w1.drew=ag at d b;simp only[aw,cz];refine⟨λ_=>False,id,aH.zero.c,b.fE (o:=3) (n:=17) (by show 3+17<=39;decide),id,aH.zero.c,b.fE (o:=20) (n:=17) (by show 20+17<=39;decide),(yV aH.zero ag).use ?_⟩;rintro _ x ⟨y,rfl,z,_,f,f8⟩;refine⟨y,rfl,af.bL f,(yV aH.zero x).use ?_⟩;rintro _ M ⟨A,rfl,B,_,g,f11⟩;obtain⟨C,e,D,E,i,f12⟩:=pD (w0:=ag) (z.ext g) f8 (f.trans g) B.src (by decide);have j:=b.ext i;refine⟨A,rfl,C,e,D,false,j.cell,λh=>(by cases h),λ_=>⟨17,j.cell,aO ?_⟩⟩;have l:=c5 e (.cells (ax [0,17]).toArray 5);obtain⟨F,bO,G,H,m,f32⟩:=pD (E.ext l) f12 (i.trans l) (Ae [0,17] 2 rfl e) (by decide);refine⟨F,bO,G,?_⟩;have p:=mx (n:=8) (k:=2) H.src (by decide) (by decide) (by decide);rw[O0]at p;refine p.use ?_;rintro _ N ⟨r,rfl,J,K,f36⟩;exact⟨r,rfl,r,rfl,J,(d.trans m).trans K,λq L=>dQ (d.trans m).size (f36 q L)⟩
theorem sP(w:I):aC ai 107 #[.agg kq.toArray,.agg (h8 5 80 0 0 false 0).toArray,.slice none 0 0] w (λv w'=>∃t:ae,v=.tuple #[.slice t.a t.len t.cap,.int .i64 0]/\aT 1 5 w' t (ax jv)/\Ext w w'/\fW w t):=by
 refine okF (aa.sP kq.toArray 5 80 0 0 false 0 ⟨none,0,0⟩) ao.sP func107 ?_;(delta aa.sP fP cG ad ah fD g8 bF fb aS bC w7 oQ bn aZ al ap h6 bl bq st bw;dsimp only);refine aN (vs:=kq) rfl λw1 S U _=>aN (vs:=h8 5 80 0 0 false 0) rfl λag p C _=>?_;have u:=U.trans C;have e:=S.ext C;simp only[aw,cz];refine⟨17,e.cell,cc (λb w'=>b=false/\ag=w') (λk d=>⟨λ_=>⟨17,e.cell,d _ _ ⟨rfl,rfl⟩⟩,λh=>(by cases h)⟩) ?_⟩;rintro _ _ ⟨rfl,rfl⟩;refine⟨λh=>(by cases h),λ_=>⟨5,p.cell,cc (λb w'=>b=false/\ag=w') (λk d=>⟨λh=>(by cases h),λ_=>⟨80,p.cell,d _ _ ⟨rfl,rfl⟩⟩⟩) ?_⟩⟩;rintro _ _ ⟨rfl,rfl⟩;have D:(!aH.zero.eH)=false:=by decide+kernel
 refine cc (λb w'=>b=false/\Ext ag w') (λk d=>⟨λh=>(by cases h),λ_=>⟨aH.zero.c,e.fE (o:=3) (n:=17) (by show 3+17<=39;decide),(nS aH.zero ag).use ?_⟩⟩) ?_
 .rintro _ V ⟨rfl,hx⟩
  exact⟨_,rfl,d _ _ ⟨D,hx⟩⟩
 rintro _ W ⟨rfl,E⟩;refine cc (λb w'=>b=false/\Ext ag w') (λk d=>⟨λh=>(by cases h),λ_=>⟨aH.zero.c,(e.ext E).fE (o:=20) (n:=17) (by show 20+17<=39;decide),(nS aH.zero W).use ?_⟩⟩) ?_
 .rintro _ V ⟨rfl,hx⟩
  exact⟨_,rfl,d _ _ ⟨D,E.trans hx⟩⟩
 rintro _ r ⟨rfl,F⟩;have s:=e.ext F;refine cc (λb w'=>b=false/\r=w') (λk d=>⟨λh=>(by cases h),λ_=>⟨false,s.cell,false,s.cell,d _ _ ⟨rfl,rfl⟩⟩⟩) ?_;rintro _ _ ⟨rfl,rfl⟩;refine cc (λb w'=>b=false/\r=w') (λk d=>⟨λh=>(by cases h),λ_=>⟨false,s.cell,false,s.cell,d _ _ ⟨rfl,rfl⟩⟩⟩) ?_;rintro _ _ ⟨rfl,rfl⟩;refine⟨λh=>(by cases h),λ_=>⟨λh=>(by cases h),λ_=>aO ?_⟩⟩;have x:=F.trans (b1 r);generalize r.drew=G at x;have H:=p.ext x;refine⟨λ_=>False,id,5,H.cell,id,80,H.cell,aO ⟨af.bL (c5 _ _),?_⟩⟩;have X:=x.trans (c5 G (.cells #[] 5));have Y:=aT.new (sz:=1) (T:=5) G (ax []) 0 rfl (by decide);rw[show IntKind.wrap .u64 5=((5:Nat):Int) from by decide,show IntKind.wrap .u64 80=((80:Nat):Int) from by decide];refine(mx (l:=[]) (n:=5) (k:=2) Y.src (by decide) (by decide) (by decide)).use ?_;rintro _ aW ⟨Z,rfl,ab,J,_⟩;refine⟨Z,rfl,af.bL J,(mx (n:=80) (k:=2) ab.src (by decide) (by decide) (by decide)).use ?_⟩;rintro _ aX ⟨ac,rfl,aj,ak,_⟩;have y:=(X.trans J).trans ak;refine⟨ac,rfl,17,(e.ext y).cell,λh=>(by cases h),λ_=>?_⟩;rw[show IntKind.wrap .u64 (IntKind.wrap .i64 (8+(((⟨none,0,0⟩:ae).len:Nat):Int)))=((8:Nat):Int) from by decide];refine(mx (n:=8) (k:=2) aj.src (by decide) (by decide) (by decide)).use ?_;rintro _ K ⟨am,rfl,an,aq,f51⟩;have au:=y.trans aq;have L:=c5 K (.cells (ax [0,0]).toArray 5);obtain⟨av,M,ay,az,aA,f53⟩:=pD (w0:=ag) (an.ext L) (λq j=>dQ y.size (f51 q j)) (au.trans L) (Ae [0,0] 2 rfl K) (by decide);obtain⟨m,f,aB,g,z,f55⟩:=pD (w0:=ag) (k:=[]) az f53 aA (aT.none 1 5 M).src (by decide);rw[g3]at g
 replace g:aT 1 5 f m (ax Db):=g
 have aD:m.len=8:=iM g;have N:=e.ext z;refine⟨am,rfl,aO ⟨av,M,ay,m,f,aB,17,N.cell,cc (λb w'=>b=false/\f=w') (λk d=>⟨λ_=>⟨false,(p.ext z).cell,d _ _ ⟨rfl,rfl⟩⟩,λh=>(by cases h)⟩) ?_⟩⟩;rintro _ _ ⟨rfl,rfl⟩;refine cc (λb w'=>b=false/\f=w') (λk d=>⟨λh=>(by cases h),λ_=>d _ _ ⟨rfl,rfl⟩⟩) ?_;rintro _ _ ⟨rfl,rfl⟩;refine⟨λh=>(by cases h),λ_=>⟨kq,N.rd rfl,?_⟩⟩;have O:=sR f;rw[show(8:Int)=((m.len:Nat):Int) from by rw[aD];rfl]at O;refine O.use ?_;rintro _ aY ⟨aE,rfl,aF,P,f69⟩;obtain⟨aG,B,aI,aJ,Q,_⟩:=pD (w0:=f) aF f69 P (g.src.ext P) (by decide);refine⟨aE,rfl,aG,B,aI,(qt aJ.src (by decide) O1).use ?_⟩;rintro _ _ ⟨rfl,rfl⟩;have aK:=g.ext Q;refine⟨_,rfl,cc (λn w'=>n=65417/\B=w') (λk d=>cc (λb w'=>b=false/\B=w') (λb9 aL=>⟨λh=>(by cases h),λ_=>aL _ _ ⟨rfl,rfl⟩⟩) ?_) ?_⟩
 .rintro _ _ ⟨rfl,rfl⟩
  exact⟨λh=>(by cases h),λ_=>d _ _ ⟨rfl,rfl⟩⟩
 rintro _ _ ⟨rfl,rfl⟩;obtain⟨A,ar,hb,hu,hf,aM,bo⟩:=vK (i:=6) aK (by rfl) (.int .u8 (IntKind.wrap .u8 (IntKind.wrap .u16 (Int.tdiv 65417 256))));refine⟨by decide,by decide,A,ar,hb,hu,hf,aO ?_⟩;rw[show IntKind.wrap .i64 (6+1)=((7:Nat):Int) from by decide];obtain⟨aP,aQ,aR,aU,aV,R,bA⟩:=vK (i:=7) aM (by rfl) (.int .u8 (IntKind.wrap .u8 (Int.tmod 65417 256)));refine⟨aP,aQ,aR,aU,aV,aO ?_⟩;rw[O3]at R;exact⟨m,rfl,R,Ext.ee (u.trans (z.trans Q)) (bo.trans bA) λq j=>dQ u.size (f55 q j),λq j=>dQ u.size (f55 q j)⟩
end
section
variable {w w' w1:I}{s t x:ae}
theorem sQ(hs:Src 1 w s (ax jv)):aC ai 109 #[.agg kq.toArray,.slice s.a s.len s.cap] w (λv w'=>∃t:ae,v=.tuple #[.slice t.a t.len t.cap,.int .i64 0]/\aT 1 5 w' t (ax ik)/\Ext w w'/\fW w t):=by
 have C:s.len=8:=len8 hs;refine okF (aa.sQ kq.toArray s) ao.sQ func109 ?_;(delta aa.sQ aS ad ah bF fP cG fb bn al ap bC h6 bl bq st bw;dsimp only);refine aN (vs:=kq) rfl λw1 d g _=>?_;simp only[aw,cz];refine⟨false,d.cell,cc (λb w'=>b=false/\Ext w1 w') (λk e=>⟨λh=>(by cases h),λ_=>⟨aH.zero.c,d.fE (o:=3) (n:=17) (by show 3+17<=39;decide),(qu w1).use ?_⟩⟩) ?_⟩
 .rintro _ aF ⟨rfl,hx⟩
  exact⟨_,rfl,e _ _ ⟨rfl,hx⟩⟩
 rintro _ T ⟨rfl,D⟩;refine cc (λb w'=>b=false/\Ext w1 w') (λk e=>⟨λh=>(by cases h),λ_=>⟨aH.zero.c,(d.ext D).fE (o:=20) (n:=17) (by show 20+17<=39;decide),(qu T).use ?_⟩⟩) ?_
 .rintro _ aF ⟨rfl,hx⟩
  exact⟨_,rfl,e _ _ ⟨rfl,D.trans hx⟩⟩
 rintro _ p ⟨rfl,u⟩;have E:=d.ext u;refine cc (λb w'=>b=false/\p=w') (λk e=>⟨λh=>(by cases h),λ_=>⟨9,E.cell,e _ _ ⟨rfl,rfl⟩⟩⟩) ?_;rintro _ _ ⟨rfl,rfl⟩;refine cc (λb w'=>b=false/\p=w') (λk e=>⟨λh=>(by cases h),λ_=>⟨false,E.cell,e _ _ ⟨rfl,rfl⟩⟩⟩) ?_;rintro _ _ ⟨rfl,rfl⟩;refine⟨λh=>(by cases h),λ_=>⟨λh=>absurd (b8 h) J,λ_=>aO ?_⟩⟩;rw[show IntKind.wrap .u64 (IntKind.wrap .i64 (20+((s.len:Nat):Int)))=((28:Nat):Int) from by rw[C];decide];have F:=c5 p (.cells (ax [69,0]).toArray 5);refine(mx (n:=28) (k:=2) (Ae [69,0] 2 rfl p) (by decide) (by decide) (by decide)).use ?_;rintro _ G ⟨U,rfl,V,W,f28⟩;have H:=(u.trans F).trans W;have I:=d.ext H;refine⟨U,rfl,9,I.cell,17,I.cell,aO ?_⟩;have jn:=c5 G (.cells (ax [0,0,0,0,9,17,0,0]).toArray 5);obtain⟨X,bO,Y,f,Z,f32⟩:=pD (w0:=w1) (V.ext jn) (λq j=>dQ (u.trans F).size (f28 q j)) (H.trans jn) (Ae [0,0,0,0,9,17,0,0] 8 rfl G) (by decide);refine⟨X,bO,Y,aO ?_⟩;have K:=b1 bO;have x:=Z.trans K
 replace f:=f.ext K
 generalize bO.drew=ab at x f;have L:=d.ext x;refine⟨λq=>w1.heap.size<=q,by have:=d.lt;show¬w1.heap.size<=w.heap.size;omega,aH.zero.c,L.fE (o:=3) (n:=17) (by show 3+17<=39;decide),by have:=d.lt;show¬w1.heap.size<=w.heap.size;omega,aH.zero.c,L.fE (o:=20) (n:=17) (by show 20+17<=39;decide),(yV aH.zero ab).use ?_⟩;rintro _ aP ⟨ac,rfl,y,_,r,_⟩;obtain⟨ag,z,M,aj,ak,f41⟩:=pD (w0:=w1) (f.ext r) f32 (x.trans r) y.src (by decide);obtain⟨aQ,am,N,_,_,an,_⟩:=mz.append (df:=31) y.src (f.ext r) (ic _) (by rw[iM f,iM y];decide);rw[M]at N;have aq:z=am:=by injection N
 subst aq;refine⟨ac,rfl,af.bL r,ag,z,M,an.mono λq _ h=>f32 q h,(yV aH.zero z).use ?_⟩;rintro _ aR ⟨au,rfl,av,_,O,_⟩;obtain⟨P,Q,ay,m,az,f46⟩:=pD (w0:=w1) (aj.ext O) f41 (ak.trans O) av.src (by decide);refine⟨au,rfl,P,Q,ay,(qt (l:=Ad) m.src (by decide) O2).use ?_⟩;rintro _ _ ⟨rfl,rfl⟩
 replace m:aT 1 5 Q P (ax Ad):=m
 obtain⟨A,ar,hb,hu,hf,aA,bo⟩:=vK (i:=10) m (by rfl) (.int .u8 (IntKind.wrap .u8 (IntKind.wrap .u16 (Int.tdiv 45522 256))));refine⟨_,rfl,by decide,by decide,A,ar,hb,hu,hf,aO ?_⟩;obtain⟨aB,aD,aE,aG,aI,aJ,bA⟩:=vK (i:=11) aA (by rfl) (.int .u8 (IntKind.wrap .u8 (Int.tmod 45522 256)));refine⟨aB,aD,aE,aG,aI,aO ?_⟩;have B:Ext w1 _:=Ext.ee az (bo.trans bA) f46;obtain⟨R,aK,aL,S,_,aM,f56⟩:=mz.append (df:=31) ((hs.ext g).ext B) aJ (ic _) (by rw[C,iM m];decide);rw[O4]at S;exact⟨R,aK,aL,R,rfl,S,Ext.ee (g.trans B) aM λq j=>dQ g.size (f46 q j),λq j=>(f56 q j).elim (λh=>dQ g.size (f46 q h)) λh=>dQ (g.trans B).size h⟩
theorem sN(w:I):aC ai 54 #[.agg gj.c.toArray,.int .u8 0,.int .u8 9,.slice none 0 0] w (λv w'=>∃t:ae,v=.tuple #[.slice t.a t.len t.cap,.int .i64 0]/\aT 1 5 w' t (ax ik)/\Ext w w'/\fW w t):=by
 refine okF (aa.sN gj.c.toArray 0 9 ⟨none,0,0⟩) ao.sN func54 ?_;(delta aa.sN aS ad fP cG z3 g8 fD eG ah;dsimp only);refine aN (vs:=gj.c) rfl λw1 b g _=>?_;simp only[aw,cz];have k:∀v∈kq,Plain v:=dN tn (dN eu (dN eu (l3 (aH.plain _) (l3 (aH.plain _) (dN tn (dN eu lA))))));refine⟨false,b.cell,17,b.cell,aH.zero.c,b.fE (o:=0) (n:=17) (by show 0+17<=37;decide),aH.zero.c,b.fE (o:=17) (n:=17) (by show 17+17<=37;decide),kq.toArray,by kernel_rfl,pz (zs:=zU) (us:=kq) (by rfl) (by rfl) k λl e f=>?_⟩;have i:=b.ext f;refine⟨kq,e.rd rfl,5,i.cell,80,i.cell,(sP l).use ?_⟩;rintro _ x ⟨m,rfl,p,d,_⟩;refine⟨m,_,rfl,λh=>(by cases h),λ_=>⟨false,(e.ext d).cell,λh=>(by cases h),λ_=>⟨kq,(e.ext d).rd rfl,(sQ p.src).use ?_⟩⟩⟩;rintro _ bJ ⟨j,rfl,r,s,f20⟩;exact⟨j,_,rfl,j,rfl,r,((g.trans f).trans d).trans s,λq u=>dQ ((g.trans f).trans d).size (f20 q u)⟩
end
def kS:dP:=⟨1,aH.zero,80,17,0,9⟩
def l8:cg:=⟨2,aH.zero,8080,1,false⟩
structure iE where
 lb:Nat
 ab:Nat
 a8:Nat
 m1:Nat
 m2:Nat
 hb:Nat
 hm:Nat
 sb:Nat
 bR:kR
 bj:Nat
 k:ae
def iE.rc(x:iE):Rec:=⟨kS,[l8],x.bj,x.k⟩
def Af(e2 bt fh dn c7 c1:Int)(f a t h s:aq av):O Y:=[.int .u64 e2,bt,fh,dn,c7,c1,.pointer f,.pointer a,.pointer t,.pointer h,.pointer s]
def iE.c(x:iE):O Y:=Af 1 6 6 1 1 1 (some x.bR.p) (some x.ab) (some x.a8) (some x.hb) (some x.sb)
def iE.own(x:iE)(q:Nat):Prop:=q=x.a8\/q=x.m1\/q=x.m2\/q=x.hb\/q=x.hm\/i_ x.bR [x.rc] q
structure g1(w:I)(x:iE):Prop where
 fw:kp w x.a8 x.m1 x.m2 6 [] []
 he:l7 w x.hb x.hm 1 1
 c7:eX w x.bR [x.rc]
section
variable {w w' w1:I}{x:iE}
theorem g1.ak{W:Nat->Prop}(h:g1 w x)(hc:af W w w')(a:∀q,x.own q->¬W q):g1 w' x:=
 ⟨h.fw.ak hc ⟨a _ (.inl rfl),a _ (.inr (.inl rfl)),a _ (.inr (.inr (.inl rfl)))⟩,h.he.ak hc ⟨a _ (.inr (.inr (.inr (.inl rfl)))),a _ (.inr (.inr (.inr (.inr (.inl rfl)))))⟩,h.c7.ak hc λq b=>a q (.inr (.inr (.inr (.inr (.inr b)))))⟩
theorem g1.ext(h:g1 w x)(hx:Ext w w'):g1 w' x:=h.ak hx λ_ _=>id
theorem g1.lt(h:g1 w x):∀q,x.own q->q<w.heap.size:=by
 rintro q (rfl|rfl|rfl|rfl|rfl|a)
 .exact h.fw.v.lt
 .exact h.fw.bW.lt
 .exact h.fw.b9.lt
 .exact h.he.v.lt
 .exact h.he.k.lt
 .exact h.c7.lt a
def nn(m:Int):aj:= !(decide (m<1)||decide (m>4096))
def np(m:Int):aj:= !(decide (m<1)||decide (m>64))
def nq(bt dn c7 c1:Int):aj:=(nn bt&&(iC dn&&iC c7))&&np c1
theorem m5(e2 bt fh dn c7 c1:Int)(f a:av)(w:I):aC ai 16 #[.agg #[.int .u64 e2,bt,fh,dn,c7,c1],.pointer (some f),.pointer (some a)] w (λv w'=>Ext w w'/\
 ((nq bt dn c7 c1=false/\v=.tuple #[.pointer none,(1:Int)])\/(nq bt dn c7 c1=true/\∃lb a8 m1 m2 hb hm sb most:Nat,bt=(most:Int)/\v=.tuple #[.pointer (some lb),(0:Int)]/\
   Var w' lb (Af e2 bt fh dn c7 c1 (some f) (some a) (some a8) (some hb) (some sb)) 87/\kp w' a8 m1 m2 most [] []/\l7 w' hb hm dn c7/\(∀q,q=lb\/q=a8\/q=m1\/q=m2\/q=hb\/q=hm->w.heap.size<=q)))):=by
 refine okF (aa.m5 e2 bt fh dn c7 c1 (some f) (some a)) ao.m5 func16 ?_;(delta aa.m5 aZ ah bh r1 ad gM dC;dsimp only);refine aN (vs:=[.int .u64 e2,bt,fh,dn,c7,c1]) rfl λw1 s t _=>⟨λh=>(by cases h),λ_=>?_⟩;simp only[aw,cz];refine⟨bt,s.cell,?_⟩;have x:aC ai 47 #[bt] w1 (λv w'=>Ext w1 w'/\∃ (p:aq av) (e:Int),v=.tuple #[.pointer p,e]/\(e !=0)= !nn bt/\(nn bt=true->e=0/\∃b m1 m2 most:Nat,bt=(most:Int)/\p=some ⟨b,0,none⟩/\kp w' b m1 m2 most [] []/\w1.heap.size<=b/\w1.heap.size<=m1/\w1.heap.size<=m2)):=by
  cases hg:nn bt with
  |false=>
   refine(OG (m:=bt) (by rw[nn,nx]at hg;exact hg) w1).mono ?_;rintro _ _ ⟨rfl,rfl⟩;exact⟨.refl _ _,_,_,rfl,rfl,λh=>(by cases h)⟩
  |true=>
   obtain⟨most,rfl⟩:∃most:Nat,bt=(most:Int):=⟨bt.toNat,by simp[nn]at hg;omega⟩;refine(nN (most:=most) (by simp[nn]at hg;omega) w1).mono ?_;rintro _ w' ⟨b,m1,m2,rfl,h,hx,hb⟩;exact⟨hx,_,_,rfl,rfl,λ_=>⟨rfl,b,m1,m2,most,rfl,rfl,h,hb⟩⟩
 refine x.use ?_;rintro _ j ⟨k,K,n6,rfl,y,z⟩;have l:=s.ext k;refine⟨_,_,rfl,dn,l.cell,c7,l.cell,(r3 dn c7 j).use ?_⟩;rintro v d ⟨n,A⟩;obtain⟨L,n12,rfl,B,C⟩:∃ (p:aq av) (e:Int),v=Value.tuple #[.pointer p,e]/\(e !=0)= !(iC dn&&iC c7)/\((iC dn&&iC c7)=true->e=0/\∃b m:Nat,p=some ⟨b,0,none⟩/\l7 d b m dn c7/\j.heap.size<=b/\j.heap.size<=m):=by
  rcases A with ⟨hg,rfl⟩|⟨hg,b,m,rfl,h⟩
  .exact⟨none,1,rfl,by rw[hg];rfl,λh=>by rw[hg]at h;cases h⟩
  .exact⟨_,0,rfl,by rw[hg];rfl,λ_=>⟨rfl,b,m,rfl,h⟩⟩
 have u:=l.ext n;have D:aC ai 49 #[.pointer (some a),c1] d (λv w'=>Ext d w'/\∃ (p:aq av) (e:Int),v=.tuple #[.pointer p,e]/\(e !=0)= !np c1/\(np c1=true->e=0/\∃b:Nat,p=some ⟨b,0,none⟩)):=by
  cases hg:np c1 with
  |false=>
   refine(NH (p:=some a) (m:=c1) (by rw[np,nx]at hg;exact hg) d).mono ?_;rintro _ _ ⟨rfl,rfl⟩;exact⟨.refl _ _,_,_,rfl,rfl,λh=>(by cases h)⟩
  |true=>
   obtain⟨j_,rfl⟩:∃j_:Nat,c1=(j_:Int):=⟨c1.toNat,by simp[np]at hg;omega⟩;refine(nO (j_:=j_) (p:=a) (by simp[np]at hg;omega) d).mono ?_;rintro _ w' ⟨rfl,hx,_⟩;exact⟨hx,_,_,rfl,rfl,λ_=>⟨rfl,_,rfl⟩⟩
 refine⟨_,_,rfl,c1,u.cell,D.use ?_⟩;rintro _ M ⟨i,N,n17,rfl,E,F⟩;have c:=u.ext i;have o:=((t.trans k).trans n).trans i;refine⟨_,_,rfl,?_⟩;rw[y,B,E];have e:((!nn bt|| !(iC dn&&iC c7))|| !np c1)= !nq bt dn c7 c1:=by unfold nq;cases nn bt<;>cases iC dn&&iC c7<;>cases np c1<;>rfl
 rw[e];refine⟨λhb=>⟨o,.inl ⟨by simpa using hb,by trivial⟩⟩,λhb=>?_⟩;have hg:nq bt dn c7 c1=true:=by simpa using hb
 have g:=hg;unfold nq at g;rw[dH,dH]at g;obtain⟨rfl,a8,m1,m2,most,rfl,rfl,G,bz,cf,O⟩:=z g.1.1;obtain⟨rfl,hb,hm,rfl,H,P,Q⟩:=C g.1.2;obtain⟨rfl,sb,rfl⟩:=F g.2;refine⟨e2,c.cell,_,c.cell,fh,c.cell,dn,c.cell,c7,c.cell,c1,c.cell,(Af e2 most fh dn c7 c1 (some f) (some a) (some a8) (some hb) (some sb)).toArray,by kernel_rfl,aN rfl λR J r _=>⟨o.trans r,.inr ⟨hg,_,a8,m1,m2,hb,hm,sb,most,rfl,rfl,J,((G.ext n).ext i).ext r,(H.ext i).ext r,?_⟩⟩⟩;have fQ:=t.size;have hO:=k.size;have z3:=o.size;rintro q (rfl|rfl|rfl|rfl|rfl|rfl)<;>omega
theorem O5(e2 bt fh dn c7 c1:Int)(a:aq av)(w:I):aC ai 16 #[.agg #[.int .u64 e2,bt,fh,dn,c7,c1],.pointer none,.pointer a] w (λv w'=>Ext w w'/\v=.tuple #[.pointer none,(1:Int)]):=by
 refine okF (aa.m5 e2 bt fh dn c7 c1 none a) ao.m5 func16 ?_;(delta aa.m5 aZ ah bh r1 ad gM dC;dsimp only);exact aN (vs:=[.int .u64 e2,bt,fh,dn,c7,c1]) rfl λw1 c b _=>⟨λ_=>⟨b,rfl⟩,λh=>(by cases h)⟩
theorem qs(e2 bt fh dn c7 c1:Int)(w:I):aC ai 18 #[.agg #[.int .u64 e2,bt,fh,dn,c7,c1]] w (λv w'=>v=.bool (nq bt dn c7 c1)/\Ext w w'):=by
 refine okF (aa.qs e2 bt fh dn c7 c1) ao.qs func18 ?_;(delta aa.qs aZ bh r1 ad ah;dsimp only);refine aN (vs:=[.int .u64 e2,bt,fh,dn,c7,c1]) rfl λw1 a i _=>?_;simp only[aw,cz];refine⟨bt,a.cell,il (decide (bt<=4096)) (λ_ k b=>⟨bt,a.cell,b _ (.refl _ _)⟩) λag c=>?_⟩;have a:=a.ext c;refine il (decide (dn>=1)) (λ_ k b=>⟨dn,a.cell,b _ (.refl _ _)⟩) λl d=>?_;have a:=a.ext d;refine il (decide (dn<=100)) (λ_ k b=>⟨dn,a.cell,b _ (.refl _ _)⟩) λm e=>?_;have a:=a.ext e;refine il (decide (c7>=1)) (λ_ k b=>⟨c7,a.cell,b _ (.refl _ _)⟩) λaF f=>?_;have a:=a.ext f;refine il (decide (c7<=100)) (λ_ k b=>⟨c7,a.cell,b _ (.refl _ _)⟩) λn g=>?_;have a:=a.ext g;refine il (decide (c1>=1)) (λ_ k b=>⟨c1,a.cell,b _ (.refl _ _)⟩) λo h=>?_;have a:=a.ext h;refine il (decide (c1<=64)) (λ_ k b=>⟨c1,a.cell,b _ (.refl _ _)⟩) λp j=>⟨?_,((((((i.trans c).trans d).trans e).trans f).trans g).trans h).trans j⟩
 congr 1
 unfold nq nn np iC;rw[fL];simp;omega
end
def Ag(x:iE)(s k:ae)(e:Int):O Y:=.pointer (some ⟨x.lb,0,none⟩)::(lB++(.slice s.a s.len s.cap::(kS.c k++ [.int .i64 e])))
def vR(x:iE)(b0 bz q:Nat):Prop:=q=x.ab\/(b0<=q/\q<bz)
structure eE(w0:I)(b0 bz:Nat)(x:iE)(wb:Nat)(s k:ae)(e:Int)(S:cQ)(T:O bf)(c:Nat)(w:I):Prop where
 a:∃ (d n:Nat) (l:fJ) (cZ p:O Nat) (cO:O bf),eB w0 w (vR x b0 bz) d n l x.ab 6 S cZ p T cO c
 lb:Var w x.lb x.c 87
 v:Var w wb (Ag x s k e) 82
 kJ:Src 1 w s (ax ik)
 sc:s.len<=s.cap
 o:∀q,q=x.lb\/q=wb\/aB s q->b0<=q/\q<bz
 kK:¬aB s wb
 ab:x.ab<b0
 now:S.now=0
def fo(y:Int)(t:ae)(n m:Int)(b:aj)(e:Int):O Y:=[y,t,n,m,b,e]
theorem nr{y:Int}{t:ae}{n m:Int}{b:aj}{e:Int}:∀v∈fo y t n m b e,Plain v:=dN eu (dN trivial (dN eu (dN eu (dN tn (dN eu lA)))))
section
variable {w0 w w' w1:I}{b0 bz:Nat}{x:iE}{wb q n c m:Nat}{s k:ae}{e u:Int}{S aP:cQ}{T az:O bf}{zs us:O Y}{kn:TypeId}
theorem Ah{P:Prop}(a:zs.length=us.length)(c:∀v∈us,Plain v){K:I->Prop}(d:∀w',Var w' w.heap.size us kn->Ext w w'->K w')(e:P:=by trivial):an (w.alloc (.cells zs.toArray kn)) λw1=>b_ w1 w.heap.size us/\P/\an (setCells w1 w.heap.size 0 us) K:=
 aN (vs:=zs) rfl λw1 b hx _=>⟨b.bX a.symm c,e,cA b (us:=us) a.symm rfl λw' f g _=>d w' f (Ext.bN hx g (ba _))⟩
theorem q4{P:Prop}(a:Var w q zs kn)(b:zs.length=us.length)(c:∀v∈us,Plain v){K:I->Prop}(d:∀w',Var w' q us kn->af (λx=>x=q) w w'->K w')(e:P:=by trivial):b_ w q us/\P/\an (setCells w q 0 us) K:=
 ⟨a.bX b.symm c,e,cA a (us:=us) b.symm rfl λw' f g _=>d w' f g⟩
theorem eE.ext(h:eE w0 b0 bz x wb s k e S T c w)(hx:Ext w w'):eE w0 b0 bz x wb s k e S T c w':=by
 obtain⟨d,n,l,cZ,p,cO,a⟩:=h.a;exact {h with a:=⟨d,n,l,cZ,p,cO,a.ext hx⟩,lb:=h.lb.ext hx,v:=h.v.ext hx,kJ:=h.kJ.ext hx}
theorem eE.nt(h:eE w0 b0 bz x wb s k e S T c w)(b:b0<=q/\q<bz):¬S.W q:=by
 obtain⟨d,n,l,cZ,p,cO,a⟩:=h.a;have:=a.s.vE (.inr b);exact λf=>this.2 (f.2 this.1)
theorem eE.done{j:Nat}(h:eE w0 b0 bz x wb s k e S T c w)(hd:fA j S aP w w')(b:aP.now=S.now)(f:∃ (d n:Nat) (l:fJ) (cZ p:O Nat) (cO:O bf),eB w0 w' (vR x b0 bz) d n l x.ab 6 aP cZ p az cO m):eE w0 b0 bz x wb s k e aP az m w':=
 {a:=f,lb:=h.lb.ak hd.ak (h.nt (h.o _ (.inl rfl))),v:=h.v.ak hd.ak (h.nt (h.o _ (.inr (.inl rfl)))),kJ:=h.kJ.ak hd.ak λq g=>h.nt (h.o _ (.inr (.inr g))),sc:=h.sc,o:=h.o,kK:=h.kK,ab:=h.ab,now:=b.trans h.now}
theorem eE.set(h:eE w0 b0 bz x wb s k e S T c w)(f:b0<=q/\q<bz)(b:x.lb≠q/\wb≠q/\¬aB s q)(hc:af (λx=>x=q) w w'):eE w0 b0 bz x wb s k e S T c w':=by
 obtain⟨d,n,l,cZ,p,cO,a⟩:=h.a;have:=h.ab;exact {h with a:=⟨d,n,l,cZ,p,cO,a.kM (.inr f) J hc⟩,lb:=h.lb.ak hc b.1,v:=h.v.ak hc b.2.1,kJ:=h.kJ.ak hc λy g e=>b.2.2 (e▸g)}
theorem eE.err(h:eE w0 b0 bz x wb s k e S T c w)(u:Int):(∃v:Y,w.cell? ⟨wb,107,none⟩=some v)/\w.frozen? ⟨wb,107,none⟩=false/\eE w0 b0 bz x wb s k u S T c (w.setCell ⟨wb,107,none⟩ (.int .i64 u)):=by
 obtain⟨bW,b9⟩:=eP h.v (i:=107) (by show 107<108;decide);have b:=dX w wb 107 (.int .i64 u);have f:=eO h.v (i:=107) (.int .i64 u);obtain⟨d,n,l,cZ,p,cO,a⟩:=h.a;have:=h.ab;have hb:=h.o wb (.inr (.inl rfl));refine⟨bW,b9,{h with a:=⟨d,n,l,cZ,p,cO,a.kM (.inr hb) J b⟩,lb:=h.lb.ak b λe=>?_,v:=f,kJ:=h.kJ.ak b λy g e=>h.kK (e▸g)}⟩;exact absurd (Var.inj (e▸h.lb) h.v) (by decide)
theorem pE(h:eE w0 b0 bz x wb s k e S T c w):aC ai 25 #[.pointer (some x.lb)] w (λv w'=>v=.int .u64 0/\w=w'):=by
 obtain⟨d,n,l,cZ,p,cO,a⟩:=h.a;refine okF (aa.xz (some x.lb)) ao.xz func25 ?_;(delta aa.xz ay g7 fq aZ;dsimp only);refine⟨_,rfl,_,by rw[aw];exact h.lb.cell,(CU a.v).use ?_⟩;rintro _ _ ⟨rfl,rfl⟩;refine⟨_,rfl,(Nh a.s.at_).use ?_⟩;rintro _ _ ⟨rfl,rfl⟩;rw[h.now];exact⟨_,rfl,rfl,rfl⟩
theorem O6(h:eE w0 b0 bz x wb s k e S T c w)(hb:g1 w x):aC ai 31 #[.pointer (some x.lb),(1:Int),.agg bK.zero.c.toArray] w (λv w'=>v=.tuple #[(2:Int),true]/\Ext w w'):=by
 refine okF (aa.xB (some x.lb) 1 bK.zero.c.toArray) ao.xB func31 ?_;(delta aa.xB bC ay bn dC gM aZ ah nK ad fq gF;dsimp only);refine aN (vs:=bK.zero.c) rfl λw1 o p _=>aO ?_;have a:=p.trans (b1 w1);have j:=o.ext (b1 w1);generalize w1.drew=ag at a j;have b:=h.lb.ext a;have hb:=hb.ext a;refine⟨λ_=>False,_,rfl,id,_,by rw[aw];exact b.cell,_,rfl,id,_,by rw[aw];exact b.cell,(OJ hb.he 1).use ?_⟩;rintro _ C ⟨rfl,d⟩;refine⟨⟨none,0,0⟩,rfl,af.bL d,(OL (r:=x.rc) (hb.c7.ext d) (ej.2 rfl) rfl).use ?_⟩;rintro _ D ⟨t,rfl,ht,l,_⟩;refine⟨t,rfl,_,rfl,1,((b.ext d).ext l).cell,(r5 ht.src λq u=>ht.lt q u).use ?_⟩;rintro _ i ⟨bE,y,z,rfl,f,A⟩;refine⟨_,_,rfl,λh=>(by cases h),λ_=>aO ?_⟩;have g:=((d.trans l).trans A).trans (b1 i);have f:=f.ext (b1 i);generalize i.drew=B at g f;refine⟨λ_=>False,_,rfl,id,1,(b.ext g).cell,id,_,(j.ext g).rd (bK.aX _),(r6 B).use ?_⟩;rintro _ E ⟨rfl,m⟩;refine⟨_,rfl,λ_=>False,(OC (f.ext m) 14921627313678984130).use ?_⟩;rintro _ F ⟨rfl,n⟩;exact⟨2,true,rfl,af.bL n,rfl,((a.trans g).trans m).trans n⟩
theorem HU(a:Var w wb (Ag x s k e) 82):aC ai 115 #[.pointer (some ⟨wb,0,none⟩),.int .i64 0,.bool true] w (λv w'=>v=.int .i64 6/\w=w'):=by
 refine okF (aa.xS (some ⟨wb,0,none⟩) 0 true) ao.xS func115 ?_;(delta aa.xS ay cG ah b4;dsimp only);refine⟨_,rfl,17,by rw[aw];exact a.cell,λ_=>(OU w).use ?_,λh=>(by cases h)⟩;rintro _ _ ⟨rfl,rfl⟩;exact⟨_,rfl,rfl,rfl⟩
theorem O7(g:Var w wb (Ag x s k e) 82)(u:Int):aC ai 65 #[.pointer (some ⟨wb,0,none⟩),.int .i64 1,.agg (gr u).toArray] w (λv w'=>v=.agg (fo 1 fg 1 2 false e).toArray/\Ext w w'):=by
 refine okF (aa.xH (some ⟨wb,0,none⟩) 1 (gr u).toArray) ao.xH func65 ?_;(delta aa.xH fQ r1 ad bh ay bH mv aE aR fb aS;dsimp only);refine aN (vs:=gr u) rfl λw1 h c _=>aN (vs:=fo 0 fg 0 0 false 0) rfl λag i d _=>aO ?_;have b:=(c.trans d).trans (b1 ag);have he:=(h.ext d).ext (b1 ag);have f:=i.ext (b1 ag);generalize ag.drew=l at b he f;simp only[aw,cz];refine⟨id,1,he.cell,id,2,he.cell,_,rfl,id,e,by rw[aw];exact(g.ext b).cell,q4 (us:=fo 1 fg 1 2 false e) f rfl nr λm a j=>⟨1,a.cell,fg,a.cell,1,a.cell,2,a.cell,false,a.cell,e,a.cell,rfl,Ext.bN b j c.size⟩⟩
theorem O8(h:eE w0 b0 bz x wb s k e S T c w)(u:Int):aC ai 60 #[.pointer (some ⟨wb,0,none⟩),.agg (gr u).toArray] w (λv w'=>∃t:ae,v=.agg (fo 1 t 1 2 false e).toArray/\t.len=28/\Ext w w'):=by
 refine okF (aa.xE (some ⟨wb,0,none⟩) (gr u).toArray) ao.xE func60 ?_;(delta aa.xE fQ ad k_ bH bC ay eU aR w7 oQ fD eG st xg r1 aE bh fb aS mv;dsimp only);refine aN (vs:=gr u) rfl λw1 p f _=>aN (vs:=fo 0 fg 0 0 false 0) rfl λag q d _=>⟨gr u,(p.ext d).rd rfl,(O7 (((h.v.ext f).ext d)) u).use ?_⟩;rintro _ A ⟨rfl,r⟩;simp only[aw,cz];refine⟨1,fg,1,2,false,e,rfl,Ah (zs:=fo 0 fg 0 0 false 0) (us:=fo 1 fg 1 2 false e) rfl nr λi B C=>aO ?_⟩;have g:=(r.trans C).trans (b1 i);have y:=B.ext (b1 i);generalize i.drew=G at g y;have j:=(f.trans d).trans g;have he:=(p.ext d).ext g;refine⟨λ_=>False,_,rfl,id,s,by rw[aw];exact(h.v.ext j).cell,id,aH.zero.c,he.fE (o:=2) (n:=17) (by show 2+17<=22;decide),id,8080,he.cell,(sf (h.kJ.ext j) h.sc).use ?_⟩;rintro _ H ⟨t,rfl,ht,l⟩;have m:=y.ext l;refine⟨t,0,rfl,⟨_,m.cell⟩,bc.frozen m _ rfl,tr m λD a z _=>?_⟩
 replace a:Var D A.heap.size (fo 1 t 1 2 false e) 44:=a
 have I:=(f.trans d).size;have K:=r.size;have E:=((q.ext g).ext l).ak z (by have:=q.lt;omega);refine⟨1,a.cell,t,a.cell,1,a.cell,2,a.cell,false,a.cell,e,a.cell,q4 (us:=fo 1 t 1 2 false e) E rfl nr λcx b F=>⟨1,b.cell,t,b.cell,1,b.cell,2,b.cell,false,b.cell,e,b.cell,t,rfl,ht,?_⟩⟩;exact Ext.bN (Ext.bN (j.trans l) z J) F f.size
end
end Go.Proofs.YtbjddgakboindaaGreat
