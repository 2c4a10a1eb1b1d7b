/- Contracts of the functions that the statement reaches, and the plain laws over them; each theorem stands with its conditions. -/
import Derived.KernelRfl
import Derived.Test.YtkpjknbogcihmaaGreatDoorProg
import Derived.Test.YtkpjknbogcihmaaGreatDoorRows
import GoSem.ClaimSeven
import Derived.Test.YtkpjknbogcihmaaGreatDoorBTDen5
namespace Go.Proofs.YtkpjknbogcihmaaGreatDoor
open Go aQ Go.Proofs.Tryz
def kM(a:Int)(t:ai)(c d:Int):Y O:=[a,t,c,d]
def AM(aj:ah):UInt8:=if aj then 1 else 13
theorem Dd{a c d:Int}{t:ai}:∀v∈kM a t c d,Plain v:=cE cV (cE trivial (cE cV (cE cV jc)))
def AN(nv pt:aw av)(jR:Nat)(t:ai):Y O:=[.pointer nv,.pointer pt,.pointer (some jR),t,(24:Int),(64:Int)]
section
variable {w w' w1:I}{s t:ai}{aj:ah}{b:Y UInt8}{x l3 jR n:Nat}{T:TypeId}{src dst:aE}{sp dp:Nat}{an aI aD:UInt8}{l bo:Y UInt8}{zs:Y O}{a c d:Int}{nv pt:aw av}
theorem AO(f:Var w x zs 44)(g:zs.length=4){K:Int->ai->Int->Int->I->Prop}(h:∀w',Var w' x (kM a t c d) 44->af (λq=>q=x) w w'->K a t c d w'):
 bE w x (kM a t c d)/\(4:Nat)=4/\aq (setCells w x 0 (kM a t c d)) λag=>∃n13:Int,ag.cell? x=some (.int .i64 n13)/\∃e:ai,ag.cell? (Addr.add x 1)=some (.slice e.a e.len e.cap)/\∃n15:Int,ag.cell? (Addr.add x 2)=some (.int .i64 n15)/\∃n16:Int,ag.cell? (Addr.add x 3)=some (.int .i64 n16)/\K n13 e n15 n16 ag:=
 ⟨f.cl g.symm Dd,rfl,cY f (us:=kM a t c d) g.symm rfl λag b i _=>⟨a,b.cell,t,gz b rfl,c,gz b rfl,d,gz b rfl,h ag b i⟩⟩
theorem Il:(tb an sp dp aI).length=6:=by unfold tb;split<;>rfl
theorem Im:(jC src dst sp dp an aI aD).drop 45=ei src dst sp dp an:=by
 unfold jC;rw[show(45:Nat)=39+6 from rfl,←hV,ga dB,ga Il]
theorem AP:(jC src dst sp dp an aI aD).length=82:=by
 unfold jC;rw[bW,bW,dB,Il,nu]
theorem QC(h:Var w x (jC src dst sp dp an aI aD) T):aG w (Addr.add x 45) 0 37=some (ei src dst sp dp an):=by
 rw[az,h.e2 (by rw[AP];decide),Im,fb (by rw[nu];decide)]
theorem QD(h:Var w x (jC src dst sp dp an aI aD) T):aG w ((Addr.add x 45).add 17) 0 17=some dst.c:=by
 rw[az,az,h.e2 (by rw[AP];decide),show 0+45+17=45+17 from rfl,←hV,Im];unfold ei;rw[ga src.aM,eN dst.aM]
theorem QE(w:I):aA ae 13 #[.agg #[(0:Int),(1:Int),(1:Int)]] w (λv w'=>∃p:aw av,v=.tuple #[.pointer p,(0:Int)]/\Ext w w'):=by
 refine okF (Z.xD 0 1 1) ao.xD func13 ?_;(delta Z.xD aY aa ad bh;dsimp only);refine aU (vs:=[(0:Int),(1:Int),(1:Int)]) rfl λw1 b j _=>⟨0,b.cell,hN false (λ_ k a=>⟨0,b.cell,a _ (.refl _ _)⟩) λl c=>hN false (λ_ k a=>⟨1,gz (b.ext c) rfl,a _ (.refl _ _)⟩) λm d=>hN false (λ_ k a=>⟨1,gz ((b.ext c).ext d) rfl,a _ (.refl _ _)⟩) λn e=>hN false (λ_ k a=>⟨1,gz (((b.ext c).ext d).ext e) rfl,a _ (.refl _ _)⟩) λbd f=>hN false (λ_ k a=>⟨1,gz ((((b.ext c).ext d).ext e).ext f) rfl,a _ (.refl _ _)⟩) λbk i=>⟨λh=>absurd h (by decide),λ_=>?_⟩⟩;have g:=((((b.ext c).ext d).ext e).ext f).ext i;have X:=((((j.trans c).trans d).trans e).trans f).trans i;obtain⟨aS,_⟩:=cR.make (P:=ae) (enc:=pJ) 107 bk;refine⟨0,g.cell,1,gz g rfl,1,gz g rfl,_,_,aS,#[.pointer none,.pointer none,(0:Int),(1:Int),(1:Int),.map (some bk.heap.size)],by kernel_rfl,aL ⟨_,rfl,(X.trans (bZ _ _)).trans (bZ _ _)⟩⟩
theorem QF(w:I):aA ae 14 #[(200:Int)] w (λv w'=>∃p:aw av,v=.tuple #[.pointer p,(0:Int)]/\Ext w w'):=by
 refine okF (Z.xE 200) ao.xE func14 ?_;(delta Z.xE ad aZ aa;dsimp only);obtain⟨aS,_⟩:=cR.make (P:=ae) (enc:=pJ) 113 w;exact⟨λh=>absurd h (by decide),λ_=>⟨_,_,aS,aL ⟨_,rfl,(bZ _ _).trans (bZ _ _)⟩⟩⟩
theorem QG(w:I):aA ae 15 #[] w (λv w'=>∃jR:Nat,v=.pointer (some jR)/\Ext w w'):=by
 refine Z.JT w _ ?_;delta Z.uA aa;obtain⟨aS,_⟩:=cR.make (P:=ae) (enc:=pJ) 116 w;exact⟨_,_,aS,aL ⟨_,rfl,(bZ _ _).trans (bZ _ _)⟩⟩
theorem QH(c:Src 40 w s (er aj))(ht:iZ w):aA ae 4 #[s,.agg #[(0:Int),(1:Int),(1:Int)],(24:Int),(64:Int)] w (λv w'=>∃ (l3:Nat) (nv pt:aw av) (jR:Nat) (t:ai),v=.tuple #[.pointer (some l3),(0:Int)]/\Var w' l3 (AN nv pt jR t) 63/\aR 40 32 w' t (er aj)/\Ext w w'):=by
 have hl:s.len=1:=by have:=c.len;rw[h_]at this;omega
 refine okF (Z.xA s 0 1 1 24 64) ao.xA func4 ?_;(delta Z.xA ad br aY aa bh gf gH bl;dsimp only);refine aU (vs:=[(0:Int),(1:Int),(1:Int)]) rfl λw1 l d _=>bL (λb w'=>b=false/\Ext w1 w') (λk m=>⟨λh=>absurd (bI h) (by rw[hl];decide),λ_=>?_⟩) ?_
 .refine(Qw ⟨10,#[],#[]⟩ false (c.ext d) ⟨_,func10,rfl,rfl⟩ (λag n=>?_)).use ?_
  .refine Z.JR _ ag _ ?_
   (delta Z.uy aa br;dsimp only);refine aU (vs:=er aj) rfl λg o a _=>⟨_,o.rd h_,(Qy g (ht.ext (d.trans (n.trans a)))).use ?_⟩;rintro _ aC ⟨rfl,p⟩;exact⟨_,rfl,rfl,a.trans p⟩
  rintro _ g ⟨rfl,a⟩;exact⟨_,rfl,m _ _ ⟨rfl,a⟩⟩
 rintro _ q ⟨rfl,i⟩;have e:=l.ext i;have r:=d.trans i;refine⟨λh=>absurd h (by decide),λ_=>⟨0,e.cell,1,gz e rfl,1,gz e rfl,(QE q).use ?_⟩⟩;rintro _ u ⟨nv,rfl,x⟩;refine⟨_,_,rfl,λh=>absurd h (by decide),λ_=>(QF u).use ?_⟩;rintro _ y ⟨pt,rfl,z⟩;refine⟨_,_,rfl,λh=>absurd h (by decide),λ_=>(QG y).use ?_⟩;rintro _ E ⟨jR,rfl,A⟩;have f:=r.trans (x.trans (z.trans A));refine⟨_,rfl,(QB (c.ext f) (ht.ext f)).use ?_⟩;rintro _ bk ⟨t,rfl,B,C⟩;exact⟨t,rfl,aU (vs:=AN nv pt jR t) rfl λF D j _=>⟨_,nv,pt,jR,t,rfl,D,B.ext j,f.trans (C.trans j)⟩⟩
theorem QI(h:mH b aD an src dst l)(a:Src 1 w s (au b))(hc:s.len<=s.cap):aA ae 52 #[.pointer (some jR),s,.int .u64 1] w (λv w'=>∃t:ai,v=.tuple #[t,(0:Int)]/\aR 1 5 w' t (au b)/\Ext w w'):=by
 have i:=h.len;have j:=h.fU;refine okF (Z.xJ (some jR) s 1) ao.xJ func52 ?_;(delta Z.xJ ad gU z4 aa cT bq bl;dsimp only);refine⟨λh=>(by cases h),λ_=>(C6 h a hc).use ?_⟩;rintro _ w1 ⟨rfl,c⟩;refine⟨_,_,rfl,gL (us:=b4 false an 20 src dst false aD) (by rfl) dB hO λk e d=>⟨λh=>absurd h (by decide),λ_=>⟨false,by rw[az];exact pL e,λ_=>(qM (a.ext (c.trans d)) J).use ?_,λh=>absurd h (by decide)⟩⟩⟩;rintro _ aJ ⟨t,rfl,f,g,_⟩;exact⟨t,rfl,t,rfl,f,(c.trans d).trans g⟩
theorem QJ(hg:Var w l3 (AN nv pt jR t) 63)(h:gN aj b aD an src dst l)(g:Src 1 w s (au b))(hc:s.len<=s.cap):aA ae 23 #[.pointer (some l3),s,.int .u64 1] w (λv w'=>∃o:ai,v=.tuple #[o,.agg (kM 0 ⟨none,0,0⟩ 0 0).toArray,true]/\Src 1 w' o (au b)/\o.len<=o.cap/\Ext w w'):=by
 have hl:s.len=b.length:=len8 g;have z:=h.len;have B:20<=cp aj:=by unfold cp;split<;>decide
 obtain⟨A,ar,aK,i⟩:=lh g J;have r:(((s.len:Int):Int)==0)=false:=beq_eq_false_iff_ne.2 J;refine okF (Z.xG (some l3) s 1) ao.xG func23 ?_;(delta Z.xG gV ad bc cd bS bn b7 aa BQ aY bD a_ bh pt eD aZ;dsimp only);refine aU (vs:=kM 0 ⟨none,0,0⟩ 0 0) rfl λw1 m f _=>?_;rcases h with ⟨rfl,h⟩|⟨rfl,h⟩
 .have h0:(au b)[0]? =some (.int .u8 69):=by obtain⟨cx,bB,b2,bQ,rfl,_⟩:=h.bs;rfl
  refine bL (λb w'=>b=false/\w1=w') (λk n=>⟨λh=>(by rw[r]at h;cases h),λ_=>⟨A,ar,(i w1 f 0 _ h0).1,69,(i w1 f 0 _ h0).2,by decide,n _ _ ⟨by decide,rfl⟩⟩⟩) ?_;rintro _ _ ⟨rfl,rfl⟩;refine⟨λh=>absurd h (by decide),λ_=>⟨_,rfl,some jR,by rw[az];exact(hg.ext f).cell,(QI h (g.ext f) hc).use ?_⟩⟩;rintro _ C ⟨o,rfl,j,p⟩;have D:o.len=b.length:=gr j;refine⟨o,_,rfl,λh=>absurd h (by decide),λ_=>⟨λh=>(by have h:=eq_of_beq h;omega),λ_=>AO (m.ext p) rfl (a:=0) (t:=⟨none,0,0⟩) (c:=0) (d:=0) λE F u=>?_⟩⟩;have X:=Ext.bR (f.trans p) u (bu _);refine⟨o,rfl,(j.ax u λq x e=>?_).src,j.2.1,X⟩;have:=aR.ij j x (e▸m.ext p);exact absurd this (by decide)
 .have h0:(au b)[0]? =some (.int .u8 96):=by obtain⟨cx,bB,rfl,_⟩:=h.bs;rfl
  refine bL (λb w'=>b=true/\w1=w') (λk n=>⟨λh=>(by rw[r]at h;cases h),λ_=>⟨A,ar,(i w1 f 0 _ h0).1,96,(i w1 f 0 _ h0).2,by decide,n _ _ ⟨by decide,rfl⟩⟩⟩) ?_;rintro _ _ ⟨rfl,rfl⟩;refine⟨λ_=>AO m rfl (a:=0) (t:=⟨none,0,0⟩) (c:=0) (d:=0) λG H y=>?_,λh=>absurd h (by decide)⟩;have X:=Ext.bR f y (bu _);exact⟨s,rfl,g.ext X,hc,X⟩
theorem QK(h:gN src.aj b aD an src dst l)(x:an=6\/an=17)(hg:tg src.aj src dst)(hl:b.length<=400)(y:Src 1 w s (au b))(hc:s.len<=s.cap):aA ae 26 #[s,.agg (jC src dst sp dp an aI aD).toArray,(0:Int)] w (λv w'=>∃ (o:ai) (b':Y UInt8),v=.agg (kM 3 o 0 0).toArray/\aR 1 5 w' o (au b')/\gN src.aj b' 64 (ix src.aj) dst src (iy src.aj (mJ src.aj) (AM src.aj) dst src (lj src.aj b))/\Ext w w'):=by
 refine Z.JV s _ 0 w _ ?_;(delta Z.uC gV bq aa ad eD b7 w8 aY bD a_ bh;dsimp only);refine aU (vs:=jC src dst sp dp an aI aD) rfl λw1 g i _=>aU (vs:=kM 0 ⟨none,0,0⟩ 0 0) rfl λag j f _=>bL (λn w'=>n=(((AM src.aj).toNat:Nat):Int)/\ag=w') (λk m=>⟨src.aj,(g.ext f).cell,λh=>m _ _ ⟨by rw[h];rfl,rfl⟩,λh=>m _ _ ⟨by rw[h];rfl,rfl⟩⟩) ?_;rintro _ _ ⟨rfl,rfl⟩;have p:=i.trans f;refine⟨_,QD (g.ext f),(Qp h x hg hl (y.ext p) hc).use ?_⟩;rintro _ aJ ⟨o,b',rfl,z,hb,r,A⟩;refine⟨o,_,rfl,AO (j.ext r) rfl (a:=3) (t:=o) (c:=0) (d:=0) λaP C u=>⟨o,b',rfl,z.ax u λq B e=>?_,hb,Ext.bR (p.trans r) u i.size⟩⟩;have:=A q B;have:=j.lt;omega
theorem QL(hg:Var w l3 (AN nv pt jR t) 63)(ht:aR 40 32 w t (er src.aj))(C:iZ w)(h:gN src.aj b aD an src dst (e_ src.aj an src dst sp dp aI bo))(g:ox src.aj an src dst sp dp)(L:bo.length<=300)(gm:sp<65536)(iq:dp<65536)(D:Src 1 w s (au b))(hc:s.len<=s.cap):aA ae 7 #[.pointer (some l3),s,.int .u64 1] w (λv w'=>∃ (o:ai) (b':Y UInt8),v=.agg (kM 3 o 0 0).toArray/\aR 1 5 w' o (au b')/\gN src.aj b' 64 (ix src.aj) dst src (iy src.aj (mJ src.aj) (AM src.aj) dst src (lj src.aj b))/\Ext w w'):=by
 have n:tg src.aj src dst:=⟨⟨rfl,g.2.2.2.1⟩,g.2.2.2.2.2.2,g.2.2.2.2.1⟩;have M:=h.len;have N:cp src.aj<=40:=by unfold cp;split<;>decide
 have E:b.length<=400:=by
  have e:(e_ src.aj an src dst sp dp aI bo).length<=20+bo.length:=by rw[nq];split<;>omega
  omega
 refine okF (Z.xB (some l3) s 1) ao.xB func7 ?_;(delta Z.xB gV ad EI aZ b7 aa gU z3 bx pt fk a_ hG wP w8 aY bD bh;dsimp only);refine aU (vs:=kM 0 ⟨none,0,0⟩ 0 0) rfl λw1 p f _=>⟨λh=>(by cases h),λ_=>(QJ (hg.ext f) h (D.ext f) hc).use ?_⟩;rintro _ O ⟨o,rfl,r,u,F⟩;refine⟨o,_,⟨none,0,0⟩,_,_,_,rfl,te (us:=kM 0 ⟨none,0,0⟩ 0 0) rfl Dd λP Q i=>⟨λh=>absurd h (by decide),λ_=>(HW h g J gm iq (r.ext i) u).use ?_⟩⟩;rintro _ R ⟨rfl,x⟩;refine⟨_,_,rfl,gL (us:=jC src dst sp dp an aI aD) (by rfl) AP (hC hO (hC (by rw[AH];exact q2 _ _ _ _ _ _) q7)) λcN G y=>⟨λh=>absurd h (by decide),λ_=>aL ?_⟩⟩;have X:=(F.trans i).trans ((x.trans y).trans (bH cN));have z:=(i.trans (x.trans y)).trans (bH cN);have j:=G.ext (bH cN);generalize cN.drew=S at X z j;refine⟨λ_=>False,_,rfl,id,t,by rw[az];exact((hg.ext f).ext X).cell,id,_,QC j,(Qz n iq ((ht.ext f).ext X).src (C.ext (f.trans X))).use ?_⟩;rintro _ T ⟨rfl,k⟩;refine⟨_,_,rfl,λ_=>⟨_,(j.ext k).rd AP,(QK h g.1 n E ((r.ext z).ext k) u).use ?_⟩,λh=>absurd h (by decide)⟩;rintro _ U ⟨l,b',rfl,A,H,I⟩;have m:=X.trans (k.trans I);refine⟨_,l,_,_,rfl,AO (p.ext m) rfl (a:=3) (t:=l) (c:=0) (d:=0) λV W B=>⟨l,b',rfl,A.ax B λq K e=>?_,H,Ext.bR (f.trans m) B (bu _)⟩⟩;have:=aR.ij A K (e▸p.ext m);exact absurd this (by decide)
end
def iS:Y UInt8:=[69,0,0,28,0,0,0,0,9,17,168,210,9,0,0,0,0,0,0,0,0,5,0,80,0,8,246,137]
def hU:Y UInt8:=[69,0,0,28,0,0,0,0,9,17,168,210,9,0,0,0,0,0,0,0,0,5,31,144,0,8,215,73]
theorem C3:mF 8 9 17 b_ aE.zero=43218:=by
 unfold mF;rw[nj (by decide+kernel)];decide+kernel
theorem QM:e_ false 17 b_ aE.zero 5 80 0 []=[0,5,0,80,0,8,246,137]:=by
 have e:iR false 17 b_ aE.zero 5 80 0 []=63113:=by
  unfold iR;dsimp only;rw[nj (by decide+kernel)];decide+kernel
 unfold e_;rw[e];decide+kernel
theorem De:oy b_ aE.zero 5 80 17 0 9 []=iS:=by
 unfold oy;dsimp only;rw[show b_.aj=false from rfl,QM,if_neg (by decide)];unfold l1;rw[show([0,5,0,80,0,8,246,137]:Y UInt8).length=8 from rfl,C3];decide+kernel
theorem Df{dp:Nat}(h:dp≠0):AE b_ aE.zero 5 dp 17 9:=⟨⟨.inr rfl,by decide,h,by decide+kernel,by decide+kernel,rfl,rfl⟩,by decide⟩
theorem Io:∀v∈nt,Plain v:=hC hO (hC (q2 _ _ _ _ _ _) q7)
section
variable {w w' w1:I}{s t o y:ai}{l lo j4:Y UInt8}{a n rb:Nat}
theorem Ip{dp:Nat}{b:Y UInt8}(h:dp≠0)(h2:dp<65536)(hb:oy b_ aE.zero 5 dp 17 0 9 []=b)(c:Src 1 w s (au b))(hc:s.len<=s.cap):aA ae 24 #[s] w (λv w'=>v=.tuple #[.agg (jC b_ aE.zero 5 dp 17 0 9).toArray,(0:Int)]/\Ext w w'):=by
 have a:=gN.of (aI:=0) (bo:=[]) (Df h) (by decide);rw[hb]at a;exact HW a (Df h).1 (by decide) (by decide) h2 c hc
theorem QN:65535-ew (65535-43218+kj [0,0,0,0] [0,0,0,0])=43218:=by
 have e:65535-43218+kj [0,0,0,0] [0,0,0,0]=153387:=by decide+kernel
 rw[e,←s0 (by decide),nj (by decide)]
theorem QO:65535-ew (65535-63113+kj [0,0,0,0] [0,0,0,0])=63113:=by
 have e:65535-63113+kj [0,0,0,0] [0,0,0,0]=133492:=by decide+kernel
 rw[e,←s0 (by decide),nj (by decide)]
theorem qO:65535-ew (65535-63113+kj ((iS.drop 22).take 2) (bp 8080 2))=55113:=by
 have e:65535-63113+kj ((iS.drop 22).take 2) (bp 8080 2)=75957:=by decide+kernel
 rw[e,←s0 (by decide),nj (by decide)]
theorem QP(h:hT w rb s iS):aA ae 324 #[.pointer (some rb),(16:Int),.agg aE.zero.c.toArray] w (λv w'=>v=.tuple #[]/\hT w' rb s iS/\af (aN s) w w'):=by
 have hl:=h.C9;refine okF (Z.y6 (some rb) 16 aE.zero.c.toArray) ao.y6 func324 ?_;(delta Z.y6 aa bl pt a_ ak bq ad fI dc;dsimp only);refine aU (vs:=aE.zero.c) rfl λw1 H r _=>⟨_,H.rd aE.zero.aM,(g7 aE.zero w1).use ?_⟩;rintro _ I ⟨t,rfl,ht,g,u,z⟩;rw[HB]at ht g;have g:t.len=4:=g;have i:=(h.ext r).ext u;refine⟨t,rfl,?_⟩;rw[show IntKind.wrap .i64 (16+(t.len:Int))=20 from by rw[g];decide];have K:Src 1 I ⟨bj s.a 1 (Int.toNat 16) s.cap,Int.toNat 20-Int.toNat 16,s.cap-Int.toNat 16⟩ (au [0,0,0,0]):=by
  have L:=Src.sub i.o.src i.o.2.1 (lo:=16) (hi:=20) (by decide) J;exact L
 have U:=h.o.2.1;refine⟨_,rfl,s,by rw[az];exact i.v.cell,⟨by decide,J⟩,⟨by decide,by decide⟩,(qM K (by decide)).use ?_⟩;rintro _ aJ ⟨o,rfl,M,f,A⟩;have B:=i.ext f;obtain⟨x,e,j,l⟩:=B.copy (a:=16) (k:=[0,0,0,0]) (ht.ext f).src (by decide) (by decide);rw[show ll 16 [0,0,0,0] iS=iS from by decide+kernel]at j;have p:∀q,aN s q->q<w.heap.size:=λq b=>h.o.lt q b;have V:=r.size;have W:=u.size;have C:=(ht.ext f).ax l λq b d=>by have:=z q b;have:=p q d;omega
 have D:=M.ax l λq b d=>by have:=A q b;have:=p q d;omega
 have N:af (aN s) w x:=(af.bt ((r.trans u).trans f)).trans l;refine⟨o,rfl,_,rfl,s,by rw[az];exact B.v.cell,⟨by decide,J⟩,_,x,e,lF (λw'=>hT w' rb s iS/\af (aN s) x w') (λk O=>⟨_,rfl,false,j.v.cell,λ_=>(HZ j (a:=10) (n:=43218) (by decide) (by decide+kernel) (by decide)).use ?_,λh=>(by cases h)⟩) ?_⟩
 .rintro _ _ ⟨rfl,rfl⟩
  refine⟨_,rfl,(HY D.src C.src rfl rfl (by decide) (by decide)).use ?_⟩;rintro _ X ⟨rfl,E⟩;rw[QN];refine⟨_,rfl,(H0 (j.ext E) (a:=10) (n:=43218) (by decide) (by decide)).use ?_⟩;rintro _ Y ⟨rfl,F,P⟩;rw[show ll 10 (bp 43218 2) iS=iS from by decide+kernel]at F;exact⟨rfl,O _ ⟨F,(af.bt E).trans P⟩⟩
 rintro ab ⟨Q,y⟩;have ac:=f.size;have ag:=l.size;have R:=C.ax y λq b d=>by have:=z q b;have:=p q d;omega
 have S:=D.ax y λq b d=>by have:=A q b;have:=p q d;omega
 refine(H3 Q (n:=63113) (m:=63113) (by decide+kernel) (by decide) QO (by decide) S.src R.src rfl rfl (by decide)).use ?_;rintro _ ah ⟨rfl,G,T⟩;rw[show ll 26 (bp 63113 2) iS=iS from by decide+kernel]at G;exact⟨rfl,rfl,G,(N.trans y).trans T⟩
theorem QQ(F:Src 1 w s (au iS))(hc:s.len<=s.cap):aA ae 274 #[.slice s.a s.len s.cap,.int .i64 1,.agg aE.zero.c.toArray,.int .u16 8080] w (λv w'=>∃t:ai,v=.tuple #[.slice t.a t.len t.cap,.int .i64 0]/\aR 1 5 w' t (au hU)/\Ext w w'/\du w t):=by
 refine okF (Z.yQ s 1 aE.zero.c.toArray 8080) ao.yQ func274 ?_;(delta Z.yQ gU z3 aa ad br bq bx bl dc ak xs a_;dsimp only);refine aU (vs:=aE.zero.c) rfl λw1 G H _=>(Ip (by decide) (by decide) De (F.ext H) hc).use ?_;rintro _ ag ⟨rfl,l⟩;refine⟨_,_,rfl,gL (us:=nt) (by rfl) (by rfl) Io λN O m=>⟨λh=>(by cases h),λ_=>⟨_,((G.ext l).ext m).rd aE.zero.aM,(mm aE.zero N).use ?_⟩⟩⟩;rintro _ p ⟨rfl,r⟩;have P:=((H.trans l).trans m).trans r;have I:=((G.ext l).ext m).ext r;have J:=O.ext r;refine⟨_,rfl,bL (λb w'=>b=false/\p=w') (λk x=>⟨λh=>(by cases h),λ_=>⟨false,I.cell,false,J.cell,x _ _ ⟨rfl,rfl⟩⟩⟩) ?_⟩;rintro _ _ ⟨rfl,rfl⟩;refine⟨λh=>(by cases h),λ_=>?_⟩;have y:=bH p;have d:=P.trans y;have z:=I.ext y;have K:=J.ext y;refine aL ?_;generalize p.drew=ab at d z K;refine⟨λ_=>False,id,nt,K.rd (by rfl),(qM (F.ext d) (by decide)).use ?_⟩;rintro _ Q ⟨o,rfl,R,e,S⟩;refine⟨o,rfl,af.bt e,(nt++ [Value.slice o.a o.len o.cap]).toArray,by kernel_rfl,?_⟩;refine aU (vs:=nt++ [.slice o.a o.len o.cap]) rfl ?_;intro f T g _;refine bL (λn w'=>n=12/\f=w') (λk x=>⟨false,((z.ext e).ext g).cell,λh=>(by cases h),λ_=>x _ _ ⟨rfl,rfl⟩⟩) ?_;rintro _ _ ⟨rfl,rfl⟩;have i:=bH f;have A:=((z.ext e).ext g).ext i;have L:hT f.drew Q.heap.size o iS:=⟨T.ext i,(R.ext g).ext i,rfl⟩;have M:=((d.trans e).trans g).trans i;refine aL ?_;generalize f.drew=U at A L M;refine⟨λ_=>False,id,_,A.rd aE.zero.aM,id,_,A.rd aE.zero.aM,(g7 aE.zero U).use ?_⟩;rintro _ b5 ⟨t,rfl,ht,j,B,ac⟩;rw[HB]at j;have j:t.len=4:=j;refine⟨t,rfl,?_⟩;rw[show IntKind.wrap .i64 (12+(IntKind.wrap .i64 (1*((t.len:Nat):Int))))=16 from by rw[j];decide,show IntKind.wrap .i64 (2*1)=2 from by decide];refine⟨af.bt B,(QP (L.ext B)).use ?_⟩;rintro _ cr ⟨rfl,W,X⟩;refine⟨rfl,(Qa (n:=8080) (u:=55113) (v:=63113) W (by decide) (by decide+kernel) (by decide) qO (by decide)).use ?_⟩;rintro _ ah ⟨rfl,C,V,Y,fo⟩;rw[show ll 26 (bp 55113 2) (ll 22 (bp 8080 2) iS)=hU from by decide+kernel]at C;have D:∀q,aN o q->w.heap.size<=q:=λq E=>cB d.size (S q E);exact⟨rfl,_,rfl,o,by rw[az];exact C.v.cell,o,rfl,C.o,Ext.dE (Ext.dE (M.trans B) X D) Y λq E=>D q (fo q E),D⟩
theorem QR(b:Src 1 w s (au iS))(hc:s.len<=s.cap):aA ae 268 #[s,.agg aE.zero.c.toArray,.int .u16 8080] w (λv w'=>∃t:ai,v=.tuple #[t,(0:Int)]/\aR 1 5 w' t (au hU)/\Ext w w'/\du w t):=by
 refine okF (Z.yO s aE.zero.c.toArray 8080) ao.yO func268 ?_;(delta Z.yO aa eD;dsimp only);refine aU (vs:=aE.zero.c) rfl λw1 d a _=>⟨_,d.rd aE.zero.aM,(QQ (b.ext a) hc).use ?_⟩;rintro _ g ⟨t,rfl,ht,e,hf⟩;exact⟨t,_,rfl,t,rfl,ht,a.trans e,λq f=>cB a.size (hf q f)⟩
end
def pP:Y UInt8:=[0,5,31,144,0,8,215,73]
def vK(l:Y UInt8)(k:Nat):Y O:=false::au (gC 12++(l.take k++gC (4-k)))
def lZ:Y O:=b4 false 17 20 b_ aE.zero false 9
section
variable {w w' w1:I}{s:ai}
theorem Iq{a b cf d:UInt8}(q:Src 1 w s (au [a,b,cf,d])):aA ae 91 #[s] w (λv w'=>v=.agg (m5 [a,b,cf,d] rfl).c.toArray/\Ext w w'):=by
 obtain⟨A,ar,_,r⟩:=lh q (by show 0<4;decide);refine okF (Z.zw s) ao.zw func91 ?_;(delta Z.zw jo aa c3 ad bc cd bS bn ak st w6;dsimp only);refine aU (vs:=aE.zero.c) rfl λw1 t g C=>⟨_,Fc w1,gL (us:=aE.zero.c) (by rfl) aE.zero.aM (aE.plain _) λaC u j=>?_⟩;refine⟨λi w'=>∃k:Nat,i=k/\k<=4/\Ext w w'/\Var w' w.heap.size aE.zero.c 24/\Var w' w1.heap.size (vK [a,b,cf,d] k) 24,λi _=>((4:Int)-i).toNat,⟨0,rfl,by decide,g.trans j,t.ext j,u⟩,?_⟩;rintro _ aJ ⟨k,rfl,D,e,l,f⟩;refine⟨λh=>?_,λh=>?_⟩
 .have h:k<4:=by have:=bI h;omega
  obtain⟨c,hc,x,hlen⟩:∃c:UInt8,(au [a,b,cf,d])[k]? =some (.int .u8 (c.toNat:Int))/\(vK [a,b,cf,d] k).set (13+k) (.int .u8 (c.toNat:Int))=vK [a,b,cf,d] (k+1)/\(vK [a,b,cf,d] k).length=17:=by
   rcases(by omega:k=0\/k=1\/k=2\/k=3) with rfl|rfl|rfl|rfl
   .exact⟨a,rfl,rfl,rfl⟩
   .exact⟨b,rfl,rfl,rfl⟩
   .exact⟨cf,rfl,rfl,rfl⟩
   .exact⟨d,rfl,rfl,rfl⟩
  have p:=r aJ e k _ hc;obtain⟨bU,b1⟩:=e9 f (i:=13+k) J;have y:Int.toNat (IntKind.wrap .i64 (12+(k:Int)))*1=12+k:=by rw[bF J J];omega
  have z:((4:Int)-((k:Int)+1)).toNat<((4:Int)-(k:Int)).toNat:=by omega
  rw[y,az,az,show 0+1+(12+k)=13+k from J,bF (n:=12+(k:Int)) J J,bF (n:=(k:Int)+1) J J];have m:=e8 f (i:=13+k) (.int .u8 (c.toNat:Int));rw[x]at m;have o:=eg aJ w1.heap.size (13+k) (.int .u8 (c.toNat:Int));exact⟨A,ar,p.1,_,p.2,⟨J,J⟩,bU,b1,aL ⟨⟨k+1,rfl,h,Ext.bR e o g.size,l.ax o J,m⟩,z⟩⟩
 .have h:k=4:=by have:=ck h;omega
  subst h;refine⟨_,f.rd (by rfl),h7 l aE.zero.aM (us:=vK [a,b,cf,d] 4) (by rfl) (aE.plain (m5 [a,b,cf,d] rfl)) λE _ B=>⟨rfl,Ext.bR e B (bu _)⟩⟩
theorem QS(g:Src 1 w s (au hU))(hc:s.len<=s.cap):aA ae 49 #[s] w (λv w'=>v=.tuple #[.agg lZ.toArray,(0:Int)]/\Ext w w'):=by
 have hl:s.len=28:=len8 g;obtain⟨A,ar,_,c⟩:=lh g (by decide);refine okF (Z.zt s) ao.zt func49 ?_;(delta Z.zt z4 aa ad bc cd bS bn bx h4 fe ak fI hJ w4;dsimp only);refine aU (vs:=nk) (by kernel_rfl) λw1 x y _=>⟨nk.toArray,by kernel_rfl,gL (us:=nk) (by rfl) (by rfl) (hO (aj:=false) (an:=0) (a:=0) (src:=aE.zero) (dst:=aE.zero) (part:=false) (aD:=0)) λaC G o=>⟨λh=>absurd (bI h) J,λ_=>⟨λh=>absurd (bI h) J,λ_=>?_⟩⟩⟩;have p:=y.trans o;have q:=bH aC;have bm:=c aC p 0 _ (rfl:(au hU)[0]? =some (.int .u8 69));refine⟨A,ar,bm.1,69,bm.2,by decide,λh=>absurd h (by decide+kernel),λ_=>aL ?_⟩;have e:=p.trans q;have r:=(x.ext o).ext q;generalize aC.drew=f at e r;have bm:=c f e 0 _ (rfl:(au hU)[0]? =some (.int .u8 69));have z:IntKind.wrap .i64 (4*(IntKind.wrap .i64 (Int.tmod 69 16)))=20:=by decide+kernel
 refine⟨λ_=>False,A,ar,bm.1,id,69,bm.2,by decide,(mZ (g.ext e) (a:=2) (k:=2) (by decide) (by decide) (by decide)).use ?_⟩;rintro _ _ ⟨rfl,rfl⟩;rw[show e3 hU 2 2=28 by decide+kernel,z,hl];have B:Src 1 f ⟨bj s.a 1 0 s.cap,20-0,s.cap-0⟩ (au (hU.take 20)):=Src.sub (g.ext e) hc (lo:=0) (hi:=20) (by decide) J;refine⟨_,rfl,af.refl _ _,λh=>absurd h (by decide+kernel),λ_=>⟨λh=>absurd h (by decide+kernel),λ_=>⟨λh=>absurd h (by decide+kernel),λ_=>⟨λh=>absurd h (by decide+kernel),λ_=>⟨λh=>absurd h (by decide+kernel),λ_=>⟨⟨by decide,J⟩,(AB B (by decide)).use ?_⟩⟩⟩⟩⟩⟩;rintro _ _ ⟨rfl,rfl⟩;rw[show dy (hU.take 20)=65535 by decide+kernel,nj (by decide)];have l:=c f e 8 _ (rfl:(au hU)[8]? =some (.int .u8 9));have m:=c f e 6 _ (rfl:(au hU)[6]? =some (.int .u8 0));refine⟨_,rfl,λh=>absurd h (by decide),λ_=>⟨A,ar,⟨by decide,by decide⟩,9,l.2,bL (λb w'=>b=false/\f=w') (λk C=>⟨λh=>absurd h (by decide),λ_=>⟨A,ar,⟨by decide,by decide⟩,0,m.2,C _ _ ⟨by decide,rfl⟩⟩⟩) ?_⟩⟩;rintro _ _ ⟨rfl,rfl⟩;refine⟨λh=>absurd h (by decide),λ_=>aL ?_⟩;have t:=bH f;have d:=e.trans t;have u:=r.ext t;generalize f.drew=i at d u;have D:=c i d 9 _ (rfl:(au hU)[9]? =some (.int .u8 17));have m:=c i d 6 _ (rfl:(au hU)[6]? =some (.int .u8 0));have E:=c i d 7 _ (rfl:(au hU)[7]? =some (.int .u8 0));have l:=c i d 8 _ (rfl:(au hU)[8]? =some (.int .u8 9));have b2:Src 1 i ⟨bj s.a 1 12 s.cap,16-12,s.cap-12⟩ (au [9,0,0,0]):=Src.sub (g.ext d) hc (lo:=12) (hi:=16) (by decide) J;have bQ:Src 1 i ⟨bj s.a 1 16 s.cap,20-16,s.cap-16⟩ (au [0,0,0,0]):=Src.sub (g.ext d) hc (lo:=16) (hi:=20) (by decide) J;refine⟨λ_=>False,A,ar,⟨by decide,by decide⟩,id,17,D.2,⟨by decide,J⟩,⟨by decide,by decide⟩,⟨by decide,J⟩,⟨by decide,by decide⟩,A,ar,⟨by decide,by decide⟩,id,0,m.2,A,ar,⟨by decide,by decide⟩,id,0,E.2,by decide,A,ar,⟨by decide,by decide⟩,id,9,l.2,(Iq b2).use ?_⟩;rintro _ H ⟨rfl,j⟩;refine⟨_,rfl,af.bt j,(Iq (bQ.ext j)).use ?_⟩;rintro _ I ⟨rfl,n⟩;exact⟨_,rfl,af.bt n,lZ.toArray,by kernel_rfl,h7 ((u.ext j).ext n) (by rfl) (by rfl) hO λK _ F=>⟨rfl,Ext.bR ((d.trans j).trans n) F (bu _)⟩⟩
theorem QT(a:Src 1 w s (au pP)):aA ae 93 #[.agg lZ.toArray,s] w (λv w'=>v=true/\Ext w w'):=by
 have hl:s.len=8:=len8 a;refine okF (Z.zx lZ.toArray s) ao.zx func93 ?_;(delta Z.zx aa bl ap fI;dsimp only);rw[hl];refine aU (vs:=lZ) rfl λw1 e b _=>⟨_,e.rd (by rfl),(HJ (n:=8) (by decide) w1).use ?_⟩;rintro _ j ⟨t,rfl,f,c,hf⟩;obtain⟨cK,g,d,h,i,_⟩:=h8 (w0:=w1) f hf c ((a.ext b).ext c) (by decide);rw[hl]at d;refine⟨t,rfl,cK,g,d,(AB h.src (by decide)).use ?_⟩;rintro _ _ ⟨rfl,rfl⟩;rw[show dy (ft false 17 b_ aE.zero 8++pP)=65535 by decide+kernel,nj (by decide)];exact⟨_,rfl,rfl,b.trans i⟩
theorem Ir(e:Src 1 w s (au pP)):aA ae 51 #[.agg lZ.toArray,s] w (λv w'=>v=.tuple #[.agg (eJ 5 8080 0 6 false 8).toArray,(0:Int)]/\Ext w w'):=by
 have hl:s.len=8:=len8 e;obtain⟨A,ar,_,O⟩:=lh e (by decide);refine okF (Z.zu lZ.toArray s) ao.zu func51 ?_;(delta Z.zu jn b7 aa cJ bS ad fe bc cd bn ak cT bq br st e0 ef bh aY o2;dsimp only);refine aU (vs:=lZ) rfl λw1 o G al=>aU (vs:=eJ 0 0 0 0 false 0) rfl λag f H am=>aU (vs:=eJ 0 0 0 0 false 0) rfl λg P r an=>aU (vs:=eJ 0 0 0 0 false 0) rfl λaC Q p ap=>lg (P.ext p) (a':=0) (b':=0) (c':=0) (d':=0) (e':=false) (f':=0) λaH aq q=>lg (Q.ax q J) (a':=0) (b':=0) (c':=0) (d':=0) (e':=false) (f':=0) λj R t=>?_;have l:=((((o.ext H).ext r).ext p).ax q (by have:=o.lt;omega)).ax t (by have:=o.lt;omega);have S:=(((f.ext r).ext p).ax q (by have:=f.lt;omega)).ax t (by have:=f.lt;omega);have u:Ext w j:=Ext.bR (Ext.bR (((G.trans H).trans r).trans p) q J) t J;refine bL (λn w'=>n=8/\j=w') (λk c=>⟨17,by rw[az];exact l.cell,λh=>absurd h (by decide),λ_=>c _ _ ⟨rfl,rfl⟩⟩) ?_;rintro _ _ ⟨rfl,rfl⟩;refine⟨17,by rw[az];exact l.cell,bL (λb w'=>b=false/\j=w') (λk c=>⟨λ_=>⟨17,by rw[az];exact l.cell,c _ _ ⟨by decide,rfl⟩⟩,λh=>absurd h (by decide)⟩) ?_⟩;rintro _ _ ⟨rfl,rfl⟩;refine⟨λh=>absurd h (by decide),λ_=>⟨λh=>absurd (bI h) J,λ_=>⟨17,by rw[az];exact l.cell,λh=>absurd h (by decide),λ_=>(mZ (e.ext u) (a:=4) (k:=2) (by decide) (by decide) (by decide)).use ?_⟩⟩⟩;rintro _ _ ⟨rfl,rfl⟩;have I:=O j u 6 _ (rfl:(au pP)[6]? =some (.int .u8 215));rw[show e3 pP 4 2=8 by decide+kernel,hl];refine⟨_,rfl,A,ar,by rw[←hl];exact I.1,215,I.2,bL (λb w'=>b=false/\j=w') (λk c=>⟨λh=>absurd h (by decide),λ_=>c _ _ ⟨rfl,rfl⟩⟩) ?_⟩;rintro _ _ ⟨rfl,rfl⟩;refine lg R (a':=0) (b':=0) (c':=0) (d':=6) (e':=false) (f':=8) λm x y=>?_;have T:=l.ax y (by have:=o.lt;omega);have U:=S.ax y (by have:=f.lt;omega);have K:Ext w m:=Ext.bR u y J;refine bL (λb w'=>b=false/\m=w') (λk c=>⟨λh=>absurd h (by decide+kernel),λ_=>bL (λb w'=>b=false/\m=w') (λb1 V=>⟨λ_=>⟨false,gz x rfl,V _ _ ⟨rfl,rfl⟩⟩,λh=>absurd h (by decide+kernel)⟩) ?_⟩) ?_
 .rintro _ _ ⟨rfl,rfl⟩
  refine bL (λb w'=>b=false/\m=w') (λav W=>⟨λh=>absurd h (by decide),λ_=>W _ _ ⟨rfl,rfl⟩⟩) ?_;rintro _ _ ⟨rfl,rfl⟩;exact c _ _ ⟨rfl,rfl⟩
 rintro _ _ ⟨rfl,rfl⟩;refine⟨λh=>absurd h (by decide),λ_=>⟨λh=>absurd h (by decide+kernel),λ_=>⟨λh=>absurd h (by decide+kernel),λ_=>⟨false,gz x rfl,bL (λb w'=>b=false/\Ext m w') (λk c=>⟨λ_=>⟨_,T.rd (by rfl),?_⟩,λh=>absurd h (by decide)⟩) ?_⟩⟩⟩⟩
 .have hg:=QT (e.ext K)
  rw[hl]at hg;refine hg.use ?_;rintro _ aw ⟨rfl,X⟩;exact⟨_,rfl,c _ _ ⟨rfl,X⟩⟩
 rintro _ L ⟨rfl,z⟩;have B:=K.trans z;have jP:=mZ (e.ext B) (a:=0) (k:=2) (by decide) (by decide) (by decide);have bf:=mZ (e.ext B) (a:=2) (k:=2) (by decide) (by decide) (by decide);rw[hl]at jP bf;refine⟨λh=>absurd h (by decide),λ_=>jP.use ?_⟩;rintro _ _ ⟨rfl,rfl⟩;refine⟨_,rfl,bf.use ?_⟩;rintro _ _ ⟨rfl,rfl⟩;rw[show e3 pP 0 2=5 by decide+kernel,show e3 pP 2 2=8080 by decide+kernel];refine⟨_,rfl,?_⟩;rw[show IntKind.wrap .u16 ((5:Nat):Int)=5 by decide+kernel,show IntKind.wrap .u16 ((8080:Nat):Int)=8080 by decide+kernel];have M:=x.ext z;have Y:=U.ext z;obtain⟨bU,b1⟩:=e9 M (i:=0) (by show 0<6;decide);have C:=e8 M (i:=0) (.int .u16 5);have D:=eg L g.heap.size 0 (.int .u16 5);refine⟨bU,b1,aL ?_⟩;generalize L.setCell g.heap.size (.int .u16 5)=N at C D;obtain⟨ab,ac⟩:=e9 C (i:=1) (by show 1<6;decide);have d:=e8 C (i:=1) (.int .u16 8080);have E:=eg N g.heap.size 1 (.int .u16 8080);rw[az,b3];refine⟨ab,ac,aL ?_⟩;generalize N.setCell ⟨g.heap.size,1,none⟩ (.int .u16 8080)=F at d E
 replace d:Var F g.heap.size (eJ 5 8080 0 6 false 8) 68:=d
 have af:Ext w F:=Ext.bR (Ext.bR B D J) E J;have ah:=(Y.ax D (by have:=f.lt;omega)).ax E (by have:=f.lt;omega);refine⟨5,d.cell,bL (λb w'=>b=false/\F=w') (λk c=>⟨λh=>absurd h (by decide),λ_=>⟨8080,d.cell,c _ _ ⟨by decide,rfl⟩⟩⟩) ?_⟩;rintro _ _ ⟨rfl,rfl⟩;refine⟨λh=>absurd h (by decide),λ_=>⟨5,d.cell,8080,d.cell,0,gz d rfl,6,gz d rfl,false,gz d rfl,8,gz d rfl,lg ah (a':=5) (b':=8080) (c':=0) (d':=6) (e':=false) (f':=8) λay ai aj=>vz ai ⟨rfl,Ext.bR af aj G.size⟩⟩⟩
theorem QU(g:Src 1 w s (au hU))(hc:s.len<=s.cap):aA ae 22 #[s] w (λv w'=>v=.tuple #[.agg (jC b_ aE.zero 5 8080 17 0 9).toArray,(0:Int)]/\Ext w w'):=by
 have hl:s.len=28:=len8 g;obtain⟨A,ar,_,r⟩:=lh g (by decide);refine okF (Z.zm s) ao.zm func22 ?_;(delta Z.zm z3 aa ad bc cd bS bn gU z4 cT bq bx lK eU aY nQ jn b7 dK e0 ef cJ bh;dsimp only);refine aU (vs:=Ap) (by kernel_rfl) λw1 G H R=>⟨Ap.toArray,by kernel_rfl,gL (us:=Ap) (by rfl) (by rfl) (hC (hO (aj:=false) (an:=0) (a:=0) (src:=aE.zero) (dst:=aE.zero) (part:=false) (aD:=0)) (hC (q2 _ _ _ _ _ _) (q7 (src:=aE.zero) (dst:=aE.zero) (sp:=0) (dp:=0) (an:=0)))) λaC S t=>⟨λh=>absurd h (by rw[hl];decide),λ_=>?_⟩⟩;have l:=H.trans t;have bm:=r aC l 0 _ (rfl:(au hU)[0]? =some (.int .u8 69));refine⟨A,ar,bm.1,69,bm.2,by decide,bL (λb w'=>b=false/\aC=w') (λk I=>⟨λh=>absurd h (by decide+kernel),λ_=>I _ _ ⟨rfl,rfl⟩⟩) ?_⟩;rintro _ _ ⟨rfl,rfl⟩;refine⟨λh=>absurd h (by decide),λ_=>(QS (g.ext l) hc).use ?_⟩;rintro _ aP ⟨rfl,u⟩;refine⟨_,_,rfl,gL (us:=lZ) (by rfl) (by rfl) hO λm x y=>?_⟩;have z:=(l.trans u).trans y;have bm:=r m z 0 _ (rfl:(au hU)[0]? =some (.int .u8 69));refine⟨A,ar,bm.1,69,bm.2,by decide,λh=>absurd h (by decide+kernel),λ_=>⟨λh=>absurd h (by decide),λ_=>⟨false,by rw[az];exact pL x,λh=>(by cases h),λ_=>aL ?_⟩⟩⟩;have i:=bH m;have j:=z.trans i;have f:=x.ext i;have n:=((G.ext t).ext u).ext (y.trans i);generalize m.drew=K at j f n i;have B:Src 1 K ⟨bj s.a 1 20 s.cap,s.len-20,s.cap-20⟩ (au pP):=by
  have h:=Src.sub (g.ext j) hc (lo:=20) (hi:=s.len) J (bu _);rw[hl]at h⊢;exact h
 have C:∀v∈jC b_ aE.zero 5 8080 17 0 9,Plain v:=hC hO (hC (q2 _ _ _ _ _ _) q7);refine⟨λ_=>False,id,_,f.rd (by rfl),id,(20:Nat),by rw[az];exact AK f,⟨by decide,J⟩,(Ir B).use ?_,aU (vs:=eJ 0 0 0 0 false 0) rfl λT L o _=>⟨af.bt o,(Ir (B.ext o)).use ?_⟩⟩
 .rintro _ U ⟨rfl,p⟩
  refine⟨5,8080,0,6,false,8,0,rfl,af.bt p,aU (vs:=eJ 0 0 0 0 false 0) rfl λV M D _=>⟨af.bt D,lg M (a':=5) (b':=8080) (c':=0) (d':=6) (e':=false) (f':=8) λE d N=>⟨λh=>absurd h (by decide),λ_=>?_⟩⟩⟩;have X:=Ext.bR (p.trans D) N p.size;have e:=f.ext X;simp only[az,b3];exact⟨_,e.rd (by rfl),5,d.cell,8080,d.cell,0,d.cell,6,d.cell,false,d.cell,8,d.cell,b_.c,l2 e,aE.zero.c,mG e,5,d.cell,8080,d.cell,17,e.cell,_,AI 17 5 8080 b_ aE.zero E,_,AJ false false 20 17 9 5 8080 0 6 8 false b_ aE.zero E,h7 (n.ext X) (by rfl) (by rfl) C λW _ O=>⟨rfl,Ext.bR (j.trans X) O (bu _)⟩⟩
 .rintro _ Y ⟨rfl,q⟩
  refine⟨5,8080,0,6,false,8,0,rfl,af.bt q,lg (L.ext q) (a':=5) (b':=8080) (c':=0) (d':=6) (e':=false) (f':=8) λF d P=>⟨λh=>absurd h (by decide),λ_=>?_⟩⟩;have X:=Ext.bR (o.trans q) P (bu _);have e:=f.ext X;simp only[az,b3];exact⟨_,e.rd (by rfl),5,d.cell,8080,d.cell,0,d.cell,6,d.cell,false,d.cell,8,d.cell,b_.c,l2 e,aE.zero.c,mG e,5,d.cell,8080,d.cell,17,e.cell,_,AI 17 5 8080 b_ aE.zero F,_,AJ false false 20 17 9 5 8080 0 6 8 false b_ aE.zero F,h7 (n.ext X) (by rfl) (by rfl) C λab _ Q=>⟨rfl,Ext.bR (j.trans X) Q (bu _)⟩⟩
end
end Go.Proofs.YtkpjknbogcihmaaGreatDoor
/- A flow is kept. -/
namespace Go.Proofs.YtkpjknbogcihmaaGreatDoor
open Go aQ Go.Proofs.Tryz
def gD:gy:=⟨b_,aE.zero,5,80,17⟩
def lq:gy:=⟨aE.zero,b_,8080,5,17⟩
section
variable {w w' w1 aH bk:I}{b m1 m2 most fy:Nat}{db:Y (gy×O)}{u:Int}
theorem QV(u:Int)(w:I):aA ae 310 #[.agg gD.c.toArray,.agg (fY u).toArray] w (λv w'=>v=.agg lq.c.toArray/\Ext w w'):=by
 refine okF (Z.yZ gD.c.toArray (fY u).toArray) ao.yZ func310 ?_;(delta Z.yZ o1 aa ef e0 cJ bS;dsimp only);refine aU (vs:=gD.c) rfl λw1 e d _=>aU (vs:=fY u) rfl λag f a _=>aU (vs:=mB) (by kernel_rfl) λh g b _=>?_;have h1:=(e.ext a).ext b;have h2:=f.ext b;simp only[az,b3];exact⟨aE.zero.c,h2.e2 (o:=2) (n:=17) (by show 2+17<=22;decide),b_.c,h1.e2 (o:=0) (n:=17) (by show 0+17<=37;decide),8080,h2.cell,5,h1.cell,17,h1.cell,lq.c.toArray,by kernel_rfl,h7 g (by rfl) (by rfl) lq.plain λi _ hc=>⟨rfl,Ext.bR ((d.trans a).trans b) hc ((d.trans a).size)⟩⟩
theorem QW(h:ki bk b m1 m2 most [] [])(hm:1<=most)(hf:Var bk w.heap.size gD.c 27)(he:Var bk w1.heap.size (fY u) 291)(L:Var bk aH.heap.size lq.c 27)(M:Ext w bk){Q:O->I->Prop}
 (N:∀ag w',Ext w ag->lW m1 m2 ag w'->Q (0:Int) w'):Z.yM (some b) w w1 aH fy false bk Q:=by
 (delta Z.yM ad aa bx pt jq eU aY br;dsimp only);refine bL (λb w'=>b=false/\bk=w') (λk R=>⟨λh=>(by cases h),λ_=>R _ _ ⟨rfl,rfl⟩⟩) ?_;rintro _ _ ⟨rfl,rfl⟩;obtain⟨i,hi,s⟩:=ot CX;obtain⟨j,S,U⟩:=ot Hy;refine⟨λh=>(by cases h),λ_=>bL (λb w'=>b=false/\Ext bk w') (λb1 l=>?_) ?_⟩
 .have d:=bH bk
  have a:=h.ext d;have t:=hf.ext d;refine aL ?_;generalize bk.drew=f at a t d;have hl:∀w',Ext f w'->Sem.run ae (Instr.lookup 375 (.map (some m1)) (.agg gD.c.toArray) true) w'=.ok (.tuple #[.agg eK.toArray,false]) w':=λw' hx=>(a.bU.ext hx).oY s8 vF (k:=gD) hi s (λv g=>(by cases g)) true;exact⟨λ_=>False,_,rfl,id,some m1,by rw[az];exact a.v.cell,id,gD.c,t.rd gD.aM,⟨eK.toArray,false,f,hl f (.refl _ _),.refl _ _,aU (vs:=eK) (by kernel_rfl) λaq z A _=>⟨af.bt A,z.cl (by simp) (by simpa using mD),by rfl,cY z (us:=eK) (by simp) rfl λar au W _=>l _ _ ⟨rfl,Ext.bR (d.trans A) W d.size⟩⟩⟩,aU (vs:=eK) (by kernel_rfl) λB C p _=>⟨af.bt p,eK.toArray,false,B,hl B p,C.cl (by simp) (by simpa using mD),by rfl,cY C (us:=eK) (by simp) rfl λav aw X _=>l _ _ ⟨rfl,Ext.bR (d.trans p) X d.size⟩⟩⟩
 .rintro _ D ⟨rfl,E⟩
  refine bL (λb w'=>b=false/\Ext bk w') (λb1 l=>?_) ?_
  .have d:=bH D
   have a:=(h.ext E).ext d;refine aL ?_;have hx:=E.trans d;generalize D.drew=f at a hx;have hl:=a.bU.len (P:=ae) (o:=3) vF;exact⟨λ_=>False,λ_=>⟨_,rfl,id,some m1,by rw[az];exact a.v.cell,_,rfl,id,most,a.v.cell,_,f,hl,.refl _ _,l _ _ ⟨hY (by show¬((0:Nat):Int)>=_;omega),hx⟩⟩,λh=>(by cases h)⟩
  rintro _ ay ⟨rfl,r⟩;refine⟨λh=>(by cases h),λ_=>?_⟩;refine⟨gD.c,(hf.ext r).rd gD.aM,(PA (h.ext r) gD).use ?_⟩;rintro _ F ⟨rfl,ab⟩;have hx:=(r.trans ab).trans (bH F);refine⟨_,rfl,aL ?_⟩;generalize F.drew=f at hx;have a:=h.ext hx;have m:=hf.ext hx;have G:=he.ext hx;have H:=L.ext hx;have nb:∀ {q:Nat}{vs:Y O}{T:TypeId},Var f q vs T->¬(q=m1\/q=m2):=λg ac=>ac.elim (λe=>by subst e;exact a.bU.ij g) λe=>by subst e;exact a.b1.ij g
  obtain⟨ah,ai,aj,ca,_,ak⟩:=a.bU.wH s8 vF (k:=gD) hi s (λv g=>by cases g);obtain⟨wb,rb,cb,_,aA⟩:=ak.store (P:=ae) 375 (.agg (fY u).toArray);have l:=a.b1.ax (ca.trans cb) λe=>a.n e.symm;obtain⟨al,am,rc,J,_,an⟩:=l.wH s8 Hx (k:=lq) S U (λv g=>by cases g);obtain⟨wd,rd,ao,_,Kd⟩:=an.store (P:=ae) 376 (.agg gD.c.toArray);have K:=λ{x y:I} (c:af (λq=>q=m1) x y)=>c.mono (V:=λq=>q=m1\/q=m2) λ_ _ h=>.inl h;have ap:=λ{x y:I} (c:af (λq=>q=m2) x y)=>c.mono (V:=λq=>q=m1\/q=m2) λ_ _ h=>.inr h;exact⟨λq=>q=m1\/q=m2,_,rfl,nb a.v,some m1,by rw[az];exact a.v.cell,nb m,gD.c,m.rd gD.aM,_,rfl,nb a.v,some m2,by rw[az];exact a.v.cell,nb H,lq.c,H.rd lq.aM,nb G,fY u,G.rd (by rfl),nb m,gD.c,m.rd gD.aM,_,ah,ai,aj,K ca,wb,rb,K cb,_,al,am,rc,ap J,wd,rd,N f wd (M.trans hx) ((((lW.one ca).trans (.one cb)).trans (.two J)).trans (.two ao))⟩
theorem QX{now:Int}(h:ki w b m1 m2 most [] [])(hm:1<=most):aA ae 267 #[.pointer (some b),.agg gD.c.toArray,.agg (fY u).toArray,.int .u64 now] w (λv w'=>v=.int .i64 0/\∃ag,Ext w ag/\lW m1 m2 ag w'):=by
 refine okF (Z.yN (some b) gD.c.toArray (fY u).toArray now) ao.yN func267 ?_;(delta Z.yN ad aa hJ o1 bx pt;dsimp only);refine aU (vs:=gD.c) rfl λw1 p B _=>aU (vs:=fY u) rfl λag q g _=>⟨λh=>(by cases h),λ_=>⟨gD.c,(p.ext g).rd gD.aM,fY u,q.rd (by rfl),(QV u ag).use ?_⟩⟩;rintro _ aH ⟨rfl,i⟩;refine⟨_,rfl,gL (us:=lq.c) (by rfl) (by rfl) lq.plain λr C l=>aL ?_⟩;have d:=bH r;have m:=(((B.trans g).trans i).trans l).trans d;have e:=h.ext m;have s:=(((p.ext g).ext i).ext l).ext d;have t:=((q.ext i).ext l).ext d;have n:=C.ext d;generalize r.drew=f at m e s t n;obtain⟨j,D,E⟩:=ot Hy;have hl:∀w',Ext f w'->Sem.run ae (Instr.lookup 376 (.map (some m2)) (.agg lq.c.toArray) true) w'=.ok (.tuple #[.agg mB.toArray,false]) w':=λw' hx=>(e.b1.ext hx).oY s8 Hx (k:=lq) D E (λv F=>(by cases F)) true;have jm:∀v∈mB,Plain v:=gy.plain ⟨aE.zero,aE.zero,0,0,0⟩;have go:=λ{bk:I}{a:Nat} (hx:Ext f bk)=>QW (fy:=a) (Q:=λv w'=>v=.int .i64 0/\∃ag,Ext w ag/\lW m1 m2 ag w') (e.ext hx) hm (s.ext hx) (t.ext hx) (n.ext hx) (m.trans hx) λag w' hx hc=>⟨rfl,ag,hx,hc⟩;exact⟨λ_=>False,_,rfl,id,some m2,by rw[az];exact e.v.cell,id,lq.c,n.rd lq.aM,⟨mB.toArray,false,f,hl f (.refl _ _),.refl _ _,aU (vs:=mB) (by kernel_rfl) λJ x y _=>⟨af.bt y,x.cl (by simp) (by simpa using jm),by rfl,cY x (us:=mB) (by simp) rfl λK L G _=>go (Ext.bR y G (bu _))⟩⟩,aU (vs:=mB) (by kernel_rfl) λz A o _=>⟨af.bt o,mB.toArray,false,z,hl z o,A.cl (by simp) (by simpa using jm),by rfl,cY A (us:=mB) (by simp) rfl λM N H _=>go (Ext.bR o H (bu _))⟩⟩
end
end Go.Proofs.YtkpjknbogcihmaaGreatDoor
/- A packet on its way: what stays while the store is called; a table's choice; what is told. -/
namespace Go.Proofs.YtkpjknbogcihmaaGreatDoor
open Go aQ Go.Proofs.Tryz
def AQ(x:gO)(s k:ai)(e:Int):Y O:=.pointer (some ⟨x.lb,0,none⟩)::(nt++(.slice s.a s.len s.cap::(kk.c k++ [.int .i64 e])))
structure eA(w0:I)(E:Nat->Prop)(d n:Nat)(l:dG)(x:gO)(wb:Nat)(s k:ai)(e:Int)(S:cn)(T:Y bT)(c:Nat)(w:I):Prop where
 a:∃ (eo p:Y Nat) (cA:Y bT),gj w0 w E d n l x.ab 6 S eo p T cA c
 lb:Var w x.lb x.c 285
 v:Var w wb (AQ x s k e) 280
 nw:Src 1 w s (au iS)
 sc:s.len<=s.cap
 o:∀q,q=x.lb\/q=wb\/aN s q->E q
 AR:¬aN s wb
 now:S.now=0
section
variable {w0 w w' w1:I}{E:Nat->Prop}{d n:Nat}{l:dG}{x:gO}{wb q c m:Nat}{s k:ai}{e u:Int}{S aW:cn}{T aO:Y bT}{zs us:Y O}{iO:TypeId}
theorem eA.ext(h:eA w0 E d n l x wb s k e S T c w)(hx:Ext w w'):eA w0 E d n l x wb s k e S T c w':=by
 obtain⟨eo,p,cA,a⟩:=h.a;exact {h with a:=⟨eo,p,cA,a.ext hx⟩,lb:=h.lb.ext hx,v:=h.v.ext hx,nw:=h.nw.ext hx}
theorem eA.th(h:eA w0 E d n l x wb s k e S T c w)(b:E q):¬S.W q:=by
 obtain⟨eo,p,cA,a⟩:=h.a;have:=a.s.vw b;exact λf=>this.2 (f.2 this.1)
theorem eA.done{j:Nat}(h:eA w0 E d n l x wb s k e S T c w)(hd:gw j S aW w w')(b:aW.now=S.now)(f:∃ (eo p:Y Nat) (cA:Y bT),gj w0 w' E d n l x.ab 6 aW eo p aO cA m):eA w0 E d n l x wb s k e aW aO m w':=
 {a:=f,lb:=h.lb.ax hd.ax (h.th (h.o _ (.inl rfl))),v:=h.v.ax hd.ax (h.th (h.o _ (.inr (.inl rfl)))),nw:=h.nw.ax hd.ax λq g=>h.th (h.o _ (.inr (.inr g))),sc:=h.sc,o:=h.o,AR:=h.AR,now:=b.trans h.now}
theorem eA.set(h:eA w0 E d n l x wb s k e S T c w)(f:E q)(b:x.lb≠q/\wb≠q/\¬aN s q)(g:x.ab≠q)(hc:af (λx=>x=q) w w'):eA w0 E d n l x wb s k e S T c w':=by
 obtain⟨eo,p,cA,a⟩:=h.a;exact {h with a:=⟨eo,p,cA,a.jb f g hc⟩,lb:=h.lb.ax hc b.1,v:=h.v.ax hc b.2.1,nw:=h.nw.ax hc λy i e=>b.2.2 (e▸i)}
theorem eA.err(h:eA w0 E d n l x wb s k e S T c w)(u:Int):(∃v:O,w.cell? ⟨wb,107,none⟩=some v)/\w.frozen? ⟨wb,107,none⟩=false/\eA w0 E d n l x wb s k u S T c (w.setCell ⟨wb,107,none⟩ (.int .i64 u)):=by
 obtain⟨bU,b1⟩:=e9 h.v (i:=107) (by show 107<108;decide);have b:=eg w wb 107 (.int .i64 u);have f:=e8 h.v (i:=107) (.int .i64 u);obtain⟨eo,p,cA,a⟩:=h.a;refine⟨bU,b1,{h with a:=⟨eo,p,cA,a.jb (h.o wb (.inr (.inl rfl))) (λe=>absurd (Var.inj (e▸a.v) h.v) (by decide)) b⟩,lb:=h.lb.ax b λe=>?_,v:=f,nw:=h.nw.ax b λy g e=>h.AR (e▸g)}⟩;exact absurd (Var.inj (e▸h.lb) h.v) (by decide)
theorem pQ(h:eA w0 E d n l x wb s k e S T c w):aA ae 145 #[.pointer (some x.lb)] w (λv w'=>v=.int .u64 0/\w=w'):=by
 obtain⟨eo,p,cA,a⟩:=h.a;refine okF (Z.yg (some x.lb)) ao.yg func145 ?_;(delta Z.yg pt gH fe aZ;dsimp only);refine⟨_,rfl,_,by rw[az];exact h.lb.cell,(CM a.v).use ?_⟩;rintro _ _ ⟨rfl,rfl⟩;refine⟨_,rfl,(Oa a.s.at_).use ?_⟩;rintro _ _ ⟨rfl,rfl⟩;rw[h.now];exact⟨_,rfl,rfl,rfl⟩
theorem QY(h:eA w0 E d n l x wb s k e S T c w)(hb:gP w x):aA ae 270 #[.pointer (some x.lb),(1:Int),.agg bA.zero.c.toArray] w (λv w'=>v=.tuple #[(2:Int),true]/\Ext w w'):=by
 refine okF (Z.yP (some x.lb) 1 bA.zero.c.toArray) ao.yP func270 ?_;(delta Z.yP bx pt bl di gf aZ ad mi aa fe hG;dsimp only);refine aU (vs:=bA.zero.c) rfl λw1 u A _=>aL ?_;have a:=A.trans (bH w1);have j:=u.ext (bH w1);generalize w1.drew=ag at a j;have hl:=h.lb.ext a;have hb:=hb.ext a;refine⟨λ_=>False,_,rfl,id,_,by rw[az];exact hl.cell,_,rfl,id,_,by rw[az];exact hl.cell,(Pq hb.he 1).use ?_⟩;rintro _ aJ ⟨rfl,b⟩;refine⟨⟨none,0,0⟩,rfl,af.bt b,(Ps (r:=x.rc) (hb.cG.ext b) (dH.2 rfl) rfl).use ?_⟩;rintro _ F ⟨t,rfl,ht,m,_⟩;refine⟨t,rfl,_,rfl,1,((hl.ext b).ext m).cell,(ss ht.src λq B=>ht.lt q B).use ?_⟩;rintro _ i ⟨bK,y,z,rfl,f,C⟩;refine⟨_,_,rfl,λh=>(by cases h),λ_=>aL ?_⟩;have g:=((b.trans m).trans C).trans (bH i);have f:=f.ext (bH i);generalize i.drew=D at g f;refine⟨λ_=>False,_,rfl,id,1,(hl.ext g).cell,id,_,(j.ext g).rd (bA.aM _),(su D).use ?_⟩;rintro _ G ⟨rfl,o⟩;refine⟨_,rfl,λ_=>False,(Pj (f.ext o) 14921627313678984130).use ?_⟩;rintro _ H ⟨rfl,p⟩;exact⟨2,true,rfl,af.bt p,rfl,((a.trans g).trans o).trans p⟩
theorem Is(a:Var w wb (AQ x s k e) 280):aA ae 264 #[.pointer (some ⟨wb,0,none⟩),.int .i64 0,.bool true] w (λv w'=>v=.int .i64 6/\w=w'):=by
 refine okF (Z.yK (some ⟨wb,0,none⟩) 0 true) ao.yK func264 ?_;(delta Z.yK pt bS ad bG;dsimp only);refine⟨_,rfl,17,by rw[az];exact a.cell,λ_=>(Py w).use ?_,λh=>(by cases h)⟩;rintro _ _ ⟨rfl,rfl⟩;exact⟨_,rfl,rfl,rfl⟩
theorem QZ(g:Var w wb (AQ x s k e) 280)(u:Int):aA ae 216 #[.pointer (some ⟨wb,0,none⟩),.int .i64 1,.agg (fY u).toArray] w (λv w'=>v=.agg (fa 1 ez 1 2 false e).toArray/\Ext w w'):=by
 refine okF (Z.yC (some ⟨wb,0,none⟩) 1 (fY u).toArray) ao.yC func216 ?_;(delta Z.yC j9 aY aa bh pt b7 lM bD a_ cT bq;dsimp only);refine aU (vs:=fY u) rfl λw1 h c _=>aU (vs:=fa 0 ez 0 0 false 0) rfl λag i d _=>aL ?_;have b:=(c.trans d).trans (bH ag);have he:=(h.ext d).ext (bH ag);have f:=i.ext (bH ag);generalize ag.drew=l at b he f;simp only[az,b3];refine⟨id,1,he.cell,id,2,he.cell,_,rfl,id,e,by rw[az];exact(g.ext b).cell,tf (us:=fa 1 ez 1 2 false e) f rfl jW λaJ a j=>⟨1,a.cell,ez,a.cell,1,a.cell,2,a.cell,false,a.cell,e,a.cell,rfl,Ext.bR b j c.size⟩⟩
theorem Q0(h:eA w0 E d n l x wb s k e S T c w)(u:Int):aA ae 212 #[.pointer (some ⟨wb,0,none⟩),.agg (fY u).toArray] w (λv w'=>∃t:ai,v=.agg (fa 1 t 1 2 false e).toArray/\aR 1 5 w' t (au hU)/\Ext w w'/\du w t):=by
 refine okF (Z.yz (some ⟨wb,0,none⟩) (fY u).toArray) ao.yz func212 ?_;(delta Z.yz j9 aa mU b7 bx pt fk a_ wU qk e0 eD st w9 aY bD bh cT bq lM;dsimp only);refine aU (vs:=fY u) rfl λw1 D j _=>aU (vs:=fa 0 ez 0 0 false 0) rfl λag p f _=>⟨fY u,(D.ext f).rd rfl,(QZ (((h.v.ext j).ext f)) u).use ?_⟩;rintro _ aC ⟨rfl,F⟩;simp only[az,b3];refine⟨1,ez,1,2,false,e,rfl,te (zs:=fa 0 ez 0 0 false 0) (us:=fa 1 ez 1 2 false e) rfl jW λr H I=>aL ?_⟩;have g:=(F.trans I).trans (bH r);have y:=H.ext (bH r);generalize r.drew=M at g y;have m:=(j.trans f).trans g;have he:=(D.ext f).ext g;refine⟨λ_=>False,_,rfl,id,s,by rw[az];exact(h.v.ext m).cell,id,aE.zero.c,he.e2 (o:=2) (n:=17) (by show 2+17<=22;decide),id,8080,he.cell,(QR (h.nw.ext m) h.sc).use ?_⟩;rintro _ N ⟨t,rfl,ht,z,A⟩;have B:=y.ext z;refine⟨t,0,rfl,⟨_,B.cell⟩,a7.frozen B _ rfl,s6 B λK a C _=>?_⟩
 replace a:Var K aC.heap.size (fa 1 t 1 2 false e) 75:=a
 have O:=(j.trans f).size;have P:=F.size;have L:=((p.ext g).ext z).ax C (by have:=p.lt;omega);refine⟨1,a.cell,t,a.cell,1,a.cell,2,a.cell,false,a.cell,e,a.cell,tf (us:=fa 1 t 1 2 false e) L rfl jW λcN b G=>⟨1,b.cell,t,b.cell,1,b.cell,2,b.cell,false,b.cell,e,b.cell,t,rfl,(ht.ax C λq i e=>?_).ax G λq i e=>?_,?_,λq i=>?_⟩⟩
 .have:=A q i;have:=y.lt;omega
 .have:=A q i;have:=p.lt;have:=g.size;omega
 rotate_left
 .have:=A q i;have:=m.size;omega
 exact Ext.bR (Ext.bR (m.trans z) C J) G j.size
end
end Go.Proofs.YtkpjknbogcihmaaGreatDoor
/- A packet on its way: its backend is picked. -/
namespace Go.Proofs.YtkpjknbogcihmaaGreatDoor
open Go aQ Go.Proofs.Tryz
section
variable {w0 w w' w1 aH cr:I}{E:Nat->Prop}{d n:Nat}{l:dG}{x:gO}{wb q h9 c:Nat}{s k:ai}{e u y:Int}{S aW:cn}{T aO:Y bT}{vs:Y O}{iO:TypeId}
theorem eA.lt(h:eA w0 E d n l x wb s k e S T c w):wb<w.heap.size:=h.v.lt
theorem eA.AS(h:eA w0 E d n l x wb s k e S T c w):Var w x.ab [.pointer (some S.st),.int .i64 ((6:Nat):Int)] 305:=by
 obtain⟨eo,p,cA,a⟩:=h.a;exact a.v
theorem eA.grow(h:eA w0 E d n l x wb s k e S T c w)(hx:Ext w w'):∃aW,eA w0 (λq=>E q\/(w.heap.size<=q/\q<w'.heap.size)) d n l x wb s k e aW T c w':=by
 obtain⟨eo,p,cA,a⟩:=h.a;exact⟨_,⟨⟨eo,p,cA,a.grow hx (λq b=>b) (.inl a.vx)⟩,h.lb.ext hx,h.v.ext hx,h.nw.ext hx,h.sc,λq b=>.inl (h.o q b),h.AR,h.now⟩⟩
theorem Q1(h:eA w0 E d n l x wb s k e S T c cr)(hb:gP cr x)(j:¬x.own wb)(g:Var cr w.heap.size bA.zero.c 30){Q:O->I->Prop}
 (m:∀aH w',eA w0 E d n l x wb s k y S T c aH->gP aH x->af (λq=>q=wb) cr aH->Ext aH w'->Q (.tuple #[.int .i64 2,.bool true]) w'):Z.sn (some ⟨wb,0,none⟩) w ⟨h9,0,none⟩ false y cr Q:=by
 (delta Z.sn pt st ad aY br BI bx eU aa hG;dsimp only);obtain⟨bU,b1,b⟩:=h.err y;have f:=eg cr wb 107 (.int .i64 y);have i:=hb.ax f λq o e=>j (e▸o);have p:=g.ax f λe=>absurd (Var.inj (e▸g) h.v) (by decide);refine⟨_,rfl,by rw[az];exact bU,by rw[az];exact b1,aL (aL ⟨λh=>(by cases h),λ_=>⟨λh=>(by cases h),λ_=>?_⟩⟩)⟩;rw[az];have a:=(bH (cr.setCell ⟨wb,0+107,none⟩ (.int .i64 y))).trans (bH _);refine aL ⟨λ_=>False,_,rfl,id,_,(b.v.ext a).cell,_,rfl,id,1,by rw[az];exact(b.v.ext a).cell,id,_,(p.ext a).rd (bA.aM _),(QY (b.ext a) (i.ext a)).use ?_⟩;rintro _ t ⟨rfl,r⟩;exact⟨2,true,rfl,m _ _ b i f (a.trans r)⟩
theorem Q2(h:eA w0 E d n l x wb s k e S [] c w)(hb:gP w x)(H:¬x.own wb):aA ae 213 #[.pointer (some ⟨wb,0,none⟩),.agg bA.zero.c.toArray] w (λv w'=>v=.tuple #[.int .i64 2,.bool true]/\(∃aW,eA w0 E d n l x wb s k 0 aW [] c w')/\gP w' x/\l5 E [wb] w w'):=by
 refine okF (Z.yA (some ⟨wb,0,none⟩) bA.zero.c.toArray) ao.yA func213 ?_;(delta Z.yA pt gH br ad bx eU aY aa fe wS aZ mW;dsimp only);refine aU (vs:=bA.zero.c) rfl λw1 J f _=>⟨_,rfl,_,(h.v.ext f).cell,_,rfl,_,by rw[az];exact(h.lb.ext f).cell,?_⟩;obtain⟨eo,p,cA,a⟩:=h.a;have a1:=a.ext f;refine(CM a1.v).use ?_;rintro _ _ ⟨rfl,rfl⟩;refine⟨_,rfl,(Ob a1.s.at_).use ?_⟩;rintro _ _ ⟨rfl,rfl⟩;rw[a.live];refine⟨_,rfl,λh=>(by cases h),λ_=>aL ?_⟩;have b:=f.trans (bH w1);have i:=J.ext (bH w1);generalize w1.drew=aP at b i;have K:=h.lb.ext b;have j:=h.v.ext b;refine⟨λ_=>False,_,rfl,id,_,j.cell,_,rfl,id,_,by rw[az];exact K.cell,_,rfl,id,1,by rw[az];exact j.cell,id,_,i.rd (bA.aM _),_,rfl,id,_,j.cell,?_⟩;have fin:∀ {cr:I} (t:Nat),Ext aP cr->Z.sn (some ⟨wb,0,none⟩) w ⟨t,0,none⟩ false 0 cr (λv w'=>v=.tuple #[.int .i64 2,.bool true]/\(∃aW,eA w0 E d n l x wb s k 0 aW [] c w')/\gP w' x/\l5 E [wb] w w'):=by
  intro cr t hx;have m:=b.trans hx;refine Q1 (h.ext m) (hb.ext m) H (i.ext hx) ?_;intro W w' L M N o;exact⟨rfl,⟨S,L.ext o⟩,M.ext o,_,((af.bt m).trans N).trans (af.bt o),λq _ O=>dH.2 O⟩
 have r:∀ {aH:I},Ext aP aH->aA ae 271 #[.pointer (some ⟨x.ab,0,none⟩),.int .i64 1,.agg bA.zero.c.toArray,.int .u64 0] aH (λv w'=>v=.tuple #[.agg bT.zero.c.toArray,.bool false,.int .i64 0]/\Ext aH w'):=λP=>Qh (a.ext (b.trans P)) (by decide+kernel) 0;have u:∀v∈Array.toList bT.zero.c.toArray,Plain v:=by simpa using bT.plain _
 refine⟨(pQ (h.ext b)).use ?_,aU (vs:=bT.zero.c) rfl λX Q g _=>⟨af.bt g,(pQ ((h.ext b).ext g)).use ?_⟩⟩
 .rintro _ _ ⟨rfl,rfl⟩
  refine⟨0,rfl,af.refl _ _,(r (.refl _ _)).use ?_,aU (vs:=bT.zero.c) rfl λY R y _=>⟨af.bt y,(r y).use ?_⟩⟩
  .rintro _ ac ⟨rfl,B⟩
   exact⟨_,_,_,rfl,af.bt B,aU (vs:=bT.zero.c) rfl λcN C D _=>⟨af.bt D,C.cl (by simp) u,by simp[bT.aM],cY C (us:=bT.zero.c) (by simp) rfl λag ah T _=>fin _ (B.trans (Ext.bR D T (bu _)))⟩⟩
  .rintro _ ai ⟨rfl,z⟩
   have F:=R.ext z;exact⟨_,_,_,rfl,af.bt z,F.cl (by simp) u,by simp[bT.aM],cY F (us:=bT.zero.c) (by simp) rfl λec aj U _=>fin _ (Ext.bR (y.trans z) U (bu _))⟩
 .rintro _ _ ⟨rfl,rfl⟩
  refine⟨0,rfl,af.refl _ _,(r g).use ?_⟩;rintro _ ak ⟨rfl,A⟩;have G:=Q.ext A;exact⟨_,_,_,rfl,af.bt A,G.cl (by simp) u,by simp[bT.aM],cY G (us:=bT.zero.c) (by simp) rfl λal am V _=>fin _ (Ext.bR (g.trans A) V (bu _))⟩
end
end Go.Proofs.YtkpjknbogcihmaaGreatDoor
/- A packet on its way: a new flow begins. -/
namespace Go.Proofs.YtkpjknbogcihmaaGreatDoor
open Go aQ Go.Proofs.Tryz
section
variable {w0 w w' w1 bd cN b5 ec:I}{E:Nat->Prop}{d n:Nat}{l:dG}{x:gO}{wb q h9 c ca:Nat}{s k:ai}{e u y:Int}{S aW:cn}{T aO:Y bT}{vs:Y O}{iO:TypeId}
def mK(w0:I)(E:Nat->Prop)(d n:Nat)(l:dG)(x:gO)(wb c:Nat)(w:I)(v:O)(w':I):Prop:=(∃ (t:ai) (e:Int),v=.agg (fa 1 t 1 2 true e).toArray/\aR 1 5 w' t (au hU)/\du w t)/\l5 E [wb,x.m1,x.m2] w w'/\
 ∃ (a:Nat->Prop) (aW:cn) (eo p:Y Nat) (cA:Y bT),(∀q,E q->a q)/\gj w0 w' a d n l x.ab 6 aW eo p [lp 9] cA c
theorem Q3(h:eA w0 E d n l x wb s k 0 S [] c ec)(hc:c<=1000)(ht:Var ec h9 (lp 9).c 402){K:I->Prop}{Q:O->I->Prop}
 (i:∀ (aH w':I) (y:Int) (aW:cn),af S.W ec aH->(w'=aH\/af (λq=>q=wb) aH w')->eA w0 E d n l x wb s k y aW [lp 9] (c+1) w'->K w'):Z.uV (some ⟨wb,0,none⟩) K ⟨h9,0,none⟩ ec Q:=by
 (delta Z.uV pt bG aY ad st;dsimp only);have hx:=bH ec;have b:=h.ext hx;have e:=ht.ext hx;refine aL ?_;generalize ec.drew=r at hx b e;obtain⟨eo,p,cA,a⟩:=b.a;refine⟨_,rfl,id,_,b.v.cell,_,rfl,id,_,by rw[az];exact b.lb.cell,id,(lp 9).c,e.rd (bT.aM _),(Qi a J (t:=lp 9) ⟨by decide+kernel,by decide⟩).use ?_⟩;rintro _ f ⟨rfl,u,kH,j,iW,dK,a1,d1,cx,aS⟩;have g:=b.done d1 cx ⟨j,iW,dK,a1⟩;have m:af S.W ec f:=(af.bt hx).trans d1.ax;obtain⟨bU,b1,o⟩:=g.err 0;exact⟨_,rfl,_,rfl,0,by rw[az];exact g.v.cell,λ_=>⟨_,rfl,by rw[az];exact bU,by rw[az];exact b1,aL (by rw[az];exact i _ _ _ _ m (.inr (eg f wb 107 _)) o)⟩,λh=>(by cases h)⟩
theorem Q4(h:eA w0 E d n l x wb s k 0 S [] c w)(hc:c<=1000)(hb:gP w x)(ak:∀q,x.own q->E q)(al:∀q,x.own q->¬aN s q)(M:Ext w b5)(aR:Var b5 w.heap.size bA.zero.c 30)(aT:Var b5 w1.heap.size (fa 0 ez 0 0 false 0) 75)(he:Var b5 h9 (fY 0) 291)
 (am:w.heap.size<=h9) (aV:w.heap.size<=w1.heap.size) (an:h9≠w.heap.size/\h9≠w1.heap.size):Z.uW (some ⟨wb,0,none⟩) 2 w w1 ⟨h9,0,none⟩ b5 (mK w0 E d n l x wb (c+1) w):=by
 have N:x.own x.m1:=.inr (.inl rfl);have O:x.own x.m2:=.inr (.inr (.inl rfl));have bl:=hb.lt _ N;have cq:=hb.lt _ O;have bm:=h.lt;have la:=h.AS.lt;(delta Z.uW aY fe ad pt st bx bG aZ eU aa mi di mW mU j9 b7 w9 bD a_ bh cT bq lM;dsimp only);refine lF (λj=>∃ (cO:Nat->Prop) (y u:Int) (aW:cn),(∀q,E q->cO q)/\cO w1.heap.size/\eA w0 cO d n l x wb s k y aW [lp 9] (c+1) j/\Var j h9 (fY u) 291/\Var j w1.heap.size (fa 0 ez 0 0 false 0) 75/\l5 E [wb,x.m1,x.m2] w j) (λK aX=>?_) ?_
 .refine⟨6,by rw[az];exact he.cell,(Pz b5).use ?_⟩
  rintro _ _ ⟨rfl,rfl⟩;refine⟨40,rfl,λ_=>⟨_,rfl,_,(h.v.ext M).cell,(pQ (h.ext M)).use ?_⟩,λh=>(by cases h)⟩;rintro _ _ ⟨rfl,rfl⟩;refine⟨0,rfl,⟨_,by rw[az];exact he.cell⟩,by rw[az];exact a7.frozen he _ rfl,?_⟩;rw[az];refine s6 he λm P Q _=>aL ?_;have a0:=Ext.bR M Q am;have G:=a0.trans (bH m)
  replace P:Var m h9 (fY (IntKind.wrap .u64 (0+40))) 291:=P
  have C:=P.ext (bH m);have ao:=(aR.ax Q an.1.symm).ext (bH m);have R:=(aT.ax Q an.2.symm).ext (bH m);generalize m.drew=a1 at G C ao R;generalize IntKind.wrap .u64 (0+40)=u at C;obtain⟨fL,g⟩:=h.grow G;generalize T:(λq=>E q\/(w.heap.size<=q/\q<a1.heap.size))=cO at g;have r:∀q,E q->cO q:=λq b=>by rw[←T];exact .inl b
  have a2:cO h9:=by rw[←T];exact .inr ⟨am,C.lt⟩
  have H:cO w1.heap.size:=by rw[←T];exact .inr ⟨aV,R.lt⟩
  refine⟨λ_=>False,_,rfl,id,_,g.v.cell,_,rfl,id,_,by rw[az];exact g.lb.cell,_,rfl,id,gD.c,by rw[az,az];exact g.v.e2 (o:=46) (n:=37) (by show 46+37<=108;decide),id,fY u,C.rd rfl,_,rfl,id,_,g.v.cell,(pQ g).use ?_⟩;rintro _ _ ⟨rfl,rfl⟩;refine⟨0,rfl,af.refl _ _,(QX (hb.fw.ext G) (by decide)).use ?_⟩;rintro _ ap ⟨rfl,ag,D,a3⟩;obtain⟨a4,a5,a6,a8,a9⟩:=a3 (λz=>eA w0 cO d n l x wb s k 0 fL [] c z/\Var z w.heap.size bA.zero.c 30/\Var z h9 (fY u) 291/\Var z w1.heap.size (fa 0 ez 0 0 false 0) 75/\af (λq=>q=x.m1\/q=x.m2) w z)
   ⟨g.ext D,ao.ext D,C.ext D,R.ext D,af.bt (G.trans D)⟩ (by
    rintro z bn ⟨aS,bf,aq,ar,au⟩ (f|f)
    .exact⟨aS.set (r _ (ak _ N)) ⟨λe=>hb.fw.bU.ij (e▸h.lb),λe=>hb.fw.bU.ij (e▸h.v),al _ N⟩ (λe=>hb.fw.bU.ij (e▸h.AS)) f,bf.ax f J,aq.ax f J,ar.ax f J,au.trans (f.mono λq _ e=>.inl e)⟩
    .exact⟨aS.set (r _ (ak _ O)) ⟨λe=>hb.fw.b1.ij (e▸h.lb),λe=>hb.fw.b1.ij (e▸h.v),al _ O⟩ (λe=>hb.fw.b1.ij (e▸h.AS)) f,bf.ax f J,aq.ax f J,ar.ax f J,au.trans (f.mono λq _ e=>.inr e)⟩)
  have F:=bH ap;have A:=a4.ext F;have av:=a5.ext F;have U:=a6.ext F;have aw:=a8.ext F;have ay:=a9.trans (af.bt F);refine⟨0,rfl,λh=>(by cases h),λ_=>⟨λh=>(by cases h),λ_=>aL ?_⟩⟩;generalize ap.drew=ba at A av U aw ay;have fin:∀ {ec:I} (t:Nat),Ext ba ec->Var ec t (lp 9).c 402->Z.uV (some ⟨wb,0,none⟩) K ⟨t,0,none⟩ ec (mK w0 E d n l x wb (c+1) w):=by
   intro ec t L ht;refine Q3 (A.ext L) hc ht λaH w' y aW X bb bc=>aX _ ⟨cO,y,u,aW,r,H,bc,?_⟩;have aA:=(U.ext L).ax X (g.th a2);have bS:=(aw.ext L).ax X (g.th H);have ml:af (λq=>fL.W q\/q=wb\/q=x.m1\/q=x.m2) w aH:=((ay.mono λq _ h=>.inr (.inr h)).trans (af.bt L)).trans (X.mono λq _ b=>.inl b);have fo:∀q,E q->(fL.W q\/q=wb\/q=x.m1\/q=x.m2)->q∈ [wb,x.m1,x.m2]:=by
    rintro q h0 (b|b)
    .exact absurd b (g.th (r q h0))
    .simpa using b
   rcases bb with rfl|Y
   .exact⟨aA,bS,_,ml,fo⟩
   .exact⟨aA.ax Y J,bS.ax Y J,_,ml.trans (Y.mono λq _ e=>.inr (.inl e)),fo⟩
  refine⟨λ_=>False,id,1,U.cell,id,bA.zero.c,av.rd (bA.aM _),_,rfl,id,_,A.v.cell,_,rfl,id,9,by rw[az,az];exact A.v.cell,(pQ A).use ?_,aU (vs:=bT.zero.c) rfl λbo aB ab _=>⟨af.bt ab,(pQ (A.ext ab)).use ?_⟩⟩
  .rintro _ _ ⟨rfl,rfl⟩
   exact⟨0,rfl,af.refl _ _,(lp 9).c.toArray,λbd=>by kernel_rfl,aU (vs:=bT.zero.c) rfl λbp aC aD _=>⟨af.bt aD,aC.cl (by simp[bT.aM]) (by simpa using bT.plain _),by simp[bT.aM],cY aC (us:=(lp 9).c) (by simp[bT.aM]) rfl λec ac ae _=>fin _ (Ext.bR aD ae (bu _)) ac⟩⟩
  .rintro _ _ ⟨rfl,rfl⟩
   exact⟨0,rfl,af.refl _ _,(lp 9).c.toArray,λbd=>by kernel_rfl,aB.cl (by simp[bT.aM]) (by simpa using bT.plain _),by simp[bT.aM],cY aB (us:=(lp 9).c) (by simp[bT.aM]) rfl λec ac ae _=>fin _ (Ext.bR ab ae (bu _)) ac⟩
 rintro j ⟨cO,y,u,aW,r,H,aE,be,aF,aG⟩;refine⟨fY u,be.rd rfl,(Q0 aE u).use ?_⟩;rintro _ bg ⟨t,rfl,aI,aJ,aK⟩;simp only[az,b3];obtain⟨eo,p,cA,bi⟩:=aE.a;have br:w.heap.size<=j.heap.size:=by obtain⟨V,c,_⟩:=aG;exact c.size
 have bj:=aJ.size;refine⟨1,t,1,2,false,y,rfl,te (zs:=fa 0 ez 0 0 false 0) (us:=fa 1 t 1 2 false y) rfl jW λbs ah aO=>⟨⟨_,ah.cell⟩,a7.frozen ah _ rfl,s6 ah λaP i aQ _=>?_⟩⟩
 replace i:Var aP bg.heap.size (fa 1 t 1 2 true y) 75:=i
 have ai:Ext j aP:=Ext.bR (aJ.trans aO) aQ bj;have bk:=aF.ext ai;exact⟨1,i.cell,t,i.cell,1,i.cell,2,i.cell,true,i.cell,y,i.cell,tf (us:=fa 1 t 1 2 true y) bk rfl jW λbv B aj=>⟨1,B.cell,t,B.cell,1,B.cell,2,B.cell,true,B.cell,y,B.cell,⟨t,y,rfl,((aI.ext aO).ax aQ λq b e=>by have:=aI.lt q b;omega).ax aj λq b e=>(by have:=aK q b;have:=aF.lt;omega),λq b=>by have:=aK q b;omega⟩,(aG.more (af.bt (W:=λ_=>False) ai) λq h=>h.elim).more aj λq e=>J,cO,aW,eo,p,cA,r,(bi.ext ai).jb H J aj⟩⟩
end
end Go.Proofs.YtkpjknbogcihmaaGreatDoor
/- A packet on its way: a client's. -/
namespace Go.Proofs.YtkpjknbogcihmaaGreatDoor
open Go aQ Go.Proofs.Tryz
theorem Q5:(eF b_ 0).getD bA.zero=bA.zero:=by decide+kernel
section
variable {w0 w w' w1 bd b8 j_:I}{E:Nat->Prop}{d n:Nat}{l:dG}{x:gO}{wb q h9 pa c:Nat}{s k:ai}{e u y:Int}{S aW:cn}{T aO:Y bT}{vs:Y O}{iO:TypeId}
theorem Q6(h:eA w0 E d n l x wb s k 0 S [] c w)(hc:c<=1000)(hb:gP w x)(A:∀q,x.own q->E q)(B:∀q,x.own q->¬aN s q)(a:Ext w bd)(b:Var bd w.heap.size bA.zero.c 30)(e:Var bd w1.heap.size (fa 0 ez 0 0 false 0) 75)(he:Var bd h9 ln.c 87)
 (C:w.heap.size<=w1.heap.size):Z.uX (some ⟨wb,0,none⟩) 2 w w1 ⟨h9,0,none⟩ bd (mK w0 E d n l x wb (c+1) w):=by
 (delta Z.uX bx pt eU aY qk e0 bG jq aa;dsimp only);have g:=bH bd;have a:=a.trans g;have b:=b.ext g;have e:=e.ext g;have he:=he.ext g;refine aL ?_;generalize bd.drew=p at a b e he;have f:=h.v.ext a;have z:=a.size;have F:=b.lt;have G:=e.lt;have fin:∀ {cN:I} (t:Nat),Ext p cN->p.heap.size<=t->Var cN t (fY 0) 291->Z.uW (some ⟨wb,0,none⟩) 2 w w1 ⟨t,0,none⟩ cN (mK w0 E d n l x wb (c+1) w):=λt hx ht f=>Q4 h hc hb A B (a.trans hx) (b.ext hx) (e.ext hx) f J C ⟨J,J⟩;refine⟨λ_=>False,_,rfl,id,1,by rw[az];exact f.cell,id,aE.zero.c,by rw[az];exact he.e2 (o:=1) (n:=17) (by show 1+17<=21;decide),id,8080,by rw[az];exact he.cell,(Is f).use ?_,aU (vs:=eK) (by kernel_rfl) λH r i _=>⟨af.bt i,(Is (f.ext i)).use ?_⟩⟩
 .rintro _ _ ⟨rfl,rfl⟩
  exact⟨6,rfl,af.refl _ _,(fY 0).toArray,λD=>by kernel_rfl,aU (vs:=eK) (by kernel_rfl) λK u y _=>⟨af.bt y,u.cl (by rfl) (by simpa using HC 0),by rfl,cY u (us:=fY 0) (by rfl) rfl λcN j m _=>fin _ (Ext.bR y m (bu _)) (bu _) j⟩⟩
 .rintro _ _ ⟨rfl,rfl⟩
  exact⟨6,rfl,af.refl _ _,(fY 0).toArray,λD=>by kernel_rfl,r.cl (by rfl) (by simpa using HC 0),by rfl,cY r (us:=fY 0) (by rfl) rfl λcN j m _=>fin _ (Ext.bR i m (bu _)) (bu _) j⟩
theorem Q7(h:eA w0 E d n l x wb s k 0 S [] c w)(hc:c<=1000)(hb:gP w x)(A:∀q,x.own q->E q)(B:∀q,x.own q->¬aN s q):aA ae 214 #[.pointer (some ⟨wb,0,none⟩),.agg bA.zero.c.toArray,.int .i64 2] w (mK w0 E d n l x wb (c+1) w):=by
 refine okF (Z.yB (some ⟨wb,0,none⟩) bA.zero.c.toArray 2) ao.yB func214 ?_;(delta Z.yB j9 bx pt eU aY eS mV aa;dsimp only);refine aU (vs:=bA.zero.c) rfl λw1 C j _=>aU (vs:=fa 0 ez 0 0 false 0) rfl λag D m _=>aL ?_;have a:=(j.trans m).trans (bH ag);have o:=(C.ext m).ext (bH ag);have p:=D.ext (bH ag);generalize ag.drew=F at a o p;have b:=h.v.ext a;have G:=h.lb.ext a;have fin:∀ {bd:I} (t:Nat),Ext F bd->Var bd t ln.c 87->Z.uX (some ⟨wb,0,none⟩) 2 w w1 ⟨t,0,none⟩ bd (mK w0 E d n l x wb (c+1) w):=λt hx b=>Q6 h hc hb A B (a.trans hx) (o.ext hx) (p.ext hx) b j.size;refine⟨λ_=>False,_,rfl,id,_,b.cell,_,rfl,id,_,by rw[az];exact G.cell,_,rfl,id,1,by rw[az];exact b.cell,(H9 (hb.ext a)).use ?_,aU (vs:=bO.zero.c) (by kernel_rfl) λK H e _=>⟨af.bt e,(H9 ((hb.ext a).ext e)).use ?_⟩⟩
 .rintro _ L ⟨rfl,r⟩
  exact⟨_,_,rfl,af.bt r,aU (vs:=bO.zero.c) (by kernel_rfl) λM u y _=>⟨af.bt y,u.cl (by simp[bO.aM]) (by simpa using bO.plain _),by simp[bO.aM],cY u (us:=ln.c) (by simp[bO.aM]) rfl λJ f g _=>fin _ (r.trans (Ext.bR y g (bu _))) f⟩⟩
 .rintro _ N ⟨rfl,i⟩
  have z:=H.ext i;exact⟨_,_,rfl,af.bt i,z.cl (by simp[bO.aM]) (by simpa using bO.plain _),by simp[bO.aM],cY z (us:=ln.c) (by simp[bO.aM]) rfl λJ f g _=>fin _ (Ext.bR (e.trans i) g (bu _)) f⟩
theorem Q8(h:eA w0 E d n l x wb s k e S [] c w)(hc:c<=900)(hb:gP w x)(F:∀q,x.own q->E q)(G:∀q,x.own q->¬aN s q)(H:¬x.own wb)(f:Ext w j_)(i:Var j_ pa bA.zero.c 30)(v:Var j_ w.heap.size (fa 0 ez 0 0 false 0) 75)(I:w.heap.size<=pa):
 Z.uT (some wb) w pa j_ (mK w0 E d n l x wb (c+1) w):=by
 have W:=h.lt;have X:=hb.lt x.m1 (.inr (.inl rfl));have cq:=hb.lt x.m2 (.inr (.inr (.inl rfl)));have z:=f.size;(delta Z.uT hG ad mU b7 aa lM aY bD a_ bh cT bq;dsimp only);obtain⟨aW,A⟩:=h.grow f;generalize j:(λq=>E q\/(w.heap.size<=q/\q<j_.heap.size))=cO at A;have g:∀q,E q->cO q:=λq a=>by rw[←j];exact .inl a
 have K:cO pa:=by rw[←j];exact .inr ⟨I,i.lt⟩
 have m:cO w.heap.size:=by rw[←j];exact .inr ⟨bu _,v.lt⟩
 have L:∀q,x.own q->cO q:=λq a=>g q (F q a);refine⟨_,i.rd (bA.aM _),(Q2 A (hb.ext f) H).use ?_⟩;rintro _ Y ⟨rfl,⟨fL,M⟩,N,o⟩;have O:=o.var i K (by simp;omega);have r:=o.var v m (by simp;omega);refine⟨2,true,rfl,λh=>(by cases h),λ_=>⟨_,O.rd (bA.aM _),(Q7 M J N L G).use ?_⟩⟩;rintro _ ab ⟨⟨t,y,rfl,P,B⟩,C,Q,og,eo,p,cA,D,R⟩;have T:=C.var r m (by simp;omega);have la:=h.AS.lt;simp only[az,b3];refine⟨1,t,1,2,true,y,rfl,tf (us:=fa 1 t 1 2 true y) T rfl jW λac b u=>⟨1,b.cell,t,b.cell,1,b.cell,2,b.cell,true,b.cell,y,b.cell,⟨t,y,rfl,P.ax u λq a e=>(by have:=B q a;have:=r.lt;omega),λq a=>(by have:=B q a;have:=r.lt;omega)⟩,?_,Q,og,eo,p,cA,λq a=>D q (g q a),R.jb (D _ m) J u⟩⟩;obtain⟨U,b2,aS⟩:=o;obtain⟨V,bQ,bf⟩:=C;refine⟨λq=>U q\/V q,de (((af.bt f).trans (b2.mono λ_ _ h=>.inl h)).trans (bQ.mono λ_ _ h=>.inr h)) u λq a e=>J,λq h0 a=>?_⟩;rcases a with a|a
 .have:=aS q (g q h0) a
  simp at this;simp[this]
 .exact bf q (g q h0) a
theorem Q9(h:eA w0 E d n l x wb s k e S [] c w)(hc:c<=900)(hb:gP w x)(P:∀q,x.own q->E q)(Q:∀q,x.own q->¬aN s q)(R:¬x.own wb)(a:Ext w b8)(he:Var b8 h9 eK 291)(g:Var b8 w.heap.size (fa 0 ez 0 0 false 0) 75):
 Z.sg (some ⟨wb,0,none⟩) w ⟨h9,0,none⟩ false b8 (mK w0 E d n l x wb (c+1) w):=by
 (delta Z.sg bx pt eU aY eS mV aa ad kA;dsimp only);refine bL (λ_ w'=>Ext b8 w') (λK A=>aL ?_) ?_
 .have f:=bH b8
  have a:=a.trans f;have he:=he.ext f;generalize b8.drew=ah at f a he;refine⟨λ_=>False,_,rfl,id,_,(h.v.ext a).cell,_,rfl,id,_,by rw[az];exact(h.lb.ext a).cell,id,0,he.cell,id,0,by rw[az];exact he.cell,(H_ (hb.ext a)).use ?_,aU (vs:=bO.zero.c) (by kernel_rfl) λai T m _=>⟨af.bt m,(H_ ((hb.ext a).ext m)).use ?_⟩⟩
  .rintro _ b5 ⟨z,b,rfl,B⟩
   exact⟨_,_,rfl,af.bt B,aU (vs:=bO.zero.c) (by kernel_rfl) λaj C D _=>⟨af.bt D,C.cl (by simp[bO.aM]) (by simpa using bO.plain _),by simp[bO.aM],cY C (us:=z.c) (by simp[bO.aM]) rfl λak al U _=>A _ _ ((f.trans B).trans (Ext.bR D U (bu _)))⟩⟩
  .rintro _ am ⟨z,b,rfl,p⟩
   have F:=T.ext p;exact⟨_,_,rfl,af.bt p,F.cl (by simp[bO.aM]) (by simpa using bO.plain _),by simp[bO.aM],cY F (us:=z.c) (by simp[bO.aM]) rfl λan ao V _=>A _ _ (f.trans (Ext.bR (m.trans p) V (bu _)))⟩
 rintro ap G W;refine⟨λh=>(by cases h),λ_=>aL ?_⟩;have f:=W.trans (bH G);have a:=a.trans f;have g:=g.ext f;generalize G.drew=r at a g;have i:=h.v.ext a;have z:=a.size;have u:=λw=>o4 b_ 0 w;rw[Q5]at u;have fin:∀ {j:I} (t:Nat),Ext r j->r.heap.size<=t->Var j t bA.zero.c 30->Z.uT (some ⟨wb,0,none⟩) w ⟨t,0,none⟩ j (mK w0 E d n l x wb (c+1) w):=λt hx ht i=>Q8 h hc hb P Q R (a.trans hx) i (g.ext hx) J;refine⟨λ_=>False,_,rfl,id,b_.c,by rw[az,az];exact i.e2 (o:=46) (n:=17) (by show 46+17<=108;decide),_,rfl,id,0,by rw[az,az];exact i.cell,(u r).use ?_,aU (vs:=bA.zero.c) (by kernel_rfl) λX Y H _=>⟨af.bt H,(u X).use ?_⟩⟩
 .rintro _ aq ⟨rfl,y⟩
  exact⟨_,_,rfl,af.bt y,aU (vs:=bA.zero.c) (by kernel_rfl) λar L M _=>⟨af.bt M,L.cl (by simp) (by simpa using bA.plain _),by simp[bA.aM],cY L (us:=bA.zero.c) (by simp) rfl λj ab ac _=>fin _ (y.trans (Ext.bR M ac (bu _))) y.size ab⟩⟩
 .rintro _ au ⟨rfl,N⟩
  have O:=Y.ext N;exact⟨_,_,rfl,O.cl (by simp) (by simpa using bA.plain _),by simp[bA.aM],cY O (us:=bA.zero.c) (by simp) rfl λav ae ag _=>fin _ (Ext.bR (H.trans N) ag (bu _)) (bu _) ae⟩
theorem Q_(h:eA w0 E d n l x wb s k e S [] c w)(hc:c<=900)(hb:gP w x)(F:∀q,x.own q->E q)(G:∀q,x.own q->¬aN s q)(H:¬x.own wb):aA ae 143 #[.pointer (some ⟨wb,0,none⟩)] w (mK w0 E d n l x wb (c+1) w):=by
 refine okF (Z.yf (some ⟨wb,0,none⟩)) ao.yf func143 ?_;(delta Z.yf j9 bx pt fe eS aZ jq aa;dsimp only);refine aU (vs:=fa 0 ez 0 0 false 0) rfl λw1 J K _=>aL ?_;have a:=K.trans (bH w1);have u:=J.ext (bH w1);generalize w1.drew=ag at a u;have b:=h.v.ext a;have fin:∀ {b8:I} (t:Nat),Ext ag b8->Var b8 t eK 291->Z.sg (some ⟨wb,0,none⟩) w ⟨t,0,none⟩ false b8 (mK w0 E d n l x wb (c+1) w):=λt hx b=>Q9 h hc hb F G H (a.trans hx) b (u.ext hx);have j:∀ {aH:I},Ext ag aH->aA ae 210 #[.pointer (some ⟨x.ba,0,none⟩),.agg gD.c.toArray,.int .u64 0] aH (λv w'=>v=.tuple #[.agg eK.toArray,.bool false]/\Ext aH w'):=λhx=>Po (hb.fw.ext (a.trans hx)) gD 0;refine⟨λ_=>False,_,rfl,id,_,b.cell,_,rfl,id,_,by rw[az];exact(h.lb.ext a).cell,_,rfl,id,gD.c,by rw[az,az];exact b.e2 (o:=46) (n:=37) (by show 46+37<=108;decide),_,rfl,id,_,b.cell,(pQ (h.ext a)).use ?_,aU (vs:=eK) (by kernel_rfl) λN L i _=>⟨af.bt i,(pQ ((h.ext a).ext i)).use ?_⟩⟩
 .rintro _ _ ⟨rfl,rfl⟩
  refine⟨0,rfl,af.refl _ _,(j (.refl _ _)).use ?_,aU (vs:=eK) (by kernel_rfl) λO M m _=>⟨af.bt m,(j m).use ?_⟩⟩
  .rintro _ P ⟨rfl,y⟩
   exact⟨_,_,rfl,af.bt y,aU (vs:=eK) (by kernel_rfl) λQ z A _=>⟨af.bt A,z.cl (by simp) (by simpa using mD),by rfl,cY z (us:=eK) (by simp) rfl λB f g _=>fin _ (y.trans (Ext.bR A g (bu _))) f⟩⟩
  .rintro _ R ⟨rfl,p⟩
   have C:=M.ext p;exact⟨_,_,rfl,af.bt p,C.cl (by simp) (by simpa using mD),by rfl,cY C (us:=eK) (by simp) rfl λB f g _=>fin _ (Ext.bR (m.trans p) g (bu _)) f⟩
 .rintro _ _ ⟨rfl,rfl⟩
  refine⟨0,rfl,af.refl _ _,(j i).use ?_⟩;rintro _ T ⟨rfl,r⟩;have D:=L.ext r;exact⟨_,_,rfl,af.bt r,D.cl (by simp) (by simpa using mD),by rfl,cY D (us:=eK) (by simp) rfl λB f g _=>fin _ (Ext.bR (i.trans r) g (bu _)) f⟩
end
end Go.Proofs.YtkpjknbogcihmaaGreatDoor
/- A packet comes to a balancer that knows of no flow. -/
namespace Go.Proofs.YtkpjknbogcihmaaGreatDoor
open Go aQ Go.Proofs.Tryz
section
variable {w0 w w':I}{cw:Nat->Prop}{x:gO}{d n:Nat}{l:dG}{S:cn}{s k:ai}{eo p:Y Nat}{cA:Y bT}
theorem Ra(A:gj w0 w cw d n l x.ab 6 S eo p [] cA 0)(ac:S.now=0)(hl:Var w x.lb x.c 285)(hb:gP w x)(B:∀q,q=x.lb\/x.own q\/aN s q->cw q)(C:Src 1 w s (au iS))(hc:s.len<=s.cap)(ag:∀q,x.own q->¬aN s q):
 aA ae 82 #[.pointer (some ⟨x.lb,0,none⟩),.slice s.a s.len s.cap] w (λv w'=>(∃ (t:ai) (e:Int),v=.agg (fa 1 t 1 2 true e).toArray/\aR 1 5 w' t (au hU)/\du w t)/\l5 cw [x.m1,x.m2] w w'/\
  ∃ (I:Nat->Prop) (aW:cn) (eo p:Y Nat) (cA:Y bT),(∀q,cw q->I q)/\gj w0 w' I d n l x.ab 6 aW eo p [lp 9] cA 1):=by
 refine okF (Z.x1 (some ⟨x.lb,0,none⟩) s) ao.x1 func82 ?_;(delta Z.x1 j9 ad b7 aa lM aY bD a_ bh cT bq gU z3 bx pt qk e0 h4 bS hG eS xs mU;dsimp only);refine aU (vs:=fa 0 ez 0 0 false 0) rfl λw1 ah K aC=>⟨λh=>(by cases h),λ_=>(Ip (by decide) (by decide) De (C.ext K) hc).use ?_⟩;rintro _ aD ⟨rfl,D⟩;refine⟨_,_,rfl,gL (us:=nt) (by rfl) (by rfl) Io λL M E=>⟨λh=>(by cases h),λ_=>⟨nt,M.rd (by rfl),(.pointer (some ⟨x.lb,0,none⟩)::(nt++(.slice s.a s.len s.cap::(cQ.zero.c ez++ [.int .i64 0])))).toArray,by kernel_rfl,aU rfl λF aj ak _=>aL ?_⟩⟩⟩;have N:=(K.trans D).trans E;have u:=ak.trans (bH F);have f:=N.trans u;have O:=aj.ext (bH F);have y:=M.ext u;generalize F.drew=bd at u f O y;refine⟨λ_=>False,_,rfl,id,_,by rw[az];exact(hl.ext f).cell,id,aE.zero.c,by rw[az,az];exact y.e2 (o:=62) (n:=17) (by show 62+17<=82;decide),id,80,by rw[az,az];exact y.cell,id,17,by rw[az,az];exact y.cell,(Ph (r:=x.rc) (hb.ext f).cG (dH.2 rfl) aE.zero 80 17 rfl).use ?_⟩;rintro _ aF ⟨rfl,j⟩;refine⟨_,_,rfl,λ_=>⟨_,rfl,_,by rw[az];exact((hl.ext f).ext j).cell,(Pg (r:=x.rc) ((hb.ext f).ext j).cG (dH.2 rfl)).use ?_⟩,λh=>(by cases h)⟩;rintro _ cN ⟨k,rfl,_,G,_⟩;have P:=(O.ext j).ext G;refine⟨_,_,rfl,_,rfl,a7.cl P 84 _ (by show 84+(kk.c k).length<=108;rw[cQ.aM];decide) (cQ.plain kk k),by rfl,?_⟩;rw[az];refine Qj (o:=84) (us:=kk.c k) P rfl (by show 84+(kk.c k).length<=108;rw[cQ.aM];decide) λcr z Q=>?_
 replace z:Var cr L.heap.size (AQ x s k 0) 280:=z
 have cu:=(f.trans j).trans G;have gV:=N.size;have m:Ext w cr:=Ext.bR cu Q gV;have z3:=z.lt;have al:=A.grow (cO:=λq=>cw q\/(w.heap.size<=q/\q<cr.heap.size)) m (λq b=>b) (.inl A.vx);have am:=λq b=>vG C (by decide) q b;have an:eA w0 _ d n l x L.heap.size s k 0 _ [] 0 cr:=⟨⟨eo,p,cA,al⟩,hl.ext m,z,C.ext m,hc,?_,λh=>by have:=am _ h;omega,ac⟩
 .refine(Q_ an (by decide) (hb.ext m) (λq b=>.inl (B q (.inr (.inl b)))) ag λh=>by have:=hb.lt _ h;omega).use ?_
  rintro _ aG ⟨⟨t,e,rfl,ht,R⟩,T,ap,og,aq,ar,lM,U,av⟩;have g:=ah.ext ((D.trans E).trans ((u.trans j).trans G));have aH:=D.size;have aI:=E.size;have g:Var cr w.heap.size (fa 0 ez 0 0 false 0) 75:=g.ax Q J;have X:cw w.heap.size\/(w.heap.size<=w.heap.size/\w.heap.size<cr.heap.size):=.inr ⟨bu _,g.lt⟩;have la:=A.v.lt;have aJ:=hb.lt x.m1 (.inr (.inl rfl));have cq:=hb.lt x.m2 (.inr (.inr (.inl rfl)));have aw:=T.var g X (by simp;omega);simp only[az,b3];refine⟨1,t,1,2,true,e,rfl,tf (us:=fa 1 t 1 2 true e) aw rfl jW λaK i H=>⟨1,i.cell,t,i.cell,1,i.cell,2,i.cell,true,i.cell,e,i.cell,⟨t,e,rfl,ht.ax H λq b e=>(by have:=R q b;have:=g.lt;omega),λq b=>(by have:=R q b;have:=g.lt;omega)⟩,?_,ap,og,aq,ar,lM,λq b=>U q (.inl b),av.jb (U _ X) J H⟩⟩;obtain⟨V,ay,aB⟩:=T;refine⟨λq=>V q/\q<w.heap.size,de (de (W:=λq=>V q/\q<w.heap.size) (af.bt m) ay λq hl h=>⟨h,hl⟩) H λq b e=>J,λq h0 b=>?_⟩;have:=aB q (.inl h0) b.1;simp only[c4,g1,hF]at this⊢;rcases this with e|e|e
  .omega
  .exact .inl e
  .exact .inr e
 .rintro q (rfl|rfl|b)
  .exact .inl (B _ (.inl rfl))
  .exact .inr ⟨gV,z3⟩
  .exact .inl (B _ (.inr (.inr b)))
end
section
variable {w0 w w' w1:I}{cw:Nat->Prop}{d n ab most c:Nat}{l:dG}{S:cn}{pages bm:Y Nat}{T cA:Y bT}
theorem h6.Rb(h:h6 w0 w cw d n l S [] [] [] [] c)(hf:S.failed=false)(a:S.T.C.D.quiet)(b:S.pending<l.batch)(he:cw ab)(e:Var w ab [.pointer (some S.st),most] 305)(hm:1<=most/\most<=400)(f:n=4*most+64):gj w0 w cw d n l ab most S [] [] [] [] c:=
 ⟨h,hf,a,he,e,λt ht=>(by cases ht),λt ht=>(by cases ht),b,λ_=>rfl,⟨dC _,dC _⟩,hm,f,List.Pairwise.nil⟩
end
def vL(d:Nat)(f b dl eu aI df cZ cG cC:Int)(bw a l:aw av):Y O:=[.pointer (some d),f,b,.int .u64 dl,.int .u64 eu,aI,df,cZ,cG,cC,.pointer bw,.pointer a,.pointer l]
def q_(df aI cZ cG cC:Int):ah:=(decide (df>=1)&&decide (df<=400))&&q9 aI cZ cG cC
section
variable {w0 g0 w w' w1:I}{d n bb c:Nat}{l:dG}{S:cn}{f b dl eu aI df cZ cG cC:Int}{st dS:av}{a0 kD:aw av}
structure It(w w':I)(bb d:Nat)(f b dl eu aI df cZ cG cC:Int)(st dS:av)(ab lb ba m1 m2 hb hm sb most:Nat):Prop where
 ta:aI=(most:Int)
 AT:Var w' ab [.pointer (some st),df] 305
 p5:Var w' lb (AL eu aI df cZ cG cC (some dS) (some ab) (some ba) (some hb) (some sb)) 285
 fw:ki w' ba m1 m2 most [] []
 he:l0 w' hb hm cZ cG
 iB:Var w' bb (vL d f b dl eu aI df cZ cG cC (some dS) (some ab) (some lb)) 151
 Rc:∀q,q=ab\/q=lb\/q=ba\/q=m1\/q=m2\/q=hb\/q=hm->w.heap.size<=q
theorem Re(k:Var w bb (vL d f b dl eu aI df cZ cG cC (some dS) a0 kD) 151):aA ae 74 #[.pointer (some bb),.pointer (some st)] w (λv w'=>(q_ df aI cZ cG cC=false/\v=.int .i64 1/\Ext w w')\/
 (q_ df aI cZ cG cC=true/\v=.int .i64 0/\∃ (ag:I) (ab lb ba m1 m2 hb hm sb most:Nat),Ext w ag/\af (λq=>q=bb) ag w'/\It w w' bb d f b dl eu aI df cZ cG cC st dS ab lb ba m1 m2 hb hm sb most)):=by
 refine okF (Z.x0 (some bb) (some st)) ao.x0 func74 ?_;(delta Z.x0 pt aY gf ad bx mi di aZ st;dsimp only);have H:=k.lt;refine⟨_,rfl,df,by rw[az,az];exact k.cell,(sd w df).use ?_⟩;rintro _ l ⟨n,⟨t,rfl⟩|⟨⟨_,h1,h2⟩,rfl,u⟩⟩
 .have e:q_ df aI cZ cG cC=false:=by
   unfold q_;rcases t with h|h|h
   .cases h
   .rw[hY (p:=df>=1) J];rfl
   .rw[hY (p:=df<=400) J,tB];rfl
  exact⟨_,_,rfl,λ_=>.inl ⟨e,rfl,n⟩,λh=>(by cases h)⟩
 have x:(decide (df>=1)&&decide (df<=400))=true:=by rw[fF h1,fF h2];rfl
 have g:=n.trans (bH l);have a:=k.ext g;have o:=u.ext (bH l);refine⟨_,_,rfl,λh=>(by cases h),λ_=>aL ?_⟩;generalize l.drew=y at g a o;refine⟨λ_=>False,_,rfl,id,eu,by rw[az];exact a.cell,aI,by rw[az,az];exact a.cell,df,by rw[az,az];exact a.cell,cZ,by rw[az,az];exact a.cell,cG,by rw[az,az];exact a.cell,cC,by rw[az,az];exact a.cell,_,rfl,id,_,by rw[az];exact a.cell,(se eu aI df cZ cG cC dS w.heap.size y).use ?_⟩;rintro _ bd ⟨j,⟨hg,rfl⟩|⟨hg,lb,ba,m1,m2,hb,hm,sb,most,z,rfl,hl,A,B,m⟩⟩
 .exact⟨_,_,rfl,λ_=>.inl ⟨by unfold q_;rw[hg,tB],rfl,g.trans j⟩,λh=>(by cases h)⟩
 have C:=g.trans j;have jn:=g.size;have r:=a.ext j;refine⟨_,_,rfl,λh=>(by cases h),λ_=>?_⟩;obtain⟨bU,b1⟩:=e9 r (i:=11) (by show 11<13;decide);have s:=e8 r (i:=11) (.pointer (some w.heap.size));obtain⟨D,E⟩:=e9 s (i:=12) (by show 12<13;decide);have F:=e8 s (i:=12) (.pointer (some lb));have hc:=(eg bd bb 11 (.pointer (some w.heap.size))).trans (eg _ bb 12 (.pointer (some lb)));have K:=λq h=>m q h;refine⟨_,rfl,by rw[az];exact bU,by rw[az];exact b1,aL ⟨_,rfl,by rw[az,az];exact D,by rw[az,az];exact E,aL ?_⟩⟩;rw[az,az];have c:∀q,q=lb\/q=ba\/q=m1\/q=m2\/q=hb\/q=hm->¬q=bb:=λq h=>by have:=m q h;omega
 refine .inr ⟨by unfold q_;rw[x,hg];rfl,rfl,bd,w.heap.size,lb,ba,m1,m2,hb,hm,sb,most,C,hc,⟨z,(o.ext j).ax hc J,hl.ax hc (c lb (by simp)),A.ax hc ⟨c _ (by simp),c _ (by simp),c _ (by simp)⟩,B.ax hc ⟨c _ (by simp),c _ (by simp)⟩,F,?_⟩⟩;rintro q (rfl|G)
 .exact bu _
 .have:=m q G;omega
def ti(n f b dl df aI cZ cG cC:Int):ah:=(decide (n>=16)&&decide (pC f b dl))&&q_ df aI cZ cG cC
theorem Rf{n:Int}(h:n<16)(w:I):aA ae 71 #[n] w (λv w'=>v=.tuple #[.pointer none,(1:Int)]/\w=w'):=by
 refine okF (Z.nU n) ao.nU func71 ?_;(delta Z.nU ad gG aa xs dc;dsimp only);refine⟨λ_=>⟨rfl,rfl⟩,λhb=>?_⟩;rw[fF h]at hb
 cases hb
structure vM(w w':I)(bb d:Nat)(n:Int)(l:dG)(eu aI df cZ cG cC:Int)(S:cn)(g0 ag:I)(bw:iP)(ab lb ba m1 m2 hb hm sb most:Nat):Prop where
 Dg:h6 w g0 (λ_=>False) d n.toNat l S [] [] [] [] 0
 live:S.failed=false
 q:S.T.C.D.quiet
 Ai:S.pending=0
 now:S.now=0
 cf:Ext g0 ag
 x:Ext g0 w'
 Dh:ee w' bw []
 Rg:∀q,gY bw [] q->g0.heap.size<=q/\q<bb
 Iu:g0.heap.size<=bb/\bb<ag.heap.size
 g:It ag w' bb d l.ay l.batch l.iX eu aI df cZ cG cC S.st bw.p ab lb ba m1 m2 hb hm sb most
theorem rY(n f b dl eu aI df cZ cG cC:Int)(aj:n<=1600)(w:I):aA ae 43 #[n,.agg #[f,b,.int .u64 dl],.agg #[.int .u64 eu,aI,df,cZ,cG,cC]] w (λv w'=>Ext w w'/\
 ((ti n f b dl df aI cZ cG cC=false/\v=.tuple #[.pointer none,(1:Int)])\/(ti n f b dl df aI cZ cG cC=true/\∃ (bb d:Nat) (l:dG) (S:cn) (g0 ag:I) (bw:iP) (ab lb ba m1 m2 hb hm sb most:Nat),v=.tuple #[.pointer (some bb),(0:Int)]/\f=(l.ay:Nat)/\b=(l.batch:Nat)/\dl=(l.iX:Nat)/\
   vM w w' bb d n l eu aI df cZ cG cC S g0 ag bw ab lb ba m1 m2 hb hm sb most))):=by
 refine okF (Z.rY n f b dl eu aI df cZ cG cC) ao.rY func43 ?_;(delta Z.rY aZ gf ad aY aa bh dY di bx gH bG;dsimp only);simp only[az,b3];refine aU (vs:=[f,b,.int .u64 dl]) rfl λw1 D O _=>aU (vs:=mI eu aI df cZ cG cC) rfl λag E A _=>?_;have r:=O.trans A;by_cases P:n<16
 .refine(Rf P ag).use ?_
  rintro _ _ ⟨rfl,rfl⟩;exact⟨_,_,rfl,λ_=>⟨r,.inl ⟨by unfold ti;rw[hY (p:=n>=16) J];rfl,by trivial⟩⟩,λh=>(by cases h)⟩
 obtain⟨m,rfl⟩:∃m:Nat,n=(m:Int):=⟨n.toNat,J⟩;refine(nU (n:=m) J J ag).use ?_;rintro _ ak ⟨d,lb,mr,rfl,hd,s,F⟩;have t:=(D.ext A).ext s;refine⟨_,0,rfl,λh=>(by cases h),λ_=>⟨f,t.cell,b,t.cell,dl,t.cell,?_⟩⟩;by_cases j:pC f b dl
 rotate_left
 .refine(Ol (.inr j)).use ?_
  rintro _ o ⟨rfl,Q⟩;exact⟨_,_,rfl,λ_=>⟨(r.trans s).trans Q,.inl ⟨by unfold ti;rw[hY j,tB];rfl,by trivial⟩⟩,λh=>(by cases h)⟩
 obtain⟨l,rfl,rfl,rfl⟩:∃l:dG,f=(l.ay:Nat)/\b=(l.batch:Nat)/\dl=(l.iX:Nat):=by
  obtain⟨aS,bf,al,am,an,ap⟩:=j;exact⟨⟨f.toNat,b.toNat,dl.toNat⟩,by show f=(f.toNat:Int);omega,by show b=(b.toNat:Int);omega,by show dl=(dl.toNat:Int);omega⟩
 refine(Og (l:=l) (cw:=λ_=>False) hd j (λk=>⟨.inl rfl,.inl rfl⟩) rfl (by show 0<=999999000;omega) (λq h=>h.elim)).use ?_;rintro _ o ⟨R,rfl,T,a,hu,hg⟩;have u:=h6.new (w0:=w) (r.trans s) T a hu hg (λq c=>cB r.size (F q c)) (λq h=>h.elim) rfl rfl;have U:(qR m d lb mr).n=m:=by show(List.replicate _ iM).length=_;rw[nE]
 rw[U]at u;have f0:∀q,q<ag.heap.size->¬cm (qR m d lb mr) q:=λq c hf=>by have:=F q hf;omega
 have V:=t.ax a.ax (f0 _ (D.ext A).lt);have W:=(E.ext s).ax a.ax (f0 _ E.lt);have i:=bH o;have y:=V.ext i;have g:=W.ext i;refine⟨_,_,rfl,λh=>(by cases h),λ_=>aL ?_⟩;generalize o.drew=X at i y g;refine⟨λ_=>False,id,_,y.cell,_,y.cell,_,y.cell,id,eu,g.cell,aI,g.cell,df,g.cell,cZ,g.cell,cG,g.cell,cC,g.cell,(qv X).use ?_⟩;rintro _ aq ⟨bw,rfl,B,C,hf⟩;refine⟨_,rfl,af.bt C,(vL d l.ay l.batch l.iX eu aI df cZ cG cC (some bw.p) none none).toArray,by kernel_rfl,aU rfl λY H K _=>(Re H).use ?_⟩;have ar:=(i.trans C).trans K;have L:=(i.trans C).size;have ac:=H.lt;have ah:decide ((m:Int)>=16)=true:=fF J;rintro _ ai (⟨hg,rfl,z⟩|⟨hg,rfl,au,ab,lb,ba,m1,m2,hb,hm,sb,most,z,M,G⟩)
 .exact⟨_,rfl,λ_=>⟨u.x.trans (ar.trans z),.inl ⟨by unfold ti;rw[hg,tB],by trivial⟩⟩,λh=>(by cases h)⟩
 .have N:Ext o ai:=Ext.bR (ar.trans z) M L
  have av:=i.size;refine⟨_,rfl,λh=>(by cases h),λ_=>⟨u.x.trans N,.inr ⟨by unfold ti;rw[hg,ah,fF j];rfl,_,d,l,R,o,Y,bw,ab,lb,ba,m1,m2,hb,hm,sb,most,by trivial,rfl,rfl,rfl,u,a.live,a.q,a.sX,a.now.trans (by rw[hu];rfl),ar,N,?_,λq c=>⟨by have:=hf q c;omega,B.lt c⟩,⟨L,ac⟩,G⟩⟩⟩;exact((B.ext K).ext z).ax M λq c e=>by have:=B.lt c;omega
end
def tj:Y O:=fa 0 ez 0 0 false 0
def oB(v:Y O)(e n m:Int)(o:ah):Y O:=v++ [.int .i64 e,.int .i64 n,.int .i64 m,.bool o]
def kl:Y O:=oB tj 0 0 0 false
def lr(k:Int)(s:ai)(id:Int)(sv:cQ)(to:bO):Y O:=.int .i64 k:: .slice s.a s.len s.cap:: .int .i64 id:: .int .i64 0:: .int .u64 0:: .bool false::(sv.c ez++(to.c++ [.slice none 0 0]))
theorem vN(k:Int)(s:ai)(id:Int)(sv:cQ)(to:bO):(lr k s id sv to).length=51:=by simp[lr,cQ.aM,bO.aM]
theorem pR{v:Y O}{e n m:Int}{o:ah}(h:∀u∈v,Plain u):∀u∈oB v e n m o,Plain u:=hC h (cE cV (cE cV (cE cV (cE s3 jc))))
section
variable {w w':I}{b:av}{op:Y O}{k:Int}{R:Y O->I->Prop}
def Iv(w:I)(R:Y O->I->Prop)(q:Nat)(a:Y O)(w':I):Prop:=
 a.length=10/\(∀u∈a,Plain u)/\Var w' q kl 77/\∀b ag,Ext w' b->af (λx=>x=q) b ag->R a ag
theorem Iw(z:op[0]? =some (.int .i64 k))(h1:1<=k/\k<=14)(hl:op.length=51){Q:O->I->Prop}
 (ar:∀ (w0 ag:I),Ext w w0->Ext w0 ag->Var ag w.heap.size op 90->Var ag w0.heap.size kl 77->w.heap.size<w0.heap.size->Calls ae 47 #[.pointer (some b),.agg op.toArray] ag λA d=>
 ∃e:Array O,∃j:ah,A=.returned (.tuple #[.agg e,.bool j])/\aq (d.alloc (.cells kl.toArray 77)) λo=>bE o ⟨d.heap.size,0,none⟩ (Array.toList e)/\Array.size e=10/\aq (setCells o ⟨d.heap.size,0,none⟩ 0 (Array.toList e)) λa=>
 (j=true->∃f:Y O,aG a ⟨d.heap.size,0,none⟩ 0 10=some f/\bE a ⟨w0.heap.size,0,none⟩ (Array.toList f.toArray)/\Array.size f.toArray=10/\aq (setCells a ⟨w0.heap.size,0,none⟩ 0 (Array.toList f.toArray)) λbk=>∃p:Y O,aG bk ⟨w0.heap.size,0,none⟩ 0 10=some p/\Q (.agg p.toArray) bk)
 /\(j=false->∃a24:av,some b=some a24/\∃l:aw av,a.cell? (a24.add 12)=some (.pointer l)/\
  ((Option.isNone l)=true->∃g:Array O,Sem.run ae (Instr.build 77 #[(1,.int .i64 13)]) a=.ok (.agg g) a/\bE a ⟨w0.heap.size,0,none⟩ (Array.toList g)/\Array.size g=10/\aq (setCells a ⟨w0.heap.size,0,none⟩ 0 (Array.toList g)) λr=>∃s:Y O,aG r ⟨w0.heap.size,0,none⟩ 0 10=some s/\Q (.agg s.toArray) r)
  /\((Option.isNone l)=false->∃t:Y O,aG a ⟨w.heap.size,0,none⟩ 0 51=some t/\Calls ae 48 #[.pointer (some b),.agg t.toArray] a λB u=>∃i:Array O,B=.returned (.agg i)/\bE u ⟨w0.heap.size,0,none⟩ (Array.toList i)/\
   Array.size i=10/\aq (setCells u ⟨w0.heap.size,0,none⟩ 0 (Array.toList i)) λb5=>∃v:Y O,aG b5 ⟨w0.heap.size,0,none⟩ 0 10=some v/\Q (.agg v.toArray) b5))):
 Z.rX (some b) op.toArray w Q:=by
 (delta Z.rX nS ad aY aa eS pt rU hJ;dsimp only);refine aU (vs:=op) rfl λw1 C D F=>aU (vs:=kl) rfl λag E x _=>?_;have m:=C.ext x;have y:ag.cell? ⟨w.heap.size,0,none⟩=some (.int .i64 k):=by rw[m.cell,z]
 refine bL (λc w'=>c=false/\ag=w') (λq n=>⟨λh=>(by cases h),λhb=>⟨k,y,n _ _ ⟨hY J,rfl⟩⟩⟩) ?_;rintro _ _ ⟨rfl,rfl⟩;refine bL (λc w'=>c=false/\ag=w') (λq n=>⟨λh=>(by cases h),λhb=>⟨k,y,n _ _ ⟨hY J,rfl⟩⟩⟩) ?_;rintro _ _ ⟨rfl,rfl⟩;exact⟨λh=>(by cases h),λ_=>⟨op,m.rd hl,ar w1 ag D x m E J⟩⟩
theorem Ix(f:op[0]? =some (.int .i64 k))(h1:1<=k/\k<=14)(hl:op.length=51)
 (ar:∀ (w1:I) (q:Nat),Ext w w1->w.heap.size<=q->Var w1 q kl 77->aA ae 47 #[.pointer (some b),.agg op.toArray] w1 (λv w'=>∃a:Y O,v=.tuple #[.agg a.toArray,.bool true]/\Iv w R q a w')):
 aA ae 21 #[.pointer (some b),.agg op.toArray] w (λv w'=>∃a:Y O,v=.agg a.toArray/\R a w'):=by
 refine Z.EW (some b) op.toArray w _ (Iw f h1 hl λw1 ag c g n i o=>(ar ag _ (c.trans g) c.size i).use ?_);rintro _ p ⟨a,rfl,hl,d,j,l⟩;refine⟨_,_,rfl,gL (zs:=kl) (by rfl) hl d λr m e=>⟨λ_=>⟨a,m.rd hl,h7 (j.ext e) (by rfl) hl d λbk _ hc=>⟨a,rfl,l _ _ e hc⟩⟩,λh=>(by cases h)⟩⟩
theorem Rh(d:op[0]? =some (.int .i64 k))(h:k=1\/k=10):aA ae 47 #[.pointer (some b),.agg op.toArray] w (λv w'=>v=.tuple #[.agg kl.toArray,.bool false]/\Ext w w'):=by
 refine okF (Z.nT (some b) op.toArray) ao.nT func47 ?_;(delta Z.nT nS aY aa ad pt bG rV bh bD a_ dc hJ;dsimp only);refine aU (vs:=op) rfl λw1 f a _=>aU (vs:=kl) rfl λag g c _=>⟨k,by rw[(f.ext c).cell,d],?_⟩;have e:∀j:Int,j≠1->j≠10->¬(k==j)=true:=λj h1 h2 i=>by have:=eq_of_beq i;omega
 refine⟨λh=>absurd h (e 3 (by decide) (by decide)),λ_=>⟨λh=>absurd h (e 5 (by decide) (by decide)),λ_=>⟨λh=>absurd h (e 8 (by decide) (by decide)),λ_=>⟨λh=>absurd h (e 11 (by decide) (by decide)),λ_=>⟨λh=>absurd h (e 12 (by decide) (by decide)),λ_=>⟨λh=>absurd h (e 13 (by decide) (by decide)),λ_=>⟨λh=>absurd h (e 14 (by decide) (by decide)),λ_=>?_⟩⟩⟩⟩⟩⟩⟩;exact⟨kl.toArray,by kernel_rfl,h7 g (by rfl) (by rfl) (pR jW) λl _ hc=>⟨rfl,Ext.bR (a.trans c) hc a.size⟩⟩
theorem Ri{bb lb:Nat}{vs:Y O}(hb:b=⟨bb,0,none⟩)(g:Var w bb vs 151)(i:vs[12]? =some (.pointer (some ⟨lb,0,none⟩)))(e:op[0]? =some (.int .i64 k))(h1:k=1\/k=10)(hl:op.length=51)
 (ar:∀ (w1:I) (q:Nat),Ext w w1->w.heap.size<=q->Var w1 q kl 77->aA ae 48 #[.pointer (some b),.agg op.toArray] w1 (λv w'=>∃a:Y O,v=.agg a.toArray/\Iv w R q a w')):
 aA ae 21 #[.pointer (some b),.agg op.toArray] w (λv w'=>∃a:Y O,v=.agg a.toArray/\R a w'):=by
 subst hb;refine Z.EW _ op.toArray w _ (Iw e J hl λw1 ag d f j l t=>(Rh e h1).use ?_);rintro _ u ⟨rfl,m⟩;refine⟨_,_,rfl,gL (zs:=kl) (us:=kl) (by rfl) (by rfl) (pR jW) λn x o=>⟨λh=>(by cases h),λ_=>?_⟩⟩;have c:=m.trans o;refine⟨_,rfl,_,by rw[az,(g.ext ((d.trans f).trans c)).cell];exact i,λh=>(by cases h),λ_=>⟨op,(j.ext c).rd hl,(ar n _ ((d.trans f).trans c) d.size (l.ext c)).use ?_⟩⟩;rintro _ y ⟨a,rfl,hl,p,r,s⟩;exact⟨_,rfl,h7 r (by rfl) hl p λb5 _ hc=>⟨a,rfl,s _ _ (.refl _ _) hc⟩⟩
end
section
variable {w0 w w' w1 aC aJ aP:I}{E:Nat->Prop}{bw:iP}{jD:Y Rec}{x:Int×Y kh}{v:O}{q r bb d n c:Nat}{l:dG}{f b dl eu aI df cZ cG cC:Int}{dS a0 kD:aw av}{sv:cQ}{cM:bO}{y:gO}{S:cn}{eo p:Y Nat}{T cA:Y bT}{s:ai}
def tm(bw:iP)(jD:Y Rec)(w:I)(x:Int×Y kh)(b:Y O)(w':I):Prop:=
 b=oB tj x.1 0 0 false/\∃a,ee w' bw a/\ey a=x.2/\af (gY bw jD) w w'/\∀q,gY bw a q->gY bw jD q\/w.heap.size<=q
theorem tm.fin(m:Step bw jD aC x v aJ)(hx:Ext w aC)(n:ee w bw jD)(d:w.heap.size<=q/\q<aC.heap.size)(f:w.heap.size<=r/\r<aC.heap.size)(hc:af (λx=>x=r) aJ aP){g ag:I}(h:Ext aP g)(i:af (λx=>x=q) g ag):tm bw jD w x (oB tj x.1 0 0 false) ag:=by
 obtain⟨_,j,h1,h2,o,k⟩:=m;have p:=hx.size;have l:∀a,w.heap.size<=a->a<aC.heap.size->∀z,gY bw j z->¬z=a:=λa aS bf z b e=>by
  rcases k z b with c|c
  .have:=n.lt c;omega
  .omega
 refine⟨rfl,j,((h1.ax hc (l r f.1 f.2)).ext h).ax i (l q d.1 d.2),h2,?_,λz b=>(k z b).imp id λc=>J⟩;exact de ((de ((af.bt hx).trans o) hc λz hl e=>J).trans (af.bt h)) i λz hl e=>by omega
theorem Rj(E:Var w bb (vL d f b dl eu aI df cZ cG cC (some ⟨bw.p,0,none⟩) a0 kD) 151)(i:ee w bw jD)(sv:cQ):aA ae 21 #[.pointer (some ⟨bb,0,none⟩),.agg (lr 3 ez 0 sv bO.zero).toArray] w (λv w'=>∃r:Y O,v=.agg r.toArray/\tm bw jD w (nn (ey jD) sv ez) r w'):=by
 refine Ix (k:=3) rfl (by decide) (vN ..) λw1 q s t j=>?_;refine Z.EX _ _ w1 _ ?_;(delta Z.nT nS aY aa ad pt bG rV bh bD a_ dc hJ;dsimp only);refine aU (vs:=lr 3 ez 0 sv bO.zero) rfl λag u x _=>aU (vs:=kl) rfl λa F l _=>⟨3,(u.ext l).cell,λ_=>aL ?_,λh=>(by cases h)⟩;have g:=(x.trans l).trans (bH a);have y:=(u.ext l).ext (bH a);have m:=F.ext (bH a);generalize a.drew=aC at g y m;have cu:=s.trans g;refine⟨_,rfl,id,_,by rw[az];exact(E.ext cu).cell,id,sv.c ez,?_,(O2 (i.ext cu) sv ez).use ?_⟩
 .rw[az,b3,y.e2 (o:=6) (n:=23) (by rw[vN];decide)]
  have e:(lr 3 ez 0 sv bO.zero).drop 6=sv.c ez++(bO.zero.c++ [.slice none 0 0]):=by rfl
  rw[e,eN (cQ.aM _ _)]
 intro v aJ A;have G:=A;obtain⟨rfl,K,h1,h2,B,L⟩:=G;have j8:=s.size;have gV:=x.size;have C:∀z,w.heap.size<=z->¬gY bw jD z:=λz M hf=>by have:=i.lt hf;omega
 refine⟨_,rfl,(oB tj (nn (ey jD) sv ez).1 0 0 false).toArray,by kernel_rfl,h7 (m.ax B (C _ J)) (by rfl) (by rfl) (pR jW) λaP _ D=>⟨_,rfl,by rfl,pR jW,(((j.ext g).ax B (C _ t))).ax D (by have:=j.lt;omega),λaH N H I=>?_⟩⟩;exact tm.fin A cu i ⟨t,by have:=j.lt;have:=g.size;omega⟩ ⟨J,m.lt⟩ D H I
theorem Rk(hv:Var w bb (vL d f b dl eu aI df cZ cG cC (some ⟨bw.p,0,none⟩) a0 kD) 151)(hF:ee w bw jD)(id:Int)(cM:bO):aA ae 21 #[.pointer (some ⟨bb,0,none⟩),.agg (lr 5 ez id cQ.zero cM).toArray] w (λv w'=>∃ans:Y O,v=.agg ans.toArray/\tm bw jD w (pI (ey jD) id cM) ans w'):=by
 refine Ix (k:=5) rfl (by decide) (vN ..) λw1 q hX1 hq ha=>?_;refine Z.EX _ _ w1 _ ?_;(delta Z.nT nS aY aa ad pt bG rV bh bD a_ dc hJ;dsimp only);refine aU (vs:=lr 5 ez id cQ.zero cM) rfl λag hv2 hx2 _=>aU (vs:=kl) rfl λw3 ha3 hx3 _=>⟨5,(hv2.ext hx3).cell,λh=>(by cases h),λ_=>⟨λ_=>aL ?_,λh=>(by cases h)⟩⟩;have hX:=(hx2.trans hx3).trans (bH w3);have ho:=(hv2.ext hx3).ext (bH w3);have ha4:=ha3.ext (bH w3);generalize w3.drew=aC at hX ho ha4;have cu:=hX1.trans hX;refine⟨_,rfl,_root_.id,_,by rw[az];exact(hv.ext cu).cell,_root_.id,id,by rw[az];exact ho.cell,_root_.id,cM.c,?_,(Pe (hF.ext cu) id cM).use ?_⟩
 .rw[az,b3,ho.e2 (o:=29) (n:=21) (by rw[vN];decide)]
  have e:(lr 5 ez id cQ.zero cM).drop 29=cM.c++ [.slice none 0 0]:=by rfl
  rw[e,eN (bO.aM cM)]
 intro v aJ hst;have hst':=hst;obtain⟨rfl,R',h1,h2,h3,h4⟩:=hst';have j8:=hX1.size;have gV:=hx2.size;have nf:∀z,w.heap.size<=z->¬gY bw jD z:=λz hz hf=>by have:=hF.lt hf;omega
 refine⟨_,rfl,(oB tj (pI (ey jD) id cM).1 0 0 false).toArray,by kernel_rfl,h7 (ha4.ax h3 (nf _ J)) (by rfl) (by rfl) (pR jW) λaP _ hc12=>⟨_,rfl,by rfl,pR jW,(((ha.ext hX).ax h3 (nf _ hq))).ax hc12 (by have:=ha.lt;omega),λaH w6 hx5 hc6=>?_⟩⟩;exact tm.fin hst cu hF ⟨hq,by have:=ha.lt;have:=hX.size;omega⟩ ⟨J,ha4.lt⟩ hc12 hx5 hc6
def Rl(w0:I)(E:Nat->Prop)(d n:Nat)(l:dG)(ab:Nat)(T:Y bT)(c:Nat)(L:Y Nat)(P:cn->Y Nat->Y bT->Prop)(w w':I):Prop:=
 l5 E L w w'/\∃ (a:Nat->Prop) (S:cn) (eo p:Y Nat) (cA:Y bT),(∀q,E q->a q)/\P S p cA/\gj w0 w' a d n l ab 6 S eo p T cA c
end
end Go.Proofs.YtkpjknbogcihmaaGreatDoor
/- A packet comes to a box: which bytes. -/
namespace Go.Proofs.YtkpjknbogcihmaaGreatDoor
open Go aQ Go.Proofs.Tryz
section
variable {w0 w w' w1 aC aJ aP:I}{E:Nat->Prop}{bw:iP}{jD:Y Rec}{x:Int×Y kh}{v:O}{q r bb d n c:Nat}{l:dG}{f b dl eu aI df cZ cG cC:Int}{dS a0 kD:aw av}{sv:cQ}{cM:bO}{y:gO}{S:cn}{eo p:Y Nat}{T cA:Y bT}{s:ai}
theorem Rm{lb:Nat}{vs:Y O}(F:Var w bb vs 151)(G:vs[12]? =some (.pointer (some ⟨y.lb,0,none⟩)))(j:gj w0 w E d n l y.ab 6 S eo p [] cA 0)(N:S.now=0)(hl:Var w y.lb y.c 285)(hb:gP w y)(P:∀q,q=y.lb\/y.own q\/aN s q->E q)(Q:Src 1 w s (au iS))(hc:s.len<=s.cap)(R:∀q,y.own q->¬aN s q):
 aA ae 21 #[.pointer (some ⟨bb,0,none⟩),.agg (lr 1 s 0 cQ.zero bO.zero).toArray] w (λv w'=>∃H:Y O,v=.agg H.toArray/\(∃ (t:ai) (e:Int),H=oB (fa 1 t 1 2 true e) 0 0 0 false/\aR 1 5 w' t (au hU))/\Rl w0 E d n l y.ab [lp 9] 1 [y.m1,y.m2] (λ_ _ _=>True) w w'):=by
 refine Ri (k:=1) rfl F G rfl (.inl rfl) (vN ..) λw1 q I b m=>?_;refine Z.JY _ _ w1 _ ?_;(delta Z.uF nS aY aa ad pt bD a_ mU rU gH bG;dsimp only);refine aU (vs:=lr 1 s 0 cQ.zero bO.zero) rfl λag K L _=>aU (vs:=kl) rfl λf T o _=>⟨1,(K.ext o).cell,λ_=>aL ?_,λh=>(by cases h)⟩;have g:=(L.trans o).trans (bH f);have bC:=(K.ext o).ext (bH f);have r:=T.ext (bH f);generalize f.drew=aC at g bC r;have cu:=I.trans g;have j8:=I.size;have gV:=L.size;have an:=hb.lt y.m1 (.inr (.inl rfl));have cq:=hb.lt y.m2 (.inr (.inr (.inl rfl)));have la:=j.v.lt;have a4:=j.grow (cO:=λq=>E q\/(w.heap.size<=q/\q<aC.heap.size)) cu (λq b=>b) (.inl j.vx);refine⟨_,rfl,id,_,by rw[az,(F.ext cu).cell];exact G,id,s,by rw[az];exact bC.cell,(Ra a4 N (hl.ext cu) (hb.ext cu) (λq b=>.inl (P q b)) (Q.ext cu) hc R).use ?_⟩;rintro _ aJ ⟨⟨t,e,rfl,ht,M⟩,u,U,aW,X,ac,iu,x,eG⟩;have A:w.heap.size<=q/\q<aC.heap.size:=⟨b,by have:=m.lt;have:=g.size;omega⟩;have B:w.heap.size<=ag.heap.size/\ag.heap.size<aC.heap.size:=⟨J,r.lt⟩;have ah:=u.var r (.inr B) (by simp;omega);have aj:=u.var (m.ext g) (.inr A) (by simp;omega);refine⟨1,t,1,2,true,e,rfl,(oB (fa 1 t 1 2 true e) 0 0 0 false).toArray,by kernel_rfl,h7 ah (by rfl) (by rfl) (pR jW) λao _ i=>⟨_,rfl,by rfl,pR jW,aj.ax i (by have:=m.lt;omega),λaH ap C D=>⟨⟨t,e,rfl,((ht.ax i λz a e=>(by have:=M z a;have:=B.2;omega)).ext C).ax D λz a e=>(by have:=M z a;have:=A.2;omega)⟩,?_,U,aW,X,ac,iu,λz a=>x z (.inl a),trivial,((eG.jb (x _ (.inr B)) J i).ext C).jb (x _ (.inr A)) J D⟩⟩⟩;obtain⟨V,ak,al⟩:=u;have am:l5 E [y.m1,y.m2] w aJ:=⟨λz=>V z/\z<w.heap.size,de (W:=λz=>V z/\z<w.heap.size) (af.bt cu) ak λz hl h=>⟨h,hl⟩,λz a h=>al z (.inl a) h.1⟩;exact((am.more i λz e=>J).more (af.bt (W:=λ_=>False) C) λz h=>h.elim).more D λz e=>by omega
end
section
variable {w0 w w' w1 g0 ag:I}{bb d rb ab lb ba m1 m2 hb hm sb most:Nat}{n eu aI df cZ cG cC:Int}{l:dG}{bw:iP}{S:cn}
theorem vM.ext(h:vM w w1 bb d n l eu aI df cZ cG cC S g0 ag bw ab lb ba m1 m2 hb hm sb most)(hx:Ext w1 w'):vM w w' bb d n l eu aI df cZ cG cC S g0 ag bw ab lb ba m1 m2 hb hm sb most:=
 {h with x:=h.x.trans hx,Dh:=h.Dh.ext hx,g:={h.g with AT:=h.g.AT.ext hx,p5:=h.g.p5.ext hx,fw:=h.g.fw.ext hx,he:=h.g.he.ext hx,iB:=h.g.iB.ext hx}}
theorem rZ(n:Int)(w:I):aA ae 44 #[n] w (λv w'=>v=.int .i64 (IntKind.wrap .i64 (IntKind.wrap .i64 (4*n)+64))/\w=w'):=by
 refine okF (Z.rZ n) ao.rZ func44 ?_;exact⟨rfl,rfl⟩
theorem sC(w:I):aA ae 20 #[.agg #[.int .u8 1,.int .u8 5,.int .u8 5,.int .u8 0],.int .u8 3] w (λv w'=>∃ (pB:I) (bb d rb:Nat) (p:aw av) (S:cn) (g0 ag:I) (bw:iP) (ab lb ba m1 m2 hb hm sb:Nat),v=.tuple #[.pointer (some rb),true]/\Ext w pB/\
 vM pB w' bb d 88 (CL 3) 1 6 6 1 1 1 S g0 ag bw ab lb ba m1 m2 hb hm sb 6/\bb<rb/\Var w' rb [.pointer (some bb),.pointer p,()] 81):=by
 refine okF (Z.sC #[.int .u8 1,.int .u8 5,.int .u8 5,.int .u8 0] 3) ao.sC func20 ?_;(delta Z.sC aa ER z24 b7 aZ bx lK eU aY di bh bG ES gf gH ad;dsimp only);refine aU (vs:=[.int .u8 1,.int .u8 5,.int .u8 5,.int .u8 0]) rfl λw1 r s _=>⟨_,r.rd rfl,(sD w1).use ?_⟩;rintro _ H ⟨rfl,t⟩;simp only[az,b3];refine⟨1,6,6,1,1,1,rfl,te (zs:=mI 0 0 0 0 0 0) (us:=mI 1 6 6 1 1 1) rfl Ia λaP u x=>aL ?_⟩;have h:=((s.trans t).trans x).trans (bH aP);have a:=u.ext (bH aP);generalize aP.drew=i at h a;refine⟨λ_=>False,id,6,a.cell,by decide,id,1,a.cell,6,a.cell,6,a.cell,1,a.cell,1,a.cell,1,a.cell,(rZ 6 i).use ?_⟩;rintro _ _ ⟨rfl,rfl⟩;have fc:=qI (b:=3) (d:=0) (by decide) (by decide) i;refine⟨_,rfl,af.refl _ _,fc.use ?_⟩;rintro _ j ⟨rfl,e⟩;refine⟨_,_,_,rfl,af.bt e,(rY 88 8 4 1 1 6 6 1 1 1 (by decide) j).use ?_⟩;rintro _ J ⟨m,⟨hg,_⟩|⟨_,bb,d,l,S,g0,ag,bw,ab,lb,ba,m1,m2,hb,hm,sb,most,rfl,aT,a6,y,R⟩⟩
 .exact absurd hg (by decide+kernel)
 obtain rfl:l=CL 3:=by
  obtain⟨iN,z,bV⟩:=l;have h1:iN=8:=by dsimp only at aT;omega
  have h2:z=4:=by dsimp only at a6;omega
  have A:bV=1:=by dsimp only at y;omega
  subst h1 h2 A;rfl
 obtain rfl:most=6:=by have:=R.g.ta;omega
 have c:=(a.ext e).ext m;refine⟨_,_,rfl,af.bt m,1,c.cell,6,c.cell,6,c.cell,1,c.cell,1,c.cell,1,c.cell,aU (vs:=[()]) rfl λK _ f _=>⟨6,(c.ext f).cell,aU (vs:=[(6:Int),()]) rfl λB _ n _=>(sB _ _ B).use ?_⟩⟩;rintro _ L ⟨⟨p,rfl⟩,o⟩;refine⟨_,rfl,aU (vs:=[.pointer (some bb),.pointer p,()]) rfl λC D E _=>jA true (λ_ k F=>(rZ 3 C).use ?_) λM q=>?_⟩
 .rintro _ _ ⟨rfl,rfl⟩
  exact⟨_,rfl,F _ (.refl _ _)⟩
 have G:=((((f.trans n).trans o).trans E).trans q);refine⟨j,bb,d,_,p,S,g0,ag,bw,ab,lb,ba,m1,m2,hb,hm,sb,rfl,h.trans e,R.ext G,?_,D.ext q⟩;have:=R.g.iB.lt;have:=((f.trans n).trans o).size;omega
end
section
variable {w0 w w' w1:I}{n:Int}
theorem Iy(w:I):aA ae 6 #[] w (λv w'=>v=.bool true/\Ext w w'):=by
 refine Z.KQ w _ ?_;(delta Z.vc EP ad pt aZ hJ o1 aa eD j9 bD a_ gU z3 aY e0;dsimp only);refine⟨#[.int .u8 1,.int .u8 5,.int .u8 5,.int .u8 0],by kernel_rfl,(sC w).use ?_⟩;rintro _ ag ⟨pB,bb,d,rb,p,S,g0,a3,bw,ab,lb,ba,m1,m2,hb,hm,sb,rfl,ak,R,a4,z⟩;have a:=R.g;have F:=R.x;have G:=R.Rg;have H:=a.Rc;have a5:=R.Iu;have al:=z.lt;have aK:∀q,q=ab\/q=lb\/q=ba\/q=m1\/q=m2\/q=hb\/q=hm->q<ag.heap.size:=by
  rintro q (rfl|rfl|rfl|rfl|rfl|rfl|rfl)
  .exact a.AT.lt
  .exact a.p5.lt
  .exact a.fw.v.lt
  .exact a.fw.bU.lt
  .exact a.fw.b1.lt
  .exact a.he.v.lt
  .exact a.he.k.lt
 refine⟨_,_,rfl,λh=>(by cases h),λ_=>⟨_,rfl,_,z.cell,(kk.c ez).toArray,by kernel_rfl,(lr 3 ez 0 kk bO.zero).toArray,by kernel_rfl,(Rj a.iB R.Dh kk).use ?_⟩⟩;rintro _ am ⟨_,rfl,rfl,A,an,K,i,L⟩;have aT:nn (ey []) kk ez=(0,[(kk,[])]):=by decide+kernel
 rw[aT]at K⊢;have gV:=F.size;have kA:=i.size;have o:∀q,bb<=q->¬gY bw [] q:=λq h0 h=>by have:=(G q h).2;omega
 have cx:∀q,bb<=q->q<ag.heap.size->¬gY bw A q:=λq h0 h1 h=>(L q h).elim (o q h0) λh=>by omega
 have M:∀q,gY bw [] q->g0.heap.size<=q:=λq h=>(G q h).1;have cq:∀q,gY bw A q->g0.heap.size<=q:=λq h=>(L q h).elim (M q) λh=>by omega
 have ao:Ext g0 am:=Ext.dE F i M;have a6:=H ab (.inl rfl);have a7:=aK ab (.inl rfl);have j:∀q,q=ab\/q=lb\/q=ba\/q=m1\/q=m2\/q=hb\/q=hm->bb<q:=λq h=>by have:=H q h;omega
 have N:=z.ax i (o _ J);have O:=a.iB.ax i (o _ (bu _));refine⟨_,rfl,0,rfl,_,rfl,_,N.cell,ln.c.toArray,by kernel_rfl,(lr 5 ez 1 cQ.zero ln).toArray,by kernel_rfl,(Rk O an 1 ln).use ?_⟩;rintro _ bd ⟨_,rfl,rfl,ap,aq,B,l,ar⟩;rw[K,show pI [(kk,[])] 1 ln=(0,[(kk,[ln])]) by decide+kernel]at B⊢;obtain⟨r,rfl⟩:∃r,ap=[r]:=List.length_eq_one_iff.1 (by have:=congrArg List.length B;simpa[ey] using this);have av:r.s=kk/\r.bs=[ln]:=by simpa[ey] using B
 obtain⟨a8,a9,C,D⟩:=r;obtain⟨rfl,rfl⟩:=av;have P:Ext g0 bd:=Ext.dE ao l cq;have aw:=N.ax l (cx _ J al);have ay:=O.ax l (cx _ (bu _) J);have m:∀q,(q=ab\/q=lb\/q=ba\/q=m1\/q=m2\/q=hb\/q=hm)->¬gY bw [] q:=λq h=>o q (by have:=j q h;omega);have nb:∀q,(q=ab\/q=lb\/q=ba\/q=m1\/q=m2\/q=hb\/q=hm)->¬gY bw A q:=λq h=>cx q (by have:=j q h;omega) (aK q h);have aB:=(a.AT.ax i (m _ (by simp))).ax l (nb _ (by simp));have aC:=(a.p5.ax i (m _ (by simp))).ax l (nb _ (by simp));have aF:=(a.fw.ax i ⟨m _ (by simp),m _ (by simp),m _ (by simp)⟩).ax l ⟨nb _ (by simp),nb _ (by simp),nb _ (by simp)⟩;have aG:=(a.he.ax i ⟨m _ (by simp),m _ (by simp)⟩).ax l ⟨nb _ (by simp),nb _ (by simp)⟩;have Q:gP bd ⟨lb,ab,ba,m1,m2,hb,hm,sb,bw,C,D⟩:=⟨aF,aG,aq⟩;have aH:∀q,gO.own ⟨lb,ab,ba,m1,m2,hb,hm,sb,bw,C,D⟩ q->g0.heap.size<=q:=by
  rintro q (rfl|rfl|rfl|rfl|rfl|h)
  .have:=j q (by simp);omega
  .have:=j q (by simp);omega
  .have:=j q (by simp);omega
  .have:=j q (by simp);omega
  .have:=j q (by simp);omega
  .exact(ar q h).elim (cq q) λh=>by omega
 refine⟨_,rfl,0,rfl,(au b_.b).toArray,by kernel_rfl,b_.c.toArray,by kernel_rfl,(ei b_ aE.zero 5 80 17).toArray,by kernel_rfl,gL (us:=ei b_ aE.zero 5 80 17) (by rfl) nu q7 λaJ aL T=>⟨_,aL.rd nu,(HO (x:=⟨none,0,0⟩) (bo:=[]) (aI:=0) (aD:=9) (aR.none 1 5 aJ).src (by decide) (by decide) (by decide)).use ?_⟩⟩;rintro _ b8 ⟨t,bc,rfl,aM,aO,aP⟩;obtain rfl:=aP rfl (Df (by decide));obtain⟨_,ht,aQ⟩:=aO rfl;rw[De]at ht;have n:=T.trans aM;have U:∀q,aN t q->bd.heap.size<=q:=λq f=>cB T.size (aQ q f);have aS:=P.trans n;have rS:=P.size;have Dg:=R.Dg.grow (cO:=λq=>g0.heap.size<=q/\q<b8.heap.size) aS λq f=>.inr f;have V:=aB.ext n;have W:=aC.ext n;have aU:=ay.ext n;have aV:=aw.ext n;have X:=Q.ext n;have a23:gj pB b8 (λq=>g0.heap.size<=q/\q<b8.heap.size) d (88:Int).toNat (CL 3) ab 6 _ [] [] [] [] 0:=Dg.Rb R.live R.q (by show S.pending<_;rw[R.Ai];decide) ⟨J,V.lt⟩ V (by decide) (by decide);refine⟨t,_,rfl,_,rfl,_,aV.cell,(lr 1 t 0 cQ.zero bO.zero).toArray,by kernel_rfl,(Rm (y:=⟨lb,ab,ba,m1,m2,hb,hm,sb,bw,C,D⟩) (lb:=lb) aU rfl a23 R.now W X ?_ ht.src ht.2.1 ?_).use ?_⟩
 .rintro q (rfl|f|f)
  .exact⟨by have:=j q (by simp);omega,W.lt⟩
  .exact⟨aH q f,X.lt q f⟩
  .exact⟨by have:=U q f;omega,ht.lt q f⟩
 .intro q f h
  have:=U q h;have:=Q.lt q f;omega
 rintro _ be ⟨_,rfl,⟨u,e,rfl,Y⟩,bf,bg,og,eo,bh,cA,bi,_,aW⟩;have aX:Array.extract (oB (fa 1 u 1 2 true e) 0 0 0 false).toArray 0 (0+6)=(fa 1 u 1 2 true e).toArray:=by rfl
 refine⟨_,rfl,?_⟩;rw[aX];refine gL (zs:=tj) (us:=fa 1 u 1 2 true e) (by rfl) (by rfl) jW λbj ac af=>⟨u,gz ac rfl,(QU (Y.ext af).src Y.2.1).use ?_⟩;rintro _ bk ⟨rfl,ah⟩;have a0:∀v∈jC b_ aE.zero 5 8080 17 0 9,Plain v:=hC hO (hC (q2 _ _ _ _ _ _) q7);refine⟨_,_,rfl,gL (us:=jC b_ aE.zero 5 8080 17 0 9) (by rfl) (by rfl) a0 λbl a1 ai=>jA true (λ_ k E=>⟨1,((ac.ext ah).ext ai).cell,E _ (.refl _ _)⟩) λbm aj=>jA true (λ_ k E=>⟨8080,by rw[az,az];exact(a1.ext aj).cell,E _ (.refl _ _)⟩) λbn a2=>⟨rfl,?_⟩⟩;exact(((((ak.trans aW.s.x).trans af).trans ah).trans ai).trans aj).trans a2
end
theorem Iz(aj:ah)(w:I):Sem.run ae (Instr.build 30 #[(0,.agg (vI aj).c.toArray)]) w=.ok (.agg (iz aj).c.toArray) w:=by
 cases aj<;>kernel_rfl
theorem Rn(aj:ah)(w:I):Sem.run ae (Instr.build 32 #[(0,.agg (iz aj).c.toArray),(1,.agg (iz aj).c.toArray),(4,.int .u16 65535)]) w=.ok (.agg (er aj).toArray) w:=by
 cases aj<;>kernel_rfl
section
variable {w w' w1:I}{s:ai}{l b:Y UInt8}{aj:ah}{src dst:aE}{sp dp x:Nat}{an aD q:UInt8}{T:TypeId}
theorem gN.to(h:gN aj b aD an src dst l):((b.drop (if aj then 24 else 16)).take (if aj then 16 else 4))=dst.raw/\dst.aj=aj:=by
 rcases h with ⟨rfl,h⟩|⟨rfl,h⟩
 .have r1:src.raw.length=4:=by rw[src.eE,h.ok.2.1.1];rfl
  have a_:dst.raw.length=4:=by rw[dst.eE,h.ok.2.2.1.1];rfl
  obtain⟨cx,bB,b2,bQ,rfl,_⟩:=h.bs;refine⟨?_,h.ok.2.2.1.1⟩;show((src.raw++(dst.raw++l)).drop 4).take 4=_;rw[ga r1,eN a_]
 .have r1:src.raw.length=16:=by rw[src.eE,h.cK];rfl
  have a_:dst.raw.length=16:=by rw[dst.eE,h.d6];rfl
  obtain⟨cx,bB,rfl,_⟩:=h.bs;refine⟨?_,h.d6⟩;show((src.raw++(dst.raw++l)).drop 16).take 16=_;rw[ga r1,eN a_]
theorem Ro(h:Var w x (ei src dst sp dp an) T):Src 1 w ⟨some ⟨x,1+src.gq,none⟩,16-src.gq,16-src.gq⟩ (au src.raw):=by
 have hf:src.gq<=12:=by unfold aE.gq;split<;>decide
 refine h.sH (by rw[nu];omega) ?_;unfold ei;have e:src.c++(dst.c++ [.int .u16 (sp:Int),.int .u16 (dp:Int),.int .u8 ((an.toNat:Nat):Int)])=.bool src.aj::(au src.b++(dst.c++ [.int .u16 (sp:Int),.int .u16 (dp:Int),.int .u8 ((an.toNat:Nat):Int)])):=rfl;have hb:(au src.b).length=16:=by rw[c1,src.h]
 rw[e,pV 1,List.drop_succ_cons,List.drop_append_of_le_length J,eN (by rw[jZ,hb]),←kL];unfold aE.raw aE.gq
 cases src.aj<;>rfl
theorem Rp(gm:sp<65536)(iq:dp<65536)(C:Src 1 w s (au l))(hc:s.len<=s.cap)(Q:iZ w):aA ae 3 #[.agg (ei src dst sp dp an).toArray,s,.int .u8 (aD.toNat:Nat)] w (λv w'=>v=true/\Ext w w'):=by
 have hl:s.len=l.length:=len8 C;refine okF (Z.zz (ei src dst sp dp an).toArray s (aD.toNat:Nat)) ao.zz func3 ?_;(delta Z.zz bq aa z5 gf ad eD br ap wP aZ gV b7 bD a_ EO aY ak bG BJ;dsimp only);refine aU (vs:=ei src dst sp dp an) rfl λw1 D aN _=>⟨src.aj,D.cell,(vI src.aj).c.toArray,Ff w1 src.aj,_,Iz src.aj w1,src.aj,D.cell,(vI src.aj).c.toArray,Ff w1 src.aj,_,Iz src.aj w1,_,Rn src.aj w1,gL (us:=er src.aj) (by rfl) h_ Da λm aO R=>⟨_,aO.rd h_,⟨some m.heap.size,1,1⟩,_,Ik src.aj m,?_⟩⟩;have T:=bZ m (.cells (er src.aj).toArray 32);have U:=(aN.trans R).trans T;refine(QH (Src.new m (er src.aj) 1 h_) (Q.ext U)).use ?_;rintro _ V ⟨l3,nv,pt,jR,t,rfl,aP,aQ,W⟩;have E:=U.trans W;refine⟨_,_,rfl,bL (λ(X:ai) w'=>Src 1 V X (au (l.take 300))/\V=w') (λk a=>⟨λh=>?_,λh=>?_⟩) ?_⟩
 .have h:(s.len:Int)>300:=bI h
  exact⟨⟨by decide,J⟩,a _ _ ⟨by have h:=Src.sub (C.ext E) hc (lo:=0) (hi:=300) (by decide) J;rw[←kL,←kK,iT]at h;exact h,rfl⟩⟩
 .have h:¬(s.len:Int)>300:=ck h
  exact a _ _ ⟨by rw[fb J];exact C.ext E,rfl⟩
 rintro X _ ⟨Y,rfl⟩;have ab:(l.take 300).length<=300:=by rw[fP];omega
 generalize l.take 300=bo at Y ab;have ac:=(D.ext (R.trans T)).ext W;refine⟨_,ac.rd nu,(HO (aI:=2) Y J gm iq).use ?_⟩;rintro _ bk ⟨bs,e,rfl,p,hb,_⟩;have af:=E.trans p;refine⟨bs,_,rfl,λh=>(by cases h),λ_=>⟨λh=>(Iy bk).use ?_,λh=>?_⟩⟩
 .rintro _ bc ⟨rfl,aR⟩
  exact⟨_,rfl,rfl,af.trans aR⟩
 have h:e=0:=by simpa[bne] using h
 obtain⟨ag,F,bd⟩:=hb h;have G:=gN.of (aI:=2) (bo:=bo) ag J;have be:cp src.aj<=40:=by unfold cp;split<;>decide
 have aS:=G.len;have bf:8<=(e_ src.aj an src dst sp dp 2 bo).length/\(e_ src.aj an src dst sp dp 2 bo).length<=320:=by rw[nq];split<;>omega
 generalize bg:oy src dst sp dp an 2 aD bo=B at F G aS;obtain⟨aT,cN,aV,ah,bh,g⟩:=LH F.src J;have al:=af.trans g;refine aL ⟨aT,cN,aV,(QL ((aP.ext p).ext g) ((aQ.ext p).ext g) (Q.ext al) G ag.1 ab gm iq ah.src ah.2.1).use ?_⟩;rintro _ bi ⟨o,b',rfl,H,I,K⟩;have am:=I.to;refine⟨3,o,0,0,rfl,te (P:=(4:Nat)=4) (hP:=rfl) (zs:=kM 0 ⟨none,0,0⟩ 0 0) (us:=kM 3 o 0 0) rfl Dd λbl aq i=>⟨o,gz aq rfl,(Qm I (by unfold mJ;cases src.aj<;>decide) (H.ext i).src H.2.1).use ?_⟩⟩;rintro _ L ⟨t2,rfl,ar,j⟩;obtain⟨r1,a_,di⟩:=P8 (aj:=src.aj) (b:=B) J;have bm:t2.len=(lj src.aj B).length:=gr ar;have aW:=((al.trans K).trans i).trans j;have av:=aq.ext j;have aw:=(ac.ext p).ext (((g.trans K).trans i).trans j);have aX:((((3:Int) !=3)||((0:Int) !=0))||(((((mJ src.aj).toNat:Nat):Int) !=1)&&((((mJ src.aj).toNat:Nat):Int) !=3))||(decide ((t2.len:Int)<32)))=false:=by
  rw[hY J];unfold mJ
  cases src.aj<;>rfl
 refine⟨_,_,t2,_,rfl,3,av.cell,λh=>(by rw[aX]at h;cases h),λ_=>bL (λn w'=>n=((cp src.aj+4:Nat):Int)/\L=w') (λk a=>⟨src.aj,aw.cell,λh=>a _ _ ⟨by rw[h];rfl,rfl⟩,λh=>a _ _ ⟨by rw[h];rfl,rfl⟩⟩) ?_⟩;rintro _ _ ⟨rfl,rfl⟩;refine aL ?_;have d:=bH L;have ax:=aW.trans d;have M:=ar.ext d;have ay:=av.ext d;have N:=aw.ext d;have q:=F.ext ((((g.trans K).trans i).trans j).trans d);have aB:=H.ext ((i.trans j).trans d);generalize L.drew=a0 at d ax M ay N q aB;have Iu:bs.len=B.length:=gr q;rw[bF (n:=((cp src.aj+4:Nat):Int)+4) J J];have a1:Int.toNat (((cp src.aj+4:Nat):Int)+4)=cp src.aj+8:=by omega
 have a2:Int.toNat ((cp src.aj+4:Nat):Int)=cp src.aj+4:=by omega
 have a3:=M.2.1;have a4:=q.2.1;rw[a1,a2];refine⟨λh=>absurd (bI h) J,λ_=>⟨⟨J,J⟩,⟨by decide,J⟩,S (B.take (cp src.aj+4)),λbn a5=>?_,⟨J,J⟩,S (B.take (cp src.aj+4)),λec a6=>?_,λh=>?_,λ_=>⟨_,?_,(pe src a0).use ?_⟩⟩⟩
 .have h:=Src.sub (M.ext a5).src a3 (lo:=4) (hi:=cp src.aj+8) J J
  rw[←kL,←kK,show cp src.aj+8-4=cp src.aj+4 from J,di]at h;rw[show cp src.aj+8-Int.toNat 4=cp src.aj+4 from by show cp src.aj+8-4=_;omega];have h:=zI h;exact h
 .have h:=Src.sub (q.ext a6).src a4 (lo:=0) (hi:=cp src.aj+4) J J
  rw[←kL,←kK,iT]at h;have h:=zI h;exact h
 .rw[beq_self_eq_true]at h;cases h
 .rw[N.e2 (by rw[nu];decide)]
  unfold ei;rw[iT,eN src.aM]
 rintro _ r ⟨rfl,u⟩;have aC:=ay.ext u;have aF:=N.ext u;have x:=aB.ext u;have bp:o.len=b'.length:=gr x;have aG:=x.2.1;have bt:=I.len;have bu:=vH (aj:=src.aj) (kind:=mJ src.aj) (code:=AM src.aj) (src:=dst) (dst:=src) (l:=lj src.aj B);refine⟨_,rfl,o,gz aC rfl,⟨by decide,J⟩,⟨by decide,by decide⟩,bL (λ(z:ai) w'=>(∀y,Ext r y->Src 1 y z (au src.raw))/\r=w') (λk a=>⟨src.aj,aF.cell,λf=>⟨o,gz aC rfl,⟨by decide,?_⟩,⟨by decide,by decide⟩,a _ _ ⟨λy O=>?_,rfl⟩⟩,λf=>a _ _ ⟨λy O=>?_,rfl⟩⟩) ?_⟩
 .have:cp src.aj=40:=by rw[f];rfl
  omega
 .have:cp src.aj=40:=by rw[f];rfl
  have h:=Src.sub (x.ext O).src aG (lo:=24) (hi:=40) (by decide) J;have ht:=am.1;rw[f,if_pos rfl,if_pos rfl]at ht;rw[←kL,←kK,ht]at h;exact h
 .have:cp src.aj=20:=by rw[f];rfl
  have h:=Src.sub (x.ext O).src aG (lo:=16) (hi:=20) (by decide) J;have ht:=am.1;rw[f,if_neg (by decide),if_neg (by decide)]at ht;rw[←kL,←kK,ht]at h;exact h
 rintro z _ ⟨a7,rfl⟩;refine aL ?_;have A:=bH r;have aH:=(ax.trans u).trans A;have aJ:=aF.ext A;generalize r.drew=aK at A aH aJ;have bv:src.gq<=12:=by unfold aE.gq;split<;>decide
 refine⟨S src.raw,λbw a8=>zI (a7 _ (A.trans a8)),⟨by decide,by decide⟩,⟨J,by show(src.gq:Int)<=16;omega⟩,S src.raw,λbx a9=>?_,bL (λb w'=>b=true/\Ext aK w') (λk a=>⟨λ_=>(Iy aK).use ?_,λh=>?_⟩) ?_⟩
 .have h:=Ro (aJ.ext a9)
  rw[eR,az,b3,show bj (some ⟨w.heap.size,1,none⟩) 1 src.gq 16=some ⟨w.heap.size,1+src.gq,none⟩ from by rw[lH J,eB]];have h:=zI h;exact h
 .rintro _ bz ⟨rfl,ba⟩
  exact⟨_,rfl,a _ _ ⟨rfl,ba⟩⟩
 .rw[beq_self_eq_true]at h;cases h
 rintro _ bA ⟨rfl,bb⟩;exact⟨rfl,aH.trans bb⟩
end
theorem IA{n:Int}(h:0<=n/\n<=255):∃c:UInt8,n=(c.toNat:Int):=
 ⟨UInt8.ofNat n.toNat,by rw[UInt8.toNat_ofNat'];omega⟩
set_option maxRecDepth 100000 in
theorem Rq.of {w:I}{v:O} (h:lE ae w 27 v):∃ (src dst:aE) (sp dp:Nat) (an:UInt8),v=.agg (ei src dst sp dp an).toArray/\sp<65536/\dp<65536:=by
 obtain⟨cs,rfl,h2⟩:=Jy h (d:=(Tryz.prog.underlying 27).get (by kernel_rfl)) (ls:=CW) (kp _).symm (by kernel_rfl) (by kernel_rfl) (by kernel_rfl);obtain⟨j,t1,rfl,h1,h2⟩:=Bv h2;obtain⟨l,t2,rfl,g,i⟩:=Bv h2;obtain⟨p,rfl⟩:=aE.Fj h1;obtain⟨q,rfl⟩:=aE.Fj g;obtain⟨_,_,rfl,⟨a,rfl,a1,a2⟩,⟨_,_,rfl,⟨b,rfl,e,f⟩,⟨_,_,rfl,⟨c,rfl,b2,bQ⟩,rfl⟩⟩⟩:=i;have a1:(0:Int)<=a:=a1;have a2:a<=65535:=a2;have e:(0:Int)<=b:=e;have f:b<=65535:=f;obtain⟨c,rfl⟩:=IA (Bq b2 bQ);obtain⟨m,rfl⟩:∃m:Nat,a=(m:Int):=⟨a.toNat,J⟩;obtain⟨k,rfl⟩:∃k:Nat,b=(k:Int):=⟨b.toNat,J⟩;exact⟨p,q,m,k,c,rfl,J,J⟩
theorem Rr{w:I}{l:Y (String×DataW Unit)}(h:laidMetH ae l w)(a:(l.all λx=>x.2.handleName?.isNone)=true)(h1:l[1]? =some ("math/bits.deBruijn64tab",Rows.laid_math_bits_deBruijn64tab))(h2:l[2]? =some ("internal/strconv.uint64pow10",Rows.laid_internal_strconv_uint64pow10)):iZ w:=by
 rw[MakeChecks.laidMetH_plain _ _ _ a]at h;exact LF h h1 h2
end Go.Proofs.YtkpjknbogcihmaaGreatDoor
namespace Go.Proofs.YtkpjknbogcihmaaGreatDoor
open Go
theorem Rs:(Tryz.prog.funcs.toList.all λf=> !f.goes)=true:=by kernel_rfl
theorem Rt{P:Program}(h:(P.funcs.toList.all λf=> !f.goes)=true)(f:FuncId):P.goes f=false:=by
 have hf:∀g:FuncId,(P.funcs[g]?).any Func.goes=false:=λg=>by
  cases hg:P.funcs[g]? with
  |none=>rfl
  |some fn=>
   have hm:fn∈P.funcs.toList:=by
    obtain⟨hl,e⟩:=kO.1 hg;rw[←e];exact Array.getElem_mem_toList hl
   have:=oC.1 h fn hm;show fn.goes=false;simpa using this
 have a:P.funcs.any Func.goes=false:=by
  rw[←Array.any_toList];rw[oD];intro fn hm;have:=oC.1 h fn hm;simpa using this
 unfold Program.goes;rw[a,tB,Bool.or_false,oD];intro g _;rw[hf g];decide
theorem Ru{P:Program}{c:OpenClaim}(h:(P.funcs.toList.all λf=> !f.goes)=true)(a:c.start=.entering):false=c.goesBy P:=by
 unfold OpenClaim.goesBy Program.goesAt Program.goesFrom;rw[a]
 cases P.funcNamed c.func with
 |none=>rfl
 |some f=>show false=(P.goes f||false);rw[Bool.or_false];exact(Rt h f).symm
theorem Rv:false=Rows.topDeniedRow.goesBy Tryz.prog:=Ru Rs rfl
end Go.Proofs.YtkpjknbogcihmaaGreatDoor
