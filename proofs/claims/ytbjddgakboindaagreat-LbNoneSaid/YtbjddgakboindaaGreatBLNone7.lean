/- Contracts of the functions that the statement reaches, and the plain laws over them; each theorem stands with its conditions. -/
import Derived.Test.YtbjddgakboindaaGreatBLNone6
namespace Go.Proofs.YtbjddgakboindaaGreat
open Go aQ Go.Proofs.Tryz
def tw(b0 bz:Nat)(l:O Nat)(w w':I):Prop:=∃V:Nat->Prop,af V w w'/\∀q,b0<=q->q<bz->V q->q∈l
section
variable {w0 w w' w1 aF cC:I}{b0 bz:Nat}{x:iE}{wb q jx c:Nat}{s k:ae}{e u y:Int}{S aP:cQ}{T az:O bf}{vs:O Y}{kn:TypeId}
theorem tw.var{l:O Nat}(h:tw b0 bz l w w')(a:Var w q vs kn)(h0:b0<=q)(h1:q<bz)(b:q∉l):Var w' q vs kn:=by
 obtain⟨V,hc,gp⟩:=h;exact a.ak hc λc=>b (gp q h0 h1 c)
theorem eE.lt(h:eE w0 b0 bz x wb s k e S T c w):wb<w.heap.size:=h.v.lt
theorem eE.new(h:eE w0 b0 bz x wb s k e S T c w)(b:w.heap.size<=q):¬S.W q:=by
 obtain⟨d,n,l,cZ,p,cO,a⟩:=h.a;exact λf=>a.new q b f.1
theorem O9(h:eE w0 b0 bz x wb s k e S T c cC)(hb:g1 cC x)(i:¬x.own wb)(f:Var cC w.heap.size bK.zero.c 52){Q:Y->I->Prop}
 (j:∀aF w',eE w0 b0 bz x wb s k y S T c aF->g1 aF x->af (λq=>q=wb) cC aF->Ext aF w'->Q (.tuple #[(2:Int),true]) w'):aa.p7 (some wb) w jx false y cC Q:=by
 (delta aa.p7 ay st ah r1 bF Ba bC e5 ad gF;dsimp only);obtain⟨bW,b9,b⟩:=h.err y;have d:=dX cC wb 107 y;have g:=hb.ak d λq l e=>i (e▸l);have m:=f.ak d λe=>absurd (Var.inj (e▸f) h.v) (by decide);refine⟨_,rfl,by rw[aw];exact bW,by rw[aw];exact b9,aO (aO ⟨λh=>(by cases h),λ_=>⟨λh=>(by cases h),λ_=>?_⟩⟩)⟩;rw[aw];have a:=(b1 (cC.setCell ⟨wb,0+107,none⟩ y)).trans (b1 _);refine aO ⟨λ_=>False,_,rfl,id,_,(b.v.ext a).cell,_,rfl,id,1,by rw[aw];exact(b.v.ext a).cell,id,_,(m.ext a).rd (bK.aX _),(O6 (b.ext a) (g.ext a)).use ?_⟩;rintro _ o ⟨rfl,n⟩;exact⟨2,true,rfl,j _ _ b g d (a.trans n)⟩
theorem O_(h:eE w0 b0 bz x wb s k e S [] c w)(hc:c<=1000)(hb:g1 w x)(U:∀q,x.own q->b0<=q/\q<bz)(i:¬x.own wb):aC ai 62 #[.pointer (some wb),.agg bK.zero.c.toArray] w (λv w'=>v=.tuple #[(2:Int),true]/\(∃aP,eE w0 b0 bz x wb s k 0 aP [] (c+1) w')/\g1 w' x/\tw b0 bz [wb] w w'):=by
 refine okF (aa.xF (some wb) bK.zero.c.toArray) ao.xF func62 ?_;(delta aa.xF ay g7 bF ah bC e5 r1 ad fq w4 aZ ld;dsimp only);refine aN (vs:=bK.zero.c) rfl λw1 V m _=>⟨_,rfl,_,(h.v.ext m).cell,_,rfl,_,by rw[aw];exact(h.lb.ext m).cell,?_⟩;obtain⟨d,n,l,cZ,p,cO,a⟩:=h.a;have a1:=a.ext m;refine(CU a1.v).use ?_;rintro _ _ ⟨rfl,rfl⟩;refine⟨_,rfl,(Ni a1.s.at_).use ?_⟩;rintro _ _ ⟨rfl,rfl⟩;rw[a.live];refine⟨_,rfl,λh=>(by cases h),λ_=>aO ?_⟩;have b:=m.trans (b1 w1);have f:=V.ext (b1 w1);generalize w1.drew=aH at b f;have X:=h.lb.ext b;have u:=h.v.ext b;have G:=h.new (q:=w.heap.size) (ba _);refine⟨S.W,_,rfl,h.nt (h.o _ (.inr (.inl rfl))),_,u.cell,_,rfl,h.nt (h.o _ (.inl rfl)),_,by rw[aw];exact X.cell,_,rfl,h.nt (h.o _ (.inr (.inl rfl))),1,by rw[aw];exact u.cell,G,_,f.rd (bK.aX _),_,rfl,h.nt (h.o _ (.inr (.inl rfl))),_,u.cell,?_⟩;have fin:∀ {cC:I} (t:Nat),hX w0 (vR x b0 bz) d n l x.ab 6 S cO [] w (c+1) cC->Var cC w.heap.size bK.zero.c 52->aa.p7 (some wb) w t false 0 cC (λv w'=>v=.tuple #[(2:Int),true]/\(∃aP,eE w0 b0 bz x wb s k 0 aP [] (c+1) w')/\g1 w' x/\tw b0 bz [wb] w w'):=by
  rintro cC t ⟨H,e9,y,bS,cq,a1,d1,cw,aA⟩ Y;have Z:=h.done d1 cw ⟨d,n,l,y,bS,cq,a1⟩;have ac:=hb.ak d1.ak λq g=>h.nt (U q g);refine O9 Z ac i Y ?_;intro aI w' ae aj al z;refine⟨rfl,⟨e9,ae.ext z⟩,aj.ext z,λq=>S.W q\/q=wb,?_,λq h0 h1 g=>?_⟩
  .exact((d1.ak.mono λ_ _ h=>.inl h).trans (al.mono λ_ _ h=>.inr h)).trans (af.bL z)
  .rcases g with g|rfl
   .exact absurd g (h.nt ⟨h0,h1⟩)
   .exact ej.2 rfl
 have K:∀ {cm:Nat->Prop}{S:cQ}{aF:I},eB w0 aF cm d n l x.ab 6 S cZ p [] cO c->aC ai 122 #[.pointer (some x.ab),(1:Int),.agg bK.zero.c.toArray,.int .u64 0] aF (λv w'=>hX w0 cm d n l x.ab 6 S cO [] aF (c+1) w'/\v=.tuple #[.agg bf.zero.c.toArray,false,(0:Int)]):=λ{_ _ _} a5=>by
  have L:=ND (now:=0) a5 J 1 bK.zero;rw[if_pos (show gi 1 bK.zero=true by decide+kernel)]at L;exact L
 have pre:∀ {aF:I} (t:Nat),Ext w aF->w.heap.size<=t->Var aF t bf.zero.c 212->t≠w.heap.size->Var aF w.heap.size bK.zero.c 52->aC ai 122 #[.pointer (some x.ab),(1:Int),.agg bK.zero.c.toArray,.int .u64 0] aF (λv w'=>v=.tuple #[.agg bf.zero.c.toArray,false,(0:Int)]/\af S.W aF w'/\Var w' t bf.zero.c 212/\∀ag,af (λq=>q=t) w' ag->aa.p7 (some wb) w t false 0 ag (λv w'=>v=.tuple #[(2:Int),true]/\(∃aP,eE w0 b0 bz x wb s k 0 aP [] (c+1) w')/\g1 w' x/\tw b0 bz [wb] w w')):=by
  intro aF t am A M an ap;obtain⟨a4,aJ,B,aq⟩:=a.scope am ⟨A,M.lt⟩;refine(K a4).mono ?_;rintro _ w' ⟨j,rfl⟩;have C:=j;obtain⟨H,e9,y,bS,cq,a1,d1,_⟩:=C;refine⟨rfl,d1.ak.mono λq g i=>⟨?_,λhe=>i.2 ?_⟩,M.ak d1.ak (B t A),λag N=>fin t (aq j N) ((ap.ak d1.ak (B _ (ba _))).ak N λe=>an e.symm)⟩
  .refine(cQ.Hf a.s.E i.1).resolve_right λe=>?_
   subst e;exact B _ A i
  .rcases(a.s.E q).1 he with e|e
   .exact .inl e
   .exact .inr (.inl e)
 refine⟨(pE (h.ext b)).use ?_,aN (vs:=bf.zero.c) rfl λaK ar r _=>⟨af.bL r,(pE ((h.ext b).ext r)).use ?_⟩⟩
 .rintro _ _ ⟨rfl,rfl⟩
  refine⟨0,rfl,af.refl _ _,(K (a.ext b)).use ?_,aN (vs:=bf.zero.c) rfl λaL au D _=>⟨af.bL D,(pre _ (b.trans D) b.size au (by have:=f.lt;omega) (f.ext D)).use ?_⟩⟩
  .rintro _ av ⟨j,rfl⟩
   have C:=j;obtain⟨H,e9,y,bS,cq,a1,d1,_⟩:=C;exact⟨_,_,_,rfl,d1.ak,aN (vs:=bf.zero.c) rfl λcx O P _=>⟨af.bL P,O.bX (by simp) (by simpa using bf.plain _),by simp[bf.aX],cA O (us:=bf.zero.c) (by simp) rfl λax aM az _=>by
    have Q:Ext av ax:=Ext.bN P az (ba _);exact fin _ (hX.pre b (j.post Q)) ((f.ak d1.ak G).ext Q)⟩⟩
  .rintro _ aQ ⟨rfl,aB,R,F⟩
   exact⟨_,_,_,rfl,aB,R.bX (by simp) (by simpa using bf.plain _),by simp[bf.aX],cA R (us:=bf.zero.c) (by simp) rfl λdt aR aD _=>F _ aD⟩
 .rintro _ _ ⟨rfl,rfl⟩
  refine⟨0,rfl,af.refl _ _,(pre _ (b.trans r) b.size ar (by have:=f.lt;omega) (f.ext r)).use ?_⟩;rintro _ aS ⟨rfl,aE,T,F⟩;exact⟨_,_,_,rfl,aE,T.bX (by simp) (by simpa using bf.plain _),by simp[bf.aX],cA T (us:=bf.zero.c) (by simp) rfl λaT aU aG _=>F _ aG⟩
end
def oq(u:Nat):bf:=⟨1,bK.zero,2,u⟩
section
variable {w0 w w' w1 bJ cx bO dt:I}{b0 bz:Nat}{x:iE}{wb q jx c ca:Nat}{s k:ae}{e u y:Int}{S aP:cQ}{T az:O bf}{vs:O Y}{kn:TypeId}
theorem HV(hb:g1 w x):aC ai 40 #[.pointer (some x.bR.p),(1:Int),(2:Int)] w (λv w'=>v=.tuple #[.agg l8.c.toArray,true]/\Ext w w'):=by
 refine(HG hb.c7 1 2).mono ?_;rintro _ w' ⟨hx,⟨r,a,h1,d,e,rfl⟩|⟨b,rfl⟩⟩
 .rw[ej]at a
  subst a;exact⟨rfl,hx⟩
 .exact absurd b (by show¬q3 [(kS,[l8])] 1 2=false;decide+kernel)
theorem eE.Dc(h:eE w0 b0 bz x wb s k e S T c w):Ext w0 w:=by
 obtain⟨_,_,_,_,_,_,a⟩:=h.a;exact a.s.x
def mQ(w0:I)(b0 bz:Nat)(x:iE)(wb:Nat)(w:I)(v:Y)(w':I):Prop:=(∃ (t:ae) (e:Int),v=.agg (fo 1 t 1 2 true e).toArray/\t.len=28)/\Ext w0 w'/\tw b0 bz [wb,x.m1,x.m2] w w'
theorem Pa(h:eE w0 b0 bz x wb s k 0 S [] c dt)(hc:c<=1000)(ht:Var dt jx (oq 9).c 212){K:I->Prop}{Q:Y->I->Prop}
 (i:∀ (aF w':I) (y:Int) (aP:cQ) (T:O bf),af S.W dt aF->(w'=aF\/af (λq=>q=wb) aF w')->eE w0 b0 bz x wb s k y aP T (c+2) w'->K w'):aa.uL (some wb) K jx dt Q:=by
 (delta aa.uL ay b4 r1 ah st;dsimp only);have hx:=b1 dt;have b:=h.ext hx;have e:=ht.ext hx;refine aO ?_;generalize dt.drew=r at hx b e;obtain⟨d,n,l,cZ,p,cO,a⟩:=b.a;refine⟨_,rfl,id,_,b.v.cell,_,rfl,id,_,by rw[aw];exact b.lb.cell,id,(oq 9).c,e.rd (bf.aX _),(NG a J (t:=oq 9) (by decide)).use ?_⟩;rintro _ f ⟨rfl,u,e9,j,bS,cq,a1,d1,cw,aA⟩;have g:=b.done d1 cw ⟨d,n,l,j,bS,cq,a1⟩;have m:af S.W dt f:=(af.bL hx).trans d1.ak;obtain⟨bW,b9,o⟩:=g.err (mM [] 6 (oq 9));exact⟨_,rfl,_,rfl,0,by rw[aw];exact g.v.cell,λ_=>⟨_,rfl,by rw[aw];exact bW,by rw[aw];exact b9,aO (by rw[aw];exact i _ _ _ _ _ m (.inr (dX f wb 107 _)) o)⟩,λh=>(by cases h)⟩
def Dd(S:cQ)(x:iE)(wb q:Nat):Prop:=S.W q\/q=wb\/q=x.m1\/q=x.m2
theorem Pb(h:eE w0 b0 bz x wb s k 0 S [] c w)(hc:c<=1000)(hb:g1 w x)(Y:∀q,x.own q->b0<=q/\q<bz)(Z:∀q,x.own q->¬aB s q)(D:Ext w bO)(aI:Var bO w.heap.size bK.zero.c 52)(aJ:Var bO w1.heap.size (fo 0 fg 0 0 false 0) 44)(he:Var bO jx (gr 0) 93)
 (ab:w.heap.size<=jx) (aK:w.heap.size<=w1.heap.size) (ac:jx≠w.heap.size/\jx≠w1.heap.size):aa.uM (some wb) 2 w w1 jx bO (mQ w0 b0 bz x wb w):=by
 have E:x.own x.m1:=.inr (.inl rfl);have F:x.own x.m2:=.inr (.inr (.inl rfl));have a9:=hb.lt _ E;have a_:=hb.lt _ F;have bb:=h.lt;(delta aa.uM r1 fq ah ay st bC b4 aZ e5 ad nK dC ld k_ fQ bH xg aE aR bh fb aS mv;dsimp only);refine k3 (λl=>∃ (y u:Int) (aP:cQ) (T:O bf) (c':Nat),eE w0 b0 bz x wb s k y aP T c' l/\Var l jx (gr u) 93/\Var l w1.heap.size (fo 0 fg 0 0 false 0) 44/\af (Dd S x wb) w l) (λK aL=>?_) ?_
 .refine⟨6,by rw[aw];exact he.cell,(OV bO).use ?_⟩
  rintro _ _ ⟨rfl,rfl⟩;refine⟨40,rfl,λ_=>⟨_,rfl,_,(h.v.ext D).cell,(pE (h.ext D)).use ?_⟩,λh=>(by cases h)⟩;rintro _ _ ⟨rfl,rfl⟩;refine⟨0,rfl,⟨_,by rw[aw];exact he.cell⟩,by rw[aw];exact bc.frozen he _ rfl,?_⟩;rw[aw];refine tr he λf G H _=>aO ?_;have aM:=Ext.bN D H ab;have r:=aM.trans (b1 f)
  replace G:Var f jx (gr (IntKind.wrap .u64 (0+40))) 93:=G
  have A:=G.ext (b1 f);have ae:=(aI.ak H ac.1.symm).ext (b1 f);have ai:=(aJ.ak H ac.2.symm).ext (b1 f);generalize f.drew=bd at r A ae ai;generalize IntKind.wrap .u64 (0+40)=u at A;have g:=h.ext r;refine⟨λ_=>False,_,rfl,id,_,g.v.cell,_,rfl,id,_,by rw[aw];exact g.lb.cell,_,rfl,id,gj.c,by rw[aw,aw];exact g.v.fE (o:=46) (n:=37) (by show 46+37<=108;decide),id,gr u,A.rd rfl,_,rfl,id,_,g.v.cell,(pE g).use ?_⟩;rintro _ _ ⟨rfl,rfl⟩;refine⟨0,rfl,af.refl _ _,(OZ (hb.fw.ext r) (by decide)).use ?_⟩;rintro _ aj ⟨rfl,ag,m,aQ⟩;obtain⟨aT,aU,aV,aW,aY⟩:=aQ (λz=>eE w0 b0 bz x wb s k 0 S [] c z/\Var z w.heap.size bK.zero.c 52/\Var z jx (gr u) 93/\Var z w1.heap.size (fo 0 fg 0 0 false 0) 44/\af (Dd S x wb) w z)
   ⟨g.ext m,ae.ext m,A.ext m,ai.ext m,af.bL (r.trans m)⟩ (by
    rintro z be ⟨aA,al,am,an,ao⟩ (a|a)
    .exact⟨aA.set (Y _ E) ⟨λe=>hb.fw.bW.jG (e▸h.lb),λe=>hb.fw.bW.jG (e▸h.v),Z _ E⟩ a,al.ak a J,am.ak a J,an.ak a J,ao.trans (a.mono λq _ e=>.inr (.inr (.inl e)))⟩
    .exact⟨aA.set (Y _ F) ⟨λe=>hb.fw.b9.jG (e▸h.lb),λe=>hb.fw.b9.jG (e▸h.v),Z _ F⟩ a,al.ak a J,am.ak a J,an.ak a J,ao.trans (a.mono λq _ e=>.inr (.inr (.inr e)))⟩)
  have p:=b1 aj;have i:=aT.ext p;have ap:=aU.ext p;have L:=aV.ext p;have aq:=aW.ext p;have M:=aY.trans (af.bL p);refine⟨0,rfl,λh=>(by cases h),λ_=>⟨λh=>(by cases h),λ_=>aO ?_⟩⟩;generalize aj.drew=a0 at i ap L aq M;have bg:=M.size;have fin:∀ {dt:I} (t:Nat),Ext a0 dt->Var dt t (oq 9).c 212->aa.uL (some wb) K t dt (mQ w0 b0 bz x wb w):=by
   intro dt t B ht;refine Pa (i.ext B) hc ht λaF w' y aP T N a1 a2=>aL _ ⟨y,u,aP,T,_,a2,?_⟩;have ar:=(L.ext B).ak N (h.new ab);have cG:=(aq.ext B).ak N (h.new aK);have g_:=(M.trans (af.bL B)).trans (N.mono λq _ b=>Or.inl b);rcases a1 with rfl|P
   .exact⟨ar,cG,g_⟩
   .exact⟨ar.ak P J,cG.ak P J,g_.trans (P.mono λq _ e=>.inr (.inl e))⟩
  refine⟨λ_=>False,id,1,L.cell,id,bK.zero.c,ap.rd (bK.aX _),_,rfl,id,_,i.v.cell,_,rfl,id,9,by rw[aw,aw];exact i.v.cell,(pE i).use ?_,aN (vs:=bf.zero.c) rfl λbi au Q _=>⟨af.bL Q,(pE (i.ext Q)).use ?_⟩⟩
  .rintro _ _ ⟨rfl,rfl⟩
   exact⟨0,rfl,af.refl _ _,(oq 9).c.toArray,λa3=>by kernel_rfl,aN (vs:=bf.zero.c) rfl λbj av ax _=>⟨af.bL ax,av.bX (by simp[bf.aX]) (by simpa using bf.plain _),by simp[bf.aX],cA av (us:=(oq 9).c) (by simp[bf.aX]) rfl λdt R U _=>fin _ (Ext.bN ax U (ba _)) R⟩⟩
  .rintro _ _ ⟨rfl,rfl⟩
   exact⟨0,rfl,af.refl _ _,(oq 9).c.toArray,λa3=>by kernel_rfl,au.bX (by simp[bf.aX]) (by simpa using bf.plain _),by simp[bf.aX],cA au (us:=(oq 9).c) (by simp[bf.aX]) rfl λdt R U _=>fin _ (Ext.bN Q U (ba _)) R⟩
 rintro l ⟨y,u,aP,T,c',az,a4,aC,aD⟩;refine⟨gr u,a4.rd rfl,(O8 az u).use ?_⟩;rintro _ a5 ⟨t,rfl,a6,C⟩;simp only[aw,cz];have aG:=az.Dc.trans C;have bk:=aD.size;have bl:=C.size;have bm:=aG.size;refine⟨1,t,1,2,false,y,rfl,Ah (zs:=fo 0 fg 0 0 false 0) (us:=fo 1 t 1 2 false y) rfl nr λbn V W=>⟨⟨_,V.cell⟩,bc.frozen V _ rfl,tr V λa7 d X _=>?_⟩⟩
 replace d:Var a7 a5.heap.size (fo 1 t 1 2 true y) 44:=d
 have a8:=(((aC.ext C).ext W).ak X (by have:=aC.lt;omega));refine⟨1,d.cell,t,d.cell,1,d.cell,2,d.cell,true,d.cell,y,d.cell,q4 (us:=fo 1 t 1 2 true y) a8 rfl nr λbo j aH=>⟨1,j.cell,t,j.cell,1,j.cell,2,j.cell,true,j.cell,y,j.cell,⟨t,y,rfl,a6⟩,?_,Dd S x wb,?_,?_⟩⟩
 .exact Ext.bN (Ext.bN (aG.trans W) X J) aH (by have:=h.Dc.size;omega)
 .exact de (de (aD.trans (af.bL (C.trans W))) X λq b e=>J) aH λq b e=>by omega
 .rintro q h0 h1 (b|b|b|b)
  .exact absurd b (h.nt ⟨h0,h1⟩)
  .simp[b]
  .simp[b]
  .simp[b]
end
section
variable {w0 w w' w1 bJ bZ ib:I}{b0 bz:Nat}{x:iE}{wb q jx pa c:Nat}{s k:ae}{e u y:Int}{S aP:cQ}{T az:O bf}{vs:O Y}{kn:TypeId}
theorem Pc(h:eE w0 b0 bz x wb s k 0 S [] c w)(hc:c<=1000)(hb:g1 w x)(u:∀q,x.own q->b0<=q/\q<bz)(y:∀q,x.own q->¬aB s q)(a:Ext w bJ)(b:Var bJ w.heap.size bK.zero.c 52)(d:Var bJ w1.heap.size (fo 0 fg 0 0 false 0) 44)(he:Var bJ jx l8.c 36)
 (A:w.heap.size<=w1.heap.size):aa.uN (some wb) 2 w w1 jx bJ (mQ w0 b0 bz x wb w):=by
 (delta aa.uN bC ay e5 r1 oQ fD b4 z9 ad;dsimp only);have f:=b1 bJ;have a:=a.trans f;have b:=b.ext f;have d:=d.ext f;have he:=he.ext f;refine aO ?_;generalize bJ.drew=l at a b d he;have e:=h.v.ext a;have z:=a.size;have C:=b.lt;have D:=d.lt;have fin:∀ {cx:I} (t:Nat),Ext l cx->l.heap.size<=t->Var cx t (gr 0) 93->aa.uM (some wb) 2 w w1 t cx (mQ w0 b0 bz x wb w):=λt hx ht e=>Pb h hc hb u y (a.trans hx) (b.ext hx) (d.ext hx) e J A ⟨J,J⟩;refine⟨λ_=>False,_,rfl,id,1,by rw[aw];exact e.cell,id,aH.zero.c,by rw[aw];exact he.fE (o:=1) (n:=17) (by show 1+17<=21;decide),id,8080,by rw[aw];exact he.cell,(HU e).use ?_,aN (vs:=e3) (by kernel_rfl) λE m g _=>⟨af.bL g,(HU (e.ext g)).use ?_⟩⟩
 .rintro _ _ ⟨rfl,rfl⟩
  exact⟨6,rfl,af.refl _ _,(gr 0).toArray,λB=>by kernel_rfl,aN (vs:=e3) (by kernel_rfl) λF p r _=>⟨af.bL r,p.bX (by rfl) (by simpa using HT 0),by rfl,cA p (us:=gr 0) (by rfl) rfl λcx i j _=>fin _ (Ext.bN r j (ba _)) (ba _) i⟩⟩
 .rintro _ _ ⟨rfl,rfl⟩
  exact⟨6,rfl,af.refl _ _,(gr 0).toArray,λB=>by kernel_rfl,m.bX (by rfl) (by simpa using HT 0),by rfl,cA m (us:=gr 0) (by rfl) rfl λcx i j _=>fin _ (Ext.bN g j (ba _)) (ba _) i⟩
theorem Pd(h:eE w0 b0 bz x wb s k 0 S [] c w)(hc:c<=1000)(hb:g1 w x)(u:∀q,x.own q->b0<=q/\q<bz)(y:∀q,x.own q->¬aB s q):aC ai 63 #[.pointer (some wb),.agg bK.zero.c.toArray,(2:Int)] w (mQ w0 b0 bz x wb w):=by
 refine okF (aa.xG (some wb) bK.zero.c.toArray 2) ao.xG func63 ?_;(delta aa.xG fQ bC ay e5 r1 gh m4 ad;dsimp only);refine aN (vs:=bK.zero.c) rfl λw1 z i _=>aN (vs:=fo 0 fg 0 0 false 0) rfl λag A j _=>aO ?_;have a:=(i.trans j).trans (b1 ag);have l:=(z.ext j).ext (b1 ag);have m:=A.ext (b1 ag);generalize ag.drew=B at a l m;have b:=h.v.ext a;have C:=h.lb.ext a;have fin:∀ {bJ:I} (t:Nat),Ext B bJ->Var bJ t l8.c 36->aa.uN (some wb) 2 w w1 t bJ (mQ w0 b0 bz x wb w):=λt hx b=>Pc h hc hb u y (a.trans hx) (l.ext hx) (m.ext hx) b i.size;refine⟨λ_=>False,_,rfl,id,_,b.cell,_,rfl,id,_,by rw[aw];exact C.cell,_,rfl,id,1,by rw[aw];exact b.cell,(HV (hb.ext a)).use ?_,aN (vs:=cg.zero.c) (by kernel_rfl) λF D d _=>⟨af.bL d,(HV ((hb.ext a).ext d)).use ?_⟩⟩
 .rintro _ G ⟨rfl,n⟩
  exact⟨_,_,rfl,af.bL n,aN (vs:=cg.zero.c) (by kernel_rfl) λH o p _=>⟨af.bL p,o.bX (by simp[cg.aX]) (by simpa using cg.plain _),by simp[cg.aX],cA o (us:=l8.c) (by simp[cg.aX]) rfl λE e f _=>fin _ (n.trans (Ext.bN p f (ba _))) e⟩⟩
 .rintro _ J ⟨rfl,g⟩
  have r:=D.ext g;exact⟨_,_,rfl,af.bL g,r.bX (by simp[cg.aX]) (by simpa using cg.plain _),by simp[cg.aX],cA r (us:=l8.c) (by simp[cg.aX]) rfl λE e f _=>fin _ (Ext.bN (d.trans g) f (ba _)) e⟩
theorem eE.grow(h:eE w0 b0 bz x wb s k e S T c w)(hx:Ext w w')(hb:bz=w.heap.size):∃aP,eE w0 b0 w'.heap.size x wb s k e aP T c w':=by
 subst hb;obtain⟨d,n,l,cZ,p,cO,a⟩:=h.a;have f:=hx.size;have a':=a.grow (cp:=vR x b0 w'.heap.size) hx (λq b=>by
  rcases b with e|⟨h0,h1⟩
  .exact .inl (.inl e)
  .by_cases b:q<w.heap.size
   .exact .inl (.inr ⟨h0,b⟩)
   .exact .inr ⟨J,h1⟩) (.inl rfl)
 exact⟨_,⟨⟨d,n,l,cZ,p,cO,a'⟩,h.lb.ext hx,h.v.ext hx,h.kJ.ext hx,h.sc,λq b=>⟨(h.o q b).1,by have:=(h.o q b).2;omega⟩,h.kK,h.ab,h.now⟩⟩
theorem Pe:(ir aH.zero 0).getD bK.zero=bK.zero:=by decide+kernel
theorem Pf(h:eE w0 b0 bz x wb s k e S [] c w)(hc:c<=900)(hb:g1 w x)(n:bz=w.heap.size)(p:∀q,x.own q->b0<=q)(r:∀q,x.own q->¬aB s q)(u:¬x.own wb)(d:Ext w ib)(f:Var ib pa bK.zero.c 52)(g:Var ib w.heap.size (fo 0 fg 0 0 false 0) 44)(I:w.heap.size<=pa):
 aa.uI (some wb) w pa ib (mQ w0 b0 bz x wb w):=by
 have K:=h.lt;have L:=(h.o wb (.inr (.inl rfl)));have M:=hb.lt x.m1 (.inr (.inl rfl));have N:=hb.lt x.m2 (.inr (.inr (.inl rfl)));have z:=d.size;(delta aa.uI gF ah k_ bH ad mv r1 aE aR bh fb aS;dsimp only);obtain⟨aP,v⟩:=h.grow d n;have j:∀q,x.own q->b0<=q/\q<ib.heap.size:=λq a=>⟨p q a,by have:=hb.lt q a;omega⟩;refine⟨_,f.rd (bK.aX _),(O_ v J (hb.ext d) j u).use ?_⟩;rintro _ O ⟨rfl,⟨ep,A⟩,B,i⟩;have C:=i.var f J f.lt (by simp;omega);have D:=i.var g J g.lt (by simp;omega);refine⟨2,true,rfl,λh=>(by cases h),λ_=>⟨_,C.rd (bK.aX _),(Pd A J B j r).use ?_⟩⟩;rintro _ P ⟨⟨t,y,rfl,E⟩,F,l⟩;have G:=l.var D J g.lt (by simp;omega);simp only[aw,cz];refine⟨1,t,1,2,true,y,rfl,q4 (us:=fo 1 t 1 2 true y) G rfl nr λQ b m=>⟨1,b.cell,t,b.cell,1,b.cell,2,b.cell,true,b.cell,y,b.cell,⟨t,y,rfl,E⟩,Ext.bN F m h.Dc.size,?_⟩⟩;obtain⟨gB,bd,aA⟩:=i;obtain⟨eI,bo,H⟩:=l;refine⟨λq=>gB q\/eI q,de (((af.bL d).trans (bd.mono λ_ _ h=>.inl h)).trans (bo.mono λ_ _ h=>.inr h)) m λq a e=>J,λq h0 h1 a=>?_⟩;rcases a with a|a
 .have:=aA q h0 J a
  simp at this;simp[this]
 .exact H q h0 J a
theorem HW(hb:g1 w x):aC ai 40 #[.pointer (some x.bR.p),(0:Int),(0:Int)] w (λv w'=>∃ (z:cg) (b:aj),v=.tuple #[.agg z.c.toArray,b]/\Ext w w'):=by
 refine(HG hb.c7 0 0).mono ?_;rintro _ w' ⟨hx,⟨r,a,h1,d,e,rfl⟩|⟨f,rfl⟩⟩
 .exact⟨_,_,rfl,hx⟩
 .exact⟨_,_,rfl,hx⟩
theorem Pg(h:eE w0 b0 bz x wb s k e S [] c w)(hc:c<=900)(hb:g1 w x)(M:bz=w.heap.size)(N:∀q,x.own q->b0<=q)(O:∀q,x.own q->¬aB s q)(P:¬x.own wb)(a:Ext w bZ)(he:Var bZ jx e3 93)(f:Var bZ w.heap.size (fo 0 fg 0 0 false 0) 44):
 aa.rZ (some wb) w jx false bZ (mQ w0 b0 bz x wb w):=by
 (delta aa.rZ bC ay e5 r1 gh m4 ad ah nL;dsimp only);refine cc (λ_ w'=>Ext bZ w') (λK u=>aO ?_) ?_
 .have d:=b1 bZ
  have a:=a.trans d;have he:=he.ext d;generalize bZ.drew=ac at d a he;refine⟨λ_=>False,_,rfl,id,_,(h.v.ext a).cell,_,rfl,id,_,by rw[aw];exact(h.lb.ext a).cell,id,0,he.cell,id,0,by rw[aw];exact he.cell,(HW (hb.ext a)).use ?_,aN (vs:=cg.zero.c) (by kernel_rfl) λae Q j _=>⟨af.bL j,(HW ((hb.ext a).ext j)).use ?_⟩⟩
  .rintro _ bO ⟨z,b,rfl,y⟩
   exact⟨_,_,rfl,af.bL y,aN (vs:=cg.zero.c) (by kernel_rfl) λag A B _=>⟨af.bL B,A.bX (by simp[cg.aX]) (by simpa using cg.plain _),by simp[cg.aX],cA A (us:=z.c) (by simp[cg.aX]) rfl λai aj R _=>u _ _ ((d.trans y).trans (Ext.bN B R (ba _)))⟩⟩
  .rintro _ ak ⟨z,b,rfl,l⟩
   have C:=Q.ext l;exact⟨_,_,rfl,af.bL l,C.bX (by simp[cg.aX]) (by simpa using cg.plain _),by simp[cg.aX],cA C (us:=z.c) (by simp[cg.aX]) rfl λal am T _=>u _ _ (d.trans (Ext.bN (j.trans l) T (ba _)))⟩
 rintro an D U;refine⟨λh=>(by cases h),λ_=>aO ?_⟩;have d:=U.trans (b1 D);have a:=a.trans d;have f:=f.ext d;generalize D.drew=m at a f;have g:=h.v.ext a;have z:=a.size;have p:=λw=>oV aH.zero 0 w;rw[Pe]at p;have fin:∀ {i:I} (t:Nat),Ext m i->m.heap.size<=t->Var i t bK.zero.c 52->aa.uI (some wb) w t i (mQ w0 b0 bz x wb w):=λt hx ht g=>Pf h hc hb M N O P (a.trans hx) g (f.ext hx) J;refine⟨λ_=>False,_,rfl,id,aH.zero.c,by rw[aw,aw];exact g.fE (o:=46) (n:=17) (by show 46+17<=108;decide),_,rfl,id,0,by rw[aw,aw];exact g.cell,(p m).use ?_,aN (vs:=bK.zero.c) (by kernel_rfl) λV W E _=>⟨af.bL E,(p V).use ?_⟩⟩
 .rintro _ ao ⟨rfl,r⟩
  exact⟨_,_,rfl,af.bL r,aN (vs:=bK.zero.c) (by kernel_rfl) λap F G _=>⟨af.bL G,F.bX (by simp) (by simpa using bK.plain _),by simp[bK.aX],cA F (us:=bK.zero.c) (by simp) rfl λi X Y _=>fin _ (r.trans (Ext.bN G Y (ba _))) r.size X⟩⟩
 .rintro _ aq ⟨rfl,H⟩
  have L:=W.ext H;exact⟨_,_,rfl,L.bX (by simp) (by simpa using bK.plain _),by simp[bK.aX],cA L (us:=bK.zero.c) (by simp) rfl λar Z ab _=>fin _ (Ext.bN (E.trans H) ab (ba _)) (ba _) Z⟩
theorem Ph(h:eE w0 b0 bz x wb s k e S [] c w)(hc:c<=900)(hb:g1 w x)(C:bz=w.heap.size)(D:∀q,x.own q->b0<=q)(E:∀q,x.own q->¬aB s q)(F:¬x.own wb):aC ai 23 #[.pointer (some wb)] w (mQ w0 b0 bz x wb w):=by
 refine okF (aa.xy (some wb)) ao.xy func23 ?_;(delta aa.xy fQ bC ay fq gh aZ z9 ad;dsimp only);refine aN (vs:=fo 0 fg 0 0 false 0) rfl λw1 G H _=>aO ?_;have a:=H.trans (b1 w1);have p:=G.ext (b1 w1);generalize w1.drew=ag at a p;have b:=h.v.ext a;have fin:∀ {bZ:I} (t:Nat),Ext ag bZ->Var bZ t e3 93->aa.rZ (some wb) w t false bZ (mQ w0 b0 bz x wb w):=λt hx b=>Pg h hc hb C D E F (a.trans hx) b (p.ext hx);have i:∀ {aF:I},Ext ag aF->aC ai 58 #[.pointer (some x.a8),.agg gj.c.toArray,.int .u64 0] aF (λv w'=>v=.tuple #[.agg e3.toArray,false]/\Ext aF w'):=λhx=>OH (hb.fw.ext (a.trans hx)) gj 0;refine⟨λ_=>False,_,rfl,id,_,b.cell,_,rfl,id,_,by rw[aw];exact(h.lb.ext a).cell,_,rfl,id,gj.c,by rw[aw,aw];exact b.fE (o:=46) (n:=37) (by show 46+37<=108;decide),_,rfl,id,_,b.cell,(pE (h.ext a)).use ?_,aN (vs:=e3) (by kernel_rfl) λL J g _=>⟨af.bL g,(pE ((h.ext a).ext g)).use ?_⟩⟩
 .rintro _ _ ⟨rfl,rfl⟩
  refine⟨0,rfl,af.refl _ _,(i (.refl _ _)).use ?_,aN (vs:=e3) (by kernel_rfl) λM K j _=>⟨af.bL j,(i j).use ?_⟩⟩
  .rintro _ N ⟨rfl,r⟩
   exact⟨_,_,rfl,af.bL r,aN (vs:=e3) (by kernel_rfl) λO u y _=>⟨af.bL y,u.bX (by simp) (by simpa using mP),by rfl,cA u (us:=e3) (by simp) rfl λz d f _=>fin _ (r.trans (Ext.bN y f (ba _))) d⟩⟩
  .rintro _ P ⟨rfl,l⟩
   have A:=K.ext l;exact⟨_,_,rfl,af.bL l,A.bX (by simp) (by simpa using mP),by rfl,cA A (us:=e3) (by simp) rfl λz d f _=>fin _ (Ext.bN (j.trans l) f (ba _)) d⟩
 .rintro _ _ ⟨rfl,rfl⟩
  refine⟨0,rfl,af.refl _ _,(i g).use ?_⟩;rintro _ Q ⟨rfl,m⟩;have B:=J.ext m;exact⟨_,_,rfl,af.bL m,B.bX (by simp) (by simpa using mP),by rfl,cA B (us:=e3) (by simp) rfl λz d f _=>fin _ (Ext.bN (g.trans m) f (ba _)) d⟩
end
theorem Pj{w:I}{b o:Nat}{vs us l:O Y}{T:TypeId}(a:Var w b vs T)(c:l=us)(d:o+us.length<=vs.length){K:I->Prop}(h:∀w',Var w' b (vs.take o++us++vs.drop (o+us.length)) T->af (λq=>q=b) w w'->K w'):an (setCells w ⟨b,o,none⟩ 0 l) K:=by
 subst c;refine aO (h _ ?_ (af.iV (.refl _ _) _ 0));have h1:=bc.k8 (o:=o) a l;have e:gE vs.toArray o l=(vs.take o++l++vs.drop (o+l.length)).toArray:=by
  apply Array.ext';rw[j5 l vs.toArray o (by simpa using d)]
 unfold Var;rw[←e];exact h1
section
variable {w0 h_ w w':I}{x:iE}{d n:Nat}{l:fJ}{S:cQ}{s k:ae}
theorem Pk(s:ae)(w:I):aC ai 4 #[.pointer none,s] w (λv w'=>v=.agg (fo 0 fg 0 0 false 1).toArray/\Ext w w'):=by
 refine okF (aa.p3 none s) ao.p3 func4 ?_;(delta aa.p3 fQ ah bH ad mv r1 aE aR bh fb aS nI hO bC ay oQ fD lQ cG gF gh xs k_;dsimp only);simp only[aw,cz];exact aN (vs:=fo 0 fg 0 0 false 0) rfl λw1 b c _=>⟨λ_=>q4 (us:=fo 0 fg 0 0 false 1) b rfl nr λag a hc=>⟨0,a.cell,fg,a.cell,0,a.cell,0,a.cell,false,a.cell,1,a.cell,rfl,Ext.bN c hc (ba _)⟩,λh=>(by cases h)⟩
theorem Pl(A:eB w0 h_ (λq=>q=x.ab) d n l x.ab 6 S [] [] [] [] 0)(Q:S.now=0)(G:Ext h_ w)(m:Var w x.lb x.c 87)(hb:g1 w x)(B:∀q,q=x.lb\/x.own q\/aB s q->h_.heap.size<=q)(hs:Src 1 w s (ax ik))(hc:s.len<=s.cap)(R:∀q,x.own q->¬aB s q):
 aC ai 4 #[.pointer (some ⟨x.lb,0,none⟩),.slice s.a s.len s.cap] w (λv w'=>(∃ (t:ae) (e:Int),v=.agg (fo 1 t 1 2 true e).toArray/\t.len=28)/\Ext w0 w'):=by
 refine okF (aa.p3 (some ⟨x.lb,0,none⟩) s) ao.p3 func4 ?_;(delta aa.p3 fQ ah bH ad mv r1 aE aR bh fb aS nI hO bC ay oQ fD lQ cG gF gh xs k_;dsimp only);refine aN (vs:=fo 0 fg 0 0 false 0) rfl λw1 T H al=>⟨λh=>(by cases h),λ_=>(p4 (hs.ext H) hc).use ?_⟩;rintro _ am ⟨rfl,C⟩;refine⟨_,_,rfl,pz (us:=lB) (by rfl) (by rfl) zY λI K D=>⟨λh=>(by cases h),λ_=>⟨lB,K.rd (by rfl),(.pointer (some ⟨x.lb,0,none⟩)::(lB++(.slice s.a s.len s.cap::(dP.zero.c fg++ [.int .i64 0])))).toArray,by kernel_rfl,aN rfl λE U V _=>aO ?_⟩⟩⟩;have L:=(H.trans C).trans D;have p:=V.trans (b1 E);have f:=L.trans p;have M:=U.ext (b1 E);have u:=K.ext p;generalize E.drew=bJ at p f M u;refine⟨λ_=>False,_,rfl,id,_,by rw[aw];exact(m.ext f).cell,id,aH.zero.c,by rw[aw,aw];exact u.fE (o:=62) (n:=17) (by show 62+17<=82;decide),id,80,by rw[aw,aw];exact u.cell,id,17,by rw[aw,aw];exact u.cell,(OB (r:=x.rc) (hb.ext f).c7 (ej.2 rfl) aH.zero 80 17 rfl).use ?_⟩;rintro _ an ⟨rfl,j⟩;refine⟨_,_,rfl,λ_=>⟨_,rfl,_,by rw[aw];exact((m.ext f).ext j).cell,(OA (r:=x.rc) ((hb.ext f).ext j).c7 (ej.2 rfl)).use ?_⟩,λh=>(by cases h)⟩;rintro _ cx ⟨k,rfl,_,F,_⟩;have N:=(M.ext j).ext F;refine⟨_,_,rfl,_,rfl,bc.bX N 84 _ (by show 84+(kS.c k).length<=108;rw[dP.aX];decide) (dP.plain kS k),by rfl,?_⟩;rw[aw];refine Pj (o:=84) (us:=kS.c k) N rfl (by show 84+(kS.c k).length<=108;rw[dP.aX];decide) λcC y O=>?_
 replace y:Var cC I.heap.size (Ag x s k 0) 82:=y
 have cU:=(f.trans j).trans F;have fQ:=G.size;have hO:=L.size;have g:Ext w cC:=Ext.bN cU O hO;have z3:=y.lt;have W:=G.trans g;have X:=A.v.lt;have Y:=A.grow (cp:=vR x h_.heap.size cC.heap.size) W (λq b=>b.imp id id) (.inl rfl);have P:=λq b=>Hk hs q b;have Z:eE w0 h_.heap.size cC.heap.size x I.heap.size s k 0 _ [] 0 cC:=⟨⟨d,n,l,[],[],[],Y⟩,m.ext g,y,hs.ext g,hc,?_,λh=>by have:=P _ h;omega,X,Q⟩
 .refine(Ph Z (by decide) (hb.ext g) rfl (λq b=>B q (.inr (.inl b))) R λh=>by have:=hb.lt _ h;omega).use ?_
  rintro _ ap ⟨⟨t,e,rfl,ht⟩,ac,af⟩;have z:=T.ext ((C.trans D).trans ((p.trans j).trans F));have aq:=C.size;have ar:=D.size;have z:Var cC w.heap.size (fo 0 fg 0 0 false 0) 44:=z.ak O J;have au:=hb.lt x.m1 (.inr (.inl rfl));have av:=hb.lt x.m2 (.inr (.inr (.inl rfl)));have ag:=af.var z J z.lt (by simp;omega);simp only[aw,cz];exact⟨1,t,1,2,true,e,rfl,q4 (us:=fo 1 t 1 2 true e) ag rfl nr λaz i aj=>⟨1,i.cell,t,i.cell,1,i.cell,2,i.cell,true,i.cell,e,i.cell,⟨t,e,rfl,ht⟩,Ext.bN ac aj (by have:=A.s.x.size;omega)⟩⟩
 .rintro q (rfl|rfl|b)
  .exact⟨B _ (.inl rfl),by have:=m.lt;have:=g.size;omega⟩
  .exact⟨J,z3⟩
  .exact⟨B _ (.inr (.inr b)),by have:=P q b;have:=g.size;omega⟩
end
def mR(e2 bt fh dn c7 c1:Int):O Y:=[.int .u64 e2,bt,fh,dn,c7,c1]
theorem Pm{e2 bt fh dn c7 c1:Int}:∀v∈mR e2 bt fh dn c7 c1,Plain v:=dN eu (dN eu (dN eu (dN eu (dN eu (dN eu lA)))))
section
variable {w0 h_ w w':I}{x:iE}{d n:Nat}{l:fJ}{S:cQ}{s k:ae}
theorem sV(w:I):aC ai 51 #[.agg #[.int .u8 1,.int .u8 5,.int .u8 5,.int .u8 0]] w (λv w'=>v=.agg (mR 1 6 6 1 1 1).toArray/\Ext w w'):=by
 refine okF (aa.sV #[.int .u8 1,.int .u8 5,.int .u8 5,.int .u8 0]) ao.sV func51 ?_;(delta aa.sV aZ cG ad bH al dC bh r1;dsimp only);simp only[aw,cz];refine aN (vs:=[.int .u8 1,.int .u8 5,.int .u8 5,.int .u8 0]) rfl λw1 e c _=>aN (vs:=mR 0 0 0 0 0 0) rfl λag f d _=>?_;have a:=e.ext d;refine⟨by decide,1,a.cell,by decide,5,a.cell,by decide,by decide,5,a.cell,by decide,by decide,0,a.cell,by decide,by decide,0,a.cell,by decide,by decide,by decide,0,a.cell,by decide,q4 (us:=mR 1 6 6 1 1 1) f rfl Pm λg b hc=>⟨1,b.cell,6,b.cell,6,b.cell,1,b.cell,1,b.cell,1,b.cell,rfl,Ext.bN (c.trans d) hc c.size⟩⟩
theorem sO(f m:aq av)(w:I):aC ai 100 #[.agg (mR 1 6 6 1 1 1).toArray,.pointer f,.pointer m] w (λv w'=>(∃p:aq av,v=.pointer p)/\Ext w w'):=by
 refine okF (aa.sO 1 6 6 1 1 1 f m) ao.sO func100 ?_;(delta aa.sO aZ dC ad bh r1;dsimp only);simp only[aw,cz];refine aN (vs:=mR 1 6 6 1 1 1) rfl λw1 a d _=>⟨1,a.cell,6,a.cell,6,a.cell,1,a.cell,1,a.cell,1,a.cell,6,a.cell,aN (vs:=[.int .i64 6,.slice none 0 0]) rfl λb _ c _=>⟨1,(a.ext c).cell,aN (vs:=[.pointer m,.slice none 0 0,.int .i64 1]) rfl λh _ e _=>?_⟩⟩;exact⟨(mR 1 6 6 1 1 1++ [Value.pointer f,.pointer m,.pointer (some ⟨w1.heap.size,0,none⟩),.pointer (some ⟨b.heap.size,0,none⟩),.slice none 0 0,.int .u64 0]).toArray,by kernel_rfl,aN (vs:=(mR 1 6 6 1 1 1++ [.pointer f,.pointer m,.pointer (some ⟨w1.heap.size,0,none⟩),.pointer (some ⟨b.heap.size,0,none⟩),.slice none 0 0,.int .u64 0])) rfl λi _ g _=>⟨⟨_,rfl⟩,((d.trans c).trans e).trans g⟩⟩
structure Pn(w w':I)(v:Y)(a mp lb a8 m1 m2 hb hm sb ab d b:Nat)(bR:kR)(S:cQ)(n_ h_:I):Prop where
 eq:v=.tuple #[.pointer (some a),true]
 PI:Ext w n_
 PJ:eB n_ h_ (λq=>q=ab) d 88 (qY 3) ab 6 S [] [] [] [] 0
 now:S.now=0
 x:Ext h_ w'
 jE:∃p:aq av,Var w' a [.pointer (some lb),.pointer p,.pointer (some bR.p),.pointer (some ab),.pointer (some d),()] 134
 c7:eX w' bR []
 PK:∀q,i_ bR [] q->h_.heap.size<=q/\q<b
 PL:h_.heap.size<=b
 Ax:Var w' lb (Af 1 6 6 1 1 1 (some bR.p) (some ab) (some a8) (some hb) (some sb)) 87
 fw:kp w' a8 m1 m2 6 [] []
 he:l7 w' hb hm 1 1
 lo:∀q,q=lb\/q=a8\/q=m1\/q=m2\/q=hb\/q=hm\/q=a->b<=q/\q<w'.heap.size
theorem sU(w:I):aC ai 50 #[.agg (mR 1 6 6 1 1 1).toArray,.int .u8 3] w (λv w'=>∃ (B mp lb a8 m1 m2 hb hm sb ab d C:Nat) (bR:kR) (S:cQ) (n_ h_:I),Pn w w' v B mp lb a8 m1 m2 hb hm sb ab d C bR S n_ h_):=by
 refine okF (aa.sU 1 6 6 1 1 1 3) ao.sU func50 ?_;(delta aa.sU aZ bh r1 ad w5 g7 dC gM;dsimp only);simp only[aw,cz];refine aN (vs:=mR 1 6 6 1 1 1) rfl λw1 m D _=>⟨6,m.cell,(qx (most:=6) (b:=3) (by decide) (by decide) w1).use ?_⟩;rintro _ h_ ⟨ab,d,S,rfl,a,_,E⟩;refine⟨_,_,_,rfl,(oT h_).use ?_⟩;rintro _ n ⟨bR,rfl,o,i,hf⟩;have c:=(m.ext a.s.x).ext i;refine⟨_,rfl,1,c.cell,6,c.cell,6,c.cell,1,c.cell,1,c.cell,1,c.cell,(m5 1 6 6 1 1 1 bR.p ab n).use ?_⟩;rintro _ G ⟨g,⟨hg,_⟩|⟨_,lb,a8,m1,m2,hb,hm,sb,most,H,rfl,r,h,j,e⟩⟩
 .exact absurd hg (by decide+kernel)
 obtain rfl:most=6:=by omega
 refine⟨_,_,rfl,aN (vs:=[()]) rfl λK _ l _=>?_⟩;have c:=(c.ext g).ext l;refine⟨1,c.cell,6,c.cell,6,c.cell,1,c.cell,1,c.cell,1,c.cell,6,c.cell,aN (vs:=[(6:Int),()]) rfl λF _ t _=>(sO _ _ F).use ?_⟩;rintro _ L ⟨⟨p,rfl⟩,u⟩;refine⟨_,rfl,aN (vs:=[.pointer (some lb),.pointer p,.pointer (some bR.p),.pointer (some ab),.pointer (some d),()]) rfl λbO y z _=>?_⟩;have f:=((l.trans t).trans u).trans z;have fQ:=g.size;have hO:=((l.trans t).trans u).size;have z3:=z.size;refine⟨_,0,lb,a8,m1,m2,hb,hm,sb,ab,d,n.heap.size,bR,S,w1,h_,⟨rfl,D,a,E.trans rfl,(i.trans g).trans f,⟨p,y⟩,(o.ext g).ext f,λq A=>⟨hf q A,o.lt A⟩,i.size,r.ext f,h.ext f,j.ext f,?_⟩⟩;rintro q (rfl|rfl|rfl|rfl|rfl|rfl|rfl)
 .exact⟨e _ (.inl rfl),by have:=r.lt;omega⟩
 .exact⟨e _ (.inr (.inl rfl)),by have:=h.v.lt;omega⟩
 .exact⟨e _ (.inr (.inr (.inl rfl))),by have:=h.bW.lt;omega⟩
 .exact⟨e _ (.inr (.inr (.inr (.inl rfl)))),by have:=h.b9.lt;omega⟩
 .exact⟨e _ (.inr (.inr (.inr (.inr (.inl rfl))))),by have:=j.v.lt;omega⟩
 .exact⟨e _ (.inr (.inr (.inr (.inr (.inr rfl))))),by have:=j.k.lt;omega⟩
 .exact⟨J,y.lt⟩
theorem Po(w:I):aC ai 19 #[] w (λv w'=>v=true/\Ext w w'):=by
 refine aa.JJ w _ ?_;(delta aa.u9 ED EE aZ ah ay b4 eG k_ fQ bH ad r1 bh fb aS aE aR;dsimp only);refine⟨#[.int .u8 1,.int .u8 5,.int .u8 5,.int .u8 0],by kernel_rfl,(sV w).use ?_⟩;rintro _ ag ⟨rfl,X⟩;refine⟨1,6,6,1,1,1,rfl,(sU ag).use ?_⟩;rintro _ F ⟨y,mp,lb,a8,m1,m2,hb,hm,sb,ab,d,G,bR,S,n_,h_,B⟩;obtain⟨rfl,Y,a,Z,H,⟨p,J⟩,ac,K,aH,ae,af,aj,b⟩:=B;refine⟨_,_,rfl,λh=>(by cases h),λ_=>⟨_,rfl,_,by rw[aw];exact J.cell,(kS.c fg).toArray,by kernel_rfl,(Oh ac kS fg).use ?_⟩⟩;rintro _ al ⟨rfl,z,am,L,j,M⟩;have aG:pC (fm []) kS fg=(0,[(kS,[])]):=by decide+kernel
 rw[aG]at L⊢;have cw:∀q,G<=q->q<F.heap.size->¬i_ bR [] q:=λq h0 _ h=>by have:=(K q h).2;omega
 have N:=b y (.inr (.inr (.inr (.inr (.inr (.inr rfl))))));have O:=J.ak j (cw _ N.1 N.2);refine⟨_,rfl,_,rfl,_,by rw[aw];exact O.cell,l8.c.toArray,by kernel_rfl,(Oy am 1 l8).use ?_⟩;rintro _ bZ ⟨rfl,an,ao,A,l,ap⟩;rw[L,show tu [(kS,[])] 1 l8=(0,[(kS,[l8])]) by decide+kernel]at A⊢;obtain⟨r,rfl⟩:∃r,an=[r]:=List.length_eq_one_iff.1 (by have:=congrArg List.length A;simpa[fm] using this);have aq:r.s=kS/\r.bs=[l8]:=by simpa[fm] using A
 obtain⟨aI,aJ,C,D⟩:=r;obtain⟨rfl,rfl⟩:=aq;have bB:∀q,G<=q->q<F.heap.size->¬i_ bR z q:=λq h0 h1 h=>(M q h).elim (cw q h0 h1) λh=>by omega
 have P:∀q,i_ bR [] q->h_.heap.size<=q:=λq h=>(K q h).1;have ux:=H.size;have Q:∀q,i_ bR z q->h_.heap.size<=q:=λq h=>(M q h).elim (P q) λh=>by omega
 have R:Ext h_ al:=Ext.ee H j P;have T:Ext h_ bZ:=Ext.ee R l Q;have uy:=R.size;have i:∀q,(q=lb\/q=a8\/q=m1\/q=m2\/q=hb\/q=hm\/q=y)->¬i_ bR [] q:=λq h=>cw q (b q h).1 (b q h).2;have f:∀q,(q=lb\/q=a8\/q=m1\/q=m2\/q=hb\/q=hm\/q=y)->¬i_ bR z q:=λq h=>bB q (b q h).1 (b q h).2;have ar:=O.ak l (f _ (by simp));have au:=(ae.ak j (i _ (by simp))).ak l (f _ (by simp));have av:=(af.ak j ⟨i _ (by simp),i _ (by simp),i _ (by simp)⟩).ak l ⟨f _ (by simp),f _ (by simp),f _ (by simp)⟩;have ax:=(aj.ak j ⟨i _ (by simp),i _ (by simp)⟩).ak l ⟨f _ (by simp),f _ (by simp)⟩;refine⟨_,rfl,gj.c.toArray,by kernel_rfl,(sN bZ).use ?_⟩;rintro _ aK ⟨t,rfl,ht,n,U⟩;have V:g1 bZ ⟨lb,ab,a8,m1,m2,hb,hm,sb,bR,C,D⟩:=⟨av,ax,ao⟩;have az:∀q,iE.own ⟨lb,ab,a8,m1,m2,hb,hm,sb,bR,C,D⟩ q->h_.heap.size<=q:=by
  rintro q (rfl|rfl|rfl|rfl|rfl|h)
  .have:=(b q (by simp)).1;omega
  .have:=(b q (by simp)).1;omega
  .have:=(b q (by simp)).1;omega
  .have:=(b q (by simp)).1;omega
  .have:=(b q (by simp)).1;omega
  .exact(ap q h).elim (Q q) λh=>by omega
 refine⟨_,_,rfl,_,rfl,_,(ar.ext n).cell,(Pl (x:=⟨lb,ab,a8,m1,m2,hb,hm,sb,bR,C,D⟩) a Z (T.trans n) (au.ext n) (V.ext n) ?_ ht.src ht.2.1 ?_).use ?_⟩
 .rintro q (rfl|m|m)
  .have:=(b q (.inl rfl)).1;omega
  .exact az q m
  .have:=U q m;have:=T.size;omega
 .intro q m h
  have:=U q h;have:=V.lt q m;omega
 rintro _ bO ⟨⟨t,e,rfl,aA⟩,aB⟩;simp only[aw,cz];refine⟨1,t,1,2,true,e,rfl,Ah (zs:=fo 0 fg 0 0 false 0) (us:=fo 1 t 1 2 true e) rfl nr λaL o aD=>il true (λ_ k g=>⟨1,o.cell,g _ (.refl _ _)⟩) λaM u=>il true (λ_ k g=>⟨2,(o.ext u).cell,g _ (.refl _ _)⟩) λaN E=>il true (λ_ k g=>⟨true,((o.ext u).ext E).cell,g _ (.refl _ _)⟩) λaO W=>il true (λ_ k g=>⟨t,(((o.ext u).ext E).ext W).cell,by rw[aA];exact g _ (.refl _ _)⟩) λaP aF=>⟨rfl,?_⟩⟩;exact((((((X.trans Y).trans aB).trans aD).trans u).trans E).trans W).trans aF
theorem Pp(n:Int)(w:I):aC ai 6 #[.pointer none,.int .u64 n] w (λv w'=>v=.tuple #[(0:Int),(0:Int),(1:Int)]/\w=w'):=by
 refine okF (aa.Bn none n) ao.Bn func6 ?_;exact⟨λ_=>⟨rfl,rfl⟩,λh=>(by cases h)⟩
theorem Pq(w:I):aC ai 7 #[.pointer none,(1:Int),.agg bK.zero.c.toArray] w (λv w'=>v=.tuple #[(0:Int),false]/\Ext w w'):=by
 refine okF (aa.Bo none 1 bK.zero.c.toArray) ao.Bo func7 ?_;exact aN (vs:=bK.zero.c) rfl λw1 _ hx _=>⟨λ_=>⟨rfl,hx⟩,λh=>(by cases h)⟩
theorem Pr(w:I):aC ai 8 #[.pointer none] w (λv w'=>v=.int .u64 0/\w=w'):=by
 refine okF (aa.Bp none) ao.Bp func8 ?_;exact⟨λ_=>⟨rfl,rfl⟩,λh=>(by cases h)⟩
theorem Ps(w:I):aC ai 9 #[.pointer none] w (λv w'=>v=()/\w=w'):=by
 refine okF (aa.Bq none) ao.Bq func9 ?_;exact⟨λ_=>⟨rfl,rfl⟩,λh=>(by cases h)⟩
theorem Pt(w:I):aC ai 10 #[.pointer none,(1:Int)] w (λv w'=>v=.int .i64 1/\w=w'):=by
 refine okF (aa.Br none 1) ao.Br func10 ?_;exact⟨λ_=>⟨rfl,rfl⟩,λh=>(by cases h)⟩
theorem Pu(w:I):aC ai 11 #[.pointer none,(1:Int),(1:Int)] w (λv w'=>v=.int .i64 1/\w=w'):=by
 refine okF (aa.Bs none 1 1) ao.Bs func11 ?_;exact⟨λ_=>⟨rfl,rfl⟩,λh=>(by cases h)⟩
theorem Pv(w:I):aC ai 12 #[.pointer none,(1:Int),(1:Int),true] w (λv w'=>v=.int .i64 1/\w=w'):=by
 refine okF (aa.Bt none 1 1 true) ao.Bt func12 ?_;exact⟨λ_=>⟨rfl,rfl⟩,λh=>(by cases h)⟩
theorem Pw(w:I):aC ai 13 #[.pointer none,(1:Int),(1:Int),true] w (λv w'=>v=false/\w=w'):=by
 refine okF (aa.Bu none 1 1 true) ao.Bu func13 ?_;exact⟨λ_=>⟨rfl,rfl⟩,λh=>(by cases h)⟩
theorem Px(w:I):aC ai 14 #[.pointer none,(1:Int),(1:Int)] w (λv w'=>v=false/\w=w'):=by
 refine okF (aa.Bv none 1 1) ao.Bv func14 ?_;refine cc (λb w'=>b=false/\w=w') (λk a=>⟨λh=>(by cases h),λ_=>a _ _ ⟨rfl,rfl⟩⟩) ?_;rintro _ _ ⟨rfl,rfl⟩;exact⟨rfl,rfl⟩
structure Ai(w:I)(vs:O Y)(s:ae)(L:O UInt8)(n:Int):Prop where
 d:vs[39]? =some (.slice s.a s.len s.cap)
 t:vs[40]? =some (.int .u64 n)
 kJ:Src 1 w s (ax L)
 c:s.len<=s.cap
set_option maxRecDepth 100000 in
theorem Ai.of {v:Y} (h:nF ai w 40 v):∃ (vs:O Y) (s:ae) (L:O UInt8) (n:Int),v=.agg vs.toArray/\Ai w vs s L n:=by
 have hu:Tryz.prog.underlying 40=some (.struct (fieldsOf ai 40)):=by kernel_rfl
 unfold nF at h;rw[hu]at h;obtain⟨cs,rfl,fuel,h⟩:=h;obtain⟨_,f0⟩:=Ex h hu 3 (t:=31) (o:=39) (n:=1) (by kernel_rfl) (by kernel_rfl);obtain⟨_,f1⟩:=Ex h hu 4 (t:=22) (o:=40) (n:=1) (by kernel_rfl) (by kernel_rfl);obtain⟨d,a,jQ⟩:=IH f0 (e:=5) (by kernel_rfl);obtain⟨n,aG,_⟩:=Eg f1 (k:=.u64) (by kernel_rfl);obtain⟨L,b⟩:=ML jQ;have part:∀ {i:Nat}{u:Y},(cs.toList.drop i).take 1=[u]->cs.toList[i]? =some u:=λ{i u} h=>by
  have:=congrArg (λl=>l[0]?) h;simpa using this
 exact⟨cs.toList,d,L,n,by simp,part a,part aG,b,jQ.le⟩
set_option maxRecDepth 100000 in
theorem Py {v:Y} (h:nF ai w 24 v):∃e2 bt fh dn c7 c1:Int,v=.agg #[.int .u64 e2,bt,fh,dn,c7,c1]:=by
 obtain⟨cs,rfl,e⟩:=IV h (d:=(Tryz.prog.underlying 24).get (by kernel_rfl)) (ls:=[.int .u64,.int .i64,.int .i64,.int .i64,.int .i64,.int .i64]) (mc _).symm (by kernel_rfl) (by kernel_rfl) (by kernel_rfl);obtain⟨_,_,rfl,⟨a,rfl,_⟩,_,_,rfl,⟨b,rfl,_⟩,_,_,rfl,⟨c,rfl,_⟩,_,_,rfl,⟨d,rfl,_⟩,_,_,rfl,⟨f,rfl,_⟩,_,_,rfl,⟨g,rfl,_⟩,rfl⟩:=e;exact⟨a,b,c,d,f,g,rfl⟩
theorem hJ{b i:Nat}{vs:O Y}{u:Y}{kn:TypeId}(h:Var w b vs kn)(hi:vs[i]? =some u):w.cell? (Addr.add b i)=some u:=by
 rw[aw,cz];rw[h.cell,hi]
theorem Pz(e2 bt fh dn c7 c1:Int){vs:O Y}{L:O UInt8}{n:Int}(ar:Ai w vs s L n):aC ai 3 #[.agg #[.int .u64 e2,bt,fh,dn,c7,c1],.agg vs.toArray] w (λv w'=>v=true/\Ext w w'):=by
 refine okF (aa.yR e2 bt fh dn c7 c1 vs.toArray) ao.yR func3 ?_;(delta aa.yR aZ aE aR ad bn k_ fQ bH dJ dC oP gF r1 ah bh fq b4 bF w5 bC g7 gM;dsimp only);refine aN (vs:=mR e2 bt fh dn c7 c1) rfl λw1 K r _=>aN (vs:=vs) rfl λag u y _=>⟨s,hJ u ar.d,(MK ((ar.kJ.ext r).ext y) ar.c 50 (by decide)).use ?_⟩;rintro _ M ⟨z,rfl,_,A,_⟩;refine⟨z,rfl,(Pk z M).use ?_⟩;rintro _ aF ⟨rfl,B⟩;refine⟨0,fg,0,0,false,1,rfl,Ah (zs:=fo 0 fg 0 0 false 0) (us:=fo 0 fg 0 0 false 1) rfl nr λC N D=>⟨n,hJ (((u.ext A).ext B).ext D) ar.t,(Pp n C).use ?_⟩⟩;rintro _ _ ⟨rfl,rfl⟩;refine⟨_,_,_,rfl,bK.zero.c.toArray,by kernel_rfl,(Pq C).use ?_⟩;rintro _ aG ⟨rfl,E⟩;have o:=N.ext E;refine⟨_,_,rfl,0,o.cell,l4 false (λ_ k f=>⟨1,hJ o rfl,f _ (.refl _ _)⟩) λaH F=>l4 false (λ_ k f=>⟨fg,hJ (o.ext F) rfl,f _ (.refl _ _)⟩) λcC P=>l4 false (λ_ k f=>(Pr cC).use ?_) λQ R=>l4 false (λ_ k f=>(Ps Q).use ?_) λG T=>⟨λh=>absurd h (by decide),λ_=>(Pt G).use ?_⟩⟩
 .rintro _ _ ⟨rfl,rfl⟩
  exact⟨_,rfl,f _ (.refl _ _)⟩
 .rintro _ _ ⟨rfl,rfl⟩
  exact⟨fg,rfl,f _ (.refl _ _)⟩
 rintro _ _ ⟨rfl,rfl⟩;refine⟨_,rfl,l4 false (λ_ k f=>(Pu G).use ?_) λU V=>l4 false (λ_ k f=>(Pv U).use ?_) λW X=>l4 false (λ_ k f=>(Pw W).use ?_) λZ ac=>l4 false (λ_ k f=>(Px Z).use ?_) λae aj=>⟨λh=>absurd h (by decide),λ_=>(qx (most:=3) (b:=1) (by decide) (by decide) ae).use ?_⟩⟩
 .rintro _ _ ⟨rfl,rfl⟩
  exact⟨_,rfl,f _ (.refl _ _)⟩
 .rintro _ _ ⟨rfl,rfl⟩
  exact⟨_,rfl,f _ (.refl _ _)⟩
 .rintro _ _ ⟨rfl,rfl⟩
  exact⟨_,rfl,f _ (.refl _ _)⟩
 .rintro _ _ ⟨rfl,rfl⟩
  exact⟨_,rfl,f _ (.refl _ _)⟩
 rintro _ dt ⟨ab,d,S,rfl,a,_,_⟩;have m:=(((((((((((y.trans A).trans B).trans D).trans E).trans F).trans P).trans R).trans T).trans V).trans X).trans ac).trans aj;have m:=(m.trans a.s.x).trans (b1 dt);refine⟨_,_,_,rfl,aO ?_⟩;generalize dt.drew=ak at m;have g:=K.ext m;refine⟨λ_=>False,id,e2,g.cell,bt,hJ g rfl,fh,hJ g rfl,dn,hJ g rfl,c7,hJ g rfl,c1,hJ g rfl,(oT ak).use ?_⟩;rintro _ al ⟨bR,rfl,_,q,_⟩;refine⟨_,rfl,af.bL q,(m5 e2 bt fh dn c7 c1 bR.p ab al).use ?_⟩;rintro v am ⟨H,an⟩;obtain⟨p,e,rfl,ap,he⟩:∃ (p:aq av) (e:Int),v=.tuple #[.pointer p,e]/\(!(Option.isNone p))=nq bt dn c7 c1/\(e==0)=nq bt dn c7 c1:=by
  rcases an with ⟨hg,rfl⟩|⟨hg,_,_,_,_,_,_,_,_,_,rfl,_⟩
  .exact⟨none,1,rfl,by rw[hg];rfl,by rw[hg];rfl⟩
  .exact⟨_,0,rfl,by rw[hg];rfl,by rw[hg];rfl⟩
 have i:=(g.ext q).ext H;refine⟨_,_,rfl,e2,i.cell,bt,hJ i rfl,fh,hJ i rfl,dn,hJ i rfl,c7,hJ i rfl,c1,hJ i rfl,(O5 e2 bt fh dn c7 c1 _ am).use ?_⟩;rintro _ au ⟨I,rfl⟩;have j:=i.ext I;refine⟨_,_,rfl,il true (λ_ k f=>⟨e2,j.cell,bt,hJ j rfl,fh,hJ j rfl,dn,hJ j rfl,c7,hJ j rfl,c1,hJ j rfl,(qs e2 bt fh dn c7 c1 au).use ?_⟩) λaw J=>?_⟩
 .rintro _ aI ⟨rfl,ax⟩
  exact⟨_,rfl,by rw[ap,beq_self_eq_true];exact f _ ax⟩
 have l:=j.ext J;refine il true (λ_ k f=>⟨e2,l.cell,bt,hJ l rfl,fh,hJ l rfl,dn,hJ l rfl,c7,hJ l rfl,c1,hJ l rfl,(qs e2 bt fh dn c7 c1 aw).use ?_⟩) λay az=>il true (λ_ k f=>(Po ay).use ?_) λaJ aA=>⟨rfl,?_⟩
 .rintro _ aK ⟨rfl,aB⟩
  exact⟨_,rfl,by rw[he,beq_self_eq_true];exact f _ aB⟩
 .rintro _ aL ⟨rfl,aD⟩
  exact⟨_,rfl,f _ aD⟩
 exact((((((r.trans m).trans q).trans H).trans I).trans J).trans az).trans aA
end
end Go.Proofs.YtbjddgakboindaaGreat
