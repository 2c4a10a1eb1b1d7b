/- Contracts of the functions that the statement reaches, and the plain laws over them; each theorem stands with its conditions. -/
import Derived.Test.YtcmgnhkpfllinaaGreatBSFew4
namespace Go.Proofs.YtcmgnhkpfllinaaGreat
open Go aQ Go.Proofs.Tryz
def CZ(T:aK)(aO:O Nat)(dG:O aM)(w:J)(v:aa)(w':J):Prop:=
 ∃ar:aK,b8 w' ar/\bO T ar w w' 100/\ar.E=T.E/\ar.G=T.G/\
  ((v=.int .i64 2/\cg T<2*T.aL+3/\ar=T)\/
   (v=.int .i64 0/\2*T.aL+3<=cg T/\(∃pages,cg T<=cg ar+(2*T.aL+3)/\gD ar pages dG/\pages.Nodup/\(∀no∈pages,no∈aO\/(T.f no||T.g no)=false)/\∀no,ar.f no=true↔(no∈pages\/(T.f no=true/\no∉aO)))/\∀no,T.g no=true->ar.P no=T.P no/\ar.C.view no=T.C.view no)\/
   (v=.int .i64 3/\¬T.C.D.calm 100/\ar.root=T.root/\ar.aL=T.aL/\ar.f=T.f/\∀no,(T.f no||T.g no)=true->ar.P no=T.P no/\ar.C.view no=T.C.view no))
theorem wu.ah{T:aK}{aI:b2}{aO:O Nat}{dG:O aM}{w w1 w':J}{v:aa}{k:Nat}(h:wu (T.bx aI T.P) aO dG w1 v w')(e:bO T (T.bx aI T.P) w w1 k)(r:k<=40)(f:∀j,aI.view j=T.C.view j)(i:2*T.aL+3<=cg T):CZ T aO dG w v w':=by
 obtain⟨ar,h1,h2,l,m,n⟩:=h;refine⟨ar,h1,(e.trans h2).mono I,l,m,?_⟩;have o:cg (T.bx aI T.P)=cg T:=rfl;have p:(T.bx aI T.P).aL=T.aL:=rfl;rcases n with ⟨_,b,_⟩|⟨rfl,b,d,c⟩|⟨rfl,b,d,c,q,g⟩
 .rw[o,p]at b;omega
 .exact .inr (.inl ⟨rfl,i,d,λno a=>⟨(c no a).1,(c no a).2.trans (f no)⟩⟩)
 .exact .inr (.inr ⟨rfl,λhc=>b (e.calm 60 (gf hc I)),d,c,q,λno a=>⟨(g no a).1,(g no a).2.trans (f no)⟩⟩)
theorem nj(w:J)(s:ad):aJ aj 122 #[s] w (λv w'=>v=.bool (decide (1<=s.len/\s.len<=24))/\w=w'):=by
 refine okF (ae.nj s) ax.nj func122 ?_;unfold ae.nj;refine⟨?_,rfl⟩
 congr 1
 rw[fC,c7,cq,cq,cq];omega
theorem y8{T:aK}{w:J}{pages:O Nat}{L:O aM}{k:Key}(h:b8 w T)(l:gD T pages L):∃steps,nL T.P k T.aL T.root steps/\
 ((steps=[]/\T.aL=0/\pages=[]/\L=[])\/(∃ (a:Nat) (cc:aD) (e7 dN:av Key) (b:O (Nat×aD×Nat)) (f:O Nat) (c d:O aM),steps=b++ [(a,cc,0)]/\Ctx T.P k T.aL 1 e7 dN b f c d/\T.P a=some cc/\gN cc/\cc.within e7 dN/\cc.keys≠ []/\(b≠ []->2<=cc.keys.length)/\fo e7 dN k/\
   pages.Perm (a::f)/\L=c++(cc.dy++d)/\∀u,Loc k u->u L=c++(u cc.dy++d))):=by
 rcases l with ⟨h1,h2,m,n⟩|g
 .exact⟨[],by rw[h1];rfl,.inl ⟨rfl,h1,m,n⟩⟩
 .cases i:T.aL with
  |zero=>rw[i]at g;exact g.elim
  |succ t=>
   rw[i]at g;obtain⟨rest,b,a,cc,e7,dN,f,c,d,r1,aF,cr,aT,dm,o,p,q,r,j,s,v⟩:=Ctx.down (P:=T.P) (k:=k) (top:=t+1) (bN:=L) .top g (λh=>absurd rfl h) ⟨λ_ e=>(by cases e),λ_ e=>(by cases e)⟩ (by simp) (λu _=>by simp);rw[hU]at aF;rw[fu]at j;exact⟨rest,r1,.inr ⟨a,cc,e7,dN,b,f,c,d,aF,cr,aT,dm,o,p,q,r,j,s,v⟩⟩
theorem gD.low{T:aK}{pages:O Nat}{L:O aM}(h:gD T pages L)(cS:L.length<4096):T.aL<12/\pages.length<=L.length:=by
 rcases h with ⟨h1,_,a,_⟩|b
 .rw[h1,a];exact⟨I,cL _⟩
 .obtain⟨aw,ay,c⟩:=b.pages
  refine⟨?_,aw⟩;rcases ec T.aL 12 with h|h
  .exact h
  .have d:=c I
   have e:2^12<=2^T.aL:=s9 (by decide) h;have f:(2:Nat)^12=4096:=by decide
   omega
theorem C0{w1:J}{T:aK}{aI:b2}{pages:O Nat}{L dG:O aM}{k:Key}{steps:O (Nat×aD×Nat)}{s:ad}{a:O dr}{cc b:aD}{K V D:ad}(h:b8 w1 (T.bx aI T.P))(H:¬aI.D.ro)(N:gD T pages L)(cS:L.length<4096)(eg:pages.Nodup)(hf:∀x∈pages,T.f x=true)(m:aI.D.a6<=900000000)
 (g:a.map dr.st=steps) (o:km (λq=>¬(T.bx aI T.P).M q) w1 s a) (Q:bQ (λq=>¬(T.bx aI T.P).M q) w1 b K V D) (p:gN b) (R:(steps=[]/\T.aL=0/\pages=[]/\b.keys≠ []/\bz b<=232/\b.dy=dG)\/(∃ (d:Nat) (e7 dN:av Key) (c:O (Nat×aD×Nat)) (i:O Nat) (j l:O aM),steps=c++ [(d,cc,0)]/\Ctx T.P k T.aL 1 e7 dN c i j l/\b.within e7 dN/\(c≠ []->b.keys≠ [])/\pages.Perm (d::i)/\dG=j++(b.dy++l)/\bz b<=282)):
 aJ aj 131 #[.pointer (some T.bg),s,db b K V D] w1 (wu (T.bx aI T.P) pages dG w1):=by
 obtain⟨r,ak⟩:=N.low cS;refine Iv h H m r eg hf I λbM t ai a_ u v S w y=>?_;have U:s.len=a.length:=by
  have:=o.own.1;rw[fA _ (nK a)]at this;omega
 have z:bQ (λq=>¬((T.bx aI T.P).cu bM t).M q) ai b K V D:=(v.b_ (lo:=0) (Q.a7 λq _ n=>⟨cL _,n⟩)).a7 λq _ n=>n.2;rcases R with ⟨h1,h2,W,X,Y,Z⟩|⟨d,e7,dN,c,i,j,l,C,E,aa,ab,F,ac,ae⟩
 .subst h1 W
  have af:a=[]:=by simpa using g
  exact It (by rw[U,af];rfl) u z m (by
   have e:cg ((T.bx aI T.P).cu bM t)=cg (T.bx aI T.P):=rfl;omega) (by rw[w];simp) y p X Y Z
 .have hlen:a.length=c.length+1:=by
   have:=congrArg List.length g;rw[C,di,cp,iG]at this;exact this
  have al:1+c.length=T.aL:=E.eH;have ag:=o.to v;have G:(a.take (a.length-1)).map dr.st=c/\(a[a.length-1]'I).no=d:=by
   rw[C]at g;have aw:(a.take (a.length-1)).map dr.st=(c++ [(d,cc,0)]).take (a.length-1):=by rw[←g,l0]
   refine⟨by rw[aw];exact mw I,?_⟩;have ay:(a.map dr.st)[a.length-1]? =some (d,cc,0):=by
    rw[g,iH I];have:a.length-1-c.length=0:=by omega
    rw[this];rfl
   rw[nW,dC I]at ay;have ah:=Option.some.inj ay;exact congrArg Prod.fst ah
  refine Is (k:=k) (cU:=i) (A:=j) (B:=l) (M:=b.dy) (lo:=e7) (hi:=dN) u ag z I (by show a.length=T.aL;omega) r m S (by rw[w];simp) (by rw[y];simp) ?_ ⟨p,aa,rfl,rfl⟩ ac.symm ?_ ae (λh=>ab λe=>?_) λx hx=>?_
  .rw[G.1]
   have:a.length=T.aL:=by omega
   rw[this];exact E
  .rw[G.2];exact F
  .rw[e]at hlen;simp at hlen;omega
  .exact hf x (F.mem_iff.2 (jv _ hx))
theorem km.ext'{B C:Nat->Prop}{w w':J}{s:ad}{l:O dr}(h:km B w s l)(hx:Ext w w')(a:∀q,B q->C q):km C w' s l:=
 ⟨h.own.ext hx,λq b=>a q (h.pk q b),λx c=>((h.b_ x c).ext hx).a7 λq _ d=>a q d⟩
theorem q5{a:O dr}{b:O (Nat×aD×Nat)}{c:Nat}{bA:aD}(d:a.map dr.st=b++ [(c,bA,0)]):∃h:0<a.length,(a[a.length-1]'I).n=bA:=by
 have hlen:a.length=b.length+1:=by
  have:=congrArg List.length d;rw[di,cp,iG]at this;exact this
 refine⟨I,?_⟩;have ay:(a.map dr.st)[a.length-1]? =some (c,bA,0):=by
  rw[d,iH I];have:a.length-1-b.length=0:=by omega
  rw[this];rfl
 rw[nW,dC I]at ay;exact congrArg (λx=>x.2.1) (Option.some.inj ay)
theorem Ix{w:J}{T:aK}{pages:O Nat}{L:O aM}{tk cQ:ad}{key val:Key}(h:b8 w T)(a3:¬T.C.D.ro)(H:gD T pages L)(cS:L.length<4096)(eg:pages.Nodup)(hf:∀x∈pages,T.f x=true)(bW:T.C.D.a6<=800000000)
 (Q:Src 1 w tk (az key)) (R:∀q,aB tk q->q<w.heap.size/\¬T.M q) (an:Src 1 w cQ (az val)) (a4:∀q,aB cQ q->q<w.heap.size/\¬T.M q):
 aJ aj 73 #[.pointer (some T.bg),tk,cQ] w (λv w'=>(v=.int .i64 1/\¬(cv key/\val.length<=24)/\w=w')\/(cv key/\val.length<=24/\CZ T pages (gm L key val) w v w')):=by
 have a5:=len8 Q;have ao:=len8 an;refine okF (ae.uI (some T.bg) tk cQ) ax.uI func73 ?_;(delta ae.uI ak b6 aF bY aq ey z4 Y aT r1 ov lD;dsimp only);refine cA (λb w'=>b= !(decide (cv key))/\w=w') (λq c=>⟨λh=>(by cases h),λ_=>(nj w tk).use ?_⟩) ?_
 .rintro _ _ ⟨rfl,rfl⟩
  refine⟨_,rfl,c _ _ ⟨?_,rfl⟩⟩;unfold cv;rw[a5]
 rintro _ _ ⟨rfl,rfl⟩;refine⟨λd=>.inl ⟨rfl,λhg=>?_,rfl⟩,λd=>?_⟩
 .rw[dI hg.1,ao]at d
  have:¬(val.length:Int)>24:=by have:=hg.2;omega
  simp[this]at d
 have hg:cv key/\val.length<=24:=by
  by_cases h1:cv key
  .refine⟨h1,?_⟩
   rw[dI h1,ao]at d;have:¬(val.length:Int)>24:=by simpa using d
   omega
  .rw[ih h1]at d;simp at d
 have bX:=h.s.bA;obtain⟨bZ,b0⟩:=H.low cS;have ap:Ext w w.drew:=cG w;have hd:=h.ext ap;refine aX ⟨λ_=>False,_,rfl,id,_,hd.cells.2.1,_,rfl,id,_,hd.cells.2.2.2.2,(yQ hd.s).use ?_⟩;rintro _ b1 ⟨rfl,av⟩;have a9:((T.n:Int)-eQ (λi=>T.f i||T.g i) T.n)=(cg T:Nat):=by
  have:=nH (λi=>T.f i||T.g i) T.n;unfold cg;omega
 have ba:IntKind.wrap .i64 (IntKind.wrap .i64 (2*(T.aL:Int))+3)=((2*T.aL+3:Nat):Int):=by
  rw[bn (n:=2*(T.aL:Int)) I I,bn I I];omega
 rw[a9,ba];have o:=ap.trans av;have S:=h.ext o;refine⟨_,rfl,av,λd=>.inr ⟨hg.1,hg.2,T,S,(bO.ext T o).mono I,rfl,rfl,.inl ⟨rfl,?_,rfl⟩⟩,λd=>?_⟩
 .have d:((cg T:Nat):Int)<((2*T.aL+3:Nat):Int):=cj d
  omega
 have bb:2*T.aL+3<=cg T:=by
  have:¬((cg T:Nat):Int)<((2*T.aL+3:Nat):Int):=cH d;omega
 obtain⟨steps,aA,aC⟩:=y8 (k:=key) S H;refine(yZ S I (Q.ext o) (λq c=>⟨fa (R q c).1 o.size,(R q c).2⟩) aA).use ?_;rintro _ z ⟨aI,U,W,aE,bc⟩;have u:=((bO.ext T o).trans W).mono (l:=2*T.aL) I;rcases bc with ⟨s,a,rfl,m,X⟩|⟨rfl,be⟩
 rotate_left
 .refine⟨⟨none,0,0⟩,3,rfl,λ_=>.inr ⟨hg.1,hg.2,T.bx aI T.P,U,u.mono I,rfl,rfl,.inr (.inr ⟨rfl,λhc=>be (gf hc I),rfl,rfl,rfl,λno _=>⟨rfl,aE no⟩⟩)⟩,λhx=>(by cases hx)⟩
 have b2:s.len=a.length:=by
  have:=X.own.1;rw[fA _ (nK a)]at this;omega
 have b3:=o.size;have b4:a.length=T.aL:=by
  have:=aA.length;rw[←m,di]at this;exact this
 refine⟨s,0,rfl,λhx=>(by cases hx),λ_=>a8 (vs:=[false,(),(),()]) rfl λb5 aG bf b9=>⟨aG.cl rfl (fG (b:=true) (K:=bH) (V:=bH) (D:=bH)),rfl,cP aG (us:=dT ⟨true,[],[],[]⟩ bH bH bH) rfl rfl λbi E bj ca=>?_⟩⟩;have Z:Ext z bi:=Ext.cy bf bj (bl _);obtain⟨gW,bm⟩:∃gW,gW=z.heap.size:=⟨_,rfl⟩;rw[←bm]at E⊢
 obtain⟨cc,j⟩:∃cc:aD,cc=(if cb:0<a.length then (a[a.length-1]'I).n else ⟨true,[],[],[]⟩):=⟨_,rfl⟩;refine k2 (λp=>∃ (K V D:ad) (B:Nat->Prop),Ext z p/\Var p gW (dT cc K V D) 169/\bQ B p cc K V D) (λq c=>⟨λaa=>?_,λaa=>?_⟩) ?_
 .have ab:0<a.length:=by
   have:(s.len:Int)>0:=cj aa;omega
  rw[dif_pos ab]at j;have e:IntKind.wrap .i64 ((s.len:Int)-1)=((a.length-1:Nat):Int):=by rw[bn I I];omega
  obtain⟨A,au,_,_,_,hu⟩:=X.at (i:=a.length-1) I;have F:=hu.ext Z;rw[e,dg];subst j;refine⟨A,au,⟨I,I⟩,_,F.aU,_,F.a_,_,F.bd,_,F.fF,E.cl rfl fG,rfl,cP E (us:=dT (a[a.length-1]'I).n (a[a.length-1]'I).K (a[a.length-1]'I).V (a[a.length-1]'I).D) rfl rfl λbo bp bq cd=>?_⟩;have aH:Ext z bo:=Ext.cy Z bq I;exact c _ ⟨_,_,_,_,aH,bp,hu.b_.ext aH⟩
 .have ab:¬0<a.length:=by
   have:¬(s.len:Int)>0:=cH aa;omega
  rw[dif_neg ab]at j;subst j;exact c _ ⟨bH,bH,bH,λ_=>True,Z,E,bG.none _ _,bG.none _ _,cY.none _ _⟩
 rintro p ⟨K,V,D,B,G,br,bs⟩;have ce:=G.size;have cf:=W.ah.size
 have bt:gN cc/\bz cc<=232:=by
  rcases aC with ⟨h1,h2,r,t⟩|⟨aN,bA,e7,dN,aO,aP,aQ,aR,aF,cr,aT,dm,aS,bu,bv,aV,aW,bw,aY⟩
  .have ac:¬0<a.length:=by
    rw[h1]at m;have:a=[]:=by simpa using m
    rw[this];simp
   rw[j,dif_neg ac];exact⟨⟨⟨λ_ h=>(by cases h),List.Pairwise.nil⟩,rfl,rfl,rfl,λ_ h=>(by cases h)⟩,by decide⟩
  .rw[aF]at m
   obtain⟨aw,ay⟩:=q5 m;rw[j,dif_pos aw,ay];exact⟨dm,h.po _ _ aT⟩
 obtain⟨af,ch⟩:=bt;have ci:=(cC.eT (.inl af) I);have ck:∀q,T.N q->q<w.heap.size:=λq c=>h.lt (aK.gB c);have bB:Src 1 p tk (az key):=(Q.ah u.ah λq c ag=>(R q c).2 (aK.gB ag)).ext G;have bC:Src 1 p cQ (az val):=(an.ah u.ah λq c ag=>(a4 q c).2 (aK.gB ag)).ext G;obtain⟨d0,d1,d2,d3⟩:=bJ br;refine⟨_,d0,K,d1,V,d2,D,d3,(qs bs af I bB bC hg.1 hg.2).use ?_⟩;rintro _ bD ⟨dA,dV,c1,rfl,bE,bF⟩;refine⟨_,dA,dV,c1,true,rfl,a8 (vs:=[false,(),(),()]) rfl λcm aZ bI cn=>⟨aZ.cl rfl fG,rfl,cP aZ (us:=dT (gV cc key val) dA dV c1) rfl rfl λa0 bK bL co=>⟨λhx=>(by cases hx),λ_=>?_⟩⟩⟩;have a1:Ext bD a0:=Ext.cy bI bL (bl _);have ai:=(G.trans bF).trans a1;obtain⟨d0,d1,d2,d3⟩:=bJ bK;obtain⟨bk,bh,bM,al,bN,a2⟩:=Iw af hg.1 hg.2;have bP:aI.D.a6<=900000000:=by
  have:aI.D.a6<=T.C.D.a6+2*T.aL:=u.a6;omega
 have bR:bQ (λq=>¬(T.bx aI T.P).M q) a0 (gV cc key val) dA dV c1:=(bE.ext a1).a7 λq _ c bS=>by have:=U.lt bS;omega
 have bT:=C0 (dG:=gm L key val) (k:=key) (steps:=steps) (cc:=cc) (U.ext ai) (λe=>a3 λi=>W.b7.1▸e i) H cS eg hf bP m (X.ext' ai λq c=>c.2) bR bk (by
  rcases aC with ⟨h1,h2,r,t⟩|⟨aN,bA,e7,dN,aO,aP,aQ,aR,aF,cr,aT,dm,aS,bu,bv,aV,aW,bw,aY⟩
  .have ac:¬0<a.length:=by omega
   rw[dif_neg ac]at j;refine .inl ⟨h1,h2,r,al,?_,?_⟩
   .have:bz cc=1:=by rw[j];rfl
    omega
   .rw[bh,j,t];rfl
  .rw[aF]at m
   obtain⟨aw,ay⟩:=q5 m;rw[dif_pos aw,ay]at j;rw[j]at bh bM al bN a2⊢;refine .inr ⟨aN,e7,dN,aO,aP,aQ,aR,aF,cr,λs hs=>?_,λ_=>al,aW,?_,by have:=h.po _ _ aT;omega⟩
   .rcases a2 s hs with rfl|am
    .exact aV
    .exact aS s am
   .rw[bh];exact aY (λL=>gm L key val) (Ge key val))
 refine⟨_,d0,dA,d1,dV,d2,c1,d3,bT.use ?_⟩;intro v w' bU;have bV:=bU.ah (w:=w) ((u.trans (bO.ext (T.bx aI T.P) ai)).mono (l:=40) I) (bl _) aE bb;obtain⟨ar,h1,h2,r,t,am⟩:=bV;rcases am with ⟨rfl,y⟩|⟨rfl,y⟩|⟨rfl,y⟩
 .exact⟨2,rfl,.inr ⟨hg.1,hg.2,ar,h1,h2,r,t,.inl ⟨rfl,y⟩⟩⟩
 .exact⟨0,rfl,.inr ⟨hg.1,hg.2,ar,h1,h2,r,t,.inr (.inl ⟨rfl,y⟩)⟩⟩
 .exact⟨3,rfl,.inr ⟨hg.1,hg.2,ar,h1,h2,r,t,.inr (.inr ⟨rfl,y⟩)⟩⟩
theorem C1{l:O aM}{k:Key}(h:(eO l k).length=l.length):∀p∈l,p.1≠k:=by
 intro p a;unfold eO at h;have:=(ie (p:=λp:aM=>decide (p.1≠k))).1 (List.Sublist.eq_of_length List.filter_sublist h);exact cj (this p a)
theorem C2{L A B M:O aM}{k:Key}(cS:L=A++(M++B))(hu:eO L k=A++(eO M k++B)):eY L k=eY M k:=by
 have h1:(eO A k).length<=A.length:=mY _ _;have h2:(eO B k).length<=B.length:=mY _ _;have b:=congrArg List.length hu;rw[cS,ss,ss]at b;simp only[cp]at b;have au:=C1 (l:=A) (k:=k) I;have c:=C1 (l:=B) (k:=k) I;have d:A.find? (λp=>decide (p.1=k))=none:=jZ.2 λp a=>by simpa using au p a
 have e:B.find? (λp=>decide (p.1=k))=none:=jZ.2 λp a=>by simpa using c p a
 unfold eY;rw[cS,List.find?_append,List.find?_append,d,e];simp
theorem C3{n:aD}{k:Key}(h:gN n):eY n.dy k=if gU n.keys k then n.vals[cF n.keys k]? else none:=by
 have s:=qJ n.keys k;have w:=h.eU;have t:∀ (j:Nat) (f:j<n.keys.length),j<cF n.keys k->bo n.keys[j] k:=λj f h1=>o3 h1 f;have u:n.keys[cF n.keys k]? ≠some k->∀ (j:Nat) (f:j<n.keys.length),cF n.keys k<=j->bo k n.keys[j]:=λhe j f h1=>CY w h1 f he;have l:n.dy=n.keys.zip n.vals:=rfl;unfold gU;rw[l];generalize cF n.keys k=i at s t u⊢;obtain⟨a,b,c,d,g,v,z,A,B,H,J,K,L⟩:=y7 h s;have C:n.keys.zip n.vals=a.zip c++b.zip d:=by rw[g,v];exact o2 I
 have D:(a.zip c).find? (λp:aM=>decide (p.1=k))=none:=jZ.2 λp l=>by
  have q:=(rk l).1;obtain⟨j,f,r⟩:=fj q;have h1:=t j (by rw[g,cp];omega) I;simp only[g,nX f,r]at h1;simpa using nv h1
 unfold eY;rw[C,List.find?_append,D];by_cases he:n.keys[i]? =some k
 .rw[if_pos (by simpa using he)]
  have E:∃m,b=k::m:=by
   cases b with
   |nil=>rw[g,iH I]at he;simp at he
   |cons y m=>
    rw[g,iH I,z,nQ]at he;simp at he;exact⟨m,by rw[he]⟩
  obtain⟨m,rfl⟩:=E;obtain⟨x,o,rfl⟩:∃x o,d=x::o:=by
   cases d with
   |nil=>simp at B
   |cons x o=>exact⟨x,o,rfl⟩
  rw[v,iH I,A,nQ];simp
 .rw[if_neg (by simpa using he)]
  have F:=u he;have G:(b.zip d).find? (λp:aM=>decide (p.1=k))=none:=jZ.2 λp l=>by
   have q:=(rk l).1;obtain⟨j,f,r⟩:=fj q;have h1:=F (i+j) (by rw[g,cp];omega) I;have e:(a++b)[i+j]'(by rw[cp];omega)=b[j]:=by
    rw[pD I];congr 1;omega
   simp only[g,e,r]at h1;have:=nv h1;simpa using λh=>this h.symm
  rw[G];rfl
def y9(T:aK)(L:O aM)(key:Key)(w:J)(v:aa)(w':J):Prop:=
 ∃aI:b2,b8 w' (T.bx aI T.P)/\bO T (T.bx aI T.P) w w' 30/\(∀j,aI.view j=T.C.view j)/\
  ((v=.tuple #[(),false,(0:Int)]/\(cv key->eY L key=none))\/
   (∃ (t:ad) (x:Key),v=.tuple #[t,true,(0:Int)]/\cv key/\eY L key=some x/\bq (λq=>¬(T.bx aI T.P).M q) w' t x)\/
   (v=.tuple #[(),false,(3:Int)]/\cv key/\¬T.C.D.calm 30))
theorem y_{w:J}{T:aK}{pages:O Nat}{L:O aM}{tk:ad}{key:Key}(h:b8 w T)(S:gD T pages L)(aO:T.C.D.a6<=800000000)(l:Src 1 w tk (az key))(v:∀q,aB tk q->q<w.heap.size/\¬T.M q):
 aJ aj 64 #[.pointer (some T.bg),tk] w (y9 T L key w):=by
 have U:=len8 l;have aQ:=h.num.2.1;have aR:T.bx T.C T.P=T:=rfl;refine okF (ae.uE (some T.bg) tk) ax.uE func64 ?_;(delta ae.uE ak b6 ey aq aT r1 z4 Y kF aP;dsimp only);refine cA (λb w'=>b= !(decide (cv key))/\w=w') (λq m=>⟨λh=>(by cases h),λ_=>(nj w tk).use ?_⟩) ?_
 .rintro _ _ ⟨rfl,rfl⟩
  refine⟨_,rfl,m _ _ ⟨?_,rfl⟩⟩;unfold cv;rw[U]
 rintro _ _ ⟨rfl,rfl⟩;refine⟨λf=>⟨λh=>(by cases h),λ_=>?_⟩,λf=>?_⟩
 .have:¬cv key:=by simpa using f
  exact⟨T.C,h,(bO.refl T w).mono I,λ_=>rfl,.inl ⟨rfl,λhx=>absurd hx this⟩⟩
 have hg:cv key:=by simpa using f
 obtain⟨steps,x,y⟩:=y8 (k:=key) h S;refine(yZ h I l v x).use ?_;rintro _ W ⟨aI,n,g,j,X⟩;rcases X with ⟨s,a,rfl,d,z⟩|⟨rfl,Z⟩
 rotate_left
 .exact⟨⟨none,0,0⟩,3,rfl,λ_=>⟨aI,n,g.mono I,j,.inr (.inr ⟨rfl,hg,λhc=>Z (gf hc I)⟩)⟩,λhx=>(by simp at hx)⟩
 have aS:s.len=a.length:=by
  have:=z.own.1;rw[fA _ (nK a)]at this;omega
 have aV:a.length=T.aL:=by
  have:=x.length;rw[←d,di]at this;exact this
 refine⟨s,0,rfl,λhx=>⟨aI,n,g.mono I,j,.inl ⟨rfl,λ_=>?_⟩⟩,λhx=>?_⟩
 .have aa:a.length=0:=by
   have:(s.len:Int)=0:=by simpa using hx
   omega
  rcases y with ⟨_,_,_,ab⟩|⟨ac,bA,e7,dN,af,ag,ai,al,aF,_⟩
  .rw[ab];rfl
  .rw[aF]at d
   obtain⟨aw,_⟩:=q5 d;omega
 have aa:0<a.length:=by
  have:¬(s.len:Int)=0:=by simpa using hx
  omega
 have e:IntKind.wrap .i64 ((s.len:Int)-1)=((a.length-1:Nat):Int):=by rw[bn I I];omega
 obtain⟨A,au,_,_,_,hu⟩:=z.at (i:=a.length-1) I;rcases y with ⟨h1,_⟩|⟨ac,bA,e7,dN,af,ag,ai,al,aF,cr,aT,dm,aW,aX,aY,aZ,a0,am,an⟩
 .rw[h1]at d
  have:=congrArg List.length d;simp at this;omega
 have B:=d;rw[aF]at B;obtain⟨aw,ay⟩:=q5 B;rw[e,dg];generalize a1:(a[a.length-1]'I)=u at hu ay;obtain⟨a2,un,a3,K,V,D⟩:=u;obtain rfl:un=bA:=ay;refine⟨A,au,⟨I,I⟩,_,hu.aU,K,hu.a_,V,hu.bd,D,hu.fF,a8 (vs:=[false,(),(),()]) rfl λa4 E ao a5=>⟨E.cl rfl fG,rfl,cP E (us:=dT un K V D) rfl rfl λo F ap a9=>?_⟩⟩;have p:Ext W o:=Ext.cy ao ap (bl _);obtain⟨d0,d1,d2,d3⟩:=bJ F;have ba:=(cC.eT (.inl dm) (by have:=h.po _ _ aT;omega));have ar:Src 1 o tk (az key):=(l.ah g.ah λq m av=>(v q m).2 (aK.gB av)).ext p;have G:bQ (λq=>w.heap.size<=q/\¬(T.bx aI T.P).M q) o un K V D:=hu.b_.ext p;refine⟨_,d0,K,d1,V,d2,D,d3,(qo G ar dm.eU I).use ?_⟩;rintro _ aA ⟨rfl,r⟩;have H:=p.trans r;have N:=n.ext H;have Q:bO T (T.bx aI T.P) w aA 30:=(g.trans (bO.ext _ H)).mono I;have t:eY L key=eY un.dy key:=C2 am (an (λL=>eO L key) (x6 key));rw[C3 dm]at t;refine⟨_,_,rfl,λc=>⟨aI,N,Q,j,.inl ⟨rfl,λ_=>?_⟩⟩,λc=>?_⟩
 .have c:gU un.keys key=false:=by simpa using c
  rw[t,if_neg (by rw[c];simp)]
 .have c:gU un.keys key=true:=by simpa using c
  have aC:cF un.keys key<un.keys.length:=(ju.1 (cj c)).1;have R:cF un.keys key<un.vals.length:=by rw[dm.len];exact aC
  obtain⟨f0,f1,f2,f3⟩:=bJ (F.ext r);obtain⟨aD,cQ,aE,aG,aH,aN,_⟩:=bG.at (G.ext r).vals R;refine⟨V,f2,aD,aE,aG,cQ,aH,aI,N,Q,j,.inr (.inl ⟨cQ,un.vals[cF un.keys key],rfl,hg,?_,bq.a7 aN λq _ f=>f.2⟩)⟩;rw[t,if_pos c,dC R]
theorem Iy{n:aD}{k:Key}(h:gN n)(w:gU n.keys k=true):gN (lM n k)/\(lM n k).dy=eO n.dy k/\bz (lM n k)<=bz n/\n.keys.length=(lM n k).keys.length+1/\(∀s∈(lM n k).keys,s∈n.keys):=by
 have o:=qJ n.keys k;have A:=h.eU;have l:n.dy=n.keys.zip n.vals:=rfl;have he:n.keys[cF n.keys k]? =some k:=cj w;rw[l];unfold lM;generalize cF n.keys k=i at o he⊢;obtain⟨a,b,c,d,j,m,q,B,r,C,H,D,J⟩:=y7 h o;have g:n.keys.zip n.vals=a.zip c++b.zip d:=by rw[j,m];exact o2 I
 have E:∃e,b=k::e:=by
  cases b with
  |nil=>rw[j,iH I]at he;simp at he
  |cons y e=>
   rw[j,iH I,q,nQ]at he;simp at he;exact⟨e,by rw[he]⟩
 obtain⟨e,rfl⟩:=E;obtain⟨x,f,rfl⟩:∃x f,d=x::f:=by
  cases d with
  |nil=>simp at r
  |cons x f=>exact⟨x,f,rfl⟩
 have aw:n.keys.drop (i+1)=e:=by rw[j,show a++k::e=(a++ [k])++e by simp];exact drop_left' (by simp[q])
 have ay:n.vals.drop (i+1)=f:=by rw[m,show c++x::f=(c++ [x])++f by simp];exact drop_left' (by simp[B])
 rw[C,D,aw,ay];have F:(a++k::e).Pairwise bo:=by rw[←j];exact A
 obtain⟨hM,eo,t⟩:=l2.1 F;have u:=jw.1 eo;have v:∀z,z∈a++e->z∈n.keys:=λz g=>by
  rw[j];simp only[cK,cX]at g⊢;rcases g with h1|h1
  .exact .inl h1
  .exact .inr (.inr h1)
 refine⟨⟨⟨λz g=>h.ok z (v z g),l2.2 ⟨hM,u.2,λy G z g=>t y G z (jv _ g)⟩⟩,h.leaf,?_,h.kids,λz g=>h.vals z ?_⟩,?_,?_,?_,v⟩
 .show(c++f).length=(a++e).length
  simp only[cp,fY]at r⊢;omega
 .rw[m]
  have g:z∈c++f:=g;simp only[cK,cX]at g⊢;rcases g with h1|h1
  .exact .inl h1
  .exact .inr (.inr h1)
 .show(a++e).zip (c++f)=_
  rw[g,o2 I,ss,List.zip_cons_cons];have f1:eO (a.zip c) k=a.zip c:=su λp l=>nv (t _ (rk l).1 k pB);have f2:eO ((k,x)::e.zip f) k=e.zip f:=by
   have:eO ((k,x)::e.zip f) k=eO (e.zip f) k:=by unfold eO;simp
   rw[this];exact su λp l=>(nv (u.1 _ (rk l).1)).symm
  rw[f1,f2]
 .rw[q4 h.leaf,q4 (n:={n with keys:=a++e,vals:=c++f}) h.leaf]
  show 1+(List.zipWith kn (a++e) (c++f)).sum<=_;rw[j,m,pF I,pF I,lu,lu,List.zipWith_cons_cons,rl];omega
 .show n.keys.length=(a++e).length+1
  rw[j];simp only[cp,fY];omega
structure iU(T ar:aK):Prop where
 root:ar.root=T.root
 aL:ar.aL=T.aL
 f:ar.f=T.f
 ew:∀no,(T.f no||T.g no)=true->ar.P no=T.P no/\ar.C.view no=T.C.view no
theorem iU.refl(T:aK):iU T T:=⟨rfl,rfl,rfl,λ_ _=>⟨rfl,rfl⟩⟩
theorem iU.bx{T:aK}{aI:b2}(a:∀j,aI.view j=T.C.view j):iU T (T.bx aI T.P):=⟨rfl,rfl,rfl,λno _=>⟨rfl,a no⟩⟩
theorem iU.trans{T ar a:aK}(h1:iU T ar)(h2:iU ar a)(hg:ar.g=T.g):iU T a:=
 ⟨h2.root.trans h1.root,h2.aL.trans h1.aL,h2.f.trans h1.f,λno h=>by
  have b:=h1.ew no h
  have c:=h2.ew no (by rw[h1.f,hg];exact h)
  exact⟨c.1.trans b.1,c.2.trans b.2⟩⟩
structure C4(T ar:aK)(aO:O Nat)(dG:O aM):Prop where
 ok:∃pages,cg T<=cg ar+(2*T.aL+3)/\gD ar pages dG/\pages.Nodup/\(∀no∈pages,no∈aO\/(T.f no||T.g no)=false)/\∀no,ar.f no=true↔(no∈pages\/(T.f no=true/\no∉aO))
 ew:∀no,T.g no=true->ar.P no=T.P no/\ar.C.view no=T.C.view no
theorem iU.ok{T ar:aK}{pages:O Nat}{L:O aM}(h:iU T ar)(a:gD T pages L)(hf:∀x∈pages,T.f x=true):gD ar pages L:=by
 unfold gD at a⊢;rw[h.root,h.aL];rcases a with a|b
 .exact .inl a
 .exact .inr (eL.agree b λx hx=>(h.ew x (by rw[hf x hx];rfl)).1.symm).1
def Iz(T:aK)(aO:O Nat)(L:O aM)(key:Key)(w:J)(v:aa)(w':J):Prop:=
 ∃ar:aK,b8 w' ar/\bO T ar w w' 100/\ar.E=T.E/\ar.G=T.G/\
  ((v=.tuple #[false,(1:Int)]/\¬cv key/\iU T ar)\/
   (v=.tuple #[false,(0:Int)]/\cv key/\eY L key=none/\iU T ar)\/
   (v=.tuple #[false,(2:Int)]/\cv key/\eY L key≠none/\cg T<2*T.aL+3/\iU T ar)\/
   (v=.tuple #[true,(0:Int)]/\cv key/\eY L key≠none/\2*T.aL+3<=cg T/\C4 T ar aO (eO L key))\/
   (v=.tuple #[false,(3:Int)]/\cv key/\¬T.C.D.calm 100/\iU T ar))
theorem IA{w:J}{T:aK}{pages:O Nat}{L:O aM}{tk:ad}{key:Key}(h:b8 w T)(aG:¬T.C.D.ro)(ab:gD T pages L)(cS:L.length<4096)(eg:pages.Nodup)(hf:∀x∈pages,T.f x=true)(bf:T.C.D.a6<=800000000)
 (Q:Src 1 w tk (az key)) (ac:∀q,aB tk q->q<w.heap.size/\¬T.M q):
 aJ aj 67 #[.pointer (some T.bg),tk] w (Iz T pages L key w):=by
 have aH:=len8 Q;have bi:=h.num.2.1;refine okF (ae.uG (some T.bg) tk) ax.uG func67 ?_;(delta ae.uG ak b6 ey aq aT r1 lD z4 Y bY;dsimp only);refine cA (λb w'=>b= !(decide (cv key))/\w=w') (λq m=>⟨λh=>(by cases h),λ_=>(nj w tk).use ?_⟩) ?_
 .rintro _ _ ⟨rfl,rfl⟩
  refine⟨_,rfl,m _ _ ⟨?_,rfl⟩⟩;unfold cv;rw[aH]
 rintro _ _ ⟨rfl,rfl⟩;refine⟨λR=>⟨T,h,(bO.refl T w).mono I,rfl,rfl,.inl ⟨rfl,by simpa using R,.refl T⟩⟩,λR=>?_⟩;have hg:cv key:=by simpa using R
 obtain⟨steps,af,ag⟩:=y8 (k:=key) h ab;refine(yZ h I Q ac af).use ?_;rintro _ aN ⟨aI,r,c,o,g⟩;rcases g with ⟨s,a,rfl,j,S⟩|⟨rfl,aO⟩
 rotate_left
 .exact⟨⟨none,0,0⟩,3,rfl,λ_=>⟨_,r,c.mono I,rfl,rfl,.inr (.inr (.inr (.inr ⟨rfl,hg,λhc=>aO (gf hc I),.bx o⟩)))⟩,λhx=>(by simp at hx)⟩
 have bj:s.len=a.length:=by
  have:=S.own.1;rw[fA _ (nK a)]at this;omega
 have bm:a.length=T.aL:=by
  have:=af.length;rw[←j,di]at this;exact this
 refine⟨s,0,rfl,λhx=>⟨_,r,c.mono I,rfl,rfl,.inr (.inl ⟨rfl,hg,?_,.bx o⟩)⟩,λhx=>?_⟩
 .have aP:a.length=0:=by
   have:(s.len:Int)=0:=by simpa using hx
   omega
  rcases ag with ⟨_,_,_,t⟩|⟨ai,bA,e7,dN,al,am,an,ao,aF,_⟩
  .rw[t];rfl
  .rw[aF]at j
   obtain⟨aw,_⟩:=q5 j;omega
 have aP:0<a.length:=by
  have:¬(s.len:Int)=0:=by simpa using hx
  omega
 have e:IntKind.wrap .i64 ((s.len:Int)-1)=((a.length-1:Nat):Int):=by rw[bn I I];omega
 obtain⟨A,au,_,_,_,hu⟩:=S.at (i:=a.length-1) I;rcases ag with ⟨h1,_⟩|⟨ai,bA,e7,dN,al,am,an,ao,aF,cr,aT,dm,aQ,bo,aR,bp,aS,aV,ap⟩
 .rw[h1]at j
  have:=congrArg List.length j;simp at this;omega
 have F:=j;rw[aF]at F;obtain⟨aw,ay⟩:=q5 F;rw[e,dg];generalize bq:(a[a.length-1]'I)=u at hu ay;obtain⟨br,un,bs,K,V,D⟩:=u;obtain rfl:un=bA:=ay;have bt:=(cC.eT (.inl dm) (by have:=h.po _ _ aT;omega));have aW:Src 1 aN tk (az key):=Q.ah c.ah λq m aX=>(ac q m).2 (aK.gB aX);have U:eY L key=eY un.dy key:=C2 aV (ap (λL=>eO L key) (x6 key));rw[C3 dm]at U;refine⟨A,au,⟨I,I⟩,_,hu.aU,K,hu.a_,V,hu.bd,D,hu.fF,(qp (n:=un) hu.b_ dm I aW).use ?_⟩;intro v av g;unfold qU at g;by_cases d:gU un.keys key=true
 rotate_left
 .have d:gU un.keys key=false:=by simpa using d
  rw[d,if_neg (by simp)]at g;obtain⟨rfl,G⟩:=g;refine⟨_,bH,bH,bH,false,rfl,a8 (vs:=[false,(),(),()]) rfl λaY y W aZ=>⟨y.cl rfl (fG (b:=iP.leaf) (K:=bH) (V:=bH) (D:=bH)),rfl,cP y (us:=dT iP bH bH bH) rfl rfl λH aA X a0=>⟨λ_=>?_,λhx=>(by cases hx)⟩⟩⟩;have N:Ext av H:=Ext.cy W X (bl _);have p:=G.trans N;refine⟨_,r.ext p,(c.trans (bO.ext _ p)).mono I,rfl,rfl,.inr (.inl ⟨rfl,hg,?_,.bx o⟩)⟩;rw[U,if_neg (by rw[d];simp)]
 rw[if_pos d]at g;obtain⟨dA,dV,c1,rfl,a1,G⟩:=g;refine⟨_,dA,dV,c1,true,rfl,a8 (vs:=[false,(),(),()]) rfl λaY y W aZ=>⟨y.cl rfl fG,rfl,cP y (us:=dT (lM un key) dA dV c1) rfl rfl λH aA X a0=>⟨λhx=>(by cases hx),λ_=>?_⟩⟩⟩;have N:Ext av H:=Ext.cy W X (bl _);have p:=G.trans N;obtain⟨d0,d1,d2,d3⟩:=bJ aA;obtain⟨bk,bh,bu,aC,a2⟩:=Iy dm d;have a3:cF un.keys key<un.keys.length:=(ju.1 (cj d)).1;have a4:cF un.keys key<un.vals.length:=by rw[dm.len];exact a3
 have aD:eY L key≠none:=by
  rw[U,if_pos d,dC a4];simp
 have a5:aI.D.a6<=900000000:=by
  have:aI.D.a6<=T.C.D.a6+2*T.aL:=c.a6;omega
 have bv:=G.size;have a9:bQ (λq=>¬(T.bx aI T.P).M q) H (lM un key) dA dV c1:=(a1.ext N).a7 λq _ m F=>by have:=r.lt F;omega
 have ba:=C0 (dG:=eO L key) (k:=key) (steps:=steps) (cc:=un) (r.ext p) (λe=>aG λi=>c.b7.1▸e i) ab cS eg hf a5 j (S.ext' p λq m=>m.2) a9 bk (.inr ⟨ai,e7,dN,al,am,an,ao,aF,cr,λs hs=>aQ s (a2 s hs),λhs e=>by
  have z:=aR hs;rw[e]at aC;simp at aC;omega,aS,by rw[bh];exact ap (λL=>eO L key) (x6 key),by have:=h.po _ _ aT;omega⟩)
 refine⟨_,d0,dA,d1,dV,d2,c1,d3,ba.use ?_⟩;rintro v w' ⟨ar,h1,h2,Z,t,bb⟩;have aa:=((c.trans (bO.ext (T.bx aI T.P) p)).trans h2).mono (l:=100) I;have bw:cg (T.bx aI T.P)=cg T:=rfl;have bz:(T.bx aI T.P).aL=T.aL:=rfl;rcases bb with ⟨rfl,B,E⟩|⟨rfl,B,E,z⟩|⟨rfl,B,E,z,bc,be⟩
 .subst E
  exact⟨2,rfl,_,h1,aa,Z,t,.inr (.inr (.inl ⟨rfl,hg,aD,B,.bx o⟩))⟩
 .exact⟨0,rfl,_,h1,aa,Z,t,.inr (.inr (.inr (.inl ⟨rfl,hg,aD,B,E,λno aE=>⟨(z no aE).1,(z no aE).2.trans (o no)⟩⟩)))⟩
 .exact⟨3,rfl,_,h1,aa,Z,t,.inr (.inr (.inr (.inr ⟨rfl,hg,λhc=>B (c.calm 60 (gf hc I)),(iU.bx o).trans ⟨E,z,bc,be⟩ rfl⟩)))⟩
def sP(fr to:Key)(p:aM):al:=decide (dM fr p.1)&&(to.isEmpty||decide (bo p.1 to))
theorem wv(l:O aM)(fr to:Key):gM l fr to=l.filter (sP fr to):=rfl
theorem wx(a b:O aM)(fr to:Key):gM (a++b) fr to=gM a fr to++gM b fr to:=g1 ..
def kO(fr to:Key)(most:Nat):O aM->O aM->al×O aM
 |acc,[]=>(true,acc)
 |acc,p::ps=>
  if to≠ []/\¬bo p.1 to then (false,acc)
  else
   let a:=if dM fr p.1 then acc++ [p] else acc
   if a.length=most then (false,a) else kO fr to most a ps
def hN(fr to:Key)(most:Nat)(acc L:O aM)(on:al)(a:O aM):Prop:=
 (on=true/\a=acc++gM L fr to/\a.length<most)\/(on=false/\∀R,gT (L++R)->a=(acc++gM (L++R) fr to).take most)
variable {fr to:Key}{most:Nat}
theorem hN.nil{acc:O aM}(h:acc.length<most):hN fr to most acc [] true acc:=.inl ⟨rfl,by simp[gM],h⟩
theorem hN.app{acc mB iT bc bt:O aM}{on:al}(h1:hN fr to most acc bc true mB)(h2:hN fr to most mB bt on iT):hN fr to most acc (bc++bt) on iT:=by
 rcases h1 with ⟨_,h1,_⟩|⟨h,_⟩
 rotate_left
 .cases h
 subst h1;rcases h2 with ⟨a,b,d⟩|⟨a,b⟩
 .exact .inl ⟨a,by rw[b,wx,cz],d⟩
 .refine .inr ⟨a,λR c=>?_⟩
  rw[cz]at c;rw[b R (sw.1 c).2.1,cz bc bt R,wx bc,cz]
theorem hN.stop{acc mB bc bt:O aM}(h1:hN fr to most acc bc false mB):hN fr to most acc (bc++bt) false mB:=by
 rcases h1 with ⟨h,_⟩|⟨_,h⟩
 .cases h
 .refine .inr ⟨rfl,λR a=>?_⟩
  rw[cz]at a⊢;exact h _ a
theorem hN.skip{acc iT bc bt:O aM}{on:al}(hs:gM bc fr to=[])(h2:hN fr to most acc bt on iT):hN fr to most acc (bc++bt) on iT:=by
 rcases h2 with ⟨a,b,d⟩|⟨a,b⟩
 .exact .inl ⟨a,by rw[b,wx,hs];rfl,d⟩
 .refine .inr ⟨a,λR c=>?_⟩
  rw[cz]at c⊢;rw[b R (sw.1 c).2.1,wx bc,hs];rfl
theorem hN.all{L acc:O aM}{on:al}(h:hN fr to most [] L on acc)(a:gT L):acc=(gM L fr to).take most:=by
 rcases h with ⟨_,h1,h2⟩|⟨_,h1⟩
 .rw[h1]at h2⊢
  rw[hU]at h2⊢;rw[dX I]
 .have:=h1 [] (by simpa using a)
  simpa using this
theorem C5:∀ {ps acc:O aM},gT ps->acc.length<most->hN fr to most acc ps (kO fr to most acc ps).1 (kO fr to most acc ps).2
 | [],acc,_,h=>.nil h
 |p::ps,acc,i,h=>by
  unfold kO
  by_cases h1:to≠ []/\¬bo p.1 to
  .rw[if_pos h1]
   refine .inr ⟨rfl,λR b=>?_⟩
   have:gM (p::ps++R) fr to=[]:=by
    rw[wv];refine lr.2 λq c=>?_;have j:dM p.1 q.1:=by
     rw[lW]at c b;rcases cX.1 c with rfl|c
     .exact Bi _
     .exact h7 ((jw.1 b).1 q c)
    have h2:¬bo q.1 to:=λa=>h1.2 (kc j a);unfold sP;have e:to.isEmpty=false:=by simpa using h1.1
    simp[e,h2]
   rw[this,fu,dX I]
  .rw[if_neg h1]
   have k:sP fr to p=decide (dM fr p.1):=by
    unfold sP;by_cases h2:to=[]
    .simp[h2]
    .have:bo p.1 to:=Decidable.byContradiction λa=>h1 ⟨h2,a⟩
     simp[this]
   have d:∀l,gM (p::l) fr to=(if dM fr p.1 then [p] else [])++gM l fr to:=λl=>by
    rw[wv,kX,k,wv];by_cases h2:dM fr p.1<;>simp[h2]
   have m:(if dM fr p.1 then acc++ [p] else acc)=acc++(if dM fr p.1 then [p] else []):=by split<;>simp
   simp only[m];generalize hx:(if dM fr p.1 then [p] else [])=x at d;have o:x.length<=1:=by rw[←hx];split<;>simp
   by_cases a:(acc++x).length=most
   .rw[if_pos a]
    refine .inr ⟨rfl,λR b=>?_⟩;rw[lW,d,←cz,←a,List.take_left]
   .rw[if_neg a]
    have e:(acc++x).length<most:=by rw[cp]at a⊢;omega
    have:=C5 (ps:=ps) (acc:=acc++x) (jw.1 i).2 e;rcases this with ⟨f,g,n⟩|⟨f,g⟩
    .exact .inl ⟨f,by rw[g,d,cz],n⟩
    .refine .inr ⟨f,λR b=>?_⟩
     rw[lW]at b⊢;rw[g R (jw.1 b).2,d,cz]
def jm(p:ad×ad):O aa:=[p.1,p.2]
theorem pq(l:O (ad×ad)):∀x∈l,(jm x).length=2:=λ_ _=>rfl
theorem IB(p:ad×ad):∀v∈jm p,Plain v:=by
 intro v a;unfold jm at a;simp only[cX,fk,fv]at a;rcases a with rfl|rfl<;>trivial
def iA(B:Nat->Prop)(w:J)(ps:O (ad×ad))(L:O aM):Prop:=ps.length=L.length/\∀i (h1:i<ps.length) (h2:i<L.length),bq B w ps[i].1 L[i].1/\bq B w ps[i].2 L[i].2
def kP(B:Nat->Prop)(w:J)(s:ad)(L:O aM):Prop:=∃ps,aW 2 198 w s (bu jm ps)/\iA B w ps L
def fh(B:Nat->Prop)(w:J)(s:ad)(L:O aM):Prop:=∃ps,Src 2 w s (bu jm ps)/\s.len<=s.cap/\In B w s/\iA B w ps L
section
variable {B C W:Nat->Prop}{w w':J}{s:ad}{ps:O (ad×ad)}{L:O aM}
theorem iA.ah(h:iA B w ps L)(hc:af W w w')(d:∀k,B k->k<w.heap.size->¬W k):iA B w' ps L:=
 ⟨h.1,λi h1 h2=>by
  obtain⟨a,b⟩:=h.2 i h1 h2
  exact⟨bq.kI a hc λk c=>d k (a.2.2 k c).1 (a.2.2 k c).2,bq.kI b hc λk c=>d k (b.2.2 k c).1 (b.2.2 k c).2⟩⟩
theorem iA.a7(h:iA B w ps L)(a:∀k,k<w.heap.size->B k->C k):iA C w ps L:=⟨h.1,λi h1 h2=>⟨bq.a7 (h.2 i h1 h2).1 a,bq.a7 (h.2 i h1 h2).2 a⟩⟩
theorem iA.push{p:ad×ad}{kv:aM}(h:iA B w ps L)(h1:bq B w p.1 kv.1)(h2:bq B w p.2 kv.2):iA B w (ps++ [p]) (L++ [kv]):=by
 refine⟨by simp[h.1],λi aw ay=>?_⟩;rcases ec i ps.length with g|g
 .have g':i<L.length:=by have:=h.1;omega
  simp only[nX g,nX g'];exact h.2 i g g'
 .have e:i=ps.length:=by simp at aw;omega
  subst e;have a:(ps++ [p])[ps.length]'aw=p:=by simp
  have b:(L++ [kv])[ps.length]'ay=kv:=by rw[pD (by rw[h.1];exact bl _)];simp
  rw[a,b];exact⟨h1,h2⟩
theorem kP.len(h:kP B w s L):s.len=L.length:=by
 obtain⟨ps,h1,h2⟩:=h;have:=h1.1;rw[fA _ (pq ps)]at this;have:=h2.1;omega
theorem kP.a7(h:kP B w s L)(a:∀k,k<w.heap.size->B k->C k):kP C w s L:=by
 obtain⟨ps,h1,h2⟩:=h;exact⟨ps,h1,h2.a7 a⟩
theorem kP.none(B:Nat->Prop)(w:J):kP B w ⟨.none,0,0⟩ []:=⟨[],aW.none _ _ _,rfl,λi h=>by simp at h⟩
theorem kP.r(h:kP B w s L)(hs:∀k,aB s k->B k):fh B w s L:=by
 obtain⟨ps,h1,h2⟩:=h;exact⟨ps,h1.src,h1.2.1,λk a=>⟨hs k a,h1.lt k a⟩,h2⟩
theorem fh.len(h:fh B w s L):s.len=L.length:=by
 obtain⟨ps,h1,_,_,h2⟩:=h;have:=h1.len;rw[fA _ (pq ps)]at this;have:=h2.1;omega
theorem fh.ah(h:fh B w s L)(hc:af W w w')(b:∀k,B k->k<w.heap.size->¬W k):fh B w' s L:=by
 obtain⟨ps,h1,h2,a,d⟩:=h;exact⟨ps,h1.ah hc λk c=>b k (a k c).1 (a k c).2,h2,In.ah a hc,d.ah hc b⟩
theorem fh.ext(h:fh B w s L)(hc:Ext w w'):fh B w' s L:=h.ah hc λ_ _ _ h=>h
theorem fh.a7(h:fh B w s L)(a:∀k,k<w.heap.size->B k->C k):fh C w s L:=by
 obtain⟨ps,h1,h2,b,c⟩:=h;exact⟨ps,h1,h2,In.a7 b a,c.a7 a⟩
theorem fh.at(h:fh B w s L){i:Nat}(hi:i<L.length):∃ (A:ag) (tk cQ:ad),s.a=some A/\B A.block/\((0:Int)<=(i:Int)/\(i:Int)<(s.len:Int))/\w.cell? (A.add (i*2))=some (.slice tk.a tk.len tk.cap)/\w.cell? ((A.add (i*2)).add 1)=some (.slice cQ.a cQ.len cQ.cap)/\
 bq B w tk L[i].1/\bq B w cQ L[i].2:=by
 have o:=h.len;obtain⟨ps,h1,h2,k,c⟩:=h;have d:i<ps.length:=by have:=c.1;omega
 cases b:s.a with
 |none=>
  have:=h1.nil b;have e:=fA ps (pq ps);rw[this]at e;simp at e;omega
 |some A=>
  have l:=h1.rd A b;have hg:∀j v,(jm ps[i])[j]? =some v->w.cell? (A.add (i*2+j))=some v:=λj v f=>by
   have m:j<2:=(ju.1 f).1;have g:=p2 l (j:=i*2+j) (v:=v) (by rw[vZ (pq ps) d m];exact f);rw[cR]at g;exact g
  obtain⟨t1,t2⟩:=c.2 i d hi;have n:(A.add (i*2)).add 1=A.add (i*2+1):=add_add A _ _;refine⟨A,ps[i].1,ps[i].2,rfl,(k A.block ⟨A,b,rfl⟩).1,⟨I,I⟩,?_,?_,t1,t2⟩
  .exact hg 0 _ rfl
  .rw[n]
   exact hg 1 _ rfl
end
theorem IC:g3 aj 193 198 2 48:=⟨by kernel_rfl⟩
theorem ID(w:J)(cs:Array aa)(h:cs.size=2):Sem.run aj (Instr.buildSlice 193 1 #[(0,.agg cs)]) w=.ok (.slice (some w.heap.size) 1 1) (w.alloc (.cells cs 198)):=by
 have h0:((Tryz.prog.info? 198).bind (·.zero)).isSome=true:=by kernel_rfl
 obtain⟨z,a⟩:=mL.1 h0;obtain⟨i,hi,b⟩:=sG a;have h1:(Tryz.prog.underlying 198).isSome=true:=by kernel_rfl
 obtain⟨d,hd⟩:=mL.1 h1;exact yJ (sz:=2) w (by kernel_rfl) hd (by kernel_rfl) hi b h (by decide) (by decide)
structure eM(T ar:aK)(w w':J)(k:Nat):Prop where
 to:bO T ar w w' k
 E:ar.E=T.E
 G:∀q,T.G q->ar.G q
 root:ar.root=T.root
 aL:ar.aL=T.aL
 f:ar.f=T.f
 P:ar.P=T.P
 view:∀j,ar.C.view j=T.C.view j
theorem eM.refl(T:aK)(w:J):eM T T w w 0:=⟨.refl _ _,rfl,λ_ h=>h,rfl,rfl,rfl,rfl,λ_=>rfl⟩
theorem eM.ext{w w':J}(T:aK)(h:Ext w w'):eM T T w w' 0:=⟨.ext T h,rfl,λ_ h=>h,rfl,rfl,rfl,rfl,λ_=>rfl⟩
theorem eM.trans{T ar a:aK}{w w' b:J}{k l:Nat}(h1:eM T ar w w' k)(h2:eM ar a w' b l):eM T a w b (k+l):=
 ⟨h1.to.trans h2.to,h2.E.trans h1.E,λq h=>h2.G q (h1.G q h),h2.root.trans h1.root,h2.aL.trans h1.aL,h2.f.trans h1.f,h2.P.trans h1.P,λj=>(h2.view j).trans (h1.view j)⟩
theorem eM.mono{T ar:aK}{w w':J}{k l:Nat}(h:eM T ar w w' k)(a:k<=l):eM T ar w w' l:=⟨h.to.mono a,h.E,h.G,h.root,h.aL,h.f,h.P,h.view⟩
theorem eM.bx{T:aK}{aI:b2}{w w':J}{k:Nat}(h:bO T (T.bx aI T.P) w w' k)(a:∀j,aI.view j=T.C.view j):eM T (T.bx aI T.P) w w' k:=⟨h,rfl,λ_ h=>h,rfl,rfl,rfl,rfl,a⟩
theorem bO.out{T ar:aK}{w w':J}{k q:Nat}(h:bO T ar w w' k)(a:q<w.heap.size)(b:¬T.M q):¬ar.M q/\q<w'.heap.size:=by
 refine⟨λh1=>?_,fa a h.ah.size⟩;rcases h.c3 q h1 with h2|h2
 .exact b h2
 .omega
theorem bO.C6{T ar:aK}{w w':J}{k:Nat}{ps:O (ad×ad)}{L:O aM}(h:bO T ar w w' k)(c:iA (λq=>¬T.M q) w ps L):iA (λq=>¬ar.M q) w' ps L:=by
 have h1:iA (λq=>q<w.heap.size/\¬T.M q) w ps L:=c.a7 λq b a=>⟨b,a⟩;exact(h1.ah h.ah λq b _ d=>b.2 (aK.gB d)).a7 λq _ a=>(h.out a.1 a.2).1
structure iB(lo:Nat)(w:J)(T:aK)(aR:Nat)(s:ad)(L:O aM):Prop where
 t:b8 w T
 v:Var w aR [s] 193
 own:kP (λq=>¬T.M q) w s L
 go:T.G aR
 gs:∀q,aB s q->T.G q/\q≠aR/\lo<=q
section
variable {w w':J}{T ar:aK}{lo aR:Nat}{s:ad}{L:O aM}
theorem iB.of{k:Nat}(h:iB lo w T aR s L)(d:b8 w' ar)(ht:bO T ar w w' k)(b:∀q,T.G q->ar.G q){W:Nat->Prop}(c:af W w w')(cw:∀q,T.G q->¬W q):iB lo w' ar aR s L:=by
 obtain⟨ps,h1,h2⟩:=h.own;exact⟨d,h.v.ah c (cw _ h.go),⟨ps,h1.ah c λq a=>cw q (h.gs q a).1,ht.C6 h2⟩,b _ h.go,λq a=>⟨b q (h.gs q a).1,(h.gs q a).2⟩⟩
theorem iB.ext(h:iB lo w T aR s L)(hx:Ext w w'):iB lo w' T aR s L:=h.of (h.t.ext hx) (bO.ext T hx) (λ_ h=>h) hx λ_ _ h=>h
theorem IE{k v:Key}{tk cQ:ad}(h:iB lo w T aR s L)(B:lo<=w.heap.size)(p:bq (λq=>¬T.M q) w tk k)(r:bq (λq=>¬T.M q) w cQ v)(C:L.length<=100000):
 ∃ (b:ad) (ai:J),Sem.run aj (Builtin.append_ #[193,193] 193 #[s,.slice (some w.heap.size) 1 1]) (w.alloc (.cells (jm (tk,cQ)).toArray 198))=.ok b ai/\
  (∃u:aa,ai.cell? aR=some u)/\ai.frozen? aR=false/\
  ∀d,d=ai.setCell aR b->iB lo d (T.cu T.E λq=>T.G q\/aB b q) aR b (L++ [(k,v)])/\eM T (T.cu T.E λq=>T.G q\/aB b q) w d 0:=by
 have D:=h.own.len;obtain⟨ps,x,y⟩:=h.own;obtain⟨b,ai,aw,ay,F,f,c⟩:=IC.push (cB:=193) (w:=w) (s:=s) (xs:=jm (tk,cQ)) rfl x (IB _) I;have cw:∀q,aB s q->T.G q:=λq a=>(h.gs q a).1;have H:=f.size;have j:=h.v.ah f λa=>(h.gs _ a).2.1 rfl;obtain⟨b9,ct⟩:=eA j (i:=0) (by simp);refine⟨b,ai,aw,b9,ct,?_⟩;rintro _ rfl;have g:=dU ai aR 0 b;have z:=ez j (i:=0) b;have l:af T.G w (ai.setCell aR b):=c2 (f.mono λq _ a=>cw q a) g λq _ e=>by rw[e];exact h.go
 have aH:∀q,aB b q->q<ai.heap.size:=λq a=>aW.lt ay q a;have m:∀q,aB b q->T.G q\/(w.heap.size<=q/\q<(ai.setCell aR b).heap.size):=λq a=>by
  rcases c q a with h1|h1
  .exact .inl (cw q h1)
  .exact .inr ⟨h1,by have:=aH q a;have:=g.size;omega⟩
 have n:∀q,aB b q->q≠aR:=λq a e=>by
  rcases c q a with h1|h1
  .exact(h.gs q h1).2.1 e
  .have:=h.v.lt;omega
 have A:=h.t.grow (E:=T.E) (G:=λq=>T.G q\/aB b q) l (λq a _=>.inr a) (λq a=>.inl a) (λq a=>by
  rcases a with a|a
  .exact .inr (.inl a)
  .exact .inr (m q a)) λq a hg=>by
  rcases hg with hg|hg
  .exact(h.t.dO q a).2.2 hg
  .rcases c q hg with h1|h1
   .exact(h.t.dO q a).2.2 (cw q h1)
   .have:=h.t.lt (q:=q) (.inr (.inr (.inr (.inl a))));omega
 have o:bO T (T.cu T.E λq=>T.G q\/aB b q) w (ai.setCell aR b) 0:=by
  have h0:bO T T w w 0:=.refl _ _;exact h0.step l (λq a _=>.inr (.inr (.inr a))) (λq a=>.inl a) λq a=>by
   rcases a with a|a
   .exact .inl a
   .exact(m q a).imp id λe=>e.1
 refine⟨⟨A,z,⟨ps++ [(tk,cQ)],?_,o.C6 (y.push (kv:=(k,v)) p r)⟩,.inl h.go,λq a=>⟨.inr a,n q a,?_⟩⟩,o,rfl,λ_ h=>.inl h,rfl,rfl,rfl,rfl,λ_=>rfl⟩
 .have e:bu jm (ps++ [(tk,cQ)])=bu jm ps++jm (tk,cQ):=by rw[lN];simp[bu]
  rw[e];exact ay.ah g λq a e=>n q a e
 .rcases c q a with h1|h1
  .exact(h.gs q h1).2.2
  .omega
end
structure q6(w:J)(T:aK)(bg aV bf:Nat)(fp fB:ad)(to fr:Key)(most:Int):Prop where
 wy:Var w bg [fp] 39
 wz:Var w aV [fB] 39
 i_:Var w bf [most] 3
 C7:¬T.M bg
 C8:¬T.M aV
 C9:¬T.M bf
 st:Src 1 w fp (az to)
 za:Src 1 w fB (az fr)
 sQ:∀q,aB fp q->q<w.heap.size/\¬T.M q
 sR:∀q,aB fB q->q<w.heap.size/\¬T.M q
 lt:to.length<=9000000000000000000
section
variable {w w':J}{T ar:aK}{bg aV bf:Nat}{fp fB:ad}{to fr:Key}{most:Int}
theorem q6.go{k:Nat}(h:q6 w T bg aV bf fp fB to fr most)(ht:bO T ar w w' k):q6 w' ar bg aV bf fp fB to fr most:=by
 have b:∀q,¬T.M q->¬T.N q:=λq a b=>a (aK.gB b);exact⟨h.wy.ah ht.ah (b _ h.C7),h.wz.ah ht.ah (b _ h.C8),h.i_.ah ht.ah (b _ h.C9),(ht.out h.wy.lt h.C7).1,(ht.out h.wz.lt h.C8).1,(ht.out h.i_.lt h.C9).1,
  h.st.ah ht.ah λq a=>b _ (h.sQ q a).2,h.za.ah ht.ah λq a=>b _ (h.sR q a).2,λq a=>⟨(ht.out (h.sQ q a).1 (h.sQ q a).2).2,(ht.out (h.sQ q a).1 (h.sQ q a).2).1⟩,λq a=>⟨(ht.out (h.sR q a).1 (h.sR q a).2).2,(ht.out (h.sR q a).1 (h.sR q a).2).1⟩,h.lt⟩
end
def jQ(fr to:Key)(most:Nat)(n:aD)(acc ps:O aM):al×O aM:=if n.leaf then kO fr to most acc ps else (true,acc)
def IF(lo aR:Nat)(T:aK)(a:al×O aM)(w:J)(v:aa)(w':J):Prop:=
 ∃ (ar:aK) (b:ad),v=a.1/\iB lo w' ar aR b a.2/\eM T ar w w' 0
theorem bO.iP{T ar:aK}{w w':J}{k:Nat}(h:bO T ar w w' k){n:aD}{K V D:ad}(b:bQ (λq=>¬T.M q) w n K V D):bQ (λq=>¬ar.M q) w' n K V D:=
 (h.b_ (lo:=0) (b.a7 λ_ _ a=>⟨cL _,a⟩)).a7 λ_ _ a=>a.2
theorem C_{a b:Key}:(decide ((dE a b:Int)>=0))=decide (dM b a):=by
 unfold dM;by_cases h:dE a b<0
 .have h1:¬dE a b>=0:=by omega
  simp[h,h1]
 .have h1:dE a b>=0:=by omega
  simp[h,h1]
theorem IG{w:J}{T:aK}{lo aR bg aV bf:Nat}{s fp fB:ad}{L:O aM}{to fr:Key}{most:Int}{n:aD}{K V D:ad}(no:Int)(h:iB lo w T aR s L)(a4:lo<=w.heap.size)(hf:q6 w T bg aV bf fp fB to fr most)
 (U:bQ (λq=>¬T.M q) w n K V D) (hs:cC n) (a5:n.keys.length<=1000) (cS:(L.length:Int)<most) (a6:L.length<=50000):
 aJ aj 218 #[no,db n K V D,.pointer (some bg),.pointer (some aV),.pointer (some aR),.pointer (some bf)] w (IF lo aR T (jQ fr to most.toNat n L n.dy) w):=by
 have a7:=bG.len U.keys;refine okF (ae.vf no n.leaf K V D bg aV aR bf) ax.vf func218 ?_;(delta ae.vf r1 Y ak aP bY aT aF aq;dsimp only);refine a8 (vs:=dT n K V D) rfl λw1 N m a9=>?_;obtain⟨nb,az⟩:∃nb,nb=w.heap.size:=⟨_,rfl⟩;rw[←az]at N⊢;have h1:=h.ext m;have aA:=hf.go (bO.ext T m);have aB:=U.ext m;have W:¬T.M nb:=λP=>by have:=h.t.lt P;omega
 obtain⟨bS,aU,a_,bd⟩:=bJ N;refine⟨K,aU,λi d=>∃ (C:Nat) (ar:aK) (y:ad) (acc:O aM),i=(C:Int)/\C<=n.keys.length/\iB lo d ar aR y acc/\eM T ar w1 d 0/\(acc.length:Int)<most/\acc.length<=L.length+C/\jQ fr to most.toNat n acc (n.dy.drop C)=jQ fr to most.toNat n L n.dy,
  λi _=>((n.keys.length:Int)-i).toNat,⟨0,T,s,L,rfl,cL _,h1,.refl _ _,cS,I,by rw[iF]⟩,?_⟩
 rintro _ d ⟨i,ar,y,acc,rfl,hi,E,k,ba,bb,f⟩;have bc:=m.size;have be:=k.to.ah.size;have o:=aA.go k.to;have X:=k.to.iP aB;have Z:=N.ah k.to.ah λP=>W (aK.gB P);have bh:=(k.to.out I W).1;refine⟨λaH=>?_,λaC=>?_⟩
 rotate_left
 .have aa:i=n.keys.length:=by
   have:¬(i:Int)<(K.len:Int):=cH aC;omega
  have hd:n.dy.drop i=[]:=by
   refine ru ?_;unfold aD.dy;rw[nU];omega
  rw[hd]at f;have e:jQ fr to most.toNat n acc []=(true,acc):=by unfold jQ kO;split<;>rfl
  rw[e]at f;exact⟨ar,y,by rw[←f],by rw[←f];exact E,((eM.ext T m).trans k)⟩
 .have aa:i<n.keys.length:=by
   have:(i:Int)<(K.len:Int):=cj aH;omega
  obtain⟨A,tk,au,aE,hc,F,_⟩:=bG.at X.keys aa;have Q:IntKind.wrap .i64 ((i:Int)+1)=((i+1:Nat):Int):=by rw[bn I I];omega
  have aG:∀w':J,((n.keys.length:Int)-IntKind.wrap .i64 ((i:Int)+1)).toNat<((n.keys.length:Int)-(i:Int)).toNat:=λ_=>by rw[Q];omega
  obtain⟨key,ab⟩:∃key,key=n.keys[i]:=⟨_,rfl⟩;rw[←ab]at F;have ac:=len8 o.st;refine⟨A,au,aE,tk,hc,fp,o.wy.cell,cA (λb w'=>b=decide (to≠ []/\¬bo key to)/\d=w') (λq l=>⟨λc=>⟨fp,o.wy.cell,(lE F.1 o.st).use ?_⟩,λc=>l _ _ ⟨?_,rfl⟩⟩) ?_⟩
  .rintro _ _ ⟨rfl,rfl⟩
   refine⟨_,rfl,l _ _ ⟨?_,rfl⟩⟩;have h2:to≠ []:=λe=>by
    rw[e]at ac;have:(fp.len:Int)>0:=cj c;simp at ac;omega
   rw[C_];simp only[h2,ne_eq,not_false_eq_true,true_and];rfl
  .have h2:to=[]:=by
    have:¬(fp.len:Int)>0:=cH c;exact lX.1 I
   simp[h2]
  rintro aI _ ⟨af,rfl⟩;have d0:d.cell? nb=some (.bool n.leaf):=(bJ Z).1;refine cA (λb w'=>b=(aI&&n.leaf)/\d=w') (λq l=>⟨λc=>⟨_,d0,l _ _ ⟨by rw[c];rfl,rfl⟩⟩,λc=>l _ _ ⟨by rw[c];rfl,rfl⟩⟩) ?_;rintro bi _ ⟨ag,rfl⟩;have G:n.leaf=true->∃x:Key,(∃j:i<n.vals.length,x=n.vals[i])/\n.dy.drop i=(key,x)::n.dy.drop (i+1):=λa=>by
   have bj:n.vals.length=n.keys.length:=by
    rcases hs with h2|h2
    .exact h2.len
    .have:=h2.inner;rw[a]at this;cases this
   have j:i<n.vals.length:=by omega
   refine⟨n.vals[i],⟨j,rfl⟩,?_⟩;have aL:i<n.dy.length:=by unfold aD.dy;rw[nU];omega
   rw[jW aL];have e:n.dy[i]=(key,n.vals[i]):=by
    rw[ab];exact ta
   rw[e]
  refine⟨λc=>?_,λc=>?_⟩
  .
   rw[ag,c7]at c;obtain⟨x,_,z⟩:=G c.2;have aN:to≠ []/\¬bo key to:=by
    rw[af]at c;exact cj c.1
   have e:jQ fr to most.toNat n acc (n.dy.drop i)=(false,acc):=by
    unfold jQ;rw[if_pos c.2,z];unfold kO;rw[if_pos aN]
   rw[e]at f;exact⟨ar,y,by rw[←f],by rw[←f];exact E,((eM.ext T m).trans k)⟩
  .have ai:n.leaf=true->¬(to≠ []/\¬bo key to):=λa h2=>by
    rw[ag,af,a,dI h2]at c
    cases c
   refine k2 (λH=>∃ (b1:aK) (s2:ad) (iT:O aM),iT=(if n.leaf=true/\dM fr key then acc++ [(key,n.vals.getD i [])] else acc)/\iB lo H b1 aR s2 iT/\eM ar b1 d H 0) (λq l=>⟨n.leaf,d0,?_⟩) ?_
   .refine cA (λb w'=>b=decide (n.leaf=true/\dM fr key)/\d=w') (λr al=>⟨λa=>⟨fB,o.wz.cell,(lE F.1 o.za).use ?_⟩,λa=>al _ _ ⟨by simp[a],rfl⟩⟩) ?_
    .rintro _ _ ⟨rfl,rfl⟩
     refine⟨_,rfl,al _ _ ⟨?_,rfl⟩⟩;rw[C_,a];simp
    .rintro bk _ ⟨am,rfl⟩
     refine⟨λg=>aX ?_,λg=>?_⟩
     .rw[am]at g
      have g:=cj g;obtain⟨x,⟨j,hx⟩,z⟩:=G g.1;have B:Ext d d.drew:=cG _;have p:=E.ext B;obtain⟨aO,cQ,aQ,aS,aW,an,bl⟩:=bG.at (X.ext B).vals j;rw[←hx]at an;have aY:=bq.ext F B;have bm:=B.size;obtain⟨ao,aZ,aw,ay,a0,a1⟩:=IE p I aY an I;refine⟨λ_=>False,id,y,p.v.cell,id,V,(bJ (Z.ext B)).2.2.1,aO,aQ,aS,id,cQ,aW,(jm (tk,cQ)).toArray,λbp=>?_,⟨some d.drew.heap.size,1,1⟩,_,ID _ _ rfl,da _ _,ao,aZ,aw,ay,a0,aX (l _ ?_)⟩
      .kernel_rfl
      .obtain⟨b9,ct⟩:=a1 _ rfl
       refine⟨_,ao,_,?_,b9,((eM.ext ar B).trans ct)⟩;rw[if_pos g,fL,dC j,←hx];rfl
     .rw[am]at g
      have g:=cH g;exact l _ ⟨ar,y,acc,by rw[if_neg g],E,.refl _ _⟩
   .rintro H ⟨b1,s2,iT,u,p,ap⟩
    have a2:=o.go ap.to;have a3:=p.own.len;have av:=k.trans ap;have br:iT.length<=acc.length+1:=by rw[u];split<;>simp
    have bs:(0:Int)<=most:=by omega
    refine⟨s2,p.v.cell,most,a2.i_.cell,λc=>?_,λc=>?_⟩
    .have he:(s2.len:Int)=most:=by simpa using c
     by_cases a:n.leaf=true
     .obtain⟨x,⟨j,hx⟩,z⟩:=G a
      have R:n.vals.getD i []=x:=by rw[fL,dC j,hx];rfl
      have e:jQ fr to most.toNat n acc (n.dy.drop i)=(false,iT):=by
       unfold jQ;rw[if_pos a,z];unfold kO;rw[if_neg (ai a)];have S:(if dM fr key then acc++ [(key,x)] else acc)=iT:=by rw[u,R];simp[a]
       simp only[S];rw[if_pos I]
      rw[e]at f;exact⟨b1,s2,by rw[←f],by rw[←f];exact p,((eM.ext T m).trans av)⟩
     .exfalso
      rw[if_neg (λh2=>a h2.1)]at u;rw[u]at a3;omega
    .have he:¬(s2.len:Int)=most:=by simpa using c
     rw[Q];refine⟨⟨i+1,b1,s2,iT,rfl,I,p,av,I,I,?_⟩,?_⟩
     .rw[←f]
      unfold jQ;by_cases a:n.leaf=true
      .obtain⟨x,⟨j,hx⟩,z⟩:=G a
       have R:n.vals.getD i []=x:=by rw[fL,dC j,hx];rfl
       rw[if_pos a,if_pos a,z]
       conv=>rhs;unfold kO
       rw[if_neg (ai a)];have S:(if dM fr key then acc++ [(key,x)] else acc)=iT:=by rw[u,R];simp[a]
       simp only[S];rw[if_neg I]
      .rw[if_neg a,if_neg a]
       rw[if_neg (λh2=>a h2.1)]at u;rw[u]
     .have:=aG H
      rw[Q]at this;exact this
inductive Kids (W:Below):O Nat->O Nat->O aM->Prop
 |nil:Kids W [] [] []
 |cons {lo hi:av Key}{k:Nat}{kids bk bh:O Nat}{bc bt:O aM} (h:W lo hi k bk bc) (t:Kids W kids bh bt):Kids W (k::kids) (bk++bh) (bc++bt)
theorem dx.kids{W:Below}{lo hi:av Key}{ks:O Key}{kids p:O Nat}{L:O aM}(h:dx W lo hi ks kids p L):Kids W kids p L:=by
 induction h with
 |one h=>
  have:=Kids.cons h .nil;rwa[fu,fu]at this
 |cons h _ a=>exact .cons h a
theorem IH(s:Key)(ks:O Key)(k:Key):c_ (s::ks) k=if bo k s then 0 else c_ ks k+1:=by
 unfold c_;rw[List.findIdx_cons];by_cases h:bo k s<;>simp[h]
theorem dx.from{W:Below}(cw:∀lo hi k p L,W lo hi k p L->∀q∈L,fo lo hi q.1){lo hi:av Key}{ks:O Key}{kids p:O Nat}{L:O aM}(h:dx W lo hi ks kids p L)(k:Key):
 ∃ (bk bh:O Nat) (bc bt:O aM),p=bk++bh/\L=bc++bt/\(∀q∈bc,bo q.1 k)/\Kids W (kids.drop (c_ ks k)) bh bt:=by
 induction h with
 |one h=>exact⟨[],_,[],_,rfl,rfl,λ_ h=>(by cases h),(dx.one h).kids⟩
 | @cons lo hi s f bk bh bc bt ks kids h t c=>
  rw[IH];by_cases b:bo k s
  .rw[if_pos b]
   exact⟨[],_,[],_,rfl,rfl,λ_ h=>(by cases h),(dx.cons h t).kids⟩
  .rw[if_neg b,List.drop_succ_cons]
   obtain⟨a1,a2,cx,b3,rfl,rfl,d,e⟩:=c;refine⟨bk++a1,a2,bc++cx,b3,by rw[cz],by rw[cz],λq a=>?_,e⟩;rcases cK.1 a with a|a
   .exact nu ((cw _ _ _ _ _ h q a).2 s rfl) b
   .exact d q a
theorem Da{L:O aM}{fr to:Key}(h:∀q∈L,bo q.1 fr):gM L fr to=[]:=by
 rw[wv];refine lr.2 λq a=>?_;unfold sP;have:¬dM fr q.1:=λh2=>h2 (h q a);simp[this]
def Db(T:aK)(no:Nat):Prop:=(no<T.n/\2<=no)/\∃e,fe (no:Int) (T.C.view no)=.error e
theorem II{w:J}{T:aK}{no:Nat}{o:aD}(h:b8 w T)(s:T.C.D.a6<=999999999)(d:T.P no=some o\/Db T no):
 aJ aj 175 #[.pointer (some T.bg),no,o.leaf] w (λv w'=>∃aI:b2,eM T (T.bx aI T.P) w w' 2/\b8 w' (T.bx aI T.P)/\af (λq=>T.N q/\¬T.G q) w w'/\
  ((∃ (K V D:ad),v=.tuple #[db o K V D,(0:Int)]/\T.P no=some o/\bQ (λq=>w.heap.size<=q/\¬(T.bx aI T.P).M q) w' o K V D)\/(∃e:Int,v=.tuple #[db iP bH bH bH,e]/\e≠0/\((e=3/\¬T.C.D.calm 2)\/Db T no)))):=by
 have f:no<T.n:=d.elim (λh1=>(h.eR no o h1).1) λh1=>h1.1.1;have g:2<=no:=d.elim (λh1=>(h.eR no o h1).2.two) λh1=>h1.1.2;obtain⟨bM,i⟩:∃bM,bM=λq=>T.E q\/T.G q:=⟨_,rfl⟩;have c:∀q,T.E q\/T.G q->bM q:=λq a=>by rw[i];exact a
 have j:∀q,bM q->T.E q\/T.G q:=λq a=>by rw[i]at a;exact a
 have k:b8 w (T.cu bM λ_=>False):=h.grow (W:=λ_=>False) (af.refl _ _) (λ_ h=>h.elim) (λq a=>(j q a).imp id .inl) (λ_ h=>h.elim) λ_ _ h=>h;have t:∀q,(T.cu bM λ_=>False).N q->T.N q/\¬T.G q:=λq a=>⟨by
  rcases a with a|a|a|a
  .exact .inl a
  .exact .inr (.inl a)
  .exact .inr (.inr (.inl a))
  .exact a.elim,λhg=>k.kJ (c q (.inr hg)) a⟩
 refine(yY k s f g o.leaf).mono ?_;rintro v w' ⟨aI,u,ht,x,y⟩;have z:bO T (T.bx aI T.P) w w' 2:=bO.read (E:=bM) ht c λq a=>(j q a).imp id .inl;have A:af (λq=>T.N q/\¬T.G q) w w':=ht.ah.mono λq _ a=>t q a;refine⟨aI,.bx z x,?_,A,?_⟩
 .exact u.grow (E:=T.E) (G:=T.G) (W:=λ_=>False) (af.refl _ _) (λ_ h=>h.elim) (λq a=>.inl (c q (.inl a))) (λq a=>.inl (c q (.inr a))) λq a=>(h.dO q a).2.2
 .rcases y with ⟨bA,K,V,D,rfl,l,eg⟩|⟨e,rfl,B,F⟩
  .have m:T.P no=some o:=d.resolve_right λ⟨_,e,h1⟩=>by
    obtain⟨p,aw,_⟩:=l;have h1:fe (no:Int) (T.C.view no)=.error e:=h1;have aw:fe (no:Int) (T.C.view no)=.ok p:=aw;rw[h1]at aw;cases aw
   obtain rfl:=gP.uniq (h.eR no o m).2 l;refine .inl ⟨K,V,D,rfl,m,eg.a7 λq a r=>⟨r.1,λb=>r.2 ?_⟩⟩;rcases b with b|b|b|b|b
   .exact .inl b
   .exact .inr (.inl b)
   .exact .inr (.inr (.inl b))
   .exact .inr (.inr (.inr (.inl (c q (.inl b)))))
   .exact .inr (.inr (.inr (.inl (c q (.inr b)))))
  .refine .inr ⟨e,rfl,F,?_⟩
   rcases B with h1|h1|⟨_,_,h1⟩
   .exact .inl h1
   .exact .inr ⟨⟨f,g⟩,e,h1⟩
   .exact d.elim (λh2=>absurd (h.eR no o h2).2 (h1 o)) .inr
theorem IJ{w:J}{T:aK}{no:Nat}{o:aD}(h:b8 w T)(f:T.C.D.a6<=999999999)(c:T.P no=some o):
 aJ aj 175 #[.pointer (some T.bg),no,o.leaf] w (λv w'=>∃aI:b2,eM T (T.bx aI T.P) w w' 2/\b8 w' (T.bx aI T.P)/\af (λq=>T.N q/\¬T.G q) w w'/\
  ((∃ (K V D:ad),v=.tuple #[db o K V D,(0:Int)]/\bQ (λq=>w.heap.size<=q/\¬(T.bx aI T.P).M q) w' o K V D)\/(v=.tuple #[db iP bH bH bH,(3:Int)]/\¬T.C.D.calm 2))):=by
 refine(II h f (.inl c)).mono ?_;rintro v w' ⟨aI,h1,h2,d,⟨K,V,D,b,_,a⟩|⟨e,b,_,⟨rfl,a⟩|⟨_,g,a⟩⟩⟩
 .exact⟨aI,h1,h2,d,.inl ⟨K,V,D,b,a⟩⟩
 .exact⟨aI,h1,h2,d,.inr ⟨b,a⟩⟩
 .obtain⟨p,aw,_⟩:=(h.eR no o c).2
  rw[a]at aw;cases aw
def IK(lo aR:Nat)(T:aK)(fr to:Key)(most:Int)(acc L:O aM)(a:Nat)(w:J)(v:aa)(w':J):Prop:=
 ∃ (ar:aK) (c:ad) (b:O aM),eM T ar w w' (2*a)/\iB lo w' ar aR c b/\
  ((∃on:al,v=.tuple #[on,(0:Int)]/\hN fr to most.toNat acc L on b)\/(v=.tuple #[false,(3:Int)]/\¬T.C.D.calm (2*a)))
theorem IL:hX aj 218:=⟨Tryz.f218,func218,by kernel_rfl,by kernel_rfl⟩
theorem eL.top{P:Nat->av aD}{h:Nat}{lo hi:av Key}{no:Nat}{p:O Nat}{L:O aM}(b:eL P (h+1) lo hi no p L):∃ (n:aD) (a:O Nat),P no=some n/\n.leaf=decide (h=0)/\cC n/\p=no::a/\
 ((h=0/\gN n/\a=[]/\L=n.dy)\/(∃g,h=g+1/\x5 n/\Kids (λlo hi k p L=>eL P h lo hi k p L) n.kids a L/\∀k:Key,∃ (bk bh:O Nat) (bc bt:O aM),a=bk++bh/\L=bc++bt/\(∀q∈bc,bo q.1 k)/\Kids (λlo hi k p L=>eL P h lo hi k p L) (n.kids.drop (c_ n.keys k)) bh bt)):=by
 match h,b with
 |0,⟨n,h1,h2,f,e,d,c⟩=>exact⟨n,[],h1,h2.leaf,.inl h2,d,.inl ⟨rfl,h2,rfl,c⟩⟩
 |h+1,⟨n,a,h1,h2,f,e,d⟩=>
  have c:=d.mono (V:=λlo hi k p L=>eL P (h+1) lo hi k p L) λ_ _ _ _ _ _ b=>b.1;refine⟨n,a,h1,by rw[h2.inner];simp,.inr h2,e,.inr ⟨h,rfl,h2,c.kids,λk=>c.from (λ_ _ _ _ _ b=>(eL.eU b).2) k⟩⟩
theorem hN.len{fr to:Key}{most:Nat}{acc L a:O aM}{on:al}(h:hN fr to most acc L on a)(b:gT L):a.length<=acc.length+L.length:=by
 have c:(gM L fr to).length<=L.length:=mY _ _;rcases h with ⟨_,h1,_⟩|⟨_,h1⟩
 .rw[h1,cp];omega
 .have:=h1 [] (by simpa using b)
  rw[this,fu,cI,cp];omega
theorem IM{A:ag}{i c:Nat}(h:i<c):aY (some A) 1 i c=some (A.add i):=by
 unfold aY;rw[ft];split
 .rename_i h2;omega
 .rfl
theorem IN(h:Nat):∀ {w:J}{T:aK}{lo aR bg aV bf:Nat}{s fp fB:ad}{acc L:O aM}{to fr:Key}{most:Int}{e7 dN:av Key}{no:Nat}{p:O Nat},iB lo w T aR s acc->lo<=w.heap.size->q6 w T bg aV bf fp fB to fr most->h<=12->eL T.P h e7 dN no p L->(acc.length:Int)<most->acc.length+L.length<=40000->T.C.D.a6+2*p.length<=999999999->
 aJ aj 217 #[.pointer (some T.bg),no,h,fB,.func (.func 218) #[] #[.pointer (some bg),.pointer (some aV),.pointer (some aR),.pointer (some bf)]] w (IK lo aR T fr to most acc L p.length w):=by
 induction h with
 |zero=>intro w T lo aR bg aV bf s fp fB acc L to fr most e7 dN no p _ _ _ _ z;exact z.elim
 |succ h ba=>
  intro w T lo aR bg aV bf s fp fB acc L to fr most e7 dN no p aw b8 hf b9 z bb be bh;obtain⟨n,b_,ay,bi,az,rfl,bj⟩:=z.top;have bk:=z.eU.1;have aA:=aw.t;have ca:=cC.eT az (by have:=aA.po _ _ ay;omega);refine okF (ae.ve (some T.bg) (no:Nat) ((h+1:Nat):Int) fB ⟨218,#[],#[.pointer (some bg),.pointer (some aV),.pointer (some aR),.pointer (some bf)]⟩) ax.ve func217 ?_;(delta ae.ve k6 z4 Y ak aT r1 bY aF nd aq;dsimp only);rw[CG bi];refine(IJ aA I ay).use ?_;rintro _ w1 ⟨aI,B,aB,aC,bm⟩;have cb:=aC.size;have aD:iB lo w1 (T.bx aI T.P) aR s acc:=aw.of aB B.to (λ_ h=>h) aC λq bo bp=>bp.2 bo;have bq:=hf.go B.to;rcases bm with ⟨K,V,D,rfl,eg⟩|⟨rfl,U⟩
  rotate_left
  .refine⟨_,bH,bH,bH,3,rfl,a8 (vs:=[false,(),(),()]) rfl λbr v W bs=>⟨v.cl rfl (fG (b:=iP.leaf) (K:=bH) (V:=bH) (D:=bH)),rfl,cP v (us:=dT iP bH bH bH) rfl rfl λE F X bu=>⟨λ_=>?_,λhx=>(by simp at hx)⟩⟩⟩
   have f:Ext w1 E:=Ext.cy W X (bl _);refine⟨_,s,acc,((B.trans (eM.ext _ f)).mono (by simp only[fY];omega)),aD.ext f,.inr ⟨rfl,λhc=>U (gf hc (by simp only[fY];omega))⟩⟩
  refine⟨_,K,V,D,0,rfl,a8 (vs:=[false,(),(),()]) rfl λbr v W bs=>⟨v.cl rfl fG,rfl,cP v (us:=dT n K V D) rfl rfl λE F X bu=>⟨λhx=>(by cases hx),λ_=>?_⟩⟩⟩;have f:Ext w1 E:=Ext.cy W X (bl _);obtain⟨nb,bv⟩:∃nb,nb=w1.heap.size:=⟨_,rfl⟩;rw[←bv]at F⊢;have aE:¬(T.bx aI T.P).M nb:=λZ=>by have:=aB.lt Z;omega
  have bw:=aD.ext f;have aG:=bq.go (bO.ext _ f);have aL:bQ (λq=>¬(T.bx aI T.P).M q) E n K V D:=(eg.ext f).a7 λq _ c=>c.2;have cc:=f.size;obtain⟨bS,aU,a_,bd⟩:=bJ F;refine⟨_,bS,K,aU,V,a_,D,bd,IL,?_⟩;refine(IG (no:Nat) bw I aG aL az I bb I).use ?_;rintro _ G ⟨b1,s2,rfl,x,l⟩;have aa:=(B.trans (eM.ext _ f)).trans l;have aN:=aG.go l.to;have cd:=l.to.ah.size;have aO:acc.length<most.toNat:=by omega
  rcases bj with ⟨rfl,aP,rfl,rfl⟩|⟨g,rfl,ab,_,bz⟩
  .
   have y:n.leaf=true:=aP.leaf;have e:jQ fr to most.toNat n acc n.dy=kO fr to most.toNat acc n.dy:=by unfold jQ;rw[if_pos y]
   have d:=C5 (fr:=fr) (to:=to) aP.dy.1 aO;rw[e]at x⊢;refine⟨_,rfl,λc=>?_,λc=>⟨λ_=>?_,λhx=>?_⟩⟩
   .have c:(kO fr to most.toNat acc n.dy).1=false:=by simpa using c
    refine⟨b1,s2,_,aa.mono (by simp),x,.inl ⟨false,rfl,?_⟩⟩;rw[c]at d;exact d
   .have c:(kO fr to most.toNat acc n.dy).1=true:=by simpa using c
    refine⟨b1,s2,_,aa.mono (by simp),x,.inl ⟨true,rfl,?_⟩⟩;rw[c]at d;exact d
   .rw[y]at hx;cases hx
  .
   have y:n.leaf=false:=ab.inner;have e:jQ fr to most.toNat n acc n.dy=(true,acc):=by unfold jQ;rw[y];rfl
   rw[e]at x⊢;refine⟨true,rfl,λc=>(by cases c),λ_=>⟨λc=>(by rw[y]at c;cases c),λ_=>aX ?_⟩⟩;have ac:Ext G G.drew:=cG _;have aQ:Var G.drew nb (dT n K V D) 169:=(F.ah l.to.ah λZ=>aE (aK.gB Z)).drew;have ce:=(l.to.out (q:=nb) I aE).1;have af:bQ (λq=>¬b1.M q) G.drew n K V D:=(l.to.iP aL).ext ac;have bA:=aN.go (bO.ext b1 ac);obtain⟨d0,d1,d2,d3⟩:=bJ aQ;refine⟨λ_=>False,id,D,d3,id,_,d0,K,d1,V,d2,D,d3,(oG af bA.za ab.eU I).use ?_⟩;rintro _ bB ⟨rfl,H⟩;have cf:=vB n.keys fr;have cg:=af.kids.len;have ch:=ab.len;obtain⟨hM,eo,bc,bt,rfl,rfl,aS,bC⟩:=bz fr;have N:=ac.trans H;have bD:=aa.trans (eM.ext b1 N);have bE:=x.ext N;have bF:=aN.go (bO.ext b1 N);have ag:=af.ext H;have ci:=aQ.ext H;have ck:=N.size;have cm:n.kids.length<=100000:=by omega
   have cn:c_ n.keys fr<D.len:=by omega
   obtain⟨A,au,co⟩:∃A,D.a=some A/\D.len<=D.cap:=by
    obtain⟨A,au,_⟩:=cY.at ag.kids (i:=0) I;exact⟨A,au,ag.kids.2.1⟩
   refine⟨_,rfl,H,⟨I,I⟩,λi w'=>∃ (j:Nat) (cW:aK) (Q:ad) (mC:O aM) (m qr:O Nat) (o ai:O aM),i=(j:Int)/\j<=D.len-c_ n.keys fr/\iB lo w' cW aR Q mC/\eM T cW w w' (2+2*m.length)/\eM b1 cW bB w' (2*m.length)/\Kids (λlo hi k p L=>eL T.P (g+1) lo hi k p L) (n.kids.drop (c_ n.keys fr+j)) qr ai/\eo=m++qr/\bt=o++ai/\hN fr to most.toNat acc o true mC,
    λi _=>((D.len:Int)-i).toNat,⟨0,b1,s2,acc,[],eo,[],bt,rfl,cL _,bE,bD.mono (by simp),.refl _ _,bC,rfl,rfl,.nil aO⟩,?_⟩
   rintro _ aW ⟨j,cW,Q,mC,m,qr,o,ai,rfl,cq,aY,r,R,S,rfl,rfl,d⟩;have bG:(((c_ n.keys fr:Nat):Int)).toNat=c_ n.keys fr:=dg _;rw[bG];refine⟨λaH=>?_,λbI=>?_⟩
   rotate_left
   .
    have bK:j=D.len-c_ n.keys fr:=by
     have:¬(j:Int)<((D.len-c_ n.keys fr:Nat):Int):=cH bI;omega
    have hd:n.kids.drop (c_ n.keys fr+j)=[]:=ru I;rw[hd]at S
    cases S;refine⟨cW,Q,mC,r.mono (by simp only[cp,fY,kW];omega),aY,.inl ⟨true,rfl,.skip (Da aS) ?_⟩⟩;rw[fu];exact d
   .have bK:j<D.len-c_ n.keys fr:=by
     have:(j:Int)<((D.len-c_ n.keys fr:Nat):Int):=cj aH;omega
    have aZ:c_ n.keys fr+j<n.kids.length:=by omega
    have bL:=R.to.iP ag;have bM:=bF.go R.to;have cr:=R.to.ah.size;obtain⟨cs,a0,c,al⟩:=cY.at bL.kids aZ;rw[au]at a0
    cases a0;obtain⟨u,a1⟩:∃u,u=n.kids[c_ n.keys fr+j]:=⟨_,rfl⟩;rw[←a1]at al;have bN:n.kids.drop (c_ n.keys fr+j)=u::n.kids.drop (c_ n.keys fr+j+1):=by rw[jW aZ,a1]
    rw[bN]at S
    cases S with
    | @cons bP bR _ _ am bT a2 bU bV bW=>
    have bX:cW.P=T.P:=r.P;have bZ:aW.cell? ((A.add (c_ n.keys fr)).add (Int.toNat (j:Int)*1))=some (.int .i64 (u:Int)):=by
     rw[dg,ft,add_add];rw[dg,ft]at al;exact al
    have b0:IntKind.wrap .i64 (((g+1+1:Nat):Int)-1)=((g+1:Nat):Int):=by rw[bn I I];omega
    have b2:IntKind.wrap .i64 ((j:Int)+1)=((j+1:Nat):Int):=by rw[bn I I];omega
    have b3:cW.bg=T.bg:=r.to.bg;simp only[fY,cp]at bh be;have b4:(mC.length:Int)<most/\mC.length<=acc.length+o.length:=by
     have b5:gT o:=(sw.1 (sw.1 bk).2.1).1;refine⟨?_,d.len b5⟩;rcases d with ⟨_,_,a3⟩|⟨a3,_⟩
     .omega
     .cases a3
    have ct:=r.to.a6;have a4:=ba (w:=aW) (T:=cW) (lo:=lo) (aR:=aR) (bg:=bg) (aV:=aV) (bf:=bf) (s:=Q) (fp:=fp) (fB:=fB) (acc:=mC) (L:=a2) (to:=to) (fr:=fr) (most:=most) (e7:=bP) (dN:=bR) (no:=u) (p:=am) aY I bM I (by rw[bX];exact bV) b4.1 I I;rw[b3]at a4;refine⟨A.add (c_ n.keys fr),by rw[au];exact IM I,⟨I,I⟩,u,bZ,?_⟩;rw[b0,b2];refine a4.use ?_;rintro _ b6 ⟨jd,an,ao,a5,ap,b7⟩;have ar:eM T jd w b6 (2+2*(m.length+am.length)):=(r.trans a5).mono I;rcases b7 with ⟨on,rfl,a9⟩|⟨rfl,U⟩
    .refine⟨on,0,rfl,λc=>?_,λc=>?_⟩
     .have c:on=false:=by simpa using c
      subst c;refine⟨jd,an,ao,ar.mono (by simp only[cp,fY];omega),ap,.inl ⟨false,rfl,.skip (Da aS) ?_⟩⟩;rw[←cz];exact(d.app a9).stop
     .have c:on=true:=by simpa using c
      subst c;refine⟨⟨j+1,jd,an,ao,m++am,bT,o++a2,bU,rfl,I,ap,?_,?_,?_,by rw[cz],by rw[cz],d.app a9⟩,?_⟩
      .rw[cp];exact ar
      .rw[cp];exact(R.trans a5).mono I
      .rw[←Nat.add_assoc];exact bW
      .show((D.len:Int)-((j+1:Nat):Int)).toNat<((D.len:Int)-(j:Int)).toNat
       omega
    .refine⟨false,3,rfl,λ_=>?_,λc=>(by simp at c)⟩
     refine⟨jd,an,ao,ar.mono (by simp only[cp,fY];omega),ap,.inr ⟨rfl,λhc=>U (r.to.calm _ (gf hc (by simp only[cp,fY];omega)))⟩⟩
def IP(T:aK)(L:O aM)(fr to:Key)(most:Int)(a:Nat)(w:J)(v:aa)(w':J):Prop:=
 ∃ar:aK,b8 w' ar/\eM T ar w w' (2*a)/\ar.G=T.G/\
  ((∃s:ad,v=.tuple #[s,(0:Int)]/\fh (λq=>¬ar.M q) w' s ((gM L fr to).take most.toNat))\/(v=.tuple #[(),(3:Int)]/\¬T.C.D.calm (2*a)))
theorem fh.none(B:Nat->Prop)(w:J):fh B w ⟨.none,0,0⟩ []:=(kP.none B w).r λq a=>(fZ q a).elim
theorem eM.back{T ar:aK}{w w':J}{k:Nat}(ht:b8 w T)(h:eM T ar w w' k)(b:b8 w' ar):b8 w' (ar.cu T.E T.G)/\eM T (ar.cu T.E T.G) w w' k:=
 ⟨b.grow (W:=λ_=>False) (af.refl _ _) (λ_ h=>h.elim) (λq a=>.inl (by rw[h.E];exact a)) (λq a=>.inr (.inl (h.G q a))) λq a=>(ht.dO q a).2.2,
  h.to.step (W:=λ_=>False) (af.refl _ _) (λ_ h=>h.elim) (λq a=>.inl (by rw[h.E];exact a)) (λq a=>.inl (h.G q a)),rfl,λ_ h=>h,h.root,h.aL,h.f,h.P,h.view⟩
theorem IQ{w:J}{T:aK}{pages:O Nat}{L:O aM}{fB fp:ad}{fr to:Key}{most:Int}(h:b8 w T)(H:gD T pages L)(cS:L.length<=30000)(an:T.C.D.a6+2*pages.length<=999999999)
 (hf:Src 1 w fB (az fr)) (u:∀q,aB fB q->q<w.heap.size/\¬T.M q) (ht:Src 1 w fp (az to)) (x:∀q,aB fp q->q<w.heap.size/\¬T.M q) (aS:to.length<=1000000):
 aJ aj 169 #[.pointer (some T.bg),fB,fp,most] w (IP T L fr to most pages.length w):=by
 have ao:=h.num.2.1;refine okF (ae.u3 (some T.bg) fB fp most) ax.u3 func169 ?_;(delta ae.u3 ak aF Y r1 nd;dsimp only);refine a8 (vs:=[fB]) rfl λw1 K N aT=>a8 (vs:=[fp]) rfl λai Q y aU=>a8 (vs:=[most]) rfl λR z o aW=>⟨λh=>(by cases h),λ_=>?_⟩;have A:=(N.trans y).trans o;have S:=h.ext A;refine⟨_,rfl,_,S.cells.2.2.2.2,cA (λb w'=>b=decide (T.aL=0\/most<1)/\R=w') (λq c=>⟨λd=>c _ _ ⟨?_,rfl⟩,λd=>⟨_,z.cell,c _ _ ⟨?_,rfl⟩⟩⟩) ?_⟩
 .have:T.aL=0:=by simpa using d
  simp[this]
 .have:T.aL≠0:=by simpa using d
  simp[this]
 rintro _ _ ⟨rfl,rfl⟩;refine⟨λd=>?_,λd=>?_⟩
 .have d:=cj d
  have e:(gM L fr to).take most.toNat=[]:=by
   rcases d with d|d
   .rcases H with ⟨_,_,_,ap⟩|g
    .rw[ap];simp[gM]
    .rw[d]at g;exact g.elim
   .have:most.toNat=0:=by omega
    rw[this,List.take_zero]
  refine⟨T,S,(eM.ext T A).mono I,rfl,.inl ⟨⟨none,0,0⟩,rfl,?_⟩⟩;rw[e];exact fh.none _ _
 have d:=cH d;have g:eL T.P T.aL none none T.root pages L:=by
  rcases H with ⟨aq,_⟩|g
  .exact absurd (.inl aq) d
  .exact g
 refine a8 (vs:=[()]) rfl λB U l aY=>aX ?_;have i:Ext B B.drew:=cG _;obtain⟨k,au⟩:∃k,k=B.drew:=⟨_,rfl⟩;rw[←au]at i⊢;obtain⟨aR,V⟩:∃aR,aR=R.heap.size:=⟨_,rfl⟩;obtain⟨aV,X⟩:∃aV,aV=w.heap.size:=⟨_,rfl⟩;obtain⟨bg,Z⟩:∃bg,bg=w1.heap.size:=⟨_,rfl⟩;obtain⟨bf,aa⟩:∃bf,bf=ai.heap.size:=⟨_,rfl⟩;rw[←V]at U;rw[←X]at K;rw[←Z]at Q;rw[←aa]at z;rw[←V,←X,←Z,←aa];have m:=(A.trans l).trans i;have aZ:=N.size;have a0:=y.size;have a1:=o.size;have a2:=l.size;have a3:=i.size;have ab:=U.ext i;have a4:=ab.lt;have F:∀q,w.heap.size<=q->¬T.M q:=λq c a=>by have:=h.lt a;omega
 obtain⟨bW,j⟩:∃bW,bW=T.cu T.E λq=>T.G q\/q=aR:=⟨_,rfl⟩;have av:b8 k bW:=by
  rw[j];refine h.grow (W:=λ_=>False) m (λ_ h=>h.elim) (λq c=>.inl c) (λq c=>.inr (c.imp id λe=>⟨I,I⟩)) λq c hg=>?_;rcases hg with hg|hg
  .exact(h.dO q c).2.2 hg
  .have:=h.lt (q:=q) (.inr (.inr (.inr (.inl c))));omega
 have aA:eM T bW w k 0:=by
  rw[j];exact⟨(bO.refl T w).step (W:=λ_=>False) m (λ_ h=>h.elim) (λq c=>.inl c) λq c=>c.imp id λe=>I,rfl,λ_ h=>.inl h,rfl,rfl,rfl,rfl,λ_=>rfl⟩
 have n:∀q,¬T.M q->q≠aR->¬bW.M q:=λq c aC a=>by
  rw[j]at a;rcases a with a|a|a|a|a
  .exact c (.inl a)
  .exact c (.inr (.inl a))
  .exact c (.inr (.inr (.inl a)))
  .exact c (.inr (.inr (.inr (.inl a))))
  .rcases a with a|a
   .exact c (.inr (.inr (.inr (.inr a))))
   .exact aC a
 have aD:bW.bg=T.bg:=by rw[j];rfl
 have ac:bW.C=T.C:=by rw[j];rfl
 have aE:bW.P=T.P:=by rw[j];rfl
 have aG:iB w.heap.size k bW aR ⟨none,0,0⟩ []:=⟨av,ab,kP.none _ _,by rw[j];exact .inr rfl,λq c=>(fZ q c).elim⟩;have ag:q6 k bW bg aV bf fp fB to fr most:=⟨(((Q.ext o).ext l).ext i),((((K.ext y).ext o).ext l).ext i),((z.ext l).ext i),n _ (F _ I) I,n _ (F _ I) I,n _ (F _ I) I,
  ht.ext m,hf.ext m,λq c=>⟨by have:=(x q c).1;omega,n q (x q c).2 (by have:=(x q c).1;omega)⟩,λq c=>⟨by have:=(u q c).1;omega,n q (u q c).2 (by have:=(u q c).1;omega)⟩,I⟩
 have ah:=IN T.aL (acc:=[]) (no:=T.root) (L:=L) (p:=pages) (e7:=none) (dN:=none) aG I ag ao (by rw[aE];exact g) (by show(((([]:O aM).length:Nat)):Int)<most;simp only[kW];omega) (by simp only[kW];omega) (by rw[ac];exact an);rw[aD]at ah;have al:=h.ext m;refine⟨λ_=>False,_,rfl,id,_,al.cells.2.2.2.1,_,rfl,id,_,al.cells.2.2.2.2,id,_,ag.wz.cell,af.refl _ _,ah.use ?_⟩;rintro _ aH ⟨ar,am,a5,aI,f,aN⟩;have s:eM T ar w aH (2*pages.length):=(aA.trans aI).mono I;obtain⟨cx,b3⟩:=s.back h f.t;rcases aN with ⟨on,rfl,aO⟩|⟨rfl,aP⟩
 .refine⟨on,0,rfl,λhx=>(by cases hx),λ_=>⟨am,f.v.cell,_,cx,b3,rfl,.inl ⟨am,rfl,?_⟩⟩⟩
  have he:=aO.all g.eU.1;rw[←he];have aQ:∀q,¬ar.M q->¬(ar.cu T.E T.G).M q:=λq c a=>c (by
   rcases a with a|a|a|a|a
   .exact .inl a
   .exact .inr (.inl a)
   .exact .inr (.inr (.inl a))
   .exact .inr (.inr (.inr (.inl (by rw[s.E];exact a))))
   .exact .inr (.inr (.inr (.inr (s.G q a)))))
  refine(f.own.a7 λq _ c=>aQ q c).r λq c a=>?_;obtain⟨aw,ay,a9⟩:=f.gs q c;rcases a with a|a|a|a|a
  .exact f.t.wi aw a
  .exact(f.t.jk q aw).1 a
  .exact(f.t.jk q aw).2 a
  .exact(f.t.dO q (by rw[s.E];exact a)).2.2 aw
  .have:=h.lt (q:=q) (.inr (.inr (.inr (.inr a))));omega
 .exact⟨false,3,rfl,λ_=>⟨_,cx,b3,rfl,.inr ⟨rfl,by rw[←ac];exact aP⟩⟩,λhx=>(by simp at hx)⟩
theorem Dc{w:J}{T:aK}(h:b8 w T):aJ aj 128 #[.pointer (some T.bg)] w (λv w'=>v=.tuple #[T.root,T.aL]/\Ext w w'):=by
 refine okF (ae.uY (some T.bg)) ax.uY func128 ?_;(delta ae.uY ak aF;dsimp only);have hd:=h.ext (cG w);exact⟨λh=>(by cases h),λ_=>aX ⟨_,rfl,id,_,hd.cells.2.2.2.1,_,rfl,id,_,hd.cells.2.2.2.2,rfl,cG w⟩⟩
theorem wA{w:J}{s:ad}{l:O UInt8}(h:Src 1 w s (az l)){i:Nat}(hi:i<l.length):∃A:ag,s.a=some A/\((0:Int)<=(i:Int)/\(i:Int)<(s.len:Int))/\w.cell? (A.add (Int.toNat (i:Int)*1))=some (.int .u8 ((l[i].toNat:Nat):Int)):=by
 obtain⟨A,au,b,hc⟩:=h.at (i:=i) (v:=.int .u8 ((l[i].toNat:Nat):Int)) (by simp[az,hi]);exact⟨A,au,b,hc⟩
theorem qD{w:J}{s t:ad}{a b:Key}(hs:Src 1 w s (az a))(ht:Src 1 w t (az b))(M:a.length<=1000000)(N:b.length<=1000000):
 aJ aj 100 #[s,t] w (λv w'=>∃n:Int,v=n/\(n<0↔bo a b)/\Ext w w'):=by
 have h1:=len8 hs;have h2:=len8 ht;refine okF (ae.qD s t) ax.qD func100 ?_;(delta ae.qD ak aP dm aq;dsimp only);refine⟨λn w'=>∃i:Nat,n=(i:Int)/\i<=a.length/\i<=b.length/\dE a b=dE (a.drop i) (b.drop i)/\Ext w w',λn _=>((a.length:Int)-n).toNat,⟨0,rfl,cL _,cL _,rfl,.refl _ _⟩,?_⟩;rintro _ l ⟨i,rfl,O,P,hc,hx⟩;refine⟨λaH=>?_,λm=>?_⟩
 .rw[c7,cq,cq]at aH
  have d:i<a.length:=by omega
  have f:i<b.length:=by omega
  have c:=Ext.trans hx (cG l);obtain⟨A,au,o,p⟩:=wA (hs.ext c) d;obtain⟨B,q,r,u⟩:=wA (ht.ext c) f;rw[jW d,jW f]at hc;have Q:=lq a[i];have R:=lq b[i];refine aX ⟨A,au,o,id,_,p,B,q,r,id,_,u,λg=>?_,λx=>?_⟩
  .have g:a[i].toNat≠b[i].toNat:=λe=>by rw[e]at g;simp at g
   have j:=Ext.trans c (cG _);obtain⟨y,z,C,D⟩:=wA (hs.ext j) d;obtain⟨E,F,G,H⟩:=wA (ht.ext j) f;refine aX ⟨y,z,C,id,_,D,E,F,G,id,_,H,_,rfl,?_,j⟩;rw[bn (n:=((a[i].toNat:Nat):Int)) I I,bn (n:=((b[i].toNat:Nat):Int)) I I,bn I I];unfold bo;rw[hc];unfold dE;rcases ec a[i].toNat b[i].toNat with h|h
   .rw[if_pos h]
    exact⟨λ_=>by decide,λ_=>I⟩
   .rw[if_neg I,if_pos I]
    exact⟨λ_=>I,λh=>absurd h (by decide)⟩
  .have he:a[i]=b[i]:=by
    have:((a[i].toNat:Nat):Int)=((b[i].toNat:Nat):Int):=by simpa using x
    exact rj.1 I
   have K:IntKind.wrap .i64 ((i:Int)+1)=((i+1:Nat):Int):=by rw[bn I I];omega
   rw[K];refine⟨⟨i+1,rfl,I,I,?_,c⟩,by show((a.length:Int)-((i+1:Nat):Int)).toNat<((a.length:Int)-(i:Int)).toNat;omega⟩;rw[hc]
   conv=>lhs;unfold dE
   rw[he,if_neg (by simp),if_neg (by simp)]
 .have S:a.length=i\/b.length=i:=by
   rw[Bool.and_eq_false_iff,jU,jU]at m;omega
  rw[bn I I];refine⟨_,rfl,?_,hx⟩;unfold bo;rw[hc];rcases ec i a.length with h|h
  .rw[jW h,ru (show b.length<=i from I)]
   exact⟨λL=>by exfalso;omega,λh=>absurd h (show¬((1:Int)<0) by decide)⟩
  .rw[ru (show a.length<=i from I)]
   rcases ec i b.length with k|k
   .rw[jW k]
    exact⟨λ_=>show((-1:Int)<0) by decide,λ_=>I⟩
   .rw[ru (show b.length<=i from I)]
    exact⟨λL=>by exfalso;omega,λh=>absurd h (show¬((0:Int)<0) by decide)⟩
theorem sS{α:Type}{c:α->O aa}{sz:Nat}:∀ (l:O α) (i:Nat),(∀x∈l,(c x).length=sz)->(bu c l).take (i*sz)=bu c (l.take i)/\(bu c l).drop (i*sz)=bu c (l.drop i)
 |l,0,_=>by simp[bu]
 | [],i+1,_=>by simp[bu]
 |x::l,i+1,h=>by
  obtain⟨h1,h2⟩:=sS l i λy a=>h y (by simp[a])
  have hx:=h x (by simp)
  have e:(i+1)*sz=(c x).length+i*sz:=by rw[ic,hx];omega
  rw[qV,e,List.take_length_add_append,List.drop_length_add_append,h1,h2]
  exact⟨rfl,rfl⟩
theorem IS(l:O (ad×ad)):(bu jm l).length=l.length*2:=fA _ (pq l)
section
variable {B C W:Nat->Prop}{w w':J}{s:ad}{ps Kk:O (ad×ad)}{L M:O aM}
theorem iA.take(h:iA B w ps L)(i:Nat):iA B w (ps.take i) (L.take i):=by
 refine⟨by simp[h.1],λj aw ay=>?_⟩;simp only[mW];exact h.2 _ (by rw[cI]at aw;omega) (by rw[cI]at ay;omega)
variable {Kl:O aa}{Km:TypeId}{bf:Nat}{key val:Key}{tk cQ:ad}
theorem Dd(h:fh B w s L){i:Nat}(hi:i<L.length):∃ (A:ag) (tk cQ:ad),s.a=some A/\((0:Int)<=(i:Int)/\(i:Int)<(s.len:Int))/\w.cell? (A.add (Int.toNat (i:Int)*2))=some (.slice tk.a tk.len tk.cap)/\w.cell? ((A.add (Int.toNat (i:Int)*2)).add 1)=some (.slice cQ.a cQ.len cQ.cap)/\
 bq B w tk L[i].1/\bq B w cQ L[i].2:=by
 obtain⟨A,tk,cQ,h1,_,b,c,d,e,f⟩:=h.at hi;rw[dg];exact⟨A,tk,cQ,h1,b,c,d,e,f⟩
theorem Src.IT(h:Src 2 w s (bu jm ps))(hc:s.len<=s.cap){lo hi:Nat}(h1:lo<=hi)(h2:hi<=ps.length):Src 2 w ⟨aY s.a 2 lo s.cap,hi-lo,s.cap-lo⟩ (bu jm ((ps.drop lo).take (hi-lo))):=by
 have b:=h.len;rw[IS]at b;have:=Src.cut h hc h1 (hi:=hi) I;rw[(sS ps lo (pq ps)).2,(sS (ps.drop lo) (hi-lo) (pq _)).1]at this;exact this
end
def zb(n:Nat)(root aL:Int):Prop:=0<=aL/\aL<=12/\0<=root/\root<n/\(root=0↔aL=0)
theorem qn{w:J}{C:b2}(hc:e9 w C)(sb:Nat)(gen root aL:Int):
 aJ aj 121 #[.pointer (some C.c),.pointer (some sb),.int .u64 gen,root,aL] w (λv w'=>
  (zb C.D.n root aL/\v=.tuple #[.pointer (some w.heap.size),(0:Int)]/\Ext w w'/\Var w' w.heap.size [.pointer (some C.c),.pointer (some sb),.int .u64 gen,root,aL] 243/\w'.heap.size=w.heap.size+1)\/
  (¬zb C.D.n root aL/\v=.tuple #[.pointer none,(1:Int)]/\w=w')):=by
 refine okF (ae.qn (some C.c) (some sb) gen root aL) ax.qn func121 ?_;delta ae.qn ak bY Y;refine cA (λb w'=>(b=false↔(0<=aL/\aL<=12/\0<=root/\root<C.D.n))/\w=w') (λq g=>⟨λh1=>g _ _ ⟨?_,rfl⟩,λh1=>⟨_,rfl,_,hc.cells.1,(v7 hc.dev).use ?_⟩⟩) ?_
 .simp only[Option.isNone_some,mO,iY,cq]at h1
  exact⟨λh=>(by cases h),λh=>I⟩
 .rintro _ _ ⟨rfl,rfl⟩
  simp only[Option.isNone_some,mO,rh,jU]at h1;refine⟨_,rfl,g _ _ ⟨?_,rfl⟩⟩;rw[jU];omega
 rintro b _ ⟨i,rfl⟩;refine⟨λh1=>.inr ⟨λhg=>?_,rfl,rfl⟩,λh1=>?_⟩
 .have h2:=i.2 ⟨hg.1,hg.2.1,hg.2.2.1,hg.2.2.2.1⟩
  rw[h2,mO]at h1;have d:=hg.2.2.2.2;by_cases a:root=0
  .rw[a,d.1 a]at h1;simp at h1
  .have f:aL≠0:=λe=>a (d.2 e)
   have j:(root==0)=false:=by simpa using a
   have k:(aL==0)=false:=by simpa using f
   rw[j,k]at h1
   cases h1
 .rw[rh]at h1
  have h2:=i.1 h1.1;have d:root=0↔aL=0:=by
   have a:=h1.2;by_cases f:root=0<;>by_cases l:aL=0<;>simp[f,l]at a⊢
  refine a8 (vs:=[.pointer (some C.c),.pointer (some sb),.int .u64 gen,root,aL]) rfl λo m hx hs=>.inl ⟨⟨h2.1,h2.2.1,h2.2.2.1,h2.2.2.2,d⟩,rfl,hx,m,hs⟩
theorem gD.rising{T:aK}{pages:O Nat}{L:O aM}(h:gD T pages L):gT L:=by
 rcases h with ⟨_,_,_,a⟩|b
 .rw[a];exact List.Pairwise.nil
 .exact b.eU.1
section
variable {w0 w w':J}{jL bf:Nat}{T ar:aK}{r h k:Nat}{pages:O Nat}{L lj:O aM}{ms:ad}
theorem b8.ko{kN:Nat}(ht:b8 w T)(a:T.E kN)(hc:af (λq=>q=kN) w w'):b8 w' T:=
 ht.grow (E:=T.E) (G:=T.G) hc (λq e _=>.inl (by rw[e];exact a)) (λq a=>.inl a) (λq a=>.inr (.inl a)) λq a=>(ht.dO q a).2.2
end
def aK.zc(T:aK)(f g:Nat->al)(s1 s2:ad):aK:={T with f:=f,g:=g,s1:=s1,s2:=s2}
section
variable {w0 w w':J}{jL bf:Nat}{T ar:aK}{r h k:Nat}{pages:O Nat}{L lj:O aM}{ms:ad}
theorem b8.space{f g:Nat->al}{s1 s2:ad}(ht:b8 w T)(hs:fg w' T.sb T.n f g s1 s2)(hc:af (gA T.sb T.s1 T.s2) w w')(hf:∀k,gA T.sb s1 s2 k->gA T.sb T.s1 T.s2 k\/w.heap.size<=k)(d:∀j,T.C.D.b7 j=true->g j=true\/T.C.D.ro)(e:g 0=true/\g 1=true):
 b8 w' (T.zc f g s1 s2)/\∀q,(T.zc f g s1 s2).M q->T.M q\/w.heap.size<=q:=by
 have c:∀q,T.X q->¬gA T.sb T.s1 T.s2 q->¬gA T.sb s1 s2 q:=λq hx a h2=>by
  rcases hf q h2 with b|b
  .exact a b
  .have:=ht.lt (q:=q) (.inr hx);omega
 refine⟨⟨ht.t.ah hc ht.kk,hs,ht.ca.grow hc (λq a _=>.inr (.inl a)) λq a=>?_,c _ (.inl rfl) ht.kk,λq a=>⟨(ht.dO q a).1,c q (.inr (.inr (.inl a))) (ht.dO q a).2.1,(ht.dO q a).2.2⟩,λq a=>⟨(ht.jk q a).1,c q (.inr (.inr (.inr a))) (ht.jk q a).2⟩,ht.n,ht.num,ht.eR,d,e⟩,λq a=>?_⟩
 .rcases a with a|a|a|a
  .exact .inl (.inl a)
  .rcases hf q a with b|b
   .exact .inl (.inr (.inl b))
   .exact .inr ⟨b,hs.lt q a⟩
  .exact .inl (.inr (.inr (.inl a)))
  .exact .inl (.inr (.inr (.inr a)))
 .rcases a with a|a|a|a|a
  .exact .inl (.inl a)
  .exact .inl (.inr (.inl a))
  .exact(hf q a).imp (λh=>.inr (.inr (.inl h))) id
  .exact .inl (.inr (.inr (.inr (.inl a))))
  .exact .inl (.inr (.inr (.inr (.inr a))))
theorem gD.agree{p:O Nat}(a:gD T p L)(b:ar.root=T.root)(c:ar.aL=T.aL)(d:∀x∈p,T.P x=ar.P x):gD ar p L:=by
 unfold gD at a⊢;rw[b,c];exact a.imp id λe=>(e.agree d).1
end
theorem IU{i n m:Nat}{a:Nat}(b:n=a)(h:(decide ((i:Int)<(n:Int))&&decide ((i:Int)<(m:Int)))=true):i<a/\i<m:=by
 rw[c7,cq,cq]at h;omega
theorem pr{i:Nat}(h:i<=1000000):IntKind.wrap .i64 ((i:Int)+1)=((i+1:Nat):Int):=by rw[bn I I];omega
section
variable {w0 w w':J}{jL bf:Nat}{T ar:aK}{r h k c:Nat}{pages aO:O Nat}{L lj bN:O aM}{V:Nat->dc}{ms l:ad}
end
section
variable {w0 w w':J}{jL bf:Nat}{T ar:aK}{r h k c:Nat}{pages aO:O Nat}{L lj bN:O aM}{V:Nat->dc}{ms l:ad}
theorem IV(w:J):Src 1 w bH (az []):=(aW.none 1 5 w).src
end
theorem De:∀ {a b:O Nat},a.Nodup->(∀x∈a,x∈b)->a.length<=b.length
 | [],_,_,_=>cL _
 |x::a,b,d,hs=>by
  obtain⟨h1,h2⟩:=List.nodup_cons.1 d
  have hx:=hs x (by simp)
  have:=De (a:=a) (b:=b.erase x) h2 λy c=>(List.mem_erase_of_ne (λe=>h1 (by rw[←e];exact c))).2 (hs y (jv _ c))
  rw[List.length_erase_of_mem hx]at this
  have:=List.length_pos_of_mem hx
  rw[fY];omega
theorem IW{t:Nat->al}{l:O Nat}(n:Nat)(h:∀i,i<n->t i=true->i∈l):eQ t n<=l.length:=by
 have h1:∀n,eQ t n=((List.range n).filter t).length:=by
  intro n
  induction n with
  |zero=>rfl
  |succ n a=>
   rw[List.range_succ,g1,cp,eQ,a,kX,List.filter_nil]
   cases t n<;>rfl
 rw[h1];refine De (List.nodup_range.filter t) λx hx=>?_;rw[gG,jV]at hx;exact h x hx.1 hx.2
section
variable {α:Type}{P:Program}{w w':J}{g4 lB T:TypeId}{enc:α->aa}{r m:Nat}{L:O (α×aa×Nat)}{seen:O Nat}
structure kQ(w:J)(r m:Nat)(enc:α->aa)(L:O (α×aa×Nat))(seen:O Nat):Prop where
 it:∃a:Nat,w.heap[r]? =some (.mapIter (some m) a seen.toArray a)/\w.heap[m]? =some (.map (L.map (en enc)).toArray a)/\∀x∈L,x.2.2<a
 b_:(L.map (·.2.2)).Nodup
def gh(L:O (α×aa×Nat))(seen:O Nat):O (α×aa×Nat):=L.filter λx=> !seen.contains x.2.2
theorem Df(P:Program){n:Nat}(b:1<=n)(w:J):∃ (i:Nat) (w':J),i<n/\(choose (.mapNext n)).run P w=.ok i w'/\(w'=w\/w'=w.drew):=by
 by_cases h:n<=1
 .refine⟨0,w,I,?_,.inl rfl⟩
  show Sem.run P (.choose (.mapNext n) .pure) w=_;have a:(Question.mapNext n).forced=true:=by simp[Question.forced,h]
  simp only[Sem.run,a,if_true]
 .refine⟨(Question.mapNext n).cut (w.tape w.drawn (.mapNext n)),w.drew,gZ _ I,?_,.inr rfl⟩
  show Sem.run P (.choose (.mapNext n) .pure) w=_;have a:(Question.mapNext n).forced=false:=by simp[Question.forced,h]
  simp only[Sem.run,a,fT,if_false];rfl
theorem zd{a:av Nat}{b d:Nat}{c:Array Nat}(h:w.heap[r]? =some (.mapIter a b c d)):(getObj r).run P w=.ok (.mapIter a b c d) w:=by simp[getObj,Sem.run,h]
theorem IX{a:av Nat}{b d:Nat}{c:Array Nat}(h:w.heap[r]? =some (.mapIter a b c d))(e:Obj):(setObj r e).run P w=.ok () (iq w r e):=by simp[setObj,Sem.run,h,iq]
theorem kQ.begin{M:O (α×aa)}(h:eB w m enc M){T:TypeId}{g4 lB:TypeId}(b:P.underlying T=some (.map g4 lB)):∃ (L:O (α×aa×Nat)) (w1:J),(L.map mc).Perm M/\(Instr.range T (.map (some m))).run P w=.ok (.pointer (some w.heap.size)) w1/\kQ w1 w.heap.size m enc L []/\Ext w w1/\w1.heap.size=w.heap.size+1:=by
 have aH:=h.lt;obtain⟨L,a,h1,h2,e,c,d⟩:=h;refine⟨L,w.alloc (.mapIter (some m) a #[] a),h2,?_,⟨⟨a,?_,?_,d⟩,c⟩,af.alloc (.refl _ _) _,by simp⟩
 .simp only[Instr.range,Sem.run_bind,cZ b,Result.andThen,mf h1,Sem.run_pure,newObj,Sem.run]
  rfl
 .show(w.heap.push _)[w.heap.size]? =_
  simp
 .show(w.heap.push _)[m]? =_
  rw[Array.getElem?_push_lt aH];exact(Array.getElem?_eq_getElem aH).symm.trans h1
theorem kQ.next(h:kQ w r m enc L seen)(E:r≠m)(T:TypeId):
 (gh L seen=[]/\∃w1,(Instr.next (.pointer (some r)) false T).run P w=.ok (.tuple #[false]) w1/\Ext w w1/\w1.heap=w.heap)\/
 (∃x∈gh L seen,∃w1,(Instr.next (.pointer (some r)) false T).run P w=.ok (.tuple #[true,enc x.1,x.2.1]) w1/\kQ w1 r m enc L (seen++ [x.2.2])/\af (λq=>q=r) w w1/\w1.heap.size=w.heap.size/\(Instr.entry (.pointer (some r))).run P w1=.ok (.tuple #[enc x.1,x.2.1]) w1):=by
 obtain⟨⟨a,h1,h2,d⟩,j⟩:=h;have k:(!seen.toArray.isEmpty&& !((L.map (en enc)).toArray).isEmpty&&((L.map (en enc)).toArray).all λe=>decide (e.born>=a))=false:=by
  cases L with
  |nil=>simp
  |cons x L=>
   have:¬a<=x.2.2:=by have:=d x (by simp);omega
   simp[en,this]
 have f:((L.map (en enc)).toArray.filter λe=> !seen.toArray.contains e.born)=((gh L seen).map (en enc)).toArray:=by
  rw[List.filter_toArray,List.filter_map]
  congr 1
  unfold gh
  congr 1
  apply pJ;intro x _;simp only[Function.comp,en,List.contains_toArray]
 have aH:∀x∈gh L seen,x.2.2<a:=λx hx=>d x (gG.1 hx).1;have hold:(((gh L seen).map (en enc)).toArray.filter λe=>decide (e.born<a))=((gh L seen).map (en enc)).toArray:=by
  rw[List.filter_toArray,ie.2];intro e he;obtain⟨x,hx,rfl⟩:=fD.1 he;exact dI (aH x hx)
 have g:(((gh L seen).map (en enc)).toArray.filter λe=>decide (e.born>=a))= #[]:=by
  rw[List.filter_toArray,lr.2];intro e he;obtain⟨x,hx,rfl⟩:=fD.1 he;have:=aH x hx;have F:¬a<=x.2.2:=by omega
  simp[en,F]
 cases b:gh L seen with
 |nil=>
  rw[b]at f hold g;obtain⟨i,w1,hi,hc,c⟩:=Df P (n:=1) (bl _) w;have G:i=0:=by omega
  subst G;refine .inl ⟨rfl,w1,?_,?_,?_⟩
  .simp only[Instr.next,Sem.run_bind,zd h1,Result.andThen,mf h2,k,fT,if_false,f,hold,g]
   simp only[List.map_nil,Array.isEmpty,tc,kW,decide_true,if_true];have e:(#[none]++((#[]:Array MapEntry)++ #[]).map some:Array (av MapEntry)).size=1:=by simp
   have o:((#[none]++((#[]:Array MapEntry)++ #[]).map some:Array (av MapEntry)))[0]? =some none:=by simp
   simp only[e,Sem.run_bind,hc,Result.andThen,o,Sem.run_pure,Sem.run_pure]
  .rcases c with rfl|rfl
   .exact .refl _ _
   .exact af.drew (.refl _ _)
  .rcases c with rfl|rfl<;>rfl
 |cons y l=>
  right;rw[←b];have v:1<=(gh L seen).length:=by rw[b];simp
  obtain⟨i,w1,hi,hc,c⟩:=Df P (n:=(gh L seen).length) v w;have p:w1.heap=w.heap:=by rcases c with rfl|rfl<;>rfl
  obtain⟨x,hx⟩:∃x,x=(gh L seen)[i]:=⟨_,rfl⟩;have s:x∈gh L seen:=by rw[hx];exact cN _
  have A:x∈L:=(gG.1 s).1;have B:w1.heap[r]? =some (.mapIter (some m) a seen.toArray a):=by rw[p];exact h1
  have H:r<w1.heap.size:=(lp.1 B).1;have t:(iq w1 r (.mapIter (some m) a (seen.toArray.push x.2.2) a)).heap[r]? =some (.mapIter (some m) a (seen++ [x.2.2]).toArray a):=by
   rw[tN H];simp
  have u:(iq w1 r (.mapIter (some m) a (seen.toArray.push x.2.2) a)).heap[m]? =some (.map (L.map (en enc)).toArray a):=by
   have C:w1.heap[m]? =some (.map (L.map (en enc)).toArray a):=by rw[p];exact h2
   rw[(rV w1 r _).block m (lp.1 C).1 (λe=>E e.symm)];exact C
  refine⟨x,s,iq w1 r (.mapIter (some m) a (seen.toArray.push x.2.2) a),?_,⟨⟨a,t,u,d⟩,j⟩,?_,?_,?_⟩
  .simp only[Instr.next,Sem.run_bind,zd h1,Result.andThen,mf h2,k,fT,if_false,f,hold,g]
   have I:((gh L seen).map (en enc)).toArray.isEmpty=false:=by rw[b];rfl
   have e:((#[]:Array (av MapEntry))++(((gh L seen).map (en enc)).toArray++ #[]).map some).size=(gh L seen).length:=by simp
   have o:((#[]:Array (av MapEntry))++(((gh L seen).map (en enc)).toArray++ #[]).map some)[i]? =some (some (en enc x)):=by
    simp[hi,hx]
   simp only[I,fT,if_false,e,Sem.run_bind,hc,Result.andThen,o,IX B,Sem.run_pure,en]
  .have J:af (λq=>q=r) w w1:=by
    rcases c with rfl|rfl
    .exact .refl _ _
    .exact af.drew (.refl _ _)
   exact J.trans (rV _ _ _)
  .rw[tM,p]
  .have K:(seen++ [x.2.2]).toArray.back? =some x.2.2:=by simp
   have hf:((L.map (en enc)).toArray.find? λe=>e.born==x.2.2)=some (en enc x):=by
    rw[List.find?_toArray,List.find?_map];have:L.find? ((λe:MapEntry=>e.born==x.2.2)∘en enc)=some x:=by
     clear b v hi hc s hx t u f hold g aH k h2 d
     induction L with
     |nil=>cases A
     |cons z L M=>
      rw[g0]at j;obtain⟨cc,bA⟩:=List.nodup_cons.1 j;rw[List.find?_cons];rcases cX.1 A with rfl|D
      .simp[en]
      .have N:z.2.2≠x.2.2:=λe=>cc (by rw[e];exact fD.2 ⟨x,D,rfl⟩)
       have:((λe:MapEntry=>e.born==x.2.2)∘en enc) z=false:=by simp[en,N]
       rw[this];exact M bA D
    rw[this];rfl
   have O:(a !=a)=false:=by simp
   simp only[Instr.entry,Sem.run_bind,zd t,Result.andThen,K,mf u,O,fT,if_false,hf,Sem.run_pure,en]
theorem eB.clear{M:O (α×aa)}(h:eB w m enc M){o:TypeId}(b:P.underlying T=some (.map g4 lB)):∃w1,(Builtin.clear_ #[T] o #[.map (some m)]).run P w=.ok (.tuple #[]) w1/\eB w1 m enc ([]:O (α×aa))/\af (λq=>q=m) w w1/\w1.heap.size=w.heap.size:=by
 have aH:=h.lt;obtain⟨L,a,h1,h2,c,d,e⟩:=h;refine⟨iq w m (.map #[] a),?_,⟨[],a,tN aH _,by simp,by simp,by simp,by simp⟩,rV _ _ _,tM _ _ _⟩;unfold Builtin.clear_;simp only[ri,mN,Sem.run_bind,cZ b,Result.andThen,mf h1,xr h1,Sem.run_pure]
end
theorem IY{w:J}{lb:Nat}{ls:O dc}{T:TypeId}(h:bm w lb (bu az ls).toArray T)(hs:∀x∈ls,x.length=256){i:Nat}(hi:i<ls.length){x:dc}(hx:x.length=256):
 bI w ⟨lb,i*256,none⟩ (az x)/\bm (setCells w ⟨lb,i*256,none⟩ 0 (az x)) lb (bu az (ls.set i x)).toArray T/\af (λq=>q=lb) w (setCells w ⟨lb,i*256,none⟩ 0 (az x)):=by
 have a:∀x∈ls,(az x).length=256:=λx hx=>by rw[c4];exact hs x hx
 have f:=fA (c:=az) ls a;have b:(az x).length=256:=by rw[c4];exact hx
 have d:i*256+(az x).length<=(bu az ls).toArray.size:=by
  rw[tc,f,b];omega
 refine⟨bm.cl h _ _ d (iM _),?_,af.jC (.refl _ _) _ 0⟩;have h0:=bm.k5 (o:=i*256) h (az x);have h1:=k4 (az x) (bu az ls).toArray (i*256) d;have h2:=B1 a hi x;rw[b]at h1;have g:(gk (bu az ls).toArray (i*256) (az x)).toList=bu az (ls.set i x):=h1.trans h2;have e:gk (bu az ls).toArray (i*256) (az x)=(bu az (ls.set i x)).toArray:=by rw[←g]
 rw[e]at h0;exact h0
theorem IZ{α:Type}{L:O (α×aa×Nat)}{seen:O Nat}{x:α×aa×Nat}(h:x∈gh L seen):(gh L (seen++ [x.2.2])).length<(gh L seen).length:=by
 have e:gh L (seen++ [x.2.2])=(gh L seen).filter λy=> !(y.2.2==x.2.2):=by
  unfold gh;rw[List.filter_filter];apply pJ;intro y _;rw[fC];simp only[iE,c7,List.contains_eq_mem,jU,cK,fb,beq_eq_false_iff_ne];constructor
  .exact λh=>⟨λh2=>h (.inr h2),λh2=>h (.inl h2)⟩
  .rintro⟨h1,h2⟩ (a|a)
   .exact h2 a
   .exact h1 a
 rw[e];exact List.length_filter_lt_length_iff_exists.2 ⟨x,h,by simp⟩
def ze{α:Type}(L:O (α×aa×Nat))(r:Nat)(w:J):Nat:=match w.heap[r]? with
 |some (.mapIter _ _ seen _)=>(gh L seen.toList).length
 |_=>0
theorem kQ.left{α:Type}{w:J}{r m:Nat}{enc:α->aa}{L:O (α×aa×Nat)}{seen:O Nat}(h:kQ w r m enc L seen):ze L r w=(gh L seen).length:=by
 obtain⟨⟨a,h1,_⟩,_⟩:=h;unfold ze;rw[h1]
theorem kQ.ah{α:Type}{W:Nat->Prop}{w w':J}{r m:Nat}{enc:α->aa}{L:O (α×aa×Nat)}{seen:O Nat}(h:kQ w r m enc L seen)(hc:af W w w')(a:¬W r)(b:¬W m):kQ w' r m enc L seen:=by
 obtain⟨⟨c,h1,h2,d⟩,e⟩:=h;exact⟨⟨c,by rw[hc.block r (lp.1 h1).1 a];exact h1,by rw[hc.block m (lp.1 h2).1 b];exact h2,d⟩,e⟩
def ba.iV(D:ba):ba:={D with b4:=(List.range D.n).map D.now,waits:=[]}
theorem sT(D:ba):D.iV.n=D.n:=by simp[ba.iV,ba.n]
theorem zf(D:ba){i:Nat}(hi:i<D.n):D.iV.now i=D.now i:=by
 show((List.range D.n).map D.now).getD i []=_;rw[fz (by simp;exact hi)];simp
def I0(D:ba)(w:J)(v:aa)(w':J):Prop:=
 (D.fX 3=true/\v=.int .i64 3/\dd w' (D.cD 3)/\af (λq=>q=D.d) w w')\/
 (D.fX 3=false/\v=.int .i64 0/\dd w' (D.cD 3).iV/\af (cm D) w w')
theorem zg{w:J}{D:ba}(h:dd w D)(bo:D.a6<=1000000000):aJ aj 59 #[.pointer (some ⟨D.d,0,none⟩)] w (I0 D w):=by
 refine okF (ae.uD (some ⟨D.d,0,none⟩)) ax.uD func59 ?_;(delta ae.uD ak b6 xA r1 p5 aP xH;dsimp only);refine⟨λh1=>(by cases h1),λ_=>⟨_,rfl,(yF h (k:=3) (by decide)).use ?_⟩⟩;rintro _ ai ⟨rfl,f,ac,bp⟩;obtain⟨bE,p⟩:∃bE,bE=D.cD 3:=⟨_,rfl⟩;have aG:bE.d=D.d:=by rw[p];rfl
 have bq:bE.lb=D.lb:=by rw[p];rfl
 have aH:bE.mr=D.mr:=by rw[p];rfl
 have aI:bE.n=D.n:=by rw[p];rfl
 have aK:cm bE=cm D:=by rw[p];rfl
 have br:bE.a6=D.a6:=by rw[p];rfl
 rw[←p]at f;refine⟨_,rfl,λC=>.inl ⟨C,rfl,by rw[←p];exact f,ac⟩,λC=>?_⟩;rw[←aG];have ad:=f.bA;obtain⟨L,ag,al,am,an,ao,bs⟩:=kQ.begin (P:=aj) f.m nC;obtain⟨r,aL⟩:∃r,r=ai.heap.size:=⟨_,rfl⟩;rw[←aL]at am an;have aM:r≠bE.mr:=by have:=f.m.lt;omega
 have ap:∀q,cm bE q->q≠r:=λq E e=>by have:=f.lt E;omega
 have aN:∀x∈L,∃y∈bE.waits,x.1=(y.i:Int):=λx hx=>by
  have:=al.mem_iff.1 (fD.2 ⟨x,hx,rfl⟩);obtain⟨y,t,e⟩:=fD.1 this;refine⟨y,t,?_⟩;have:=congrArg Prod.fst e;exact this.symm
 have aO:∀y∈bE.waits,∃x∈L,x.1=(y.i:Int):=λy t=>by
  have:y.e∈L.map mc:=al.mem_iff.2 (fD.2 ⟨y,t,rfl⟩);obtain⟨x,hx,e⟩:=fD.1 this;exact⟨x,hx,congrArg Prod.fst e⟩
 refine⟨_,rfl,some bE.mr,f.iR,_,ag,am,λw'=>∃ (seen:O Nat) (ls:O dc),kQ w' r bE.mr encZ L seen/\dd w' {bE with b4:=ls}/\ls.length=bE.n/\(∀ (j:Nat) (F:j<ls.length),ls[j]=if ∃x∈L,x.2.2∈seen/\x.1=(j:Int) then bE.now j else bE.b4.getD j [])/\af (λq=>cm bE q) ai w'/\ag.heap.size<=w'.heap.size,
  ze L r,⟨[],bE.b4,an,f.ext ao,rfl,λj F=>?_,af.c0 ao,bl _⟩,?_⟩
 .rw[if_neg (by rintro⟨x,_,h1,_⟩;cases h1),fz F]
 rintro aq ⟨seen,ls,Q,u,A,jA,H,bt⟩;have R:∀s∈ls,s.length=256:=u.sl;have bv:r<aq.heap.size:=by omega
 have aQ:bE.lb≠r:=ap _ (.inr (.inl rfl));rcases Q.next (P:=aj) aM 0 with ⟨aR,aS,S,ar,bw⟩|⟨x,hx,I,S,aT,av,bx,aU⟩
 .
  refine .inr ⟨aS,S,λh=>(by cases h),λ_=>?_⟩;have K:=u.ext ar;obtain⟨aV,aW,aY,T,bz⟩:=eB.clear (P:=aj) (o:=0) K.m nC;refine⟨_,rfl,some bE.mr,K.iR,_,aV,aW,.inr ⟨C,rfl,?_,?_⟩⟩
  .have aZ:∀x∈L,x.2.2∈seen:=λx hx=>by
    have:=lr.1 aR x hx;simpa using this
   have a0:ls=(List.range D.n).map D.now:=by
    refine mV (by simp[A,aI]) λj h1 h2=>?_;rw[jA j h1,List.getElem_map,List.getElem_range];have U:D.now j=bE.now j:=by rw[p];rfl
    rw[U];split
    .rfl
    .rename_i a4
     unfold ba.now
     cases hf:bE.waits.find? λx=>x.i==j with
     |some y=>
      exfalso;have t:=j0 hf;have a5:y.i=j:=by simpa using kU hf
      obtain⟨x,hx,e⟩:=aO y t;exact a4 ⟨x,hx,aZ x hx,by rw[e,a5]⟩
     |none=>rfl
   have V:bE.d≠bE.mr:=f.a1.2.1;have a7:bE.lb≠bE.mr:=f.a1.2.2;have e:(D.cD 3).iV={bE with b4:=ls,waits:=[]}:=by
    rw[a0,p];rfl
   rw[e];refine⟨K.v.ah T V,bm.ah K.l T a7,aY,λx hx=>(by cases hx),λx hx=>(by cases hx),R,λx hx=>(by cases hx),?_,?_,u.f4,u.fr,u.a1,λx hx=>(by cases hx),λx hx=>(by cases hx),u.r⟩
   .show 16<=ls.length;rw[A];exact f.cc
   .show ls.length<=1600;rw[A];exact ad
  .have a8:cm D D.d:=.inl rfl
   have hc:af (λq=>cm D q) w ai:=ac.mono λq _ e=>by rw[e];exact a8
   have H:af (λq=>cm D q) ai aq:=by rw[←aK];exact H
   have a9:=c2 hc H λq _ h=>h;have a_:=c2 a9 ar λq _ h=>h.elim;exact c2 a_ T λq _ bb=>by rw[bb,aH];exact .inr (.inr (.inl rfl))
 .
  have W:x∈L:=(gG.1 hx).1;have bB:x.2.2∉seen:=by
   have:=(gG.1 hx).2;simpa using this
  obtain⟨y,t,X⟩:=aN x W;have bc:=u.ah av λq E=>ap q E;have hi:y.i<bE.n:=(f.wn y t).2.1;have bd:y.i<ls.length:=by omega
  refine .inl ⟨_,_,I,S,λ_=>⟨(y.i:Int),x.2.1,I,?_,?_⟩,λh=>(by cases h)⟩
  .rw[aU]
   have e:encZ x.1=.int .i64 ((y.i:Nat):Int):=by rw[X]
   rw[e]
  have aw:=cG I;have Y:=bc.ext aw;have be:({bE with b4:=ls}:ba).n=bE.n:=A;refine aX ⟨λ_=>False,_,rfl,id,⟨some ⟨bE.lb,0,none⟩,ls.length,ls.length⟩,Y.fF,(B4 (i:=y.i) Y (by rw[be];exact hi) (by show bE.a6<=_;omega)).use ?_⟩;rintro _ M ⟨rfl,Z⟩;have g:=Y.ext Z;have U:({bE with b4:=ls}:ba).now y.i=bE.now y.i:=by
   unfold ba.now
   cases hf:bE.waits.find? λx=>x.i==y.i with
   |some z=>rfl
   |none=>
    have:=jZ.1 hf y t;simp at this
  have aa:(bE.now y.i).length=256:=f.sH hi;rw[U];have au:Addr.add ⟨bE.lb,0,none⟩ (Int.toNat ((y.i:Nat):Int)*256)=⟨bE.lb,y.i*256,none⟩:=by rw[dg,aA,cR]
  obtain⟨b9,ct,bf⟩:=IY g.l R bd aa;refine⟨_,rfl,Z,_,rfl,⟨by omega,by show((y.i:Nat):Int)<((ls.length:Nat):Int);omega⟩,by rw[au];exact b9,by simp[c4,aa],?_⟩;rw[au];refine aX ?_;show _/\_;have ay:bm (setCells M ⟨bE.lb,y.i*256,none⟩ 0 (az (bE.now y.i)).toArray.toList) bE.lb (bu az (ls.set y.i (bE.now y.i))).toArray 151:=ct;have B:af (λq=>q=bE.lb) M (setCells M ⟨bE.lb,y.i*256,none⟩ 0 (az (bE.now y.i)).toArray.toList):=bf;generalize setCells M ⟨bE.lb,y.i*256,none⟩ 0 (az (bE.now y.i)).toArray.toList=aB at ay B;have ab:=Ext.trans aw Z;have aC:=(aT.ah ab id id).ah B (λe=>aQ e.symm) λe=>f.a1.2.2 e.symm;have bg:af (λq=>cm bE q) ai aB:=by
   have h1:af (λq=>cm bE q) ai I:=c2 H av λq E e=>by omega
   have h2:=c2 h1 ab λq _ h=>h.elim;exact c2 h2 B λq _ e=>by rw[e];exact .inr (.inl rfl)
  have bC:=ab.size;have bD:=B.size;have bh:dd aB {bE with b4:=ls.set y.i (bE.now y.i)}:=by
   have V:bE.d≠bE.lb:=f.a1.1;refine⟨?_,ay,g.m.ah B λe=>f.a1.2.2 e.symm,λx hx=>(g.ws x hx).ah B λq E e=>(g.a2 x hx).2.1 (by rw[←e];exact E),?_,λs hs=>?_,g.nD,?_,?_,g.f4,g.fr,g.a1,g.a2,g.a3,g.r⟩
   .have h1:=g.v.ah B V
    have e:({bE with b4:=ls.set y.i (bE.now y.i)}:ba).c=({bE with b4:=ls}:ba).c:=by unfold ba.c;simp
    rw[e];exact h1
   .intro z bi
    have:=g.wn z bi;refine⟨this.1,?_,this.2.2⟩;show z.i<(ls.set y.i (bE.now y.i)).length;rw[dj];exact this.2.1
   .rcases mX hs with h1|rfl
    .exact R s h1
    .exact aa
   .show 16<=(ls.set y.i (bE.now y.i)).length;rw[dj,A];exact f.cc
   .show(ls.set y.i (bE.now y.i)).length<=1600;rw[dj,A];exact ad
  refine⟨⟨seen++ [x.2.2],_,aC,bh,by rw[dj];exact A,λj F=>?_,bg,by omega⟩,?_⟩
  .rw[dj]at F
   rw[nT];split
   .rename_i e
    subst e;rw[if_pos ⟨x,W,by simp,X⟩]
   .rename_i bj
    rw[jA j F];have:(∃G∈L,G.2.2∈seen/\G.1=(j:Int))↔∃G∈L,G.2.2∈seen++ [x.2.2]/\G.1=(j:Int):=by
     constructor
     .rintro⟨z,h1,h2,N⟩
      exact⟨z,h1,jY _ h2,N⟩
     .rintro⟨z,h1,h2,N⟩
      rcases cK.1 h2 with h2|h2
      .exact⟨z,h1,h2,N⟩
      .have bk:z=x:=by
        have aD:=Q.b_;obtain⟨a,aE,rfl⟩:=fj h1;obtain⟨b,C,rfl⟩:=fj W;have aF:=fb.1 h2;have bn:a=b:=by
         rcases Nat.lt_trichotomy a b with h|h|h
         .have:=lv.1 aD a b (by simpa using aE) (by simpa using C) h
          simp at this;exact absurd aF this
         .exact h
         .have:=lv.1 aD b a (by simpa using C) (by simpa using aE) h
          simp at this;exact absurd aF.symm this
        subst bn;rfl
       rw[bk,X]at N;exact absurd (by omega) bj
    simp only[this]
  .rw[aC.left,Q.left]
   exact IZ hx
structure eI where
 an:Nat
 batch:Nat
 iL:Nat
def eI.c(l:eI):O aa:=[l.an,l.batch,.int .u64 (l.iL:Nat)]
def pt(f b d:Int):Prop:=8<=f/\f<=64/\1<=b/\b<=1000/\1<=d/\d<=1048576
instance Kn(f b d:Int):Decidable (pt f b d):=by unfold pt;infer_instance
section
variable {w w':J}{D:ba}
theorem qg(w:J)(p:av ag)(f b d:Int):aJ aj 53 #[.pointer p,.agg #[f,b,.int .u64 d]] w (λv w'=>v=.bool (!(Option.isNone p)&&decide (pt f b d))/\Ext w w'):=by
 refine okF (ae.qg p f b d) ax.qg func53 ?_;(delta ae.qg ak aF Y cr;dsimp only);refine a8 (vs:=[f,b,.int .u64 d]) rfl λw1 c hx hs=>?_;refine cA (λx w'=>x=(!(Option.isNone p)&&decide (8<=f))/\w1=w') (λq a=>⟨λh=>⟨f,c.cell,a _ _ ⟨by rw[h,ib],rfl⟩⟩,λh=>a _ _ ⟨by rw[h,kV],rfl⟩⟩) ?_;rintro e _ ⟨h1,rfl⟩;refine cA (λx w'=>x=(e&&decide (f<=64))/\w1=w') (λq a=>⟨λh=>⟨f,c.cell,a _ _ ⟨by rw[h,ib],rfl⟩⟩,λh=>a _ _ ⟨by rw[h,kV],rfl⟩⟩) ?_;rintro g _ ⟨h2,rfl⟩;refine cA (λx w'=>x=(g&&decide (1<=b))/\w1=w') (λq a=>⟨λh=>⟨b,by rw[aA];exact c.cell,a _ _ ⟨by rw[h,ib],rfl⟩⟩,λh=>a _ _ ⟨by rw[h,kV],rfl⟩⟩) ?_;rintro i _ ⟨j,rfl⟩;refine cA (λx w'=>x=(i&&decide (b<=1000))/\w1=w') (λq a=>⟨λh=>⟨b,by rw[aA];exact c.cell,a _ _ ⟨by rw[h,ib],rfl⟩⟩,λh=>a _ _ ⟨by rw[h,kV],rfl⟩⟩) ?_;rintro k _ ⟨l,rfl⟩;refine cA (λx w'=>x=(k&&decide (1<=d))/\w1=w') (λq a=>⟨λh=>⟨d,by rw[aA];exact c.cell,a _ _ ⟨by rw[h,ib],rfl⟩⟩,λh=>a _ _ ⟨by rw[h,kV],rfl⟩⟩) ?_;rintro m _ ⟨n,rfl⟩;refine cA (λx w'=>x=(m&&decide (d<=1048576))/\w1=w') (λq a=>⟨λh=>⟨d,by rw[aA];exact c.cell,a _ _ ⟨by rw[h,ib],rfl⟩⟩,λh=>a _ _ ⟨by rw[h,kV],rfl⟩⟩) ?_;rintro r _ ⟨o,rfl⟩;refine⟨?_,hx⟩;rw[o,n,l,j,h2,h1,Value.bool.injEq,fC];simp only[c7,cq,and_assoc];exact Iff.rfl
theorem wB{D:ba}{no:Nat}{s:ad}{l:dc}{N:Nat}(a:∀q,aB s q->cm D q\/N<=q):∀q,cm (D.put no s l) q->cm D q\/N<=q:=by
 rintro q (e|e|e|⟨x,hx,e⟩)
 .exact .inl (.inl e)
 .exact .inl (.inr (.inl e))
 .exact .inl (.inr (.inr (.inl e)))
 .rcases cX.1 hx with rfl|hx
  .exact a q e
  .exact .inl (.inr (.inr (.inr ⟨x,(gG.1 hx).1,e⟩)))
def I1(D:ba)(u:eP)(gen:Nat)(w:J)(v:aa)(w':J):Prop:=
 af (cm D) w w'/\((D.fX 2=true/\v=.int .i64 3/\dd w' (D.cD 2))\/
 (D.fX 2=false/\∃s:ad,(∀q,aB s q->cm D q\/w.heap.size<=q)/\∃bE:ba,bE=D.put (gen%2) s (eE (gen%2) (jN u D.n gen))/\
   ((bE.fX 3=true/\v=.int .i64 3/\dd w' (bE.cD 3))\/(bE.fX 3=false/\v=.int .i64 0/\dd w' (bE.cD 3).iV))))
theorem nh(h:dd w D)(P:D.a6<=999999999){u:eP}(hu:nE u){gen:Nat}(hg:gen<18446744073709551616):
 aJ aj 60 #[.pointer (some D.d),.agg u.c.toArray,.int .u64 (gen:Nat)] w (I1 D u gen w):=by
 have Q:=h.cc;have R:=h.bA;refine ae.EV _ (u.root:Nat) (u.aL:Nat) (u.map:Nat) (u.clock:Nat) (u.dn:Nat) (u.keys:Nat) (gen:Nat) w _ ?_;(delta ae.nh Y aF cr bY bD ey aq ak;dsimp only);have A:IntKind.wrap .i64 (Int.tmod (gen:Int) 2)=((gen%2:Nat):Int):=by
  rw[mT I,bn I I];omega
 refine a8 (vs:=u.c) rfl λw1 B j S=>⟨by decide,?_⟩;have a:=cG w1;have C:=B.ext a;have E:=h.ext (j.trans a);refine aX ⟨λ_=>False,id,q1 C ((v7 E).use ?_)⟩;rintro _ _ ⟨rfl,rfl⟩;refine⟨_,rfl,af.refl _ _,(ql hu (n:=D.n) I).use ?_⟩;rintro _ F ⟨k,rfl,G,t,T⟩;rw[A];refine⟨k,rfl,λ_=>False,#[(3:Int),.int .u64 (gen:Nat),k],λU=>by kernel_rfl,(vP (s:=k) (p:=jN u D.n gen) G.src I (yK hg)).use ?_⟩;rintro _ V ⟨H,rfl,J,v,K⟩;have b:=(j.trans a).trans (Ext.trans t v);have L:=h.ext b;have W:=b.size;have M:(eE (gen%2) (jN u D.n gen)).length=256:=sy _ (yK hg);have X:w.heap.size<=F.heap.size:=by have:=(j.trans a).size;have:=t.size;omega
 refine⟨H,0,rfl,v,λh=>(by cases h),λ_=>(v8 L (i:=gen%2) I I J.src M λq f hf=>by have:=K q f;have:=h.lt hf;omega).use ?_⟩;rintro _ N (⟨g,rfl,hd,hc⟩|⟨g,rfl,s,hd,hc,x⟩)
 .exact⟨3,rfl,λ_=>⟨c2 (b.mono λ_ _ h=>h.elim) hc λq _ e=>by rw[e];exact .inl rfl,.inl ⟨g,rfl,hd⟩⟩,λh=>(by cases h)⟩
 .have y:af (cm D) w N:=c2 (b.mono λ_ _ h=>h.elim) hc λq _ e=>e
  have O:=wB (no:=gen%2) (l:=eE (gen%2) (jN u D.n gen)) x;refine⟨0,rfl,λh=>(by cases h),λ_=>(zg hd (by show D.a6+1<=_;omega)).use ?_⟩;have z:∀q,aB s q->cm D q\/w.heap.size<=q:=λq f=>(x q f).imp id λh=>by omega
  rintro _ Z (⟨m,rfl,o,r⟩|⟨m,rfl,o,r⟩)
  .exact⟨3,rfl,c2 y r λq _ e=>by rw[e];exact .inl rfl,.inr ⟨g,s,z,_,rfl,.inl ⟨m,rfl,o⟩⟩⟩
  .exact⟨0,rfl,c2 y r λq f e=>(O q e).resolve_right I,.inr ⟨g,s,z,_,rfl,.inr ⟨m,rfl,o⟩⟩⟩
end
section
variable {w w':J}{C:b2}{X:Nat->Prop}
def Fr.gX(f:Fr):al:=f.full&&f.gg
theorem I2:hX aj 179:=⟨Tryz.f179,func179,by kernel_rfl,by kernel_rfl⟩
theorem I3(f:Fr)(w:J):aJ aj 179 #[.agg #[f.full,f.gg,f.used,f.no,f.pins,f.b]] w (λv w'=>v=f.gX/\Ext w w'):=by
 refine okF (ae.u7 f.full f.gg f.used f.no f.pins f.b) ax.u7 func179 ?_;(delta ae.u7 aT Y ak;dsimp only);refine a8 (vs:=f.c) rfl λw1 a hx hs=>⟨f.full,a.cell,cA (λb w'=>b=f.gX/\w1=w') (λq d=>⟨λh=>⟨f.gg,by rw[aA];exact a.cell,d _ _ ⟨by unfold Fr.gX;rw[h];rfl,rfl⟩⟩,λh=>d _ _ ⟨by unfold Fr.gX;rw[h];rfl,rfl⟩⟩) ?_⟩;rintro _ _ ⟨rfl,rfl⟩;exact⟨rfl,hx⟩
def kp(fs:O Fr):O Int:=(fs.filter Fr.gX).map Fr.no
theorem I4(h:e9 w C):aJ aj 126 #[.pointer (some C.c)] w (λv w'=>∃ (s:ad) (zs:O Int),v=s/\aW 1 3 w' s (zs.map encZ)/\zs.Perm (kp C.an)/\Ext w w'/\∀q,aB s q->w.heap.size<=q):=by
 obtain⟨bS,aU,a_⟩:=h.cells
 have W:=h.ct
 refine okF (ae.uW (some C.c)) ax.uW func126 ?_
 delta ae.uW bD
 refine Calls.mono (ae.Fa (some C.c) ⟨179,#[],#[]⟩ w (λv w'=>∃ (s:ad) (zs:O Int),v=s/\aW 1 3 w' s (zs.map encZ)/\zs.Perm (kp C.an)/\Ext w w'/\∀q,aB s q->w.heap.size<=q) ?_) ?_
 · (delta ae.sf ak r1 aP aT aF Y aq gJ;dsimp only)
   refine⟨λh=>(by cases h),λ_=>⟨_,rfl,⟨some C.aV,C.an.length,C.an.length⟩,aU,λs n w'=>∃i:Nat,n=(i:Int)/\i<=C.an.length/\aW 1 3 w' s ((kp (C.an.take i)).map encZ)/\Ext w w'/\∀q,aB s q->w.heap.size<=q,λ_ n _=>((C.an.length:Int)-n).toNat,⟨0,rfl,cL _,by simpa[kp] using aW.none 1 3 w,.refl _ _,λq e=>(fZ q e).elim⟩,?_⟩⟩
   rintro s _ p ⟨i,rfl,hi,a,hx,g⟩
   have A:=h.ext hx
   refine⟨λaH=>?_,λB=>?_⟩
   · have r:i<C.an.length:=by
       have:(i:Int)<(C.an.length:Int):=cj aH
       omega
     obtain⟨f,hf⟩:∃f,f=C.an[i]:=⟨_,rfl⟩
     have X:(kp (C.an.take i)).length<=64:=by
       unfold kp
       rw[di]
       have:=mY Fr.gX (C.an.take i)
       rw[cI]at this;omega
     have t:kp (C.an.take (i+1))=kp (C.an.take i)++(if f.gX then [f.no] else []):=by
       unfold kp
       rw[kr r,g1,fJ,←hf,kX,List.filter_nil]
       congr 1
       split<;>rfl
     refine cA (λs w'=>aW 1 3 w' s ((kp (C.an.take (i+1))).map encZ)/\Ext w w'/\∀q,aB s q->w.heap.size<=q) (λq e=>?_) ?_
     · have hc:∀j,j<6->p.cell? ⟨C.aV,i*6+j,none⟩=(f.c)[j]? :=λj D=>by rw[hf];exact kj A.f r D
       refine⟨_,rfl,⟨I,by show(i:Int)<(C.an.length:Int);omega⟩,?_⟩
       rw[sL]
       refine⟨f.full,hc 0 (by decide),f.gg,by rw[aA];exact hc 1 (by decide),f.used,by rw[aA];exact hc 2 (by decide),f.no,by rw[aA];exact hc 3 (by decide),f.pins,by rw[aA];exact hc 4 (by decide),f.b,by rw[aA];exact hc 5 (by decide),?_⟩
       refine a8 (vs:=[false,false,false,(0:Int),(0:Int),()]) rfl λZ u E aa=>⟨u.cl rfl (λv l=>?_),rfl,cP u (us:=f.c) rfl rfl λy d F ab=>?_⟩
       · simp only[cX,fk,fv]at l
         rcases l with rfl|rfl|rfl|rfl|rfl|rfl<;>trivial
       have G:Ext p y:=Ext.cy E F (bl _)
       refine⟨f.full,d.cell,f.gg,by rw[aA];exact d.cell,f.used,by rw[aA];exact d.cell,f.no,by rw[aA];exact d.cell,f.pins,by rw[aA];exact d.cell,f.b,by rw[aA];exact d.cell,I2,(I3 f y).use ?_⟩
       rintro _ m ⟨rfl,z⟩
       have k:=Ext.trans G z
       have H:=d.ext z
       refine⟨_,rfl,λhd=>⟨f.no,by rw[aA];exact H.cell,aX ?_⟩,λhd=>e _ _ ⟨?_,Ext.trans hx k,g⟩⟩
       · have o:Ext m (m.alloc (.cells #[encZ f.no] 3)):=da _ _
         obtain⟨J,K,aw,ay,_,L,M⟩:=sB.append (cB:=72) (x:=⟨some m.heap.size,1,1⟩) (Src.new (T:=3) m [encZ f.no] 1 rfl) ((a.ext k).ext o) (λv l=>by rw[fb.1 l];trivial) (by
           have:s.len=(kp (C.an.take i)).length:=by
             have:=a.1
             rw[di]at this;omega
           show(2*(s.len+1)+1000)*8<=_;omega)
         refine⟨J,K,aw,e _ _ ⟨?_,?_,λq e=>?_⟩⟩
         · rw[t,hd,if_pos rfl,fJ];exact ay
         · exact Ext.dS (Ext.trans (Ext.trans hx k) o) L g
         · rcases M q e with h1|h1
           · exact g q h1
           · have:=(Ext.trans hx k).size
             have:=o.size;omega
       · rw[t,hd]
         simp only[fT,if_false,fu]
         exact a.ext k
     · rintro ac af ⟨h1,h2,N⟩
       have P:IntKind.wrap .i64 ((i:Int)+1)=((i+1:Nat):Int):=by rw[bn I I];omega
       rw[P]
       exact⟨⟨i+1,rfl,I,h1,h2,N⟩,by show((C.an.length:Int)-((i+1:Nat):Int)).toNat<((C.an.length:Int)-(i:Int)).toNat;omega⟩
   · have Q:i=C.an.length:=by
       have:¬(i:Int)<(C.an.length:Int):=cH B
       omega
     rw[Q,ku]at a
     refine(Hk a (by
       unfold kp
       rw[di]
       have:=mY Fr.gX C.an;omega)).use ?_
     rintro _ ag ⟨rfl,R,zs,S,U⟩
     exact⟨rfl,s,zs,rfl,S,U.1,Ext.dS hx R g,g⟩
 · rintro _ w1 ⟨_,rfl,s,zs,rfl,a,V,hx,hf⟩
   exact⟨s,rfl,s,zs,rfl,a,V,hx,hf⟩
end
section
variable {w w':J}{C:b2}{X:Nat->Prop}
theorem I5{D:ba}{no:Nat}{s:ad}{l:dc}{N:Nat}(a:∀q,aB s q->cm D q\/N<=q):∀q,cm (D.put no s l) q->cm D q\/N<=q:=by
 rintro q (e|e|e|⟨x,hx,e⟩)
 .exact .inl (.inl e)
 .exact .inl (.inr (.inl e))
 .exact .inl (.inr (.inr (.inl e)))
 .rcases cX.1 hx with rfl|hx
  .exact a q e
  .exact .inl (.inr (.inr (.inr ⟨x,(gG.1 hx).1,e⟩)))
theorem e9.qG{aC:ba}(h:e9 w C)(hd:dd w' aC)(e:aC.d=C.D.d)(hc:af (cm C.D) w w')(hf:∀q,cm aC q->cm C.D q\/w.heap.size<=q):e9 w' {C with D:=aC}:=by
 have h1:=h.v.ah hc h.a1.2.1;rw[←e]at h1;have a:C.c<w.heap.size:=h.v.lt;have b:C.aV<w.heap.size:=bm.lt h.f;refine⟨h1,bm.ah h.f hc h.a1.2.2,hd,h.b9,h.ct,h.hd,h.a1.1,λg=>?_,λg=>?_⟩
 .rcases hf _ g with g|g
  .exact h.a1.2.1 g
  .have g:w.heap.size<=C.c:=g
   omega
 .rcases hf _ g with g|g
  .exact h.a1.2.2 g
  .have g:w.heap.size<=C.aV:=g
   omega
def b2.wrote(C:b2)(i no:Nat)(hi:i<C.an.length)(s:ad):b2:={C with an:=C.an.set i {C.an[i] with gg:=false},D:=C.D.put no s (C.an[i]).l}
theorem I6(h:dW X w C){i no:Nat}(hi:i<C.an.length)(hf:(C.an[i]).full=true)(t:(C.an[i]).no=no){s:ad}(H:¬C.D.b7 no=true)(hd:dd w' (C.D.put no s (C.an[i]).l))(hc:af (cm C.D) w w')(T:∀q,aB s q->cm C.D q\/w.heap.size<=q):
 (∃u:aa,w'.cell? ⟨C.aV,i*6+1,none⟩=some u)/\w'.frozen? ⟨C.aV,i*6+1,none⟩=false/\dW X (w'.setCell ⟨C.aV,i*6+1,none⟩ false) (C.wrote i no hi s)/\
   er C (C.wrote i no hi s) w (w'.setCell ⟨C.aV,i*6+1,none⟩ false) 1/\∀j,(C.wrote i no hi s).view j=C.view j:=by
 have z:=I5 (no:=no) (l:=(C.an[i]).l) T;obtain⟨aC,x⟩:∃aC,aC=C.D.put no s (C.an[i]).l:=⟨_,rfl⟩;have B:∀j,aC.now j=if j=no then (C.an[i]).l else C.D.now j:=by rw[x];exact pc _ _ _ _
 have J:aC.d=C.D.d:=by rw[x];rfl
 have U:aC.n=C.D.n:=by rw[x];rfl
 have W:aC.key=C.D.key:=by rw[x];exact Cy C.D H
 have K:kL aC C.D:=by rw[x];exact Cx h.inv H
 have al:aC.a6=C.D.a6+1:=by rw[x];rfl
 have Y:∀m,C.D.calm (m+1)->aC.calm m:=λm Z=>by rw[x];exact(jM (.inr rfl) h.raw.dev.f4 Z).1
 unfold b2.wrote;rw[←x]at hd z⊢;have L:=h.raw.qG hd J hc z;obtain⟨a1,a2,a3,a4⟩:=nI L.f hi (j:=1) (by decide) (v:=false) {C.an[i] with gg:=false} rfl;obtain⟨g,o⟩:∃g:Fr,g={C.an[i] with gg:=false}:=⟨_,rfl⟩;rw[←o]at a3⊢;refine⟨a1,a2,?_⟩;generalize w'.setCell ⟨C.aV,i*6+1,none⟩ false=E at a3 a4;have G:af (c6 C) w E:=c2 (hc.mono λq _ e=>.inr (.inr e)) a4 λq _ e=>.inr (.inl e);obtain⟨y,aw,ay,ab,ac,am,ao,ae⟩:=h.inv.ok _ (cN hi) hf;have ag:y=no:=by rw[t]at aw;omega
 subst ag;obtain⟨a,r⟩:∃a:b2,a={C with an:=C.an.set i dp,D:=aC}:=⟨_,rfl⟩;have h1:gr X E a:=by
  rw[r];exact yT (V:=c6 C) hi h.inv G (λ_ _ h=>h) K (λj A=>by rw[B,if_neg λe=>A hf (by rw[t,e])]) z dp rfl rfl
 have v1:∀j,a.view j=C.view j:=λj=>by
  rw[r];exact Cw hi h.inv (λ_ j A=>by rw[B,if_pos (by rw[t]at A;omega)]) (λj A=>by rw[B,if_neg λe=>A hf (by rw[t,e])]) dp rfl j
 have F:a.an=C.an.set i dp:=by rw[r]
 have dN:i<a.an.length:=by rw[F,dj];exact hi
 have M:∀ (k:Nat) (ah:k<a.an.length),k≠i->(a.an[k]).full=true->(a.an[k]).no≠y:=λk ah N h2 O=>by
  simp only[F,fl (Ne.symm N)]at h2 O;exact N (h.inv.un k i _ hi h2 hf (by rw[O,t]))
 have P:C.an.set i g=a.an.set i g:=by rw[F,set_set]
 have Q:({C with an:=C.an.set i g,D:=aC}:b2)={a with an:=a.an.set i g,D:=aC}:=by rw[P,r]
 have ai:bq (λq=>¬c6 {C with an:=C.an.set i g,D:=aC} q/\¬X q) E g.b g.l:=by
  rw[o];refine bq.re ab G (λq _ R=>R.1) λq R S=>⟨λp=>S.1 ?_,S.2⟩;rcases p with p|p|p
  .exact .inl p
  .exact .inr (.inl p)
  .exact .inr (.inr ((z q p).resolve_right I))
 have h2:gr X E {C with an:=C.an.set i g,D:=aC}:=by
  rw[Q];refine yU (C:=a) (no:=y) (V:=λ_=>False) dN h1 (.refl _ _) (λ_ _ h=>h.elim) (by rw[r];exact⟨rfl,λ_ h=>h,K.2.2⟩) (λj=>by rw[r]) (λq=>by rw[r]) g (by rw[o];exact hf) (by rw[o];exact h.inv.pins (C.an[i]) (cN hi)) ⟨by rw[o];exact t,by show y<aC.n;rw[U];exact ay,by rw[←Q];exact ai,by rw[o];exact ac,λ_=>?_,λ_=>by rw[o],ae⟩ M;show g.l=aC.now y;rw[B,if_pos rfl,o]
 have aj:∀j,({C with an:=C.an.set i g,D:=aC}:b2).view j=C.view j:=λj=>by
  have ak:({C with an:=C.an.set i g,D:=aC}:b2)=b2.mk a.c a.aV (a.an.set i g) C.hand aC:=by rw[P,r]
  rw[ak,yV (C:=a) (hd:=C.hand) (aC:=aC) (no:=y) dN h1.un (λj=>by rw[r]) g (by rw[o];exact hf) (by rw[o];exact t) (λp=>by simp only[F,ij]at p;cases p) M j,v1];split
  .rename_i e
   subst e;have:=my (fs:=C.an) (D:=C.D) (c:=C.c) (aV:=C.aV) (hd:=C.hand) h.inv.un hi hf t;rw[o];exact this.symm
  .rfl
 refine⟨⟨?_,h2⟩,⟨rfl,J,by show(C.an.set i _).length=_;rw[dj],W,by show aC.a6<=_;omega,Y,G,?_⟩,aj⟩
 .refine yW (C:={C with D:=aC}) L a4 a3
 .rintro q (e|e|e)
  .exact .inl (.inl e)
  .exact .inl (.inr (.inl e))
  .exact(z q e).imp (λh=>.inr (.inr h)) id
theorem zh{aC:ba}(h:dW X w C)(hd:dd w' aC)(e:aC.d=C.D.d)(b:kL aC C.D)(a:∀i,aC.now i=C.D.now i)(hc:af (cm C.D) w w')(hf:∀q,cm aC q->cm C.D q\/w.heap.size<=q):dW X w' {C with D:=aC}/\∀j,({C with D:=aC}:b2).view j=C.view j:=
 ⟨⟨h.raw.qG hd e hc hf,sM (C:=C) (hd:=C.hand) h.inv (hK.refl _) (hc.mono λq _ e=>.inr (.inr e)) (λ_ _ h=>h) b a hf⟩,λj=>sN (C:=C) (hd:=C.hand) h.inv (hK.refl _) a j⟩
theorem I7(h:dW X w C)(hc:∀f∈C.an,f.gX=false)(j:Nat):C.view j=C.D.now j:=by
 unfold b2.view
 cases b:C.an.find? λf=>f.full&&f.no==(j:Int) with
 |none=>rfl
 |some f=>
  have c:=j0 b;have a:=kU b;simp only[c7,kt]at a;obtain⟨no,aw,ay,g,i,d⟩:=h.inv.ok f c a.1;have h1:=hc f c;unfold Fr.gX at h1;rw[a.1,ib]at h1;have e:no=j:=by rw[a.2]at aw;omega
  rw[←e];exact d h1
theorem Dg{D:ba}(h:dd w D)(i:Nat):D.iV.now i=D.now i:=by
 by_cases hi:i<D.n
 .exact zf D hi
 .have h1:D.now i=[]:=by
   unfold ba.now
   cases hf:D.waits.find? λx=>x.i==i with
   |some x=>
    have hx:=j0 hf;have he:x.i=i:=by simpa using kU hf
    have:=(h.wn x hx).2.1;omega
   |none=>
    have:¬i<D.b4.length:=hi;show D.b4.getD i []=[];rw[fL,nZ I];rfl
  rw[h1];show((List.range D.n).map D.now).getD i []=[];rw[fL,nZ (by simp;omega)];rfl
theorem sU(D:ba){m:Nat}(h:D.calm m):(D.cD 3).calm m:=by
 unfold ba.calm ba.cD at*;simpa[fL] using h
theorem er.r1{C aI:b2}{w w':J}{k:Nat}(h:er C aI w w' k):aI.D.r1=C.D.r1:=congrArg (λk:(O dc×(Nat->al)×(Nat->O dc)×(Int->Prop)×al)×Int=>k.1.2.2.2.2) h.b4
structure I8(X:Nat->Prop)(C aI:b2)(w:J)(v:aa)(w':J):Prop where
 at_:dW X w' aI
 c:aI.c=C.c
 d:aI.D.d=C.D.d
 len:aI.an.length=C.an.length
 n:aI.D.n=C.D.n
 b7:aI.D.b7=C.D.b7/\aI.D.eG=C.D.eG
 r:aI.D.r1=C.D.r1
 a6:aI.D.a6<=C.D.a6+64
 calm:∀m,C.D.calm (m+64)->aI.D.calm m
 ah:af (c6 C) w w'
 c3:∀q,c6 aI q->c6 C q\/w.heap.size<=q
 view:∀j,aI.view j=C.view j
 h6:(v=.int .i64 0/\aI.D.waits=[]/\(∀f∈aI.an,f.gX=false)/\aI.D.cf.getD 3 0=(gz (C.D.cf.getD 3 0)).2)\/(v=.int .i64 3/\aI.D.b4=C.D.b4/\(¬C.D.calm 64\/C.D.fX 3=true))
theorem I9(h:dW X w C)(a0:C.D.a6<=999999900)(am:∀j,C.D.b7 j=true->C.D.eG j=[]):aJ aj 147 #[.pointer (some C.c)] w (λv w'=>∃aI,I8 X C aI w v w'):=by
 have a1:=h.raw.ct;refine okF (ae.u0 (some C.c)) ax.u0 func147 ?_;(delta ae.u0 ak bD aP aF j6 r1 bY st aq;dsimp only);refine⟨λh=>(by cases h),λ_=>(I4 h.raw).use ?_⟩;rintro _ w1 ⟨s,zs,rfl,hs,M,V,ao⟩;have hlen:s.len=zs.length:=by have:=hs.1;rw[di]at this;omega
 have a2:zs.length<=64:=by
  rw[M.length_eq];unfold kp;rw[di];have:=mY Fr.gX C.an;omega
 have h1:=h.ext V;have ap:∀z∈zs,∀no:Nat,(no:Int)=z->¬C.D.b7 no=true:=λz t no a3 hs=>by
  obtain⟨f,hf,e⟩:=fD.1 (M.mem_iff.1 t);obtain⟨h2,u⟩:=gG.1 hf;unfold Fr.gX at u;rw[c7]at u;obtain⟨m,b9,_,_,_,_,W,ar⟩:=h.inv.ok f h2 u.1;have:m=no:=by rw[e]at b9;omega
  subst this;rw[W hs]at u
  cases u.2
 refine⟨s,rfl,λn w'=>∃ (i:Nat) (g:b2),n=(i:Int)/\i<=zs.length/\dW X w' g/\er C g w w' i/\(∀j,g.view j=C.view j)/\aW 1 3 w' s (zs.map encZ)/\(∀f∈g.an,f.gX=true->f.no∈zs.drop i)/\(∀z∈zs,∃f∈g.an,f.full=true/\f.no=z)/\∀q,c6 g q->¬aB s q,
  λn _=>((zs.length:Int)-n).toNat,⟨0,C,rfl,cL _,h1,er.ext C V,λ_=>rfl,hs,λf hf hd=>?_,λz t=>?_,λq o N=>?_⟩,?_⟩
 .exact M.mem_iff.2 (fD.2 ⟨f,gG.2 ⟨hf,hd⟩,rfl⟩)
 .obtain⟨f,hf,e⟩:=fD.1 (M.mem_iff.1 t)
  obtain⟨h2,u⟩:=gG.1 hf;unfold Fr.gX at u;rw[c7]at u;exact⟨f,h2,u.1,e⟩
 .have:=ao q N;have:=h.raw.lt o;omega
 rintro _ Q ⟨i,g,rfl,hi,p,l,O,R,Y,hex,Z⟩;have a4:=l.a6;refine⟨λaH=>?_,λau=>?_⟩
 .have G:i<zs.length:=by
   have:(i:Int)<(s.len:Int):=cj aH;omega
  obtain⟨a,av,az⟩:∃a:ag,s.a=some a/\Q.cell? (a.add (Int.toNat (i:Int)*1))=some (.int .i64 zs[i]):=by
   obtain⟨b,c,y,_,_,_,_,S,_⟩:=R.cell (i:=i) (v:=encZ zs[i]) (by rw[nW,dC G];rfl);exact⟨_,y,by rw[dg,aA,cR,ft];exact S⟩
  refine⟨a,av,⟨I,by show(i:Int)<(s.len:Int);omega⟩,zs[i],az,?_⟩;rw[←l.c];refine(we p.raw _).use ?_;rintro _ _ ⟨aC,rfl⟩;obtain⟨f,aD,aE,aG⟩:=hex zs[i] (cN G);rcases aC with ⟨k,H,rfl,aw,ay⟩|⟨_,aK⟩
  rotate_left
  .exact absurd aG (aK f aD aE)
  have J:=cG Q;have B:=p.ext J;obtain⟨no,b9,ct,aa,aL,a5,W,ar⟩:=B.inv.ok _ (cN H) aw;have t:zs[i]=(no:Int):=by rw[←ay,b9]
  have aM:=kj B.raw.f H (j:=5) (by decide);refine⟨_,rfl,aX ⟨_,rfl,id,_,B.raw.cells.1,_,rfl,id,(g.an[k]).b,by rw[aA];exact aM,?_⟩⟩;rw[t];refine(v8 B.raw.dev (i:=no) ct I aa.1 aL λq o hf=>(aa.2.2 q o).1.1 (.inr (.inr hf))).use ?_;rintro v2 ai aN;have aO:=l.ah.size;have a7:=J.size;rcases aN with ⟨y,rfl,E,r⟩|⟨y,rfl,s2,E,r,aQ⟩
  .obtain⟨hM,eo⟩:=zh B E rfl (B.inv.cD 2) (λj=>wg g.D 2 j) (r.mono λq _ e=>.inl e) λq o=>.inl o
   refine⟨3,rfl,λ_=>⟨{g with D:=g.D.cD 2},hM,l.c,l.d,l.len,l.n,l.ph,l.r1,by show g.D.a6<=_;omega,λm K=>?_,?_,?_,λj=>(eo j).trans (O j),.inr ⟨rfl,?_,.inl λaR=>?_⟩⟩,λh=>(by cases h)⟩
   .exact(jM (.inr rfl) p.raw.dev.f4 (l.calm (m+1) (gf K I))).1
   .refine c2 (l.ah.trans (af.c0 J)) r λq o e=>?_
    exact(l.c3 q (.inr (.inr (.inl e)))).resolve_right I
   .exact l.c3
   .exact congrArg (λk=>k.1.1) l.b4
   .have:=(jM (k:=2) (m:=0) (.inr rfl) p.raw.dev.f4 (l.calm 1 (gf aR I))).2
    rw[y]at this;cases this
  .obtain⟨bk,bh,ab,P,aS⟩:=I6 B H aw (by rw[ay,t]) (λhs=>ap _ (cN G) _ t.symm (by rw[←l.b7];exact hs)) E r aQ
   refine⟨0,rfl,λh=>(by cases h),λ_=>⟨_,rfl,by rw[aA];exact bk,by rw[aA];exact bh,?_⟩⟩;rw[aA];refine aX ?_;generalize ai.setCell ⟨g.aV,k*6+1,none⟩ false=a8 at ab P;have aT:IntKind.wrap .i64 ((i:Int)+1)=((i+1:Nat):Int):=by rw[bn I I];omega
   rw[aT];have aU:=(l.trans (er.ext g J)).trans P;have aY:zs.drop i=zs[i]::zs.drop (i+1):=jW G;refine⟨⟨i+1,_,rfl,I,ab,aU,λj=>(aS j).trans (O j),(R.ext J).ah P.ah λq o hf=>Z q hf o,λf hf A=>?_,λz t=>?_,λq o N=>?_⟩,by show((zs.length:Int)-((i+1:Nat):Int)).toNat<((zs.length:Int)-(i:Int)).toNat;omega⟩
   .have hf:f∈g.an.set k {g.an[k] with gg:=false}:=hf
    obtain⟨b,T,rfl⟩:=fj hf;have ac:b<g.an.length:=by simpa using T
    by_cases e:k=b
    .subst e
     simp[Fr.gX]at A
    .simp only[fl e]at A⊢
     have F:=Y _ (cN ac) A;rw[aY]at F;rcases cX.1 F with U|U
     .unfold Fr.gX at A
      rw[c7]at A;exact absurd (p.inv.un k b H ac aw A.1 (by rw[ay,U])) e
     .exact U
   .obtain⟨f,f1,f2,f3⟩:=hex z t
    obtain⟨b,T,rfl⟩:=fj f1;by_cases e:k=b
    .subst e
     exact⟨{g.an[k] with gg:=false},List.mem_set H _,f2,f3⟩
    .exact⟨g.an[b],tb.2 ⟨b,by show b<(g.an.set k _).length;rw[dj];exact T,by show(g.an.set k _)[b]'_=_;rw[fl e]⟩,f2,f3⟩
   .rcases P.c3 q o with F|F
    .exact Z q F N
    .have:=R.lt q N;omega
 .have G:i=zs.length:=by
   have:¬(i:Int)<(s.len:Int):=cH au;omega
  have S:∀f∈g.an,f.gX=false:=λf hf=>by
   cases A:f.gX with
   |false=>rfl
   |true=>
    have:=Y f hf A;rw[G,List.drop_length]at this
    cases this
  have ad:g.D.cf.getD 3 0=C.D.cf.getD 3 0:=congrArg Prod.snd l.b4;rw[←l.c];refine⟨_,rfl,_,p.raw.cells.1,(zg p.raw.dev I).use ?_⟩;have aO:=l.ah.size;rintro v2 ai (⟨y,rfl,E,r⟩|⟨y,rfl,E,r⟩)
  .obtain⟨hM,eo⟩:=zh p E rfl (p.inv.cD 3) (λj=>wg g.D 3 j) (r.mono λq _ e=>.inl e) λq o=>.inl o
   refine⟨3,rfl,{g with D:=g.D.cD 3},hM,l.c,l.d,l.len,l.n,l.ph,l.r1,by show g.D.a6<=_;omega,λm K=>sU _ (l.calm m (gf K I)),c2 l.ah r λq o e=>(l.c3 q (.inr (.inr (.inl e)))).resolve_right I,l.c3,λj=>(eo j).trans (O j),.inr ⟨rfl,congrArg (λk=>k.1.1) l.b4,.inr ?_⟩⟩;unfold ba.fX at y⊢;rw[←ad];exact y
  .have al:∀q,cm (g.D.cD 3).iV q->cm g.D q\/Q.heap.size<=q:=by
    rintro q (e|e|e|⟨x,hx,e⟩)
    .exact .inl (.inl e)
    .exact .inl (.inr (.inl e))
    .exact .inl (.inr (.inr (.inl e)))
    .cases hx
   have aZ:∀j,(g.D.cD 3).iV.now j=g.D.now j:=λj=>by
    by_cases L:j<g.D.n
    .exact(zf (g.D.cD 3) L).trans (wg g.D 3 j)
    .have F:g.D.iV.now j=g.D.now j:=Dg p.raw.dev j
     exact F
   obtain⟨hM,eo⟩:=zh p E rfl ⟨sT (g.D.cD 3),λ_ h=>h,λj L=>by
    have L:g.D.b7 j=true:=L;have e:g.D.eG j=[]:=by rw[l.ph.2];exact am j (by rw[←l.ph.1];exact L)
    exact e.symm⟩ aZ r al
   refine⟨0,rfl,{g with D:=(g.D.cD 3).iV},hM,l.c,l.d,l.len,(sT (g.D.cD 3)).trans l.n,l.ph,l.r1,by show g.D.a6<=_;omega,λm K=>sU g.D (l.calm m (gf K I)),c2 l.ah r λq o e=>(l.c3 q (.inr (.inr e))).resolve_right I,λq o=>?_,λj=>(eo j).trans (O j),.inl ⟨rfl,rfl,S,?_⟩⟩
   .rcases o with e|e|e
    .exact l.c3 q (.inl e)
    .exact l.c3 q (.inr (.inl e))
    .rcases al q e with e|e
     .exact l.c3 q (.inr (.inr e))
     .exact .inr I
   .show(g.D.cf.set 3 _).getD 3 0=_
    have a9:=p.raw.dev.f4;rw[fz (by rw[dj];omega),ij,ad]
end
def iW(bg d c sb:Nat)(l:eI)(u:eP)(gen now first pending keys:Nat)(failed:al):O aa:=
 [.pointer (some bg),.pointer (some d),.pointer (some c),.pointer (some sb),l.an,l.batch,.int .u64 (l.iL:Nat),
  u.root,u.aL,u.map,.int .u64 (u.clock:Nat),.int .u64 (u.dn:Nat),u.keys,
  .int .u64 (gen:Nat),.int .u64 (now:Nat),.int .u64 (first:Nat),pending,keys,failed]
section
variable {w w':J}{D:ba}
structure Dh(D:ba)(l:eI)(u:eP)(gen sb:Nat)(w:J)(v:aa)(w':J)(c aV bg st:Nat):Prop where
 val:v=.tuple #[.pointer (some st),(0:Int)]
 ca:dW (λ_=>False) w' (lO c aV l.an D)
 cQ:Var w' bg [.pointer (some c),.pointer (some sb),.int .u64 ((gen+1:Nat):Int),u.root,u.aL] 243
 sv:Var w' st (iW bg D.d c sb l u gen u.clock 0 0 u.keys false) 146
 x:Ext w w'
 hc:w.heap.size<=c/\c<bg
 hf:w.heap.size<=aV/\aV<bg
 ht:bg<st
def ba.jn(D:ba)(s:Nat->al)(z:Nat->O dc):ba:={D with b7:=s,eG:=z}
theorem dd.jn(h:dd w D)(s:Nat->al)(z:Nat->O dc):dd w (D.jn s z):=⟨h.v,h.l,h.m,h.ws,h.wn,h.sl,h.nD,h.cc,h.bA,h.f4,h.fr,h.a1,h.a2,h.a3,h.r⟩
theorem oB(h:dd w D){l:eI}(q:8<=l.an/\l.an<=64){u:eP}(hu:zb D.n (u.root:Nat) (u.aL:Nat)){gen:Nat}(hg:gen+1<18446744073709551616)(s:∀j,D.b7 j=true->D.e8 j=D.eG j)(sb:Nat):
 aJ aj 61 #[.pointer (some D.d),.agg l.c.toArray,.agg u.c.toArray,.int .u64 (gen:Nat),.pointer (some sb)] w (λv w'=>∃c aV bg st,Dh D l u gen sb w v w' c aV bg st):=by
 refine ae.EW _ (l.an:Nat) (l.batch:Nat) (l.iL:Nat) (u.root:Nat) (u.aL:Nat) (u.map:Nat) (u.clock:Nat) (u.dn:Nat) (u.keys:Nat) (gen:Nat) (some sb) w _ ?_;(delta ae.oB aF Y h5 ak cr;dsimp only);refine a8 (vs:=l.c) rfl λw1 t i H=>a8 (vs:=u.c) rfl λai x b J=>?_;have r:=t.ext b;have y:=h.ext (i.trans b);refine⟨_,r.cell,(qm y q.1 q.2 s).use ?_⟩;rintro _ a ⟨c,aV,rfl,e,f,K,L⟩;have k:=x.ext f;have z:IntKind.wrap .u64 ((gen:Int)+1)=((gen+1:Nat):Int):=by rw[gw I I];omega
 rw[z];have M:(lO c aV l.an D).D=D:=rfl;refine⟨_,0,rfl,λh=>(by cases h),λ_=>⟨_,k.cell,_,by rw[aA];exact k.cell,(qn e.raw sb ((gen+1:Nat):Int) (u.root:Nat) (u.aL:Nat)).use ?_⟩⟩;rintro _ A (⟨_,rfl,g,B,N⟩|⟨C,_⟩)
 rotate_left
 .exact absurd hu C
 have m:=k.ext g;have o:=(r.ext f).ext g;have O:=(i.trans b).size;have P:=f.size;have E:c<a.heap.size:=e.raw.lt (.inl rfl);have F:aV<a.heap.size:=e.raw.lt (.inr (.inl rfl));refine⟨_,0,rfl,λh=>(by cases h),λ_=>⟨_,o.cell,_,by rw[aA];exact o.cell,_,by rw[aA];exact o.cell,q1 m ⟨_,by rw[aA];exact m.cell,_,by rw[aA];exact m.cell,(iW a.heap.size D.d c sb l u gen u.clock 0 0 u.keys false).toArray,by kernel_rfl,a8 (vs:=iW a.heap.size D.d c sb l u gen u.clock 0 0 u.keys false) rfl λQ G p R=>?_⟩⟩⟩;exact⟨c,aV,a.heap.size,A.heap.size,rfl,(e.ext g).ext p,B.ext p,G,Ext.trans (Ext.trans (i.trans b) f) (Ext.trans g p),⟨I,E⟩,⟨I,F⟩,I⟩
def iC(f:Nat->al)(k:Nat):O UInt8:=(List.range k).map λi=>UInt8.ofNat (byteOf f i)
theorem Di(f:Nat->al)(k:Nat):az (iC f k)=e0 f k:=by
 unfold az iC e0;rw[nS];refine List.map_congr_left λi _=>?_;have:=kK f i;show Value.int .u8 (((UInt8.ofNat (byteOf f i)).toNat:Nat):Int)=_;rw[rp,jX this]
theorem wC(f:Nat->al)(k:Nat):(iC f k).length=k:=by simp[iC]
def jo:eP:=⟨0,0,2,0,0,0⟩
structure Dj(D aC:ba):Prop where
 d:aC.d=D.d
 n:aC.n=D.n
 now:∀j,aC.now j=if j=1 then eE 1 (jN jo D.n 1) else if j=2 then eE 2 ⟨4,1,iC (λi=>decide (i<3)) ((D.n+7)/8)⟩ else if j=0 then hG else D.now j
 waits:aC.waits=[]
 a6:aC.a6=D.a6+4
 calm:∀k,aC.calm k
 cf:aC.cf.getD 3 0= -1
 b7:aC.b7=λi=>decide (i<3)
 eG:aC.eG=λ_=> []
 r:aC.r1=D.r1
structure I_(D:ba)(l:eI)(w:J)(v:aa)(w':J)(aC:ba)(sb:Nat)(s1 s2:ad)(c aV bg st:Nat)(ki:J):Prop where
 Dk:Dh aC l jo 1 sb ki v w' c aV bg st
 sp:fg w' sb D.n (λi=>decide (i<3)) (λi=>decide (i<3)) s1 s2
 qG:Dj D aC
 ah:af (cm D) w ki
 sV:∀q,gA sb s1 s2 q->w.heap.size<=q/\q<ki.heap.size
 dq:∀q,cm aC q->cm D q\/(w.heap.size<=q/\q<ki.heap.size)
 Ja:∀q,gA sb s1 s2 q->¬cm aC q
theorem oA(h:dd w D){l:eI}(ap:pt (l.an:Nat) (l.batch:Nat) (l.iL:Nat))(bi:∀k,D.calm k)(qT:D.cf.getD 3 0= -1)(bZ:D.a6<=999999000):
 aJ aj 21 #[.pointer (some ⟨D.d,0,none⟩),.agg l.c.toArray] w (λv w'=>∃aC sb s1 s2 c aV bg st ki,I_ D l w v w' aC sb s1 s2 c aV bg st ki):=by
 have b0:=h.cc;have b1:=h.bA;refine ae.ES _ (l.an:Nat) (l.batch:Nat) (l.iL:Nat) w _ ?_;(delta ae.oA aF Y cr b6 ak bY h5 bD ey kE aq jF;dsimp only);refine a8 (vs:=l.c) rfl λw1 Q J b2=>⟨_,Q.cell,_,by rw[aA];exact Q.cell,_,by rw[aA];exact Q.cell,(qg w1 _ _ _ _).use ?_⟩;rintro _ bj ⟨rfl,C⟩;have bk:=h.ext (J.trans C);refine⟨_,rfl,λr=>?_,λ_=>(v7 bk).use ?_⟩
 .rw[dI ap]at r;cases r
 rintro _ _ ⟨rfl,rfl⟩;refine⟨_,rfl,(qh bj (D.n:Nat) 3).use ?_⟩;rintro _ b3 (⟨bm,_⟩|⟨_,_,_,_,sb,s1,s2,rfl,hs,Z,aa⟩)
 .exact absurd ⟨I,I,I,I⟩ bm
 rw[dg]at hs;have ab:Int.toNat 3=3:=rfl;rw[ab]at hs;refine⟨_,0,rfl,λh=>(by cases h),λ_=>(Ct hs).use ?_⟩;rintro _ bo ⟨aN,rfl,aO,K,b5⟩;rw[←Di]at aO;obtain⟨mp,R⟩:∃mp:jh,mp=⟨4,1,iC (λi=>decide (i<3)) ((D.n+7)/8)⟩:=⟨_,rfl⟩;have aP:nz mp:=by rw[R];exact⟨(by decide:1<=4),(by decide:4<=4),(by decide:1<18446744073709551616),by show(iC _ _).length<=232;rw[wC];omega⟩
 have aQ:=vP (s:=aN) (p:=mp) (no:=2) (w:=bo) (by rw[R];exact aO.src) (by decide) aP;rw[R]at aQ;refine⟨aN,rfl,aQ.use ?_⟩;rw[←R];rintro _ bp ⟨F,rfl,aR,N,bq⟩;have aS:=Ext.trans (Ext.trans (J.trans C) Z) (Ext.trans K N);have b7:=aS.size;refine⟨F,0,rfl,λh=>(by cases h),λ_=>⟨⟨I,I,I,I⟩,?_⟩⟩;rw[yl];have br:Int.toNat 256=256:=rfl;rw[br];have ar:hG.length=256:=l1;refine a8 (vs:=az hG) rfl λB S G b8=>?_;obtain⟨y,bs⟩:∃y,y=bp.heap.size:=⟨_,rfl⟩;rw[←bs]at S⊢;have ac:=Ext.trans aS G;have aT:Src 1 B ⟨some ⟨y,0,none⟩,256,256⟩ (az hG):=S.qH (o:=0) (n:=256) (c:=256) (l:=hG) (by rw[c4,ar];exact bl _) (by rw[iF,dX (by rw[c4,ar];exact bl _)]);refine⟨#[.slice (some ⟨y,0,none⟩) 256 256,.slice (some ⟨y,0,none⟩) 256 256,.slice F.a F.len F.cap],by kernel_rfl,?_⟩;have bt:(eE 2 mp).length=256:=sy _ aP;obtain⟨vals,av⟩:∃vals:Nat->dc,vals=λj=>if j=2 then eE 2 mp else hG:=⟨_,rfl⟩
 have bu:∀j,(vals j).length=256:=λj=>by
  rw[av];show(if j=2 then _ else _:dc).length=256;split
  .exact bt
  .exact ar
 have bv:∀k,k<3->∃H:ad,cellAt #[.slice (some ⟨y,0,none⟩) 256 256,.slice (some ⟨y,0,none⟩) 256 256,.slice F.a F.len F.cap] (Int.toNat ((k:Nat):Int)*1)=some (.slice H.a H.len H.cap)/\Src 1 B H (az (vals k))/\∀q,aB H q->w.heap.size<=q/\q<B.heap.size:=by
  intro k aU;have bw:=S.lt;have b9:=G.size;rw[av];have hi:∀q,aB (⟨some ⟨y,0,none⟩,256,256⟩:ad) q->w.heap.size<=q/\q<B.heap.size:=λq b=>by
   obtain⟨A,au,rfl⟩:=b
   cases au;show w.heap.size<=y/\y<_;exact⟨I,bw⟩
  have b_:=(Ext.trans (Ext.trans (J.trans C) Z) K).size
  match k,aU with
  |0,_=>exact⟨⟨some ⟨y,0,none⟩,256,256⟩,rfl,aT,hi⟩
  |1,_=>exact⟨⟨some ⟨y,0,none⟩,256,256⟩,rfl,aT,hi⟩
  |2,_=>exact⟨F,rfl,aR.src.ext G,λq b=>by have:=bq q b;have:=aR.lt q b;omega⟩
 have bx:=h.ext ac;refine⟨λn w'=>∃ (k:Nat) (g:ba),n=(k:Int)/\k<=3/\dd w' g/\g.d=D.d/\g.n=D.n/\(∀j,g.now j=if j<k then vals j else D.now j)/\g.a6=D.a6+k/\(∀m,g.calm m)/\(g.cf.getD 3 0= -1/\g.r1=D.r1)/\af (cm D) B w'/\(∀q,cm g q->cm D q\/B.heap.size<=q),
  λn _=>((3:Int)-n).toNat,⟨0,D,rfl,cL _,bx,rfl,rfl,λj=>rfl,rfl,bi,⟨qT,rfl⟩,.refl _ _,λq b=>.inl b⟩,?_⟩
 rintro _ ca ⟨k,g,rfl,aU,O,ag,aW,aX,bz,aw,⟨ax,aY⟩,ai,L⟩;have cb:=ai.size;refine⟨λaH=>?_,λbB=>?_⟩
 .have ay:k<3:=by
   have:((k:Nat):Int)<3:=cj aH;omega
  obtain⟨H,bC,bE,aZ⟩:=bv k ay;have eg:∀q,aB H q->¬cm D q:=λq b hf=>by have:=(aZ q b).1;have:=h.lt hf;omega
  have a0:=v8 O (i:=k) I I (bE.ah ai eg) (bu k) λq b hf=>by
   rcases L q hf with h1|h1
   .exact eg q b h1
   .have:=(aZ q b).2;omega
  rw[ag]at a0;refine⟨⟨I,I⟩,H,bC,a0.use ?_⟩;rintro _ cd (⟨r,_⟩|⟨r,rfl,s,bF,bG,bH⟩)
  .have:=(jM (k:=2) (m:=0) (.inr rfl) O.f4 (aw 1)).2
   rw[r]at this;cases this
  refine⟨0,rfl,λh=>(by cases h),λ_=>?_⟩;have bI:IntKind.wrap .i64 (((k:Nat):Int)+1)=((k+1:Nat):Int):=by rw[bn I I];omega
  rw[bI];refine⟨⟨k+1,_,rfl,I,bF,ag,aW,λj=>?_,by show g.a6+1=_;omega,λm=>(jM (.inr rfl) O.f4 (aw _)).1,⟨(congrArg Prod.snd (qX g (.inr rfl))).trans ax,aY⟩,c2 ai bG λq b hf=>(L q hf).resolve_right I,λq b=>?_⟩,by show((3:Int)-((k+1:Nat):Int)).toNat<((3:Int)-((k:Nat):Int)).toNat;omega⟩
  .rw[pc,aX]
   by_cases e:j=k
   .rw[if_pos e,if_pos I,e]
   .rw[if_neg e]
    by_cases T:j<k
    .rw[if_pos T,if_pos I]
    .rw[if_neg T,if_neg I]
  .rcases wB bH q b with h1|h1
   .exact L q h1
   .exact .inr I
 have ay:k=3:=by
  have:¬((k:Nat):Int)<3:=cH bB;omega
 subst ay;have hf:=zg O I;rw[ag]at hf;refine hf.use ?_;rintro _ a1 (⟨r,_⟩|⟨_,rfl,aD,bJ⟩)
 .unfold ba.fX at r
  rw[ax]at r;cases r
 obtain⟨c1,E⟩:∃c1,c1=(g.cD 3).iV:=⟨_,rfl⟩;rw[←E]at aD;have a2:c1.d=D.d:=by rw[E];exact ag
 have a3:c1.n=D.n:=by rw[E];exact(sT _).trans aW
 have bK:c1.r1=D.r1:=by rw[E];exact aY
 have bL:∀j,c1.now j=if j<3 then vals j else D.now j:=λj=>by
  rw[←aX,E];have aE:g.iV.now j=g.now j:=Dg O j;exact aE
 have ce:c1.a6=D.a6+3:=by rw[E];exact bz
 have a4:∀m,c1.calm m:=λm=>by rw[E];exact sU _ (aw m)
 have a5:c1.cf.getD 3 0= -1:=by
  rw[E];show(g.cf.set 3 _).getD 3 0=_;have bM:=O.f4;rw[fz (by rw[dj];omega),ij,ax];rfl
 have al:∀q,cm c1 q->cm D q\/B.heap.size<=q:=λq b=>by
  rw[E]at b;rcases b with e|e|e|⟨x,hx,e⟩
  .exact L q (.inl e)
  .exact L q (.inr (.inl e))
  .exact L q (.inr (.inr (.inl e)))
  .cases hx
 have am:af (cm D) B a1:=c2 ai bJ λq b hf=>(L q hf).resolve_right I;have U:∀q,w.heap.size<=q->¬cm D q:=λq b hf=>by have:=h.lt hf;omega
 have bN:=((Q.ext (C.trans (Ext.trans Z (Ext.trans K (Ext.trans N G))))).ah am (U _ (bl _)));have bO:=(hs.ext (Ext.trans K (Ext.trans N G))).ah am λq b=>U q (by have:=aa q b;have:=(J.trans C).size;omega);refine⟨0,rfl,λh=>(by cases h),λ_=>a8 (vs:=B_.c) rfl λcg bP bQ ch=>Cc bP rfl jo λbR a7 bS ci=>q1 a7 ?_⟩;have V:Ext a1 bR:=Ext.cy bQ bS (bl _);have W:=aD.ext V;have a9:=nh W I (u:=jo) ⟨(by decide:0<4294967296),(by decide:0<256),(by decide:2<4294967296),(by decide:0<18446744073709551616),(by decide:0<18446744073709551616),(by decide:0<4294967296)⟩ (gen:=1) (by decide);rw[a2]at a9;refine a9.use ?_;have ck:=V.size;have cl:=am.size;rintro _ a_ ⟨ao,⟨r,_⟩|⟨_,s,bT,f,z,⟨r,_⟩|⟨_,rfl,X⟩⟩⟩
 .have:=(jM (k:=2) (m:=0) (.inr rfl) W.f4 (a4 1)).2
  rw[r]at this;cases this
 .have aG:f.cf.getD 3 0= -1:=by rw[z];exact(congrArg Prod.snd (qX c1 (.inr rfl))).trans a5
  unfold ba.fX at r;rw[aG]at r;cases r
 have aG:f.cf.getD 3 0= -1:=by rw[z];exact(congrArg Prod.snd (qX c1 (.inr rfl))).trans a5
 obtain⟨M,t⟩:∃M,M=((f.cD 3).iV).jn (λi=>decide (i<3)) (λ_=> []):=⟨_,rfl⟩;have X:=X.jn (λi=>decide (i<3)) (λ_=> []);rw[←t]at X;have bU:∀x∈f.waits,x.i<f.n:=λx hx=>by
  rw[z]at hx⊢;rcases cX.1 hx with rfl|hx
  .show 1%2<c1.n;omega
  .exact(W.wn x (gG.1 hx).1).2.1
 have bV:∀j,M.now j=if j=1 then eE 1 (jN jo D.n 1) else if j<3 then vals j else D.now j:=λj=>by
  have aE:M.now j=f.now j:=by
   rw[t];by_cases bb:j<f.n
   .exact(zf (f.cD 3) bb).trans (wg f 3 j)
   .have P:f.now j=[]:=by
     unfold ba.now
     cases hf:f.waits.find? λx=>x.i==j with
     |some x=>
      have hx:=j0 hf;have he:x.i=j:=by simpa using kU hf
      have:=bU x hx;omega
     |none=>
      have:¬j<f.b4.length:=bb;show f.b4.getD j []=[];rw[fL,nZ I];rfl
    rw[P];show((List.range (f.cD 3).n).map (f.cD 3).now).getD j []=[];rw[fL,nZ (by simp;show f.n<=j;omega)];rfl
  rw[aE,z,pc,bL,a3]
 have aI:Dj D M:=by
  refine⟨by rw[t,z];exact a2,by rw[t];exact(sT (f.cD 3)).trans (by rw[z];exact a3),λj=>?_,by rw[t];rfl,by rw[t,z];show c1.a6+1=_;omega,λm=>by rw[t,z];exact sU (c1.put (1%2) s (eE (1%2) (jN jo c1.n 1))) (jM (.inr rfl) W.f4 (a4 _)).1,?_,by rw[t];rfl,by rw[t];rfl,by rw[t,z];exact bK⟩
  .rw[bV,av,←R]
   by_cases P:j=1
   .rw[if_pos P,if_pos P]
   .rw[if_neg P,if_neg P]
    by_cases T:j=2
    .subst T;rfl
    .by_cases ab:j=0
     .subst ab;rfl
     .rw[if_neg I,if_neg T,if_neg ab]
  .rw[t]
   show(f.cf.set 3 _).getD 3 0=_;have bM:f.cf.length=4:=by rw[z];show(c1.cf.set 2 _).length=4;rw[dj];exact W.f4
   rw[fz (by rw[dj];omega),ij,aG];rfl
 have bc:∀q,cm M q->cm D q\/B.heap.size<=q:=λq b=>by
  rw[t]at b;have h1:cm f q:=by
   rcases b with e|e|e|⟨x,hx,e⟩
   .exact .inl e
   .exact .inr (.inl e)
   .exact .inr (.inr (.inl e))
   .cases hx
  rw[z]at h1;rcases wB bT q h1 with h2|h2
  .exact al q h2
  .exact .inr I
 have bd:af (cm D) B a_:=c2 (c2 am V λq _ h=>h.elim) ao λq b hf=>(al q hf).resolve_right I;have aK:=(bN.ext V).ah ao λhf=>by
  rcases al _ hf with h1|h1
  .exact U _ (bl _) h1
  .have:=ac.size;have:=S.lt;have:=Q.lt;have:=C.size;have:=Z.size;have:=K.size;have:=N.size;have:=G.size;omega
 have bW:=a7.ah ao λhf=>by
  have:=aD.lt hf;omega
 have be:=(bO.ext V).ah ao λq b hf=>by
  have bf:=aa q b;have aL:=(hs.ext (Ext.trans K (Ext.trans N (af.refl _ _)))).lt q b;rcases al _ hf with h1|h1
  .exact U q (by have:=(J.trans C).size;omega) h1
  .have:=G.size;omega
 have cn:=bd.size;have S:=ac.size;have bh:=oB X (l:=l) (u:=jo) (gen:=1) ⟨by have:=ap.1;omega,by have:=ap.2.1;omega⟩ ⟨by decide,by decide,by decide,by rw[aI.n];show(0:Int)<_;omega,by decide⟩ (by decide) (λj _=>by rw[t];rfl) sb;rw[aI.d]at bh;refine⟨0,rfl,λh=>(by cases h),λ_=>⟨_,aK.cell,_,by rw[aA];exact aK.cell,_,by rw[aA];exact aK.cell,q1 bW (bh.use ?_)⟩⟩;rintro _ co ⟨c,aV,bg,st,aM⟩;have bX:=aM.val;subst bX;refine⟨_,0,rfl,M,sb,s1,s2,c,aV,bg,st,a_,aM,be.ext aM.x,aI,c2 (ac.mono λ_ _ h=>h.elim) bd λq _ h=>h,λq b=>?_,λq b=>?_,λq b hf=>?_⟩
 .have bf:=aa q b
  have aL:=be.lt q b;have:=(J.trans C).size;exact⟨I,aL⟩
 .rcases bc q b with h1|h1
  .exact .inl h1
  .exact .inr ⟨I,X.lt b⟩
 .have bf:=aa q b
  have aL:=(hs.ext (Ext.trans K (Ext.trans N (af.refl _ _)))).lt q b;rcases bc _ hf with h1|h1
  .exact U q (by have:=(J.trans C).size;omega) h1
  .have:=G.size;omega
end
theorem oW{b d:Nat}(k:b<256)(hd:d<256)(w:J):aJ aj 19 #[.int .u8 (b:Nat),.int .u8 (d:Nat)] w (λv w'=>v=.agg (eI.c ⟨8,1+b%12,1+d%12⟩).toArray/\Ext w w'):=by
 refine ae.Fy _ _ w _ ?_;(delta ae.oW Y aq aF cr;dsimp only);have g:IntKind.wrap .i64 (1+IntKind.wrap .i64 (Int.tmod (b:Int) 12))=((1+b%12:Nat):Int):=by
  rw[mT I,bn (n:=(b:Int)%12) I I,bn I I];omega
 have h:IntKind.wrap .u64 (1+IntKind.wrap .u64 (Int.tmod (d:Int) 12))=((1+d%12:Nat):Int):=by
  rw[mT I,gw (n:=(d:Int)%12) I I,gw I I];omega
 rw[g,h];refine a8 (vs:=[(0:Int),(0:Int),.int .u64 0]) rfl λw1 e i l=>⟨by decide,by decide,e.cl rfl (λv f=>?_),rfl,cP e (us:=eI.c ⟨8,1+b%12,1+d%12⟩) rfl rfl λai a j m=>⟨_,a.cell,_,by rw[aA];exact a.cell,_,by rw[aA];exact a.cell,rfl,Ext.cy i j (bl _)⟩⟩;simp only[cX,fk,fv]at f;rcases f with rfl|rfl|rfl<;>trivial
theorem Jb{w:J}{A:ag}{v:aa}(h:w.cell? A=some v):A.block<w.heap.size:=by
 unfold World.cell? at h;split at h
 .rename_i h1
  exact(lp.1 h1).1
 .cases h
theorem Jc(n k:Nat):bL n (k+1)=UInt8.ofNat (n/256^k%256)::bL n k:=by
 unfold bL;rw[List.range_succ_eq_map,g0,nS]
 congr 1
 apply List.map_congr_left;intro j a;have:=jV.1 a;show UInt8.ofNat (n/256^(k+1-1-(j+1))%256)=_;rw[show k+1-1-(j+1)=k-1-j from I]
theorem nt(w:J){n k:Nat}(t:n<18446744073709551616)(u:k<=8):aJ aj 215 #[.int .u64 (n:Nat),k] w (λv w'=>∃s:ad,v=s/\aW 1 5 w' s (az (bL n k))/\Ext w w'/\gq w s):=by
 refine ae.Fv _ _ w _ ?_;delta ae.nt Y ak aq;have x:=o6 w (.cells #[] 5);refine aX ⟨λm s j w'=>∃i:Nat,i<=k/\j=(i:Int)/\m=((n/256^i:Nat):Int)/\aW 1 5 w' s (az (bL n i))/\Ext w w'/\gq w s,λ_ _ j _=>((k:Int)-j).toNat,⟨0,cL _,rfl,by rw[Nat.pow_zero,Nat.div_one],aW.new w [] 0 rfl (by decide),da _ _,λq a=>by have:=jb.1 a;have:w.heap.size=q:=this;omega⟩,?_⟩;rintro _ s _ b ⟨i,hi,rfl,rfl,c,hx,hf⟩;refine⟨λh=>?_,λh=>?_⟩
 .simp only[c7,cq]at h
  have d:n/256^i<=n:=Nat.div_le_self _ _;have f:IntKind.wrap .u8 (Int.tmod ((n/256^i:Nat):Int) 256)=(((UInt8.ofNat (n/256^i%256)).toNat:Nat):Int):=by
   generalize n/256^i=m;rw[mT I,tK I I,qF (gZ _ I)];omega
  have g:IntKind.wrap .u64 (Int.tdiv ((n/256^i:Nat):Int) 256)=((n/256^(i+1):Nat):Int):=by
   rw[Nat.pow_succ,←Nat.div_div_eq_div_mul]
   revert d
   generalize n/256^i=m;intro d;rw[wI I,gw I I];omega
  rw[f,g,pr I];have l:=lK c;rw[du]at l;have y:=o6 b (.cells (az [UInt8.ofNat (n/256^i%256)]).toArray 5);obtain⟨o,w',aw,ay,z,p,r⟩:=Co.append (cB:=39) (c.src.alloc _) (aW.new b (az [UInt8.ofNat (n/256^i%256)]) 1 rfl (by decide)) (iM _) (by show(2*(1+s.len)+1000)*1<=_;omega);rw[←mm,List.singleton_append,←Jc]at ay;refine⟨by decide,aX ⟨o,w',aw,by decide,⟨i+1,I,rfl,rfl,ay,c2 hx (c2 (da b _) p λq a c=>by have:=jb.1 c;have:b.heap.size=q:=this;have:=hx.size;omega) λq a e=>e,λq a=>?_⟩,by show((k:Int)-((i+1:Nat):Int)).toNat<((k:Int)-(i:Int)).toNat;omega⟩⟩;have:=hx.size;rcases r q a with h1|h1
  .have:=jb.1 h1
   have:b.heap.size=q:=this;omega
  .omega
 .simp only[Bool.and_eq_false_iff,jU]at h
  have:i=k:=by omega
  subst this;exact⟨s,rfl,c,hx,hf⟩
theorem Jd(w:J)(p:bp)(s:Int):Sem.run aj (Instr.build 57 #[(0,s),(1,.agg p.c.toArray)]) w=.ok (.agg (aG.mk s p 0 0).c.toArray) w:=by
 obtain⟨⟨dL,l,h⟩,n⟩:=p;obtain⟨cd,a,b,d,e,f,g,i,j,k,m,o,q,r,t,u,rfl⟩:=so l h
 kernel_rfl
def pv(s:Int)(p:bp):O UInt8:=if ee s p=true then eS s.toNat p else []
theorem oT(s:Int)(p:bp)(w:J):aJ aj 168 #[s,.agg p.c.toArray] w (λv w'=>∃t:ad,v=t/\aW 1 5 w' t (az (pv s p))/\Ext w w'/\∀q,aB t q->w.heap.size<=q):=by
 refine ae.Fs s _ w _ ?_;(delta ae.oT Y b6 ak aT aF bD xB;dsimp only);refine a8 (vs:=p.c) rfl λw1 G aa ap=>⟨p.c,G.rd (bp.bF _),_,Jd w1 p s,(np ⟨s,p,0,0⟩ w1).use ?_⟩;rintro _ l ⟨rfl,H⟩;have ab:(aG.mk s p 0 0).dZ=ee s p:=by unfold aG.dZ;rw[show iO (aG.mk s p 0 0).b=true from rfl,pA]
 rw[ab];have B:=aa.trans H;have K:=G.ext H;have aq:=B.size;refine⟨_,rfl,λh=>?_,λh=>?_⟩
 .have hg:ee s p=false:=by simpa using h
  refine aX ⟨⟨some l.heap.size,0,0⟩,rfl,?_,B.trans (da _ _),λq d=>?_⟩
  .unfold pv
   rw[if_neg (by rw[hg];decide)];exact aW.new (T:=5) l [] 0 rfl (by decide)
  .have:l.heap.size=q:=jb.1 d
   omega
 have hg:ee s p=true:=by simpa using h
 have C:=hg;unfold ee at C;rw[c7,cq]at C;obtain⟨ac,ag⟩:=C;obtain⟨k,rfl,ar⟩:=qQ ag;have au:=sD ac;have ah:IntKind.wrap .u8 p.bits=(((UInt8.ofNat p.bits.toNat).toNat:Nat):Int):=by
  rw[rp];show p.bits%256=_;omega
 refine cA (λn w'=>n=(((h9 p).toNat:Nat):Int)/\l=w') (λq d=>⟨_,BJ K,λh=>d _ _ ⟨by unfold h9;rw[if_pos h];rfl,rfl⟩,λh=>d _ _ ⟨by unfold h9;rw[if_neg (by rw[h];decide)];rfl,rfl⟩⟩) ?_;rintro _ _ ⟨rfl,rfl⟩;have L:=cG l;have u:=K.ext L;have D:=B.trans L;refine aX ?_;generalize l.drew=f at u D;have av:=D.size;have ax:=u.lt;refine⟨λq=>f.heap.size<=q,by rw[aA];show¬f.heap.size<=w.heap.size;omega,_,yo u,by show¬f.heap.size<=w.heap.size;omega,_,yn u,?_⟩;rw[ah,gw (n:=(k:Int)) I I];have lit:∀ (w':J),Src 1 (w'.alloc (.cells #[.int .u8 (((h9 p).toNat:Nat):Int),.int .u8 (((UInt8.ofNat p.bits.toNat).toNat:Nat):Int)] 5)) ⟨some w'.heap.size,2,2⟩ (az [h9 p,UInt8.ofNat p.bits.toNat]):=λw'=>Src.new (T:=5) w' (az [h9 p,UInt8.ofNat p.bits.toNat]) 2 rfl;have aC:=vy p.addr
 have fin:∀ (ai:J) (g:ad),Ext f ai->aW 1 5 ai g (az (bL k 2)++az [h9 p,UInt8.ofNat p.bits.toNat])->(∀q,aB g q->f.heap.size<=q)->Calls aj 216 #[.agg p.addr.c.toArray] ai λal M=>
  ∃m:ad,al=.returned m/\∃i:ad,∃o:J,Sem.run aj (
   Builtin.append_ #[39,39] 39 #[g,m])
  M=.ok i o/\∃t:ad,Value.slice i.a i.len i.cap=t/\aW 1 5 o t (az (pv (k:Nat) p))/\Ext w o/\∀q,aB t q->w.heap.size<=q:=λai g N O P=>by
  refine(oV p.addr ai).use ?_;rintro _ M ⟨m,rfl,am,aD,E⟩;have aE:g.len=4:=by have:=O.1;rw[cp,c4,c4,du]at this;simp at this;omega
  obtain⟨i,o,aw,ay,Q,j,r⟩:=mo.append (cB:=39) am.src (O.ext E) (iM _) (by show(2*(g.len+m.len)+1000)*1<=_;omega);have aH:=N.size;have aI:=E.size;refine⟨m,rfl,i,o,aw,i,rfl,?_,Ext.dS (D.trans (N.trans E)) j (λq d=>by have:=P q d;omega),λq d=>?_⟩
  .unfold pv
   rw[if_pos hg];have e:az (bL k 2)++az [h9 p,UInt8.ofNat p.bits.toNat]++az p.addr.raw=az (eS (Int.toNat (k:Nat)) p):=by
    rw[dg];unfold eS az;rw[fJ,fJ,cz]
   rw[←e];exact ay
  .rcases r q d with h1|h1
   .have:=P q h1;omega
   .omega
 have x:∀ {a b:J},Ext a b->af (λq=>f.heap.size<=q) a b:=λh=>h.mono λ_ _ h=>h.elim;refine⟨(nt f (n:=k) (k:=2) I I).use ?_,aX ⟨x (da _ _),(nt _ (n:=k) (k:=2) I I).use ?_⟩⟩
 .rintro _ R ⟨y,rfl,S,F,an⟩
  have aK:y.len=2:=by have:=S.1;rw[c4,du]at this;omega
  obtain⟨g,U,aw,ay,Q,j,r⟩:=mo.append (cB:=39) (lit R) (S.ext (da _ _)) (iM _) (by show(2*(y.len+2)+1000)*1<=_;omega);have aL:=F.size;have V:=(da R (.cells #[.int .u8 (((h9 p).toNat:Nat):Int),.int .u8 (((UInt8.ofNat p.bits.toNat).toNat:Nat):Int)] 5)).size;have hf:∀q,aB y q->f.heap.size<=q:=an;exact⟨y,rfl,x F,aX ⟨x (da _ _),g,U,aw,j.mono λq _ d=>hf q d,fin U g (Ext.dS (F.trans (da _ _)) j hf) ay λq d=>by
   rcases r q d with h1|h1
   .exact hf q h1
   .omega⟩⟩
 .rintro _ aM ⟨z,rfl,W,A,ao⟩
  have aN:z.len=2:=by have:=W.1;rw[c4,du]at this;omega
  have V:=(da f (.cells #[.int .u8 (((h9 p).toNat:Nat):Int),.int .u8 (((UInt8.ofNat p.bits.toNat).toNat:Nat):Int)] 5)).size;obtain⟨X,Z,aw,ay,Q,j,r⟩:=mo.append (cB:=39) ((lit f).ext A) W (iM _) (by show(2*(z.len+2)+1000)*1<=_;omega);have aO:=A.size;have hf:∀q,aB z q->f.heap.size<=q:=λq d=>eK V (ao q d);exact⟨z,rfl,x A,X,Z,aw,j.mono λq _ d=>hf q d,fin Z X (Ext.dS ((da _ _).trans A) j hf) ay λq d=>by
   rcases r q d with h1|h1
   .exact hf q h1
   .omega⟩
theorem lk(T:O aG):∀t∈T,(aG.c t).length=21:=λt _=>t.bF
section
variable {w w':J}{s:ad}{T:O aG}{i bf:Nat}{most:Int}
theorem wD(hs:Src 21 w s (bu aG.c T))(hi:i<T.length):∃A:ag,s.a=some A/\((0:Int)<=(i:Int)/\(i:Int)<(s.len:Int))/\w.cell? (A.add (Int.toNat (i:Int)*21))=some (.int .i64 T[i].s)/\bw w ((A.add (Int.toNat (i:Int)*21)).add 1) 0 18=some T[i].p.c/\bw w (A.add (Int.toNat (i:Int)*21)) 0 21=some T[i].c:=by
 obtain⟨d,A,au,b⟩:=yH hs (lk T) (by decide) hi;rw[dg];have h0:=p2 b (j:=0) (v:=.int .i64 T[i].s) rfl;have h1:=xv b (k:=1) (m:=18) (by decide);have e:(T[i].c.drop 1).take 18=T[i].p.c:=by
  show List.take 18 (T[i].p.c++_)=_;rw[nY (bp.bF _)]
 rw[e]at h1;refine⟨A,au,⟨I,I⟩,?_,h1,b⟩;rw[lV,add_zero']at h0;exact h0
def ek(s:Int)(p:bp)(t:aG):al:=decide (t.s=s)&&decide (t.p=p)
def pw(T:O aG)(s:Int)(p:bp):Int:=match T.findIdx? (ek s p) with|some i=>(i:Int)|none=> -1
theorem Je{sv:Int}{p:bp}(B:Var w bf [most,s] 36)(hs:Src 21 w s (bu aG.c T))(E:T.length<=1000000):
 aJ aj 99 #[.pointer (some bf),sv,.agg p.c.toArray] w (λv w'=>v=.int .i64 (pw T sv p)/\Ext w w'):=by
 have F:s.len=T.length:=by
  have:=hs.len;rw[fA _ (lk T)]at this;omega
 refine ae.Fo (some bf) sv _ w _ ?_;(delta ae.sk r1 ak aP aF Y aq;dsimp only);refine a8 (vs:=p.c) rfl λw1 C f G=>⟨λn w'=>∃i:Nat,n=(i:Int)/\i<=T.length/\(∀ (j:Nat) (a:j<T.length),j<i->ek sv p T[j]=false)/\Ext w1 w',λn _=>((T.length:Int)-n).toNat,⟨0,rfl,cL _,λj _ h=>I,.refl _ _⟩,?_⟩;rintro _ o ⟨i,rfl,hi,g,b⟩;have q:=(B.ext f).ext b;refine⟨_,rfl,s,by rw[aA];exact q.cell,λaH=>?_,λr=>⟨?_,f.trans b⟩⟩
 rotate_left
 .have r:=cH r
  have:T.findIdx? (ek sv p)=none:=by
   rw[List.findIdx?_eq_none_iff];intro t ht;obtain⟨j,a,rfl⟩:=fj ht;exact g j a I
  unfold pw;rw[this]
 have aH:(i:Int)<(s.len:Int):=cj aH;have u:i<T.length:=by omega
 have d:=cG o;have l:=(f.trans b).trans d;have m:=q.ext d;have x:=(C.ext b).ext d;have y:=b.trans d;refine aX ?_;generalize o.drew=D at l m x y;obtain⟨A,au,z,h0,h1,_⟩:=wD (hs.ext l) u;have next:ek sv p T[i]=false->(∃k:Nat,IntKind.wrap .i64 ((i:Int)+1)=(k:Int)/\k<=T.length/\(∀ (j:Nat) (a:j<T.length),j<k->ek sv p T[j]=false)/\Ext w1 D)/\((T.length:Int)-IntKind.wrap .i64 ((i:Int)+1)).toNat<((T.length:Int)-(i:Int)).toNat:=λhf=>by
  rw[bn (n:=(i:Int)+1) I I];refine⟨⟨i+1,I,I,λj a h=>?_,y⟩,I⟩;by_cases e:j=i
  .subst e;exact hf
  .exact g j a I
 refine⟨_,rfl,id,s,by rw[aA];exact m.cell,A,au,z,id,_,h0,λhe=>⟨_,rfl,id,s,by rw[aA];exact m.cell,A,au,z,id,_,h1,id,_,x.rd (bp.bF _),_,xW _ _,λh=>⟨?_,l⟩,λh=>next ?_⟩,λhe=>⟨λh=>(by cases h),λ_=>next ?_⟩⟩
 .have hf:T.findIdx? (ek sv p)=some i:=by
   rw[List.findIdx?_eq_some_iff_getElem];refine⟨u,?_,λj a=>?_⟩
   .unfold ek
    rw[c7];exact⟨dI (by simpa using he),h⟩
   .rw[g j I a];decide
  unfold pw;rw[hf]
 .unfold ek;rw[h,Bool.and_false]
 .unfold ek
  rw[ih (by simpa using he),kV]
end
instance:DecidableEq aG:=λa b=>decidable_of_iff (a.s=b.s/\a.p=b.p/\a.b=b.b/\a.u=b.u) ⟨λh=>by cases a;cases b;simp_all,λh=>by rw[h];exact⟨rfl,rfl,rfl,rfl⟩⟩
section
variable {w w':J}{s t:ad}{T U:O aG}
end
theorem zi(w:J):Sem.run aj (Instr.buildSlice 22 0 #[]) w=.ok (.slice (some w.heap.size) 0 0) (w.alloc (.cells #[] 57)):=by kernel_rfl
theorem Dl(w:J)(t:aG):Sem.run aj (Instr.buildSlice 22 1 #[(0,.agg t.c.toArray)]) w=.ok (.slice (some w.heap.size) 1 1) (w.alloc (.cells t.c.toArray 57)):=by
 obtain⟨s,⟨⟨dL,l,h⟩,n⟩,b,u⟩:=t;obtain⟨cd,a,d,e,f,g,i,j,k,m,o,p,q,r,v,x,rfl⟩:=so l h
 kernel_rfl
theorem zj:g3 aj 22 57 21 56:=⟨by kernel_rfl⟩
section
variable {w w':J}{s:ad}{T:O aG}{i bf:Nat}{most:Int}
end
structure hO(B:Nat->Prop)(w:J)(bf:Nat)(most:Int)(s:ad)(T:O aG):Prop where
 v:Var w bf [most,s] 36
 iS:Src 21 w s (bu aG.c T)
 c:s.len<=s.cap
 b:∀q,aB s q->B q/\q<w.heap.size
 nb:¬B bf
section
variable {B V:Nat->Prop}{w w':J}{s:ad}{T:O aG}{bf:Nat}{most:Int}
theorem hO.ah(h:hO B w bf most s T)(hc:af V w w')(d:¬V bf)(e:∀q,B q->q<w.heap.size->¬V q):hO B w' bf most s T:=
 ⟨h.v.ah hc d,h.iS.ah hc λq a=>e q (h.b q a).1 (h.b q a).2,h.c,λq a=>⟨(h.b q a).1,fa (h.b q a).2 hc.size⟩,h.nb⟩
theorem hO.ext(h:hO B w bf most s T)(hx:Ext w w'):hO B w' bf most s T:=h.ah hx id λ_ _ _ h=>h
theorem hO.len(h:hO B w bf most s T):s.len=T.length:=by have:=h.iS.len;rw[fA _ (lk T)]at this;omega
theorem hO.put(h:hO B w bf most s T){w0:J}{a:ad}{ar:O aG}(hx:Ext w w0)(hf:hJ 21 57 w w0 a (bu aG.c ar))(j:∀q,w.heap.size<=q->B q):
 (∃u:aa,w0.cell? (Addr.add bf 1)=some u)/\w0.frozen? (Addr.add bf 1)=false/\hO B (w0.setCell (Addr.add bf 1) a) bf most a ar/\af (λq=>q=bf) w0 (w0.setCell (Addr.add bf 1) a):=by
 rw[aA,cR];have g:=h.v.ext hx;obtain⟨b9,ct⟩:=eA g (i:=1) (by show 1<2;decide);have d:=dU w0 bf 1 a;have k:=h.v.lt;refine⟨b9,ct,⟨ez g (i:=1) _,hf.o.src.ah d (λq b e=>by have:=hf.f q b;omega),hf.o.2.1,λq b=>⟨j q (hf.f q b),fa (hf.o.lt q b) d.size⟩,h.nb⟩,d⟩
end
section
variable {B:Nat->Prop}{w w':J}{s:ad}{T:O aG}{bf i:Nat}{most:Int}
theorem Jf(w:J):hJ 21 57 w (w.alloc (.cells #[] 57)) ⟨some w.heap.size,0,0⟩ []:=⟨aW.new (T:=57) w [] 0 (by simp) (by decide),da _ _,λq a=>by have:w.heap.size=q:=jb.1 a;omega⟩
theorem zk(T:O aG):∀v∈bu aG.c T,Plain v:=Hb λt _=>t.plain
theorem Jg(T:O aG)(i:Nat)(hi:i<=T.length):((bu aG.c T).drop (0*21)).take ((i-0)*21)=bu aG.c (T.take i):=by
 rw[mR,iF,mQ]
 conv=>lhs;rw[←fI i T,lN]
 exact nY (by rw[fA _ (lk _),cI,hV hi])
theorem Jh(T:O aG)(i:Nat)(hi:i<=T.length):((bu aG.c T).drop (i*21)).take ((T.length-i)*21)=bu aG.c (T.drop i):=by
 have h1:(bu aG.c T).drop (i*21)=bu aG.c (T.drop i):=by
  conv=>lhs;rw[←fI i T,lN]
  exact List.drop_left' (by rw[fA _ (lk _),cI,hV hi])
 rw[h1,dX (by rw[fA _ (lk _),ed];exact bl _)]
end
theorem nq(t:aG)(w:J):aJ aj 101 #[.agg t.c.toArray] w (λv w'=>∃s:ad,v=s/\aW 1 5 w' s (az (pv t.s t.p))/\Ext w w'/\∀q,aB s q->w.heap.size<=q):=by
 refine ae.Fp _ w _ ?_;(delta ae.nq aF Y bD;dsimp only);refine a8 (vs:=t.c) rfl λw1 a b g=>⟨t.s,a.cell,t.p.c,qR a,(oT t.s t.p w1).use ?_⟩;rintro _ h ⟨d,rfl,e,hx,hf⟩;exact⟨d,rfl,d,rfl,e,b.trans hx,λq f=>eK b.size (hf q f)⟩
section
variable {B:Nat->Prop}{w w':J}{s:ad}{T:O aG}{bf i:Nat}{most:Int}
end
structure ln(V:Nat->dc)(n gen:Nat)(u:eP)(g:Nat->al)(P:Nat->av aD)(p:O Nat)(L:O aM):Prop where
 fr:∃j,j<n/\g j=false
 Dm:sI ((gen%2:Nat):Int) (V (gen%2))=.ok (u,n,gen)
 Ji:V (1-gen%2)=hG\/∃a g',sI ((1-gen%2:Nat):Int) (V (1-gen%2))=.ok (a,n,g')/\g'<gen
 mp:∃iz,iz<=gen/\fe (u.map:Int) (V u.map)=.ok ⟨4,iz,iC g ((n+7)/8)⟩
 g:∀no,g no=true↔no∈p\/no<2\/no=u.map
 b_:p.Nodup
 two:∀x∈p,2<=x/\x≠u.map/\x<n
 ok:(u.aL=0/\u.root=0/\p=[]/\L=[])\/eL P u.aL none none u.root p L
 eR:∀x∈p,∀b_,P x=some b_->gP gen b_.leaf x (V x) b_
 keys:u.keys=L.length
 kv:∀q∈L,cv q.1/\q.2.length<=24
 Jj:nE u
 zl:nF u n
 Jk:u.dn+1<=gen
theorem ln.agree{V a:Nat->dc}{n gen:Nat}{u:eP}{g:Nat->al}{P P':Nat->av aD}{p:O Nat}{L:O aM}(h:ln V n gen u g P p L)(gd:∀j,g j=true->a j=V j)(b:∀x∈p,P x=P' x):ln a n gen u g P' p L:=by
 have h0:a (gen%2)=V (gen%2):=gd _ ((h.g _).2 (.inr (.inl I)));have h1:a (1-gen%2)=V (1-gen%2):=gd _ ((h.g _).2 (.inr (.inl I)));refine⟨h.fr,by rw[h0];exact h.Dm,by rw[h1];exact h.Ji,by rw[gd _ ((h.g _).2 (.inr (.inr rfl)))];exact h.mp,h.g,h.b_,h.two,h.ok.imp id λc=>(c.agree b).1,λx hx b_ d=>?_,h.keys,h.kv,h.Jj,h.zl,h.Jk⟩;rw[gd _ ((h.g _).2 (.inl hx))];exact h.eR x hx b_ (by rw[b x hx];exact d)
structure ck where
 st:Nat
 T:aK
 l:eI
 u:eP
 gen:Nat
 now:Nat
 first:Nat
 pending:Nat
 keys:Nat
 failed:al
def ck.V(S:ck)(j:Nat):dc:=S.T.C.D.b4.getD j []
def ck.cells(S:ck):O aa:=iW S.T.bg S.T.C.D.d S.T.C.c S.T.sb S.l S.u S.gen S.now S.first S.pending S.keys S.failed
structure jR(w:J)(S:ck)(aO:O Nat)(bN:O aM):Prop where
 v:Var w S.st S.cells 146
 t:b8 w S.T
 es:S.T.E S.st
 jS:ln S.V S.T.n S.gen S.u S.T.g S.T.P aO bN
 gen:S.T.gen=S.gen+1
 num:S.now<18446744073709551616/\S.first<=S.now/\S.u.dn+1<=S.gen/\S.gen+2<18446744073709551616/\S.l.batch<=1000/\S.l.iL<=1048576/\1<=S.l.batch
 b7:∀j,S.T.g j=true->S.T.C.D.b7 j=true
structure dP(w:J)(S:ck)(pages:O Nat)(L:O aM)(aO:O Nat)(bN:O aM):Prop extends jR w S aO bN where
 ok:gD S.T pages L
 b_:pages.Nodup
 f:∀no,S.T.f no=true↔no∈pages\/no<2\/no=S.u.map
 two:∀x∈pages,2<=x/\x≠S.u.map
 kv:∀p∈L,cv p.1/\p.2.length<=24
 keys:S.keys=L.length
 px:S.pending<=1000
 live:S.failed=false->¬S.T.C.D.ro/\S.T.C.D.eG=(λ_=> [])/\1<=cg S.T
 dead:S.failed=true->S.T.C.D.ro/\L=bN/\pages=aO/\S.pending=0
def ba.quiet(D:ba):Prop:=(∀k,D.calm k)/\D.cf.getD 3 0= -1
def ck.W(S:ck)(q:Nat):Prop:=S.T.M q/\(S.T.E q->q=S.st)
structure d_(k:Nat)(S aE:ck)(w w':J):Prop where
 st:aE.st=S.st
 d:aE.T.C.D.d=S.T.C.D.d
 n:aE.T.n=S.T.n
 l:aE.l=S.l
 a6:aE.T.C.D.a6<=S.T.C.D.a6+k
 q:S.T.C.D.quiet->aE.T.C.D.quiet
 ah:af S.W w w'
 c3:∀q,aE.T.M q->S.T.M q\/w.heap.size<=q
 E:aE.T.E=S.T.E
 G:aE.T.G=S.T.G
 r:aE.T.C.D.r1=S.T.C.D.r1
section
variable {w w':J}{C:b2}{X:Nat->Prop}{T:aK}{S aE:ck}{pages aO:O Nat}{L bN:O aM}
theorem jR.nO(h:jR w S aO bN){q:Nat}(a:S.T.N q):S.W q:=⟨aK.gB a,λhe=>absurd a (h.t.kJ he)⟩
theorem jR.Dn(h:jR w S aO bN):S.W S.st:=⟨.inr (.inr (.inr (.inl h.es))),λ_=>rfl⟩
theorem d_.back{k q:Nat}(h:d_ k S aE w w')(b:q<w.heap.size)(a:aE.W q):S.W q:=⟨(h.c3 q a.1).resolve_right I,λhe=>(a.2 (by rw[h.E];exact he)).trans h.st⟩
theorem dW.jn(h:dW X w C){s:Nat->al}{z:Nat->O dc}(hc:∀f∈C.an,∀j:Nat,f.full=true->f.no=j->s j=true->f.gg=false)(b:∀j,s j=true->C.D.e8 j=z j):
 dW X w {C with D:=C.D.jn s z}:=
 ⟨⟨h.raw.v,h.raw.f,h.raw.dev.jn s z,h.raw.b9,h.raw.ct,h.raw.hd,h.raw.a1⟩,h.inv.pins,λf hf a=>by
  obtain⟨no,aw,ay,c,d,e,i,g⟩:=h.inv.ok f hf a
  exact⟨no,aw,ay,c,d,e,λhs=>hc f hf no a aw hs,g⟩,h.inv.un,h.inv.e_,b⟩
theorem b8.jn(h:b8 w T){s:Nat->al}{z:Nat->O dc}(hc:∀f∈T.C.an,∀j:Nat,f.full=true->f.no=j->s j=true->f.gg=false)(a:∀j,s j=true->T.C.D.e8 j=z j)(hs:∀j,s j=true->T.g j=true\/∀i,s i=true):
 b8 w (T.bx {T.C with D:=T.C.D.jn s z} T.P):=⟨h.t,h.s,h.ca.jn hc a,h.kk,h.dO,h.jk,h.n,h.num,h.eR,hs,h.low⟩
theorem Jl(h:dW X w C){j:Nat}(hs:C.D.b7 j=true):C.view j=C.D.now j:=by
 unfold b2.view
 cases hf:C.an.find? λf=>f.full&&f.no==(j:Int) with
 |none=>rfl
 |some f=>
  have h1:=kU hf;have h2:=j0 hf;simp only[c7,kt]at h1;obtain⟨no,aw,ay,c,d,a,b,e⟩:=h.inv.ok f h2 h1.1;have:no=j:=by omega
  subst this;exact a (b hs)
theorem Jm(h:dW X w C){j:Nat}(hs:C.D.b7 j=true)(a:C.D.eG j=[]):C.view j=C.D.b4.getD j []:=by
 rw[Jl h hs,yG _ (λx hx=>(h.raw.dev.wn x hx).1),if_pos (by rw[h.inv.pg j hs,a])]
theorem dP.view(h:dP w S pages L aO bN)(a:S.failed=false){j:Nat}(b:S.T.g j=true):S.T.C.view j=S.V j:=
 Jm h.t.ca (h.b7 j b) (by rw[(h.live a).2.1])
theorem jR.set(h:jR w S aO bN){i:Nat}{x:aa}(hi:i<19):(∃u:aa,w.cell? ⟨S.st,i,none⟩=some u)/\w.frozen? ⟨S.st,i,none⟩=false/\
 Var (w.setCell ⟨S.st,i,none⟩ x) S.st (S.cells.set i x) 146/\b8 (w.setCell ⟨S.st,i,none⟩ x) S.T/\af (λq=>q=S.st) w (w.setCell ⟨S.st,i,none⟩ x):=by
 obtain⟨aw,ay⟩:=eA h.v (i:=i) (by exact hi);exact⟨aw,ay,ez h.v (i:=i) x,h.t.ko h.es (dU w S.st i x),dU w S.st i x⟩
end
theorem gP.mono{gen a no:Nat}{leaf:al}{l:dc}{n:aD}(h:gP gen leaf no l n)(hg:gen<=a):gP a leaf no l n:=by
 obtain⟨p,h1,h2,b⟩:=h;exact⟨p,h1,eK h2 hg,b⟩
section
variable {w w':J}{C:b2}{X:Nat->Prop}{T:aK}{S aE:ck}{pages aO:O Nat}{L bN:O aM}
theorem Jn{aC:ba}(h:dW X w C)(hd:dd w' aC)(e:aC.d=C.D.d)(g:kL aC C.D)(k:∀i,2<=i->aC.now i=C.D.now i)(hc:af (cm C.D) w w')(hf:∀q,cm aC q->cm C.D q\/w.heap.size<=q):
 dW X w' {C with D:=aC}/\∀j,2<=j->({C with D:=aC}:b2).view j=C.view j:=by
 have o:=hc.size;have l:∀q,q<w.heap.size->c6 {C with D:=aC} q->c6 C q:=λq a b=>by
  rcases b with h1|h1|h1
  .exact .inl h1
  .exact .inr (.inl h1)
  .exact .inr (.inr ((hf q h1).resolve_right I))
 refine⟨⟨h.raw.qG hd e hc hf,h.inv.pins,λf p r=>?_,h.inv.un,λq a=>⟨fa (h.inv.e_ q a).1 o,λb=>(h.inv.e_ q a).2 (l q (h.inv.e_ q a).1 b)⟩,g.2.2⟩,λj s=>?_⟩
 .obtain⟨no,aw,ay,t,u,v,x,m⟩:=h.inv.ok f p r
  exact⟨no,aw,by rw[show({C with D:=aC}:b2).D.n=aC.n from rfl,g.1];exact ay,bq.re t hc (λq _ c y=>c.1 (.inr (.inr y))) λq a c=>⟨λb=>c.1 (l q a b),c.2⟩,u,λhd=>by show _=aC.now no;rw[k no m];exact v hd,λhs=>x (g.2.1 _ hs),m⟩
 .unfold b2.view
  dsimp only
  cases C.an.find? λf=>f.full&&f.no==(j:Int) with
  |some f=>rfl
  |none=>exact k j s
theorem b8.Dp{aI:b2}{P:Nat->av aD}(h:b8 w T)(a:dW T.X w' aI)(hc:af (c6 T.C) w w')(e:aI.c=T.C.c)(b:aI.D.n=T.C.D.n)(d:∀no b_,P no=some b_->no<T.n/\gP T.gen b_.leaf no (aI.view no) b_)(f:∀j,aI.D.b7 j=true->T.g j=true\/aI.D.ro):
 b8 w' (T.bx aI P):=by
 have hx:=h.ca.inv.e_;refine⟨?_,h.s.ah hc λq i hf=>(hx q (.inr (.inl i))).2 hf,a,h.kk,h.dO,h.jk,b.trans h.n,h.num,d,f,h.low⟩;have:=h.t.ah hc λhf=>(hx T.bg (.inl rfl)).2 hf;unfold lP at this⊢;rw[←e]at this;exact this
def aK.mD(T:aK)(gen:Nat):aK:={T with gen:=gen}
theorem b8.Jo{gen:Nat}(h:b8 w T)(b:Var w' T.bg (lP (T.mD gen)) 243)(hc:af (λq=>q=T.bg) w w')(h1:T.gen<=gen)(h2:gen<18446744073709551616):b8 w' (T.mD gen):=
 ⟨b,h.s.ah hc λq c e=>h.kk (e▸c),h.ca.ah hc λq e=>.inl e,h.kk,h.dO,h.jk,h.n,⟨h.num.1,h.num.2.1,h2⟩,λno b_ a=>⟨(h.eR no b_ a).1,(h.eR no b_ a).2.mono h1⟩,h.b7,h.low⟩
theorem Jp(h:b8 w T){gen:Nat}(h1:T.gen<=gen)(h2:gen<18446744073709551616):
 aJ aj 148 #[.pointer (some T.bg),.int .u64 (gen:Nat)] w (λv w'=>v=.tuple #[]/\b8 w' (T.mD gen)/\af (λq=>q=T.bg) w w'):=by
 refine ae.E7 _ _ w _ ?_;(delta ae.se ak st;dsimp only);obtain⟨aw,ay⟩:=eA h.t (i:=2) (by simp[lP]);have a:=ez h.t (i:=2) (.int .u64 (gen:Nat));have hc:=dU w T.bg 2 (.int .u64 (gen:Nat));refine⟨λ_=>⟨_,rfl,by rw[aA];exact aw,by rw[aA];exact ay,aX ?_⟩,λb=>(by cases b)⟩;rw[aA,cR];exact⟨rfl,h.Jo a hc h1 h2,hc⟩
def Dq(aE:ck)(gen:Nat)(g:Nat->al)(pages:O Nat)(L:O aM)(clock dn:Nat):Prop:=
 (∀j,g j=true->aE.T.C.D.eG j=[])\/
 ∃ (a:eP) (aw:Nat->al) (c:Nat->av aD) (b:dc),(∀j,aE.T.C.D.eG j=if j=(gen+1)%2 then [b] else [])/\ln (λj=>if j=(gen+1)%2 then b else aE.V j) aE.T.n (gen+1) a aw c pages L/\a.clock=clock/\a.dn=dn
def zm(S:ck)(pages:O Nat)(L:O aM)(aO:O Nat)(bN:O aM)(w:J)(v:aa)(w':J):Prop:=
 ∃aE,d_ 100 S aE w w'/\aE.now=S.now/\
  ((v=.int .i64 0/\dP w' aE pages L pages L/\aE.failed=false/\aE.gen=S.gen+1/\aE.u.clock=S.now/\aE.u.dn=S.u.dn+1/\aE.pending=0)\/
   (v=.int .i64 3/\¬S.T.C.D.quiet/\dP w' aE aO bN aO bN/\aE.failed=true/\aE.u=S.u/\aE.gen=S.gen/\(∀j,S.T.g j=true->aE.V j=S.V j)/\Dq aE S.gen S.T.g pages L S.now (S.u.dn+1)))
end
section
variable {w w' w1:J}{C:b2}{X:Nat->Prop}{T:aK}{S aE kh:ck}{pages aO:O Nat}{L bN:O aM}{f2:Nat->al}{aI:b2}{P':Nat->av aD}
theorem Jq{V:Nat->dc}{no:Nat}{i:Nat->av aD}(h:dP w S pages L aO bN)(k:f2=dk (dk S.T.f no true) S.u.map false)(K:(S.T.f no||S.T.g no)=false)(A:2<=no)(B:no<S.T.n)(cS:L.length<4096)(l:∀x∈pages,i x=S.T.P x)
 (D:V ((S.gen+1)%2)=eE ((S.gen+1)%2) (jN ⟨S.T.root,S.T.aL,no,S.now,S.u.dn+1,L.length⟩ S.T.n (S.gen+1))) (gd:∀j,j≠(S.gen+1)%2->V j=if j=no then eE no ⟨4,S.gen+1,iC f2 ((S.T.n+7)/8)⟩ else if S.T.g j=true then S.V j else S.T.C.view j)
 (hg:∀j,S.T.g j=true->S.V j=S.T.C.view j):ln V S.T.n (S.gen+1) ⟨S.T.root,S.T.aL,no,S.now,S.u.dn+1,L.length⟩ f2 i pages L:=by
 have E:=h.t.s.bA;have F:=h.num;have m:=h.t.num;have o:=h.jS.zl;have M:=o.2.2.2.2.1;have p:S.T.f S.u.map=true:=(h.f _).2 (.inr (.inr rfl));have q:S.T.f no=false:=by cases N:S.T.f no<;>simp_all
 have r:∀x∈pages,x≠no:=λx hx e=>by
  have:=(h.f x).2 (.inl hx);rw[e,q]at this;cases this
 have G:∀x∈pages,x<S.T.n:=λx hx=>Nat.lt_of_not_le λe=>by
  have:=h.t.s.pf x e;rw[(h.f x).2 (.inl hx)]at this;cases this
 have H:∀j,j≠(S.gen+1)%2->j≠no->V j=S.T.C.view j:=λj h1 h2=>by
  rw[gd j h1,if_neg h2];by_cases e:S.T.g j=true
  .rw[if_pos e,hg j e]
  .rw[if_neg e]
 have v:nF ⟨S.T.root,S.T.aL,no,S.now,S.u.dn+1,L.length⟩ S.T.n:=by
  refine⟨?_,m.2.1,m.1,B,A,E⟩;rcases h.ok with ⟨a1,a2,_⟩|b
  .exact⟨λ_=>a1,λ_=>a2⟩
  .obtain⟨b_,O,_,a2,_,_⟩:=b.jf
   have:=(h.two S.T.root (by rw[a2];simp)).1;constructor
   .intro e;have e:S.T.root=0:=e;omega
   .intro e
    have e:S.T.aL=0:=e;rw[e]at b;exact b.elim
 have y:nE ⟨S.T.root,S.T.aL,no,S.now,S.u.dn+1,L.length⟩:=⟨by show S.T.root<_;omega,by show S.T.aL<_;omega,by show no<_;omega,F.1,by show S.u.dn+1<_;omega,by show L.length<_;omega⟩;refine⟨⟨S.u.map,o.2.2.2.1,by rw[k];unfold dk;rw[if_pos rfl]⟩,?_,.inr ⟨S.u,S.gen,?_,I⟩,⟨S.gen+1,bl _,?_⟩,λj=>?_,h.b_,λx hx=>⟨(h.two x hx).1,r x hx,G x hx⟩,?_,λx hx b_ z=>?_,rfl,h.kv,y,v,by show S.u.dn+1+1<=S.gen+1;omega⟩
 .rw[D]
  exact Cb y v I I
 .have e:1-(S.gen+1)%2=S.gen%2:=by omega
  have J:S.T.g (S.gen%2)=true:=(h.jS.g _).2 (.inr (.inl I));rw[e,gd _ I,if_neg I,if_pos J];exact h.jS.Dm
 .show fe (no:Int) (V no)=_
  rw[gd _ I,if_pos rfl];exact vL I ⟨(by decide:1<=4),(by decide:4<=4),by show S.gen+1<_;omega,by show(iC _ _).length<=232;rw[wC];omega⟩
 .rw[k]
  show dk (dk S.T.f no true) S.u.map false j=true↔j∈pages\/j<2\/j=no;unfold dk;by_cases c:j=S.u.map
  .rw[if_pos c]
   refine⟨λh=>(by cases h),λa=>?_⟩;rcases a with a|a|a
   .exact absurd c (h.two j a).2
   .omega
   .rw[←c,a,q]at p;cases p
  .rw[if_neg c]
   by_cases d:j=no
   .rw[if_pos d];exact⟨λ_=>.inr (.inr d),λ_=>rfl⟩
   .rw[if_neg d,h.f j]
    constructor
    .rintro(a|a|a)
     .exact .inl a
     .exact .inr (.inl a)
     .exact absurd a c
    .rintro(a|a|a)
     .exact .inl a
     .exact .inr (.inl a)
     .exact absurd a d
 .rcases h.ok with ⟨a1,a2,a3,a4⟩|b
  .exact .inl ⟨a1,a2,a3,a4⟩
  .exact .inr (b.agree λx hx=>(l x hx).symm).1
 .rw[l x hx]at z
  rw[H x (by have:=(h.two x hx).1;omega) (r x hx),←h.gen];exact(h.t.eR x b_ z).2
end
end Go.Proofs.YtcmgnhkpfllinaaGreat
