/- Contracts of the functions that the statement reaches, and the plain laws over them; each theorem stands with its conditions. -/
import Derived.Test.YtcmgnhkpfllinaaGreatBSAll4
namespace Go.Proofs.YtcmgnhkpfllinaaGreat
open Go aQ Go.Proofs.Tryz
def Dc(T:aK)(aM:O Nat)(dM:O aN)(w:J)(v:aa)(w':J):Prop:=
 ∃au:aK,b7 w' au/\bS T au w w' 100/\au.E=T.E/\au.G=T.G/\
  ((v=.int .i64 2/\cl T<2*T.aL+3/\au=T)\/
   (v=.int .i64 0/\2*T.aL+3<=cl T/\(∃pages,cl T<=cl au+(2*T.aL+3)/\gL au pages dM/\pages.Nodup/\(∀no∈pages,no∈aM\/(T.f no||T.g no)=false)/\∀no,au.f no=true↔(no∈pages\/(T.f no=true/\no∉aM)))/\∀no,T.g no=true->au.P no=T.P no/\au.C.view no=T.C.view no)\/
   (v=.int .i64 3/\¬T.C.D.calm 100/\au.root=T.root/\au.aL=T.aL/\au.f=T.f/\∀no,(T.f no||T.g no)=true->au.P no=T.P no/\au.C.view no=T.C.view no))
theorem wB.ah{T:aK}{aJ:b3}{aM:O Nat}{dM:O aN}{w w1 w':J}{v:aa}{k:Nat}(h:wB (T.bC aJ T.P) aM dM w1 v w')(e:bS T (T.bC aJ T.P) w w1 k)(r:k<=40)(f:∀j,aJ.view j=T.C.view j)(i:2*T.aL+3<=cl T):Dc T aM dM w v w':=by
 obtain⟨au,h1,h2,l,m,n⟩:=h;refine⟨au,h1,(e.trans h2).mono I,l,m,?_⟩;have o:cl (T.bC aJ T.P)=cl T:=rfl;have p:(T.bC aJ T.P).aL=T.aL:=rfl;rcases n with ⟨_,b,_⟩|⟨rfl,b,d,c⟩|⟨rfl,b,d,c,q,g⟩
 .rw[o,p]at b;omega
 .exact .inr (.inl ⟨rfl,i,d,λno a=>⟨(c no a).1,(c no a).2.trans (f no)⟩⟩)
 .exact .inr (.inr ⟨rfl,λhc=>b (e.calm 60 (gf hc I)),d,c,q,λno a=>⟨(g no a).1,(g no a).2.trans (f no)⟩⟩)
theorem ni(w:J)(s:ad):aI aj 122 #[s] w (λv w'=>v=.bool (decide (1<=s.len/\s.len<=24))/\w=w'):=by
 refine okF (ae.ni s) ax.ni func122 ?_;unfold ae.ni;refine⟨?_,rfl⟩
 congr 1
 rw[fv,c5,cp,cp,cp];omega
theorem zg{T:aK}{w:J}{pages:O Nat}{L:O aN}{k:Key}(h:b7 w T)(l:gL T pages L):∃steps,nK T.P k T.aL T.root steps/\
 ((steps=[]/\T.aL=0/\pages=[]/\L=[])\/(∃ (a:Nat) (b_:aF) (e_ dS:av Key) (b:O (Nat×aF×Nat)) (f:O Nat) (c d:O aN),steps=b++ [(a,b_,0)]/\Ctx T.P k T.aL 1 e_ dS b f c d/\T.P a=some b_/\gU b_/\b_.within e_ dS/\b_.keys≠ []/\(b≠ []->2<=b_.keys.length)/\ft e_ dS k/\
   pages.Perm (a::f)/\L=c++(b_.dB++d)/\∀u,Loc k u->u L=c++(u b_.dB++d))):=by
 rcases l with ⟨h1,h2,m,n⟩|g
 .exact⟨[],by rw[h1];rfl,.inl ⟨rfl,h1,m,n⟩⟩
 .cases i:T.aL with
  |zero=>rw[i]at g;exact g.elim
  |succ t=>
   rw[i]at g;obtain⟨rest,b,a,b_,e_,dS,f,c,d,r1,aG,cm,aT,du,o,p,q,r,j,s,v⟩:=Ctx.down (P:=T.P) (k:=k) (top:=t+1) (bQ:=L) .top g (λh=>absurd rfl h) ⟨λ_ e=>(by cases e),λ_ e=>(by cases e)⟩ (by simp) (λu _=>by simp);rw[hY]at aG;rw[fx]at j;exact⟨rest,r1,.inr ⟨a,b_,e_,dS,b,f,c,d,aG,cm,aT,du,o,p,q,r,j,s,v⟩⟩
theorem gL.low{T:aK}{pages:O Nat}{L:O aN}(h:gL T pages L)(cU:L.length<4096):T.aL<12/\pages.length<=L.length:=by
 rcases h with ⟨h1,_,a,_⟩|b
 .rw[h1,a];exact⟨I,cP _⟩
 .obtain⟨aw,ay,c⟩:=b.pages
  refine⟨?_,aw⟩;rcases ei T.aL 12 with h|h
  .exact h
  .have d:=c I
   have e:2^12<=2^T.aL:=td (by decide) h;have f:(2:Nat)^12=4096:=by decide
   omega
theorem Dd{w1:J}{T:aK}{aJ:b3}{pages:O Nat}{L dM:O aN}{k:Key}{steps:O (Nat×aF×Nat)}{s:ad}{a:O dx}{b_ b:aF}{K V D:ad}(h:b7 w1 (T.bC aJ T.P))(H:¬aJ.D.ro)(N:gL T pages L)(cU:L.length<4096)(ej:pages.Nodup)(hf:∀x∈pages,T.f x=true)(m:aJ.D.a7<=900000000)
 (g:a.map dx.st=steps) (o:kt (λq=>¬(T.bC aJ T.P).M q) w1 s a) (Q:bU (λq=>¬(T.bC aJ T.P).M q) w1 b K V D) (p:gU b) (R:(steps=[]/\T.aL=0/\pages=[]/\b.keys≠ []/\bE b<=232/\b.dB=dM)\/(∃ (d:Nat) (e_ dS:av Key) (c:O (Nat×aF×Nat)) (i:O Nat) (j l:O aN),steps=c++ [(d,b_,0)]/\Ctx T.P k T.aL 1 e_ dS c i j l/\b.within e_ dS/\(c≠ []->b.keys≠ [])/\pages.Perm (d::i)/\dM=j++(b.dB++l)/\bE b<=282)):
 aI aj 131 #[.pointer (some T.bj),s,dd b K V D] w1 (wB (T.bC aJ T.P) pages dM w1):=by
 obtain⟨r,ak⟩:=N.low cU;refine IQ h H m r ej hf I λbN t ai ba u v S w y=>?_;have U:s.len=a.length:=by
  have:=o.own.1;rw[fD _ (nJ a)]at this;omega
 have z:bU (λq=>¬((T.bC aJ T.P).cv bN t).M q) ai b K V D:=(v.cg (lo:=0) (Q.a_ λq _ n=>⟨cP _,n⟩)).a_ λq _ n=>n.2;rcases R with ⟨h1,h2,W,X,Y,Z⟩|⟨d,e_,dS,c,i,j,l,C,E,aa,ab,F,ac,ae⟩
 .subst h1 W
  have af:a=[]:=by simpa using g
  exact IN (by rw[U,af];rfl) u z m (by
   have e:cl ((T.bC aJ T.P).cv bN t)=cl (T.bC aJ T.P):=rfl;omega) (by rw[w];simp) y p X Y Z
 .have hlen:a.length=c.length+1:=by
   have:=congrArg List.length g;rw[C,dk,ct,jd]at this;exact this
  have al:1+c.length=T.aL:=E.eL;have ag:=o.to v;have G:(a.take (a.length-1)).map dx.st=c/\(a[a.length-1]'I).no=d:=by
   rw[C]at g;have aw:(a.take (a.length-1)).map dx.st=(c++ [(d,b_,0)]).take (a.length-1):=by rw[←g,l6]
   refine⟨by rw[aw];exact mA I,?_⟩;have ay:(a.map dx.st)[a.length-1]? =some (d,b_,0):=by
    rw[g,iq I];have:a.length-1-c.length=0:=by omega
    rw[this];rfl
   rw[nU,dH I]at ay;have ah:=Option.some.inj ay;exact congrArg Prod.fst ah
  refine IM (k:=k) (cJ:=i) (A:=j) (B:=l) (M:=b.dB) (lo:=e_) (hi:=dS) u ag z I (by show a.length=T.aL;omega) r m S (by rw[w];simp) (by rw[y];simp) ?_ ⟨p,aa,rfl,rfl⟩ ac.symm ?_ ae (λh=>ab λe=>?_) λx hx=>?_
  .rw[G.1]
   have:a.length=T.aL:=by omega
   rw[this];exact E
  .rw[G.2];exact F
  .rw[e]at hlen;simp at hlen;omega
  .exact hf x (F.mem_iff.2 (jC _ hx))
theorem kt.ext'{B C:Nat->Prop}{w w':J}{s:ad}{l:O dx}(h:kt B w s l)(hx:Ext w w')(a:∀q,B q->C q):kt C w' s l:=
 ⟨h.own.ext hx,λq b=>a q (h.pk q b),λx c=>((h.cg x c).ext hx).a_ λq _ d=>a q d⟩
theorem q5{a:O dx}{b:O (Nat×aF×Nat)}{c:Nat}{bu:aF}(d:a.map dx.st=b++ [(c,bu,0)]):∃h:0<a.length,(a[a.length-1]'I).n=bu:=by
 have hlen:a.length=b.length+1:=by
  have:=congrArg List.length d;rw[dk,ct,jd]at this;exact this
 refine⟨I,?_⟩;have ay:(a.map dx.st)[a.length-1]? =some (c,bu,0):=by
  rw[d,iq I];have:a.length-1-b.length=0:=by omega
  rw[this];rfl
 rw[nU,dH I]at ay;exact congrArg (λx=>x.2.1) (Option.some.inj ay)
theorem IT{w:J}{T:aK}{pages:O Nat}{L:O aN}{tk cQ:ad}{key val:Key}(h:b7 w T)(a3:¬T.C.D.ro)(H:gL T pages L)(cU:L.length<4096)(ej:pages.Nodup)(hf:∀x∈pages,T.f x=true)(bW:T.C.D.a7<=800000000)
 (Q:Src 1 w tk (az key)) (R:∀q,aB tk q->q<w.heap.size/\¬T.M q) (an:Src 1 w cQ (az val)) (a4:∀q,aB cQ q->q<w.heap.size/\¬T.M q):
 aI aj 73 #[.pointer (some T.bj),tk,cQ] w (λv w'=>(v=.int .i64 1/\¬(cz key/\val.length<=24)/\w=w')\/(cz key/\val.length<=24/\Dc T pages (gn L key val) w v w')):=by
 have a5:=len8 Q;have ao:=len8 an;refine okF (ae.uN (some T.bj) tk cQ) ax.uN func73 ?_;(delta ae.uN ak b8 aG bX aq ey z4 Y aT r1 ov lJ;dsimp only);refine cw (λb w'=>b= !(decide (cz key))/\w=w') (λq c=>⟨λh=>(by cases h),λ_=>(ni w tk).use ?_⟩) ?_
 .rintro _ _ ⟨rfl,rfl⟩
  refine⟨_,rfl,c _ _ ⟨?_,rfl⟩⟩;unfold cz;rw[a5]
 rintro _ _ ⟨rfl,rfl⟩;refine⟨λd=>.inl ⟨rfl,λhg=>?_,rfl⟩,λd=>?_⟩
 .rw[dI hg.1,ao]at d
  have:¬(val.length:Int)>24:=by have:=hg.2;omega
  simp[this]at d
 have hg:cz key/\val.length<=24:=by
  by_cases h1:cz key
  .refine⟨h1,?_⟩
   rw[dI h1,ao]at d;have:¬(val.length:Int)>24:=by simpa using d
   omega
  .rw[h4 h1]at d;simp at d
 have bY:=h.s.bu;obtain⟨bZ,b0⟩:=H.low cU;have ap:Ext w w.drew:=cA w;have hd:=h.ext ap;refine aX ⟨λ_=>False,_,rfl,id,_,hd.cells.2.1,_,rfl,id,_,hd.cells.2.2.2.2,(yZ hd.s).use ?_⟩;rintro _ b1 ⟨rfl,av⟩;have a6:((T.n:Int)-eS (λi=>T.f i||T.g i) T.n)=(cl T:Nat):=by
  have:=nG (λi=>T.f i||T.g i) T.n;unfold cl;omega
 have a9:IntKind.wrap .i64 (IntKind.wrap .i64 (2*(T.aL:Int))+3)=((2*T.aL+3:Nat):Int):=by
  rw[br (n:=2*(T.aL:Int)) I I,br I I];omega
 rw[a6,a9];have o:=ap.trans av;have S:=h.ext o;refine⟨_,rfl,av,λd=>.inr ⟨hg.1,hg.2,T,S,(bS.ext T o).mono I,rfl,rfl,.inl ⟨rfl,?_,rfl⟩⟩,λd=>?_⟩
 .have d:((cl T:Nat):Int)<((2*T.aL+3:Nat):Int):=cf d
  omega
 have bb:2*T.aL+3<=cl T:=by
  have:¬((cl T:Nat):Int)<((2*T.aL+3:Nat):Int):=cC d;omega
 obtain⟨steps,aA,aC⟩:=zg (k:=key) S H;refine(y8 S I (Q.ext o) (λq c=>⟨ff (R q c).1 o.size,(R q c).2⟩) aA).use ?_;rintro _ z ⟨aJ,U,W,aD,bc⟩;have u:=((bS.ext T o).trans W).mono (l:=2*T.aL) I;rcases bc with ⟨s,a,rfl,m,X⟩|⟨rfl,bd⟩
 rotate_left
 .refine⟨⟨none,0,0⟩,3,rfl,λ_=>.inr ⟨hg.1,hg.2,T.bC aJ T.P,U,u.mono I,rfl,rfl,.inr (.inr ⟨rfl,λhc=>bd (gf hc I),rfl,rfl,rfl,λno _=>⟨rfl,aD no⟩⟩)⟩,λhx=>(by cases hx)⟩
 have b2:s.len=a.length:=by
  have:=X.own.1;rw[fD _ (nJ a)]at this;omega
 have b3:=o.size;have b4:a.length=T.aL:=by
  have:=aA.length;rw[←m,dk]at this;exact this
 refine⟨s,0,rfl,λhx=>(by cases hx),λ_=>a8 (vs:=[false,(),(),()]) rfl λb5 aE be b9=>⟨aE.cj rfl (fI (b:=true) (K:=bJ) (V:=bJ) (D:=bJ)),rfl,cN aE (us:=dY ⟨true,[],[],[]⟩ bJ bJ bJ) rfl rfl λbg E bi ca=>?_⟩⟩;have Z:Ext z bg:=Ext.cu be bi (bl _);obtain⟨g4,bm⟩:∃g4,g4=z.heap.size:=⟨_,rfl⟩;rw[←bm]at E⊢
 obtain⟨b_,j⟩:∃b_:aF,b_=(if cb:0<a.length then (a[a.length-1]'I).n else ⟨true,[],[],[]⟩):=⟨_,rfl⟩;refine k6 (λp=>∃ (K V D:ad) (B:Nat->Prop),Ext z p/\Var p g4 (dY b_ K V D) 169/\bU B p b_ K V D) (λq c=>⟨λaa=>?_,λaa=>?_⟩) ?_
 .have ab:0<a.length:=by
   have:(s.len:Int)>0:=cf aa;omega
  rw[dif_pos ab]at j;have e:IntKind.wrap .i64 ((s.len:Int)-1)=((a.length-1:Nat):Int):=by rw[br I I];omega
  obtain⟨A,ar,_,_,_,hu⟩:=X.at (i:=a.length-1) I;have F:=hu.ext Z;rw[e,di];subst j;refine⟨A,ar,⟨I,I⟩,_,F.aU,_,F.ba,_,F.bh,_,F.fH,E.cj rfl fI,rfl,cN E (us:=dY (a[a.length-1]'I).n (a[a.length-1]'I).K (a[a.length-1]'I).V (a[a.length-1]'I).D) rfl rfl λbn bo bp cc=>?_⟩;have aH:Ext z bn:=Ext.cu Z bp I;exact c _ ⟨_,_,_,_,aH,bo,hu.cg.ext aH⟩
 .have ab:¬0<a.length:=by
   have:¬(s.len:Int)>0:=cC aa;omega
  rw[dif_neg ab]at j;subst j;exact c _ ⟨bJ,bJ,bJ,λ_=>True,Z,E,bI.none _ _,bI.none _ _,cZ.none _ _⟩
 rintro p ⟨K,V,D,B,G,bq,bs⟩;have cd:=G.size;have ce:=W.ah.size
 have bt:gU b_/\bE b_<=232:=by
  rcases aC with ⟨h1,h2,r,t⟩|⟨aM,bu,e_,dS,aO,aP,aQ,aR,aG,cm,aT,du,aS,bv,bw,aV,aW,bx,aY⟩
  .have ac:¬0<a.length:=by
    rw[h1]at m;have:a=[]:=by simpa using m
    rw[this];simp
   rw[j,dif_neg ac];exact⟨⟨⟨λ_ h=>(by cases h),List.Pairwise.nil⟩,rfl,rfl,rfl,λ_ h=>(by cases h)⟩,by decide⟩
  .rw[aG]at m
   obtain⟨aw,ay⟩:=q5 m;rw[j,dif_pos aw,ay];exact⟨du,h.po _ _ aT⟩
 obtain⟨af,ch⟩:=bt;have ci:=(cE.eK (.inl af) I);have ck:∀q,T.N q->q<w.heap.size:=λq c=>h.lt (aK.gF c);have bz:Src 1 p tk (az key):=(Q.ah u.ah λq c ag=>(R q c).2 (aK.gF ag)).ext G;have bA:Src 1 p cQ (az val):=(an.ah u.ah λq c ag=>(a4 q c).2 (aK.gF ag)).ext G;obtain⟨d0,d1,d2,d3⟩:=bK bq;refine⟨_,d0,K,d1,V,d2,D,d3,(qs bs af I bz bA hg.1 hg.2).use ?_⟩;rintro _ bB ⟨dD,d_,c3,rfl,bD,bF⟩;refine⟨_,dD,d_,c3,true,rfl,a8 (vs:=[false,(),(),()]) rfl λcn aZ bG co=>⟨aZ.cj rfl fI,rfl,cN aZ (us:=dY (g3 b_ key val) dD d_ c3) rfl rfl λa0 bH bL cp=>⟨λhx=>(by cases hx),λ_=>?_⟩⟩⟩;have a1:Ext bB a0:=Ext.cu bG bL (bl _);have ai:=(G.trans bF).trans a1;obtain⟨d0,d1,d2,d3⟩:=bK bH;obtain⟨bk,bf,bM,al,bN,a2⟩:=IS af hg.1 hg.2;have bO:aJ.D.a7<=900000000:=by
  have:aJ.D.a7<=T.C.D.a7+2*T.aL:=u.a7;omega
 have bP:bU (λq=>¬(T.bC aJ T.P).M q) a0 (g3 b_ key val) dD d_ c3:=(bD.ext a1).a_ λq _ c bQ=>by have:=U.lt bQ;omega
 have bR:=Dd (dM:=gn L key val) (k:=key) (steps:=steps) (b_:=b_) (U.ext ai) (λe=>a3 λi=>W.b6.1▸e i) H cU ej hf bO m (X.ext' ai λq c=>c.2) bP bk (by
  rcases aC with ⟨h1,h2,r,t⟩|⟨aM,bu,e_,dS,aO,aP,aQ,aR,aG,cm,aT,du,aS,bv,bw,aV,aW,bx,aY⟩
  .have ac:¬0<a.length:=by omega
   rw[dif_neg ac]at j;refine .inl ⟨h1,h2,r,al,?_,?_⟩
   .have:bE b_=1:=by rw[j];rfl
    omega
   .rw[bf,j,t];rfl
  .rw[aG]at m
   obtain⟨aw,ay⟩:=q5 m;rw[dif_pos aw,ay]at j;rw[j]at bf bM al bN a2⊢;refine .inr ⟨aM,e_,dS,aO,aP,aQ,aR,aG,cm,λs hs=>?_,λ_=>al,aW,?_,by have:=h.po _ _ aT;omega⟩
   .rcases a2 s hs with rfl|am
    .exact aV
    .exact aS s am
   .rw[bf];exact aY (λL=>gn L key val) (Gz key val))
 refine⟨_,d0,dD,d1,d_,d2,c3,d3,bR.use ?_⟩;intro v w' bT;have bV:=bT.ah (w:=w) ((u.trans (bS.ext (T.bC aJ T.P) ai)).mono (l:=40) I) (bl _) aD bb;obtain⟨au,h1,h2,r,t,am⟩:=bV;rcases am with ⟨rfl,y⟩|⟨rfl,y⟩|⟨rfl,y⟩
 .exact⟨2,rfl,.inr ⟨hg.1,hg.2,au,h1,h2,r,t,.inl ⟨rfl,y⟩⟩⟩
 .exact⟨0,rfl,.inr ⟨hg.1,hg.2,au,h1,h2,r,t,.inr (.inl ⟨rfl,y⟩)⟩⟩
 .exact⟨3,rfl,.inr ⟨hg.1,hg.2,au,h1,h2,r,t,.inr (.inr ⟨rfl,y⟩)⟩⟩
theorem De{l:O aN}{k:Key}(h:(eQ l k).length=l.length):∀p∈l,p.1≠k:=by
 intro p a;unfold eQ at h;have:=(il (p:=λp:aN=>decide (p.1≠k))).1 (List.Sublist.eq_of_length List.filter_sublist h);exact cf (this p a)
theorem Df{L A B M:O aN}{k:Key}(cU:L=A++(M++B))(hu:eQ L k=A++(eQ M k++B)):eZ L k=eZ M k:=by
 have h1:(eQ A k).length<=A.length:=mY _ _;have h2:(eQ B k).length<=B.length:=mY _ _;have b:=congrArg List.length hu;rw[cU,sx,sx]at b;simp only[ct]at b;have ar:=De (l:=A) (k:=k) I;have c:=De (l:=B) (k:=k) I;have d:A.find? (λp=>decide (p.1=k))=none:=jE.2 λp a=>by simpa using ar p a
 have e:B.find? (λp=>decide (p.1=k))=none:=jE.2 λp a=>by simpa using c p a
 unfold eZ;rw[cU,List.find?_append,List.find?_append,d,e];simp
theorem Dg{n:aF}{k:Key}(h:gU n):eZ n.dB k=if g2 n.keys k then n.vals[cI n.keys k]? else none:=by
 have s:=qJ n.keys k;have w:=h.eW;have t:∀ (j:Nat) (f:j<n.keys.length),j<cI n.keys k->bt n.keys[j] k:=λj f h1=>o3 h1 f;have u:n.keys[cI n.keys k]? ≠some k->∀ (j:Nat) (f:j<n.keys.length),cI n.keys k<=j->bt k n.keys[j]:=λhe j f h1=>Db w h1 f he;have l:n.dB=n.keys.zip n.vals:=rfl;unfold g2;rw[l];generalize cI n.keys k=i at s t u⊢;obtain⟨a,b,c,d,g,v,z,A,B,H,J,K,L⟩:=zf h s;have C:n.keys.zip n.vals=a.zip c++b.zip d:=by rw[g,v];exact o2 I
 have D:(a.zip c).find? (λp:aN=>decide (p.1=k))=none:=jE.2 λp l=>by
  have q:=(rk l).1;obtain⟨j,f,r⟩:=e2 q;have h1:=t j (by rw[g,ct];omega) I;simp only[g,nV f,r]at h1;simpa using nu h1
 unfold eZ;rw[C,List.find?_append,D];by_cases he:n.keys[i]? =some k
 .rw[if_pos (by simpa using he)]
  have E:∃m,b=k::m:=by
   cases b with
   |nil=>rw[g,iq I]at he;simp at he
   |cons y m=>
    rw[g,iq I,z,nP]at he;simp at he;exact⟨m,by rw[he]⟩
  obtain⟨m,rfl⟩:=E;obtain⟨x,o,rfl⟩:∃x o,d=x::o:=by
   cases d with
   |nil=>simp at B
   |cons x o=>exact⟨x,o,rfl⟩
  rw[v,iq I,A,nP];simp
 .rw[if_neg (by simpa using he)]
  have F:=u he;have G:(b.zip d).find? (λp:aN=>decide (p.1=k))=none:=jE.2 λp l=>by
   have q:=(rk l).1;obtain⟨j,f,r⟩:=e2 q;have h1:=F (i+j) (by rw[g,ct];omega) I;have e:(a++b)[i+j]'(by rw[ct];omega)=b[j]:=by
    rw[pF I];congr 1;omega
   simp only[g,e,r]at h1;have:=nu h1;simpa using λh=>this h.symm
  rw[G];rfl
def zh(T:aK)(L:O aN)(key:Key)(w:J)(v:aa)(w':J):Prop:=
 ∃aJ:b3,b7 w' (T.bC aJ T.P)/\bS T (T.bC aJ T.P) w w' 30/\(∀j,aJ.view j=T.C.view j)/\
  ((v=.tuple #[(),false,(0:Int)]/\(cz key->eZ L key=none))\/
   (∃ (t:ad) (x:Key),v=.tuple #[t,true,(0:Int)]/\cz key/\eZ L key=some x/\bw (λq=>¬(T.bC aJ T.P).M q) w' t x)\/
   (v=.tuple #[(),false,(3:Int)]/\cz key/\¬T.C.D.calm 30))
theorem zi{w:J}{T:aK}{pages:O Nat}{L:O aN}{tk:ad}{key:Key}(h:b7 w T)(S:gL T pages L)(aO:T.C.D.a7<=800000000)(l:Src 1 w tk (az key))(v:∀q,aB tk q->q<w.heap.size/\¬T.M q):
 aI aj 64 #[.pointer (some T.bj),tk] w (zh T L key w):=by
 have U:=len8 l;have aQ:=h.num.2.1;have aR:T.bC T.C T.P=T:=rfl;refine okF (ae.uJ (some T.bj) tk) ax.uJ func64 ?_;(delta ae.uJ ak b8 ey aq aT r1 z4 Y kI aP;dsimp only);refine cw (λb w'=>b= !(decide (cz key))/\w=w') (λq m=>⟨λh=>(by cases h),λ_=>(ni w tk).use ?_⟩) ?_
 .rintro _ _ ⟨rfl,rfl⟩
  refine⟨_,rfl,m _ _ ⟨?_,rfl⟩⟩;unfold cz;rw[U]
 rintro _ _ ⟨rfl,rfl⟩;refine⟨λf=>⟨λh=>(by cases h),λ_=>?_⟩,λf=>?_⟩
 .have:¬cz key:=by simpa using f
  exact⟨T.C,h,(bS.refl T w).mono I,λ_=>rfl,.inl ⟨rfl,λhx=>absurd hx this⟩⟩
 have hg:cz key:=by simpa using f
 obtain⟨steps,x,y⟩:=zg (k:=key) h S;refine(y8 h I l v x).use ?_;rintro _ W ⟨aJ,n,g,j,X⟩;rcases X with ⟨s,a,rfl,d,z⟩|⟨rfl,Z⟩
 rotate_left
 .exact⟨⟨none,0,0⟩,3,rfl,λ_=>⟨aJ,n,g.mono I,j,.inr (.inr ⟨rfl,hg,λhc=>Z (gf hc I)⟩)⟩,λhx=>(by simp at hx)⟩
 have aS:s.len=a.length:=by
  have:=z.own.1;rw[fD _ (nJ a)]at this;omega
 have aV:a.length=T.aL:=by
  have:=x.length;rw[←d,dk]at this;exact this
 refine⟨s,0,rfl,λhx=>⟨aJ,n,g.mono I,j,.inl ⟨rfl,λ_=>?_⟩⟩,λhx=>?_⟩
 .have aa:a.length=0:=by
   have:(s.len:Int)=0:=by simpa using hx
   omega
  rcases y with ⟨_,_,_,ab⟩|⟨ac,bu,e_,dS,af,ag,ai,al,aG,_⟩
  .rw[ab];rfl
  .rw[aG]at d
   obtain⟨aw,_⟩:=q5 d;omega
 have aa:0<a.length:=by
  have:¬(s.len:Int)=0:=by simpa using hx
  omega
 have e:IntKind.wrap .i64 ((s.len:Int)-1)=((a.length-1:Nat):Int):=by rw[br I I];omega
 obtain⟨A,ar,_,_,_,hu⟩:=z.at (i:=a.length-1) I;rcases y with ⟨h1,_⟩|⟨ac,bu,e_,dS,af,ag,ai,al,aG,cm,aT,du,aW,aX,aY,aZ,a0,am,an⟩
 .rw[h1]at d
  have:=congrArg List.length d;simp at this;omega
 have B:=d;rw[aG]at B;obtain⟨aw,ay⟩:=q5 B;rw[e,di];generalize a1:(a[a.length-1]'I)=u at hu ay;obtain⟨a2,un,a3,K,V,D⟩:=u;obtain rfl:un=bu:=ay;refine⟨A,ar,⟨I,I⟩,_,hu.aU,K,hu.ba,V,hu.bh,D,hu.fH,a8 (vs:=[false,(),(),()]) rfl λa4 E ao a5=>⟨E.cj rfl fI,rfl,cN E (us:=dY un K V D) rfl rfl λo F ap a6=>?_⟩⟩;have p:Ext W o:=Ext.cu ao ap (bl _);obtain⟨d0,d1,d2,d3⟩:=bK F;have a9:=(cE.eK (.inl du) (by have:=h.po _ _ aT;omega));have au:Src 1 o tk (az key):=(l.ah g.ah λq m av=>(v q m).2 (aK.gF av)).ext p;have G:bU (λq=>w.heap.size<=q/\¬(T.bC aJ T.P).M q) o un K V D:=hu.cg.ext p;refine⟨_,d0,K,d1,V,d2,D,d3,(qo G au du.eW I).use ?_⟩;rintro _ aA ⟨rfl,r⟩;have H:=p.trans r;have N:=n.ext H;have Q:bS T (T.bC aJ T.P) w aA 30:=(g.trans (bS.ext _ H)).mono I;have t:eZ L key=eZ un.dB key:=Df am (an (λL=>eQ L key) (yd key));rw[Dg du]at t;refine⟨_,_,rfl,λc=>⟨aJ,N,Q,j,.inl ⟨rfl,λ_=>?_⟩⟩,λc=>?_⟩
 .have c:g2 un.keys key=false:=by simpa using c
  rw[t,if_neg (by rw[c];simp)]
 .have c:g2 un.keys key=true:=by simpa using c
  have aC:cI un.keys key<un.keys.length:=(jB.1 (cf c)).1;have R:cI un.keys key<un.vals.length:=by rw[du.len];exact aC
  obtain⟨f0,f1,f2,f3⟩:=bK (F.ext r);obtain⟨aD,cQ,aE,aF,aH,aM,_⟩:=bI.at (G.ext r).vals R;refine⟨V,f2,aD,aE,aF,cQ,aH,aJ,N,Q,j,.inr (.inl ⟨cQ,un.vals[cI un.keys key],rfl,hg,?_,bw.a_ aM λq _ f=>f.2⟩)⟩;rw[t,if_pos c,dH R]
theorem IU{n:aF}{k:Key}(h:gU n)(w:g2 n.keys k=true):gU (lT n k)/\(lT n k).dB=eQ n.dB k/\bE (lT n k)<=bE n/\n.keys.length=(lT n k).keys.length+1/\(∀s∈(lT n k).keys,s∈n.keys):=by
 have o:=qJ n.keys k;have A:=h.eW;have l:n.dB=n.keys.zip n.vals:=rfl;have he:n.keys[cI n.keys k]? =some k:=cf w;rw[l];unfold lT;generalize cI n.keys k=i at o he⊢;obtain⟨a,b,c,d,j,m,q,B,r,C,H,D,J⟩:=zf h o;have g:n.keys.zip n.vals=a.zip c++b.zip d:=by rw[j,m];exact o2 I
 have E:∃e,b=k::e:=by
  cases b with
  |nil=>rw[j,iq I]at he;simp at he
  |cons y e=>
   rw[j,iq I,q,nP]at he;simp at he;exact⟨e,by rw[he]⟩
 obtain⟨e,rfl⟩:=E;obtain⟨x,f,rfl⟩:∃x f,d=x::f:=by
  cases d with
  |nil=>simp at r
  |cons x f=>exact⟨x,f,rfl⟩
 have aw:n.keys.drop (i+1)=e:=by rw[j,show a++k::e=(a++ [k])++e by simp];exact drop_left' (by simp[q])
 have ay:n.vals.drop (i+1)=f:=by rw[m,show c++x::f=(c++ [x])++f by simp];exact drop_left' (by simp[B])
 rw[C,D,aw,ay];have F:(a++k::e).Pairwise bt:=by rw[←j];exact A
 obtain⟨hW,eo,t⟩:=l8.1 F;have u:=jD.1 eo;have v:∀z,z∈a++e->z∈n.keys:=λz g=>by
  rw[j];simp only[cO,cY]at g⊢;rcases g with h1|h1
  .exact .inl h1
  .exact .inr (.inr h1)
 refine⟨⟨⟨λz g=>h.ok z (v z g),l8.2 ⟨hW,u.2,λy G z g=>t y G z (jC _ g)⟩⟩,h.leaf,?_,h.kids,λz g=>h.vals z ?_⟩,?_,?_,?_,v⟩
 .show(c++f).length=(a++e).length
  simp only[ct,f_]at r⊢;omega
 .rw[m]
  have g:z∈c++f:=g;simp only[cO,cY]at g⊢;rcases g with h1|h1
  .exact .inl h1
  .exact .inr (.inr h1)
 .show(a++e).zip (c++f)=_
  rw[g,o2 I,sx,List.zip_cons_cons];have f1:eQ (a.zip c) k=a.zip c:=sy λp l=>nu (t _ (rk l).1 k pD);have f2:eQ ((k,x)::e.zip f) k=e.zip f:=by
   have:eQ ((k,x)::e.zip f) k=eQ (e.zip f) k:=by unfold eQ;simp
   rw[this];exact sy λp l=>(nu (u.1 _ (rk l).1)).symm
  rw[f1,f2]
 .rw[q4 h.leaf,q4 (n:={n with keys:=a++e,vals:=c++f}) h.leaf]
  show 1+(List.zipWith ku (a++e) (c++f)).sum<=_;rw[j,m,pH I,pH I,lC,lC,List.zipWith_cons_cons,rl];omega
 .show n.keys.length=(a++e).length+1
  rw[j];simp only[ct,f_];omega
structure iZ(T au:aK):Prop where
 root:au.root=T.root
 aL:au.aL=T.aL
 f:au.f=T.f
 ew:∀no,(T.f no||T.g no)=true->au.P no=T.P no/\au.C.view no=T.C.view no
theorem iZ.refl(T:aK):iZ T T:=⟨rfl,rfl,rfl,λ_ _=>⟨rfl,rfl⟩⟩
theorem iZ.bC{T:aK}{aJ:b3}(a:∀j,aJ.view j=T.C.view j):iZ T (T.bC aJ T.P):=⟨rfl,rfl,rfl,λno _=>⟨rfl,a no⟩⟩
theorem iZ.trans{T au a:aK}(h1:iZ T au)(h2:iZ au a)(hg:au.g=T.g):iZ T a:=
 ⟨h2.root.trans h1.root,h2.aL.trans h1.aL,h2.f.trans h1.f,λno h=>by
  have b:=h1.ew no h
  have c:=h2.ew no (by rw[h1.f,hg];exact h)
  exact⟨c.1.trans b.1,c.2.trans b.2⟩⟩
structure Dh(T au:aK)(aM:O Nat)(dM:O aN):Prop where
 ok:∃pages,cl T<=cl au+(2*T.aL+3)/\gL au pages dM/\pages.Nodup/\(∀no∈pages,no∈aM\/(T.f no||T.g no)=false)/\∀no,au.f no=true↔(no∈pages\/(T.f no=true/\no∉aM))
 ew:∀no,T.g no=true->au.P no=T.P no/\au.C.view no=T.C.view no
theorem iZ.ok{T au:aK}{pages:O Nat}{L:O aN}(h:iZ T au)(a:gL T pages L)(hf:∀x∈pages,T.f x=true):gL au pages L:=by
 unfold gL at a⊢;rw[h.root,h.aL];rcases a with a|b
 .exact .inl a
 .exact .inr (eM.agree b λx hx=>(h.ew x (by rw[hf x hx];rfl)).1.symm).1
def IV(T:aK)(aM:O Nat)(L:O aN)(key:Key)(w:J)(v:aa)(w':J):Prop:=
 ∃au:aK,b7 w' au/\bS T au w w' 100/\au.E=T.E/\au.G=T.G/\
  ((v=.tuple #[false,(1:Int)]/\¬cz key/\iZ T au)\/
   (v=.tuple #[false,(0:Int)]/\cz key/\eZ L key=none/\iZ T au)\/
   (v=.tuple #[false,(2:Int)]/\cz key/\eZ L key≠none/\cl T<2*T.aL+3/\iZ T au)\/
   (v=.tuple #[true,(0:Int)]/\cz key/\eZ L key≠none/\2*T.aL+3<=cl T/\Dh T au aM (eQ L key))\/
   (v=.tuple #[false,(3:Int)]/\cz key/\¬T.C.D.calm 100/\iZ T au))
theorem IW{w:J}{T:aK}{pages:O Nat}{L:O aN}{tk:ad}{key:Key}(h:b7 w T)(aF:¬T.C.D.ro)(ab:gL T pages L)(cU:L.length<4096)(ej:pages.Nodup)(hf:∀x∈pages,T.f x=true)(be:T.C.D.a7<=800000000)
 (Q:Src 1 w tk (az key)) (ac:∀q,aB tk q->q<w.heap.size/\¬T.M q):
 aI aj 67 #[.pointer (some T.bj),tk] w (IV T pages L key w):=by
 have aH:=len8 Q;have bg:=h.num.2.1;refine okF (ae.uL (some T.bj) tk) ax.uL func67 ?_;(delta ae.uL ak b8 ey aq aT r1 lJ z4 Y bX;dsimp only);refine cw (λb w'=>b= !(decide (cz key))/\w=w') (λq m=>⟨λh=>(by cases h),λ_=>(ni w tk).use ?_⟩) ?_
 .rintro _ _ ⟨rfl,rfl⟩
  refine⟨_,rfl,m _ _ ⟨?_,rfl⟩⟩;unfold cz;rw[aH]
 rintro _ _ ⟨rfl,rfl⟩;refine⟨λR=>⟨T,h,(bS.refl T w).mono I,rfl,rfl,.inl ⟨rfl,by simpa using R,.refl T⟩⟩,λR=>?_⟩;have hg:cz key:=by simpa using R
 obtain⟨steps,af,ag⟩:=zg (k:=key) h ab;refine(y8 h I Q ac af).use ?_;rintro _ aM ⟨aJ,r,c,o,g⟩;rcases g with ⟨s,a,rfl,j,S⟩|⟨rfl,aO⟩
 rotate_left
 .exact⟨⟨none,0,0⟩,3,rfl,λ_=>⟨_,r,c.mono I,rfl,rfl,.inr (.inr (.inr (.inr ⟨rfl,hg,λhc=>aO (gf hc I),.bC o⟩)))⟩,λhx=>(by simp at hx)⟩
 have bi:s.len=a.length:=by
  have:=S.own.1;rw[fD _ (nJ a)]at this;omega
 have bm:a.length=T.aL:=by
  have:=af.length;rw[←j,dk]at this;exact this
 refine⟨s,0,rfl,λhx=>⟨_,r,c.mono I,rfl,rfl,.inr (.inl ⟨rfl,hg,?_,.bC o⟩)⟩,λhx=>?_⟩
 .have aP:a.length=0:=by
   have:(s.len:Int)=0:=by simpa using hx
   omega
  rcases ag with ⟨_,_,_,t⟩|⟨ai,bu,e_,dS,al,am,an,ao,aG,_⟩
  .rw[t];rfl
  .rw[aG]at j
   obtain⟨aw,_⟩:=q5 j;omega
 have aP:0<a.length:=by
  have:¬(s.len:Int)=0:=by simpa using hx
  omega
 have e:IntKind.wrap .i64 ((s.len:Int)-1)=((a.length-1:Nat):Int):=by rw[br I I];omega
 obtain⟨A,ar,_,_,_,hu⟩:=S.at (i:=a.length-1) I;rcases ag with ⟨h1,_⟩|⟨ai,bu,e_,dS,al,am,an,ao,aG,cm,aT,du,aQ,bn,aR,bo,aS,aV,ap⟩
 .rw[h1]at j
  have:=congrArg List.length j;simp at this;omega
 have F:=j;rw[aG]at F;obtain⟨aw,ay⟩:=q5 F;rw[e,di];generalize bp:(a[a.length-1]'I)=u at hu ay;obtain⟨bq,un,bs,K,V,D⟩:=u;obtain rfl:un=bu:=ay;have bt:=(cE.eK (.inl du) (by have:=h.po _ _ aT;omega));have aW:Src 1 aM tk (az key):=Q.ah c.ah λq m aX=>(ac q m).2 (aK.gF aX);have U:eZ L key=eZ un.dB key:=Df aV (ap (λL=>eQ L key) (yd key));rw[Dg du]at U;refine⟨A,ar,⟨I,I⟩,_,hu.aU,K,hu.ba,V,hu.bh,D,hu.fH,(qp (n:=un) hu.cg du I aW).use ?_⟩;intro v av g;unfold qU at g;by_cases d:g2 un.keys key=true
 rotate_left
 .have d:g2 un.keys key=false:=by simpa using d
  rw[d,if_neg (by simp)]at g;obtain⟨rfl,G⟩:=g;refine⟨_,bJ,bJ,bJ,false,rfl,a8 (vs:=[false,(),(),()]) rfl λaY y W aZ=>⟨y.cj rfl (fI (b:=iV.leaf) (K:=bJ) (V:=bJ) (D:=bJ)),rfl,cN y (us:=dY iV bJ bJ bJ) rfl rfl λH aA X a0=>⟨λ_=>?_,λhx=>(by cases hx)⟩⟩⟩;have N:Ext av H:=Ext.cu W X (bl _);have p:=G.trans N;refine⟨_,r.ext p,(c.trans (bS.ext _ p)).mono I,rfl,rfl,.inr (.inl ⟨rfl,hg,?_,.bC o⟩)⟩;rw[U,if_neg (by rw[d];simp)]
 rw[if_pos d]at g;obtain⟨dD,d_,c3,rfl,a1,G⟩:=g;refine⟨_,dD,d_,c3,true,rfl,a8 (vs:=[false,(),(),()]) rfl λaY y W aZ=>⟨y.cj rfl fI,rfl,cN y (us:=dY (lT un key) dD d_ c3) rfl rfl λH aA X a0=>⟨λhx=>(by cases hx),λ_=>?_⟩⟩⟩;have N:Ext av H:=Ext.cu W X (bl _);have p:=G.trans N;obtain⟨d0,d1,d2,d3⟩:=bK aA;obtain⟨bk,bf,bv,aC,a2⟩:=IU du d;have a3:cI un.keys key<un.keys.length:=(jB.1 (cf d)).1;have a4:cI un.keys key<un.vals.length:=by rw[du.len];exact a3
 have aD:eZ L key≠none:=by
  rw[U,if_pos d,dH a4];simp
 have a5:aJ.D.a7<=900000000:=by
  have:aJ.D.a7<=T.C.D.a7+2*T.aL:=c.a7;omega
 have bw:=G.size;have a6:bU (λq=>¬(T.bC aJ T.P).M q) H (lT un key) dD d_ c3:=(a1.ext N).a_ λq _ m F=>by have:=r.lt F;omega
 have a9:=Dd (dM:=eQ L key) (k:=key) (steps:=steps) (b_:=un) (r.ext p) (λe=>aF λi=>c.b6.1▸e i) ab cU ej hf a5 j (S.ext' p λq m=>m.2) a6 bk (.inr ⟨ai,e_,dS,al,am,an,ao,aG,cm,λs hs=>aQ s (a2 s hs),λhs e=>by
  have z:=aR hs;rw[e]at aC;simp at aC;omega,aS,by rw[bf];exact ap (λL=>eQ L key) (yd key),by have:=h.po _ _ aT;omega⟩)
 refine⟨_,d0,dD,d1,d_,d2,c3,d3,a9.use ?_⟩;rintro v w' ⟨au,h1,h2,Z,t,bb⟩;have aa:=((c.trans (bS.ext (T.bC aJ T.P) p)).trans h2).mono (l:=100) I;have bx:cl (T.bC aJ T.P)=cl T:=rfl;have bz:(T.bC aJ T.P).aL=T.aL:=rfl;rcases bb with ⟨rfl,B,E⟩|⟨rfl,B,E,z⟩|⟨rfl,B,E,z,bc,bd⟩
 .subst E
  exact⟨2,rfl,_,h1,aa,Z,t,.inr (.inr (.inl ⟨rfl,hg,aD,B,.bC o⟩))⟩
 .exact⟨0,rfl,_,h1,aa,Z,t,.inr (.inr (.inr (.inl ⟨rfl,hg,aD,B,E,λno aE=>⟨(z no aE).1,(z no aE).2.trans (o no)⟩⟩)))⟩
 .exact⟨3,rfl,_,h1,aa,Z,t,.inr (.inr (.inr (.inr ⟨rfl,hg,λhc=>B (c.calm 60 (gf hc I)),(iZ.bC o).trans ⟨E,z,bc,bd⟩ rfl⟩)))⟩
def sS(fr to:Key)(p:aN):al:=decide (dR fr p.1)&&(to.isEmpty||decide (bt p.1 to))
theorem wC(l:O aN)(fr to:Key):gT l fr to=l.filter (sS fr to):=rfl
theorem wD(a b:O aN)(fr to:Key):gT (a++b) fr to=gT a fr to++gT b fr to:=gN ..
def kQ(fr to:Key)(most:Nat):O aN->O aN->al×O aN
 |acc,[]=>(true,acc)
 |acc,p::ps=>
  if to≠ []/\¬bt p.1 to then (false,acc)
  else
   let a:=if dR fr p.1 then acc++ [p] else acc
   if a.length=most then (false,a) else kQ fr to most a ps
def hX(fr to:Key)(most:Nat)(acc L:O aN)(on:al)(a:O aN):Prop:=
 (on=true/\a=acc++gT L fr to/\a.length<most)\/(on=false/\∀R,g1 (L++R)->a=(acc++gT (L++R) fr to).take most)
variable {fr to:Key}{most:Nat}
theorem hX.nil{acc:O aN}(h:acc.length<most):hX fr to most acc [] true acc:=.inl ⟨rfl,by simp[gT],h⟩
theorem hX.app{acc mF iY bd bB:O aN}{on:al}(h1:hX fr to most acc bd true mF)(h2:hX fr to most mF bB on iY):hX fr to most acc (bd++bB) on iY:=by
 rcases h1 with ⟨_,h1,_⟩|⟨h,_⟩
 rotate_left
 .cases h
 subst h1;rcases h2 with ⟨a,b,d⟩|⟨a,b⟩
 .exact .inl ⟨a,by rw[b,wD,cB],d⟩
 .refine .inr ⟨a,λR c=>?_⟩
  rw[cB]at c;rw[b R (sA.1 c).2.1,cB bd bB R,wD bd,cB]
theorem hX.stop{acc mF bd bB:O aN}(h1:hX fr to most acc bd false mF):hX fr to most acc (bd++bB) false mF:=by
 rcases h1 with ⟨h,_⟩|⟨_,h⟩
 .cases h
 .refine .inr ⟨rfl,λR a=>?_⟩
  rw[cB]at a⊢;exact h _ a
theorem hX.skip{acc iY bd bB:O aN}{on:al}(hs:gT bd fr to=[])(h2:hX fr to most acc bB on iY):hX fr to most acc (bd++bB) on iY:=by
 rcases h2 with ⟨a,b,d⟩|⟨a,b⟩
 .exact .inl ⟨a,by rw[b,wD,hs];rfl,d⟩
 .refine .inr ⟨a,λR c=>?_⟩
  rw[cB]at c⊢;rw[b R (sA.1 c).2.1,wD bd,hs];rfl
theorem hX.all{L acc:O aN}{on:al}(h:hX fr to most [] L on acc)(a:g1 L):acc=(gT L fr to).take most:=by
 rcases h with ⟨_,h1,h2⟩|⟨_,h1⟩
 .rw[h1]at h2⊢
  rw[hY]at h2⊢;rw[dO I]
 .have:=h1 [] (by simpa using a)
  simpa using this
theorem Di:∀ {ps acc:O aN},g1 ps->acc.length<most->hX fr to most acc ps (kQ fr to most acc ps).1 (kQ fr to most acc ps).2
 | [],acc,_,h=>.nil h
 |p::ps,acc,i,h=>by
  unfold kQ
  by_cases h1:to≠ []/\¬bt p.1 to
  .rw[if_pos h1]
   refine .inr ⟨rfl,λR b=>?_⟩
   have:gT (p::ps++R) fr to=[]:=by
    rw[wC];refine lB.2 λq c=>?_;have j:dR p.1 q.1:=by
     rw[l2]at c b;rcases cY.1 c with rfl|c
     .exact Bx _
     .exact ic ((jD.1 b).1 q c)
    have h2:¬bt q.1 to:=λa=>h1.2 (kj j a);unfold sS;have e:to.isEmpty=false:=by simpa using h1.1
    simp[e,h2]
   rw[this,fx,dO I]
  .rw[if_neg h1]
   have k:sS fr to p=decide (dR fr p.1):=by
    unfold sS;by_cases h2:to=[]
    .simp[h2]
    .have:bt p.1 to:=Decidable.byContradiction λa=>h1 ⟨h2,a⟩
     simp[this]
   have d:∀l,gT (p::l) fr to=(if dR fr p.1 then [p] else [])++gT l fr to:=λl=>by
    rw[wC,jF,k,wC];by_cases h2:dR fr p.1<;>simp[h2]
   have m:(if dR fr p.1 then acc++ [p] else acc)=acc++(if dR fr p.1 then [p] else []):=by split<;>simp
   simp only[m];generalize hx:(if dR fr p.1 then [p] else [])=x at d;have o:x.length<=1:=by rw[←hx];split<;>simp
   by_cases a:(acc++x).length=most
   .rw[if_pos a]
    refine .inr ⟨rfl,λR b=>?_⟩;rw[l2,d,←cB,←a,List.take_left]
   .rw[if_neg a]
    have e:(acc++x).length<most:=by rw[ct]at a⊢;omega
    have:=Di (ps:=ps) (acc:=acc++x) (jD.1 i).2 e;rcases this with ⟨f,g,n⟩|⟨f,g⟩
    .exact .inl ⟨f,by rw[g,d,cB],n⟩
    .refine .inr ⟨f,λR b=>?_⟩
     rw[l2]at b⊢;rw[g R (jD.1 b).2,d,cB]
def ju(p:ad×ad):O aa:=[p.1,p.2]
theorem pq(l:O (ad×ad)):∀x∈l,(ju x).length=2:=λ_ _=>rfl
theorem IX(p:ad×ad):∀v∈ju p,Plain v:=by
 intro v a;unfold ju at a;simp only[cY,fo,fy]at a;rcases a with rfl|rfl<;>trivial
def iF(B:Nat->Prop)(w:J)(ps:O (ad×ad))(L:O aN):Prop:=ps.length=L.length/\∀i (h1:i<ps.length) (h2:i<L.length),bw B w ps[i].1 L[i].1/\bw B w ps[i].2 L[i].2
def kR(B:Nat->Prop)(w:J)(s:ad)(L:O aN):Prop:=∃ps,aV 2 198 w s (bz ju ps)/\iF B w ps L
def fl(B:Nat->Prop)(w:J)(s:ad)(L:O aN):Prop:=∃ps,Src 2 w s (bz ju ps)/\s.len<=s.cap/\In B w s/\iF B w ps L
section
variable {B C W:Nat->Prop}{w w':J}{s:ad}{ps:O (ad×ad)}{L:O aN}
theorem iF.ah(h:iF B w ps L)(hc:af W w w')(d:∀k,B k->k<w.heap.size->¬W k):iF B w' ps L:=
 ⟨h.1,λi h1 h2=>by
  obtain⟨a,b⟩:=h.2 i h1 h2
  exact⟨bw.kK a hc λk c=>d k (a.2.2 k c).1 (a.2.2 k c).2,bw.kK b hc λk c=>d k (b.2.2 k c).1 (b.2.2 k c).2⟩⟩
theorem iF.a_(h:iF B w ps L)(a:∀k,k<w.heap.size->B k->C k):iF C w ps L:=⟨h.1,λi h1 h2=>⟨bw.a_ (h.2 i h1 h2).1 a,bw.a_ (h.2 i h1 h2).2 a⟩⟩
theorem iF.push{p:ad×ad}{kv:aN}(h:iF B w ps L)(h1:bw B w p.1 kv.1)(h2:bw B w p.2 kv.2):iF B w (ps++ [p]) (L++ [kv]):=by
 refine⟨by simp[h.1],λi aw ay=>?_⟩;rcases ei i ps.length with g|g
 .have g':i<L.length:=by have:=h.1;omega
  simp only[nV g,nV g'];exact h.2 i g g'
 .have e:i=ps.length:=by simp at aw;omega
  subst e;have a:(ps++ [p])[ps.length]'aw=p:=by simp
  have b:(L++ [kv])[ps.length]'ay=kv:=by rw[pF (by rw[h.1];exact bl _)];simp
  rw[a,b];exact⟨h1,h2⟩
theorem kR.len(h:kR B w s L):s.len=L.length:=by
 obtain⟨ps,h1,h2⟩:=h;have:=h1.1;rw[fD _ (pq ps)]at this;have:=h2.1;omega
theorem kR.a_(h:kR B w s L)(a:∀k,k<w.heap.size->B k->C k):kR C w s L:=by
 obtain⟨ps,h1,h2⟩:=h;exact⟨ps,h1,h2.a_ a⟩
theorem kR.none(B:Nat->Prop)(w:J):kR B w ⟨.none,0,0⟩ []:=⟨[],aV.none _ _ _,rfl,λi h=>by simp at h⟩
theorem kR.r(h:kR B w s L)(hs:∀k,aB s k->B k):fl B w s L:=by
 obtain⟨ps,h1,h2⟩:=h;exact⟨ps,h1.src,h1.2.1,λk a=>⟨hs k a,h1.lt k a⟩,h2⟩
theorem fl.len(h:fl B w s L):s.len=L.length:=by
 obtain⟨ps,h1,_,_,h2⟩:=h;have:=h1.len;rw[fD _ (pq ps)]at this;have:=h2.1;omega
theorem fl.ah(h:fl B w s L)(hc:af W w w')(b:∀k,B k->k<w.heap.size->¬W k):fl B w' s L:=by
 obtain⟨ps,h1,h2,a,d⟩:=h;exact⟨ps,h1.ah hc λk c=>b k (a k c).1 (a k c).2,h2,In.ah a hc,d.ah hc b⟩
theorem fl.ext(h:fl B w s L)(hc:Ext w w'):fl B w' s L:=h.ah hc λ_ _ _ h=>h
theorem fl.a_(h:fl B w s L)(a:∀k,k<w.heap.size->B k->C k):fl C w s L:=by
 obtain⟨ps,h1,h2,b,c⟩:=h;exact⟨ps,h1,h2,In.a_ b a,c.a_ a⟩
theorem fl.at(h:fl B w s L){i:Nat}(hi:i<L.length):∃ (A:ag) (tk cQ:ad),s.a=some A/\B A.block/\((0:Int)<=(i:Int)/\(i:Int)<(s.len:Int))/\w.cell? (A.add (i*2))=some (.slice tk.a tk.len tk.cap)/\w.cell? ((A.add (i*2)).add 1)=some (.slice cQ.a cQ.len cQ.cap)/\
 bw B w tk L[i].1/\bw B w cQ L[i].2:=by
 have o:=h.len;obtain⟨ps,h1,h2,k,c⟩:=h;have d:i<ps.length:=by have:=c.1;omega
 cases b:s.a with
 |none=>
  have:=h1.nil b;have e:=fD ps (pq ps);rw[this]at e;simp at e;omega
 |some A=>
  have l:=h1.rd A b;have hg:∀j v,(ju ps[i])[j]? =some v->w.cell? (A.add (i*2+j))=some v:=λj v f=>by
   have m:j<2:=(jB.1 f).1;have g:=om l (j:=i*2+j) (v:=v) (by rw[wc (pq ps) d m];exact f);rw[cT]at g;exact g
  obtain⟨t1,t2⟩:=c.2 i d hi;have n:(A.add (i*2)).add 1=A.add (i*2+1):=add_add A _ _;refine⟨A,ps[i].1,ps[i].2,rfl,(k A.block ⟨A,b,rfl⟩).1,⟨I,I⟩,?_,?_,t1,t2⟩
  .exact hg 0 _ rfl
  .rw[n]
   exact hg 1 _ rfl
end
theorem IY:hA aj 193 198 2 48:=⟨by kernel_rfl⟩
theorem IZ(w:J)(cs:Array aa)(h:cs.size=2):Sem.run aj (Instr.buildSlice 193 1 #[(0,.agg cs)]) w=.ok (.slice (some w.heap.size) 1 1) (w.alloc (.cells cs 198)):=by
 have h0:((Tryz.prog.info? 198).bind (·.zero)).isSome=true:=by kernel_rfl
 obtain⟨z,a⟩:=mM.1 h0;obtain⟨i,hi,b⟩:=sJ a;have h1:(Tryz.prog.underlying 198).isSome=true:=by kernel_rfl
 obtain⟨d,hd⟩:=mM.1 h1;exact yS (sz:=2) w (by kernel_rfl) hd (by kernel_rfl) hi b h (by decide) (by decide)
structure eN(T au:aK)(w w':J)(k:Nat):Prop where
 to:bS T au w w' k
 E:au.E=T.E
 G:∀q,T.G q->au.G q
 root:au.root=T.root
 aL:au.aL=T.aL
 f:au.f=T.f
 P:au.P=T.P
 view:∀j,au.C.view j=T.C.view j
theorem eN.refl(T:aK)(w:J):eN T T w w 0:=⟨.refl _ _,rfl,λ_ h=>h,rfl,rfl,rfl,rfl,λ_=>rfl⟩
theorem eN.ext{w w':J}(T:aK)(h:Ext w w'):eN T T w w' 0:=⟨.ext T h,rfl,λ_ h=>h,rfl,rfl,rfl,rfl,λ_=>rfl⟩
theorem eN.trans{T au a:aK}{w w' b:J}{k l:Nat}(h1:eN T au w w' k)(h2:eN au a w' b l):eN T a w b (k+l):=
 ⟨h1.to.trans h2.to,h2.E.trans h1.E,λq h=>h2.G q (h1.G q h),h2.root.trans h1.root,h2.aL.trans h1.aL,h2.f.trans h1.f,h2.P.trans h1.P,λj=>(h2.view j).trans (h1.view j)⟩
theorem eN.mono{T au:aK}{w w':J}{k l:Nat}(h:eN T au w w' k)(a:k<=l):eN T au w w' l:=⟨h.to.mono a,h.E,h.G,h.root,h.aL,h.f,h.P,h.view⟩
theorem eN.bC{T:aK}{aJ:b3}{w w':J}{k:Nat}(h:bS T (T.bC aJ T.P) w w' k)(a:∀j,aJ.view j=T.C.view j):eN T (T.bC aJ T.P) w w' k:=⟨h,rfl,λ_ h=>h,rfl,rfl,rfl,rfl,a⟩
theorem bS.out{T au:aK}{w w':J}{k q:Nat}(h:bS T au w w' k)(a:q<w.heap.size)(b:¬T.M q):¬au.M q/\q<w'.heap.size:=by
 refine⟨λh1=>?_,ff a h.ah.size⟩;rcases h.c1 q h1 with h2|h2
 .exact b h2
 .omega
theorem bS.Dj{T au:aK}{w w':J}{k:Nat}{ps:O (ad×ad)}{L:O aN}(h:bS T au w w' k)(c:iF (λq=>¬T.M q) w ps L):iF (λq=>¬au.M q) w' ps L:=by
 have h1:iF (λq=>q<w.heap.size/\¬T.M q) w ps L:=c.a_ λq b a=>⟨b,a⟩;exact(h1.ah h.ah λq b _ d=>b.2 (aK.gF d)).a_ λq _ a=>(h.out a.1 a.2).1
structure iG(lo:Nat)(w:J)(T:aK)(aR:Nat)(s:ad)(L:O aN):Prop where
 t:b7 w T
 v:Var w aR [s] 193
 own:kR (λq=>¬T.M q) w s L
 go:T.G aR
 gs:∀q,aB s q->T.G q/\q≠aR/\lo<=q
section
variable {w w':J}{T au:aK}{lo aR:Nat}{s:ad}{L:O aN}
theorem iG.of{k:Nat}(h:iG lo w T aR s L)(d:b7 w' au)(ht:bS T au w w' k)(b:∀q,T.G q->au.G q){W:Nat->Prop}(c:af W w w')(cx:∀q,T.G q->¬W q):iG lo w' au aR s L:=by
 obtain⟨ps,h1,h2⟩:=h.own;exact⟨d,h.v.ah c (cx _ h.go),⟨ps,h1.ah c λq a=>cx q (h.gs q a).1,ht.Dj h2⟩,b _ h.go,λq a=>⟨b q (h.gs q a).1,(h.gs q a).2⟩⟩
theorem iG.ext(h:iG lo w T aR s L)(hx:Ext w w'):iG lo w' T aR s L:=h.of (h.t.ext hx) (bS.ext T hx) (λ_ h=>h) hx λ_ _ h=>h
theorem I0{k v:Key}{tk cQ:ad}(h:iG lo w T aR s L)(B:lo<=w.heap.size)(p:bw (λq=>¬T.M q) w tk k)(r:bw (λq=>¬T.M q) w cQ v)(C:L.length<=100000):
 ∃ (b:ad) (ai:J),Sem.run aj (Builtin.append_ #[193,193] 193 #[s,.slice (some w.heap.size) 1 1]) (w.alloc (.cells (ju (tk,cQ)).toArray 198))=.ok b ai/\
  (∃u:aa,ai.cell? aR=some u)/\ai.frozen? aR=false/\
  ∀d,d=ai.setCell aR b->iG lo d (T.cv T.E λq=>T.G q\/aB b q) aR b (L++ [(k,v)])/\eN T (T.cv T.E λq=>T.G q\/aB b q) w d 0:=by
 have D:=h.own.len;obtain⟨ps,x,y⟩:=h.own;obtain⟨b,ai,aw,ay,F,f,c⟩:=IY.push (cD:=193) (w:=w) (s:=s) (xs:=ju (tk,cQ)) rfl x (IX _) I;have cx:∀q,aB s q->T.G q:=λq a=>(h.gs q a).1;have H:=f.size;have j:=h.v.ah f λa=>(h.gs _ a).2.1 rfl;obtain⟨b9,cq⟩:=eB j (i:=0) (by simp);refine⟨b,ai,aw,b9,cq,?_⟩;rintro _ rfl;have g:=dZ ai aR 0 b;have z:=eA j (i:=0) b;have l:af T.G w (ai.setCell aR b):=c0 (f.mono λq _ a=>cx q a) g λq _ e=>by rw[e];exact h.go
 have aH:∀q,aB b q->q<ai.heap.size:=λq a=>aV.lt ay q a;have m:∀q,aB b q->T.G q\/(w.heap.size<=q/\q<(ai.setCell aR b).heap.size):=λq a=>by
  rcases c q a with h1|h1
  .exact .inl (cx q h1)
  .exact .inr ⟨h1,by have:=aH q a;have:=g.size;omega⟩
 have n:∀q,aB b q->q≠aR:=λq a e=>by
  rcases c q a with h1|h1
  .exact(h.gs q h1).2.1 e
  .have:=h.v.lt;omega
 have A:=h.t.grow (E:=T.E) (G:=λq=>T.G q\/aB b q) l (λq a _=>.inr a) (λq a=>.inl a) (λq a=>by
  rcases a with a|a
  .exact .inr (.inl a)
  .exact .inr (m q a)) λq a hg=>by
  rcases hg with hg|hg
  .exact(h.t.dU q a).2.2 hg
  .rcases c q hg with h1|h1
   .exact(h.t.dU q a).2.2 (cx q h1)
   .have:=h.t.lt (q:=q) (.inr (.inr (.inr (.inl a))));omega
 have o:bS T (T.cv T.E λq=>T.G q\/aB b q) w (ai.setCell aR b) 0:=by
  have h0:bS T T w w 0:=.refl _ _;exact h0.step l (λq a _=>.inr (.inr (.inr a))) (λq a=>.inl a) λq a=>by
   rcases a with a|a
   .exact .inl a
   .exact(m q a).imp id λe=>e.1
 refine⟨⟨A,z,⟨ps++ [(tk,cQ)],?_,o.Dj (y.push (kv:=(k,v)) p r)⟩,.inl h.go,λq a=>⟨.inr a,n q a,?_⟩⟩,o,rfl,λ_ h=>.inl h,rfl,rfl,rfl,rfl,λ_=>rfl⟩
 .have e:bz ju (ps++ [(tk,cQ)])=bz ju ps++ju (tk,cQ):=by rw[lU];simp[bz]
  rw[e];exact ay.ah g λq a e=>n q a e
 .rcases c q a with h1|h1
  .exact(h.gs q h1).2.2
  .omega
end
structure q6(w:J)(T:aK)(bj aW a6:Nat)(fu fE:ad)(to fr:Key)(most:Int):Prop where
 wE:Var w bj [fu] 39
 wF:Var w aW [fE] 39
 jg:Var w a6 [most] 3
 Dk:¬T.M bj
 Dl:¬T.M aW
 Dm:¬T.M a6
 st:Src 1 w fu (az to)
 zj:Src 1 w fE (az fr)
 sT:∀q,aB fu q->q<w.heap.size/\¬T.M q
 sU:∀q,aB fE q->q<w.heap.size/\¬T.M q
 lt:to.length<=9000000000000000000
section
variable {w w':J}{T au:aK}{bj aW a6:Nat}{fu fE:ad}{to fr:Key}{most:Int}
theorem q6.go{k:Nat}(h:q6 w T bj aW a6 fu fE to fr most)(ht:bS T au w w' k):q6 w' au bj aW a6 fu fE to fr most:=by
 have b:∀q,¬T.M q->¬T.N q:=λq a b=>a (aK.gF b);exact⟨h.wE.ah ht.ah (b _ h.Dk),h.wF.ah ht.ah (b _ h.Dl),h.jg.ah ht.ah (b _ h.Dm),(ht.out h.wE.lt h.Dk).1,(ht.out h.wF.lt h.Dl).1,(ht.out h.jg.lt h.Dm).1,
  h.st.ah ht.ah λq a=>b _ (h.sT q a).2,h.zj.ah ht.ah λq a=>b _ (h.sU q a).2,λq a=>⟨(ht.out (h.sT q a).1 (h.sT q a).2).2,(ht.out (h.sT q a).1 (h.sT q a).2).1⟩,λq a=>⟨(ht.out (h.sU q a).1 (h.sU q a).2).2,(ht.out (h.sU q a).1 (h.sU q a).2).1⟩,h.lt⟩
end
def jV(fr to:Key)(most:Nat)(n:aF)(acc ps:O aN):al×O aN:=if n.leaf then kQ fr to most acc ps else (true,acc)
def I1(lo aR:Nat)(T:aK)(a:al×O aN)(w:J)(v:aa)(w':J):Prop:=
 ∃ (au:aK) (b:ad),v=a.1/\iG lo w' au aR b a.2/\eN T au w w' 0
theorem bS.iV{T au:aK}{w w':J}{k:Nat}(h:bS T au w w' k){n:aF}{K V D:ad}(b:bU (λq=>¬T.M q) w n K V D):bU (λq=>¬au.M q) w' n K V D:=
 (h.cg (lo:=0) (b.a_ λ_ _ a=>⟨cP _,a⟩)).a_ λ_ _ a=>a.2
theorem Dn{a b:Key}:(decide ((dL a b:Int)>=0))=decide (dR b a):=by
 unfold dR;by_cases h:dL a b<0
 .have h1:¬dL a b>=0:=by omega
  simp[h,h1]
 .have h1:dL a b>=0:=by omega
  simp[h,h1]
theorem I2{w:J}{T:aK}{lo aR bj aW a6:Nat}{s fu fE:ad}{L:O aN}{to fr:Key}{most:Int}{n:aF}{K V D:ad}(no:Int)(h:iG lo w T aR s L)(a4:lo<=w.heap.size)(hf:q6 w T bj aW a6 fu fE to fr most)
 (U:bU (λq=>¬T.M q) w n K V D) (hs:cE n) (a5:n.keys.length<=1000) (cU:(L.length:Int)<most) (a7:L.length<=50000):
 aI aj 218 #[no,dd n K V D,.pointer (some bj),.pointer (some aW),.pointer (some aR),.pointer (some a6)] w (I1 lo aR T (jV fr to most.toNat n L n.dB) w):=by
 have a9:=bI.len U.keys;refine okF (ae.vk no n.leaf K V D bj aW aR a6) ax.vk func218 ?_;(delta ae.vk r1 Y ak aP bX aT aG aq;dsimp only);refine a8 (vs:=dY n K V D) rfl λw1 N m a_=>?_;obtain⟨nb,az⟩:∃nb,nb=w.heap.size:=⟨_,rfl⟩;rw[←az]at N⊢;have h1:=h.ext m;have aA:=hf.go (bS.ext T m);have aB:=U.ext m;have W:¬T.M nb:=λP=>by have:=h.t.lt P;omega
 obtain⟨bV,aU,ba,bh⟩:=bK N;refine⟨K,aU,λi d=>∃ (C:Nat) (au:aK) (y:ad) (acc:O aN),i=(C:Int)/\C<=n.keys.length/\iG lo d au aR y acc/\eN T au w1 d 0/\(acc.length:Int)<most/\acc.length<=L.length+C/\jV fr to most.toNat n acc (n.dB.drop C)=jV fr to most.toNat n L n.dB,
  λi _=>((n.keys.length:Int)-i).toNat,⟨0,T,s,L,rfl,cP _,h1,.refl _ _,cU,I,by rw[iK]⟩,?_⟩
 rintro _ d ⟨i,au,y,acc,rfl,hi,E,k,bb,bc,f⟩;have bd:=m.size;have be:=k.to.ah.size;have o:=aA.go k.to;have X:=k.to.iV aB;have Z:=N.ah k.to.ah λP=>W (aK.gF P);have bf:=(k.to.out I W).1;refine⟨λaH=>?_,λaC=>?_⟩
 rotate_left
 .have aa:i=n.keys.length:=by
   have:¬(i:Int)<(K.len:Int):=cC aC;omega
  have hd:n.dB.drop i=[]:=by
   refine ru ?_;unfold aF.dB;rw[nS];omega
  rw[hd]at f;have e:jV fr to most.toNat n acc []=(true,acc):=by unfold jV kQ;split<;>rfl
  rw[e]at f;exact⟨au,y,by rw[←f],by rw[←f];exact E,((eN.ext T m).trans k)⟩
 .have aa:i<n.keys.length:=by
   have:(i:Int)<(K.len:Int):=cf aH;omega
  obtain⟨A,tk,ar,aD,hc,F,_⟩:=bI.at X.keys aa;have Q:IntKind.wrap .i64 ((i:Int)+1)=((i+1:Nat):Int):=by rw[br I I];omega
  have aE:∀w':J,((n.keys.length:Int)-IntKind.wrap .i64 ((i:Int)+1)).toNat<((n.keys.length:Int)-(i:Int)).toNat:=λ_=>by rw[Q];omega
  obtain⟨key,ab⟩:∃key,key=n.keys[i]:=⟨_,rfl⟩;rw[←ab]at F;have ac:=len8 o.st;refine⟨A,ar,aD,tk,hc,fu,o.wE.cell,cw (λb w'=>b=decide (to≠ []/\¬bt key to)/\d=w') (λq l=>⟨λc=>⟨fu,o.wE.cell,(lK F.1 o.st).use ?_⟩,λc=>l _ _ ⟨?_,rfl⟩⟩) ?_⟩
  .rintro _ _ ⟨rfl,rfl⟩
   refine⟨_,rfl,l _ _ ⟨?_,rfl⟩⟩;have h2:to≠ []:=λe=>by
    rw[e]at ac;have:(fu.len:Int)>0:=cf c;simp at ac;omega
   rw[Dn];simp only[h2,ne_eq,not_false_eq_true,true_and];rfl
  .have h2:to=[]:=by
    have:¬(fu.len:Int)>0:=cC c;exact l3.1 I
   simp[h2]
  rintro aJ _ ⟨af,rfl⟩;have d0:d.cell? nb=some (.bool n.leaf):=(bK Z).1;refine cw (λb w'=>b=(aJ&&n.leaf)/\d=w') (λq l=>⟨λc=>⟨_,d0,l _ _ ⟨by rw[c];rfl,rfl⟩⟩,λc=>l _ _ ⟨by rw[c];rfl,rfl⟩⟩) ?_;rintro bg _ ⟨ag,rfl⟩;have G:n.leaf=true->∃x:Key,(∃j:i<n.vals.length,x=n.vals[i])/\n.dB.drop i=(key,x)::n.dB.drop (i+1):=λa=>by
   have bi:n.vals.length=n.keys.length:=by
    rcases hs with h2|h2
    .exact h2.len
    .have:=h2.inner;rw[a]at this;cases this
   have j:i<n.vals.length:=by omega
   refine⟨n.vals[i],⟨j,rfl⟩,?_⟩;have aL:i<n.dB.length:=by unfold aF.dB;rw[nS];omega
   rw[j0 aL];have e:n.dB[i]=(key,n.vals[i]):=by
    rw[ab];exact tf
   rw[e]
  refine⟨λc=>?_,λc=>?_⟩
  .
   rw[ag,c5]at c;obtain⟨x,_,z⟩:=G c.2;have aM:to≠ []/\¬bt key to:=by
    rw[af]at c;exact cf c.1
   have e:jV fr to most.toNat n acc (n.dB.drop i)=(false,acc):=by
    unfold jV;rw[if_pos c.2,z];unfold kQ;rw[if_pos aM]
   rw[e]at f;exact⟨au,y,by rw[←f],by rw[←f];exact E,((eN.ext T m).trans k)⟩
  .have ai:n.leaf=true->¬(to≠ []/\¬bt key to):=λa h2=>by
    rw[ag,af,a,dI h2]at c
    cases c
   refine k6 (λH=>∃ (bY:aK) (s2:ad) (iY:O aN),iY=(if n.leaf=true/\dR fr key then acc++ [(key,n.vals.getD i [])] else acc)/\iG lo H bY aR s2 iY/\eN au bY d H 0) (λq l=>⟨n.leaf,d0,?_⟩) ?_
   .refine cw (λb w'=>b=decide (n.leaf=true/\dR fr key)/\d=w') (λr al=>⟨λa=>⟨fE,o.wF.cell,(lK F.1 o.zj).use ?_⟩,λa=>al _ _ ⟨by simp[a],rfl⟩⟩) ?_
    .rintro _ _ ⟨rfl,rfl⟩
     refine⟨_,rfl,al _ _ ⟨?_,rfl⟩⟩;rw[Dn,a];simp
    .rintro bk _ ⟨am,rfl⟩
     refine⟨λg=>aX ?_,λg=>?_⟩
     .rw[am]at g
      have g:=cf g;obtain⟨x,⟨j,hx⟩,z⟩:=G g.1;have B:Ext d d.drew:=cA _;have p:=E.ext B;obtain⟨aO,cQ,aQ,aS,aV,an,bl⟩:=bI.at (X.ext B).vals j;rw[←hx]at an;have aY:=bw.ext F B;have bm:=B.size;obtain⟨ao,aZ,aw,ay,a0,a1⟩:=I0 p I aY an I;refine⟨λ_=>False,id,y,p.v.cell,id,V,(bK (Z.ext B)).2.2.1,aO,aQ,aS,id,cQ,aV,(ju (tk,cQ)).toArray,λbn=>?_,⟨some d.drew.heap.size,1,1⟩,_,IZ _ _ rfl,dc _ _,ao,aZ,aw,ay,a0,aX (l _ ?_)⟩
      .kernel_rfl
      .obtain⟨b9,cq⟩:=a1 _ rfl
       refine⟨_,ao,_,?_,b9,((eN.ext au B).trans cq)⟩;rw[if_pos g,fN,dH j,←hx];rfl
     .rw[am]at g
      have g:=cC g;exact l _ ⟨au,y,acc,by rw[if_neg g],E,.refl _ _⟩
   .rintro H ⟨bY,s2,iY,u,p,ap⟩
    have a2:=o.go ap.to;have a3:=p.own.len;have av:=k.trans ap;have bo:iY.length<=acc.length+1:=by rw[u];split<;>simp
    have bp:(0:Int)<=most:=by omega
    refine⟨s2,p.v.cell,most,a2.jg.cell,λc=>?_,λc=>?_⟩
    .have he:(s2.len:Int)=most:=by simpa using c
     by_cases a:n.leaf=true
     .obtain⟨x,⟨j,hx⟩,z⟩:=G a
      have R:n.vals.getD i []=x:=by rw[fN,dH j,hx];rfl
      have e:jV fr to most.toNat n acc (n.dB.drop i)=(false,iY):=by
       unfold jV;rw[if_pos a,z];unfold kQ;rw[if_neg (ai a)];have S:(if dR fr key then acc++ [(key,x)] else acc)=iY:=by rw[u,R];simp[a]
       simp only[S];rw[if_pos I]
      rw[e]at f;exact⟨bY,s2,by rw[←f],by rw[←f];exact p,((eN.ext T m).trans av)⟩
     .exfalso
      rw[if_neg (λh2=>a h2.1)]at u;rw[u]at a3;omega
    .have he:¬(s2.len:Int)=most:=by simpa using c
     rw[Q];refine⟨⟨i+1,bY,s2,iY,rfl,I,p,av,I,I,?_⟩,?_⟩
     .rw[←f]
      unfold jV;by_cases a:n.leaf=true
      .obtain⟨x,⟨j,hx⟩,z⟩:=G a
       have R:n.vals.getD i []=x:=by rw[fN,dH j,hx];rfl
       rw[if_pos a,if_pos a,z]
       conv=>rhs;unfold kQ
       rw[if_neg (ai a)];have S:(if dR fr key then acc++ [(key,x)] else acc)=iY:=by rw[u,R];simp[a]
       simp only[S];rw[if_neg I]
      .rw[if_neg a,if_neg a]
       rw[if_neg (λh2=>a h2.1)]at u;rw[u]
     .have:=aE H
      rw[Q]at this;exact this
inductive Kids (W:Below):O Nat->O Nat->O aN->Prop
 |nil:Kids W [] [] []
 |cons {lo hi:av Key}{k:Nat}{kids bk bf:O Nat}{bd bB:O aN} (h:W lo hi k bk bd) (t:Kids W kids bf bB):Kids W (k::kids) (bk++bf) (bd++bB)
theorem dA.kids{W:Below}{lo hi:av Key}{ks:O Key}{kids p:O Nat}{L:O aN}(h:dA W lo hi ks kids p L):Kids W kids p L:=by
 induction h with
 |one h=>
  have:=Kids.cons h .nil;rwa[fx,fx]at this
 |cons h _ a=>exact .cons h a
theorem I3(s:Key)(ks:O Key)(k:Key):db (s::ks) k=if bt k s then 0 else db ks k+1:=by
 unfold db;rw[List.findIdx_cons];by_cases h:bt k s<;>simp[h]
theorem dA.from{W:Below}(cx:∀lo hi k p L,W lo hi k p L->∀q∈L,ft lo hi q.1){lo hi:av Key}{ks:O Key}{kids p:O Nat}{L:O aN}(h:dA W lo hi ks kids p L)(k:Key):
 ∃ (bk bf:O Nat) (bd bB:O aN),p=bk++bf/\L=bd++bB/\(∀q∈bd,bt q.1 k)/\Kids W (kids.drop (db ks k)) bf bB:=by
 induction h with
 |one h=>exact⟨[],_,[],_,rfl,rfl,λ_ h=>(by cases h),(dA.one h).kids⟩
 | @cons lo hi s f bk bf bd bB ks kids h t c=>
  rw[I3];by_cases b:bt k s
  .rw[if_pos b]
   exact⟨[],_,[],_,rfl,rfl,λ_ h=>(by cases h),(dA.cons h t).kids⟩
  .rw[if_neg b,List.drop_succ_cons]
   obtain⟨a1,a2,cy,b4,rfl,rfl,d,e⟩:=c;refine⟨bk++a1,a2,bd++cy,b4,by rw[cB],by rw[cB],λq a=>?_,e⟩;rcases cO.1 a with a|a
   .exact nt ((cx _ _ _ _ _ h q a).2 s rfl) b
   .exact d q a
theorem Dp{L:O aN}{fr to:Key}(h:∀q∈L,bt q.1 fr):gT L fr to=[]:=by
 rw[wC];refine lB.2 λq a=>?_;unfold sS;have:¬dR fr q.1:=λh2=>h2 (h q a);simp[this]
def Dq(T:aK)(no:Nat):Prop:=(no<T.n/\2<=no)/\∃e,fi (no:Int) (T.C.view no)=.error e
theorem I4{w:J}{T:aK}{no:Nat}{o:aF}(h:b7 w T)(s:T.C.D.a7<=999999999)(d:T.P no=some o\/Dq T no):
 aI aj 175 #[.pointer (some T.bj),no,o.leaf] w (λv w'=>∃aJ:b3,eN T (T.bC aJ T.P) w w' 2/\b7 w' (T.bC aJ T.P)/\af (λq=>T.N q/\¬T.G q) w w'/\
  ((∃ (K V D:ad),v=.tuple #[dd o K V D,(0:Int)]/\T.P no=some o/\bU (λq=>w.heap.size<=q/\¬(T.bC aJ T.P).M q) w' o K V D)\/(∃e:Int,v=.tuple #[dd iV bJ bJ bJ,e]/\e≠0/\((e=3/\¬T.C.D.calm 2)\/Dq T no)))):=by
 have f:no<T.n:=d.elim (λh1=>(h.eT no o h1).1) λh1=>h1.1.1;have g:2<=no:=d.elim (λh1=>(h.eT no o h1).2.two) λh1=>h1.1.2;obtain⟨bN,i⟩:∃bN,bN=λq=>T.E q\/T.G q:=⟨_,rfl⟩;have c:∀q,T.E q\/T.G q->bN q:=λq a=>by rw[i];exact a
 have j:∀q,bN q->T.E q\/T.G q:=λq a=>by rw[i]at a;exact a
 have k:b7 w (T.cv bN λ_=>False):=h.grow (W:=λ_=>False) (af.refl _ _) (λ_ h=>h.elim) (λq a=>(j q a).imp id .inl) (λ_ h=>h.elim) λ_ _ h=>h;have t:∀q,(T.cv bN λ_=>False).N q->T.N q/\¬T.G q:=λq a=>⟨by
  rcases a with a|a|a|a
  .exact .inl a
  .exact .inr (.inl a)
  .exact .inr (.inr (.inl a))
  .exact a.elim,λhg=>k.kL (c q (.inr hg)) a⟩
 refine(y7 k s f g o.leaf).mono ?_;rintro v w' ⟨aJ,u,ht,x,y⟩;have z:bS T (T.bC aJ T.P) w w' 2:=bS.read (E:=bN) ht c λq a=>(j q a).imp id .inl;have A:af (λq=>T.N q/\¬T.G q) w w':=ht.ah.mono λq _ a=>t q a;refine⟨aJ,.bC z x,?_,A,?_⟩
 .exact u.grow (E:=T.E) (G:=T.G) (W:=λ_=>False) (af.refl _ _) (λ_ h=>h.elim) (λq a=>.inl (c q (.inl a))) (λq a=>.inl (c q (.inr a))) λq a=>(h.dU q a).2.2
 .rcases y with ⟨bu,K,V,D,rfl,l,ej⟩|⟨e,rfl,B,F⟩
  .have m:T.P no=some o:=d.resolve_right λ⟨_,e,h1⟩=>by
    obtain⟨p,aw,_⟩:=l;have h1:fi (no:Int) (T.C.view no)=.error e:=h1;have aw:fi (no:Int) (T.C.view no)=.ok p:=aw;rw[h1]at aw;cases aw
   obtain rfl:=gW.uniq (h.eT no o m).2 l;refine .inl ⟨K,V,D,rfl,m,ej.a_ λq a r=>⟨r.1,λb=>r.2 ?_⟩⟩;rcases b with b|b|b|b|b
   .exact .inl b
   .exact .inr (.inl b)
   .exact .inr (.inr (.inl b))
   .exact .inr (.inr (.inr (.inl (c q (.inl b)))))
   .exact .inr (.inr (.inr (.inl (c q (.inr b)))))
  .refine .inr ⟨e,rfl,F,?_⟩
   rcases B with h1|h1|⟨_,_,h1⟩
   .exact .inl h1
   .exact .inr ⟨⟨f,g⟩,e,h1⟩
   .exact d.elim (λh2=>absurd (h.eT no o h2).2 (h1 o)) .inr
theorem I5{w:J}{T:aK}{no:Nat}{o:aF}(h:b7 w T)(f:T.C.D.a7<=999999999)(c:T.P no=some o):
 aI aj 175 #[.pointer (some T.bj),no,o.leaf] w (λv w'=>∃aJ:b3,eN T (T.bC aJ T.P) w w' 2/\b7 w' (T.bC aJ T.P)/\af (λq=>T.N q/\¬T.G q) w w'/\
  ((∃ (K V D:ad),v=.tuple #[dd o K V D,(0:Int)]/\bU (λq=>w.heap.size<=q/\¬(T.bC aJ T.P).M q) w' o K V D)\/(v=.tuple #[dd iV bJ bJ bJ,(3:Int)]/\¬T.C.D.calm 2))):=by
 refine(I4 h f (.inl c)).mono ?_;rintro v w' ⟨aJ,h1,h2,d,⟨K,V,D,b,_,a⟩|⟨e,b,_,⟨rfl,a⟩|⟨_,g,a⟩⟩⟩
 .exact⟨aJ,h1,h2,d,.inl ⟨K,V,D,b,a⟩⟩
 .exact⟨aJ,h1,h2,d,.inr ⟨b,a⟩⟩
 .obtain⟨p,aw,_⟩:=(h.eT no o c).2
  rw[a]at aw;cases aw
def I6(lo aR:Nat)(T:aK)(fr to:Key)(most:Int)(acc L:O aN)(a:Nat)(w:J)(v:aa)(w':J):Prop:=
 ∃ (au:aK) (c:ad) (b:O aN),eN T au w w' (2*a)/\iG lo w' au aR c b/\
  ((∃on:al,v=.tuple #[on,(0:Int)]/\hX fr to most.toNat acc L on b)\/(v=.tuple #[false,(3:Int)]/\¬T.C.D.calm (2*a)))
theorem I7:h6 aj 218:=⟨Tryz.f218,func218,by kernel_rfl,by kernel_rfl⟩
theorem eM.top{P:Nat->av aF}{h:Nat}{lo hi:av Key}{no:Nat}{p:O Nat}{L:O aN}(b:eM P (h+1) lo hi no p L):∃ (n:aF) (a:O Nat),P no=some n/\n.leaf=decide (h=0)/\cE n/\p=no::a/\
 ((h=0/\gU n/\a=[]/\L=n.dB)\/(∃g,h=g+1/\yc n/\Kids (λlo hi k p L=>eM P h lo hi k p L) n.kids a L/\∀k:Key,∃ (bk bf:O Nat) (bd bB:O aN),a=bk++bf/\L=bd++bB/\(∀q∈bd,bt q.1 k)/\Kids (λlo hi k p L=>eM P h lo hi k p L) (n.kids.drop (db n.keys k)) bf bB)):=by
 match h,b with
 |0,⟨n,h1,h2,f,e,d,c⟩=>exact⟨n,[],h1,h2.leaf,.inl h2,d,.inl ⟨rfl,h2,rfl,c⟩⟩
 |h+1,⟨n,a,h1,h2,f,e,d⟩=>
  have c:=d.mono (V:=λlo hi k p L=>eM P (h+1) lo hi k p L) λ_ _ _ _ _ _ b=>b.1;refine⟨n,a,h1,by rw[h2.inner];simp,.inr h2,e,.inr ⟨h,rfl,h2,c.kids,λk=>c.from (λ_ _ _ _ _ b=>(eM.eW b).2) k⟩⟩
theorem hX.len{fr to:Key}{most:Nat}{acc L a:O aN}{on:al}(h:hX fr to most acc L on a)(b:g1 L):a.length<=acc.length+L.length:=by
 have c:(gT L fr to).length<=L.length:=mY _ _;rcases h with ⟨_,h1,_⟩|⟨_,h1⟩
 .rw[h1,ct];omega
 .have:=h1 [] (by simpa using b)
  rw[this,fx,cG,ct];omega
theorem I8{A:ag}{i c:Nat}(h:i<c):aY (some A) 1 i c=some (A.add i):=by
 unfold aY;rw[fw];split
 .rename_i h2;omega
 .rfl
theorem I9(h:Nat):∀ {w:J}{T:aK}{lo aR bj aW a6:Nat}{s fu fE:ad}{acc L:O aN}{to fr:Key}{most:Int}{e_ dS:av Key}{no:Nat}{p:O Nat},iG lo w T aR s acc->lo<=w.heap.size->q6 w T bj aW a6 fu fE to fr most->h<=12->eM T.P h e_ dS no p L->(acc.length:Int)<most->acc.length+L.length<=40000->T.C.D.a7+2*p.length<=999999999->
 aI aj 217 #[.pointer (some T.bj),no,h,fE,.func (.func 218) #[] #[.pointer (some bj),.pointer (some aW),.pointer (some aR),.pointer (some a6)]] w (I6 lo aR T fr to most acc L p.length w):=by
 induction h with
 |zero=>intro w T lo aR bj aW a6 s fu fE acc L to fr most e_ dS no p _ _ _ _ z;exact z.elim
 |succ h bb=>
  intro w T lo aR bj aW a6 s fu fE acc L to fr most e_ dS no p aw b8 hf b9 z bc be bf;obtain⟨n,b_,ay,bg,az,rfl,bi⟩:=z.top;have bk:=z.eW.1;have aA:=aw.t;have ca:=cE.eK az (by have:=aA.po _ _ ay;omega);refine okF (ae.vj (some T.bj) (no:Nat) ((h+1:Nat):Int) fE ⟨218,#[],#[.pointer (some bj),.pointer (some aW),.pointer (some aR),.pointer (some a6)]⟩) ax.vj func217 ?_;(delta ae.vj k_ z4 Y ak aT r1 bX aG nc aq;dsimp only);rw[CU bg];refine(I5 aA I ay).use ?_;rintro _ w1 ⟨aJ,B,aB,aC,bm⟩;have cb:=aC.size;have aD:iG lo w1 (T.bC aJ T.P) aR s acc:=aw.of aB B.to (λ_ h=>h) aC λq bn bo=>bo.2 bn;have bp:=hf.go B.to;rcases bm with ⟨K,V,D,rfl,ej⟩|⟨rfl,U⟩
  rotate_left
  .refine⟨_,bJ,bJ,bJ,3,rfl,a8 (vs:=[false,(),(),()]) rfl λbq v W bs=>⟨v.cj rfl (fI (b:=iV.leaf) (K:=bJ) (V:=bJ) (D:=bJ)),rfl,cN v (us:=dY iV bJ bJ bJ) rfl rfl λE F X bt=>⟨λ_=>?_,λhx=>(by simp at hx)⟩⟩⟩
   have f:Ext w1 E:=Ext.cu W X (bl _);refine⟨_,s,acc,((B.trans (eN.ext _ f)).mono (by simp only[f_];omega)),aD.ext f,.inr ⟨rfl,λhc=>U (gf hc (by simp only[f_];omega))⟩⟩
  refine⟨_,K,V,D,0,rfl,a8 (vs:=[false,(),(),()]) rfl λbq v W bs=>⟨v.cj rfl fI,rfl,cN v (us:=dY n K V D) rfl rfl λE F X bt=>⟨λhx=>(by cases hx),λ_=>?_⟩⟩⟩;have f:Ext w1 E:=Ext.cu W X (bl _);obtain⟨nb,bu⟩:∃nb,nb=w1.heap.size:=⟨_,rfl⟩;rw[←bu]at F⊢;have aE:¬(T.bC aJ T.P).M nb:=λZ=>by have:=aB.lt Z;omega
  have bv:=aD.ext f;have aF:=bp.go (bS.ext _ f);have aL:bU (λq=>¬(T.bC aJ T.P).M q) E n K V D:=(ej.ext f).a_ λq _ c=>c.2;have cc:=f.size;obtain⟨bV,aU,ba,bh⟩:=bK F;refine⟨_,bV,K,aU,V,ba,D,bh,I7,?_⟩;refine(I2 (no:Nat) bv I aF aL az I bc I).use ?_;rintro _ G ⟨bY,s2,rfl,x,l⟩;have aa:=(B.trans (eN.ext _ f)).trans l;have aM:=aF.go l.to;have cd:=l.to.ah.size;have aO:acc.length<most.toNat:=by omega
  rcases bi with ⟨rfl,aP,rfl,rfl⟩|⟨g,rfl,ab,_,bw⟩
  .
   have y:n.leaf=true:=aP.leaf;have e:jV fr to most.toNat n acc n.dB=kQ fr to most.toNat acc n.dB:=by unfold jV;rw[if_pos y]
   have d:=Di (fr:=fr) (to:=to) aP.dB.1 aO;rw[e]at x⊢;refine⟨_,rfl,λc=>?_,λc=>⟨λ_=>?_,λhx=>?_⟩⟩
   .have c:(kQ fr to most.toNat acc n.dB).1=false:=by simpa using c
    refine⟨bY,s2,_,aa.mono (by simp),x,.inl ⟨false,rfl,?_⟩⟩;rw[c]at d;exact d
   .have c:(kQ fr to most.toNat acc n.dB).1=true:=by simpa using c
    refine⟨bY,s2,_,aa.mono (by simp),x,.inl ⟨true,rfl,?_⟩⟩;rw[c]at d;exact d
   .rw[y]at hx;cases hx
  .
   have y:n.leaf=false:=ab.inner;have e:jV fr to most.toNat n acc n.dB=(true,acc):=by unfold jV;rw[y];rfl
   rw[e]at x⊢;refine⟨true,rfl,λc=>(by cases c),λ_=>⟨λc=>(by rw[y]at c;cases c),λ_=>aX ?_⟩⟩;have ac:Ext G G.drew:=cA _;have aQ:Var G.drew nb (dY n K V D) 169:=(F.ah l.to.ah λZ=>aE (aK.gF Z)).drew;have ce:=(l.to.out (q:=nb) I aE).1;have af:bU (λq=>¬bY.M q) G.drew n K V D:=(l.to.iV aL).ext ac;have bx:=aM.go (bS.ext bY ac);obtain⟨d0,d1,d2,d3⟩:=bK aQ;refine⟨λ_=>False,id,D,d3,id,_,d0,K,d1,V,d2,D,d3,(oG af bx.zj ab.eW I).use ?_⟩;rintro _ bz ⟨rfl,H⟩;have cg:=vG n.keys fr;have ch:=af.kids.len;have ci:=ab.len;obtain⟨hW,eo,bd,bB,rfl,rfl,aS,bA⟩:=bw fr;have N:=ac.trans H;have bD:=aa.trans (eN.ext bY N);have bE:=x.ext N;have bF:=aM.go (bS.ext bY N);have ag:=af.ext H;have ck:=aQ.ext H;have cl:=N.size;have cm:n.kids.length<=100000:=by omega
   have cn:db n.keys fr<D.len:=by omega
   obtain⟨A,ar,co⟩:∃A,D.a=some A/\D.len<=D.cap:=by
    obtain⟨A,ar,_⟩:=cZ.at ag.kids (i:=0) I;exact⟨A,ar,ag.kids.2.1⟩
   refine⟨_,rfl,H,⟨I,I⟩,λi w'=>∃ (j:Nat) (cX:aK) (Q:ad) (mG:O aN) (m qr:O Nat) (o ai:O aN),i=(j:Int)/\j<=D.len-db n.keys fr/\iG lo w' cX aR Q mG/\eN T cX w w' (2+2*m.length)/\eN bY cX bz w' (2*m.length)/\Kids (λlo hi k p L=>eM T.P (g+1) lo hi k p L) (n.kids.drop (db n.keys fr+j)) qr ai/\eo=m++qr/\bB=o++ai/\hX fr to most.toNat acc o true mG,
    λi _=>((D.len:Int)-i).toNat,⟨0,bY,s2,acc,[],eo,[],bB,rfl,cP _,bE,bD.mono (by simp),.refl _ _,bA,rfl,rfl,.nil aO⟩,?_⟩
   rintro _ aV ⟨j,cX,Q,mG,m,qr,o,ai,rfl,cp,aY,r,R,S,rfl,rfl,d⟩;have bG:(((db n.keys fr:Nat):Int)).toNat=db n.keys fr:=di _;rw[bG];refine⟨λaH=>?_,λbH=>?_⟩
   rotate_left
   .
    have bI:j=D.len-db n.keys fr:=by
     have:¬(j:Int)<((D.len-db n.keys fr:Nat):Int):=cC bH;omega
    have hd:n.kids.drop (db n.keys fr+j)=[]:=ru I;rw[hd]at S
    cases S;refine⟨cX,Q,mG,r.mono (by simp only[ct,f_,k1];omega),aY,.inl ⟨true,rfl,.skip (Dp aS) ?_⟩⟩;rw[fx];exact d
   .have bI:j<D.len-db n.keys fr:=by
     have:(j:Int)<((D.len-db n.keys fr:Nat):Int):=cf aH;omega
    have aZ:db n.keys fr+j<n.kids.length:=by omega
    have bL:=R.to.iV ag;have bM:=bF.go R.to;have cq:=R.to.ah.size;obtain⟨cr,a0,c,al⟩:=cZ.at bL.kids aZ;rw[ar]at a0
    cases a0;obtain⟨u,a1⟩:∃u,u=n.kids[db n.keys fr+j]:=⟨_,rfl⟩;rw[←a1]at al;have bN:n.kids.drop (db n.keys fr+j)=u::n.kids.drop (db n.keys fr+j+1):=by rw[j0 aZ,a1]
    rw[bN]at S
    cases S with
    | @cons bO bP _ _ am bQ a2 bR bT bW=>
    have bZ:cX.P=T.P:=r.P;have b0:aV.cell? ((A.add (db n.keys fr)).add (Int.toNat (j:Int)*1))=some (.int .i64 (u:Int)):=by
     rw[di,fw,add_add];rw[di,fw]at al;exact al
    have b1:IntKind.wrap .i64 (((g+1+1:Nat):Int)-1)=((g+1:Nat):Int):=by rw[br I I];omega
    have b2:IntKind.wrap .i64 ((j:Int)+1)=((j+1:Nat):Int):=by rw[br I I];omega
    have b3:cX.bj=T.bj:=r.to.bj;simp only[f_,ct]at bf be;have b4:(mG.length:Int)<most/\mG.length<=acc.length+o.length:=by
     have b5:g1 o:=(sA.1 (sA.1 bk).2.1).1;refine⟨?_,d.len b5⟩;rcases d with ⟨_,_,a3⟩|⟨a3,_⟩
     .omega
     .cases a3
    have cs:=r.to.a7;have a4:=bb (w:=aV) (T:=cX) (lo:=lo) (aR:=aR) (bj:=bj) (aW:=aW) (a6:=a6) (s:=Q) (fu:=fu) (fE:=fE) (acc:=mG) (L:=a2) (to:=to) (fr:=fr) (most:=most) (e_:=bO) (dS:=bP) (no:=u) (p:=am) aY I bM I (by rw[bZ];exact bT) b4.1 I I;rw[b3]at a4;refine⟨A.add (db n.keys fr),by rw[ar];exact I8 I,⟨I,I⟩,u,b0,?_⟩;rw[b1,b2];refine a4.use ?_;rintro _ b6 ⟨jk,an,ao,a5,ap,b7⟩;have au:eN T jk w b6 (2+2*(m.length+am.length)):=(r.trans a5).mono I;rcases b7 with ⟨on,rfl,a9⟩|⟨rfl,U⟩
    .refine⟨on,0,rfl,λc=>?_,λc=>?_⟩
     .have c:on=false:=by simpa using c
      subst c;refine⟨jk,an,ao,au.mono (by simp only[ct,f_];omega),ap,.inl ⟨false,rfl,.skip (Dp aS) ?_⟩⟩;rw[←cB];exact(d.app a9).stop
     .have c:on=true:=by simpa using c
      subst c;refine⟨⟨j+1,jk,an,ao,m++am,bQ,o++a2,bR,rfl,I,ap,?_,?_,?_,by rw[cB],by rw[cB],d.app a9⟩,?_⟩
      .rw[ct];exact au
      .rw[ct];exact(R.trans a5).mono I
      .rw[←Nat.add_assoc];exact bW
      .show((D.len:Int)-((j+1:Nat):Int)).toNat<((D.len:Int)-(j:Int)).toNat
       omega
    .refine⟨false,3,rfl,λ_=>?_,λc=>(by simp at c)⟩
     refine⟨jk,an,ao,au.mono (by simp only[ct,f_];omega),ap,.inr ⟨rfl,λhc=>U (r.to.calm _ (gf hc (by simp only[ct,f_];omega)))⟩⟩
def I_(T:aK)(L:O aN)(fr to:Key)(most:Int)(a:Nat)(w:J)(v:aa)(w':J):Prop:=
 ∃au:aK,b7 w' au/\eN T au w w' (2*a)/\au.G=T.G/\
  ((∃s:ad,v=.tuple #[s,(0:Int)]/\fl (λq=>¬au.M q) w' s ((gT L fr to).take most.toNat))\/(v=.tuple #[(),(3:Int)]/\¬T.C.D.calm (2*a)))
theorem fl.none(B:Nat->Prop)(w:J):fl B w ⟨.none,0,0⟩ []:=(kR.none B w).r λq a=>(fV q a).elim
theorem eN.back{T au:aK}{w w':J}{k:Nat}(ht:b7 w T)(h:eN T au w w' k)(b:b7 w' au):b7 w' (au.cv T.E T.G)/\eN T (au.cv T.E T.G) w w' k:=
 ⟨b.grow (W:=λ_=>False) (af.refl _ _) (λ_ h=>h.elim) (λq a=>.inl (by rw[h.E];exact a)) (λq a=>.inr (.inl (h.G q a))) λq a=>(ht.dU q a).2.2,
  h.to.step (W:=λ_=>False) (af.refl _ _) (λ_ h=>h.elim) (λq a=>.inl (by rw[h.E];exact a)) (λq a=>.inl (h.G q a)),rfl,λ_ h=>h,h.root,h.aL,h.f,h.P,h.view⟩
theorem Ja{w:J}{T:aK}{pages:O Nat}{L:O aN}{fE fu:ad}{fr to:Key}{most:Int}(h:b7 w T)(H:gL T pages L)(cU:L.length<=30000)(an:T.C.D.a7+2*pages.length<=999999999)
 (hf:Src 1 w fE (az fr)) (u:∀q,aB fE q->q<w.heap.size/\¬T.M q) (ht:Src 1 w fu (az to)) (x:∀q,aB fu q->q<w.heap.size/\¬T.M q) (aS:to.length<=1000000):
 aI aj 169 #[.pointer (some T.bj),fE,fu,most] w (I_ T L fr to most pages.length w):=by
 have ao:=h.num.2.1;refine okF (ae.u9 (some T.bj) fE fu most) ax.u9 func169 ?_;(delta ae.u9 ak aG Y r1 nc;dsimp only);refine a8 (vs:=[fE]) rfl λw1 K N aT=>a8 (vs:=[fu]) rfl λai Q y aU=>a8 (vs:=[most]) rfl λR z o aV=>⟨λh=>(by cases h),λ_=>?_⟩;have A:=(N.trans y).trans o;have S:=h.ext A;refine⟨_,rfl,_,S.cells.2.2.2.2,cw (λb w'=>b=decide (T.aL=0\/most<1)/\R=w') (λq c=>⟨λd=>c _ _ ⟨?_,rfl⟩,λd=>⟨_,z.cell,c _ _ ⟨?_,rfl⟩⟩⟩) ?_⟩
 .have:T.aL=0:=by simpa using d
  simp[this]
 .have:T.aL≠0:=by simpa using d
  simp[this]
 rintro _ _ ⟨rfl,rfl⟩;refine⟨λd=>?_,λd=>?_⟩
 .have d:=cf d
  have e:(gT L fr to).take most.toNat=[]:=by
   rcases d with d|d
   .rcases H with ⟨_,_,_,ap⟩|g
    .rw[ap];simp[gT]
    .rw[d]at g;exact g.elim
   .have:most.toNat=0:=by omega
    rw[this,List.take_zero]
  refine⟨T,S,(eN.ext T A).mono I,rfl,.inl ⟨⟨none,0,0⟩,rfl,?_⟩⟩;rw[e];exact fl.none _ _
 have d:=cC d;have g:eM T.P T.aL none none T.root pages L:=by
  rcases H with ⟨aq,_⟩|g
  .exact absurd (.inl aq) d
  .exact g
 refine a8 (vs:=[()]) rfl λB U l aY=>aX ?_;have i:Ext B B.drew:=cA _;obtain⟨k,ar⟩:∃k,k=B.drew:=⟨_,rfl⟩;rw[←ar]at i⊢;obtain⟨aR,V⟩:∃aR,aR=R.heap.size:=⟨_,rfl⟩;obtain⟨aW,X⟩:∃aW,aW=w.heap.size:=⟨_,rfl⟩;obtain⟨bj,Z⟩:∃bj,bj=w1.heap.size:=⟨_,rfl⟩;obtain⟨a6,aa⟩:∃a6,a6=ai.heap.size:=⟨_,rfl⟩;rw[←V]at U;rw[←X]at K;rw[←Z]at Q;rw[←aa]at z;rw[←V,←X,←Z,←aa];have m:=(A.trans l).trans i;have aZ:=N.size;have a0:=y.size;have a1:=o.size;have a2:=l.size;have a3:=i.size;have ab:=U.ext i;have a4:=ab.lt;have F:∀q,w.heap.size<=q->¬T.M q:=λq c a=>by have:=h.lt a;omega
 obtain⟨bP,j⟩:∃bP,bP=T.cv T.E λq=>T.G q\/q=aR:=⟨_,rfl⟩;have av:b7 k bP:=by
  rw[j];refine h.grow (W:=λ_=>False) m (λ_ h=>h.elim) (λq c=>.inl c) (λq c=>.inr (c.imp id λe=>⟨I,I⟩)) λq c hg=>?_;rcases hg with hg|hg
  .exact(h.dU q c).2.2 hg
  .have:=h.lt (q:=q) (.inr (.inr (.inr (.inl c))));omega
 have aA:eN T bP w k 0:=by
  rw[j];exact⟨(bS.refl T w).step (W:=λ_=>False) m (λ_ h=>h.elim) (λq c=>.inl c) λq c=>c.imp id λe=>I,rfl,λ_ h=>.inl h,rfl,rfl,rfl,rfl,λ_=>rfl⟩
 have n:∀q,¬T.M q->q≠aR->¬bP.M q:=λq c aC a=>by
  rw[j]at a;rcases a with a|a|a|a|a
  .exact c (.inl a)
  .exact c (.inr (.inl a))
  .exact c (.inr (.inr (.inl a)))
  .exact c (.inr (.inr (.inr (.inl a))))
  .rcases a with a|a
   .exact c (.inr (.inr (.inr (.inr a))))
   .exact aC a
 have aD:bP.bj=T.bj:=by rw[j];rfl
 have ac:bP.C=T.C:=by rw[j];rfl
 have aE:bP.P=T.P:=by rw[j];rfl
 have aF:iG w.heap.size k bP aR ⟨none,0,0⟩ []:=⟨av,ab,kR.none _ _,by rw[j];exact .inr rfl,λq c=>(fV q c).elim⟩;have ag:q6 k bP bj aW a6 fu fE to fr most:=⟨(((Q.ext o).ext l).ext i),((((K.ext y).ext o).ext l).ext i),((z.ext l).ext i),n _ (F _ I) I,n _ (F _ I) I,n _ (F _ I) I,
  ht.ext m,hf.ext m,λq c=>⟨by have:=(x q c).1;omega,n q (x q c).2 (by have:=(x q c).1;omega)⟩,λq c=>⟨by have:=(u q c).1;omega,n q (u q c).2 (by have:=(u q c).1;omega)⟩,I⟩
 have ah:=I9 T.aL (acc:=[]) (no:=T.root) (L:=L) (p:=pages) (e_:=none) (dS:=none) aF I ag ao (by rw[aE];exact g) (by show(((([]:O aN).length:Nat)):Int)<most;simp only[k1];omega) (by simp only[k1];omega) (by rw[ac];exact an);rw[aD]at ah;have al:=h.ext m;refine⟨λ_=>False,_,rfl,id,_,al.cells.2.2.2.1,_,rfl,id,_,al.cells.2.2.2.2,id,_,ag.wF.cell,af.refl _ _,ah.use ?_⟩;rintro _ aH ⟨au,am,a5,aJ,f,aM⟩;have s:eN T au w aH (2*pages.length):=(aA.trans aJ).mono I;obtain⟨cy,b4⟩:=s.back h f.t;rcases aM with ⟨on,rfl,aO⟩|⟨rfl,aP⟩
 .refine⟨on,0,rfl,λhx=>(by cases hx),λ_=>⟨am,f.v.cell,_,cy,b4,rfl,.inl ⟨am,rfl,?_⟩⟩⟩
  have he:=aO.all g.eW.1;rw[←he];have aQ:∀q,¬au.M q->¬(au.cv T.E T.G).M q:=λq c a=>c (by
   rcases a with a|a|a|a|a
   .exact .inl a
   .exact .inr (.inl a)
   .exact .inr (.inr (.inl a))
   .exact .inr (.inr (.inr (.inl (by rw[s.E];exact a))))
   .exact .inr (.inr (.inr (.inr (s.G q a)))))
  refine(f.own.a_ λq _ c=>aQ q c).r λq c a=>?_;obtain⟨aw,ay,a9⟩:=f.gs q c;rcases a with a|a|a|a|a
  .exact f.t.wu aw a
  .exact(f.t.js q aw).1 a
  .exact(f.t.js q aw).2 a
  .exact(f.t.dU q (by rw[s.E];exact a)).2.2 aw
  .have:=h.lt (q:=q) (.inr (.inr (.inr (.inr a))));omega
 .exact⟨false,3,rfl,λ_=>⟨_,cy,b4,rfl,.inr ⟨rfl,by rw[←ac];exact aP⟩⟩,λhx=>(by simp at hx)⟩
theorem Dr{w:J}{T:aK}(h:b7 w T):aI aj 128 #[.pointer (some T.bj)] w (λv w'=>v=.tuple #[T.root,T.aL]/\Ext w w'):=by
 refine okF (ae.u5 (some T.bj)) ax.u5 func128 ?_;(delta ae.u5 ak aG;dsimp only);have hd:=h.ext (cA w);exact⟨λh=>(by cases h),λ_=>aX ⟨_,rfl,id,_,hd.cells.2.2.2.1,_,rfl,id,_,hd.cells.2.2.2.2,rfl,cA w⟩⟩
theorem wG{w:J}{s:ad}{l:O UInt8}(h:Src 1 w s (az l)){i:Nat}(hi:i<l.length):∃A:ag,s.a=some A/\((0:Int)<=(i:Int)/\(i:Int)<(s.len:Int))/\w.cell? (A.add (Int.toNat (i:Int)*1))=some (.int .u8 ((l[i].toNat:Nat):Int)):=by
 obtain⟨A,ar,b,hc⟩:=h.at (i:=i) (v:=.int .u8 ((l[i].toNat:Nat):Int)) (by simp[az,hi]);exact⟨A,ar,b,hc⟩
theorem qD{w:J}{s t:ad}{a b:Key}(hs:Src 1 w s (az a))(ht:Src 1 w t (az b))(M:a.length<=1000000)(N:b.length<=1000000):
 aI aj 100 #[s,t] w (λv w'=>∃n:Int,v=n/\(n<0↔bt a b)/\Ext w w'):=by
 have h1:=len8 hs;have h2:=len8 ht;refine okF (ae.qD s t) ax.qD func100 ?_;(delta ae.qD ak aP du aq;dsimp only);refine⟨λn w'=>∃i:Nat,n=(i:Int)/\i<=a.length/\i<=b.length/\dL a b=dL (a.drop i) (b.drop i)/\Ext w w',λn _=>((a.length:Int)-n).toNat,⟨0,rfl,cP _,cP _,rfl,.refl _ _⟩,?_⟩;rintro _ l ⟨i,rfl,O,P,hc,hx⟩;refine⟨λaH=>?_,λm=>?_⟩
 .rw[c5,cp,cp]at aH
  have d:i<a.length:=by omega
  have f:i<b.length:=by omega
  have c:=Ext.trans hx (cA l);obtain⟨A,ar,o,p⟩:=wG (hs.ext c) d;obtain⟨B,q,r,u⟩:=wG (ht.ext c) f;rw[j0 d,j0 f]at hc;have Q:=lA a[i];have R:=lA b[i];refine aX ⟨A,ar,o,id,_,p,B,q,r,id,_,u,λg=>?_,λx=>?_⟩
  .have g:a[i].toNat≠b[i].toNat:=λe=>by rw[e]at g;simp at g
   have j:=Ext.trans c (cA _);obtain⟨y,z,C,D⟩:=wG (hs.ext j) d;obtain⟨E,F,G,H⟩:=wG (ht.ext j) f;refine aX ⟨y,z,C,id,_,D,E,F,G,id,_,H,_,rfl,?_,j⟩;rw[br (n:=((a[i].toNat:Nat):Int)) I I,br (n:=((b[i].toNat:Nat):Int)) I I,br I I];unfold bt;rw[hc];unfold dL;rcases ei a[i].toNat b[i].toNat with h|h
   .rw[if_pos h]
    exact⟨λ_=>by decide,λ_=>I⟩
   .rw[if_neg I,if_pos I]
    exact⟨λ_=>I,λh=>absurd h (by decide)⟩
  .have he:a[i]=b[i]:=by
    have:((a[i].toNat:Nat):Int)=((b[i].toNat:Nat):Int):=by simpa using x
    exact rj.1 I
   have K:IntKind.wrap .i64 ((i:Int)+1)=((i+1:Nat):Int):=by rw[br I I];omega
   rw[K];refine⟨⟨i+1,rfl,I,I,?_,c⟩,by show((a.length:Int)-((i+1:Nat):Int)).toNat<((a.length:Int)-(i:Int)).toNat;omega⟩;rw[hc]
   conv=>lhs;unfold dL
   rw[he,if_neg (by simp),if_neg (by simp)]
 .have S:a.length=i\/b.length=i:=by
   rw[Bool.and_eq_false_iff,jY,jY]at m;omega
  rw[br I I];refine⟨_,rfl,?_,hx⟩;unfold bt;rw[hc];rcases ei i a.length with h|h
  .rw[j0 h,ru (show b.length<=i from I)]
   exact⟨λL=>by exfalso;omega,λh=>absurd h (show¬((1:Int)<0) by decide)⟩
  .rw[ru (show a.length<=i from I)]
   rcases ei i b.length with k|k
   .rw[j0 k]
    exact⟨λ_=>show((-1:Int)<0) by decide,λ_=>I⟩
   .rw[ru (show b.length<=i from I)]
    exact⟨λL=>by exfalso;omega,λh=>absurd h (show¬((0:Int)<0) by decide)⟩
theorem sV{α:Type}{c:α->O aa}{sz:Nat}:∀ (l:O α) (i:Nat),(∀x∈l,(c x).length=sz)->(bz c l).take (i*sz)=bz c (l.take i)/\(bz c l).drop (i*sz)=bz c (l.drop i)
 |l,0,_=>by simp[bz]
 | [],i+1,_=>by simp[bz]
 |x::l,i+1,h=>by
  obtain⟨h1,h2⟩:=sV l i λy a=>h y (by simp[a])
  have hx:=h x (by simp)
  have e:(i+1)*sz=(c x).length+i*sz:=by rw[jc,hx];omega
  rw[qV,e,List.take_length_add_append,List.drop_length_add_append,h1,h2]
  exact⟨rfl,rfl⟩
theorem Jb(l:O (ad×ad)):(bz ju l).length=l.length*2:=fD _ (pq l)
section
variable {B C W:Nat->Prop}{w w':J}{s:ad}{ps KF:O (ad×ad)}{L M:O aN}
theorem iF.take(h:iF B w ps L)(i:Nat):iF B w (ps.take i) (L.take i):=by
 refine⟨by simp[h.1],λj aw ay=>?_⟩;simp only[mW];exact h.2 _ (by rw[cG]at aw;omega) (by rw[cG]at ay;omega)
variable {KG:O aa}{KH:TypeId}{a6:Nat}{key val:Key}{tk cQ:ad}
theorem Ds(h:fl B w s L){i:Nat}(hi:i<L.length):∃ (A:ag) (tk cQ:ad),s.a=some A/\((0:Int)<=(i:Int)/\(i:Int)<(s.len:Int))/\w.cell? (A.add (Int.toNat (i:Int)*2))=some (.slice tk.a tk.len tk.cap)/\w.cell? ((A.add (Int.toNat (i:Int)*2)).add 1)=some (.slice cQ.a cQ.len cQ.cap)/\
 bw B w tk L[i].1/\bw B w cQ L[i].2:=by
 obtain⟨A,tk,cQ,h1,_,b,c,d,e,f⟩:=h.at hi;rw[di];exact⟨A,tk,cQ,h1,b,c,d,e,f⟩
theorem Src.Jc(h:Src 2 w s (bz ju ps))(hc:s.len<=s.cap){lo hi:Nat}(h1:lo<=hi)(h2:hi<=ps.length):Src 2 w ⟨aY s.a 2 lo s.cap,hi-lo,s.cap-lo⟩ (bz ju ((ps.drop lo).take (hi-lo))):=by
 have b:=h.len;rw[Jb]at b;have:=Src.cut h hc h1 (hi:=hi) I;rw[(sV ps lo (pq ps)).2,(sV (ps.drop lo) (hi-lo) (pq _)).1]at this;exact this
end
def zk(n:Nat)(root aL:Int):Prop:=0<=aL/\aL<=12/\0<=root/\root<n/\(root=0↔aL=0)
theorem qn{w:J}{C:b3}(hc:fb w C)(sb:Nat)(gen root aL:Int):
 aI aj 121 #[.pointer (some C.c),.pointer (some sb),.int .u64 gen,root,aL] w (λv w'=>
  (zk C.D.n root aL/\v=.tuple #[.pointer (some w.heap.size),(0:Int)]/\Ext w w'/\Var w' w.heap.size [.pointer (some C.c),.pointer (some sb),.int .u64 gen,root,aL] 243/\w'.heap.size=w.heap.size+1)\/
  (¬zk C.D.n root aL/\v=.tuple #[.pointer none,(1:Int)]/\w=w')):=by
 refine okF (ae.qn (some C.c) (some sb) gen root aL) ax.qn func121 ?_;delta ae.qn ak bX Y;refine cw (λb w'=>(b=false↔(0<=aL/\aL<=12/\0<=root/\root<C.D.n))/\w=w') (λq g=>⟨λh1=>g _ _ ⟨?_,rfl⟩,λh1=>⟨_,rfl,_,hc.cells.1,(we hc.dev).use ?_⟩⟩) ?_
 .simp only[Option.isNone_some,mP,jb,cp]at h1
  exact⟨λh=>(by cases h),λh=>I⟩
 .rintro _ _ ⟨rfl,rfl⟩
  simp only[Option.isNone_some,mP,rh,jY]at h1;refine⟨_,rfl,g _ _ ⟨?_,rfl⟩⟩;rw[jY];omega
 rintro b _ ⟨i,rfl⟩;refine⟨λh1=>.inr ⟨λhg=>?_,rfl,rfl⟩,λh1=>?_⟩
 .have h2:=i.2 ⟨hg.1,hg.2.1,hg.2.2.1,hg.2.2.2.1⟩
  rw[h2,mP]at h1;have d:=hg.2.2.2.2;by_cases a:root=0
  .rw[a,d.1 a]at h1;simp at h1
  .have f:aL≠0:=λe=>a (d.2 e)
   have j:(root==0)=false:=by simpa using a
   have k:(aL==0)=false:=by simpa using f
   rw[j,k]at h1
   cases h1
 .rw[rh]at h1
  have h2:=i.1 h1.1;have d:root=0↔aL=0:=by
   have a:=h1.2;by_cases f:root=0<;>by_cases l:aL=0<;>simp[f,l]at a⊢
  refine a8 (vs:=[.pointer (some C.c),.pointer (some sb),.int .u64 gen,root,aL]) rfl λo m hx hs=>.inl ⟨⟨h2.1,h2.2.1,h2.2.2.1,h2.2.2.2,d⟩,rfl,hx,m,hs⟩
theorem gL.rising{T:aK}{pages:O Nat}{L:O aN}(h:gL T pages L):g1 L:=by
 rcases h with ⟨_,_,_,a⟩|b
 .rw[a];exact List.Pairwise.nil
 .exact b.eW.1
section
variable {w0 w w':J}{jQ a6:Nat}{T au:aK}{r h k:Nat}{pages:O Nat}{L lr:O aN}{ms:ad}
theorem b7.jv{kP:Nat}(ht:b7 w T)(a:T.E kP)(hc:af (λq=>q=kP) w w'):b7 w' T:=
 ht.grow (E:=T.E) (G:=T.G) hc (λq e _=>.inl (by rw[e];exact a)) (λq a=>.inl a) (λq a=>.inr (.inl a)) λq a=>(ht.dU q a).2.2
end
def aK.zl(T:aK)(f g:Nat->al)(s1 s2:ad):aK:={T with f:=f,g:=g,s1:=s1,s2:=s2}
section
variable {w0 w w':J}{jQ a6:Nat}{T au:aK}{r h k:Nat}{pages:O Nat}{L lr:O aN}{ms:ad}
theorem b7.space{f g:Nat->al}{s1 s2:ad}(ht:b7 w T)(hs:fk w' T.sb T.n f g s1 s2)(hc:af (gE T.sb T.s1 T.s2) w w')(hf:∀k,gE T.sb s1 s2 k->gE T.sb T.s1 T.s2 k\/w.heap.size<=k)(d:∀j,T.C.D.b6 j=true->g j=true\/T.C.D.ro)(e:g 0=true/\g 1=true):
 b7 w' (T.zl f g s1 s2)/\∀q,(T.zl f g s1 s2).M q->T.M q\/w.heap.size<=q:=by
 have c:∀q,T.X q->¬gE T.sb T.s1 T.s2 q->¬gE T.sb s1 s2 q:=λq hx a h2=>by
  rcases hf q h2 with b|b
  .exact a b
  .have:=ht.lt (q:=q) (.inr hx);omega
 refine⟨⟨ht.t.ah hc ht.kq,hs,ht.ca.grow hc (λq a _=>.inr (.inl a)) λq a=>?_,c _ (.inl rfl) ht.kq,λq a=>⟨(ht.dU q a).1,c q (.inr (.inr (.inl a))) (ht.dU q a).2.1,(ht.dU q a).2.2⟩,λq a=>⟨(ht.js q a).1,c q (.inr (.inr (.inr a))) (ht.js q a).2⟩,ht.n,ht.num,ht.eT,d,e⟩,λq a=>?_⟩
 .rcases a with a|a|a|a
  .exact .inl (.inl a)
  .rcases hf q a with b|b
   .exact .inl (.inr (.inl b))
   .exact .inr ⟨b,hs.lt q a⟩
  .exact .inl (.inr (.inr (.inl a)))
  .exact .inl (.inr (.inr (.inr a)))
 .rcases a with a|a|a|a|a
  .exact .inl (.inl a)
  .exact .inl (.inr (.inl a))
  .exact(hf q a).imp (λh=>.inr (.inr (.inl h))) id
  .exact .inl (.inr (.inr (.inr (.inl a))))
  .exact .inl (.inr (.inr (.inr (.inr a))))
theorem gL.agree{p:O Nat}(a:gL T p L)(b:au.root=T.root)(c:au.aL=T.aL)(d:∀x∈p,T.P x=au.P x):gL au p L:=by
 unfold gL at a⊢;rw[b,c];exact a.imp id λe=>(e.agree d).1
end
theorem Jd{i n m:Nat}{a:Nat}(b:n=a)(h:(decide ((i:Int)<(n:Int))&&decide ((i:Int)<(m:Int)))=true):i<a/\i<m:=by
 rw[c5,cp,cp]at h;omega
theorem mH{i:Nat}(h:i<=1000000):IntKind.wrap .i64 ((i:Int)+1)=((i+1:Nat):Int):=by rw[br I I];omega
section
variable {w0 w w':J}{jQ a6:Nat}{T au:aK}{r h k c:Nat}{pages aM:O Nat}{L lr bQ:O aN}{V:Nat->de}{ms l:ad}
end
section
variable {w0 w w':J}{jQ a6:Nat}{T au:aK}{r h k c:Nat}{pages aM:O Nat}{L lr bQ:O aN}{V:Nat->de}{ms l:ad}
theorem Je(w:J):Src 1 w bJ (az []):=(aV.none 1 5 w).src
end
theorem Dt:∀ {a b:O Nat},a.Nodup->(∀x∈a,x∈b)->a.length<=b.length
 | [],_,_,_=>cP _
 |x::a,b,d,hs=>by
  obtain⟨h1,h2⟩:=List.nodup_cons.1 d
  have hx:=hs x (by simp)
  have:=Dt (a:=a) (b:=b.erase x) h2 λy c=>(List.mem_erase_of_ne (λe=>h1 (by rw[←e];exact c))).2 (hs y (jC _ c))
  rw[List.length_erase_of_mem hx]at this
  have:=List.length_pos_of_mem hx
  rw[f_];omega
theorem Jf{t:Nat->al}{l:O Nat}(n:Nat)(h:∀i,i<n->t i=true->i∈l):eS t n<=l.length:=by
 have h1:∀n,eS t n=((List.range n).filter t).length:=by
  intro n
  induction n with
  |zero=>rfl
  |succ n a=>
   rw[List.range_succ,gN,ct,eS,a,jF,List.filter_nil]
   cases t n<;>rfl
 rw[h1];refine Dt (List.nodup_range.filter t) λx hx=>?_;rw[gi,jZ]at hx;exact h x hx.1 hx.2
section
variable {α:Type}{P:Program}{w w':J}{hC lG T:TypeId}{enc:α->aa}{r m:Nat}{L:O (α×aa×Nat)}{seen:O Nat}
structure kS(w:J)(r m:Nat)(enc:α->aa)(L:O (α×aa×Nat))(seen:O Nat):Prop where
 it:∃a:Nat,w.heap[r]? =some (.mapIter (some m) a seen.toArray a)/\w.heap[m]? =some (.map (L.map (en enc)).toArray a)/\∀x∈L,x.2.2<a
 cg:(L.map (·.2.2)).Nodup
def gh(L:O (α×aa×Nat))(seen:O Nat):O (α×aa×Nat):=L.filter λx=> !seen.contains x.2.2
theorem Du(P:Program){n:Nat}(b:1<=n)(w:J):∃ (i:Nat) (w':J),i<n/\(choose (.mapNext n)).run P w=.ok i w'/\(w'=w\/w'=w.drew):=by
 by_cases h:n<=1
 .refine⟨0,w,I,?_,.inl rfl⟩
  show Sem.run P (.choose (.mapNext n) .pure) w=_;have a:(Question.mapNext n).forced=true:=by simp[Question.forced,h]
  simp only[Sem.run,a,if_true]
 .refine⟨(Question.mapNext n).cut (w.tape w.drawn (.mapNext n)),w.drew,g8 _ I,?_,.inr rfl⟩
  show Sem.run P (.choose (.mapNext n) .pure) w=_;have a:(Question.mapNext n).forced=false:=by simp[Question.forced,h]
  simp only[Sem.run,a,fU,if_false];rfl
theorem zm{a:av Nat}{b d:Nat}{c:Array Nat}(h:w.heap[r]? =some (.mapIter a b c d)):(getObj r).run P w=.ok (.mapIter a b c d) w:=by simp[getObj,Sem.run,h]
theorem Jg{a:av Nat}{b d:Nat}{c:Array Nat}(h:w.heap[r]? =some (.mapIter a b c d))(e:Obj):(setObj r e).run P w=.ok () (ix w r e):=by simp[setObj,Sem.run,h,ix]
theorem kS.begin{M:O (α×aa)}(h:eF w m enc M){T:TypeId}{hC lG:TypeId}(b:P.underlying T=some (.map hC lG)):∃ (L:O (α×aa×Nat)) (w1:J),(L.map mj).Perm M/\(Instr.range T (.map (some m))).run P w=.ok (.pointer (some w.heap.size)) w1/\kS w1 w.heap.size m enc L []/\Ext w w1/\w1.heap.size=w.heap.size+1:=by
 have aH:=h.lt;obtain⟨L,a,h1,h2,e,c,d⟩:=h;refine⟨L,w.alloc (.mapIter (some m) a #[] a),h2,?_,⟨⟨a,?_,?_,d⟩,c⟩,af.alloc (.refl _ _) _,by simp⟩
 .simp only[Instr.range,Sem.run_bind,c2 b,Result.andThen,mm h1,Sem.run_pure,newObj,Sem.run]
  rfl
 .show(w.heap.push _)[w.heap.size]? =_
  simp
 .show(w.heap.push _)[m]? =_
  rw[Array.getElem?_push_lt aH];exact(Array.getElem?_eq_getElem aH).symm.trans h1
theorem kS.next(h:kS w r m enc L seen)(E:r≠m)(T:TypeId):
 (gh L seen=[]/\∃w1,(Instr.next (.pointer (some r)) false T).run P w=.ok (.tuple #[false]) w1/\Ext w w1/\w1.heap=w.heap)\/
 (∃x∈gh L seen,∃w1,(Instr.next (.pointer (some r)) false T).run P w=.ok (.tuple #[true,enc x.1,x.2.1]) w1/\kS w1 r m enc L (seen++ [x.2.2])/\af (λq=>q=r) w w1/\w1.heap.size=w.heap.size/\(Instr.entry (.pointer (some r))).run P w1=.ok (.tuple #[enc x.1,x.2.1]) w1):=by
 obtain⟨⟨a,h1,h2,d⟩,j⟩:=h;have k:(!seen.toArray.isEmpty&& !((L.map (en enc)).toArray).isEmpty&&((L.map (en enc)).toArray).all λe=>decide (e.born>=a))=false:=by
  cases L with
  |nil=>simp
  |cons x L=>
   have:¬a<=x.2.2:=by have:=d x (by simp);omega
   simp[en,this]
 have f:((L.map (en enc)).toArray.filter λe=> !seen.toArray.contains e.born)=((gh L seen).map (en enc)).toArray:=by
  rw[List.filter_toArray,List.filter_map]
  congr 1
  unfold gh
  congr 1
  apply n0;intro x _;simp only[Function.comp,en,List.contains_toArray]
 have aH:∀x∈gh L seen,x.2.2<a:=λx hx=>d x (gi.1 hx).1;have hold:(((gh L seen).map (en enc)).toArray.filter λe=>decide (e.born<a))=((gh L seen).map (en enc)).toArray:=by
  rw[List.filter_toArray,il.2];intro e he;obtain⟨x,hx,rfl⟩:=fF.1 he;exact dI (aH x hx)
 have g:(((gh L seen).map (en enc)).toArray.filter λe=>decide (e.born>=a))= #[]:=by
  rw[List.filter_toArray,lB.2];intro e he;obtain⟨x,hx,rfl⟩:=fF.1 he;have:=aH x hx;have F:¬a<=x.2.2:=by omega
  simp[en,F]
 cases b:gh L seen with
 |nil=>
  rw[b]at f hold g;obtain⟨i,w1,hi,hc,c⟩:=Du P (n:=1) (bl _) w;have G:i=0:=by omega
  subst G;refine .inl ⟨rfl,w1,?_,?_,?_⟩
  .simp only[Instr.next,Sem.run_bind,zm h1,Result.andThen,mm h2,k,fU,if_false,f,hold,g]
   simp only[List.map_nil,Array.isEmpty,th,k1,decide_true,if_true];have e:(#[none]++((#[]:Array MapEntry)++ #[]).map some:Array (av MapEntry)).size=1:=by simp
   have o:((#[none]++((#[]:Array MapEntry)++ #[]).map some:Array (av MapEntry)))[0]? =some none:=by simp
   simp only[e,Sem.run_bind,hc,Result.andThen,o,Sem.run_pure,Sem.run_pure]
  .rcases c with rfl|rfl
   .exact .refl _ _
   .exact af.drew (.refl _ _)
  .rcases c with rfl|rfl<;>rfl
 |cons y l=>
  right;rw[←b];have v:1<=(gh L seen).length:=by rw[b];simp
  obtain⟨i,w1,hi,hc,c⟩:=Du P (n:=(gh L seen).length) v w;have p:w1.heap=w.heap:=by rcases c with rfl|rfl<;>rfl
  obtain⟨x,hx⟩:∃x,x=(gh L seen)[i]:=⟨_,rfl⟩;have s:x∈gh L seen:=by rw[hx];exact cL _
  have A:x∈L:=(gi.1 s).1;have B:w1.heap[r]? =some (.mapIter (some m) a seen.toArray a):=by rw[p];exact h1
  have H:r<w1.heap.size:=(lz.1 B).1;have t:(ix w1 r (.mapIter (some m) a (seen.toArray.push x.2.2) a)).heap[r]? =some (.mapIter (some m) a (seen++ [x.2.2]).toArray a):=by
   rw[tR H];simp
  have u:(ix w1 r (.mapIter (some m) a (seen.toArray.push x.2.2) a)).heap[m]? =some (.map (L.map (en enc)).toArray a):=by
   have C:w1.heap[m]? =some (.map (L.map (en enc)).toArray a):=by rw[p];exact h2
   rw[(rW w1 r _).block m (lz.1 C).1 (λe=>E e.symm)];exact C
  refine⟨x,s,ix w1 r (.mapIter (some m) a (seen.toArray.push x.2.2) a),?_,⟨⟨a,t,u,d⟩,j⟩,?_,?_,?_⟩
  .simp only[Instr.next,Sem.run_bind,zm h1,Result.andThen,mm h2,k,fU,if_false,f,hold,g]
   have I:((gh L seen).map (en enc)).toArray.isEmpty=false:=by rw[b];rfl
   have e:((#[]:Array (av MapEntry))++(((gh L seen).map (en enc)).toArray++ #[]).map some).size=(gh L seen).length:=by simp
   have o:((#[]:Array (av MapEntry))++(((gh L seen).map (en enc)).toArray++ #[]).map some)[i]? =some (some (en enc x)):=by
    simp[hi,hx]
   simp only[I,fU,if_false,e,Sem.run_bind,hc,Result.andThen,o,Jg B,Sem.run_pure,en]
  .have J:af (λq=>q=r) w w1:=by
    rcases c with rfl|rfl
    .exact .refl _ _
    .exact af.drew (.refl _ _)
   exact J.trans (rW _ _ _)
  .rw[tQ,p]
  .have K:(seen++ [x.2.2]).toArray.back? =some x.2.2:=by simp
   have hf:((L.map (en enc)).toArray.find? λe=>e.born==x.2.2)=some (en enc x):=by
    rw[List.find?_toArray,List.find?_map];have:L.find? ((λe:MapEntry=>e.born==x.2.2)∘en enc)=some x:=by
     clear b v hi hc s hx t u f hold g aH k h2 d
     induction L with
     |nil=>cases A
     |cons z L M=>
      rw[g9]at j;obtain⟨b_,bu⟩:=List.nodup_cons.1 j;rw[List.find?_cons];rcases cY.1 A with rfl|D
      .simp[en]
      .have N:z.2.2≠x.2.2:=λe=>b_ (by rw[e];exact fF.2 ⟨x,D,rfl⟩)
       have:((λe:MapEntry=>e.born==x.2.2)∘en enc) z=false:=by simp[en,N]
       rw[this];exact M bu D
    rw[this];rfl
   have O:(a !=a)=false:=by simp
   simp only[Instr.entry,Sem.run_bind,zm t,Result.andThen,K,mm u,O,fU,if_false,hf,Sem.run_pure,en]
theorem eF.clear{M:O (α×aa)}(h:eF w m enc M){o:TypeId}(b:P.underlying T=some (.map hC lG)):∃w1,(Builtin.clear_ #[T] o #[.map (some m)]).run P w=.ok (.tuple #[]) w1/\eF w1 m enc ([]:O (α×aa))/\af (λq=>q=m) w w1/\w1.heap.size=w.heap.size:=by
 have aH:=h.lt;obtain⟨L,a,h1,h2,c,d,e⟩:=h;refine⟨ix w m (.map #[] a),?_,⟨[],a,tR aH _,by simp,by simp,by simp,by simp⟩,rW _ _ _,tQ _ _ _⟩;unfold Builtin.clear_;simp only[ri,mO,Sem.run_bind,c2 b,Result.andThen,mm h1,xz h1,Sem.run_pure]
end
theorem Jh{w:J}{lb:Nat}{ls:O de}{T:TypeId}(h:bp w lb (bz az ls).toArray T)(hs:∀x∈ls,x.length=256){i:Nat}(hi:i<ls.length){x:de}(hx:x.length=256):
 bD w ⟨lb,i*256,none⟩ (az x)/\bp (setCells w ⟨lb,i*256,none⟩ 0 (az x)) lb (bz az (ls.set i x)).toArray T/\af (λq=>q=lb) w (setCells w ⟨lb,i*256,none⟩ 0 (az x)):=by
 have a:∀x∈ls,(az x).length=256:=λx hx=>by rw[c7];exact hs x hx
 have f:=fD (c:=az) ls a;have b:(az x).length=256:=by rw[c7];exact hx
 have d:i*256+(az x).length<=(bz az ls).toArray.size:=by
  rw[th,f,b];omega
 refine⟨bp.cj h _ _ d (iS _),?_,af.jK (.refl _ _) _ 0⟩;have h0:=bp.k9 (o:=i*256) h (az x);have h1:=k8 (az x) (bz az ls).toArray (i*256) d;have h2:=Ce a hi x;rw[b]at h1;have g:(gl (bz az ls).toArray (i*256) (az x)).toList=bz az (ls.set i x):=h1.trans h2;have e:gl (bz az ls).toArray (i*256) (az x)=(bz az (ls.set i x)).toArray:=by rw[←g]
 rw[e]at h0;exact h0
theorem Ji{α:Type}{L:O (α×aa×Nat)}{seen:O Nat}{x:α×aa×Nat}(h:x∈gh L seen):(gh L (seen++ [x.2.2])).length<(gh L seen).length:=by
 have e:gh L (seen++ [x.2.2])=(gh L seen).filter λy=> !(y.2.2==x.2.2):=by
  unfold gh;rw[List.filter_filter];apply n0;intro y _;rw[fv];simp only[iJ,c5,List.contains_eq_mem,jY,cO,fg,beq_eq_false_iff_ne];constructor
  .exact λh=>⟨λh2=>h (.inr h2),λh2=>h (.inl h2)⟩
  .rintro⟨h1,h2⟩ (a|a)
   .exact h2 a
   .exact h1 a
 rw[e];exact List.length_filter_lt_length_iff_exists.2 ⟨x,h,by simp⟩
def zn{α:Type}(L:O (α×aa×Nat))(r:Nat)(w:J):Nat:=match w.heap[r]? with
 |some (.mapIter _ _ seen _)=>(gh L seen.toList).length
 |_=>0
theorem kS.left{α:Type}{w:J}{r m:Nat}{enc:α->aa}{L:O (α×aa×Nat)}{seen:O Nat}(h:kS w r m enc L seen):zn L r w=(gh L seen).length:=by
 obtain⟨⟨a,h1,_⟩,_⟩:=h;unfold zn;rw[h1]
theorem kS.ah{α:Type}{W:Nat->Prop}{w w':J}{r m:Nat}{enc:α->aa}{L:O (α×aa×Nat)}{seen:O Nat}(h:kS w r m enc L seen)(hc:af W w w')(a:¬W r)(b:¬W m):kS w' r m enc L seen:=by
 obtain⟨⟨c,h1,h2,d⟩,e⟩:=h;exact⟨⟨c,by rw[hc.block r (lz.1 h1).1 a];exact h1,by rw[hc.block m (lz.1 h2).1 b];exact h2,d⟩,e⟩
def bc.i_(D:bc):bc:={D with b5:=(List.range D.n).map D.now,waits:=[]}
theorem sW(D:bc):D.i_.n=D.n:=by simp[bc.i_,bc.n]
theorem zo(D:bc){i:Nat}(hi:i<D.n):D.i_.now i=D.now i:=by
 show((List.range D.n).map D.now).getD i []=_;rw[fC (by simp;exact hi)];simp
def Jj(D:bc)(w:J)(v:aa)(w':J):Prop:=
 (D.fZ 3=true/\v=.int .i64 3/\df w' (D.cF 3)/\af (λq=>q=D.d) w w')\/
 (D.fZ 3=false/\v=.int .i64 0/\df w' (D.cF 3).i_/\af (cn D) w w')
theorem zp{w:J}{D:bc}(h:df w D)(bo:D.a7<=1000000000):aI aj 59 #[.pointer (some D.d)] w (Jj D w):=by
 refine okF (ae.uI (some D.d)) ax.uI func59 ?_;(delta ae.uI ak b8 xI r1 p5 aP xP;dsimp only);refine⟨λh1=>(by cases h1),λ_=>⟨_,rfl,(yP h (k:=3) (by decide)).use ?_⟩⟩;rintro _ ai ⟨rfl,f,ad,bq⟩;obtain⟨bH,p⟩:∃bH,bH=D.cF 3:=⟨_,rfl⟩;have aH:bH.d=D.d:=by rw[p];rfl
 have br:bH.lb=D.lb:=by rw[p];rfl
 have aJ:bH.mr=D.mr:=by rw[p];rfl
 have aK:bH.n=D.n:=by rw[p];rfl
 have aL:cn bH=cn D:=by rw[p];rfl
 have bs:bH.a7=D.a7:=by rw[p];rfl
 rw[←p]at f;refine⟨_,rfl,λC=>.inl ⟨C,rfl,by rw[←p];exact f,ad⟩,λC=>?_⟩;rw[←aH];have ag:=f.bu;obtain⟨L,al,am,an,ao,ap,bt⟩:=kS.begin (P:=aj) f.m nB;obtain⟨r,aM⟩:∃r,r=ai.heap.size:=⟨_,rfl⟩;rw[←aM]at an ao;have aN:r≠bH.mr:=by have:=f.m.lt;omega
 have aq:∀q,cn bH q->q≠r:=λq E e=>by have:=f.lt E;omega
 have aO:∀x∈L,∃y∈bH.waits,x.1=(y.i:Int):=λx hx=>by
  have:=am.mem_iff.1 (fF.2 ⟨x,hx,rfl⟩);obtain⟨y,t,e⟩:=fF.1 this;refine⟨y,t,?_⟩;have:=congrArg Prod.fst e;exact this.symm
 have aQ:∀y∈bH.waits,∃x∈L,x.1=(y.i:Int):=λy t=>by
  have:y.e∈L.map mj:=am.mem_iff.2 (fF.2 ⟨y,t,rfl⟩);obtain⟨x,hx,e⟩:=fF.1 this;exact⟨x,hx,congrArg Prod.fst e⟩
 refine⟨_,rfl,some bH.mr,f.iX,_,al,an,λw'=>∃ (seen:O Nat) (ls:O de),kS w' r bH.mr encZ L seen/\df w' {bH with b5:=ls}/\ls.length=bH.n/\(∀ (j:Nat) (F:j<ls.length),ls[j]=if ∃x∈L,x.2.2∈seen/\x.1=(j:Int) then bH.now j else bH.b5.getD j [])/\af (λq=>cn bH q) ai w'/\al.heap.size<=w'.heap.size,
  zn L r,⟨[],bH.b5,ao,f.ext ap,rfl,λj F=>?_,af.cW ap,bl _⟩,?_⟩
 .rw[if_neg (by rintro⟨x,_,h1,_⟩;cases h1),fC F]
 rintro au ⟨seen,ls,R,u,A,iO,H,bv⟩;have S:∀s∈ls,s.length=256:=u.sl;have bw:r<au.heap.size:=by omega
 have aR:bH.lb≠r:=aq _ (.inr (.inl rfl));rcases R.next (P:=aj) aN 0 with ⟨aS,aT,T,av,bx⟩|⟨x,hx,K,T,aU,aw,bA,aV⟩
 .
  refine .inr ⟨aT,T,λh=>(by cases h),λ_=>?_⟩;have M:=u.ext av;obtain⟨aW,aY,aZ,U,bB⟩:=eF.clear (P:=aj) (o:=0) M.m nB;refine⟨_,rfl,some bH.mr,M.iX,_,aW,aY,.inr ⟨C,rfl,?_,?_⟩⟩
  .have a0:∀x∈L,x.2.2∈seen:=λx hx=>by
    have:=lB.1 aS x hx;simpa using this
   have a4:ls=(List.range D.n).map D.now:=by
    refine mV (by simp[A,aK]) λj h1 h2=>?_;rw[iO j h1,List.getElem_map,List.getElem_range];have V:D.now j=bH.now j:=by rw[p];rfl
    rw[V];split
    .rfl
    .rename_i a5
     unfold bc.now
     cases hf:bH.waits.find? λx=>x.i==j with
     |some y=>
      exfalso;have t:=je hf;have a6:y.i=j:=by simpa using j6 hf
      obtain⟨x,hx,e⟩:=aQ y t;exact a5 ⟨x,hx,a0 x hx,by rw[e,a6]⟩
     |none=>rfl
   have W:bH.d≠bH.mr:=f.a1.2.1;have a8:bH.lb≠bH.mr:=f.a1.2.2;have e:(D.cF 3).i_={bH with b5:=ls,waits:=[]}:=by
    rw[a4,p];rfl
   rw[e];refine⟨M.v.ah U W,bp.ah M.l U a8,aZ,λx hx=>(by cases hx),λx hx=>(by cases hx),S,λx hx=>(by cases hx),?_,?_,u.f4,u.fr,u.a1,λx hx=>(by cases hx),λx hx=>(by cases hx),u.r⟩
   .show 16<=ls.length;rw[A];exact f.b_
   .show ls.length<=1600;rw[A];exact ag
  .have a9:cn D D.d:=.inl rfl
   have hc:af (λq=>cn D q) w ai:=ad.mono λq _ e=>by rw[e];exact a9
   have H:af (λq=>cn D q) ai au:=by rw[←aL];exact H
   have a_:=c0 hc H λq _ h=>h;have ba:=c0 a_ av λq _ h=>h.elim;exact c0 ba U λq _ bb=>by rw[bb,aJ];exact .inr (.inr (.inl rfl))
 .
  have X:x∈L:=(gi.1 hx).1;have bC:x.2.2∉seen:=by
   have:=(gi.1 hx).2;simpa using this
  obtain⟨y,t,Y⟩:=aO x X;have bd:=u.ah aw λq E=>aq q E;have hi:y.i<bH.n:=(f.wn y t).2.1;have be:y.i<ls.length:=by omega
  refine .inl ⟨_,_,K,T,λ_=>⟨(y.i:Int),x.2.1,K,?_,?_⟩,λh=>(by cases h)⟩
  .rw[aV]
   have e:encZ x.1=y.i:=by rw[Y]
   rw[e]
  have ay:=cA K;have Z:=bd.ext ay;have bf:({bH with b5:=ls}:bc).n=bH.n:=A;refine aX ⟨λ_=>False,_,rfl,id,⟨some bH.lb,ls.length,ls.length⟩,Z.fH,(Ch (i:=y.i) Z (by rw[bf];exact hi) (by show bH.a7<=_;omega)).use ?_⟩;rintro _ N ⟨rfl,aa⟩;have g:=Z.ext aa;have V:({bH with b5:=ls}:bc).now y.i=bH.now y.i:=by
   unfold bc.now
   cases hf:bH.waits.find? λx=>x.i==y.i with
   |some z=>rfl
   |none=>
    have:=jE.1 hf y t;simp at this
  have ab:(bH.now y.i).length=256:=f.sK hi;rw[V];have ar:Addr.add bH.lb (Int.toNat (y.i:Int)*256)=⟨bH.lb,y.i*256,none⟩:=by rw[di,aA,cT]
  obtain⟨b9,cq,bg⟩:=Jh g.l S be ab;refine⟨_,rfl,aa,_,rfl,⟨I,by show(y.i:Int)<(ls.length:Int);omega⟩,by rw[ar];exact b9,by simp[c7,ab],?_⟩;rw[ar];refine aX ?_;show _/\_;have aB:bp (setCells N ⟨bH.lb,y.i*256,none⟩ 0 (az (bH.now y.i)).toArray.toList) bH.lb (bz az (ls.set y.i (bH.now y.i))).toArray 151:=cq;have B:af (λq=>q=bH.lb) N (setCells N ⟨bH.lb,y.i*256,none⟩ 0 (az (bH.now y.i)).toArray.toList):=bg;generalize setCells N ⟨bH.lb,y.i*256,none⟩ 0 (az (bH.now y.i)).toArray.toList=aC at aB B;have ac:=Ext.trans ay aa;have aD:=(aU.ah ac id id).ah B (λe=>aR e.symm) λe=>f.a1.2.2 e.symm;have bh:af (λq=>cn bH q) ai aC:=by
   have h1:af (λq=>cn bH q) ai K:=c0 H aw λq E e=>by omega
   have h2:=c0 h1 ac λq _ h=>h.elim;exact c0 h2 B λq _ e=>by rw[e];exact .inr (.inl rfl)
  have bD:=ac.size;have bE:=B.size;have bi:df aC {bH with b5:=ls.set y.i (bH.now y.i)}:=by
   have W:bH.d≠bH.lb:=f.a1.1;refine⟨?_,aB,g.m.ah B λe=>f.a1.2.2 e.symm,λx hx=>(g.ws x hx).ah B λq E e=>(g.a2 x hx).2.1 (by rw[←e];exact E),?_,λs hs=>?_,g.nC,?_,?_,g.f4,g.fr,g.a1,g.a2,g.a3,g.r⟩
   .have h1:=g.v.ah B W
    have e:({bH with b5:=ls.set y.i (bH.now y.i)}:bc).c=({bH with b5:=ls}:bc).c:=by unfold bc.c;simp
    rw[e];exact h1
   .intro z bj
    have:=g.wn z bj;refine⟨this.1,?_,this.2.2⟩;show z.i<(ls.set y.i (bH.now y.i)).length;rw[dr];exact this.2.1
   .rcases mX hs with h1|rfl
    .exact S s h1
    .exact ab
   .show 16<=(ls.set y.i (bH.now y.i)).length;rw[dr,A];exact f.b_
   .show(ls.set y.i (bH.now y.i)).length<=1600;rw[dr,A];exact ag
  refine⟨⟨seen++ [x.2.2],_,aD,bi,by rw[dr];exact A,λj F=>?_,bh,I⟩,?_⟩
  .rw[dr]at F
   rw[nR];split
   .rename_i e
    subst e;rw[if_pos ⟨x,X,by simp,Y⟩]
   .rename_i bk
    rw[iO j F];have:(∃G∈L,G.2.2∈seen/\G.1=(j:Int))↔∃G∈L,G.2.2∈seen++ [x.2.2]/\G.1=(j:Int):=by
     constructor
     .rintro⟨z,h1,h2,Q⟩
      exact⟨z,h1,j5 _ h2,Q⟩
     .rintro⟨z,h1,h2,Q⟩
      rcases cO.1 h2 with h2|h2
      .exact⟨z,h1,h2,Q⟩
      .have bm:z=x:=by
        have aE:=R.cg;obtain⟨a,aF,rfl⟩:=e2 h1;obtain⟨b,C,rfl⟩:=e2 X;have aG:=fg.1 h2;have bn:a=b:=by
         rcases Nat.lt_trichotomy a b with h|h|h
         .have:=kZ.1 aE a b (by simpa using aF) (by simpa using C) h
          simp at this;exact absurd aG this
         .exact h
         .have:=kZ.1 aE b a (by simpa using C) (by simpa using aF) h
          simp at this;exact absurd aG.symm this
        subst bn;rfl
       rw[bm,Y]at Q;exact absurd I bk
    simp only[this]
  .rw[aD.left,R.left]
   exact Ji hx
structure eC where
 ao:Nat
 batch:Nat
 iR:Nat
def eC.c(l:eC):O aa:=[l.ao,l.batch,.int .u64 (l.iR:Nat)]
def pr(f b d:Int):Prop:=8<=f/\f<=64/\1<=b/\b<=1000/\1<=d/\d<=1048576
instance KI(f b d:Int):Decidable (pr f b d):=by unfold pr;infer_instance
section
variable {w w':J}{D:bc}
theorem qg(w:J)(p:av ag)(f b d:Int):aI aj 53 #[.pointer p,.agg #[f,b,.int .u64 d]] w (λv w'=>v=.bool (!(Option.isNone p)&&decide (pr f b d))/\Ext w w'):=by
 refine okF (ae.qg p f b d) ax.qg func53 ?_;(delta ae.qg ak aG Y cm;dsimp only);refine a8 (vs:=[f,b,.int .u64 d]) rfl λw1 c hx hs=>?_;refine cw (λx w'=>x=(!(Option.isNone p)&&decide (8<=f))/\w1=w') (λq a=>⟨λh=>⟨f,c.cell,a _ _ ⟨by rw[h,ik],rfl⟩⟩,λh=>a _ _ ⟨by rw[h,k0],rfl⟩⟩) ?_;rintro e _ ⟨h1,rfl⟩;refine cw (λx w'=>x=(e&&decide (f<=64))/\w1=w') (λq a=>⟨λh=>⟨f,c.cell,a _ _ ⟨by rw[h,ik],rfl⟩⟩,λh=>a _ _ ⟨by rw[h,k0],rfl⟩⟩) ?_;rintro g _ ⟨h2,rfl⟩;refine cw (λx w'=>x=(g&&decide (1<=b))/\w1=w') (λq a=>⟨λh=>⟨b,by rw[aA];exact c.cell,a _ _ ⟨by rw[h,ik],rfl⟩⟩,λh=>a _ _ ⟨by rw[h,k0],rfl⟩⟩) ?_;rintro i _ ⟨j,rfl⟩;refine cw (λx w'=>x=(i&&decide (b<=1000))/\w1=w') (λq a=>⟨λh=>⟨b,by rw[aA];exact c.cell,a _ _ ⟨by rw[h,ik],rfl⟩⟩,λh=>a _ _ ⟨by rw[h,k0],rfl⟩⟩) ?_;rintro k _ ⟨l,rfl⟩;refine cw (λx w'=>x=(k&&decide (1<=d))/\w1=w') (λq a=>⟨λh=>⟨d,by rw[aA];exact c.cell,a _ _ ⟨by rw[h,ik],rfl⟩⟩,λh=>a _ _ ⟨by rw[h,k0],rfl⟩⟩) ?_;rintro m _ ⟨n,rfl⟩;refine cw (λx w'=>x=(m&&decide (d<=1048576))/\w1=w') (λq a=>⟨λh=>⟨d,by rw[aA];exact c.cell,a _ _ ⟨by rw[h,ik],rfl⟩⟩,λh=>a _ _ ⟨by rw[h,k0],rfl⟩⟩) ?_;rintro r _ ⟨o,rfl⟩;refine⟨?_,hx⟩;rw[o,n,l,j,h2,h1,Value.bool.injEq,fv];simp only[c5,cp,and_assoc];exact Iff.rfl
theorem wH{D:bc}{no:Nat}{s:ad}{l:de}{N:Nat}(a:∀q,aB s q->cn D q\/N<=q):∀q,cn (D.put no s l) q->cn D q\/N<=q:=by
 rintro q (e|e|e|⟨x,hx,e⟩)
 .exact .inl (.inl e)
 .exact .inl (.inr (.inl e))
 .exact .inl (.inr (.inr (.inl e)))
 .rcases cY.1 hx with rfl|hx
  .exact a q e
  .exact .inl (.inr (.inr (.inr ⟨x,(gi.1 hx).1,e⟩)))
def Jk(D:bc)(u:eR)(gen:Nat)(w:J)(v:aa)(w':J):Prop:=
 af (cn D) w w'/\((D.fZ 2=true/\v=.int .i64 3/\df w' (D.cF 2))\/
 (D.fZ 2=false/\∃s:ad,(∀q,aB s q->cn D q\/w.heap.size<=q)/\∃bH:bc,bH=D.put (gen%2) s (eG (gen%2) (jS u D.n gen))/\
   ((bH.fZ 3=true/\v=.int .i64 3/\df w' (bH.cF 3))\/(bH.fZ 3=false/\v=.int .i64 0/\df w' (bH.cF 3).i_))))
theorem ng(h:df w D)(P:D.a7<=999999999){u:eR}(hu:nD u){gen:Nat}(hg:gen<18446744073709551616):
 aI aj 60 #[.pointer (some D.d),.agg u.c.toArray,.int .u64 (gen:Nat)] w (Jk D u gen w):=by
 have Q:=h.b_;have R:=h.bu;refine ae.Ff _ (u.root:Nat) (u.aL:Nat) (u.map:Nat) (u.clock:Nat) (u.dv:Nat) (u.keys:Nat) (gen:Nat) w _ ?_;(delta ae.ng Y aG cm bX bG ey aq ak;dsimp only);have A:IntKind.wrap .i64 (Int.tmod (gen:Int) 2)=((gen%2:Nat):Int):=by
  rw[mT I,br I I];omega
 refine a8 (vs:=u.c) rfl λw1 B j S=>⟨by decide,?_⟩;have a:=cA w1;have C:=B.ext a;have E:=h.ext (j.trans a);refine aX ⟨λ_=>False,id,q1 C ((we E).use ?_)⟩;rintro _ _ ⟨rfl,rfl⟩;refine⟨_,rfl,af.refl _ _,(ql hu (n:=D.n) I).use ?_⟩;rintro _ F ⟨k,rfl,G,t,T⟩;rw[A];refine⟨k,rfl,λ_=>False,#[(3:Int),.int .u64 (gen:Nat),k],λU=>by kernel_rfl,(vU (s:=k) (p:=jS u D.n gen) G.src I (yT hg)).use ?_⟩;rintro _ V ⟨H,rfl,J,v,K⟩;have b:=(j.trans a).trans (Ext.trans t v);have L:=h.ext b;have W:=b.size;have M:(eG (gen%2) (jS u D.n gen)).length=256:=sC _ (yT hg);have X:w.heap.size<=F.heap.size:=by have:=(j.trans a).size;have:=t.size;omega
 refine⟨H,0,rfl,v,λh=>(by cases h),λ_=>(wh L (i:=gen%2) I I J.src M λq f hf=>by have:=K q f;have:=h.lt hf;omega).use ?_⟩;rintro _ N (⟨g,rfl,hd,hc⟩|⟨g,rfl,s,hd,hc,x⟩)
 .exact⟨3,rfl,λ_=>⟨c0 (b.mono λ_ _ h=>h.elim) hc λq _ e=>by rw[e];exact .inl rfl,.inl ⟨g,rfl,hd⟩⟩,λh=>(by cases h)⟩
 .have y:af (cn D) w N:=c0 (b.mono λ_ _ h=>h.elim) hc λq _ e=>e
  have O:=wH (no:=gen%2) (l:=eG (gen%2) (jS u D.n gen)) x;refine⟨0,rfl,λh=>(by cases h),λ_=>(zp hd (by show D.a7+1<=_;omega)).use ?_⟩;have z:∀q,aB s q->cn D q\/w.heap.size<=q:=λq f=>(x q f).imp id λh=>by omega
  rintro _ Z (⟨m,rfl,o,r⟩|⟨m,rfl,o,r⟩)
  .exact⟨3,rfl,c0 y r λq _ e=>by rw[e];exact .inl rfl,.inr ⟨g,s,z,_,rfl,.inl ⟨m,rfl,o⟩⟩⟩
  .exact⟨0,rfl,c0 y r λq f e=>(O q e).resolve_right I,.inr ⟨g,s,z,_,rfl,.inr ⟨m,rfl,o⟩⟩⟩
end
section
variable {w w':J}{C:b3}{X:Nat->Prop}
def Fr.g5(f:Fr):al:=f.full&&f.gg
theorem Jl:h6 aj 179:=⟨Tryz.f179,func179,by kernel_rfl,by kernel_rfl⟩
theorem Jm(f:Fr)(w:J):aI aj 179 #[.agg #[f.full,f.gg,f.used,f.no,f.pins,f.b]] w (λv w'=>v=f.g5/\Ext w w'):=by
 refine okF (ae.vc f.full f.gg f.used f.no f.pins f.b) ax.vc func179 ?_;(delta ae.vc aT Y ak;dsimp only);refine a8 (vs:=f.c) rfl λw1 a hx hs=>⟨f.full,a.cell,cw (λb w'=>b=f.g5/\w1=w') (λq d=>⟨λh=>⟨f.gg,by rw[aA];exact a.cell,d _ _ ⟨by unfold Fr.g5;rw[h];rfl,rfl⟩⟩,λh=>d _ _ ⟨by unfold Fr.g5;rw[h];rfl,rfl⟩⟩) ?_⟩;rintro _ _ ⟨rfl,rfl⟩;exact⟨rfl,hx⟩
def kx(fs:O Fr):O Int:=(fs.filter Fr.g5).map Fr.no
theorem Jn(h:fb w C):aI aj 126 #[.pointer (some C.c)] w (λv w'=>∃ (s:ad) (zs:O Int),v=s/\aV 1 3 w' s (zs.map encZ)/\zs.Perm (kx C.ao)/\Ext w w'/\∀q,aB s q->w.heap.size<=q):=by
 obtain⟨bV,aU,ba⟩:=h.cells
 have W:=h.cq
 refine okF (ae.u3 (some C.c)) ax.u3 func126 ?_
 delta ae.u3 bG
 refine Calls.mono (ae.Fx (some C.c) ⟨179,#[],#[]⟩ w (λv w'=>∃ (s:ad) (zs:O Int),v=s/\aV 1 3 w' s (zs.map encZ)/\zs.Perm (kx C.ao)/\Ext w w'/\∀q,aB s q->w.heap.size<=q) ?_) ?_
 · (delta ae.si ak r1 aP aT aG Y aq gQ;dsimp only)
   refine⟨λh=>(by cases h),λ_=>⟨_,rfl,⟨some C.aW,C.ao.length,C.ao.length⟩,aU,λs n w'=>∃i:Nat,n=(i:Int)/\i<=C.ao.length/\aV 1 3 w' s ((kx (C.ao.take i)).map encZ)/\Ext w w'/\∀q,aB s q->w.heap.size<=q,λ_ n _=>((C.ao.length:Int)-n).toNat,⟨0,rfl,cP _,by simpa[kx] using aV.none 1 3 w,.refl _ _,λq e=>(fV q e).elim⟩,?_⟩⟩
   rintro s _ p ⟨i,rfl,hi,a,hx,g⟩
   have A:=h.ext hx
   refine⟨λaH=>?_,λB=>?_⟩
   · have r:i<C.ao.length:=by
       have:(i:Int)<(C.ao.length:Int):=cf aH
       omega
     obtain⟨f,hf⟩:∃f,f=C.ao[i]:=⟨_,rfl⟩
     have X:(kx (C.ao.take i)).length<=64:=by
       unfold kx
       rw[dk]
       have:=mY Fr.g5 (C.ao.take i)
       rw[cG]at this;omega
     have t:kx (C.ao.take (i+1))=kx (C.ao.take i)++(if f.g5 then [f.no] else []):=by
       unfold kx
       rw[j1 r,gN,fL,←hf,jF,List.filter_nil]
       congr 1
       split<;>rfl
     refine cw (λs w'=>aV 1 3 w' s ((kx (C.ao.take (i+1))).map encZ)/\Ext w w'/\∀q,aB s q->w.heap.size<=q) (λq e=>?_) ?_
     · have hc:∀j,j<6->p.cell? ⟨C.aW,i*6+j,none⟩=(f.c)[j]? :=λj D=>by rw[hf];exact kp A.f r D
       refine⟨_,rfl,⟨I,by show(i:Int)<(C.ao.length:Int);omega⟩,?_⟩
       rw[sO]
       refine⟨f.full,hc 0 (by decide),f.gg,by rw[aA];exact hc 1 (by decide),f.used,by rw[aA];exact hc 2 (by decide),f.no,by rw[aA];exact hc 3 (by decide),f.pins,by rw[aA];exact hc 4 (by decide),f.b,by rw[aA];exact hc 5 (by decide),?_⟩
       refine a8 (vs:=[false,false,false,(0:Int),(0:Int),()]) rfl λZ u E aa=>⟨u.cj rfl (λv l=>?_),rfl,cN u (us:=f.c) rfl rfl λy d F ab=>?_⟩
       · simp only[cY,fo,fy]at l
         rcases l with rfl|rfl|rfl|rfl|rfl|rfl<;>trivial
       have G:Ext p y:=Ext.cu E F (bl _)
       refine⟨f.full,d.cell,f.gg,by rw[aA];exact d.cell,f.used,by rw[aA];exact d.cell,f.no,by rw[aA];exact d.cell,f.pins,by rw[aA];exact d.cell,f.b,by rw[aA];exact d.cell,Jl,(Jm f y).use ?_⟩
       rintro _ m ⟨rfl,z⟩
       have k:=Ext.trans G z
       have H:=d.ext z
       refine⟨_,rfl,λhd=>⟨f.no,by rw[aA];exact H.cell,aX ?_⟩,λhd=>e _ _ ⟨?_,Ext.trans hx k,g⟩⟩
       · have o:Ext m (m.alloc (.cells #[encZ f.no] 3)):=dc _ _
         obtain⟨J,K,aw,ay,_,L,M⟩:=sE.append (cD:=72) (x:=⟨some m.heap.size,1,1⟩) (Src.new (T:=3) m [encZ f.no] 1 rfl) ((a.ext k).ext o) (λv l=>by rw[fg.1 l];trivial) (by
           have:s.len=(kx (C.ao.take i)).length:=by
             have:=a.1
             rw[dk]at this;omega
           show(2*(s.len+1)+1000)*8<=_;omega)
         refine⟨J,K,aw,e _ _ ⟨?_,?_,λq e=>?_⟩⟩
         · rw[t,hd,if_pos rfl,fL];exact ay
         · exact Ext.dX (Ext.trans (Ext.trans hx k) o) L g
         · rcases M q e with h1|h1
           · exact g q h1
           · have:=(Ext.trans hx k).size
             have:=o.size;omega
       · rw[t,hd]
         simp only[fU,if_false,fx]
         exact a.ext k
     · rintro ac af ⟨h1,h2,N⟩
       have P:IntKind.wrap .i64 ((i:Int)+1)=((i+1:Nat):Int):=by rw[br I I];omega
       rw[P]
       exact⟨⟨i+1,rfl,I,h1,h2,N⟩,by show((C.ao.length:Int)-((i+1:Nat):Int)).toNat<((C.ao.length:Int)-(i:Int)).toNat;omega⟩
   · have Q:i=C.ao.length:=by
       have:¬(i:Int)<(C.ao.length:Int):=cC B
       omega
     rw[Q,j3]at a
     refine(HE a (by
       unfold kx
       rw[dk]
       have:=mY Fr.g5 C.ao;omega)).use ?_
     rintro _ ag ⟨rfl,R,zs,S,U⟩
     exact⟨rfl,s,zs,rfl,S,U.1,Ext.dX hx R g,g⟩
 · rintro _ w1 ⟨_,rfl,s,zs,rfl,a,V,hx,hf⟩
   exact⟨s,rfl,s,zs,rfl,a,V,hx,hf⟩
end
section
variable {w w':J}{C:b3}{X:Nat->Prop}
theorem Jo{D:bc}{no:Nat}{s:ad}{l:de}{N:Nat}(a:∀q,aB s q->cn D q\/N<=q):∀q,cn (D.put no s l) q->cn D q\/N<=q:=by
 rintro q (e|e|e|⟨x,hx,e⟩)
 .exact .inl (.inl e)
 .exact .inl (.inr (.inl e))
 .exact .inl (.inr (.inr (.inl e)))
 .rcases cY.1 hx with rfl|hx
  .exact a q e
  .exact .inl (.inr (.inr (.inr ⟨x,(gi.1 hx).1,e⟩)))
theorem fb.qG{aE:bc}(h:fb w C)(hd:df w' aE)(e:aE.d=C.D.d)(hc:af (cn C.D) w w')(hf:∀q,cn aE q->cn C.D q\/w.heap.size<=q):fb w' {C with D:=aE}:=by
 have h1:=h.v.ah hc h.a1.2.1;rw[←e]at h1;have a:C.c<w.heap.size:=h.v.lt;have b:C.aW<w.heap.size:=bp.lt h.f;refine⟨h1,bp.ah h.f hc h.a1.2.2,hd,h.b9,h.cq,h.hd,h.a1.1,λg=>?_,λg=>?_⟩
 .rcases hf _ g with g|g
  .exact h.a1.2.1 g
  .have g:w.heap.size<=C.c:=g
   omega
 .rcases hf _ g with g|g
  .exact h.a1.2.2 g
  .have g:w.heap.size<=C.aW:=g
   omega
def b3.wrote(C:b3)(i no:Nat)(hi:i<C.ao.length)(s:ad):b3:={C with ao:=C.ao.set i {C.ao[i] with gg:=false},D:=C.D.put no s (C.ao[i]).l}
theorem Jp(h:ec X w C){i no:Nat}(hi:i<C.ao.length)(hf:(C.ao[i]).full=true)(t:(C.ao[i]).no=no){s:ad}(H:¬C.D.b6 no=true)(hd:df w' (C.D.put no s (C.ao[i]).l))(hc:af (cn C.D) w w')(T:∀q,aB s q->cn C.D q\/w.heap.size<=q):
 (∃u:aa,w'.cell? ⟨C.aW,i*6+1,none⟩=some u)/\w'.frozen? ⟨C.aW,i*6+1,none⟩=false/\ec X (w'.setCell ⟨C.aW,i*6+1,none⟩ false) (C.wrote i no hi s)/\
   er C (C.wrote i no hi s) w (w'.setCell ⟨C.aW,i*6+1,none⟩ false) 1/\∀j,(C.wrote i no hi s).view j=C.view j:=by
 have z:=Jo (no:=no) (l:=(C.ao[i]).l) T;obtain⟨aE,x⟩:∃aE,aE=C.D.put no s (C.ao[i]).l:=⟨_,rfl⟩;have B:∀j,aE.now j=if j=no then (C.ao[i]).l else C.D.now j:=by rw[x];exact pc _ _ _ _
 have J:aE.d=C.D.d:=by rw[x];rfl
 have U:aE.n=C.D.n:=by rw[x];rfl
 have W:aE.key=C.D.key:=by rw[x];exact CM C.D H
 have K:kN aE C.D:=by rw[x];exact CL h.inv H
 have al:aE.a7=C.D.a7+1:=by rw[x];rfl
 have Y:∀m,C.D.calm (m+1)->aE.calm m:=λm Z=>by rw[x];exact(jR (.inr rfl) h.raw.dev.f4 Z).1
 unfold b3.wrote;rw[←x]at hd z⊢;have L:=h.raw.qG hd J hc z;obtain⟨a1,a2,a3,a4⟩:=nH L.f hi (j:=1) (by decide) (v:=false) {C.ao[i] with gg:=false} rfl;obtain⟨g,o⟩:∃g:Fr,g={C.ao[i] with gg:=false}:=⟨_,rfl⟩;rw[←o]at a3⊢;refine⟨a1,a2,?_⟩;generalize w'.setCell ⟨C.aW,i*6+1,none⟩ false=E at a3 a4;have G:af (c9 C) w E:=c0 (hc.mono λq _ e=>.inr (.inr e)) a4 λq _ e=>.inr (.inl e);obtain⟨y,aw,ay,ab,ac,am,an,ae⟩:=h.inv.ok _ (cL hi) hf;have ag:y=no:=by rw[t]at aw;omega
 subst ag;obtain⟨a,r⟩:∃a:b3,a={C with ao:=C.ao.set i dw,D:=aE}:=⟨_,rfl⟩;have h1:gu X E a:=by
  rw[r];exact y2 (V:=c9 C) hi h.inv G (λ_ _ h=>h) K (λj A=>by rw[B,if_neg λe=>A hf (by rw[t,e])]) z dw rfl rfl
 have v1:∀j,a.view j=C.view j:=λj=>by
  rw[r];exact CK hi h.inv (λ_ j A=>by rw[B,if_pos (by rw[t]at A;omega)]) (λj A=>by rw[B,if_neg λe=>A hf (by rw[t,e])]) dw rfl j
 have F:a.ao=C.ao.set i dw:=by rw[r]
 have dS:i<a.ao.length:=by rw[F,dr];exact hi
 have M:∀ (k:Nat) (ah:k<a.ao.length),k≠i->(a.ao[k]).full=true->(a.ao[k]).no≠y:=λk ah N h2 O=>by
  simp only[F,fp (Ne.symm N)]at h2 O;exact N (h.inv.un k i _ hi h2 hf (by rw[O,t]))
 have P:C.ao.set i g=a.ao.set i g:=by rw[F,set_set]
 have Q:({C with ao:=C.ao.set i g,D:=aE}:b3)={a with ao:=a.ao.set i g,D:=aE}:=by rw[P,r]
 have ai:bw (λq=>¬c9 {C with ao:=C.ao.set i g,D:=aE} q/\¬X q) E g.b g.l:=by
  rw[o];refine bw.re ab G (λq _ R=>R.1) λq R S=>⟨λp=>S.1 ?_,S.2⟩;rcases p with p|p|p
  .exact .inl p
  .exact .inr (.inl p)
  .exact .inr (.inr ((z q p).resolve_right I))
 have h2:gu X E {C with ao:=C.ao.set i g,D:=aE}:=by
  rw[Q];refine y3 (C:=a) (no:=y) (V:=λ_=>False) dS h1 (.refl _ _) (λ_ _ h=>h.elim) (by rw[r];exact⟨rfl,λ_ h=>h,K.2.2⟩) (λj=>by rw[r]) (λq=>by rw[r]) g (by rw[o];exact hf) (by rw[o];exact h.inv.pins (C.ao[i]) (cL hi)) ⟨by rw[o];exact t,by show y<aE.n;rw[U];exact ay,by rw[←Q];exact ai,by rw[o];exact ac,λ_=>?_,λ_=>by rw[o],ae⟩ M;show g.l=aE.now y;rw[B,if_pos rfl,o]
 have aj:∀j,({C with ao:=C.ao.set i g,D:=aE}:b3).view j=C.view j:=λj=>by
  have ak:({C with ao:=C.ao.set i g,D:=aE}:b3)=b3.mk a.c a.aW (a.ao.set i g) C.hand aE:=by rw[P,r]
  rw[ak,y4 (C:=a) (hd:=C.hand) (aE:=aE) (no:=y) dS h1.un (λj=>by rw[r]) g (by rw[o];exact hf) (by rw[o];exact t) (λp=>by simp only[F,ir]at p;cases p) M j,v1];split
  .rename_i e
   subst e;have:=mC (fs:=C.ao) (D:=C.D) (c:=C.c) (aW:=C.aW) (hd:=C.hand) h.inv.un hi hf t;rw[o];exact this.symm
  .rfl
 refine⟨⟨?_,h2⟩,⟨rfl,J,by show(C.ao.set i _).length=_;rw[dr],W,by show aE.a7<=_;omega,Y,G,?_⟩,aj⟩
 .refine y5 (C:={C with D:=aE}) L a4 a3
 .rintro q (e|e|e)
  .exact .inl (.inl e)
  .exact .inl (.inr (.inl e))
  .exact(z q e).imp (λh=>.inr (.inr h)) id
theorem zq{aE:bc}(h:ec X w C)(hd:df w' aE)(e:aE.d=C.D.d)(b:kN aE C.D)(a:∀i,aE.now i=C.D.now i)(hc:af (cn C.D) w w')(hf:∀q,cn aE q->cn C.D q\/w.heap.size<=q):ec X w' {C with D:=aE}/\∀j,({C with D:=aE}:b3).view j=C.view j:=
 ⟨⟨h.raw.qG hd e hc hf,sP (C:=C) (hd:=C.hand) h.inv (hU.refl _) (hc.mono λq _ e=>.inr (.inr e)) (λ_ _ h=>h) b a hf⟩,λj=>sQ (C:=C) (hd:=C.hand) h.inv (hU.refl _) a j⟩
theorem Jq(h:ec X w C)(hc:∀f∈C.ao,f.g5=false)(j:Nat):C.view j=C.D.now j:=by
 unfold b3.view
 cases b:C.ao.find? λf=>f.full&&f.no==(j:Int) with
 |none=>rfl
 |some f=>
  have c:=je b;have a:=j6 b;simp only[c5,j2]at a;obtain⟨no,aw,ay,g,i,d⟩:=h.inv.ok f c a.1;have h1:=hc f c;unfold Fr.g5 at h1;rw[a.1,ik]at h1;have e:no=j:=by rw[a.2]at aw;omega
  rw[←e];exact d h1
theorem Dv{D:bc}(h:df w D)(i:Nat):D.i_.now i=D.now i:=by
 by_cases hi:i<D.n
 .exact zo D hi
 .have h1:D.now i=[]:=by
   unfold bc.now
   cases hf:D.waits.find? λx=>x.i==i with
   |some x=>
    have hx:=je hf;have he:x.i=i:=by simpa using j6 hf
    have:=(h.wn x hx).2.1;omega
   |none=>
    have:¬i<D.b5.length:=hi;show D.b5.getD i []=[];rw[fN,nX I];rfl
  rw[h1];show((List.range D.n).map D.now).getD i []=[];rw[fN,nX (by simp;omega)];rfl
theorem sX(D:bc){m:Nat}(h:D.calm m):(D.cF 3).calm m:=by
 unfold bc.calm bc.cF at*;simpa[fN] using h
theorem er.r1{C aJ:b3}{w w':J}{k:Nat}(h:er C aJ w w' k):aJ.D.r1=C.D.r1:=congrArg (λk:(O de×(Nat->al)×(Nat->O de)×(Int->Prop)×al)×Int=>k.1.2.2.2.2) h.b5
structure Jr(X:Nat->Prop)(C aJ:b3)(w:J)(v:aa)(w':J):Prop where
 at_:ec X w' aJ
 c:aJ.c=C.c
 d:aJ.D.d=C.D.d
 len:aJ.ao.length=C.ao.length
 n:aJ.D.n=C.D.n
 b6:aJ.D.b6=C.D.b6/\aJ.D.eI=C.D.eI
 r:aJ.D.r1=C.D.r1
 a7:aJ.D.a7<=C.D.a7+64
 calm:∀m,C.D.calm (m+64)->aJ.D.calm m
 ah:af (c9 C) w w'
 c1:∀q,c9 aJ q->c9 C q\/w.heap.size<=q
 view:∀j,aJ.view j=C.view j
 ib:(v=.int .i64 0/\aJ.D.waits=[]/\(∀f∈aJ.ao,f.g5=false)/\aJ.D.ck.getD 3 0=(gD (C.D.ck.getD 3 0)).2)\/(v=.int .i64 3/\aJ.D.b5=C.D.b5/\(¬C.D.calm 64\/C.D.fZ 3=true))
theorem Js(h:ec X w C)(a0:C.D.a7<=999999900)(am:∀j,C.D.b6 j=true->C.D.eI j=[]):aI aj 147 #[.pointer (some C.c)] w (λv w'=>∃aJ,Jr X C aJ w v w'):=by
 have a1:=h.raw.cq;refine okF (ae.u7 (some C.c)) ax.u7 func147 ?_;(delta ae.u7 ak bG aP aG ke r1 bX st aq;dsimp only);refine⟨λh=>(by cases h),λ_=>(Jn h.raw).use ?_⟩;rintro _ w1 ⟨s,zs,rfl,hs,M,V,an⟩;have hlen:s.len=zs.length:=by have:=hs.1;rw[dk]at this;omega
 have a2:zs.length<=64:=by
  rw[M.length_eq];unfold kx;rw[dk];have:=mY Fr.g5 C.ao;omega
 have h1:=h.ext V;have ap:∀z∈zs,∀no:Nat,(no:Int)=z->¬C.D.b6 no=true:=λz t no a3 hs=>by
  obtain⟨f,hf,e⟩:=fF.1 (M.mem_iff.1 t);obtain⟨h2,u⟩:=gi.1 hf;unfold Fr.g5 at u;rw[c5]at u;obtain⟨m,b9,_,_,_,_,W,ar⟩:=h.inv.ok f h2 u.1;have:m=no:=by rw[e]at b9;omega
  subst this;rw[W hs]at u
  cases u.2
 refine⟨s,rfl,λn w'=>∃ (i:Nat) (g:b3),n=(i:Int)/\i<=zs.length/\ec X w' g/\er C g w w' i/\(∀j,g.view j=C.view j)/\aV 1 3 w' s (zs.map encZ)/\(∀f∈g.ao,f.g5=true->f.no∈zs.drop i)/\(∀z∈zs,∃f∈g.ao,f.full=true/\f.no=z)/\∀q,c9 g q->¬aB s q,
  λn _=>((zs.length:Int)-n).toNat,⟨0,C,rfl,cP _,h1,er.ext C V,λ_=>rfl,hs,λf hf hd=>?_,λz t=>?_,λq o N=>?_⟩,?_⟩
 .exact M.mem_iff.2 (fF.2 ⟨f,gi.2 ⟨hf,hd⟩,rfl⟩)
 .obtain⟨f,hf,e⟩:=fF.1 (M.mem_iff.1 t)
  obtain⟨h2,u⟩:=gi.1 hf;unfold Fr.g5 at u;rw[c5]at u;exact⟨f,h2,u.1,e⟩
 .have:=an q N;have:=h.raw.lt o;omega
 rintro _ Q ⟨i,g,rfl,hi,p,l,O,R,Y,hex,Z⟩;have a4:=l.a7;refine⟨λaH=>?_,λau=>?_⟩
 .have G:i<zs.length:=by
   have:(i:Int)<(s.len:Int):=cf aH;omega
  obtain⟨a,av,az⟩:∃a:ag,s.a=some a/\Q.cell? (a.add (Int.toNat (i:Int)*1))=some (.int .i64 zs[i]):=by
   obtain⟨b,c,y,_,_,_,_,S,_⟩:=R.cell (i:=i) (v:=encZ zs[i]) (by rw[nU,dH G];rfl);exact⟨_,y,by rw[di,aA,cT,fw];exact S⟩
  refine⟨a,av,⟨I,by show(i:Int)<(s.len:Int);omega⟩,zs[i],az,?_⟩;rw[←l.c];refine(wm p.raw _).use ?_;rintro _ _ ⟨aC,rfl⟩;obtain⟨f,aD,aE,aF⟩:=hex zs[i] (cL G);rcases aC with ⟨k,H,rfl,aw,ay⟩|⟨_,aK⟩
  rotate_left
  .exact absurd aF (aK f aD aE)
  have J:=cA Q;have B:=p.ext J;obtain⟨no,b9,cq,aa,aL,a5,W,ar⟩:=B.inv.ok _ (cL H) aw;have t:zs[i]=(no:Int):=by rw[←ay,b9]
  have aM:=kp B.raw.f H (j:=5) (by decide);refine⟨_,rfl,aX ⟨_,rfl,id,_,B.raw.cells.1,_,rfl,id,(g.ao[k]).b,by rw[aA];exact aM,?_⟩⟩;rw[t];refine(wh B.raw.dev (i:=no) cq I aa.1 aL λq o hf=>(aa.2.2 q o).1.1 (.inr (.inr hf))).use ?_;rintro v2 ai aN;have aO:=l.ah.size;have a6:=J.size;rcases aN with ⟨y,rfl,E,r⟩|⟨y,rfl,s2,E,r,aQ⟩
  .obtain⟨hW,eo⟩:=zq B E rfl (B.inv.cF 2) (λj=>wo g.D 2 j) (r.mono λq _ e=>.inl e) λq o=>.inl o
   refine⟨3,rfl,λ_=>⟨{g with D:=g.D.cF 2},hW,l.c,l.d,l.len,l.n,l.ph,l.r1,by show g.D.a7<=_;omega,λm K=>?_,?_,?_,λj=>(eo j).trans (O j),.inr ⟨rfl,?_,.inl λaR=>?_⟩⟩,λh=>(by cases h)⟩
   .exact(jR (.inr rfl) p.raw.dev.f4 (l.calm (m+1) (gf K I))).1
   .refine c0 (l.ah.trans (af.cW J)) r λq o e=>?_
    exact(l.c1 q (.inr (.inr (.inl e)))).resolve_right I
   .exact l.c1
   .exact congrArg (λk=>k.1.1) l.b5
   .have:=(jR (k:=2) (m:=0) (.inr rfl) p.raw.dev.f4 (l.calm 1 (gf aR I))).2
    rw[y]at this;cases this
  .obtain⟨bk,bf,ab,P,aS⟩:=Jp B H aw (by rw[ay,t]) (λhs=>ap _ (cL G) _ t.symm (by rw[←l.b6];exact hs)) E r aQ
   refine⟨0,rfl,λh=>(by cases h),λ_=>⟨_,rfl,by rw[aA];exact bk,by rw[aA];exact bf,?_⟩⟩;rw[aA];refine aX ?_;generalize ai.setCell ⟨g.aW,k*6+1,none⟩ false=a8 at ab P;have aT:IntKind.wrap .i64 ((i:Int)+1)=((i+1:Nat):Int):=by rw[br I I];omega
   rw[aT];have aU:=(l.trans (er.ext g J)).trans P;have aY:zs.drop i=zs[i]::zs.drop (i+1):=j0 G;refine⟨⟨i+1,_,rfl,I,ab,aU,λj=>(aS j).trans (O j),(R.ext J).ah P.ah λq o hf=>Z q hf o,λf hf A=>?_,λz t=>?_,λq o N=>?_⟩,by show((zs.length:Int)-((i+1:Nat):Int)).toNat<((zs.length:Int)-(i:Int)).toNat;omega⟩
   .have hf:f∈g.ao.set k {g.ao[k] with gg:=false}:=hf
    obtain⟨b,T,rfl⟩:=e2 hf;have ac:b<g.ao.length:=by simpa using T
    by_cases e:k=b
    .subst e
     simp[Fr.g5]at A
    .simp only[fp e]at A⊢
     have F:=Y _ (cL ac) A;rw[aY]at F;rcases cY.1 F with U|U
     .unfold Fr.g5 at A
      rw[c5]at A;exact absurd (p.inv.un k b H ac aw A.1 (by rw[ay,U])) e
     .exact U
   .obtain⟨f,f1,f2,f3⟩:=hex z t
    obtain⟨b,T,rfl⟩:=e2 f1;by_cases e:k=b
    .subst e
     exact⟨{g.ao[k] with gg:=false},List.mem_set H _,f2,f3⟩
    .exact⟨g.ao[b],tg.2 ⟨b,by show b<(g.ao.set k _).length;rw[dr];exact T,by show(g.ao.set k _)[b]'_=_;rw[fp e]⟩,f2,f3⟩
   .rcases P.c1 q o with F|F
    .exact Z q F N
    .have:=R.lt q N;omega
 .have G:i=zs.length:=by
   have:¬(i:Int)<(s.len:Int):=cC au;omega
  have S:∀f∈g.ao,f.g5=false:=λf hf=>by
   cases A:f.g5 with
   |false=>rfl
   |true=>
    have:=Y f hf A;rw[G,List.drop_length]at this
    cases this
  have ad:g.D.ck.getD 3 0=C.D.ck.getD 3 0:=congrArg Prod.snd l.b5;rw[←l.c];refine⟨_,rfl,_,p.raw.cells.1,(zp p.raw.dev I).use ?_⟩;have aO:=l.ah.size;rintro v2 ai (⟨y,rfl,E,r⟩|⟨y,rfl,E,r⟩)
  .obtain⟨hW,eo⟩:=zq p E rfl (p.inv.cF 3) (λj=>wo g.D 3 j) (r.mono λq _ e=>.inl e) λq o=>.inl o
   refine⟨3,rfl,{g with D:=g.D.cF 3},hW,l.c,l.d,l.len,l.n,l.ph,l.r1,by show g.D.a7<=_;omega,λm K=>sX _ (l.calm m (gf K I)),c0 l.ah r λq o e=>(l.c1 q (.inr (.inr (.inl e)))).resolve_right I,l.c1,λj=>(eo j).trans (O j),.inr ⟨rfl,congrArg (λk=>k.1.1) l.b5,.inr ?_⟩⟩;unfold bc.fZ at y⊢;rw[←ad];exact y
  .have al:∀q,cn (g.D.cF 3).i_ q->cn g.D q\/Q.heap.size<=q:=by
    rintro q (e|e|e|⟨x,hx,e⟩)
    .exact .inl (.inl e)
    .exact .inl (.inr (.inl e))
    .exact .inl (.inr (.inr (.inl e)))
    .cases hx
   have aZ:∀j,(g.D.cF 3).i_.now j=g.D.now j:=λj=>by
    by_cases L:j<g.D.n
    .exact(zo (g.D.cF 3) L).trans (wo g.D 3 j)
    .have F:g.D.i_.now j=g.D.now j:=Dv p.raw.dev j
     exact F
   obtain⟨hW,eo⟩:=zq p E rfl ⟨sW (g.D.cF 3),λ_ h=>h,λj L=>by
    have L:g.D.b6 j=true:=L;have e:g.D.eI j=[]:=by rw[l.ph.2];exact am j (by rw[←l.ph.1];exact L)
    exact e.symm⟩ aZ r al
   refine⟨0,rfl,{g with D:=(g.D.cF 3).i_},hW,l.c,l.d,l.len,(sW (g.D.cF 3)).trans l.n,l.ph,l.r1,by show g.D.a7<=_;omega,λm K=>sX g.D (l.calm m (gf K I)),c0 l.ah r λq o e=>(l.c1 q (.inr (.inr e))).resolve_right I,λq o=>?_,λj=>(eo j).trans (O j),.inl ⟨rfl,rfl,S,?_⟩⟩
   .rcases o with e|e|e
    .exact l.c1 q (.inl e)
    .exact l.c1 q (.inr (.inl e))
    .rcases al q e with e|e
     .exact l.c1 q (.inr (.inr e))
     .exact .inr I
   .show(g.D.ck.set 3 _).getD 3 0=_
    have a9:=p.raw.dev.f4;rw[fC (by rw[dr];omega),ir,ad]
end
def ja(bj d c sb:Nat)(l:eC)(u:eR)(gen now first pending keys:Nat)(failed:al):O aa:=
 [.pointer (some bj),.pointer (some d),.pointer (some c),.pointer (some sb),l.ao,l.batch,.int .u64 (l.iR:Nat),
  u.root,u.aL,u.map,.int .u64 (u.clock:Nat),.int .u64 (u.dv:Nat),u.keys,
  .int .u64 (gen:Nat),.int .u64 (now:Nat),.int .u64 (first:Nat),pending,keys,failed]
section
variable {w w':J}{D:bc}
structure Dw(D:bc)(l:eC)(u:eR)(gen sb:Nat)(w:J)(v:aa)(w':J)(c aW bj st:Nat):Prop where
 val:v=.tuple #[.pointer (some st),(0:Int)]
 ca:ec (λ_=>False) w' (lV c aW l.ao D)
 cQ:Var w' bj [.pointer (some c),.pointer (some sb),.int .u64 ((gen+1:Nat):Int),u.root,u.aL] 243
 sv:Var w' st (ja bj D.d c sb l u gen u.clock 0 0 u.keys false) 146
 x:Ext w w'
 hc:w.heap.size<=c/\c<bj
 hf:w.heap.size<=aW/\aW<bj
 ht:bj<st
def bc.jw(D:bc)(s:Nat->al)(z:Nat->O de):bc:={D with b6:=s,eI:=z}
theorem df.jw(h:df w D)(s:Nat->al)(z:Nat->O de):df w (D.jw s z):=⟨h.v,h.l,h.m,h.ws,h.wn,h.sl,h.nC,h.b_,h.bu,h.f4,h.fr,h.a1,h.a2,h.a3,h.r⟩
theorem oB(h:df w D){l:eC}(q:8<=l.ao/\l.ao<=64){u:eR}(hu:zk D.n (u.root:Nat) (u.aL:Nat)){gen:Nat}(hg:gen+1<18446744073709551616)(s:∀j,D.b6 j=true->D.fa j=D.eI j)(sb:Nat):
 aI aj 61 #[.pointer (some D.d),.agg l.c.toArray,.agg u.c.toArray,.int .u64 (gen:Nat),.pointer (some sb)] w (λv w'=>∃c aW bj st,Dw D l u gen sb w v w' c aW bj st):=by
 refine ae.Fg _ (l.ao:Nat) (l.batch:Nat) (l.iR:Nat) (u.root:Nat) (u.aL:Nat) (u.map:Nat) (u.clock:Nat) (u.dv:Nat) (u.keys:Nat) (gen:Nat) (some sb) w _ ?_;(delta ae.oB aG Y ia ak cm;dsimp only);refine a8 (vs:=l.c) rfl λw1 t i H=>a8 (vs:=u.c) rfl λai x b J=>?_;have r:=t.ext b;have y:=h.ext (i.trans b);refine⟨_,r.cell,(qm y q.1 q.2 s).use ?_⟩;rintro _ a ⟨c,aW,rfl,e,f,K,L⟩;have k:=x.ext f;have z:IntKind.wrap .u64 ((gen:Int)+1)=((gen+1:Nat):Int):=by rw[gz I I];omega
 rw[z];have M:(lV c aW l.ao D).D=D:=rfl;refine⟨_,0,rfl,λh=>(by cases h),λ_=>⟨_,k.cell,_,by rw[aA];exact k.cell,(qn e.raw sb ((gen+1:Nat):Int) (u.root:Nat) (u.aL:Nat)).use ?_⟩⟩;rintro _ A (⟨_,rfl,g,B,N⟩|⟨C,_⟩)
 rotate_left
 .exact absurd hu C
 have m:=k.ext g;have o:=(r.ext f).ext g;have O:=(i.trans b).size;have P:=f.size;have E:c<a.heap.size:=e.raw.lt (.inl rfl);have F:aW<a.heap.size:=e.raw.lt (.inr (.inl rfl));refine⟨_,0,rfl,λh=>(by cases h),λ_=>⟨_,o.cell,_,by rw[aA];exact o.cell,_,by rw[aA];exact o.cell,q1 m ⟨_,by rw[aA];exact m.cell,_,by rw[aA];exact m.cell,(ja a.heap.size D.d c sb l u gen u.clock 0 0 u.keys false).toArray,by kernel_rfl,a8 (vs:=ja a.heap.size D.d c sb l u gen u.clock 0 0 u.keys false) rfl λQ G p R=>?_⟩⟩⟩;exact⟨c,aW,a.heap.size,A.heap.size,rfl,(e.ext g).ext p,B.ext p,G,Ext.trans (Ext.trans (i.trans b) f) (Ext.trans g p),⟨I,E⟩,⟨I,F⟩,I⟩
def iH(f:Nat->al)(k:Nat):O UInt8:=(List.range k).map λi=>UInt8.ofNat (byteOf f i)
theorem Dx(f:Nat->al)(k:Nat):az (iH f k)=e1 f k:=by
 unfold az iH e1;rw[nQ];refine List.map_congr_left λi _=>?_;have:=kM f i;show Value.int .u8 (((UInt8.ofNat (byteOf f i)).toNat:Nat):Int)=_;rw[rp,j4 this]
theorem wI(f:Nat->al)(k:Nat):(iH f k).length=k:=by simp[iH]
def jx:eR:=⟨0,0,2,0,0,0⟩
structure Dy(D aE:bc):Prop where
 d:aE.d=D.d
 n:aE.n=D.n
 now:∀j,aE.now j=if j=1 then eG 1 (jS jx D.n 1) else if j=2 then eG 2 ⟨4,1,iH (λi=>decide (i<3)) ((D.n+7)/8)⟩ else if j=0 then hO else D.now j
 waits:aE.waits=[]
 a7:aE.a7=D.a7+4
 calm:∀k,aE.calm k
 ck:aE.ck.getD 3 0= -1
 b6:aE.b6=λi=>decide (i<3)
 eI:aE.eI=λ_=> []
 r:aE.r1=D.r1
structure Jt(D:bc)(l:eC)(w:J)(v:aa)(w':J)(aE:bc)(sb:Nat)(s1 s2:ad)(c aW bj st:Nat)(ko:J):Prop where
 Dz:Dw aE l jx 1 sb ko v w' c aW bj st
 sp:fk w' sb D.n (λi=>decide (i<3)) (λi=>decide (i<3)) s1 s2
 qG:Dy D aE
 ah:af (cn D) w ko
 sY:∀q,gE sb s1 s2 q->w.heap.size<=q/\q<ko.heap.size
 dq:∀q,cn aE q->cn D q\/(w.heap.size<=q/\q<ko.heap.size)
 Ju:∀q,gE sb s1 s2 q->¬cn aE q
theorem oA(h:df w D){l:eC}(ap:pr (l.ao:Nat) (l.batch:Nat) (l.iR:Nat))(bh:∀k,D.calm k)(qT:D.ck.getD 3 0= -1)(bZ:D.a7<=999999000):
 aI aj 21 #[.pointer (some ⟨D.d,0,none⟩),.agg l.c.toArray] w (λv w'=>∃aE sb s1 s2 c aW bj st ko,Jt D l w v w' aE sb s1 s2 c aW bj st ko):=by
 have b0:=h.b_;have b1:=h.bu;refine ae.Fa _ (l.ao:Nat) (l.batch:Nat) (l.iR:Nat) w _ ?_;(delta ae.oA aG Y cm b8 ak bX ia bG ey kH aq iQ;dsimp only);refine a8 (vs:=l.c) rfl λw1 Q J b2=>⟨_,Q.cell,_,by rw[aA];exact Q.cell,_,by rw[aA];exact Q.cell,(qg w1 _ _ _ _).use ?_⟩;rintro _ bi ⟨rfl,C⟩;have bk:=h.ext (J.trans C);refine⟨_,rfl,λr=>?_,λ_=>(we bk).use ?_⟩
 .rw[dI ap]at r;cases r
 rintro _ _ ⟨rfl,rfl⟩;refine⟨_,rfl,(qh bi (D.n:Nat) 3).use ?_⟩;rintro _ b3 (⟨bm,_⟩|⟨_,_,_,_,sb,s1,s2,rfl,hs,Z,aa⟩)
 .exact absurd ⟨I,I,I,I⟩ bm
 rw[di]at hs;have ab:Int.toNat 3=3:=rfl;rw[ab]at hs;refine⟨_,0,rfl,λh=>(by cases h),λ_=>(CH hs).use ?_⟩;rintro _ bn ⟨aN,rfl,aO,K,b4⟩;rw[←Dx]at aO;obtain⟨mp,R⟩:∃mp:jo,mp=⟨4,1,iH (λi=>decide (i<3)) ((D.n+7)/8)⟩:=⟨_,rfl⟩;have aP:ny mp:=by rw[R];exact⟨(by decide:1<=4),(by decide:4<=4),(by decide:1<18446744073709551616),by show(iH _ _).length<=232;rw[wI];omega⟩
 have aQ:=vU (s:=aN) (p:=mp) (no:=2) (w:=bn) (by rw[R];exact aO.src) (by decide) aP;rw[R]at aQ;refine⟨aN,rfl,aQ.use ?_⟩;rw[←R];rintro _ bo ⟨F,rfl,aR,N,bp⟩;have aS:=Ext.trans (Ext.trans (J.trans C) Z) (Ext.trans K N);have b6:=aS.size;refine⟨F,0,rfl,λh=>(by cases h),λ_=>⟨⟨I,I,I,I⟩,?_⟩⟩;rw[yu];have bq:Int.toNat 256=256:=rfl;rw[bq];have au:hO.length=256:=l7;refine a8 (vs:=az hO) rfl λB S G b7=>?_;obtain⟨y,bs⟩:∃y,y=bo.heap.size:=⟨_,rfl⟩;rw[←bs]at S⊢;have ac:=Ext.trans aS G;have aT:Src 1 B ⟨some ⟨y,0,none⟩,256,256⟩ (az hO):=S.qH (o:=0) (n:=256) (c:=256) (l:=hO) (by rw[c7,au];exact bl _) (by rw[iK,dO (by rw[c7,au];exact bl _)]);refine⟨#[.slice (some ⟨y,0,none⟩) 256 256,.slice (some ⟨y,0,none⟩) 256 256,.slice F.a F.len F.cap],by kernel_rfl,?_⟩;have bt:(eG 2 mp).length=256:=sC _ aP;obtain⟨vals,av⟩:∃vals:Nat->de,vals=λj=>if j=2 then eG 2 mp else hO:=⟨_,rfl⟩
 have bv:∀j,(vals j).length=256:=λj=>by
  rw[av];show(if j=2 then _ else _:de).length=256;split
  .exact bt
  .exact au
 have bw:∀k,k<3->∃H:ad,cellAt #[.slice (some ⟨y,0,none⟩) 256 256,.slice (some ⟨y,0,none⟩) 256 256,.slice F.a F.len F.cap] (Int.toNat ((k:Nat):Int)*1)=some (.slice H.a H.len H.cap)/\Src 1 B H (az (vals k))/\∀q,aB H q->w.heap.size<=q/\q<B.heap.size:=by
  intro k aU;have bx:=S.lt;have b9:=G.size;rw[av];have hi:∀q,aB (⟨some ⟨y,0,none⟩,256,256⟩:ad) q->w.heap.size<=q/\q<B.heap.size:=λq b=>by
   obtain⟨A,ar,rfl⟩:=b
   cases ar;show w.heap.size<=y/\y<_;exact⟨I,bx⟩
  have ca:=(Ext.trans (Ext.trans (J.trans C) Z) K).size
  match k,aU with
  |0,_=>exact⟨⟨some ⟨y,0,none⟩,256,256⟩,rfl,aT,hi⟩
  |1,_=>exact⟨⟨some ⟨y,0,none⟩,256,256⟩,rfl,aT,hi⟩
  |2,_=>exact⟨F,rfl,aR.src.ext G,λq b=>by have:=bp q b;have:=aR.lt q b;omega⟩
 have bz:=h.ext ac;refine⟨λn w'=>∃ (k:Nat) (g:bc),n=(k:Int)/\k<=3/\df w' g/\g.d=D.d/\g.n=D.n/\(∀j,g.now j=if j<k then vals j else D.now j)/\g.a7=D.a7+k/\(∀m,g.calm m)/\(g.ck.getD 3 0= -1/\g.r1=D.r1)/\af (cn D) B w'/\(∀q,cn g q->cn D q\/B.heap.size<=q),
  λn _=>((3:Int)-n).toNat,⟨0,D,rfl,cP _,bz,rfl,rfl,λj=>rfl,rfl,bh,⟨qT,rfl⟩,.refl _ _,λq b=>.inl b⟩,?_⟩
 rintro _ cb ⟨k,g,rfl,aU,O,ag,aV,aX,bA,aw,⟨ax,aY⟩,ai,L⟩;have cc:=ai.size;refine⟨λaH=>?_,λbB=>?_⟩
 .have ay:k<3:=by
   have:((k:Nat):Int)<3:=cf aH;omega
  obtain⟨H,bC,bD,aZ⟩:=bw k ay;have ej:∀q,aB H q->¬cn D q:=λq b hf=>by have:=(aZ q b).1;have:=h.lt hf;omega
  have a0:=wh O (i:=k) I I (bD.ah ai ej) (bv k) λq b hf=>by
   rcases L q hf with h1|h1
   .exact ej q b h1
   .have:=(aZ q b).2;omega
  rw[ag]at a0;refine⟨⟨I,I⟩,H,bC,a0.use ?_⟩;rintro _ cd (⟨r,_⟩|⟨r,rfl,s,bE,bF,bH⟩)
  .have:=(jR (k:=2) (m:=0) (.inr rfl) O.f4 (aw 1)).2
   rw[r]at this;cases this
  refine⟨0,rfl,λh=>(by cases h),λ_=>?_⟩;have bI:IntKind.wrap .i64 (((k:Nat):Int)+1)=((k+1:Nat):Int):=by rw[br I I];omega
  rw[bI];refine⟨⟨k+1,_,rfl,I,bE,ag,aV,λj=>?_,by show g.a7+1=_;omega,λm=>(jR (.inr rfl) O.f4 (aw _)).1,⟨(congrArg Prod.snd (qX g (.inr rfl))).trans ax,aY⟩,c0 ai bF λq b hf=>(L q hf).resolve_right I,λq b=>?_⟩,by show((3:Int)-((k+1:Nat):Int)).toNat<((3:Int)-((k:Nat):Int)).toNat;omega⟩
  .rw[pc,aX]
   by_cases e:j=k
   .rw[if_pos e,if_pos I,e]
   .rw[if_neg e]
    by_cases T:j<k
    .rw[if_pos T,if_pos I]
    .rw[if_neg T,if_neg I]
  .rcases wH bH q b with h1|h1
   .exact L q h1
   .exact .inr I
 have ay:k=3:=by
  have:¬((k:Nat):Int)<3:=cC bB;omega
 subst ay;have hf:=zp O I;rw[ag]at hf;refine hf.use ?_;rintro _ a1 (⟨r,_⟩|⟨_,rfl,aC,bJ⟩)
 .unfold bc.fZ at r
  rw[ax]at r;cases r
 obtain⟨c3,E⟩:∃c3,c3=(g.cF 3).i_:=⟨_,rfl⟩;rw[←E]at aC;have a2:c3.d=D.d:=by rw[E];exact ag
 have a3:c3.n=D.n:=by rw[E];exact(sW _).trans aV
 have bK:c3.r1=D.r1:=by rw[E];exact aY
 have bL:∀j,c3.now j=if j<3 then vals j else D.now j:=λj=>by
  rw[←aX,E];have aD:g.i_.now j=g.now j:=Dv O j;exact aD
 have ce:c3.a7=D.a7+3:=by rw[E];exact bA
 have a4:∀m,c3.calm m:=λm=>by rw[E];exact sX _ (aw m)
 have a5:c3.ck.getD 3 0= -1:=by
  rw[E];show(g.ck.set 3 _).getD 3 0=_;have bM:=O.f4;rw[fC (by rw[dr];omega),ir,ax];rfl
 have al:∀q,cn c3 q->cn D q\/B.heap.size<=q:=λq b=>by
  rw[E]at b;rcases b with e|e|e|⟨x,hx,e⟩
  .exact L q (.inl e)
  .exact L q (.inr (.inl e))
  .exact L q (.inr (.inr (.inl e)))
  .cases hx
 have am:af (cn D) B a1:=c0 ai bJ λq b hf=>(L q hf).resolve_right I;have U:∀q,w.heap.size<=q->¬cn D q:=λq b hf=>by have:=h.lt hf;omega
 have bN:=((Q.ext (C.trans (Ext.trans Z (Ext.trans K (Ext.trans N G))))).ah am (U _ (bl _)));have bO:=(hs.ext (Ext.trans K (Ext.trans N G))).ah am λq b=>U q (by have:=aa q b;have:=(J.trans C).size;omega);refine⟨0,rfl,λh=>(by cases h),λ_=>a8 (vs:=Cn.c) rfl λcg bP bQ ch=>Cq bP rfl jx λbR a6 bS ci=>q1 a6 ?_⟩;have V:Ext a1 bR:=Ext.cu bQ bS (bl _);have W:=aC.ext V;have a9:=ng W I (u:=jx) ⟨(by decide:0<4294967296),(by decide:0<256),(by decide:2<4294967296),(by decide:0<18446744073709551616),(by decide:0<18446744073709551616),(by decide:0<4294967296)⟩ (gen:=1) (by decide);rw[a2]at a9;refine a9.use ?_;have cj:=V.size;have cl:=am.size;rintro _ a_ ⟨an,⟨r,_⟩|⟨_,s,bT,f,z,⟨r,_⟩|⟨_,rfl,X⟩⟩⟩
 .have:=(jR (k:=2) (m:=0) (.inr rfl) W.f4 (a4 1)).2
  rw[r]at this;cases this
 .have aF:f.ck.getD 3 0= -1:=by rw[z];exact(congrArg Prod.snd (qX c3 (.inr rfl))).trans a5
  unfold bc.fZ at r;rw[aF]at r;cases r
 have aF:f.ck.getD 3 0= -1:=by rw[z];exact(congrArg Prod.snd (qX c3 (.inr rfl))).trans a5
 obtain⟨M,t⟩:∃M,M=((f.cF 3).i_).jw (λi=>decide (i<3)) (λ_=> []):=⟨_,rfl⟩;have X:=X.jw (λi=>decide (i<3)) (λ_=> []);rw[←t]at X;have bU:∀x∈f.waits,x.i<f.n:=λx hx=>by
  rw[z]at hx⊢;rcases cY.1 hx with rfl|hx
  .show 1%2<c3.n;omega
  .exact(W.wn x (gi.1 hx).1).2.1
 have bV:∀j,M.now j=if j=1 then eG 1 (jS jx D.n 1) else if j<3 then vals j else D.now j:=λj=>by
  have aD:M.now j=f.now j:=by
   rw[t];by_cases ba:j<f.n
   .exact(zo (f.cF 3) ba).trans (wo f 3 j)
   .have P:f.now j=[]:=by
     unfold bc.now
     cases hf:f.waits.find? λx=>x.i==j with
     |some x=>
      have hx:=je hf;have he:x.i=j:=by simpa using j6 hf
      have:=bU x hx;omega
     |none=>
      have:¬j<f.b5.length:=ba;show f.b5.getD j []=[];rw[fN,nX I];rfl
    rw[P];show((List.range (f.cF 3).n).map (f.cF 3).now).getD j []=[];rw[fN,nX (by simp;show f.n<=j;omega)];rfl
  rw[aD,z,pc,bL,a3]
 have aJ:Dy D M:=by
  refine⟨by rw[t,z];exact a2,by rw[t];exact(sW (f.cF 3)).trans (by rw[z];exact a3),λj=>?_,by rw[t];rfl,by rw[t,z];show c3.a7+1=_;omega,λm=>by rw[t,z];exact sX (c3.put (1%2) s (eG (1%2) (jS jx c3.n 1))) (jR (.inr rfl) W.f4 (a4 _)).1,?_,by rw[t];rfl,by rw[t];rfl,by rw[t,z];exact bK⟩
  .rw[bV,av,←R]
   by_cases P:j=1
   .rw[if_pos P,if_pos P]
   .rw[if_neg P,if_neg P]
    by_cases T:j=2
    .subst T;rfl
    .by_cases ab:j=0
     .subst ab;rfl
     .rw[if_neg I,if_neg T,if_neg ab]
  .rw[t]
   show(f.ck.set 3 _).getD 3 0=_;have bM:f.ck.length=4:=by rw[z];show(c3.ck.set 2 _).length=4;rw[dr];exact W.f4
   rw[fC (by rw[dr];omega),ir,aF];rfl
 have bb:∀q,cn M q->cn D q\/B.heap.size<=q:=λq b=>by
  rw[t]at b;have h1:cn f q:=by
   rcases b with e|e|e|⟨x,hx,e⟩
   .exact .inl e
   .exact .inr (.inl e)
   .exact .inr (.inr (.inl e))
   .cases hx
  rw[z]at h1;rcases wH bT q h1 with h2|h2
  .exact al q h2
  .exact .inr I
 have bd:af (cn D) B a_:=c0 (c0 am V λq _ h=>h.elim) an λq b hf=>(al q hf).resolve_right I;have aK:=(bN.ext V).ah an λhf=>by
  rcases al _ hf with h1|h1
  .exact U _ (bl _) h1
  .have:=ac.size;have:=S.lt;have:=Q.lt;have:=C.size;have:=Z.size;have:=K.size;have:=N.size;have:=G.size;omega
 have bW:=a6.ah an λhf=>by
  have:=aC.lt hf;omega
 have be:=(bO.ext V).ah an λq b hf=>by
  have bf:=aa q b;have aL:=(hs.ext (Ext.trans K (Ext.trans N (af.refl _ _)))).lt q b;rcases al _ hf with h1|h1
  .exact U q (by have:=(J.trans C).size;omega) h1
  .have:=G.size;omega
 have co:=bd.size;have S:=ac.size;have bg:=oB X (l:=l) (u:=jx) (gen:=1) ⟨by have:=ap.1;omega,by have:=ap.2.1;omega⟩ ⟨by decide,by decide,by decide,by rw[aJ.n];show(0:Int)<_;omega,by decide⟩ (by decide) (λj _=>by rw[t];rfl) sb;rw[aJ.d]at bg;refine⟨0,rfl,λh=>(by cases h),λ_=>⟨_,aK.cell,_,by rw[aA];exact aK.cell,_,by rw[aA];exact aK.cell,q1 bW (bg.use ?_)⟩⟩;rintro _ cp ⟨c,aW,bj,st,aM⟩;have bY:=aM.val;subst bY;refine⟨_,0,rfl,M,sb,s1,s2,c,aW,bj,st,a_,aM,be.ext aM.x,aJ,c0 (ac.mono λ_ _ h=>h.elim) bd λq _ h=>h,λq b=>?_,λq b=>?_,λq b hf=>?_⟩
 .have bf:=aa q b
  have aL:=be.lt q b;have:=(J.trans C).size;exact⟨I,aL⟩
 .rcases bb q b with h1|h1
  .exact .inl h1
  .exact .inr ⟨I,X.lt b⟩
 .have bf:=aa q b
  have aL:=(hs.ext (Ext.trans K (Ext.trans N (af.refl _ _)))).lt q b;rcases bb _ hf with h1|h1
  .exact U q (by have:=(J.trans C).size;omega) h1
  .have:=G.size;omega
end
theorem oW{b d:Nat}(k:b<256)(hd:d<256)(w:J):aI aj 19 #[.int .u8 (b:Nat),.int .u8 (d:Nat)] w (λv w'=>v=.agg (eC.c ⟨8,1+b%12,1+d%12⟩).toArray/\Ext w w'):=by
 refine ae.FT _ _ w _ ?_;(delta ae.oW Y aq aG cm;dsimp only);have g:IntKind.wrap .i64 (1+IntKind.wrap .i64 (Int.tmod (b:Int) 12))=((1+b%12:Nat):Int):=by
  rw[mT I,br (n:=(b:Int)%12) I I,br I I];omega
 have h:IntKind.wrap .u64 (1+IntKind.wrap .u64 (Int.tmod (d:Int) 12))=((1+d%12:Nat):Int):=by
  rw[mT I,gz (n:=(d:Int)%12) I I,gz I I];omega
 rw[g,h];refine a8 (vs:=[(0:Int),(0:Int),.int .u64 0]) rfl λw1 e i l=>⟨by decide,by decide,e.cj rfl (λv f=>?_),rfl,cN e (us:=eC.c ⟨8,1+b%12,1+d%12⟩) rfl rfl λai a j m=>⟨_,a.cell,_,by rw[aA];exact a.cell,_,by rw[aA];exact a.cell,rfl,Ext.cu i j (bl _)⟩⟩;simp only[cY,fo,fy]at f;rcases f with rfl|rfl|rfl<;>trivial
theorem Jv{w:J}{A:ag}{v:aa}(h:w.cell? A=some v):A.block<w.heap.size:=by
 unfold World.cell? at h;split at h
 .rename_i h1
  exact(lz.1 h1).1
 .cases h
theorem zr(A:ag)(n:Nat):(A.add n).block=A.block:=by unfold Addr.add;split<;>rfl
theorem Jw(n k:Nat):bM n (k+1)=UInt8.ofNat (n/256^k%256)::bM n k:=by
 unfold bM;rw[List.range_succ_eq_map,g9,nQ]
 congr 1
 apply List.map_congr_left;intro j a;have:=jZ.1 a;show UInt8.ofNat (n/256^(k+1-1-(j+1))%256)=_;rw[show k+1-1-(j+1)=k-1-j from I]
theorem nr(w:J){n k:Nat}(t:n<18446744073709551616)(u:k<=8):aI aj 215 #[.int .u64 (n:Nat),k] w (λv w'=>∃s:ad,v=s/\aV 1 5 w' s (az (bM n k))/\Ext w w'/\gr w s):=by
 refine ae.FP _ _ w _ ?_;delta ae.nr Y ak aq;have x:=o6 w (.cells #[] 5);refine aX ⟨λm s j w'=>∃i:Nat,i<=k/\j=(i:Int)/\m=((n/256^i:Nat):Int)/\aV 1 5 w' s (az (bM n i))/\Ext w w'/\gr w s,λ_ _ j _=>((k:Int)-j).toNat,⟨0,cP _,rfl,by rw[Nat.pow_zero,Nat.div_one],aV.new w [] 0 rfl (by decide),dc _ _,λq a=>by have:=ji.1 a;have:w.heap.size=q:=this;omega⟩,?_⟩;rintro _ s _ b ⟨i,hi,rfl,rfl,c,hx,hf⟩;refine⟨λh=>?_,λh=>?_⟩
 .simp only[c5,cp]at h
  have d:n/256^i<=n:=Nat.div_le_self _ _;have f:IntKind.wrap .u8 (Int.tmod ((n/256^i:Nat):Int) 256)=(((UInt8.ofNat (n/256^i%256)).toNat:Nat):Int):=by
   generalize n/256^i=m;rw[mT I,tO I I,qF (g8 _ I)];omega
  have g:IntKind.wrap .u64 (Int.tdiv ((n/256^i:Nat):Int) 256)=((n/256^(i+1):Nat):Int):=by
   rw[Nat.pow_succ,←Nat.div_div_eq_div_mul]
   revert d
   generalize n/256^i=m;intro d;rw[wP I,gz I I];omega
  rw[f,g,mH I];have l:=lR c;rw[dy]at l;have y:=o6 b (.cells (az [UInt8.ofNat (n/256^i%256)]).toArray 5);obtain⟨o,w',aw,ay,z,p,r⟩:=CC.append (cD:=39) (c.src.alloc _) (aV.new b (az [UInt8.ofNat (n/256^i%256)]) 1 rfl (by decide)) (iS _) (by show(2*(1+s.len)+1000)*1<=_;omega);rw[←mu,List.singleton_append,←Jw]at ay;refine⟨by decide,aX ⟨o,w',aw,by decide,⟨i+1,I,rfl,rfl,ay,c0 hx (c0 (dc b _) p λq a c=>by have:=ji.1 c;have:b.heap.size=q:=this;have:=hx.size;omega) λq a e=>e,λq a=>?_⟩,by show((k:Int)-((i+1:Nat):Int)).toNat<((k:Int)-(i:Int)).toNat;omega⟩⟩;have:=hx.size;rcases r q a with h1|h1
  .have:=ji.1 h1
   have:b.heap.size=q:=this;omega
  .omega
 .simp only[Bool.and_eq_false_iff,jY]at h
  have:i=k:=by omega
  subst this;exact⟨s,rfl,c,hx,hf⟩
theorem Jx(w:J)(p:bo)(s:Int):Sem.run aj (Instr.build 57 #[(0,s),(1,.agg p.c.toArray)]) w=.ok (.agg (aC.mk s p 0 0).c.toArray) w:=by
 obtain⟨⟨dQ,l,h⟩,n⟩:=p;obtain⟨cd,a,b,d,e,f,g,i,j,k,m,o,q,r,t,u,rfl⟩:=ss l h
 kernel_rfl
def pt(s:Int)(p:bo):O UInt8:=if dT s p=true then eJ s.toNat p else []
theorem oT(s:Int)(p:bo)(w:J):aI aj 168 #[s,.agg p.c.toArray] w (λv w'=>∃t:ad,v=t/\aV 1 5 w' t (az (pt s p))/\Ext w w'/\∀q,aB t q->w.heap.size<=q):=by
 refine ae.FM s _ w _ ?_;(delta ae.oT Y b8 ak aT aG bG xJ;dsimp only);refine a8 (vs:=p.c) rfl λw1 G aa ap=>⟨p.c,G.rd (bo.bq _),_,Jx w1 p s,(nn ⟨s,p,0,0⟩ w1).use ?_⟩;rintro _ l ⟨rfl,H⟩;have ab:(aC.mk s p 0 0).ef=dT s p:=by unfold aC.ef;rw[show iU (aC.mk s p 0 0).b=true from rfl,pB]
 rw[ab];have B:=aa.trans H;have K:=G.ext H;have aq:=B.size;refine⟨_,rfl,λh=>?_,λh=>?_⟩
 .have hg:dT s p=false:=by simpa using h
  refine aX ⟨⟨some l.heap.size,0,0⟩,rfl,?_,B.trans (dc _ _),λq d=>?_⟩
  .unfold pt
   rw[if_neg (by rw[hg];decide)];exact aV.new (T:=5) l [] 0 rfl (by decide)
  .have:l.heap.size=q:=ji.1 d
   omega
 have hg:dT s p=true:=by simpa using h
 have C:=hg;unfold dT at C;rw[c5,cp]at C;obtain⟨ac,ag⟩:=C;obtain⟨k,rfl,ar⟩:=qQ ag;have au:=sG ac;have ah:IntKind.wrap .u8 p.bits=(((UInt8.ofNat p.bits.toNat).toNat:Nat):Int):=by
  rw[rp];show p.bits%256=_;omega
 refine cw (λn w'=>n=(((ig p).toNat:Nat):Int)/\l=w') (λq d=>⟨_,BY K,λh=>d _ _ ⟨by unfold ig;rw[if_pos h];rfl,rfl⟩,λh=>d _ _ ⟨by unfold ig;rw[if_neg (by rw[h];decide)];rfl,rfl⟩⟩) ?_;rintro _ _ ⟨rfl,rfl⟩;have L:=cA l;have u:=K.ext L;have D:=B.trans L;refine aX ?_;generalize l.drew=f at u D;have av:=D.size;have ax:=u.lt;refine⟨λq=>f.heap.size<=q,by rw[aA];show¬f.heap.size<=w.heap.size;omega,_,yx u,by show¬f.heap.size<=w.heap.size;omega,_,yw u,?_⟩;rw[ah,gz (n:=(k:Int)) I I];have lit:∀ (w':J),Src 1 (w'.alloc (.cells #[.int .u8 (((ig p).toNat:Nat):Int),.int .u8 (((UInt8.ofNat p.bits.toNat).toNat:Nat):Int)] 5)) ⟨some w'.heap.size,2,2⟩ (az [ig p,UInt8.ofNat p.bits.toNat]):=λw'=>Src.new (T:=5) w' (az [ig p,UInt8.ofNat p.bits.toNat]) 2 rfl;have aD:=vD p.addr
 have fin:∀ (ai:J) (g:ad),Ext f ai->aV 1 5 ai g (az (bM k 2)++az [ig p,UInt8.ofNat p.bits.toNat])->(∀q,aB g q->f.heap.size<=q)->Calls aj 216 #[.agg p.addr.c.toArray] ai λal M=>
  ∃m:ad,al=.returned m/\∃i:ad,∃o:J,Sem.run aj (
   Builtin.append_ #[39,39] 39 #[g,m])
  M=.ok i o/\∃t:ad,Value.slice i.a i.len i.cap=t/\aV 1 5 o t (az (pt (k:Nat) p))/\Ext w o/\∀q,aB t q->w.heap.size<=q:=λai g N O P=>by
  refine(oV p.addr ai).use ?_;rintro _ M ⟨m,rfl,am,aE,E⟩;have aF:g.len=4:=by have:=O.1;rw[ct,c7,c7,dy]at this;simp at this;omega
  obtain⟨i,o,aw,ay,Q,j,r⟩:=mw.append (cD:=39) am.src (O.ext E) (iS _) (by show(2*(g.len+m.len)+1000)*1<=_;omega);have aH:=N.size;have aJ:=E.size;refine⟨m,rfl,i,o,aw,i,rfl,?_,Ext.dX (D.trans (N.trans E)) j (λq d=>by have:=P q d;omega),λq d=>?_⟩
  .unfold pt
   rw[if_pos hg];have e:az (bM k 2)++az [ig p,UInt8.ofNat p.bits.toNat]++az p.addr.raw=az (eJ (Int.toNat (k:Nat)) p):=by
    rw[di];unfold eJ az;rw[fL,fL,cB]
   rw[←e];exact ay
  .rcases r q d with h1|h1
   .have:=P q h1;omega
   .omega
 have x:∀ {a b:J},Ext a b->af (λq=>f.heap.size<=q) a b:=λh=>h.mono λ_ _ h=>h.elim;refine⟨(nr f (n:=k) (k:=2) I I).use ?_,aX ⟨x (dc _ _),(nr _ (n:=k) (k:=2) I I).use ?_⟩⟩
 .rintro _ R ⟨y,rfl,S,F,an⟩
  have aK:y.len=2:=by have:=S.1;rw[c7,dy]at this;omega
  obtain⟨g,U,aw,ay,Q,j,r⟩:=mw.append (cD:=39) (lit R) (S.ext (dc _ _)) (iS _) (by show(2*(y.len+2)+1000)*1<=_;omega);have aL:=F.size;have V:=(dc R (.cells #[.int .u8 (((ig p).toNat:Nat):Int),.int .u8 (((UInt8.ofNat p.bits.toNat).toNat:Nat):Int)] 5)).size;have hf:∀q,aB y q->f.heap.size<=q:=an;exact⟨y,rfl,x F,aX ⟨x (dc _ _),g,U,aw,j.mono λq _ d=>hf q d,fin U g (Ext.dX (F.trans (dc _ _)) j hf) ay λq d=>by
   rcases r q d with h1|h1
   .exact hf q h1
   .omega⟩⟩
 .rintro _ aM ⟨z,rfl,W,A,ao⟩
  have aN:z.len=2:=by have:=W.1;rw[c7,dy]at this;omega
  have V:=(dc f (.cells #[.int .u8 (((ig p).toNat:Nat):Int),.int .u8 (((UInt8.ofNat p.bits.toNat).toNat:Nat):Int)] 5)).size;obtain⟨X,Z,aw,ay,Q,j,r⟩:=mw.append (cD:=39) ((lit f).ext A) W (iS _) (by show(2*(z.len+2)+1000)*1<=_;omega);have aO:=A.size;have hf:∀q,aB z q->f.heap.size<=q:=λq d=>eE V (ao q d);exact⟨z,rfl,x A,X,Z,aw,j.mono λq _ d=>hf q d,fin Z X (Ext.dX ((dc _ _).trans A) j hf) ay λq d=>by
   rcases r q d with h1|h1
   .exact hf q h1
   .omega⟩
theorem kT(T:O aC):∀t∈T,(aC.c t).length=21:=λt _=>t.bq
section
variable {w w':J}{s:ad}{T:O aC}{i a6:Nat}{most:Int}
theorem pv(hs:Src 21 w s (bz aC.c T))(hi:i<T.length):∃A:ag,s.a=some A/\((0:Int)<=(i:Int)/\(i:Int)<(s.len:Int))/\w.cell? (A.add (Int.toNat (i:Int)*21))=some (.int .i64 T[i].s)/\bn w ((A.add (Int.toNat (i:Int)*21)).add 1) 0 18=some T[i].p.c/\bn w (A.add (Int.toNat (i:Int)*21)) 0 21=some T[i].c:=by
 obtain⟨d,A,ar,b⟩:=wg hs (kT T) (by decide) hi;rw[di];have h0:=om b (j:=0) (v:=.int .i64 T[i].s) rfl;have h1:=xC b (k:=1) (m:=18) (by decide);have e:(T[i].c.drop 1).take 18=T[i].p.c:=by
  show List.take 18 (T[i].p.c++_)=_;rw[nW (bo.bq _)]
 rw[e]at h1;refine⟨A,ar,⟨I,I⟩,?_,h1,b⟩;rw[ly,add_zero']at h0;exact h0
def dp(s:Int)(p:bo)(t:aC):al:=decide (t.s=s)&&decide (t.p=p)
def pw(T:O aC)(s:Int)(p:bo):Int:=match T.findIdx? (dp s p) with|some i=>(i:Int)|none=> -1
theorem Jy{sv:Int}{p:bo}(B:Var w a6 [most,s] 36)(hs:Src 21 w s (bz aC.c T))(E:T.length<=1000000):
 aI aj 99 #[.pointer (some a6),sv,.agg p.c.toArray] w (λv w'=>v=.int .i64 (pw T sv p)/\Ext w w'):=by
 have F:s.len=T.length:=by
  have:=hs.len;rw[fD _ (kT T)]at this;omega
 refine ae.FJ (some a6) sv _ w _ ?_;(delta ae.sq r1 ak aP aG Y aq;dsimp only);refine a8 (vs:=p.c) rfl λw1 C f G=>⟨λn w'=>∃i:Nat,n=(i:Int)/\i<=T.length/\(∀ (j:Nat) (a:j<T.length),j<i->dp sv p T[j]=false)/\Ext w1 w',λn _=>((T.length:Int)-n).toNat,⟨0,rfl,cP _,λj _ h=>I,.refl _ _⟩,?_⟩;rintro _ o ⟨i,rfl,hi,g,b⟩;have q:=(B.ext f).ext b;refine⟨_,rfl,s,by rw[aA];exact q.cell,λaH=>?_,λr=>⟨?_,f.trans b⟩⟩
 rotate_left
 .have r:=cC r
  have:T.findIdx? (dp sv p)=none:=by
   rw[List.findIdx?_eq_none_iff];intro t ht;obtain⟨j,a,rfl⟩:=e2 ht;exact g j a I
  unfold pw;rw[this]
 have aH:(i:Int)<(s.len:Int):=cf aH;have u:i<T.length:=by omega
 have d:=cA o;have l:=(f.trans b).trans d;have m:=q.ext d;have x:=(C.ext b).ext d;have y:=b.trans d;refine aX ?_;generalize o.drew=D at l m x y;obtain⟨A,ar,z,h0,h1,_⟩:=pv (hs.ext l) u;have next:dp sv p T[i]=false->(∃k:Nat,IntKind.wrap .i64 ((i:Int)+1)=(k:Int)/\k<=T.length/\(∀ (j:Nat) (a:j<T.length),j<k->dp sv p T[j]=false)/\Ext w1 D)/\((T.length:Int)-IntKind.wrap .i64 ((i:Int)+1)).toNat<((T.length:Int)-(i:Int)).toNat:=λhf=>by
  rw[br (n:=(i:Int)+1) I I];refine⟨⟨i+1,I,I,λj a h=>?_,y⟩,I⟩;by_cases e:j=i
  .subst e;exact hf
  .exact g j a I
 refine⟨_,rfl,id,s,by rw[aA];exact m.cell,A,ar,z,id,_,h0,λhe=>⟨_,rfl,id,s,by rw[aA];exact m.cell,A,ar,z,id,_,h1,id,_,x.rd (bo.bq _),_,x4 _ _,λh=>⟨?_,l⟩,λh=>next ?_⟩,λhe=>⟨λh=>(by cases h),λ_=>next ?_⟩⟩
 .have hf:T.findIdx? (dp sv p)=some i:=by
   rw[List.findIdx?_eq_some_iff_getElem];refine⟨u,?_,λj a=>?_⟩
   .unfold dp
    rw[c5];exact⟨dI (by simpa using he),h⟩
   .rw[g j I a];decide
  unfold pw;rw[hf]
 .unfold dp;rw[h,Bool.and_false]
 .unfold dp
  rw[h4 (by simpa using he),k0]
end
section
variable {w w':J}{s:ad}{T:O aC}{i a6:Nat}{most:Int}
theorem DA(hs:Src 21 w s (bz aC.c T))(hi:i<T.length){A:ag}(ar:s.a=some A):w.cell? ((A.add (Int.toNat (i:Int)*21)).add 20)=some (.int .u64 (T[i].u:Nat)):=by
 obtain⟨e,f,b,d⟩:=wg hs (kT T) (by decide) hi;rw[ar]at b
 cases b;rw[di];have h0:=om d (j:=20) (v:=.int .u64 (T[i].u:Nat)) (by
  show(T[i].p.c++_)[19]? =_;rw[iq (by rw[bo.bq];decide),bo.bq];rfl)
 rw[cT]at h0;exact h0
def sZ(T:O aC)(s:Int)(p:bo)(now:Nat):av aC:=match T.findIdx? (dp s p) with
 |some i=>if (T.getD i aC.zero).u<=now then none else some (T.getD i aC.zero)
 |none=>none
end
instance:DecidableEq aC:=λa b=>decidable_of_iff (a.s=b.s/\a.p=b.p/\a.b=b.b/\a.u=b.u) ⟨λh=>by cases a;cases b;simp_all,λh=>by rw[h];exact⟨rfl,rfl,rfl,rfl⟩⟩
section
variable {w w':J}{s t:ad}{T U:O aC}
end
theorem zt(w:J):Sem.run aj (Instr.buildSlice 22 0 #[]) w=.ok (.slice (some w.heap.size) 0 0) (w.alloc (.cells #[] 57)):=by kernel_rfl
theorem DB(w:J)(t:aC):Sem.run aj (Instr.buildSlice 22 1 #[(0,.agg t.c.toArray)]) w=.ok (.slice (some w.heap.size) 1 1) (w.alloc (.cells t.c.toArray 57)):=by
 obtain⟨s,⟨⟨dQ,l,h⟩,n⟩,b,u⟩:=t;obtain⟨cd,a,d,e,f,g,i,j,k,m,o,p,q,r,v,x,rfl⟩:=ss l h
 kernel_rfl
theorem zu:hA aj 22 57 21 56:=⟨by kernel_rfl⟩
section
variable {w w':J}{s:ad}{T:O aC}{i a6:Nat}{most:Int}
end
structure gw(B:Nat->Prop)(w:J)(a6:Nat)(most:Int)(s:ad)(T:O aC):Prop where
 v:Var w a6 [most,s] 36
 gG:Src 21 w s (bz aC.c T)
 c:s.len<=s.cap
 b:∀q,aB s q->B q/\q<w.heap.size
 nb:¬B a6
section
variable {B V:Nat->Prop}{w w':J}{s:ad}{T:O aC}{a6:Nat}{most:Int}
theorem gw.ah(h:gw B w a6 most s T)(hc:af V w w')(d:¬V a6)(e:∀q,B q->q<w.heap.size->¬V q):gw B w' a6 most s T:=
 ⟨h.v.ah hc d,h.gG.ah hc λq a=>e q (h.b q a).1 (h.b q a).2,h.c,λq a=>⟨(h.b q a).1,ff (h.b q a).2 hc.size⟩,h.nb⟩
theorem gw.ext(h:gw B w a6 most s T)(hx:Ext w w'):gw B w' a6 most s T:=h.ah hx id λ_ _ _ h=>h
theorem gw.len(h:gw B w a6 most s T):s.len=T.length:=by have:=h.gG.len;rw[fD _ (kT T)]at this;omega
theorem gw.put(h:gw B w a6 most s T){w0:J}{a:ad}{au:O aC}(hx:Ext w w0)(hf:hT 21 57 w w0 a (bz aC.c au))(j:∀q,w.heap.size<=q->B q):
 (∃u:aa,w0.cell? (Addr.add a6 1)=some u)/\w0.frozen? (Addr.add a6 1)=false/\gw B (w0.setCell (Addr.add a6 1) a) a6 most a au/\af (λq=>q=a6) w0 (w0.setCell (Addr.add a6 1) a):=by
 rw[aA,cT];have g:=h.v.ext hx;obtain⟨b9,cq⟩:=eB g (i:=1) (by show 1<2;decide);have d:=dZ w0 a6 1 a;have k:=h.v.lt;refine⟨b9,cq,⟨eA g (i:=1) _,hf.o.src.ah d (λq b e=>by have:=hf.f q b;omega),hf.o.2.1,λq b=>⟨j q (hf.f q b),ff (hf.o.lt q b) d.size⟩,h.nb⟩,d⟩
end
section
variable {B:Nat->Prop}{w w':J}{s:ad}{T:O aC}{a6 i:Nat}{most:Int}
theorem Jz(w:J):hT 21 57 w (w.alloc (.cells #[] 57)) ⟨some w.heap.size,0,0⟩ []:=⟨aV.new (T:=57) w [] 0 (by simp) (by decide),dc _ _,λq a=>by have:w.heap.size=q:=ji.1 a;omega⟩
theorem zv(T:O aC):∀v∈bz aC.c T,Plain v:=Hv λt _=>t.plain
theorem JA(T:O aC)(i:Nat)(hi:i<=T.length):((bz aC.c T).drop (0*21)).take ((i-0)*21)=bz aC.c (T.take i):=by
 rw[pC,iK,mR]
 conv=>lhs;rw[←fK i T,lU]
 exact nW (by rw[fD _ (kT _),cG,hZ hi])
theorem JB(T:O aC)(i:Nat)(hi:i<=T.length):((bz aC.c T).drop (i*21)).take ((T.length-i)*21)=bz aC.c (T.drop i):=by
 have h1:(bz aC.c T).drop (i*21)=bz aC.c (T.drop i):=by
  conv=>lhs;rw[←fK i T,lU]
  exact List.drop_left' (by rw[fD _ (kT _),cG,hZ hi])
 rw[h1,dO (by rw[fD _ (kT _),ed];exact bl _)]
end
theorem np(t:aC)(w:J):aI aj 101 #[.agg t.c.toArray] w (λv w'=>∃s:ad,v=s/\aV 1 5 w' s (az (pt t.s t.p))/\Ext w w'/\∀q,aB s q->w.heap.size<=q):=by
 refine ae.FK _ w _ ?_;(delta ae.np aG Y bG;dsimp only);refine a8 (vs:=t.c) rfl λw1 a b g=>⟨t.s,a.cell,t.p.c,qR a,(oT t.s t.p w1).use ?_⟩;rintro _ h ⟨d,rfl,e,hx,hf⟩;exact⟨d,rfl,d,rfl,e,b.trans hx,λq f=>eE b.size (hf q f)⟩
section
variable {B:Nat->Prop}{w w':J}{s:ad}{T:O aC}{a6 i:Nat}{most:Int}
end
structure lu(V:Nat->de)(n gen:Nat)(u:eR)(g:Nat->al)(P:Nat->av aF)(p:O Nat)(L:O aN):Prop where
 fr:∃j,j<n/\g j=false
 DC:sL ((gen%2:Nat):Int) (V (gen%2))=.ok (u,n,gen)
 JC:V (1-gen%2)=hO\/∃a g',sL ((1-gen%2:Nat):Int) (V (1-gen%2))=.ok (a,n,g')/\g'<gen
 mp:∃iE,iE<=gen/\fi (u.map:Int) (V u.map)=.ok ⟨4,iE,iH g ((n+7)/8)⟩
 g:∀no,g no=true↔no∈p\/no<2\/no=u.map
 cg:p.Nodup
 two:∀x∈p,2<=x/\x≠u.map/\x<n
 ok:(u.aL=0/\u.root=0/\p=[]/\L=[])\/eM P u.aL none none u.root p L
 eT:∀x∈p,∀cg,P x=some cg->gW gen cg.leaf x (V x) cg
 keys:u.keys=L.length
 kv:∀q∈L,cz q.1/\q.2.length<=24
 JD:nD u
 zw:nE u n
 JE:u.dv+1<=gen
theorem lu.agree{V a:Nat->de}{n gen:Nat}{u:eR}{g:Nat->al}{P P':Nat->av aF}{p:O Nat}{L:O aN}(h:lu V n gen u g P p L)(gd:∀j,g j=true->a j=V j)(b:∀x∈p,P x=P' x):lu a n gen u g P' p L:=by
 have h0:a (gen%2)=V (gen%2):=gd _ ((h.g _).2 (.inr (.inl I)));have h1:a (1-gen%2)=V (1-gen%2):=gd _ ((h.g _).2 (.inr (.inl I)));refine⟨h.fr,by rw[h0];exact h.DC,by rw[h1];exact h.JC,by rw[gd _ ((h.g _).2 (.inr (.inr rfl)))];exact h.mp,h.g,h.cg,h.two,h.ok.imp id λc=>(c.agree b).1,λx hx cg d=>?_,h.keys,h.kv,h.JD,h.zw,h.JE⟩;rw[gd _ ((h.g _).2 (.inl hx))];exact h.eT x hx cg (by rw[b x hx];exact d)
structure cc where
 st:Nat
 T:aK
 l:eC
 u:eR
 gen:Nat
 now:Nat
 first:Nat
 pending:Nat
 keys:Nat
 failed:al
def cc.V(S:cc)(j:Nat):de:=S.T.C.D.b5.getD j []
def cc.cells(S:cc):O aa:=ja S.T.bj S.T.C.D.d S.T.C.c S.T.sb S.l S.u S.gen S.now S.first S.pending S.keys S.failed
structure jW(w:J)(S:cc)(aM:O Nat)(bQ:O aN):Prop where
 v:Var w S.st S.cells 146
 t:b7 w S.T
 es:S.T.E S.st
 jX:lu S.V S.T.n S.gen S.u S.T.g S.T.P aM bQ
 gen:S.T.gen=S.gen+1
 num:S.now<18446744073709551616/\S.first<=S.now/\S.u.dv+1<=S.gen/\S.gen+2<18446744073709551616/\S.l.batch<=1000/\S.l.iR<=1048576/\1<=S.l.batch
 b6:∀j,S.T.g j=true->S.T.C.D.b6 j=true
structure dV(w:J)(S:cc)(pages:O Nat)(L:O aN)(aM:O Nat)(bQ:O aN):Prop extends jW w S aM bQ where
 ok:gL S.T pages L
 cg:pages.Nodup
 f:∀no,S.T.f no=true↔no∈pages\/no<2\/no=S.u.map
 two:∀x∈pages,2<=x/\x≠S.u.map
 kv:∀p∈L,cz p.1/\p.2.length<=24
 keys:S.keys=L.length
 px:S.pending<=1000
 live:S.failed=false->¬S.T.C.D.ro/\S.T.C.D.eI=(λ_=> [])/\1<=cl S.T
 dead:S.failed=true->S.T.C.D.ro/\L=bQ/\pages=aM/\S.pending=0
def bc.quiet(D:bc):Prop:=(∀k,D.calm k)/\D.ck.getD 3 0= -1
def cc.W(S:cc)(q:Nat):Prop:=S.T.M q/\(S.T.E q->q=S.st)
structure eg(k:Nat)(S aD:cc)(w w':J):Prop where
 st:aD.st=S.st
 d:aD.T.C.D.d=S.T.C.D.d
 n:aD.T.n=S.T.n
 l:aD.l=S.l
 a7:aD.T.C.D.a7<=S.T.C.D.a7+k
 q:S.T.C.D.quiet->aD.T.C.D.quiet
 ah:af S.W w w'
 c1:∀q,aD.T.M q->S.T.M q\/w.heap.size<=q
 E:aD.T.E=S.T.E
 G:aD.T.G=S.T.G
 r:aD.T.C.D.r1=S.T.C.D.r1
section
variable {w w':J}{C:b3}{X:Nat->Prop}{T:aK}{S aD:cc}{pages aM:O Nat}{L bQ:O aN}
theorem jW.nN(h:jW w S aM bQ){q:Nat}(a:S.T.N q):S.W q:=⟨aK.gF a,λhe=>absurd a (h.t.kL he)⟩
theorem jW.DD(h:jW w S aM bQ):S.W S.st:=⟨.inr (.inr (.inr (.inl h.es))),λ_=>rfl⟩
theorem eg.back{k q:Nat}(h:eg k S aD w w')(b:q<w.heap.size)(a:aD.W q):S.W q:=⟨(h.c1 q a.1).resolve_right I,λhe=>(a.2 (by rw[h.E];exact he)).trans h.st⟩
theorem ec.jw(h:ec X w C){s:Nat->al}{z:Nat->O de}(hc:∀f∈C.ao,∀j:Nat,f.full=true->f.no=j->s j=true->f.gg=false)(b:∀j,s j=true->C.D.fa j=z j):
 ec X w {C with D:=C.D.jw s z}:=
 ⟨⟨h.raw.v,h.raw.f,h.raw.dev.jw s z,h.raw.b9,h.raw.cq,h.raw.hd,h.raw.a1⟩,h.inv.pins,λf hf a=>by
  obtain⟨no,aw,ay,c,d,e,i,g⟩:=h.inv.ok f hf a
  exact⟨no,aw,ay,c,d,e,λhs=>hc f hf no a aw hs,g⟩,h.inv.un,h.inv.fc,b⟩
theorem b7.jw(h:b7 w T){s:Nat->al}{z:Nat->O de}(hc:∀f∈T.C.ao,∀j:Nat,f.full=true->f.no=j->s j=true->f.gg=false)(a:∀j,s j=true->T.C.D.fa j=z j)(hs:∀j,s j=true->T.g j=true\/∀i,s i=true):
 b7 w (T.bC {T.C with D:=T.C.D.jw s z} T.P):=⟨h.t,h.s,h.ca.jw hc a,h.kq,h.dU,h.js,h.n,h.num,h.eT,hs,h.low⟩
theorem JF(h:ec X w C){j:Nat}(hs:C.D.b6 j=true):C.view j=C.D.now j:=by
 unfold b3.view
 cases hf:C.ao.find? λf=>f.full&&f.no==(j:Int) with
 |none=>rfl
 |some f=>
  have h1:=j6 hf;have h2:=je hf;simp only[c5,j2]at h1;obtain⟨no,aw,ay,c,d,a,b,e⟩:=h.inv.ok f h2 h1.1;have:no=j:=by omega
  subst this;exact a (b hs)
theorem JG(h:ec X w C){j:Nat}(hs:C.D.b6 j=true)(a:C.D.eI j=[]):C.view j=C.D.b5.getD j []:=by
 rw[JF h hs,yQ _ (λx hx=>(h.raw.dev.wn x hx).1),if_pos (by rw[h.inv.pg j hs,a])]
theorem dV.view(h:dV w S pages L aM bQ)(a:S.failed=false){j:Nat}(b:S.T.g j=true):S.T.C.view j=S.V j:=
 JG h.t.ca (h.b6 j b) (by rw[(h.live a).2.1])
theorem jW.set(h:jW w S aM bQ){i:Nat}{x:aa}(hi:i<19):(∃u:aa,w.cell? ⟨S.st,i,none⟩=some u)/\w.frozen? ⟨S.st,i,none⟩=false/\
 Var (w.setCell ⟨S.st,i,none⟩ x) S.st (S.cells.set i x) 146/\b7 (w.setCell ⟨S.st,i,none⟩ x) S.T/\af (λq=>q=S.st) w (w.setCell ⟨S.st,i,none⟩ x):=by
 obtain⟨aw,ay⟩:=eB h.v (i:=i) (by exact hi);exact⟨aw,ay,eA h.v (i:=i) x,h.t.jv h.es (dZ w S.st i x),dZ w S.st i x⟩
end
theorem gW.mono{gen a no:Nat}{leaf:al}{l:de}{n:aF}(h:gW gen leaf no l n)(hg:gen<=a):gW a leaf no l n:=by
 obtain⟨p,h1,h2,b⟩:=h;exact⟨p,h1,eE h2 hg,b⟩
section
variable {w w':J}{C:b3}{X:Nat->Prop}{T:aK}{S aD:cc}{pages aM:O Nat}{L bQ:O aN}
theorem JH{aE:bc}(h:ec X w C)(hd:df w' aE)(e:aE.d=C.D.d)(g:kN aE C.D)(k:∀i,2<=i->aE.now i=C.D.now i)(hc:af (cn C.D) w w')(hf:∀q,cn aE q->cn C.D q\/w.heap.size<=q):
 ec X w' {C with D:=aE}/\∀j,2<=j->({C with D:=aE}:b3).view j=C.view j:=by
 have o:=hc.size;have l:∀q,q<w.heap.size->c9 {C with D:=aE} q->c9 C q:=λq a b=>by
  rcases b with h1|h1|h1
  .exact .inl h1
  .exact .inr (.inl h1)
  .exact .inr (.inr ((hf q h1).resolve_right I))
 refine⟨⟨h.raw.qG hd e hc hf,h.inv.pins,λf p r=>?_,h.inv.un,λq a=>⟨ff (h.inv.fc q a).1 o,λb=>(h.inv.fc q a).2 (l q (h.inv.fc q a).1 b)⟩,g.2.2⟩,λj s=>?_⟩
 .obtain⟨no,aw,ay,t,u,v,x,m⟩:=h.inv.ok f p r
  exact⟨no,aw,by rw[show({C with D:=aE}:b3).D.n=aE.n from rfl,g.1];exact ay,bw.re t hc (λq _ c y=>c.1 (.inr (.inr y))) λq a c=>⟨λb=>c.1 (l q a b),c.2⟩,u,λhd=>by show _=aE.now no;rw[k no m];exact v hd,λhs=>x (g.2.1 _ hs),m⟩
 .unfold b3.view
  dsimp only
  cases C.ao.find? λf=>f.full&&f.no==(j:Int) with
  |some f=>rfl
  |none=>exact k j s
theorem b7.DE{aJ:b3}{P:Nat->av aF}(h:b7 w T)(a:ec T.X w' aJ)(hc:af (c9 T.C) w w')(e:aJ.c=T.C.c)(b:aJ.D.n=T.C.D.n)(d:∀no cg,P no=some cg->no<T.n/\gW T.gen cg.leaf no (aJ.view no) cg)(f:∀j,aJ.D.b6 j=true->T.g j=true\/aJ.D.ro):
 b7 w' (T.bC aJ P):=by
 have hx:=h.ca.inv.fc;refine⟨?_,h.s.ah hc λq i hf=>(hx q (.inr (.inl i))).2 hf,a,h.kq,h.dU,h.js,b.trans h.n,h.num,d,f,h.low⟩;have:=h.t.ah hc λhf=>(hx T.bj (.inl rfl)).2 hf;unfold lW at this⊢;rw[←e]at this;exact this
def aK.mI(T:aK)(gen:Nat):aK:={T with gen:=gen}
theorem b7.JI{gen:Nat}(h:b7 w T)(b:Var w' T.bj (lW (T.mI gen)) 243)(hc:af (λq=>q=T.bj) w w')(h1:T.gen<=gen)(h2:gen<18446744073709551616):b7 w' (T.mI gen):=
 ⟨b,h.s.ah hc λq c e=>h.kq (e▸c),h.ca.ah hc λq e=>.inl e,h.kq,h.dU,h.js,h.n,⟨h.num.1,h.num.2.1,h2⟩,λno cg a=>⟨(h.eT no cg a).1,(h.eT no cg a).2.mono h1⟩,h.b6,h.low⟩
theorem JJ(h:b7 w T){gen:Nat}(h1:T.gen<=gen)(h2:gen<18446744073709551616):
 aI aj 148 #[.pointer (some T.bj),.int .u64 (gen:Nat)] w (λv w'=>v=.tuple #[]/\b7 w' (T.mI gen)/\af (λq=>q=T.bj) w w'):=by
 refine ae.Ft _ _ w _ ?_;(delta ae.sh ak st;dsimp only);obtain⟨aw,ay⟩:=eB h.t (i:=2) (by simp[lW]);have a:=eA h.t (i:=2) (.int .u64 (gen:Nat));have hc:=dZ w T.bj 2 (.int .u64 (gen:Nat));refine⟨λ_=>⟨_,rfl,by rw[aA];exact aw,by rw[aA];exact ay,aX ?_⟩,λb=>(by cases b)⟩;rw[aA,cT];exact⟨rfl,h.JI a hc h1 h2,hc⟩
def DF(aD:cc)(gen:Nat)(g:Nat->al)(pages:O Nat)(L:O aN)(clock dv:Nat):Prop:=
 (∀j,g j=true->aD.T.C.D.eI j=[])\/
 ∃ (a:eR) (aw:Nat->al) (c:Nat->av aF) (b:de),(∀j,aD.T.C.D.eI j=if j=(gen+1)%2 then [b] else [])/\lu (λj=>if j=(gen+1)%2 then b else aD.V j) aD.T.n (gen+1) a aw c pages L/\a.clock=clock/\a.dv=dv
def zx(S:cc)(pages:O Nat)(L:O aN)(aM:O Nat)(bQ:O aN)(w:J)(v:aa)(w':J):Prop:=
 ∃aD,eg 100 S aD w w'/\aD.now=S.now/\
  ((v=.int .i64 0/\dV w' aD pages L pages L/\aD.failed=false/\aD.gen=S.gen+1/\aD.u.clock=S.now/\aD.u.dv=S.u.dv+1/\aD.pending=0)\/
   (v=.int .i64 3/\¬S.T.C.D.quiet/\dV w' aD aM bQ aM bQ/\aD.failed=true/\aD.u=S.u/\aD.gen=S.gen/\(∀j,S.T.g j=true->aD.V j=S.V j)/\DF aD S.gen S.T.g pages L S.now (S.u.dv+1)))
end
section
variable {w w' w1:J}{C:b3}{X:Nat->Prop}{T:aK}{S aD kn:cc}{pages aM:O Nat}{L bQ:O aN}{f2:Nat->al}{aJ:b3}{P':Nat->av aF}
theorem JK{V:Nat->de}{no:Nat}{i:Nat->av aF}(h:dV w S pages L aM bQ)(k:f2=dt (dt S.T.f no true) S.u.map false)(K:(S.T.f no||S.T.g no)=false)(A:2<=no)(B:no<S.T.n)(cU:L.length<4096)(l:∀x∈pages,i x=S.T.P x)
 (D:V ((S.gen+1)%2)=eG ((S.gen+1)%2) (jS ⟨S.T.root,S.T.aL,no,S.now,S.u.dv+1,L.length⟩ S.T.n (S.gen+1))) (gd:∀j,j≠(S.gen+1)%2->V j=if j=no then eG no ⟨4,S.gen+1,iH f2 ((S.T.n+7)/8)⟩ else if S.T.g j=true then S.V j else S.T.C.view j)
 (hg:∀j,S.T.g j=true->S.V j=S.T.C.view j):lu V S.T.n (S.gen+1) ⟨S.T.root,S.T.aL,no,S.now,S.u.dv+1,L.length⟩ f2 i pages L:=by
 have E:=h.t.s.bu;have F:=h.num;have m:=h.t.num;have o:=h.jX.zw;have M:=o.2.2.2.2.1;have p:S.T.f S.u.map=true:=(h.f _).2 (.inr (.inr rfl));have q:S.T.f no=false:=by cases N:S.T.f no<;>simp_all
 have r:∀x∈pages,x≠no:=λx hx e=>by
  have:=(h.f x).2 (.inl hx);rw[e,q]at this;cases this
 have G:∀x∈pages,x<S.T.n:=λx hx=>Nat.lt_of_not_le λe=>by
  have:=h.t.s.pf x e;rw[(h.f x).2 (.inl hx)]at this;cases this
 have H:∀j,j≠(S.gen+1)%2->j≠no->V j=S.T.C.view j:=λj h1 h2=>by
  rw[gd j h1,if_neg h2];by_cases e:S.T.g j=true
  .rw[if_pos e,hg j e]
  .rw[if_neg e]
 have v:nE ⟨S.T.root,S.T.aL,no,S.now,S.u.dv+1,L.length⟩ S.T.n:=by
  refine⟨?_,m.2.1,m.1,B,A,E⟩;rcases h.ok with ⟨a1,a2,_⟩|b
  .exact⟨λ_=>a1,λ_=>a2⟩
  .obtain⟨cg,O,_,a2,_,_⟩:=b.jm
   have:=(h.two S.T.root (by rw[a2];simp)).1;constructor
   .intro e;have e:S.T.root=0:=e;omega
   .intro e
    have e:S.T.aL=0:=e;rw[e]at b;exact b.elim
 have y:nD ⟨S.T.root,S.T.aL,no,S.now,S.u.dv+1,L.length⟩:=⟨by show S.T.root<_;omega,by show S.T.aL<_;omega,by show no<_;omega,F.1,by show S.u.dv+1<_;omega,by show L.length<_;omega⟩;refine⟨⟨S.u.map,o.2.2.2.1,by rw[k];unfold dt;rw[if_pos rfl]⟩,?_,.inr ⟨S.u,S.gen,?_,I⟩,⟨S.gen+1,bl _,?_⟩,λj=>?_,h.cg,λx hx=>⟨(h.two x hx).1,r x hx,G x hx⟩,?_,λx hx cg z=>?_,rfl,h.kv,y,v,by show S.u.dv+1+1<=S.gen+1;omega⟩
 .rw[D]
  exact Cp y v I I
 .have e:1-(S.gen+1)%2=S.gen%2:=by omega
  have J:S.T.g (S.gen%2)=true:=(h.jX.g _).2 (.inr (.inl I));rw[e,gd _ I,if_neg I,if_pos J];exact h.jX.DC
 .show fi (no:Int) (V no)=_
  rw[gd _ I,if_pos rfl];exact vQ I ⟨(by decide:1<=4),(by decide:4<=4),by show S.gen+1<_;omega,by show(iH _ _).length<=232;rw[wI];omega⟩
 .rw[k]
  show dt (dt S.T.f no true) S.u.map false j=true↔j∈pages\/j<2\/j=no;unfold dt;by_cases c:j=S.u.map
  .rw[if_pos c]
   refine⟨λh=>(by cases h),λa=>?_⟩;rcases a with a|a|a
   .exact absurd c (h.two j a).2
   .omega
   .rw[←c,a,q]at p;cases p
  .rw[if_neg c]
   by_cases d:j=no
   .rw[if_pos d];exact⟨λ_=>.inr (.inr d),λ_=>rfl⟩
   .rw[if_neg d,h.f j]
    constructor
    .rintro(a|a|a)
     .exact .inl a
     .exact .inr (.inl a)
     .exact absurd a c
    .rintro(a|a|a)
     .exact .inl a
     .exact .inr (.inl a)
     .exact absurd a d
 .rcases h.ok with ⟨a1,a2,a3,a4⟩|b
  .exact .inl ⟨a1,a2,a3,a4⟩
  .exact .inr (b.agree λx hx=>(l x hx).symm).1
 .rw[l x hx]at z
  rw[H x (by have:=(h.two x hx).1;omega) (r x hx),←h.gen];exact(h.t.eT x cg z).2
end
end Go.Proofs.YtcmgnhkpfllinaaGreat
