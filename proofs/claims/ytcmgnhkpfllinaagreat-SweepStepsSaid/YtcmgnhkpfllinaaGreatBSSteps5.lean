/- Contracts of the functions that the statement reaches, and the plain laws over them; each theorem stands with its conditions. -/
import Derived.Test.YtcmgnhkpfllinaaGreatBSSteps4
namespace Go.Proofs.YtcmgnhkpfllinaaGreat
open Go aQ Go.Proofs.Tryz
def De(T:aK)(aP:O Nat)(dP:O aM)(w:J)(v:aa)(w':J):Prop:=
 ∃au:aK,b_ w' au/\bS T au w w' 100/\au.E=T.E/\au.G=T.G/\
  ((v=.int .i64 2/\cm T<2*T.aL+3/\au=T)\/
   (v=.int .i64 0/\2*T.aL+3<=cm T/\(∃pages,cm T<=cm au+(2*T.aL+3)/\gP au pages dP/\pages.Nodup/\(∀no∈pages,no∈aP\/(T.f no||T.g no)=false)/\∀no,au.f no=true↔(no∈pages\/(T.f no=true/\no∉aP)))/\∀no,T.g no=true->au.P no=T.P no/\au.C.view no=T.C.view no)\/
   (v=.int .i64 3/\¬T.C.D.calm 100/\au.root=T.root/\au.aL=T.aL/\au.f=T.f/\∀no,(T.f no||T.g no)=true->au.P no=T.P no/\au.C.view no=T.C.view no))
theorem wH.ah{T:aK}{aJ:b4}{aP:O Nat}{dP:O aM}{w w1 w':J}{v:aa}{k:Nat}(h:wH (T.bA aJ T.P) aP dP w1 v w')(e:bS T (T.bA aJ T.P) w w1 k)(r:k<=40)(f:∀j,aJ.view j=T.C.view j)(i:2*T.aL+3<=cm T):De T aP dP w v w':=by
 obtain⟨au,h1,h2,l,m,n⟩:=h;refine⟨au,h1,(e.trans h2).mono I,l,m,?_⟩;have o:cm (T.bA aJ T.P)=cm T:=rfl;have p:(T.bA aJ T.P).aL=T.aL:=rfl;rcases n with ⟨_,b,_⟩|⟨rfl,b,d,c⟩|⟨rfl,b,d,c,q,g⟩
 .rw[o,p]at b;omega
 .exact .inr (.inl ⟨rfl,i,d,λno a=>⟨(c no a).1,(c no a).2.trans (f no)⟩⟩)
 .exact .inr (.inr ⟨rfl,λhc=>b (e.calm 60 (gm hc I)),d,c,q,λno a=>⟨(g no a).1,(g no a).2.trans (f no)⟩⟩)
theorem nr(w:J)(s:ad):aI aj 122 #[s] w (λv w'=>v=.bool (decide (1<=s.len/\s.len<=24))/\w=w'):=by
 refine okF (ae.nr s) ax.nr func122 ?_;unfold ae.nr;refine⟨?_,rfl⟩
 congr 1
 rw[e0,c8,cg,cg,cg];omega
theorem zj{T:aK}{w:J}{pages:O Nat}{L:O aM}{k:Key}(h:b_ w T)(l:gP T pages L):∃steps,nQ T.P k T.aL T.root steps/\
 ((steps=[]/\T.aL=0/\pages=[]/\L=[])\/(∃ (a:Nat) (cc:aD) (fc dL:av Key) (b:O (Nat×aD×Nat)) (f:O Nat) (c d:O aM),steps=b++ [(a,cc,0)]/\Ctx T.P k T.aL 1 fc dL b f c d/\T.P a=some cc/\gW cc/\cc.within fc dL/\cc.keys≠ []/\(b≠ []->2<=cc.keys.length)/\fy fc dL k/\
   pages.Perm (a::f)/\L=c++(cc.dE++d)/\∀u,Loc k u->u L=c++(u cc.dE++d))):=by
 rcases l with ⟨h1,h2,m,n⟩|g
 .exact⟨[],by rw[h1];rfl,.inl ⟨rfl,h1,m,n⟩⟩
 .cases i:T.aL with
  |zero=>rw[i]at g;exact g.elim
  |succ t=>
   rw[i]at g;obtain⟨rest,b,a,cc,fc,dL,f,c,d,r1,aG,cr,aV,dv,o,p,q,r,j,s,v⟩:=Ctx.down (P:=T.P) (k:=k) (top:=t+1) (bQ:=L) .top g (λh=>absurd rfl h) ⟨λ_ e=>(by cases e),λ_ e=>(by cases e)⟩ (by simp) (λu _=>by simp);rw[hA]at aG;rw[fu]at j;exact⟨rest,r1,.inr ⟨a,cc,fc,dL,b,f,c,d,aG,cr,aV,dv,o,p,q,r,j,s,v⟩⟩
theorem gP.low{T:aK}{pages:O Nat}{L:O aM}(h:gP T pages L)(cW:L.length<4096):T.aL<12/\pages.length<=L.length:=by
 rcases h with ⟨h1,_,a,_⟩|b
 .rw[h1,a];exact⟨I,cM _⟩
 .obtain⟨aw,ay,c⟩:=b.pages
  refine⟨?_,aw⟩;rcases dX T.aL 12 with h|h
  .exact h
  .have d:=c I
   have e:2^12<=2^T.aL:=tc (by decide) h;have f:(2:Nat)^12=4096:=by decide
   omega
theorem Df{w1:J}{T:aK}{aJ:b4}{pages:O Nat}{L dP:O aM}{k:Key}{steps:O (Nat×aD×Nat)}{s:ad}{a:O dy}{cc b:aD}{K V D:ad}(h:b_ w1 (T.bA aJ T.P))(H:¬aJ.D.ro)(N:gP T pages L)(cW:L.length<4096)(eo:pages.Nodup)(hf:∀x∈pages,T.f x=true)(m:aJ.D.a7<=900000000)
 (g:a.map dy.st=steps) (o:kx (λq=>¬(T.bA aJ T.P).M q) w1 s a) (Q:bT (λq=>¬(T.bA aJ T.P).M q) w1 b K V D) (p:gW b) (R:(steps=[]/\T.aL=0/\pages=[]/\b.keys≠ []/\bC b<=232/\b.dE=dP)\/(∃ (d:Nat) (fc dL:av Key) (c:O (Nat×aD×Nat)) (i:O Nat) (j l:O aM),steps=c++ [(d,cc,0)]/\Ctx T.P k T.aL 1 fc dL c i j l/\b.within fc dL/\(c≠ []->b.keys≠ [])/\pages.Perm (d::i)/\dP=j++(b.dE++l)/\bC b<=282)):
 aI aj 131 #[.pointer (some T.bh),s,dg b K V D] w1 (wH (T.bA aJ T.P) pages dP w1):=by
 obtain⟨r,ak⟩:=N.low cW;refine IX h H m r eo hf I λbO t ai a8 u v S w y=>?_;have U:s.len=a.length:=by
  have:=o.own.1;rw[fe _ (nP a)]at this;omega
 have z:bT (λq=>¬((T.bA aJ T.P).cy bO t).M q) ai b K V D:=(v.cd (lo:=0) (Q.a_ λq _ n=>⟨cM _,n⟩)).a_ λq _ n=>n.2;rcases R with ⟨h1,h2,W,X,Y,Z⟩|⟨d,fc,dL,c,i,j,l,C,E,aa,ab,F,ac,ae⟩
 .subst h1 W
  have af:a=[]:=by simpa using g
  exact IV (by rw[U,af];rfl) u z m (by
   have e:cm ((T.bA aJ T.P).cy bO t)=cm (T.bA aJ T.P):=rfl;omega) (by rw[w];simp) y p X Y Z
 .have hlen:a.length=c.length+1:=by
   have:=congrArg List.length g;rw[C,dn,cv,iN]at this;exact this
  have al:1+c.length=T.aL:=E.eM;have ag:=o.to v;have G:(a.take (a.length-1)).map dy.st=c/\(a[a.length-1]'I).no=d:=by
   rw[C]at g;have aw:(a.take (a.length-1)).map dy.st=(c++ [(d,cc,0)]).take (a.length-1):=by rw[←g,mc]
   refine⟨by rw[aw];exact mJ I,?_⟩;have ay:(a.map dy.st)[a.length-1]? =some (d,cc,0):=by
    rw[g,il I];have:a.length-1-c.length=0:=by omega
    rw[this];rfl
   rw[n2,dI I]at ay;have ah:=Option.some.inj ay;exact congrArg Prod.fst ah
  refine IU (k:=k) (cH:=i) (A:=j) (B:=l) (M:=b.dE) (lo:=fc) (hi:=dL) u ag z I (by show a.length=T.aL;omega) r m S (by rw[w];simp) (by rw[y];simp) ?_ ⟨p,aa,rfl,rfl⟩ ac.symm ?_ ae (λh=>ab λe=>?_) λx hx=>?_
  .rw[G.1]
   have:a.length=T.aL:=by omega
   rw[this];exact E
  .rw[G.2];exact F
  .rw[e]at hlen;simp at hlen;omega
  .exact hf x (F.mem_iff.2 (jC _ hx))
theorem kx.ext'{B C:Nat->Prop}{w w':J}{s:ad}{l:O dy}(h:kx B w s l)(hx:Ext w w')(a:∀q,B q->C q):kx C w' s l:=
 ⟨h.own.ext hx,λq b=>a q (h.pw q b),λx c=>((h.cd x c).ext hx).a_ λq _ d=>a q d⟩
theorem q8{a:O dy}{b:O (Nat×aD×Nat)}{c:Nat}{bB:aD}(d:a.map dy.st=b++ [(c,bB,0)]):∃h:0<a.length,(a[a.length-1]'I).n=bB:=by
 have hlen:a.length=b.length+1:=by
  have:=congrArg List.length d;rw[dn,cv,iN]at this;exact this
 refine⟨I,?_⟩;have ay:(a.map dy.st)[a.length-1]? =some (c,bB,0):=by
  rw[d,il I];have:a.length-1-b.length=0:=by omega
  rw[this];rfl
 rw[n2,dI I]at ay;exact congrArg (λx=>x.2.1) (Option.some.inj ay)
theorem IZ{w:J}{T:aK}{pages:O Nat}{L:O aM}{tk cV:ad}{key val:Key}(h:b_ w T)(a3:¬T.C.D.ro)(H:gP T pages L)(cW:L.length<4096)(eo:pages.Nodup)(hf:∀x∈pages,T.f x=true)(bX:T.C.D.a7<=800000000)
 (Q:Src 1 w tk (az key)) (R:∀q,aB tk q->q<w.heap.size/\¬T.M q) (an:Src 1 w cV (az val)) (a4:∀q,aB cV q->q<w.heap.size/\¬T.M q):
 aI aj 73 #[.pointer (some T.bh),tk,cV] w (λv w'=>(v=.int .i64 1/\¬(cw key/\val.length<=24)/\w=w')\/(cw key/\val.length<=24/\De T pages (gA L key val) w v w')):=by
 have a5:=len8 Q;have ao:=len8 an;refine okF (ae.uQ (some T.bh) tk cV) ax.uQ func73 ?_;(delta ae.uQ ak b8 aG bP aq ew z5 Y aV r1 oC lR;dsimp only);refine cx (λb w'=>b= !(decide (cw key))/\w=w') (λq c=>⟨λh=>(by cases h),λ_=>(nr w tk).use ?_⟩) ?_
 .rintro _ _ ⟨rfl,rfl⟩
  refine⟨_,rfl,c _ _ ⟨?_,rfl⟩⟩;unfold cw;rw[a5]
 rintro _ _ ⟨rfl,rfl⟩;refine⟨λd=>.inl ⟨rfl,λhg=>?_,rfl⟩,λd=>?_⟩
 .rw[dR hg.1,ao]at d
  have:¬(val.length:Int)>24:=by have:=hg.2;omega
  simp[this]at d
 have hg:cw key/\val.length<=24:=by
  by_cases h1:cw key
  .refine⟨h1,?_⟩
   rw[dR h1,ao]at d;have:¬(val.length:Int)>24:=by simpa using d
   omega
  .rw[h6 h1]at d;simp at d
 have bY:=h.s.bB;obtain⟨bZ,b0⟩:=H.low cW;have ap:Ext w w.drew:=cG w;have hd:=h.ext ap;refine aX ⟨λ_=>False,_,rfl,id,_,hd.cells.2.1,_,rfl,id,_,hd.cells.2.2.2.2,(y2 hd.s).use ?_⟩;rintro _ b1 ⟨rfl,av⟩;have a6:((T.n:Int)-eU (λi=>T.f i||T.g i) T.n)=(cm T:Nat):=by
  have:=nM (λi=>T.f i||T.g i) T.n;unfold cm;omega
 have a9:IntKind.wrap .i64 (IntKind.wrap .i64 (2*(T.aL:Int))+3)=((2*T.aL+3:Nat):Int):=by
  rw[bq (n:=2*(T.aL:Int)) I I,bq I I];omega
 rw[a6,a9];have o:=ap.trans av;have S:=h.ext o;refine⟨_,rfl,av,λd=>.inr ⟨hg.1,hg.2,T,S,(bS.ext T o).mono I,rfl,rfl,.inl ⟨rfl,?_,rfl⟩⟩,λd=>?_⟩
 .have d:((cm T:Nat):Int)<((2*T.aL+3:Nat):Int):=cj d
  omega
 have bb:2*T.aL+3<=cm T:=by
  have:¬((cm T:Nat):Int)<((2*T.aL+3:Nat):Int):=cE d;omega
 obtain⟨steps,aA,aC⟩:=zj (k:=key) S H;refine(za S I (Q.ext o) (λq c=>⟨fi (R q c).1 o.size,(R q c).2⟩) aA).use ?_;rintro _ z ⟨aJ,U,W,aE,bc⟩;have u:=((bS.ext T o).trans W).mono (l:=2*T.aL) I;rcases bc with ⟨s,a,rfl,m,X⟩|⟨rfl,bd⟩
 rotate_left
 .refine⟨⟨none,0,0⟩,3,rfl,λ_=>.inr ⟨hg.1,hg.2,T.bA aJ T.P,U,u.mono I,rfl,rfl,.inr (.inr ⟨rfl,λhc=>bd (gm hc I),rfl,rfl,rfl,λno _=>⟨rfl,aE no⟩⟩)⟩,λhx=>(by cases hx)⟩
 have b2:s.len=a.length:=by
  have:=X.own.1;rw[fe _ (nP a)]at this;omega
 have b3:=o.size;have b4:a.length=T.aL:=by
  have:=aA.length;rw[←m,dn]at this;exact this
 refine⟨s,0,rfl,λhx=>(by cases hx),λ_=>ba (vs:=[false,(),(),()]) rfl λb5 aF be b6=>⟨aF.cn rfl (fM (b:=true) (K:=bI) (V:=bI) (D:=bI)),rfl,cT aF (us:=ec ⟨true,[],[],[]⟩ bI bI bI) rfl rfl λbi E bj b7=>?_⟩⟩;have Z:Ext z bi:=Ext.cC be bj (bk _);obtain⟨g5,bm⟩:∃g5,g5=z.heap.size:=⟨_,rfl⟩;rw[←bm]at E⊢
 obtain⟨cc,j⟩:∃cc:aD,cc=(if ca:0<a.length then (a[a.length-1]'I).n else ⟨true,[],[],[]⟩):=⟨_,rfl⟩;refine k9 (λp=>∃ (K V D:ad) (B:Nat->Prop),Ext z p/\Var p g5 (ec cc K V D) 169/\bT B p cc K V D) (λq c=>⟨λaa=>?_,λaa=>?_⟩) ?_
 .have ab:0<a.length:=by
   have:(s.len:Int)>0:=cj aa;omega
  rw[dif_pos ab]at j;have e:IntKind.wrap .i64 ((s.len:Int)-1)=((a.length-1:Nat):Int):=by rw[bq I I];omega
  obtain⟨A,ar,_,_,_,hu⟩:=X.at (i:=a.length-1) I;have F:=hu.ext Z;rw[e,dc];subst j;refine⟨A,ar,⟨I,I⟩,_,F.aW,_,F.a8,_,F.bg,_,F.fL,E.cn rfl fM,rfl,cT E (us:=ec (a[a.length-1]'I).n (a[a.length-1]'I).K (a[a.length-1]'I).V (a[a.length-1]'I).D) rfl rfl λbn bo bp cb=>?_⟩;have aH:Ext z bn:=Ext.cC Z bp I;exact c _ ⟨_,_,_,_,aH,bo,hu.cd.ext aH⟩
 .have ab:¬0<a.length:=by
   have:¬(s.len:Int)>0:=cE aa;omega
  rw[dif_neg ab]at j;subst j;exact c _ ⟨bI,bI,bI,λ_=>True,Z,E,bH.none _ _,bH.none _ _,c2.none _ _⟩
 rintro p ⟨K,V,D,B,G,br,bs⟩;have ce:=G.size;have cf:=W.ah.size
 have bt:gW cc/\bC cc<=232:=by
  rcases aC with ⟨h1,h2,r,t⟩|⟨aN,bB,fc,dL,aO,aP,aQ,aR,aG,cr,aV,dv,aS,bu,bv,aT,aU,bw,aY⟩
  .have ac:¬0<a.length:=by
    rw[h1]at m;have:a=[]:=by simpa using m
    rw[this];simp
   rw[j,dif_neg ac];exact⟨⟨⟨λ_ h=>(by cases h),List.Pairwise.nil⟩,rfl,rfl,rfl,λ_ h=>(by cases h)⟩,by decide⟩
  .rw[aG]at m
   obtain⟨aw,ay⟩:=q8 m;rw[j,dif_pos aw,ay];exact⟨dv,h.py _ _ aV⟩
 obtain⟨af,cg⟩:=bt;have ch:=(cI.eS (.inl af) I);have ci:∀q,T.N q->q<w.heap.size:=λq c=>h.lt (aK.gN c);have bx:Src 1 p tk (az key):=(Q.ah u.ah λq c ag=>(R q c).2 (aK.gN ag)).ext G;have bz:Src 1 p cV (az val):=(an.ah u.ah λq c ag=>(a4 q c).2 (aK.gN ag)).ext G;obtain⟨d0,d1,d2,d3⟩:=bK br;refine⟨_,d0,K,d1,V,d2,D,d3,(qv bs af I bx bz hg.1 hg.2).use ?_⟩;rintro _ bD ⟨dG,ee,c7,rfl,bE,bF⟩;refine⟨_,dG,ee,c7,true,rfl,ba (vs:=[false,(),(),()]) rfl λck aZ bG cl=>⟨aZ.cn rfl fM,rfl,cT aZ (us:=ec (g4 cc key val) dG ee c7) rfl rfl λa0 bJ bL co=>⟨λhx=>(by cases hx),λ_=>?_⟩⟩⟩;have a1:Ext bD a0:=Ext.cC bG bL (bk _);have ai:=(G.trans bF).trans a1;obtain⟨d0,d1,d2,d3⟩:=bK bJ;obtain⟨bl,bf,bM,al,bN,a2⟩:=IY af hg.1 hg.2;have bO:aJ.D.a7<=900000000:=by
  have:aJ.D.a7<=T.C.D.a7+2*T.aL:=u.a7;omega
 have bQ:bT (λq=>¬(T.bA aJ T.P).M q) a0 (g4 cc key val) dG ee c7:=(bE.ext a1).a_ λq _ c bR=>by have:=U.lt bR;omega
 have bU:=Df (dP:=gA L key val) (k:=key) (steps:=steps) (cc:=cc) (U.ext ai) (λe=>a3 λi=>W.b9.1▸e i) H cW eo hf bO m (X.ext' ai λq c=>c.2) bQ bl (by
  rcases aC with ⟨h1,h2,r,t⟩|⟨aN,bB,fc,dL,aO,aP,aQ,aR,aG,cr,aV,dv,aS,bu,bv,aT,aU,bw,aY⟩
  .have ac:¬0<a.length:=by omega
   rw[dif_neg ac]at j;refine .inl ⟨h1,h2,r,al,?_,?_⟩
   .have:bC cc=1:=by rw[j];rfl
    omega
   .rw[bf,j,t];rfl
  .rw[aG]at m
   obtain⟨aw,ay⟩:=q8 m;rw[dif_pos aw,ay]at j;rw[j]at bf bM al bN a2⊢;refine .inr ⟨aN,fc,dL,aO,aP,aQ,aR,aG,cr,λs hs=>?_,λ_=>al,aU,?_,by have:=h.py _ _ aV;omega⟩
   .rcases a2 s hs with rfl|am
    .exact aT
    .exact aS s am
   .rw[bf];exact aY (λL=>gA L key val) (GG key val))
 refine⟨_,d0,dG,d1,ee,d2,c7,d3,bU.use ?_⟩;intro v w' bV;have bW:=bV.ah (w:=w) ((u.trans (bS.ext (T.bA aJ T.P) ai)).mono (l:=40) I) (bk _) aE bb;obtain⟨au,h1,h2,r,t,am⟩:=bW;rcases am with ⟨rfl,y⟩|⟨rfl,y⟩|⟨rfl,y⟩
 .exact⟨2,rfl,.inr ⟨hg.1,hg.2,au,h1,h2,r,t,.inl ⟨rfl,y⟩⟩⟩
 .exact⟨0,rfl,.inr ⟨hg.1,hg.2,au,h1,h2,r,t,.inr (.inl ⟨rfl,y⟩)⟩⟩
 .exact⟨3,rfl,.inr ⟨hg.1,hg.2,au,h1,h2,r,t,.inr (.inr ⟨rfl,y⟩)⟩⟩
theorem Dg{l:O aM}{k:Key}(h:(eR l k).length=l.length):∀p∈l,p.1≠k:=by
 intro p a;unfold eR at h;have:=(ik (p:=λp:aM=>decide (p.1≠k))).1 (List.Sublist.eq_of_length List.filter_sublist h);exact cj (this p a)
theorem Dh{L A B M:O aM}{k:Key}(cW:L=A++(M++B))(hu:eR L k=A++(eR M k++B)):e3 L k=e3 M k:=by
 have h1:(eR A k).length<=A.length:=k3 _ _;have h2:(eR B k).length<=B.length:=k3 _ _;have b:=congrArg List.length hu;rw[cW,sy,sy]at b;simp only[cv]at b;have ar:=Dg (l:=A) (k:=k) I;have c:=Dg (l:=B) (k:=k) I;have d:A.find? (λp=>decide (p.1=k))=none:=j8.2 λp a=>by simpa using ar p a
 have e:B.find? (λp=>decide (p.1=k))=none:=j8.2 λp a=>by simpa using c p a
 unfold e3;rw[cW,List.find?_append,List.find?_append,d,e];simp
theorem Di{n:aD}{k:Key}(h:gW n):e3 n.dE k=if g3 n.keys k then n.vals[cL n.keys k]? else none:=by
 have s:=qL n.keys k;have w:=h.eY;have t:∀ (j:Nat) (f:j<n.keys.length),j<cL n.keys k->bo n.keys[j] k:=λj f h1=>o_ h1 f;have u:n.keys[cL n.keys k]? ≠some k->∀ (j:Nat) (f:j<n.keys.length),cL n.keys k<=j->bo k n.keys[j]:=λhe j f h1=>Dd w h1 f he;have l:n.dE=n.keys.zip n.vals:=rfl;unfold g3;rw[l];generalize cL n.keys k=i at s t u⊢;obtain⟨a,b,c,d,g,v,z,A,B,H,J,K,L⟩:=zi h s;have C:n.keys.zip n.vals=a.zip c++b.zip d:=by rw[g,v];exact o9 I
 have D:(a.zip c).find? (λp:aM=>decide (p.1=k))=none:=j8.2 λp l=>by
  have q:=(rn l).1;obtain⟨j,f,r⟩:=fv q;have h1:=t j (by rw[g,cv];omega) I;simp only[g,n3 f,r]at h1;simpa using nA h1
 unfold e3;rw[C,List.find?_append,D];by_cases he:n.keys[i]? =some k
 .rw[if_pos (by simpa using he)]
  have E:∃m,b=k::m:=by
   cases b with
   |nil=>rw[g,il I]at he;simp at he
   |cons y m=>
    rw[g,il I,z,nV]at he;simp at he;exact⟨m,by rw[he]⟩
  obtain⟨m,rfl⟩:=E;obtain⟨x,o,rfl⟩:∃x o,d=x::o:=by
   cases d with
   |nil=>simp at B
   |cons x o=>exact⟨x,o,rfl⟩
  rw[v,il I,A,nV];simp
 .rw[if_neg (by simpa using he)]
  have F:=u he;have G:(b.zip d).find? (λp:aM=>decide (p.1=k))=none:=j8.2 λp l=>by
   have q:=(rn l).1;obtain⟨j,f,r⟩:=fv q;have h1:=F (i+j) (by rw[g,cv];omega) I;have e:(a++b)[i+j]'(by rw[cv];omega)=b[j]:=by
    rw[pK I];congr 1;omega
   simp only[g,e,r]at h1;have:=nA h1;simpa using λh=>this h.symm
  rw[G];rfl
def zk(T:aK)(L:O aM)(key:Key)(w:J)(v:aa)(w':J):Prop:=
 ∃aJ:b4,b_ w' (T.bA aJ T.P)/\bS T (T.bA aJ T.P) w w' 30/\(∀j,aJ.view j=T.C.view j)/\
  ((v=.tuple #[(),false,(0:Int)]/\(cw key->e3 L key=none))\/
   (∃ (t:ad) (x:Key),v=.tuple #[t,true,(0:Int)]/\cw key/\e3 L key=some x/\bu (λq=>¬(T.bA aJ T.P).M q) w' t x)\/
   (v=.tuple #[(),false,(3:Int)]/\cw key/\¬T.C.D.calm 30))
theorem zl{w:J}{T:aK}{pages:O Nat}{L:O aM}{tk:ad}{key:Key}(h:b_ w T)(S:gP T pages L)(aP:T.C.D.a7<=800000000)(l:Src 1 w tk (az key))(v:∀q,aB tk q->q<w.heap.size/\¬T.M q):
 aI aj 64 #[.pointer (some T.bh),tk] w (zk T L key w):=by
 have U:=len8 l;have aQ:=h.num.2.1;have aR:T.bA T.C T.P=T:=rfl;refine okF (ae.uM (some T.bh) tk) ax.uM func64 ?_;(delta ae.uM ak b8 ew aq aV r1 z5 Y kL aO;dsimp only);refine cx (λb w'=>b= !(decide (cw key))/\w=w') (λq m=>⟨λh=>(by cases h),λ_=>(nr w tk).use ?_⟩) ?_
 .rintro _ _ ⟨rfl,rfl⟩
  refine⟨_,rfl,m _ _ ⟨?_,rfl⟩⟩;unfold cw;rw[U]
 rintro _ _ ⟨rfl,rfl⟩;refine⟨λf=>⟨λh=>(by cases h),λ_=>?_⟩,λf=>?_⟩
 .have:¬cw key:=by simpa using f
  exact⟨T.C,h,(bS.refl T w).mono I,λ_=>rfl,.inl ⟨rfl,λhx=>absurd hx this⟩⟩
 have hg:cw key:=by simpa using f
 obtain⟨steps,x,y⟩:=zj (k:=key) h S;refine(za h I l v x).use ?_;rintro _ W ⟨aJ,n,g,j,X⟩;rcases X with ⟨s,a,rfl,d,z⟩|⟨rfl,Z⟩
 rotate_left
 .exact⟨⟨none,0,0⟩,3,rfl,λ_=>⟨aJ,n,g.mono I,j,.inr (.inr ⟨rfl,hg,λhc=>Z (gm hc I)⟩)⟩,λhx=>(by simp at hx)⟩
 have aS:s.len=a.length:=by
  have:=z.own.1;rw[fe _ (nP a)]at this;omega
 have aT:a.length=T.aL:=by
  have:=x.length;rw[←d,dn]at this;exact this
 refine⟨s,0,rfl,λhx=>⟨aJ,n,g.mono I,j,.inl ⟨rfl,λ_=>?_⟩⟩,λhx=>?_⟩
 .have aa:a.length=0:=by
   have:(s.len:Int)=0:=by simpa using hx
   omega
  rcases y with ⟨_,_,_,ab⟩|⟨ac,bB,fc,dL,af,ag,ai,al,aG,_⟩
  .rw[ab];rfl
  .rw[aG]at d
   obtain⟨aw,_⟩:=q8 d;omega
 have aa:0<a.length:=by
  have:¬(s.len:Int)=0:=by simpa using hx
  omega
 have e:IntKind.wrap .i64 ((s.len:Int)-1)=((a.length-1:Nat):Int):=by rw[bq I I];omega
 obtain⟨A,ar,_,_,_,hu⟩:=z.at (i:=a.length-1) I;rcases y with ⟨h1,_⟩|⟨ac,bB,fc,dL,af,ag,ai,al,aG,cr,aV,dv,aU,aX,aY,aZ,a0,am,an⟩
 .rw[h1]at d
  have:=congrArg List.length d;simp at this;omega
 have B:=d;rw[aG]at B;obtain⟨aw,ay⟩:=q8 B;rw[e,dc];generalize a1:(a[a.length-1]'I)=u at hu ay;obtain⟨a2,un,a3,K,V,D⟩:=u;obtain rfl:un=bB:=ay;refine⟨A,ar,⟨I,I⟩,_,hu.aW,K,hu.a8,V,hu.bg,D,hu.fL,ba (vs:=[false,(),(),()]) rfl λa4 E ao a5=>⟨E.cn rfl fM,rfl,cT E (us:=ec un K V D) rfl rfl λo F ap a6=>?_⟩⟩;have p:Ext W o:=Ext.cC ao ap (bk _);obtain⟨d0,d1,d2,d3⟩:=bK F;have a9:=(cI.eS (.inl dv) (by have:=h.py _ _ aV;omega));have au:Src 1 o tk (az key):=(l.ah g.ah λq m av=>(v q m).2 (aK.gN av)).ext p;have G:bT (λq=>w.heap.size<=q/\¬(T.bA aJ T.P).M q) o un K V D:=hu.cd.ext p;refine⟨_,d0,K,d1,V,d2,D,d3,(qs G au dv.eY I).use ?_⟩;rintro _ aA ⟨rfl,r⟩;have H:=p.trans r;have N:=n.ext H;have Q:bS T (T.bA aJ T.P) w aA 30:=(g.trans (bS.ext _ H)).mono I;have t:e3 L key=e3 un.dE key:=Dh am (an (λL=>eR L key) (yi key));rw[Di dv]at t;refine⟨_,_,rfl,λc=>⟨aJ,N,Q,j,.inl ⟨rfl,λ_=>?_⟩⟩,λc=>?_⟩
 .have c:g3 un.keys key=false:=by simpa using c
  rw[t,if_neg (by rw[c];simp)]
 .have c:g3 un.keys key=true:=by simpa using c
  have aC:cL un.keys key<un.keys.length:=(jB.1 (cj c)).1;have R:cL un.keys key<un.vals.length:=by rw[dv.len];exact aC
  obtain⟨f0,f1,f2,f3⟩:=bK (F.ext r);obtain⟨aD,cV,aE,aF,aH,aN,_⟩:=bH.at (G.ext r).vals R;refine⟨V,f2,aD,aE,aF,cV,aH,aJ,N,Q,j,.inr (.inl ⟨cV,un.vals[cL un.keys key],rfl,hg,?_,bu.a_ aN λq _ f=>f.2⟩)⟩;rw[t,if_pos c,dI R]
theorem I0{n:aD}{k:Key}(h:gW n)(w:g3 n.keys k=true):gW (l1 n k)/\(l1 n k).dE=eR n.dE k/\bC (l1 n k)<=bC n/\n.keys.length=(l1 n k).keys.length+1/\(∀s∈(l1 n k).keys,s∈n.keys):=by
 have o:=qL n.keys k;have A:=h.eY;have l:n.dE=n.keys.zip n.vals:=rfl;have he:n.keys[cL n.keys k]? =some k:=cj w;rw[l];unfold l1;generalize cL n.keys k=i at o he⊢;obtain⟨a,b,c,d,j,m,q,B,r,C,H,D,J⟩:=zi h o;have g:n.keys.zip n.vals=a.zip c++b.zip d:=by rw[j,m];exact o9 I
 have E:∃e,b=k::e:=by
  cases b with
  |nil=>rw[j,il I]at he;simp at he
  |cons y e=>
   rw[j,il I,q,nV]at he;simp at he;exact⟨e,by rw[he]⟩
 obtain⟨e,rfl⟩:=E;obtain⟨x,f,rfl⟩:∃x f,d=x::f:=by
  cases d with
  |nil=>simp at r
  |cons x f=>exact⟨x,f,rfl⟩
 have aw:n.keys.drop (i+1)=e:=by rw[j,show a++k::e=(a++ [k])++e by simp];exact drop_left' (by simp[q])
 have ay:n.vals.drop (i+1)=f:=by rw[m,show c++x::f=(c++ [x])++f by simp];exact drop_left' (by simp[B])
 rw[C,D,aw,ay];have F:(a++k::e).Pairwise bo:=by rw[←j];exact A
 obtain⟨hX,ey,t⟩:=mf.1 F;have u:=jD.1 ey;have v:∀z,z∈a++e->z∈n.keys:=λz g=>by
  rw[j];simp only[cO,c0]at g⊢;rcases g with h1|h1
  .exact .inl h1
  .exact .inr (.inr h1)
 refine⟨⟨⟨λz g=>h.ok z (v z g),mf.2 ⟨hX,u.2,λy G z g=>t y G z (jC _ g)⟩⟩,h.leaf,?_,h.kids,λz g=>h.vals z ?_⟩,?_,?_,?_,v⟩
 .show(c++f).length=(a++e).length
  simp only[cv,gh]at r⊢;omega
 .rw[m]
  have g:z∈c++f:=g;simp only[cO,c0]at g⊢;rcases g with h1|h1
  .exact .inl h1
  .exact .inr (.inr h1)
 .show(a++e).zip (c++f)=_
  rw[g,o9 I,sy,List.zip_cons_cons];have f1:eR (a.zip c) k=a.zip c:=sA λp l=>nA (t _ (rn l).1 k nY);have f2:eR ((k,x)::e.zip f) k=e.zip f:=by
   have:eR ((k,x)::e.zip f) k=eR (e.zip f) k:=by unfold eR;simp
   rw[this];exact sA λp l=>(nA (u.1 _ (rn l).1)).symm
  rw[f1,f2]
 .rw[q7 h.leaf,q7 (n:={n with keys:=a++e,vals:=c++f}) h.leaf]
  show 1+(List.zipWith ky (a++e) (c++f)).sum<=_;rw[j,m,pM I,pM I,lJ,lJ,List.zipWith_cons_cons,rp];omega
 .show n.keys.length=(a++e).length+1
  rw[j];simp only[cv,gh];omega
structure i_(T au:aK):Prop where
 root:au.root=T.root
 aL:au.aL=T.aL
 f:au.f=T.f
 eD:∀no,(T.f no||T.g no)=true->au.P no=T.P no/\au.C.view no=T.C.view no
theorem i_.refl(T:aK):i_ T T:=⟨rfl,rfl,rfl,λ_ _=>⟨rfl,rfl⟩⟩
theorem i_.bA{T:aK}{aJ:b4}(a:∀j,aJ.view j=T.C.view j):i_ T (T.bA aJ T.P):=⟨rfl,rfl,rfl,λno _=>⟨rfl,a no⟩⟩
theorem i_.trans{T au a:aK}(h1:i_ T au)(h2:i_ au a)(hg:au.g=T.g):i_ T a:=
 ⟨h2.root.trans h1.root,h2.aL.trans h1.aL,h2.f.trans h1.f,λno h=>by
  have b:=h1.eD no h
  have c:=h2.eD no (by rw[h1.f,hg];exact h)
  exact⟨c.1.trans b.1,c.2.trans b.2⟩⟩
structure Dj(T au:aK)(aP:O Nat)(dP:O aM):Prop where
 ok:∃pages,cm T<=cm au+(2*T.aL+3)/\gP au pages dP/\pages.Nodup/\(∀no∈pages,no∈aP\/(T.f no||T.g no)=false)/\∀no,au.f no=true↔(no∈pages\/(T.f no=true/\no∉aP))
 eD:∀no,T.g no=true->au.P no=T.P no/\au.C.view no=T.C.view no
theorem i_.ok{T au:aK}{pages:O Nat}{L:O aM}(h:i_ T au)(a:gP T pages L)(hf:∀x∈pages,T.f x=true):gP au pages L:=by
 unfold gP at a⊢;rw[h.root,h.aL];rcases a with a|b
 .exact .inl a
 .exact .inr (eO.agree b λx hx=>(h.eD x (by rw[hf x hx];rfl)).1.symm).1
def I1(T:aK)(aP:O Nat)(L:O aM)(key:Key)(w:J)(v:aa)(w':J):Prop:=
 ∃au:aK,b_ w' au/\bS T au w w' 100/\au.E=T.E/\au.G=T.G/\
  ((v=.tuple #[false,(1:Int)]/\¬cw key/\i_ T au)\/
   (v=.tuple #[false,(0:Int)]/\cw key/\e3 L key=none/\i_ T au)\/
   (v=.tuple #[false,(2:Int)]/\cw key/\e3 L key≠none/\cm T<2*T.aL+3/\i_ T au)\/
   (v=.tuple #[true,(0:Int)]/\cw key/\e3 L key≠none/\2*T.aL+3<=cm T/\Dj T au aP (eR L key))\/
   (v=.tuple #[false,(3:Int)]/\cw key/\¬T.C.D.calm 100/\i_ T au))
theorem I2{w:J}{T:aK}{pages:O Nat}{L:O aM}{tk:ad}{key:Key}(h:b_ w T)(aF:¬T.C.D.ro)(ab:gP T pages L)(cW:L.length<4096)(eo:pages.Nodup)(hf:∀x∈pages,T.f x=true)(be:T.C.D.a7<=800000000)
 (Q:Src 1 w tk (az key)) (ac:∀q,aB tk q->q<w.heap.size/\¬T.M q):
 aI aj 67 #[.pointer (some T.bh),tk] w (I1 T pages L key w):=by
 have aH:=len8 Q;have bi:=h.num.2.1;refine okF (ae.uO (some T.bh) tk) ax.uO func67 ?_;(delta ae.uO ak b8 ew aq aV r1 lR z5 Y bP;dsimp only);refine cx (λb w'=>b= !(decide (cw key))/\w=w') (λq m=>⟨λh=>(by cases h),λ_=>(nr w tk).use ?_⟩) ?_
 .rintro _ _ ⟨rfl,rfl⟩
  refine⟨_,rfl,m _ _ ⟨?_,rfl⟩⟩;unfold cw;rw[aH]
 rintro _ _ ⟨rfl,rfl⟩;refine⟨λR=>⟨T,h,(bS.refl T w).mono I,rfl,rfl,.inl ⟨rfl,by simpa using R,.refl T⟩⟩,λR=>?_⟩;have hg:cw key:=by simpa using R
 obtain⟨steps,af,ag⟩:=zj (k:=key) h ab;refine(za h I Q ac af).use ?_;rintro _ aN ⟨aJ,r,c,o,g⟩;rcases g with ⟨s,a,rfl,j,S⟩|⟨rfl,aO⟩
 rotate_left
 .exact⟨⟨none,0,0⟩,3,rfl,λ_=>⟨_,r,c.mono I,rfl,rfl,.inr (.inr (.inr (.inr ⟨rfl,hg,λhc=>aO (gm hc I),.bA o⟩)))⟩,λhx=>(by simp at hx)⟩
 have bj:s.len=a.length:=by
  have:=S.own.1;rw[fe _ (nP a)]at this;omega
 have bm:a.length=T.aL:=by
  have:=af.length;rw[←j,dn]at this;exact this
 refine⟨s,0,rfl,λhx=>⟨_,r,c.mono I,rfl,rfl,.inr (.inl ⟨rfl,hg,?_,.bA o⟩)⟩,λhx=>?_⟩
 .have aP:a.length=0:=by
   have:(s.len:Int)=0:=by simpa using hx
   omega
  rcases ag with ⟨_,_,_,t⟩|⟨ai,bB,fc,dL,al,am,an,ao,aG,_⟩
  .rw[t];rfl
  .rw[aG]at j
   obtain⟨aw,_⟩:=q8 j;omega
 have aP:0<a.length:=by
  have:¬(s.len:Int)=0:=by simpa using hx
  omega
 have e:IntKind.wrap .i64 ((s.len:Int)-1)=((a.length-1:Nat):Int):=by rw[bq I I];omega
 obtain⟨A,ar,_,_,_,hu⟩:=S.at (i:=a.length-1) I;rcases ag with ⟨h1,_⟩|⟨ai,bB,fc,dL,al,am,an,ao,aG,cr,aV,dv,aQ,bn,aR,bo,aS,aT,ap⟩
 .rw[h1]at j
  have:=congrArg List.length j;simp at this;omega
 have F:=j;rw[aG]at F;obtain⟨aw,ay⟩:=q8 F;rw[e,dc];generalize bp:(a[a.length-1]'I)=u at hu ay;obtain⟨br,un,bs,K,V,D⟩:=u;obtain rfl:un=bB:=ay;have bt:=(cI.eS (.inl dv) (by have:=h.py _ _ aV;omega));have aU:Src 1 aN tk (az key):=Q.ah c.ah λq m aX=>(ac q m).2 (aK.gN aX);have U:e3 L key=e3 un.dE key:=Dh aT (ap (λL=>eR L key) (yi key));rw[Di dv]at U;refine⟨A,ar,⟨I,I⟩,_,hu.aW,K,hu.a8,V,hu.bg,D,hu.fL,(qt (n:=un) hu.cd dv I aU).use ?_⟩;intro v av g;unfold qW at g;by_cases d:g3 un.keys key=true
 rotate_left
 .have d:g3 un.keys key=false:=by simpa using d
  rw[d,if_neg (by simp)]at g;obtain⟨rfl,G⟩:=g;refine⟨_,bI,bI,bI,false,rfl,ba (vs:=[false,(),(),()]) rfl λaY y W aZ=>⟨y.cn rfl (fM (b:=iW.leaf) (K:=bI) (V:=bI) (D:=bI)),rfl,cT y (us:=ec iW bI bI bI) rfl rfl λH aA X a0=>⟨λ_=>?_,λhx=>(by cases hx)⟩⟩⟩;have N:Ext av H:=Ext.cC W X (bk _);have p:=G.trans N;refine⟨_,r.ext p,(c.trans (bS.ext _ p)).mono I,rfl,rfl,.inr (.inl ⟨rfl,hg,?_,.bA o⟩)⟩;rw[U,if_neg (by rw[d];simp)]
 rw[if_pos d]at g;obtain⟨dG,ee,c7,rfl,a1,G⟩:=g;refine⟨_,dG,ee,c7,true,rfl,ba (vs:=[false,(),(),()]) rfl λaY y W aZ=>⟨y.cn rfl fM,rfl,cT y (us:=ec (l1 un key) dG ee c7) rfl rfl λH aA X a0=>⟨λhx=>(by cases hx),λ_=>?_⟩⟩⟩;have N:Ext av H:=Ext.cC W X (bk _);have p:=G.trans N;obtain⟨d0,d1,d2,d3⟩:=bK aA;obtain⟨bl,bf,bu,aC,a2⟩:=I0 dv d;have a3:cL un.keys key<un.keys.length:=(jB.1 (cj d)).1;have a4:cL un.keys key<un.vals.length:=by rw[dv.len];exact a3
 have aD:e3 L key≠none:=by
  rw[U,if_pos d,dI a4];simp
 have a5:aJ.D.a7<=900000000:=by
  have:aJ.D.a7<=T.C.D.a7+2*T.aL:=c.a7;omega
 have bv:=G.size;have a6:bT (λq=>¬(T.bA aJ T.P).M q) H (l1 un key) dG ee c7:=(a1.ext N).a_ λq _ m F=>by have:=r.lt F;omega
 have a9:=Df (dP:=eR L key) (k:=key) (steps:=steps) (cc:=un) (r.ext p) (λe=>aF λi=>c.b9.1▸e i) ab cW eo hf a5 j (S.ext' p λq m=>m.2) a6 bl (.inr ⟨ai,fc,dL,al,am,an,ao,aG,cr,λs hs=>aQ s (a2 s hs),λhs e=>by
  have z:=aR hs;rw[e]at aC;simp at aC;omega,aS,by rw[bf];exact ap (λL=>eR L key) (yi key),by have:=h.py _ _ aV;omega⟩)
 refine⟨_,d0,dG,d1,ee,d2,c7,d3,a9.use ?_⟩;rintro v w' ⟨au,h1,h2,Z,t,bb⟩;have aa:=((c.trans (bS.ext (T.bA aJ T.P) p)).trans h2).mono (l:=100) I;have bw:cm (T.bA aJ T.P)=cm T:=rfl;have bx:(T.bA aJ T.P).aL=T.aL:=rfl;rcases bb with ⟨rfl,B,E⟩|⟨rfl,B,E,z⟩|⟨rfl,B,E,z,bc,bd⟩
 .subst E
  exact⟨2,rfl,_,h1,aa,Z,t,.inr (.inr (.inl ⟨rfl,hg,aD,B,.bA o⟩))⟩
 .exact⟨0,rfl,_,h1,aa,Z,t,.inr (.inr (.inr (.inl ⟨rfl,hg,aD,B,E,λno aE=>⟨(z no aE).1,(z no aE).2.trans (o no)⟩⟩)))⟩
 .exact⟨3,rfl,_,h1,aa,Z,t,.inr (.inr (.inr (.inr ⟨rfl,hg,λhc=>B (c.calm 60 (gm hc I)),(i_.bA o).trans ⟨E,z,bc,bd⟩ rfl⟩)))⟩
def sT(fr to:Key)(p:aM):al:=decide (dt fr p.1)&&(to.isEmpty||decide (bo p.1 to))
theorem wI(l:O aM)(fr to:Key):gV l fr to=l.filter (sT fr to):=rfl
theorem wJ(a b:O aM)(fr to:Key):gV (a++b) fr to=gV a fr to++gV b fr to:=gu ..
def kT(fr to:Key)(most:Nat):O aM->O aM->al×O aM
 |acc,[]=>(true,acc)
 |acc,p::ps=>
  if to≠ []/\¬bo p.1 to then (false,acc)
  else
   let a:=if dt fr p.1 then acc++ [p] else acc
   if a.length=most then (false,a) else kT fr to most a ps
def hY(fr to:Key)(most:Nat)(acc L:O aM)(on:al)(a:O aM):Prop:=
 (on=true/\a=acc++gV L fr to/\a.length<most)\/(on=false/\∀R,g2 (L++R)->a=(acc++gV (L++R) fr to).take most)
variable {fr to:Key}{most:Nat}
theorem hY.nil{acc:O aM}(h:acc.length<most):hY fr to most acc [] true acc:=.inl ⟨rfl,by simp[gV],h⟩
theorem hY.app{acc mO iZ bd bx:O aM}{on:al}(h1:hY fr to most acc bd true mO)(h2:hY fr to most mO bx on iZ):hY fr to most acc (bd++bx) on iZ:=by
 rcases h1 with ⟨_,h1,_⟩|⟨h,_⟩
 rotate_left
 .cases h
 subst h1;rcases h2 with ⟨a,b,d⟩|⟨a,b⟩
 .exact .inl ⟨a,by rw[b,wJ,cD],d⟩
 .refine .inr ⟨a,λR c=>?_⟩
  rw[cD]at c;rw[b R (sB.1 c).2.1,cD bd bx R,wJ bd,cD]
theorem hY.stop{acc mO bd bx:O aM}(h1:hY fr to most acc bd false mO):hY fr to most acc (bd++bx) false mO:=by
 rcases h1 with ⟨h,_⟩|⟨_,h⟩
 .cases h
 .refine .inr ⟨rfl,λR a=>?_⟩
  rw[cD]at a⊢;exact h _ a
theorem hY.skip{acc iZ bd bx:O aM}{on:al}(hs:gV bd fr to=[])(h2:hY fr to most acc bx on iZ):hY fr to most acc (bd++bx) on iZ:=by
 rcases h2 with ⟨a,b,d⟩|⟨a,b⟩
 .exact .inl ⟨a,by rw[b,wJ,hs];rfl,d⟩
 .refine .inr ⟨a,λR c=>?_⟩
  rw[cD]at c⊢;rw[b R (sB.1 c).2.1,wJ bd,hs];rfl
theorem hY.all{L acc:O aM}{on:al}(h:hY fr to most [] L on acc)(a:g2 L):acc=(gV L fr to).take most:=by
 rcases h with ⟨_,h1,h2⟩|⟨_,h1⟩
 .rw[h1]at h2⊢
  rw[hA]at h2⊢;rw[dC I]
 .have:=h1 [] (by simpa using a)
  simpa using this
theorem Dk:∀ {ps acc:O aM},g2 ps->acc.length<most->hY fr to most acc ps (kT fr to most acc ps).1 (kT fr to most acc ps).2
 | [],acc,_,h=>.nil h
 |p::ps,acc,i,h=>by
  unfold kT
  by_cases h1:to≠ []/\¬bo p.1 to
  .rw[if_pos h1]
   refine .inr ⟨rfl,λR b=>?_⟩
   have:gV (p::ps++R) fr to=[]:=by
    rw[wI];refine lI.2 λq c=>?_;have j:dt p.1 q.1:=by
     rw[l8]at c b;rcases c0.1 c with rfl|c
     .exact Bz _
     .exact ic ((jD.1 b).1 q c)
    have h2:¬bo q.1 to:=λa=>h1.2 (kl j a);unfold sT;have e:to.isEmpty=false:=by simpa using h1.1
    simp[e,h2]
   rw[this,fu,dC I]
  .rw[if_neg h1]
   have k:sT fr to p=decide (dt fr p.1):=by
    unfold sT;by_cases h2:to=[]
    .simp[h2]
    .have:bo p.1 to:=Decidable.byContradiction λa=>h1 ⟨h2,a⟩
     simp[this]
   have d:∀l,gV (p::l) fr to=(if dt fr p.1 then [p] else [])++gV l fr to:=λl=>by
    rw[wI,jg,k,wI];by_cases h2:dt fr p.1<;>simp[h2]
   have m:(if dt fr p.1 then acc++ [p] else acc)=acc++(if dt fr p.1 then [p] else []):=by split<;>simp
   simp only[m];generalize hx:(if dt fr p.1 then [p] else [])=x at d;have o:x.length<=1:=by rw[←hx];split<;>simp
   by_cases a:(acc++x).length=most
   .rw[if_pos a]
    refine .inr ⟨rfl,λR b=>?_⟩;rw[l8,d,←cD,←a,List.take_left]
   .rw[if_neg a]
    have e:(acc++x).length<most:=by rw[cv]at a⊢;omega
    have:=Dk (ps:=ps) (acc:=acc++x) (jD.1 i).2 e;rcases this with ⟨f,g,n⟩|⟨f,g⟩
    .exact .inl ⟨f,by rw[g,d,cD],n⟩
    .refine .inr ⟨f,λR b=>?_⟩
     rw[l8]at b⊢;rw[g R (jD.1 b).2,d,cD]
def jx(p:ad×ad):O aa:=[p.1,p.2]
theorem pz(l:O (ad×ad)):∀x∈l,(jx x).length=2:=λ_ _=>rfl
theorem I3(p:ad×ad):∀v∈jx p,Plain v:=by
 intro v a;unfold jx at a;simp only[c0,fw,fD]at a;rcases a with rfl|rfl<;>trivial
def iF(B:Nat->Prop)(w:J)(ps:O (ad×ad))(L:O aM):Prop:=ps.length=L.length/\∀i (h1:i<ps.length) (h2:i<L.length),bu B w ps[i].1 L[i].1/\bu B w ps[i].2 L[i].2
def kU(B:Nat->Prop)(w:J)(s:ad)(L:O aM):Prop:=∃ps,aT 2 198 w s (bn jx ps)/\iF B w ps L
def fq(B:Nat->Prop)(w:J)(s:ad)(L:O aM):Prop:=∃ps,Src 2 w s (bn jx ps)/\s.len<=s.cap/\In B w s/\iF B w ps L
section
variable {B C W:Nat->Prop}{w w':J}{s:ad}{ps:O (ad×ad)}{L:O aM}
theorem iF.ah(h:iF B w ps L)(hc:af W w w')(d:∀k,B k->k<w.heap.size->¬W k):iF B w' ps L:=
 ⟨h.1,λi h1 h2=>by
  obtain⟨a,b⟩:=h.2 i h1 h2
  exact⟨bu.kN a hc λk c=>d k (a.2.2 k c).1 (a.2.2 k c).2,bu.kN b hc λk c=>d k (b.2.2 k c).1 (b.2.2 k c).2⟩⟩
theorem iF.a_(h:iF B w ps L)(a:∀k,k<w.heap.size->B k->C k):iF C w ps L:=⟨h.1,λi h1 h2=>⟨bu.a_ (h.2 i h1 h2).1 a,bu.a_ (h.2 i h1 h2).2 a⟩⟩
theorem iF.push{p:ad×ad}{kv:aM}(h:iF B w ps L)(h1:bu B w p.1 kv.1)(h2:bu B w p.2 kv.2):iF B w (ps++ [p]) (L++ [kv]):=by
 refine⟨by simp[h.1],λi aw ay=>?_⟩;rcases dX i ps.length with g|g
 .have g':i<L.length:=by have:=h.1;omega
  simp only[n3 g,n3 g'];exact h.2 i g g'
 .have e:i=ps.length:=by simp at aw;omega
  subst e;have a:(ps++ [p])[ps.length]'aw=p:=by simp
  have b:(L++ [kv])[ps.length]'ay=kv:=by rw[pK (by rw[h.1];exact bk _)];simp
  rw[a,b];exact⟨h1,h2⟩
theorem kU.len(h:kU B w s L):s.len=L.length:=by
 obtain⟨ps,h1,h2⟩:=h;have:=h1.1;rw[fe _ (pz ps)]at this;have:=h2.1;omega
theorem kU.a_(h:kU B w s L)(a:∀k,k<w.heap.size->B k->C k):kU C w s L:=by
 obtain⟨ps,h1,h2⟩:=h;exact⟨ps,h1,h2.a_ a⟩
theorem kU.none(B:Nat->Prop)(w:J):kU B w ⟨.none,0,0⟩ []:=⟨[],aT.none _ _ _,rfl,λi h=>by simp at h⟩
theorem kU.r(h:kU B w s L)(hs:∀k,aB s k->B k):fq B w s L:=by
 obtain⟨ps,h1,h2⟩:=h;exact⟨ps,h1.src,h1.2.1,λk a=>⟨hs k a,h1.lt k a⟩,h2⟩
theorem fq.len(h:fq B w s L):s.len=L.length:=by
 obtain⟨ps,h1,_,_,h2⟩:=h;have:=h1.len;rw[fe _ (pz ps)]at this;have:=h2.1;omega
theorem fq.ah(h:fq B w s L)(hc:af W w w')(b:∀k,B k->k<w.heap.size->¬W k):fq B w' s L:=by
 obtain⟨ps,h1,h2,a,d⟩:=h;exact⟨ps,h1.ah hc λk c=>b k (a k c).1 (a k c).2,h2,In.ah a hc,d.ah hc b⟩
theorem fq.ext(h:fq B w s L)(hc:Ext w w'):fq B w' s L:=h.ah hc λ_ _ _ h=>h
theorem fq.a_(h:fq B w s L)(a:∀k,k<w.heap.size->B k->C k):fq C w s L:=by
 obtain⟨ps,h1,h2,b,c⟩:=h;exact⟨ps,h1,h2,In.a_ b a,c.a_ a⟩
theorem fq.at(h:fq B w s L){i:Nat}(hi:i<L.length):∃ (A:ag) (tk cV:ad),s.a=some A/\B A.block/\((0:Int)<=(i:Int)/\(i:Int)<(s.len:Int))/\w.cell? (A.add (i*2))=some (.slice tk.a tk.len tk.cap)/\w.cell? ((A.add (i*2)).add 1)=some (.slice cV.a cV.len cV.cap)/\
 bu B w tk L[i].1/\bu B w cV L[i].2:=by
 have o:=h.len;obtain⟨ps,h1,h2,k,c⟩:=h;have d:i<ps.length:=by have:=c.1;omega
 cases b:s.a with
 |none=>
  have:=h1.nil b;have e:=fe ps (pz ps);rw[this]at e;simp at e;omega
 |some A=>
  have l:=h1.rd A b;have hg:∀j v,(jx ps[i])[j]? =some v->w.cell? (A.add (i*2+j))=some v:=λj v f=>by
   have m:j<2:=(jB.1 f).1;have g:=lN l (j:=i*2+j) (v:=v) (by rw[wm (pz ps) d m];exact f);rw[cR]at g;exact g
  obtain⟨t1,t2⟩:=c.2 i d hi;have n:(A.add (i*2)).add 1=A.add (i*2+1):=add_add A _ _;refine⟨A,ps[i].1,ps[i].2,rfl,(k A.block ⟨A,b,rfl⟩).1,⟨I,I⟩,?_,?_,t1,t2⟩
  .exact hg 0 _ rfl
  .rw[n]
   exact hg 1 _ rfl
end
theorem I4:hE aj 193 198 2 48:=⟨by kernel_rfl⟩
theorem I5(w:J)(cs:Array aa)(h:cs.size=2):Sem.run aj (Instr.buildSlice 193 1 #[(0,.agg cs)]) w=.ok (.slice (some w.heap.size) 1 1) (w.alloc (.cells cs 198)):=by
 have h0:((Tryz.prog.info? 198).bind (·.zero)).isSome=true:=by kernel_rfl
 obtain⟨z,a⟩:=mT.1 h0;obtain⟨i,hi,b⟩:=sK a;have h1:(Tryz.prog.underlying 198).isSome=true:=by kernel_rfl
 obtain⟨d,hd⟩:=mT.1 h1;exact yV (sz:=2) w (by kernel_rfl) hd (by kernel_rfl) hi b h (by decide) (by decide)
structure eP(T au:aK)(w w':J)(k:Nat):Prop where
 to:bS T au w w' k
 E:au.E=T.E
 G:∀q,T.G q->au.G q
 root:au.root=T.root
 aL:au.aL=T.aL
 f:au.f=T.f
 P:au.P=T.P
 view:∀j,au.C.view j=T.C.view j
theorem eP.refl(T:aK)(w:J):eP T T w w 0:=⟨.refl _ _,rfl,λ_ h=>h,rfl,rfl,rfl,rfl,λ_=>rfl⟩
theorem eP.ext{w w':J}(T:aK)(h:Ext w w'):eP T T w w' 0:=⟨.ext T h,rfl,λ_ h=>h,rfl,rfl,rfl,rfl,λ_=>rfl⟩
theorem eP.trans{T au a:aK}{w w' b:J}{k l:Nat}(h1:eP T au w w' k)(h2:eP au a w' b l):eP T a w b (k+l):=
 ⟨h1.to.trans h2.to,h2.E.trans h1.E,λq h=>h2.G q (h1.G q h),h2.root.trans h1.root,h2.aL.trans h1.aL,h2.f.trans h1.f,h2.P.trans h1.P,λj=>(h2.view j).trans (h1.view j)⟩
theorem eP.mono{T au:aK}{w w':J}{k l:Nat}(h:eP T au w w' k)(a:k<=l):eP T au w w' l:=⟨h.to.mono a,h.E,h.G,h.root,h.aL,h.f,h.P,h.view⟩
theorem eP.bA{T:aK}{aJ:b4}{w w':J}{k:Nat}(h:bS T (T.bA aJ T.P) w w' k)(a:∀j,aJ.view j=T.C.view j):eP T (T.bA aJ T.P) w w' k:=⟨h,rfl,λ_ h=>h,rfl,rfl,rfl,rfl,a⟩
theorem bS.out{T au:aK}{w w':J}{k q:Nat}(h:bS T au w w' k)(a:q<w.heap.size)(b:¬T.M q):¬au.M q/\q<w'.heap.size:=by
 refine⟨λh1=>?_,fi a h.ah.size⟩;rcases h.c6 q h1 with h2|h2
 .exact b h2
 .omega
theorem bS.Dl{T au:aK}{w w':J}{k:Nat}{ps:O (ad×ad)}{L:O aM}(h:bS T au w w' k)(c:iF (λq=>¬T.M q) w ps L):iF (λq=>¬au.M q) w' ps L:=by
 have h1:iF (λq=>q<w.heap.size/\¬T.M q) w ps L:=c.a_ λq b a=>⟨b,a⟩;exact(h1.ah h.ah λq b _ d=>b.2 (aK.gN d)).a_ λq _ a=>(h.out a.1 a.2).1
structure iG(lo:Nat)(w:J)(T:aK)(aS:Nat)(s:ad)(L:O aM):Prop where
 t:b_ w T
 v:Var w aS [s] 193
 own:kU (λq=>¬T.M q) w s L
 go:T.G aS
 gs:∀q,aB s q->T.G q/\q≠aS/\lo<=q
section
variable {w w':J}{T au:aK}{lo aS:Nat}{s:ad}{L:O aM}
theorem iG.of{k:Nat}(h:iG lo w T aS s L)(d:b_ w' au)(ht:bS T au w w' k)(b:∀q,T.G q->au.G q){W:Nat->Prop}(c:af W w w')(cA:∀q,T.G q->¬W q):iG lo w' au aS s L:=by
 obtain⟨ps,h1,h2⟩:=h.own;exact⟨d,h.v.ah c (cA _ h.go),⟨ps,h1.ah c λq a=>cA q (h.gs q a).1,ht.Dl h2⟩,b _ h.go,λq a=>⟨b q (h.gs q a).1,(h.gs q a).2⟩⟩
theorem iG.ext(h:iG lo w T aS s L)(hx:Ext w w'):iG lo w' T aS s L:=h.of (h.t.ext hx) (bS.ext T hx) (λ_ h=>h) hx λ_ _ h=>h
theorem I6{k v:Key}{tk cV:ad}(h:iG lo w T aS s L)(B:lo<=w.heap.size)(p:bu (λq=>¬T.M q) w tk k)(r:bu (λq=>¬T.M q) w cV v)(C:L.length<=100000):
 ∃ (b:ad) (ai:J),Sem.run aj (Builtin.append_ #[193,193] 193 #[s,.slice (some w.heap.size) 1 1]) (w.alloc (.cells (jx (tk,cV)).toArray 198))=.ok b ai/\
  (∃u:aa,ai.cell? aS=some u)/\ai.frozen? aS=false/\
  ∀d,d=ai.setCell aS b->iG lo d (T.cy T.E λq=>T.G q\/aB b q) aS b (L++ [(k,v)])/\eP T (T.cy T.E λq=>T.G q\/aB b q) w d 0:=by
 have D:=h.own.len;obtain⟨ps,x,y⟩:=h.own;obtain⟨b,ai,aw,ay,F,f,c⟩:=I4.push (cF:=193) (w:=w) (s:=s) (xs:=jx (tk,cV)) rfl x (I3 _) I;have cA:∀q,aB s q->T.G q:=λq a=>(h.gs q a).1;have H:=f.size;have j:=h.v.ah f λa=>(h.gs _ a).2.1 rfl;obtain⟨b5,cp⟩:=eF j (i:=0) (by simp);refine⟨b,ai,aw,b5,cp,?_⟩;rintro _ rfl;have g:=ed ai aS 0 b;have z:=eE j (i:=0) b;have l:af T.G w (ai.setCell aS b):=c5 (f.mono λq _ a=>cA q a) g λq _ e=>by rw[e];exact h.go
 have aH:∀q,aB b q->q<ai.heap.size:=λq a=>aT.lt ay q a;have m:∀q,aB b q->T.G q\/(w.heap.size<=q/\q<(ai.setCell aS b).heap.size):=λq a=>by
  rcases c q a with h1|h1
  .exact .inl (cA q h1)
  .exact .inr ⟨h1,by have:=aH q a;have:=g.size;omega⟩
 have n:∀q,aB b q->q≠aS:=λq a e=>by
  rcases c q a with h1|h1
  .exact(h.gs q h1).2.1 e
  .have:=h.v.lt;omega
 have A:=h.t.grow (E:=T.E) (G:=λq=>T.G q\/aB b q) l (λq a _=>.inr a) (λq a=>.inl a) (λq a=>by
  rcases a with a|a
  .exact .inr (.inl a)
  .exact .inr (m q a)) λq a hg=>by
  rcases hg with hg|hg
  .exact(h.t.dV q a).2.2 hg
  .rcases c q hg with h1|h1
   .exact(h.t.dV q a).2.2 (cA q h1)
   .have:=h.t.lt (q:=q) (.inr (.inr (.inr (.inl a))));omega
 have o:bS T (T.cy T.E λq=>T.G q\/aB b q) w (ai.setCell aS b) 0:=by
  have h0:bS T T w w 0:=.refl _ _;exact h0.step l (λq a _=>.inr (.inr (.inr a))) (λq a=>.inl a) λq a=>by
   rcases a with a|a
   .exact .inl a
   .exact(m q a).imp id λe=>e.1
 refine⟨⟨A,z,⟨ps++ [(tk,cV)],?_,o.Dl (y.push (kv:=(k,v)) p r)⟩,.inl h.go,λq a=>⟨.inr a,n q a,?_⟩⟩,o,rfl,λ_ h=>.inl h,rfl,rfl,rfl,rfl,λ_=>rfl⟩
 .have e:bn jx (ps++ [(tk,cV)])=bn jx ps++jx (tk,cV):=by rw[lu];simp[bn]
  rw[e];exact ay.ah g λq a e=>n q a e
 .rcases c q a with h1|h1
  .exact(h.gs q h1).2.2
  .omega
end
structure q9(w:J)(T:aK)(bh aY aR:Nat)(fz fI:ad)(to fr:Key)(most:Int):Prop where
 wK:Var w bh [fz] 39
 wL:Var w aY [fI] 39
 ji:Var w aR [most] 3
 Dm:¬T.M bh
 Dn:¬T.M aY
 Dp:¬T.M aR
 st:Src 1 w fz (az to)
 zm:Src 1 w fI (az fr)
 sU:∀q,aB fz q->q<w.heap.size/\¬T.M q
 sV:∀q,aB fI q->q<w.heap.size/\¬T.M q
 lt:to.length<=9000000000000000000
section
variable {w w':J}{T au:aK}{bh aY aR:Nat}{fz fI:ad}{to fr:Key}{most:Int}
theorem q9.go{k:Nat}(h:q9 w T bh aY aR fz fI to fr most)(ht:bS T au w w' k):q9 w' au bh aY aR fz fI to fr most:=by
 have b:∀q,¬T.M q->¬T.N q:=λq a b=>a (aK.gN b);exact⟨h.wK.ah ht.ah (b _ h.Dm),h.wL.ah ht.ah (b _ h.Dn),h.ji.ah ht.ah (b _ h.Dp),(ht.out h.wK.lt h.Dm).1,(ht.out h.wL.lt h.Dn).1,(ht.out h.ji.lt h.Dp).1,
  h.st.ah ht.ah λq a=>b _ (h.sU q a).2,h.zm.ah ht.ah λq a=>b _ (h.sV q a).2,λq a=>⟨(ht.out (h.sU q a).1 (h.sU q a).2).2,(ht.out (h.sU q a).1 (h.sU q a).2).1⟩,λq a=>⟨(ht.out (h.sV q a).1 (h.sV q a).2).2,(ht.out (h.sV q a).1 (h.sV q a).2).1⟩,h.lt⟩
end
def jW(fr to:Key)(most:Nat)(n:aD)(acc ps:O aM):al×O aM:=if n.leaf then kT fr to most acc ps else (true,acc)
def I7(lo aS:Nat)(T:aK)(a:al×O aM)(w:J)(v:aa)(w':J):Prop:=
 ∃ (au:aK) (b:ad),v=a.1/\iG lo w' au aS b a.2/\eP T au w w' 0
theorem bS.iW{T au:aK}{w w':J}{k:Nat}(h:bS T au w w' k){n:aD}{K V D:ad}(b:bT (λq=>¬T.M q) w n K V D):bT (λq=>¬au.M q) w' n K V D:=
 (h.cd (lo:=0) (b.a_ λ_ _ a=>⟨cM _,a⟩)).a_ λ_ _ a=>a.2
theorem Dq{a b:Key}:(decide ((dJ a b:Int)>=0))=decide (dt b a):=by
 unfold dt;by_cases h:dJ a b<0
 .have h1:¬dJ a b>=0:=by omega
  simp[h,h1]
 .have h1:dJ a b>=0:=by omega
  simp[h,h1]
theorem I8{w:J}{T:aK}{lo aS bh aY aR:Nat}{s fz fI:ad}{L:O aM}{to fr:Key}{most:Int}{n:aD}{K V D:ad}(no:Int)(h:iG lo w T aS s L)(a5:lo<=w.heap.size)(hf:q9 w T bh aY aR fz fI to fr most)
 (U:bT (λq=>¬T.M q) w n K V D) (hs:cI n) (a6:n.keys.length<=1000) (cW:(L.length:Int)<most) (a7:L.length<=50000):
 aI aj 218 #[no,dg n K V D,.pointer (some bh),.pointer (some aY),.pointer (some aS),.pointer (some aR)] w (I7 lo aS T (jW fr to most.toNat n L n.dE) w):=by
 have a9:=bH.len U.keys;refine okF (ae.vn no n.leaf K V D bh aY aS aR) ax.vn func218 ?_;(delta ae.vn r1 Y ak aO bP aV aG aq;dsimp only);refine ba (vs:=ec n K V D) rfl λw1 N m a_=>?_;obtain⟨nb,az⟩:∃nb,nb=w.heap.size:=⟨_,rfl⟩;rw[←az]at N⊢;have h1:=h.ext m;have aA:=hf.go (bS.ext T m);have aB:=U.ext m;have W:¬T.M nb:=λP=>by have:=h.t.lt P;omega
 obtain⟨bU,aW,a8,bg⟩:=bK N;refine⟨K,aW,λi d=>∃ (C:Nat) (au:aK) (y:ad) (acc:O aM),i=(C:Int)/\C<=n.keys.length/\iG lo d au aS y acc/\eP T au w1 d 0/\(acc.length:Int)<most/\acc.length<=L.length+C/\jW fr to most.toNat n acc (n.dE.drop C)=jW fr to most.toNat n L n.dE,
  λi _=>((n.keys.length:Int)-i).toNat,⟨0,T,s,L,rfl,cM _,h1,.refl _ _,cW,I,by rw[iM]⟩,?_⟩
 rintro _ d ⟨i,au,y,acc,rfl,hi,E,k,bb,bc,f⟩;have bd:=m.size;have be:=k.to.ah.size;have o:=aA.go k.to;have X:=k.to.iW aB;have Z:=N.ah k.to.ah λP=>W (aK.gN P);have bf:=(k.to.out I W).1;refine⟨λaH=>?_,λaC=>?_⟩
 rotate_left
 .have aa:i=n.keys.length:=by
   have:¬(i:Int)<(K.len:Int):=cE aC;omega
  have hd:n.dE.drop i=[]:=by
   refine rz ?_;unfold aD.dE;rw[n0];omega
  rw[hd]at f;have e:jW fr to most.toNat n acc []=(true,acc):=by unfold jW kT;split<;>rfl
  rw[e]at f;exact⟨au,y,by rw[←f],by rw[←f];exact E,((eP.ext T m).trans k)⟩
 .have aa:i<n.keys.length:=by
   have:(i:Int)<(K.len:Int):=cj aH;omega
  obtain⟨A,tk,ar,aE,hc,F,_⟩:=bH.at X.keys aa;have Q:IntKind.wrap .i64 ((i:Int)+1)=((i+1:Nat):Int):=by rw[bq I I];omega
  have aF:∀w':J,((n.keys.length:Int)-IntKind.wrap .i64 ((i:Int)+1)).toNat<((n.keys.length:Int)-(i:Int)).toNat:=λ_=>by rw[Q];omega
  obtain⟨key,ab⟩:∃key,key=n.keys[i]:=⟨_,rfl⟩;rw[←ab]at F;have ac:=len8 o.st;refine⟨A,ar,aE,tk,hc,fz,o.wK.cell,cx (λb w'=>b=decide (to≠ []/\¬bo key to)/\d=w') (λq l=>⟨λc=>⟨fz,o.wK.cell,(lS F.1 o.st).use ?_⟩,λc=>l _ _ ⟨?_,rfl⟩⟩) ?_⟩
  .rintro _ _ ⟨rfl,rfl⟩
   refine⟨_,rfl,l _ _ ⟨?_,rfl⟩⟩;have h2:to≠ []:=λe=>by
    rw[e]at ac;have:(fz.len:Int)>0:=cj c;simp at ac;omega
   rw[Dq];simp only[h2,ne_eq,not_false_eq_true,true_and];rfl
  .have h2:to=[]:=by
    have:¬(fz.len:Int)>0:=cE c;exact l9.1 I
   simp[h2]
  rintro aJ _ ⟨af,rfl⟩;have d0:d.cell? nb=some (.bool n.leaf):=(bK Z).1;refine cx (λb w'=>b=(aJ&&n.leaf)/\d=w') (λq l=>⟨λc=>⟨_,d0,l _ _ ⟨by rw[c];rfl,rfl⟩⟩,λc=>l _ _ ⟨by rw[c];rfl,rfl⟩⟩) ?_;rintro bi _ ⟨ag,rfl⟩;have G:n.leaf=true->∃x:Key,(∃j:i<n.vals.length,x=n.vals[i])/\n.dE.drop i=(key,x)::n.dE.drop (i+1):=λa=>by
   have bj:n.vals.length=n.keys.length:=by
    rcases hs with h2|h2
    .exact h2.len
    .have:=h2.inner;rw[a]at this;cases this
   have j:i<n.vals.length:=by omega
   refine⟨n.vals[i],⟨j,rfl⟩,?_⟩;have aL:i<n.dE.length:=by unfold aD.dE;rw[n0];omega
   rw[j2 aL];have e:n.dE[i]=(key,n.vals[i]):=by
    rw[ab];exact te
   rw[e]
  refine⟨λc=>?_,λc=>?_⟩
  .
   rw[ag,c8]at c;obtain⟨x,_,z⟩:=G c.2;have aN:to≠ []/\¬bo key to:=by
    rw[af]at c;exact cj c.1
   have e:jW fr to most.toNat n acc (n.dE.drop i)=(false,acc):=by
    unfold jW;rw[if_pos c.2,z];unfold kT;rw[if_pos aN]
   rw[e]at f;exact⟨au,y,by rw[←f],by rw[←f];exact E,((eP.ext T m).trans k)⟩
  .have ai:n.leaf=true->¬(to≠ []/\¬bo key to):=λa h2=>by
    rw[ag,af,a,dR h2]at c
    cases c
   refine k9 (λH=>∃ (b3:aK) (s2:ad) (iZ:O aM),iZ=(if n.leaf=true/\dt fr key then acc++ [(key,n.vals.getD i [])] else acc)/\iG lo H b3 aS s2 iZ/\eP au b3 d H 0) (λq l=>⟨n.leaf,d0,?_⟩) ?_
   .refine cx (λb w'=>b=decide (n.leaf=true/\dt fr key)/\d=w') (λr al=>⟨λa=>⟨fI,o.wL.cell,(lS F.1 o.zm).use ?_⟩,λa=>al _ _ ⟨by simp[a],rfl⟩⟩) ?_
    .rintro _ _ ⟨rfl,rfl⟩
     refine⟨_,rfl,al _ _ ⟨?_,rfl⟩⟩;rw[Dq,a];simp
    .rintro bk _ ⟨am,rfl⟩
     refine⟨λg=>aX ?_,λg=>?_⟩
     .rw[am]at g
      have g:=cj g;obtain⟨x,⟨j,hx⟩,z⟩:=G g.1;have B:Ext d d.drew:=cG _;have p:=E.ext B;obtain⟨aP,cV,aQ,aT,aU,an,bl⟩:=bH.at (X.ext B).vals j;rw[←hx]at an;have aZ:=bu.ext F B;have bm:=B.size;obtain⟨ao,a0,aw,ay,a1,a2⟩:=I6 p I aZ an I;refine⟨λ_=>False,id,y,p.v.cell,id,V,(bK (Z.ext B)).2.2.1,aP,aQ,aT,id,cV,aU,(jx (tk,cV)).toArray,λbn=>?_,⟨some d.drew.heap.size,1,1⟩,_,I5 _ _ rfl,c4 _ _,ao,a0,aw,ay,a1,aX (l _ ?_)⟩
      .kernel_rfl
      .obtain⟨b5,cp⟩:=a2 _ rfl
       refine⟨_,ao,_,?_,b5,((eP.ext au B).trans cp)⟩;rw[if_pos g,fQ,dI j,←hx];rfl
     .rw[am]at g
      have g:=cE g;exact l _ ⟨au,y,acc,by rw[if_neg g],E,.refl _ _⟩
   .rintro H ⟨b3,s2,iZ,u,p,ap⟩
    have a3:=o.go ap.to;have a4:=p.own.len;have av:=k.trans ap;have bp:iZ.length<=acc.length+1:=by rw[u];split<;>simp
    have br:(0:Int)<=most:=by omega
    refine⟨s2,p.v.cell,most,a3.ji.cell,λc=>?_,λc=>?_⟩
    .have he:(s2.len:Int)=most:=by simpa using c
     by_cases a:n.leaf=true
     .obtain⟨x,⟨j,hx⟩,z⟩:=G a
      have R:n.vals.getD i []=x:=by rw[fQ,dI j,hx];rfl
      have e:jW fr to most.toNat n acc (n.dE.drop i)=(false,iZ):=by
       unfold jW;rw[if_pos a,z];unfold kT;rw[if_neg (ai a)];have S:(if dt fr key then acc++ [(key,x)] else acc)=iZ:=by rw[u,R];simp[a]
       simp only[S];rw[if_pos I]
      rw[e]at f;exact⟨b3,s2,by rw[←f],by rw[←f];exact p,((eP.ext T m).trans av)⟩
     .exfalso
      rw[if_neg (λh2=>a h2.1)]at u;rw[u]at a4;omega
    .have he:¬(s2.len:Int)=most:=by simpa using c
     rw[Q];refine⟨⟨i+1,b3,s2,iZ,rfl,I,p,av,I,I,?_⟩,?_⟩
     .rw[←f]
      unfold jW;by_cases a:n.leaf=true
      .obtain⟨x,⟨j,hx⟩,z⟩:=G a
       have R:n.vals.getD i []=x:=by rw[fQ,dI j,hx];rfl
       rw[if_pos a,if_pos a,z]
       conv=>rhs;unfold kT
       rw[if_neg (ai a)];have S:(if dt fr key then acc++ [(key,x)] else acc)=iZ:=by rw[u,R];simp[a]
       simp only[S];rw[if_neg I]
      .rw[if_neg a,if_neg a]
       rw[if_neg (λh2=>a h2.1)]at u;rw[u]
     .have:=aF H
      rw[Q]at this;exact this
inductive Kids (W:Below):O Nat->O Nat->O aM->Prop
 |nil:Kids W [] [] []
 |cons {lo hi:av Key}{k:Nat}{kids bl bf:O Nat}{bd bx:O aM} (h:W lo hi k bl bd) (t:Kids W kids bf bx):Kids W (k::kids) (bl++bf) (bd++bx)
theorem dD.kids{W:Below}{lo hi:av Key}{ks:O Key}{kids p:O Nat}{L:O aM}(h:dD W lo hi ks kids p L):Kids W kids p L:=by
 induction h with
 |one h=>
  have:=Kids.cons h .nil;rwa[fu,fu]at this
 |cons h _ a=>exact .cons h a
theorem I9(s:Key)(ks:O Key)(k:Key):df (s::ks) k=if bo k s then 0 else df ks k+1:=by
 unfold df;rw[List.findIdx_cons];by_cases h:bo k s<;>simp[h]
theorem dD.from{W:Below}(cA:∀lo hi k p L,W lo hi k p L->∀q∈L,fy lo hi q.1){lo hi:av Key}{ks:O Key}{kids p:O Nat}{L:O aM}(h:dD W lo hi ks kids p L)(k:Key):
 ∃ (bl bf:O Nat) (bd bx:O aM),p=bl++bf/\L=bd++bx/\(∀q∈bd,bo q.1 k)/\Kids W (kids.drop (df ks k)) bf bx:=by
 induction h with
 |one h=>exact⟨[],_,[],_,rfl,rfl,λ_ h=>(by cases h),(dD.one h).kids⟩
 | @cons lo hi s f bl bf bd bx ks kids h t c=>
  rw[I9];by_cases b:bo k s
  .rw[if_pos b]
   exact⟨[],_,[],_,rfl,rfl,λ_ h=>(by cases h),(dD.cons h t).kids⟩
  .rw[if_neg b,List.drop_succ_cons]
   obtain⟨a1,a2,cB,b6,rfl,rfl,d,e⟩:=c;refine⟨bl++a1,a2,bd++cB,b6,by rw[cD],by rw[cD],λq a=>?_,e⟩;rcases cO.1 a with a|a
   .exact nz ((cA _ _ _ _ _ h q a).2 s rfl) b
   .exact d q a
theorem Dr{L:O aM}{fr to:Key}(h:∀q∈L,bo q.1 fr):gV L fr to=[]:=by
 rw[wI];refine lI.2 λq a=>?_;unfold sT;have:¬dt fr q.1:=λh2=>h2 (h q a);simp[this]
def Ds(T:aK)(no:Nat):Prop:=(no<T.n/\2<=no)/\∃e,fm (no:Int) (T.C.view no)=.error e
theorem I_{w:J}{T:aK}{no:Nat}{o:aD}(h:b_ w T)(s:T.C.D.a7<=999999999)(d:T.P no=some o\/Ds T no):
 aI aj 175 #[.pointer (some T.bh),no,o.leaf] w (λv w'=>∃aJ:b4,eP T (T.bA aJ T.P) w w' 2/\b_ w' (T.bA aJ T.P)/\af (λq=>T.N q/\¬T.G q) w w'/\
  ((∃ (K V D:ad),v=.tuple #[dg o K V D,(0:Int)]/\T.P no=some o/\bT (λq=>w.heap.size<=q/\¬(T.bA aJ T.P).M q) w' o K V D)\/(∃e:Int,v=.tuple #[dg iW bI bI bI,e]/\e≠0/\((e=3/\¬T.C.D.calm 2)\/Ds T no)))):=by
 have f:no<T.n:=d.elim (λh1=>(h.eV no o h1).1) λh1=>h1.1.1;have g:2<=no:=d.elim (λh1=>(h.eV no o h1).2.two) λh1=>h1.1.2;obtain⟨bO,i⟩:∃bO,bO=λq=>T.E q\/T.G q:=⟨_,rfl⟩;have c:∀q,T.E q\/T.G q->bO q:=λq a=>by rw[i];exact a
 have j:∀q,bO q->T.E q\/T.G q:=λq a=>by rw[i]at a;exact a
 have k:b_ w (T.cy bO λ_=>False):=h.grow (W:=λ_=>False) (af.refl _ _) (λ_ h=>h.elim) (λq a=>(j q a).imp id .inl) (λ_ h=>h.elim) λ_ _ h=>h;have t:∀q,(T.cy bO λ_=>False).N q->T.N q/\¬T.G q:=λq a=>⟨by
  rcases a with a|a|a|a
  .exact .inl a
  .exact .inr (.inl a)
  .exact .inr (.inr (.inl a))
  .exact a.elim,λhg=>k.kO (c q (.inr hg)) a⟩
 refine(y_ k s f g o.leaf).mono ?_;rintro v w' ⟨aJ,u,ht,x,y⟩;have z:bS T (T.bA aJ T.P) w w' 2:=bS.read (E:=bO) ht c λq a=>(j q a).imp id .inl;have A:af (λq=>T.N q/\¬T.G q) w w':=ht.ah.mono λq _ a=>t q a;refine⟨aJ,.bA z x,?_,A,?_⟩
 .exact u.grow (E:=T.E) (G:=T.G) (W:=λ_=>False) (af.refl _ _) (λ_ h=>h.elim) (λq a=>.inl (c q (.inl a))) (λq a=>.inl (c q (.inr a))) λq a=>(h.dV q a).2.2
 .rcases y with ⟨bB,K,V,D,rfl,l,eo⟩|⟨e,rfl,B,F⟩
  .have m:T.P no=some o:=d.resolve_right λ⟨_,e,h1⟩=>by
    obtain⟨p,aw,_⟩:=l;have h1:fm (no:Int) (T.C.view no)=.error e:=h1;have aw:fm (no:Int) (T.C.view no)=.ok p:=aw;rw[h1]at aw;cases aw
   obtain rfl:=gY.uniq (h.eV no o m).2 l;refine .inl ⟨K,V,D,rfl,m,eo.a_ λq a r=>⟨r.1,λb=>r.2 ?_⟩⟩;rcases b with b|b|b|b|b
   .exact .inl b
   .exact .inr (.inl b)
   .exact .inr (.inr (.inl b))
   .exact .inr (.inr (.inr (.inl (c q (.inl b)))))
   .exact .inr (.inr (.inr (.inl (c q (.inr b)))))
  .refine .inr ⟨e,rfl,F,?_⟩
   rcases B with h1|h1|⟨_,_,h1⟩
   .exact .inl h1
   .exact .inr ⟨⟨f,g⟩,e,h1⟩
   .exact d.elim (λh2=>absurd (h.eV no o h2).2 (h1 o)) .inr
theorem Ja{w:J}{T:aK}{no:Nat}{o:aD}(h:b_ w T)(f:T.C.D.a7<=999999999)(c:T.P no=some o):
 aI aj 175 #[.pointer (some T.bh),no,o.leaf] w (λv w'=>∃aJ:b4,eP T (T.bA aJ T.P) w w' 2/\b_ w' (T.bA aJ T.P)/\af (λq=>T.N q/\¬T.G q) w w'/\
  ((∃ (K V D:ad),v=.tuple #[dg o K V D,(0:Int)]/\bT (λq=>w.heap.size<=q/\¬(T.bA aJ T.P).M q) w' o K V D)\/(v=.tuple #[dg iW bI bI bI,(3:Int)]/\¬T.C.D.calm 2))):=by
 refine(I_ h f (.inl c)).mono ?_;rintro v w' ⟨aJ,h1,h2,d,⟨K,V,D,b,_,a⟩|⟨e,b,_,⟨rfl,a⟩|⟨_,g,a⟩⟩⟩
 .exact⟨aJ,h1,h2,d,.inl ⟨K,V,D,b,a⟩⟩
 .exact⟨aJ,h1,h2,d,.inr ⟨b,a⟩⟩
 .obtain⟨p,aw,_⟩:=(h.eV no o c).2
  rw[a]at aw;cases aw
def Jb(lo aS:Nat)(T:aK)(fr to:Key)(most:Int)(acc L:O aM)(a:Nat)(w:J)(v:aa)(w':J):Prop:=
 ∃ (au:aK) (c:ad) (b:O aM),eP T au w w' (2*a)/\iG lo w' au aS c b/\
  ((∃on:al,v=.tuple #[on,(0:Int)]/\hY fr to most.toNat acc L on b)\/(v=.tuple #[false,(3:Int)]/\¬T.C.D.calm (2*a)))
theorem Jc:h8 aj 218:=⟨Tryz.f218,func218,by kernel_rfl,by kernel_rfl⟩
theorem eO.top{P:Nat->av aD}{h:Nat}{lo hi:av Key}{no:Nat}{p:O Nat}{L:O aM}(b:eO P (h+1) lo hi no p L):∃ (n:aD) (a:O Nat),P no=some n/\n.leaf=decide (h=0)/\cI n/\p=no::a/\
 ((h=0/\gW n/\a=[]/\L=n.dE)\/(∃g,h=g+1/\yh n/\Kids (λlo hi k p L=>eO P h lo hi k p L) n.kids a L/\∀k:Key,∃ (bl bf:O Nat) (bd bx:O aM),a=bl++bf/\L=bd++bx/\(∀q∈bd,bo q.1 k)/\Kids (λlo hi k p L=>eO P h lo hi k p L) (n.kids.drop (df n.keys k)) bf bx)):=by
 match h,b with
 |0,⟨n,h1,h2,f,e,d,c⟩=>exact⟨n,[],h1,h2.leaf,.inl h2,d,.inl ⟨rfl,h2,rfl,c⟩⟩
 |h+1,⟨n,a,h1,h2,f,e,d⟩=>
  have c:=d.mono (V:=λlo hi k p L=>eO P (h+1) lo hi k p L) λ_ _ _ _ _ _ b=>b.1;refine⟨n,a,h1,by rw[h2.inner];simp,.inr h2,e,.inr ⟨h,rfl,h2,c.kids,λk=>c.from (λ_ _ _ _ _ b=>(eO.eY b).2) k⟩⟩
theorem hY.len{fr to:Key}{most:Nat}{acc L a:O aM}{on:al}(h:hY fr to most acc L on a)(b:g2 L):a.length<=acc.length+L.length:=by
 have c:(gV L fr to).length<=L.length:=k3 _ _;rcases h with ⟨_,h1,_⟩|⟨_,h1⟩
 .rw[h1,cv];omega
 .have:=h1 [] (by simpa using b)
  rw[this,fu,cz,cv];omega
theorem Jd{A:ag}{i c:Nat}(h:i<c):aZ (some A) 1 i c=some (A.add i):=by
 unfold aZ;rw[fB];split
 .rename_i h2;omega
 .rfl
theorem Je(h:Nat):∀ {w:J}{T:aK}{lo aS bh aY aR:Nat}{s fz fI:ad}{acc L:O aM}{to fr:Key}{most:Int}{fc dL:av Key}{no:Nat}{p:O Nat},iG lo w T aS s acc->lo<=w.heap.size->q9 w T bh aY aR fz fI to fr most->h<=12->eO T.P h fc dL no p L->(acc.length:Int)<most->acc.length+L.length<=40000->T.C.D.a7+2*p.length<=999999999->
 aI aj 217 #[.pointer (some T.bh),no,h,fI,.func (.func 218) #[] #[.pointer (some bh),.pointer (some aY),.pointer (some aS),.pointer (some aR)]] w (Jb lo aS T fr to most acc L p.length w):=by
 induction h with
 |zero=>intro w T lo aS bh aY aR s fz fI acc L to fr most fc dL no p _ _ _ _ z;exact z.elim
 |succ h bb=>
  intro w T lo aS bh aY aR s fz fI acc L to fr most fc dL no p aw b8 hf b9 z bc be bf;obtain⟨n,b_,ay,bi,az,rfl,bj⟩:=z.top;have bl:=z.eY.1;have aA:=aw.t;have ca:=cI.eS az (by have:=aA.py _ _ ay;omega);refine okF (ae.vm (some T.bh) (no:Nat) ((h+1:Nat):Int) fI ⟨218,#[],#[.pointer (some bh),.pointer (some aY),.pointer (some aS),.pointer (some aR)]⟩) ax.vm func217 ?_;(delta ae.vm lg z5 Y ak aV r1 bP aG nk aq;dsimp only);rw[CW bi];refine(Ja aA I ay).use ?_;rintro _ w1 ⟨aJ,B,aB,aC,bm⟩;have cb:=aC.size;have aD:iG lo w1 (T.bA aJ T.P) aS s acc:=aw.of aB B.to (λ_ h=>h) aC λq bn bo=>bo.2 bn;have bp:=hf.go B.to;rcases bm with ⟨K,V,D,rfl,eo⟩|⟨rfl,U⟩
  rotate_left
  .refine⟨_,bI,bI,bI,3,rfl,ba (vs:=[false,(),(),()]) rfl λbr v W bs=>⟨v.cn rfl (fM (b:=iW.leaf) (K:=bI) (V:=bI) (D:=bI)),rfl,cT v (us:=ec iW bI bI bI) rfl rfl λE F X bt=>⟨λ_=>?_,λhx=>(by simp at hx)⟩⟩⟩
   have f:Ext w1 E:=Ext.cC W X (bk _);refine⟨_,s,acc,((B.trans (eP.ext _ f)).mono (by simp only[gh];omega)),aD.ext f,.inr ⟨rfl,λhc=>U (gm hc (by simp only[gh];omega))⟩⟩
  refine⟨_,K,V,D,0,rfl,ba (vs:=[false,(),(),()]) rfl λbr v W bs=>⟨v.cn rfl fM,rfl,cT v (us:=ec n K V D) rfl rfl λE F X bt=>⟨λhx=>(by cases hx),λ_=>?_⟩⟩⟩;have f:Ext w1 E:=Ext.cC W X (bk _);obtain⟨nb,bu⟩:∃nb,nb=w1.heap.size:=⟨_,rfl⟩;rw[←bu]at F⊢;have aE:¬(T.bA aJ T.P).M nb:=λZ=>by have:=aB.lt Z;omega
  have bv:=aD.ext f;have aF:=bp.go (bS.ext _ f);have aL:bT (λq=>¬(T.bA aJ T.P).M q) E n K V D:=(eo.ext f).a_ λq _ c=>c.2;have cc:=f.size;obtain⟨bU,aW,a8,bg⟩:=bK F;refine⟨_,bU,K,aW,V,a8,D,bg,Jc,?_⟩;refine(I8 (no:Nat) bv I aF aL az I bc I).use ?_;rintro _ G ⟨b3,s2,rfl,x,l⟩;have aa:=(B.trans (eP.ext _ f)).trans l;have aN:=aF.go l.to;have cd:=l.to.ah.size;have aO:acc.length<most.toNat:=by omega
  rcases bj with ⟨rfl,aP,rfl,rfl⟩|⟨g,rfl,ab,_,bw⟩
  .
   have y:n.leaf=true:=aP.leaf;have e:jW fr to most.toNat n acc n.dE=kT fr to most.toNat acc n.dE:=by unfold jW;rw[if_pos y]
   have d:=Dk (fr:=fr) (to:=to) aP.dE.1 aO;rw[e]at x⊢;refine⟨_,rfl,λc=>?_,λc=>⟨λ_=>?_,λhx=>?_⟩⟩
   .have c:(kT fr to most.toNat acc n.dE).1=false:=by simpa using c
    refine⟨b3,s2,_,aa.mono (by simp),x,.inl ⟨false,rfl,?_⟩⟩;rw[c]at d;exact d
   .have c:(kT fr to most.toNat acc n.dE).1=true:=by simpa using c
    refine⟨b3,s2,_,aa.mono (by simp),x,.inl ⟨true,rfl,?_⟩⟩;rw[c]at d;exact d
   .rw[y]at hx;cases hx
  .
   have y:n.leaf=false:=ab.inner;have e:jW fr to most.toNat n acc n.dE=(true,acc):=by unfold jW;rw[y];rfl
   rw[e]at x⊢;refine⟨true,rfl,λc=>(by cases c),λ_=>⟨λc=>(by rw[y]at c;cases c),λ_=>aX ?_⟩⟩;have ac:Ext G G.drew:=cG _;have aQ:Var G.drew nb (ec n K V D) 169:=(F.ah l.to.ah λZ=>aE (aK.gN Z)).drew;have ce:=(l.to.out (q:=nb) I aE).1;have af:bT (λq=>¬b3.M q) G.drew n K V D:=(l.to.iW aL).ext ac;have bz:=aN.go (bS.ext b3 ac);obtain⟨d0,d1,d2,d3⟩:=bK aQ;refine⟨λ_=>False,id,D,d3,id,_,d0,K,d1,V,d2,D,d3,(oM af bz.zm ab.eY I).use ?_⟩;rintro _ bB ⟨rfl,H⟩;have cf:=vM n.keys fr;have cg:=af.kids.len;have ch:=ab.len;obtain⟨hX,ey,bd,bx,rfl,rfl,aT,bC⟩:=bw fr;have N:=ac.trans H;have bD:=aa.trans (eP.ext b3 N);have bE:=x.ext N;have bF:=aN.go (bS.ext b3 N);have ag:=af.ext H;have ci:=aQ.ext H;have ck:=N.size;have cl:n.kids.length<=100000:=by omega
   have cm:df n.keys fr<D.len:=by omega
   obtain⟨A,ar,co⟩:∃A,D.a=some A/\D.len<=D.cap:=by
    obtain⟨A,ar,_⟩:=c2.at ag.kids (i:=0) I;exact⟨A,ar,ag.kids.2.1⟩
   refine⟨_,rfl,H,⟨I,I⟩,λi w'=>∃ (j:Nat) (cZ:aK) (Q:ad) (mP:O aM) (m qr:O Nat) (o ai:O aM),i=(j:Int)/\j<=D.len-df n.keys fr/\iG lo w' cZ aS Q mP/\eP T cZ w w' (2+2*m.length)/\eP b3 cZ bB w' (2*m.length)/\Kids (λlo hi k p L=>eO T.P (g+1) lo hi k p L) (n.kids.drop (df n.keys fr+j)) qr ai/\ey=m++qr/\bx=o++ai/\hY fr to most.toNat acc o true mP,
    λi _=>((D.len:Int)-i).toNat,⟨0,b3,s2,acc,[],ey,[],bx,rfl,cM _,bE,bD.mono (by simp),.refl _ _,bC,rfl,rfl,.nil aO⟩,?_⟩
   rintro _ aU ⟨j,cZ,Q,mP,m,qr,o,ai,rfl,cp,aZ,r,R,S,rfl,rfl,d⟩;have bG:(((df n.keys fr:Nat):Int)).toNat=df n.keys fr:=dc _;rw[bG];refine⟨λaH=>?_,λbH=>?_⟩
   rotate_left
   .
    have bJ:j=D.len-df n.keys fr:=by
     have:¬(j:Int)<((D.len-df n.keys fr:Nat):Int):=cE bH;omega
    have hd:n.kids.drop (df n.keys fr+j)=[]:=rz I;rw[hd]at S
    cases S;refine⟨cZ,Q,mP,r.mono (by simp only[cv,gh,k2];omega),aZ,.inl ⟨true,rfl,.skip (Dr aT) ?_⟩⟩;rw[fu];exact d
   .have bJ:j<D.len-df n.keys fr:=by
     have:(j:Int)<((D.len-df n.keys fr:Nat):Int):=cj aH;omega
    have a0:df n.keys fr+j<n.kids.length:=by omega
    have bL:=R.to.iW ag;have bM:=bF.go R.to;have cq:=R.to.ah.size;obtain⟨cr,a1,c,al⟩:=c2.at bL.kids a0;rw[ar]at a1
    cases a1;obtain⟨u,a2⟩:∃u,u=n.kids[df n.keys fr+j]:=⟨_,rfl⟩;rw[←a2]at al;have bN:n.kids.drop (df n.keys fr+j)=u::n.kids.drop (df n.keys fr+j+1):=by rw[j2 a0,a2]
    rw[bN]at S
    cases S with
    | @cons bO bQ _ _ am bR a3 bV bW bX=>
    have bY:cZ.P=T.P:=r.P;have bZ:aU.cell? ((A.add (df n.keys fr)).add (Int.toNat (j:Int)*1))=some (.int .i64 (u:Int)):=by
     rw[dc,fB,add_add];rw[dc,fB]at al;exact al
    have b0:IntKind.wrap .i64 (((g+1+1:Nat):Int)-1)=((g+1:Nat):Int):=by rw[bq I I];omega
    have b1:IntKind.wrap .i64 ((j:Int)+1)=((j+1:Nat):Int):=by rw[bq I I];omega
    have b2:cZ.bh=T.bh:=r.to.bh;simp only[gh,cv]at bf be;have b4:(mP.length:Int)<most/\mP.length<=acc.length+o.length:=by
     have b5:g2 o:=(sB.1 (sB.1 bl).2.1).1;refine⟨?_,d.len b5⟩;rcases d with ⟨_,_,a4⟩|⟨a4,_⟩
     .omega
     .cases a4
    have cs:=r.to.a7;have a5:=bb (w:=aU) (T:=cZ) (lo:=lo) (aS:=aS) (bh:=bh) (aY:=aY) (aR:=aR) (s:=Q) (fz:=fz) (fI:=fI) (acc:=mP) (L:=a3) (to:=to) (fr:=fr) (most:=most) (fc:=bO) (dL:=bQ) (no:=u) (p:=am) aZ I bM I (by rw[bY];exact bW) b4.1 I I;rw[b2]at a5;refine⟨A.add (df n.keys fr),by rw[ar];exact Jd I,⟨I,I⟩,u,bZ,?_⟩;rw[b0,b1];refine a5.use ?_;rintro _ b6 ⟨jm,an,ao,a6,ap,b7⟩;have au:eP T jm w b6 (2+2*(m.length+am.length)):=(r.trans a6).mono I;rcases b7 with ⟨on,rfl,a9⟩|⟨rfl,U⟩
    .refine⟨on,0,rfl,λc=>?_,λc=>?_⟩
     .have c:on=false:=by simpa using c
      subst c;refine⟨jm,an,ao,au.mono (by simp only[cv,gh];omega),ap,.inl ⟨false,rfl,.skip (Dr aT) ?_⟩⟩;rw[←cD];exact(d.app a9).stop
     .have c:on=true:=by simpa using c
      subst c;refine⟨⟨j+1,jm,an,ao,m++am,bR,o++a3,bV,rfl,I,ap,?_,?_,?_,by rw[cD],by rw[cD],d.app a9⟩,?_⟩
      .rw[cv];exact au
      .rw[cv];exact(R.trans a6).mono I
      .rw[←Nat.add_assoc];exact bX
      .show((D.len:Int)-((j+1:Nat):Int)).toNat<((D.len:Int)-(j:Int)).toNat
       omega
    .refine⟨false,3,rfl,λ_=>?_,λc=>(by simp at c)⟩
     refine⟨jm,an,ao,au.mono (by simp only[cv,gh];omega),ap,.inr ⟨rfl,λhc=>U (r.to.calm _ (gm hc (by simp only[cv,gh];omega)))⟩⟩
def Jf(T:aK)(L:O aM)(fr to:Key)(most:Int)(a:Nat)(w:J)(v:aa)(w':J):Prop:=
 ∃au:aK,b_ w' au/\eP T au w w' (2*a)/\au.G=T.G/\
  ((∃s:ad,v=.tuple #[s,(0:Int)]/\fq (λq=>¬au.M q) w' s ((gV L fr to).take most.toNat))\/(v=.tuple #[(),(3:Int)]/\¬T.C.D.calm (2*a)))
theorem fq.none(B:Nat->Prop)(w:J):fq B w ⟨.none,0,0⟩ []:=(kU.none B w).r λq a=>(f_ q a).elim
theorem eP.back{T au:aK}{w w':J}{k:Nat}(ht:b_ w T)(h:eP T au w w' k)(b:b_ w' au):b_ w' (au.cy T.E T.G)/\eP T (au.cy T.E T.G) w w' k:=
 ⟨b.grow (W:=λ_=>False) (af.refl _ _) (λ_ h=>h.elim) (λq a=>.inl (by rw[h.E];exact a)) (λq a=>.inr (.inl (h.G q a))) λq a=>(ht.dV q a).2.2,
  h.to.step (W:=λ_=>False) (af.refl _ _) (λ_ h=>h.elim) (λq a=>.inl (by rw[h.E];exact a)) (λq a=>.inl (h.G q a)),rfl,λ_ h=>h,h.root,h.aL,h.f,h.P,h.view⟩
theorem Jg{w:J}{T:aK}{pages:O Nat}{L:O aM}{fI fz:ad}{fr to:Key}{most:Int}(h:b_ w T)(H:gP T pages L)(cW:L.length<=30000)(an:T.C.D.a7+2*pages.length<=999999999)
 (hf:Src 1 w fI (az fr)) (u:∀q,aB fI q->q<w.heap.size/\¬T.M q) (ht:Src 1 w fz (az to)) (x:∀q,aB fz q->q<w.heap.size/\¬T.M q) (aT:to.length<=1000000):
 aI aj 169 #[.pointer (some T.bh),fI,fz,most] w (Jf T L fr to most pages.length w):=by
 have ao:=h.num.2.1;refine okF (ae.vb (some T.bh) fI fz most) ax.vb func169 ?_;(delta ae.vb ak aG Y r1 nk;dsimp only);refine ba (vs:=[fI]) rfl λw1 K N aU=>ba (vs:=[fz]) rfl λai Q y aV=>ba (vs:=[most]) rfl λR z o aW=>⟨λh=>(by cases h),λ_=>?_⟩;have A:=(N.trans y).trans o;have S:=h.ext A;refine⟨_,rfl,_,S.cells.2.2.2.2,cx (λb w'=>b=decide (T.aL=0\/most<1)/\R=w') (λq c=>⟨λd=>c _ _ ⟨?_,rfl⟩,λd=>⟨_,z.cell,c _ _ ⟨?_,rfl⟩⟩⟩) ?_⟩
 .have:T.aL=0:=by simpa using d
  simp[this]
 .have:T.aL≠0:=by simpa using d
  simp[this]
 rintro _ _ ⟨rfl,rfl⟩;refine⟨λd=>?_,λd=>?_⟩
 .have d:=cj d
  have e:(gV L fr to).take most.toNat=[]:=by
   rcases d with d|d
   .rcases H with ⟨_,_,_,ap⟩|g
    .rw[ap];simp[gV]
    .rw[d]at g;exact g.elim
   .have:most.toNat=0:=by omega
    rw[this,List.take_zero]
  refine⟨T,S,(eP.ext T A).mono I,rfl,.inl ⟨⟨none,0,0⟩,rfl,?_⟩⟩;rw[e];exact fq.none _ _
 have d:=cE d;have g:eO T.P T.aL none none T.root pages L:=by
  rcases H with ⟨aq,_⟩|g
  .exact absurd (.inl aq) d
  .exact g
 refine ba (vs:=[()]) rfl λB U l aZ=>aX ?_;have i:Ext B B.drew:=cG _;obtain⟨k,ar⟩:∃k,k=B.drew:=⟨_,rfl⟩;rw[←ar]at i⊢;obtain⟨aS,V⟩:∃aS,aS=R.heap.size:=⟨_,rfl⟩;obtain⟨aY,X⟩:∃aY,aY=w.heap.size:=⟨_,rfl⟩;obtain⟨bh,Z⟩:∃bh,bh=w1.heap.size:=⟨_,rfl⟩;obtain⟨aR,aa⟩:∃aR,aR=ai.heap.size:=⟨_,rfl⟩;rw[←V]at U;rw[←X]at K;rw[←Z]at Q;rw[←aa]at z;rw[←V,←X,←Z,←aa];have m:=(A.trans l).trans i;have a0:=N.size;have a1:=y.size;have a2:=o.size;have a3:=l.size;have a4:=i.size;have ab:=U.ext i;have a5:=ab.lt;have F:∀q,w.heap.size<=q->¬T.M q:=λq c a=>by have:=h.lt a;omega
 obtain⟨bY,j⟩:∃bY,bY=T.cy T.E λq=>T.G q\/q=aS:=⟨_,rfl⟩;have av:b_ k bY:=by
  rw[j];refine h.grow (W:=λ_=>False) m (λ_ h=>h.elim) (λq c=>.inl c) (λq c=>.inr (c.imp id λe=>⟨I,I⟩)) λq c hg=>?_;rcases hg with hg|hg
  .exact(h.dV q c).2.2 hg
  .have:=h.lt (q:=q) (.inr (.inr (.inr (.inl c))));omega
 have aA:eP T bY w k 0:=by
  rw[j];exact⟨(bS.refl T w).step (W:=λ_=>False) m (λ_ h=>h.elim) (λq c=>.inl c) λq c=>c.imp id λe=>I,rfl,λ_ h=>.inl h,rfl,rfl,rfl,rfl,λ_=>rfl⟩
 have n:∀q,¬T.M q->q≠aS->¬bY.M q:=λq c aC a=>by
  rw[j]at a;rcases a with a|a|a|a|a
  .exact c (.inl a)
  .exact c (.inr (.inl a))
  .exact c (.inr (.inr (.inl a)))
  .exact c (.inr (.inr (.inr (.inl a))))
  .rcases a with a|a
   .exact c (.inr (.inr (.inr (.inr a))))
   .exact aC a
 have aD:bY.bh=T.bh:=by rw[j];rfl
 have ac:bY.C=T.C:=by rw[j];rfl
 have aE:bY.P=T.P:=by rw[j];rfl
 have aF:iG w.heap.size k bY aS ⟨none,0,0⟩ []:=⟨av,ab,kU.none _ _,by rw[j];exact .inr rfl,λq c=>(f_ q c).elim⟩;have ag:q9 k bY bh aY aR fz fI to fr most:=⟨(((Q.ext o).ext l).ext i),((((K.ext y).ext o).ext l).ext i),((z.ext l).ext i),n _ (F _ I) I,n _ (F _ I) I,n _ (F _ I) I,
  ht.ext m,hf.ext m,λq c=>⟨by have:=(x q c).1;omega,n q (x q c).2 (by have:=(x q c).1;omega)⟩,λq c=>⟨by have:=(u q c).1;omega,n q (u q c).2 (by have:=(u q c).1;omega)⟩,I⟩
 have ah:=Je T.aL (acc:=[]) (no:=T.root) (L:=L) (p:=pages) (fc:=none) (dL:=none) aF I ag ao (by rw[aE];exact g) (by show(((([]:O aM).length:Nat)):Int)<most;simp only[k2];omega) (by simp only[k2];omega) (by rw[ac];exact an);rw[aD]at ah;have al:=h.ext m;refine⟨λ_=>False,_,rfl,id,_,al.cells.2.2.2.1,_,rfl,id,_,al.cells.2.2.2.2,id,_,ag.wL.cell,af.refl _ _,ah.use ?_⟩;rintro _ aH ⟨au,am,a6,aJ,f,aN⟩;have s:eP T au w aH (2*pages.length):=(aA.trans aJ).mono I;obtain⟨cB,b6⟩:=s.back h f.t;rcases aN with ⟨on,rfl,aO⟩|⟨rfl,aP⟩
 .refine⟨on,0,rfl,λhx=>(by cases hx),λ_=>⟨am,f.v.cell,_,cB,b6,rfl,.inl ⟨am,rfl,?_⟩⟩⟩
  have he:=aO.all g.eY.1;rw[←he];have aQ:∀q,¬au.M q->¬(au.cy T.E T.G).M q:=λq c a=>c (by
   rcases a with a|a|a|a|a
   .exact .inl a
   .exact .inr (.inl a)
   .exact .inr (.inr (.inl a))
   .exact .inr (.inr (.inr (.inl (by rw[s.E];exact a))))
   .exact .inr (.inr (.inr (.inr (s.G q a)))))
  refine(f.own.a_ λq _ c=>aQ q c).r λq c a=>?_;obtain⟨aw,ay,a8⟩:=f.gs q c;rcases a with a|a|a|a|a
  .exact f.t.wB aw a
  .exact(f.t.jv q aw).1 a
  .exact(f.t.jv q aw).2 a
  .exact(f.t.dV q (by rw[s.E];exact a)).2.2 aw
  .have:=h.lt (q:=q) (.inr (.inr (.inr (.inr a))));omega
 .exact⟨false,3,rfl,λ_=>⟨_,cB,b6,rfl,.inr ⟨rfl,by rw[←ac];exact aP⟩⟩,λhx=>(by simp at hx)⟩
theorem Dt{w:J}{T:aK}(h:b_ w T):aI aj 128 #[.pointer (some T.bh)] w (λv w'=>v=.tuple #[T.root,T.aL]/\Ext w w'):=by
 refine okF (ae.u9 (some T.bh)) ax.u9 func128 ?_;(delta ae.u9 ak aG;dsimp only);have hd:=h.ext (cG w);exact⟨λh=>(by cases h),λ_=>aX ⟨_,rfl,id,_,hd.cells.2.2.2.1,_,rfl,id,_,hd.cells.2.2.2.2,rfl,cG w⟩⟩
theorem wM{w:J}{s:ad}{l:O UInt8}(h:Src 1 w s (az l)){i:Nat}(hi:i<l.length):∃A:ag,s.a=some A/\((0:Int)<=(i:Int)/\(i:Int)<(s.len:Int))/\w.cell? (A.add (Int.toNat (i:Int)*1))=some (.int .u8 ((l[i].toNat:Nat):Int)):=by
 obtain⟨A,ar,b,hc⟩:=h.at (i:=i) (v:=.int .u8 ((l[i].toNat:Nat):Int)) (by simp[az,hi]);exact⟨A,ar,b,hc⟩
theorem oX{w:J}{s t:ad}{a b:Key}(hs:Src 1 w s (az a))(ht:Src 1 w t (az b))(L:a.length<=1000000)(M:b.length<=1000000):
 aI aj 100 #[s,t] w (λv w'=>∃n:Int,v=n/\(n<0↔bo a b)/\Ext w w'):=by
 have h1:=len8 hs;have h2:=len8 ht;refine okF (ae.oX s t) ax.oX func100 ?_;(delta ae.oX ak aO dv aq;dsimp only);refine⟨λn w'=>∃i:Nat,n=(i:Int)/\i<=a.length/\i<=b.length/\dJ a b=dJ (a.drop i) (b.drop i)/\Ext w w',λn _=>((a.length:Int)-n).toNat,⟨0,rfl,cM _,cM _,rfl,.refl _ _⟩,?_⟩;rintro _ l ⟨i,rfl,N,O,hc,hx⟩;refine⟨λaH=>?_,λm=>?_⟩
 .rw[c8,cg,cg]at aH
  have d:i<a.length:=by omega
  have f:i<b.length:=by omega
  have c:=Ext.trans hx (cG l);obtain⟨A,ar,o,p⟩:=wM (hs.ext c) d;obtain⟨B,q,r,u⟩:=wM (ht.ext c) f;rw[j2 d,j2 f]at hc;have P:=lH a[i];have Q:=lH b[i];refine aX ⟨A,ar,o,id,_,p,B,q,r,id,_,u,λg=>?_,λx=>?_⟩
  .have g:a[i].toNat≠b[i].toNat:=λe=>by rw[e]at g;simp at g
   have j:=Ext.trans c (cG _);obtain⟨mu,y,z,C⟩:=wM (hs.ext j) d;obtain⟨D,E,F,G⟩:=wM (ht.ext j) f;refine aX ⟨mu,y,z,id,_,C,D,E,F,id,_,G,_,rfl,?_,j⟩;rw[bq (n:=((a[i].toNat:Nat):Int)) I I,bq (n:=((b[i].toNat:Nat):Int)) I I,bq I I];unfold bo;rw[hc];unfold dJ;rcases dX a[i].toNat b[i].toNat with h|h
   .rw[if_pos h]
    exact⟨λ_=>by decide,λ_=>I⟩
   .rw[if_neg I,if_pos I]
    exact⟨λ_=>I,λh=>absurd h (by decide)⟩
  .have he:a[i]=b[i]:=by
    have:((a[i].toNat:Nat):Int)=((b[i].toNat:Nat):Int):=by simpa using x
    exact rl.1 I
   have H:IntKind.wrap .i64 ((i:Int)+1)=((i+1:Nat):Int):=by rw[bq I I];omega
   rw[H];refine⟨⟨i+1,rfl,I,I,?_,c⟩,by show((a.length:Int)-((i+1:Nat):Int)).toNat<((a.length:Int)-(i:Int)).toNat;omega⟩;rw[hc]
   conv=>lhs;unfold dJ
   rw[he,if_neg (by simp),if_neg (by simp)]
 .have R:a.length=i\/b.length=i:=by
   rw[Bool.and_eq_false_iff,iL,iL]at m;omega
  rw[bq I I];refine⟨_,rfl,?_,hx⟩;unfold bo;rw[hc];rcases dX i a.length with h|h
  .rw[j2 h,rz (show b.length<=i from I)]
   exact⟨λK=>by exfalso;omega,λh=>absurd h (show¬((1:Int)<0) by decide)⟩
  .rw[rz (show a.length<=i from I)]
   rcases dX i b.length with k|k
   .rw[j2 k]
    exact⟨λ_=>show((-1:Int)<0) by decide,λ_=>I⟩
   .rw[rz (show b.length<=i from I)]
    exact⟨λK=>by exfalso;omega,λh=>absurd h (show¬((0:Int)<0) by decide)⟩
theorem sW{α:Type}{c:α->O aa}{sz:Nat}:∀ (l:O α) (i:Nat),(∀x∈l,(c x).length=sz)->(bn c l).take (i*sz)=bn c (l.take i)/\(bn c l).drop (i*sz)=bn c (l.drop i)
 |l,0,_=>by simp[bn]
 | [],i+1,_=>by simp[bn]
 |x::l,i+1,h=>by
  obtain⟨h1,h2⟩:=sW l i λy a=>h y (by simp[a])
  have hx:=h x (by simp)
  have e:(i+1)*sz=(c x).length+i*sz:=by rw[jf,hx];omega
  rw[qX,e,List.take_length_add_append,List.drop_length_add_append,h1,h2]
  exact⟨rfl,rfl⟩
theorem Jh(l:O (ad×ad)):(bn jx l).length=l.length*2:=fe _ (pz l)
section
variable {B C W:Nat->Prop}{w w':J}{s:ad}{ps KI:O (ad×ad)}{L M:O aM}
theorem iF.take(h:iF B w ps L)(i:Nat):iF B w (ps.take i) (L.take i):=by
 refine⟨by simp[h.1],λj aw ay=>?_⟩;simp only[m4];exact h.2 _ (by rw[cz]at aw;omega) (by rw[cz]at ay;omega)
variable {KJ:O aa}{KK:TypeId}{aR:Nat}{key val:Key}{tk cV:ad}
theorem Du(h:fq B w s L){i:Nat}(hi:i<L.length):∃ (A:ag) (tk cV:ad),s.a=some A/\((0:Int)<=(i:Int)/\(i:Int)<(s.len:Int))/\w.cell? (A.add (Int.toNat (i:Int)*2))=some (.slice tk.a tk.len tk.cap)/\w.cell? ((A.add (Int.toNat (i:Int)*2)).add 1)=some (.slice cV.a cV.len cV.cap)/\
 bu B w tk L[i].1/\bu B w cV L[i].2:=by
 obtain⟨A,tk,cV,h1,_,b,c,d,e,f⟩:=h.at hi;rw[dc];exact⟨A,tk,cV,h1,b,c,d,e,f⟩
theorem Src.Ji(h:Src 2 w s (bn jx ps))(hc:s.len<=s.cap){lo hi:Nat}(h1:lo<=hi)(h2:hi<=ps.length):Src 2 w ⟨aZ s.a 2 lo s.cap,hi-lo,s.cap-lo⟩ (bn jx ((ps.drop lo).take (hi-lo))):=by
 have b:=h.len;rw[Jh]at b;have:=Src.cut h hc h1 (hi:=hi) I;rw[(sW ps lo (pz ps)).2,(sW (ps.drop lo) (hi-lo) (pz _)).1]at this;exact this
end
def zn(n:Nat)(root aL:Int):Prop:=0<=aL/\aL<=12/\0<=root/\root<n/\(root=0↔aL=0)
theorem qq{w:J}{C:b4}(hc:fg w C)(sb:Nat)(gen root aL:Int):
 aI aj 121 #[.pointer (some C.c),.pointer (some sb),.int .u64 gen,root,aL] w (λv w'=>
  (zn C.D.n root aL/\v=.tuple #[.pointer (some w.heap.size),(0:Int)]/\Ext w w'/\Var w' w.heap.size [.pointer (some C.c),.pointer (some sb),.int .u64 gen,root,aL] 243/\w'.heap.size=w.heap.size+1)\/
  (¬zn C.D.n root aL/\v=.tuple #[.pointer none,(1:Int)]/\w=w')):=by
 refine okF (ae.qq (some C.c) (some sb) gen root aL) ax.qq func121 ?_;delta ae.qq ak bP Y;refine cx (λb w'=>(b=false↔(0<=aL/\aL<=12/\0<=root/\root<C.D.n))/\w=w') (λq g=>⟨λh1=>g _ _ ⟨?_,rfl⟩,λh1=>⟨_,rfl,_,hc.cells.1,(wo hc.dev).use ?_⟩⟩) ?_
 .simp only[Option.isNone_some,mW,je,cg]at h1
  exact⟨λh=>(by cases h),λh=>I⟩
 .rintro _ _ ⟨rfl,rfl⟩
  simp only[Option.isNone_some,mW,pH,iL]at h1;refine⟨_,rfl,g _ _ ⟨?_,rfl⟩⟩;rw[iL];omega
 rintro b _ ⟨i,rfl⟩;refine⟨λh1=>.inr ⟨λhg=>?_,rfl,rfl⟩,λh1=>?_⟩
 .have h2:=i.2 ⟨hg.1,hg.2.1,hg.2.2.1,hg.2.2.2.1⟩
  rw[h2,mW]at h1;have d:=hg.2.2.2.2;by_cases a:root=0
  .rw[a,d.1 a]at h1;simp at h1
  .have f:aL≠0:=λe=>a (d.2 e)
   have j:(root==0)=false:=by simpa using a
   have k:(aL==0)=false:=by simpa using f
   rw[j,k]at h1
   cases h1
 .rw[pH]at h1
  have h2:=i.1 h1.1;have d:root=0↔aL=0:=by
   have a:=h1.2;by_cases f:root=0<;>by_cases l:aL=0<;>simp[f,l]at a⊢
  refine ba (vs:=[.pointer (some C.c),.pointer (some sb),.int .u64 gen,root,aL]) rfl λo m hx hs=>.inl ⟨⟨h2.1,h2.2.1,h2.2.2.1,h2.2.2.2,d⟩,rfl,hx,m,hs⟩
theorem gP.rising{T:aK}{pages:O Nat}{L:O aM}(h:gP T pages L):g2 L:=by
 rcases h with ⟨_,_,_,a⟩|b
 .rw[a];exact List.Pairwise.nil
 .exact b.eY.1
section
variable {w0 w w':J}{gf aR:Nat}{T au:aK}{r h k:Nat}{pages:O Nat}{L lz:O aM}{ms:ad}
theorem b_.ja{kS:Nat}(ht:b_ w T)(a:T.E kS)(hc:af (λq=>q=kS) w w'):b_ w' T:=
 ht.grow (E:=T.E) (G:=T.G) hc (λq e _=>.inl (by rw[e];exact a)) (λq a=>.inl a) (λq a=>.inr (.inl a)) λq a=>(ht.dV q a).2.2
end
def aK.zo(T:aK)(f g:Nat->al)(s1 s2:ad):aK:={T with f:=f,g:=g,s1:=s1,s2:=s2}
section
variable {w0 w w':J}{gf aR:Nat}{T au:aK}{r h k:Nat}{pages:O Nat}{L lz:O aM}{ms:ad}
theorem b_.space{f g:Nat->al}{s1 s2:ad}(ht:b_ w T)(hs:fp w' T.sb T.n f g s1 s2)(hc:af (gM T.sb T.s1 T.s2) w w')(hf:∀k,gM T.sb s1 s2 k->gM T.sb T.s1 T.s2 k\/w.heap.size<=k)(d:∀j,T.C.D.b9 j=true->g j=true\/T.C.D.ro)(e:g 0=true/\g 1=true):
 b_ w' (T.zo f g s1 s2)/\∀q,(T.zo f g s1 s2).M q->T.M q\/w.heap.size<=q:=by
 have c:∀q,T.X q->¬gM T.sb T.s1 T.s2 q->¬gM T.sb s1 s2 q:=λq hx a h2=>by
  rcases hf q h2 with b|b
  .exact a b
  .have:=ht.lt (q:=q) (.inr hx);omega
 refine⟨⟨ht.t.ah hc ht.kt,hs,ht.ca.grow hc (λq a _=>.inr (.inl a)) λq a=>?_,c _ (.inl rfl) ht.kt,λq a=>⟨(ht.dV q a).1,c q (.inr (.inr (.inl a))) (ht.dV q a).2.1,(ht.dV q a).2.2⟩,λq a=>⟨(ht.jv q a).1,c q (.inr (.inr (.inr a))) (ht.jv q a).2⟩,ht.n,ht.num,ht.eV,d,e⟩,λq a=>?_⟩
 .rcases a with a|a|a|a
  .exact .inl (.inl a)
  .rcases hf q a with b|b
   .exact .inl (.inr (.inl b))
   .exact .inr ⟨b,hs.lt q a⟩
  .exact .inl (.inr (.inr (.inl a)))
  .exact .inl (.inr (.inr (.inr a)))
 .rcases a with a|a|a|a|a
  .exact .inl (.inl a)
  .exact .inl (.inr (.inl a))
  .exact(hf q a).imp (λh=>.inr (.inr (.inl h))) id
  .exact .inl (.inr (.inr (.inr (.inl a))))
  .exact .inl (.inr (.inr (.inr (.inr a))))
theorem gP.agree{p:O Nat}(a:gP T p L)(b:au.root=T.root)(c:au.aL=T.aL)(d:∀x∈p,T.P x=au.P x):gP au p L:=by
 unfold gP at a⊢;rw[b,c];exact a.imp id λe=>(e.agree d).1
end
theorem Dv{i n m:Nat}{a:Nat}(b:n=a)(h:(decide ((i:Int)<(n:Int))&&decide ((i:Int)<(m:Int)))=true):i<a/\i<m:=by
 rw[c8,cg,cg]at h;omega
theorem lA{i:Nat}(h:i<=1000000):IntKind.wrap .i64 ((i:Int)+1)=((i+1:Nat):Int):=by rw[bq I I];omega
section
variable {w0 w w':J}{gf aR:Nat}{T au:aK}{r h k c:Nat}{pages aP:O Nat}{L lz bQ:O aM}{V:Nat->dh}{ms l:ad}
end
section
variable {w0 w w':J}{gf aR:Nat}{T au:aK}{r h k c:Nat}{pages aP:O Nat}{L lz bQ:O aM}{V:Nat->dh}{ms l:ad}
theorem Jj(w:J):Src 1 w bI (az []):=(aT.none 1 5 w).src
end
theorem Dw:∀ {a b:O Nat},a.Nodup->(∀x∈a,x∈b)->a.length<=b.length
 | [],_,_,_=>cM _
 |x::a,b,d,hs=>by
  obtain⟨h1,h2⟩:=List.nodup_cons.1 d
  have hx:=hs x (by simp)
  have:=Dw (a:=a) (b:=b.erase x) h2 λy c=>(List.mem_erase_of_ne (λe=>h1 (by rw[←e];exact c))).2 (hs y (jC _ c))
  rw[List.length_erase_of_mem hx]at this
  have:=List.length_pos_of_mem hx
  rw[gh];omega
theorem Jk{t:Nat->al}{l:O Nat}(n:Nat)(h:∀i,i<n->t i=true->i∈l):eU t n<=l.length:=by
 have h1:∀n,eU t n=((List.range n).filter t).length:=by
  intro n
  induction n with
  |zero=>rfl
  |succ n a=>
   rw[List.range_succ,gu,cv,eU,a,jg,rA]
   cases t n<;>rfl
 rw[h1];refine Dw (List.nodup_range.filter t) λx hx=>?_;rw[gr,j1]at hx;exact h x hx.1 hx.2
section
variable {α:Type}{P:Program}{w w':J}{hF lO T:TypeId}{enc:α->aa}{r m:Nat}{L:O (α×aa×Nat)}{seen:O Nat}
structure kV(w:J)(r m:Nat)(enc:α->aa)(L:O (α×aa×Nat))(seen:O Nat):Prop where
 it:∃a:Nat,w.heap[r]? =some (.mapIter (some m) a seen.toArray a)/\w.heap[m]? =some (.map (L.map (eu enc)).toArray a)/\∀x∈L,x.2.2<a
 cd:(L.map (·.2.2)).Nodup
def gq(L:O (α×aa×Nat))(seen:O Nat):O (α×aa×Nat):=L.filter λx=> !seen.contains x.2.2
theorem Dx(P:Program){n:Nat}(b:1<=n)(w:J):∃ (i:Nat) (w':J),i<n/\(choose (.mapNext n)).run P w=.ok i w'/\(w'=w\/w'=w.drew):=by
 by_cases h:n<=1
 .refine⟨0,w,I,?_,.inl rfl⟩
  show Sem.run P (.choose (.mapNext n) .pure) w=_;have a:(Question.mapNext n).forced=true:=by simp[Question.forced,h]
  simp only[Sem.run,a,if_true]
 .refine⟨(Question.mapNext n).cut (w.tape w.drawn (.mapNext n)),w.drew,g9 _ I,?_,.inr rfl⟩
  show Sem.run P (.choose (.mapNext n) .pure) w=_;have a:(Question.mapNext n).forced=false:=by simp[Question.forced,h]
  simp only[Sem.run,a,fZ,if_false];rfl
theorem zp{a:av Nat}{b d:Nat}{c:Array Nat}(h:w.heap[r]? =some (.mapIter a b c d)):(getObj r).run P w=.ok (.mapIter a b c d) w:=by simp[getObj,Sem.run,h]
theorem Jl{a:av Nat}{b d:Nat}{c:Array Nat}(h:w.heap[r]? =some (.mapIter a b c d))(e:Obj):(setObj r e).run P w=.ok () (iw w r e):=by simp[setObj,Sem.run,h,iw]
theorem kV.begin{M:O (α×aa)}(h:eH w m enc M){T:TypeId}{hF lO:TypeId}(b:P.underlying T=some (.map hF lO)):∃ (L:O (α×aa×Nat)) (w1:J),(L.map mv).Perm M/\(Instr.range T (.map (some m))).run P w=.ok (.pointer (some w.heap.size)) w1/\kV w1 w.heap.size m enc L []/\Ext w w1/\w1.heap.size=w.heap.size+1:=by
 have aH:=h.lt;obtain⟨L,a,h1,h2,e,c,d⟩:=h;refine⟨L,w.alloc (.mapIter (some m) a #[] a),h2,?_,⟨⟨a,?_,?_,d⟩,c⟩,af.alloc (.refl _ _) _,by simp⟩
 .simp only[Instr.range,Sem.run_bind,c3 b,Result.andThen,mx h1,Sem.run_pure,newObj,Sem.run]
  rfl
 .show(w.heap.push _)[w.heap.size]? =_
  simp
 .show(w.heap.push _)[m]? =_
  rw[Array.getElem?_push_lt aH];exact(Array.getElem?_eq_getElem aH).symm.trans h1
theorem kV.next(h:kV w r m enc L seen)(E:r≠m)(T:TypeId):
 (gq L seen=[]/\∃w1,(Instr.next (.pointer (some r)) false T).run P w=.ok (.tuple #[false]) w1/\Ext w w1/\w1.heap=w.heap)\/
 (∃x∈gq L seen,∃w1,(Instr.next (.pointer (some r)) false T).run P w=.ok (.tuple #[true,enc x.1,x.2.1]) w1/\kV w1 r m enc L (seen++ [x.2.2])/\af (λq=>q=r) w w1/\w1.heap.size=w.heap.size/\(Instr.entry (.pointer (some r))).run P w1=.ok (.tuple #[enc x.1,x.2.1]) w1):=by
 obtain⟨⟨a,h1,h2,d⟩,j⟩:=h;have k:(!seen.toArray.isEmpty&& !((L.map (eu enc)).toArray).isEmpty&&((L.map (eu enc)).toArray).all λe=>decide (e.born>=a))=false:=by
  cases L with
  |nil=>simp
  |cons x L=>
   have:¬a<=x.2.2:=by have:=d x (by simp);omega
   simp[eu,this]
 have f:((L.map (eu enc)).toArray.filter λe=> !seen.toArray.contains e.born)=((gq L seen).map (eu enc)).toArray:=by
  rw[List.filter_toArray,List.filter_map]
  congr 1
  unfold gq
  congr 1
  apply oc;intro x _;simp only[Function.comp,eu,List.contains_toArray]
 have aH:∀x∈gq L seen,x.2.2<a:=λx hx=>d x (gr.1 hx).1;have hold:(((gq L seen).map (eu enc)).toArray.filter λe=>decide (e.born<a))=((gq L seen).map (eu enc)).toArray:=by
  rw[List.filter_toArray,ik.2];intro e he;obtain⟨x,hx,rfl⟩:=fJ.1 he;exact dR (aH x hx)
 have g:(((gq L seen).map (eu enc)).toArray.filter λe=>decide (e.born>=a))= #[]:=by
  rw[List.filter_toArray,lI.2];intro e he;obtain⟨x,hx,rfl⟩:=fJ.1 he;have:=aH x hx;have F:¬a<=x.2.2:=by omega
  simp[eu,F]
 cases b:gq L seen with
 |nil=>
  rw[b]at f hold g;obtain⟨i,w1,hi,hc,c⟩:=Dx P (n:=1) (bk _) w;have G:i=0:=by omega
  subst G;refine .inl ⟨rfl,w1,?_,?_,?_⟩
  .simp only[Instr.next,Sem.run_bind,zp h1,Result.andThen,mx h2,k,fZ,if_false,f,hold,g]
   simp only[List.map_nil,Array.isEmpty,th,k2,decide_true,if_true];have e:(#[none]++((#[]:Array MapEntry)++ #[]).map some:Array (av MapEntry)).size=1:=by simp
   have o:((#[none]++((#[]:Array MapEntry)++ #[]).map some:Array (av MapEntry)))[0]? =some none:=by simp
   simp only[e,Sem.run_bind,hc,Result.andThen,o,Sem.run_pure,Sem.run_pure]
  .rcases c with rfl|rfl
   .exact .refl _ _
   .exact af.drew (.refl _ _)
  .rcases c with rfl|rfl<;>rfl
 |cons y l=>
  right;rw[←b];have v:1<=(gq L seen).length:=by rw[b];simp
  obtain⟨i,w1,hi,hc,c⟩:=Dx P (n:=(gq L seen).length) v w;have p:w1.heap=w.heap:=by rcases c with rfl|rfl<;>rfl
  obtain⟨x,hx⟩:∃x,x=(gq L seen)[i]:=⟨_,rfl⟩;have s:x∈gq L seen:=by rw[hx];exact cP _
  have A:x∈L:=(gr.1 s).1;have B:w1.heap[r]? =some (.mapIter (some m) a seen.toArray a):=by rw[p];exact h1
  have H:r<w1.heap.size:=(lG.1 B).1;have t:(iw w1 r (.mapIter (some m) a (seen.toArray.push x.2.2) a)).heap[r]? =some (.mapIter (some m) a (seen++ [x.2.2]).toArray a):=by
   rw[tT H];simp
  have u:(iw w1 r (.mapIter (some m) a (seen.toArray.push x.2.2) a)).heap[m]? =some (.map (L.map (eu enc)).toArray a):=by
   have C:w1.heap[m]? =some (.map (L.map (eu enc)).toArray a):=by rw[p];exact h2
   rw[(rZ w1 r _).block m (lG.1 C).1 (λe=>E e.symm)];exact C
  refine⟨x,s,iw w1 r (.mapIter (some m) a (seen.toArray.push x.2.2) a),?_,⟨⟨a,t,u,d⟩,j⟩,?_,?_,?_⟩
  .simp only[Instr.next,Sem.run_bind,zp h1,Result.andThen,mx h2,k,fZ,if_false,f,hold,g]
   have I:((gq L seen).map (eu enc)).toArray.isEmpty=false:=by rw[b];rfl
   have e:((#[]:Array (av MapEntry))++(((gq L seen).map (eu enc)).toArray++ #[]).map some).size=(gq L seen).length:=by simp
   have o:((#[]:Array (av MapEntry))++(((gq L seen).map (eu enc)).toArray++ #[]).map some)[i]? =some (some (eu enc x)):=by
    simp[hi,hx]
   simp only[I,fZ,if_false,e,Sem.run_bind,hc,Result.andThen,o,Jl B,Sem.run_pure,eu]
  .have J:af (λq=>q=r) w w1:=by
    rcases c with rfl|rfl
    .exact .refl _ _
    .exact af.drew (.refl _ _)
   exact J.trans (rZ _ _ _)
  .rw[tS,p]
  .have K:(seen++ [x.2.2]).toArray.back? =some x.2.2:=by simp
   have hf:((L.map (eu enc)).toArray.find? λe=>e.born==x.2.2)=some (eu enc x):=by
    rw[List.find?_toArray,List.find?_map];have:L.find? ((λe:MapEntry=>e.born==x.2.2)∘eu enc)=some x:=by
     clear b v hi hc s hx t u f hold g aH k h2 d
     induction L with
     |nil=>cases A
     |cons z L M=>
      rw[g_]at j;obtain⟨cc,bB⟩:=List.nodup_cons.1 j;rw[List.find?_cons];rcases c0.1 A with rfl|D
      .simp[eu]
      .have N:z.2.2≠x.2.2:=λe=>cc (by rw[e];exact fJ.2 ⟨x,D,rfl⟩)
       have:((λe:MapEntry=>e.born==x.2.2)∘eu enc) z=false:=by simp[eu,N]
       rw[this];exact M bB D
    rw[this];rfl
   have O:(a !=a)=false:=by simp
   simp only[Instr.entry,Sem.run_bind,zp t,Result.andThen,K,mx u,O,fZ,if_false,hf,Sem.run_pure,eu]
theorem eH.clear{M:O (α×aa)}(h:eH w m enc M){o:TypeId}(b:P.underlying T=some (.map hF lO)):∃w1,(Builtin.clear_ #[T] o #[.map (some m)]).run P w=.ok (.tuple #[]) w1/\eH w1 m enc ([]:O (α×aa))/\af (λq=>q=m) w w1/\w1.heap.size=w.heap.size:=by
 have aH:=h.lt;obtain⟨L,a,h1,h2,c,d,e⟩:=h;refine⟨iw w m (.map #[] a),?_,⟨[],a,tT aH _,by simp,by simp,by simp,by simp⟩,rZ _ _ _,tS _ _ _⟩;unfold Builtin.clear_;simp only[rk,mV,Sem.run_bind,c3 b,Result.andThen,mx h1,xG h1,Sem.run_pure]
end
theorem Jm{w:J}{lb:Nat}{ls:O dh}{T:TypeId}(h:bj w lb (bn az ls).toArray T)(hs:∀x∈ls,x.length=256){i:Nat}(hi:i<ls.length){x:dh}(hx:x.length=256):
 bJ w ⟨lb,i*256,none⟩ (az x)/\bj (setCells w ⟨lb,i*256,none⟩ 0 (az x)) lb (bn az (ls.set i x)).toArray T/\af (λq=>q=lb) w (setCells w ⟨lb,i*256,none⟩ 0 (az x)):=by
 have a:∀x∈ls,(az x).length=256:=λx hx=>by rw[c9];exact hs x hx
 have f:=fe (c:=az) ls a;have b:(az x).length=256:=by rw[c9];exact hx
 have d:i*256+(az x).length<=(bn az ls).toArray.size:=by
  rw[th,f,b];omega
 refine⟨bj.cn h _ _ d (iT _),?_,af.jJ (.refl _ _) _ 0⟩;have h0:=bj.lf (o:=i*256) h (az x);have h1:=ld (az x) (bn az ls).toArray (i*256) d;have h2:=Cg a hi x;rw[b]at h1;have g:(gx (bn az ls).toArray (i*256) (az x)).toList=bn az (ls.set i x):=h1.trans h2;have e:gx (bn az ls).toArray (i*256) (az x)=(bn az (ls.set i x)).toArray:=by rw[←g]
 rw[e]at h0;exact h0
theorem Jn{α:Type}{L:O (α×aa×Nat)}{seen:O Nat}{x:α×aa×Nat}(h:x∈gq L seen):(gq L (seen++ [x.2.2])).length<(gq L seen).length:=by
 have e:gq L (seen++ [x.2.2])=(gq L seen).filter λy=> !(y.2.2==x.2.2):=by
  unfold gq;rw[List.filter_filter];apply oc;intro y _;rw[e0];simp only[iK,c8,List.contains_eq_mem,iL,cO,fj,beq_eq_false_iff_ne];constructor
  .exact λh=>⟨λh2=>h (.inr h2),λh2=>h (.inl h2)⟩
  .rintro⟨h1,h2⟩ (a|a)
   .exact h2 a
   .exact h1 a
 rw[e];exact List.length_filter_lt_length_iff_exists.2 ⟨x,h,by simp⟩
def zq{α:Type}(L:O (α×aa×Nat))(r:Nat)(w:J):Nat:=match w.heap[r]? with
 |some (.mapIter _ _ seen _)=>(gq L seen.toList).length
 |_=>0
theorem kV.left{α:Type}{w:J}{r m:Nat}{enc:α->aa}{L:O (α×aa×Nat)}{seen:O Nat}(h:kV w r m enc L seen):zq L r w=(gq L seen).length:=by
 obtain⟨⟨a,h1,_⟩,_⟩:=h;unfold zq;rw[h1]
theorem kV.ah{α:Type}{W:Nat->Prop}{w w':J}{r m:Nat}{enc:α->aa}{L:O (α×aa×Nat)}{seen:O Nat}(h:kV w r m enc L seen)(hc:af W w w')(a:¬W r)(b:¬W m):kV w' r m enc L seen:=by
 obtain⟨⟨c,h1,h2,d⟩,e⟩:=h;exact⟨⟨c,by rw[hc.block r (lG.1 h1).1 a];exact h1,by rw[hc.block m (lG.1 h2).1 b];exact h2,d⟩,e⟩
def bc.jb(D:bc):bc:={D with b7:=(List.range D.n).map D.now,waits:=[]}
theorem sX(D:bc):D.jb.n=D.n:=by simp[bc.jb,bc.n]
theorem zr(D:bc){i:Nat}(hi:i<D.n):D.jb.now i=D.now i:=by
 show((List.range D.n).map D.now).getD i []=_;rw[fH (by simp;exact hi)];simp
def Jo(D:bc)(w:J)(v:aa)(w':J):Prop:=
 (D.gg 3=true/\v=.int .i64 3/\di w' (D.cJ 3)/\af (λq=>q=D.d) w w')\/
 (D.gg 3=false/\v=.int .i64 0/\di w' (D.cJ 3).jb/\af (cq D) w w')
theorem zt{w:J}{D:bc}(h:di w D)(bp:D.a7<=1000000000):aI aj 59 #[.pointer (some ⟨D.d,0,none⟩)] w (Jo D w):=by
 refine okF (ae.uL (some ⟨D.d,0,none⟩)) ax.uL func59 ?_;(delta ae.uL ak b8 xN r1 p8 aO xU;dsimp only);refine⟨λh1=>(by cases h1),λ_=>⟨_,rfl,(yS h (k:=3) (by decide)).use ?_⟩⟩;rintro _ ai ⟨rfl,f,ac,bq⟩;obtain⟨bG,p⟩:∃bG,bG=D.cJ 3:=⟨_,rfl⟩;have aG:bG.d=D.d:=by rw[p];rfl
 have br:bG.lb=D.lb:=by rw[p];rfl
 have aH:bG.mr=D.mr:=by rw[p];rfl
 have aJ:bG.n=D.n:=by rw[p];rfl
 have aK:cq bG=cq D:=by rw[p];rfl
 have bs:bG.a7=D.a7:=by rw[p];rfl
 rw[←p]at f;refine⟨_,rfl,λC=>.inl ⟨C,rfl,by rw[←p];exact f,ac⟩,λC=>?_⟩;rw[←aG];have ad:=f.bB;obtain⟨L,ag,al,am,an,ao,bt⟩:=kV.begin (P:=aj) f.m nH;obtain⟨r,aL⟩:∃r,r=ai.heap.size:=⟨_,rfl⟩;rw[←aL]at am an;have aM:r≠bG.mr:=by have:=f.m.lt;omega
 have ap:∀q,cq bG q->q≠r:=λq E e=>by have:=f.lt E;omega
 have aN:∀x∈L,∃y∈bG.waits,x.1=(y.i:Int):=λx hx=>by
  have:=al.mem_iff.1 (fJ.2 ⟨x,hx,rfl⟩);obtain⟨y,t,e⟩:=fJ.1 this;refine⟨y,t,?_⟩;have:=congrArg Prod.fst e;exact this.symm
 have aP:∀y∈bG.waits,∃x∈L,x.1=(y.i:Int):=λy t=>by
  have:y.e∈L.map mv:=al.mem_iff.2 (fJ.2 ⟨y,t,rfl⟩);obtain⟨x,hx,e⟩:=fJ.1 this;exact⟨x,hx,congrArg Prod.fst e⟩
 refine⟨_,rfl,some bG.mr,f.iY,_,ag,am,λw'=>∃ (seen:O Nat) (ls:O dh),kV w' r bG.mr encZ L seen/\di w' {bG with b7:=ls}/\ls.length=bG.n/\(∀ (j:Nat) (F:j<ls.length),ls[j]=if ∃x∈L,x.2.2∈seen/\x.1=(j:Int) then bG.now j else bG.b7.getD j [])/\af (λq=>cq bG q) ai w'/\ag.heap.size<=w'.heap.size,
  zq L r,⟨[],bG.b7,an,f.ext ao,rfl,λj F=>?_,af.cX ao,bk _⟩,?_⟩
 .rw[if_neg (by rintro⟨x,_,h1,_⟩;cases h1),fH F]
 rintro aq ⟨seen,ls,Q,u,A,jH,H,bu⟩;have R:∀s∈ls,s.length=256:=u.sl;have bv:r<aq.heap.size:=by omega
 have aQ:bG.lb≠r:=ap _ (.inr (.inl rfl));rcases Q.next (P:=aj) aM 0 with ⟨aR,aS,S,au,bw⟩|⟨x,hx,I,S,aT,av,bx,aU⟩
 .
  refine .inr ⟨aS,S,λh=>(by cases h),λ_=>?_⟩;have K:=u.ext au;obtain⟨aV,aW,aY,T,bz⟩:=eH.clear (P:=aj) (o:=0) K.m nH;refine⟨_,rfl,some bG.mr,K.iY,_,aV,aW,.inr ⟨C,rfl,?_,?_⟩⟩
  .have aZ:∀x∈L,x.2.2∈seen:=λx hx=>by
    have:=lI.1 aR x hx;simpa using this
   have a0:ls=(List.range D.n).map D.now:=by
    refine m3 (by simp[A,aJ]) λj h1 h2=>?_;rw[jH j h1,List.getElem_map,List.getElem_range];have U:D.now j=bG.now j:=by rw[p];rfl
    rw[U];split
    .rfl
    .rename_i a4
     unfold bc.now
     cases hf:bG.waits.find? λx=>x.i==j with
     |some y=>
      exfalso;have t:=j9 hf;have a5:y.i=j:=by simpa using k0 hf
      obtain⟨x,hx,e⟩:=aP y t;exact a4 ⟨x,hx,aZ x hx,by rw[e,a5]⟩
     |none=>rfl
   have V:bG.d≠bG.mr:=f.a1.2.1;have a6:bG.lb≠bG.mr:=f.a1.2.2;have e:(D.cJ 3).jb={bG with b7:=ls,waits:=[]}:=by
    rw[a0,p];rfl
   rw[e];refine⟨K.v.ah T V,bj.ah K.l T a6,aY,λx hx=>(by cases hx),λx hx=>(by cases hx),R,λx hx=>(by cases hx),?_,?_,u.f4,u.fr,u.a1,λx hx=>(by cases hx),λx hx=>(by cases hx),u.r⟩
   .show 16<=ls.length;rw[A];exact f.cc
   .show ls.length<=1600;rw[A];exact ad
  .have a8:cq D D.d:=.inl rfl
   have hc:af (λq=>cq D q) w ai:=ac.mono λq _ e=>by rw[e];exact a8
   have H:af (λq=>cq D q) ai aq:=by rw[←aK];exact H
   have a9:=c5 hc H λq _ h=>h;have a_:=c5 a9 au λq _ h=>h.elim;exact c5 a_ T λq _ ba=>by rw[ba,aH];exact .inr (.inr (.inl rfl))
 .
  have W:x∈L:=(gr.1 hx).1;have bA:x.2.2∉seen:=by
   have:=(gr.1 hx).2;simpa using this
  obtain⟨y,t,X⟩:=aN x W;have bb:=u.ah av λq E=>ap q E;have hi:y.i<bG.n:=(f.wn y t).2.1;have bd:y.i<ls.length:=by omega
  refine .inl ⟨_,_,I,S,λ_=>⟨(y.i:Int),x.2.1,I,?_,?_⟩,λh=>(by cases h)⟩
  .rw[aU]
   have e:encZ x.1=.int .i64 ((y.i:Nat):Int):=by rw[X]
   rw[e]
  have aw:=cG I;have Y:=bb.ext aw;have be:({bG with b7:=ls}:bc).n=bG.n:=A;refine aX ⟨λ_=>False,_,rfl,id,⟨some ⟨bG.lb,0,none⟩,ls.length,ls.length⟩,Y.fL,(Cj (i:=y.i) Y (by rw[be];exact hi) (by show bG.a7<=_;omega)).use ?_⟩;rintro _ M ⟨rfl,Z⟩;have g:=Y.ext Z;have U:({bG with b7:=ls}:bc).now y.i=bG.now y.i:=by
   unfold bc.now
   cases hf:bG.waits.find? λx=>x.i==y.i with
   |some z=>rfl
   |none=>
    have:=j8.1 hf y t;simp at this
  have aa:(bG.now y.i).length=256:=f.sL hi;rw[U];have ar:Addr.add ⟨bG.lb,0,none⟩ (Int.toNat ((y.i:Nat):Int)*256)=⟨bG.lb,y.i*256,none⟩:=by rw[dc,aA,cR]
  obtain⟨b5,cp,bf⟩:=Jm g.l R bd aa;refine⟨_,rfl,Z,_,rfl,⟨by omega,by show((y.i:Nat):Int)<((ls.length:Nat):Int);omega⟩,by rw[ar];exact b5,by simp[c9,aa],?_⟩;rw[ar];refine aX ?_;show _/\_;have ay:bj (setCells M ⟨bG.lb,y.i*256,none⟩ 0 (az (bG.now y.i)).toArray.toList) bG.lb (bn az (ls.set y.i (bG.now y.i))).toArray 151:=cp;have B:af (λq=>q=bG.lb) M (setCells M ⟨bG.lb,y.i*256,none⟩ 0 (az (bG.now y.i)).toArray.toList):=bf;generalize setCells M ⟨bG.lb,y.i*256,none⟩ 0 (az (bG.now y.i)).toArray.toList=aB at ay B;have ab:=Ext.trans aw Z;have aC:=(aT.ah ab id id).ah B (λe=>aQ e.symm) λe=>f.a1.2.2 e.symm;have bg:af (λq=>cq bG q) ai aB:=by
   have h1:af (λq=>cq bG q) ai I:=c5 H av λq E e=>by omega
   have h2:=c5 h1 ab λq _ h=>h.elim;exact c5 h2 B λq _ e=>by rw[e];exact .inr (.inl rfl)
  have bC:=ab.size;have bD:=B.size;have bh:di aB {bG with b7:=ls.set y.i (bG.now y.i)}:=by
   have V:bG.d≠bG.lb:=f.a1.1;refine⟨?_,ay,g.m.ah B λe=>f.a1.2.2 e.symm,λx hx=>(g.ws x hx).ah B λq E e=>(g.a2 x hx).2.1 (by rw[←e];exact E),?_,λs hs=>?_,g.nI,?_,?_,g.f4,g.fr,g.a1,g.a2,g.a3,g.r⟩
   .have h1:=g.v.ah B V
    have e:({bG with b7:=ls.set y.i (bG.now y.i)}:bc).c=({bG with b7:=ls}:bc).c:=by unfold bc.c;simp
    rw[e];exact h1
   .intro z bi
    have:=g.wn z bi;refine⟨this.1,?_,this.2.2⟩;show z.i<(ls.set y.i (bG.now y.i)).length;rw[dr];exact this.2.1
   .rcases m6 hs with h1|rfl
    .exact R s h1
    .exact aa
   .show 16<=(ls.set y.i (bG.now y.i)).length;rw[dr,A];exact f.cc
   .show(ls.set y.i (bG.now y.i)).length<=1600;rw[dr,A];exact ad
  refine⟨⟨seen++ [x.2.2],_,aC,bh,by rw[dr];exact A,λj F=>?_,bg,by omega⟩,?_⟩
  .rw[dr]at F
   rw[nZ];split
   .rename_i e
    subst e;rw[if_pos ⟨x,W,by simp,X⟩]
   .rename_i bl
    rw[jH j F];have:(∃G∈L,G.2.2∈seen/\G.1=(j:Int))↔∃G∈L,G.2.2∈seen++ [x.2.2]/\G.1=(j:Int):=by
     constructor
     .rintro⟨z,h1,h2,N⟩
      exact⟨z,h1,j7 _ h2,N⟩
     .rintro⟨z,h1,h2,N⟩
      rcases cO.1 h2 with h2|h2
      .exact⟨z,h1,h2,N⟩
      .have bm:z=x:=by
        have aD:=Q.cd;obtain⟨a,aE,rfl⟩:=fv h1;obtain⟨b,C,rfl⟩:=fv W;have aF:=fj.1 h2;have bo:a=b:=by
         rcases Nat.lt_trichotomy a b with h|h|h
         .have:=k1.1 aD a b (by simpa using aE) (by simpa using C) h
          simp at this;exact absurd aF this
         .exact h
         .have:=k1.1 aD b a (by simpa using C) (by simpa using aE) h
          simp at this;exact absurd aF.symm this
        subst bo;rfl
       rw[bm,X]at N;exact absurd (by omega) bl
    simp only[this]
  .rw[aC.left,Q.left]
   exact Jn hx
structure eB where
 an:Nat
 batch:Nat
 iS:Nat
def eB.c(l:eB):O aa:=[l.an,l.batch,.int .u64 (l.iS:Nat)]
def pA(f b d:Int):Prop:=8<=f/\f<=64/\1<=b/\b<=1000/\1<=d/\d<=1048576
instance KL(f b d:Int):Decidable (pA f b d):=by unfold pA;infer_instance
section
variable {w w':J}{D:bc}
theorem qj(w:J)(p:av ag)(f b d:Int):aI aj 53 #[.pointer p,.agg #[f,b,.int .u64 d]] w (λv w'=>v=.bool (!(Option.isNone p)&&decide (pA f b d))/\Ext w w'):=by
 refine okF (ae.qj p f b d) ax.qj func53 ?_;(delta ae.qj ak aG Y cr;dsimp only);refine ba (vs:=[f,b,.int .u64 d]) rfl λw1 c hx hs=>?_;refine cx (λx w'=>x=(!(Option.isNone p)&&decide (8<=f))/\w1=w') (λq a=>⟨λh=>⟨f,c.cell,a _ _ ⟨by rw[h,g0],rfl⟩⟩,λh=>a _ _ ⟨by rw[h,kC],rfl⟩⟩) ?_;rintro e _ ⟨h1,rfl⟩;refine cx (λx w'=>x=(e&&decide (f<=64))/\w1=w') (λq a=>⟨λh=>⟨f,c.cell,a _ _ ⟨by rw[h,g0],rfl⟩⟩,λh=>a _ _ ⟨by rw[h,kC],rfl⟩⟩) ?_;rintro g _ ⟨h2,rfl⟩;refine cx (λx w'=>x=(g&&decide (1<=b))/\w1=w') (λq a=>⟨λh=>⟨b,by rw[aA];exact c.cell,a _ _ ⟨by rw[h,g0],rfl⟩⟩,λh=>a _ _ ⟨by rw[h,kC],rfl⟩⟩) ?_;rintro i _ ⟨j,rfl⟩;refine cx (λx w'=>x=(i&&decide (b<=1000))/\w1=w') (λq a=>⟨λh=>⟨b,by rw[aA];exact c.cell,a _ _ ⟨by rw[h,g0],rfl⟩⟩,λh=>a _ _ ⟨by rw[h,kC],rfl⟩⟩) ?_;rintro k _ ⟨l,rfl⟩;refine cx (λx w'=>x=(k&&decide (1<=d))/\w1=w') (λq a=>⟨λh=>⟨d,by rw[aA];exact c.cell,a _ _ ⟨by rw[h,g0],rfl⟩⟩,λh=>a _ _ ⟨by rw[h,kC],rfl⟩⟩) ?_;rintro m _ ⟨n,rfl⟩;refine cx (λx w'=>x=(m&&decide (d<=1048576))/\w1=w') (λq a=>⟨λh=>⟨d,by rw[aA];exact c.cell,a _ _ ⟨by rw[h,g0],rfl⟩⟩,λh=>a _ _ ⟨by rw[h,kC],rfl⟩⟩) ?_;rintro r _ ⟨o,rfl⟩;refine⟨?_,hx⟩;rw[o,n,l,j,h2,h1,Value.bool.injEq,e0];simp only[c8,cg,and_assoc];exact Iff.rfl
theorem wN{D:bc}{no:Nat}{s:ad}{l:dh}{N:Nat}(a:∀q,aB s q->cq D q\/N<=q):∀q,cq (D.put no s l) q->cq D q\/N<=q:=by
 rintro q (e|e|e|⟨x,hx,e⟩)
 .exact .inl (.inl e)
 .exact .inl (.inr (.inl e))
 .exact .inl (.inr (.inr (.inl e)))
 .rcases c0.1 hx with rfl|hx
  .exact a q e
  .exact .inl (.inr (.inr (.inr ⟨x,(gr.1 hx).1,e⟩)))
def Jp(D:bc)(u:eT)(gen:Nat)(w:J)(v:aa)(w':J):Prop:=
 af (cq D) w w'/\((D.gg 2=true/\v=.int .i64 3/\di w' (D.cJ 2))\/
 (D.gg 2=false/\∃s:ad,(∀q,aB s q->cq D q\/w.heap.size<=q)/\∃bG:bc,bG=D.put (gen%2) s (eJ (gen%2) (jT u D.n gen))/\
   ((bG.gg 3=true/\v=.int .i64 3/\di w' (bG.cJ 3))\/(bG.gg 3=false/\v=.int .i64 0/\di w' (bG.cJ 3).jb))))
theorem np(h:di w D)(P:D.a7<=999999999){u:eT}(hu:nJ u){gen:Nat}(hg:gen<18446744073709551616):
 aI aj 60 #[.pointer (some D.d),.agg u.c.toArray,.int .u64 (gen:Nat)] w (Jp D u gen w):=by
 have Q:=h.cc;have R:=h.bB;refine ae.Fm _ (u.root:Nat) (u.aL:Nat) (u.map:Nat) (u.clock:Nat) (u.dw:Nat) (u.keys:Nat) (gen:Nat) w _ ?_;(delta ae.np Y aG cr bP bE ew aq ak;dsimp only);have A:IntKind.wrap .i64 (Int.tmod (gen:Int) 2)=((gen%2:Nat):Int):=by
  rw[nW I,bq I I];omega
 refine ba (vs:=u.c) rfl λw1 B j S=>⟨by decide,?_⟩;have a:=cG w1;have C:=B.ext a;have E:=h.ext (j.trans a);refine aX ⟨λ_=>False,id,q4 C ((wo E).use ?_)⟩;rintro _ _ ⟨rfl,rfl⟩;refine⟨_,rfl,af.refl _ _,(qo hu (n:=D.n) I).use ?_⟩;rintro _ F ⟨k,rfl,G,t,T⟩;rw[A];refine⟨k,rfl,λ_=>False,#[(3:Int),.int .u64 (gen:Nat),k],λU=>by kernel_rfl,(v7 (s:=k) (p:=jT u D.n gen) G.src I (yW hg)).use ?_⟩;rintro _ V ⟨H,rfl,J,v,K⟩;have b:=(j.trans a).trans (Ext.trans t v);have L:=h.ext b;have W:=b.size;have M:(eJ (gen%2) (jT u D.n gen)).length=256:=sD _ (yW hg);have X:w.heap.size<=F.heap.size:=by have:=(j.trans a).size;have:=t.size;omega
 refine⟨H,0,rfl,v,λh=>(by cases h),λ_=>(wq L (i:=gen%2) I I J.src M λq f hf=>by have:=K q f;have:=h.lt hf;omega).use ?_⟩;rintro _ N (⟨g,rfl,hd,hc⟩|⟨g,rfl,s,hd,hc,x⟩)
 .exact⟨3,rfl,λ_=>⟨c5 (b.mono λ_ _ h=>h.elim) hc λq _ e=>by rw[e];exact .inl rfl,.inl ⟨g,rfl,hd⟩⟩,λh=>(by cases h)⟩
 .have y:af (cq D) w N:=c5 (b.mono λ_ _ h=>h.elim) hc λq _ e=>e
  have O:=wN (no:=gen%2) (l:=eJ (gen%2) (jT u D.n gen)) x;refine⟨0,rfl,λh=>(by cases h),λ_=>(zt hd (by show D.a7+1<=_;omega)).use ?_⟩;have z:∀q,aB s q->cq D q\/w.heap.size<=q:=λq f=>(x q f).imp id λh=>by omega
  rintro _ Z (⟨m,rfl,o,r⟩|⟨m,rfl,o,r⟩)
  .exact⟨3,rfl,c5 y r λq _ e=>by rw[e];exact .inl rfl,.inr ⟨g,s,z,_,rfl,.inl ⟨m,rfl,o⟩⟩⟩
  .exact⟨0,rfl,c5 y r λq f e=>(O q e).resolve_right I,.inr ⟨g,s,z,_,rfl,.inr ⟨m,rfl,o⟩⟩⟩
end
section
variable {w w':J}{C:b4}{X:Nat->Prop}
def Fr.g6(f:Fr):al:=f.full&&f.gn
theorem Jq:h8 aj 179:=⟨Tryz.f179,func179,by kernel_rfl,by kernel_rfl⟩
theorem Jr(f:Fr)(w:J):aI aj 179 #[.agg #[f.full,f.gn,f.used,f.no,f.pins,f.b]] w (λv w'=>v=f.g6/\Ext w w'):=by
 refine okF (ae.vf f.full f.gn f.used f.no f.pins f.b) ax.vf func179 ?_;(delta ae.vf aV Y ak;dsimp only);refine ba (vs:=f.c) rfl λw1 a hx hs=>⟨f.full,a.cell,cx (λb w'=>b=f.g6/\w1=w') (λq d=>⟨λh=>⟨f.gn,by rw[aA];exact a.cell,d _ _ ⟨by unfold Fr.g6;rw[h];rfl,rfl⟩⟩,λh=>d _ _ ⟨by unfold Fr.g6;rw[h];rfl,rfl⟩⟩) ?_⟩;rintro _ _ ⟨rfl,rfl⟩;exact⟨rfl,hx⟩
def kz(fs:O Fr):O Int:=(fs.filter Fr.g6).map Fr.no
theorem Js(h:fg w C):aI aj 126 #[.pointer (some C.c)] w (λv w'=>∃ (s:ad) (zs:O Int),v=s/\aT 1 3 w' s (zs.map encZ)/\zs.Perm (kz C.an)/\Ext w w'/\∀q,aB s q->w.heap.size<=q):=by
 obtain⟨bU,aW,a8⟩:=h.cells
 have W:=h.cp
 refine okF (ae.u6 (some C.c)) ax.u6 func126 ?_
 delta ae.u6 bE
 refine Calls.mono (ae.FE (some C.c) ⟨179,#[],#[]⟩ w (λv w'=>∃ (s:ad) (zs:O Int),v=s/\aT 1 3 w' s (zs.map encZ)/\zs.Perm (kz C.an)/\Ext w w'/\∀q,aB s q->w.heap.size<=q) ?_) ?_
 · (delta ae.sj ak r1 aO aV aG Y aq gT;dsimp only)
   refine⟨λh=>(by cases h),λ_=>⟨_,rfl,⟨some C.aY,C.an.length,C.an.length⟩,aW,λs n w'=>∃i:Nat,n=(i:Int)/\i<=C.an.length/\aT 1 3 w' s ((kz (C.an.take i)).map encZ)/\Ext w w'/\∀q,aB s q->w.heap.size<=q,λ_ n _=>((C.an.length:Int)-n).toNat,⟨0,rfl,cM _,by simpa[kz] using aT.none 1 3 w,.refl _ _,λq e=>(f_ q e).elim⟩,?_⟩⟩
   rintro s _ p ⟨i,rfl,hi,a,hx,g⟩
   have A:=h.ext hx
   refine⟨λaH=>?_,λB=>?_⟩
   · have r:i<C.an.length:=by
       have:(i:Int)<(C.an.length:Int):=cj aH
       omega
     obtain⟨f,hf⟩:∃f,f=C.an[i]:=⟨_,rfl⟩
     have X:(kz (C.an.take i)).length<=64:=by
       unfold kz
       rw[dn]
       have:=k3 Fr.g6 (C.an.take i)
       rw[cz]at this;omega
     have t:kz (C.an.take (i+1))=kz (C.an.take i)++(if f.g6 then [f.no] else []):=by
       unfold kz
       rw[j3 r,gu,fP,←hf,jg,rA]
       congr 1
       split<;>rfl
     refine cx (λs w'=>aT 1 3 w' s ((kz (C.an.take (i+1))).map encZ)/\Ext w w'/\∀q,aB s q->w.heap.size<=q) (λq e=>?_) ?_
     · have hc:∀j,j<6->p.cell? ⟨C.aY,i*6+j,none⟩=(f.c)[j]? :=λj D=>by rw[hf];exact kr A.f r D
       refine⟨_,rfl,⟨I,by show(i:Int)<(C.an.length:Int);omega⟩,?_⟩
       rw[sP]
       refine⟨f.full,hc 0 (by decide),f.gn,by rw[aA];exact hc 1 (by decide),f.used,by rw[aA];exact hc 2 (by decide),f.no,by rw[aA];exact hc 3 (by decide),f.pins,by rw[aA];exact hc 4 (by decide),f.b,by rw[aA];exact hc 5 (by decide),?_⟩
       refine ba (vs:=[false,false,false,(0:Int),(0:Int),()]) rfl λZ u E aa=>⟨u.cn rfl (λv l=>?_),rfl,cT u (us:=f.c) rfl rfl λy d F ab=>?_⟩
       · simp only[c0,fw,fD]at l
         rcases l with rfl|rfl|rfl|rfl|rfl|rfl<;>trivial
       have G:Ext p y:=Ext.cC E F (bk _)
       refine⟨f.full,d.cell,f.gn,by rw[aA];exact d.cell,f.used,by rw[aA];exact d.cell,f.no,by rw[aA];exact d.cell,f.pins,by rw[aA];exact d.cell,f.b,by rw[aA];exact d.cell,Jq,(Jr f y).use ?_⟩
       rintro _ m ⟨rfl,z⟩
       have k:=Ext.trans G z
       have H:=d.ext z
       refine⟨_,rfl,λhd=>⟨f.no,by rw[aA];exact H.cell,aX ?_⟩,λhd=>e _ _ ⟨?_,Ext.trans hx k,g⟩⟩
       · have o:Ext m (m.alloc (.cells #[encZ f.no] 3)):=c4 _ _
         obtain⟨J,K,aw,ay,_,L,M⟩:=sF.append (cF:=72) (x:=⟨some m.heap.size,1,1⟩) (Src.new (T:=3) m [encZ f.no] 1 rfl) ((a.ext k).ext o) (λv l=>by rw[fj.1 l];trivial) (by
           have:s.len=(kz (C.an.take i)).length:=by
             have:=a.1
             rw[dn]at this;omega
           show(2*(s.len+1)+1000)*8<=_;omega)
         refine⟨J,K,aw,e _ _ ⟨?_,?_,λq e=>?_⟩⟩
         · rw[t,hd,if_pos rfl,fP];exact ay
         · exact Ext.dT (Ext.trans (Ext.trans hx k) o) L g
         · rcases M q e with h1|h1
           · exact g q h1
           · have:=(Ext.trans hx k).size
             have:=o.size;omega
       · rw[t,hd]
         simp only[fZ,if_false,fu]
         exact a.ext k
     · rintro ac af ⟨h1,h2,N⟩
       have P:IntKind.wrap .i64 ((i:Int)+1)=((i+1:Nat):Int):=by rw[bq I I];omega
       rw[P]
       exact⟨⟨i+1,rfl,I,h1,h2,N⟩,by show((C.an.length:Int)-((i+1:Nat):Int)).toNat<((C.an.length:Int)-(i:Int)).toNat;omega⟩
   · have Q:i=C.an.length:=by
       have:¬(i:Int)<(C.an.length:Int):=cE B
       omega
     rw[Q,j5]at a
     refine(HK a (by
       unfold kz
       rw[dn]
       have:=k3 Fr.g6 C.an;omega)).use ?_
     rintro _ ag ⟨rfl,R,zs,S,U⟩
     exact⟨rfl,s,zs,rfl,S,U.1,Ext.dT hx R g,g⟩
 · rintro _ w1 ⟨_,rfl,s,zs,rfl,a,V,hx,hf⟩
   exact⟨s,rfl,s,zs,rfl,a,V,hx,hf⟩
end
section
variable {w w':J}{C:b4}{X:Nat->Prop}
theorem Jt{D:bc}{no:Nat}{s:ad}{l:dh}{N:Nat}(a:∀q,aB s q->cq D q\/N<=q):∀q,cq (D.put no s l) q->cq D q\/N<=q:=by
 rintro q (e|e|e|⟨x,hx,e⟩)
 .exact .inl (.inl e)
 .exact .inl (.inr (.inl e))
 .exact .inl (.inr (.inr (.inl e)))
 .rcases c0.1 hx with rfl|hx
  .exact a q e
  .exact .inl (.inr (.inr (.inr ⟨x,(gr.1 hx).1,e⟩)))
theorem fg.qI{aC:bc}(h:fg w C)(hd:di w' aC)(e:aC.d=C.D.d)(hc:af (cq C.D) w w')(hf:∀q,cq aC q->cq C.D q\/w.heap.size<=q):fg w' {C with D:=aC}:=by
 have h1:=h.v.ah hc h.a1.2.1;rw[←e]at h1;have a:C.c<w.heap.size:=h.v.lt;have b:C.aY<w.heap.size:=bj.lt h.f;refine⟨h1,bj.ah h.f hc h.a1.2.2,hd,h.b5,h.cp,h.hd,h.a1.1,λg=>?_,λg=>?_⟩
 .rcases hf _ g with g|g
  .exact h.a1.2.1 g
  .have g:w.heap.size<=C.c:=g
   omega
 .rcases hf _ g with g|g
  .exact h.a1.2.2 g
  .have g:w.heap.size<=C.aY:=g
   omega
def b4.wrote(C:b4)(i no:Nat)(hi:i<C.an.length)(s:ad):b4:={C with an:=C.an.set i {C.an[i] with gn:=false},D:=C.D.put no s (C.an[i]).l}
theorem Ju(h:ef X w C){i no:Nat}(hi:i<C.an.length)(hf:(C.an[i]).full=true)(t:(C.an[i]).no=no){s:ad}(H:¬C.D.b9 no=true)(hd:di w' (C.D.put no s (C.an[i]).l))(hc:af (cq C.D) w w')(T:∀q,aB s q->cq C.D q\/w.heap.size<=q):
 (∃u:aa,w'.cell? ⟨C.aY,i*6+1,none⟩=some u)/\w'.frozen? ⟨C.aY,i*6+1,none⟩=false/\ef X (w'.setCell ⟨C.aY,i*6+1,none⟩ false) (C.wrote i no hi s)/\
   eA C (C.wrote i no hi s) w (w'.setCell ⟨C.aY,i*6+1,none⟩ false) 1/\∀j,(C.wrote i no hi s).view j=C.view j:=by
 have z:=Jt (no:=no) (l:=(C.an[i]).l) T;obtain⟨aC,x⟩:∃aC,aC=C.D.put no s (C.an[i]).l:=⟨_,rfl⟩;have B:∀j,aC.now j=if j=no then (C.an[i]).l else C.D.now j:=by rw[x];exact pn _ _ _ _
 have J:aC.d=C.D.d:=by rw[x];rfl
 have U:aC.n=C.D.n:=by rw[x];rfl
 have W:aC.key=C.D.key:=by rw[x];exact CO C.D H
 have K:kQ aC C.D:=by rw[x];exact CN h.inv H
 have al:aC.a7=C.D.a7+1:=by rw[x];rfl
 have Y:∀m,C.D.calm (m+1)->aC.calm m:=λm Z=>by rw[x];exact(jS (.inr rfl) h.raw.dev.f4 Z).1
 unfold b4.wrote;rw[←x]at hd z⊢;have L:=h.raw.qI hd J hc z;obtain⟨a1,a2,a3,a4⟩:=nN L.f hi (j:=1) (by decide) (v:=false) {C.an[i] with gn:=false} rfl;obtain⟨g,o⟩:∃g:Fr,g={C.an[i] with gn:=false}:=⟨_,rfl⟩;rw[←o]at a3⊢;refine⟨a1,a2,?_⟩;generalize w'.setCell ⟨C.aY,i*6+1,none⟩ false=E at a3 a4;have G:af (da C) w E:=c5 (hc.mono λq _ e=>.inr (.inr e)) a4 λq _ e=>.inr (.inl e);obtain⟨y,aw,ay,ab,ac,am,ao,ae⟩:=h.inv.ok _ (cP hi) hf;have ag:y=no:=by rw[t]at aw;omega
 subst ag;obtain⟨a,r⟩:∃a:b4,a={C with an:=C.an.set i dx,D:=aC}:=⟨_,rfl⟩;have h1:gF X E a:=by
  rw[r];exact y5 (V:=da C) hi h.inv G (λ_ _ h=>h) K (λj A=>by rw[B,if_neg λe=>A hf (by rw[t,e])]) z dx rfl rfl
 have v1:∀j,a.view j=C.view j:=λj=>by
  rw[r];exact CM hi h.inv (λ_ j A=>by rw[B,if_pos (by rw[t]at A;omega)]) (λj A=>by rw[B,if_neg λe=>A hf (by rw[t,e])]) dx rfl j
 have F:a.an=C.an.set i dx:=by rw[r]
 have dL:i<a.an.length:=by rw[F,dr];exact hi
 have M:∀ (k:Nat) (ah:k<a.an.length),k≠i->(a.an[k]).full=true->(a.an[k]).no≠y:=λk ah N h2 O=>by
  simp only[F,fx (Ne.symm N)]at h2 O;exact N (h.inv.un k i _ hi h2 hf (by rw[O,t]))
 have P:C.an.set i g=a.an.set i g:=by rw[F,set_set]
 have Q:({C with an:=C.an.set i g,D:=aC}:b4)={a with an:=a.an.set i g,D:=aC}:=by rw[P,r]
 have ai:bu (λq=>¬da {C with an:=C.an.set i g,D:=aC} q/\¬X q) E g.b g.l:=by
  rw[o];refine bu.re ab G (λq _ R=>R.1) λq R S=>⟨λp=>S.1 ?_,S.2⟩;rcases p with p|p|p
  .exact .inl p
  .exact .inr (.inl p)
  .exact .inr (.inr ((z q p).resolve_right I))
 have h2:gF X E {C with an:=C.an.set i g,D:=aC}:=by
  rw[Q];refine y6 (C:=a) (no:=y) (V:=λ_=>False) dL h1 (.refl _ _) (λ_ _ h=>h.elim) (by rw[r];exact⟨rfl,λ_ h=>h,K.2.2⟩) (λj=>by rw[r]) (λq=>by rw[r]) g (by rw[o];exact hf) (by rw[o];exact h.inv.pins (C.an[i]) (cP hi)) ⟨by rw[o];exact t,by show y<aC.n;rw[U];exact ay,by rw[←Q];exact ai,by rw[o];exact ac,λ_=>?_,λ_=>by rw[o],ae⟩ M;show g.l=aC.now y;rw[B,if_pos rfl,o]
 have aj:∀j,({C with an:=C.an.set i g,D:=aC}:b4).view j=C.view j:=λj=>by
  have ak:({C with an:=C.an.set i g,D:=aC}:b4)=b4.mk a.c a.aY (a.an.set i g) C.hand aC:=by rw[P,r]
  rw[ak,y7 (C:=a) (hd:=C.hand) (aC:=aC) (no:=y) dL h1.un (λj=>by rw[r]) g (by rw[o];exact hf) (by rw[o];exact t) (λp=>by simp only[F,im]at p;cases p) M j,v1];split
  .rename_i e
   subst e;have:=mL (fs:=C.an) (D:=C.D) (c:=C.c) (aY:=C.aY) (hd:=C.hand) h.inv.un hi hf t;rw[o];exact this.symm
  .rfl
 refine⟨⟨?_,h2⟩,⟨rfl,J,by show(C.an.set i _).length=_;rw[dr],W,by show aC.a7<=_;omega,Y,G,?_⟩,aj⟩
 .refine y8 (C:={C with D:=aC}) L a4 a3
 .rintro q (e|e|e)
  .exact .inl (.inl e)
  .exact .inl (.inr (.inl e))
  .exact(z q e).imp (λh=>.inr (.inr h)) id
theorem zu{aC:bc}(h:ef X w C)(hd:di w' aC)(e:aC.d=C.D.d)(b:kQ aC C.D)(a:∀i,aC.now i=C.D.now i)(hc:af (cq C.D) w w')(hf:∀q,cq aC q->cq C.D q\/w.heap.size<=q):ef X w' {C with D:=aC}/\∀j,({C with D:=aC}:b4).view j=C.view j:=
 ⟨⟨h.raw.qI hd e hc hf,sQ (C:=C) (hd:=C.hand) h.inv (hV.refl _) (hc.mono λq _ e=>.inr (.inr e)) (λ_ _ h=>h) b a hf⟩,λj=>sR (C:=C) (hd:=C.hand) h.inv (hV.refl _) a j⟩
theorem Jv(h:ef X w C)(hc:∀f∈C.an,f.g6=false)(j:Nat):C.view j=C.D.now j:=by
 unfold b4.view
 cases b:C.an.find? λf=>f.full&&f.no==(j:Int) with
 |none=>rfl
 |some f=>
  have c:=j9 b;have a:=k0 b;simp only[c8,j4]at a;obtain⟨no,aw,ay,g,i,d⟩:=h.inv.ok f c a.1;have h1:=hc f c;unfold Fr.g6 at h1;rw[a.1,g0]at h1;have e:no=j:=by rw[a.2]at aw;omega
  rw[←e];exact d h1
theorem Dy{D:bc}(h:di w D)(i:Nat):D.jb.now i=D.now i:=by
 by_cases hi:i<D.n
 .exact zr D hi
 .have h1:D.now i=[]:=by
   unfold bc.now
   cases hf:D.waits.find? λx=>x.i==i with
   |some x=>
    have hx:=j9 hf;have he:x.i=i:=by simpa using k0 hf
    have:=(h.wn x hx).2.1;omega
   |none=>
    have:¬i<D.b7.length:=hi;show D.b7.getD i []=[];rw[fQ,n_ I];rfl
  rw[h1];show((List.range D.n).map D.now).getD i []=[];rw[fQ,n_ (by simp;omega)];rfl
theorem sY(D:bc){m:Nat}(h:D.calm m):(D.cJ 3).calm m:=by
 unfold bc.calm bc.cJ at*;simpa[fQ] using h
theorem eA.r1{C aJ:b4}{w w':J}{k:Nat}(h:eA C aJ w w' k):aJ.D.r1=C.D.r1:=congrArg (λk:(O dh×(Nat->al)×(Nat->O dh)×(Int->Prop)×al)×Int=>k.1.2.2.2.2) h.b7
structure Jw(X:Nat->Prop)(C aJ:b4)(w:J)(v:aa)(w':J):Prop where
 at_:ef X w' aJ
 c:aJ.c=C.c
 d:aJ.D.d=C.D.d
 len:aJ.an.length=C.an.length
 n:aJ.D.n=C.D.n
 b9:aJ.D.b9=C.D.b9/\aJ.D.eL=C.D.eL
 r:aJ.D.r1=C.D.r1
 a7:aJ.D.a7<=C.D.a7+64
 calm:∀m,C.D.calm (m+64)->aJ.D.calm m
 ah:af (da C) w w'
 c6:∀q,da aJ q->da C q\/w.heap.size<=q
 view:∀j,aJ.view j=C.view j
 ib:(v=.int .i64 0/\aJ.D.waits=[]/\(∀f∈aJ.an,f.g6=false)/\aJ.D.cl.getD 3 0=(gL (C.D.cl.getD 3 0)).2)\/(v=.int .i64 3/\aJ.D.b7=C.D.b7/\(¬C.D.calm 64\/C.D.gg 3=true))
theorem Jx(h:ef X w C)(a0:C.D.a7<=999999900)(am:∀j,C.D.b9 j=true->C.D.eL j=[]):aI aj 147 #[.pointer (some C.c)] w (λv w'=>∃aJ,Jw X C aJ w v w'):=by
 have a1:=h.raw.cp;refine okF (ae.va (some C.c)) ax.va func147 ?_;(delta ae.va ak bE aO aG kg r1 bP st aq;dsimp only);refine⟨λh=>(by cases h),λ_=>(Js h.raw).use ?_⟩;rintro _ w1 ⟨s,zs,rfl,hs,M,V,ao⟩;have hlen:s.len=zs.length:=by have:=hs.1;rw[dn]at this;omega
 have a2:zs.length<=64:=by
  rw[M.length_eq];unfold kz;rw[dn];have:=k3 Fr.g6 C.an;omega
 have h1:=h.ext V;have ap:∀z∈zs,∀no:Nat,(no:Int)=z->¬C.D.b9 no=true:=λz t no a3 hs=>by
  obtain⟨f,hf,e⟩:=fJ.1 (M.mem_iff.1 t);obtain⟨h2,u⟩:=gr.1 hf;unfold Fr.g6 at u;rw[c8]at u;obtain⟨m,b5,_,_,_,_,W,ar⟩:=h.inv.ok f h2 u.1;have:m=no:=by rw[e]at b5;omega
  subst this;rw[W hs]at u
  cases u.2
 refine⟨s,rfl,λn w'=>∃ (i:Nat) (g:b4),n=(i:Int)/\i<=zs.length/\ef X w' g/\eA C g w w' i/\(∀j,g.view j=C.view j)/\aT 1 3 w' s (zs.map encZ)/\(∀f∈g.an,f.g6=true->f.no∈zs.drop i)/\(∀z∈zs,∃f∈g.an,f.full=true/\f.no=z)/\∀q,da g q->¬aB s q,
  λn _=>((zs.length:Int)-n).toNat,⟨0,C,rfl,cM _,h1,eA.ext C V,λ_=>rfl,hs,λf hf hd=>?_,λz t=>?_,λq o N=>?_⟩,?_⟩
 .exact M.mem_iff.2 (fJ.2 ⟨f,gr.2 ⟨hf,hd⟩,rfl⟩)
 .obtain⟨f,hf,e⟩:=fJ.1 (M.mem_iff.1 t)
  obtain⟨h2,u⟩:=gr.1 hf;unfold Fr.g6 at u;rw[c8]at u;exact⟨f,h2,u.1,e⟩
 .have:=ao q N;have:=h.raw.lt o;omega
 rintro _ Q ⟨i,g,rfl,hi,p,l,O,R,Y,hex,Z⟩;have a4:=l.a7;refine⟨λaH=>?_,λau=>?_⟩
 .have G:i<zs.length:=by
   have:(i:Int)<(s.len:Int):=cj aH;omega
  obtain⟨a,av,az⟩:∃a:ag,s.a=some a/\Q.cell? (a.add (Int.toNat (i:Int)*1))=some (.int .i64 zs[i]):=by
   obtain⟨b,c,y,_,_,_,_,S,_⟩:=R.cell (i:=i) (v:=encZ zs[i]) (by rw[n2,dI G];rfl);exact⟨_,y,by rw[dc,aA,cR,fB];exact S⟩
  refine⟨a,av,⟨I,by show(i:Int)<(s.len:Int);omega⟩,zs[i],az,?_⟩;rw[←l.c];refine(wy p.raw _).use ?_;rintro _ _ ⟨aC,rfl⟩;obtain⟨f,aD,aE,aF⟩:=hex zs[i] (cP G);rcases aC with ⟨k,H,rfl,aw,ay⟩|⟨_,aK⟩
  rotate_left
  .exact absurd aF (aK f aD aE)
  have J:=cG Q;have B:=p.ext J;obtain⟨no,b5,cp,aa,aL,a5,W,ar⟩:=B.inv.ok _ (cP H) aw;have t:zs[i]=(no:Int):=by rw[←ay,b5]
  have aM:=kr B.raw.f H (j:=5) (by decide);refine⟨_,rfl,aX ⟨_,rfl,id,_,B.raw.cells.1,_,rfl,id,(g.an[k]).b,by rw[aA];exact aM,?_⟩⟩;rw[t];refine(wq B.raw.dev (i:=no) cp I aa.1 aL λq o hf=>(aa.2.2 q o).1.1 (.inr (.inr hf))).use ?_;rintro v2 ai aN;have aP:=l.ah.size;have a6:=J.size;rcases aN with ⟨y,rfl,E,r⟩|⟨y,rfl,s2,E,r,aQ⟩
  .obtain⟨hX,ey⟩:=zu B E rfl (B.inv.cJ 2) (λj=>wz g.D 2 j) (r.mono λq _ e=>.inl e) λq o=>.inl o
   refine⟨3,rfl,λ_=>⟨{g with D:=g.D.cJ 2},hX,l.c,l.d,l.len,l.n,l.pt,l.r1,by show g.D.a7<=_;omega,λm K=>?_,?_,?_,λj=>(ey j).trans (O j),.inr ⟨rfl,?_,.inl λaR=>?_⟩⟩,λh=>(by cases h)⟩
   .exact(jS (.inr rfl) p.raw.dev.f4 (l.calm (m+1) (gm K I))).1
   .refine c5 (l.ah.trans (af.cX J)) r λq o e=>?_
    exact(l.c6 q (.inr (.inr (.inl e)))).resolve_right I
   .exact l.c6
   .exact congrArg (λk=>k.1.1) l.b7
   .have:=(jS (k:=2) (m:=0) (.inr rfl) p.raw.dev.f4 (l.calm 1 (gm aR I))).2
    rw[y]at this;cases this
  .obtain⟨bl,bf,ab,P,aS⟩:=Ju B H aw (by rw[ay,t]) (λhs=>ap _ (cP G) _ t.symm (by rw[←l.b9];exact hs)) E r aQ
   refine⟨0,rfl,λh=>(by cases h),λ_=>⟨_,rfl,by rw[aA];exact bl,by rw[aA];exact bf,?_⟩⟩;rw[aA];refine aX ?_;generalize ai.setCell ⟨g.aY,k*6+1,none⟩ false=a8 at ab P;have aU:IntKind.wrap .i64 ((i:Int)+1)=((i+1:Nat):Int):=by rw[bq I I];omega
   rw[aU];have aV:=(l.trans (eA.ext g J)).trans P;have aW:zs.drop i=zs[i]::zs.drop (i+1):=j2 G;refine⟨⟨i+1,_,rfl,I,ab,aV,λj=>(aS j).trans (O j),(R.ext J).ah P.ah λq o hf=>Z q hf o,λf hf A=>?_,λz t=>?_,λq o N=>?_⟩,by show((zs.length:Int)-((i+1:Nat):Int)).toNat<((zs.length:Int)-(i:Int)).toNat;omega⟩
   .have hf:f∈g.an.set k {g.an[k] with gn:=false}:=hf
    obtain⟨b,T,rfl⟩:=fv hf;have ac:b<g.an.length:=by simpa using T
    by_cases e:k=b
    .subst e
     simp[Fr.g6]at A
    .simp only[fx e]at A⊢
     have F:=Y _ (cP ac) A;rw[aW]at F;rcases c0.1 F with U|U
     .unfold Fr.g6 at A
      rw[c8]at A;exact absurd (p.inv.un k b H ac aw A.1 (by rw[ay,U])) e
     .exact U
   .obtain⟨f,f1,f2,f3⟩:=hex z t
    obtain⟨b,T,rfl⟩:=fv f1;by_cases e:k=b
    .subst e
     exact⟨{g.an[k] with gn:=false},List.mem_set H _,f2,f3⟩
    .exact⟨g.an[b],tg.2 ⟨b,by show b<(g.an.set k _).length;rw[dr];exact T,by show(g.an.set k _)[b]'_=_;rw[fx e]⟩,f2,f3⟩
   .rcases P.c6 q o with F|F
    .exact Z q F N
    .have:=R.lt q N;omega
 .have G:i=zs.length:=by
   have:¬(i:Int)<(s.len:Int):=cE au;omega
  have S:∀f∈g.an,f.g6=false:=λf hf=>by
   cases A:f.g6 with
   |false=>rfl
   |true=>
    have:=Y f hf A;rw[G,List.drop_length]at this
    cases this
  have ad:g.D.cl.getD 3 0=C.D.cl.getD 3 0:=congrArg Prod.snd l.b7;rw[←l.c];refine⟨_,rfl,_,p.raw.cells.1,(zt p.raw.dev I).use ?_⟩;have aP:=l.ah.size;rintro v2 ai (⟨y,rfl,E,r⟩|⟨y,rfl,E,r⟩)
  .obtain⟨hX,ey⟩:=zu p E rfl (p.inv.cJ 3) (λj=>wz g.D 3 j) (r.mono λq _ e=>.inl e) λq o=>.inl o
   refine⟨3,rfl,{g with D:=g.D.cJ 3},hX,l.c,l.d,l.len,l.n,l.pt,l.r1,by show g.D.a7<=_;omega,λm K=>sY _ (l.calm m (gm K I)),c5 l.ah r λq o e=>(l.c6 q (.inr (.inr (.inl e)))).resolve_right I,l.c6,λj=>(ey j).trans (O j),.inr ⟨rfl,congrArg (λk=>k.1.1) l.b7,.inr ?_⟩⟩;unfold bc.gg at y⊢;rw[←ad];exact y
  .have al:∀q,cq (g.D.cJ 3).jb q->cq g.D q\/Q.heap.size<=q:=by
    rintro q (e|e|e|⟨x,hx,e⟩)
    .exact .inl (.inl e)
    .exact .inl (.inr (.inl e))
    .exact .inl (.inr (.inr (.inl e)))
    .cases hx
   have aZ:∀j,(g.D.cJ 3).jb.now j=g.D.now j:=λj=>by
    by_cases L:j<g.D.n
    .exact(zr (g.D.cJ 3) L).trans (wz g.D 3 j)
    .have F:g.D.jb.now j=g.D.now j:=Dy p.raw.dev j
     exact F
   obtain⟨hX,ey⟩:=zu p E rfl ⟨sX (g.D.cJ 3),λ_ h=>h,λj L=>by
    have L:g.D.b9 j=true:=L;have e:g.D.eL j=[]:=by rw[l.pt.2];exact am j (by rw[←l.pt.1];exact L)
    exact e.symm⟩ aZ r al
   refine⟨0,rfl,{g with D:=(g.D.cJ 3).jb},hX,l.c,l.d,l.len,(sX (g.D.cJ 3)).trans l.n,l.pt,l.r1,by show g.D.a7<=_;omega,λm K=>sY g.D (l.calm m (gm K I)),c5 l.ah r λq o e=>(l.c6 q (.inr (.inr e))).resolve_right I,λq o=>?_,λj=>(ey j).trans (O j),.inl ⟨rfl,rfl,S,?_⟩⟩
   .rcases o with e|e|e
    .exact l.c6 q (.inl e)
    .exact l.c6 q (.inr (.inl e))
    .rcases al q e with e|e
     .exact l.c6 q (.inr (.inr e))
     .exact .inr I
   .show(g.D.cl.set 3 _).getD 3 0=_
    have a9:=p.raw.dev.f4;rw[fH (by rw[dr];omega),im,ad]
end
def jc(bh d c sb:Nat)(l:eB)(u:eT)(gen now first pending keys:Nat)(failed:al):O aa:=
 [.pointer (some bh),.pointer (some d),.pointer (some c),.pointer (some sb),l.an,l.batch,.int .u64 (l.iS:Nat),
  u.root,u.aL,u.map,.int .u64 (u.clock:Nat),.int .u64 (u.dw:Nat),u.keys,
  .int .u64 (gen:Nat),.int .u64 (now:Nat),.int .u64 (first:Nat),pending,keys,failed]
section
variable {w w':J}{D:bc}
structure Dz(D:bc)(l:eB)(u:eT)(gen sb:Nat)(w:J)(v:aa)(w':J)(c aY bh st:Nat):Prop where
 val:v=.tuple #[.pointer (some st),(0:Int)]
 ca:ef (λ_=>False) w' (l2 c aY l.an D)
 cV:Var w' bh [.pointer (some c),.pointer (some sb),.int .u64 ((gen+1:Nat):Int),u.root,u.aL] 243
 sv:Var w' st (jc bh D.d c sb l u gen u.clock 0 0 u.keys false) 146
 x:Ext w w'
 hc:w.heap.size<=c/\c<bh
 hf:w.heap.size<=aY/\aY<bh
 ht:bh<st
def bc.jy(D:bc)(s:Nat->al)(z:Nat->O dh):bc:={D with b9:=s,eL:=z}
theorem di.jy(h:di w D)(s:Nat->al)(z:Nat->O dh):di w (D.jy s z):=⟨h.v,h.l,h.m,h.ws,h.wn,h.sl,h.nI,h.cc,h.bB,h.f4,h.fr,h.a1,h.a2,h.a3,h.r⟩
theorem oH(h:di w D){l:eB}(q:8<=l.an/\l.an<=64){u:eT}(hu:zn D.n (u.root:Nat) (u.aL:Nat)){gen:Nat}(hg:gen+1<18446744073709551616)(s:∀j,D.b9 j=true->D.ff j=D.eL j)(sb:Nat):
 aI aj 61 #[.pointer (some D.d),.agg l.c.toArray,.agg u.c.toArray,.int .u64 (gen:Nat),.pointer (some sb)] w (λv w'=>∃c aY bh st,Dz D l u gen sb w v w' c aY bh st):=by
 refine ae.Fo _ (l.an:Nat) (l.batch:Nat) (l.iS:Nat) (u.root:Nat) (u.aL:Nat) (u.map:Nat) (u.clock:Nat) (u.dw:Nat) (u.keys:Nat) (gen:Nat) (some sb) w _ ?_;(delta ae.oH aG Y ia ak cr;dsimp only);refine ba (vs:=l.c) rfl λw1 t i H=>ba (vs:=u.c) rfl λai x b J=>?_;have r:=t.ext b;have y:=h.ext (i.trans b);refine⟨_,r.cell,(qp y q.1 q.2 s).use ?_⟩;rintro _ a ⟨c,aY,rfl,e,f,K,L⟩;have k:=x.ext f;have z:IntKind.wrap .u64 ((gen:Int)+1)=((gen+1:Nat):Int):=by rw[gI I I];omega
 rw[z];have M:(l2 c aY l.an D).D=D:=rfl;refine⟨_,0,rfl,λh=>(by cases h),λ_=>⟨_,k.cell,_,by rw[aA];exact k.cell,(qq e.raw sb ((gen+1:Nat):Int) (u.root:Nat) (u.aL:Nat)).use ?_⟩⟩;rintro _ A (⟨_,rfl,g,B,N⟩|⟨C,_⟩)
 rotate_left
 .exact absurd hu C
 have m:=k.ext g;have o:=(r.ext f).ext g;have O:=(i.trans b).size;have P:=f.size;have E:c<a.heap.size:=e.raw.lt (.inl rfl);have F:aY<a.heap.size:=e.raw.lt (.inr (.inl rfl));refine⟨_,0,rfl,λh=>(by cases h),λ_=>⟨_,o.cell,_,by rw[aA];exact o.cell,_,by rw[aA];exact o.cell,q4 m ⟨_,by rw[aA];exact m.cell,_,by rw[aA];exact m.cell,(jc a.heap.size D.d c sb l u gen u.clock 0 0 u.keys false).toArray,by kernel_rfl,ba (vs:=jc a.heap.size D.d c sb l u gen u.clock 0 0 u.keys false) rfl λQ G p R=>?_⟩⟩⟩;exact⟨c,aY,a.heap.size,A.heap.size,rfl,(e.ext g).ext p,B.ext p,G,Ext.trans (Ext.trans (i.trans b) f) (Ext.trans g p),⟨I,E⟩,⟨I,F⟩,I⟩
def iH(f:Nat->al)(k:Nat):O UInt8:=(List.range k).map λi=>UInt8.ofNat (byteOf f i)
theorem DA(f:Nat->al)(k:Nat):az (iH f k)=e5 f k:=by
 unfold az iH e5;rw[nX];refine List.map_congr_left λi _=>?_;have:=kP f i;show Value.int .u8 (((UInt8.ofNat (byteOf f i)).toNat:Nat):Int)=_;rw[rv,j6 this]
theorem wO(f:Nat->al)(k:Nat):(iH f k).length=k:=by simp[iH]
def jz:eT:=⟨0,0,2,0,0,0⟩
structure DB(D aC:bc):Prop where
 d:aC.d=D.d
 n:aC.n=D.n
 now:∀j,aC.now j=if j=1 then eJ 1 (jT jz D.n 1) else if j=2 then eJ 2 ⟨4,1,iH (λi=>decide (i<3)) ((D.n+7)/8)⟩ else if j=0 then hU else D.now j
 waits:aC.waits=[]
 a7:aC.a7=D.a7+4
 calm:∀k,aC.calm k
 cl:aC.cl.getD 3 0= -1
 b9:aC.b9=λi=>decide (i<3)
 eL:aC.eL=λ_=> []
 r:aC.r1=D.r1
structure Jy(D:bc)(l:eB)(w:J)(v:aa)(w':J)(aC:bc)(sb:Nat)(s1 s2:ad)(c aY bh st:Nat)(kq:J):Prop where
 DC:Dz aC l jz 1 sb kq v w' c aY bh st
 sp:fp w' sb D.n (λi=>decide (i<3)) (λi=>decide (i<3)) s1 s2
 qI:DB D aC
 ah:af (cq D) w kq
 sZ:∀q,gM sb s1 s2 q->w.heap.size<=q/\q<kq.heap.size
 dq:∀q,cq aC q->cq D q\/(w.heap.size<=q/\q<kq.heap.size)
 Jz:∀q,gM sb s1 s2 q->¬cq aC q
theorem oG(h:di w D){l:eB}(ap:pA (l.an:Nat) (l.batch:Nat) (l.iS:Nat))(bi:∀k,D.calm k)(qV:D.cl.getD 3 0= -1)(bZ:D.a7<=999999000):
 aI aj 21 #[.pointer (some ⟨D.d,0,none⟩),.agg l.c.toArray] w (λv w'=>∃aC sb s1 s2 c aY bh st kq,Jy D l w v w' aC sb s1 s2 c aY bh st kq):=by
 have b0:=h.cc;have b1:=h.bB;refine ae.Fj _ (l.an:Nat) (l.batch:Nat) (l.iS:Nat) w _ ?_;(delta ae.oG aG Y cr b8 ak bP ia bE ew kK aq jN;dsimp only);refine ba (vs:=l.c) rfl λw1 Q J b2=>⟨_,Q.cell,_,by rw[aA];exact Q.cell,_,by rw[aA];exact Q.cell,(qj w1 _ _ _ _).use ?_⟩;rintro _ bj ⟨rfl,C⟩;have bl:=h.ext (J.trans C);refine⟨_,rfl,λr=>?_,λ_=>(wo bl).use ?_⟩
 .rw[dR ap]at r;cases r
 rintro _ _ ⟨rfl,rfl⟩;refine⟨_,rfl,(qk bj (D.n:Nat) 3).use ?_⟩;rintro _ b3 (⟨bm,_⟩|⟨_,_,_,_,sb,s1,s2,rfl,hs,Z,aa⟩)
 .exact absurd ⟨I,I,I,I⟩ bm
 rw[dc]at hs;have ab:Int.toNat 3=3:=rfl;rw[ab]at hs;refine⟨_,0,rfl,λh=>(by cases h),λ_=>(CJ hs).use ?_⟩;rintro _ bn ⟨aN,rfl,aO,K,b4⟩;rw[←DA]at aO;obtain⟨mp,R⟩:∃mp:js,mp=⟨4,1,iH (λi=>decide (i<3)) ((D.n+7)/8)⟩:=⟨_,rfl⟩;have aP:nE mp:=by rw[R];exact⟨(by decide:1<=4),(by decide:4<=4),(by decide:1<18446744073709551616),by show(iH _ _).length<=232;rw[wO];omega⟩
 have aQ:=v7 (s:=aN) (p:=mp) (no:=2) (w:=bn) (by rw[R];exact aO.src) (by decide) aP;rw[R]at aQ;refine⟨aN,rfl,aQ.use ?_⟩;rw[←R];rintro _ bo ⟨F,rfl,aR,N,bp⟩;have aS:=Ext.trans (Ext.trans (J.trans C) Z) (Ext.trans K N);have b5:=aS.size;refine⟨F,0,rfl,λh=>(by cases h),λ_=>⟨⟨I,I,I,I⟩,?_⟩⟩;rw[yz];have br:Int.toNat 256=256:=rfl;rw[br];have au:hU.length=256:=me;refine ba (vs:=az hU) rfl λB S G b6=>?_;obtain⟨y,bs⟩:∃y,y=bo.heap.size:=⟨_,rfl⟩;rw[←bs]at S⊢;have ac:=Ext.trans aS G;have aT:Src 1 B ⟨some ⟨y,0,none⟩,256,256⟩ (az hU):=S.qJ (o:=0) (n:=256) (c:=256) (l:=hU) (by rw[c9,au];exact bk _) (by rw[iM,dC (by rw[c9,au];exact bk _)]);refine⟨#[.slice (some ⟨y,0,none⟩) 256 256,.slice (some ⟨y,0,none⟩) 256 256,.slice F.a F.len F.cap],by kernel_rfl,?_⟩;have bt:(eJ 2 mp).length=256:=sD _ aP;obtain⟨vals,av⟩:∃vals:Nat->dh,vals=λj=>if j=2 then eJ 2 mp else hU:=⟨_,rfl⟩
 have bu:∀j,(vals j).length=256:=λj=>by
  rw[av];show(if j=2 then _ else _:dh).length=256;split
  .exact bt
  .exact au
 have bv:∀k,k<3->∃H:ad,cellAt #[.slice (some ⟨y,0,none⟩) 256 256,.slice (some ⟨y,0,none⟩) 256 256,.slice F.a F.len F.cap] (Int.toNat ((k:Nat):Int)*1)=some (.slice H.a H.len H.cap)/\Src 1 B H (az (vals k))/\∀q,aB H q->w.heap.size<=q/\q<B.heap.size:=by
  intro k aU;have bw:=S.lt;have b9:=G.size;rw[av];have hi:∀q,aB (⟨some ⟨y,0,none⟩,256,256⟩:ad) q->w.heap.size<=q/\q<B.heap.size:=λq b=>by
   obtain⟨A,ar,rfl⟩:=b
   cases ar;show w.heap.size<=y/\y<_;exact⟨I,bw⟩
  have b_:=(Ext.trans (Ext.trans (J.trans C) Z) K).size
  match k,aU with
  |0,_=>exact⟨⟨some ⟨y,0,none⟩,256,256⟩,rfl,aT,hi⟩
  |1,_=>exact⟨⟨some ⟨y,0,none⟩,256,256⟩,rfl,aT,hi⟩
  |2,_=>exact⟨F,rfl,aR.src.ext G,λq b=>by have:=bp q b;have:=aR.lt q b;omega⟩
 have bx:=h.ext ac;refine⟨λn w'=>∃ (k:Nat) (g:bc),n=(k:Int)/\k<=3/\di w' g/\g.d=D.d/\g.n=D.n/\(∀j,g.now j=if j<k then vals j else D.now j)/\g.a7=D.a7+k/\(∀m,g.calm m)/\(g.cl.getD 3 0= -1/\g.r1=D.r1)/\af (cq D) B w'/\(∀q,cq g q->cq D q\/B.heap.size<=q),
  λn _=>((3:Int)-n).toNat,⟨0,D,rfl,cM _,bx,rfl,rfl,λj=>rfl,rfl,bi,⟨qV,rfl⟩,.refl _ _,λq b=>.inl b⟩,?_⟩
 rintro _ ca ⟨k,g,rfl,aU,O,ag,aV,aW,bz,aw,⟨ax,aX⟩,ai,L⟩;have cb:=ai.size;refine⟨λaH=>?_,λbA=>?_⟩
 .have ay:k<3:=by
   have:((k:Nat):Int)<3:=cj aH;omega
  obtain⟨H,bC,bD,aZ⟩:=bv k ay;have eo:∀q,aB H q->¬cq D q:=λq b hf=>by have:=(aZ q b).1;have:=h.lt hf;omega
  have a0:=wq O (i:=k) I I (bD.ah ai eo) (bu k) λq b hf=>by
   rcases L q hf with h1|h1
   .exact eo q b h1
   .have:=(aZ q b).2;omega
  rw[ag]at a0;refine⟨⟨I,I⟩,H,bC,a0.use ?_⟩;rintro _ cd (⟨r,_⟩|⟨r,rfl,s,bF,bG,bH⟩)
  .have:=(jS (k:=2) (m:=0) (.inr rfl) O.f4 (aw 1)).2
   rw[r]at this;cases this
  refine⟨0,rfl,λh=>(by cases h),λ_=>?_⟩;have bI:IntKind.wrap .i64 (((k:Nat):Int)+1)=((k+1:Nat):Int):=by rw[bq I I];omega
  rw[bI];refine⟨⟨k+1,_,rfl,I,bF,ag,aV,λj=>?_,by show g.a7+1=_;omega,λm=>(jS (.inr rfl) O.f4 (aw _)).1,⟨(congrArg Prod.snd (qZ g (.inr rfl))).trans ax,aX⟩,c5 ai bG λq b hf=>(L q hf).resolve_right I,λq b=>?_⟩,by show((3:Int)-((k+1:Nat):Int)).toNat<((3:Int)-((k:Nat):Int)).toNat;omega⟩
  .rw[pn,aW]
   by_cases e:j=k
   .rw[if_pos e,if_pos I,e]
   .rw[if_neg e]
    by_cases T:j<k
    .rw[if_pos T,if_pos I]
    .rw[if_neg T,if_neg I]
  .rcases wN bH q b with h1|h1
   .exact L q h1
   .exact .inr I
 have ay:k=3:=by
  have:¬((k:Nat):Int)<3:=cE bA;omega
 subst ay;have hf:=zt O I;rw[ag]at hf;refine hf.use ?_;rintro _ a1 (⟨r,_⟩|⟨_,rfl,aD,bJ⟩)
 .unfold bc.gg at r
  rw[ax]at r;cases r
 obtain⟨c7,E⟩:∃c7,c7=(g.cJ 3).jb:=⟨_,rfl⟩;rw[←E]at aD;have a2:c7.d=D.d:=by rw[E];exact ag
 have a3:c7.n=D.n:=by rw[E];exact(sX _).trans aV
 have bK:c7.r1=D.r1:=by rw[E];exact aX
 have bL:∀j,c7.now j=if j<3 then vals j else D.now j:=λj=>by
  rw[←aW,E];have aE:g.jb.now j=g.now j:=Dy O j;exact aE
 have ce:c7.a7=D.a7+3:=by rw[E];exact bz
 have a4:∀m,c7.calm m:=λm=>by rw[E];exact sY _ (aw m)
 have a5:c7.cl.getD 3 0= -1:=by
  rw[E];show(g.cl.set 3 _).getD 3 0=_;have bM:=O.f4;rw[fH (by rw[dr];omega),im,ax];rfl
 have al:∀q,cq c7 q->cq D q\/B.heap.size<=q:=λq b=>by
  rw[E]at b;rcases b with e|e|e|⟨x,hx,e⟩
  .exact L q (.inl e)
  .exact L q (.inr (.inl e))
  .exact L q (.inr (.inr (.inl e)))
  .cases hx
 have am:af (cq D) B a1:=c5 ai bJ λq b hf=>(L q hf).resolve_right I;have U:∀q,w.heap.size<=q->¬cq D q:=λq b hf=>by have:=h.lt hf;omega
 have bN:=((Q.ext (C.trans (Ext.trans Z (Ext.trans K (Ext.trans N G))))).ah am (U _ (bk _)));have bO:=(hs.ext (Ext.trans K (Ext.trans N G))).ah am λq b=>U q (by have:=aa q b;have:=(J.trans C).size;omega);refine⟨0,rfl,λh=>(by cases h),λ_=>ba (vs:=Cp.c) rfl λcf bQ bR cg=>Cs bQ rfl jz λbS a6 bT ch=>q4 a6 ?_⟩;have V:Ext a1 bS:=Ext.cC bR bT (bk _);have W:=aD.ext V;have a8:=np W I (u:=jz) ⟨(by decide:0<4294967296),(by decide:0<256),(by decide:2<4294967296),(by decide:0<18446744073709551616),(by decide:0<18446744073709551616),(by decide:0<4294967296)⟩ (gen:=1) (by decide);rw[a2]at a8;refine a8.use ?_;have ci:=V.size;have ck:=am.size;rintro _ a9 ⟨ao,⟨r,_⟩|⟨_,s,bU,f,z,⟨r,_⟩|⟨_,rfl,X⟩⟩⟩
 .have:=(jS (k:=2) (m:=0) (.inr rfl) W.f4 (a4 1)).2
  rw[r]at this;cases this
 .have aF:f.cl.getD 3 0= -1:=by rw[z];exact(congrArg Prod.snd (qZ c7 (.inr rfl))).trans a5
  unfold bc.gg at r;rw[aF]at r;cases r
 have aF:f.cl.getD 3 0= -1:=by rw[z];exact(congrArg Prod.snd (qZ c7 (.inr rfl))).trans a5
 obtain⟨M,t⟩:∃M,M=((f.cJ 3).jb).jy (λi=>decide (i<3)) (λ_=> []):=⟨_,rfl⟩;have X:=X.jy (λi=>decide (i<3)) (λ_=> []);rw[←t]at X;have bV:∀x∈f.waits,x.i<f.n:=λx hx=>by
  rw[z]at hx⊢;rcases c0.1 hx with rfl|hx
  .show 1%2<c7.n;omega
  .exact(W.wn x (gr.1 hx).1).2.1
 have bW:∀j,M.now j=if j=1 then eJ 1 (jT jz D.n 1) else if j<3 then vals j else D.now j:=λj=>by
  have aE:M.now j=f.now j:=by
   rw[t];by_cases a_:j<f.n
   .exact(zr (f.cJ 3) a_).trans (wz f 3 j)
   .have P:f.now j=[]:=by
     unfold bc.now
     cases hf:f.waits.find? λx=>x.i==j with
     |some x=>
      have hx:=j9 hf;have he:x.i=j:=by simpa using k0 hf
      have:=bV x hx;omega
     |none=>
      have:¬j<f.b7.length:=a_;show f.b7.getD j []=[];rw[fQ,n_ I];rfl
    rw[P];show((List.range (f.cJ 3).n).map (f.cJ 3).now).getD j []=[];rw[fQ,n_ (by simp;show f.n<=j;omega)];rfl
  rw[aE,z,pn,bL,a3]
 have aJ:DB D M:=by
  refine⟨by rw[t,z];exact a2,by rw[t];exact(sX (f.cJ 3)).trans (by rw[z];exact a3),λj=>?_,by rw[t];rfl,by rw[t,z];show c7.a7+1=_;omega,λm=>by rw[t,z];exact sY (c7.put (1%2) s (eJ (1%2) (jT jz c7.n 1))) (jS (.inr rfl) W.f4 (a4 _)).1,?_,by rw[t];rfl,by rw[t];rfl,by rw[t,z];exact bK⟩
  .rw[bW,av,←R]
   by_cases P:j=1
   .rw[if_pos P,if_pos P]
   .rw[if_neg P,if_neg P]
    by_cases T:j=2
    .subst T;rfl
    .by_cases ab:j=0
     .subst ab;rfl
     .rw[if_neg I,if_neg T,if_neg ab]
  .rw[t]
   show(f.cl.set 3 _).getD 3 0=_;have bM:f.cl.length=4:=by rw[z];show(c7.cl.set 2 _).length=4;rw[dr];exact W.f4
   rw[fH (by rw[dr];omega),im,aF];rfl
 have bb:∀q,cq M q->cq D q\/B.heap.size<=q:=λq b=>by
  rw[t]at b;have h1:cq f q:=by
   rcases b with e|e|e|⟨x,hx,e⟩
   .exact .inl e
   .exact .inr (.inl e)
   .exact .inr (.inr (.inl e))
   .cases hx
  rw[z]at h1;rcases wN bU q h1 with h2|h2
  .exact al q h2
  .exact .inr I
 have bd:af (cq D) B a9:=c5 (c5 am V λq _ h=>h.elim) ao λq b hf=>(al q hf).resolve_right I;have aK:=(bN.ext V).ah ao λhf=>by
  rcases al _ hf with h1|h1
  .exact U _ (bk _) h1
  .have:=ac.size;have:=S.lt;have:=Q.lt;have:=C.size;have:=Z.size;have:=K.size;have:=N.size;have:=G.size;omega
 have bX:=a6.ah ao λhf=>by
  have:=aD.lt hf;omega
 have be:=(bO.ext V).ah ao λq b hf=>by
  have bf:=aa q b;have aL:=(hs.ext (Ext.trans K (Ext.trans N (af.refl _ _)))).lt q b;rcases al _ hf with h1|h1
  .exact U q (by have:=(J.trans C).size;omega) h1
  .have:=G.size;omega
 have cm:=bd.size;have S:=ac.size;have bg:=oH X (l:=l) (u:=jz) (gen:=1) ⟨by have:=ap.1;omega,by have:=ap.2.1;omega⟩ ⟨by decide,by decide,by decide,by rw[aJ.n];show(0:Int)<_;omega,by decide⟩ (by decide) (λj _=>by rw[t];rfl) sb;rw[aJ.d]at bg;refine⟨0,rfl,λh=>(by cases h),λ_=>⟨_,aK.cell,_,by rw[aA];exact aK.cell,_,by rw[aA];exact aK.cell,q4 bX (bg.use ?_)⟩⟩;rintro _ cn ⟨c,aY,bh,st,aM⟩;have bY:=aM.val;subst bY;refine⟨_,0,rfl,M,sb,s1,s2,c,aY,bh,st,a9,aM,be.ext aM.x,aJ,c5 (ac.mono λ_ _ h=>h.elim) bd λq _ h=>h,λq b=>?_,λq b=>?_,λq b hf=>?_⟩
 .have bf:=aa q b
  have aL:=be.lt q b;have:=(J.trans C).size;exact⟨I,aL⟩
 .rcases bb q b with h1|h1
  .exact .inl h1
  .exact .inr ⟨I,X.lt b⟩
 .have bf:=aa q b
  have aL:=(hs.ext (Ext.trans K (Ext.trans N (af.refl _ _)))).lt q b;rcases bb _ hf with h1|h1
  .exact U q (by have:=(J.trans C).size;omega) h1
  .have:=G.size;omega
end
theorem o3{b d:Nat}(k:b<256)(hd:d<256)(w:J):aI aj 19 #[.int .u8 (b:Nat),.int .u8 (d:Nat)] w (λv w'=>v=.agg (eB.c ⟨8,1+b%12,1+d%12⟩).toArray/\Ext w w'):=by
 refine ae.F0 _ _ w _ ?_;(delta ae.o3 Y aq aG cr;dsimp only);have g:IntKind.wrap .i64 (1+IntKind.wrap .i64 (Int.tmod (b:Int) 12))=((1+b%12:Nat):Int):=by
  rw[nW I,bq (n:=(b:Int)%12) I I,bq I I];omega
 have h:IntKind.wrap .u64 (1+IntKind.wrap .u64 (Int.tmod (d:Int) 12))=((1+d%12:Nat):Int):=by
  rw[nW I,gI (n:=(d:Int)%12) I I,gI I I];omega
 rw[g,h];refine ba (vs:=[(0:Int),(0:Int),.int .u64 0]) rfl λw1 e i l=>⟨by decide,by decide,e.cn rfl (λv f=>?_),rfl,cT e (us:=eB.c ⟨8,1+b%12,1+d%12⟩) rfl rfl λai a j m=>⟨_,a.cell,_,by rw[aA];exact a.cell,_,by rw[aA];exact a.cell,rfl,Ext.cC i j (bk _)⟩⟩;simp only[c0,fw,fD]at f;rcases f with rfl|rfl|rfl<;>trivial
theorem JA{w:J}{A:ag}{v:aa}(h:w.cell? A=some v):A.block<w.heap.size:=by
 unfold World.cell? at h;split at h
 .rename_i h1
  exact(lG.1 h1).1
 .cases h
theorem JB(n k:Nat):bN n (k+1)=UInt8.ofNat (n/256^k%256)::bN n k:=by
 unfold bN;rw[List.range_succ_eq_map,g_,nX]
 congr 1
 apply List.map_congr_left;intro j a;have:=j1.1 a;show UInt8.ofNat (n/256^(k+1-1-(j+1))%256)=_;rw[show k+1-1-(j+1)=k-1-j from I]
theorem ny(w:J){n k:Nat}(t:n<18446744073709551616)(u:k<=8):aI aj 215 #[.int .u64 (n:Nat),k] w (λv w'=>∃s:ad,v=s/\aT 1 5 w' s (az (bN n k))/\Ext w w'/\gD w s):=by
 refine ae.FX _ _ w _ ?_;delta ae.ny Y ak aq;have x:=pd w (.cells #[] 5);refine aX ⟨λm s j w'=>∃i:Nat,i<=k/\j=(i:Int)/\m=((n/256^i:Nat):Int)/\aT 1 5 w' s (az (bN n i))/\Ext w w'/\gD w s,λ_ _ j _=>((k:Int)-j).toNat,⟨0,cM _,rfl,by rw[Nat.pow_zero,Nat.div_one],aT.new w [] 0 rfl (by decide),c4 _ _,λq a=>by have:=jk.1 a;have:w.heap.size=q:=this;omega⟩,?_⟩;rintro _ s _ b ⟨i,hi,rfl,rfl,c,hx,hf⟩;refine⟨λh=>?_,λh=>?_⟩
 .simp only[c8,cg]at h
  have d:n/256^i<=n:=Nat.div_le_self _ _;have f:IntKind.wrap .u8 (Int.tmod ((n/256^i:Nat):Int) 256)=(((UInt8.ofNat (n/256^i%256)).toNat:Nat):Int):=by
   generalize n/256^i=m;rw[nW I,tP I I,qH (g9 _ I)];omega
  have g:IntKind.wrap .u64 (Int.tdiv ((n/256^i:Nat):Int) 256)=((n/256^(i+1):Nat):Int):=by
   rw[Nat.pow_succ,←Nat.div_div_eq_div_mul]
   revert d
   generalize n/256^i=m;intro d;rw[wW I,gI I I];omega
  rw[f,g,lA I];have l:=lZ c;rw[dz]at l;have y:=pd b (.cells (az [UInt8.ofNat (n/256^i%256)]).toArray 5);obtain⟨o,w',aw,ay,z,p,r⟩:=CE.append (cF:=39) (c.src.alloc _) (aT.new b (az [UInt8.ofNat (n/256^i%256)]) 1 rfl (by decide)) (iT _) (by show(2*(1+s.len)+1000)*1<=_;omega);rw[←mD,List.singleton_append,←JB]at ay;refine⟨by decide,aX ⟨o,w',aw,by decide,⟨i+1,I,rfl,rfl,ay,c5 hx (c5 (c4 b _) p λq a c=>by have:=jk.1 c;have:b.heap.size=q:=this;have:=hx.size;omega) λq a e=>e,λq a=>?_⟩,by show((k:Int)-((i+1:Nat):Int)).toNat<((k:Int)-(i:Int)).toNat;omega⟩⟩;have:=hx.size;rcases r q a with h1|h1
  .have:=jk.1 h1
   have:b.heap.size=q:=this;omega
  .omega
 .simp only[Bool.and_eq_false_iff,iL]at h
  have:i=k:=by omega
  subst this;exact⟨s,rfl,c,hx,hf⟩
theorem JC(w:J)(p:br)(s:Int):Sem.run aj (Instr.build 57 #[(0,s),(1,.agg p.c.toArray)]) w=.ok (.agg (aF.mk s p 0 0).c.toArray) w:=by
 obtain⟨⟨dU,l,h⟩,n⟩:=p;obtain⟨ck,a,b,d,e,f,g,i,j,k,m,o,q,r,t,u,rfl⟩:=su l h
 kernel_rfl
def mQ(s:Int)(p:br):O UInt8:=if dN s p=true then eX s.toNat p else []
theorem o0(s:Int)(p:br)(w:J):aI aj 168 #[s,.agg p.c.toArray] w (λv w'=>∃t:ad,v=t/\aT 1 5 w' t (az (mQ s p))/\Ext w w'/\∀q,aB t q->w.heap.size<=q):=by
 refine ae.FU s _ w _ ?_;(delta ae.o0 Y b8 ak aV aG bE xO;dsimp only);refine ba (vs:=p.c) rfl λw1 G aa ap=>⟨p.c,G.rd (br.bF _),_,JC w1 p s,(nw ⟨s,p,0,0⟩ w1).use ?_⟩;rintro _ l ⟨rfl,H⟩;have ab:(aF.mk s p 0 0).ej=dN s p:=by unfold aF.ej;rw[show iV (aF.mk s p 0 0).b=true from rfl,pI]
 rw[ab];have B:=aa.trans H;have K:=G.ext H;have aq:=B.size;refine⟨_,rfl,λh=>?_,λh=>?_⟩
 .have hg:dN s p=false:=by simpa using h
  refine aX ⟨⟨some l.heap.size,0,0⟩,rfl,?_,B.trans (c4 _ _),λq d=>?_⟩
  .unfold mQ
   rw[if_neg (by rw[hg];decide)];exact aT.new (T:=5) l [] 0 rfl (by decide)
  .have:l.heap.size=q:=jk.1 d
   omega
 have hg:dN s p=true:=by simpa using h
 have C:=hg;unfold dN at C;rw[c8,cg]at C;obtain⟨ac,ag⟩:=C;obtain⟨k,rfl,ar⟩:=qS ag;have au:=sH ac;have ah:IntKind.wrap .u8 p.bits=(((UInt8.ofNat p.bits.toNat).toNat:Nat):Int):=by
  rw[rv];show p.bits%256=_;omega
 refine cx (λn w'=>n=(((ig p).toNat:Nat):Int)/\l=w') (λq d=>⟨_,BZ K,λh=>d _ _ ⟨by unfold ig;rw[if_pos h];rfl,rfl⟩,λh=>d _ _ ⟨by unfold ig;rw[if_neg (by rw[h];decide)];rfl,rfl⟩⟩) ?_;rintro _ _ ⟨rfl,rfl⟩;have L:=cG l;have u:=K.ext L;have D:=B.trans L;refine aX ?_;generalize l.drew=f at u D;have av:=D.size;have ax:=u.lt;refine⟨λq=>f.heap.size<=q,by rw[aA];show¬f.heap.size<=w.heap.size;omega,_,yC u,by show¬f.heap.size<=w.heap.size;omega,_,yB u,?_⟩;rw[ah,gI (n:=(k:Int)) I I];have lit:∀ (w':J),Src 1 (w'.alloc (.cells #[.int .u8 (((ig p).toNat:Nat):Int),.int .u8 (((UInt8.ofNat p.bits.toNat).toNat:Nat):Int)] 5)) ⟨some w'.heap.size,2,2⟩ (az [ig p,UInt8.ofNat p.bits.toNat]):=λw'=>Src.new (T:=5) w' (az [ig p,UInt8.ofNat p.bits.toNat]) 2 rfl;have aC:=vJ p.addr
 have fin:∀ (ai:J) (g:ad),Ext f ai->aT 1 5 ai g (az (bN k 2)++az [ig p,UInt8.ofNat p.bits.toNat])->(∀q,aB g q->f.heap.size<=q)->Calls aj 216 #[.agg p.addr.c.toArray] ai λal M=>
  ∃m:ad,al=.returned m/\∃i:ad,∃o:J,Sem.run aj (
   Builtin.append_ #[39,39] 39 #[g,m])
  M=.ok i o/\∃t:ad,Value.slice i.a i.len i.cap=t/\aT 1 5 o t (az (mQ (k:Nat) p))/\Ext w o/\∀q,aB t q->w.heap.size<=q:=λai g N O P=>by
  refine(o2 p.addr ai).use ?_;rintro _ M ⟨m,rfl,am,aD,E⟩;have aE:g.len=4:=by have:=O.1;rw[cv,c9,c9,dz]at this;simp at this;omega
  obtain⟨i,o,aw,ay,Q,j,r⟩:=mF.append (cF:=39) am.src (O.ext E) (iT _) (by show(2*(g.len+m.len)+1000)*1<=_;omega);have aH:=N.size;have aJ:=E.size;refine⟨m,rfl,i,o,aw,i,rfl,?_,Ext.dT (D.trans (N.trans E)) j (λq d=>by have:=P q d;omega),λq d=>?_⟩
  .unfold mQ
   rw[if_pos hg];have e:az (bN k 2)++az [ig p,UInt8.ofNat p.bits.toNat]++az p.addr.raw=az (eX (Int.toNat (k:Nat)) p):=by
    rw[dc];unfold eX az;rw[fP,fP,cD]
   rw[←e];exact ay
  .rcases r q d with h1|h1
   .have:=P q h1;omega
   .omega
 have x:∀ {a b:J},Ext a b->af (λq=>f.heap.size<=q) a b:=λh=>h.mono λ_ _ h=>h.elim;refine⟨(ny f (n:=k) (k:=2) I I).use ?_,aX ⟨x (c4 _ _),(ny _ (n:=k) (k:=2) I I).use ?_⟩⟩
 .rintro _ R ⟨y,rfl,S,F,an⟩
  have aK:y.len=2:=by have:=S.1;rw[c9,dz]at this;omega
  obtain⟨g,U,aw,ay,Q,j,r⟩:=mF.append (cF:=39) (lit R) (S.ext (c4 _ _)) (iT _) (by show(2*(y.len+2)+1000)*1<=_;omega);have aL:=F.size;have V:=(c4 R (.cells #[.int .u8 (((ig p).toNat:Nat):Int),.int .u8 (((UInt8.ofNat p.bits.toNat).toNat:Nat):Int)] 5)).size;have hf:∀q,aB y q->f.heap.size<=q:=an;exact⟨y,rfl,x F,aX ⟨x (c4 _ _),g,U,aw,j.mono λq _ d=>hf q d,fin U g (Ext.dT (F.trans (c4 _ _)) j hf) ay λq d=>by
   rcases r q d with h1|h1
   .exact hf q h1
   .omega⟩⟩
 .rintro _ aM ⟨z,rfl,W,A,ao⟩
  have aN:z.len=2:=by have:=W.1;rw[c9,dz]at this;omega
  have V:=(c4 f (.cells #[.int .u8 (((ig p).toNat:Nat):Int),.int .u8 (((UInt8.ofNat p.bits.toNat).toNat:Nat):Int)] 5)).size;obtain⟨X,Z,aw,ay,Q,j,r⟩:=mF.append (cF:=39) ((lit f).ext A) W (iT _) (by show(2*(z.len+2)+1000)*1<=_;omega);have aO:=A.size;have hf:∀q,aB z q->f.heap.size<=q:=λq d=>eG V (ao q d);exact⟨z,rfl,x A,X,Z,aw,j.mono λq _ d=>hf q d,fin Z X (Ext.dT ((c4 _ _).trans A) j hf) ay λq d=>by
   rcases r q d with h1|h1
   .exact hf q h1
   .omega⟩
theorem kA(T:O aF):∀t∈T,(aF.c t).length=21:=λt _=>t.bF
section
variable {w w':J}{s:ad}{T:O aF}{i aR:Nat}{most:Int}
theorem q_(hs:Src 21 w s (bn aF.c T))(hi:i<T.length):∃A:ag,s.a=some A/\((0:Int)<=(i:Int)/\(i:Int)<(s.len:Int))/\w.cell? (A.add (Int.toNat (i:Int)*21))=some (.int .i64 T[i].s)/\bz w ((A.add (Int.toNat (i:Int)*21)).add 1) 0 18=some T[i].p.c/\bz w (A.add (Int.toNat (i:Int)*21)) 0 21=some T[i].c:=by
 obtain⟨d,A,ar,b⟩:=q0 hs (kA T) (by decide) hi;rw[dc];have h0:=lN b (j:=0) (v:=.int .i64 T[i].s) rfl;have h1:=xJ b (k:=1) (m:=18) (by decide);have e:(T[i].c.drop 1).take 18=T[i].p.c:=by
  show List.take 18 (T[i].p.c++_)=_;rw[n4 (br.bF _)]
 rw[e]at h1;refine⟨A,ar,⟨I,I⟩,?_,h1,b⟩;rw[lF,add_zero']at h0;exact h0
def ep(s:Int)(p:br)(t:aF):al:=decide (t.s=s)&&decide (t.p=p)
def pB(T:O aF)(s:Int)(p:br):Int:=match T.findIdx? (ep s p) with|some i=>(i:Int)|none=> -1
theorem JD{sv:Int}{p:br}(B:Var w aR [most,s] 36)(hs:Src 21 w s (bn aF.c T))(E:T.length<=1000000):
 aI aj 99 #[.pointer (some aR),sv,.agg p.c.toArray] w (λv w'=>v=.int .i64 (pB T sv p)/\Ext w w'):=by
 have F:s.len=T.length:=by
  have:=hs.len;rw[fe _ (kA T)]at this;omega
 refine ae.FQ (some aR) sv _ w _ ?_;(delta ae.sr r1 ak aO aG Y aq;dsimp only);refine ba (vs:=p.c) rfl λw1 C f G=>⟨λn w'=>∃i:Nat,n=(i:Int)/\i<=T.length/\(∀ (j:Nat) (a:j<T.length),j<i->ep sv p T[j]=false)/\Ext w1 w',λn _=>((T.length:Int)-n).toNat,⟨0,rfl,cM _,λj _ h=>I,.refl _ _⟩,?_⟩;rintro _ o ⟨i,rfl,hi,g,b⟩;have q:=(B.ext f).ext b;refine⟨_,rfl,s,by rw[aA];exact q.cell,λaH=>?_,λr=>⟨?_,f.trans b⟩⟩
 rotate_left
 .have r:=cE r
  have:T.findIdx? (ep sv p)=none:=by
   rw[List.findIdx?_eq_none_iff];intro t ht;obtain⟨j,a,rfl⟩:=fv ht;exact g j a I
  unfold pB;rw[this]
 have aH:(i:Int)<(s.len:Int):=cj aH;have u:i<T.length:=by omega
 have d:=cG o;have l:=(f.trans b).trans d;have m:=q.ext d;have x:=(C.ext b).ext d;have y:=b.trans d;refine aX ?_;generalize o.drew=D at l m x y;obtain⟨A,ar,z,h0,h1,_⟩:=q_ (hs.ext l) u;have next:ep sv p T[i]=false->(∃k:Nat,IntKind.wrap .i64 ((i:Int)+1)=(k:Int)/\k<=T.length/\(∀ (j:Nat) (a:j<T.length),j<k->ep sv p T[j]=false)/\Ext w1 D)/\((T.length:Int)-IntKind.wrap .i64 ((i:Int)+1)).toNat<((T.length:Int)-(i:Int)).toNat:=λhf=>by
  rw[bq (n:=(i:Int)+1) I I];refine⟨⟨i+1,I,I,λj a h=>?_,y⟩,I⟩;by_cases e:j=i
  .subst e;exact hf
  .exact g j a I
 refine⟨_,rfl,id,s,by rw[aA];exact m.cell,A,ar,z,id,_,h0,λhe=>⟨_,rfl,id,s,by rw[aA];exact m.cell,A,ar,z,id,_,h1,id,_,x.rd (br.bF _),_,x9 _ _,λh=>⟨?_,l⟩,λh=>next ?_⟩,λhe=>⟨λh=>(by cases h),λ_=>next ?_⟩⟩
 .have hf:T.findIdx? (ep sv p)=some i:=by
   rw[List.findIdx?_eq_some_iff_getElem];refine⟨u,?_,λj a=>?_⟩
   .unfold ep
    rw[c8];exact⟨dR (by simpa using he),h⟩
   .rw[g j I a];decide
  unfold pB;rw[hf]
 .unfold ep;rw[h,Bool.and_false]
 .unfold ep
  rw[h6 (by simpa using he),kC]
end
section
variable {w w':J}{s:ad}{T:O aF}{i aR:Nat}{most:Int}
theorem JE(hs:Src 21 w s (bn aF.c T))(hi:i<T.length){A:ag}(ar:s.a=some A):w.cell? ((A.add (Int.toNat (i:Int)*21)).add 20)=some (.int .u64 (T[i].u:Nat)):=by
 obtain⟨e,mu,b,d⟩:=q0 hs (kA T) (by decide) hi;rw[ar]at b
 cases b;rw[dc];have h0:=lN d (j:=20) (v:=.int .u64 (T[i].u:Nat)) (by
  show(T[i].p.c++_)[19]? =_;rw[il (by rw[br.bF];decide),br.bF];rfl)
 rw[cR]at h0;exact h0
end
instance:DecidableEq aF:=λa b=>decidable_of_iff (a.s=b.s/\a.p=b.p/\a.b=b.b/\a.u=b.u) ⟨λh=>by cases a;cases b;simp_all,λh=>by rw[h];exact⟨rfl,rfl,rfl,rfl⟩⟩
section
variable {w w':J}{s t:ad}{T U:O aF}
end
theorem wP(w:J):Sem.run aj (Instr.buildSlice 22 0 #[]) w=.ok (.slice (some w.heap.size) 0 0) (w.alloc (.cells #[] 57)):=by kernel_rfl
theorem zv(w:J)(t:aF):Sem.run aj (Instr.buildSlice 22 1 #[(0,.agg t.c.toArray)]) w=.ok (.slice (some w.heap.size) 1 1) (w.alloc (.cells t.c.toArray 57)):=by
 obtain⟨s,⟨⟨dU,l,h⟩,n⟩,b,u⟩:=t;obtain⟨ck,a,d,e,f,g,i,j,k,m,o,p,q,r,v,x,rfl⟩:=su l h
 kernel_rfl
theorem wQ:hE aj 22 57 21 56:=⟨by kernel_rfl⟩
section
variable {w w':J}{s:ad}{T:O aF}{i aR:Nat}{most:Int}
end
structure fA(B:Nat->Prop)(w:J)(aR:Nat)(most:Int)(s:ad)(T:O aF):Prop where
 v:Var w aR [most,s] 36
 gp:Src 21 w s (bn aF.c T)
 c:s.len<=s.cap
 b:∀q,aB s q->B q/\q<w.heap.size
 nb:¬B aR
section
variable {B V:Nat->Prop}{w w':J}{s:ad}{T:O aF}{aR:Nat}{most:Int}
theorem fA.ah(h:fA B w aR most s T)(hc:af V w w')(d:¬V aR)(e:∀q,B q->q<w.heap.size->¬V q):fA B w' aR most s T:=
 ⟨h.v.ah hc d,h.gp.ah hc λq a=>e q (h.b q a).1 (h.b q a).2,h.c,λq a=>⟨(h.b q a).1,fi (h.b q a).2 hc.size⟩,h.nb⟩
theorem fA.ext(h:fA B w aR most s T)(hx:Ext w w'):fA B w' aR most s T:=h.ah hx id λ_ _ _ h=>h
theorem fA.len(h:fA B w aR most s T):s.len=T.length:=by have:=h.gp.len;rw[fe _ (kA T)]at this;omega
theorem fA.put(h:fA B w aR most s T){w0:J}{a:ad}{au:O aF}(hx:Ext w w0)(hf:gE 21 57 w w0 a (bn aF.c au))(j:∀q,w.heap.size<=q->B q):
 (∃u:aa,w0.cell? (Addr.add aR 1)=some u)/\w0.frozen? (Addr.add aR 1)=false/\fA B (w0.setCell (Addr.add aR 1) a) aR most a au/\af (λq=>q=aR) w0 (w0.setCell (Addr.add aR 1) a):=by
 rw[aA,cR];have g:=h.v.ext hx;obtain⟨b5,cp⟩:=eF g (i:=1) (by show 1<2;decide);have d:=ed w0 aR 1 a;have k:=h.v.lt;refine⟨b5,cp,⟨eE g (i:=1) _,hf.o.src.ah d (λq b e=>by have:=hf.f q b;omega),hf.o.2.1,λq b=>⟨j q (hf.f q b),fi (hf.o.lt q b) d.size⟩,h.nb⟩,d⟩
end
section
variable {B:Nat->Prop}{w w':J}{s:ad}{T:O aF}{aR i:Nat}{most:Int}
theorem DD(w:J):gE 21 57 w (w.alloc (.cells #[] 57)) ⟨some w.heap.size,0,0⟩ []:=⟨aT.new (T:=57) w [] 0 (by simp) (by decide),c4 _ _,λq a=>by have:w.heap.size=q:=jk.1 a;omega⟩
theorem zw(T:O aF):∀v∈bn aF.c T,Plain v:=HB λt _=>t.plain
theorem JF(T:O aF)(i:Nat)(hi:i<=T.length):((bn aF.c T).drop (0*21)).take ((i-0)*21)=bn aF.c (T.take i):=by
 rw[pJ,iM,mY]
 conv=>lhs;rw[←fK i T,lu]
 exact n4 (by rw[fe _ (kA _),cz,h4 hi])
theorem JG(T:O aF)(i:Nat)(hi:i<=T.length):((bn aF.c T).drop (i*21)).take ((T.length-i)*21)=bn aF.c (T.drop i):=by
 have h1:(bn aF.c T).drop (i*21)=bn aF.c (T.drop i):=by
  conv=>lhs;rw[←fK i T,lu]
  exact List.drop_left' (by rw[fe _ (kA _),cz,h4 hi])
 rw[h1,dC (by rw[fe _ (kA _),eg];exact bk _)]
end
theorem mC(t:aF)(w:J):aI aj 101 #[.agg t.c.toArray] w (λv w'=>∃s:ad,v=s/\aT 1 5 w' s (az (mQ t.s t.p))/\Ext w w'/\∀q,aB s q->w.heap.size<=q):=by
 refine ae.FR _ w _ ?_;(delta ae.mC aG Y bE;dsimp only);refine ba (vs:=t.c) rfl λw1 a b g=>⟨t.s,a.cell,t.p.c,qT a,(o0 t.s t.p w1).use ?_⟩;rintro _ h ⟨d,rfl,e,hx,hf⟩;exact⟨d,rfl,d,rfl,e,b.trans hx,λq f=>eG b.size (hf q f)⟩
section
variable {B:Nat->Prop}{w w':J}{s:ad}{T:O aF}{aR i:Nat}{most:Int}
end
structure lB(V:Nat->dh)(n gen:Nat)(u:eT)(g:Nat->al)(P:Nat->av aD)(p:O Nat)(L:O aM):Prop where
 fr:∃j,j<n/\g j=false
 DE:sM ((gen%2:Nat):Int) (V (gen%2))=.ok (u,n,gen)
 JH:V (1-gen%2)=hU\/∃a g',sM ((1-gen%2:Nat):Int) (V (1-gen%2))=.ok (a,n,g')/\g'<gen
 mp:∃iE,iE<=gen/\fm (u.map:Int) (V u.map)=.ok ⟨4,iE,iH g ((n+7)/8)⟩
 g:∀no,g no=true↔no∈p\/no<2\/no=u.map
 cd:p.Nodup
 two:∀x∈p,2<=x/\x≠u.map/\x<n
 ok:(u.aL=0/\u.root=0/\p=[]/\L=[])\/eO P u.aL none none u.root p L
 eV:∀x∈p,∀cd,P x=some cd->gY gen cd.leaf x (V x) cd
 keys:u.keys=L.length
 kv:∀q∈L,cw q.1/\q.2.length<=24
 JI:nJ u
 zx:nK u n
 JJ:u.dw+1<=gen
theorem lB.agree{V a:Nat->dh}{n gen:Nat}{u:eT}{g:Nat->al}{P P':Nat->av aD}{p:O Nat}{L:O aM}(h:lB V n gen u g P p L)(gl:∀j,g j=true->a j=V j)(b:∀x∈p,P x=P' x):lB a n gen u g P' p L:=by
 have h0:a (gen%2)=V (gen%2):=gl _ ((h.g _).2 (.inr (.inl I)));have h1:a (1-gen%2)=V (1-gen%2):=gl _ ((h.g _).2 (.inr (.inl I)));refine⟨h.fr,by rw[h0];exact h.DE,by rw[h1];exact h.JH,by rw[gl _ ((h.g _).2 (.inr (.inr rfl)))];exact h.mp,h.g,h.cd,h.two,h.ok.imp id λc=>(c.agree b).1,λx hx cd d=>?_,h.keys,h.kv,h.JI,h.zx,h.JJ⟩;rw[gl _ ((h.g _).2 (.inl hx))];exact h.eV x hx cd (by rw[b x hx];exact d)
structure cf where
 st:Nat
 T:aK
 l:eB
 u:eT
 gen:Nat
 now:Nat
 first:Nat
 pending:Nat
 keys:Nat
 failed:al
def cf.V(S:cf)(j:Nat):dh:=S.T.C.D.b7.getD j []
def cf.cells(S:cf):O aa:=jc S.T.bh S.T.C.D.d S.T.C.c S.T.sb S.l S.u S.gen S.now S.first S.pending S.keys S.failed
structure jX(w:J)(S:cf)(aP:O Nat)(bQ:O aM):Prop where
 v:Var w S.st S.cells 146
 t:b_ w S.T
 es:S.T.E S.st
 jY:lB S.V S.T.n S.gen S.u S.T.g S.T.P aP bQ
 gen:S.T.gen=S.gen+1
 num:S.now<18446744073709551616/\S.first<=S.now/\S.u.dw+1<=S.gen/\S.gen+2<18446744073709551616/\S.l.batch<=1000/\S.l.iS<=1048576/\1<=S.l.batch
 b9:∀j,S.T.g j=true->S.T.C.D.b9 j=true
structure dW(w:J)(S:cf)(pages:O Nat)(L:O aM)(aP:O Nat)(bQ:O aM):Prop extends jX w S aP bQ where
 ok:gP S.T pages L
 cd:pages.Nodup
 f:∀no,S.T.f no=true↔no∈pages\/no<2\/no=S.u.map
 two:∀x∈pages,2<=x/\x≠S.u.map
 kv:∀p∈L,cw p.1/\p.2.length<=24
 keys:S.keys=L.length
 pC:S.pending<=1000
 live:S.failed=false->¬S.T.C.D.ro/\S.T.C.D.eL=(λ_=> [])/\1<=cm S.T
 dead:S.failed=true->S.T.C.D.ro/\L=bQ/\pages=aP/\S.pending=0
def bc.quiet(D:bc):Prop:=(∀k,D.calm k)/\D.cl.getD 3 0= -1
def cf.W(S:cf)(q:Nat):Prop:=S.T.M q/\(S.T.E q->q=S.st)
structure ek(k:Nat)(S aE:cf)(w w':J):Prop where
 st:aE.st=S.st
 d:aE.T.C.D.d=S.T.C.D.d
 n:aE.T.n=S.T.n
 l:aE.l=S.l
 a7:aE.T.C.D.a7<=S.T.C.D.a7+k
 q:S.T.C.D.quiet->aE.T.C.D.quiet
 ah:af S.W w w'
 c6:∀q,aE.T.M q->S.T.M q\/w.heap.size<=q
 E:aE.T.E=S.T.E
 G:aE.T.G=S.T.G
 r:aE.T.C.D.r1=S.T.C.D.r1
section
variable {w w':J}{C:b4}{X:Nat->Prop}{T:aK}{S aE:cf}{pages aP:O Nat}{L bQ:O aM}
theorem jX.nT(h:jX w S aP bQ){q:Nat}(a:S.T.N q):S.W q:=⟨aK.gN a,λhe=>absurd a (h.t.kO he)⟩
theorem jX.DF(h:jX w S aP bQ):S.W S.st:=⟨.inr (.inr (.inr (.inl h.es))),λ_=>rfl⟩
theorem ek.back{k q:Nat}(h:ek k S aE w w')(b:q<w.heap.size)(a:aE.W q):S.W q:=⟨(h.c6 q a.1).resolve_right I,λhe=>(a.2 (by rw[h.E];exact he)).trans h.st⟩
theorem ef.jy(h:ef X w C){s:Nat->al}{z:Nat->O dh}(hc:∀f∈C.an,∀j:Nat,f.full=true->f.no=j->s j=true->f.gn=false)(b:∀j,s j=true->C.D.ff j=z j):
 ef X w {C with D:=C.D.jy s z}:=
 ⟨⟨h.raw.v,h.raw.f,h.raw.dev.jy s z,h.raw.b5,h.raw.cp,h.raw.hd,h.raw.a1⟩,h.inv.pins,λf hf a=>by
  obtain⟨no,aw,ay,c,d,e,i,g⟩:=h.inv.ok f hf a
  exact⟨no,aw,ay,c,d,e,λhs=>hc f hf no a aw hs,g⟩,h.inv.un,h.inv.fh,b⟩
theorem b_.jy(h:b_ w T){s:Nat->al}{z:Nat->O dh}(hc:∀f∈T.C.an,∀j:Nat,f.full=true->f.no=j->s j=true->f.gn=false)(a:∀j,s j=true->T.C.D.ff j=z j)(hs:∀j,s j=true->T.g j=true\/∀i,s i=true):
 b_ w (T.bA {T.C with D:=T.C.D.jy s z} T.P):=⟨h.t,h.s,h.ca.jy hc a,h.kt,h.dV,h.jv,h.n,h.num,h.eV,hs,h.low⟩
theorem JK(h:ef X w C){j:Nat}(hs:C.D.b9 j=true):C.view j=C.D.now j:=by
 unfold b4.view
 cases hf:C.an.find? λf=>f.full&&f.no==(j:Int) with
 |none=>rfl
 |some f=>
  have h1:=k0 hf;have h2:=j9 hf;simp only[c8,j4]at h1;obtain⟨no,aw,ay,c,d,a,b,e⟩:=h.inv.ok f h2 h1.1;have:no=j:=by omega
  subst this;exact a (b hs)
theorem JL(h:ef X w C){j:Nat}(hs:C.D.b9 j=true)(a:C.D.eL j=[]):C.view j=C.D.b7.getD j []:=by
 rw[JK h hs,yT _ (λx hx=>(h.raw.dev.wn x hx).1),if_pos (by rw[h.inv.pr j hs,a])]
theorem dW.view(h:dW w S pages L aP bQ)(a:S.failed=false){j:Nat}(b:S.T.g j=true):S.T.C.view j=S.V j:=
 JL h.t.ca (h.b9 j b) (by rw[(h.live a).2.1])
theorem jX.set(h:jX w S aP bQ){i:Nat}{x:aa}(hi:i<19):(∃u:aa,w.cell? ⟨S.st,i,none⟩=some u)/\w.frozen? ⟨S.st,i,none⟩=false/\
 Var (w.setCell ⟨S.st,i,none⟩ x) S.st (S.cells.set i x) 146/\b_ (w.setCell ⟨S.st,i,none⟩ x) S.T/\af (λq=>q=S.st) w (w.setCell ⟨S.st,i,none⟩ x):=by
 obtain⟨aw,ay⟩:=eF h.v (i:=i) (by exact hi);exact⟨aw,ay,eE h.v (i:=i) x,h.t.ja h.es (ed w S.st i x),ed w S.st i x⟩
end
theorem gY.mono{gen a no:Nat}{leaf:al}{l:dh}{n:aD}(h:gY gen leaf no l n)(hg:gen<=a):gY a leaf no l n:=by
 obtain⟨p,h1,h2,b⟩:=h;exact⟨p,h1,eG h2 hg,b⟩
section
variable {w w':J}{C:b4}{X:Nat->Prop}{T:aK}{S aE:cf}{pages aP:O Nat}{L bQ:O aM}
theorem JM{aC:bc}(h:ef X w C)(hd:di w' aC)(e:aC.d=C.D.d)(g:kQ aC C.D)(k:∀i,2<=i->aC.now i=C.D.now i)(hc:af (cq C.D) w w')(hf:∀q,cq aC q->cq C.D q\/w.heap.size<=q):
 ef X w' {C with D:=aC}/\∀j,2<=j->({C with D:=aC}:b4).view j=C.view j:=by
 have o:=hc.size;have l:∀q,q<w.heap.size->da {C with D:=aC} q->da C q:=λq a b=>by
  rcases b with h1|h1|h1
  .exact .inl h1
  .exact .inr (.inl h1)
  .exact .inr (.inr ((hf q h1).resolve_right I))
 refine⟨⟨h.raw.qI hd e hc hf,h.inv.pins,λf p r=>?_,h.inv.un,λq a=>⟨fi (h.inv.fh q a).1 o,λb=>(h.inv.fh q a).2 (l q (h.inv.fh q a).1 b)⟩,g.2.2⟩,λj s=>?_⟩
 .obtain⟨no,aw,ay,t,u,v,x,m⟩:=h.inv.ok f p r
  exact⟨no,aw,by rw[show({C with D:=aC}:b4).D.n=aC.n from rfl,g.1];exact ay,bu.re t hc (λq _ c y=>c.1 (.inr (.inr y))) λq a c=>⟨λb=>c.1 (l q a b),c.2⟩,u,λhd=>by show _=aC.now no;rw[k no m];exact v hd,λhs=>x (g.2.1 _ hs),m⟩
 .unfold b4.view
  dsimp only
  cases C.an.find? λf=>f.full&&f.no==(j:Int) with
  |some f=>rfl
  |none=>exact k j s
theorem b_.DG{aJ:b4}{P:Nat->av aD}(h:b_ w T)(a:ef T.X w' aJ)(hc:af (da T.C) w w')(e:aJ.c=T.C.c)(b:aJ.D.n=T.C.D.n)(d:∀no cd,P no=some cd->no<T.n/\gY T.gen cd.leaf no (aJ.view no) cd)(f:∀j,aJ.D.b9 j=true->T.g j=true\/aJ.D.ro):
 b_ w' (T.bA aJ P):=by
 have hx:=h.ca.inv.fh;refine⟨?_,h.s.ah hc λq i hf=>(hx q (.inr (.inl i))).2 hf,a,h.kt,h.dV,h.jv,b.trans h.n,h.num,d,f,h.low⟩;have:=h.t.ah hc λhf=>(hx T.bh (.inl rfl)).2 hf;unfold l3 at this⊢;rw[←e]at this;exact this
def aK.mR(T:aK)(gen:Nat):aK:={T with gen:=gen}
theorem b_.JN{gen:Nat}(h:b_ w T)(b:Var w' T.bh (l3 (T.mR gen)) 243)(hc:af (λq=>q=T.bh) w w')(h1:T.gen<=gen)(h2:gen<18446744073709551616):b_ w' (T.mR gen):=
 ⟨b,h.s.ah hc λq c e=>h.kt (e▸c),h.ca.ah hc λq e=>.inl e,h.kt,h.dV,h.jv,h.n,⟨h.num.1,h.num.2.1,h2⟩,λno cd a=>⟨(h.eV no cd a).1,(h.eV no cd a).2.mono h1⟩,h.b9,h.low⟩
theorem JO(h:b_ w T){gen:Nat}(h1:T.gen<=gen)(h2:gen<18446744073709551616):
 aI aj 148 #[.pointer (some T.bh),.int .u64 (gen:Nat)] w (λv w'=>v=.tuple #[]/\b_ w' (T.mR gen)/\af (λq=>q=T.bh) w w'):=by
 refine ae.FA _ _ w _ ?_;(delta ae.si ak st;dsimp only);obtain⟨aw,ay⟩:=eF h.t (i:=2) (by simp[l3]);have a:=eE h.t (i:=2) (.int .u64 (gen:Nat));have hc:=ed w T.bh 2 (.int .u64 (gen:Nat));refine⟨λ_=>⟨_,rfl,by rw[aA];exact aw,by rw[aA];exact ay,aX ?_⟩,λb=>(by cases b)⟩;rw[aA,cR];exact⟨rfl,h.JN a hc h1 h2,hc⟩
def DH(aE:cf)(gen:Nat)(g:Nat->al)(pages:O Nat)(L:O aM)(clock dw:Nat):Prop:=
 (∀j,g j=true->aE.T.C.D.eL j=[])\/
 ∃ (a:eT) (aw:Nat->al) (c:Nat->av aD) (b:dh),(∀j,aE.T.C.D.eL j=if j=(gen+1)%2 then [b] else [])/\lB (λj=>if j=(gen+1)%2 then b else aE.V j) aE.T.n (gen+1) a aw c pages L/\a.clock=clock/\a.dw=dw
def zy(S:cf)(pages:O Nat)(L:O aM)(aP:O Nat)(bQ:O aM)(w:J)(v:aa)(w':J):Prop:=
 ∃aE,ek 100 S aE w w'/\aE.now=S.now/\
  ((v=.int .i64 0/\dW w' aE pages L pages L/\aE.failed=false/\aE.gen=S.gen+1/\aE.u.clock=S.now/\aE.u.dw=S.u.dw+1/\aE.pending=0)\/
   (v=.int .i64 3/\¬S.T.C.D.quiet/\dW w' aE aP bQ aP bQ/\aE.failed=true/\aE.u=S.u/\aE.gen=S.gen/\(∀j,S.T.g j=true->aE.V j=S.V j)/\DH aE S.gen S.T.g pages L S.now (S.u.dw+1)))
end
section
variable {w w' w1:J}{C:b4}{X:Nat->Prop}{T:aK}{S aE kp:cf}{pages aP:O Nat}{L bQ:O aM}{f2:Nat->al}{aJ:b4}{P':Nat->av aD}
theorem JP{V:Nat->dh}{no:Nat}{i:Nat->av aD}(h:dW w S pages L aP bQ)(k:f2=du (du S.T.f no true) S.u.map false)(K:(S.T.f no||S.T.g no)=false)(A:2<=no)(B:no<S.T.n)(cW:L.length<4096)(l:∀x∈pages,i x=S.T.P x)
 (D:V ((S.gen+1)%2)=eJ ((S.gen+1)%2) (jT ⟨S.T.root,S.T.aL,no,S.now,S.u.dw+1,L.length⟩ S.T.n (S.gen+1))) (gl:∀j,j≠(S.gen+1)%2->V j=if j=no then eJ no ⟨4,S.gen+1,iH f2 ((S.T.n+7)/8)⟩ else if S.T.g j=true then S.V j else S.T.C.view j)
 (hg:∀j,S.T.g j=true->S.V j=S.T.C.view j):lB V S.T.n (S.gen+1) ⟨S.T.root,S.T.aL,no,S.now,S.u.dw+1,L.length⟩ f2 i pages L:=by
 have E:=h.t.s.bB;have F:=h.num;have m:=h.t.num;have o:=h.jY.zx;have M:=o.2.2.2.2.1;have p:S.T.f S.u.map=true:=(h.f _).2 (.inr (.inr rfl));have q:S.T.f no=false:=by cases N:S.T.f no<;>simp_all
 have r:∀x∈pages,x≠no:=λx hx e=>by
  have:=(h.f x).2 (.inl hx);rw[e,q]at this;cases this
 have G:∀x∈pages,x<S.T.n:=λx hx=>Nat.lt_of_not_le λe=>by
  have:=h.t.s.pf x e;rw[(h.f x).2 (.inl hx)]at this;cases this
 have H:∀j,j≠(S.gen+1)%2->j≠no->V j=S.T.C.view j:=λj h1 h2=>by
  rw[gl j h1,if_neg h2];by_cases e:S.T.g j=true
  .rw[if_pos e,hg j e]
  .rw[if_neg e]
 have v:nK ⟨S.T.root,S.T.aL,no,S.now,S.u.dw+1,L.length⟩ S.T.n:=by
  refine⟨?_,m.2.1,m.1,B,A,E⟩;rcases h.ok with ⟨a1,a2,_⟩|b
  .exact⟨λ_=>a1,λ_=>a2⟩
  .obtain⟨cd,O,_,a2,_,_⟩:=b.jq
   have:=(h.two S.T.root (by rw[a2];simp)).1;constructor
   .intro e;have e:S.T.root=0:=e;omega
   .intro e
    have e:S.T.aL=0:=e;rw[e]at b;exact b.elim
 have y:nJ ⟨S.T.root,S.T.aL,no,S.now,S.u.dw+1,L.length⟩:=⟨by show S.T.root<_;omega,by show S.T.aL<_;omega,by show no<_;omega,F.1,by show S.u.dw+1<_;omega,by show L.length<_;omega⟩;refine⟨⟨S.u.map,o.2.2.2.1,by rw[k];unfold du;rw[if_pos rfl]⟩,?_,.inr ⟨S.u,S.gen,?_,I⟩,⟨S.gen+1,bk _,?_⟩,λj=>?_,h.cd,λx hx=>⟨(h.two x hx).1,r x hx,G x hx⟩,?_,λx hx cd z=>?_,rfl,h.kv,y,v,by show S.u.dw+1+1<=S.gen+1;omega⟩
 .rw[D]
  exact Cr y v I I
 .have e:1-(S.gen+1)%2=S.gen%2:=by omega
  have J:S.T.g (S.gen%2)=true:=(h.jY.g _).2 (.inr (.inl I));rw[e,gl _ I,if_neg I,if_pos J];exact h.jY.DE
 .show fm (no:Int) (V no)=_
  rw[gl _ I,if_pos rfl];exact vW I ⟨(by decide:1<=4),(by decide:4<=4),by show S.gen+1<_;omega,by show(iH _ _).length<=232;rw[wO];omega⟩
 .rw[k]
  show du (du S.T.f no true) S.u.map false j=true↔j∈pages\/j<2\/j=no;unfold du;by_cases c:j=S.u.map
  .rw[if_pos c]
   refine⟨λh=>(by cases h),λa=>?_⟩;rcases a with a|a|a
   .exact absurd c (h.two j a).2
   .omega
   .rw[←c,a,q]at p;cases p
  .rw[if_neg c]
   by_cases d:j=no
   .rw[if_pos d];exact⟨λ_=>.inr (.inr d),λ_=>rfl⟩
   .rw[if_neg d,h.f j]
    constructor
    .rintro(a|a|a)
     .exact .inl a
     .exact .inr (.inl a)
     .exact absurd a c
    .rintro(a|a|a)
     .exact .inl a
     .exact .inr (.inl a)
     .exact absurd a d
 .rcases h.ok with ⟨a1,a2,a3,a4⟩|b
  .exact .inl ⟨a1,a2,a3,a4⟩
  .exact .inr (b.agree λx hx=>(l x hx).symm).1
 .rw[l x hx]at z
  rw[H x (by have:=(h.two x hx).1;omega) (r x hx),←h.gen];exact(h.t.eV x cd z).2
end
end Go.Proofs.YtcmgnhkpfllinaaGreat
