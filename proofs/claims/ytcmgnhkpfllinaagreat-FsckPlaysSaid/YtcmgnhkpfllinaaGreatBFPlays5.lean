/- Contracts of the functions that the statement reaches, and the plain laws over them; each theorem stands with its conditions. -/
import Derived.Test.YtcmgnhkpfllinaaGreatBFPlays4
namespace Go.Proofs.YtcmgnhkpfllinaaGreat
open Go aU Go.Proofs.Tryz
variable{aM:cp}{w w':J}{k no i m:Nat}{pages kids p seen bd g':O Nat}{L:O aY}{B C W:U1}{key:Key}{n:aA}{o lo hi:an Key}{α:Type}{l:O UInt8}{f:Nat->ag}{secs:O bY}{level:Int}
def Er(T:aN)(bc:O Nat)(d_:O aY)(w:J)(v:Y)(w':J):Prop:=
 ∃aq:aN,cm w' aq/\b_ T aq w w' 100/\aq.E=T.E/\aq.G=T.G/\
  ((v=.int .i64 2/\cy T<2*T.aD+3/\aq=T)\/
   (v=.int .i64 0/\2*T.aD+3<=cy T/\(∃pages,cy T<=cy aq+(2*T.aD+3)/\g0 aq pages d_/\pages.Nodup/\(∀no∈pages,no∈bc\/(T.f no||T.g no)=false)/\∀no,aq.f no=true↔(no∈pages\/(T.f no=true/\no∉bc)))/\∀no,T.g no=true->aq.P no=T.P no/\aq.C.view no=T.C.view no)\/
   (v=.int .i64 3/\¬T.C.D.calm 100/\aq.root=T.root/\aq.aD=T.aD/\aq.f=T.f/\∀no,(T.f no||T.g no)=true->aq.P no=T.P no/\aq.C.view no=T.C.view no))
theorem x2.ab{T:aN}{bc:O Nat}{d_:O aY}{w1:J}{v:Y}(h:x2 (T.bK aM T.P) bc d_ w1 v w')(e:b_ T (T.bK aM T.P) w w1 k)(s:k<=40)(f:∀j,aM.view j=T.C.view j)(i:2*T.aD+3<=cy T):Er T bc d_ w v w':=by
 obtain⟨aq,h1,l,m,n,o⟩:=h;refine⟨aq,h1,(e.trans l).mono I,m,n,?_⟩;have p:cy (T.bK aM T.P)=cy T:=rfl;have q:(T.bK aM T.P).aD=T.aD:=rfl;obtain⟨_,b,_⟩|⟨rfl,b,d,c⟩|⟨rfl,b,d,c,r,g⟩:=o
 .rw[p,q]at b;omega
 .exact .inr (.inl ⟨rfl,i,d,λno a=>⟨(c no a).1,(c no a).2.trans (f no)⟩⟩)
 .exact .inr (.inr ⟨rfl,λhc=>b (e.calm 60 (gM hc I)),d,c,r,λno a=>⟨(g no a).1,(g no a).2.trans (f no)⟩⟩)
theorem oq(w:J)(s:U):aI aj 122 #[s] w (λv w'=>v=.bool (decide (1<=s.len/\s.len<=24))/\w=w'):=by
 refine okF (ad.oq s) ay.oq func122 ?_;unfold ad.oq;refine⟨?_,rfl⟩
 congr 1
 rw[ek,dM,cq,cq,cq];omega
theorem Av{T:aN}{k:Key}(h:cm w T)(n:g0 T pages L):∃steps,oP T.P k T.aD T.root steps/\
 ((steps=[]/\T.aD=0/\pages=[]/\L=[])\/(∃ (a:Nat) (bL:aA) (b c:an Key) (d:O (Nat×aA×Nat)) (i:O Nat) (f g:O aY),steps=d++ [(a,bL,0)]/\Ctx T.P k T.aD 1 b c d i f g/\T.P a=some bL/\hJ bL/\bL.within b c/\bL.keys≠ []/\(d≠ []->2<=bL.keys.length)/\fF b c k/\
   pages.Perm (a::i)/\L=f++(bL.fx++g)/\∀u,Loc k u->u L=f++(u bL.fx++g))):=by
 obtain⟨h1,z,o,p⟩|j:=n
 .exact⟨[],by rw[h1];rfl,.inl ⟨rfl,h1,o,p⟩⟩
 .cases l:T.aD with
  |zero=>rw[l]at j;exact j.elim
  |succ t=>
   rw[l]at j;obtain⟨rest,d,a,bL,b,c,i,f,g,r1,bA,aJ,c0,aW,q,r,s,v,m,x,y⟩:=Ctx.down (P:=T.P) (k:=k) (top:=t+1) (bH:=L) .top j (λh=>absurd rfl h) ⟨λ_ e=>(by cases e),λ_ e=>(by cases e)⟩ U9 (λu _=>by simp);rw[lh]at bA;rw[fO]at m;exact⟨rest,r1,.inr ⟨a,bL,b,c,d,i,f,g,bA,aJ,c0,aW,q,r,s,v,m,x,y⟩⟩
theorem g0.low{T:aN}(h:g0 T pages L)(d:L.length<4096):T.aD<12/\pages.length<=L.length:=by
 obtain⟨h1,_,a,_⟩|b:=h
 .rw[h1,a];exact⟨I,cw _⟩
 .obtain⟨ao,e,c⟩:=b.pages
  refine⟨?_,ao⟩;rcases dA T.aD 12 with h|h
  .exact h
  .have f:=c I
   have g:2^12<=2^T.aD:=sE (by decide) h;have i:(2:Nat)^12=4096:=by decide
   omega
theorem Es{w1:J}{T:aN}{d_:O aY}{k:Key}{steps:O (Nat×aA×Nat)}{s:U}{a:O dG}{bL b:aA}{K V D:U}(h:cm w1 (T.bK aM T.P))(R:¬aM.D.ro)(S:g0 T pages L)(W:L.length<4096)(cO:pages.Nodup)(hf:∀x∈pages,T.f x=true)(o:aM.D.aZ<=900000000)
 (g:a.map dG.st=steps) (r:k6 (λq=>¬(T.bK aM T.P).M q) w1 s a) (X:b2 (λq=>¬(T.bK aM T.P).M q) w1 b K V D) (t:hJ b) (Y:(steps=[]/\T.aD=0/\pages=[]/\b.keys≠ []/\bP b<=232/\b.fx=d_)\/(∃ (d:Nat) (i j:an Key) (c:O (Nat×aA×Nat)) (l:O Nat) (m n:O aY),steps=c++ [(d,bL,0)]/\Ctx T.P k T.aD 1 i j c l m n/\b.within i j/\(c≠ []->b.keys≠ [])/\pages.Perm (d::l)/\d_=m++(b.fx++n)/\bP b<=282)):
 aI aj 131 #[.pointer (some T.bE),s,dg b K V D] w1 (x2 (T.bK aM T.P) pages d_ w1):=by
 obtain⟨u,aq⟩:=S.low W;refine J8 h R o u cO hf I λck v ah a7 w y Z z C=>?_;have aa:s.len=a.length:=by
  have:=r.own.1;rw[gL _ (oO a)]at this;omega
 have E:b2 (λq=>¬((T.bK aM T.P).cJ ck v).M q) ah b K V D:=(y.bu (lo:=0) (X.bh λq _ p=>⟨cw _,p⟩)).bh λq _ p=>p.2;obtain⟨h1,ar,ab,ac,ad,ae⟩|⟨d,i,j,c,l,m,n,F,G,af,ag,H,ai,ak⟩:=Y
 .subst h1 ab
  have al:a=[]:=by simpa using g
  exact J6 (by rw[aa,al];rfl) w E o (by
   have e:cy ((T.bK aM T.P).cJ ck v)=cy (T.bK aM T.P):=rfl;omega) (by rw[z];simp) C t ac ad ae
 .have hlen:a.length=c.length+1:=by
   have:=congrArg List.length g;rw[F,cV,b6,ia]at this;exact this
  have au:1+c.length=T.aD:=G.eX;have am:=r.to y;have N:(a.take (a.length-1)).map dG.st=c/\(a[a.length-1]'I).no=d:=by
   rw[F]at g;have ao:(a.take (a.length-1)).map dG.st=(c++ [(d,bL,0)]).take (a.length-1):=by rw[←g,m3]
   refine⟨by rw[ao];exact nx I,?_⟩;have Q:(a.map dG.st)[a.length-1]? =some (d,bL,0):=by
    rw[g,j6 I];have:a.length-1-c.length=0:=I
    rw[this];rfl
   rw[ko,dB I]at Q;have ap:=Option.some.inj Q;exact congrArg Prod.fst ap
  refine J5 (k:=k) (dZ:=l) (A:=m) (B:=n) (M:=b.fx) (lo:=i) (hi:=j) w am E I (by show a.length=T.aD;omega) u o Z (by rw[z];simp) (by rw[C];simp) ?_ ⟨t,af,rfl,rfl⟩ ai.symm ?_ ak (λh=>ag λe=>?_) λx hx=>?_
  .rw[N.1]
   have:a.length=T.aD:=I
   rw[this];exact G
  .rw[N.2];exact H
  .rw[e]at hlen;simp at hlen;omega
  .exact hf x (H.mem_iff.2 (jv _ hx))
theorem k6.ext'{s:U}{l:O dG}(h:k6 B w s l)(hx:Ext w w')(a:∀q,B q->C q):k6 C w' s l:=
 ⟨h.own.ext hx,λq b=>a q (h.p8 q b),λx c=>((h.bu x c).ext hx).bh λq _ d=>a q d⟩
theorem r4{a:O dG}{b:O (Nat×aA×Nat)}{c:Nat}{bz:aA}(d:a.map dG.st=b++ [(c,bz,0)]):∃h:0<a.length,(a[a.length-1]'I).n=bz:=by
 have hlen:a.length=b.length+1:=by
  have:=congrArg List.length d;rw[cV,b6,ia]at this;exact this
 refine⟨I,?_⟩;have e:(a.map dG.st)[a.length-1]? =some (c,bz,0):=by
  rw[d,j6 I];have:a.length-1-b.length=0:=I
  rw[this];rfl
 rw[ko,dB I]at e;exact congrArg (λx=>x.2.1) (Option.some.inj e)
theorem J_{T:aN}{tk fK:U}{val:Key}(h:cm w T)(bb:¬T.C.D.ro)(Q:g0 T pages L)(ax:L.length<4096)(cO:pages.Nodup)(hf:∀x∈pages,T.f x=true)(cb:T.C.D.aZ<=800000000)
 (R:Src 1 w tk (aC key)) (S:∀q,ar tk q->q<w/\¬T.M q) (az:Src 1 w fK (aC val)) (bc:∀q,ar fK q->q<w/\¬T.M q):
 aI aj 73 #[.pointer (some T.bE),tk,fK] w (λv w'=>(v=.int .i64 1/\¬(cP key/\val.length<=24)/\w=w')\/(cP key/\val.length<=24/\Er T pages (h3 L key val) w v w')):=by
 have bd:=len8 R;have aB:=len8 az;refine okF (ad.wv (some T.bE) tk fK) ay.wv func73 ?_;(delta ad.wv af bR b1 aE gI r1 b5 ai dY z3 bf ae aW aJ av lA;dsimp only);refine cx (λb w'=>b= !(decide (cP key))/\w=w') (λq c=>⟨nofun,λ_=>(oq w tk).use ?_⟩) ?_
 .rintro _ _ ⟨rfl,rfl⟩
  refine⟨_,rfl,c _ _ ⟨?_,rfl⟩⟩;unfold cP;rw[bd]
 rintro _ _ ⟨rfl,rfl⟩;refine⟨λd=>.inl ⟨rfl,λhg=>?_,rfl⟩,λd=>?_⟩
 .rw[dm hg.1,aB]at d
  have:¬(val.length:Int)>24:=U4 hg.2
  simp[this]at d
 have hg:cP key/\val.length<=24:=by
  by_cases h1:cP key
  .refine⟨h1,?_⟩
   rw[dm h1,aB]at d;have:¬(val.length:Int)>24:=by simpa using d
   omega
  .rw[ib h1]at d;simp at d
 have cd:=h.s.bz;obtain⟨ce,cf⟩:=Q.low ax;have aF:Ext w w.drew:=cc w;have hd:=h.ext aF;refine aH ⟨λ_=>False,_,rfl,id,_,hd.cells.2.1,_,rfl,id,_,hd.cells.2.2.2.2,(z8 hd.s).use ?_⟩;rintro _ cg ⟨rfl,aG⟩;have be:((T.n:Int)-cH (λi=>T.f i||T.g i) T.n)=(cy T:Nat):=by
  have:=l9 (λi=>T.f i||T.g i) T.n;unfold cy;omega
 have bi:IntKind.wrap .i64 (IntKind.wrap .i64 (2*(T.aD:Int))+3)=((2*T.aD+3:Nat):Int):=by
  rw[bl (n:=2*(T.aD:Int)) I I,bl I I];omega
 rw[be,bi];have o:=aF.trans aG;have W:=h.ext o;refine⟨_,rfl,aG,λd=>.inr ⟨hg.1,hg.2,T,W,(b_.ext T o).mono I,rfl,rfl,.inl ⟨rfl,?_,rfl⟩⟩,λd=>?_⟩
 .have d:((cy T:Nat):Int)<((2*T.aD+3:Nat):Int):=bB d
  omega
 have bj:2*T.aD+3<=cy T:=by
  have:¬((cy T:Nat):Int)<((2*T.aD+3:Nat):Int):=bT d;omega
 obtain⟨steps,aK,aL⟩:=Av (k:=key) W Q;refine(Ai W I (R.ext o) (λq c=>⟨ga (S q c).1 o.size,(S q c).2⟩) aK).use ?_;rintro _ E ⟨aM,X,Y,aO,bk⟩;have y:=((b_.ext T o).trans Y).mono (l:=2*T.aD) I;obtain⟨s,a,rfl,m,Z⟩|⟨rfl,bn⟩:=bk
 rotate_left
 .refine⟨⟨none,0,0⟩,3,rfl,λ_=>.inr ⟨hg.1,hg.2,T.bK aM T.P,X,y.mono I,rfl,rfl,.inr (.inr ⟨rfl,λhc=>bn (gM hc I),rfl,rfl,rfl,λno _=>⟨rfl,aO no⟩⟩)⟩,nofun⟩
 have ch:s.len=a.length:=by
  have:=Z.own.1;rw[gL _ (oO a)]at this;omega
 have ci:=o.size;have ck:a.length=T.aD:=by
  have:=aK.length;rw[←m,cV]at this;exact this
 refine⟨s,0,rfl,nofun,λ_=>bg (vs:=[false,(),(),()]) rfl λcl aP bp cn=>⟨aP.cF rfl (gi (b:=true) (K:=bG) (V:=bG) (D:=bG)),rfl,c6 aP (us:=dp ⟨true,[],[],[]⟩ bG bG bG) rfl rfl λbq F br co=>?_⟩⟩;have aa:Ext E bq:=Ext.bQ bp br (a_ _);obtain⟨iw,bs⟩:=U6 E.heap.size;rw[←bs]at F⊢
 obtain⟨bL,j⟩:=U6 ((if cp:0<a.length then (a[a.length-1]'I).n else ⟨true,[],[],[]⟩):aA);refine jQ (λp=>∃ (K V D:U) (B:U1),Ext E p/\Var p iw (dp bL K V D) 169/\b2 B p bL K V D) (λq c=>⟨λac=>?_,λac=>?_⟩) ?_
 .have ag:0<a.length:=by
   have:(s.len:Int)>0:=bB ac;omega
  rw[dif_pos ag]at j;have e:IntKind.wrap .i64 ((s.len:Int)-1)=((a.length-1:Nat):Int):=by rw[bl I I];omega
  obtain⟨A,ak,_,_,_,hu⟩:=Z.at (i:=a.length-1) I;have G:=hu.ext aa;rw[e,cS];subst j;refine⟨A,ak,⟨I,I⟩,_,G.aR,_,G.a7,_,G.bx,_,G.fE,F.cF rfl gi,rfl,c6 F (us:=dp (a[a.length-1]'I).n (a[a.length-1]'I).K (a[a.length-1]'I).V (a[a.length-1]'I).D) rfl rfl λbv bw bC cq=>?_⟩;have aQ:Ext E bv:=Ext.bQ aa bC I;exact c _ ⟨_,_,_,_,aQ,bw,hu.bu.ext aQ⟩
 .have ag:¬0<a.length:=by
   have:¬(s.len:Int)>0:=bT ac;omega
  rw[dif_neg ag]at j;subst j;exact c _ ⟨bG,bG,bG,λ_=>True,aa,F,bo.none _ _,bo.none _ _,cK.none _ _⟩
 rintro p ⟨K,V,D,B,H,bD,bF⟩;have cr:=H.size;have cs:=Y.ab.size
 have bH:hJ bL/\bP bL<=232:=by
  obtain⟨h1,r,t,u⟩|⟨aS,bz,aT,aU,aV,aX,a0,a1,bA,aJ,c0,aW,a2,bI,bJ,a3,a4,bM,a5⟩:=aL
  .have ah:¬0<a.length:=by
    rw[h1]at m;have:a=[]:=by simpa using m
    rw[this];simp
   rw[j,dif_neg ah];exact⟨⟨⟨λ_ h=>(by cases h),List.Pairwise.nil⟩,rfl,rfl,rfl,λ_ h=>(by cases h)⟩,by decide⟩
  .rw[bA]at m
   obtain⟨ao,al⟩:=r4 m;rw[j,dif_pos ao,al];exact⟨aW,h.p_ _ _ c0⟩
 obtain⟨am,ct⟩:=bH;have cu:=(cC.fJ (.inl am) I);have cv:∀q,T.N q->q<w:=λq c=>h.lt (aN.hL c);have bN:Src 1 p tk (aC key):=(R.ab y.ab λq c an=>(S q c).2 (aN.hL an)).ext H;have bO:Src 1 p fK (aC val):=(az.ab y.ab λq c an=>(bc q c).2 (aN.hL an)).ext H;obtain⟨d0,d1,d2,d3⟩:=bS bD;refine⟨_,d0,K,d1,V,d2,D,d3,(rj bF am I bN bO hg.1 hg.2).use ?_⟩;rintro _ bU ⟨dP,ep,de,rfl,bV,bW⟩;refine⟨_,dP,ep,de,true,rfl,bg (vs:=[false,(),(),()]) rfl λcw a6 bX cz=>⟨a6.cF rfl gi,rfl,c6 a6 (us:=dp (ir bL key val) dP ep de) rfl rfl λa8 bY bZ cA=>⟨nofun,λ_=>?_⟩⟩⟩;have a9:Ext bU a8:=Ext.bQ bX bZ (a_ _);have ap:=(H.trans bW).trans a9;obtain⟨d0,d1,d2,d3⟩:=bS bY;obtain⟨bm,bt,b0,au,b3,ba⟩:=J9 am hg.1 hg.2;have b4:aM.D.aZ<=900000000:=by
  have:aM.D.aZ<=T.C.D.aZ+2*T.aD:=y.aZ;omega
 have b6:b2 (λq=>¬(T.bK aM T.P).M q) a8 (ir bL key val) dP ep de:=(bV.ext a9).bh λq _ c b7=>U4 (X.lt b7)
 have b8:=Es (d_:=h3 L key val) (k:=key) (steps:=steps) (bL:=bL) (X.ext ap) (λe=>bb λi=>Y.cj.1▸e i) Q ax cO hf b4 m (Z.ext' ap λq c=>c.2) b6 bm (by
  obtain⟨h1,r,t,u⟩|⟨aS,bz,aT,aU,aV,aX,a0,a1,bA,aJ,c0,aW,a2,bI,bJ,a3,a4,bM,a5⟩:=aL
  .have ah:¬0<a.length:=I
   rw[dif_neg ah]at j;refine .inl ⟨h1,r,t,au,?_,?_⟩
   .have:bP bL=1:=by rw[j];rfl
    omega
   .rw[bt,j,u];rfl
  .rw[bA]at m
   obtain⟨ao,al⟩:=r4 m;rw[dif_pos ao,al]at j;rw[j]at bt b0 au b3 ba⊢;refine .inr ⟨aS,aT,aU,aV,aX,a0,a1,bA,aJ,λs hs=>?_,λ_=>au,a4,?_,U4 (h.p_ _ _ c0)⟩
   .rcases ba s hs with rfl|aw
    .exact a3
    .exact a2 s aw
   .rw[bt];exact a5 (λL=>h3 L key val) (HC key val))
 refine⟨_,d0,dP,d1,ep,d2,de,d3,b8.use ?_⟩;intro v w' b9;have ca:=b9.ab (w:=w) ((y.trans (b_.ext (T.bK aM T.P) ap)).mono (l:=40) I) (a_ _) aO bj;obtain⟨aq,h1,r,t,u,aw⟩:=ca;obtain⟨rfl,z⟩|⟨rfl,z⟩|⟨rfl,z⟩:=aw
 .exact⟨2,rfl,.inr ⟨hg.1,hg.2,aq,h1,r,t,u,.inl ⟨rfl,z⟩⟩⟩
 .exact⟨0,rfl,.inr ⟨hg.1,hg.2,aq,h1,r,t,u,.inr (.inl ⟨rfl,z⟩)⟩⟩
 .exact⟨3,rfl,.inr ⟨hg.1,hg.2,aq,h1,r,t,u,.inr (.inr ⟨rfl,z⟩)⟩⟩
theorem Et{l:O aY}{k:Key}(h:(e7 l k).length=l.length):∀p∈l,p.1≠k:=by
 intro p a;unfold e7 at h;have:=(mZ (p:=λp:aY=>decide (p.1≠k))).1 (List.Sublist.eq_of_length List.filter_sublist h);exact bB (this p a)
theorem Eu{A B M:O aY}{k:Key}(b:L=A++(M++B))(hu:e7 L k=A++(e7 M k++B)):fP L k=fP M k:=by
 have h1:(e7 A k).length<=A.length:=nU _ _;have g:(e7 B k).length<=B.length:=nU _ _;have c:=congrArg List.length hu;rw[b,tJ,tJ]at c;simp only[b6]at c;have ak:=Et (l:=A) (k:=k) I;have d:=Et (l:=B) (k:=k) I;have e:A.find? (λp=>decide (p.1=k))=none:=kn.2 λp a=>by simpa using ak p a
 have f:B.find? (λp=>decide (p.1=k))=none:=kn.2 λp a=>by simpa using d p a
 unfold fP;rw[b,List.find?_append,List.find?_append,e,f];simp
theorem Ev{k:Key}(h:hJ n):fP n.fx k=if iq n.keys k then n.vals[cX n.keys k]? else none:=by
 have s:=rO n.keys k;have w:=h.fG;have t:∀ (j:Nat) (f:j<n.keys.length),j<cX n.keys k->b9 n.keys[j] k:=λj f h1=>pS h1 f;have u:n.keys[cX n.keys k]? ≠some k->∀ (j:Nat) (f:j<n.keys.length),cX n.keys k<=j->b9 k n.keys[j]:=λhe j f h1=>Ep w h1 f he;have l:n.fx=n.keys.zip n.vals:=rfl;unfold iq;rw[l];generalize cX n.keys k=i at s t u⊢;obtain⟨a,b,c,d,g,v,z,A,B,H,J,K,L⟩:=Au h s;have C:n.keys.zip n.vals=a.zip c++b.zip d:=by rw[g,v];exact pR I
 have D:(a.zip c).find? (λp:aY=>decide (p.1=k))=none:=kn.2 λp l=>by
  have q:=(sy l).1;obtain⟨j,f,r⟩:=eO q;have h1:=t j (by rw[g,b6];omega) I;simp only[g,sG f,r]at h1;simpa using oB h1
 unfold fP;rw[C,List.find?_append,D];by_cases he:n.keys[i]? =some k
 .rw[if_pos (by simpa using he)]
  have E:∃m,b=k::m:=by
   cases b with
   |nil=>rw[g,j6 I]at he;simp at he
   |cons y m=>
    rw[g,j6 I,z,lQ]at he;simp at he;exact⟨m,by rw[he]⟩
  obtain⟨m,rfl⟩:=E;obtain⟨x,o,rfl⟩:∃x o,d=x::o:=by
   cases d with
   |nil=>simp at B
   |cons x o=>exact⟨x,o,rfl⟩
  rw[v,j6 I,A,lQ];simp
 .rw[if_neg (by simpa using he)]
  have F:=u he;have G:(b.zip d).find? (λp:aY=>decide (p.1=k))=none:=kn.2 λp l=>by
   have q:=(sy l).1;obtain⟨j,f,r⟩:=eO q;have h1:=F (i+j) (by rw[g,b6];omega) I;have e:(a++b)[i+j]'(by rw[b6];omega)=b[j]:=by
    rw[uH I];congr 1;omega
   simp only[g,e,r]at h1;have:=oB h1;simpa using λh=>this h.symm
  rw[G];rfl
def Ka(T:aN)(L:O aY)(key:Key)(w:J)(v:Y)(w':J):Prop:=
 ∃aM:cp,cm w' (T.bK aM T.P)/\b_ T (T.bK aM T.P) w w' 30/\(∀j,aM.view j=T.C.view j)/\
  ((v=.tuple #[(),false,U8]/\(cP key->fP L key=none))\/
   (∃ (t:U) (x:Key),v=.tuple #[t,true,U8]/\cP key/\fP L key=some x/\bI (λq=>¬(T.bK aM T.P).M q) w' t x)\/
   (v=.tuple #[(),false,(3:Int)]/\cP key/\¬T.C.D.calm 30))
theorem Ew{T:aN}{tk:U}(h:cm w T)(W:g0 T pages L)(aT:T.C.D.aZ<=800000000)(l:Src 1 w tk (aC key))(v:∀q,ar tk q->q<w/\¬T.M q):
 aI aj 64 #[.pointer (some T.bE),tk] w (Ka T L key w):=by
 have X:=len8 l;have aU:=h.num.2.1;have aX:T.bK T.C T.P=T:=rfl;refine okF (ad.wj (some T.bE) tk) ay.wj func64 ?_;(delta ad.wj af bR dY ai aW aJ z3 bf ae av lz aQ aO aV;dsimp only);refine cx (λb w'=>b= !(decide (cP key))/\w=w') (λq m=>⟨nofun,λ_=>(oq w tk).use ?_⟩) ?_
 .rintro _ _ ⟨rfl,rfl⟩
  refine⟨_,rfl,m _ _ ⟨?_,rfl⟩⟩;unfold cP;rw[X]
 rintro _ _ ⟨rfl,rfl⟩;refine⟨λf=>⟨nofun,λ_=>?_⟩,λf=>?_⟩
 .have:¬cP key:=by simpa using f
  exact⟨T.C,h,(b_.refl T w).mono I,λ_=>rfl,.inl ⟨rfl,λhx=>absurd hx this⟩⟩
 have hg:cP key:=by simpa using f
 obtain⟨steps,x,y⟩:=Av (k:=key) h W;refine(Ai h I l v x).use ?_;rintro _ Y ⟨aM,n,g,j,Z⟩;obtain⟨s,a,rfl,d,z⟩|⟨rfl,aa⟩:=Z
 rotate_left
 .exact⟨⟨none,0,0⟩,3,rfl,λ_=>⟨aM,n,g.mono I,j,.inr (.inr ⟨rfl,hg,λhc=>aa (gM hc I)⟩)⟩,λhx=>(by simp at hx)⟩
 have a0:s.len=a.length:=by
  have:=z.own.1;rw[gL _ (oO a)]at this;omega
 have a1:a.length=T.aD:=by
  have:=x.length;rw[←d,cV]at this;exact this
 refine⟨s,0,rfl,λhx=>⟨aM,n,g.mono I,j,.inl ⟨rfl,λ_=>?_⟩⟩,λhx=>?_⟩
 .have ac:a.length=0:=by
   have:(s.len:Int)=0:=by simpa using hx
   omega
  obtain⟨_,_,_,ag⟩|⟨ah,bz,al,am,an,ap,aq,au,bA,_⟩:=y
  .rw[ag];rfl
  .rw[bA]at d
   obtain⟨ao,_⟩:=r4 d;omega
 have ac:0<a.length:=by
  have:¬(s.len:Int)=0:=by simpa using hx
  omega
 have e:IntKind.wrap .i64 ((s.len:Int)-1)=((a.length-1:Nat):Int):=by rw[bl I I];omega
 obtain⟨A,ak,_,_,_,hu⟩:=z.at (i:=a.length-1) I;obtain⟨h1,_⟩|⟨ah,bz,al,am,an,ap,aq,au,bA,aJ,c0,aW,a2,a3,a4,a5,a6,aw,ax⟩:=y
 .rw[h1]at d
  have:=congrArg List.length d;simp at this;omega
 have B:=d;rw[bA]at B;obtain⟨ao,E⟩:=r4 B;rw[e,cS];generalize a8:(a[a.length-1]'I)=u at hu E;obtain⟨a9,un,ba,K,V,D⟩:=u;obtain rfl:un=bz:=E;refine⟨A,ak,⟨I,I⟩,_,hu.aR,K,hu.a7,V,hu.bx,D,hu.fE,bg (vs:=[false,(),(),()]) rfl λbb F az bc=>⟨F.cF rfl gi,rfl,c6 F (us:=dp un K V D) rfl rfl λo G aA bd=>?_⟩⟩;have p:Ext Y o:=Ext.bQ az aA (a_ _);obtain⟨d0,d1,d2,d3⟩:=bS G;have be:=(cC.fJ (.inl aW) (U4 (h.p_ _ _ c0)));have aB:Src 1 o tk (aC key):=(l.ab g.ab λq m aE=>(v q m).2 (aN.hL aE)).ext p;have H:b2 (λq=>w<=q/\¬(T.bK aM T.P).M q) o un K V D:=hu.bu.ext p;refine⟨_,d0,K,d1,V,d2,D,d3,(rh H aB aW.fG I).use ?_⟩;rintro _ aF ⟨rfl,r⟩;have N:=p.trans r;have Q:=n.ext N;have R:b_ T (T.bK aM T.P) w aF 30:=(g.trans (b_.ext _ N)).mono I;have t:fP L key=fP un.fx key:=Eu aw (ax (λL=>e7 L key) (zk key));rw[Ev aW]at t;refine⟨_,_,rfl,λc=>⟨aM,Q,R,j,.inl ⟨rfl,λ_=>?_⟩⟩,λc=>?_⟩
 .have c:iq un.keys key=false:=by simpa using c
  rw[t,if_neg (by rw[c];simp)]
 .have c:iq un.keys key=true:=by simpa using c
  have aG:cX un.keys key<un.keys.length:=(jK.1 (bB c)).1;have S:cX un.keys key<un.vals.length:=by rw[aW.len];exact aG
  obtain⟨f0,f1,f2,f3⟩:=bS (G.ext r);obtain⟨aH,fK,aK,aL,aP,aS,_⟩:=bo.at (H.ext r).vals S;refine⟨V,f2,aH,aK,aL,fK,aP,aM,Q,R,j,.inr (.inl ⟨fK,un.vals[cX un.keys key],rfl,hg,?_,bI.bh aS λq _ f=>f.2⟩)⟩;rw[t,if_pos c,dB S]
theorem Kb{k:Key}(h:hJ n)(w:iq n.keys k=true):hJ (mN n k)/\(mN n k).fx=e7 n.fx k/\bP (mN n k)<=bP n/\n.keys.length=(mN n k).keys.length+1/\(∀s∈(mN n k).keys,s∈n.keys):=by
 have o:=rO n.keys k;have A:=h.fG;have l:n.fx=n.keys.zip n.vals:=rfl;have he:n.keys[cX n.keys k]? =some k:=bB w;rw[l];unfold mN;generalize cX n.keys k=i at o he⊢;obtain⟨a,b,c,d,j,m,q,B,r,C,K,D,L⟩:=Au h o;have g:n.keys.zip n.vals=a.zip c++b.zip d:=by rw[j,m];exact pR I
 have E:∃e,b=k::e:=by
  cases b with
  |nil=>rw[j,j6 I]at he;simp at he
  |cons y e=>
   rw[j,j6 I,q,lQ]at he;simp at he;exact⟨e,by rw[he]⟩
 obtain⟨e,rfl⟩:=E;obtain⟨x,f,rfl⟩:∃x f,d=x::f:=by
  cases d with
  |nil=>simp at r
  |cons x f=>exact⟨x,f,rfl⟩
 have ao:n.keys.drop (i+1)=e:=by rw[j,show a++k::e=(a++ [k])++e by simp];exact drop_left' (by simp[q])
 have F:n.vals.drop (i+1)=f:=by rw[m,show c++x::f=(c++ [x])++f by simp];exact drop_left' (by simp[B])
 rw[C,D,ao,F];have G:(a++k::e).Pairwise b9:=by rw[←j];exact A
 obtain⟨gA,H,t⟩:=m0.1 G;have u:=mq.1 H;have v:∀z,z∈a++e->z∈n.keys:=λz g=>by
  rw[j];simp only[cE,cN]at g⊢;obtain h1|h1:=g
  .exact .inl h1
  .exact .inr (.inr h1)
 refine⟨⟨⟨λz g=>h.ok z (v z g),m0.2 ⟨gA,u.2,λy J z g=>t y J z (jv _ g)⟩⟩,h.leaf,?_,h.kids,λz g=>h.vals z ?_⟩,?_,?_,?_,v⟩
 .show(c++f).length=(a++e).length
  simp only[b6,eE]at r⊢;omega
 .rw[m]
  have g:z∈c++f:=g;simp only[cE,cN]at g⊢;obtain h1|h1:=g
  .exact .inl h1
  .exact .inr (.inr h1)
 .show(a++e).zip (c++f)=_
  rw[g,pR I,tJ,List.zip_cons_cons];have f1:e7 (a.zip c) k=a.zip c:=tK λp l=>oB (t _ (sy l).1 k mo);have f2:e7 ((k,x)::e.zip f) k=e.zip f:=by
   have:e7 ((k,x)::e.zip f) k=e7 (e.zip f) k:=by unfold e7;simp
   rw[this];exact tK λp l=>(oB (u.1 _ (sy l).1)).symm
  rw[f1,f2]
 .rw[r3 h.leaf,r3 (n:={n with keys:=a++e,vals:=c++f}) h.leaf]
  show 1+(List.zipWith k7 (a++e) (c++f)).sum<=_;rw[j,m,qq I,qq I,lS,lS,List.zipWith_cons_cons,qo];omega
 .show n.keys.length=(a++e).length+1
  rw[j];simp only[b6,eE];omega
structure jZ(T aq:aN):Prop where
 root:aq.root=T.root
 aD:aq.aD=T.aD
 f:aq.f=T.f
 eQ:∀no,(T.f no||T.g no)=true->aq.P no=T.P no/\aq.C.view no=T.C.view no
theorem jZ.refl(T:aN):jZ T T:=⟨rfl,rfl,rfl,λ_ _=>⟨rfl,rfl⟩⟩
theorem jZ.bK{T:aN}(a:∀j,aM.view j=T.C.view j):jZ T (T.bK aM T.P):=⟨rfl,rfl,rfl,λno _=>⟨rfl,a no⟩⟩
theorem jZ.trans{T aq b:aN}(h1:jZ T aq)(a:jZ aq b)(hg:aq.g=T.g):jZ T b:=
 ⟨a.root.trans h1.root,a.aD.trans h1.aD,a.f.trans h1.f,λno h=>by
  have c:=h1.eQ no h
  have d:=a.eQ no (by rw[h1.f,hg];exact h)
  exact⟨d.1.trans c.1,d.2.trans c.2⟩⟩
structure Ex(T aq:aN)(bc:O Nat)(d_:O aY):Prop where
 ok:∃pages,cy T<=cy aq+(2*T.aD+3)/\g0 aq pages d_/\pages.Nodup/\(∀no∈pages,no∈bc\/(T.f no||T.g no)=false)/\∀no,aq.f no=true↔(no∈pages\/(T.f no=true/\no∉bc))
 eQ:∀no,T.g no=true->aq.P no=T.P no/\aq.C.view no=T.C.view no
theorem jZ.ok{T aq:aN}(h:jZ T aq)(a:g0 T pages L)(hf:∀x∈pages,T.f x=true):g0 aq pages L:=by
 unfold g0 at a⊢;rw[h.root,h.aD];obtain a|b:=a
 .exact .inl a
 .exact .inr (eK.agree b λx hx=>(h.eQ x (by rw[hf x hx];rfl)).1.symm).1
def Kc(T:aN)(bc:O Nat)(L:O aY)(key:Key)(w:J)(v:Y)(w':J):Prop:=
 ∃aq:aN,cm w' aq/\b_ T aq w w' 100/\aq.E=T.E/\aq.G=T.G/\
  ((v=.tuple #[false,(1:Int)]/\¬cP key/\jZ T aq)\/
   (v=.tuple #[false,U8]/\cP key/\fP L key=none/\jZ T aq)\/
   (v=.tuple #[false,(2:Int)]/\cP key/\fP L key≠none/\cy T<2*T.aD+3/\jZ T aq)\/
   (v=.tuple #[true,U8]/\cP key/\fP L key≠none/\2*T.aD+3<=cy T/\Ex T aq bc (e7 L key))\/
   (v=.tuple #[false,(3:Int)]/\cP key/\¬T.C.D.calm 100/\jZ T aq))
theorem Ke{T:aN}{tk:U}(h:cm w T)(aL:¬T.C.D.ro)(ac:g0 T pages L)(aO:L.length<4096)(cO:pages.Nodup)(hf:∀x∈pages,T.f x=true)(bn:T.C.D.aZ<=800000000)
 (Q:Src 1 w tk (aC key)) (ag:∀q,ar tk q->q<w/\¬T.M q):
 aI aj 67 #[.pointer (some T.bE),tk] w (Kc T pages L key w):=by
 have aP:=len8 Q;have bo:=h.num.2.1;refine okF (ad.wm (some T.bE) tk) ay.wm func67 ?_;(delta ad.wm af bR dY ai aW aJ lA z3 bf ae av b5;dsimp only);refine cx (λb w'=>b= !(decide (cP key))/\w=w') (λq m=>⟨nofun,λ_=>(oq w tk).use ?_⟩) ?_
 .rintro _ _ ⟨rfl,rfl⟩
  refine⟨_,rfl,m _ _ ⟨?_,rfl⟩⟩;unfold cP;rw[aP]
 rintro _ _ ⟨rfl,rfl⟩;refine⟨λR=>⟨T,h,(b_.refl T w).mono I,rfl,rfl,.inl ⟨rfl,by simpa using R,.refl T⟩⟩,λR=>?_⟩;have hg:cP key:=by simpa using R
 obtain⟨steps,ah,al⟩:=Av (k:=key) h ac;refine(Ai h I Q ag ah).use ?_;rintro _ aQ ⟨aM,r,c,o,g⟩;obtain⟨s,a,rfl,j,S⟩|⟨rfl,aS⟩:=g
 rotate_left
 .exact⟨⟨none,0,0⟩,3,rfl,λ_=>⟨_,r,c.mono I,rfl,rfl,.inr (.inr (.inr (.inr ⟨rfl,hg,λhc=>aS (gM hc I),.bK o⟩)))⟩,λhx=>(by simp at hx)⟩
 have bp:s.len=a.length:=by
  have:=S.own.1;rw[gL _ (oO a)]at this;omega
 have bq:a.length=T.aD:=by
  have:=ah.length;rw[←j,cV]at this;exact this
 refine⟨s,0,rfl,λhx=>⟨_,r,c.mono I,rfl,rfl,.inr (.inl ⟨rfl,hg,?_,.bK o⟩)⟩,λhx=>?_⟩
 .have aT:a.length=0:=by
   have:(s.len:Int)=0:=by simpa using hx
   omega
  obtain⟨_,_,_,t⟩|⟨am,bz,an,ap,au,aw,ax,az,bA,_⟩:=al
  .rw[t];rfl
  .rw[bA]at j
   obtain⟨ao,_⟩:=r4 j;omega
 have aT:0<a.length:=by
  have:¬(s.len:Int)=0:=by simpa using hx
  omega
 have e:IntKind.wrap .i64 ((s.len:Int)-1)=((a.length-1:Nat):Int):=by rw[bl I I];omega
 obtain⟨A,ak,_,_,_,hu⟩:=S.at (i:=a.length-1) I;obtain⟨h1,_⟩|⟨am,bz,an,ap,au,aw,ax,az,bA,aJ,c0,aW,aU,br,aV,bs,aX,a0,aA⟩:=al
 .rw[h1]at j
  have:=congrArg List.length j;simp at this;omega
 have F:=j;rw[bA]at F;obtain⟨ao,aB⟩:=r4 F;rw[e,cS];generalize bv:(a[a.length-1]'I)=u at hu aB;obtain⟨bw,un,bC,K,V,D⟩:=u;obtain rfl:un=bz:=aB;have bD:=(cC.fJ (.inl aW) (U4 (h.p_ _ _ c0)));have a1:Src 1 aQ tk (aC key):=Q.ab c.ab λq m a2=>(ag q m).2 (aN.hL a2);have W:fP L key=fP un.fx key:=Eu a0 (aA (λL=>e7 L key) (zk key));rw[Ev aW]at W;refine⟨A,ak,⟨I,I⟩,_,hu.aR,K,hu.a7,V,hu.bx,D,hu.fE,(ri (n:=un) hu.bu aW I a1).use ?_⟩;intro v aE g;unfold rU at g;by_cases d:iq un.keys key=true
 rotate_left
 .have d:iq un.keys key=false:=by simpa using d
  rw[d,if_neg U9]at g;obtain⟨rfl,G⟩:=g;refine⟨_,bG,bG,bG,false,rfl,bg (vs:=[false,(),(),()]) rfl λa3 y X a4=>⟨y.cF rfl (gi (b:=jW.leaf) (K:=bG) (V:=bG) (D:=bG)),rfl,c6 y (us:=dp jW bG bG bG) rfl rfl λH aF Y a5=>⟨λ_=>?_,nofun⟩⟩⟩;have N:Ext aE H:=Ext.bQ X Y (a_ _);have p:=G.trans N;refine⟨_,r.ext p,(c.trans (b_.ext _ p)).mono I,rfl,rfl,.inr (.inl ⟨rfl,hg,?_,.bK o⟩)⟩;rw[W,if_neg (by rw[d];simp)]
 rw[if_pos d]at g;obtain⟨dP,ep,de,rfl,a6,G⟩:=g;refine⟨_,dP,ep,de,true,rfl,bg (vs:=[false,(),(),()]) rfl λa3 y X a4=>⟨y.cF rfl gi,rfl,c6 y (us:=dp (mN un key) dP ep de) rfl rfl λH aF Y a5=>⟨nofun,λ_=>?_⟩⟩⟩;have N:Ext aE H:=Ext.bQ X Y (a_ _);have p:=G.trans N;obtain⟨d0,d1,d2,d3⟩:=bS aF;obtain⟨bm,bt,bF,aG,a8⟩:=Kb aW d;have a9:cX un.keys key<un.keys.length:=(jK.1 (bB d)).1;have ba:cX un.keys key<un.vals.length:=by rw[aW.len];exact a9
 have aH:fP L key≠none:=by
  rw[W,if_pos d,dB ba];simp
 have bb:aM.D.aZ<=900000000:=by
  have:aM.D.aZ<=T.C.D.aZ+2*T.aD:=c.aZ;omega
 have bH:=G.size;have bc:b2 (λq=>¬(T.bK aM T.P).M q) H (mN un key) dP ep de:=(a6.ext N).bh λq _ m F=>U4 (r.lt F)
 have bd:=Es (d_:=e7 L key) (k:=key) (steps:=steps) (bL:=un) (r.ext p) (λe=>aL λi=>c.cj.1▸e i) ac aO cO hf bb j (S.ext' p λq m=>m.2) bc bm (.inr ⟨am,an,ap,au,aw,ax,az,bA,aJ,λs hs=>aU s (a8 s hs),λhs e=>by
  have z:=aV hs;rw[e]at aG;simp at aG;omega,aX,by rw[bt];exact aA (λL=>e7 L key) (zk key),U4 (h.p_ _ _ c0)⟩)
 refine⟨_,d0,dP,d1,ep,d2,de,d3,bd.use ?_⟩;rintro v w' ⟨aq,h1,be,Z,t,bi⟩;have aa:=((c.trans (b_.ext (T.bK aM T.P) p)).trans be).mono (l:=100) I;have bI:cy (T.bK aM T.P)=cy T:=rfl;have bJ:(T.bK aM T.P).aD=T.aD:=rfl;obtain⟨rfl,B,E⟩|⟨rfl,B,E,z⟩|⟨rfl,B,E,z,bj,bk⟩:=bi
 .subst E
  exact⟨2,rfl,_,h1,aa,Z,t,.inr (.inr (.inl ⟨rfl,hg,aH,B,.bK o⟩))⟩
 .exact⟨0,rfl,_,h1,aa,Z,t,.inr (.inr (.inr (.inl ⟨rfl,hg,aH,B,E,λno aK=>⟨(z no aK).1,(z no aK).2.trans (o no)⟩⟩)))⟩
 .exact⟨3,rfl,_,h1,aa,Z,t,.inr (.inr (.inr (.inr ⟨rfl,hg,λhc=>B (c.calm 60 (gM hc I)),(jZ.bK o).trans ⟨E,z,bj,bk⟩ rfl⟩)))⟩
section
variable {B C W:U1}{w w':J}{s:U}{ps:O (U×U)}{L:O aY}
end
structure eI(T aq:aN)(w w':J)(k:Nat):Prop where
 to:b_ T aq w w' k
 E:aq.E=T.E
 G:∀q,T.G q->aq.G q
 root:aq.root=T.root
 aD:aq.aD=T.aD
 f:aq.f=T.f
 P:aq.P=T.P
 view:∀j,aq.C.view j=T.C.view j
theorem eI.refl(T:aN)(w:J):eI T T w w 0:=⟨.refl _ _,rfl,λ_ h=>h,rfl,rfl,rfl,rfl,λ_=>rfl⟩
theorem eI.ext(T:aN)(h:Ext w w'):eI T T w w' 0:=⟨.ext T h,rfl,λ_ h=>h,rfl,rfl,rfl,rfl,λ_=>rfl⟩
theorem eI.trans{T aq b:aN}{c:J}{l:Nat}(h1:eI T aq w w' k)(a:eI aq b w' c l):eI T b w c (k+l):=
 ⟨h1.to.trans a.to,a.E.trans h1.E,λq h=>a.G q (h1.G q h),a.root.trans h1.root,a.aD.trans h1.aD,a.f.trans h1.f,a.P.trans h1.P,λj=>(a.view j).trans (h1.view j)⟩
theorem eI.mono{T aq:aN}{l:Nat}(h:eI T aq w w' k)(a:k<=l):eI T aq w w' l:=⟨h.to.mono a,h.E,h.G,h.root,h.aD,h.f,h.P,h.view⟩
theorem eI.bK{T:aN}(h:b_ T (T.bK aM T.P) w w' k)(a:∀j,aM.view j=T.C.view j):eI T (T.bK aM T.P) w w' k:=⟨h,rfl,λ_ h=>h,rfl,rfl,rfl,rfl,a⟩
theorem b_.out{T aq:aN}{q:Nat}(h:b_ T aq w w' k)(b:q<w)(c:¬T.M q):¬aq.M q/\q<w':=by
 refine⟨λh1=>?_,ga b h.ab.size⟩;rcases h.dr q h1 with a|a
 .exact c a
 .omega
section
variable {w w':J}{T aq:aN}{lo aG:Nat}{s:U}{L:O aY}
end
section
variable {w w':J}{T aq:aN}{bE a8 mb:Nat}{Me Mf:U}{to fr:Key}{most:Int}
end
theorem b_.jW{T aq:aN}(h:b_ T aq w w' k){K V D:U}(b:b2 (λq=>¬T.M q) w n K V D):b2 (λq=>¬aq.M q) w' n K V D:=
 (h.bu (lo:=0) (b.bh λ_ _ a=>⟨cw _,a⟩)).bh λ_ _ a=>a.2
def k8(T:aN)(no:Nat):Prop:=(no<T.n/\2<=no)/\∃e,cG (no:Int) (T.C.view no)=.error e
theorem Kf{T:aN}{o:aA}(h:cm w T)(s:T.C.D.aZ<=999999999)(d:T.P no=some o\/k8 T no):
 aI aj 175 #[.pointer (some T.bE),no,o.leaf] w (λv w'=>∃aM:cp,eI T (T.bK aM T.P) w w' 2/\cm w' (T.bK aM T.P)/\aa (λq=>T.N q/\¬T.G q) w w'/\
  ((∃ (K V D:U),v=.tuple #[dg o K V D,U8]/\T.P no=some o/\b2 (λq=>w<=q/\¬(T.bK aM T.P).M q) w' o K V D)\/(∃e:Int,v=.tuple #[dg jW bG bG bG,e]/\e≠0/\((e=3/\¬T.C.D.calm 2)\/k8 T no)))):=by
 have f:no<T.n:=d.elim (λh1=>(h.eM no o h1).1) λh1=>h1.1.1;have g:2<=no:=d.elim (λh1=>(h.eM no o h1).2.two) λh1=>h1.1.2;obtain⟨ck,i⟩:=U6 (λq=>T.E q\/T.G q);have c:∀q,T.E q\/T.G q->ck q:=λq a=>by rw[i];exact a
 have j:∀q,ck q->T.E q\/T.G q:=λq a=>by rw[i]at a;exact a
 have k:cm w (T.cJ ck λ_=>False):=h.grow (W:=λ_=>False) (aa.refl _ _) (λ_ h=>h.elim) (λq a=>(j q a).imp id .inl) (λ_ h=>h.elim) λ_ _ h=>h;have t:∀q,(T.cJ ck λ_=>False).N q->T.N q/\¬T.G q:=λq a=>⟨by
  obtain a|a|a|a:=a
  .exact .inl a
  .exact .inr (.inl a)
  .exact .inr (.inr (.inl a))
  .exact a.elim,λhg=>k.kg (c q (.inr hg)) a⟩
 refine(Ah k s f g o.leaf).mono ?_;rintro v w' ⟨aM,u,ht,x,y⟩;have z:b_ T (T.bK aM T.P) w w' 2:=b_.read (E:=ck) ht c λq a=>(j q a).imp id .inl;have A:aa (λq=>T.N q/\¬T.G q) w w':=ht.ab.mono λq _ a=>t q a;refine⟨aM,.bK z x,?_,A,?_⟩
 .exact u.grow (E:=T.E) (G:=T.G) (W:=λ_=>False) (aa.refl _ _) (λ_ h=>h.elim) (λq a=>.inl (c q (.inl a))) (λq a=>.inl (c q (.inr a))) λq a=>(h.dF q a).2.2
 .obtain⟨bz,K,V,D,rfl,l,cO⟩|⟨e,rfl,B,F⟩:=y
  .have m:T.P no=some o:=d.resolve_right λ⟨_,e,h1⟩=>by
    obtain⟨p,ao,_⟩:=l;have h1:cG (no:Int) (T.C.view no)=.error e:=h1;have ao:cG (no:Int) (T.C.view no)=.ok p:=ao;rw[h1]at ao;cases ao
   obtain rfl:=g9.uniq (h.eM no o m).2 l;refine .inl ⟨K,V,D,rfl,m,cO.bh λq a r=>⟨r.1,λb=>r.2 ?_⟩⟩;obtain b|b|b|b|b:=b
   .exact .inl b
   .exact .inr (.inl b)
   .exact .inr (.inr (.inl b))
   .exact .inr (.inr (.inr (.inl (c q (.inl b)))))
   .exact .inr (.inr (.inr (.inl (c q (.inr b)))))
  .refine .inr ⟨e,rfl,F,?_⟩
   obtain h1|h1|⟨_,_,h1⟩:=B
   .exact .inl h1
   .exact .inr ⟨⟨f,g⟩,e,h1⟩
   .exact d.elim (λH=>absurd (h.eM no o H).2 (h1 o)) .inr
theorem Ey{T:aN}(h:cm w T):aI aj 128 #[.pointer (some T.bE)] w (λv w'=>v=.tuple #[T.root,T.aD]/\Ext w w'):=by
 refine okF (ad.wL (some T.bE)) ay.wL func128 ?_;(delta ad.wL af aE r1;dsimp only);have hd:=h.ext (cc w);exact⟨nofun,λ_=>aH ⟨_,rfl,id,_,hd.cells.2.2.2.1,_,rfl,id,_,hd.cells.2.2.2.2,rfl,cc w⟩⟩
theorem Kg{s:U}{ds:O Nat}(h:cK B w s ds)(no:Nat)(k:ds.length<=1000000):
 aI aj 154 #[s,no] w (λv w'=>∃n:Int,v=n/\(0<=n↔no∈ds)/\w=w'):=by
 have l:=h.len;refine okF (ad.vP s (no:Nat)) ay.vP func154 ?_;(delta ad.vP cW af aQ aO r1 aV ai;dsimp only);refine⟨λn w'=>∃i:Nat,n=(i:Int)/\i<=ds.length/\no∉ds.take i/\w=w',λn _=>((ds.length:Int)-n).toNat,⟨0,rfl,cw _,by simp,rfl⟩,?_⟩;rintro _ _ ⟨i,rfl,hi,d,rfl⟩;refine⟨λaB=>?_,λf=>?_⟩
 .have b:i<ds.length:=by
   have:(i:Int)<(s.len:Int):=bB aB;omega
  obtain⟨A,ak,g,hc⟩:=cK.at h b;refine⟨A,ak,g,_,hc,λhe=>?_,λc=>?_⟩
  .have he:no=ds[i]:=by
    have:(no:Int)=((ds[i]:Nat):Int):=by simpa using he
    omega
   exact⟨_,rfl,⟨λ_=>by rw[he];exact cg _,λ_=>I⟩,rfl⟩
  .have c:no≠ds[i]:=λe=>by rw[e]at c;simp at c
   have j:IntKind.wrap .i64 ((i:Int)+1)=((i+1:Nat):Int):=by rw[bl I I];omega
   rw[j];refine⟨⟨i+1,rfl,I,?_,rfl⟩,by show((ds.length:Int)-((i+1:Nat):Int)).toNat<((ds.length:Int)-(i:Int)).toNat;omega⟩;rw[gv b];intro a;rcases cE.1 a with a|a
   .exact d a
   .exact c (dV.1 a)
 .have b:i=ds.length:=by
   have:¬(i:Int)<(s.len:Int):=bT f;omega
  rw[b,gD]at d;exact⟨-1,rfl,⟨λh=>I,λh=>absurd h d⟩,rfl⟩
theorem Ez{s:U}{ds:O Nat}(h:cK B w s ds)(no:Nat)(a:ds.length<=1000000):
 aI aj 79 #[s,no] w (λv w'=>v=.bool (decide (no∈ds))/\w=w'):=by
 refine okF (ad.vL s (no:Nat)) ay.vL func79 ?_;(delta ad.vL b5;dsimp only);refine(Kg h no a).use ?_;rintro _ _ ⟨n,rfl,b,rfl⟩;refine⟨n,rfl,?_,rfl⟩
 congr 1
 exact decide_eq_decide.2 b
def jj(B:U1)(w:J)(t:U):an Key->Prop
 |none=>t.a=none
 |some k=>k≠ []/\bI B w t k
theorem jj.ab{t:U}(h:jj B w t o)(hc:aa W w w')(b:∀q,B q->q<w->¬W q):jj B w' t o:=by
 cases o with
 |none=>exact h
 |some k=>exact⟨h.1,bI.l7 h.2 hc λq a=>b q (h.2.2.2 q a).1 (h.2.2.2 q a).2⟩
theorem jj.bh{t:U}(h:jj B w t o)(a:∀q,q<w.heap.size->B q->C q):jj C w t o:=by
 cases o with
 |none=>exact h
 |some k=>exact⟨h.1,bI.bh h.2 a⟩
theorem jj.nil{t:U}(h:jj B w t o):(!(Option.isNone t.a))=o.isSome:=by
 cases o with
 |none=>rw[show t.a=none from h];rfl
 |some k=>
  obtain⟨A,ak⟩:=bI.some h.2 h.1;rw[ak];rfl
theorem rv{D:U1}{K V m mT mU:U}(E:b2 B w n K V m)(T:n.keys.length<=100000)(M:jj C w mT lo)(N:jj D w mU hi):
 aI aj 236 #[dg n K V m,mT,mU] w (λv w'=>∃b:ag,v=b/\(b=true↔n.within lo hi)/\Ext w w'):=by
 have X:=bo.len E.keys;refine okF (ad.rv n.leaf K V m mT mU) ay.rv func236 ?_;(delta ad.rv av aJ ae cW af aQ aO aV b5 ai;dsimp only);refine bg (vs:=dp n K V m) rfl λw1 O g Y=>?_;obtain⟨bM,aR,a7,bx⟩:=bS O;have P:=E.ext g;have p:=M.ab (W:=λ_=>False) g λ_ _ _ h=>h;have s:=N.ab (W:=λ_=>False) g λ_ _ _ h=>h;refine⟨K,aR,λi w'=>∃t:Nat,i=(t:Int)/\t<=n.keys.length/\(∀k∈n.keys.take t,fF lo hi k)/\w1=w',λi _=>((n.keys.length:Int)-i).toNat,⟨0,rfl,cw _,by simp,rfl⟩,?_⟩;rintro _ _ ⟨i,rfl,Z,u,rfl⟩;refine⟨λaB=>?_,λQ=>?_⟩
 rotate_left
 .have o:i=n.keys.length:=by
   have:¬(i:Int)<(K.len:Int):=bT Q;omega
  rw[o,gD]at u;exact⟨true,rfl,⟨λ_=>u,λ_=>rfl⟩,g⟩
 have o:i<n.keys.length:=by
  have:(i:Int)<(K.len:Int):=bB aB;omega
 obtain⟨A,tk,ak,j,hc,x,_⟩:=bo.at P.keys o;obtain⟨key,y⟩:=U6 (n.keys[i]);rw[←y]at x;refine⟨A,ak,j,tk,hc,cx (λb w'=>(b=true↔¬∀a,lo=some a->g6 a key)/\w1=w') (λq l=>⟨λc=>?_,λc=>?_⟩) ?_⟩
 .rw[p.nil]at c
  cases lo with
  |none=>cases c
  |some a=>
   refine(mF x.1 p.2.1).use ?_;rintro _ _ ⟨rfl,rfl⟩;refine⟨_,rfl,l _ _ ⟨?_,rfl⟩⟩;rw[cq];constructor
   .exact λh d=>d a rfl h
   .exact λh=>nQ λd=>h λb j=>by cases j;exact d
 .rw[p.nil]at c
  cases lo with
  |none=>exact l _ _ ⟨⟨nofun,λh=>absurd (λa e=>(by cases e)) h⟩,rfl⟩
  |some a=>cases c
 rintro aa _ ⟨F,rfl⟩;refine cx (λb w'=>(b=true↔¬fF lo hi key)/\w1=w') (λq l=>⟨λc=>l _ _ ⟨⟨λ_ h=>(F.1 c) h.1,λ_=>rfl⟩,rfl⟩,λc=>?_⟩) ?_
 .have R:∀a,lo=some a->g6 a key:=Classical.byContradiction λd=>by rw[F.2 d]at c;cases c
  refine cx (λb w'=>(b=true↔¬∀a,hi=some a->b9 key a)/\w1=w') (λr G=>⟨λd=>?_,λd=>?_⟩) ?_
  .rw[s.nil]at d
   cases hi with
   |none=>cases d
   |some a=>
    refine(mF x.1 s.2.1).use ?_;rintro _ _ ⟨rfl,rfl⟩;refine⟨_,rfl,G _ _ ⟨?_,rfl⟩⟩;rw[cq];constructor
    .exact λh d=>by
      have:e0 key a<0:=d a rfl;omega
    .exact λh=>nQ λd=>h λb j=>by cases j;show e0 key a<0;omega
  .rw[s.nil]at d
   cases hi with
   |none=>exact G _ _ ⟨⟨nofun,λh=>absurd (λa e=>(by cases e)) h⟩,rfl⟩
   |some a=>cases d
  .rintro ac _ ⟨H,rfl⟩
   exact l _ _ ⟨⟨λh z=>H.1 h z.2,λh=>H.2 λz=>h ⟨R,z⟩⟩,rfl⟩
 .rintro ah _ ⟨L,rfl⟩
  have S:IntKind.wrap .i64 ((i:Int)+1)=((i+1:Nat):Int):=by rw[bl I I];omega
  refine⟨λc=>⟨false,rfl,⟨nofun,λh=>absurd (h key (by rw[y];exact cg _)) (L.1 c)⟩,g⟩,λc=>?_⟩;rw[S];refine⟨⟨i+1,rfl,I,λk f=>?_,rfl⟩,by show((n.keys.length:Int)-((i+1:Nat):Int)).toNat<((n.keys.length:Int)-(i:Int)).toNat;omega⟩;rw[gv o]at f;rcases cE.1 f with f|f
  .exact u k f
  .rw[dV.1 f,←y]
   exact Classical.byContradiction λh=>by rw[L.2 h]at c;cases c
theorem ef.each{W:Below}{ks:O Key}(h:ef W lo hi ks kids p L):
 ∃ (ps:O (O Nat)) (a:O (O aY)),ps.length=kids.length/\a.length=kids.length/\p=ps.flatten/\L=a.flatten/\
  ∀ (i:Nat) (h1:i<kids.length) (b:i<ps.length) (c:i<a.length),W (if i=0 then lo else ks[i-1]?) (if i<ks.length then ks[i]? else hi) kids[i] ps[i] a[i]:=by
 induction h with
 | @one lo hi k p L h=>
  refine⟨[p],[L],rfl,rfl,by simp,by simp,λi h1 b c=>?_⟩;have:i=0:=by simpa using h1
  subst this;exact h
 | @cons lo hi s k bm bt bC b8 ks kids h t d=>
  obtain⟨ps,a,ao,e,rfl,rfl,f⟩:=d;have g:=t.len;refine⟨bm::ps,bC::a,by simp[ao],by simp[e],by simp,by simp,λi h1 b c=>?_⟩
  cases i with
  |zero=>simpa using h
  |succ i=>
   have:=f i (by simpa using h1) (by simpa using b) (by simpa using c);simp only[List.getElem_cons_succ,eE,Nat.add_lt_add_iff_right,yg,Nat.add_one_ne_zero,if_false,sD]
   cases i with
   |zero=>simpa using this
   |succ i=>simpa using this
structure iR(w:J)(T:aN)(dQ:Nat)(s:U)(ps:O Nat)(k:Nat):Prop where
 t:cm w T
 v:Var w dQ [.pointer (some T.bE),s,k] 294
 own:aL 1 3 w s (dv ps)
 r5:T.G dQ
 gs:∀q,ar s q->T.G q/\q≠dQ
section
variable {w w':J}{T aq:aN}{dQ k:Nat}{s:U}{ps:O Nat}
theorem iR.of(h:iR w T dQ s ps k)(d:cm w' aq)(e:aq.bE=T.bE)(b:∀q,T.G q->aq.G q)(c:aa W w w')(cz:∀q,T.G q->¬W q):iR w' aq dQ s ps k:=
 ⟨d,by rw[e];exact h.v.ab c (cz _ h.r5),h.own.ab c λq a=>cz q (h.gs q a).1,b _ h.r5,λq a=>⟨b q (h.gs q a).1,(h.gs q a).2⟩⟩
theorem iR.ext(h:iR w T dQ s ps k)(hx:Ext w w'):iR w' T dQ s ps k:=h.of (h.t.ext hx) rfl (λ_ h=>h) hx λ_ _ h=>h
theorem iR.cells(h:iR w T dQ s ps k):w.cell? dQ=some (.pointer (some T.bE))/\w.cell? (Addr.add dQ 1)=some (.slice s.a s.len s.cap)/\w.cell? (Addr.add dQ 2)=some (.int .i64 (k:Nat)):=by
 rw[aw,aw];exact⟨h.v.cell,h.v.cell,h.v.cell⟩
theorem Kh(h:iR w T dQ s ps k)(no:Nat)(x:ps.length<=100000):
 ∃ (b:U) (ah:J),Sem.run aj (Builtin.append_ #[72,72] 72 #[s,.slice (some w) 1 1]) (w.alloc (.cells #[no] 3))=.ok b ah/\
  (∃u:Y,ah.cell? ⟨dQ,1,none⟩=some u)/\ah.frozen? ⟨dQ,1,none⟩=false/\
  ∀c,c=ah.setCell ⟨dQ,1,none⟩ b->iR c (T.cJ T.E λq=>T.G q\/ar b q) dQ b (ps++ [no]) k/\eI T (T.cJ T.E λq=>T.G q\/ar b q) w c 0:=by
 obtain⟨b,ah,ao,j,d,f,y⟩:=Aj no h.own I;have cz:∀q,ar s q->T.G q:=λq a=>(h.gs q a).1;have z:=d.size;have l:=h.v.ab d λa=>(h.gs _ a).2 rfl;obtain⟨bJ,b4⟩:=dT l (i:=1) U9;refine⟨b,ah,ao,bJ,b4,?_⟩;rintro _ rfl;have g:=dz ah dQ 1 b;have p:=ei l (i:=1) b;have m:aa T.G w (ah.setCell ⟨dQ,1,none⟩ b):=cn (d.mono λq _ a=>cz q a) g λq _ e=>by rw[e];exact h.r5
 have n:∀q,ar b q->T.G q\/(w<=q/\q<(ah.setCell ⟨dQ,1,none⟩ b).heap.size):=λq a=>by
  rcases f q a with h1|h1
  .exact .inl (cz q h1)
  .exact .inr ⟨h1,U5 (aL.lt j q a) g.size⟩
 have o:∀q,ar b q->q≠dQ:=λq a e=>by
  rcases f q a with h1|h1
  .exact(h.gs q h1).2 e
  .have:=h.v.lt;omega
 have r:=h.t.grow (E:=T.E) (G:=λq=>T.G q\/ar b q) m (λq a _=>.inr a) (λq a=>.inl a) (λq a=>by
  obtain a|a:=a
  .exact .inr (.inl a)
  .exact .inr (n q a)) λq a hg=>by
  obtain hg|hg:=hg
  .exact(h.t.dF q a).2.2 hg
  .rcases f q hg with h1|h1
   .exact(h.t.dF q a).2.2 (cz q h1)
   .have:=h.t.lt (q:=q) (.inr (.inr (.inr (.inl a))));omega
 refine⟨⟨r,p,j.ab g λq a e=>o q a e,.inl h.r5,λq a=>⟨.inr a,o q a⟩⟩,?_,rfl,λ_ h=>.inl h,rfl,rfl,rfl,rfl,λ_=>rfl⟩;exact(b_.refl T w).step m (λq a _=>.inr (.inr (.inr a))) (λq a=>.inl a) λq a=>by
  obtain a|a:=a
  .exact .inl a
  .exact(n q a).imp id λe=>e.1
theorem Ki(h:iR w T dQ s ps k)(m:Nat):(∃u:Y,w.cell? (Addr.add dQ 2)=some u)/\w.frozen? (Addr.add dQ 2)=false/\
 iR (w.setCell (Addr.add dQ 2) m) T dQ s ps m/\eI T T w (w.setCell (Addr.add dQ 2) m) 0:=by
 rw[aw];obtain⟨bJ,b4⟩:=dT h.v (i:=2) U9;have b:=dz w dQ 2 m;have hc:aa T.G w (w.setCell ⟨dQ,2,none⟩ m):=b.mono λq _ e=>by rw[e];exact h.r5
 refine⟨bJ,b4,⟨?_,ei h.v (i:=2) _,h.own.ab b λq a e=>(h.gs q a).2 e,h.r5,h.gs⟩,?_,rfl,λ_ h=>h,rfl,rfl,rfl,rfl,λ_=>rfl⟩
 .exact h.t.grow (E:=T.E) (G:=T.G) hc (λq a _=>.inr a) (λq a=>.inl a) (λq a=>.inr (.inl a)) λq a=>(h.t.dF q a).2.2
 .exact(b_.refl T w).step (E:=T.E) (G:=T.G) hc (λq a _=>.inr (.inr (.inr a))) (λq a=>.inl a) λq a=>.inl a
end
theorem b_.aO{T aq:aN}{t:U}(h:b_ T aq w w' k)(a:jj (λq=>¬T.M q) w t o):jj (λq=>¬aq.M q) w' t o:=by
 have h1:jj (λq=>q<w/\¬T.M q) w t o:=a.bh λq b a=>⟨b,a⟩;exact(h1.ab h.ab λq b _ c=>b.2 (aN.hL c)).bh λq _ a=>(h.out a.1 a.2).1
theorem eI.bad{T aq:aN}{x:Nat}(h:eI T aq w w' k)(a:k8 aq x):k8 T x:=by
 obtain⟨h1,e,b⟩:=a;exact⟨by rw[←h.to.n];exact h1,e,by rw[←h.view];exact b⟩
theorem eI.Kj{T aq:aN}{x:Nat}(h:eI T aq w w' k)(a:k8 T x):k8 aq x:=by
 obtain⟨h1,e,b⟩:=a;exact⟨by rw[h.to.n];exact h1,e,by rw[h.view];exact b⟩
theorem eK.EA{P:Nat->an aA}{h:Nat}(e:eK P (h+1) lo hi no p L):∃ (n:aA) (b:O Nat),P no=some n/\n.leaf=decide (h=0)/\cC n/\p=no::b/\n.within lo hi/\
 ((h=0/\hJ n/\b=[]/\L.length=n.keys.length)\/(tL n/\∃ (ps:O (O Nat)) (c:O (O aY)),ps.length=n.kids.length/\c.length=n.kids.length/\b=ps.flatten/\L=c.flatten/\
   ∀ (i:Nat) (h1:i<n.kids.length) (a:i<ps.length) (d:i<c.length),eK P h (if i=0 then lo else n.keys[i-1]?) (if i<n.keys.length then n.keys[i]? else hi) n.kids[i] ps[i] c[i])):=by
 match h,e with
 |0,⟨n,h1,a,d,j,f,g⟩=>
  refine⟨n,[],h1,a.leaf,.inl a,f,d,.inl ⟨rfl,a,rfl,?_⟩⟩;rw[g];unfold aA.fx;rw[qn,a.len,Nat.min_self]
 |h+1,⟨n,b,h1,a,d,j,f⟩=>
  have g:=f.mono (V:=λlo hi k p L=>eK P (h+1) lo hi k p L) λ_ _ _ _ _ _ e=>e.1;exact⟨n,b,h1,by rw[a.inner];simp,.inr a,j,d,.inr ⟨a,g.each⟩⟩
def Kk(T:aN)(dQ:Nat)(ps:O Nat)(keys:Nat)(fM:Nat->an aA)(p:O Nat)(b:Nat)(w:J)(v:Y)(w':J):Prop:=
 ∃aq:aN,eI T aq w w' (2*p.length)/\
  ((v=.int .i64 0/\(∃a,iR w' aq dQ a (ps++p) (keys+b))/\∀x∈p,T.P x=fM x)\/
   (∃e:Int,v=e/\e≠0/\(∃ (a:U) (c:O Nat) (d:Nat),iR w' aq dQ a c d)/\((e=3/\¬T.C.D.calm (2*p.length))\/∃x∈p,k8 T x)))
theorem uh{l:O (O α)}(h:i<l.length):(l.take (i+1)).flatten=(l.take i).flatten++l[i]:=by
 rw[gv h,uE];simp
theorem Aw{l:O (O α)}(h:i<l.length):l.flatten=(l.take i).flatten++(l[i]++(l.drop (i+1)).flatten):=by
 conv=>lhs;rw[←iW i l,j5 h]
 rw[uE,uG]
theorem EB{l:O (O α)}(h:i<l.length):(l.take i).flatten.length+l[i].length<=l.flatten.length:=by
 have:=congrArg List.length (Aw h);rw[b6,b6]at this;omega
theorem Kl(h:Nat):∀ {w:J}{T:aN}{dQ keys:Nat}{s mT mU:U}{ps p:O Nat}{fM:Nat->an aA}{L:O aY}{lo hi:an Key}{no:Nat},iR w T dQ s ps keys->h<=12->eK fM h lo hi no p L->(∀x∈p,T.f x=true/\x<T.n)->(∀x∈p,∀bu,fM x=some bu->T.P x=some bu\/k8 T x)->(ps++p).Nodup->
   jj (λq=>¬T.M q) w mT lo->jj (λq=>¬T.M q) w mU hi->ps.length+p.length<=10000->keys+L.length<=100000->T.C.D.aZ+2*p.length<=999999999->
   aI aj 195 #[.pointer (some dQ),no,h,mT,mU] w (Kk T dQ ps keys fM p L.length w):=by
 induction h with
 |zero=>intro w T dQ keys s mT mU ps p fM L lo hi no _ _ al;exact al.elim
 |succ h bq=>
   intro w T dQ keys s mT mU ps p fM L lo hi no am cD al a3 a4 cO a5 a6 br cG bs
   obtain⟨n,cH,aq,bt,bv,rfl,bw,bx⟩:=al.EA
   have a7:=am.t
   have bz:=a4 no U9 n aq
   have bA:=a3 no U9
   simp only[eE]at br bs
   refine okF (ad.wX (some dQ) (no:Nat) ((h+1:Nat):Int) mT mU) ay.wX func195 ?_
   (delta ad.wX aE kU z3 bf ae af aJ bR aW av ap st r1 ai cW aQ aO aV b5;dsimp only)
   rw[D8 bt]
   refine⟨_,rfl,_,am.cells.1,(Kf a7 I bz).use ?_⟩
   rintro _ W ⟨aM,X,a8,bC,au⟩
   have a9:iR W (T.bK aM T.P) dQ s ps keys:=am.of a8 rfl (λ_ h=>h) bC λq g bD=>bD.2 g
   obtain⟨K,V,D,rfl,az,bF⟩|⟨e,rfl,F,aC⟩:=au
   rotate_left
   · refine⟨_,bG,bG,bG,e,rfl,bg (vs:=[false,(),(),()]) rfl λbH H aD bI=>⟨H.cF rfl (gi (b:=jW.leaf) (K:=bG) (V:=bG) (D:=bG)),rfl,c6 H (us:=dp jW bG bG bG) rfl rfl λbL cI bM cL=>⟨λ_=>?_,λhx=>(by simp at hx;exact absurd hx F)⟩⟩⟩
     have ba:Ext W bL:=Ext.bQ aD bM (a_ _)
     refine⟨_,(X.trans (eI.ext _ ba)).mono (by simp only[eE];omega),.inr ⟨e,rfl,F,⟨s,ps,keys,a9.ext ba⟩,?_⟩⟩
     obtain⟨rfl,bN⟩|bO:=aC
     · exact .inl ⟨rfl,λhc=>bN (gM hc (by simp only[eE];omega))⟩
     · exact .inr ⟨no,by simp,bO⟩
   have cM:=cC.fJ bv (U4 (a7.p_ _ _ az))
   refine⟨_,K,V,D,0,rfl,bg (vs:=[false,(),(),()]) rfl λbH H aD bI=>⟨H.cF rfl gi,rfl,c6 H (us:=dp n K V D) rfl rfl λY Z bP cP=>⟨nofun,λ_=>?_⟩⟩⟩
   have v:Ext W Y:=Ext.bQ aD bP (a_ _)
   obtain⟨nb,bU⟩:=U6 W.heap.size
   rw[←bU]at Z⊢
   have bb:¬(T.bK aM T.P).M nb:=λo=>U4 (a8.lt o)
   have l:=a9.ext v
   have aa:b2 (λq=>¬(T.bK aM T.P).M q) Y n K V D:=(bF.ext v).bh λq _ c=>c.2
   have cQ:=v.size
   have bV:=bo.len aa.keys
   have cR:=cK.len aa.kids
   obtain⟨d0,d1,d2,d3⟩:=bS Z
   have bW:no∉ps:=λo=>by
     rw[nO]at cO
     exact cO.2.2 no o no U9 rfl
   refine⟨_,rfl,s,l.cells.2.1,(Ez (B:=λ_=>True) ⟨l.own.src,l.own.2.1,λq g=>⟨trivial,l.own.lt q g⟩⟩ no I).use ?_⟩
   rintro _ _ ⟨rfl,rfl⟩
   refine⟨_,rfl,cx (λb w'=>b=false/\Y=w') (λq g=>⟨λc=>absurd (bB c) bW,λ_=>⟨_,rfl,_,l.cells.1,_,rfl,_,l.t.cells.2.1,(DK l.t.s (no:Nat)).use ?_⟩⟩) ?_⟩
   · rintro _ _ ⟨rfl,rfl⟩
     refine⟨_,rfl,g _ _ ⟨?_,rfl⟩⟩
     have bc:(T.bK aM T.P).f=T.f:=rfl
     have bd:(T.bK aM T.P).n=T.n:=rfl
     rw[bc,bd,cS,bA.1]
     have:(0:Int)<=(no:Int)/\(no:Int)<(T.n:Int):=⟨I,I⟩
     simp[this.2]
   rintro _ _ ⟨rfl,rfl⟩
   have bX:=(X.to.trans (b_.ext _ v)).aO a5
   have bY:=(X.to.trans (b_.ext _ v)).aO a6
   refine cx (λb w'=>b=false/\Ext Y w') (λq g=>⟨nofun,λ_=>⟨_,d0,K,d1,V,d2,D,d3,(rv aa I bX bY).use ?_⟩⟩) ?_
   · rintro _ cU ⟨b,rfl,c,bZ⟩
     exact⟨b,rfl,g _ _ ⟨by rw[c.2 bw];rfl,bZ⟩⟩
   rintro _ cV ⟨rfl,N⟩
   refine⟨nofun,λ_=>?_⟩
   have be:=l.ext N
   obtain⟨Q,bi,ao,b0,b1,b3⟩:=Kh be no I
   refine⟨_,rfl,s,be.cells.2.1,aH ⟨Q,bi,ao,_,rfl,?_⟩⟩
   rw[aw,cT]
   refine⟨b0,b1,aH ?_⟩
   obtain⟨ac,r⟩:=b3 _ rfl
   generalize cX:bi.setCell ⟨dQ,1,none⟩ Q=y at ac r⊢
   obtain⟨jB,b7⟩:=U6 ((T.bK aM T.P).cJ (T.bK aM T.P).E λq=>(T.bK aM T.P).G q\/ar Q q)
   rw[←b7]at ac r
   have aF:eI T jB w y 2:=((X.trans (eI.ext _ (v.trans N))).trans r).mono I
   have cY:=Z.lt
   have cZ:=N.size
   have aG:=(Z.ext N).ab r.to.ab λo=>bb (aN.hL o)
   have b8:=r.to.out (q:=nb) I bb
   have b9:=r.to.jW (aa.ext N)
   have c0:=r.to.ab.size
   have c1:=aF.to.ab.size
   obtain⟨rfl,ca,rfl,cb⟩|⟨aK,d,aL,bc,bd,rfl,rfl,cd⟩:=bx
   ·
     have aP:n.leaf=true:=ca.leaf
     refine⟨λ_=>aH ?_,λhx=>(by rw[aP]at hx;cases hx)⟩
     have bj:=ac.ext (cc y)
     have ce:=aG.ext (cc y)
     have cf:IntKind.wrap .i64 ((keys:Int)+(K.len:Int))=((keys+K.len:Nat):Int):=by rw[bl I I];omega
     obtain⟨bJ,b4,ch,ci⟩:=Ki bj (keys+K.len)
     refine⟨_,rfl,id,_,bj.cells.2.2,id,K,(bS ce).2.1,_,rfl,bJ,b4,?_⟩
     rw[cf]
     refine aH ⟨jB,((aF.trans (eI.ext jB (cc y))).trans ci).mono U9,.inl ⟨rfl,⟨Q,?_⟩,λx hx=>?_⟩⟩
     · rw[cb,←bV];exact ch
     · rw[dV.1 hx,az,aq]
   · have aP:n.leaf=false:=aK.inner
     refine⟨λhx=>(by rw[aP]at hx;cases hx),λ_=>?_⟩
     have c2:=aK.len
     refine⟨D,(bS aG).2.2.2,λaR w'=>∃ (i:Nat) (kz:aN) (aS:U),aR=(i:Int)/\i<=n.kids.length/\iR w' kz dQ aS (ps++no::(d.take i).flatten) (keys+(aL.take i).flatten.length)/\eI T kz w w' (2+2*(d.take i).flatten.length)/\eI jB kz y w' (2*(d.take i).flatten.length)/\∀x∈(d.take i).flatten,T.P x=fM x,
       λaR _=>((n.kids.length:Int)-aR).toNat,⟨0,jB,Q,rfl,cw _,by simpa using ac,by simpa using aF,by simpa using eI.refl jB y,by simp⟩,?_⟩
     rintro _ z ⟨i,kz,aS,rfl,c3,ag,k,aT,aU⟩
     refine⟨λaB=>?_,λcj=>?_⟩
     rotate_left
     · have aX:i=n.kids.length:=by
         have:¬(i:Int)<(D.len:Int):=bT cj
         omega
       rw[eZ I]at ag k aU
       rw[eZ I]at ag
       refine⟨kz,k.mono (by simp only[eE];omega),.inl ⟨rfl,⟨aS,ag⟩,λx hx=>?_⟩⟩
       rcases cN.1 hx with rfl|hx
       · rw[az,aq]
       · exact aU x hx
     have aX:i<n.kids.length:=by
       have:(i:Int)<(D.len:Int):=bB aB
       omega
     have m:i<d.length:=I
     have a0:i<aL.length:=I
     have bk:=aT.to.jW b9
     have a1:=aG.ab aT.to.ab λo=>b8.1 (aN.hL o)
     have ck:=k.to.aO a5
     have cl:=k.to.aO a6
     obtain⟨A,ak,cm,cn⟩:=cK.at bk.kids aX
     have c4:=EB m
     have c5:=EB a0
     have bm:∀ (j:Nat) (ah:j<n.keys.length),∃ (a:ax) (t:U),K.a=some a/\((0:Int)<=(j:Int)/\(j:Int)<(K.len:Int))/\z.cell? (a.add (Int.toNat (j:Int)*1))=some (.slice t.a t.len t.cap)/\jj (λq=>¬kz.M q) z t n.keys[j]? :=λj ah=>by
       obtain⟨a,t,h1,u,R,S,_⟩:=bo.at bk.keys ah
       refine⟨a,t,h1,u,R,?_⟩
       rw[dB ah]
       refine⟨λe=>?_,S⟩
       have:=(aK.ok _ (cg ah)).1
       rw[e]at this;simp at this
     refine⟨A,ak,cm,_,cn,cx (λt w'=>jj (λq=>¬kz.M q) z t (if i=0 then lo else n.keys[i-1]?)/\z=w') (λq g=>⟨λc=>?_,λc=>?_⟩) ?_⟩
     · have c:0<i:=by
         have:(i:Int)>0:=bB c
         omega
       have co:IntKind.wrap .i64 ((i:Int)-1)=((i-1:Nat):Int):=by rw[bl I I];omega
       obtain⟨a,t,h1,u,R,S⟩:=bm (i-1) I
       rw[co]
       refine⟨K,(bS a1).2.1,a,h1,u,t,R,g _ _ ⟨?_,rfl⟩⟩
       rw[if_neg I];exact S
     · have c:i=0:=by
         have:¬(i:Int)>0:=bT c
         omega
       refine g _ _ ⟨?_,rfl⟩
       rw[if_pos c];exact ck
     rintro c7 _ ⟨cp,rfl⟩
     refine cx (λt w'=>jj (λq=>¬kz.M q) z t (if i<n.keys.length then n.keys[i]? else hi)/\z=w') (λq g=>⟨K,(bS a1).2.1,λc=>?_,λc=>?_⟩) ?_
     · have c:i<n.keys.length:=by
         have:(i:Int)<(K.len:Int):=bB c
         omega
       obtain⟨a,t,h1,u,R,S⟩:=bm i c
       refine⟨K,(bS a1).2.1,a,h1,u,t,R,g _ _ ⟨?_,rfl⟩⟩
       rw[if_pos c];exact S
     · have c:¬i<n.keys.length:=by
         have:¬(i:Int)<(K.len:Int):=bT c
         omega
       refine g _ _ ⟨?_,rfl⟩
       rw[if_neg c];exact cl
     rintro bE _ ⟨cq,rfl⟩
     have cr:IntKind.wrap .i64 (((h+1:Nat):Int)-1)=(h:Int):=by rw[bl I I];omega
     have cs:IntKind.wrap .i64 ((i:Int)+1)=((i+1:Nat):Int):=by rw[bl I I];omega
     have ct:kz.n=T.n:=k.to.n
     have c8:=k.to.aZ
     have a2:∀x∈d[i],x∈no::d.flatten:=λx hx=>by
       rw[Aw m]
       exact jv _ (iY _ (kl _ hx))
     have cu:=bq (p:=d[i]) (fM:=fM) (L:=aL[i]) (no:=n.kids[i]) ag I (cd i aX m a0) (λx hx=>by rw[k.f,ct];exact a3 x (a2 x hx)) (λx hx bu h1=>by
       rw[k.P]
       exact(a4 x (a2 x hx) bu h1).imp id k.Kj) (by
       rw[Aw m]at cO
       have e:ps++no::((d.take i).flatten++(d[i]++(d.drop (i+1)).flatten))=((ps++no::(d.take i).flatten)++d[i])++(d.drop (i+1)).flatten:=by simp
       rw[e]at cO
       exact(nO.1 cO).1) cp cq (by simp only[b6,eE];omega) I I
     rw[cr,cs]
     refine cu.use ?_
     rintro _ cv ⟨lB,bn,au⟩
     have bp:eI T lB w cv (2+2*((d.take i).flatten.length+d[i].length)):=(k.trans bn).mono I
     obtain⟨rfl,⟨cy,cz⟩,cA⟩|⟨e,rfl,F,cB,aC⟩:=au
     · refine⟨0,rfl,nofun,λ_=>⟨⟨i+1,lB,cy,rfl,I,?_,?_,?_,?_⟩,?_⟩⟩
       · rw[uh m,uh a0,b6,←Nat.add_assoc]
         have e:ps++no::((d.take i).flatten++d[i])=(ps++no::(d.take i).flatten)++d[i]:=by simp
         rw[e];exact cz
       · rw[uh m,b6];exact bp
       · rw[uh m,b6];exact(aT.trans bn).mono I
       · intro x hx
         rw[uh m]at hx
         rcases cE.1 hx with hx|hx
         · exact aU x hx
         · rw[←k.P];exact cA x hx
       · show((n.kids.length:Int)-((i+1:Nat):Int)).toNat<((n.kids.length:Int)-(i:Int)).toNat
         omega
     · refine⟨e,rfl,λ_=>⟨lB,bp.mono (by simp only[eE];omega),.inr ⟨e,rfl,F,cB,?_⟩⟩,λhx=>(by simp at hx;exact absurd hx F)⟩
       obtain⟨h1,u⟩|⟨x,hx,c⟩:=aC
       · exact .inl ⟨h1,λhc=>u (k.to.calm _ (gM hc (by simp only[eE];omega)))⟩
       · exact .inr ⟨x,a2 x hx,k.bad c⟩
def Km(T:aN)(fM:Nat->an aA)(pages:O Nat)(c:Nat)(w:J)(v:Y)(w':J):Prop:=
 ∃aq:aN,cm w' aq/\eI T aq w w' (2*pages.length)/\aq.G=T.G/\
  ((∃ (s:U) (es:O Nat),v=.tuple #[s,c,U8]/\aL 1 3 w' s (dv es)/\es.Perm pages/\(es.Pairwise λa b=>a<=b)/\(∀q,ar s q->(T.N q\/w<=q)/\¬aq.M q)/\(∀x∈pages,T.P x=fM x)/\cm w' (aq.cJ T.E λq=>T.G q\/ar s q))\/
   (∃e:Int,v=.tuple #[(),U8,e]/\e≠0/\((e=3/\¬T.C.D.calm (2*pages.length))\/∃x∈pages,k8 T x)))
theorem Kn{T:aN}{fM:Nat->an aA}(h:cm w T)(ah:g0 (T.bK T.C fM) pages L)(az:∀x∈pages,T.f x=true/\x<T.n)(aB:∀x∈pages,∀bu,fM x=some bu->T.P x=some bu\/k8 T x)(cO:pages.Nodup)(a4:L.length<=9000)(a5:pages.length<=9000)(aC:T.C.D.aZ+2*pages.length<=999999999):
 aI aj 139 #[.pointer (some T.bE)] w (Km T fM pages L.length w):=by
 have aF:=h.num.2.1;refine okF (ad.wN (some T.bE)) ay.wN func139 ?_;(delta ad.wN af aE r1 b5 ae xs aJ e6;dsimp only);refine⟨nofun,λ_=>bg (vs:=[.pointer (some T.bE),(),U8]) rfl λw1 S ai a6=>?_⟩;obtain⟨dQ,aG⟩:=U6 w.heap.size;rw[←aG]at S⊢;obtain⟨ck,ak⟩:=U6 (λq=>T.E q\/T.G q);have B:∀q,T.E q\/T.G q->ck q:=λq a=>by rw[ak];exact a
 have V:∀q,ck q->T.E q\/T.G q:=λq a=>by rw[ak]at a;exact a
 have a7:=S.lt;have h1:cm w1 (T.cJ ck λq=>q=dQ):=h.grow (W:=λ_=>False) ai (λ_ h=>h.elim) (λq a=>(V q a).imp id .inl) (λq e=>.inr (.inr ⟨I,I⟩)) λq a e=>by
  rcases V q a with u|u
  .have:=h.lt (q:=q) (.inr (.inr (.inr (.inl u))));omega
  .have:=h.lt (q:=q) (.inr (.inr (.inr (.inr u))));omega
 obtain⟨b7,k⟩:=U6 (T.cJ ck λq=>q=dQ);rw[←k]at h1;have X:b7.bE=T.bE:=by rw[k];rfl
 have al:b7.E=ck:=by rw[k];rfl
 have M:b7.C=T.C:=by rw[k];rfl
 have Y:b7.P=T.P:=by rw[k];rfl
 have am:iR w1 b7 dQ ⟨none,0,0⟩ [] 0:=⟨h1,by rw[X];exact S,aL.none _ _ _,by rw[k];rfl,λq a=>(gE q a).elim⟩;have i:b_ T b7 w w1 0:=by
  rw[k];exact(b_.refl T w).step (W:=λ_=>False) ai (λ_ h=>h.elim) (λq a=>(V q a).imp id .inl) λq e=>.inr I
 have fin:∀ (w':J) (aq:aN),cm w' aq->eI b7 aq w1 w' (2*pages.length)->cm w' (aq.cJ T.E T.G)/\eI T (aq.cJ T.E T.G) w w' (2*pages.length):=λw' aq aK b=>by
  have y:aq.E=ck:=b.E.trans al;refine⟨aK.grow (E:=T.E) (G:=T.G) (W:=λ_=>False) (aa.refl _ _) (λ_ h=>h.elim) (λq a=>.inl (by rw[y];exact B q (.inl a))) (λq a=>.inl (by rw[y];exact B q (.inr a))) λq a=>(h.dF q a).2.2,?_,rfl,λ_ h=>h,?_,?_,?_,?_,λj=>?_⟩
  .refine⟨b.to.bE.trans i.bE,b.to.sb.trans i.sb,b.to.n.trans i.n,b.to.g.trans i.g,b.to.s1.trans i.s1,b.to.s2.trans i.s2,b.to.c.trans i.c,b.to.d.trans i.d,b.to.bk.trans i.bk,b.to.gen.trans i.gen,by have:=b.to.aZ;rw[M]at this;exact this,λm o=>b.to.calm m (M▸o),?_,λq a=>?_,λq a=>?_⟩
   .exact(cn i.ab b.to.ab λq a aM=>by
     rcases i.fn q aM with u|u
     .exact u
     .omega)
   .obtain a|a|a|a|a:=a
    .exact((i.trans b.to).dr q (.inl a))
    .exact((i.trans b.to).dr q (.inr (.inl a)))
    .exact((i.trans b.to).dr q (.inr (.inr (.inl a))))
    .exact .inl (.inr (.inr (.inr (.inl a))))
    .exact .inl (.inr (.inr (.inr (.inr a))))
   .obtain a|a|a|a:=a
    .exact((i.trans b.to).fn q (.inl a))
    .exact((i.trans b.to).fn q (.inr (.inl a)))
    .exact((i.trans b.to).fn q (.inr (.inr (.inl a))))
    .exact .inl (.inr (.inr (.inr a)))
  .show aq.root=T.root;rw[b.root,k];rfl
  .show aq.aD=T.aD;rw[b.aD,k];rfl
  .show aq.f=T.f;rw[b.f,k];rfl
  .show aq.P=T.P;rw[b.P,Y]
  .show aq.C.view j=T.C.view j;rw[b.view,M]
 refine jQ (λN=>∃ (aq:aN) (s:U) (ps:O Nat),iR N aq dQ s ps L.length/\ps=pages/\eI b7 aq w1 N (2*pages.length)/\∀x∈pages,T.P x=fM x) (λq a=>⟨_,rfl,_,by have:=h1.cells.2.2.2.2;rw[X]at this;exact this,λz=>aH ?_,λz=>?_⟩) ?_
 .have F:=am.ext (cc w1)
  have ap:b7.aD=T.aD:=by rw[k];rfl
  have aO:b7.root=T.root:=by rw[k];rfl
  have z:T.aD≠0:=by
   rw[ap]at z;have:(T.aD:Int)>0:=bB z;omega
  have H:eK fM T.aD none none T.root pages L:=by
   obtain⟨aP,_⟩|H:=ah
   .exact absurd aP z
   .exact H
  have fE:=F.t.cells.2.2.2.1;have fW:=F.t.cells.2.2.2.2;rw[X]at fE fW;rw[ap]at fW;rw[aO]at fE;have aQ:=Kl T.aD (mT:=bG) (mU:=bG) (fM:=fM) (L:=L) (p:=pages) (lo:=none) (hi:=none) (no:=T.root) F aF H (λx hx=>by rw[k];exact az x hx) (λx hx bu u=>by
   rw[Y];refine(aB x hx bu u).imp id λK=>?_;rw[k];exact K) (by simpa using cO) rfl rfl (by simp only[ic];omega) I (M▸aC)
  refine⟨_,rfl,id,_,fE,_,rfl,id,_,fW,aQ.use ?_⟩;rintro _ au ⟨aq,Z,aR⟩;have av:eI b7 aq w1 au (2*pages.length):=((eI.ext b7 (cc w1)).trans Z).mono I;obtain⟨rfl,⟨s,r⟩,ac⟩|⟨e,rfl,ax,⟨s,a8,a9,r⟩,aS⟩:=aR
  .refine⟨0,rfl,nofun,λ_=>a _ ⟨aq,s,pages,?_,rfl,av,λx hx=>by rw[←Y];exact ac x hx⟩⟩
   rw[lh,cT]at r;exact r
  .obtain⟨f1,f2⟩:=fin au aq r.t av
   refine⟨e,rfl,λ_=>⟨_,f1,f2,rfl,.inr ⟨e,rfl,ax,?_⟩⟩,λhx=>(by simp at hx;exact absurd hx ax)⟩;obtain⟨u,K⟩|⟨x,hx,K⟩:=aS
   .exact .inl ⟨u,by rw[←M];exact K⟩
   .refine .inr ⟨x,hx,?_⟩
    rw[k]at K;exact K
 .have z:T.aD=0:=by
   have:¬(b7.aD:Int)>0:=bT z;rw[k]at this;have:¬(T.aD:Int)>0:=this;omega
  obtain⟨_,_,aT,aU⟩|H:=ah
  .subst aT aU
   exact a _ ⟨b7,⟨none,0,0⟩,[],am,rfl,eI.refl _ _,λx hx=>(by cases hx)⟩
  .have e:(T.bK T.C fM).aD=T.aD:=rfl
   rw[e,z]at H;exact H.elim
 rintro N ⟨aq,s,ps,r,aV,Z,ac⟩;rw[aV]at r;refine⟨_,rfl,s,r.cells.2.1,(Dz r.own I).use ?_⟩;rintro _ Q ⟨rfl,ag,es,aW,aX,a0⟩;have cz:∀q,ar s q->aq.G q:=λq a=>(r.gs q a).1;have a1:=r.v.ab ag λa=>(r.gs _ a).2 rfl;have A:cm Q aq:=by
  have:=r.t.grow (E:=aq.E) (G:=aq.G) ag (λq a _=>.inr (cz q a)) (λq a=>.inl a) (λq a=>.inr (.inl a)) λq a=>(r.t.dF q a).2.2;exact this
 have a2:eI aq aq N Q 0:=⟨(b_.refl aq N).step (E:=aq.E) (G:=aq.G) ag (λq a _=>.inr (.inr (.inr (cz q a)))) (λq a=>.inl a) λq a=>.inl a,rfl,λ_ h=>h,rfl,rfl,rfl,rfl,λ_=>rfl⟩;have R:=cc Q;have b:=((Z.trans a2).trans (eI.ext aq R)).mono (l:=2*pages.length) I;obtain⟨f1,f2⟩:=fin Q.drew aq (A.ext R) b;have F:=a1.ext R;have y:aq.E=ck:=b.E.trans al;have a3:cm Q.drew (aq.cJ T.E λq=>T.G q\/ar s q):=(A.ext R).grow (E:=T.E) (G:=λq=>T.G q\/ar s q) (W:=λ_=>False) (aa.refl _ _) (λ_ h=>h.elim) (λq a=>.inl (by rw[y];exact B q (.inl a))) (λq a=>a.elim (λa=>.inl (by rw[y];exact B q (.inr a))) λa=>.inr (.inl (cz q a))) λq a hg=>by
  obtain hg|hg:=hg
  .exact(h.dF q a).2.2 hg
  .exact(A.dF q (by rw[y];exact B q (.inl a))).2.2 (cz q hg)
 refine⟨rfl,aH ⟨_,rfl,id,s,F.cell,_,rfl,id,_,F.cell,_,f1,f2,rfl,.inl ⟨s,es,rfl,aW.ext R,aX,a0,λq a=>⟨?_,λo=>?_⟩,ac,a3⟩⟩⟩
 .exact(i.trans b.to).fn q (.inr (.inr (.inr (cz q a))))
 .have ao:=cz q a
  obtain o|o|o|o|o:=o
  .exact A.xX ao o
  .exact(A.ki q ao).1 o
  .exact(A.ki q ao).2 o
  .exact(A.dF q (by rw[y];exact B q (.inl o))).2.2 ao
  .exact(A.dF q (by rw[y];exact B q (.inr o))).2.2 ao
theorem oT{s:U}(h:Src 1 w s (aC l))(hi:i<l.length):∃A:ax,s.a=some A/\((0:Int)<=(i:Int)/\(i:Int)<(s.len:Int))/\w.cell? (A.add (Int.toNat (i:Int)*1))=some (.int .u8 ((l[i].toNat:Nat):Int)):=by
 obtain⟨A,ak,b,hc⟩:=h.at (i:=i) (v:=.int .u8 ((l[i].toNat:Nat):Int)) (by simp[aC,hi]);exact⟨A,ak,b,hc⟩
theorem rE{s t:U}{a b:Key}(hs:Src 1 w s (aC a))(ht:Src 1 w t (aC b))(M:a.length<=1000000)(N:b.length<=1000000):
 aI aj 100 #[s,t] w (λv w'=>∃n:Int,v=n/\(n<0↔b9 a b)/\Ext w w'):=by
 have h1:=len8 hs;have O:=len8 ht;refine okF (ad.rE s t) ay.rE func100 ?_;(delta ad.rE cW af aQ aO bA aV ai;dsimp only);refine⟨λn w'=>∃i:Nat,n=(i:Int)/\i<=a.length/\i<=b.length/\e0 a b=e0 (a.drop i) (b.drop i)/\Ext w w',λn _=>((a.length:Int)-n).toNat,⟨0,rfl,cw _,cw _,rfl,.refl _ _⟩,?_⟩;rintro _ l ⟨i,rfl,P,Q,hc,hx⟩;refine⟨λaB=>?_,λm=>?_⟩
 .rw[dM,cq,cq]at aB
  have d:i<a.length:=I
  have f:i<b.length:=I
  have c:=Ext.trans hx (cc l);obtain⟨A,ak,o,p⟩:=oT (hs.ext c) d;obtain⟨B,q,r,u⟩:=oT (ht.ext c) f;rw[j5 d,j5 f]at hc;have R:=m4 a[i];have S:=m4 b[i];refine aH ⟨A,ak,o,id,_,p,B,q,r,id,_,u,λg=>?_,λx=>?_⟩
  .have g:a[i].toNat≠b[i].toNat:=λe=>by rw[e]at g;simp at g
   have j:=Ext.trans c (cc _);obtain⟨y,z,C,D⟩:=oT (hs.ext j) d;obtain⟨E,F,G,H⟩:=oT (ht.ext j) f;refine aH ⟨y,z,C,id,_,D,E,F,G,id,_,H,_,rfl,?_,j⟩;rw[bl (n:=((a[i].toNat:Nat):Int)) I I,bl (n:=((b[i].toNat:Nat):Int)) I I,bl I I];unfold b9;rw[hc];unfold e0;rcases dA a[i].toNat b[i].toNat with h|h
   .rw[if_pos h]
    exact⟨λ_=>by decide,λ_=>I⟩
   .rw[if_neg I,if_pos I]
    exact⟨λ_=>I,λh=>absurd h (by decide)⟩
  .have he:a[i]=b[i]:=by
    have:((a[i].toNat:Nat):Int)=((b[i].toNat:Nat):Int):=by simpa using x
    exact qm.1 I
   have K:IntKind.wrap .i64 ((i:Int)+1)=((i+1:Nat):Int):=by rw[bl I I];omega
   rw[K];refine⟨⟨i+1,rfl,I,I,?_,c⟩,by show((a.length:Int)-((i+1:Nat):Int)).toNat<((a.length:Int)-(i:Int)).toNat;omega⟩;rw[hc]
   conv=>lhs;unfold e0
   rw[he,if_neg U9,if_neg U9]
 .have T:a.length=i\/b.length=i:=by
   rw[Bool.and_eq_false_iff,fh,fh]at m;omega
  rw[bl I I];refine⟨_,rfl,?_,hx⟩;unfold b9;rw[hc];rcases dA i a.length with h|h
  .rw[j5 h,List.drop_eq_nil_of_le (show b.length<=i from I)]
   exact⟨λL=>by exfalso;omega,λh=>absurd h (show¬((1:Int)<0) by decide)⟩
  .rw[List.drop_eq_nil_of_le (show a.length<=i from I)]
   rcases dA i b.length with k|k
   .rw[j5 k]
    exact⟨λ_=>show((-1:Int)<0) by decide,λ_=>I⟩
   .rw[List.drop_eq_nil_of_le (show b.length<=i from I)]
    exact⟨λL=>by exfalso;omega,λh=>absurd h (show¬((0:Int)<0) by decide)⟩
def ui(n:Nat)(root aD:Int):Prop:=0<=aD/\aD<=12/\0<=root/\root<n/\(root=0↔aD=0)
theorem rf{C:cp}(hc:fA w C)(sb:Nat)(gen root aD:Int):
 aI aj 121 #[.pointer (some C.c),.pointer (some sb),.int .u64 gen,root,aD] w (λv w'=>
  (ui C.D.n root aD/\v=.tuple #[.pointer (some w),U8]/\Ext w w'/\Var w' w [.pointer (some C.c),.pointer (some sb),.int .u64 gen,root,aD] 243/\w'.heap.size=w+1)\/
  (¬ui C.D.n root aD/\v=.tuple #[.pointer none,(1:Int)]/\w=w')):=by
 refine okF (ad.rf (some C.c) (some sb) gen root aD) ay.rf func121 ?_;(delta ad.rf af aE b5 aF ae;dsimp only);refine cx (λb w'=>(b=false↔(0<=aD/\aD<=12/\0<=root/\root<C.D.n))/\w=w') (λq i=>⟨λh1=>i _ _ ⟨?_,rfl⟩,λh1=>⟨_,rfl,_,hc.cells.1,(oI hc.dev).use ?_⟩⟩) ?_
 .simp only[Option.isNone_some,lP,fC,cq]at h1
  exact⟨nofun,λh=>I⟩
 .rintro _ _ ⟨rfl,rfl⟩
  simp only[Option.isNone_some,lP,hV,fh]at h1;refine⟨_,rfl,i _ _ ⟨?_,rfl⟩⟩;rw[fh];omega
 rintro b _ ⟨j,rfl⟩;refine⟨λh1=>.inr ⟨λhg=>?_,rfl,rfl⟩,λh1=>?_⟩
 .have a:=j.2 ⟨hg.1,hg.2.1,hg.2.2.1,hg.2.2.2.1⟩
  rw[a,lP]at h1;have f:=hg.2.2.2.2;by_cases d:root=0
  .rw[d,f.1 d]at h1;simp at h1
  .have g:aD≠0:=λe=>d (f.2 e)
   have k:(root==0)=false:=by simpa using d
   have l:(aD==0)=false:=by simpa using g
   rw[k,l]at h1
   cases h1
 .rw[hV]at h1
  have a:=j.1 h1.1;have f:root=0↔aD=0:=by
   have d:=h1.2;by_cases g:root=0<;>by_cases m:aD=0<;>simp[g,m]at d⊢
  refine bg (vs:=[.pointer (some C.c),.pointer (some sb),.int .u64 gen,root,aD]) rfl λp o hx hs=>.inl ⟨⟨a.1,a.2.1,a.2.2.1,a.2.2.2,f⟩,rfl,hx,o,hs⟩
theorem EC{s:U}(hs:Src 1 w s (aC l))(hc:s.len<=s.cap)(most:Nat)(j:most<=100000):aI aj 62 #[s,most] w (λv w'=>∃a:U,v=a/\aL 1 5 w' a (aC (l.take most))/\Ext w w'/\∀q,ar a q->w<=q):=by
 have hlen:=len8 hs;refine okF (ad.xj s (most:Nat)) ay.xj func62 ?_;(delta ad.xj af ap ae;dsimp only);refine cx (λs2 w'=>w=w'/\Src 1 w s2 (aC (l.take most))/\s2.len<=most) (λq b=>⟨λh=>?_,λh=>?_⟩) ?_
 .have h:most<l.length:=U4 (bB h)
  refine⟨⟨I,I⟩,b _ _ ⟨rfl,?_,by simp⟩⟩;have:=lF hs hc (lo:=0) (hi:=most) I I;simpa using this
 .have h:l.length<=most:=U4 (bT h)
  rw[eZ h]at b;exact b _ _ ⟨rfl,hs,I⟩
 rintro s2 _ ⟨rfl,d,k⟩;obtain⟨c,e,ao,f,m,g,i,_⟩:=tM.clone (c7:=39) d (jE _) I;exact aH ⟨c,e,ao,c,rfl,f,g,i⟩
instance (n:Nat) (root aD:Int):Decidable (ui n root aD):=by unfold ui;infer_instance
theorem rA{s:U}{k:Key}(h:Src 1 w s (aC k)):aI aj 26 #[s] w (λv w'=>v=.bool (decide (cP k))/\w=w'):=by
 have a:=len8 h;refine okF (ad.rA s) ay.rA func26 ?_;unfold ad.rA;refine⟨?_,rfl⟩;have e:(decide ((s.len:Int)>0)&&decide ((s.len:Int)<=24))=decide (cP k):=by
  rw[ek,dM,cq,cq,cq];unfold cP;omega
 rw[e]
theorem g0.rising{T:aN}(h:g0 T pages L):kA L:=by
 obtain⟨_,_,_,a⟩|b:=h
 .rw[a];exact List.Pairwise.nil
 .exact b.fG.1
section
variable {w0 w w':J}{g7 mb:Nat}{T aq:aN}{r h k:Nat}{pages:O Nat}{L hA:O aY}{ms:U}
theorem cm.uj{ug:Nat}(ht:cm w T)(a:T.E ug)(hc:aa (λq=>q=ug) w w'):cm w' T:=
 ht.grow (E:=T.E) (G:=T.G) hc (λq e _=>.inl (e▸a)) (λq a=>.inl a) (λq a=>.inr (.inl a)) λq a=>(ht.dF q a).2.2
end
def aN.Ax(T:aN)(f g:Nat->ag)(s1 s2:U):aN:={T with f:=f,g:=g,s1:=s1,s2:=s2}
section
variable {w0 w w':J}{g7 mb:Nat}{T aq:aN}{r h k:Nat}{pages:O Nat}{L hA:O aY}{ms:U}
theorem cm.space{g:Nat->ag}{s1 s2:U}(ht:cm w T)(hs:e1 w' T.sb T.n f g s1 s2)(hc:aa (eH T.sb T.s1 T.s2) w w')(hf:∀k,eH T.sb s1 s2 k->eH T.sb T.s1 T.s2 k\/w<=k)(d:∀j,T.C.D.cj j=true->g j=true\/T.C.D.ro)(e:g 0=true/\g 1=true):
 cm w' (T.Ax f g s1 s2)/\∀q,(T.Ax f g s1 s2).M q->T.M q\/w<=q:=by
 have c:∀q,T.X q->¬eH T.sb T.s1 T.s2 q->¬eH T.sb s1 s2 q:=λq hx a i=>by
  rcases hf q i with b|b
  .exact a b
  .have:=ht.lt (q:=q) (.inr hx);omega
 refine⟨⟨ht.t.ab hc ht.k4,hs,ht.ca.grow hc (λq a _=>.inr (.inl a)) λq a=>?_,c _ (.inl rfl) ht.k4,λq a=>⟨(ht.dF q a).1,c q (.inr (.inr (.inl a))) (ht.dF q a).2.1,(ht.dF q a).2.2⟩,λq a=>⟨(ht.ki q a).1,c q (.inr (.inr (.inr a))) (ht.ki q a).2⟩,ht.n,ht.num,ht.eM,d,e⟩,λq a=>?_⟩
 .obtain a|a|a|a:=a
  .exact .inl (.inl a)
  .rcases hf q a with b|b
   .exact .inl (.inr (.inl b))
   .exact .inr ⟨b,hs.lt q a⟩
  .exact .inl (.inr (.inr (.inl a)))
  .exact .inl (.inr (.inr (.inr a)))
 .obtain a|a|a|a|a:=a
  .exact .inl (.inl a)
  .exact .inl (.inr (.inl a))
  .exact(hf q a).imp (λh=>.inr (.inr (.inl h))) id
  .exact .inl (.inr (.inr (.inr (.inl a))))
  .exact .inl (.inr (.inr (.inr (.inr a))))
theorem g0.agree(a:g0 T p L)(b:aq.root=T.root)(c:aq.aD=T.aD)(d:∀x∈p,T.P x=aq.P x):g0 aq p L:=by
 unfold g0 at a⊢;rw[b,c];exact a.imp id λe=>(e.agree d).1
end
theorem eK.node{P:Nat->an aA}:∀ (h:Nat) {lo hi:an Key}{no:Nat}{p:O Nat}{L:O aY},eK P h lo hi no p L->∀x∈p,∃bu,P x=some bu
 |0,_,_,_,_,_,a=>a.elim
 |h+1,_,_,no,p,_,a=>by
  obtain⟨n,d,h1,_,_,rfl,_,hc⟩:=a.EA
  intro x hx
  rcases cN.1 hx with rfl|hx
  .exact⟨n,h1⟩
  .obtain⟨_,_,rfl,_⟩|⟨_,ps,e,f,g,rfl,_,he⟩:=hc
   .cases hx
   .obtain⟨l,b,c⟩:=List.mem_flatten.1 hx
    obtain⟨i,hi,rfl⟩:=eO b
    exact eK.node h (he i I hi I) x c
theorem uk(f:Nat->ag):∀ (n:Nat) (x:Int),x∈ff f n↔∃k:Nat,x=(k:Int)/\k<n/\f k=true
 |0,x=>by simp[ff]
 |n+1,x=>by
  rw[ff,cE,uk f n x]
  constructor
  .rintro(⟨k,h1,c,a⟩|h)
   .exact⟨k,h1,I,a⟩
   .split at h
    .exact⟨n,dV.1 h,I,by assumption⟩
    .cases h
  .rintro⟨k,h1,c,a⟩
   rcases dA k n with b|b
   .exact .inl ⟨k,h1,b,a⟩
   .have:k=n:=I
    subst this
    right
    rw[if_pos a,h1];simp
theorem um(f:Nat->ag):∀n,(ff f n).Pairwise λa b=>a<b
 |0=>List.Pairwise.nil
 |n+1=>by
  rw[ff]
  refine m0.2 ⟨um f n,by split<;>simp,λa d b c=>?_⟩
  obtain⟨k,h1,e,_⟩:=(uk f n a).1 d
  split at c
  .have:=dV.1 c;omega
  .cases c
theorem Ko{n:Nat}{es:O Nat}(h1:es.Pairwise λa b=>a<b)(c:∀x,x∈es↔x<n/\f x=true):dv es=mO f n:=by
 have g:(es.map λd=>((d:Nat):Int)).Perm (ff f n):=by
  refine(List.perm_ext_iff_of_nodup ?_ ?_).2 λx=>?_
  .exact List.Pairwise.map _ (λa b i=>by show((a:Nat):Int)≠((b:Nat):Int);omega) h1
  .exact(um f n).imp λh=>by omega
  .rw[uk,df]
   constructor
   .rintro⟨k,e,rfl⟩
    exact⟨k,rfl,(c k).1 e⟩
   .rintro⟨k,rfl,e⟩
    exact⟨k,(c k).2 e,rfl⟩
 have he:(es.map λd=>((d:Nat):Int))=ff f n:=by
  refine g.eq_of_pairwise (le:=λx y=>x<=y) (λx y _ _ h1 c=>I) ?_ ((um f n).imp λh=>I);exact List.Pairwise.map _ (λa b i=>by show((a:Nat):Int)<=((b:Nat):Int);omega) h1
 rw[zY,he];rfl
section
variable {w0 w w':J}{g7 mb:Nat}{T aq:aN}{r h k:Nat}{pages:O Nat}{L hA:O aY}{ms:U}
theorem ED{s:U}(h:n2 aj w 5 s):∃l:O UInt8,Src 1 w s (aC l):=by
 obtain⟨l,h1,_,_⟩:=h.src (c:=λc:UInt8=> [Value.int .u8 (c.toNat:Int)]) (sz:=1) U3 (λ_=>True) λfuel us b=>by
  obtain⟨n,rfl,d,f⟩:=n3 b (k:=.u8) U3;have i:=Gm d f;refine⟨UInt8.ofNat n.toNat,?_,trivial⟩;simp only[UInt8.toNat_ofNat']
  congr 2
  omega
 have e:∀l:O UInt8,(l.map λc:UInt8=> [Value.int .u8 (c.toNat:Int)]).flatten=aC l:=λl=>by
  unfold aC
  induction l with
  |nil=>rfl
  |cons a l g=>rw[iX,uG,g];rfl
 rw[e]at h1;exact⟨l,h1⟩
end
theorem Kp{n:Nat}{a:Nat}(b:n=a)(h:(decide ((i:Int)<(n:Int))&&decide ((i:Int)<(m:Int)))=true):i<a/\i<m:=by
 rw[dM,cq,cq]at h;omega
theorem hM(h:i<=1000000):IntKind.wrap .i64 ((i:Int)+1)=((i+1:Nat):Int):=by rw[bl I I];omega
section
variable {w0 w w':J}{g7 mb:Nat}{T aq:aN}{r h k c:Nat}{pages bc:O Nat}{L hA bH:O aY}{V:Nat->bY}{ms l:U}
end
theorem Ay:∀ {a b:O Nat},a.Nodup->(∀x∈a,x∈b)->a.length<=b.length
 | [],_,_,_=>cw _
 |x::a,b,d,hs=>by
  obtain⟨h1,f⟩:=qv.1 d
  have hx:=hs x U9
  have:=Ay (a:=a) (b:=b.erase x) f λy c=>(List.mem_erase_of_ne (λe=>h1 (by rw[←e];exact c))).2 (hs y (jv _ c))
  rw[List.length_erase_of_mem hx]at this
  have:=List.length_pos_of_mem hx
  rw[eE];omega
structure cr where
 kH:Int
 s1:Int
 hK:Int
 ao:Int
 dK:Int
 pages:Int
 keys:Int
 lost:Int
 e3:Int
 bad:Int
 deriving DecidableEq
def cr.c(a:cr):O Y:=[a.kH,a.s1,.int .u64 a.hK,.int .u64 a.ao,a.dK,a.pages,a.keys,a.lost,a.e3,a.bad]
def oU(a:cr)(ss:U)(m:Nat)(gs:U):O Y:=a.c++ [.slice ss.a ss.len ss.cap,.map (some m),.slice gs.a gs.len gs.cap]
def inc(n:Int):Int:=IntKind.wrap .i64 (n+1)
structure eN(w:J)(lb:Nat)(a:cr)(ss:U)(m:Nat)(gs:U)(secs:O bY)(seen bd:O Nat):Prop where
 v:Var w lb (oU a ss m gs) 158
 s:bo (λq=>q≠lb/\q≠m/\¬ar gs q) w ss secs
 mp:dd w m encZ (seen.map λx=>(((x:Nat):Int),Value.bool true))
 g:aL 1 3 w gs (dv bd)
 ne:m≠lb/\¬ar gs lb/\¬ar gs m
 len:∀l∈secs,l.length=256
 n:16<=secs.length/\secs.length<=1600
 fJ:bd.length<=1600
 jk:bd.Nodup/\(∀x∈bd,x∈seen)/\∀x∈seen,x<secs.length
theorem Kq{ys:O Int}{n:Nat}(h1:ys.Pairwise λa b=>a<b)(c:∀x,x∈ys↔∃k:Nat,x=(k:Int)/\k<n/\f k=true):ys=ff f n:=by
 have d:ys.Perm (ff f n):=by
  refine(List.perm_ext_iff_of_nodup ?_ ?_).2 λx=>?_
  .exact h1.imp λh=>by omega
  .exact(um f n).imp λh=>by omega
  .rw[uk,c]
 exact d.eq_of_pairwise (le:=λa b=>a<b) (λa b _ _ h1 c=>I) h1 (um f n)
def jl(no:Nat)(bd:O Nat)(i:Nat):ag:=decide (i=no)||decide (i∈bd)||decide (i<2)
def e4(b:O UInt8):O Int:=b.map λc=>(c.toNat:Int)
instance Mg(ns:O Int)(n:Nat):Decidable (iv ns n):=
 decidable_of_iff (ns.length=(n+7)/8/\∀i,i<8*ns.length->n<=i->bitsOf ns i=false) ⟨λh=>⟨h.1,λi hi=>by
  rcases dA i (8*ns.length) with h1|h1
  .exact h.2 i h1 hi
  .exact tZ ns i h1⟩,λh=>⟨h.1,λi _ hi=>h.2 i hi⟩⟩
def jH(secs:O bY)(bd:O Nat)(no:Nat)(a:cr):cr:=
 match cG no (secs.getD no []) with
 | .error _=>{a with bad:=inc a.bad}
 | .ok p=>if p.kind=4/\iv (e4 p.body) secs.length then
     {a with e3:=(((ff (jl no bd) secs.length).filter λi=> !(bitsOf (e4 p.body) i.toNat)).length:Nat),
              lost:=(((ff (bitsOf (e4 p.body)) secs.length).length:Nat):Int)-((((ff (jl no bd) secs.length).length:Nat):Int)-(((ff (jl no bd) secs.length).filter λi=> !(bitsOf (e4 p.body) i.toNat)).length:Nat))}
   else {a with bad:=inc a.bad}
section
variable {w w':J}{lb m:Nat}{a:cr}{ss gs:U}{secs:O bY}{seen bd:O Nat}
theorem eN.cell(h:eN w lb a ss m gs secs seen bd):w.cell? (Addr.add ⟨lb,0,none⟩ 10)=some (.slice ss.a ss.len ss.cap)/\w.cell? (Addr.add ⟨lb,0,none⟩ 11)=some (.map (some m))/\w.cell? (Addr.add ⟨lb,0,none⟩ 12)=some (.slice gs.a gs.len gs.cap)/\
 w.cell? (Addr.add ⟨lb,0,none⟩ 5)=some (.int .i64 a.pages)/\w.cell? (Addr.add ⟨lb,0,none⟩ 6)=some (.int .i64 a.keys)/\w.cell? (Addr.add ⟨lb,0,none⟩ 8)=some (.int .i64 a.e3)/\w.cell? (Addr.add ⟨lb,0,none⟩ 9)=some (.int .i64 a.bad):=by
 simp only[aw];exact⟨h.v.cell,h.v.cell,h.v.cell,h.v.cell,h.v.cell,h.v.cell,h.v.cell⟩
theorem eN.lt(h:eN w lb a ss m gs secs seen bd):lb<w/\m<w/\∀q,ar gs q->q<w:=⟨h.v.lt,h.mp.lt,h.g.lt⟩
theorem eN.jm(h:eN w lb a ss m gs secs seen bd)(hc:aa W w w')(cz:∀q,q<w.heap.size->¬W q):eN w' lb a ss m gs secs seen bd:=by
 have hx:Ext w w':=cn (aa.refl _ _) hc λq b c=>cz q b c;exact⟨h.v.ext hx,bo.ext h.s hx,h.mp.ab hx id,h.g.ext hx,h.ne,h.len,h.n,h.fJ,h.jk⟩
theorem eN.put(h:eN w lb a ss m gs secs seen bd){j:Nat}{a':cr}{v:Y}(f:j<10)(k:a'.c=a.c.set j v):(∃u:Y,w.cell? (Addr.add ⟨lb,0,none⟩ j)=some u)/\w.frozen? (Addr.add ⟨lb,0,none⟩ j)=false/\
 eN (w.setCell (Addr.add ⟨lb,0,none⟩ j) v) lb a' ss m gs secs seen bd/\aa (λq=>q=lb) w (w.setCell (Addr.add ⟨lb,0,none⟩ j) v):=by
 rw[aw,cT];have d:a.c.length=10:=rfl;obtain⟨bJ,b4⟩:=dT h.v (i:=j) (by unfold oU;rw[b6,d];simp;omega);have hc:=dz w lb j v;refine⟨bJ,b4,⟨?_,bo.ab h.s hc λq b e=>b.1 e,h.mp.ab hc (λe=>h.ne.1 e),h.g.ab hc λq b e=>h.ne.2.1 (e▸b),h.ne,h.len,h.n,h.fJ,h.jk⟩,hc⟩;have h1:=ei h.v (i:=j) v;unfold oU at h1⊢;rw[List.set_append_left _ _ (d▸f),←k]at h1;exact h1
theorem eN.Az(h:eN w lb a ss m gs secs seen bd)(d:k<secs.length)(f:k∉seen):
 ∃w1:J,(Instr.mapUpdate 156 (.map (some m)) (.int .i64 ((k:Nat):Int)) (.bool true)).run aj w=.ok () w1/\eN w1 lb a ss m gs secs (k::seen) bd/\aa (λq=>q=m) w w1:=by
 have i:Tryz.prog.underlying 156=some (.map 3 4):=by kernel_rfl
 obtain⟨w1,h1,b,o,j⟩:=zQ kh i h.mp (k:=((k:Nat):Int)) (λv l=>by
  obtain⟨x,hx,e⟩:=df.1 l;have:((x:Nat):Int)=((k:Nat):Int):=congrArg Prod.fst e;have:x=k:=I
  exact f (this▸hx)) (.bool true)
 exact⟨w1,h1,⟨h.v.ab b λe=>h.ne.1 e.symm,bo.ab h.s b λq c e=>c.2.1 e,j,h.g.ab b λq c e=>h.ne.2.2 (e▸c),h.ne,h.len,h.n,h.fJ,h.jk.1,λx hx=>jv _ (h.jk.2.1 x hx),λx hx=>by
  rcases cN.1 hx with rfl|hx
  .exact d
  .exact h.jk.2.2 x hx⟩,b⟩
theorem eN.Kr(h:eN w lb a ss m gs secs seen bd)(k:Nat):(Instr.lookup 156 (.map (some m)) (.int .i64 ((k:Nat):Int)) false).run aj w=.ok (.bool (decide (k∈seen))) w:=by
 have c:Tryz.prog.underlying 156=some (.map 3 4):=by kernel_rfl
 by_cases b:k∈seen
 .have:=h.mp.qT kh c (k:=((k:Nat):Int)) (v:=.bool true) (df.2 ⟨k,b,rfl⟩) false
  rw[dm b];exact this
 .obtain⟨g,h1,d⟩:=p1 (P:=aj) (T:=4) (z:=.bool false) U3
  have:=h.mp.ta kh c (k:=((k:Nat):Int)) h1 d (λv f=>by
   obtain⟨x,hx,e⟩:=df.1 f;have:((x:Nat):Int)=((k:Nat):Int):=congrArg Prod.fst e;have:x=k:=I
   exact b (this▸hx)) false
  rw[ib b];exact this
theorem eN.Ks(h:eN w lb a ss m gs secs seen bd)(t:k∈seen)(z:k∉bd):
 ∃ (g':U) (w1:J),Sem.run aj (Builtin.append_ #[72,72] 72 #[.slice gs.a gs.len gs.cap,.slice (some ⟨w,0,none⟩) 1 1]) (w.alloc (.cells #[.int .i64 ((k:Nat):Int)] 3))=.ok (.slice g'.a g'.len g'.cap) w1/\
  (∃u:Y,w1.cell? (Addr.add ⟨lb,0,none⟩ 12)=some u)/\w1.frozen? (Addr.add ⟨lb,0,none⟩ 12)=false/\
  eN (w1.setCell (Addr.add ⟨lb,0,none⟩ 12) (.slice g'.a g'.len g'.cap)) lb a ss m g' secs seen (bd++ [k])/\aa (λq=>q=lb\/ar gs q) w (w1.setCell (Addr.add ⟨lb,0,none⟩ 12) (.slice g'.a g'.len g'.cap))/\∀q,ar g' q->ar gs q\/w<=q:=by
 have E:gs.len=bd.length:=by have:=h.g.1;rw[mK]at this;omega
 have F:=h.fJ;have aB:=h.lt;obtain⟨g',w1,ao,C,G,j,l⟩:=mL.push (c7:=72) (w:=w) (xs:=[.int .i64 ((k:Nat):Int)]) rfl h.g (λv D=>by rw[dV.1 D];trivial) I;have A:=h.v.ab j h.ne.2.1;rw[aw,cT];obtain⟨bJ,b4⟩:=dT A (i:=12) (by unfold oU cr.c;simp);have hc:=dz w1 lb 12 (.slice g'.a g'.len g'.cap);have B:¬ar g' lb/\¬ar g' m:=⟨λd=>by
  rcases l lb d with h1|h1
  .exact h.ne.2.1 h1
  .omega,λd=>by
  rcases l m d with h1|h1
  .exact h.ne.2.2 h1
  .omega⟩
 refine⟨g',w1,ao,bJ,b4,⟨?_,?_,?_,?_,⟨h.ne.1,B⟩,h.len,h.n,?_,?_,λx hx=>?_,h.jk.2.2⟩,?_,l⟩
 .have h1:=ei A (i:=12) (.slice g'.a g'.len g'.cap)
  exact h1
 .have h1:bo (λq=>q<w/\q≠lb/\q≠m/\¬ar gs q) w ss secs:=bo.bh h.s λq d f=>⟨d,f⟩
  refine bo.bh (bo.ab (bo.ab h1 j λq d p=>d.2.2.2 p) hc λq d e=>d.2.1 e) λq _ f=>⟨f.2.1,f.2.2.1,λp=>?_⟩;rcases l q p with o|o
  .exact f.2.2.2 o
  .have:=f.1;omega
 .exact(h.mp.ab j h.ne.2.2).ab hc h.ne.1
 .have h1:=C.ab hc λq d e=>B.1 (e▸d)
  have e:dv (bd++ [k])=dv bd++ [.int .i64 ((k:Nat):Int)]:=by simp[dv]
  rw[e];exact h1
 .have h1:(bd++ [k]).Nodup:=by
   rw[nO];exact⟨h.jk.1,by simp,λx hx y r e=>z (by rw[dV.1 r]at e;rw[←e];exact hx)⟩
  have o:=Ay h1 (b:=List.range secs.length) λx hx=>by
   rw[iV];rcases cE.1 hx with hx|hx
   .exact h.jk.2.2 x (h.jk.2.1 x hx)
   .rw[dV.1 hx];exact h.jk.2.2 k t
  rw[qy]at o;have:=h.n;omega
 .rw[nO]
  exact⟨h.jk.1,by simp,λx hx y r e=>z (by rw[dV.1 r]at e;rw[←e];exact hx)⟩
 .rcases cE.1 hx with hx|hx
  .exact h.jk.2.1 x hx
  .rw[dV.1 hx];exact t
 .exact cn (j.mono λq _ h=>.inr h) hc λq _ e=>.inl e
end
section
variable {w w':J}{lb m:Nat}{a:cr}{ss gs:U}{secs:O bY}{seen bd:O Nat}
theorem EE(b:O UInt8):aC b=(e4 b).map (.int .u8):=by
 unfold aC e4;rw[g2];rfl
theorem EF(b:O UInt8):∀n∈e4 b,(0:Int)<=n/\n<=255:=by
 intro n a;obtain⟨c,_,rfl⟩:=df.1 a;have:=m4 c;omega
theorem Kt(l:O Nat):dv l=(l.map λd=>((d:Nat):Int)).map encZ:=by
 unfold dv;rw[g2];rfl
theorem x3{no:Int}{p:h4}(h:cG no l=.ok p):p.body.length<=232:=by
 unfold cG at h
 repeat' split at h
 all_goals first|cases h|skip
 rename_i h1 c d e b f;have g:ct l 6 2<=232:=by
  rcases dA 232 (ct l 6 2) with a|a
  .exact absurd (.inr (.inl a)) b
  .exact a
 show((l.drop 24).take (ct l 6 2)).length<=232;rw[cQ];omega
theorem EG(h:eN w lb a ss m gs secs seen bd)(T:no<secs.length)(hg:∀x∈bd,x<secs.length)(av:a.e3=0):
 aI aj 78 #[.pointer (some ⟨lb,0,none⟩),.int .i64 ((no:Nat):Int)] w (λv w'=>v=.tuple #[]/\eN w' lb (jH secs bd no a) ss m gs secs seen bd/\aa (λq=>q=lb) w w'):=by
 have cH:=h.n;have aB:=h.lt;have cI:=h.fJ;have cJ:(secs[no]).length=256:=h.len _ (cg T);have V:secs.getD no []=secs[no]:=c8 T;refine ad.GV _ ((no:Nat):Int) w _ ?_;(delta ad.tr aE aJ aQ aO aV jR z4 bf ae aF b1 c2 dC gR af r1 st ai ap jd e6 bU cW bR gI;dsimp only);obtain⟨bp,cK,cL,_⟩:=h.cell;obtain⟨A,t,ak,bq,hc,ht,_⟩:=bo.at h.s T;refine⟨_,rfl,ss,bp,A,ak,bq,t,hc,(mG ht.1 ht.2.1 I ((no:Nat):Int)).use ?_⟩;rintro br M ⟨W,X⟩
 have ay:∀E:J,Ext w E->jH secs bd no a={a with bad:=inc a.bad}->∃a3:ax,(some ⟨lb,0,none⟩:an ax)=some a3/\∃n27:Int,E.cell? (a3.add 9)=some (.int .i64 n27)/\
  ∃Z:ax,(some ⟨lb,0,none⟩:an ax)=some Z/\(∃u:Y,E.cell? (Z.add 9)=some u)/\E.frozen? (Z.add 9)=false/\au (E.setCell (Z.add 9) (.int .i64 (IntKind.wrap .i64 (n27+1)))) λa4=>
  (Value.tuple #[]=.tuple #[]/\eN a4 lb (jH secs bd no a) ss m gs secs seen bd/\aa (λq=>q=lb) w a4):=by
  intro E hx e;have a5:=h.jm hx λ_ _ h=>h;obtain⟨_,_,_,_,_,_,bs⟩:=a5.cell;obtain⟨bm,bt,F,C⟩:=a5.put (j:=9) (a':={a with bad:=inc a.bad}) (v:=.int .i64 (inc a.bad)) (by decide) rfl;refine⟨_,rfl,a.bad,bs,_,rfl,bm,bt,aH ⟨rfl,?_,cn (hx.mono λ_ _ h=>h.elim) C λq _ e=>e⟩⟩;rw[e];exact F
 have a6:∀ (k g:Int) (s:U) (K:U2),(∀o,Var o M [.int .i64 k,.int .u64 g,.slice s.a s.len s.cap] 137->Ext M o->K o)->au (M.alloc (.cells #[.int .i64 0,.int .u64 0,.slice none 0 0] 137)) λaz=>
  c5 az ⟨M,0,none⟩ [.int .i64 k,.int .u64 g,.slice s.a s.len s.cap]/\(3:Nat)=3/\au (setCells az ⟨M,0,none⟩ 0 [.int .i64 k,.int .u64 g,.slice s.a s.len s.cap]) K:=by
  intro k g s K bu;refine bg (vs:=[.int .i64 0,.int .u64 0,.slice none 0 0]) rfl λaz a7 bv cM=>⟨a7.cF rfl (λv r=>?_),rfl,c6 a7 (us:=[.int .i64 k,.int .u64 g,.slice s.a s.len s.cap]) rfl rfl λo G bw cO=>bu o G (Ext.bQ bv bw (a_ _))⟩;simp only[cN,er,ez]at r;rcases r with rfl|rfl|rfl<;>trivial
 cases y:cG ((no:Nat):Int) secs[no] with
 |error e=>
  rw[y]at W;have bx:=oK y;have aA:jH secs bd no a={a with bad:=inc a.bad}:=by unfold jH;rw[V,y]
  obtain rfl:br=_:=W;refine⟨0,0,⟨none,0,0⟩,e,rfl,a6 _ _ _ _ λo G H=>aH ⟨λ_=>False,id,⟨none,0,0⟩,?_,_,rfl,id,ss,?_,?_⟩⟩
  .rw[aw];exact(G.ext (cc o)).cell
  .exact(h.jm (Ext.trans (Ext.trans X H) (cc o)) λ_ _ h=>h).cell.1
  have N:=Ext.trans (Ext.trans X H) (cc o);refine(ot (s:=⟨none,0,0⟩) (ns:=[]) (aL.none 1 5 o.drew).src (λn P=>(by cases P)) U9 ((ss.len:Nat):Int)).use ?_;rintro a8 c ⟨z,bz⟩;have bC:∃ (aC:an ax) (n21:Int),a8=.tuple #[.pointer aC,.int .i64 n21]:=by
   rcases bz with ⟨_,r⟩|⟨_,_,_,r⟩|⟨_,_,_,b,s1,s2,r,_⟩
   .exact⟨_,_,r⟩
   .exact⟨_,_,r⟩
   .exact⟨_,_,r⟩
  obtain⟨aC,n21,rfl⟩:=bC;refine⟨aC,n21,rfl,z,cx (λb w'=>b=true/\c=w') (λq l=>⟨λ_=>l _ _ ⟨rfl,rfl⟩,λhf=>?_⟩) ?_⟩
  .have:(e !=0)=true:=by simpa using bx
   rw[this]at hf;cases hf
  .rintro _ _ ⟨rfl,rfl⟩
   exact⟨λ_=>ay c (Ext.trans N z) aA,nofun⟩
 |ok p=>
  rw[y]at W;obtain⟨sb,rfl,bD,cP⟩:=W;have bE:ss.len=secs.length:=bo.len h.s;have cR:=x3 y;refine⟨_,_,sb,0,rfl,a6 _ _ _ _ λo G H=>aH ⟨λ_=>False,id,sb,?_,_,rfl,id,ss,?_,?_⟩⟩
  .rw[aw];exact(G.ext (cc o)).cell
  .exact(h.jm (Ext.trans (Ext.trans X H) (cc o)) λ_ _ h=>h).cell.1
  have aD:=cc o;have N:=Ext.trans (Ext.trans X H) aD;have a9:=bD.src.ext (Ext.trans H aD);rw[EE]at a9;rw[bE];refine(ot a9 (EF _) (by unfold e4;rw[cV];omega) ((secs.length:Nat):Int)).use ?_;rintro a8 c ⟨z,⟨bF,_⟩|⟨_,_,ba,rfl⟩|⟨_,_,bb,b,s1,s2,rfl,fp,bG⟩⟩
  .exact absurd ⟨I,I⟩ bF
  .rw[cS]at ba
   refine⟨none,4,rfl,z,cx (λb w'=>b=true/\c=w') (λq l=>⟨λ_=>l _ _ ⟨rfl,rfl⟩,nofun⟩) ?_⟩;rintro _ _ ⟨rfl,rfl⟩;refine⟨λ_=>ay c (Ext.trans N z) ?_,nofun⟩;unfold jH;rw[V,y];exact if_neg λQ=>ba Q.2
  rw[cS]at bb fp;have ac:=Ext.trans N z;have bH:=(G.ext aD).ext z;refine⟨some ⟨b,0,none⟩,0,rfl,z,cx (λb w'=>b=decide (p.kind≠4)/\c=w') (λq l=>⟨nofun,λ_=>⟨_,bH.cell,l _ _ ⟨?_,rfl⟩⟩⟩) ?_⟩
  .rw[ek,bne_iff_ne,cq];omega
  rintro _ _ ⟨rfl,rfl⟩;refine⟨λD=>ay c ac ?_,λD=>?_⟩
  .have D:=bB D
   unfold jH;rw[V,y];exact if_neg λQ=>D Q.1
  have bI:p.kind=4:=nQ λQ=>by rw[dm Q]at D;cases D
  obtain⟨f,hf⟩:=U6 (bitsOf (e4 p.body));obtain⟨own,ag⟩:=U6 (ff (jl no bd) secs.length);have aA:jH secs bd no a={a with e3:=((own.filter λi=> !(f i.toNat)).length:Nat),lost:=(((ff f secs.length).length:Nat):Int)-(((own.length:Nat):Int)-((own.filter λi=> !(f i.toNat)).length:Nat))}:=by
   unfold jH;rw[V,y,ag,hf];exact if_pos ⟨bI,bb⟩
  rw[aA];rw[←hf]at fp;have bc:=h.jm ac λ_ _ h=>h;have cT:=ac.size
  have aG:Ext c (c.alloc (.cells #[.int .i64 ((no:Nat):Int)] 3)):=dc _ _;have be:=bc.jm aG λ_ _ h=>h;have bJ:aL 1 3 (c.alloc (.cells #[.int .i64 ((no:Nat):Int)] 3)) ⟨some ⟨c,0,none⟩,1,1⟩ [.int .i64 ((no:Nat):Int)]:=aL.new c [.int .i64 ((no:Nat):Int)] 1 rfl (by decide);have cX:gs.len=bd.length:=by have:=h.g.1;rw[mK]at this;omega
  obtain⟨bK,bh,r1,bA,aJ,c0,aW⟩:=mL.append (c7:=72) be.g.src bJ (xC bd) (by show(2*(1+gs.len)+1000)*8<=_;omega);have bi:∀q,ar (⟨some ⟨c,0,none⟩,1,1⟩:U) q->c<=q:=λq l=>by
   obtain⟨A,ak,rfl⟩:=l
   cases ak;exact a_ _
  have bL:Ext c bh:=Ext.dH aG c0 bi;refine aH ⟨_,rfl,gs,be.cell.2.2.1,bK,bh,r1,λs n w'=>∃k:Nat,n=(k:Int)/\k<=2/\aL 1 3 w' s (((((no:Nat):Int)::bd.map λd=>((d:Nat):Int))++([0,1]:O Int).take k).map encZ)/\Ext c w'/\∀q,ar s q->c<=q,
   λ_ n _=>((2:Int)-n).toNat,⟨0,rfl,by decide,?_,bL,λq l=>?_⟩,?_⟩
  .rw[sB,fO,iX,←Kt]
   exact bA
  .rcases aW q l with h1|h1
   .exact bi q h1
   .have:=aG.size;omega
  rintro bM _ bN ⟨k,rfl,cY,aK,aM,R⟩;refine⟨λbO=>?_,λbP=>?_⟩
  .have cZ:k<2:=by
    have:((k:Nat):Int)<2:=bB bO;omega
   have c1:bM.len<=bd.length+3:=by
    have:=aK.1;simp only[cV,b6,eE,cQ,ic]at this;omega
   obtain⟨bS,bV,gA,bW,c3,bX,bY⟩:=mL.push (c7:=72) (w:=bN) (xs:=[encZ ((k:Nat):Int)]) rfl aK (λv r=>by rw[dV.1 r];trivial) I;have aN:IntKind.wrap .i64 (((k:Nat):Int)+1)=((k+1:Nat):Int):=by rw[bl I I];omega
   rw[aN];refine aH ⟨bS,bV,gA,⟨k+1,rfl,I,?_,Ext.dH aM bX R,λq l=>?_⟩,by show((2:Int)-((k+1:Nat):Int)).toNat<((2:Int)-((k:Nat):Int)).toNat;omega⟩
   .have e:([0,1]:O Int).take (k+1)=([0,1]:O Int).take k++ [((k:Nat):Int)]:=by
     have bZ:k=0\/k=1:=by omega
     rcases bZ with rfl|rfl<;>rfl
    rw[e,←cU,eU];exact bW
   .rcases bY q l with h1|h1
    .exact R q h1
    .have:=aM.size;omega
  have b0:k=2:=by
   have:¬((k:Nat):Int)<2:=bT bP;omega
  subst b0;have c4:(((((no:Nat):Int)::bd.map λd=>((d:Nat):Int))++([0,1]:O Int).take 2)).length<=2000:=by simp;omega
  refine(zZ aK I).use ?_;rintro _ c9 ⟨rfl,b2,ys,b3,bj,b4⟩;refine⟨rfl,(IH b3 b4 (by have:=bj.length_eq;omega)).use ?_⟩;rintro _ b5 ⟨B,zs,rfl,aP,b7,b8,b9,b_⟩;have aR:Ext c b5:=Ext.dH (Ext.dH aM b2 R) b9 R;have ca:zs=own:=by
   rw[ag];refine Kq b7 λx=>?_;rw[b8,bj.mem_iff];unfold jl;simp only[o0,cN,cE,df,List.take,er,ez,fC,cq];constructor
   .rintro(rfl|⟨d,hd,rfl⟩|rfl|rfl)
    .exact⟨no,rfl,T,.inl (.inl rfl)⟩
    .exact⟨d,rfl,hg d hd,.inl (.inr hd)⟩
    .exact⟨0,rfl,I,.inr I⟩
    .exact⟨1,rfl,I,.inr I⟩
   .rintro⟨d,rfl,hd,(rfl|aS)|aS⟩
    .exact .inl rfl
    .exact .inr (.inl ⟨d,aS,rfl⟩)
    .have cb:d=0\/d=1:=by omega
     rcases cb with rfl|rfl
     .exact .inr (.inr (.inl rfl))
     .exact .inr (.inr (.inr rfl))
  rw[ca]at aP;have c_:own.length<=1600:=by rw[ag];have:=xS (jl no bd) secs.length;omega
  have cd:B.len=own.length:=by have:=aP.1;rw[cV]at this;omega
  have ce:∀q,ar B q->q≠lb:=λq l e=>by
   have:=R q ((b_ q).1 l);have:=aB.1;omega
  have cf:∀q,eH b s1 s2 q->q≠lb:=λq l e=>by
   have:=bG q l;have:=N.size;have:=aB.1;omega
  refine⟨B,rfl,λn w'=>∃ (k:Nat) (a':cr),n=(k:Int)/\k<=own.length/\a'={a with e3:=(((own.take k).filter λi=> !(f i.toNat)).length:Nat)}/\eN w' lb a' ss m gs secs seen bd/\aL 1 3 w' B (own.map encZ)/\e1 w' b secs.length f f s1 s2/\aa (λq=>q=lb) c w',
   λn _=>((own.length:Int)-n).toNat,⟨0,a,rfl,cw _,?_,bc.jm aR λ_ _ h=>h,aP,fp.ext aR,aR.mono λ_ _ h=>h.elim⟩,?_⟩
  .cases a
   have av:_=_:=av;subst av;rfl
  rintro _ ch ⟨k,a',rfl,D,L,ah,aT,al,am⟩;have da:=am.size;refine⟨λci=>?_,λcj=>?_⟩
  .have aU:k<own.length:=by
    have:((k:Nat):Int)<((B.len:Nat):Int):=bB ci;omega
   have aN:IntKind.wrap .i64 (((k:Nat):Int)+1)=((k+1:Nat):Int):=by rw[bl I I];omega
   have ck:own[k]∈ff (jl no bd) secs.length:=by rw[←ag];exact cg aU
   obtain⟨d,bk,aS,_⟩:=(uk _ _ _).1 ck;obtain⟨A,ak,cl,cm⟩:=aT.src.at (i:=k) (v:=encZ own[k]) (by rw[ko,dB aU];rfl);have aq:(own.take (k+1)).filter (λi=> !(f i.toNat))=(own.take k).filter (λi=> !(f i.toNat))++(if f d then [] else [own[k]]):=by
    rw[gv aU,lR,uM,List.filter_nil];rw[bk,cS]
    cases f d<;>rfl
   have co:=nU (λi:Int=> !(f i.toNat)) (own.take k);rw[cQ]at co;refine jQ (λS=>∃a2:cr,a2={a with e3:=(((own.take (k+1)).filter λi=> !(f i.toNat)).length:Nat)}/\eN S lb a2 ss m gs secs seen bd/\aL 1 3 S B (own.map encZ)/\e1 S b secs.length f f s1 s2/\aa (λq=>q=lb) c S) (λq l=>⟨A,ak,cl,own[k],cm,(DK al own[k]).use ?_⟩) ?_
   .rintro _ _ ⟨rfl,rfl⟩
    have cp:(decide (0<=own[k])&&decide (own[k]<((secs.length:Nat):Int))&&f (own[k]).toNat)=f d:=by
     rw[bk,cS,dm I,dm I];rfl
    rw[cp];refine⟨f d,rfl,λP=>?_,λP=>?_⟩
    .have aX:f d=false:=by simpa using P
     rw[aX]at aq;obtain⟨_,_,_,_,_,aY,_⟩:=ah.cell;have cs:IntKind.wrap .i64 (a'.e3+1)=(((own.take (k+1)).filter λi=> !(f i.toNat)).length:Nat):=by
      rw[aq,L];show IntKind.wrap .i64 ((((own.take k).filter λi=> !(f i.toNat)).length:Nat)+1)=_;rw[bl I I];simp
     obtain⟨bm,bt,F,C⟩:=ah.put (j:=8) (a':={a' with e3:=IntKind.wrap .i64 (a'.e3+1)}) (v:=.int .i64 (IntKind.wrap .i64 (a'.e3+1))) (by decide) rfl;refine⟨_,rfl,a'.e3,aY,_,rfl,bm,bt,aH (l _ ⟨_,?_,F,aT.ab C ce,al.ab C cf,cn am C λq _ e=>e⟩)⟩;rw[cs,L]
    .have aX:f d=true:=by simpa using P
     rw[aX]at aq;refine l _ ⟨a',?_,ah,aT,al,am⟩;rw[L,aq];simp
   .rintro S ⟨a2,ao,ct,cu,cv,cy⟩
    rw[aN];exact⟨⟨k+1,a2,rfl,I,ao,ct,cu,cv,cy⟩,by show((own.length:Int)-((k+1:Nat):Int)).toNat<((own.length:Int)-((k:Nat):Int)).toNat;omega⟩
  .have cz:k=own.length:=by
    have:¬((k:Nat):Int)<((B.len:Nat):Int):=bT cj;omega
   rw[cz,gD]at L;have aZ:=cc ch;have bn:=ah.jm aZ λ_ _ h=>h;obtain⟨_,_,_,_,_,aY,_⟩:=bn.cell;refine aH ⟨λ_=>False,_,rfl,id,a'.e3,aY,(DP (al.ext aZ)).use ?_⟩;rintro _ db ⟨a0,rfl,cA,a1,_⟩;have cB:=bn.jm a1 λ_ _ h=>h;have cC:a0.len=(ff f secs.length).length:=by
    have:=cA.1;unfold mO at this;rw[cV]at this;omega
   have dd:=xS f secs.length;have de:=nU (λi:Int=> !(f i.toNat)) own;have ev:IntKind.wrap .i64 (((a0.len:Nat):Int)-(IntKind.wrap .i64 (((B.len:Nat):Int)-a'.e3)))=(((ff f secs.length).length:Nat):Int)-(((own.length:Nat):Int)-((own.filter λi=> !(f i.toNat)).length:Nat)):=by
    have cD:a'.e3=((own.filter λi=> !(f i.toNat)).length:Nat):=by rw[L]
    rw[cD,cC,cd,bl (n:=((own.length:Nat):Int)-_) I I,bl I I]
   obtain⟨bm,bt,F,C⟩:=cB.put (j:=7) (a':={a' with lost:=(((ff f secs.length).length:Nat):Int)-(((own.length:Nat):Int)-((own.filter λi=> !(f i.toNat)).length:Nat))}) (v:=.int .i64 ((((ff f secs.length).length:Nat):Int)-(((own.length:Nat):Int)-((own.filter λi=> !(f i.toNat)).length:Nat)))) (by decide) rfl;refine⟨a0,rfl,a1,_,rfl,bm,bt,?_⟩;rw[ev];refine aH ⟨rfl,?_,?_⟩
   .rw[L]at F
    exact F
   .refine cn (ac.mono λ_ _ h=>h.elim) (cn am (cn ((Ext.trans aZ a1).mono λ_ _ h=>h.elim) C λq _ e=>e) λq _ e=>e) λq _ e=>e
end
def k9(level:Int):Nat:=if level==1 then 1 else 2
inductive ix (secs:O bY) (no level:Int) (a:cr) (seen bd:O Nat):cr->O Nat->O Nat->O Nat->Prop
 |qa:(∀k:Nat,no=(k:Int)->k<secs.length->k∈seen)->ix secs no level a seen bd {a with bad:=inc a.bad} seen bd []
 |bad (k:Nat):no=(k:Int)->k<secs.length->k∉seen->(∀p n,cG no (secs.getD k [])=.ok p->gX (level==1) p.body n->p.kind≠k9 level)->ix secs no level a seen bd {a with bad:=inc a.bad} (k::seen) bd []
 |ok (k:Nat) (p:h4) (n:aA):no=(k:Int)->k<secs.length->k∉seen->cG no (secs.getD k [])=.ok p->gX (level==1) p.body n->p.kind=k9 level->
  ix secs no level a seen bd {a with pages:=inc a.pages,keys:=if level==1 then IntKind.wrap .i64 (a.keys+(n.keys.length:Nat)) else a.keys} (k::seen) (bd++ [k]) n.kids
section
variable {w w':J}{lb m:Nat}{a:cr}{ss gs:U}{secs:O bY}{seen bd:O Nat}
theorem EH{k g:Int}{s:U}{K:U2}(e:∀a,Var a w [k,.int .u64 g,s] 137->Ext w a->K a):au (w.alloc (.cells #[U8,.int .u64 0,()] 137)) λb=>
 c5 b w [k,.int .u64 g,s]/\(3:Nat)=3/\au (setCells b w 0 [k,.int .u64 g,s]) K:=by
 refine bg (vs:=[U8,.int .u64 0,()]) rfl λb c f j=>⟨c.cF rfl (λv d=>?_),rfl,c6 c (us:=[k,.int .u64 g,s]) rfl rfl λa h i l=>e a h (Ext.bQ f i (a_ _))⟩;simp only[cN,er,ez]at d;rcases d with rfl|rfl|rfl<;>trivial
theorem AA{b:ag}{k v d:U}{K:U2}(g:∀a,Var a w [b,k,v,d] 169->Ext w a->K a):au (w.alloc (.cells #[false,(),(),()] 169)) λc=>
 c5 c w [b,k,v,d]/\(4:Nat)=4/\au (setCells c w 0 [b,k,v,d]) K:=by
 refine bg (vs:=[false,(),(),()]) rfl λc e h l=>⟨e.cF rfl (λv f=>?_),rfl,c6 e (us:=[b,k,v,d]) rfl rfl λa i j m=>g a i (Ext.bQ h j (a_ _))⟩;simp only[cN,er,ez]at f;rcases f with rfl|rfl|rfl|rfl<;>trivial
structure AB(w:J)(lb:Nat)(a:cr)(ss:U)(m:Nat)(gs:U)(secs:O bY)(seen bd:O Nat)(no level:Int)(w':J)(s:U)(a':cr)(b:U)(c d kids:O Nat):Prop where
 r:ix secs no level a seen bd a' c d kids
 at_:eN w' lb a' ss m b secs c d
 kids:cK (λq=>w<=q/\¬ar b q) w' s kids
 ab:aa (λq=>q=lb\/q=m\/ar gs q) w w'
 own:∀q,ar b q->ar gs q\/w<=q
theorem Ku(h:eN w lb a ss m gs secs seen bd)(no level:Int):
 aI aj 151 #[.pointer (some ⟨lb,0,none⟩),.int .i64 no,.int .i64 level] w (λv w'=>∃s a' G H L kids,v=.slice s.a s.len s.cap/\AB w lb a ss m gs secs seen bd no level w' s a' G H L kids):=by
 have bV:=h.n;have aB:=h.lt;have be:ss.len=secs.length:=bo.len h.s;obtain⟨bg,a2,_⟩:=h.cell
 have R:∀ {B:J}{S:O Nat},eN B lb a ss m gs secs S bd->aa (λq=>q=lb\/q=m\/ar gs q) w B->ix secs no level a seen bd {a with bad:=inc a.bad} S bd []->∃a3:ax,(some ⟨lb,0,none⟩:an ax)=some a3/\∃n27:Int,B.cell? (a3.add 9)=some (.int .i64 n27)/\
  ∃T:ax,(some ⟨lb,0,none⟩:an ax)=some T/\(∃u:Y,B.cell? (T.add 9)=some u)/\B.frozen? (T.add 9)=false/\au (B.setCell (T.add 9) (.int .i64 (IntKind.wrap .i64 (n27+1)))) λbi=>
  (∃s a' G H L kids,Value.slice none 0 0=.slice s.a s.len s.cap/\AB w lb a ss m gs secs seen bd no level bi s a' G H L kids):=by
  intro B S a4 bj bk;obtain⟨_,_,_,_,_,_,bl⟩:=a4.cell;obtain⟨bm,bt,bn,bp⟩:=a4.put (j:=9) (a':={a with bad:=inc a.bad}) (v:=.int .i64 (inc a.bad)) (by decide) rfl;exact⟨_,rfl,a.bad,bl,_,rfl,bm,bt,aH ⟨⟨none,0,0⟩,_,gs,S,bd,[],rfl,bk,bn,cK.none _ _,cn bj bp λq _ e=>.inl e,λq c=>.inl c⟩⟩
 refine ad.G6 _ no level w _ ?_;(delta ad.tB af aE aJ r1 st ai aQ aO aV jR z4 bf ae aF av kU z3 ap;dsimp only);refine cx (λb w'=>b= !(decide (0<=no)&&decide (no<(secs.length:Nat)))/\w=w') (λq c=>⟨λhf=>c _ _ ⟨?_,rfl⟩,λhf=>⟨_,rfl,ss,bg,c _ _ ⟨?_,rfl⟩⟩⟩) ?_
 .have:=bB hf
  rw[ib (show¬0<=no from I)];rfl
 .have:=bT hf
  rw[dm (show 0<=no from I),j3,be,ek,cq,ju,fh];omega
 rintro _ _ ⟨rfl,rfl⟩;refine cx (λb w'=>b=(!(decide (0<=no)&&decide (no<(secs.length:Nat)))||decide (no.toNat∈seen))/\w=w') (λq c=>⟨λhf=>c _ _ ⟨by rw[hf];rfl,rfl⟩,λhf=>⟨_,rfl,some m,a2,decide (no.toNat∈seen),w,?_,c _ _ ⟨by rw[hf];rfl,rfl⟩⟩⟩) ?_
 .have bq:decide (0<=no)=true/\decide (no<(secs.length:Nat))=true:=by
   revert hf
   cases decide (0<=no)<;>cases decide (no<(secs.length:Nat))<;>simp
  have h0:=bB bq.1;have e:no=((no.toNat:Nat):Int):=by omega
  have:=h.Kr no.toNat;rw[←e]at this;exact this
 rintro _ _ ⟨rfl,rfl⟩;refine⟨λd=>R h (.refl _ _) (.qa λk o r=>?_),λd=>?_⟩
 .subst o
  rw[cS,dm I,dm I,Bool.and_self,Bool.not_true,lP]at d;exact bB d
 obtain⟨k,rfl,o,W⟩:∃k:Nat,no=(k:Int)/\k<secs.length/\k∉seen:=by
  rw[hV,mv,dM,cq,cq,fh]at d;exact⟨no.toNat,I,I,d.2⟩
 obtain⟨ay,br,M,az⟩:=h.Az o W;have aA:aa (λq=>q=lb\/q=m\/ar gs q) w ay:=az.mono λq _ e=>.inr (.inl e);refine⟨_,rfl,some m,a2,ay,br,cx (λn w'=>n=((k9 level:Nat):Int)/\ay=w') (λq c=>⟨λr=>c _ _ ⟨by unfold k9;rw[r];rfl,rfl⟩,λr=>c _ _ ⟨by unfold k9;rw[r];rfl,rfl⟩⟩) ?_⟩;rintro _ _ ⟨rfl,rfl⟩;obtain⟨A,t,ak,bs,bu,a5,_⟩:=bo.at M.s o;have bW:(secs[k]).length=256:=h.len _ (cg o);have X:secs.getD k []=secs[k]:=c8 o;refine⟨_,rfl,ss,M.cell.1,A,ak,bs,t,bu,(mG a5.1 a5.2.1 I ((k:Nat):Int)).use ?_⟩;rintro bv bX ⟨Z,N⟩;have aC:(∀p n,cG ((k:Nat):Int) (secs.getD k [])=.ok p->gX (level==1) p.body n->p.kind≠k9 level)->ix secs ((k:Nat):Int) level a seen bd {a with bad:=inc a.bad} (k::seen) bd []:=.bad k rfl o W
 cases x:cG ((k:Nat):Int) secs[k] with
 |error e=>
  rw[x]at Z;have bw:=oK x;obtain rfl:bv=_:=Z;refine⟨0,0,⟨none,0,0⟩,e,rfl,EH λaD ac y=>⟨⟨none,0,0⟩,by rw[aw];exact ac.cell,(ou (s:=⟨none,0,0⟩) (l:=[]) (aL.none 1 5 aD).src (a_ _) (λq c=>(gE q c).elim) (by decide) (level==1)).use ?_⟩⟩;rintro a6 aG ⟨cO,E⟩;have P:∃ (b:ag) (K V D:U) (aK:Int),a6=.tuple #[.agg #[.bool b,.slice K.a K.len K.cap,.slice V.a V.len V.cap,.slice D.a D.len D.cap],.int .i64 aK]:=by
   rcases cO with ⟨n,K,V,D,P,_⟩|⟨P,_⟩
   .exact⟨_,K,V,D,_,P⟩
   .exact⟨_,_,_,_,_,P⟩
  obtain⟨b,K,V,D,aK,rfl⟩:=P;refine⟨b,K,V,D,aK,rfl,AA λf ah C=>cx (λb w'=>b=true/\f=w') (λq c=>⟨λ_=>c _ _ ⟨rfl,rfl⟩,λhf=>?_⟩) ?_⟩
  .have:(e !=0)=true:=by simpa using bw
   rw[this]at hf;cases hf
  rintro _ _ ⟨rfl,rfl⟩;have z:=Ext.trans (Ext.trans N y) (Ext.trans E C);exact⟨λ_=>R (M.jm z λ_ _ h=>h) (aA.trans (z.mono λ_ _ h=>h.elim)) (aC λp n h1 _=>by rw[X,x]at h1;cases h1),nofun⟩
 |ok p=>
  rw[x]at Z;obtain⟨sb,rfl,aM,bY⟩:=Z;have bZ:=x3 x;refine⟨_,_,sb,0,rfl,EH λaD ac y=>⟨sb,by rw[aw];exact ac.cell,(ou (aM.src.ext y) aM.2.1 (λq c=>ga (aM.lt q c) y.size) I (level==1)).use ?_⟩⟩;rintro a6 aG ⟨⟨n,K,V,D,rfl,bx,bz⟩|⟨rfl,bC⟩,E⟩
  rotate_left
  .refine⟨_,_,_,_,4,rfl,AA λf ah C=>cx (λb w'=>b=true/\f=w') (λq c=>⟨λ_=>c _ _ ⟨rfl,rfl⟩,nofun⟩) ?_⟩
   rintro _ _ ⟨rfl,rfl⟩;have z:=Ext.trans (Ext.trans N y) (Ext.trans E C);exact⟨λ_=>R (M.jm z λ_ _ h=>h) (aA.trans (z.mono λ_ _ h=>h.elim)) (aC λbD n h1 a7=>by rw[X,x]at h1;cases h1;exact absurd a7 (bC n)),nofun⟩
  refine⟨n.leaf,K,V,D,0,rfl,AA λf ah C=>?_⟩;have z:=Ext.trans (Ext.trans N y) (Ext.trans E C);have bE:=(ac.ext E).ext C;have aN:=M.jm z λ_ _ h=>h;have aP:aa (λq=>q=lb\/q=m\/ar gs q) w f:=aA.trans (z.mono λ_ _ h=>h.elim);refine cx (λb w'=>b=decide (p.kind≠k9 level)/\f=w') (λq c=>⟨nofun,λ_=>⟨_,bE.cell,c _ _ ⟨?_,rfl⟩⟩⟩) ?_
  .rw[ek,bne_iff_ne,cq];omega
  rintro _ _ ⟨rfl,rfl⟩;refine⟨λal=>R aN aP (aC λbD b0 h1 a7=>by rw[X,x]at h1;cases h1;exact bB al),λal=>?_⟩;have bF:p.kind=k9 level:=nQ λaR=>by rw[dm aR]at al;cases al
  have bG:k∉bd:=λaR=>W (h.jk.2.1 k aR);obtain⟨g',a8,r1,bA,aJ,aS,am,bH⟩:=aN.Ks (k:=k) (mo ..) bG;refine⟨_,rfl,gs,aN.cell.2.2.1,aH ⟨g',a8,r1,_,rfl,bA,aJ,aH ?_⟩⟩;generalize a8.setCell (Addr.add ⟨lb,0,none⟩ 12) (.slice g'.a g'.len g'.cap)=aT at aS am;obtain⟨_,_,_,fW,_⟩:=aS.cell;obtain⟨bm,bt,aU,ao⟩:=aS.put (j:=5) (a':={a with pages:=inc a.pages}) (v:=.int .i64 (inc a.pages)) (by decide) rfl;refine⟨_,rfl,a.pages,fW,_,rfl,bm,bt,aH ?_⟩;show aX _ _;have bI:aT.setCell (Addr.add ⟨lb,0,none⟩ 5) (.int .i64 (IntKind.wrap .i64 (a.pages+1)))=aT.setCell (Addr.add ⟨lb,0,none⟩ 5) (.int .i64 (inc a.pages)):=rfl;rw[bI];generalize aT.setCell (Addr.add ⟨lb,0,none⟩ 5) (.int .i64 (inc a.pages))=aW at aU ao;have aq:w.heap.size<=aG.heap.size:=by have:=az.size;have:=N.size;have:=y.size;have:=E.size;omega
  have b1:=ah.lt;have g:∀q,w.heap.size<=q->q≠lb/\¬ar gs q:=λq c=>⟨λe=>by have:=aB.1;omega,λaY=>by have:=aB.2.2 q aY;omega⟩;have bJ:=ah.ab am λe=>by
   rcases e with e|e
   .exact(g _ aq).1 e
   .exact(g _ aq).2 e
  have a9:=bJ.ab ao λe=>(g _ aq).1 e;have bK:∀q,aD.heap.size<=q->w.heap.size<=q:=λq c=>by have:=az.size;have:=N.size;have:=y.size;omega
  have ba:=b2.ext bz C;have bL:cK (λq=>q<f.heap.size/\w.heap.size<=q) f D n.kids:=cK.bh ba.kids λq c d=>⟨c,bK q d⟩;have bM:=cK.ab (cK.ab bL am λq c e=>by
   rcases e with e|e
   .exact(g q c.2).1 e
   .exact(g q c.2).2 e) ao λq c e=>(g q c.2).1 e
  have bb:∀q,ar g' q->ar gs q\/f.heap.size<=q:=bH;have bN:K.len=n.keys.length:=bo.len ba.keys;have b3:w.heap.size<=f.heap.size:=aP.size;have fin:∀ {i:J}{a':cr},eN i lb a' ss m g' secs (k::seen) (bd++ [k])->aa (λq=>q=lb) aW i->a'={a with pages:=inc a.pages,keys:=if level==1 then IntKind.wrap .i64 (a.keys+(n.keys.length:Nat)) else a.keys}->
   ∃F:U,i.cell? (Addr.add ⟨aG.heap.size,0,none⟩ 3)=some (.slice F.a F.len F.cap)/\∃s a' G H L kids,Value.slice F.a F.len F.cap=.slice s.a s.len s.cap/\AB w lb a ss m gs secs seen bd ((k:Nat):Int) level i s a' G H L kids:=by
   intro i a' aZ Q a0;have bO:=a9.ab Q λe=>(g _ aq).1 e;have bP:=cK.ab bM Q λq c e=>(g q c.2).1 e;refine⟨D,(bS bO).2.2.2,D,a',g',k::seen,bd++ [k],n.kids,rfl,?_,aZ,cK.bh bP λq _ d=>⟨d.2,λaY=>?_⟩,?_,λq c=>(bb q c).imp id λh=>I⟩
   .rw[a0]
    exact .ok k p n rfl o W (by rw[X];exact x) bx bF
   .rcases bb q aY with h1|h1
    .exact(g q d.2).2 h1
    .have:=d.1;omega
   .exact((aP.trans (am.mono λq _ e=>e.elim .inl λe=>.inr (.inr e))).trans (ao.mono λq _ e=>.inl e)).trans (Q.mono λq _ e=>.inl e)
  refine jQ (λi=>∃a':cr,eN i lb a' ss m g' secs (k::seen) (bd++ [k])/\aa (λq=>q=lb) aW i/\a'={a with pages:=inc a.pages,keys:=if level==1 then IntKind.wrap .i64 (a.keys+(n.keys.length:Nat)) else a.keys}) (λq c=>⟨λr=>?_,λr=>c _ ⟨_,aU,.refl _ _,by rw[r];rfl⟩⟩) ?_
  .have a1:=cc aW
   have bc:=aU.jm a1 λ_ _ h=>h;obtain⟨_,_,_,_,bQ,_⟩:=bc.cell;obtain⟨bm,bt,bR,bU⟩:=bc.put (j:=6) (a':={a with pages:=inc a.pages,keys:=IntKind.wrap .i64 (a.keys+(n.keys.length:Nat))}) (v:=.int .i64 (IntKind.wrap .i64 (a.keys+(n.keys.length:Nat)))) (by decide) rfl;refine aH ⟨_,rfl,id,a.keys,bQ,id,K,(bS (a9.ext a1)).2.1,_,rfl,bm,bt,?_⟩;rw[bN];exact aH (c _ ⟨_,bR,cn (a1.mono λ_ _ h=>h.elim) bU λq _ e=>e,by rw[r];rfl⟩)
  .rintro i ⟨a',aZ,Q,a0⟩
   exact fin aZ Q a0
end
def fX(sz:Nat)(T:TypeId)(w:J)(s:U)(vs:O Y):Prop:=
 vs.length=s.len*sz/\s.len<=s.cap/\s.cap<=maxLen/\((s.a=none/\s.cap=0)\/∃b o c,s.a=some ⟨b,o,none⟩/\bp w b c T/\o+s.cap*sz<=c.size/\(c.toList.drop o).take (s.len*sz)=vs)
section
variable {sz:Nat}{T:TypeId}{w w':J}{s:U}{vs xs:O Y}
theorem aL.EI(h:aL sz T w s vs):fX sz T w s vs:=by
 obtain⟨h1,a,d,e⟩:=h;refine⟨h1,a,d,e.imp id ?_⟩;rintro⟨b,c,f,g,hc,i⟩;exact⟨b,0,c,f,g,I,by rw[mn];exact i⟩
theorem fX.src(h:fX sz T w s vs):Src sz w s vs:=by
 obtain⟨h1,e,m,f⟩:=h;obtain⟨g,hc⟩|⟨b,o,c,i,j,hc,k⟩:=f
 .have:s.len=0:=I
  rw[this,mj]at h1;exact⟨by rw[h1,this,mj],λ_=>uL h1,λa h=>by rw[g]at h;cases h⟩
 .have l:o+s.len*sz<=c.size:=by
   have:=ml sz e;omega
  have d:=bp.qU (sz:=sz) (o:=o) (n:=s.len) (cap:=s.cap) j l;rw[k,←i]at d;exact d
theorem fX.ab(h:fX sz T w s vs)(hc:aa W w w')(e:∀k,ar s k->¬W k):fX sz T w' s vs:=by
 obtain⟨h1,f,g,a⟩:=h;refine⟨h1,f,g,?_⟩;obtain a|⟨b,o,c,d,i,j,l⟩:=a
 .exact .inl a
 .exact .inr ⟨b,o,c,d,i.ab hc (e b ⟨_,d,rfl⟩),j,l⟩
theorem fX.ext(h:fX sz T w s vs)(hc:Ext w w'):fX sz T w' s vs:=fX.ab h hc λ_ _ h=>h
theorem fX.lt(h:fX sz T w s vs):∀k,ar s k->k<w:=by
 rintro k ⟨A,ak,rfl⟩;obtain⟨_,_,_,a⟩:=h;obtain⟨d,_⟩|⟨b,o,c,e,f,_⟩:=a
 .rw[d]at ak;cases ak
 .rw[e]at ak;cases ak;exact f.lt
theorem fX.tail(h:fX sz T w s vs)(h1:1<=s.len):fX sz T w ⟨bj s.a sz 1 s.cap,s.len-1,s.cap-1⟩ (vs.drop sz)/\∀q,ar ⟨bj s.a sz 1 s.cap,s.len-1,s.cap-1⟩ q->ar s q:=by
 obtain⟨ao,u,v,p⟩:=h;obtain⟨x,hc⟩|⟨b,o,c,f,k,hc,r⟩:=p
 .omega
 have t:s.len*sz=sz+(s.len-1)*sz:=by
  obtain⟨n,g⟩:∃n,s.len=n+1:=⟨s.len-1,I⟩;rw[g,sD,jw,mY,Nat.add_comm]
 have y:s.cap*sz=sz+(s.cap-1)*sz:=by
  obtain⟨n,g⟩:∃n,s.cap=n+1:=⟨s.cap-1,I⟩;rw[g,sD,jw,mY,Nat.add_comm]
 have d:(vs.drop sz).length=(s.len-1)*sz:=by rw[dW,ao];omega
 by_cases l:1=s.cap
 .have i:bj s.a sz 1 s.cap=s.a:=by unfold bj;rw[if_pos l.symm]
  rw[i];refine⟨⟨d,by show s.len-1<=s.cap-1;omega,by show s.cap-1<=_;omega,.inr ⟨b,o,c,f,k,by show o+(s.cap-1)*sz<=_;omega,?_⟩⟩,λq j=>j⟩;have m:s.len-1=0:=I
  show(c.toList.drop o).take ((s.len-1)*sz)=_;rw[m,mj,sB];rw[m,mj]at d;exact(uL d).symm
 .have i:bj s.a sz 1 s.cap=some ⟨b,o+sz,none⟩:=by rw[f,po (λe=>l e.symm),mY]
  rw[i];refine⟨⟨d,by show s.len-1<=s.cap-1;omega,by show s.cap-1<=_;omega,.inr ⟨b,o+sz,c,rfl,k,by show o+sz+(s.cap-1)*sz<=_;omega,?_⟩⟩,λq j=>?_⟩
  .show(c.toList.drop (o+sz)).take ((s.len-1)*sz)=_
   rw[←r,t,List.drop_take,mm]
   congr 1
   omega
  .obtain⟨A,ak,rfl⟩:=j
   cases ak;exact⟨_,f,rfl⟩
theorem hY.Kv{P:Program}{dN e c7:TypeId}{bytes:Nat}(h:hY P dN e sz bytes)(hx:xs.length=sz)(G:fX sz e w s vs)(H:∀v∈xs,Plain v)(I:(2*(s.len+1)+1000)*bytes<=281474976710656):
 ∃ (m:U) (w':J),Sem.run P (Builtin.append_ #[dN,dN] c7 #[s,.slice (some w) 1 1]) (w.alloc (.cells xs.toArray e))=.ok m w'/\
  fX sz e w' m (vs++xs)/\m.len=s.len+1/\aa (ar s) w w'/\(∀k,ar m k->ar s k\/w<=k):=by
 have n:Ext w (w.alloc (.cells xs.toArray e)):=aa.alloc (.refl _ _) _;obtain⟨h1,i,z,K,x,L,M,y,rfl,N⟩:=h.out;have B:=Src.new (T:=e) w xs 1 (by simpa using hx);have C:=fX.ext G n;have hold:=fX.src C;have X:=n.size;obtain⟨ao,Y,O,Q⟩:=C;by_cases r:s.len+1<=s.cap
 .obtain⟨Z,hc⟩|⟨b,o,c,g,D,R,S⟩:=Q
  .omega
  have f:(s.len+1)*sz=s.len*sz+sz:=by rw[jw,mY]
  have E:o+s.len*sz+xs.length<=c.size:=by
   have:=ml sz r;omega
  obtain⟨d,hd⟩:=kp _ x;have j:=ve (gw:= #[dN,dN]) (c7:=c7) rfl rfl h1 h1 hd y B r (λa F=>by
   rw[g]at F;cases F;rw[aw];exact D.cF _ _ E H)
  simp only[g,aw]at j;rw[←g]at j;refine⟨⟨s.a,s.len+1,s.cap⟩,_,j,⟨by rw[b6,ao,hx,f],r,O,.inr ⟨b,o,_,g,bp.j9 D xs,by rw[jb];exact R,?_⟩⟩,rfl,?_,λk p=>.inl p⟩
  .rw[lv _ _ _ E,f]
   have t1:(c.toList.take (o+s.len*sz)++xs++c.toList.drop (o+s.len*sz+xs.length)).drop o=vs++xs++c.toList.drop (o+s.len*sz+xs.length):=by
    rw[cU,List.drop_append_of_le_length (by simp;omega),List.drop_take,Nat.add_sub_cancel_left,S,cU]
   rw[t1,nR (by rw[b6,ao,hx];omega),eZ (by rw[b6,ao,hx];omega)]
  .exact((aa.da n).trans (aa.mono (W:=λq=>q=b) (aa.kT (.refl _ _) _ 0) λq _ e=>⟨_,g,e.symm⟩))
 .obtain⟨l,rest,t,V,u,j⟩:=aU.run_append_grow (gw:= #[dN,dN]) (c7:=c7) rfl rfl h1 h1 K x L M y N B hold (by show s.cap<s.len+1;omega) I
  have f:(s.len+1)*sz=s.len*sz+sz:=by rw[jw,mY]
  refine⟨⟨some ⟨(w.alloc (.cells xs.toArray e)).heap.size,0,none⟩,s.len+1,l⟩,_,j,aL.EI ?_,rfl,aa.alloc (aa.drew (aa.da n)) _,?_⟩
  .refine⟨by rw[b6,ao,hx,f],t,V,.inr ⟨(w.alloc (.cells xs.toArray e)).heap.size,(vs++xs++rest).toArray,rfl,bp.new (w.alloc (.cells xs.toArray e)).drew _ _,?_,?_⟩⟩
   .have u:rest.length=(l-(s.len+1))*sz:=u
    have t:s.len+1<=l:=t;rw[sJ,b6,b6,ao,hx,u,←f,←jw]
    congr 1
    show s.len+1+(l-(s.len+1))=l;omega
   .have:(vs++xs).length=(s.len+1)*sz:=by rw[b6,ao,hx,f]
    show List.take ((s.len+1)*sz) (vs++xs++rest).toArray.toList=vs++xs;rw[←this];exact List.take_left
  .rintro k ⟨A,ak,p⟩
   cases ak;right;have p:(w.alloc (.cells xs.toArray e)).heap.size=k:=p;omega
end
inductive iy (secs:O bY):O (Int×Int)->cr->O Nat->O Nat->cr->O Nat->O Nat->Prop
 |done (a:cr) (seen bd:O Nat):iy secs [] a seen bd a seen bd
 |step {no level:Int}{q:O (Int×Int)}{a a1 a2:cr}{seen bd b c d e kids:O Nat}:ix secs no level a seen bd a1 b c kids->
  iy secs (q++kids.map λk=>(((k:Nat):Int),IntKind.wrap .i64 (level-1))) a1 b c a2 d e->iy secs ((no,level)::q) a seen bd a2 d e
theorem ix.uniq{no:Int}{a a1 a2:cr}{s1 ao bJ s2 m b4:O Nat}(h1:ix secs no level a seen bd a1 s1 ao bJ)(h:ix secs no level a seen bd a2 s2 m b4):a1=a2/\s1=s2/\ao=m/\bJ=b4:=by
 cases h1 with
 |qa f=>cases h with
  |qa=>exact⟨rfl,rfl,rfl,rfl⟩
  |bad k b c d=>exact absurd (f k b c) d
  |ok k p n b c d=>exact absurd (f k b c) d
 |bad k b c d i=>cases h with
  |qa f=>exact absurd (f k b c) d
  |bad e j=>
   have:k=e:=I
   subst this;exact⟨rfl,rfl,rfl,rfl⟩
  |ok e p n j _ _ g hd l=>
   have:k=e:=I
   subst this;exact absurd l (i p n g hd)
 |ok k p n b c d g hd l=>cases h with
  |qa f=>exact absurd (f k b c) d
  |bad e j _ _ i=>
   have:k=e:=I
   subst this;exact absurd l (i p n g hd)
  |ok e r s j _ _ o q=>
   have:k=e:=I
   subst this;rw[g]at o
   cases o;have:=hd.uniq q;subst this;exact⟨rfl,rfl,rfl,rfl⟩
theorem iy.uniq:∀ {q:O (Int×Int)}{a a1 a2:cr}{seen bd s1 ao s2 b:O Nat},iy secs q a seen bd a1 s1 ao->iy secs q a seen bd a2 s2 b->a1=a2/\s1=s2/\ao=b:=by
 intro q a a1 a2 seen bd s1 ao s2 b h1
 induction h1 with
 |done=>intro c;cases c;exact⟨rfl,rfl,rfl⟩
 |step d _ e=>
  intro c
  cases c with
  |step f g=>
   obtain⟨rfl,rfl,rfl,rfl⟩:=d.uniq f;exact e g
def mc(x:Int×Int):O Y:=[x.1,x.2]
theorem uo(l:O (Int×Int)):∀x∈l,(mc x).length=2:=λ_ _=>rfl
def k_(m:Nat)(w:J):Nat:=match w.heap[m]? with
 |some (.map es _)=>es.size
 |_=>0
theorem dd.k_{enc:α->Y}{M:O (α×Y)}(h:dd w m enc M):k_ m w=M.length:=by
 obtain⟨L,a,h,h1,_⟩:=h;unfold Go.Proofs.YtcmgnhkpfllinaaGreat.k_;rw[h];have:=h1.length_eq;simpa using this
theorem EJ:∀ (l:O Key),l.length<=(l.map λk=>3+k.length).sum
 | []=>a_ _
 |k::l=>by
  have:=EJ l
  rw[iX,qo,eE];omega
theorem Kw{leaf:ag}{b:O UInt8}(h:gX leaf b n):n.kids.length<=240:=by
 obtain⟨h1,_,a,_⟩:=h;obtain h1|h1:=h1
 .rw[h1.kids];exact cw _
 .rw[h1.len]
  have c:=EJ n.keys;unfold bP cellsOf at a;rw[if_neg (by rw[h1.inner];simp),if_neg (by rw[h1.inner];simp)]at a;omega
theorem dd.Kx(h:dd w m encZ (seen.map λx=>(((x:Nat):Int),Value.bool true))):seen.Nodup:=by
 obtain⟨L,d,_,h1,a,_⟩:=h;have c:(L.map λx=>x.1)=(L.map l0).map Prod.fst:=by rw[g2];rfl
 rw[c]at a;have b:=(h1.map Prod.fst).nodup_iff.1 a;rw[g2]at b;exact(List.pairwise_map.1 b).imp λh e=>h (by rw[e])
theorem ix.len{no:Int}{a a':cr}{e:O Nat}(h:ix secs no level a seen bd a' e g' kids)(f:seen.Nodup)(g:∀x∈seen,x<secs.length):kids.length+300*(secs.length-e.length)<=300*(secs.length-seen.length)/\kids.length<=240:=by
 have aB:∀k,k<secs.length->k∉seen->seen.length<secs.length:=λk c d=>by
  have h1:(k::seen).Nodup:=qv.2 ⟨d,f⟩;have i:=Ay h1 (b:=List.range secs.length) λx hx=>by
   rw[iV];rcases cN.1 hx with rfl|hx
   .exact c
   .exact g x hx
  rw[qy,eE]at i;omega
 cases h with
 |qa=>exact⟨by rw[ic];omega,cw _⟩
 |bad k _ c d=>
  have:=aB k c d;exact⟨by rw[eE,ic];omega,cw _⟩
 |ok k p n _ c d l hd=>
  have:=aB k c d;have j:=Kw hd;exact⟨by rw[eE];omega,j⟩
theorem EK{s:U}{x:Int×Int}{q:O (Int×Int)}(h:Src 2 w s (cl mc (x::q))):∃a:ax,s.a=some a/\((0:Int)<=0/\0<(s.len:Int))/\w.cell? (a.add (Int.toNat 0*2))=some (.int .i64 x.1)/\w.cell? ((a.add (Int.toNat 0*2)).add 1)=some (.int .i64 x.2)/\ar s a.block:=by
 have e:=h.len;rw[gL _ (uo _)]at e;have f:s.len=(x::q).length:=I
 cases b:s.a with
 |none=>
  have:=congrArg List.length (h.nil b);rw[gL _ (uo _),ic,eE]at this;omega
 |some a=>
  have g:=h.rd a b;have hg:∀j v,(mc x)[j]? =some v->w.cell? (a.add (0*2+j))=some v:=λj v c=>by
   have k:j<2:=(jK.1 c).1;have d:=qQ g (j:=0*2+j) (v:=v) (by rw[p0 (uo (x::q)) (i:=0) U9 k];exact c);rw[cT]at d;exact d
  have l:Int.toNat 0=0:=rfl;rw[l];rw[eE]at f;refine⟨a,rfl,⟨I,I⟩,hg 0 _ rfl,?_,⟨a,b,rfl⟩⟩;rw[add_add];exact hg 1 _ rfl
theorem Ky:hY aj 249 248 2 16:=⟨by kernel_rfl⟩
def uq(level:Int)(k:Nat):Int×Int:=((k:Int),IntKind.wrap .i64 (level-1))
section
variable {w w':J}{lb m:Nat}{a:cr}{ss gs:U}{secs:O bY}{seen bd:O Nat}
theorem Kz(h:eN w lb a ss m gs secs seen bd)(root aD:Int):
 aI aj 77 #[.pointer (some lb),root,aD] w (λv w'=>v=.tuple #[]/\∃a' aA X Y,iy secs [(root,aD)] a seen bd a' X Y/\eN w' lb a' ss m aA secs X Y/\aa (λq=>q=lb\/q=m\/ar gs q) w w'):=by
 have aB:=h.lt;refine ad.GU _ root aD w _ ?_;(delta ad.tq Cr ae af b1 aQ aO gI r1 aV bU jd ai ap;dsimp only);obtain⟨w1,N⟩:=U6 (w.alloc (.cells #[root,aD] 248));have P:Ext w w1:=by rw[N];exact dc _ _
 have aC:fX 2 248 w1 ⟨some w.heap.size,1,1⟩ (cl mc [(root,aD)]):=by
  rw[N];exact aL.EI (aL.new w [root,aD] 1 rfl (by decide))
 rw[←N];refine aH ⟨λs w'=>∃ (q:O (Int×Int)) (a1:cr) (t:U) (z G:O Nat),fX 2 248 w' s (cl mc q)/\(∀k,ar s k->w.heap.size<=k/\¬ar t k)/\eN w' lb a1 ss m t secs z G/\bo (λk=>k<w.heap.size/\k≠lb/\k≠m/\¬ar t k) w' ss secs/\(∀a2 s2 Z,iy secs q a1 z G a2 s2 Z->iy secs [(root,aD)] a seen bd a2 s2 Z)/\aa (λq=>q=lb\/q=m\/ar gs q) w w'/\(∀k,ar t k->ar gs k\/w.heap.size<=k)/\q.length+300*(secs.length-z.length)<=1000000,
  λs w'=>s.len+300*(secs.length-k_ m w'),⟨[(root,aD)],a,gs,seen,bd,aC,λk b=>?_,h.jm P λ_ _ h=>h,bo.ext (bo.bh h.s λk b H=>⟨b,H⟩) P,λ_ _ _ h=>h,P.mono λ_ _ h=>h.elim,λk b=>.inl b,?_⟩,?_⟩
 .obtain⟨A,ak,rfl⟩:=b
  cases ak;exact⟨a_ _,λJ=>by have:=aB.2.2 _ J;have:w.heap.size<w.heap.size:=this;omega⟩
 .have:=h.n
  simp only[eE,ic];omega
 rintro s B ⟨q,a1,t,z,G,J,Q,C,aE,ac,hc,ag,aF⟩;have R:s.len=q.length:=by
  have:=J.1;rw[gL _ (uo _)]at this;omega
 refine⟨λaG=>?_,λaK=>?_⟩
 .obtain⟨x,f,rfl⟩:∃x f,q=x::f:=by
   cases q with
   |nil=>
    have:=bB aG;rw[ic]at R;omega
   |cons x f=>exact⟨x,f,rfl⟩
  have D:=cc B;have S:=fX.ext J D;obtain⟨A,ak,H,bM,aR,_⟩:=EK (fX.src S);refine aH ⟨λ_=>False,A,ak,H,id,x.1,bM,A,ak,H,id,x.2,aR,(Ku (C.jm D λ_ _ h=>h) x.1 x.2).use ?_⟩;rintro _ K ⟨u,a2,o,ah,al,kids,rfl,c⟩;have L:=c.kids;have aM:=c.at_;have bn:=c.r.len (dd.Kx C.mp) C.jk.2.2;have bp:w.heap.size<=B.drew.heap.size:=by have:=hc.size;have:=D.size;omega
  have bq:=c.ab.size;have am:∀k,ar s k->k<B.drew.heap.size:=fX.lt S;have aN:fX 2 248 K s (cl mc (x::f)):=fX.ab S c.ab λk b e=>by
   have h1:=Q k b;rcases e with e|e|e
   .have:=aB.1;omega
   .have:=aB.2.1;omega
   .exact h1.2 e
  have aP:∀k,ar o k->ar gs k\/w.heap.size<=k:=λk b=>by
   rcases c.own k b with h1|h1
   .exact ag k h1
   .exact .inr I
  have aS:∀k,ar s k->w.heap.size<=k/\¬ar o k:=λk b=>⟨(Q k b).1,λl=>by
   rcases c.own k l with E|E
   .exact(Q k b).2 E
   .have:=am k b;omega⟩
  have aT:bo (λk=>k<w.heap.size/\k≠lb/\k≠m/\¬ar o k) K ss secs:=by
   refine bo.bh (bo.ab (bo.ext aE D) c.ab λk b e=>?_) λk _ b=>⟨b.1,b.2.1,b.2.2.1,λl=>?_⟩
   .rcases e with e|e|e
    .exact b.2.1 e
    .exact b.2.2.1 e
    .exact b.2.2.2 e
   .rcases c.own k l with E|E
    .exact b.2.2.2 E
    .have:=b.1;omega
  have aU:aa (λk=>k=lb\/k=m\/ar gs k) w K:=cn hc (cn (D.mono (V:=λk=>k=lb\/k=m\/ar t k) λ_ _ h=>h.elim) c.ab λk _ e=>e) λk b e=>by
   rcases e with e|e|e
   .exact .inl e
   .exact .inr (.inl e)
   .exact .inr (.inr ((ag k e).resolve_right I))
  have br:u.len=kids.length:=cK.len L;have aX:∀k,ar u k->B.drew.heap.size<=k:=λk b=>(L.2.2 k b).1.1;refine⟨u,rfl,λp n w'=>∃j:Nat,n=(j:Int)/\j<=kids.length/\fX 2 248 w' p (cl mc (x::(f++(kids.take j).map (uq x.2))))/\(∀k,ar p k->w.heap.size<=k/\¬ar o k)/\eN w' lb a2 ss m o secs ah al/\bo (λk=>k<w.heap.size/\k≠lb/\k≠m/\¬ar o k) w' ss secs/\Src 1 w' u (dv kids)/\(∀k,ar u k->¬ar p k/\k<w'.heap.size)/\aa (λk=>w.heap.size<=k) K w',
   λ_ n _=>((kids.length:Int)-n).toNat,⟨0,rfl,cw _,by rw[sB,o3,fO];exact aN,aS,aM,aT,L.1,λk b=>⟨λl=>by have:=aX k b;have:=am k l;omega,(L.2.2 k b).2⟩,.refl _ _⟩,?_⟩
  rintro p _ T ⟨j,rfl,bs,F,y,d,an,ao,M,W⟩;have bt:p.len=f.length+1+j:=by
   have:=F.1;rw[gL _ (uo _),eE,b6,cV,cQ]at this;omega
  rw[eE]at aF R;refine⟨λaY=>?_,λaZ=>?_⟩
  .have aq:j<kids.length:=by
    have:(j:Int)<(u.len:Int):=bB aY;omega
   obtain⟨a0,a4,a5,a6⟩:=ao.at (i:=j) (v:=.int .i64 ((kids[j]:Nat):Int)) (by simp[dv,aq]);obtain⟨a7,a8,a9,_,d1,_⟩:=EK (fX.src F);obtain⟨ba,au,r1,bA,aJ,c0,aW⟩:=hY.Kv Ky (c7:=249) (w:=T) (xs:=mc (uq x.2 kids[j])) rfl F (λv av=>by
    simp only[mc,cN,er,ez]at av;rcases av with rfl|rfl<;>trivial) I
   have bb:IntKind.wrap .i64 ((j:Int)+1)=((j+1:Nat):Int):=by rw[bl I I];omega
   rw[bb];have aw:∀k,ar p k->k≠lb/\k≠m:=λk b=>⟨λe=>by have:=(y k b).1;have:=aB.1;omega,λe=>by have:=(y k b).1;have:=aB.2.1;omega⟩;have ax:bo (λk=>k<w.heap.size/\k≠lb/\k≠m/\¬ar o k) au ss secs:=bo.ab an c0 λk b e=>by have:=(y k e).1;have:=b.1;omega
   refine⟨a0,a4,a5,_,a6,a7,a8,a9,x.2,d1,aH ⟨ba,au,r1,⟨j+1,rfl,I,?_,λk b=>?_,⟨d.v.ab c0 λe=>(aw lb e).1 rfl,bo.bh ax λk _ b=>b.2,d.mp.ab c0 λe=>(aw m e).2 rfl,d.g.ab c0 λk b e=>(y k e).2 b,d.ne,d.len,d.n,d.fJ,d.jk⟩,ax,ao.ab c0 λk b e=>(M k b).1 e,λk b=>⟨λl=>?_,by have:=(M k b).2;have:=c0.size;omega⟩,W.trans (c0.mono λk _ b=>(y k b).1)⟩,by show((kids.length:Int)-((j+1:Nat):Int)).toNat<((kids.length:Int)-(j:Int)).toNat;omega⟩⟩
   .rw[gv aq,eU,←cU,←o0,rW]
    exact bA
   .rcases aW k b with h1|h1
    .exact y k h1
    .have:=W.size
     exact⟨I,λl=>by have:=d.lt.2.2 k l;omega⟩
   .rcases aW k l with h1|h1
    .exact(M k b).1 h1
    .have:=(M k b).2;omega
  .have bc:j=kids.length:=by
    have:¬(j:Int)<(u.len:Int):=bT aZ;omega
   subst bc;rw[gD]at F;have be:Int.toNat 1=1:=rfl;rw[be];obtain⟨t1,t2⟩:=fX.tail F I;have bf:(cl mc (x::(f++kids.map (uq x.2)))).drop 2=cl mc (f++kids.map (uq x.2)):=rfl;rw[bf]at t1;have bg:aa (λk=>k=lb\/k=m\/ar gs k) w T:=cn aU W λk b e=>by omega
   refine⟨⟨I,by show(1:Int)<=(p.len:Int);omega⟩,⟨f++kids.map (uq x.2),a2,o,ah,al,t1,λk b=>y k (t2 k b),d,an,λa3 bi bj bk=>ac a3 bi bj (.step c.r bk),bg,aP,?_⟩,?_⟩
   .rw[b6,cV];omega
   .have ay:=dd.k_ C.mp
    have az:=dd.k_ d.mp;rw[cV]at ay az;show(p.len-1)+300*(secs.length-k_ m T)<s.len+300*(secs.length-k_ m B);rw[ay,az];omega
 .have bm:q=[]:=by
   have:=bT aK
   cases q with
   |nil=>rfl
   |cons x q=>rw[eE]at R;omega
  subst bm;exact⟨rfl,a1,t,z,G,ac _ _ _ (.done _ _ _),C,hc⟩
end
def g1:cr:=⟨0,0,0,0,0,0,0,0,0,0⟩
def cr.e5(a:cr)(no:Nat)(s:Int):cr:=if no=0 then {a with kH:=s} else {a with s1:=s}
def cr.fY(a:cr)(no:Nat)(g:Int):cr:=if no=0 then {a with hK:=g} else {a with ao:=g}
def cr.qb(a:cr)(no:Int):Int:=if no=0 then a.hK else a.ao
def iS(secs:O bY)(no:Nat)(p:cr×cD):cr×cD:=
 let x:=eT secs.length no (secs.getD no [])
 let a:=(p.1.e5 no x.2.2).fY no x.2.1
 if x.2.2=2/\(a.dK<0\/a.qb a.dK<x.2.1) then ({a with dK:=no},x.1) else (a,p.2)
def cR(secs:O bY):Nat->cr×cD
 |0=>({g1 with dK:= -1},cZ)
 |k+1=>iS secs k (cR secs k)
def jn(secs:O bY):cr×cD:=cR secs 2
def kI(secs:O bY)(r:cr):Prop:=
 ((jn secs).1.dK<0/\r=(jn secs).1)\/
 (0<=(jn secs).1.dK/\∃ (a1:cr) (seen bd:O Nat),((0<(jn secs).2.aD/\iy secs [((((jn secs).2.root:Nat):Int),(((jn secs).2.aD:Nat):Int))] (jn secs).1 [] [] a1 seen bd)\/((jn secs).2.aD=0/\a1=(jn secs).1/\bd=[]))/\
   r=jH secs bd (jn secs).2.map a1)
theorem kI.uniq{r a:cr}(h:kI secs r)(b:kI secs a):r=a:=by
 obtain⟨h1,rfl⟩|⟨h1,a1,s1,ao,d,rfl⟩:=h
 .obtain⟨_,rfl⟩|⟨e,_⟩:=b
  .rfl
  .omega
 .obtain⟨e,_⟩|⟨_,a2,s2,k,c,rfl⟩:=b
  .omega
  .obtain⟨f,g⟩|⟨f,rfl,rfl⟩:=d
   .obtain⟨_,i⟩|⟨j,_⟩:=c
    .obtain⟨rfl,rfl,rfl⟩:=g.uniq i
     rfl
    .omega
   .obtain⟨j,_⟩|⟨_,rfl,rfl⟩:=c
    .omega
    .rfl
theorem ix.e3{no:Int}{a a':cr}{b:O Nat}(h:ix secs no level a seen bd a' b g' kids):a'.e3=a.e3:=by
 cases h<;>rfl
theorem iy.e3{q:O (Int×Int)}{a a':cr}{b:O Nat}(h:iy secs q a seen bd a' b g'):a'.e3=a.e3:=by
 induction h with
 |done=>rfl
 |step c _ d=>exact d.trans c.e3
def aS.rd(D:aS)(i:Nat):aS:={D with bN:=D.bN.set 1 (if D.bN.getD 1 0= -1 then -1 else D.bN.getD 1 0-i)}
def aS.lit(D:aS)(n:Nat):Prop:=D.bN.getD 1 0≠ -1/\D.bN.getD 1 0<n
theorem KA{D:aS}(b:D.bN.length=4)(hf: -1<=D.bN.getD 1 0)(hi:¬D.lit i):((D.rd i).fl 1=true↔D.lit (i+1))/\((D.rd i).fl 1=false->(D.rd i).cI 1=D.rd (i+1)):=by
 have e:(D.rd i).bN.getD 1 0=if D.bN.getD 1 0= -1 then -1 else D.bN.getD 1 0-i:=by
  show(D.bN.set 1 _).getD 1 0=_;rw[c8 (by rw[c_];omega),hW]
 unfold aS.lit at hi⊢;unfold aS.fl aS.cI;rw[e];unfold gz;by_cases h1:D.bN.getD 1 0= -1
 .rw[if_pos h1,if_pos rfl]
  refine⟨⟨nofun,λh=>absurd h1 h.1⟩,λ_=>?_⟩;unfold aS.rd;rw[if_pos h1,if_pos h1];simp
 .rw[if_neg h1]
  have c:(i:Int)<=D.bN.getD 1 0:=nQ λa=>hi ⟨h1,I⟩;rw[if_neg I];by_cases a:D.bN.getD 1 0-i=0
  .rw[if_pos a]
   exact⟨⟨λ_=>⟨h1,I⟩,λ_=>rfl⟩,nofun⟩
  .rw[if_neg a]
   refine⟨⟨nofun,λh=>I⟩,λ_=>?_⟩;unfold aS.rd;rw[if_neg h1,if_neg h1];simp only[List.set_set]
   congr 2
   omega
abbrev hC:U:=⟨none,0,0⟩
def jI(D:aS):O bY:=(List.range D.n).map D.now
theorem KB{D:aS}(a:D.bN.length=4):D.rd 0=D:=by
 have e:(if D.bN.getD 1 0= -1 then -1 else D.bN.getD 1 0-((0:Nat):Int))=D.bN.getD 1 0:=by split<;>omega
 unfold aS.rd;rw[e,c8 (by omega:1<D.bN.length),sI]
theorem AD(a:cr)(b:k<2)(s:Int):(a.e5 k s).c=a.c.set k s:=by
 have:k=0\/k=1:=by omega
 rcases this with rfl|rfl<;>rfl
theorem EL(a:cr)(b:k<2)(s:Int):(a.fY k s).c=a.c.set (2+k) (.int .u64 s):=by
 have:k=0\/k=1:=by omega
 rcases this with rfl|rfl<;>rfl
theorem r6(a:cr)(k:Nat)(s g:Int):((a.e5 k s).fY k g).dK=a.dK/\((a.e5 k s).fY k g).e3=a.e3:=by
 unfold cr.e5 cr.fY;split<;>exact⟨rfl,rfl⟩
theorem x4(secs:O bY):∀k, -1<=(cR secs k).1.dK/\(cR secs k).1.dK<k/\(cR secs k).1.e3=0
 |0=>⟨by show(-1:Int)<= -1;omega,by show(-1:Int)<0;omega,rfl⟩
 |k+1=>by
  obtain⟨h1,b,a⟩:=x4 secs k
  show _/\(iS secs k (cR secs k)).1.dK<_/\_
  simp only[cR,iS]
  split
  .exact⟨by show(-1:Int)<=(k:Int);omega,by show(k:Int)<((k+1:Nat):Int);omega,(r6 _ _ _ _).2.trans a⟩
  .simp only[r6]
   exact⟨h1,I,a⟩
theorem KC{n:Nat}{b:bY}(h:(eT n no b).2.2=2):(eT n no b).1.map<n:=by
 revert h
 unfold eT;split
 .intro h;cases h
 .split
  .split
   .intro h;cases h
   .rename_i h1
    intro _;exact Nat.not_le.1 λa=>h1 (.inr a)
  .intro h;cases h
theorem x5(secs:O bY):∀k,0<=(cR secs k).1.dK->(cR secs k).2.map<secs.length
 |0,h=>absurd h (by show¬(0:Int)<= -1;omega)
 |k+1,h=>by
  revert h
  simp only[cR,iS]
  split
  .rename_i h1
   exact λ_=>KC h1.1
  .intro h
   exact x5 secs k (by rw[←(r6 (cR secs k).1 k _ _).1];exact h)
structure EM(w0 w:J)(D:aS)(lb m aG z:Nat)(ss:U)(i:Nat):Prop where
 dev:cf w (D.rd i)
 lit:¬D.lit i
 s:bq (λq=>z<=q) w ss ((List.range i).map D.now)
 v:Var w lb (oU g1 ss m hC) 158
 mp:dd w m encZ []
 aG:Var w aG g1.c 85
 ab:aa (λq=>q=D.d) w0 w
structure AE(w0 w:J)(lb m aG ub z:Nat)(ss:U)(secs:O bY)(p:cr×cD):Prop where
 KD:bo (λq=>z<=q/\q<w0) w ss secs
 gK:eN w lb p.1 ss m hC secs [] []
 ub:Var w ub p.2.c 90
 aG:Var w aG g1.c 85
 ab:aa (λq=>q=lb\/q=m) w0 w
theorem eN.KE{lb:Nat}{a:cr}{ss gs:U}(h:eN w lb a ss m gs secs seen bd)(hc:aa W w w')(h1:¬W lb)(d:¬W m)(e:∀q,ar gs q->¬W q)(hs:bo B w ss secs)(c:∀q,B q->¬W q/\q≠lb/\q≠m/\¬ar gs q):eN w' lb a ss m gs secs seen bd:=
 ⟨h.v.ab hc h1,bo.bh (hs.ab hc λq b=>(c q b).1) λq _ b=>(c q b).2,h.mp.ab hc d,h.g.ab hc e,h.ne,h.len,h.n,h.fJ,h.jk⟩
theorem cr.plain(a:cr):∀v∈a.c,Plain v:=λv b=>by
 simp only[cr.c,cN,er,ez]at b
 rcases b with rfl|rfl|rfl|rfl|rfl|rfl|rfl|rfl|rfl|rfl<;>trivial
theorem nk{D:aS}(h:cf w D)(b2:D.aZ<=1000000000):aI aj 29 #[.pointer (some ⟨D.d,0,none⟩)] w (λv w'=>aa (λq=>q=D.d) w w'/\
 ((D.lit D.n/\v=.tuple #[.agg g1.c.toArray,.int .i64 3])\/(¬D.lit D.n/\cf w' (D.rd D.n)/\∃r,kI (jI D) r/\v=.tuple #[.agg r.c.toArray,.int .i64 0]))):=by
 have W:∀q,bO D q->q<w.heap.size:=λq=>h.lt;have c7:D.d<w.heap.size:=W _ (.inl rfl);have b3: -1<=D.bN.getD 1 0:=by
  rw[c8 (by rw[h.f4];omega:1<D.bN.length)];exact(h.fr _ (cg _)).1
 refine ad.GM _ w _ ?_;(delta ad.nk gh af ae b5 cW dY xs aJ ap st ai eo oc bf aF b1 r1 vF aT bZ c0 e6;dsimp only);refine bg (vs:=g1.c) rfl λw1 bk b4 c9=>⟨nofun,λ_=>?_⟩;obtain⟨aG,b6⟩:=U6 w.heap.size;rw[←b6]at bk⊢;obtain⟨ao,bl⟩:=dd.make (P:=aj) (enc:=encZ) 156 w1;obtain⟨m,b7⟩:=U6 w1.heap.size;have aO:=dc w1 (.map #[] 0);have b8:=iN w1 (.map #[] 0);obtain⟨ah,bn⟩:=U6 (w1.alloc (.map #[] 0));rw[←bn,←b7]at ao bl;rw[←bn]at aO b8;refine⟨some m,ah,ao,(oU g1 hC m hC).toArray,by kernel_rfl,bg (vs:=oU g1 hC m hC) rfl λt bp aP c_=>?_⟩;obtain⟨lb,b9⟩:=U6 ah.heap.size;rw[←b9]at bp⊢;have aQ:=(b4.trans aO).trans aP;refine(oI (h.ext aQ)).use ?_;rintro _ _ ⟨rfl,rfl⟩;have b_:EM w t D lb m aG t.heap.size hC 0:=⟨by rw[KB h.f4];exact h.ext aQ,λg=>by have:=g.2;have:=g.1;omega,bq.none _ _,bp,(bl.ext aP),(bk.ext aO).ext aP,aQ.mono λ_ _ h=>h.elim⟩;refine⟨_,rfl,λn w'=>∃ (i:Nat) (ss:U),n=(i:Int)/\i<=D.n/\t.heap.size<=w'.heap.size/\EM w w' D lb m aG t.heap.size ss i,λn _=>((D.n:Int)-n).toNat,⟨0,hC,rfl,cw _,a_ _,b_⟩,?_⟩;rintro _ y ⟨i,ss,rfl,hi,da,f⟩;have db:=h.bL;have de:=h.bz;refine⟨λaB=>?_,λaR=>?_⟩
 .have ca:i<D.n:=by have:=bB aB;omega
  obtain⟨br,cb⟩:=KA (i:=i) h.f4 b3 f.lit;refine(tW f.dev (i:=i) ca b2).use ?_;rintro v X ⟨bs,bu,cd⟩;have dg:=bu.size;have Z:aa (λq=>q=D.d) y X:=bu;have bv:aa (λq=>q=D.d) w X:=f.ab.trans Z;have aU:Var X aG g1.c 85:=f.aG.ab Z I;rcases cd with ⟨ac,rfl⟩|⟨ac,bw,rfl,ht⟩
  .have bx:=br.1 ac
   refine⟨hC,3,rfl,λ_=>⟨g1.c.toArray,by kernel_rfl,aU.cF rfl (cr.plain _),rfl,c6 aU (us:=g1.c) rfl rfl λdh ce ch di=>⟨g1.c,ce.rd rfl,cn bv ch λq b e=>I,.inl ⟨⟨bx.1,by have:=bx.2;omega⟩,rfl⟩⟩⟩,nofun⟩
  have ci:=f.s.ab Z λk A e=>by omega
  have bC:Var X lb (oU g1 ss m hC) 158:=f.v.ab Z I;have cj:bI (λq=>t.heap.size<=q) X bw (D.now i):=bI.bh ht λk _ A=>by omega
  have ag:∀k,ar ss k->t.heap.size<=k/\k<y.heap.size:=f.s.im.choose_spec.2.2.2.1;obtain⟨ak,aA,ck,cl,N,dj⟩:=xD ci cj (λk A Q=>by
   have h1:=(ht.2.2 k A).1;have:=(ag k Q).2;omega) (by rw[cV,qy];omega) (λk A=>I)
  have dk:=N.size;have aV:=bC.ab N λH=>by have:=(ag lb H).1;omega
  have R:aa (λq=>q=lb) aA (aA.setCell ⟨lb,10,none⟩ (.slice ak.a ak.len ak.cap)):=aa.eF (.refl _ _) _;have bD:∀q,q<t.heap.size->¬ar ss q:=λq b H=>by have:=(ag q H).1;omega
  refine⟨bw,0,rfl,nofun,λ_=>⟨_,rfl,ss,by rw[aw];exact bC.cell,ak,aA,ck,_,rfl,⟨_,by rw[aw];exact aV.cell⟩,by rw[aw];exact aV.frozen _ rfl,?_⟩⟩;rw[aw,hM I];refine aH ⟨⟨i+1,ak,rfl,I,fg (by omega:t.heap.size<=aA.heap.size) R.size,⟨?_,λg=>?_,?_,aV.CQ 10 _,?_,?_,?_⟩⟩,by show((D.n:Int)-((i+1:Nat):Int)).toNat<((D.n:Int)-((i:Nat):Int)).toNat;omega⟩
  .rw[cb ac]at bs
   exact(bs.ab N λq b H=>by have:=(ag q H).1;have:=W q b;omega).ab R λq b e=>by have:=W q b;omega
  .rw[br.2 g]at ac;cases ac
  .rw[sF,eU]
   exact cl.ab R λk A e=>by omega
  .exact((f.mp.ab Z I).ab N (bD _ I)).ab R I
  .exact(aU.ab N (bD _ I)).ab R I
  .exact cn (cn bv N λq b H=>by have:=(ag q H).1;omega) R λq b e=>by omega
 have cm:i=D.n:=by
  have:=bT aR;omega
 subst cm;obtain⟨secs,al⟩:=U6 (jI D);have dl:secs.length=D.n:=by rw[al,jI,cV,qy]
 have S:∀q,¬ar hC q:=λq ⟨a,F,_⟩=>by cases F
 have co:eN y lb g1 ss m hC secs [] []:=⟨f.v,bo.bh (by rw[al];exact f.s.im) λk _ A=>⟨I,I,S k⟩,f.mp,(cM.none (λ_=>True) y).1,⟨I,S _,S _⟩,λl g=>?_,I,by show 0<=1600;omega,⟨o5,λx hx=>(by cases hx),λx hx=>(by cases hx)⟩⟩
 rotate_left
 .rw[al]at g
  obtain⟨j,cp,rfl⟩:=df.1 g;exact h.nA (iV.1 cp)
 have cq:bo (λq=>t.heap.size<=q/\q<y.heap.size) y ss secs:=bo.bh (by rw[al];exact f.s.im) λk cs A=>⟨A,cs⟩;obtain⟨bm,bt,bE,am⟩:=co.put (j:=4) (a':={g1 with dK:= -1}) (v:=.int .i64 (-1)) I rfl;refine⟨_,rfl,bm,bt,?_⟩;obtain⟨aW,ct⟩:=U6 (y.setCell (Addr.add ⟨lb,0,none⟩ 4) (.int .i64 (-1)));rw[←ct]at bE am⊢;have dm:=am.size;refine aH (bg (vs:=cZ.c) rfl λaX bF aC dn=>?_);obtain⟨ub,cu⟩:=U6 aW.heap.size;rw[←cu]at bF⊢;have cx:AE y aX lb m aG ub t.heap.size ss secs (cR secs 0):=⟨(cq.ab am λq b e=>I).ext aC,bE.jm aC λ_ _ h=>h,bF,(f.aG.ab am I).ext aC,cn (am.mono λq _ e=>.inl e) aC λq _ h=>h.elim⟩;refine⟨λn w'=>∃k:Nat,n=(k:Int)/\k<=2/\aX.heap.size<=w'.heap.size/\AE y w' lb m aG ub t.heap.size ss secs (cR secs k),λn _=>((2:Int)-n).toNat,⟨0,rfl,I,a_ _,cx⟩,?_⟩;rintro _ B ⟨k,rfl,A,dp,K⟩;obtain⟨a,F⟩:=U6 ((cR secs k).1);obtain⟨u,hu⟩:=U6 ((cR secs k).2);have G:eN B lb a ss m hC secs [] []:=by rw[F];exact K.gK
 have T:Var B ub u.c 90:=by rw[hu];exact K.ub
 have aq:ub≠lb/\ub≠m/\aG≠lb/\aG≠m/\aG≠ub:=⟨I,I,I,I,I⟩;obtain⟨cy,cz,aY⟩:=x4 secs k;rw[←F]at cy cz aY;refine⟨λaB=>?_,λaR=>?_⟩
 .have Q:k<2:=by have:=bB aB;omega
  refine⟨(IG G.v rfl G.s G.len (no:=k) I).use ?_⟩;rintro _ cA ⟨rfl,bG⟩;have cB:k<secs.length:=by omega
  obtain⟨x,hx⟩:=U6 (eT secs.length k secs[k]);rw[←hx];have aE:cR secs (k+1)=if x.2.2=2/\(((a.e5 k x.2.2).fY k x.2.1).dK<0\/((a.e5 k x.2.2).fY k x.2.1).qb ((a.e5 k x.2.2).fY k x.2.1).dK<x.2.1) then ({(a.e5 k x.2.2).fY k x.2.1 with dK:=k},x.1) else ((a.e5 k x.2.2).fY k x.2.1,u):=by
   show iS secs k (cR secs k)=_;unfold iS;rw[c8 cB,←hx,←F,←hu]
  have cC:Int.toNat ((k:Nat):Int)*1=k:=by rw[cS,eY]
  refine⟨_,_,_,_,_,_,_,_,rfl,bg (vs:=cZ.c) rfl λdq cD cE dr=>fQ cD rfl x.1 λa0 bH bJ ds=>?_⟩;obtain⟨g7,cG⟩:=U6 cA.heap.size;rw[←cG]at bH bJ⊢;have dt:=bG.size;have a1:Ext B a0.drew:=(bG.trans (Ext.bQ cE bJ I)).trans (cc _);have du:=a1.size;have cH:=G.jm a1 λ_ _ h=>h;obtain⟨gA,cI,bK,aK⟩:=cH.put (j:=k) (a':=a.e5 k x.2.2) (v:=.int .i64 x.2.2) I (AD a Q _);obtain⟨a3,cJ⟩:=U6 (a0.drew.setCell (Addr.add ⟨lb,0,none⟩ k) (.int .i64 x.2.2));rw[cC];refine aH ⟨λ_=>False,_,rfl,⟨I,I⟩,_,rfl,gA,cI,?_⟩;rw[←cJ]at bK aK⊢;obtain⟨t1,t2,t3,t4⟩:=bK.put (j:=2+k) (a':=(a.e5 k x.2.2).fY k x.2.1) (v:=.int .u64 x.2.1) I (EL _ Q _);obtain⟨av,cK⟩:=U6 (a3.setCell (Addr.add ⟨lb,0,none⟩ (2+k)) (.int .u64 x.2.1));rw[add_add];refine aH ⟨⟨I,I⟩,t1,t2,?_⟩;rw[←cK]at t3 t4⊢;refine aH (aH ?_);have a4:=cc av;have L:=t3.jm a4 λ_ _ h=>h;have dv:=aK.size;have dw:=t4.size;have ay:aa (λq=>q=lb) B av.drew:=((((a1.mono λ_ _ h=>h.elim).trans aK).trans t4)).trans (a4.mono λ_ _ h=>h.elim);obtain⟨C,a5⟩:=U6 av.drew;rw[←a5]at L ay⊢;have dx:a0.drew.heap.size<=C.heap.size:=by
   have:=a4.size;rw[←a5]at this;omega
  obtain⟨a2,bM⟩:=U6 ((a.e5 k x.2.2).fY k x.2.1);have dy:a2.dK=a.dK:=by rw[bM];exact(r6 _ _ _ _).1
  rw[←bM]at L aE;have a6:=T.ab ay aq.1;have cL:Var C g7 x.1.c 90:=by
   rw[a5];exact(((Var.drew bH).ab aK I).ab t4 I).drew
  have cN:=K.aG.ab ay aq.2.2.1;have fE:C.cell? (Addr.add ⟨lb,0,none⟩ 4)=some (.int .i64 a2.dK):=by rw[aw];exact L.v.cell
  have bP:=K.KD.ab ay λq b e=>by omega
  have fin:∀w',aa (λq=>q=lb\/q=ub) C w'->∀p,p=cR secs (k+1)->eN w' lb p.1 ss m hC secs [] []->Var w' ub p.2.c 90->
   (∃a7:Nat,IntKind.wrap .i64 (((k:Nat):Int)+1)=(a7:Int)/\a7<=2/\aX.heap.size<=w'.heap.size/\AE y w' lb m aG ub t.heap.size ss secs (cR secs a7))/\((2:Int)-IntKind.wrap .i64 (((k:Nat):Int)+1)).toNat<((2:Int)-((k:Nat):Int)).toNat:=λw' M p cO g cP=>by
   have dz:=M.size;rw[hM I];subst cO;refine⟨⟨k+1,rfl,I,I,bP.ab M λq b e=>I,g,cP,cN.ab M I,?_⟩,I⟩;exact cn (cn K.ab ay λq _ e=>.inl e) M λq b e=>by omega
  refine(λ(key:(x.2.2=2/\(a2.dK<0\/a2.qb a2.dK<x.2.1))->_)=>⟨λaz=>⟨_,rfl,id,_,fE,λz=>⟨λ_=>key ⟨by have:=eq_of_beq az;omega,.inl (bB z)⟩,nofun⟩,λz=>⟨_,rfl,id,_,fE,_,rfl,?_,id,a2.qb a2.dK,?_,λhg=>key ⟨by have:=eq_of_beq az;omega,.inr (bB hg)⟩,λhg=>fin C (.refl _ _) (a2,u) ?_ L a6⟩⟩,λaz=>⟨nofun,λ_=>fin C (.refl _ _) (a2,u) ?_ L a6⟩⟩) ?_
  rotate_left
  .have:=bT z
   exact⟨I,I⟩
  .have h1:=bT z
   have h0:a2.dK=0:=by omega
   rw[h0,add_add,aw];exact L.v.cell
  .have h1:=bT hg
   have dA:=bT z;rw[aE,if_neg];rintro⟨_,a8|a8⟩<;>omega
  .rw[aE,if_neg]
   rintro⟨a8,_⟩;rw[a8]at az;cases az
  intro cQ;have a9:=cc C;have cT:=L.jm a9 λ_ _ h=>h;obtain⟨r1,bA,aJ,c0⟩:=cT.put (j:=4) (a':={a2 with dK:=k}) (v:=.int .i64 ((k:Nat):Int)) I rfl;refine aH ⟨λq=>q=lb,by show¬g7=lb;omega,fe (Var.drew cL) ⟨_,rfl,r1,bA,aH ⟨c0,fQ ((Var.drew a6).ab c0 aq.1) rfl x.1 λcU cX bR dB=>fin cU ?_ ({a2 with dK:=k},x.1) ?_ ?_ cX⟩⟩⟩
  .exact(((a9.mono λ_ _ h=>h.elim).trans (c0.mono λq _ e=>.inl e))).trans (bR.mono λq _ e=>.inr e)
  .rw[aE,if_pos cQ]
  .exact aJ.KE bR (λe=>aq.1 e.symm) (λe=>aq.2.1 e.symm) (λq b=>absurd b (S q)) ((bP.ext a9).ab c0 λq b e=>I) λq b=>⟨I,I,I,S q⟩
 have Q:k=2:=by have:=bT aR;omega
 subst Q;have E:jn secs=(a,u):=by rw[F,hu];rfl
 have bS:aa (λq=>q=lb\/q=m) y B:=K.ab;have fin:∀w' (r:cr) (aL:U) (seen bd:O Nat),aa (λq=>q=lb\/q=m) B w'->eN w' lb r ss m aL secs seen bd->kI secs r->
  ∃bU:ax,(some ⟨lb,0,none⟩:an ax)=some bU/\∃aM:O Y,cv w' bU 0 10=some aM/\c5 w' ⟨aG,0,none⟩ (Array.toList aM.toArray)/\Array.size aM.toArray=10/\
   au (setCells w' ⟨aG,0,none⟩ 0 (Array.toList aM.toArray)) λaN=>∃ba:O Y,cv aN ⟨aG,0,none⟩ 0 10=some ba/\
    (aa (λq=>q=D.d) w aN/\((D.lit D.n/\Value.tuple #[.agg ba.toArray,.int .i64 0]=.tuple #[.agg g1.c.toArray,.int .i64 3])\/(¬D.lit D.n/\cf aN (D.rd D.n)/\∃r,kI (jI D) r/\Value.tuple #[.agg ba.toArray,.int .i64 0]=.tuple #[.agg r.c.toArray,.int .i64 0]))):=by
  intro w' r aL seen bd hc g cY;have bV:=K.aG.ab hc I;refine⟨_,rfl,r.c,by rw[Var.zu g.v (o:=0) (n:=10) (by show 0+10<=13;decide)];rfl,bV.cF rfl (cr.plain _),rfl,c6 bV (us:=r.c) rfl rfl λaN c1 bW dC=>⟨r.c,c1.rd rfl,?_,.inr ⟨f.lit,?_,r,by rw[←al];exact cY,rfl⟩⟩⟩
  .exact cn (cn f.ab (bS.trans hc) λq b e=>I) bW λq b e=>by omega
  .exact(f.dev.ab (bS.trans hc) λq b e=>by have:=W q b;omega).ab bW λq b e=>by have:=W q b;omega
 have fE:B.cell? (Addr.add ⟨lb,0,none⟩ 4)=some (.int .i64 a.dK):=by rw[aw];exact G.v.cell
 refine⟨⟨_,rfl,a.dK,fE,λz=>⟨⟨_,by rw[aw];exact T.cell,λbb=>?_,λbb=>?_⟩⟩,λz=>fin B a hC [] [] (.refl _ _) G (.inl ?_)⟩⟩
 .have V:=bB z
  have bc:u.map<secs.length:=by rw[hu];exact x5 secs 2 (by rw[←F];exact V)
  have c2:=bB bb;refine⟨_,T.cell,_,by rw[aw];exact T.cell,(Kz G (u.root:Nat) (u.aD:Nat)).use ?_⟩;rintro _ c3 ⟨rfl,a',aL,bX,bY,b0,g,hc⟩;have M:aa (λq=>q=lb\/q=m) B c3:=hc.mono λq _ e=>e.elim .inl λe=>e.elim .inr λe=>absurd e (S q);have c4:=T.ab M I;refine⟨rfl,_,by rw[aw];exact c4.cell,(EG g bc (λx hx=>g.jk.2.2 x (g.jk.2.1 x hx)) (b0.e3.trans aY)).use ?_⟩;rintro _ be ⟨rfl,bi,bj⟩;exact⟨rfl,fin be _ aL bX bY (M.trans (bj.mono λq _ e=>.inl e)) bi (.inr ⟨by rw[E];exact V,a',bX,bY,.inl ⟨by rw[E];show 0<u.aD;omega,by rw[E];exact b0⟩,by rw[E]⟩)⟩
 .have V:=bB z
  have bc:u.map<secs.length:=by rw[hu];exact x5 secs 2 (by rw[←F];exact V)
  have c2:=bT bb;refine⟨_,by rw[aw];exact T.cell,(EG G bc (λx hx=>by cases hx) aY).use ?_⟩;rintro _ be ⟨rfl,bi,bj⟩;exact⟨rfl,fin be _ hC [] [] (bj.mono λq _ e=>.inl e) bi (.inr ⟨by rw[E];exact V,a,[],[],.inr ⟨by rw[E];show u.aD=0;omega,by rw[E],rfl⟩,by rw[E]⟩)⟩
 .have V:=bT z
  rw[E];exact⟨by show a.dK<0;omega,rfl⟩
section
variable {α:Type}{P:Program}{w w':J}{iJ fq T:TypeId}{enc:α->Y}{r m:Nat}{L:O (α×Y×Nat)}{seen:O Nat}
structure lL(w:J)(r m:Nat)(enc:α->Y)(L:O (α×Y×Nat))(seen:O Nat):Prop where
 it:∃a:Nat,w.heap[r]? =some (.mapIter (some m) a seen.toArray a)/\w.heap[m]? =some (.map (L.map (dR enc)).toArray a)/\∀x∈L,x.2.2<a
 bu:(L.map (·.2.2)).Nodup
def gO(L:O (α×Y×Nat))(seen:O Nat):O (α×Y×Nat):=L.filter λx=> !seen.contains x.2.2
theorem EN(P:Program){n:Nat}(b:1<=n)(w:J):∃ (i:Nat) (w':J),i<n/\(choose (.mapNext n)).run P w=.ok i w'/\(w'=w\/w'=w.drew):=by
 by_cases h:n<=1
 .refine⟨0,w,I,?_,.inl rfl⟩
  show Sem.run P (.choose (.mapNext n) .pure) w=_;have a:(Question.mapNext n).forced=true:=by simp[Question.forced,h]
  simp only[Sem.run,a,if_true]
 .refine⟨(Question.mapNext n).cut (w.tape w.drawn (.mapNext n)),w.drew,gu _ I,?_,.inr rfl⟩
  show Sem.run P (.choose (.mapNext n) .pure) w=_;have a:(Question.mapNext n).forced=false:=by simp[Question.forced,h]
  simp only[Sem.run,a,gr,if_false];rfl
theorem AF{a:an Nat}{b d:Nat}{c:Array Nat}(h:w.heap[r]? =some (.mapIter a b c d)):(getObj r).run P w=.ok (.mapIter a b c d) w:=by simp[getObj,Sem.run,h]
theorem KF{a:an Nat}{b d:Nat}{c:Array Nat}(h:w.heap[r]? =some (.mapIter a b c d))(e:Obj):(setObj r e).run P w=.ok () (jA w r e):=by simp[setObj,Sem.run,h,jA]
theorem lL.begin{M:O (α×Y)}(h:dd w m enc M){T:TypeId}{iJ fq:TypeId}(b:P.underlying T=some (.map iJ fq)):∃ (L:O (α×Y×Nat)) (w1:J),(L.map l0).Perm M/\(Instr.range T (.map (some m))).run P w=.ok (.pointer (some w)) w1/\lL w1 w m enc L []/\Ext w w1/\w1.heap.size=w+1:=by
 have aB:=h.lt;obtain⟨L,a,h1,c,f,d,e⟩:=h;refine⟨L,w.alloc (.mapIter (some m) a #[] a),c,?_,⟨⟨a,?_,?_,e⟩,d⟩,aa.alloc (.refl _ _) _,by simp⟩
 .simp only[Instr.range,Sem.run_bind,dh b,Result.andThen,ng h1,Sem.run_pure,newObj,Sem.run]
  rfl
 .show(w.heap.push _)[w.heap.size]? =_
  simp
 .show(w.heap.push _)[m]? =_
  rw[Array.getElem?_push_lt aB];exact(Array.getElem?_eq_getElem aB).symm.trans h1
theorem lL.next(h:lL w r m enc L seen)(F:r≠m)(T:TypeId):
 (gO L seen=[]/\∃w1,(Instr.next (.pointer (some r)) false T).run P w=.ok (.tuple #[false]) w1/\Ext w w1/\w1.heap=w.heap)\/
 (∃x∈gO L seen,∃w1,(Instr.next (.pointer (some r)) false T).run P w=.ok (.tuple #[true,enc x.1,x.2.1]) w1/\lL w1 r m enc L (seen++ [x.2.2])/\aa (λq=>q=r) w w1/\w1.heap.size=w/\(Instr.entry (.pointer (some r))).run P w1=.ok (.tuple #[enc x.1,x.2.1]) w1):=by
 obtain⟨⟨a,h1,d,f⟩,k⟩:=h;have o:(!seen.toArray.isEmpty&& !((L.map (dR enc)).toArray).isEmpty&&((L.map (dR enc)).toArray).all λe=>decide (e.born>=a))=false:=by
  cases L with
  |nil=>simp
  |cons x L=>
   have:¬a<=x.2.2:=by have:=f x U9;omega
   simp[dR,this]
 have g:((L.map (dR enc)).toArray.filter λe=> !seen.toArray.contains e.born)=((gO L seen).map (dR enc)).toArray:=by
  rw[List.filter_toArray,List.filter_map]
  congr 1
  unfold gO
  congr 1
  apply List.filter_congr;intro x _;simp only[Function.comp,dR,List.contains_toArray]
 have aB:∀x∈gO L seen,x.2.2<a:=λx hx=>f x (j4.1 hx).1;have hold:(((gO L seen).map (dR enc)).toArray.filter λe=>decide (e.born<a))=((gO L seen).map (dR enc)).toArray:=by
  rw[List.filter_toArray,mZ.2];intro e he;obtain⟨x,hx,rfl⟩:=df.1 he;exact dm (aB x hx)
 have j:(((gO L seen).map (dR enc)).toArray.filter λe=>decide (e.born>=a))= #[]:=by
  rw[List.filter_toArray,sx.2];intro e he;obtain⟨x,hx,rfl⟩:=df.1 he;have:=aB x hx;have G:¬a<=x.2.2:=by omega
  simp[dR,G]
 cases b:gO L seen with
 |nil=>
  rw[b]at g hold j;obtain⟨i,w1,hi,hc,c⟩:=EN P (n:=1) (a_ _) w;have H:i=0:=by omega
  subst H;refine .inl ⟨rfl,w1,?_,?_,?_⟩
  .simp only[Instr.next,Sem.run_bind,AF h1,Result.andThen,ng d,o,gr,if_false,g,hold,j]
   simp only[o3,Array.isEmpty,sJ,ic,decide_true,if_true];have e:(#[none]++((#[]:Array MapEntry)++ #[]).map some:Array (an MapEntry)).size=1:=by simp
   have p:((#[none]++((#[]:Array MapEntry)++ #[]).map some:Array (an MapEntry)))[0]? =some none:=by simp
   simp only[e,Sem.run_bind,hc,Result.andThen,p,Sem.run_pure,Sem.run_pure]
  .rcases c with rfl|rfl
   .exact .refl _ _
   .exact aa.drew (.refl _ _)
  .rcases c with rfl|rfl<;>rfl
 |cons y l=>
  right;rw[←b];have A:1<=(gO L seen).length:=by rw[b];simp
  obtain⟨i,w1,hi,hc,c⟩:=EN P (n:=(gO L seen).length) A w;have s:w1.heap=w.heap:=by rcases c with rfl|rfl<;>rfl
  obtain⟨x,hx⟩:=U6 ((gO L seen)[i]);have t:x∈gO L seen:=by rw[hx];exact cg _
  have B:x∈L:=(j4.1 t).1;have C:w1.heap[r]? =some (.mapIter (some m) a seen.toArray a):=by rw[s];exact h1
  have I:r<w1:=(mi.1 C).1;have u:(jA w1 r (.mapIter (some m) a (seen.toArray.push x.2.2) a)).heap[r]? =some (.mapIter (some m) a (seen++ [x.2.2]).toArray a):=by
   rw[vl I];simp
  have v:(jA w1 r (.mapIter (some m) a (seen.toArray.push x.2.2) a)).heap[m]? =some (.map (L.map (dR enc)).toArray a):=by
   have D:w1.heap[m]? =some (.map (L.map (dR enc)).toArray a):=by rw[s];exact d
   rw[(s_ w1 r _).block m (mi.1 D).1 (λe=>F e.symm)];exact D
  refine⟨x,t,jA w1 r (.mapIter (some m) a (seen.toArray.push x.2.2) a),?_,⟨⟨a,u,v,f⟩,k⟩,?_,?_,?_⟩
  .simp only[Instr.next,Sem.run_bind,AF h1,Result.andThen,ng d,o,gr,if_false,g,hold,j]
   have J:((gO L seen).map (dR enc)).toArray.isEmpty=false:=by rw[b];rfl
   have e:((#[]:Array (an MapEntry))++(((gO L seen).map (dR enc)).toArray++ #[]).map some).size=(gO L seen).length:=by simp
   have p:((#[]:Array (an MapEntry))++(((gO L seen).map (dR enc)).toArray++ #[]).map some)[i]? =some (some (dR enc x)):=by
    simp[hi,hx]
   simp only[J,gr,if_false,e,Sem.run_bind,hc,Result.andThen,p,KF C,Sem.run_pure,dR]
  .have K:aa (λq=>q=r) w w1:=by
    rcases c with rfl|rfl
    .exact .refl _ _
    .exact aa.drew (.refl _ _)
   exact K.trans (s_ _ _ _)
  .rw[vk,s]
  .have M:(seen++ [x.2.2]).toArray.back? =some x.2.2:=by simp
   have hf:((L.map (dR enc)).toArray.find? λe=>e.born==x.2.2)=some (dR enc x):=by
    rw[List.find?_toArray,List.find?_map];have:L.find? ((λe:MapEntry=>e.born==x.2.2)∘dR enc)=some x:=by
     clear b A hi hc t hx u v g hold j aB o d f
     induction L with
     |nil=>cases B
     |cons z L N=>
      rw[iX]at k;obtain⟨bL,bz⟩:=qv.1 k;rw[List.find?_cons];rcases cN.1 B with rfl|E
      .simp[dR]
      .have O:z.2.2≠x.2.2:=λe=>bL (by rw[e];exact df.2 ⟨x,E,rfl⟩)
       have:((λe:MapEntry=>e.born==x.2.2)∘dR enc) z=false:=by simp[dR,O]
       rw[this];exact N bz E
    rw[this];rfl
   have Q:(a !=a)=false:=by simp
   simp only[Instr.entry,Sem.run_bind,AF u,Result.andThen,M,ng v,Q,gr,if_false,hf,Sem.run_pure,dR]
theorem dd.clear{M:O (α×Y)}(h:dd w m enc M){o:TypeId}(b:P.underlying T=some (.map iJ fq)):∃w1,(Builtin.clear_ #[T] o #[.map (some m)]).run P w=.ok (.tuple #[]) w1/\dd w1 m enc ([]:O (α×Y))/\aa (λq=>q=m) w w1/\w1.heap.size=w:=by
 have aB:=h.lt;obtain⟨L,a,h1,c,d,e,f⟩:=h;refine⟨jA w m (.map #[] a),?_,⟨[],a,vl aB _,by simp,by simp,by simp,by simp⟩,s_ _ _ _,vk _ _ _⟩;unfold Builtin.clear_;simp only[sr,nL,Sem.run_bind,dh b,Result.andThen,ng h1,yR h1,Sem.run_pure]
end
theorem EO{lb:Nat}{ls:O bY}{T:TypeId}(h:bp w lb (cl aC ls).toArray T)(hs:∀x∈ls,x.length=256)(hi:i<ls.length){x:bY}(hx:x.length=256):
 c5 w ⟨lb,i*256,none⟩ (aC x)/\bp (setCells w ⟨lb,i*256,none⟩ 0 (aC x)) lb (cl aC (ls.set i x)).toArray T/\aa (λq=>q=lb) w (setCells w ⟨lb,i*256,none⟩ 0 (aC x)):=by
 have a:∀x∈ls,(aC x).length=256:=λx hx=>by rw[dO];exact hs x hx
 have f:=gL (c:=aC) ls a;have b:(aC x).length=256:=by rw[dO];exact hx
 have d:i*256+(aC x).length<=(cl aC ls).toArray.size:=by
  rw[sJ,f,b];omega
 refine⟨bp.cF h _ _ d (jE _),?_,aa.kT (.refl _ _) _ 0⟩;have h0:=bp.j9 (o:=i*256) h (aC x);have h1:=lv (aC x) (cl aC ls).toArray (i*256) d;have g:=Dh a hi x;rw[b]at h1;have j:(g4 (cl aC ls).toArray (i*256) (aC x)).toList=cl aC (ls.set i x):=h1.trans g;have e:g4 (cl aC ls).toArray (i*256) (aC x)=(cl aC (ls.set i x)).toArray:=by rw[←j]
 rw[e]at h0;exact h0
theorem KG{L:O (α×Y×Nat)}{x:α×Y×Nat}(h:x∈gO L seen):(gO L (seen++ [x.2.2])).length<(gO L seen).length:=by
 have e:gO L (seen++ [x.2.2])=(gO L seen).filter λy=> !(y.2.2==x.2.2):=by
  unfold gO;rw[List.filter_filter];apply List.filter_congr;intro y _;rw[ek];simp only[ju,dM,List.contains_eq_mem,fh,cE,dV,beq_eq_false_iff_ne];constructor
  .exact λh=>⟨λa=>h (.inr a),λa=>h (.inl a)⟩
  .rintro⟨h1,a⟩ (b|b)
   .exact a b
   .exact h1 b
 rw[e];exact List.length_filter_lt_length_iff_exists.2 ⟨x,h,by simp⟩
def AG(L:O (α×Y×Nat))(r:Nat)(w:J):Nat:=match w.heap[r]? with
 |some (.mapIter _ _ seen _)=>(gO L seen.toList).length
 |_=>0
theorem lL.left{r:Nat}{enc:α->Y}{L:O (α×Y×Nat)}(h:lL w r m enc L seen):AG L r w=(gO L seen).length:=by
 obtain⟨⟨a,h1,_⟩,_⟩:=h;unfold AG;rw[h1]
theorem lL.ab{r:Nat}{enc:α->Y}{L:O (α×Y×Nat)}(h:lL w r m enc L seen)(hc:aa W w w')(b:¬W r)(c:¬W m):lL w' r m enc L seen:=by
 obtain⟨⟨d,h1,a,e⟩,f⟩:=h;exact⟨⟨d,by rw[hc.block r (mi.1 h1).1 b];exact h1,by rw[hc.block m (mi.1 a).1 c];exact a,e⟩,f⟩
def aS.j0(D:aS):aS:={D with bk:=(List.range D.n).map D.now,waits:=[]}
theorem ur(D:aS):D.j0.n=D.n:=by simp[aS.j0,aS.n]
theorem AH(D:aS)(hi:i<D.n):D.j0.now i=D.now i:=by
 show((List.range D.n).map D.now).getD i []=_;rw[c8 (by simp;exact hi)];simp
def KH(D:aS)(w:J)(v:Y)(w':J):Prop:=
 (D.fl 3=true/\v=.int .i64 3/\cf w' (D.cI 3)/\aa (λq=>q=D.d) w w')\/
 (D.fl 3=false/\v=.int .i64 0/\cf w' (D.cI 3).j0/\aa (bO D) w w')
theorem AI{D:aS}(h:cf w D)(bw:D.aZ<=1000000000):aI aj 59 #[.pointer (some D.d)] w (KH D w):=by
 refine okF (ad.wi (some D.d)) ay.wi func59 ?_;(delta ad.wi af aE bR yX b1 dC aJ mC aQ aO aV y5;dsimp only);refine⟨nofun,λ_=>⟨_,rfl,(zT h (k:=3) (by decide)).use ?_⟩⟩;rintro _ ah ⟨rfl,f,al,bx⟩;obtain⟨bX,p⟩:=U6 (D.cI 3);have aM:bX.d=D.d:=by rw[p];rfl
 have bA:bX.lb=D.lb:=by rw[p];rfl
 have aN:bX.mr=D.mr:=by rw[p];rfl
 have aP:bX.n=D.n:=by rw[p];rfl
 have aR:bO bX=bO D:=by rw[p];rfl
 have bB:bX.aZ=D.aZ:=by rw[p];rfl
 rw[←p]at f;refine⟨_,rfl,λE=>.inl ⟨E,rfl,by rw[←p];exact f,al⟩,λE=>?_⟩;rw[←aM];have am:=f.bz;obtain⟨L,an,ao,ap,aq,ar,bC⟩:=lL.begin (P:=aj) f.m lG;obtain⟨r,aT⟩:=U6 ah.heap.size;rw[←aT]at ap aq;have aU:r≠bX.mr:=by have:=f.m.lt;omega
 have au:∀q,bO bX q->q≠r:=λq F e=>by have:=f.lt F;omega
 have aW:∀x∈L,∃y∈bX.waits,x.1=(y.i:Int):=λx hx=>by
  have:=ao.mem_iff.1 (df.2 ⟨x,hx,rfl⟩);obtain⟨y,u,e⟩:=df.1 this;refine⟨y,u,?_⟩;have:=congrArg Prod.fst e;exact this.symm
 have aX:∀y∈bX.waits,∃x∈L,x.1=(y.i:Int):=λy u=>by
  have:y.e∈L.map l0:=ao.mem_iff.2 (df.2 ⟨y,u,rfl⟩);obtain⟨x,hx,e⟩:=df.1 this;exact⟨x,hx,congrArg Prod.fst e⟩
 refine⟨_,rfl,some bX.mr,f.fW,_,an,ap,λw'=>∃ (seen:O Nat) (ls:O bY),lL w' r bX.mr encZ L seen/\cf w' {bX with bk:=ls}/\ls.length=bX.n/\(∀ (j:Nat) (G:j<ls.length),ls[j]=if ∃x∈L,x.2.2∈seen/\x.1=(j:Int) then bX.now j else bX.bk.getD j [])/\aa (λq=>bO bX q) ah w'/\an.heap.size<=w'.heap.size,
  AG L r,⟨[],bX.bk,aq,f.ext ar,rfl,λj G=>?_,aa.da ar,a_ _⟩,?_⟩
 .rw[if_neg (by rintro⟨x,_,h1,_⟩;cases h1),c8 G]
 rintro av ⟨seen,ls,S,A,B,jz,K,bD⟩;have T:∀s∈ls,s.length=256:=A.sl;have bE:r<av.heap.size:=by omega
 have aY:bX.lb≠r:=au _ (.inr (.inl rfl));rcases S.next (P:=aj) aU 0 with ⟨a0,a4,U,ax,bF⟩|⟨x,hx,M,U,a5,az,bG,a6⟩
 .
  refine .inr ⟨a4,U,nofun,λ_=>?_⟩;have N:=A.ext ax;obtain⟨a7,a8,a9,V,bH⟩:=dd.clear (P:=aj) (o:=0) N.m lG;refine⟨_,rfl,some bX.mr,N.fW,_,a7,a8,.inr ⟨E,rfl,?_,?_⟩⟩
  .have ba:∀x∈L,x.2.2∈seen:=λx hx=>by
    have:=sx.1 a0 x hx;simpa using this
   have bb:ls=(List.range D.n).map D.now:=by
    refine List.ext_getElem (by simp[B,aP]) λj h1 t=>?_;rw[jz j h1,List.getElem_map,List.getElem_range];have W:D.now j=bX.now j:=by rw[p];rfl
    rw[W];split
    .rfl
    .rename_i bc
     unfold aS.now
     cases hf:bX.waits.find? λx=>x.i==j with
     |some y=>
      exfalso;have u:=jL hf;have bd:y.i=j:=by simpa using kP hf
      obtain⟨x,hx,e⟩:=aX y u;exact bc ⟨x,hx,ba x hx,by rw[e,bd]⟩
     |none=>rfl
   have X:bX.d≠bX.mr:=f.a1.2.1;have be:bX.lb≠bX.mr:=f.a1.2.2;have e:(D.cI 3).j0={bX with bk:=ls,waits:=[]}:=by
    rw[bb,p];rfl
   rw[e];refine⟨N.v.ab V X,bp.ab N.l V be,a9,λx hx=>(by cases hx),λx hx=>(by cases hx),T,λx hx=>(by cases hx),?_,?_,A.f4,A.fr,A.a1,λx hx=>(by cases hx),λx hx=>(by cases hx),A.r⟩
   .show 16<=ls.length;rw[B];exact f.bL
   .show ls.length<=1600;rw[B];exact am
  .have bf:bO D D.d:=.inl rfl
   have hc:aa (λq=>bO D q) w ah:=al.mono λq _ e=>by rw[e];exact bf
   have K:aa (λq=>bO D q) ah av:=by rw[←aR];exact K
   have bg:=cn hc K λq _ h=>h;have bh:=cn bg ax λq _ h=>h.elim;exact cn bh V λq _ bi=>by rw[bi,aN];exact .inr (.inr (.inl rfl))
 .
  have Y:x∈L:=(j4.1 hx).1;have bI:x.2.2∉seen:=by
   have:=(j4.1 hx).2;simpa using this
  obtain⟨y,u,Z⟩:=aW x Y;have bj:=A.ab az λq F=>au q F;have hi:y.i<bX.n:=(f.wn y u).2.1;have bl:y.i<ls.length:=by omega
  refine .inl ⟨_,_,M,U,λ_=>⟨(y.i:Int),x.2.1,M,?_,?_⟩,nofun⟩
  .rw[a6]
   have e:encZ x.1=y.i:=by rw[Z]
   rw[e]
  have aA:=cc M;have ac:=bj.ext aA;have bm:({bX with bk:=ls}:aS).n=bX.n:=B;refine aH ⟨λ_=>False,_,rfl,id,⟨some bX.lb,ls.length,ls.length⟩,ac.fE,(Di (i:=y.i) ac (by rw[bm];exact hi) (by show bX.aZ<=_;omega)).use ?_⟩;rintro _ Q ⟨rfl,ae⟩;have g:=ac.ext ae;have W:({bX with bk:=ls}:aS).now y.i=bX.now y.i:=by
   unfold aS.now
   cases hf:bX.waits.find? λx=>x.i==y.i with
   |some z=>rfl
   |none=>
    have:=kn.1 hf y u;simp at this
  have ag:(bX.now y.i).length=256:=f.nA hi;rw[W];have ak:Addr.add bX.lb (Int.toNat (y.i:Int)*256)=⟨bX.lb,y.i*256,none⟩:=by rw[cS,aw,cT]
  obtain⟨bJ,b4,bn⟩:=EO g.l T bl ag;refine⟨_,rfl,ae,_,rfl,⟨I,by show(y.i:Int)<(ls.length:Int);omega⟩,by rw[ak];exact bJ,by simp[dO,ag],?_⟩;rw[ak];refine aH ?_;show _/\_;have aB:bp (setCells Q ⟨bX.lb,y.i*256,none⟩ 0 (aC (bX.now y.i)).toArray.toList) bX.lb (cl aC (ls.set y.i (bX.now y.i))).toArray 151:=b4;have C:aa (λq=>q=bX.lb) Q (setCells Q ⟨bX.lb,y.i*256,none⟩ 0 (aC (bX.now y.i)).toArray.toList):=bn;generalize setCells Q ⟨bX.lb,y.i*256,none⟩ 0 (aC (bX.now y.i)).toArray.toList=aD at aB C;have ai:=Ext.trans aA ae;have aF:=(a5.ab ai id id).ab C (λe=>aY e.symm) λe=>f.a1.2.2 e.symm;have bo:aa (λq=>bO bX q) ah aD:=by
   have h1:aa (λq=>bO bX q) ah M:=cn K az λq F e=>by omega
   have t:=cn h1 ai λq _ h=>h.elim;exact cn t C λq _ e=>by rw[e];exact .inr (.inl rfl)
  have bK:=ai.size;have bM:=C.size;have bq:cf aD {bX with bk:=ls.set y.i (bX.now y.i)}:=by
   have X:bX.d≠bX.lb:=f.a1.1;refine⟨?_,aB,g.m.ab C λe=>f.a1.2.2 e.symm,λx hx=>(g.ws x hx).ab C λq F e=>(g.a2 x hx).2.1 (by rw[←e];exact F),?_,λs hs=>?_,g.jX,?_,?_,g.f4,g.fr,g.a1,g.a2,g.a3,g.r⟩
   .have h1:=g.v.ab C X
    have e:({bX with bk:=ls.set y.i (bX.now y.i)}:aS).c=({bX with bk:=ls}:aS).c:=by unfold aS.c;simp
    rw[e];exact h1
   .intro z br
    have:=g.wn z br;refine⟨this.1,?_,this.2.2⟩;show z.i<(ls.set y.i (bX.now y.i)).length;rw[c_];exact this.2.1
   .rcases mx hs with h1|rfl
    .exact T s h1
    .exact ag
   .show 16<=(ls.set y.i (bX.now y.i)).length;rw[c_,B];exact f.bL
   .show(ls.set y.i (bX.now y.i)).length<=1600;rw[c_,B];exact am
  refine⟨⟨seen++ [x.2.2],_,aF,bq,by rw[c_];exact B,λj G=>?_,bo,I⟩,?_⟩
  .rw[c_]at G
   rw[uJ];split
   .rename_i e
    subst e;rw[if_pos ⟨x,Y,by simp,Z⟩]
   .rename_i bs
    rw[jz j G];have:(∃H∈L,H.2.2∈seen/\H.1=(j:Int))↔∃H∈L,H.2.2∈seen++ [x.2.2]/\H.1=(j:Int):=by
     constructor
     .rintro⟨z,h1,t,R⟩
      exact⟨z,h1,kl _ t,R⟩
     .rintro⟨z,h1,t,R⟩
      rcases cE.1 t with t|t
      .exact⟨z,h1,t,R⟩
      .have bt:z=x:=by
        have aG:=S.bu;obtain⟨a,aK,rfl⟩:=eO h1;obtain⟨b,E,rfl⟩:=eO Y;have aL:=dV.1 t;have bv:a=b:=by
         rcases Nat.lt_trichotomy a b with h|h|h
         .have:=lT.1 aG a b (by simpa using aK) (by simpa using E) h
          simp at this;exact absurd aL this
         .exact h
         .have:=lT.1 aG b a (by simpa using E) (by simpa using aK) h
          simp at this;exact absurd aL.symm this
        subst bv;rfl
       rw[bt,Z]at R;exact absurd I bs
    simp only[this]
  .rw[aF.left,S.left]
   exact KG hx
structure gB where
 al:Nat
 batch:Nat
 hG:Nat
def gB.c(l:gB):O Y:=[l.al,l.batch,.int .u64 (l.hG:Nat)]
def me(f b d:Int):Prop:=8<=f/\f<=64/\1<=b/\b<=1000/\1<=d/\d<=1048576
instance Mh(f b d:Int):Decidable (me f b d):=by unfold me;infer_instance
section
variable {w w':J}{D:aS}
theorem pB(w:J)(p:an ax)(f b d:Int):aI aj 53 #[.pointer p,.agg #[f,b,.int .u64 d]] w (λv w'=>v=.bool (!(Option.isNone p)&&decide (me f b d))/\Ext w w'):=by
 refine okF (ad.pB p f b d) ay.pB func53 ?_;(delta ad.pB aF af r1 ae aT bZ c0;dsimp only);refine bg (vs:=[f,b,.int .u64 d]) rfl λw1 c hx hs=>?_;refine cx (λx w'=>x=(!(Option.isNone p)&&decide (8<=f))/\w1=w') (λq a=>⟨λh=>⟨f,c.cell,a _ _ ⟨by rw[h,j3],rfl⟩⟩,λh=>a _ _ ⟨by rw[h,m5],rfl⟩⟩) ?_;rintro e _ ⟨h1,rfl⟩;refine cx (λx w'=>x=(e&&decide (f<=64))/\w1=w') (λq a=>⟨λh=>⟨f,c.cell,a _ _ ⟨by rw[h,j3],rfl⟩⟩,λh=>a _ _ ⟨by rw[h,m5],rfl⟩⟩) ?_;rintro g _ ⟨i,rfl⟩;refine cx (λx w'=>x=(g&&decide (1<=b))/\w1=w') (λq a=>⟨λh=>⟨b,c.cell,a _ _ ⟨by rw[h,j3],rfl⟩⟩,λh=>a _ _ ⟨by rw[h,m5],rfl⟩⟩) ?_;rintro j _ ⟨k,rfl⟩;refine cx (λx w'=>x=(j&&decide (b<=1000))/\w1=w') (λq a=>⟨λh=>⟨b,c.cell,a _ _ ⟨by rw[h,j3],rfl⟩⟩,λh=>a _ _ ⟨by rw[h,m5],rfl⟩⟩) ?_;rintro l _ ⟨m,rfl⟩;refine cx (λx w'=>x=(l&&decide (1<=d))/\w1=w') (λq a=>⟨λh=>⟨d,c.cell,a _ _ ⟨by rw[h,j3],rfl⟩⟩,λh=>a _ _ ⟨by rw[h,m5],rfl⟩⟩) ?_;rintro n _ ⟨o,rfl⟩;refine cx (λx w'=>x=(n&&decide (d<=1048576))/\w1=w') (λq a=>⟨λh=>⟨d,c.cell,a _ _ ⟨by rw[h,j3],rfl⟩⟩,λh=>a _ _ ⟨by rw[h,m5],rfl⟩⟩) ?_;rintro s _ ⟨r,rfl⟩;refine⟨?_,hx⟩;rw[r,o,m,k,i,h1,Value.bool.injEq,ek];simp only[dM,cq,and_assoc];exact kO
theorem x6{D:aS}{s:U}{l:bY}{N:Nat}(a:∀q,ar s q->bO D q\/N<=q):∀q,bO (D.put no s l) q->bO D q\/N<=q:=by
 rintro q (e|e|e|⟨x,hx,e⟩)
 .exact .inl (.inl e)
 .exact .inl (.inr (.inl e))
 .exact .inl (.inr (.inr (.inl e)))
 .rcases cN.1 hx with rfl|hx
  .exact a q e
  .exact .inl (.inr (.inr (.inr ⟨x,(j4.1 hx).1,e⟩)))
def KI(D:aS)(u:cD)(gen:Nat)(w:J)(v:Y)(w':J):Prop:=
 aa (bO D) w w'/\((D.fl 2=true/\v=.int .i64 3/\cf w' (D.cI 2))\/
 (D.fl 2=false/\∃s:U,(∀q,ar s q->bO D q\/w<=q)/\∃bX:aS,bX=D.put (gen%2) s (eA (gen%2) (jG u D.n gen))/\
   ((bX.fl 3=true/\v=.int .i64 3/\cf w' (bX.cI 3))\/(bX.fl 3=false/\v=.int .i64 0/\cf w' (bX.cI 3).j0))))
theorem om(h:cf w D)(P:D.aZ<=999999999){u:cD}(hu:oJ u){gen:Nat}(hg:gen<18446744073709551616):
 aI aj 60 #[.pointer (some D.d),.agg u.c.toArray,.int .u64 (gen:Nat)] w (KI D u gen w):=by
 have Q:=h.bL;have R:=h.bz;refine ad.GQ _ (u.root:Nat) (u.aD:Nat) (u.map:Nat) (u.clock:Nat) (u.dI:Nat) (u.keys:Nat) (gen:Nat) w _ ?_;(delta ad.om aF b1 ae r1 aT bZ c0 b5 bU dY ai af;dsimp only);have A:IntKind.wrap .i64 (Int.tmod (gen:Int) 2)=((gen%2:Nat):Int):=by
  rw[nT I,bl I I];omega
 refine bg (vs:=u.c) rfl λw1 B j S=>⟨by decide,?_⟩;have a:=cc w1;have C:=B.ext a;have E:=h.ext (j.trans a);refine aH ⟨λ_=>False,id,fe C ((oI E).use ?_)⟩;rintro _ _ ⟨rfl,rfl⟩;refine⟨_,rfl,aa.refl _ _,(q_ hu (n:=D.n) I).use ?_⟩;rintro _ F ⟨k,rfl,G,t,T⟩;rw[A];refine⟨k,rfl,λ_=>False,#[(3:Int),.int .u64 (gen:Nat),k],λU=>by kernel_rfl,(xz (s:=k) (p:=jG u D.n gen) G.src I (zW hg)).use ?_⟩;rintro _ V ⟨H,rfl,J,v,K⟩;have b:=(j.trans a).trans (Ext.trans t v);have L:=h.ext b;have W:=b.size;have M:(eA (gen%2) (jG u D.n gen)).length=256:=tQ _ (zW hg);have X:w.heap.size<=F.heap.size:=by have:=(j.trans a).size;have:=t.size;omega
 refine⟨H,0,rfl,v,nofun,λ_=>(xL L (i:=gen%2) I I J.src M λq f hf=>by have:=K q f;have:=h.lt hf;omega).use ?_⟩;rintro _ N (⟨g,rfl,hd,hc⟩|⟨g,rfl,s,hd,hc,x⟩)
 .exact⟨3,rfl,λ_=>⟨cn (b.mono λ_ _ h=>h.elim) hc λq _ e=>by rw[e];exact .inl rfl,.inl ⟨g,rfl,hd⟩⟩,nofun⟩
 .have y:aa (bO D) w N:=cn (b.mono λ_ _ h=>h.elim) hc λq _ e=>e
  have O:=x6 (no:=gen%2) (l:=eA (gen%2) (jG u D.n gen)) x;refine⟨0,rfl,nofun,λ_=>(AI hd (by show D.aZ+1<=_;omega)).use ?_⟩;have z:∀q,ar s q->bO D q\/w.heap.size<=q:=λq f=>(x q f).imp id λh=>by omega
  rintro _ Y (⟨m,rfl,o,r⟩|⟨m,rfl,o,r⟩)
  .exact⟨3,rfl,cn y r λq _ e=>by rw[e];exact .inl rfl,.inr ⟨g,s,z,_,rfl,.inl ⟨m,rfl,o⟩⟩⟩
  .exact⟨0,rfl,cn y r λq f e=>(O q e).resolve_right I,.inr ⟨g,s,z,_,rfl,.inr ⟨m,rfl,o⟩⟩⟩
end
end Go.Proofs.YtcmgnhkpfllinaaGreat
