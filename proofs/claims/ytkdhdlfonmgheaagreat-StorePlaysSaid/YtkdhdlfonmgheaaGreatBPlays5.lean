/- Contracts of the functions that the statement reaches, and the plain laws over them; each theorem stands with its conditions. -/
import Derived.Shelf.SlIterI.Nil
import Derived.Shelf.SortM.Plain
import Derived.Shelf.SortM.SortNone
import Derived.Test.YtkdhdlfonmgheaaGreatProg
import Derived.Test.YtkdhdlfonmgheaaGreatBPlays4
namespace Go.Proofs.YtkdhdlfonmgheaaGreat
open Go a6 Go.Proofs.Tryz
theorem Cb{l:O aH}{k:Key}(h:(ei l k).length=l.length):∀p∈l,p.1≠k:=by
 intro p a;unfold ei at h;have:=(jQ (p:=λp:aH=>decide (p.1≠k))).1 (List.Sublist.eq_of_length List.filter_sublist h);exact b1 (this p a)
theorem Cc{L A B M:O aH}{k:Key}(b:L=A++(M++B))(hu:ei L k=A++(ei M k++B)):ec L k=ec M k:=by
 have h1:(ei A k).length<=A.length:=lV _ _;have h2:(ei B k).length<=B.length:=lV _ _;have c:=congrArg List.length hu;rw[b,pS,pS]at c;simp only[ct]at c;have aq:=Cb (l:=A) (k:=k) I;have d:=Cb (l:=B) (k:=k) I;have e:A.find? (λp=>decide (p.1=k))=none:=iO.2 λp a=>by simpa using aq p a
 have f:B.find? (λp=>decide (p.1=k))=none:=iO.2 λp a=>by simpa using d p a
 unfold ec;rw[b,List.find?_append,List.find?_append,e,f];simp
theorem Cd{n:aB}{k:Key}(h:gQ n):ec n.dF k=if g9 n.keys k then n.vals[cL n.keys k]? else none:=by
 have s:=pV n.keys k;have w:=h.e4;have t:∀ (j:Nat) (f:j<n.keys.length),j<cL n.keys k->bD n.keys[j] k:=λj f h1=>od h1 f;have u:n.keys[cL n.keys k]? ≠some k->∀ (j:Nat) (f:j<n.keys.length),cL n.keys k<=j->bD k n.keys[j]:=λhe j f h1=>B9 w h1 f he;have l:n.dF=n.keys.zip n.vals:=rfl;unfold g9;rw[l];generalize cL n.keys k=i at s t u⊢;obtain⟨a,b,c,d,g,v,z,A,B,H,J,K,L⟩:=yt h s;have C:n.keys.zip n.vals=a.zip c++b.zip d:=by rw[g,v];exact oc I
 have D:(a.zip c).find? (λp:aH=>decide (p.1=k))=none:=iO.2 λp l=>by
  have q:=(qx l).1;obtain⟨j,f,r⟩:=fb q;have h1:=t j (by rw[g,ct];omega) I;simp only[g,lS f,r]at h1;simpa using ko h1
 unfold ec;rw[C,List.find?_append,D];by_cases he:n.keys[i]? =some k
 .rw[if_pos (by simpa using he)]
  have E:∃m,b=k::m:=by
   cases b with
   |nil=>rw[g,kL I]at he;simp at he
   |cons y m=>
    rw[g,kL I,z,nt]at he;simp at he;exact⟨m,by rw[he]⟩
  obtain⟨m,rfl⟩:=E;obtain⟨x,o,rfl⟩:∃x o,d=x::o:=by
   cases d with
   |nil=>simp at B
   |cons x o=>exact⟨x,o,rfl⟩
  rw[v,kL I,A,nt];simp
 .rw[if_neg (by simpa using he)]
  have F:=u he;have G:(b.zip d).find? (λp:aH=>decide (p.1=k))=none:=iO.2 λp l=>by
   have q:=(qx l).1;obtain⟨j,f,r⟩:=fb q;have h1:=F (i+j) (by rw[g,ct];omega) I;have e:(a++b)[i+j]'(by rw[ct];omega)=b[j]:=by
    rw[nu I];congr 1;omega
   simp only[g,e,r]at h1;have:=ko h1;simpa using λh=>this h.symm
  rw[G];rfl
def yw(T:aL)(L:O aH)(key:Key)(w:J)(v:aa)(w':J):Prop:=
 ∃aD:bZ,bJ w' (T.bg aD T.P)/\bL T (T.bg aD T.P) w w' 30/\(∀j,aD.view j=T.C.view j)/\
  ((v=.tuple #[(),false,(0:Int)]/\(cz key->ec L key=none))\/
   (∃ (t:Y) (x:Key),v=.tuple #[t,true,(0:Int)]/\cz key/\ec L key=some x/\aY (λq=>¬(T.bg aD T.P).M q) w' t x)\/
   (v=.tuple #[(),false,(3:Int)]/\cz key/\¬T.C.D.calm 30))
theorem yx{w:J}{T:aL}{pages:O Nat}{L:O aH}{tk:Y}{key:Key}(h:bJ w T)(S:ga T pages L)(aQ:T.C.D.aO<=800000000)(l:Src 1 w tk (aG key))(v:∀q,az tk q->q<w.heap.size/\¬T.M q):
 aN aj 80 #[.pointer (some T.aX),tk] w (yw T L key w):=by
 have W:=len8 l;have aS:=h.num.2.1;have aT:T.bg T.C T.P=T:=rfl;refine okF (I7.tV (some T.aX) tk) I6.tV func80 ?_;(delta I7.tV ai aF b6 ar a7 af cl U gX aK;dsimp only);refine cj (λb w'=>b= !(decide (cz key))/\w=w') (λq m=>⟨λh=>(by cases h),λ_=>(mV w tk).use ?_⟩) ?_
 .rintro _ _ ⟨rfl,rfl⟩
  refine⟨_,rfl,m _ _ ⟨?_,rfl⟩⟩;unfold cz;rw[W]
 rintro _ _ ⟨rfl,rfl⟩;refine⟨λf=>⟨λh=>(by cases h),λ_=>?_⟩,λf=>?_⟩
 .have:¬cz key:=by simpa using f
  exact⟨T.C,h,(bL.refl T w).mono I,λ_=>rfl,.inl ⟨rfl,λhx=>absurd hx this⟩⟩
 have hg:cz key:=by simpa using f
 obtain⟨steps,x,y⟩:=yu (k:=key) h S;refine(yg h I l v x).use ?_;rintro _ X ⟨aD,n,g,j,Z⟩;rcases Z with ⟨s,a,rfl,d,z⟩|⟨rfl,aa⟩
 rotate_left
 .exact⟨⟨none,0,0⟩,3,rfl,λ_=>⟨aD,n,g.mono I,j,.inr (.inr ⟨rfl,hg,λhc=>aa (f_ hc I)⟩)⟩,λhx=>(by simp at hx)⟩
 have aU:s.len=a.length:=by
  have:=z.own.1;rw[gK _ (nh a)]at this;omega
 have aV:a.length=T.aE:=by
  have:=x.length;rw[←d,dN]at this;exact this
 refine⟨s,0,rfl,λhx=>⟨aD,n,g.mono I,j,.inl ⟨rfl,λ_=>?_⟩⟩,λhx=>?_⟩
 .have ab:a.length=0:=by
   have:(s.len:Int)=0:=by simpa using hx
   omega
  rcases y with ⟨_,_,_,ac⟩|⟨ad,bq,e5,dG,ag,ah,ak,al,bY,_⟩
  .rw[ac];rfl
  .rw[bY]at d
   obtain⟨au,_⟩:=qd d;omega
 have ab:0<a.length:=by
  have:¬(s.len:Int)=0:=by simpa using hx
  omega
 have e:IntKind.wrap .i64 ((s.len:Int)-1)=((a.length-1:Nat):Int):=by rw[bu I I];omega
 obtain⟨A,aq,_,_,_,hu⟩:=z.at (i:=a.length-1) I;rcases y with ⟨h1,_⟩|⟨ad,bq,e5,dG,ag,ah,ak,al,bY,af,bl,a7,aZ,a0,a1,a2,a3,am,an⟩
 .rw[h1]at d
  have:=congrArg List.length d;simp at this;omega
 have B:=d;rw[bY]at B;obtain⟨au,aw⟩:=qd B;rw[e,c8];generalize a4:(a[a.length-1]'I)=u at hu aw;obtain⟨a5,un,a6,K,V,D⟩:=u;obtain rfl:un=bq:=aw;refine⟨A,aq,⟨I,I⟩,_,hu.ay,K,hu.aR,V,hu.aF,D,hu.c9,bd (vs:=[false,(),(),()]) rfl λa8 E ao a9=>⟨E.b9 rfl fD,rfl,cu E (us:=dM un K V D) rfl rfl λo F ap a_=>?_⟩⟩;have p:Ext X o:=Ext.cm ao ap (bn _);obtain⟨d0,d1,d2,d3⟩:=bC F;have ba:=(cC.eG (.inl a7) (by have:=h.nj _ _ bl;omega));have av:Src 1 o tk (aG key):=(l.ae g.ae λq m ax=>(v q m).2 (aL.gh ax)).ext p;have G:bz (λq=>w.heap.size<=q/\¬(T.bg aD T.P).M q) o un K V D:=hu.bk.ext p;refine⟨_,d0,K,d1,V,d2,D,d3,(pC G av a7.e4 I).use ?_⟩;rintro _ aA ⟨rfl,r⟩;have H:=p.trans r;have N:=n.ext H;have Q:bL T (T.bg aD T.P) w aA 30:=(g.trans (bL.ext _ H)).mono I;have t:ec L key=ec un.dF key:=Cc am (an (λL=>ei L key) (xo key));rw[Cd a7]at t;refine⟨_,_,rfl,λc=>⟨aD,N,Q,j,.inl ⟨rfl,λ_=>?_⟩⟩,λc=>?_⟩
 .have c:g9 un.keys key=false:=by simpa using c
  rw[t,if_neg (by rw[c];simp)]
 .have c:g9 un.keys key=true:=by simpa using c
  have aB:cL un.keys key<un.keys.length:=(im.1 (b1 c)).1;have R:cL un.keys key<un.vals.length:=by rw[a7.len];exact aB
  obtain⟨f0,f1,f2,f3⟩:=bC (F.ext r);obtain⟨aC,de,aI,aJ,aM,aP,_⟩:=bj.at (G.ext r).vals R;refine⟨V,f2,aC,aI,aJ,de,aM,aD,N,Q,j,.inr (.inl ⟨de,un.vals[cL un.keys key],rfl,hg,?_,aY.aW aP λq _ f=>f.2⟩)⟩;rw[t,if_pos c,du R]
theorem G7{n:aB}{k:Key}(h:gQ n)(w:g9 n.keys k=true):gQ (lE n k)/\(lE n k).dF=ei n.dF k/\bF (lE n k)<=bF n/\n.keys.length=(lE n k).keys.length+1/\(∀s∈(lE n k).keys,s∈n.keys):=by
 have o:=pV n.keys k;have A:=h.e4;have l:n.dF=n.keys.zip n.vals:=rfl;have he:n.keys[cL n.keys k]? =some k:=b1 w;rw[l];unfold lE;generalize cL n.keys k=i at o he⊢;obtain⟨a,b,c,d,j,m,q,B,r,C,H,D,J⟩:=yt h o;have g:n.keys.zip n.vals=a.zip c++b.zip d:=by rw[j,m];exact oc I
 have E:∃e,b=k::e:=by
  cases b with
  |nil=>rw[j,kL I]at he;simp at he
  |cons y e=>
   rw[j,kL I,q,nt]at he;simp at he;exact⟨e,by rw[he]⟩
 obtain⟨e,rfl⟩:=E;obtain⟨x,f,rfl⟩:∃x f,d=x::f:=by
  cases d with
  |nil=>simp at r
  |cons x f=>exact⟨x,f,rfl⟩
 have au:n.keys.drop (i+1)=e:=by rw[j,show a++k::e=(a++ [k])++e by simp];exact drop_left' (by simp[q])
 have aw:n.vals.drop (i+1)=f:=by rw[m,show c++x::f=(c++ [x])++f by simp];exact drop_left' (by simp[B])
 rw[C,D,au,aw];have F:(a++k::e).Pairwise bD:=by rw[←j];exact A
 obtain⟨fH,dA,t⟩:=mF.1 F;have u:=jt.1 dA;have v:∀z,z∈a++e->z∈n.keys:=λz g=>by
  rw[j];simp only[cP,cS]at g⊢;rcases g with h1|h1
  .exact .inl h1
  .exact .inr (.inr h1)
 refine⟨⟨⟨λz g=>h.ok z (v z g),mF.2 ⟨fH,u.2,λy G z g=>t y G z (jO _ g)⟩⟩,h.leaf,?_,h.kids,λz g=>h.vals z ?_⟩,?_,?_,?_,v⟩
 .show(c++f).length=(a++e).length
  simp only[ct,e1]at r⊢;omega
 .rw[m]
  have g:z∈c++f:=g;simp only[cP,cS]at g⊢;rcases g with h1|h1
  .exact .inl h1
  .exact .inr (.inr h1)
 .show(a++e).zip (c++f)=_
  rw[g,oc I,pS,List.zip_cons_cons];have f1:ei (a.zip c) k=a.zip c:=ob λp l=>ko (t _ (qx l).1 k List.mem_cons_self);have f2:ei ((k,x)::e.zip f) k=e.zip f:=by
   have:ei ((k,x)::e.zip f) k=ei (e.zip f) k:=by unfold ei;simp
   rw[this];exact ob λp l=>(ko (u.1 _ (qx l).1)).symm
  rw[f1,f2]
 .rw[qc h.leaf,qc (n:={n with keys:=a++e,vals:=c++f}) h.leaf]
  show 1+(List.zipWith j7 (a++e) (c++f)).sum<=_;rw[j,m,oS I,oS I,lf,lf,List.zipWith_cons_cons,qz];omega
 .show n.keys.length=(a++e).length+1
  rw[j];simp only[ct,e1];omega
structure iY(T an:aL):Prop where
 root:an.root=T.root
 aE:an.aE=T.aE
 f:an.f=T.f
 eF:∀no,(T.f no||T.g no)=true->an.P no=T.P no/\an.C.view no=T.C.view no
theorem iY.refl(T:aL):iY T T:=⟨rfl,rfl,rfl,λ_ _=>⟨rfl,rfl⟩⟩
theorem iY.bg{T:aL}{aD:bZ}(a:∀j,aD.view j=T.C.view j):iY T (T.bg aD T.P):=⟨rfl,rfl,rfl,λno _=>⟨rfl,a no⟩⟩
theorem iY.trans{T an a:aL}(h1:iY T an)(h2:iY an a)(hg:an.g=T.g):iY T a:=
 ⟨h2.root.trans h1.root,h2.aE.trans h1.aE,h2.f.trans h1.f,λno h=>by
  have b:=h1.eF no h
  have c:=h2.eF no (by rw[h1.f,hg];exact h)
  exact⟨c.1.trans b.1,c.2.trans b.2⟩⟩
structure Ce(T an:aL)(aI:O Nat)(dT:O aH):Prop where
 ok:∃pages,cc T<=cc an+(2*T.aE+3)/\ga an pages dT/\pages.Nodup/\(∀no∈pages,no∈aI\/(T.f no||T.g no)=false)/\∀no,an.f no=true↔(no∈pages\/(T.f no=true/\no∉aI))
 eF:∀no,T.g no=true->an.P no=T.P no/\an.C.view no=T.C.view no
theorem iY.ok{T an:aL}{pages:O Nat}{L:O aH}(h:iY T an)(a:ga T pages L)(hf:∀x∈pages,T.f x=true):ga an pages L:=by
 unfold ga at a⊢;rw[h.root,h.aE];rcases a with a|b
 .exact .inl a
 .exact .inr (dV.agree b λx hx=>(h.eF x (by rw[hf x hx];rfl)).1.symm).1
def G8(T:aL)(aI:O Nat)(L:O aH)(key:Key)(w:J)(v:aa)(w':J):Prop:=
 ∃an:aL,bJ w' an/\bL T an w w' 100/\an.E=T.E/\an.G=T.G/\
  ((v=.tuple #[false,(1:Int)]/\¬cz key/\iY T an)\/
   (v=.tuple #[false,(0:Int)]/\cz key/\ec L key=none/\iY T an)\/
   (v=.tuple #[false,(2:Int)]/\cz key/\ec L key≠none/\cc T<2*T.aE+3/\iY T an)\/
   (v=.tuple #[true,(0:Int)]/\cz key/\ec L key≠none/\2*T.aE+3<=cc T/\Ce T an aI (ei L key))\/
   (v=.tuple #[false,(3:Int)]/\cz key/\¬T.C.D.calm 100/\iY T an))
theorem G9{w:J}{T:aL}{pages:O Nat}{L:O aH}{tk:Y}{key:Key}(h:bJ w T)(aJ:¬T.C.D.ro)(ac:ga T pages L)(aK:L.length<4096)(c1:pages.Nodup)(hf:∀x∈pages,T.f x=true)(bh:T.C.D.aO<=800000000)
 (Q:Src 1 w tk (aG key)) (ad:∀q,az tk q->q<w.heap.size/\¬T.M q):
 aN aj 83 #[.pointer (some T.aX),tk] w (G8 T pages L key w):=by
 have aM:=len8 Q;have bi:=h.num.2.1;refine okF (I7.tY (some T.aX) tk) I6.tY func83 ?_;(delta I7.tY ai aF b6 ar a7 af iA cl U ay;dsimp only);refine cj (λb w'=>b= !(decide (cz key))/\w=w') (λq m=>⟨λh=>(by cases h),λ_=>(mV w tk).use ?_⟩) ?_
 .rintro _ _ ⟨rfl,rfl⟩
  refine⟨_,rfl,m _ _ ⟨?_,rfl⟩⟩;unfold cz;rw[aM]
 rintro _ _ ⟨rfl,rfl⟩;refine⟨λR=>⟨T,h,(bL.refl T w).mono I,rfl,rfl,.inl ⟨rfl,by simpa using R,.refl T⟩⟩,λR=>?_⟩;have hg:cz key:=by simpa using R
 obtain⟨steps,ag,ah⟩:=yu (k:=key) h ac;refine(yg h I Q ad ag).use ?_;rintro _ aP ⟨aD,r,c,o,g⟩;rcases g with ⟨s,a,rfl,j,S⟩|⟨rfl,aQ⟩
 rotate_left
 .exact⟨⟨none,0,0⟩,3,rfl,λ_=>⟨_,r,c.mono I,rfl,rfl,.inr (.inr (.inr (.inr ⟨rfl,hg,λhc=>aQ (f_ hc I),.bg o⟩)))⟩,λhx=>(by simp at hx)⟩
 have bj:s.len=a.length:=by
  have:=S.own.1;rw[gK _ (nh a)]at this;omega
 have bm:a.length=T.aE:=by
  have:=ag.length;rw[←j,dN]at this;exact this
 refine⟨s,0,rfl,λhx=>⟨_,r,c.mono I,rfl,rfl,.inr (.inl ⟨rfl,hg,?_,.bg o⟩)⟩,λhx=>?_⟩
 .have aS:a.length=0:=by
   have:(s.len:Int)=0:=by simpa using hx
   omega
  rcases ah with ⟨_,_,_,t⟩|⟨ak,bq,e5,dG,al,am,ao,ap,bY,_⟩
  .rw[t];rfl
  .rw[bY]at j
   obtain⟨au,_⟩:=qd j;omega
 have aS:0<a.length:=by
  have:¬(s.len:Int)=0:=by simpa using hx
  omega
 have e:IntKind.wrap .i64 ((s.len:Int)-1)=((a.length-1:Nat):Int):=by rw[bu I I];omega
 obtain⟨A,aq,_,_,_,hu⟩:=S.at (i:=a.length-1) I;rcases ah with ⟨h1,_⟩|⟨ak,bq,e5,dG,al,am,ao,ap,bY,af,bl,a7,aT,bo,aU,bp,aV,aY,av⟩
 .rw[h1]at j
  have:=congrArg List.length j;simp at this;omega
 have F:=j;rw[bY]at F;obtain⟨au,aw⟩:=qd F;rw[e,c8];generalize bs:(a[a.length-1]'I)=u at hu aw;obtain⟨bt,un,bv,K,V,D⟩:=u;obtain rfl:un=bq:=aw;have bx:=(cC.eG (.inl a7) (by have:=h.nj _ _ bl;omega));have aZ:Src 1 aP tk (aG key):=Q.ae c.ae λq m a0=>(ad q m).2 (aL.gh a0);have W:ec L key=ec un.dF key:=Cc aY (av (λL=>ei L key) (xo key));rw[Cd a7]at W;refine⟨A,aq,⟨I,I⟩,_,hu.ay,K,hu.aR,V,hu.aF,D,hu.c9,(pD (n:=un) hu.bk a7 I aZ).use ?_⟩;intro v ax g;unfold p4 at g;by_cases d:g9 un.keys key=true
 rotate_left
 .have d:g9 un.keys key=false:=by simpa using d
  rw[d,if_neg (by simp)]at g;obtain⟨rfl,G⟩:=g;refine⟨_,bc,bc,bc,false,rfl,bd (vs:=[false,(),(),()]) rfl λa1 y X a2=>⟨y.b9 rfl (fD (b:=g8.leaf) (K:=bc) (V:=bc) (D:=bc)),rfl,cu y (us:=dM g8 bc bc bc) rfl rfl λH aA Z a3=>⟨λ_=>?_,λhx=>(by cases hx)⟩⟩⟩;have N:Ext ax H:=Ext.cm X Z (bn _);have p:=G.trans N;refine⟨_,r.ext p,(c.trans (bL.ext _ p)).mono I,rfl,rfl,.inr (.inl ⟨rfl,hg,?_,.bg o⟩)⟩;rw[W,if_neg (by rw[d];simp)]
 rw[if_pos d]at g;obtain⟨cD,cN,cn,rfl,a4,G⟩:=g;refine⟨_,cD,cN,cn,true,rfl,bd (vs:=[false,(),(),()]) rfl λa1 y X a2=>⟨y.b9 rfl fD,rfl,cu y (us:=dM (lE un key) cD cN cn) rfl rfl λH aA Z a3=>⟨λhx=>(by cases hx),λ_=>?_⟩⟩⟩;have N:Ext ax H:=Ext.cm X Z (bn _);have p:=G.trans N;obtain⟨d0,d1,d2,d3⟩:=bC aA;obtain⟨bw,br,bA,aB,a5⟩:=G7 a7 d;have a6:cL un.keys key<un.keys.length:=(im.1 (b1 d)).1;have a8:cL un.keys key<un.vals.length:=by rw[a7.len];exact a6
 have aC:ec L key≠none:=by
  rw[W,if_pos d,du a8];simp
 have a9:aD.D.aO<=900000000:=by
  have:aD.D.aO<=T.C.D.aO+2*T.aE:=c.aO;omega
 have bB:=G.size;have a_:bz (λq=>¬(T.bg aD T.P).M q) H (lE un key) cD cN cn:=(a4.ext N).aW λq _ m F=>by have:=r.lt F;omega
 have ba:=Ca (dT:=ei L key) (k:=key) (steps:=steps) (bR:=un) (r.ext p) (λe=>aJ λi=>c.bI.1▸e i) ac aK c1 hf a9 j (S.ext' p λq m=>m.2) a_ bw (.inr ⟨ak,e5,dG,al,am,ao,ap,bY,af,λs hs=>aT s (a5 s hs),λhs e=>by
  have z:=aU hs;rw[e]at aB;simp at aB;omega,aV,by rw[br];exact av (λL=>ei L key) (xo key),by have:=h.nj _ _ bl;omega⟩)
 refine⟨_,d0,cD,d1,cN,d2,cn,d3,ba.use ?_⟩;rintro v w' ⟨an,h1,h2,aa,t,bb⟩;have ab:=((c.trans (bL.ext (T.bg aD T.P) p)).trans h2).mono (l:=100) I;have bD:cc (T.bg aD T.P)=cc T:=rfl;have bE:(T.bg aD T.P).aE=T.aE:=rfl;rcases bb with ⟨rfl,B,E⟩|⟨rfl,B,E,z⟩|⟨rfl,B,E,z,be,bf⟩
 .subst E
  exact⟨2,rfl,_,h1,ab,aa,t,.inr (.inr (.inl ⟨rfl,hg,aC,B,.bg o⟩))⟩
 .exact⟨0,rfl,_,h1,ab,aa,t,.inr (.inr (.inr (.inl ⟨rfl,hg,aC,B,E,λno aI=>⟨(z no aI).1,(z no aI).2.trans (o no)⟩⟩)))⟩
 .exact⟨3,rfl,_,h1,ab,aa,t,.inr (.inr (.inr (.inr ⟨rfl,hg,λhc=>B (c.calm 60 (f_ hc I)),(iY.bg o).trans ⟨E,z,be,bf⟩ rfl⟩)))⟩
def k7(fr to:Key)(p:aH):ah:=decide (ef fr p.1)&&(to.isEmpty||decide (bD p.1 to))
theorem rU(l:O aH)(fr to:Key):eO l fr to=l.filter (k7 fr to):=rfl
theorem rV(a b:O aH)(fr to:Key):eO (a++b) fr to=eO a fr to++eO b fr to:=kK ..
def kz(fr to:Key)(most:Nat):O aH->O aH->ah×O aH
 |acc,[]=>(true,acc)
 |acc,p::ps=>
  if to≠ []/\¬bD p.1 to then (false,acc)
  else
   let a:=if ef fr p.1 then acc++ [p] else acc
   if a.length=most then (false,a) else kz fr to most a ps
def hX(fr to:Key)(most:Nat)(acc L:O aH)(on:ah)(a:O aH):Prop:=
 (on=true/\a=acc++eO L fr to/\a.length<most)\/(on=false/\∀R,gI (L++R)->a=(acc++eO (L++R) fr to).take most)
variable {fr to:Key}{most:Nat}
theorem hX.nil{acc:O aH}(h:acc.length<most):hX fr to most acc [] true acc:=.inl ⟨rfl,by simp[eO],h⟩
theorem hX.app{acc mo iX ba bB:O aH}{on:ah}(h1:hX fr to most acc ba true mo)(h2:hX fr to most mo bB on iX):hX fr to most acc (ba++bB) on iX:=by
 rcases h1 with ⟨_,h1,_⟩|⟨h,_⟩
 rotate_left
 .cases h
 subst h1;rcases h2 with ⟨a,b,d⟩|⟨a,b⟩
 .exact .inl ⟨a,by rw[b,rV,cM],d⟩
 .refine .inr ⟨a,λR c=>?_⟩
  rw[cM]at c;rw[b R (pT.1 c).2.1,cM ba bB R,rV ba,cM]
theorem hX.stop{acc mo ba bB:O aH}(h1:hX fr to most acc ba false mo):hX fr to most acc (ba++bB) false mo:=by
 rcases h1 with ⟨h,_⟩|⟨_,h⟩
 .cases h
 .refine .inr ⟨rfl,λR a=>?_⟩
  rw[cM]at a⊢;exact h _ a
theorem hX.skip{acc iX ba bB:O aH}{on:ah}(hs:eO ba fr to=[])(h2:hX fr to most acc bB on iX):hX fr to most acc (ba++bB) on iX:=by
 rcases h2 with ⟨a,b,d⟩|⟨a,b⟩
 .exact .inl ⟨a,by rw[b,rV,hs];rfl,d⟩
 .refine .inr ⟨a,λR c=>?_⟩
  rw[cM]at c⊢;rw[b R (pT.1 c).2.1,rV ba,hs];rfl
theorem hX.all{L acc:O aH}{on:ah}(h:hX fr to most [] L on acc)(a:gI L):acc=(eO L fr to).take most:=by
 rcases h with ⟨_,h1,h2⟩|⟨_,h1⟩
 .rw[h1]at h2⊢
  rw[iM]at h2⊢;rw[dD I]
 .have:=h1 [] (by simpa using a)
  simpa using this
theorem Cf:∀ {ps acc:O aH},gI ps->acc.length<most->hX fr to most acc ps (kz fr to most acc ps).1 (kz fr to most acc ps).2
 | [],acc,_,h=>.nil h
 |p::ps,acc,i,h=>by
  unfold kz
  by_cases h1:to≠ []/\¬bD p.1 to
  .rw[if_pos h1]
   refine .inr ⟨rfl,λR b=>?_⟩
   have:eO (p::ps++R) fr to=[]:=by
    rw[rU];refine lR.2 λq c=>?_;have j:ef p.1 q.1:=by
     rw[nr]at c b;rcases cS.1 c with rfl|c
     .exact Ax _
     .exact iB ((jt.1 b).1 q c)
    have h2:¬bD q.1 to:=λa=>h1.2 (jZ j a);unfold k7;have e:to.isEmpty=false:=by simpa using h1.1
    simp[e,h2]
   rw[this,fO,dD I]
  .rw[if_neg h1]
   have k:k7 fr to p=decide (ef fr p.1):=by
    unfold k7;by_cases h2:to=[]
    .simp[h2]
    .have:bD p.1 to:=oV λa=>h1 ⟨h2,a⟩
     simp[this]
   have d:∀l,eO (p::l) fr to=(if ef fr p.1 then [p] else [])++eO l fr to:=λl=>by
    rw[rU,oY,k,rU];by_cases h2:ef fr p.1<;>simp[h2]
   have m:(if ef fr p.1 then acc++ [p] else acc)=acc++(if ef fr p.1 then [p] else []):=by split<;>simp
   simp only[m];generalize hx:(if ef fr p.1 then [p] else [])=x at d;have o:x.length<=1:=by rw[←hx];split<;>simp
   by_cases a:(acc++x).length=most
   .rw[if_pos a]
    refine .inr ⟨rfl,λR b=>?_⟩;rw[nr,d,←cM,←a,List.take_left]
   .rw[if_neg a]
    have e:(acc++x).length<most:=by rw[ct]at a⊢;omega
    have:=Cf (ps:=ps) (acc:=acc++x) (jt.1 i).2 e;rcases this with ⟨f,g,n⟩|⟨f,g⟩
    .exact .inl ⟨f,by rw[g,d,cM],n⟩
    .refine .inr ⟨f,λR b=>?_⟩
     rw[nr]at b⊢;rw[g R (jt.1 b).2,d,cM]
def eC(p:Y×Y):O aa:=[p.1,p.2]
theorem oF(l:O (Y×Y)):∀x∈l,(eC x).length=2:=λ_ _=>rfl
theorem qe(p:Y×Y):∀v∈eC p,Plain v:=by
 intro v a;unfold eC at a;simp only[cS,eS,eW]at a;rcases a with rfl|rfl<;>trivial
def eR(B:Nat->Prop)(w:J)(ps:O (Y×Y))(L:O aH):Prop:=ps.length=L.length/\∀i (h1:i<ps.length) (h2:i<L.length),aY B w ps[i].1 L[i].1/\aY B w ps[i].2 L[i].2
def kA(B:Nat->Prop)(w:J)(s:Y)(L:O aH):Prop:=∃ps,a8 2 167 w s (bH eC ps)/\eR B w ps L
def fR(B:Nat->Prop)(w:J)(s:Y)(L:O aH):Prop:=∃ps,Src 2 w s (bH eC ps)/\s.len<=s.cap/\In B w s/\eR B w ps L
section
variable {B C W:Nat->Prop}{w w':J}{s:Y}{ps:O (Y×Y)}{L:O aH}
theorem eR.ae(h:eR B w ps L)(hc:ad W w w')(d:∀k,B k->k<w.heap.size->¬W k):eR B w' ps L:=
 ⟨h.1,λi h1 h2=>by
  obtain⟨a,b⟩:=h.2 i h1 h2
  exact⟨aY.iG a hc λk c=>d k (a.2.2 k c).1 (a.2.2 k c).2,aY.iG b hc λk c=>d k (b.2.2 k c).1 (b.2.2 k c).2⟩⟩
theorem eR.aW(h:eR B w ps L)(a:∀k,k<w.heap.size->B k->C k):eR C w ps L:=⟨h.1,λi h1 h2=>⟨aY.aW (h.2 i h1 h2).1 a,aY.aW (h.2 i h1 h2).2 a⟩⟩
theorem eR.push{p:Y×Y}{fS:aH}(h:eR B w ps L)(h1:aY B w p.1 fS.1)(h2:aY B w p.2 fS.2):eR B w (ps++ [p]) (L++ [fS]):=by
 refine⟨by simp[h.1],λi au aw=>?_⟩;rcases dC i ps.length with g|g
 .have g':i<L.length:=by have:=h.1;omega
  simp only[lS g,lS g'];exact h.2 i g g'
 .have e:i=ps.length:=by simp at au;omega
  subst e;have a:(ps++ [p])[ps.length]'au=p:=by simp
  have b:(L++ [fS])[ps.length]'aw=fS:=by rw[nu (by rw[h.1];exact bn _)];simp
  rw[a,b];exact⟨h1,h2⟩
theorem kA.len(h:kA B w s L):s.len=L.length:=by
 obtain⟨ps,h1,h2⟩:=h;have:=h1.1;rw[gK _ (oF ps)]at this;have:=h2.1;omega
theorem kA.aW(h:kA B w s L)(a:∀k,k<w.heap.size->B k->C k):kA C w s L:=by
 obtain⟨ps,h1,h2⟩:=h;exact⟨ps,h1,h2.aW a⟩
theorem kA.none(B:Nat->Prop)(w:J):kA B w ⟨.none,0,0⟩ []:=⟨[],a8.none _ _ _,rfl,λi h=>by simp at h⟩
theorem kA.r(h:kA B w s L)(hs:∀k,az s k->B k):fR B w s L:=by
 obtain⟨ps,h1,h2⟩:=h;exact⟨ps,h1.src,h1.2.1,λk a=>⟨hs k a,h1.lt k a⟩,h2⟩
theorem fR.len(h:fR B w s L):s.len=L.length:=by
 obtain⟨ps,h1,_,_,h2⟩:=h;have:=h1.len;rw[gK _ (oF ps)]at this;have:=h2.1;omega
theorem fR.ae(h:fR B w s L)(hc:ad W w w')(b:∀k,B k->k<w.heap.size->¬W k):fR B w' s L:=by
 obtain⟨ps,h1,h2,a,d⟩:=h;exact⟨ps,h1.ae hc λk c=>b k (a k c).1 (a k c).2,h2,In.ae a hc,d.ae hc b⟩
theorem fR.ext(h:fR B w s L)(hc:Ext w w'):fR B w' s L:=h.ae hc λ_ _ _ h=>h
theorem fR.aW(h:fR B w s L)(a:∀k,k<w.heap.size->B k->C k):fR C w s L:=by
 obtain⟨ps,h1,h2,b,c⟩:=h;exact⟨ps,h1,h2,In.aW b a,c.aW a⟩
theorem fR.at(h:fR B w s L){i:Nat}(hi:i<L.length):∃ (A:ab) (tk de:Y),s.a=some A/\B A.block/\((0:Int)<=(i:Int)/\(i:Int)<(s.len:Int))/\w.cell? (A.add (i*2))=some (.slice tk.a tk.len tk.cap)/\w.cell? ((A.add (i*2)).add 1)=some (.slice de.a de.len de.cap)/\
 aY B w tk L[i].1/\aY B w de L[i].2:=by
 have o:=h.len;obtain⟨ps,h1,h2,k,c⟩:=h;have d:i<ps.length:=by have:=c.1;omega
 cases b:s.a with
 |none=>
  have:=h1.nil b;have e:=gK ps (oF ps);rw[this]at e;simp at e;omega
 |some A=>
  have l:=h1.rd A b;have hg:∀j v,(eC ps[i])[j]? =some v->w.cell? (A.add (i*2+j))=some v:=λj v f=>by
   have m:j<2:=(im.1 f).1;have g:=pe l (j:=i*2+j) (v:=v) (by rw[rI (oF ps) d m];exact f);rw[cx]at g;exact g
  obtain⟨t1,t2⟩:=c.2 i d hi;have n:(A.add (i*2)).add 1=A.add (i*2+1):=add_add A _ _;refine⟨A,ps[i].1,ps[i].2,rfl,(k A.block ⟨A,b,rfl⟩).1,⟨I,I⟩,?_,?_,t1,t2⟩
  .exact hg 0 _ rfl
  .rw[n]
   exact hg 1 _ rfl
end
theorem qf:hG aj 86 167 2 48:=⟨by kernel_rfl⟩
theorem vR(w:J)(cs:Array aa)(h:cs.size=2):Sem.run aj (Instr.buildSlice 86 1 #[(0,.agg cs)]) w=.ok (.slice (some w.heap.size) 1 1) (w.alloc (.cells cs 167)):=by
 have h0:((Tryz.prog.info? 167).bind (·.zero)).isSome=true:=by kernel_rfl
 obtain⟨z,a⟩:=mz.1 h0;obtain⟨i,hi,b⟩:=rJ a;have h1:(Tryz.prog.underlying 167).isSome=true:=by kernel_rfl
 obtain⟨d,hd⟩:=mz.1 h1;exact xZ (sz:=2) w (by kernel_rfl) hd (by kernel_rfl) hi b h (by decide) (by decide)
structure cX(T an:aL)(w w':J)(k:Nat):Prop where
 to:bL T an w w' k
 E:an.E=T.E
 G:∀q,T.G q->an.G q
 root:an.root=T.root
 aE:an.aE=T.aE
 f:an.f=T.f
 P:an.P=T.P
 view:∀j,an.C.view j=T.C.view j
theorem cX.refl(T:aL)(w:J):cX T T w w 0:=⟨.refl _ _,rfl,λ_ h=>h,rfl,rfl,rfl,rfl,λ_=>rfl⟩
theorem cX.ext{w w':J}(T:aL)(h:Ext w w'):cX T T w w' 0:=⟨.ext T h,rfl,λ_ h=>h,rfl,rfl,rfl,rfl,λ_=>rfl⟩
theorem cX.trans{T an a:aL}{w w' b:J}{k l:Nat}(h1:cX T an w w' k)(h2:cX an a w' b l):cX T a w b (k+l):=
 ⟨h1.to.trans h2.to,h2.E.trans h1.E,λq h=>h2.G q (h1.G q h),h2.root.trans h1.root,h2.aE.trans h1.aE,h2.f.trans h1.f,h2.P.trans h1.P,λj=>(h2.view j).trans (h1.view j)⟩
theorem cX.mono{T an:aL}{w w':J}{k l:Nat}(h:cX T an w w' k)(a:k<=l):cX T an w w' l:=⟨h.to.mono a,h.E,h.G,h.root,h.aE,h.f,h.P,h.view⟩
theorem cX.bg{T:aL}{aD:bZ}{w w':J}{k:Nat}(h:bL T (T.bg aD T.P) w w' k)(a:∀j,aD.view j=T.C.view j):cX T (T.bg aD T.P) w w' k:=⟨h,rfl,λ_ h=>h,rfl,rfl,rfl,rfl,a⟩
theorem bL.out{T an:aL}{w w':J}{k q:Nat}(h:bL T an w w' k)(a:q<w.heap.size)(b:¬T.M q):¬an.M q/\q<w'.heap.size:=by
 refine⟨λh1=>?_,fN a h.ae.size⟩;rcases h.cZ q h1 with h2|h2
 .exact b h2
 .omega
theorem bL.Cg{T an:aL}{w w':J}{k:Nat}{ps:O (Y×Y)}{L:O aH}(h:bL T an w w' k)(c:eR (λq=>¬T.M q) w ps L):eR (λq=>¬an.M q) w' ps L:=by
 have h1:eR (λq=>q<w.heap.size/\¬T.M q) w ps L:=c.aW λq b a=>⟨b,a⟩;exact(h1.ae h.ae λq b _ d=>b.2 (aL.gh d)).aW λq _ a=>(h.out a.1 a.2).1
structure iK(lo:Nat)(w:J)(T:aL)(aC:Nat)(s:Y)(L:O aH):Prop where
 t:bJ w T
 v:Var w aC [s] 86
 own:kA (λq=>¬T.M q) w s L
 go:T.G aC
 gs:∀q,az s q->T.G q/\q≠aC/\lo<=q
section
variable {w w':J}{T an:aL}{lo aC:Nat}{s:Y}{L:O aH}
theorem iK.of{k:Nat}(h:iK lo w T aC s L)(d:bJ w' an)(ht:bL T an w w' k)(b:∀q,T.G q->an.G q){W:Nat->Prop}(c:ad W w w')(b8:∀q,T.G q->¬W q):iK lo w' an aC s L:=by
 obtain⟨ps,h1,h2⟩:=h.own;exact⟨d,h.v.ae c (b8 _ h.go),⟨ps,h1.ae c λq a=>b8 q (h.gs q a).1,ht.Cg h2⟩,b _ h.go,λq a=>⟨b q (h.gs q a).1,(h.gs q a).2⟩⟩
theorem iK.ext(h:iK lo w T aC s L)(hx:Ext w w'):iK lo w' T aC s L:=h.of (h.t.ext hx) (bL.ext T hx) (λ_ h=>h) hx λ_ _ h=>h
theorem G_{k v:Key}{tk de:Y}(h:iK lo w T aC s L)(B:lo<=w.heap.size)(p:aY (λq=>¬T.M q) w tk k)(r:aY (λq=>¬T.M q) w de v)(C:L.length<=100000):
 ∃ (b:Y) (ag:J),Sem.run aj (Builtin.append_ #[86,86] 86 #[s,.slice (some w.heap.size) 1 1]) (w.alloc (.cells (eC (tk,de)).toArray 167))=.ok b ag/\
  (∃u:aa,ag.cell? aC=some u)/\ag.frozen? aC=false/\
  ∀d,d=ag.setCell aC b->iK lo d (T.b_ T.E λq=>T.G q\/az b q) aC b (L++ [(k,v)])/\cX T (T.b_ T.E λq=>T.G q\/az b q) w d 0:=by
 have D:=h.own.len;obtain⟨ps,x,y⟩:=h.own;obtain⟨b,ag,au,aw,F,f,c⟩:=qf.push (cG:=86) (w:=w) (s:=s) (xs:=eC (tk,de)) rfl x (qe _) I;have b8:∀q,az s q->T.G q:=λq a=>(h.gs q a).1;have H:=f.size;have j:=h.v.ae f λa=>(h.gs _ a).2.1 rfl;obtain⟨bA,bO⟩:=dH j (i:=0) (by simp);refine⟨b,ag,au,bA,bO,?_⟩;rintro _ rfl;have g:=dn ag aC 0 b;have z:=dJ j (i:=0) b;have l:ad T.G w (ag.setCell aC b):=cr (f.mono λq _ a=>b8 q a) g λq _ e=>by rw[e];exact h.go
 have aJ:∀q,az b q->q<ag.heap.size:=λq a=>a8.lt aw q a;have m:∀q,az b q->T.G q\/(w.heap.size<=q/\q<(ag.setCell aC b).heap.size):=λq a=>by
  rcases c q a with h1|h1
  .exact .inl (b8 q h1)
  .exact .inr ⟨h1,by have:=aJ q a;have:=g.size;omega⟩
 have n:∀q,az b q->q≠aC:=λq a e=>by
  rcases c q a with h1|h1
  .exact(h.gs q h1).2.1 e
  .have:=h.v.lt;omega
 have A:=h.t.grow (E:=T.E) (G:=λq=>T.G q\/az b q) l (λq a _=>.inr a) (λq a=>.inl a) (λq a=>by
  rcases a with a|a
  .exact .inr (.inl a)
  .exact .inr (m q a)) λq a hg=>by
  rcases hg with hg|hg
  .exact(h.t.c2 q a).2.2 hg
  .rcases c q hg with h1|h1
   .exact(h.t.c2 q a).2.2 (b8 q h1)
   .have:=h.t.lt (q:=q) (.inr (.inr (.inr (.inl a))));omega
 have o:bL T (T.b_ T.E λq=>T.G q\/az b q) w (ag.setCell aC b) 0:=by
  have h0:bL T T w w 0:=.refl _ _;exact h0.step l (λq a _=>.inr (.inr (.inr a))) (λq a=>.inl a) λq a=>by
   rcases a with a|a
   .exact .inl a
   .exact(m q a).imp id λe=>e.1
 refine⟨⟨A,z,⟨ps++ [(tk,de)],?_,o.Cg (y.push (fS:=(k,v)) p r)⟩,.inl h.go,λq a=>⟨.inr a,n q a,?_⟩⟩,o,rfl,λ_ h=>.inl h,rfl,rfl,rfl,rfl,λ_=>rfl⟩
 .have e:bH eC (ps++ [(tk,de)])=bH eC ps++eC (tk,de):=by rw[lF];simp[bH]
  rw[e];exact aw.ae g λq a e=>n q a e
 .rcases c q a with h1|h1
  .exact(h.gs q h1).2.2
  .omega
end
structure qg(w:J)(T:aL)(aX aU aP:Nat)(fy fE:Y)(to fr:Key)(most:Int):Prop where
 vS:Var w aX [fy] 48
 vT:Var w aU [fE] 48
 jf:Var w aP [most] 3
 Ch:¬T.M aX
 Ci:¬T.M aU
 Cj:¬T.M aP
 st:Src 1 w fy (aG to)
 yy:Src 1 w fE (aG fr)
 rW:∀q,az fy q->q<w.heap.size/\¬T.M q
 rX:∀q,az fE q->q<w.heap.size/\¬T.M q
 lt:to.length<=9000000000000000000
section
variable {w w':J}{T an:aL}{aX aU aP:Nat}{fy fE:Y}{to fr:Key}{most:Int}
theorem qg.go{k:Nat}(h:qg w T aX aU aP fy fE to fr most)(ht:bL T an w w' k):qg w' an aX aU aP fy fE to fr most:=by
 have b:∀q,¬T.M q->¬T.N q:=λq a b=>a (aL.gh b);exact⟨h.vS.ae ht.ae (b _ h.Ch),h.vT.ae ht.ae (b _ h.Ci),h.jf.ae ht.ae (b _ h.Cj),(ht.out h.vS.lt h.Ch).1,(ht.out h.vT.lt h.Ci).1,(ht.out h.jf.lt h.Cj).1,
  h.st.ae ht.ae λq a=>b _ (h.rW q a).2,h.yy.ae ht.ae λq a=>b _ (h.rX q a).2,λq a=>⟨(ht.out (h.rW q a).1 (h.rW q a).2).2,(ht.out (h.rW q a).1 (h.rW q a).2).1⟩,λq a=>⟨(ht.out (h.rX q a).1 (h.rX q a).2).2,(ht.out (h.rX q a).1 (h.rX q a).2).1⟩,h.lt⟩
end
def jI(fr to:Key)(most:Nat)(n:aB)(acc ps:O aH):ah×O aH:=if n.leaf then kz fr to most acc ps else (true,acc)
def Ha(lo aC:Nat)(T:aL)(a:ah×O aH)(w:J)(v:aa)(w':J):Prop:=
 ∃ (an:aL) (b:Y),v=a.1/\iK lo w' an aC b a.2/\cX T an w w' 0
theorem bL.g8{T an:aL}{w w':J}{k:Nat}(h:bL T an w w' k){n:aB}{K V D:Y}(b:bz (λq=>¬T.M q) w n K V D):bz (λq=>¬an.M q) w' n K V D:=
 (h.bk (lo:=0) (b.aW λ_ _ a=>⟨cE _,a⟩)).aW λ_ _ a=>a.2
theorem Ck{a b:Key}:(decide ((eu a b:Int)>=0))=decide (ef b a):=by
 unfold ef;by_cases h:eu a b<0
 .have h1:¬eu a b>=0:=by omega
  simp[h,h1]
 .have h1:eu a b>=0:=by omega
  simp[h,h1]
theorem Hb{w:J}{T:aL}{lo aC aX aU aP:Nat}{s fy fE:Y}{L:O aH}{to fr:Key}{most:Int}{n:aB}{K V D:Y}(no:Int)(h:iK lo w T aC s L)(a8:lo<=w.heap.size)(hf:qg w T aX aU aP fy fE to fr most)
 (W:bz (λq=>¬T.M q) w n K V D) (hs:cC n) (a9:n.keys.length<=1000) (az:(L.length:Int)<most) (a_:L.length<=50000):
 aN aj 175 #[no,cW n K V D,.pointer (some aX),.pointer (some aU),.pointer (some aC),.pointer (some aP)] w (Ha lo aC T (jI fr to most.toNat n L n.dF) w):=by
 have ba:=bj.len W.keys;refine okF (I7.uD no n.leaf K V D aX aU aC aP) I6.uD func175 ?_;(delta I7.uD af U ai aK ay a7 r1 ar;dsimp only);refine bd (vs:=dM n K V D) rfl λw1 N m bb=>?_;obtain⟨nb,aA⟩:∃nb,nb=w.heap.size:=⟨_,rfl⟩;rw[←aA]at N⊢;have h1:=h.ext m;have aD:=hf.go (bL.ext T m);have aE:=W.ext m;have X:¬T.M nb:=λP=>by have:=h.t.lt P;omega
 obtain⟨bS,ay,aR,aF⟩:=bC N;refine⟨K,ay,λi d=>∃ (C:Nat) (an:aL) (y:Y) (acc:O aH),i=(C:Int)/\C<=n.keys.length/\iK lo d an aC y acc/\cX T an w1 d 0/\(acc.length:Int)<most/\acc.length<=L.length+C/\jI fr to most.toNat n acc (n.dF.drop C)=jI fr to most.toNat n L n.dF,
  λi _=>((n.keys.length:Int)-i).toNat,⟨0,T,s,L,rfl,cE _,h1,.refl _ _,az,I,by rw[lh]⟩,?_⟩
 rintro _ d ⟨i,an,y,acc,rfl,hi,E,k,bc,be,f⟩;have bf:=m.size;have bg:=k.to.ae.size;have o:=aD.go k.to;have Z:=k.to.g8 aE;have aa:=N.ae k.to.ae λP=>X (aL.gh P);have bh:=(k.to.out I X).1;refine⟨λaJ=>?_,λaG=>?_⟩
 rotate_left
 .have ab:i=n.keys.length:=by
   have:¬(i:Int)<(K.len:Int):=cp aG;omega
  have hd:n.dF.drop i=[]:=by
   refine sx ?_;unfold aB.dF;rw[mG];omega
  rw[hd]at f;have e:jI fr to most.toNat n acc []=(true,acc):=by unfold jI kz;split<;>rfl
  rw[e]at f;exact⟨an,y,by rw[←f],by rw[←f];exact E,((cX.ext T m).trans k)⟩
 .have ab:i<n.keys.length:=by
   have:(i:Int)<(K.len:Int):=b1 aJ;omega
  obtain⟨A,tk,aq,aI,hc,F,_⟩:=bj.at Z.keys ab;have Q:IntKind.wrap .i64 ((i:Int)+1)=((i+1:Nat):Int):=by rw[bu I I];omega
  have aM:∀w':J,((n.keys.length:Int)-IntKind.wrap .i64 ((i:Int)+1)).toNat<((n.keys.length:Int)-(i:Int)).toNat:=λ_=>by rw[Q];omega
  obtain⟨key,ac⟩:∃key,key=n.keys[i]:=⟨_,rfl⟩;rw[←ac]at F;have ad:=len8 o.st;refine⟨A,aq,aI,tk,hc,fy,o.vS.cell,cj (λb w'=>b=decide (to≠ []/\¬bD key to)/\d=w') (λq l=>⟨λc=>⟨fy,o.vS.cell,(kn F.1 o.st).use ?_⟩,λc=>l _ _ ⟨?_,rfl⟩⟩) ?_⟩
  .rintro _ _ ⟨rfl,rfl⟩
   refine⟨_,rfl,l _ _ ⟨?_,rfl⟩⟩;have h2:to≠ []:=λe=>by
    rw[e]at ad;have:(fy.len:Int)>0:=b1 c;simp at ad;omega
   rw[Ck];simp only[h2,ne_eq,not_false_eq_true,true_and];rfl
  .have h2:to=[]:=by
    have:¬(fy.len:Int)>0:=cp c;exact kH.1 I
   simp[h2]
  rintro aO _ ⟨ag,rfl⟩;have d0:d.cell? nb=some (.bool n.leaf):=(bC aa).1;refine cj (λb w'=>b=(aO&&n.leaf)/\d=w') (λq l=>⟨λc=>⟨_,d0,l _ _ ⟨by rw[c];rfl,rfl⟩⟩,λc=>l _ _ ⟨by rw[c];rfl,rfl⟩⟩) ?_;rintro bi _ ⟨ah,rfl⟩;have G:n.leaf=true->∃x:Key,(∃j:i<n.vals.length,x=n.vals[i])/\n.dF.drop i=(key,x)::n.dF.drop (i+1):=λa=>by
   have bk:n.vals.length=n.keys.length:=by
    rcases hs with h2|h2
    .exact h2.len
    .have:=h2.inner;rw[a]at this;cases this
   have j:i<n.vals.length:=by omega
   refine⟨n.vals[i],⟨j,rfl⟩,?_⟩;have aQ:i<n.dF.length:=by unfold aB.dF;rw[mG];omega
   rw[jr aQ];have e:n.dF[i]=(key,n.vals[i]):=by
    rw[ac];exact sk
   rw[e]
  refine⟨λc=>?_,λc=>?_⟩
  .
   rw[ah,dX]at c;obtain⟨x,_,z⟩:=G c.2;have aT:to≠ []/\¬bD key to:=by
    rw[ag]at c;exact b1 c.1
   have e:jI fr to most.toNat n acc (n.dF.drop i)=(false,acc):=by
    unfold jI;rw[if_pos c.2,z];unfold kz;rw[if_pos aT]
   rw[e]at f;exact⟨an,y,by rw[←f],by rw[←f];exact E,((cX.ext T m).trans k)⟩
  .have ak:n.leaf=true->¬(to≠ []/\¬bD key to):=λa h2=>by
    rw[ah,ag,a,dm h2]at c
    cases c
   refine hF (λH=>∃ (bX:aL) (s2:Y) (iX:O aH),iX=(if n.leaf=true/\ef fr key then acc++ [(key,n.vals.getD i [])] else acc)/\iK lo H bX aC s2 iX/\cX an bX d H 0) (λq l=>⟨n.leaf,d0,?_⟩) ?_
   .refine cj (λb w'=>b=decide (n.leaf=true/\ef fr key)/\d=w') (λr al=>⟨λa=>⟨fE,o.vT.cell,(kn F.1 o.yy).use ?_⟩,λa=>al _ _ ⟨by simp[a],rfl⟩⟩) ?_
    .rintro _ _ ⟨rfl,rfl⟩
     refine⟨_,rfl,al _ _ ⟨?_,rfl⟩⟩;rw[Ck,a];simp
    .rintro bl _ ⟨am,rfl⟩
     refine⟨λg=>aS ?_,λg=>?_⟩
     .rw[am]at g
      have g:=b1 g;obtain⟨x,⟨j,hx⟩,z⟩:=G g.1;have B:Ext d d.drew:=b4 _;have p:=E.ext B;obtain⟨aV,de,aW,aZ,a0,ao,bm⟩:=bj.at (Z.ext B).vals j;rw[←hx]at ao;have a1:=aY.ext F B;have bn:=B.size;obtain⟨ap,a2,au,aw,a3,a4⟩:=G_ p I a1 ao I;refine⟨λ_=>False,id,y,p.v.cell,id,V,(bC (aa.ext B)).2.2.1,aV,aW,aZ,id,de,a0,(eC (tk,de)).toArray,λbo=>?_,⟨some d.drew.heap.size,1,1⟩,_,vR _ _ rfl,eA _ _,ap,a2,au,aw,a3,aS (l _ ?_)⟩
      .kernel_rfl
      .obtain⟨bA,bO⟩:=a4 _ rfl
       refine⟨_,ap,_,?_,bA,((cX.ext an B).trans bO)⟩;rw[if_pos g,ft,du j,←hx];rfl
     .rw[am]at g
      have g:=cp g;exact l _ ⟨an,y,acc,by rw[if_neg g],E,.refl _ _⟩
   .rintro H ⟨bX,s2,iX,u,p,av⟩
    have a5:=o.go av.to;have a6:=p.own.len;have ax:=k.trans av;have bp:iX.length<=acc.length+1:=by rw[u];split<;>simp
    have bq:(0:Int)<=most:=by omega
    refine⟨s2,p.v.cell,most,a5.jf.cell,λc=>?_,λc=>?_⟩
    .have he:(s2.len:Int)=most:=by simpa using c
     by_cases a:n.leaf=true
     .obtain⟨x,⟨j,hx⟩,z⟩:=G a
      have R:n.vals.getD i []=x:=by rw[ft,du j,hx];rfl
      have e:jI fr to most.toNat n acc (n.dF.drop i)=(false,iX):=by
       unfold jI;rw[if_pos a,z];unfold kz;rw[if_neg (ak a)];have S:(if ef fr key then acc++ [(key,x)] else acc)=iX:=by rw[u,R];simp[a]
       simp only[S];rw[if_pos I]
      rw[e]at f;exact⟨bX,s2,by rw[←f],by rw[←f];exact p,((cX.ext T m).trans ax)⟩
     .exfalso
      rw[if_neg (λh2=>a h2.1)]at u;rw[u]at a6;omega
    .have he:¬(s2.len:Int)=most:=by simpa using c
     rw[Q];refine⟨⟨i+1,bX,s2,iX,rfl,I,p,ax,I,I,?_⟩,?_⟩
     .rw[←f]
      unfold jI;by_cases a:n.leaf=true
      .obtain⟨x,⟨j,hx⟩,z⟩:=G a
       have R:n.vals.getD i []=x:=by rw[ft,du j,hx];rfl
       rw[if_pos a,if_pos a,z]
       conv=>rhs;unfold kz
       rw[if_neg (ak a)];have S:(if ef fr key then acc++ [(key,x)] else acc)=iX:=by rw[u,R];simp[a]
       simp only[S];rw[if_neg I]
      .rw[if_neg a,if_neg a]
       rw[if_neg (λh2=>a h2.1)]at u;rw[u]
     .have:=aM H
      rw[Q]at this;exact this
inductive Kids (W:Below):O Nat->O Nat->O aH->Prop
 |nil:Kids W [] [] []
 |cons {lo hi:ao Key}{k:Nat}{kids bw br:O Nat}{ba bB:O aH} (h:W lo hi k bw ba) (t:Kids W kids br bB):Kids W (k::kids) (bw++br) (ba++bB)
theorem dz.kids{W:Below}{lo hi:ao Key}{ks:O Key}{kids p:O Nat}{L:O aH}(h:dz W lo hi ks kids p L):Kids W kids p L:=by
 induction h with
 |one h=>
  have:=Kids.cons h .nil;rwa[fO,fO]at this
 |cons h _ a=>exact .cons h a
theorem Hc(s:Key)(ks:O Key)(k:Key):di (s::ks) k=if bD k s then 0 else di ks k+1:=by
 unfold di;rw[List.findIdx_cons];by_cases h:bD k s<;>simp[h]
theorem dz.from{W:Below}(b8:∀lo hi k p L,W lo hi k p L->∀q∈L,fj lo hi q.1){lo hi:ao Key}{ks:O Key}{kids p:O Nat}{L:O aH}(h:dz W lo hi ks kids p L)(k:Key):
 ∃ (bw br:O Nat) (ba bB:O aH),p=bw++br/\L=ba++bB/\(∀q∈ba,bD q.1 k)/\Kids W (kids.drop (di ks k)) br bB:=by
 induction h with
 |one h=>exact⟨[],_,[],_,rfl,rfl,λ_ h=>(by cases h),(dz.one h).kids⟩
 | @cons lo hi s f bw br ba bB ks kids h t c=>
  rw[Hc];by_cases b:bD k s
  .rw[if_pos b]
   exact⟨[],_,[],_,rfl,rfl,λ_ h=>(by cases h),(dz.cons h t).kids⟩
  .rw[if_neg b,List.drop_succ_cons]
   obtain⟨a1,a2,b5,bM,rfl,rfl,d,e⟩:=c;refine⟨bw++a1,a2,ba++b5,bM,by rw[cM],by rw[cM],λq a=>?_,e⟩;rcases cP.1 a with a|a
   .exact m0 ((b8 _ _ _ _ _ h q a).2 s rfl) b
   .exact d q a
theorem Cl{L:O aH}{fr to:Key}(h:∀q∈L,bD q.1 fr):eO L fr to=[]:=by
 rw[rU];refine lR.2 λq a=>?_;unfold k7;have:¬ef fr q.1:=λh2=>h2 (h q a);simp[this]
def jJ(T:aL)(no:Nat):Prop:=(no<T.n/\2<=no)/\∃e,dI (no:Int) (T.C.view no)=.error e
theorem Cm{w:J}{T:aL}{no:Nat}{o:aB}(h:bJ w T)(s:T.C.D.aO<=999999999)(d:T.P no=some o\/jJ T no):
 aN aj 196 #[.pointer (some T.aX),no,o.leaf] w (λv w'=>∃aD:bZ,cX T (T.bg aD T.P) w w' 2/\bJ w' (T.bg aD T.P)/\ad (λq=>T.N q/\¬T.G q) w w'/\
  ((∃ (K V D:Y),v=.tuple #[cW o K V D,(0:Int)]/\T.P no=some o/\bz (λq=>w.heap.size<=q/\¬(T.bg aD T.P).M q) w' o K V D)\/(∃e:Int,v=.tuple #[cW g8 bc bc bc,e]/\e≠0/\((e=3/\¬T.C.D.calm 2)\/jJ T no)))):=by
 have f:no<T.n:=d.elim (λh1=>(h.ek no o h1).1) λh1=>h1.1.1;have g:2<=no:=d.elim (λh1=>(h.ek no o h1).2.two) λh1=>h1.1.2;obtain⟨bU,i⟩:∃bU,bU=λq=>T.E q\/T.G q:=⟨_,rfl⟩;have c:∀q,T.E q\/T.G q->bU q:=λq a=>by rw[i];exact a
 have j:∀q,bU q->T.E q\/T.G q:=λq a=>by rw[i]at a;exact a
 have k:bJ w (T.b_ bU λ_=>False):=h.grow (W:=λ_=>False) (ad.refl _ _) (λ_ h=>h.elim) (λq a=>(j q a).imp id .inl) (λ_ h=>h.elim) λ_ _ h=>h;have t:∀q,(T.b_ bU λ_=>False).N q->T.N q/\¬T.G q:=λq a=>⟨by
  rcases a with a|a|a|a
  .exact .inl a
  .exact .inr (.inl a)
  .exact .inr (.inr (.inl a))
  .exact a.elim,λhg=>k.jC (c q (.inr hg)) a⟩
 refine(ye k s f g o.leaf).mono ?_;rintro v w' ⟨aD,u,ht,x,y⟩;have z:bL T (T.bg aD T.P) w w' 2:=bL.read (E:=bU) ht c λq a=>(j q a).imp id .inl;have A:ad (λq=>T.N q/\¬T.G q) w w':=ht.ae.mono λq _ a=>t q a;refine⟨aD,.bg z x,?_,A,?_⟩
 .exact u.grow (E:=T.E) (G:=T.G) (W:=λ_=>False) (ad.refl _ _) (λ_ h=>h.elim) (λq a=>.inl (c q (.inl a))) (λq a=>.inl (c q (.inr a))) λq a=>(h.c2 q a).2.2
 .rcases y with ⟨bq,K,V,D,rfl,l,c1⟩|⟨e,rfl,B,F⟩
  .have m:T.P no=some o:=d.resolve_right λ⟨_,e,h1⟩=>by
    obtain⟨p,au,_⟩:=l;have h1:dI (no:Int) (T.C.view no)=.error e:=h1;have au:dI (no:Int) (T.C.view no)=.ok p:=au;rw[h1]at au;cases au
   obtain rfl:=gL.uniq (h.ek no o m).2 l;refine .inl ⟨K,V,D,rfl,m,c1.aW λq a r=>⟨r.1,λb=>r.2 ?_⟩⟩;rcases b with b|b|b|b|b
   .exact .inl b
   .exact .inr (.inl b)
   .exact .inr (.inr (.inl b))
   .exact .inr (.inr (.inr (.inl (c q (.inl b)))))
   .exact .inr (.inr (.inr (.inl (c q (.inr b)))))
  .refine .inr ⟨e,rfl,F,?_⟩
   rcases B with h1|h1|⟨_,_,h1⟩
   .exact .inl h1
   .exact .inr ⟨⟨f,g⟩,e,h1⟩
   .exact d.elim (λh2=>absurd (h.ek no o h2).2 (h1 o)) .inr
theorem Hd{w:J}{T:aL}{no:Nat}{o:aB}(h:bJ w T)(f:T.C.D.aO<=999999999)(c:T.P no=some o):
 aN aj 196 #[.pointer (some T.aX),no,o.leaf] w (λv w'=>∃aD:bZ,cX T (T.bg aD T.P) w w' 2/\bJ w' (T.bg aD T.P)/\ad (λq=>T.N q/\¬T.G q) w w'/\
  ((∃ (K V D:Y),v=.tuple #[cW o K V D,(0:Int)]/\bz (λq=>w.heap.size<=q/\¬(T.bg aD T.P).M q) w' o K V D)\/(v=.tuple #[cW g8 bc bc bc,(3:Int)]/\¬T.C.D.calm 2))):=by
 refine(Cm h f (.inl c)).mono ?_;rintro v w' ⟨aD,h1,h2,d,⟨K,V,D,b,_,a⟩|⟨e,b,_,⟨rfl,a⟩|⟨_,g,a⟩⟩⟩
 .exact⟨aD,h1,h2,d,.inl ⟨K,V,D,b,a⟩⟩
 .exact⟨aD,h1,h2,d,.inr ⟨b,a⟩⟩
 .obtain⟨p,au,_⟩:=(h.ek no o c).2
  rw[a]at au;cases au
def He(lo aC:Nat)(T:aL)(fr to:Key)(most:Int)(acc L:O aH)(a:Nat)(w:J)(v:aa)(w':J):Prop:=
 ∃ (an:aL) (c:Y) (b:O aH),cX T an w w' (2*a)/\iK lo w' an aC c b/\
  ((∃on:ah,v=.tuple #[on,(0:Int)]/\hX fr to most.toNat acc L on b)\/(v=.tuple #[false,(3:Int)]/\¬T.C.D.calm (2*a)))
theorem Hf:ix aj 175:=⟨Tryz.f175,func175,by kernel_rfl,by kernel_rfl⟩
theorem dV.top{P:Nat->ao aB}{h:Nat}{lo hi:ao Key}{no:Nat}{p:O Nat}{L:O aH}(b:dV P (h+1) lo hi no p L):∃ (n:aB) (a:O Nat),P no=some n/\n.leaf=decide (h=0)/\cC n/\p=no::a/\
 ((h=0/\gQ n/\a=[]/\L=n.dF)\/(∃g,h=g+1/\vf n/\Kids (λlo hi k p L=>dV P h lo hi k p L) n.kids a L/\∀k:Key,∃ (bw br:O Nat) (ba bB:O aH),a=bw++br/\L=ba++bB/\(∀q∈ba,bD q.1 k)/\Kids (λlo hi k p L=>dV P h lo hi k p L) (n.kids.drop (di n.keys k)) br bB)):=by
 match h,b with
 |0,⟨n,h1,h2,f,e,d,c⟩=>exact⟨n,[],h1,h2.leaf,.inl h2,d,.inl ⟨rfl,h2,rfl,c⟩⟩
 |h+1,⟨n,a,h1,h2,f,e,d⟩=>
  have c:=d.mono (V:=λlo hi k p L=>dV P (h+1) lo hi k p L) λ_ _ _ _ _ _ b=>b.1;refine⟨n,a,h1,by rw[h2.inner];simp,.inr h2,e,.inr ⟨h,rfl,h2,c.kids,λk=>c.from (λ_ _ _ _ _ b=>(dV.e4 b).2) k⟩⟩
theorem hX.len{fr to:Key}{most:Nat}{acc L a:O aH}{on:ah}(h:hX fr to most acc L on a)(b:gI L):a.length<=acc.length+L.length:=by
 have c:(eO L fr to).length<=L.length:=lV _ _;rcases h with ⟨_,h1,_⟩|⟨_,h1⟩
 .rw[h1,ct];omega
 .have:=h1 [] (by simpa using b)
  rw[this,fO,cy,ct];omega
theorem Hg{A:ab}{i c:Nat}(h:i<c):aM (some A) 1 i c=some (A.add i):=by
 unfold aM;rw[fF];split
 .rename_i h2;omega
 .rfl
theorem Hh(h:Nat):∀ {w:J}{T:aL}{lo aC aX aU aP:Nat}{s fy fE:Y}{acc L:O aH}{to fr:Key}{most:Int}{e5 dG:ao Key}{no:Nat}{p:O Nat},iK lo w T aC s acc->lo<=w.heap.size->qg w T aX aU aP fy fE to fr most->h<=12->dV T.P h e5 dG no p L->(acc.length:Int)<most->acc.length+L.length<=40000->T.C.D.aO+2*p.length<=999999999->
 aN aj 174 #[.pointer (some T.aX),no,h,fE,.func (.func 175) #[] #[.pointer (some aX),.pointer (some aU),.pointer (some aC),.pointer (some aP)]] w (He lo aC T fr to most acc L p.length w):=by
 induction h with
 |zero=>intro w T lo aC aX aU aP s fy fE acc L to fr most e5 dG no p _ _ _ _ z;exact z.elim
 |succ h bb=>
  intro w T lo aC aX aU aP s fy fE acc L to fr most e5 dG no p aw b7 hf b8 z be bf bh;obtain⟨n,b_,ax,bi,az,rfl,bj⟩:=z.top;have bk:=z.e4.1;have aA:=aw.t;have ca:=cC.eG az (by have:=aA.nj _ _ ax;omega);refine okF (I7.uC (some T.aX) (no:Nat) ((h+1:Nat):Int) fE ⟨175,#[],#[.pointer (some aX),.pointer (some aU),.pointer (some aC),.pointer (some aP)]⟩) I6.uC func174 ?_;(delta I7.uC gY cl U ai a7 af ay r1 kS ar;dsimp only);rw[yf bi];refine(Hd aA I ax).use ?_;rintro _ w1 ⟨aD,B,aB,aE,bl⟩;have cb:=aE.size;have aG:iK lo w1 (T.bg aD T.P) aC s acc:=aw.of aB B.to (λ_ h=>h) aE λq bm bo=>bo.2 bm;have bp:=hf.go B.to;rcases bl with ⟨K,V,D,rfl,c1⟩|⟨rfl,W⟩
  rotate_left
  .refine⟨_,bc,bc,bc,3,rfl,bd (vs:=[false,(),(),()]) rfl λbq v X br=>⟨v.b9 rfl (fD (b:=g8.leaf) (K:=bc) (V:=bc) (D:=bc)),rfl,cu v (us:=dM g8 bc bc bc) rfl rfl λE F Z bs=>⟨λ_=>?_,λhx=>(by simp at hx)⟩⟩⟩
   have f:Ext w1 E:=Ext.cm X Z (bn _);refine⟨_,s,acc,((B.trans (cX.ext _ f)).mono (by simp only[e1];omega)),aG.ext f,.inr ⟨rfl,λhc=>W (f_ hc (by simp only[e1];omega))⟩⟩
  refine⟨_,K,V,D,0,rfl,bd (vs:=[false,(),(),()]) rfl λbq v X br=>⟨v.b9 rfl fD,rfl,cu v (us:=dM n K V D) rfl rfl λE F Z bs=>⟨λhx=>(by cases hx),λ_=>?_⟩⟩⟩;have f:Ext w1 E:=Ext.cm X Z (bn _);obtain⟨nb,bt⟩:∃nb,nb=w1.heap.size:=⟨_,rfl⟩;rw[←bt]at F⊢;have aI:¬(T.bg aD T.P).M nb:=λaa=>by have:=aB.lt aa;omega
  have bv:=aG.ext f;have aK:=bp.go (bL.ext _ f);have aM:bz (λq=>¬(T.bg aD T.P).M q) E n K V D:=(c1.ext f).aW λq _ c=>c.2;have cc:=f.size;obtain⟨bS,ay,aR,aF⟩:=bC F;refine⟨_,bS,K,ay,V,aR,D,aF,Hf,?_⟩;refine(Hb (no:Nat) bv I aK aM az I be I).use ?_;rintro _ G ⟨bX,s2,rfl,x,l⟩;have ab:=(B.trans (cX.ext _ f)).trans l;have aQ:=aK.go l.to;have cd:=l.to.ae.size;have aT:acc.length<most.toNat:=by omega
  rcases bj with ⟨rfl,aV,rfl,rfl⟩|⟨g,rfl,ac,_,bw⟩
  .
   have y:n.leaf=true:=aV.leaf;have e:jI fr to most.toNat n acc n.dF=kz fr to most.toNat acc n.dF:=by unfold jI;rw[if_pos y]
   have d:=Cf (fr:=fr) (to:=to) aV.dF.1 aT;rw[e]at x⊢;refine⟨_,rfl,λc=>?_,λc=>⟨λ_=>?_,λhx=>?_⟩⟩
   .have c:(kz fr to most.toNat acc n.dF).1=false:=by simpa using c
    refine⟨bX,s2,_,ab.mono (by simp),x,.inl ⟨false,rfl,?_⟩⟩;rw[c]at d;exact d
   .have c:(kz fr to most.toNat acc n.dF).1=true:=by simpa using c
    refine⟨bX,s2,_,ab.mono (by simp),x,.inl ⟨true,rfl,?_⟩⟩;rw[c]at d;exact d
   .rw[y]at hx;cases hx
  .
   have y:n.leaf=false:=ac.inner;have e:jI fr to most.toNat n acc n.dF=(true,acc):=by unfold jI;rw[y];rfl
   rw[e]at x⊢;refine⟨true,rfl,λc=>(by cases c),λ_=>⟨λc=>(by rw[y]at c;cases c),λ_=>aS ?_⟩⟩;have ad:Ext G G.drew:=b4 _;have aY:Var G.drew nb (dM n K V D) 202:=(F.ae l.to.ae λaa=>aI (aL.gh aa)).drew;have ce:=(l.to.out (q:=nb) I aI).1;have ag:bz (λq=>¬bX.M q) G.drew n K V D:=(l.to.g8 aM).ext ad;have bx:=aQ.go (bL.ext bX ad);obtain⟨d0,d1,d2,d3⟩:=bC aY;refine⟨λ_=>False,id,D,d3,id,_,d0,K,d1,V,d2,D,d3,(nV ag bx.yy ac.e4 I).use ?_⟩;rintro _ bA ⟨rfl,H⟩;have cf:=vg n.keys fr;have cg:=ag.kids.len;have ch:=ac.len;obtain⟨fH,dA,ba,bB,rfl,rfl,aZ,bD⟩:=bw fr;have N:=ad.trans H;have bE:=ab.trans (cX.ext bX N);have bF:=x.ext N;have bG:=aQ.go (bL.ext bX N);have ah:=ag.ext H;have ci:=aY.ext H;have cj:=N.size;have ck:n.kids.length<=100000:=by omega
   have cn:di n.keys fr<D.len:=by omega
   obtain⟨A,aq,co⟩:∃A,D.a=some A/\D.len<=D.cap:=by
    obtain⟨A,aq,_⟩:=cH.at ah.kids (i:=0) I;exact⟨A,aq,ah.kids.2.1⟩
   refine⟨_,rfl,H,⟨I,I⟩,λi w'=>∃ (j:Nat) (c6:aL) (Q:Y) (mq:O aH) (m qr:O Nat) (o ak:O aH),i=(j:Int)/\j<=D.len-di n.keys fr/\iK lo w' c6 aC Q mq/\cX T c6 w w' (2+2*m.length)/\cX bX c6 bA w' (2*m.length)/\Kids (λlo hi k p L=>dV T.P (g+1) lo hi k p L) (n.kids.drop (di n.keys fr+j)) qr ak/\dA=m++qr/\bB=o++ak/\hX fr to most.toNat acc o true mq,
    λi _=>((D.len:Int)-i).toNat,⟨0,bX,s2,acc,[],dA,[],bB,rfl,cE _,bF,bE.mono (by simp),.refl _ _,bD,rfl,rfl,.nil aT⟩,?_⟩
   rintro _ a0 ⟨j,c6,Q,mq,m,qr,o,ak,rfl,cq,a1,r,R,S,rfl,rfl,d⟩;have bH:(((di n.keys fr:Nat):Int)).toNat=di n.keys fr:=c8 _;rw[bH];refine⟨λaJ=>?_,λbI=>?_⟩
   rotate_left
   .
    have bJ:j=D.len-di n.keys fr:=by
     have:¬(j:Int)<((D.len-di n.keys fr:Nat):Int):=cp bI;omega
    have hd:n.kids.drop (di n.keys fr+j)=[]:=sx I;rw[hd]at S
    cases S;refine⟨c6,Q,mq,r.mono (by simp only[ct,e1,jw];omega),a1,.inl ⟨true,rfl,.skip (Cl aZ) ?_⟩⟩;rw[fO];exact d
   .have bJ:j<D.len-di n.keys fr:=by
     have:(j:Int)<((D.len-di n.keys fr:Nat):Int):=b1 aJ;omega
    have a2:di n.keys fr+j<n.kids.length:=by omega
    have bK:=R.to.g8 ah;have bM:=bG.go R.to;have cr:=R.to.ae.size;obtain⟨cs,a3,c,al⟩:=cH.at bK.kids a2;rw[aq]at a3
    cases a3;obtain⟨u,a4⟩:∃u,u=n.kids[di n.keys fr+j]:=⟨_,rfl⟩;rw[←a4]at al;have bN:n.kids.drop (di n.keys fr+j)=u::n.kids.drop (di n.keys fr+j+1):=by rw[jr a2,a4]
    rw[bN]at S
    cases S with
    | @cons bO bP _ _ am bQ a5 bR bT bU=>
    have bV:c6.P=T.P:=r.P;have bW:a0.cell? ((A.add (di n.keys fr)).add (Int.toNat (j:Int)*1))=some (.int .i64 (u:Int)):=by
     rw[c8,fF,add_add];rw[c8,fF]at al;exact al
    have bY:IntKind.wrap .i64 (((g+1+1:Nat):Int)-1)=((g+1:Nat):Int):=by rw[bu I I];omega
    have bZ:IntKind.wrap .i64 ((j:Int)+1)=((j+1:Nat):Int):=by rw[bu I I];omega
    have b0:c6.aX=T.aX:=r.to.aX;simp only[e1,ct]at bh bf;have b2:(mq.length:Int)<most/\mq.length<=acc.length+o.length:=by
     have b3:gI o:=(pT.1 (pT.1 bk).2.1).1;refine⟨?_,d.len b3⟩;rcases d with ⟨_,_,a6⟩|⟨a6,_⟩
     .omega
     .cases a6
    have cv:=r.to.aO;have a8:=bb (w:=a0) (T:=c6) (lo:=lo) (aC:=aC) (aX:=aX) (aU:=aU) (aP:=aP) (s:=Q) (fy:=fy) (fE:=fE) (acc:=mq) (L:=a5) (to:=to) (fr:=fr) (most:=most) (e5:=bO) (dG:=bP) (no:=u) (p:=am) a1 I bM I (by rw[bV];exact bT) b2.1 I I;rw[b0]at a8;refine⟨A.add (di n.keys fr),by rw[aq];exact Hg I,⟨I,I⟩,u,bW,?_⟩;rw[bY,bZ];refine a8.use ?_;rintro _ b5 ⟨jW,an,ap,a9,au,b6⟩;have av:cX T jW w b5 (2+2*(m.length+am.length)):=(r.trans a9).mono I;rcases b6 with ⟨on,rfl,a_⟩|⟨rfl,W⟩
    .refine⟨on,0,rfl,λc=>?_,λc=>?_⟩
     .have c:on=false:=by simpa using c
      subst c;refine⟨jW,an,ap,av.mono (by simp only[ct,e1];omega),au,.inl ⟨false,rfl,.skip (Cl aZ) ?_⟩⟩;rw[←cM];exact(d.app a_).stop
     .have c:on=true:=by simpa using c
      subst c;refine⟨⟨j+1,jW,an,ap,m++am,bQ,o++a5,bR,rfl,I,au,?_,?_,?_,by rw[cM],by rw[cM],d.app a_⟩,?_⟩
      .rw[ct];exact av
      .rw[ct];exact(R.trans a9).mono I
      .rw[←Nat.add_assoc];exact bU
      .show((D.len:Int)-((j+1:Nat):Int)).toNat<((D.len:Int)-(j:Int)).toNat
       omega
    .refine⟨false,3,rfl,λ_=>?_,λc=>(by simp at c)⟩
     refine⟨jW,an,ap,av.mono (by simp only[ct,e1];omega),au,.inr ⟨rfl,λhc=>W (r.to.calm _ (f_ hc (by simp only[ct,e1];omega)))⟩⟩
def Hi(T:aL)(L:O aH)(fr to:Key)(most:Int)(a:Nat)(w:J)(v:aa)(w':J):Prop:=
 ∃an:aL,bJ w' an/\cX T an w w' (2*a)/\an.G=T.G/\
  ((∃s:Y,v=.tuple #[s,(0:Int)]/\fR (λq=>¬an.M q) w' s ((eO L fr to).take most.toNat))\/(v=.tuple #[(),(3:Int)]/\¬T.C.D.calm (2*a)))
theorem fR.none(B:Nat->Prop)(w:J):fR B w ⟨.none,0,0⟩ []:=(kA.none B w).r λq a=>(gf q a).elim
theorem cX.back{T an:aL}{w w':J}{k:Nat}(ht:bJ w T)(h:cX T an w w' k)(b:bJ w' an):bJ w' (an.b_ T.E T.G)/\cX T (an.b_ T.E T.G) w w' k:=
 ⟨b.grow (W:=λ_=>False) (ad.refl _ _) (λ_ h=>h.elim) (λq a=>.inl (by rw[h.E];exact a)) (λq a=>.inr (.inl (h.G q a))) λq a=>(ht.c2 q a).2.2,
  h.to.step (W:=λ_=>False) (ad.refl _ _) (λ_ h=>h.elim) (λq a=>.inl (by rw[h.E];exact a)) (λq a=>.inl (h.G q a)),rfl,λ_ h=>h,h.root,h.aE,h.f,h.P,h.view⟩
theorem Hj{w:J}{T:aL}{pages:O Nat}{L:O aH}{fE fy:Y}{fr to:Key}{most:Int}(h:bJ w T)(H:ga T pages L)(aT:L.length<=30000)(ao:T.C.D.aO+2*pages.length<=999999999)
 (hf:Src 1 w fE (aG fr)) (u:∀q,az fE q->q<w.heap.size/\¬T.M q) (ht:Src 1 w fy (aG to)) (x:∀q,az fy q->q<w.heap.size/\¬T.M q) (aV:to.length<=1000000):
 aN aj 111 #[.pointer (some T.aX),fE,fy,most] w (Hi T L fr to most pages.length w):=by
 have ap:=h.num.2.1;refine okF (I7.uf (some T.aX) fE fy most) I6.uf func111 ?_;(delta I7.uf ai r1 U af kS;dsimp only);refine bd (vs:=[fE]) rfl λw1 K N aY=>bd (vs:=[fy]) rfl λag Q y aZ=>bd (vs:=[most]) rfl λR z o a0=>⟨λh=>(by cases h),λ_=>?_⟩;have A:=(N.trans y).trans o;have S:=h.ext A;refine⟨_,rfl,_,S.cells.2.2.2.2,cj (λb w'=>b=decide (T.aE=0\/most<1)/\R=w') (λq c=>⟨λd=>c _ _ ⟨?_,rfl⟩,λd=>⟨_,z.cell,c _ _ ⟨?_,rfl⟩⟩⟩) ?_⟩
 .have:T.aE=0:=by simpa using d
  simp[this]
 .have:T.aE≠0:=by simpa using d
  simp[this]
 rintro _ _ ⟨rfl,rfl⟩;refine⟨λd=>?_,λd=>?_⟩
 .have d:=b1 d
  have e:(eO L fr to).take most.toNat=[]:=by
   rcases d with d|d
   .rcases H with ⟨_,_,_,aq⟩|g
    .rw[aq];simp[eO]
    .rw[d]at g;exact g.elim
   .have:most.toNat=0:=by omega
    rw[this,List.take_zero]
  refine⟨T,S,(cX.ext T A).mono I,rfl,.inl ⟨⟨none,0,0⟩,rfl,?_⟩⟩;rw[e];exact fR.none _ _
 have d:=cp d;have g:dV T.P T.aE none none T.root pages L:=by
  rcases H with ⟨ar,_⟩|g
  .exact absurd (.inl ar) d
  .exact g
 refine bd (vs:=[()]) rfl λB V l a1=>aS ?_;have i:Ext B B.drew:=b4 _;obtain⟨k,av⟩:∃k,k=B.drew:=⟨_,rfl⟩;rw[←av]at i⊢;obtain⟨aC,X⟩:∃aC,aC=R.heap.size:=⟨_,rfl⟩;obtain⟨aU,Z⟩:∃aU,aU=w.heap.size:=⟨_,rfl⟩;obtain⟨aX,aa⟩:∃aX,aX=w1.heap.size:=⟨_,rfl⟩;obtain⟨aP,ab⟩:∃aP,aP=ag.heap.size:=⟨_,rfl⟩;rw[←X]at V;rw[←Z]at K;rw[←aa]at Q;rw[←ab]at z;rw[←X,←Z,←aa,←ab];have m:=(A.trans l).trans i;have a2:=N.size;have a3:=y.size;have a4:=o.size;have a5:=l.size;have a6:=i.size;have ac:=V.ext i;have a7:=ac.lt;have F:∀q,w.heap.size<=q->¬T.M q:=λq c a=>by have:=h.lt a;omega
 obtain⟨bE,j⟩:∃bE,bE=T.b_ T.E λq=>T.G q\/q=aC:=⟨_,rfl⟩;have ax:bJ k bE:=by
  rw[j];refine h.grow (W:=λ_=>False) m (λ_ h=>h.elim) (λq c=>.inl c) (λq c=>.inr (c.imp id λe=>⟨I,I⟩)) λq c hg=>?_;rcases hg with hg|hg
  .exact(h.c2 q c).2.2 hg
  .have:=h.lt (q:=q) (.inr (.inr (.inr (.inl c))));omega
 have ay:cX T bE w k 0:=by
  rw[j];exact⟨(bL.refl T w).step (W:=λ_=>False) m (λ_ h=>h.elim) (λq c=>.inl c) λq c=>c.imp id λe=>I,rfl,λ_ h=>.inl h,rfl,rfl,rfl,rfl,λ_=>rfl⟩
 have n:∀q,¬T.M q->q≠aC->¬bE.M q:=λq c aA a=>by
  rw[j]at a;rcases a with a|a|a|a|a
  .exact c (.inl a)
  .exact c (.inr (.inl a))
  .exact c (.inr (.inr (.inl a)))
  .exact c (.inr (.inr (.inr (.inl a))))
  .rcases a with a|a
   .exact c (.inr (.inr (.inr (.inr a))))
   .exact aA a
 have aB:bE.aX=T.aX:=by rw[j];rfl
 have ae:bE.C=T.C:=by rw[j];rfl
 have aD:bE.P=T.P:=by rw[j];rfl
 have aF:iK w.heap.size k bE aC ⟨none,0,0⟩ []:=⟨ax,ac,kA.none _ _,by rw[j];exact .inr rfl,λq c=>(gf q c).elim⟩;have ah:qg k bE aX aU aP fy fE to fr most:=⟨(((Q.ext o).ext l).ext i),((((K.ext y).ext o).ext l).ext i),((z.ext l).ext i),n _ (F _ I) I,n _ (F _ I) I,n _ (F _ I) I,
  ht.ext m,hf.ext m,λq c=>⟨by have:=(x q c).1;omega,n q (x q c).2 (by have:=(x q c).1;omega)⟩,λq c=>⟨by have:=(u q c).1;omega,n q (u q c).2 (by have:=(u q c).1;omega)⟩,I⟩
 have ak:=Hh T.aE (acc:=[]) (no:=T.root) (L:=L) (p:=pages) (e5:=none) (dG:=none) aF I ah ap (by rw[aD];exact g) (by show(((([]:O aH).length:Nat)):Int)<most;simp only[jw];omega) (by simp only[jw];omega) (by rw[ae];exact ao);rw[aB]at ak;have al:=h.ext m;refine⟨λ_=>False,_,rfl,id,_,al.cells.2.2.2.1,_,rfl,id,_,al.cells.2.2.2.2,id,_,ah.vT.cell,ad.refl _ _,ak.use ?_⟩;rintro _ aI ⟨an,am,a8,aJ,f,aK⟩;have s:cX T an w aI (2*pages.length):=(ay.trans aJ).mono I;obtain⟨b5,bM⟩:=s.back h f.t;rcases aK with ⟨on,rfl,aM⟩|⟨rfl,aQ⟩
 .refine⟨on,0,rfl,λhx=>(by cases hx),λ_=>⟨am,f.v.cell,_,b5,bM,rfl,.inl ⟨am,rfl,?_⟩⟩⟩
  have he:=aM.all g.e4.1;rw[←he];have aR:∀q,¬an.M q->¬(an.b_ T.E T.G).M q:=λq c a=>c (by
   rcases a with a|a|a|a|a
   .exact .inl a
   .exact .inr (.inl a)
   .exact .inr (.inr (.inl a))
   .exact .inr (.inr (.inr (.inl (by rw[s.E];exact a))))
   .exact .inr (.inr (.inr (.inr (s.G q a)))))
  refine(f.own.aW λq _ c=>aR q c).r λq c a=>?_;obtain⟨au,aw,a9⟩:=f.gs q c;rcases a with a|a|a|a|a
  .exact f.t.rS au a
  .exact(f.t.hV q au).1 a
  .exact(f.t.hV q au).2 a
  .exact(f.t.c2 q (by rw[s.E];exact a)).2.2 au
  .have:=h.lt (q:=q) (.inr (.inr (.inr (.inr a))));omega
 .exact⟨false,3,rfl,λ_=>⟨_,b5,bM,rfl,.inr ⟨rfl,by rw[←ae];exact aQ⟩⟩,λhx=>(by simp at hx)⟩
theorem Cn{w:J}{T:aL}(h:bJ w T):aN aj 147 #[.pointer (some T.aX)] w (λv w'=>v=.tuple #[T.root,T.aE]/\Ext w w'):=by
 refine okF (I7.ux (some T.aX)) I6.ux func147 ?_;(delta I7.ux ai r1;dsimp only);have hd:=h.ext (b4 w);exact⟨λh=>(by cases h),λ_=>aS ⟨_,rfl,id,_,hd.cells.2.2.2.1,_,rfl,id,_,hd.cells.2.2.2.2,rfl,b4 w⟩⟩
end Go.Proofs.YtkdhdlfonmgheaaGreat
namespace Go.Proofs.YtkdhdlfonmgheaaGreat
open Go Go.Proofs Go.Shelf
def Co:Go.Shelf.Ren:=⟨λ |7=>178|10=>232|n=>n,λ |23=>137|26=>3|3=>136|28=>264|0=>0|27=>263|33=>180|4=>4|n=>n,λ |n=>n⟩
theorem Hk:Go.Proofs.SlLaysZI.n7 Tryz.prog Co:={
 mixed:=by kernel_rfl
 f7:=⟨Tryz.f178.name,by decide,Tryz.func178.trans (congrArg some (by kernel_rfl))⟩
 f10:=⟨Tryz.f232.name,by decide,Tryz.func232.trans (congrArg some (by kernel_rfl))⟩
 t0:=Tryz.underlying0
 a0:=Tryz.isAgg0
 z0:=Tryz.sizeOf0
 v0:=Tryz.zeroValue0
 t4:=Tryz.underlying4
 a4:=Tryz.isAgg4
 z4:=Tryz.sizeOf4
 v4:=Tryz.zeroValue4
 t23:=Tryz.underlying137
 a23:=Tryz.isAgg137
 z23:=Tryz.sizeOf137
 v23:=Tryz.zeroValue137
 t26:=Tryz.underlying3
 a26:=Tryz.isAgg3
 z26:=Tryz.sizeOf3
 v26:=Tryz.zeroValue3
 t27:=Tryz.underlying263
 a27:=Tryz.isAgg263
 z27:=Tryz.sizeOf263
 v27:=Tryz.zeroValue263
 t28:=Tryz.underlying264
 a28:=Tryz.isAgg264
 z28:=Tryz.sizeOf264
 v28:=Tryz.zeroValue264
 t33:=Tryz.underlying180
 a33:=Tryz.isAgg180
 z33:=Tryz.sizeOf180
 v33:=Tryz.zeroValue180}
def Cp:Go.Shelf.Ren:=⟨λ |6=>177|8=>231|9=>153|11=>271|13=>213|12=>212|23=>264|24=>265|14=>255|15=>256|16=>257|17=>258|18=>259|19=>260|20=>261|21=>262|22=>263|25=>286|26=>287|27=>288|28=>289|29=>290|30=>291|31=>297|n=>n,λ |26=>3|28=>264|24=>58|0=>0|3=>3|37=>101|48=>219|50=>27|4=>4|40=>340|39=>339|45=>175|5=>5|9=>9|51=>364|55=>367|57=>371|58=>234|33=>180|n=>n,λ |n=>n⟩
theorem Hl:Go.Proofs.SlLaysZI.n6 Tryz.prog Cp:={
 mixed:=by kernel_rfl
 f6:=⟨Tryz.f177.name,by decide,Tryz.func177.trans (congrArg some (by kernel_rfl))⟩
 f8:=⟨Tryz.f231.name,by decide,Tryz.func231.trans (congrArg some (by kernel_rfl))⟩
 f11:=⟨Tryz.f271.name,by decide,Tryz.func271.trans (congrArg some (by kernel_rfl))⟩
 t0:=Tryz.underlying0
 a0:=Tryz.isAgg0
 z0:=Tryz.sizeOf0
 v0:=Tryz.zeroValue0
 t24:=Tryz.underlying58
 a24:=Tryz.isAgg58
 z24:=Tryz.sizeOf58
 v24:=Tryz.zeroValue58
 t26:=Tryz.underlying3
 a26:=Tryz.isAgg3
 z26:=Tryz.sizeOf3
 v26:=Tryz.zeroValue3
 t28:=Tryz.underlying264
 a28:=Tryz.isAgg264
 z28:=Tryz.sizeOf264
 v28:=Tryz.zeroValue264
 i26:=by kernel_rfl}
def Hm:Go.Shelf.Ren:=⟨λ |5=>153|8=>213|7=>212|19=>264|20=>265|10=>255|11=>256|12=>257|13=>258|14=>259|15=>260|16=>261|17=>262|18=>263|30=>286|31=>287|32=>288|33=>289|34=>290|35=>291|40=>297|n=>n,λ |23=>58|25=>3|3=>3|32=>101|22=>58|0=>0|44=>219|46=>27|4=>4|36=>340|35=>339|41=>175|5=>5|9=>9|53=>364|57=>367|63=>371|64=>234|n=>n,λ |n=>n⟩
theorem vU:Go.Proofs.SlLaysM.n5 Tryz.prog Hm:={
 mixed:=by kernel_rfl
 f5:=⟨Tryz.f153.name,by decide,Tryz.func153.trans (congrArg some (by kernel_rfl))⟩
 f7:=⟨Tryz.f212.name,by decide,Tryz.func212.trans (congrArg some (by kernel_rfl))⟩
 f8:=Tryz.func213.trans (congrArg some (by kernel_rfl))
 f10:=⟨Tryz.f255.name,by decide,Tryz.func255.trans (congrArg some (by kernel_rfl))⟩
 f11:=⟨Tryz.f256.name,by decide,Tryz.func256.trans (congrArg some (by kernel_rfl))⟩
 f12:=⟨Tryz.f257.name,by decide,Tryz.func257.trans (congrArg some (by kernel_rfl))⟩
 f13:=⟨Tryz.f258.name,by decide,Tryz.func258.trans (congrArg some (by kernel_rfl))⟩
 f14:=⟨Tryz.f259.name,by decide,Tryz.func259.trans (congrArg some (by kernel_rfl))⟩
 f15:=⟨Tryz.f260.name,by decide,Tryz.func260.trans (congrArg some (by kernel_rfl))⟩
 f16:=⟨Tryz.f261.name,by decide,Tryz.func261.trans (congrArg some (by kernel_rfl))⟩
 f17:=⟨Tryz.f262.name,by decide,Tryz.func262.trans (congrArg some (by kernel_rfl))⟩
 f18:=⟨Tryz.f263.name,by decide,Tryz.func263.trans (congrArg some (by kernel_rfl))⟩
 f19:=Tryz.func264.trans (congrArg some (by kernel_rfl))
 f20:=Tryz.func265.trans (congrArg some (by kernel_rfl))
 f30:=⟨Tryz.f286.name,by decide,Tryz.func286.trans (congrArg some (by kernel_rfl))⟩
 f31:=Tryz.func287.trans (congrArg some (by kernel_rfl))
 f32:=Tryz.func288.trans (congrArg some (by kernel_rfl))
 f33:=⟨Tryz.f289.name,by decide,Tryz.func289.trans (congrArg some (by kernel_rfl))⟩
 f34:=⟨Tryz.f290.name,by decide,Tryz.func290.trans (congrArg some (by kernel_rfl))⟩
 f35:=⟨Tryz.f291.name,by decide,Tryz.func291.trans (congrArg some (by kernel_rfl))⟩
 f40:=⟨Tryz.f297.name,by decide,Tryz.func297.trans (congrArg some (by kernel_rfl))⟩
 t0:=Tryz.underlying0
 a0:=Tryz.isAgg0
 z0:=Tryz.sizeOf0
 v0:=Tryz.zeroValue0
 t3:=Tryz.underlying3
 a3:=Tryz.isAgg3
 z3:=Tryz.sizeOf3
 v3:=Tryz.zeroValue3
 t4:=Tryz.underlying4
 a4:=Tryz.isAgg4
 z4:=Tryz.sizeOf4
 v4:=Tryz.zeroValue4
 t5:=Tryz.underlying5
 a5:=Tryz.isAgg5
 z5:=Tryz.sizeOf5
 v5:=Tryz.zeroValue5
 t9:=Tryz.underlying9
 a9:=Tryz.isAgg9
 z9:=Tryz.sizeOf9
 v9:=Tryz.zeroValue9
 t22:=Tryz.underlying58
 a22:=Tryz.isAgg58
 z22:=Tryz.sizeOf58
 v22:=Tryz.zeroValue58
 t23:=Tryz.underlying58
 a23:=Tryz.isAgg58
 z23:=Tryz.sizeOf58
 v23:=Tryz.zeroValue58
 t25:=Tryz.underlying3
 a25:=Tryz.isAgg3
 z25:=Tryz.sizeOf3
 v25:=Tryz.zeroValue3
 t32:=Tryz.underlying101
 a32:=Tryz.isAgg101
 z32:=Tryz.sizeOf101
 v32:=Tryz.zeroValue101
 t35:=Tryz.underlying339
 a35:=Tryz.isAgg339
 z35:=Tryz.sizeOf339
 v35:=Tryz.zeroValue339
 t36:=Tryz.underlying340
 a36:=Tryz.isAgg340
 z36:=Tryz.sizeOf340
 v36:=Tryz.zeroValue340
 t41:=Tryz.underlying175
 a41:=Tryz.isAgg175
 z41:=Tryz.sizeOf175
 v41:=Tryz.zeroValue175
 t44:=Tryz.underlying219
 a44:=Tryz.isAgg219
 z44:=Tryz.sizeOf219
 v44:=Tryz.zeroValue219
 t46:=Tryz.underlying27
 a46:=Tryz.isAgg27
 z46:=Tryz.sizeOf27
 v46:=Tryz.zeroValue27
 t53:=Tryz.underlying364
 a53:=Tryz.isAgg364
 z53:=Tryz.sizeOf364
 v53:=Tryz.zeroValue364
 t57:=Tryz.underlying367
 a57:=Tryz.isAgg367
 z57:=Tryz.sizeOf367
 v57:=Tryz.zeroValue367
 t63:=Tryz.underlying371
 a63:=Tryz.isAgg371
 z63:=Tryz.sizeOf371
 v63:=Tryz.zeroValue371
 t64:=Tryz.underlying234
 a64:=Tryz.isAgg234
 z64:=Tryz.sizeOf234
 v64:=Tryz.zeroValue234}
end Go.Proofs.YtkdhdlfonmgheaaGreat
namespace Go.Proofs.YtkdhdlfonmgheaaGreat
open Go a6 Go.Proofs.Tryz
theorem Hn{w:J}{b n:Nat}{c:Array aa}{T:TypeId}{os:Array Obj}{zs:O Int}(h:bt w b c T)(g:zs.length<=c.size):
 ∃c':Array aa,bt (Go.Sort.grow (Go.Sort.putRow (Value.int .i64) (Go.Sort.ahead w n) b 0 zs.toArray) os) b c' T/\c'.size=c.size/\c'.toList.take zs.length=zs.map encZ/\ad (λq=>q=b) w (Go.Sort.grow (Go.Sort.putRow (Value.int .i64) (Go.Sort.ahead w n) b 0 zs.toArray) os):=by
 have aJ:=h.lt;have d:∀k,k<w.heap.size->(Go.Sort.grow (Go.Sort.putRow (Value.int .i64) (Go.Sort.ahead w n) b 0 zs.toArray) os).heap[k]? =(w.heap.modify b (Go.Sort.onCells (Go.Sort.putCells (Value.int .i64) 0 zs.toArray)))[k]? :=λk a=>by
  show((w.heap.modify b _)++os)[k]? =_;rw[Array.getElem?_append_left (by simpa using a)]
 refine⟨Go.Sort.putCells (Value.int .i64) 0 zs.toArray c,?_,by simp[Go.Sort.putCells],?_,rfl,rfl,rfl,?_,λk a f=>?_⟩
 .unfold bt at h⊢
  rw[d b aJ,sf,if_pos rfl,h];rfl
 .apply List.ext_getElem?
  intro i;rw[si];split
  .rename_i hi
   rw[Array.getElem?_toList,Go.Sort.putCells,Array.getElem?_mapIdx,Array.getElem?_eq_getElem I,ld,if_pos ⟨cE _,by simpa using hi⟩,lg,du hi];simp[hi]
  .rename_i hi
   rw[ke (by simpa using hi)]
 .show w.heap.size<=((w.heap.modify b _)++os).size
  simp
 .rw[d k a,sf,if_neg (λe=>f e.symm)]
theorem yz(ds:O Nat):dR ds=(ds.map λd=>((d:Nat):Int)).map encZ:=by simp[dR]
theorem Cq{w:J}{s:Y}{zs:O Int}(h:a8 1 3 w s (zs.map encZ))(F:zs.length<=1000000):
 aN aj 153 #[s] w (λv w'=>v=.tuple #[]/\ad (az s) w w'/\∃d:O Int,a8 1 3 w' s (d.map encZ)/\d.Perm zs/\d.Pairwise λa b=>a<=b):=by
 have G:s.len=zs.length:=by have:=h.1;rw[dN]at this;omega
 rcases nw zs.length with h0|h0
 .have hd:zs=[]:=kH.1 h0
  have e:s.len=0:=by omega
  rw[e];refine Calls.mono (AnyM.slices_Sort_int_none vU s.a s.cap w) ?_;rintro _ _ ⟨rfl,rfl⟩;exact⟨_,rfl,rfl,.refl _ _,[],by rw[hd]at h;exact h,by rw[hd],List.Pairwise.nil⟩
 obtain⟨h1,h2,t,u⟩:=h;rcases u with ⟨_,g⟩|⟨b,c,i,f,z,A⟩
 .omega
 have B:Go.Sort.Holds (Value.int .i64) w b 0 zs.toArray:=λj C=>by
  have m:j<zs.length:=by simpa using C
  refine⟨?_,bt.frozen f _ rfl⟩;rw[f.cell,cx];have e:=congrArg (λl=>l[j]?) A;simp only[si,lg,du m,ld]at e;rw[if_pos I,Array.getElem?_toList]at e;rw[e];simp[m]
 have D:=AnyM.slices_Sort_int vU b 0 s.cap zs w B f.lt I;rw[i];have e:s.len=zs.length:=by omega
 rw[e];refine Calls.mono D ?_;rintro _ w' ⟨rfl,n,os,rfl⟩;obtain⟨c',au,aw,o,p⟩:=Hn (n:=n) (os:=os) (zs:=zs.mergeSort λx y=>decide (x<=y)) f (by rw[List.length_mergeSort];omega);have k:=List.mergeSort_perm zs λx y=>decide (x<=y);have r:(zs.mergeSort λx y=>decide (x<=y)).Pairwise λa b=>decide (a<=b)=true:=List.pairwise_mergeSort (λa b c h1 h2=>by simp only[cQ]at*;omega) (λa b=>by simp only[jc,cQ];omega) zs;generalize (zs.mergeSort λx y=>decide (x<=y))=d at au aw o p k r;refine⟨_,rfl,rfl,p.mono λq _ e=>⟨b,i,e.symm⟩,d,?_,k,r.imp λh=>b1 h⟩;have E:=k.length_eq;have g:=a8.mk' (sz:=1) (n:=s.len) (cap:=s.cap) au (vs:=d.map encZ) (by rw[dN];omega) h2 t (by rw[aw];exact z) (by rw[fF,e,←E];exact o);rw[←i]at g;exact g
theorem Cr{w:J}{s:Y}{ds:O Nat}(h:a8 1 3 w s (dR ds))(i:ds.length<=1000000):
 aN aj 153 #[.slice s.a s.len s.cap] w (λv w'=>v=.tuple #[]/\ad (az s) w w'/\∃es:O Nat,a8 1 3 w' s (dR es)/\es.Perm ds/\es.Pairwise λa b=>a<=b):=by
 rw[yz]at h;refine(Cq h (by rw[dN];exact i)).mono ?_;rintro v w' ⟨rfl,hc,c,j,f,k⟩;have g:∀y∈c,0<=y:=λy e=>by
  obtain⟨d,_,rfl⟩:=ep.1 (f.mem_iff.1 e);omega
 have l:(c.map Int.toNat).map (λd=>((d:Nat):Int))=c:=by
  rw[iu]
  conv=>rhs;rw[←List.map_id c]
  refine List.map_congr_left λy e=>?_;have:=g y e;show((y.toNat:Nat):Int)=y;omega
 refine⟨rfl,hc,c.map Int.toNat,by rw[yz,l];exact j,?_,?_⟩
 .have:=f.map Int.toNat
  rw[iu]at this;have m:(Int.toNat∘ λd:Nat=>((d:Nat):Int))=id:=by funext d;simp
  rw[m,List.map_id]at this;exact this
 .rw[List.pairwise_map]
  exact k.imp_of_mem λn o p=>by
   have:=g _ n;omega
theorem Ho{B:Nat->Prop}{w:J}{s:Y}{ds:O Nat}(h:cH B w s ds)(no:Nat)(k:ds.length<=1000000):
 aN aj 184 #[s,no] w (λv w'=>∃n:Int,v=n/\(0<=n↔no∈ds)/\w=w'):=by
 have l:=h.len;refine okF (I7.tw s (no:Nat)) I6.tw func184 ?_;(delta I7.tw ai aK r1 ar;dsimp only);refine⟨λn w'=>∃i:Nat,n=(i:Int)/\i<=ds.length/\no∉ds.take i/\w=w',λn _=>((ds.length:Int)-n).toNat,⟨0,rfl,cE _,by simp,rfl⟩,?_⟩;rintro _ _ ⟨i,rfl,hi,d,rfl⟩;refine⟨λaJ=>?_,λf=>?_⟩
 .have b:i<ds.length:=by
   have:(i:Int)<(s.len:Int):=b1 aJ;omega
  obtain⟨A,aq,g,hc⟩:=cH.at h b;refine⟨A,aq,g,_,hc,λhe=>?_,λc=>?_⟩
  .have he:no=ds[i]:=by
    have:(no:Int)=((ds[i]:Nat):Int):=by simpa using he
    omega
   exact⟨_,rfl,⟨λ_=>by rw[he];exact cA _,λ_=>I⟩,rfl⟩
  .have c:no≠ds[i]:=λe=>by rw[e]at c;simp at c
   have j:IntKind.wrap .i64 ((i:Int)+1)=((i+1:Nat):Int):=by rw[bu I I];omega
   rw[j];refine⟨⟨i+1,rfl,I,?_,rfl⟩,by show((ds.length:Int)-((i+1:Nat):Int)).toNat<((ds.length:Int)-(i:Int)).toNat;omega⟩;rw[iq b];intro a;rcases cP.1 a with a|a
   .exact d a
   .exact c (fh.1 a)
 .have b:i=ds.length:=by
   have:¬(i:Int)<(s.len:Int):=cp f;omega
  rw[b,ir]at d;exact⟨-1,rfl,⟨λh=>I,λh=>absurd h d⟩,rfl⟩
theorem Hp{B:Nat->Prop}{w:J}{s:Y}{ds:O Nat}(h:cH B w s ds)(no:Nat)(a:ds.length<=1000000):
 aN aj 118 #[s,no] w (λv w'=>v=.bool (decide (no∈ds))/\w=w'):=by
 refine okF (I7.tq s (no:Nat)) I6.tq func118 ?_;(delta I7.tq ay;dsimp only);refine(Ho h no a).use ?_;rintro _ _ ⟨n,rfl,b,rfl⟩;refine⟨n,rfl,?_,rfl⟩
 congr 1
 exact decide_eq_decide.2 b
def ih(B:Nat->Prop)(w:J)(t:Y):ao Key->Prop
 |none=>t.a=none
 |some k=>k≠ []/\aY B w t k
theorem ih.ae{B W:Nat->Prop}{w w':J}{t:Y}{o:ao Key}(h:ih B w t o)(hc:ad W w w')(b:∀q,B q->q<w.heap.size->¬W q):ih B w' t o:=by
 cases o with
 |none=>exact h
 |some k=>exact⟨h.1,aY.iG h.2 hc λq a=>b q (h.2.2.2 q a).1 (h.2.2.2 q a).2⟩
theorem ih.aW{B C:Nat->Prop}{w:J}{t:Y}{o:ao Key}(h:ih B w t o)(a:∀q,q<w.heap.size->B q->C q):ih C w t o:=by
 cases o with
 |none=>exact h
 |some k=>exact⟨h.1,aY.aW h.2 a⟩
theorem ih.nil{B:Nat->Prop}{w:J}{t:Y}{o:ao Key}(h:ih B w t o):(!(Option.isNone t.a))=o.isSome:=by
 cases o with
 |none=>rw[show t.a=none from h];rfl
 |some k=>
  obtain⟨A,aq⟩:=aY.some h.2 h.1;rw[aq];rfl
theorem pO{B C D:Nat->Prop}{w:J}{n:aB}{K V l lK lL:Y}{lo hi:ao Key}(z:bz B w n K V l)(S:n.keys.length<=100000)(L:ih C w lK lo)(M:ih D w lL hi):
 aN aj 254 #[cW n K V l,lK,lL] w (λv w'=>∃b:ah,v=b/\(b=true↔n.within lo hi)/\Ext w w'):=by
 have T:=bj.len z.keys;refine okF (I7.pO n.leaf K V l lK lL) I6.pO func254 ?_;(delta I7.pO af U ai aK ay ar;dsimp only);refine bd (vs:=dM n K V l) rfl λw1 N f X=>?_;obtain⟨bS,ay,aR,aF⟩:=bC N;have O:=z.ext f;have o:=L.ae (W:=λ_=>False) f λ_ _ _ h=>h;have p:=M.ae (W:=λ_=>False) f λ_ _ _ h=>h;refine⟨K,ay,λi w'=>∃s:Nat,i=(s:Int)/\s<=n.keys.length/\(∀k∈n.keys.take s,fj lo hi k)/\w1=w',λi _=>((n.keys.length:Int)-i).toNat,⟨0,rfl,cE _,by simp,rfl⟩,?_⟩;rintro _ _ ⟨i,rfl,Z,t,rfl⟩;refine⟨λaJ=>?_,λP=>?_⟩
 rotate_left
 .have m:i=n.keys.length:=by
   have:¬(i:Int)<(K.len:Int):=cp P;omega
  rw[m,ir]at t;exact⟨true,rfl,⟨λ_=>t,λ_=>rfl⟩,f⟩
 have m:i<n.keys.length:=by
  have:(i:Int)<(K.len:Int):=b1 aJ;omega
 obtain⟨A,tk,aq,g,hc,u,_⟩:=bj.at O.keys m;obtain⟨key,x⟩:∃key,key=n.keys[i]:=⟨_,rfl⟩;rw[←x]at u;refine⟨A,aq,g,tk,hc,cj (λb w'=>(b=true↔¬∀a,lo=some a->ef a key)/\w1=w') (λq j=>⟨λc=>?_,λc=>?_⟩) ?_⟩
 .rw[o.nil]at c
  cases lo with
  |none=>cases c
  |some a=>
   refine(kn u.1 o.2.1).use ?_;rintro _ _ ⟨rfl,rfl⟩;refine⟨_,rfl,j _ _ ⟨?_,rfl⟩⟩;rw[cQ];constructor
   .exact λh h2=>h2 a rfl h
   .exact λh=>oV λh2=>h λb g=>by cases g;exact h2
 .rw[o.nil]at c
  cases lo with
  |none=>exact j _ _ ⟨⟨λh=>(by cases h),λh=>absurd (λa e=>(by cases e)) h⟩,rfl⟩
  |some a=>cases c
 rintro aa _ ⟨E,rfl⟩;refine cj (λb w'=>(b=true↔¬fj lo hi key)/\w1=w') (λq j=>⟨λc=>j _ _ ⟨⟨λ_ h=>(E.1 c) h.1,λ_=>rfl⟩,rfl⟩,λc=>?_⟩) ?_
 .have Q:∀a,lo=some a->ef a key:=Classical.byContradiction λh2=>by rw[E.2 h2]at c;cases c
  refine cj (λb w'=>(b=true↔¬∀a,hi=some a->bD key a)/\w1=w') (λr F=>⟨λh2=>?_,λh2=>?_⟩) ?_
  .rw[p.nil]at h2
   cases hi with
   |none=>cases h2
   |some a=>
    refine(kn u.1 p.2.1).use ?_;rintro _ _ ⟨rfl,rfl⟩;refine⟨_,rfl,F _ _ ⟨?_,rfl⟩⟩;rw[cQ];constructor
    .exact λh h2=>by
      have:eu key a<0:=h2 a rfl;omega
    .exact λh=>oV λh2=>h λb g=>by cases g;show eu key a<0;omega
  .rw[p.nil]at h2
   cases hi with
   |none=>exact F _ _ ⟨⟨λh=>(by cases h),λh=>absurd (λa e=>(by cases e)) h⟩,rfl⟩
   |some a=>cases h2
  .rintro ab _ ⟨G,rfl⟩
   exact j _ _ ⟨⟨λh y=>G.1 h y.2,λh=>G.2 λy=>h ⟨Q,y⟩⟩,rfl⟩
 .rintro ac _ ⟨H,rfl⟩
  have R:IntKind.wrap .i64 ((i:Int)+1)=((i+1:Nat):Int):=by rw[bu I I];omega
  refine⟨λc=>⟨false,rfl,⟨λh=>(by cases h),λh=>absurd (h key (by rw[x];exact cA _)) (H.1 c)⟩,f⟩,λc=>?_⟩;rw[R];refine⟨⟨i+1,rfl,I,λk d=>?_,rfl⟩,by show((n.keys.length:Int)-((i+1:Nat):Int)).toNat<((n.keys.length:Int)-(i:Int)).toNat;omega⟩;rw[iq m]at d;rcases cP.1 d with d|d
  .exact t k d
  .rw[fh.1 d,←x]
   exact Classical.byContradiction λh=>by rw[H.2 h]at c;cases c
theorem dz.each{W:Below}{lo hi:ao Key}{ks:O Key}{kids p:O Nat}{L:O aH}(h:dz W lo hi ks kids p L):
 ∃ (ps:O (O Nat)) (a:O (O aH)),ps.length=kids.length/\a.length=kids.length/\p=ps.flatten/\L=a.flatten/\
  ∀ (i:Nat) (h1:i<kids.length) (h2:i<ps.length) (b:i<a.length),W (if i=0 then lo else ks[i-1]?) (if i<ks.length then ks[i]? else hi) kids[i] ps[i] a[i]:=by
 induction h with
 | @one lo hi k p L h=>
  refine⟨[p],[L],rfl,rfl,by simp,by simp,λi h1 h2 b=>?_⟩;have:i=0:=by simpa using h1
  subst this;exact h
 | @cons lo hi s k bw br ba bB ks kids h t c=>
  obtain⟨ps,a,au,aw,rfl,rfl,d⟩:=c;have e:=t.len;refine⟨bw::ps,ba::a,by simp[au],by simp[aw],by simp,by simp,λi h1 h2 b=>?_⟩
  cases i with
  |zero=>simpa using h
  |succ i=>
   have:=d i (by simpa using h1) (by simpa using h2) (by simpa using b);simp only[List.getElem_cons_succ,e1,Nat.add_lt_add_iff_right,we,Nat.add_one_ne_zero,if_false,Nat.add_sub_cancel]
   cases i with
   |zero=>simpa using this
   |succ i=>simpa using this
structure hY(w:J)(T:aL)(dK:Nat)(s:Y)(ps:O Nat)(k:Nat):Prop where
 t:bJ w T
 v:Var w dK [.pointer (some T.aX),s,k] 303
 own:a8 1 3 w s (dR ps)
 qh:T.G dK
 gs:∀q,az s q->T.G q/\q≠dK
section
variable {w w':J}{T an:aL}{dK k:Nat}{s:Y}{ps:O Nat}
theorem hY.of{W:Nat->Prop}(h:hY w T dK s ps k)(d:bJ w' an)(e:an.aX=T.aX)(b:∀q,T.G q->an.G q)(c:ad W w w')(b8:∀q,T.G q->¬W q):hY w' an dK s ps k:=
 ⟨d,by rw[e];exact h.v.ae c (b8 _ h.qh),h.own.ae c λq a=>b8 q (h.gs q a).1,b _ h.qh,λq a=>⟨b q (h.gs q a).1,(h.gs q a).2⟩⟩
theorem hY.ext(h:hY w T dK s ps k)(hx:Ext w w'):hY w' T dK s ps k:=h.of (h.t.ext hx) rfl (λ_ h=>h) hx λ_ _ h=>h
theorem hY.cells(h:hY w T dK s ps k):w.cell? dK=some (.pointer (some T.aX))/\w.cell? (Addr.add dK 1)=some (.slice s.a s.len s.cap)/\w.cell? (Addr.add dK 2)=some (.int .i64 (k:Nat)):=by
 rw[av,av];exact⟨h.v.cell,h.v.cell,h.v.cell⟩
theorem Hq(h:hY w T dK s ps k)(no:Nat)(r:ps.length<=100000):
 ∃ (b:Y) (ag:J),Sem.run aj (Builtin.append_ #[58,58] 58 #[s,.slice (some w.heap.size) 1 1]) (w.alloc (.cells #[no] 3))=.ok b ag/\
  (∃u:aa,ag.cell? ⟨dK,1,none⟩=some u)/\ag.frozen? ⟨dK,1,none⟩=false/\
  ∀c,c=ag.setCell ⟨dK,1,none⟩ b->hY c (T.b_ T.E λq=>T.G q\/az b q) dK b (ps++ [no]) k/\cX T (T.b_ T.E λq=>T.G q\/az b q) w c 0:=by
 obtain⟨b,ag,au,aw,d,f,x⟩:=yh no h.own I;have b8:∀q,az s q->T.G q:=λq a=>(h.gs q a).1;have y:=d.size;have j:=h.v.ae d λa=>(h.gs _ a).2 rfl;obtain⟨bA,bO⟩:=dH j (i:=1) (by simp);refine⟨b,ag,au,bA,bO,?_⟩;rintro _ rfl;have g:=dn ag dK 1 b;have o:=dJ j (i:=1) b;have l:ad T.G w (ag.setCell ⟨dK,1,none⟩ b):=cr (d.mono λq _ a=>b8 q a) g λq _ e=>by rw[e];exact h.qh
 have m:∀q,az b q->T.G q\/(w.heap.size<=q/\q<(ag.setCell ⟨dK,1,none⟩ b).heap.size):=λq a=>by
  rcases f q a with h1|h1
  .exact .inl (b8 q h1)
  .exact .inr ⟨h1,by have:=a8.lt aw q a;have:=g.size;omega⟩
 have n:∀q,az b q->q≠dK:=λq a e=>by
  rcases f q a with h1|h1
  .exact(h.gs q h1).2 e
  .have:=h.v.lt;omega
 have p:=h.t.grow (E:=T.E) (G:=λq=>T.G q\/az b q) l (λq a _=>.inr a) (λq a=>.inl a) (λq a=>by
  rcases a with a|a
  .exact .inr (.inl a)
  .exact .inr (m q a)) λq a hg=>by
  rcases hg with hg|hg
  .exact(h.t.c2 q a).2.2 hg
  .rcases f q hg with h1|h1
   .exact(h.t.c2 q a).2.2 (b8 q h1)
   .have:=h.t.lt (q:=q) (.inr (.inr (.inr (.inl a))));omega
 refine⟨⟨p,o,aw.ae g λq a e=>n q a e,.inl h.qh,λq a=>⟨.inr a,n q a⟩⟩,?_,rfl,λ_ h=>.inl h,rfl,rfl,rfl,rfl,λ_=>rfl⟩;exact(bL.refl T w).step l (λq a _=>.inr (.inr (.inr a))) (λq a=>.inl a) λq a=>by
  rcases a with a|a
  .exact .inl a
  .exact(m q a).imp id λe=>e.1
theorem Hr(h:hY w T dK s ps k)(m:Nat):(∃u:aa,w.cell? (Addr.add dK 2)=some u)/\w.frozen? (Addr.add dK 2)=false/\
 hY (w.setCell (Addr.add dK 2) m) T dK s ps m/\cX T T w (w.setCell (Addr.add dK 2) m) 0:=by
 rw[av];obtain⟨bA,bO⟩:=dH h.v (i:=2) (by simp);have b:=dn w dK 2 m;have hc:ad T.G w (w.setCell ⟨dK,2,none⟩ m):=b.mono λq _ e=>by rw[e];exact h.qh
 refine⟨bA,bO,⟨?_,dJ h.v (i:=2) _,h.own.ae b λq a e=>(h.gs q a).2 e,h.qh,h.gs⟩,?_,rfl,λ_ h=>h,rfl,rfl,rfl,rfl,λ_=>rfl⟩
 .exact h.t.grow (E:=T.E) (G:=T.G) hc (λq a _=>.inr a) (λq a=>.inl a) (λq a=>.inr (.inl a)) λq a=>(h.t.c2 q a).2.2
 .exact(bL.refl T w).step (E:=T.E) (G:=T.G) hc (λq a _=>.inr (.inr (.inr a))) (λq a=>.inl a) λq a=>.inl a
end
theorem bL.aK{T an:aL}{w w':J}{k:Nat}{t:Y}{o:ao Key}(h:bL T an w w' k)(a:ih (λq=>¬T.M q) w t o):ih (λq=>¬an.M q) w' t o:=by
 have h1:ih (λq=>q<w.heap.size/\¬T.M q) w t o:=a.aW λq b a=>⟨b,a⟩;exact(h1.ae h.ae λq b _ c=>b.2 (aL.gh c)).aW λq _ a=>(h.out a.1 a.2).1
theorem cX.bad{T an:aL}{w w':J}{k x:Nat}(h:cX T an w w' k)(a:jJ an x):jJ T x:=by
 obtain⟨h1,e,h2⟩:=a;exact⟨by rw[←h.to.n];exact h1,e,by rw[←h.view];exact h2⟩
theorem cX.Hs{T an:aL}{w w':J}{k x:Nat}(h:cX T an w w' k)(a:jJ T x):jJ an x:=by
 obtain⟨h1,e,h2⟩:=a;exact⟨by rw[h.to.n];exact h1,e,by rw[h.view];exact h2⟩
theorem dV.Cs{P:Nat->ao aB}{h:Nat}{lo hi:ao Key}{no:Nat}{p:O Nat}{L:O aH}(d:dV P (h+1) lo hi no p L):∃ (n:aB) (a:O Nat),P no=some n/\n.leaf=decide (h=0)/\cC n/\p=no::a/\n.within lo hi/\
 ((h=0/\gQ n/\a=[]/\L.length=n.keys.length)\/(vf n/\∃ (ps:O (O Nat)) (b:O (O aH)),ps.length=n.kids.length/\b.length=n.kids.length/\a=ps.flatten/\L=b.flatten/\
   ∀ (i:Nat) (h1:i<n.kids.length) (h2:i<ps.length) (c:i<b.length),dV P h (if i=0 then lo else n.keys[i-1]?) (if i<n.keys.length then n.keys[i]? else hi) n.kids[i] ps[i] b[i])):=by
 match h,d with
 |0,⟨n,h1,h2,c,g,e,f⟩=>
  refine⟨n,[],h1,h2.leaf,.inl h2,e,c,.inl ⟨rfl,h2,rfl,?_⟩⟩;rw[f];unfold aB.dF;rw[mG,h2.len,Nat.min_self]
 |h+1,⟨n,a,h1,h2,c,g,e⟩=>
  have f:=e.mono (V:=λlo hi k p L=>dV P (h+1) lo hi k p L) λ_ _ _ _ _ _ d=>d.1;exact⟨n,a,h1,by rw[h2.inner];simp,.inr h2,g,c,.inr ⟨h2,f.each⟩⟩
def Ht(T:aL)(dK:Nat)(ps:O Nat)(keys:Nat)(fT:Nat->ao aB)(p:O Nat)(b:Nat)(w:J)(v:aa)(w':J):Prop:=
 ∃an:aL,cX T an w w' (2*p.length)/\
  ((v=.int .i64 0/\(∃a,hY w' an dK a (ps++p) (keys+b))/\∀x∈p,T.P x=fT x)\/
   (∃e:Int,v=e/\e≠0/\(∃ (a:Y) (c:O Nat) (d:Nat),hY w' an dK a c d)/\((e=3/\¬T.C.D.calm (2*p.length))\/∃x∈p,jJ T x)))
theorem rY{α:Type}{l:O (O α)}{i:Nat}(h:i<l.length):(l.take (i+1)).flatten=(l.take i).flatten++l[i]:=by
 rw[iq h,sn];simp
theorem yA{α:Type}{l:O (O α)}{i:Nat}(h:i<l.length):l.flatten=(l.take i).flatten++(l[i]++(l.drop (i+1)).flatten):=by
 conv=>lhs;rw[←hZ i l,jr h]
 rw[sn,sq]
theorem Ct{α:Type}{l:O (O α)}{i:Nat}(h:i<l.length):(l.take i).flatten.length+l[i].length<=l.flatten.length:=by
 have:=congrArg List.length (yA h);rw[ct,ct]at this;omega
theorem Hu(h:Nat):∀ {w:J}{T:aL}{dK keys:Nat}{s lK lL:Y}{ps p:O Nat}{fT:Nat->ao aB}{L:O aH}{lo hi:ao Key}{no:Nat},hY w T dK s ps keys->h<=12->dV fT h lo hi no p L->(∀x∈p,T.f x=true/\x<T.n)->(∀x∈p,∀bk,fT x=some bk->T.P x=some bk\/jJ T x)->(ps++p).Nodup->
   ih (λq=>¬T.M q) w lK lo->ih (λq=>¬T.M q) w lL hi->ps.length+p.length<=10000->keys+L.length<=100000->T.C.D.aO+2*p.length<=999999999->
   aN aj 211 #[.pointer (some dK),no,h,lK,lL] w (Ht T dK ps keys fT p L.length w):=by
 induction h with
 |zero=>intro w T dK keys s lK lL ps p fT L lo hi no _ _ ah;exact ah.elim
 |succ h bm=>
   intro w T dK keys s lK lL ps p fT L lo hi no ak cv ah aZ a0 c1 a1 a2 bo cw bp
   obtain⟨n,cy,al,bq,br,rfl,bs,bt⟩:=ah.Cs
   have a3:=ak.t
   have bv:=a0 no (by simp) n al
   have bw:=aZ no (by simp)
   simp only[e1]at bo bp
   refine okF (I7.uK (some dK) (no:Nat) ((h+1:Nat):Int) lK lL) I6.uK func211 ?_
   (delta I7.uK gY cl U ai af aF a7 st r1 ar aK ay;dsimp only)
   rw[yf bq]
   refine⟨_,rfl,_,ak.cells.1,(Cm a3 I bv).use ?_⟩
   rintro _ S ⟨aD,W,a4,bx,am⟩
   have a5:hY S (T.bg aD T.P) dK s ps keys:=ak.of a4 rfl (λ_ h=>h) bx λq g bB=>bB.2 g
   rcases am with ⟨K,V,D,rfl,an,bD⟩|⟨e,rfl,z,ap⟩
   rotate_left
   · refine⟨_,bc,bc,bc,e,rfl,bd (vs:=[false,(),(),()]) rfl λbE F ax bF=>⟨F.b9 rfl (fD (b:=g8.leaf) (K:=bc) (V:=bc) (D:=bc)),rfl,cu F (us:=dM g8 bc bc bc) rfl rfl λbG cz bH cB=>⟨λ_=>?_,λhx=>(by simp at hx;exact absurd hx z)⟩⟩⟩
     have a6:Ext S bG:=Ext.cm ax bH (bn _)
     refine⟨_,(W.trans (cX.ext _ a6)).mono (by simp only[e1];omega),.inr ⟨e,rfl,z,⟨s,ps,keys,a5.ext a6⟩,?_⟩⟩
     rcases ap with ⟨rfl,bI⟩|bJ
     · exact .inl ⟨rfl,λhc=>bI (f_ hc (by simp only[e1];omega))⟩
     · exact .inr ⟨no,by simp,bJ⟩
   have cD:=cC.eG br (by have:=a3.nj _ _ an;omega)
   refine⟨_,K,V,D,0,rfl,bd (vs:=[false,(),(),()]) rfl λbE F ax bF=>⟨F.b9 rfl fD,rfl,cu F (us:=dM n K V D) rfl rfl λX Z bK cF=>⟨λhx=>(by cases hx),λ_=>?_⟩⟩⟩
   have u:Ext S X:=Ext.cm ax bK (bn _)
   obtain⟨nb,bM⟩:∃nb,nb=S.heap.size:=⟨_,rfl⟩
   rw[←bM]at Z⊢
   have a8:¬(T.bg aD T.P).M nb:=λo=>by have:=a4.lt o;omega
   have l:=a5.ext u
   have aa:bz (λq=>¬(T.bg aD T.P).M q) X n K V D:=(bD.ext u).aW λq _ c=>c.2
   have cG:=u.size
   have bN:=bj.len aa.keys
   have cI:=cH.len aa.kids
   obtain⟨d0,d1,d2,d3⟩:=bC Z
   have bP:no∉ps:=λo=>by
     rw[oQ]at c1
     exact c1.2.2 no o no (by simp) rfl
   refine⟨_,rfl,s,l.cells.2.1,(Hp (B:=λ_=>True) ⟨l.own.src,l.own.2.1,λq g=>⟨trivial,l.own.lt q g⟩⟩ no I).use ?_⟩
   rintro _ _ ⟨rfl,rfl⟩
   refine⟨_,rfl,cj (λb w'=>b=false/\X=w') (λq g=>⟨λc=>absurd (b1 c) bP,λ_=>⟨_,rfl,_,l.cells.1,_,rfl,_,l.t.cells.2.1,(Gk l.t.s (no:Nat)).use ?_⟩⟩) ?_⟩
   · rintro _ _ ⟨rfl,rfl⟩
     refine⟨_,rfl,g _ _ ⟨?_,rfl⟩⟩
     have a9:(T.bg aD T.P).f=T.f:=rfl
     have a_:(T.bg aD T.P).n=T.n:=rfl
     rw[a9,a_,c8,bw.1]
     have:(0:Int)<=(no:Int)/\(no:Int)<(T.n:Int):=⟨I,I⟩
     simp[this.2]
   rintro _ _ ⟨rfl,rfl⟩
   have bQ:=(W.to.trans (bL.ext _ u)).aK a1
   have bR:=(W.to.trans (bL.ext _ u)).aK a2
   refine cj (λb w'=>b=false/\Ext X w') (λq g=>⟨λc=>(by cases c),λ_=>⟨_,d0,K,d1,V,d2,D,d3,(pO aa I bQ bR).use ?_⟩⟩) ?_
   · rintro _ cJ ⟨b,rfl,c,bS⟩
     exact⟨b,rfl,g _ _ ⟨by rw[c.2 bs];rfl,bS⟩⟩
   rintro _ cK ⟨rfl,H⟩
   refine⟨λc=>(by cases c),λ_=>?_⟩
   have ba:=l.ext H
   obtain⟨N,bb,au,aw,bT,bU⟩:=Hq ba no I
   refine⟨_,rfl,s,ba.cells.2.1,aS ⟨N,bb,au,_,rfl,?_⟩⟩
   rw[av,cx]
   refine⟨aw,bT,aS ?_⟩
   obtain⟨ac,r⟩:=bU _ rfl
   generalize cL:bb.setCell ⟨dK,1,none⟩ N=v at ac r⊢
   obtain⟨iS,bV⟩:∃iS,iS=(T.bg aD T.P).b_ (T.bg aD T.P).E λq=>(T.bg aD T.P).G q\/az N q:=⟨_,rfl⟩
   rw[←bV]at ac r
   have aA:cX T iS w v 2:=((W.trans (cX.ext _ (u.trans H))).trans r).mono I
   have cM:=Z.lt
   have cN:=H.size
   have aC:=(Z.ext H).ae r.to.ae λo=>a8 (aL.gh o)
   have bW:=r.to.out (q:=nb) I a8
   have bX:=r.to.g8 (aa.ext H)
   have cO:=r.to.ae.size
   have cQ:=aA.to.ae.size
   rcases bt with ⟨rfl,bY,rfl,bZ⟩|⟨aE,d,aG,a9,a_,rfl,rfl,b0⟩
   ·
     have aI:n.leaf=true:=bY.leaf
     refine⟨λ_=>aS ?_,λhx=>(by rw[aI]at hx;cases hx)⟩
     have be:=ac.ext (b4 v)
     have b2:=aC.ext (b4 v)
     have b3:IntKind.wrap .i64 ((keys:Int)+(K.len:Int))=((keys+K.len:Nat):Int):=by rw[bu I I];omega
     obtain⟨bA,bO,b5,b6⟩:=Hr be (keys+K.len)
     refine⟨_,rfl,id,_,be.cells.2.2,id,K,(bC b2).2.1,_,rfl,bA,bO,?_⟩
     rw[b3]
     refine aS ⟨iS,((aA.trans (cX.ext iS (b4 v))).trans b6).mono (by simp),.inl ⟨rfl,⟨N,?_⟩,λx hx=>?_⟩⟩
     · rw[bZ,←bN];exact b5
     · rw[fh.1 hx,an,al]
   · have aI:n.leaf=false:=aE.inner
     refine⟨λhx=>(by rw[aI]at hx;cases hx),λ_=>?_⟩
     have cR:=aE.len
     refine⟨D,(bC aC).2.2.2,λaM w'=>∃ (i:Nat) (iT:aL) (aP:Y),aM=(i:Int)/\i<=n.kids.length/\hY w' iT dK aP (ps++no::(d.take i).flatten) (keys+(aG.take i).flatten.length)/\cX T iT w w' (2+2*(d.take i).flatten.length)/\cX iS iT v w' (2*(d.take i).flatten.length)/\∀x∈(d.take i).flatten,T.P x=fT x,
       λaM _=>((n.kids.length:Int)-aM).toNat,⟨0,iS,N,rfl,cE _,by simpa using ac,by simpa using aA,by simpa using cX.refl iS v,by simp⟩,?_⟩
     rintro _ y ⟨i,iT,aP,rfl,cT,ad,k,aQ,aR⟩
     refine⟨λaJ=>?_,λb7=>?_⟩
     rotate_left
     · have aT:i=n.kids.length:=by
         have:¬(i:Int)<(D.len:Int):=cp b7
         omega
       rw[dD I]at ad k aR
       rw[dD I]at ad
       refine⟨iT,k.mono (by simp only[e1];omega),.inl ⟨rfl,⟨aP,ad⟩,λx hx=>?_⟩⟩
       rcases cS.1 hx with rfl|hx
       · rw[an,al]
       · exact aR x hx
     have aT:i<n.kids.length:=by
       have:(i:Int)<(D.len:Int):=b1 aJ
       omega
     have m:i<d.length:=by omega
     have aU:i<aG.length:=by omega
     have bf:=aQ.to.g8 bX
     have aV:=aC.ae aQ.to.ae λo=>bW.1 (aL.gh o)
     have b8:=k.to.aK a1
     have ca:=k.to.aK a2
     obtain⟨A,aq,cb,cc⟩:=cH.at bf.kids aT
     have cU:=Ct m
     have cV:=Ct aU
     have bh:∀ (j:Nat) (ag:j<n.keys.length),∃ (a:ab) (t:Y),K.a=some a/\((0:Int)<=(j:Int)/\(j:Int)<(K.len:Int))/\y.cell? (a.add (Int.toNat (j:Int)*1))=some (.slice t.a t.len t.cap)/\ih (λq=>¬iT.M q) y t n.keys[j]? :=λj ag=>by
       obtain⟨a,t,h1,h2,Q,R,_⟩:=bj.at bf.keys ag
       refine⟨a,t,h1,h2,Q,?_⟩
       rw[du ag]
       refine⟨λe=>?_,R⟩
       have:=(aE.ok _ (cA ag)).1
       rw[e]at this;simp at this
     refine⟨A,aq,cb,_,cc,cj (λt w'=>ih (λq=>¬iT.M q) y t (if i=0 then lo else n.keys[i-1]?)/\y=w') (λq g=>⟨λc=>?_,λc=>?_⟩) ?_⟩
     · have c:0<i:=by
         have:(i:Int)>0:=b1 c
         omega
       have cd:IntKind.wrap .i64 ((i:Int)-1)=((i-1:Nat):Int):=by rw[bu I I];omega
       obtain⟨a,t,h1,h2,Q,R⟩:=bh (i-1) I
       rw[cd]
       refine⟨K,(bC aV).2.1,a,h1,h2,t,Q,g _ _ ⟨?_,rfl⟩⟩
       rw[if_neg I];exact R
     · have c:i=0:=by
         have:¬(i:Int)>0:=cp c
         omega
       refine g _ _ ⟨?_,rfl⟩
       rw[if_pos c];exact b8
     rintro cW _ ⟨ce,rfl⟩
     refine cj (λt w'=>ih (λq=>¬iT.M q) y t (if i<n.keys.length then n.keys[i]? else hi)/\y=w') (λq g=>⟨K,(bC aV).2.1,λc=>?_,λc=>?_⟩) ?_
     · have c:i<n.keys.length:=by
         have:(i:Int)<(K.len:Int):=b1 c
         omega
       obtain⟨a,t,h1,h2,Q,R⟩:=bh i c
       refine⟨K,(bC aV).2.1,a,h1,h2,t,Q,g _ _ ⟨?_,rfl⟩⟩
       rw[if_pos c];exact R
     · have c:¬i<n.keys.length:=by
         have:¬(i:Int)<(K.len:Int):=cp c
         omega
       refine g _ _ ⟨?_,rfl⟩
       rw[if_neg c];exact ca
     rintro aX _ ⟨cf,rfl⟩
     have cg:IntKind.wrap .i64 (((h+1:Nat):Int)-1)=(h:Int):=by rw[bu I I];omega
     have ch:IntKind.wrap .i64 ((i:Int)+1)=((i+1:Nat):Int):=by rw[bu I I];omega
     have ci:iT.n=T.n:=k.to.n
     have cY:=k.to.aO
     have aY:∀x∈d[i],x∈no::d.flatten:=λx hx=>by
       rw[yA m]
       exact jO _ (h4 _ (js _ hx))
     have ck:=bm (p:=d[i]) (fT:=fT) (L:=aG[i]) (no:=n.kids[i]) ad I (b0 i aT m aU) (λx hx=>by rw[k.f,ci];exact aZ x (aY x hx)) (λx hx bk h1=>by
       rw[k.P]
       exact(a0 x (aY x hx) bk h1).imp id k.Hs) (by
       rw[yA m]at c1
       have e:ps++no::((d.take i).flatten++(d[i]++(d.drop (i+1)).flatten))=((ps++no::(d.take i).flatten)++d[i])++(d.drop (i+1)).flatten:=by simp
       rw[e]at c1
       exact(oQ.1 c1).1) ce cf (by simp only[ct,e1];omega) I I
     rw[cg,ch]
     refine ck.use ?_
     rintro _ cn ⟨gH,bi,am⟩
     have bl:cX T gH w cn (2+2*((d.take i).flatten.length+d[i].length)):=(k.trans bi).mono I
     rcases am with ⟨rfl,⟨co,cq⟩,cr⟩|⟨e,rfl,z,cs,ap⟩
     · refine⟨0,rfl,λhx=>(by cases hx),λ_=>⟨⟨i+1,gH,co,rfl,I,?_,?_,?_,?_⟩,?_⟩⟩
       · rw[rY m,rY aU,ct,←Nat.add_assoc]
         have e:ps++no::((d.take i).flatten++d[i])=(ps++no::(d.take i).flatten)++d[i]:=by simp
         rw[e];exact cq
       · rw[rY m,ct];exact bl
       · rw[rY m,ct];exact(aQ.trans bi).mono I
       · intro x hx
         rw[rY m]at hx
         rcases cP.1 hx with hx|hx
         · exact aR x hx
         · rw[←k.P];exact cr x hx
       · show((n.kids.length:Int)-((i+1:Nat):Int)).toNat<((n.kids.length:Int)-(i:Int)).toNat
         omega
     · refine⟨e,rfl,λ_=>⟨gH,bl.mono (by simp only[e1];omega),.inr ⟨e,rfl,z,cs,?_⟩⟩,λhx=>(by simp at hx;exact absurd hx z)⟩
       rcases ap with ⟨h1,h2⟩|⟨x,hx,c⟩
       · exact .inl ⟨h1,λhc=>h2 (k.to.calm _ (f_ hc (by simp only[e1];omega)))⟩
       · exact .inr ⟨x,aY x hx,k.bad c⟩
def Hv(T:aL)(fT:Nat->ao aB)(pages:O Nat)(c:Nat)(w:J)(v:aa)(w':J):Prop:=
 ∃an:aL,bJ w' an/\cX T an w w' (2*pages.length)/\an.G=T.G/\
  ((∃ (s:Y) (es:O Nat),v=.tuple #[s,c,(0:Int)]/\a8 1 3 w' s (dR es)/\es.Perm pages/\(es.Pairwise λa b=>a<=b)/\(∀q,az s q->(T.N q\/w.heap.size<=q)/\¬an.M q)/\(∀x∈pages,T.P x=fT x)/\bJ w' (an.b_ T.E λq=>T.G q\/az s q))\/
   (∃e:Int,v=.tuple #[(),(0:Int),e]/\e≠0/\((e=3/\¬T.C.D.calm (2*pages.length))\/∃x∈pages,jJ T x)))
theorem Hw{w:J}{T:aL}{fT:Nat->ao aB}{pages:O Nat}{L:O aH}(h:bJ w T)(ac:ga (T.bg T.C fT) pages L)(aw:∀x∈pages,T.f x=true/\x<T.n)(ax:∀x∈pages,∀bk,fT x=some bk->T.P x=some bk\/jJ T x)(c1:pages.Nodup)(a3:L.length<=9000)(a4:pages.length<=9000)(aA:T.C.D.aO+2*pages.length<=999999999):
 aN aj 152 #[.pointer (some T.aX)] w (Hv T fT pages L.length w):=by
 have aC:=h.num.2.1;refine okF (I7.uy (some T.aX)) I6.uy func152 ?_;(delta I7.uy ai r1 ay U af aR;dsimp only);refine⟨λh=>(by cases h),λ_=>bd (vs:=[.pointer (some T.aX),(),(0:Int)]) rfl λw1 R ag a5=>?_⟩;obtain⟨dK,aD⟩:∃dK,dK=w.heap.size:=⟨_,rfl⟩;rw[←aD]at R⊢;obtain⟨bU,ah⟩:∃bU,bU=λq=>T.E q\/T.G q:=⟨_,rfl⟩;have A:∀q,T.E q\/T.G q->bU q:=λq a=>by rw[ah];exact a
 have S:∀q,bU q->T.E q\/T.G q:=λq a=>by rw[ah]at a;exact a
 have a6:=R.lt;have h1:bJ w1 (T.b_ bU λq=>q=dK):=h.grow (W:=λ_=>False) ag (λ_ h=>h.elim) (λq a=>(S q a).imp id .inl) (λq e=>.inr (.inr ⟨I,I⟩)) λq a e=>by
  rcases S q a with h2|h2
  .have:=h.lt (q:=q) (.inr (.inr (.inr (.inl h2))));omega
  .have:=h.lt (q:=q) (.inr (.inr (.inr (.inr h2))));omega
 obtain⟨bE,k⟩:∃bE,bE=T.b_ bU λq=>q=dK:=⟨_,rfl⟩;rw[←k]at h1;have V:bE.aX=T.aX:=by rw[k];rfl
 have ak:bE.E=bU:=by rw[k];rfl
 have K:bE.C=T.C:=by rw[k];rfl
 have X:bE.P=T.P:=by rw[k];rfl
 have al:hY w1 bE dK ⟨none,0,0⟩ [] 0:=⟨h1,by rw[V];exact R,a8.none _ _ _,by rw[k];rfl,λq a=>(gf q a).elim⟩;have i:bL T bE w w1 0:=by
  rw[k];exact(bL.refl T w).step (W:=λ_=>False) ag (λ_ h=>h.elim) (λq a=>(S q a).imp id .inl) λq e=>.inr I
 have fin:∀ (w':J) (an:aL),bJ w' an->cX bE an w1 w' (2*pages.length)->bJ w' (an.b_ T.E T.G)/\cX T (an.b_ T.E T.G) w w' (2*pages.length):=λw' an aF b=>by
  have u:an.E=bU:=b.E.trans ak;refine⟨aF.grow (E:=T.E) (G:=T.G) (W:=λ_=>False) (ad.refl _ _) (λ_ h=>h.elim) (λq a=>.inl (by rw[u];exact A q (.inl a))) (λq a=>.inl (by rw[u];exact A q (.inr a))) λq a=>(h.c2 q a).2.2,?_,rfl,λ_ h=>h,?_,?_,?_,?_,λj=>?_⟩
  .refine⟨b.to.aX.trans i.aX,b.to.sb.trans i.sb,b.to.n.trans i.n,b.to.g.trans i.g,b.to.s1.trans i.s1,b.to.s2.trans i.s2,b.to.c.trans i.c,b.to.d.trans i.d,b.to.bh.trans i.bh,b.to.gen.trans i.gen,by have:=b.to.aO;rw[K]at this;exact this,λm o=>b.to.calm m (by rw[K];exact o),?_,λq a=>?_,λq a=>?_⟩
   .exact(cr i.ae b.to.ae λq a aG=>by
     rcases i.fn q aG with h2|h2
     .exact h2
     .omega)
   .rcases a with a|a|a|a|a
    .exact((i.trans b.to).cZ q (.inl a))
    .exact((i.trans b.to).cZ q (.inr (.inl a)))
    .exact((i.trans b.to).cZ q (.inr (.inr (.inl a))))
    .exact .inl (.inr (.inr (.inr (.inl a))))
    .exact .inl (.inr (.inr (.inr (.inr a))))
   .rcases a with a|a|a|a
    .exact((i.trans b.to).fn q (.inl a))
    .exact((i.trans b.to).fn q (.inr (.inl a)))
    .exact((i.trans b.to).fn q (.inr (.inr (.inl a))))
    .exact .inl (.inr (.inr (.inr a)))
  .show an.root=T.root;rw[b.root,k];rfl
  .show an.aE=T.aE;rw[b.aE,k];rfl
  .show an.f=T.f;rw[b.f,k];rfl
  .show an.P=T.P;rw[b.P,X]
  .show an.C.view j=T.C.view j;rw[b.view,K]
 refine hF (λM=>∃ (an:aL) (s:Y) (ps:O Nat),hY M an dK s ps L.length/\ps=pages/\cX bE an w1 M (2*pages.length)/\∀x∈pages,T.P x=fT x) (λq a=>⟨_,rfl,_,by have:=h1.cells.2.2.2.2;rw[V]at this;exact this,λy=>aS ?_,λy=>?_⟩) ?_
 .have B:=al.ext (b4 w1)
  have am:bE.aE=T.aE:=by rw[k];rfl
  have aI:bE.root=T.root:=by rw[k];rfl
  have y:T.aE≠0:=by
   rw[am]at y;have:(T.aE:Int)>0:=b1 y;omega
  have F:dV fT T.aE none none T.root pages L:=by
   rcases ac with ⟨aJ,_⟩|F
   .exact absurd aJ y
   .exact F
  have c9:=B.t.cells.2.2.2.1;have aZ:=B.t.cells.2.2.2.2;rw[V]at c9 aZ;rw[am]at aZ;rw[aI]at c9;have aK:=Hu T.aE (lK:=bc) (lL:=bc) (fT:=fT) (L:=L) (p:=pages) (lo:=none) (hi:=none) (no:=T.root) B aC F (λx hx=>by rw[k];exact aw x hx) (λx hx bk h2=>by
   rw[X];refine(ax x hx bk h2).imp id λH=>?_;rw[k];exact H) (by simpa using c1) rfl rfl (by simp only[jw];omega) I (by rw[K];exact aA)
  refine⟨_,rfl,id,_,c9,_,rfl,id,_,aZ,aK.use ?_⟩;rintro _ ap ⟨an,Z,aM⟩;have aq:cX bE an w1 ap (2*pages.length):=((cX.ext bE (b4 w1)).trans Z).mono I;rcases aM with ⟨rfl,⟨s,r⟩,aa⟩|⟨e,rfl,ar,⟨s,a7,a9,r⟩,aP⟩
  .refine⟨0,rfl,λhx=>(by cases hx),λ_=>a _ ⟨an,s,pages,?_,rfl,aq,λx hx=>by rw[←X];exact aa x hx⟩⟩
   rw[iM,cx]at r;exact r
  .obtain⟨f1,f2⟩:=fin ap an r.t aq
   refine⟨e,rfl,λ_=>⟨_,f1,f2,rfl,.inr ⟨e,rfl,ar,?_⟩⟩,λhx=>(by simp at hx;exact absurd hx ar)⟩;rcases aP with ⟨h2,H⟩|⟨x,hx,H⟩
   .exact .inl ⟨h2,by rw[←K];exact H⟩
   .refine .inr ⟨x,hx,?_⟩
    rw[k]at H;exact H
 .have y:T.aE=0:=by
   have:¬(bE.aE:Int)>0:=cp y;rw[k]at this;have:¬(T.aE:Int)>0:=this;omega
  rcases ac with ⟨_,_,aQ,aT⟩|F
  .subst aQ aT
   exact a _ ⟨bE,⟨none,0,0⟩,[],al,rfl,cX.refl _ _,λx hx=>(by cases hx)⟩
  .have e:(T.bg T.C fT).aE=T.aE:=rfl
   rw[e,y]at F;exact F.elim
 rintro M ⟨an,s,ps,r,aU,Z,aa⟩;rw[aU]at r;refine⟨_,rfl,s,r.cells.2.1,(Cr r.own I).use ?_⟩;rintro _ N ⟨rfl,ab,es,aV,aW,aY⟩;have b8:∀q,az s q->an.G q:=λq a=>(r.gs q a).1;have a0:=r.v.ae ab λa=>(r.gs _ a).2 rfl;have z:bJ N an:=by
  have:=r.t.grow (E:=an.E) (G:=an.G) ab (λq a _=>.inr (b8 q a)) (λq a=>.inl a) (λq a=>.inr (.inl a)) λq a=>(r.t.c2 q a).2.2;exact this
 have a1:cX an an M N 0:=⟨(bL.refl an M).step (E:=an.E) (G:=an.G) ab (λq a _=>.inr (.inr (.inr (b8 q a)))) (λq a=>.inl a) λq a=>.inl a,rfl,λ_ h=>h,rfl,rfl,rfl,rfl,λ_=>rfl⟩;have Q:=b4 N;have b:=((Z.trans a1).trans (cX.ext an Q)).mono (l:=2*pages.length) I;obtain⟨f1,f2⟩:=fin N.drew an (z.ext Q) b;have B:=a0.ext Q;have u:an.E=bU:=b.E.trans ak;have a2:bJ N.drew (an.b_ T.E λq=>T.G q\/az s q):=(z.ext Q).grow (E:=T.E) (G:=λq=>T.G q\/az s q) (W:=λ_=>False) (ad.refl _ _) (λ_ h=>h.elim) (λq a=>.inl (by rw[u];exact A q (.inl a))) (λq a=>a.elim (λa=>.inl (by rw[u];exact A q (.inr a))) λa=>.inr (.inl (b8 q a))) λq a hg=>by
  rcases hg with hg|hg
  .exact(h.c2 q a).2.2 hg
  .exact(z.c2 q (by rw[u];exact A q (.inl a))).2.2 (b8 q hg)
 refine⟨rfl,aS ⟨_,rfl,id,s,by rw[av];exact B.cell,_,rfl,id,_,by rw[av];exact B.cell,_,f1,f2,rfl,.inl ⟨s,es,rfl,aV.ext Q,aW,aY,λq a=>⟨?_,λo=>?_⟩,aa,a2⟩⟩⟩
 .exact(i.trans b.to).fn q (.inr (.inr (.inr (b8 q a))))
 .have au:=b8 q a
  rcases o with o|o|o|o|o
  .exact z.rS au o
  .exact(z.hV q au).1 o
  .exact(z.hV q au).2 o
  .exact(z.c2 q (by rw[u];exact A q (.inl o))).2.2 au
  .exact(z.c2 q (by rw[u];exact A q (.inr o))).2.2 au
variable {w w':J}
theorem Src.cut{sz:Nat}{s:Y}{vs:O aa}{lo hi:Nat}(h:Src sz w s vs)(hc:s.len<=s.cap)(h1:lo<=hi)(h2:hi<=s.len):
 Src sz w ⟨aM s.a sz lo s.cap,hi-lo,s.cap-lo⟩ ((vs.drop (lo*sz)).take ((hi-lo)*sz)):=by
 have f:=h.len;have g:hi*sz<=s.len*sz:=mD _ h2;have i:lo*sz+(hi-lo)*sz=hi*sz:=by rw[←kI,Nat.add_sub_cancel' h1]
 refine⟨by simp;omega,λc=>?_,λa b=>?_⟩
 .have d:s.a=none:=by
   unfold aM at c;split at c
   .exact c
   .simpa using c
  simp[h.nil d]
 .show cJ w a 0 ((hi-lo)*sz)=_
  by_cases e:hi=lo
  .rw[show hi-lo=0 from I];simp[cJ]
  .have aq:∃A,s.a=some A/\a=A.add (lo*sz):=by
    unfold aM at b;rw[if_neg I]at b
    cases hs:s.a with
    |none=>rw[hs]at b;cases b
    |some A=>rw[hs]at b;exact⟨A,rfl,by simpa using b.symm⟩
   obtain⟨A,aq,rfl⟩:=aq;exact Ai (h.rd A aq) I
theorem Cu{s:Y}{sz n:Nat}{q:Nat}:az ⟨aM s.a sz 0 s.cap,n-0,s.cap-0⟩ q↔az s q:=by
 rw[w2];exact Iff.rfl
section
variable {P:Program}{cK e cG:TypeId}{sz bytes:Nat}
structure gn(sz:Nat)(e:TypeId)(w0 w:J)(s:Y)(l:O aa):Prop where
 o:a8 sz e w s l
 x:Ext w0 w
 f:∀q,az s q->w0.heap.size<=q
theorem Ext.new{a:Nat->Prop}{w0 w1 ag:J}(hx:Ext w0 w1)(h:ad a w1 ag)(b8:∀q,a q->w0.heap.size<=q):Ext w0 ag/\ad (λq=>w0.heap.size<=q) w1 ag:=
 ⟨Ext.dr hx h b8,h.mono λq _ b=>b8 q b⟩
theorem gn.app(h:hG P cK e sz bytes){w0 w1:J}{s x:Y}{l xs:O aa}(hs:gn sz e w0 w1 s l)(hx:Src sz w1 x xs)(d:∀v∈xs,Plain v)(g:(2*(s.len+x.len)+1000)*bytes<=281474976710656):
 ∃ (a:Y) (ag:J),Sem.run P (Builtin.append_ #[cK,cK] cG #[s,x]) w1=.ok a ag/\ad (λq=>w0.heap.size<=q) w1 ag/\gn sz e w0 ag a (l++xs)/\
  a.len=s.len+x.len/\ad (az s) w1 ag/\∀q,az a q->az s q\/w1.heap.size<=q:=by
 obtain⟨a,ag,au,aw,i,b,c⟩:=h.append (cG:=cG) hx hs.o d g;obtain⟨bA,bO⟩:=Ext.new hs.x b hs.f;exact⟨a,ag,au,bO,⟨aw,bA,λq j=>(c q j).elim (hs.f q) λh=>ew hs.x.size h⟩,i,b,c⟩
theorem size_le{a b c:Nat}(h:(2*b+1000)*c<=281474976710656)(d:a<=b):(2*a+1000)*c<=281474976710656:=ew (mD _ I) h
theorem Cv(h:hG P cK e sz bytes){x iy H:O aa}{s1 s2:Y}{w0:J}
 (S:∀w:J,Sem.run P (Instr.buildSlice cK 0 #[]) w=.ok (.slice (some w.heap.size) 0 0) (w.alloc (.cells #[] e)))
 (b5:∀w:J,Sem.run P (Instr.buildSlice cK 1 #[(0,.agg x.toArray)]) w=.ok (.slice (some w.heap.size) 1 1) (w.alloc (.cells x.toArray e)))
 (hx:x.length=sz) (h1:Src sz w0 s1 iy) (h2:Src sz w0 s2 H) (aI:∀v∈x,Plain v) (bw:∀v∈iy,Plain v) (br:∀v∈H,Plain v)
 (u:(2*(s1.len+s2.len+1)+1000)*bytes<=281474976710656) {K:Y->J->Prop} (al:∀U w',gn sz e w0 w' U (iy++x++H)->K U w'):
 (∃L:Y,∃p:J,Sem.run P (Instr.buildSlice cK 0 #[]) w0=.ok L p/\ad (λq=>w0.heap.size<=q) w0 p/\(
   (∃d:Y,∃g:J,Sem.run P (Builtin.append_ #[cK,cK] cG #[L,s1]) p=.ok d g/\ad (λq=>w0.heap.size<=q) p g/\
     ∃m:Y,∃z:J,Sem.run P (Instr.buildSlice cK 1 #[(0,.agg x.toArray)]) g=.ok m z/\ad (λq=>w0.heap.size<=q) g z/\
     ∃i:Y,∃c:J,Sem.run P (Builtin.append_ #[cK,cK] cG #[d,m]) z=.ok i c/\ad (λq=>w0.heap.size<=q) z c/\
     ∃n:Y,∃k:J,Sem.run P (Builtin.append_ #[cK,cK] cG #[i,s2]) c=.ok n k/\ad (λq=>w0.heap.size<=q) c k/\K n k)/\
   (∃V:Y,∃A:J,Sem.run P (Instr.buildSlice cK 1 #[(0,.agg x.toArray)]) p=.ok V A/\ad (λq=>w0.heap.size<=q) p A/\
     ∃W:Y,∃B:J,Sem.run P (Builtin.append_ #[cK,cK] cG #[L,s1]) A=.ok W B/\ad (λq=>w0.heap.size<=q) A B/\
     ∃X:Y,∃C:J,Sem.run P (Builtin.append_ #[cK,cK] cG #[W,V]) B=.ok X C/\ad (λq=>w0.heap.size<=q) B C/\
     ∃Z:Y,∃M:J,Sem.run P (Builtin.append_ #[cK,cK] cG #[X,s2]) C=.ok Z M/\ad (λq=>w0.heap.size<=q) C M/\K Z M)))/\
 (∃ab:Y,∃D:J,Sem.run P (Instr.buildSlice cK 1 #[(0,.agg x.toArray)]) w0=.ok ab D/\ad (λq=>w0.heap.size<=q) w0 D/\
   ∃ac:Y,∃E:J,Sem.run P (Instr.buildSlice cK 0 #[]) D=.ok ac E/\ad (λq=>w0.heap.size<=q) D E/\
   ∃af:Y,∃F:J,Sem.run P (Builtin.append_ #[cK,cK] cG #[ac,s1]) E=.ok af F/\ad (λq=>w0.heap.size<=q) E F/\
   ∃ah:Y,∃G:J,Sem.run P (Builtin.append_ #[cK,cK] cG #[af,ab]) F=.ok ah G/\ad (λq=>w0.heap.size<=q) F G/\
   ∃ai:Y,∃N:J,Sem.run P (Builtin.append_ #[cK,cK] cG #[ah,s2]) G=.ok ai N/\ad (λq=>w0.heap.size<=q) G N/\K ai N):=by
 have lv:∀ (w:J) (o:Obj),Ext w (w.alloc o):=λw o=>ad.alloc (.refl _ _) o;have dw:∀w:J,Ext w0 w->gn sz e w0 (w.alloc (.cells #[] e)) ⟨some w.heap.size,0,0⟩ []:=λw aj=>
  ⟨a8.new (T:=e) w [] 0 (by simp) (by decide),Ext.trans aj (lv w _),λq l=>by rw[kl]at l;have:=aj.size;simp at l;omega⟩
 have Q:∀w:J,Src sz (w.alloc (.cells x.toArray e)) ⟨some w.heap.size,1,1⟩ x:=λw=>Src.new w x 1 (by simpa using hx);have mu:∀ {w ag:J},Ext w ag->ad (λq=>w0.heap.size<=q) w ag:=λh=>ad.cF h;have am:∀ {s:Y}{a b:J},gn sz e w0 a s []->Ext a b->gn sz e w0 b s []:=λh hx=>⟨h.o.ext hx,Ext.trans h.x hx,h.f⟩
 have tail:∀ {w1 ag:J}{d m:Y},gn sz e w0 w1 d iy->d.len=s1.len->Ext w1 ag->Src sz ag m x->m.len=1->
  ∃i:Y,∃c:J,Sem.run P (Builtin.append_ #[cK,cK] cG #[d,m]) ag=.ok i c/\ad (λq=>w0.heap.size<=q) ag c/\
   ∃n:Y,∃k:J,Sem.run P (Builtin.append_ #[cK,cK] cG #[i,s2]) c=.ok n k/\ad (λq=>w0.heap.size<=q) c k/\K n k:=by
  intro w1 ag d m hf aq ak an ar;have ao:gn sz e w0 ag d iy:=⟨hf.o.ext ak,Ext.trans hf.x ak,hf.f⟩;obtain⟨i,c,au,aw,j,t,_,_⟩:=gn.app (cG:=cG) h ao an aI (size_le u I);obtain⟨n,k,bA,bO,ap,_,_,_⟩:=gn.app (cG:=cG) h j (h2.ext j.x) br (size_le u I);exact⟨i,c,au,aw,n,k,bA,bO,al _ _ ap⟩
 refine⟨⟨⟨some w0.heap.size,0,0⟩,_,S w0,mu (lv _ _),?_,?_⟩,?_⟩
 .have f0:=dw w0 (.refl _ _)
  obtain⟨d,g,au,aw,j,t,_,_⟩:=gn.app (cG:=cG) h f0 (h1.ext f0.x) bw (size_le u (by simp;omega));rw[iM]at j;obtain⟨i,c,r⟩:=tail j (by simpa using t) (lv g (.cells x.toArray e)) (Q g) rfl;exact⟨d,g,au,aw,⟨some g.heap.size,1,1⟩,_,b5 g,mu (lv _ _),i,c,r⟩
 .have f0:=am (dw w0 (.refl _ _)) (lv _ (.cells x.toArray e))
  obtain⟨d,g,au,aw,j,t,R,_⟩:=gn.app (cG:=cG) h f0 (h1.ext f0.x) bw (size_le u (by simp;omega));rw[iM]at j;have hs:=(Q (w0.alloc (.cells #[] e))).ae R λq l y=>by
   rw[kl]at l y;simp at l y;omega
  obtain⟨i,c,r⟩:=tail j (by simpa using t) (.refl _ _) hs rfl;exact⟨⟨some ⟨(w0.alloc (.cells #[] e)).heap.size,0,none⟩,1,1⟩,_,b5 _,mu (lv _ _),d,g,au,aw,i,c,r⟩
 .have f0:=dw (w0.alloc (.cells x.toArray e)) (lv _ _)
  obtain⟨d,g,au,aw,j,t,R,_⟩:=gn.app (cG:=cG) h f0 (h1.ext f0.x) bw (size_le u (by simp;omega));rw[iM]at j;have hs:=((Q w0).alloc (.cells #[] e)).ae R λq l y=>by
   rw[kl]at l y;simp at l y;omega
  obtain⟨i,c,r⟩:=tail j (by simpa using t) (.refl _ _) hs rfl;exact⟨⟨some w0.heap.size,1,1⟩,_,b5 _,mu (lv _ _),⟨some ⟨(w0.alloc (.cells x.toArray e)).heap.size,0,none⟩,0,0⟩,_,S _,mu (lv _ _),d,g,au,aw,i,c,r⟩
end
structure qi(L:O aH)(k:Key)(i:Nat):Prop where
 le:i<=L.length
 lo:∀p∈L.take i,bD p.1 k
 hi:∀p,L[i]? =some p->¬bD p.1 k
def ij(L:O aH)(k:Key)(i:Nat):ah:=decide ((L[i]?).map Prod.fst=some k)
theorem qi.vV{L:O aH}{k:Key}{i:Nat}(h:qi L k i)(o:gI L)(v:Key):
 eN L k v=L.take i++(k,v)::L.drop (if ij L k i then i+1 else i)/\ei L k=L.take i++L.drop (if ij L k i then i+1 else i)/\ec L k=if ij L k i then (L[i]?).map Prod.snd else none:=by
 obtain⟨t,d,l⟩:=h;unfold ij;obtain⟨A,aq⟩:∃A,A=L.take i:=⟨_,rfl⟩;obtain⟨B,m⟩:∃B,B=L.drop i:=⟨_,rfl⟩;have e:L=A++B:=by rw[aq,m,hZ]
 have E:A.length=i:=by rw[aq,cy,je t]
 have hg:L[i]? =B[0]? :=by rw[m,sg,kF]
 have hd:∀j,L.drop (i+j)=B.drop j:=λj=>by rw[m,qA]
 have r:=hd 0;rw[kF]at r;have u:∀c:ah,L.drop (if c then i+1 else i)=B.drop (if c then 1 else 0):=λc=>by cases c<;>simp[hd,r]
 rw[u,←aq,hg];rw[←aq]at d;rw[hg]at l;rw[e]at o;obtain⟨F,s,G⟩:=pT.1 o;have w:∀v,eN L k v=A++eN B k v:=λv=>by rw[e];exact AA d
 have x:ei L k=A++ei B k:=by
  rw[e,pS,ob λp n=>ko (d p n)]
 have y:A.find? (λp=>decide (p.1=k))=none:=iO.2 λp n=>by simpa using ko (d p n)
 have z:ec L k=ec B k:=by
  unfold ec;rw[e,List.find?_append,y];rfl
 rw[w,x,z]
 cases C:B with
 |nil=>simp[eN,ei,ec]
 |cons p f=>
  rw[C]at l s;obtain⟨au,aw⟩:=jt.1 s;have D:ef k p.1:=l p rfl;by_cases he:p.1=k
  .have b:∀q∈f,bD k q.1:=λq a=>by rw[←he];exact au q a
   have g:∀q∈f,q.1≠k:=λq a=>(ko (b q a)).symm;simp only[k_,ld,he,decide_true,if_true,List.drop_succ_cons,lh];refine⟨?_,?_,?_⟩
   .unfold eN
    rw[lR.2 (λq a=>?_),List.filter_cons_of_neg (by simpa[he] using l9 k),jQ.2 λq a=>dm (b q a),iM];rcases cS.1 a with rfl|a
    .simpa[he] using l9 k
    .simpa using jY (b q a)
   .unfold ei
    rw[List.filter_cons_of_neg (by simp[he]),jQ.2 λq a=>dm (g q a)]
   .unfold ec
    rw[List.find?_cons_of_pos (by simp[he])];rfl
  .have aJ:bD k p.1:=by
    rcases vd p.1 k with h|h|h
    .exact absurd h D
    .exact absurd h he
    .exact h
   have b:∀q∈p::f,bD k q.1:=λq a=>by
    rcases cS.1 a with rfl|a
    .exact aJ
    .exact lA aJ (au q a)
   have g:∀q∈p::f,q.1≠k:=λq a=>(ko (b q a)).symm;have hf:¬some p.1=some k:=λh=>he (Option.some.inj h);simp only[k_,ld,hf,decide_false,fL,if_false,lh];refine⟨?_,?_,?_⟩
   .unfold eN
    rw[lR.2 (λq a=>by simpa using jY (b q a)),jQ.2 λq a=>dm (b q a),iM]
   .exact congrArg (A++ ·) (ob g)
   .unfold ec
    rw[iO.2 λq a=>by simpa using g q a];rfl
theorem vW{w:J}{s:Y}{l:O UInt8}(h:Src 1 w s (aG l)){i:Nat}(hi:i<l.length):∃A:ab,s.a=some A/\((0:Int)<=(i:Int)/\(i:Int)<(s.len:Int))/\w.cell? (A.add (Int.toNat (i:Int)*1))=some (.int .u8 ((l[i].toNat:Nat):Int)):=by
 obtain⟨A,aq,b,hc⟩:=h.at (i:=i) (v:=.int .u8 ((l[i].toNat:Nat):Int)) (by simp[aG,hi]);exact⟨A,aq,b,hc⟩
theorem mZ{w:J}{s t:Y}{a b:Key}(hs:Src 1 w s (aG a))(ht:Src 1 w t (aG b))(M:a.length<=1000000)(N:b.length<=1000000):
 aN aj 113 #[s,t] w (λv w'=>∃n:Int,v=n/\(n<0↔bD a b)/\Ext w w'):=by
 have h1:=len8 hs;have h2:=len8 ht;refine okF (I7.mZ s t) I6.mZ func113 ?_;(delta I7.mZ ai aK bY ar;dsimp only);refine⟨λn w'=>∃i:Nat,n=(i:Int)/\i<=a.length/\i<=b.length/\eu a b=eu (a.drop i) (b.drop i)/\Ext w w',λn _=>((a.length:Int)-n).toNat,⟨0,rfl,cE _,cE _,rfl,.refl _ _⟩,?_⟩;rintro _ l ⟨i,rfl,O,P,hc,hx⟩;refine⟨λaJ=>?_,λm=>?_⟩
 .rw[dX,cQ,cQ]at aJ
  have d:i<a.length:=by omega
  have f:i<b.length:=by omega
  have c:=Ext.trans hx (b4 l);obtain⟨A,aq,o,p⟩:=vW (hs.ext c) d;obtain⟨B,q,r,u⟩:=vW (ht.ext c) f;rw[jr d,jr f]at hc;have Q:=oU a[i];have R:=oU b[i];refine aS ⟨A,aq,o,id,_,p,B,q,r,id,_,u,λg=>?_,λx=>?_⟩
  .have g:a[i].toNat≠b[i].toNat:=λe=>by rw[e]at g;simp at g
   have j:=Ext.trans c (b4 _);obtain⟨y,z,C,D⟩:=vW (hs.ext j) d;obtain⟨E,F,G,H⟩:=vW (ht.ext j) f;refine aS ⟨y,z,C,id,_,D,E,F,G,id,_,H,_,rfl,?_,j⟩;rw[bu (n:=((a[i].toNat:Nat):Int)) I I,bu (n:=((b[i].toNat:Nat):Int)) I I,bu I I];unfold bD;rw[hc];unfold eu;rcases dC a[i].toNat b[i].toNat with h|h
   .rw[if_pos h]
    exact⟨λ_=>by decide,λ_=>I⟩
   .rw[if_neg I,if_pos I]
    exact⟨λ_=>I,λh=>absurd h (by decide)⟩
  .have he:a[i]=b[i]:=by
    have:((a[i].toNat:Nat):Int)=((b[i].toNat:Nat):Int):=by simpa using x
    exact UInt8.toNat_inj.1 I
   have K:IntKind.wrap .i64 ((i:Int)+1)=((i+1:Nat):Int):=by rw[bu I I];omega
   rw[K];refine⟨⟨i+1,rfl,I,I,?_,c⟩,by show((a.length:Int)-((i+1:Nat):Int)).toNat<((a.length:Int)-(i:Int)).toNat;omega⟩;rw[hc]
   conv=>lhs;unfold eu
   rw[he,if_neg (by simp),if_neg (by simp)]
 .have S:a.length=i\/b.length=i:=by
   rw[Bool.and_eq_false_iff,jP,jP]at m;omega
  rw[bu I I];refine⟨_,rfl,?_,hx⟩;unfold bD;rw[hc];rcases dC i a.length with h|h
  .rw[jr h,sx (show b.length<=i from I)]
   exact⟨λL=>by exfalso;omega,λh=>absurd h (show¬((1:Int)<0) by decide)⟩
  .rw[sx (show a.length<=i from I)]
   rcases dC i b.length with k|k
   .rw[jr k]
    exact⟨λ_=>show((-1:Int)<0) by decide,λ_=>I⟩
   .rw[sx (show b.length<=i from I)]
    exact⟨λL=>by exfalso;omega,λh=>absurd h (show¬((0:Int)<0) by decide)⟩
theorem yB{α:Type}{c:α->O aa}{sz:Nat}:∀ (l:O α) (i:Nat),(∀x∈l,(c x).length=sz)->(bH c l).take (i*sz)=bH c (l.take i)/\(bH c l).drop (i*sz)=bH c (l.drop i)
 |l,0,_=>by simp[bH]
 | [],i+1,_=>by simp[bH]
 |x::l,i+1,h=>by
  obtain⟨h1,h2⟩:=yB l i λy a=>h y (by simp[a])
  have hx:=h x (by simp)
  have e:(i+1)*sz=(c x).length+i*sz:=by rw[kI,hx];omega
  rw[p6,e,List.take_length_add_append,List.drop_length_add_append,h1,h2]
  exact⟨rfl,rfl⟩
theorem qj{l:O (Y×Y)}:∀v∈bH eC l,Plain v:=by
 intro v a;obtain⟨x,hx,a⟩:=List.mem_flatten.1 a;obtain⟨p,_,rfl⟩:=ep.1 hx;exact qe p v a
theorem Cw(l:O (Y×Y)):(bH eC l).length=l.length*2:=gK _ (oF l)
section
variable {B C W:Nat->Prop}{w w':J}{s:Y}{ps ik:O (Y×Y)}{L M:O aH}
theorem eR.app(h:eR B w ps L)(h2:eR B w ik M):eR B w (ps++ik) (L++M):=by
 refine⟨by simp[h.1,h2.1],λi au aw=>?_⟩;rcases dC i ps.length with g|g
 .have g':i<L.length:=by have:=h.1;omega
  simp only[lS g,lS g'];exact h.2 i g g'
 .have g':L.length<=i:=by have:=h.1;omega
  rw[ct]at au aw;simp only[nu g,nu g',h.1];exact h2.2 _ (by have:=h.1;omega) I
theorem eR.drop(h:eR B w ps L)(i:Nat):eR B w (ps.drop i) (L.drop i):=by
 refine⟨by simp[h.1],λj au aw=>?_⟩;simp only[qD];exact h.2 _ (by rw[c5]at au;omega) (by rw[c5]at aw;omega)
theorem eR.take(h:eR B w ps L)(i:Nat):eR B w (ps.take i) (L.take i):=by
 refine⟨by simp[h.1],λj au aw=>?_⟩;simp only[oT];exact h.2 _ (by rw[cy]at au;omega) (by rw[cy]at aw;omega)
theorem eR.one{p:Y×Y}{fS:aH}(h1:aY B w p.1 fS.1)(h2:aY B w p.2 fS.2):eR B w [p] [fS]:=
 eR.push (ps:=[]) (L:=[]) ⟨rfl,λi h=>by simp at h⟩ h1 h2
structure gS(g1:O aa)(g2:TypeId)(B:Nat->Prop)(w:J)(aP:Nat)(s:Y)(L:O aH):Prop where
 v:Var w aP (s::g1) g2
 p:fR B w s L
 nb:¬B aP
 ok:∀p∈L,p.1.length<=1000/\p.2.length<=1000
 eG:L.length<=10000
variable {g1:O aa}{g2:TypeId}{aP:Nat}{key val:Key}{tk de:Y}
theorem gS.ae(h:gS g1 g2 B w aP s L)(hc:ad W w w')(a:¬W aP)(b:∀k,B k->k<w.heap.size->¬W k):gS g1 g2 B w' aP s L:=⟨h.v.ae hc a,h.p.ae hc b,h.nb,h.ok,h.eG⟩
theorem gS.ext(h:gS g1 g2 B w aP s L)(hc:Ext w w'):gS g1 g2 B w' aP s L:=h.ae hc id λ_ _ _ h=>h
theorem gS.aW(h:gS g1 g2 B w aP s L)(a:∀k,k<w.heap.size->B k->C k)(b:¬C aP):gS g1 g2 C w aP s L:=⟨h.v,h.p.aW a,b,h.ok,h.eG⟩
theorem oG(h:fR B w s L){i:Nat}(hi:i<L.length):∃ (A:ab) (tk de:Y),s.a=some A/\((0:Int)<=(i:Int)/\(i:Int)<(s.len:Int))/\w.cell? (A.add (Int.toNat (i:Int)*2))=some (.slice tk.a tk.len tk.cap)/\w.cell? ((A.add (Int.toNat (i:Int)*2)).add 1)=some (.slice de.a de.len de.cap)/\
 aY B w tk L[i].1/\aY B w de L[i].2:=by
 obtain⟨A,tk,de,h1,_,b,c,d,e,f⟩:=h.at hi;rw[c8];exact⟨A,tk,de,h1,b,c,d,e,f⟩
theorem yC(h:gS g1 g2 B w aP s L)(o:Src 1 w tk (aG key))(H:key.length<=1000):
 aN aj 103 #[.pointer (some aP),tk] w (λv w'=>∃i:Nat,v=.tuple #[i,.bool (ij L key i)]/\qi L key i/\Ext w w'):=by
 have J:=h.p.len;have K:=h.eG;refine okF (I7.u6 (some aP) tk) I6.u6 func103 ?_;(delta I7.u6 af ai aK ay ar;dsimp only);refine⟨λn w'=>∃i:Nat,n=(i:Int)/\i<=L.length/\(∀p∈L.take i,bD p.1 key)/\Ext w w',λn _=>((L.length:Int)-n).toNat,⟨0,rfl,cE _,by simp,.refl _ _⟩,?_⟩;rintro _ M ⟨i,rfl,hi,r,hx⟩;have g:=h.ext hx;refine⟨_,rfl,s,g.v.cell,cj (λb w'=>(b=true↔∃p,L[i]? =some p/\bD p.1 key)/\Ext w w') (λq a=>⟨λaJ=>?_,λj=>a _ _ ⟨⟨λh=>(by cases h),λ⟨p,h1,_⟩=>?_⟩,hx⟩⟩) ?_⟩
 .have c:i<L.length:=by
   have:(i:Int)<(s.len:Int):=b1 aJ;omega
  obtain⟨A,t1,t2,aq,d,ay,aR,k,x⟩:=oG g.p c;refine⟨_,rfl,s,g.v.cell,A,aq,d,t1,ay,(mZ k.1 (o.ext hx) (by have:=(h.ok _ (cA c)).1;omega) I).use ?_⟩;rintro _ N ⟨n,rfl,y,z⟩;refine⟨n,rfl,a _ _ ⟨?_,Ext.trans hx z⟩⟩;rw[cQ,y,du c];exact⟨λh=>⟨_,rfl,h⟩,λ⟨p,h1,h2⟩=>by cases h1;exact h2⟩
 .have:=(im.1 h1).1
  have:¬(i:Int)<(s.len:Int):=cp j;omega
 rintro O C ⟨d,t⟩;refine⟨λht=>?_,λhf=>?_⟩
 .obtain⟨p,l,aJ⟩:=d.1 ht
  obtain⟨c,D⟩:=im.1 l;have E:IntKind.wrap .i64 ((i:Int)+1)=((i+1:Nat):Int):=by rw[bu I I];omega
  rw[E];refine⟨⟨i+1,rfl,I,λq a=>?_,t⟩,by show((L.length:Int)-((i+1:Nat):Int)).toNat<((L.length:Int)-(i:Int)).toNat;omega⟩;rw[iq c]at a;rcases cP.1 a with a|a
  .exact r q a
  .rw[fh.1 a,D];exact aJ
 .have f:=Ext.trans t (b4 C)
  have m:=h.ext f;have u:qi L key i:=⟨hi,r,λp l aJ=>by rw[d.2 ⟨p,l,aJ⟩]at hf;cases hf⟩;refine aS ⟨_,rfl,id,s,m.v.cell,λaJ=>?_,λj=>⟨i,?_,u,f⟩⟩
  .have c:i<L.length:=by
    have:(i:Int)<(s.len:Int):=b1 aJ;omega
   obtain⟨A,t1,t2,aq,d,ay,aR,k,x⟩:=oG m.p c;refine⟨_,rfl,id,s,m.v.cell,A,aq,d,id,t1,ay,_,λP F=>k1 (k.1.ext F),_,λQ G=>k1 ((o.ext f).ext G),i,?_,u,f⟩;rw[nK];unfold ij;rw[du c];have e:(L[i].1==key)=decide ((some L[i]).map Prod.fst=some key):=by rw[fU];simp
   rw[e]
  .have:¬i<L.length:=by
    have:¬(i:Int)<(s.len:Int):=cp j;omega
   unfold ij;rw[ke I];rfl
theorem vX(w:J):Sem.run aj (Instr.buildSlice 86 0 #[]) w=.ok (.slice (some w.heap.size) 0 0) (w.alloc (.cells #[] 167)):=by kernel_rfl
theorem Src.qk(h:Src 2 w s (bH eC ps))(hc:s.len<=s.cap){lo hi:Nat}(h1:lo<=hi)(h2:hi<=ps.length):Src 2 w ⟨aM s.a 2 lo s.cap,hi-lo,s.cap-lo⟩ (bH eC ((ps.drop lo).take (hi-lo))):=by
 have b:=h.len;rw[Cw]at b;have:=Src.cut h hc h1 (hi:=hi) I;rw[(yB ps lo (oF ps)).2,(yB (ps.drop lo) (hi-lo) (oF _)).1]at this;exact this
theorem Cx(h:Var w aP (s::g1) g2){a:Y}{b:J}(hf:gn 2 167 w b a (bH eC ps))(l:eR B w ps M)(m:∀q,w.heap.size<=q->B q)(d:¬B aP)(n:∀p∈M,p.1.length<=1000/\p.2.length<=1000)(r:M.length<=10000):
 (∃u:aa,b.cell? aP=some u)/\b.frozen? aP=false/\gS g1 g2 B (b.setCell aP a) aP a M/\ad (λq=>q=aP) w (b.setCell aP a):=by
 have j:=h.ext hf.x;obtain⟨bA,bO⟩:=dH j (i:=0) (by simp);have g:=dn b aP 0 a;have aJ:=h.lt;have k:∀q,az a q->B q:=λq c=>m q (hf.f q c);have hc:=cr (W:=λq=>q=aP) (ad.cF hf.x) g λq _ e=>e;refine⟨bA,bO,⟨dJ j (i:=0) _,⟨ps,?_,hf.o.2.1,λq c=>⟨k q c,?_⟩,l.ae hc λq t _ e=>d (e▸t)⟩,d,n,r⟩,hc⟩
 .exact(hf.o.ae g λq c e=>d (e▸k q c)).src
 .exact fN (hf.o.lt q c) g.size
theorem Hx(h:gS g1 g2 B w aP s L)(ah:gI L)(y:Src 1 w tk (aG key))(O:key.length<=1000)(P:Src 1 w de (aG val))(al:val.length<=1000)(z:∀q,w.heap.size<=q->B q)(aD:L.length<=9999):
 aN aj 107 #[.pointer (some aP),tk,de] w (λv w'=>v=.tuple #[]/\ad (λq=>q=aP) w w'/\∃a,gS g1 g2 B w' aP a (eN L key val)):=by
 have aE:=h.p.len;have aF:=len8 y;have aH:=len8 P;refine okF (I7.va (some aP) tk de) I6.va func107 ?_;(delta I7.va gX U ai af ar tj fY;dsimp only);refine(yC h y O).use ?_;rintro _ w1 ⟨i,rfl,Q,A⟩;obtain⟨m,_,_⟩:=Q.vV ah val;have am:=Q.le;obtain⟨c,R,au,aw,aI,S,an,_⟩:=oh.clone (cG:=48) (y.ext A) (kZ _) I;have T:=Ext.trans A S;obtain⟨sv,n,bA,bO,aJ,C,ao,_⟩:=oh.clone (cG:=48) (P.ext T) (kZ _) I;have ap:=Ext.trans T C;refine⟨_,_,rfl,aS ⟨c,R,au,aS ⟨sv,n,bA,bd (vs:=[(),()]) rfl λaK V aq aL=>⟨V.b9 rfl (qe (c,sv)),rfl,cu V (us:=eC (c,sv)) rfl rfl λW av ax aM=>?_⟩⟩⟩⟩;have D:Ext n W:=Ext.cm aq ax (bn _);obtain⟨d,l⟩:∃d,d=W.drew:=⟨_,rfl⟩;have E:Ext w d:=by rw[l];exact Ext.trans (Ext.trans ap D) (b4 _)
 have o:Var d n.heap.size (eC (c,sv)) 167:=by rw[l];exact av.drew
 have k:=h.ext E;have aO:=A.size;have aQ:=S.size;have aR:=C.size;have ay:∀q,w1.heap.size<=q->B q:=λq g=>z q I;have X:Ext R d:=by rw[l];exact Ext.trans (Ext.trans C D) (b4 _)
 have Z:Ext n d:=by rw[l];exact Ext.trans D (b4 _)
 have az:aY B d c key:=⟨(aw.ext X).src,aw.2.1,λq g=>⟨ay q (an q g),(aw.ext X).lt q g⟩⟩;have ev:aY B d sv val:=⟨(bO.ext Z).src,bO.2.1,λq g=>⟨z q (by have:=ao q g;omega),(bO.ext Z).lt q g⟩⟩;obtain⟨ps,fH,dA,aT,F⟩:=k.p;have aU:ps.length=L.length:=F.1;have ac:∀ (j:Nat),i<=j->j<=L.length->∀ (a:Y) (b:J),gn 2 167 d b a (bH eC ((ps.drop 0).take (i-0))++eC (c,sv)++bH eC ((ps.drop j).take (ps.length-j)))->eN L key val=L.take i++(key,val)::L.drop j->
  (∃u:aa,b.cell? aP=some u)/\b.frozen? aP=false/\ak (b.setCell aP a) λw'=>(.tuple #[]:aa)=.tuple #[]/\ad (λq=>q=aP) w w'/\∃a,gS g1 g2 B w' aP a (eN L key val):=by
  intro j aV aW a b hf ae;have e:bH eC ((ps.drop 0).take (i-0))++eC (c,sv)++bH eC ((ps.drop j).take (ps.length-j))=bH eC (ps.take i++ [(c,sv)]++ps.drop j):=by
   rw[dD (show(ps.drop j).length<=ps.length-j by simp),lF,lF];simp[bH]
  rw[e]at hf;have aA:eR B d (ps.take i++ [(c,sv)]++ps.drop j) (eN L key val):=by
   rw[ae,cM];exact(F.take i).app (eR.app (M:=L.drop j) (L:=[(key,val)]) (eR.one az ev) (F.drop j))
  obtain⟨a1,a2,a3,a4⟩:=Cx k.v hf aA (λq g=>z q (ew E.size g)) h.nb (λp G=>by
   rcases AB.1 G with rfl|⟨G,_⟩
   .exact⟨O,al⟩
   .exact h.ok p G) (by
   rw[ae];simp only[ct,cy,e1,c5];omega)
  exact⟨a1,a2,aS ⟨rfl,cr (ad.cF E) a4 λq _ e=>e,a,a3⟩⟩
 have aX:i<=s.cap:=by omega
 have t:¬d.heap.size<=aP:=by have:=k.v.lt;omega
 have ag:¬d.heap.size<=n.heap.size:=by have:=o.lt;omega
 have aB:IntKind.wrap .i64 ((i:Int)+1)=((i+1:Nat):Int):=by have:=h.eG;rw[bu I I];omega
 refine⟨λH=>?_,λH=>?_⟩
 .have r:ij L key i=true:=H
  rw[r,if_pos rfl]at m;have aC:i+1<=L.length:=by
   unfold ij at r;have h1:=b1 r;rcases dC i L.length with h2|h2
   .exact h2
   .rw[ke h2]at h1;cases h1
  rw[aB,←l];refine aS ⟨λq=>d.heap.size<=q,_,rfl,t,s,k.v.cell,⟨I,I⟩,ag,c,o.cell,sv,o.cell,_,rfl,t,s,k.v.cell,⟨I,I⟩,?_⟩;rw[c8,c8];have N:s.len-(i+1)=ps.length-(i+1):=by omega
  rw[N];exact Cv (x:=[c,sv]) qf vX (λw=>vR w _ rfl) rfl (Src.qk fH dA (cE _) I) (Src.qk fH dA I (bn _)) (qe (c,sv)) qj qj (by show(2*((i-0)+(ps.length-(i+1))+1)+1000)*48<=_;omega) (K:=λa b=>∃f:ab,some (aP:ab)=some f/\(∃u:aa,b.cell? f=some u)/\b.frozen? f=false/\ak (b.setCell f a) λw'=>(.tuple #[]:aa)=.tuple #[]/\ad (λq=>q=aP) w w'/\∃a,gS g1 g2 B w' aP a (eN L key val))
   λa b hf=>⟨_,rfl,ac (i+1) I aC a b hf m⟩
 .have r:ij L key i=false:=H
  rw[r]at m;simp only[fL,if_false]at m;rw[←l];refine aS ⟨λq=>d.heap.size<=q,_,rfl,t,s,k.v.cell,⟨I,I⟩,ag,c,o.cell,sv,o.cell,_,rfl,t,s,k.v.cell,⟨I,I⟩,?_⟩;rw[c8];have N:s.len-i=ps.length-i:=by omega
  rw[N];exact Cv (x:=[c,sv]) qf vX (λw=>vR w _ rfl) rfl (Src.qk fH dA (cE _) I) (Src.qk fH dA I (bn _)) (qe (c,sv)) qj qj (by show(2*((i-0)+(ps.length-i)+1)+1000)*48<=_;omega) (K:=λa b=>∃f:ab,some (aP:ab)=some f/\(∃u:aa,b.cell? f=some u)/\b.frozen? f=false/\ak (b.setCell f a) λw'=>(.tuple #[]:aa)=.tuple #[]/\ad (λq=>q=aP) w w'/\∃a,gS g1 g2 B w' aP a (eN L key val))
   λa b hf=>⟨_,rfl,ac i (bn _) am a b hf m⟩
end
section
variable {g1:O aa}{g2:TypeId}{B C W:Nat->Prop}{w w':J}{s t:Y}{L M:O aH}{aP:Nat}{key fr to:Key}{tk yD tt:Y}
theorem yE{i:Nat}(h:ij L key i=true):i<L.length:=by
 unfold ij at h;have h1:=b1 h;rcases dC i L.length with h2|h2
 .exact h2
 .rw[ke h2]at h1;cases h1
theorem qi.get{i:Nat}(h:qi L key i)(b:gI L):ij L key i=(ec L key).isSome:=by
 rw[(h.vV b []).2.2];by_cases a:ij L key i=true
 .rw[a,if_pos rfl,du (yE a)];rfl
 .have:ij L key i=false:=by simpa using a
  rw[this];rfl
theorem Hy(h:gS g1 g2 B w aP s L)(m:gI L)(y:Src 1 w tk (aG key))(z:key.length<=1000)(A:∀q,w.heap.size<=q->B q):
 aN aj 104 #[.pointer (some aP),tk] w (λv w'=>v=.bool (ec L key).isSome/\ad (λq=>q=aP) w w'/\∃g,gS g1 g2 B w' aP g (ei L key)):=by
 have N:=h.p.len;have C:=h.eG;refine okF (I7.u7 (some aP) tk) I6.u7 func104 ?_;(delta I7.u7 gX ai af ar;dsimp only);refine(yC h y z).use ?_;rintro _ w1 ⟨i,rfl,n,j⟩;obtain⟨_,d,_⟩:=n.vV m [];refine⟨_,_,rfl,hF (λw'=>ad (λq=>q=aP) w w'/\∃g,gS g1 g2 B w' aP g (ei L key)) (λq b=>⟨λc=>?_,λc=>?_⟩) ?_⟩
 rotate_left
 .have c:ij L key i=false:=c
  rw[c]at d;simp only[fL,if_false,hZ]at d;rw[d]at b;exact b _ ⟨ad.cF j,s,h.ext j⟩
 .rintro O ⟨h1,h2⟩
  exact⟨by rw[n.get m],h1,h2⟩
 have c:ij L key i=true:=c;have P:=yE c;rw[c,if_pos rfl]at d;obtain⟨a,o⟩:∃a,a=w1.drew:=⟨_,rfl⟩;rw[←o];have k:Ext w a:=by rw[o];exact Ext.trans j (b4 _)
 have f:=h.ext k;obtain⟨ps,fH,dA,Q,l⟩:=f.p;have R:ps.length=L.length:=l.1;have r:¬a.heap.size<=aP:=by have:=f.v.lt;omega
 have D:IntKind.wrap .i64 ((i:Int)+1)=((i+1:Nat):Int):=by rw[bu I I];omega
 have f0:gn 2 167 a (a.alloc (.cells #[] 167)) ⟨some a.heap.size,0,0⟩ []:=⟨a8.new (T:=167) a [] 0 (by simp) (by decide),eA _ _,λq b=>by rw[kl]at b;simp at b;omega⟩;obtain⟨E,F,au,aw,t,G,_,_⟩:=gn.app (cG:=86) qf f0 ((Src.qk fH dA (cE i) I).ext f0.x) qj (by show(2*(0+(i-0))+1000)*48<=_;omega);obtain⟨H,J,bA,bO,u,S,_,_⟩:=gn.app (cG:=86) qf t ((Src.qk fH dA (show i+1<=ps.length from I) (bn _)).ext t.x) qj (by rw[G];show(2*((0+(i-0))+(ps.length-(i+1)))+1000)*48<=_;omega);rw[D];refine aS ⟨λq=>a.heap.size<=q,_,rfl,r,s,f.v.cell,⟨I,I⟩,_,rfl,r,s,f.v.cell,⟨I,I⟩,⟨some a.heap.size,0,0⟩,_,vX a,ad.cF f0.x,?_⟩;rw[c8,c8,show s.len-(i+1)=ps.length-(i+1) from I];have e: []++bH eC ((ps.drop 0).take (i-0))++bH eC ((ps.drop (i+1)).take (ps.length-(i+1)))=bH eC (ps.take i++ps.drop (i+1)):=by
  rw[dD (show(ps.drop (i+1)).length<=ps.length-(i+1) by simp),lF];simp
 rw[e]at u;have K:eR B a (ps.take i++ps.drop (i+1)) (ei L key):=by
  rw[d];exact(l.take i).app (l.drop (i+1))
 have hlen:(ei L key).length<=10000:=ew (lV _ _) C;obtain⟨a1,a2,a3,a4⟩:=Cx f.v u K (λq b=>A q (ew k.size b)) h.nb (λp M=>h.ok p (hC.1 M).1) hlen;exact⟨E,F,au,aw,H,J,bA,bO,_,rfl,a1,a2,aS (b _ ⟨cr (ad.cF k) a4 λq _ e=>e,_,a3⟩)⟩
theorem Cy{L:O aH}{i m:Nat}(hi:i<L.length):(eO (L.take (i+1)) fr to).take m=(if k7 fr to L[i]=true/\(eO (L.take i) fr to).length<m then (eO (L.take i) fr to).take m++ [L[i]] else (eO (L.take i) fr to).take m):=by
 rw[iq hi,rV,rU [L[i]],oY,List.filter_nil];by_cases h1:k7 fr to L[i]=true
 .rw[if_pos h1]
  by_cases h2:(eO (L.take i) fr to).length<m
  .rw[if_pos ⟨h1,h2⟩,dD (l:=eO (L.take i) fr to) I,dD (by rw[ct,iN];omega)]
  .rw[if_neg (λh=>h2 h.2),nv I]
 .rw[if_neg h1,if_neg (λh=>h1 h.1),fO]
theorem Hz(h:gS g1 g2 B w aP s L)(hf:Src 1 w yD (aG fr))(aH:fr.length<=1000)(ht:Src 1 w tt (aG to))(aI:to.length<=1000)(most:Int)(Z:∀q,w.heap.size<=q->B q):
 aN aj 52 #[.pointer (some ⟨aP,0,none⟩),.slice yD.a yD.len yD.cap,.slice tt.a tt.len tt.cap,.int .i64 most] w (λv w'=>∃C,v=.slice C.a C.len C.cap/\fR B w' C ((eO L fr to).take most.toNat)/\Ext w w'):=by
 have aL:=h.p.len;have aM:=h.eG;have R:=len8 ht;refine okF (I7.u5 (some ⟨aP,0,none⟩) yD tt most) I6.u5 func52 ?_;(delta I7.u5 af ai aK ay ar;dsimp only);have f0:gn 2 167 w (w.alloc (.cells #[] 167)) ⟨some ⟨w.heap.size,0,none⟩,0,0⟩ (bH eC []):=⟨a8.new (T:=167) w [] 0 (by simp) (by decide),eA _ _,λq d=>by rw[kl]at d;simp at d;omega⟩;have aa:fR (λq=>B q/\q<w.heap.size) w s L:=h.p.aW λq d c=>⟨c,d⟩;have ab:∀w',eR (λq=>B q/\q<w.heap.size) w' [] ((eO (L.take 0) fr to).take most.toNat):=λw'=>by
  rw[List.take_zero];have e:(eO [] fr to).take most.toNat=[]:=by simp[eO]
  rw[e];exact⟨rfl,λi h=>by simp at h⟩
 refine⟨⟨some ⟨w.heap.size,0,none⟩,0,0⟩,_,vX w,λj n t=>∃ (i:Nat) (ik:O (Y×Y)),n=(i:Int)/\i<=L.length/\gn 2 167 w t j (bH eC ik)/\eR (λq=>B q/\q<w.heap.size) t ik ((eO (L.take i) fr to).take most.toNat),λ_ n _=>((L.length:Int)-n).toNat,⟨0,[],rfl,cE _,f0,ab _⟩,?_⟩;rintro j _ t ⟨i,ik,rfl,hi,g,D⟩;have F:=h.ext g.x;have aO:j.len=ik.length:=by
  have:=g.o.1;rw[Cw]at this;omega
 have G:=D.1;rw[cy]at G;have aQ:(eO (L.take i) fr to).length<=i:=ew (lV _ _) (by rw[cy];omega);refine⟨_,rfl,s,F.v.cell,λaJ=>?_,λH=>?_⟩
 rotate_left
 .have ac:i=L.length:=by
   have:¬((i:Nat):Int)<((s.len:Nat):Int):=cp H;omega
  rw[ac,ir]at D;exact⟨j,rfl,⟨ik,g.o.src,g.o.2.1,λq d=>⟨Z q (g.f q d),g.o.lt q d⟩,D.aW λq _ c=>c.1⟩,g.x⟩
 have u:i<L.length:=by
  have:((i:Nat):Int)<((s.len:Nat):Int):=b1 aJ;omega
 obtain⟨A,t1,t2,aq,c,ay,aR,E,S⟩:=oG F.p u;have ag:IntKind.wrap .i64 (((i:Nat):Int)+1)=((i+1:Nat):Int):=by rw[bu I I];omega
 have aS:=h.ok _ (cA u);refine cj (λj w'=>∃ik:O (Y×Y),gn 2 167 w w' j (bH eC ik)/\eR (λq=>B q/\q<w.heap.size) w' ik ((eO (L.take (i+1)) fr to).take most.toNat)) (λq d=>⟨_,rfl,s,F.v.cell,A,aq,c,t1,ay,(mZ E.1 (hf.ext g.x) I I).use ?_⟩) ?_
 rotate_left
 .rintro aT aU ⟨ah,ak,al⟩
  rw[ag];exact⟨⟨i+1,ah,rfl,I,ak,al⟩,by show((L.length:Int)-((i+1:Nat):Int)).toNat<((L.length:Int)-((i:Nat):Int)).toNat;omega⟩
 rintro _ aV ⟨n,rfl,U,y⟩;refine⟨n,rfl,cj (λb w'=>b=k7 fr to L[i]/\Ext t w') (λr z=>⟨λH=>?_,λaJ=>?_⟩) ?_⟩
 .have J:ef fr L[i].1:=λK=>by
   have:=U.2 K;have:n>=0:=b1 H;omega
  refine cj (λb w'=>b=(to.isEmpty||decide (bD L[i].1 to))/\Ext t w') (λr z=>⟨λh0=>z _ _ ⟨?_,y⟩,λh0=>?_⟩) ?_
  .have:to=[]:=kH.1 (by
    have:((tt.len:Nat):Int)=0:=by simpa using h0
    omega)
   rw[this];rfl
  .refine(mZ (E.1.ext y) (ht.ext (Ext.trans g.x y)) I I).use ?_
   rintro _ aX ⟨m,rfl,am,an⟩;refine⟨m,rfl,z _ _ ⟨?_,Ext.trans y an⟩⟩;have:to.isEmpty=false:=by
    cases ao:to with
    |nil=>
     rw[ao]at R;have h0:¬((tt.len:Nat):Int)=0:=by simpa using h0
     simp at R;omega
    |cons _ _=>rfl
   rw[this,kG];exact decide_eq_decide.2 am
  .rintro aZ a0 ⟨rfl,ap⟩
   refine z _ _ ⟨?_,ap⟩;unfold k7;rw[dm J,jo]
 .refine z _ _ ⟨?_,y⟩
  have J:¬ef fr L[i].1:=λK=>by
   have:¬n>=0:=cp aJ;exact K (U.1 I)
  unfold k7;rw[hD J,lT]
 rintro a1 k ⟨rfl,M⟩;have l:gn 2 167 w k j (bH eC ik):=⟨g.o.ext M,Ext.trans g.x M,g.f⟩;have V:eR (λq=>B q/\q<w.heap.size) k ik ((eO (L.take i) fr to).take most.toNat):=D.ae M λ_ _ _ h=>h;refine⟨λc=>?_,λc=>d _ _ ⟨ik,l,?_⟩⟩
 .rw[dX,cQ]at c
  have av:k7 fr to L[i]=true/\(eO (L.take i) fr to).length<most.toNat:=⟨c.1,by
   rcases dC (eO (L.take i) fr to).length most.toNat with h|h
   .exact h
   .rw[je h]at G;omega⟩
  have ax:=h.ext l.x;obtain⟨A,t1,t2,aq,aA,ay,aR,E,S⟩:=oG (aa.ext l.x) u;have N:Ext k (k.alloc (.cells (eC (t1,t2)).toArray 167)):=eA _ _;have aB:gn 2 167 w (k.alloc (.cells (eC (t1,t2)).toArray 167)) j (bH eC ik):=⟨l.o.ext N,Ext.trans l.x N,l.f⟩;obtain⟨aC,X,au,aw,aD,a2,aE,_⟩:=gn.app (cG:=86) qf aB (Src.new (T:=167) k (eC (t1,t2)) 1 rfl) (qe _) (by show(2*(j.len+1)+1000)*48<=_;omega);have P:ad (az j) k X:=cr (W:=az j) (ad.cF N) aE λq _ h=>h;have Q:∀q,B q/\q<w.heap.size->¬az j q:=λq d aF=>by have:=g.f q aF;omega
  refine⟨_,rfl,s,ax.v.cell,A,aq,aA,t1,ay,t2,aR,⟨some ⟨k.heap.size,0,none⟩,1,1⟩,_,vR k _ rfl,aC,X,au,d _ _ ⟨ik++ [(t1,t2)],?_,?_⟩⟩
  .have e:bH eC (ik++ [(t1,t2)])=bH eC ik++eC (t1,t2):=by rw[lF];simp[bH]
   rw[e];exact aD
  .rw[Cy u,if_pos av]
   exact(V.ae P λq d _=>Q q d).app (eR.one (aY.ae E P Q) (aY.ae S P Q))
 .rw[Cy u]
  rw[Bool.and_eq_false_iff,jP]at c;rw[if_neg]
  .exact V
  .rintro⟨h1,h2⟩
   rcases c with c|c
   .rw[h1]at c;cases c
   .rw[Nat.min_eq_right I]at G
    omega
end
def ql(n:Nat)(root aE:Int):Prop:=0<=aE/\aE<=12/\0<=root/\root<n/\(root=0↔aE=0)
theorem nU{w:J}{C:bZ}(hc:fl w C)(sb:Nat)(gen root aE:Int):
 aN aj 140 #[.pointer (some C.c),.pointer (some sb),.int .u64 gen,root,aE] w (λv w'=>
  (ql C.D.n root aE/\v=.tuple #[.pointer (some w.heap.size),(0:Int)]/\Ext w w'/\Var w' w.heap.size [.pointer (some C.c),.pointer (some sb),.int .u64 gen,root,aE] 239/\w'.heap.size=w.heap.size+1)\/
  (¬ql C.D.n root aE/\v=.tuple #[.pointer none,(1:Int)]/\w=w')):=by
 refine okF (I7.nU (some C.c) (some sb) gen root aE) I6.nU func140 ?_;(delta I7.nU ai ay U;dsimp only);refine cj (λb w'=>(b=false↔(0<=aE/\aE<=12/\0<=root/\root<C.D.n))/\w=w') (λq g=>⟨λh1=>g _ _ ⟨?_,rfl⟩,λh1=>⟨_,rfl,_,hc.cells.1,(p7 hc.dev).use ?_⟩⟩) ?_
 .simp only[Option.isNone_some,kG,jc,cQ]at h1
  exact⟨λh=>(by cases h),λh=>I⟩
 .rintro _ _ ⟨rfl,rfl⟩
  simp only[Option.isNone_some,kG,oO,jP]at h1;refine⟨_,rfl,g _ _ ⟨?_,rfl⟩⟩;rw[jP];omega
 rintro b _ ⟨i,rfl⟩;refine⟨λh1=>.inr ⟨λhg=>?_,rfl,rfl⟩,λh1=>?_⟩
 .have h2:=i.2 ⟨hg.1,hg.2.1,hg.2.2.1,hg.2.2.2.1⟩
  rw[h2,kG]at h1;have d:=hg.2.2.2.2;by_cases a:root=0
  .rw[a,d.1 a]at h1;simp at h1
  .have f:aE≠0:=λe=>a (d.2 e)
   have j:(root==0)=false:=by simpa using a
   have k:(aE==0)=false:=by simpa using f
   rw[j,k]at h1
   cases h1
 .rw[oO]at h1
  have h2:=i.1 h1.1;have d:root=0↔aE=0:=by
   have a:=h1.2;by_cases f:root=0<;>by_cases l:aE=0<;>simp[f,l]at a⊢
  refine bd (vs:=[.pointer (some C.c),.pointer (some sb),.int .u64 gen,root,aE]) rfl λo m hx hs=>.inl ⟨⟨h2.1,h2.2.1,h2.2.2.1,h2.2.2.2,d⟩,rfl,hx,m,hs⟩
theorem Cz{w:J}{s:Y}{l:O UInt8}(hs:Src 1 w s (aG l))(hc:s.len<=s.cap)(most:Nat)(g:most<=100000):aN aj 24 #[s,most] w (λv w'=>∃a:Y,v=a/\a8 1 5 w' a (aG (l.take most))/\Ext w w'/\∀q,az a q->w.heap.size<=q):=by
 have hlen:=len8 hs;refine okF (I7.vc s (most:Nat)) I6.vc func24 ?_;delta I7.vc ai U;refine cj (λs2 w'=>w=w'/\Src 1 w s2 (aG (l.take most))/\s2.len<=most) (λq b=>⟨λh=>?_,λh=>?_⟩) ?_
 .have h:most<l.length:=by have:=b1 h;omega
  refine⟨⟨I,I⟩,b _ _ ⟨rfl,?_,by simp⟩⟩;have:=m9 hs hc (lo:=0) (hi:=most) I I;simpa using this
 .have h:l.length<=most:=by have:=cp h;omega
  rw[dD h]at b;exact b _ _ ⟨rfl,hs,I⟩
 rintro s2 _ ⟨rfl,h2,i⟩;obtain⟨c,d,au,aw,j,e,f,_⟩:=oh.clone (cG:=48) h2 (kZ _) I;exact aS ⟨c,d,au,c,rfl,aw,e,f⟩
instance (n:Nat) (root aE:Int):Decidable (ql n root aE):=by unfold ql;infer_instance
theorem n3{B C:Nat->Prop}{w:J}{s t:Y}{L M:O aH}(hs:fR B w s L)(ht:fR C w t M)(N:L.length<=1000000):
 aN aj 43 #[s,t] w (λv w'=>∃r:ah,v=r/\(r=true↔L=M)/\Ext w w'):=by
 have h1:=hs.len;have h2:=ht.len;refine okF (I7.n3 s t) I6.n3 func43 ?_;(delta I7.n3 ai aK af ar;dsimp only);refine⟨λa=>⟨false,rfl,⟨λh=>(by cases h),λh=>?_⟩,.refl _ _⟩,λb=>?_⟩
 .rw[h1,h2,h]at a;simp at a
 have l:L.length=M.length:=by
  have:(s.len:Int)=(t.len:Int):=by simpa using b
  omega
 refine⟨λn w'=>∃i:Nat,n=(i:Int)/\i<=L.length/\L.take i=M.take i/\Ext w w',λn _=>((L.length:Int)-n).toNat,⟨0,rfl,cE _,by simp,.refl _ _⟩,?_⟩;rintro _ m ⟨i,rfl,hi,he,hx⟩;refine⟨λaJ=>?_,λo=>?_⟩
 rotate_left
 .have d:i=L.length:=by
   have:¬(i:Int)<(s.len:Int):=cp o;omega
  refine⟨true,rfl,⟨λ_=>?_,λ_=>rfl⟩,hx⟩;rw[d,ir,l,ir]at he;exact he
 have d:i<L.length:=by
  have:(i:Int)<(s.len:Int):=b1 aJ;omega
 have e:i<M.length:=by omega
 have c:=Ext.trans hx (b4 m);obtain⟨A,a1,a2,aq,f,ay,aR,p,q⟩:=oG (hs.ext c) d;obtain⟨D,b5,bM,g,j,d1,d2,u,x⟩:=oG (ht.ext c) e;have y:IntKind.wrap .i64 ((i:Int)+1)=((i+1:Nat):Int):=by rw[bu I I];omega
 have k:∀ {r:Prop},L[i]≠M[i]->L=M->r:=λh h2=>absurd (by subst h2;rfl) h;refine aS ⟨A,aq,f,id,a1,ay,_,λP z=>k1 (p.1.ext z),D,g,j,id,b5,d1,_,λQ E=>k1 (u.1.ext E),λa=>⟨λ_=>⟨false,rfl,⟨λh=>(by cases h),k λh=>?_⟩,c⟩,λh=>(by cases h)⟩,λb=>?_⟩
 .rw[nK,h]at a;simp at a
 rw[nK]at b;have F:L[i].1=M[i].1:=by simpa using b
 refine⟨A,aq,f,id,a2,aR,_,λR G=>k1 (q.1.ext G),D,g,j,id,bM,d2,_,λS H=>k1 (x.1.ext H),λa=>⟨false,rfl,⟨λh=>(by cases h),k λh=>?_⟩,c⟩,λb=>?_⟩
 .rw[nK,h]at a;simp at a
 rw[nK]at b;have K:L[i].2=M[i].2:=by simpa using b
 rw[y];refine⟨⟨i+1,rfl,I,?_,c⟩,by show((L.length:Int)-((i+1:Nat):Int)).toNat<((L.length:Int)-(i:Int)).toNat;omega⟩;rw[iq d,iq e,he,Prod.ext F K]
theorem lz{w:J}{s:Y}{k:Key}(h:Src 1 w s (aG k)):aN aj 50 #[s] w (λv w'=>v=.bool (decide (cz k))/\w=w'):=by
 have a:=len8 h;refine okF (I7.lz s) I6.lz func50 ?_;unfold I7.lz;refine⟨?_,rfl⟩;have e:(decide ((s.len:Int)>0)&&decide ((s.len:Int)<=24))=decide (cz k):=by
  rw[fU,dX,cQ,cQ,cQ];unfold cz;omega
 rw[e]
structure dy where
 now:O aH
 sure:O aH
 fp:Y
 ss:Y
 da:Nat
 clock:Nat
 first:Nat
 cv:Nat
 jK:Nat
def dy.rest(m:dy):O aa:=[m.ss,m.da,.int .u64 (m.clock:Nat),.int .u64 (m.first:Nat),.int .u64 (m.cv:Nat),.int .u64 (m.jK:Nat)]
def dy.c(m:dy):O aa:=m.fp::m.rest
def dy.np(m:dy):dy:={m with sure:=m.now,ss:=m.fp,da:=0,cv:=m.cv+1,jK:=m.clock}
def dy.rZ(m:dy):dy:={m with first:=if m.da=0 then m.clock else m.first,da:=m.da+1}
def dy.more(m:dy)(batch:Nat):dy:=if batch<=m.da+1 then m.rZ.np else m.rZ
def dy.kB(m:dy)(n:Nat):dy:={m with clock:=max m.clock n}
def dy.tick(m:dy)(n d_:Nat):dy:=if m.da≠0/\d_<=max m.clock n-m.first then (m.kB n).np else m.kB n
structure eD(B:Nat->Prop)(w:J)(aP:Nat)(m:dy):Prop where
 now:gS m.rest 90 B w aP m.fp m.now
 sure:fR B w m.ss m.sure
 num:m.clock<18446744073709551616/\(m.da≠0->m.first<=m.clock)
section
variable {B C W:Nat->Prop}{w w':J}{aP:Nat}{m:dy}
theorem eD.ae(h:eD B w aP m)(hc:ad W w w')(b:¬W aP)(a:∀k,B k->k<w.heap.size->¬W k):eD B w' aP m:=⟨h.now.ae hc b a,h.sure.ae hc a,h.num⟩
theorem eD.ext(h:eD B w aP m)(hx:Ext w w'):eD B w' aP m:=h.ae hx id λ_ _ _ h=>h
theorem eD.aW(h:eD B w aP m)(a:∀k,k<w.heap.size->B k->C k)(b:¬C aP):eD C w aP m:=⟨h.now.aW a b,h.sure.aW a,h.num⟩
theorem eD.v(h:eD B w aP m):Var w aP m.c 90:=h.now.v
theorem eD.set(h:eD B w aP m){i:Nat}{x:aa}(a:dy)(hi:i<7)(hc:m.c.set i x=a.c)(hs:a.fp=m.fp)(b:a.now=m.now)(j:fR B w a.ss a.sure)(k:a.clock<18446744073709551616/\(a.da≠0->a.first<=a.clock)):
 (∃u:aa,w.cell? ⟨aP,i,none⟩=some u)/\w.frozen? ⟨aP,i,none⟩=false/\eD B (w.setCell ⟨aP,i,none⟩ x) aP a/\ad (λq=>q=aP) w (w.setCell ⟨aP,i,none⟩ x):=by
 obtain⟨bA,bO⟩:=dH h.v (i:=i) (by show i<7;exact hi);have d:=dn w aP i x;have f:=dJ h.v (i:=i) x;rw[hc]at f;have g:∀q,B q->q<w.heap.size->¬q=aP:=λq l _ e=>h.now.nb (e▸l);exact⟨bA,bO,⟨⟨f,by rw[hs,b];exact h.now.p.ae d g,h.now.nb,by rw[b];exact h.now.ok,by rw[b];exact h.now.eG⟩,j.ae d g,k⟩,d⟩
theorem eD.back(h:eD B w aP m)(c:∀p∈m.sure,p.1.length<=1000/\p.2.length<=1000)(d:m.sure.length<=10000):
 (∃u:aa,w.cell? aP=some u)/\w.frozen? aP=false/\eD B (w.setCell aP m.ss) aP {m with now:=m.sure,fp:=m.ss}/\ad (λq=>q=aP) w (w.setCell aP m.ss):=by
 obtain⟨bA,bO⟩:=dH h.v (i:=0) (by show 0<7;decide);have a:=dn w aP 0 m.ss;have b:∀q,B q->q<w.heap.size->¬q=aP:=λq f _ e=>h.now.nb (e▸f);exact⟨bA,bO,⟨⟨dJ h.v (i:=0) _,h.sure.ae a b,h.now.nb,c,d⟩,h.sure.ae a b,h.num⟩,a⟩
theorem eU(d i k:Nat):Addr.add ⟨d,i,none⟩ k=⟨d,i+k,none⟩:=by
 rw[av]
theorem yF (h:eD B w aP m) (hg:m.cv<1000000000000):aN aj 39 #[.pointer (some aP)] w (fun v w'=>v= .tuple #[]∧ad (fun q=>q=aP) w w'∧eD B w' aP m.np):=by
 refine okF (I7.u4 (some aP)) I6.u4 func39 ?_
 (delta I7.u4 af st bl;dsimp only)
 refine⟨_,rfl,m.fp,h.v.cell,_,rfl,?_⟩
 rw[eU,cx]
 obtain⟨a1,a2,c,c9⟩:=h.set (i:=1) (x:=m.fp) {m with sure:=m.now,ss:=m.fp} (by decide) rfl rfl rfl h.now.p h.num
 refine⟨a1,a2,aS ⟨_,rfl,?_⟩⟩
 rw[eU,cx]
 obtain⟨b5,bM,a,b6⟩:=c.set (i:=2) (x:= .int .i64 0) {m with sure:=m.now,ss:=m.fp,da:=0} (by decide) rfl rfl rfl c.sure ⟨h.num.1,fun h=>absurd rfl h⟩
 refine⟨b5,bM,aS ⟨_,rfl,_,by rw[eU];exact a.v.cell,_,rfl,?_⟩⟩
 rw[eU,cx,gO (n:=(m.cv:Nat)+1) (by omega) (by omega)]
 obtain⟨d1,d2,b,gF⟩:=a.set (i:=5) (x:= .int .u64 ((m.cv:Nat)+1)) {m with sure:=m.now,ss:=m.fp,da:=0,cv:=m.cv+1} (by decide) rfl rfl rfl a.sure a.num
 refine⟨d1,d2,aS ⟨_,rfl,_,by rw[eU];exact b.v.cell,_,rfl,?_⟩⟩
 rw[eU,cx]
 obtain⟨d,e,f,iA⟩:=b.set (i:=6) (x:= .int .u64 (m.clock:Nat)) m.np (by decide) rfl rfl rfl b.sure b.num
 exact⟨d,e,aS ⟨rfl,((c9.trans b6).trans gF).trans iA,f⟩⟩
theorem CA (h:eD B w aP m) (hg:m.cv<1000000000000) (l:m.da<1000000) {batch:Nat}:aN aj 105 #[.pointer (some aP),batch] w (fun v w'=>v= .tuple #[]∧ad (fun q=>q=aP) w w'∧eD B w' aP (m.more batch)):=by
 refine okF (I7.u9 (some aP) (batch:Nat)) I6.u9 func105 ?_
 (delta I7.u9 r1 ai bl st ar aR;dsimp only)
 refine hF (fun b=>ad (fun q=>q=aP) w b∧eD B b aP {m with first:=if m.da=0 then m.clock else m.first}) (fun q f=>⟨_,rfl,_,by rw[eU];exact h.v.cell,fun a=>⟨_,rfl,_,by rw[eU];exact h.v.cell,_,rfl,?_⟩,fun a=>f _ ⟨.refl _ _,?_⟩⟩) ?_
 · have e:m.da=0:=by simp at a;omega
   rw[eU,cx]
   obtain⟨a1,a2,g,c9⟩:=h.set (i:=4) (x:= .int .u64 (m.clock:Nat)) {m with first:=if m.da=0 then m.clock else m.first} (by decide) (by rw[if_pos e];rfl) rfl rfl h.sure ⟨h.num.1,fun h0=>absurd e h0⟩
   exact⟨a1,a2,aS (f _ ⟨c9,g⟩)⟩
 · have e:¬m.da=0:=by simp at a;omega
   have j:({m with first:=if m.da=0 then m.clock else m.first}:dy)=m:=by rw[if_neg e]
   rw[j];exact h
 rintro b ⟨kS,c⟩
 refine⟨_,rfl,_,by rw[eU];exact c.v.cell,_,rfl,?_⟩
 rw[eU,cx,bu (n:=(m.da:Nat)+1) (by omega) (by omega)]
 obtain⟨b5,bM,d,gX⟩:=c.set (i:=2) (x:= .int .i64 ((m.da:Nat)+1)) m.rZ (by decide) rfl rfl rfl c.sure ⟨h.num.1,fun _=>by show(if m.da=0 then m.clock else m.first)≤m.clock;split;exact bn _;exact h.num.2 (by assumption)⟩
 refine⟨b5,bM,aS ⟨_,rfl,((m.da+1:Nat):Int),by rw[eU];exact d.v.cell,fun a=>(yF d hg).use ?_,fun a=>?_⟩⟩
 · rintro _ o ⟨rfl,pk,k⟩
   have a:((m.da+1:Nat):Int)≥(batch:Nat):=b1 a
   refine⟨rfl,rfl,(kS.trans gX).trans pk,?_⟩
   unfold dy.more
   rw[if_pos (by omega)];exact k
 · have a:¬((m.da+1:Nat):Int)≥(batch:Nat):=cp a
   refine⟨rfl,kS.trans gX,?_⟩
   unfold dy.more
   rw[if_neg (by omega)];exact d
theorem HA(h:eD B w aP m)(l:∀q,w.heap.size<=q->B q)(hg:m.cv<1000000000000){n d_:Nat}(o:n<18446744073709551616):aN aj 106 #[.pointer (some aP),.int .u64 (n:Nat),.int .u64 (d_:Nat)] w (λv w'=>v=.tuple #[]/\ad (λq=>q=aP) w w'/\eD B w' aP (m.tick n d_)):=by
 have d:=h.num;refine okF (I7.u_ (some aP) (n:Nat) (d_:Nat)) I6.u_ func106 ?_;(delta I7.u_ bl ai st r1 aR;dsimp only);refine hF (λb=>ad (λq=>q=aP) w b/\eD B b aP (m.kB n)) (λq f=>⟨_,rfl,_,by rw[eU];exact h.v.cell,λa=>⟨_,rfl,?_⟩,λa=>f _ ⟨.refl _ _,?_⟩⟩) ?_
 .have a:(n:Int)>(m.clock:Nat):=b1 a
  rw[eU,cx];obtain⟨a1,a2,g,c9⟩:=h.set (i:=3) (x:=.int .u64 (n:Nat)) (m.kB n) (by decide) (by unfold dy.kB;rw[Nat.max_eq_right I];rfl) rfl rfl h.sure ⟨by show max m.clock n<_;omega,λh0=>by have:=d.2 h0;show m.first<=max m.clock n;omega⟩;exact⟨a1,a2,aS (f _ ⟨c9,g⟩)⟩
 .have a:¬(n:Int)>(m.clock:Nat):=cp a
  unfold dy.kB;rw[Nat.max_eq_left I];exact h
 rintro b ⟨b6,j⟩;have c:=j.ext (b4 b);have jA:=b6.trans (ad.cF (b4 b):ad (λq=>q=aP) b b.drew);refine aS ⟨_,rfl,id,_,by rw[eU];exact c.v.cell,λa=>⟨_,rfl,id,_,by rw[eU];exact c.v.cell,_,rfl,id,_,by rw[eU];exact c.v.cell,?_⟩,λa=>⟨λh=>(by cases h),λ_=>⟨rfl,jA,?_⟩⟩⟩
 .have a:(m.da:Int)>0:=b1 a
  have p:=c.num;have e:IntKind.wrap .u64 (((m.kB n).clock:Nat)-((m.kB n).first:Nat))=((max m.clock n-m.first:Nat):Int):=by
   have h1:m.first<=max m.clock n:=by have:=d.2 I;omega
   have h2:max m.clock n<18446744073709551616:=by omega
   show IntKind.wrap .u64 (((max m.clock n:Nat):Int)-(m.first:Int))=_;rw[gO I I];omega
  have r:∀x:Prop,(decide (IntKind.wrap .u64 (((m.kB n).clock:Nat)-((m.kB n).first:Nat))>=(d_:Int))=true->x)->(d_<=max m.clock n-m.first->x):=λx hx hd=>hx (dm (by rw[e];omega));refine⟨λhc=>(yF c hg).use ?_,λhc=>⟨rfl,jA,?_⟩⟩
  .rintro _ s ⟨rfl,pk,k⟩
   have hc:=b1 hc;rw[e]at hc;refine⟨rfl,rfl,jA.trans pk,?_⟩;unfold dy.tick;rw[if_pos ⟨I,I⟩];exact k
  .have hc:=cp hc
   rw[e]at hc;unfold dy.tick;rw[if_neg I];exact c
 .have a:¬(m.da:Int)>0:=cp a
  unfold dy.tick;rw[if_neg I];exact c
end
structure cU where
 root:Nat
 aE:Nat
 map:Nat
 clock:Nat
 cv:Nat
 keys:Nat
 deriving DecidableEq
def gi:cU:=⟨0,0,0,0,0,0⟩
def cU.c(u:cU):O aa:=[u.root,u.aE,u.map,.int .u64 (u.clock:Nat),.int .u64 (u.cv:Nat),u.keys]
structure nq(u:cU):Prop where
 root:u.root<4294967296
 aE:u.aE<256
 map:u.map<4294967296
 clock:u.clock<18446744073709551616
 cv:u.cv<18446744073709551616
 keys:u.keys<4294967296
def g3(u:cU)(n:Nat):O UInt8:=[]++b3 u.root 4++b3 u.aE 1++b3 u.map 4++b3 n 4++b3 u.clock 8++b3 u.cv 8++b3 u.keys 4
def oH(b:O UInt8):cU:=⟨c_ b 0 4,c_ b 4 1,c_ b 5 4,c_ b 13 8,c_ b 21 8,c_ b 29 4⟩
def j8(u:cU)(n:Nat):Prop:=(u.root=0↔u.aE=0)/\u.aE<=12/\u.root<n/\u.map<n/\2<=u.map/\n<=1600
instance IZ(u:cU)(n:Nat):Decidable (j8 u n):=by unfold j8;infer_instance
def gT(no:Int)(l:O UInt8):Except Int (cU×Nat×Nat):=match dI no l with
 | .error e=>.error e
 | .ok p=>if p.kind≠3\/p.body.length≠33 then .error 4 else if j8 (oH p.body) (c_ p.body 9 4) then .ok (oH p.body,c_ p.body 9 4,p.gen) else .error 4
theorem CB(u:cU)(n:Nat):(g3 u n).length=33:=by simp[g3,eZ]
theorem HB{u:cU}{n:Nat}(h:nq u)(c:n<4294967296):oH (g3 u n)=u/\c_ (g3 u n) 9 4=n:=by
 have e:∀ {k x m:Nat} (a b:O UInt8),g3 u n=a++(b3 x k++b)->a.length=m->x<256^k->c_ (g3 u n) m k=x:=λa b he d hx=>by rw[he];exact rF d hx
 have f:=h.keys;refine⟨?_,e (b3 u.root 4++b3 u.aE 1++b3 u.map 4) (b3 u.clock 8++(b3 u.cv 8++b3 u.keys 4)) (by simp[g3]) (by simp[eZ]) c⟩;unfold oH;rw[e (m:=0) [] (b3 u.aE 1++(b3 u.map 4++(b3 n 4++(b3 u.clock 8++(b3 u.cv 8++b3 u.keys 4))))) (by simp[g3]) rfl h.root,
  e (b3 u.root 4) (b3 u.map 4++(b3 n 4++(b3 u.clock 8++(b3 u.cv 8++b3 u.keys 4)))) (by simp[g3]) (by simp[eZ]) h.aE,
  e (b3 u.root 4++b3 u.aE 1) (b3 n 4++(b3 u.clock 8++(b3 u.cv 8++b3 u.keys 4))) (by simp[g3]) (by simp[eZ]) h.map,
  e (b3 u.root 4++b3 u.aE 1++b3 u.map 4++b3 n 4) (b3 u.cv 8++b3 u.keys 4) (by simp[g3]) (by simp[eZ]) h.clock,
  e (b3 u.root 4++b3 u.aE 1++b3 u.map 4++b3 n 4++b3 u.clock 8) (b3 u.keys 4) (by simp[g3]) (by simp[eZ]) h.cv,
  e (b3 u.root 4++b3 u.aE 1++b3 u.map 4++b3 n 4++b3 u.clock 8++b3 u.cv 8) [] (by simp[g3]) (by simp[eZ]) f]
def iZ(u:cU)(n gen:Nat):ig:=⟨3,gen,g3 u n⟩
theorem yG{u:cU}{n gen:Nat}(hg:gen<18446744073709551616):m7 (iZ u n gen):=⟨(by decide:1<=3),(by decide:3<=4),hg,by show(g3 u n).length<=232;rw[CB];decide⟩
theorem CC{u:cU}{n gen no:Nat}(h:nq u)(hu:j8 u n)(hg:gen<18446744073709551616)(a:no<1600):gT no (ez no (iZ u n gen))=.ok (u,n,gen):=by
 unfold gT;rw[vr a (yG hg)];have b:n<4294967296:=by have:=hu.2.2.2.2.2;omega
 obtain⟨h1,h2⟩:=HB h b;show(if (3:Nat)≠3\/(g3 u n).length≠33 then _ else if j8 (oH (g3 u n)) (c_ (g3 u n) 9 4) then Except.ok (oH (g3 u n),c_ (g3 u n) 9 4,gen) else _)=_;rw[h1,h2,if_neg (by rw[CB];simp),if_pos hu]
section
variable {w w':J}{h:Nat}{vs:O aa}{u:cU}
theorem cU.plain(u:cU):∀v∈u.c,Plain v:=by
 intro v a;simp only[cU.c,cS,eS,eW]at a;rcases a with rfl|rfl|rfl|rfl|rfl|rfl<;>trivial
theorem gM(a:Var w h u.c 104){K:Int->Int->Int->Int->Int->Int->Prop}(e:K (u.root:Nat) (u.aE:Nat) (u.map:Nat) (u.clock:Nat) (u.cv:Nat) (u.keys:Nat)):
 ∃bR:Int,w.cell? h=some (.int .i64 bR)/\∃bq:Int,w.cell? (Addr.add h 1)=some (.int .i64 bq)/\∃b:Int,w.cell? (Addr.add h 2)=some (.int .i64 b)/\
  ∃d:Int,w.cell? (Addr.add h 3)=some (.int .u64 d)/\∃n5:Int,w.cell? (Addr.add h 4)=some (.int .u64 n5)/\∃n6:Int,w.cell? (Addr.add h 5)=some (.int .i64 n6)/\K bR bq b d n5 n6:=
 ⟨_,a.cell,_,by rw[av];exact a.cell,_,by rw[av];exact a.cell,_,by rw[av];exact a.cell,_,by rw[av];exact a.cell,_,by rw[av];exact a.cell,e⟩
theorem i_(a:Var w h vs 104)(b:vs.length=6)(u:cU){K:J->Prop}(d:∀ag,Var ag h u.c 104->ad (λq=>q=h) w ag->ag.heap.size=w.heap.size->K ag):
 bx w h [u.root,u.aE,u.map,.int .u64 (u.clock:Nat),.int .u64 (u.cv:Nat),u.keys]/\(6:Nat)=6/\
  ak (setCells w h 0 [u.root,u.aE,u.map,.int .u64 (u.clock:Nat),.int .u64 (u.cv:Nat),u.keys]) K:=
 ⟨a.b9 (by rw[b];rfl) u.plain,rfl,cu a (us:=u.c) (by rw[b];rfl) rfl λag e hc f=>d ag e hc f⟩
end
theorem pA{w:J}{u:cU}(h:nq u){n:Nat}(y:n<4294967296):aN aj 138 #[.agg u.c.toArray,n] w (λv w'=>∃s:Y,v=s/\a8 1 5 w' s (aG (g3 u n))/\Ext w w'/\gR w s):=by
 have h1:=h.root;have h2:=h.aE;have z:=h.map;have W:=h.clock;have X:=h.cv;have A:=h.keys;have a:∀ {x:Nat},x<4294967296->IntKind.wrap .u64 (x:Int)=(x:Int):=λ{x} hx=>gO I I;refine okF (I7.pA (u.root:Nat) (u.aE:Nat) (u.map:Nat) (u.clock:Nat) (u.cv:Nat) (u.keys:Nat) (n:Nat)) I6.pA func138 ?_;(delta I7.pA r1 U aZ bl;dsimp only);refine bd (vs:=u.c) rfl λw1 b B Z=>⟨_,b.cell,?_⟩;rw[a h1];refine(ib (s:=⟨none,0,0⟩) (l:=[]) (a8.none 1 5 w1).src (cE _) (n:=u.root) I (by decide)).use ?_;rintro _ ag ⟨s2,rfl,C,d,aa⟩;have e:=b.ext d;refine⟨s2,rfl,_,by rw[av];exact e.cell,?_⟩;rw[a (x:=u.aE) I];refine(ib C.src (by simp[eZ]) (n:=u.aE) I (by decide)).use ?_;rintro _ ab ⟨D,rfl,E,f,ac⟩;have g:=e.ext f;refine⟨D,rfl,_,by rw[av];exact g.cell,?_⟩;rw[a z];refine(ib E.src (by simp[eZ]) (n:=u.map) I (by decide)).use ?_;rintro _ ad ⟨F,rfl,G,i,ae⟩;have H:=g.ext i;refine⟨F,rfl,?_⟩;rw[a y];refine(ib G.src (by simp[eZ]) (n:=n) I (by decide)).use ?_;rintro _ af ⟨K,rfl,L,j,ah⟩;have k:=H.ext j;refine⟨K,rfl,_,by rw[av];exact k.cell,?_⟩;refine(ib L.src (by simp[eZ]) (n:=u.clock) I (by decide)).use ?_;rintro _ ai ⟨M,rfl,N,m,ak⟩;have o:=k.ext m;refine⟨M,rfl,_,by rw[av];exact o.cell,?_⟩;refine(ib N.src (by simp[eZ]) (n:=u.cv) I (by decide)).use ?_;rintro _ al ⟨O,rfl,P,p,am⟩;have Q:=o.ext p;refine⟨O,rfl,_,by rw[av];exact Q.cell,?_⟩;rw[a A];refine(ib P.src (by simp[eZ]) (n:=u.keys) I (by decide)).use ?_;rintro _ an ⟨r,rfl,R,S,T⟩;have t:=Ext.trans (Ext.trans (Ext.trans (Ext.trans (Ext.trans (Ext.trans B d) f) i) j) m) p;refine⟨r,rfl,r,rfl,R,Ext.trans t S,λq V=>?_⟩;have:=T q V;have:=t.size;omega
theorem HC{w:J}{b:Y}{l:O UInt8}{aU a k:Nat}(f:Var w aU [b,a] 316)(hs:Src 1 w b (aG l))(hc:b.len<=b.cap)(g:1<=k/\k<=8)(j:a+k<=l.length)(m:l.length<=1000):
 aN aj 226 #[.pointer (some aU),k] w (λv w'=>v=.int .u64 (c_ l a k:Nat)/\Var w' aU [b,.int .i64 ((a+k:Nat):Int)] 316/\ad (λq=>q=aU) w w'):=by
 refine I7.EB _ (k:Nat) w _ ?_;(delta I7.rA af r1 kU st ar;dsimp only);have d:=b4 w;have c:=f.ext d;refine aS ⟨λ_=>False,_,rfl,id,b,c.cell,_,rfl,id,_,by rw[av];exact c.cell,(kV (hs.ext d) hc g j I).use ?_⟩;rintro _ _ ⟨rfl,rfl⟩;obtain⟨bA,bO⟩:=dH c (i:=1) (by simp);refine⟨_,true,rfl,_,rfl,_,by rw[av];exact c.cell,_,rfl,by rw[av];exact bA,by rw[av];exact bO,aS ⟨rfl,?_,?_⟩⟩
 .rw[av]
  have h1:=dJ c (i:=1) (.int .i64 (IntKind.wrap .i64 ((a:Nat)+(k:Nat))));have e:IntKind.wrap .i64 ((a:Int)+(k:Int))=((a+k:Nat):Int):=by rw[bu I I];omega
  rw[e]at h1⊢;exact h1
 .rw[av]
  exact cr (d.mono λ_ _ h=>h.elim) (dn _ _ _ _) λq _ e=>e
def CD:Except Int (cU×Nat×Nat)->aa
 | .ok (u,n,g)=>.tuple #[.agg u.c.toArray,n,.int .u64 (g:Nat),(0:Int)]
 | .error e=>.tuple #[.agg gi.c.toArray,(0:Int),.int .u64 0,e]
theorem yH{no:Int}{l:O UInt8}{e:Int}(h:dI no l=.error e):e≠0:=by
 unfold dI at h
 repeat' split at h
 all_goals first|(cases h;decide)|cases h
theorem pF{s:Y}{l:O UInt8}{w:J}(hs:Src 1 w s (aG l))(hc:s.len<=s.cap)(aO:l.length<=1000)(no:Int):
 aN aj 171 #[.int .i64 no,.slice s.a s.len s.cap] w (λv w'=>v=CD (gT no l)/\Ext w w'):=by
 refine okF (I7.pF no s) I6.pF func171 ?_;(delta I7.pF gv ly z3 U ai r1 bl af w9 gg st ar;dsimp only);refine bd (vs:=gi.c) rfl λw1 ah H bD=>(mW (hs.ext H) hc aO no).use ?_;rintro _ ag ⟨r,W⟩;obtain⟨d,aP⟩:∃d,d=w.heap.size:=⟨_,rfl⟩;rw[←aP]at ah⊢;have L:=ah.ext W
 cases B:dI no l with
 |error e=>
  rw[B]at r;have X:=yH B;have hd:gT no l=.error e:=by unfold gT;rw[B]
  rw[hd];obtain rfl:_=_:=r;refine⟨0,0,⟨none,0,0⟩,e,rfl,bd (vs:=[.int .i64 0,.int .u64 0,.slice none 0 0]) rfl λaQ M al aR=>⟨M.b9 rfl (λv N=>?_),rfl,cu M (us:=[.int .i64 0,.int .u64 0,.slice none 0 0]) rfl rfl λC t am aT=>⟨λ_=>?_,λh=>?_⟩⟩⟩
  .simp only[cS,eS,eW]at N
   rcases N with rfl|rfl|rfl<;>trivial
  .have y:Ext ag C:=Ext.cm al am (bn _)
   have m:=L.ext y;refine gM (u:=gi) m (i_ m rfl gi λD an aV bE=>gM (u:=gi) an ⟨rfl,?_⟩);exact Ext.cm (Ext.trans (Ext.trans H W) y) aV I
  .simp at h;exact absurd h X
 |ok p=>
  rw[B]at r;obtain⟨sb,rfl,Z,aW⟩:=r;refine⟨_,_,sb,0,rfl,bd (vs:=[.int .i64 0,.int .u64 0,.slice none 0 0]) rfl λaQ M al aR=>⟨M.b9 rfl (λv N=>?_),rfl,cu M (us:=[.int .i64 (p.kind:Nat),.int .u64 (p.gen:Nat),.slice sb.a sb.len sb.cap]) rfl rfl λC t am aT=>⟨λh=>(by simp at h),λ_=>⟨_,t.cell,?_⟩⟩⟩⟩
  .simp only[cS,eS,eW]at N
   rcases N with rfl|rfl|rfl<;>trivial
  have y:Ext ag C:=Ext.cm al am (bn _);have ao:=Ext.trans (Ext.trans H W) y;obtain⟨P,aX⟩:∃P,P=ag.heap.size:=⟨_,rfl⟩;rw[←aX]at t⊢;have m:=L.ext y;have aY:sb.len=p.body.length:=by have:=Z.1;rw[ej]at this;omega
  have bF:=(Ext.trans H W).size;have aZ:p.kind≠3\/p.body.length≠33->gT no l=.error 4:=λh=>by
   unfold gT;rw[B];exact if_pos h
  refine cj (λb w'=>b=decide (p.kind≠3\/p.body.length≠33)/\C=w') (λq f=>⟨λh=>f _ _ ⟨?_,rfl⟩,λh=>⟨sb,by rw[av];exact t.cell,f _ _ ⟨?_,rfl⟩⟩⟩) ?_
  .have:p.kind≠3:=λe=>by rw[e]at h;simp at h
   rw[dm (.inl this)]
  .have a0:p.kind=3:=by
    have:((p.kind:Nat):Int)=3:=by simpa using h
    omega
   rw[aY,fU,cQ];constructor
   .intro Q
    refine .inr λe=>?_;rw[e]at Q;simp at Q
   .rintro(Q|Q)
    .exact absurd a0 Q
    .rw[bne_iff_ne];omega
  rintro _ _ ⟨rfl,rfl⟩;have aD:∀ {D:J}{vs:O aa},Var D d vs 104->vs.length=6->Ext w D->(gT no l=.error 4)->bx D ⟨d,0,none⟩ [.int .i64 0,.int .i64 0,.int .i64 0,.int .u64 0,.int .u64 0,.int .i64 0]/\(6:Nat)=6/\ak (setCells D ⟨d,0,none⟩ 0 [.int .i64 0,.int .i64 0,.int .i64 0,.int .u64 0,.int .u64 0,.int .i64 0]) λo=>
   ∃bR:Int,o.cell? ⟨d,0,none⟩=some (.int .i64 bR)/\∃bq:Int,o.cell? (Addr.add ⟨d,0,none⟩ 1)=some (.int .i64 bq)/\∃aF:Int,o.cell? (Addr.add ⟨d,0,none⟩ 2)=some (.int .i64 aF)/\
   ∃aH:Int,o.cell? (Addr.add ⟨d,0,none⟩ 3)=some (.int .u64 aH)/\∃n5:Int,o.cell? (Addr.add ⟨d,0,none⟩ 4)=some (.int .u64 n5)/\∃n6:Int,o.cell? (Addr.add ⟨d,0,none⟩ 5)=some (.int .i64 n6)/\
   (Value.tuple #[.agg #[.int .i64 bR,.int .i64 bq,.int .i64 aF,.int .u64 aH,.int .u64 n5,.int .i64 n6],.int .i64 0,.int .u64 0,.int .i64 4]=CD (gT no l)/\Ext w o):=by
   intro D vs an a1 a2 hd;rw[hd];exact i_ an a1 gi λo a3 a4 bG=>gM (u:=gi) a3 ⟨rfl,Ext.cm a2 a4 I⟩
  refine⟨λh=>?_,λh=>?_⟩
  .exact gM (u:=gi) m (aD m rfl ao (aZ (b1 h)))
  have ap:=cp h;have bH:p.kind=3:=oV λh=>ap (.inl h);have bI:p.body.length=33:=oV λh=>ap (.inr h);have a5:=(Z.ext y).src;have a6:sb.len<=sb.cap:=Z.2.1;have aI:∀q,az sb q->q<C.heap.size:=(Z.ext y).lt;refine⟨sb,by rw[av];exact t.cell,bd (vs:=[.slice sb.a sb.len sb.cap,.int .i64 ((0:Nat):Int)]) rfl λa7 aJ ab bJ=>?_⟩;obtain⟨aU,a8⟩:∃aU,aU=C.heap.size:=⟨_,rfl⟩;rw[←a8]at aJ aI⊢;have X:aU≠d:=by have:=m.lt;omega
  have a9:aU≠P:=by have:=t.lt;omega
  have a_:=a5.ext ab;have ba:=m.ext ab;have bb:=t.ext ab;have bc:=Ext.trans ao ab;have be:w.heap.size<=aU:=by have:=ao.size;omega
  obtain⟨ck,E⟩:∃ck:J->O aa->Nat->Prop,ck=λw' vs a=>Var w' aU [.slice sb.a sb.len sb.cap,.int .i64 ((a:Nat):Int)] 316/\Src 1 w' sb (aG p.body)/\Var w' d vs 104/\Var w' P [.int .i64 (p.kind:Nat),.int .u64 (p.gen:Nat),.slice sb.a sb.len sb.cap] 150/\Ext w w':=⟨_,rfl⟩;have bf:∀q,az sb q->q≠d:=λq f e=>by
   have:=aW q f;have:=L.lt;have:=H.size;have:=ah.lt;omega
  have z:∀ {w':J}{vs:O aa}{a k:Nat}{R:Ending->J->Prop},ck w' vs a->1<=k/\k<=8->a+k<=33->(∀g,ck g vs (a+k)->R (.returned (.int .u64 (c_ p.body a k:Nat))) g)->Calls aj 226 #[.pointer (some ⟨aU,0,none⟩),.int .i64 (k:Nat)] w' R:=by
   intro w' vs a k R A aq bK bg;rw[E]at A;obtain⟨bA,bO,S,ax,ay⟩:=A;refine(HC bA bO a6 aq I I).use ?_;rintro _ g ⟨rfl,au,aw⟩;refine bg g ?_;rw[E];exact⟨au,bO.ae aw λq f e=>by have:=aI q f;omega,S.ae aw (λe=>X e.symm),ax.ae aw (λe=>a9 e.symm),Ext.cm ay aw be⟩
  have jV:∀ {w':J}{vs:O aa}{a:Nat} (j:Nat) (v:aa) {K:J->Prop},ck w' vs a->j<vs.length->(∀g,ck g (vs.set j v) a->K g)->(∃u:aa,w'.cell? ⟨d,j,none⟩=some u)/\w'.frozen? ⟨d,j,none⟩=false/\ak (w'.setCell ⟨d,j,none⟩ v) K:=by
   intro w' vs a j v K A ac aA;rw[E]at A;obtain⟨bA,bO,S,ax,ay⟩:=A;have hc:=dn w' d j v;refine⟨(dH S ac).1,(dH S ac).2,aS (aA _ ?_)⟩;rw[E];exact⟨bA.ae hc X,bO.ae hc bf,dJ S v,ax.ae hc (λe=>by have:=m.lt;have:=L.lt;omega),Ext.cm ay hc I⟩
  have T:∀ {w':J}{vs:O aa}{a:Nat} (j:Nat) (v:aa) {K:J->Prop},ck w' vs a->j<vs.length->(∀g,ck g (vs.set j v) a->K g)->(∃u:aa,w'.cell? (Addr.add ⟨d,0,none⟩ j)=some u)/\w'.frozen? (Addr.add ⟨d,0,none⟩ j)=false/\ak (w'.setCell (Addr.add ⟨d,0,none⟩ j) v) K:=by
   intro w' vs a j v K A ac aA;rw[av,cx];exact jV j v A ac aA
  have bh:ck a7 gi.c 0:=by rw[E];exact⟨aJ,a_,ba,bb,bc⟩
  have ad:∀a,a+4<=33->c_ p.body a 4<4294967296:=λa bi=>m4 4 _ (by rw[cy,c5];omega);have bj:c_ p.body 4 1<256:=m4 1 _ (by rw[cy,c5];omega);have bL:∀a,a+8<=33->c_ p.body a 8<18446744073709551616:=λa bi=>m4 8 _ (by rw[cy,c5];omega);have V:∀ {x:Nat},x<4294967296->IntKind.wrap .i64 ((x:Nat):Int)=((x:Nat):Int):=λhx=>bu I I;refine z (k:=4) bh (by decide) (by decide) λbN t43=>⟨_,rfl,z (k:=1) t43 (by decide) (by decide) λbP t46=>⟨_,rfl,z (k:=4) t46 (by decide) (by decide) λbQ t49=>⟨_,rfl,?_⟩⟩⟩;rw[V (ad 0 (by decide)),V (x:=c_ p.body (0+4) 1) (by have:=bj;show c_ p.body 4 1<_;omega),V (ad (0+4+1) (by decide))];refine jV 0 _ t49 (by simp[gi,cU.c]) λbS t52=>T 1 _ t52 (by simp[gi,cU.c]) λbT t53=>T 2 _ t53 (by simp[gi,cU.c]) λbU t54=>?_;refine(z (k:=4) t54 (by decide) (by decide) λbV t55=>⟨_,rfl,z (k:=8) t55 (by decide) (by decide) λbW t58=>⟨_,rfl,z (k:=8) t58 (by decide) (by decide) λbX t61=>⟨_,rfl,z (k:=4) t61 (by decide) (by decide) λbY t64=>⟨_,rfl,?_⟩⟩⟩⟩);rw[V (ad (0+4+1+4) (by decide)),V (ad (0+4+1+4+4+8+8) (by decide))];refine T 3 _ t64 (by simp[gi,cU.c]) λbZ t67=>T 4 _ t67 (by simp[gi,cU.c]) λb0 t68=>T 5 _ t68 (by simp[gi,cU.c]) λF t69=>?_;obtain⟨u,hu⟩:∃u,u=oH p.body:=⟨_,rfl⟩;obtain⟨n,aK⟩:∃n,n=c_ p.body 9 4:=⟨_,rfl⟩;rw[E]at t69;obtain⟨_,_,i,bk,aL⟩:=t69;have i:Var F d u.c 104:=by rw[hu];exact i
  have r:gT no l=if j8 u n then .ok (u,n,p.gen) else .error 4:=by
   unfold gT;rw[B,hu,aK];exact if_neg ap
  rw[show c_ p.body (0+4+1+4) 4=n from aK.symm];refine⟨(u.root:Nat),i.cell,(u.aE:Nat),by rw[av];exact i.cell,cj (λb w'=>b=(!((((u.root:Nat):Int)==0)==(((u.aE:Nat):Int)==0))||decide (((u.aE:Nat):Int)>12))/\F=w') (λq f=>⟨λh=>f _ _ ⟨by rw[h,Bool.true_or],rfl⟩,λh=>⟨_,by rw[av];exact i.cell,f _ _ ⟨by rw[h,kG],rfl⟩⟩⟩) ?_⟩;rintro b5 _ ⟨bm,rfl⟩;refine cj (λb w'=>b=(b5||decide (((u.root:Nat):Int)>=(n:Nat)))/\F=w') (λq f=>⟨λh=>f _ _ ⟨by rw[h,Bool.true_or],rfl⟩,λh=>⟨_,i.cell,f _ _ ⟨by rw[h,kG],rfl⟩⟩⟩) ?_;rintro bM _ ⟨bo,rfl⟩;refine cj (λb w'=>b=(bM||decide (((u.map:Nat):Int)>=(n:Nat)))/\F=w') (λq f=>⟨λh=>f _ _ ⟨by rw[h,Bool.true_or],rfl⟩,λh=>⟨_,by rw[av];exact i.cell,f _ _ ⟨by rw[h,kG],rfl⟩⟩⟩) ?_;rintro bp _ ⟨br,rfl⟩;refine cj (λb w'=>b=(bp||decide (((u.map:Nat):Int)<2))/\F=w') (λq f=>⟨λh=>f _ _ ⟨by rw[h,Bool.true_or],rfl⟩,λh=>⟨_,by rw[av];exact i.cell,f _ _ ⟨by rw[h,kG],rfl⟩⟩⟩) ?_;rintro bs _ ⟨bt,rfl⟩;have bv:(bs||decide (((n:Nat):Int)>1600))= !decide (j8 u n):=by
   have bw:(((u.root:Nat):Int)==0)=decide (u.root=0):=by rw[fU];simp
   have bz:(((u.aE:Nat):Int)==0)=decide (u.aE=0):=by rw[fU];simp
   rw[bt,br,bo,bm,bw,bz,fU];unfold j8;by_cases h1:u.root=0<;>by_cases h2:u.aE=0<;>simp[h1,h2]<;>omega
  rw[bv];refine⟨λh=>?_,λh=>?_⟩
  .have bB:¬j8 u n:=λhg=>by rw[dm hg]at h;cases h
   exact aD i rfl aL (by rw[r,if_neg bB])
  .have hg:j8 u n:=oV λhg=>by rw[hD hg]at h;cases h
   rw[r,if_pos hg];have aB:=b4 F;have aC:=i.ext aB;have bC:=bk.ext aB;have b2:d≠P:=by have:=m.lt;have:=L.lt;omega
   refine aS ⟨λ_=>False,id,gM aC ⟨id,_,by rw[av];exact bC.cell,i_ aC rfl u λb3 aM G b6=>⟨?_,gM aM ⟨rfl,Ext.cm (Ext.trans aL aB) G I⟩⟩⟩⟩;refine⟨G.os,G.tape,G.output,G.size,λk aq _=>?_⟩;by_cases e:k=d
   .rw[e];exact aM.trans aC.symm
   .exact G.block k aq e
section
variable {α:Type}{P:Program}{w w':J}{hJ fu T:TypeId}{enc:α->aa}{r m:Nat}{L:O (α×aa×Nat)}{seen:O Nat}
structure kC(w:J)(r m:Nat)(enc:α->aa)(L:O (α×aa×Nat))(seen:O Nat):Prop where
 it:∃a:Nat,w.heap[r]? =some (.mapIter (some m) a seen.toArray a)/\w.heap[m]? =some (.map (L.map (dL enc)).toArray a)/\∀x∈L,x.2.2<a
 bk:(L.map (·.2.2)).Nodup
def gp(L:O (α×aa×Nat))(seen:O Nat):O (α×aa×Nat):=L.filter λx=> !seen.contains x.2.2
theorem CE(P:Program){n:Nat}(b:1<=n)(w:J):∃ (i:Nat) (w':J),i<n/\(choose (.mapNext n)).run P w=.ok i w'/\(w'=w\/w'=w.drew):=by
 by_cases h:n<=1
 .refine⟨0,w,I,?_,.inl rfl⟩
  show Sem.run P (.choose (.mapNext n) .pure) w=_;have a:(Question.mapNext n).forced=true:=by simp[Question.forced,h]
  simp only[Sem.run,a,if_true]
 .refine⟨(Question.mapNext n).cut (w.tape w.drawn (.mapNext n)),w.drew,g6 _ I,?_,.inr rfl⟩
  show Sem.run P (.choose (.mapNext n) .pure) w=_;have a:(Question.mapNext n).forced=false:=by simp[Question.forced,h]
  simp only[Sem.run,a,fL,if_false];rfl
theorem yI{a:ao Nat}{b d:Nat}{c:Array Nat}(h:w.heap[r]? =some (.mapIter a b c d)):(getObj r).run P w=.ok (.mapIter a b c d) w:=by simp[getObj,Sem.run,h]
theorem HD{a:ao Nat}{b d:Nat}{c:Array Nat}(h:w.heap[r]? =some (.mapIter a b c d))(e:Obj):(setObj r e).run P w=.ok () (iz w r e):=by simp[setObj,Sem.run,h,iz]
theorem kC.begin{M:O (α×aa)}(h:er w m enc M){T:TypeId}{hJ fu:TypeId}(b:P.underlying T=some (.map hJ fu)):∃ (L:O (α×aa×Nat)) (w1:J),(L.map lr).Perm M/\(Instr.range T (.map (some m))).run P w=.ok (.pointer (some w.heap.size)) w1/\kC w1 w.heap.size m enc L []/\Ext w w1/\w1.heap.size=w.heap.size+1:=by
 have aJ:=h.lt;obtain⟨L,a,h1,h2,e,c,d⟩:=h;refine⟨L,w.alloc (.mapIter (some m) a #[] a),h2,?_,⟨⟨a,?_,?_,d⟩,c⟩,ad.alloc (.refl _ _) _,by simp⟩
 .simp only[Instr.range,Sem.run_bind,dh b,Result.andThen,l4 h1,Sem.run_pure,newObj,Sem.run]
  rfl
 .show(w.heap.push _)[w.heap.size]? =_
  simp
 .show(w.heap.push _)[m]? =_
  rw[Array.getElem?_push_lt aJ];exact(Array.getElem?_eq_getElem aJ).symm.trans h1
theorem kC.next(h:kC w r m enc L seen)(E:r≠m)(T:TypeId):
 (gp L seen=[]/\∃w1,(Instr.next (.pointer (some r)) false T).run P w=.ok (.tuple #[false]) w1/\Ext w w1/\w1.heap=w.heap)\/
 (∃x∈gp L seen,∃w1,(Instr.next (.pointer (some r)) false T).run P w=.ok (.tuple #[true,enc x.1,x.2.1]) w1/\kC w1 r m enc L (seen++ [x.2.2])/\ad (λq=>q=r) w w1/\w1.heap.size=w.heap.size/\(Instr.entry (.pointer (some r))).run P w1=.ok (.tuple #[enc x.1,x.2.1]) w1):=by
 obtain⟨⟨a,h1,h2,d⟩,j⟩:=h;have k:(!seen.toArray.isEmpty&& !((L.map (dL enc)).toArray).isEmpty&&((L.map (dL enc)).toArray).all λe=>decide (e.born>=a))=false:=by
  cases L with
  |nil=>simp
  |cons x L=>
   have:¬a<=x.2.2:=by have:=d x (by simp);omega
   simp[dL,this]
 have f:((L.map (dL enc)).toArray.filter λe=> !seen.toArray.contains e.born)=((gp L seen).map (dL enc)).toArray:=by
  rw[List.filter_toArray,List.filter_map]
  congr 1
  unfold gp
  congr 1
  apply List.filter_congr;intro x _;simp only[Function.comp,dL,List.contains_toArray]
 have aJ:∀x∈gp L seen,x.2.2<a:=λx hx=>d x (hC.1 hx).1;have hold:(((gp L seen).map (dL enc)).toArray.filter λe=>decide (e.born<a))=((gp L seen).map (dL enc)).toArray:=by
  rw[List.filter_toArray,jQ.2];intro e he;obtain⟨x,hx,rfl⟩:=ep.1 he;exact dm (aJ x hx)
 have g:(((gp L seen).map (dL enc)).toArray.filter λe=>decide (e.born>=a))= #[]:=by
  rw[List.filter_toArray,lR.2];intro e he;obtain⟨x,hx,rfl⟩:=ep.1 he;have:=aJ x hx;have F:¬a<=x.2.2:=by omega
  simp[dL,F]
 cases b:gp L seen with
 |nil=>
  rw[b]at f hold g;obtain⟨i,w1,hi,hc,c⟩:=CE P (n:=1) (bn _) w;have G:i=0:=by omega
  subst G;refine .inl ⟨rfl,w1,?_,?_,?_⟩
  .simp only[Instr.next,Sem.run_bind,yI h1,Result.andThen,l4 h2,k,fL,if_false,f,hold,g]
   simp only[List.map_nil,Array.isEmpty,sw,jw,decide_true,if_true];have e:(#[none]++((#[]:Array MapEntry)++ #[]).map some:Array (ao MapEntry)).size=1:=by simp
   have o:((#[none]++((#[]:Array MapEntry)++ #[]).map some:Array (ao MapEntry)))[0]? =some none:=by simp
   simp only[e,Sem.run_bind,hc,Result.andThen,o,Sem.run_pure,Sem.run_pure]
  .rcases c with rfl|rfl
   .exact .refl _ _
   .exact ad.drew (.refl _ _)
  .rcases c with rfl|rfl<;>rfl
 |cons y l=>
  right;rw[←b];have v:1<=(gp L seen).length:=by rw[b];simp
  obtain⟨i,w1,hi,hc,c⟩:=CE P (n:=(gp L seen).length) v w;have p:w1.heap=w.heap:=by rcases c with rfl|rfl<;>rfl
  obtain⟨x,hx⟩:∃x,x=(gp L seen)[i]:=⟨_,rfl⟩;have s:x∈gp L seen:=by rw[hx];exact cA _
  have A:x∈L:=(hC.1 s).1;have B:w1.heap[r]? =some (.mapIter (some m) a seen.toArray a):=by rw[p];exact h1
  have H:r<w1.heap.size:=(lQ.1 B).1;have t:(iz w1 r (.mapIter (some m) a (seen.toArray.push x.2.2) a)).heap[r]? =some (.mapIter (some m) a (seen++ [x.2.2]).toArray a):=by
   rw[s5 H];simp
  have u:(iz w1 r (.mapIter (some m) a (seen.toArray.push x.2.2) a)).heap[m]? =some (.map (L.map (dL enc)).toArray a):=by
   have C:w1.heap[m]? =some (.map (L.map (dL enc)).toArray a):=by rw[p];exact h2
   rw[(q2 w1 r _).block m (lQ.1 C).1 (λe=>E e.symm)];exact C
  refine⟨x,s,iz w1 r (.mapIter (some m) a (seen.toArray.push x.2.2) a),?_,⟨⟨a,t,u,d⟩,j⟩,?_,?_,?_⟩
  .simp only[Instr.next,Sem.run_bind,yI h1,Result.andThen,l4 h2,k,fL,if_false,f,hold,g]
   have I:((gp L seen).map (dL enc)).toArray.isEmpty=false:=by rw[b];rfl
   have e:((#[]:Array (ao MapEntry))++(((gp L seen).map (dL enc)).toArray++ #[]).map some).size=(gp L seen).length:=by simp
   have o:((#[]:Array (ao MapEntry))++(((gp L seen).map (dL enc)).toArray++ #[]).map some)[i]? =some (some (dL enc x)):=by
    simp[hi,hx]
   simp only[I,fL,if_false,e,Sem.run_bind,hc,Result.andThen,o,HD B,Sem.run_pure,dL]
  .have J:ad (λq=>q=r) w w1:=by
    rcases c with rfl|rfl
    .exact .refl _ _
    .exact ad.drew (.refl _ _)
   exact J.trans (q2 _ _ _)
  .rw[s4,p]
  .have K:(seen++ [x.2.2]).toArray.back? =some x.2.2:=by simp
   have hf:((L.map (dL enc)).toArray.find? λe=>e.born==x.2.2)=some (dL enc x):=by
    rw[List.find?_toArray,List.find?_map];have:L.find? ((λe:MapEntry=>e.born==x.2.2)∘dL enc)=some x:=by
     clear b v hi hc s hx t u f hold g aJ k h2 d
     induction L with
     |nil=>cases A
     |cons z L M=>
      rw[jd]at j;obtain⟨bR,bq⟩:=List.nodup_cons.1 j;rw[List.find?_cons];rcases cS.1 A with rfl|D
      .simp[dL]
      .have N:z.2.2≠x.2.2:=λe=>bR (by rw[e];exact ep.2 ⟨x,D,rfl⟩)
       have:((λe:MapEntry=>e.born==x.2.2)∘dL enc) z=false:=by simp[dL,N]
       rw[this];exact M bq D
    rw[this];rfl
   have O:(a !=a)=false:=by simp
   simp only[Instr.entry,Sem.run_bind,yI t,Result.andThen,K,l4 u,O,fL,if_false,hf,Sem.run_pure,dL]
theorem er.clear{M:O (α×aa)}(h:er w m enc M){o:TypeId}(b:P.underlying T=some (.map hJ fu)):∃w1,(Builtin.clear_ #[T] o #[.map (some m)]).run P w=.ok (.tuple #[]) w1/\er w1 m enc ([]:O (α×aa))/\ad (λq=>q=m) w w1/\w1.heap.size=w.heap.size:=by
 have aJ:=h.lt;obtain⟨L,a,h1,h2,c,d,e⟩:=h;refine⟨iz w m (.map #[] a),?_,⟨[],a,s5 aJ _,by simp,by simp,by simp,by simp⟩,q2 _ _ _,s4 _ _ _⟩;unfold Builtin.clear_;simp only[qv,k_,Sem.run_bind,dh b,Result.andThen,l4 h1,wY h1,Sem.run_pure]
end
end Go.Proofs.YtkdhdlfonmgheaaGreat
