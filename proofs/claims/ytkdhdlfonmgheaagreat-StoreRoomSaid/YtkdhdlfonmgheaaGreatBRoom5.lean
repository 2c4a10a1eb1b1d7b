/- Contracts of the functions that the statement reaches, and the plain laws over them; each theorem stands with its conditions. -/
import Derived.Shelf.SlIterI.Nil
import Derived.Shelf.SortM.Plain
import Derived.Shelf.SortM.SortNone
import Derived.Test.YtkdhdlfonmgheaaGreatProg
import Derived.Test.YtkdhdlfonmgheaaGreatBRoom4
namespace Go.Proofs.YtkdhdlfonmgheaaGreat
open Go a6 Go.Proofs.Tryz
theorem Aw{l:O aR}{k:Key}(h:(eA l k).length=l.length):∀p∈l,p.1≠k:=by
 intro p a;unfold eA at h;have:=(kO (p:=λp:aR=>decide (p.1≠k))).1 (List.Sublist.eq_of_length List.filter_sublist h);exact b_ (this p a)
theorem Ax{L A B M:O aR}{k:Key}(b:L=A++(M++B))(hu:eA L k=A++(eA M k++B)):eV L k=eV M k:=by
 have h1:(eA A k).length<=A.length:=pA _ _;have h2:(eA B k).length<=B.length:=pA _ _;have c:=congrArg List.length hu;rw[b,qm,qm]at c;simp only[cF]at c;have ar:=Aw (l:=A) (k:=k) I;have d:=Aw (l:=B) (k:=k) I;have e:A.find? (λp=>decide (p.1=k))=none:=iY.2 λp a=>by simpa using ar p a
 have f:B.find? (λp=>decide (p.1=k))=none:=iY.2 λp a=>by simpa using d p a
 unfold eV;rw[b,List.find?_append,List.find?_append,e,f];simp
theorem Ay{n:aA}{k:Key}(h:gw n):eV n.e5 k=if gE n.keys k then n.vals[cu n.keys k]? else none:=by
 have s:=oK n.keys k;have w:=h.e_;have t:∀ (j:Nat) (f:j<n.keys.length),j<cu n.keys k->bX n.keys[j] k:=λj f h1=>m4 h1 f;have u:n.keys[cu n.keys k]? ≠some k->∀ (j:Nat) (f:j<n.keys.length),cu n.keys k<=j->bX k n.keys[j]:=λhe j f h1=>As w h1 f he;have l:n.e5=n.keys.zip n.vals:=rfl;unfold gE;rw[l];generalize cu n.keys k=i at s t u⊢;obtain⟨a,b,c,d,g,v,z,A,B,H,J,K,L⟩:=wU h s;have C:n.keys.zip n.vals=a.zip c++b.zip d:=by rw[g,v];exact m3 I
 have D:(a.zip c).find? (λp:aR=>decide (p.1=k))=none:=iY.2 λp l=>by
  have q:=(pn l).1;obtain⟨j,f,r⟩:=eK q;have h1:=t j (by rw[g,cF];omega) I;simp only[g,px f,r]at h1;simpa using lY h1
 unfold eV;rw[C,List.find?_append,D];by_cases he:n.keys[i]? =some k
 .rw[if_pos (by simpa using he)]
  have E:∃m,b=k::m:=by
   cases b with
   |nil=>rw[g,jP I]at he;simp at he
   |cons y m=>
    rw[g,jP I,z,ml]at he;simp at he;exact⟨m,by rw[he]⟩
  obtain⟨m,rfl⟩:=E;obtain⟨x,o,rfl⟩:∃x o,d=x::o:=by
   cases d with
   |nil=>simp at B
   |cons x o=>exact⟨x,o,rfl⟩
  rw[v,jP I,A,ml];simp
 .rw[if_neg (by simpa using he)]
  have F:=u he;have G:(b.zip d).find? (λp:aR=>decide (p.1=k))=none:=iY.2 λp l=>by
   have q:=(pn l).1;obtain⟨j,f,r⟩:=eK q;have h1:=F (i+j) (by rw[g,cF];omega) I;have e:(a++b)[i+j]'(by rw[cF];omega)=b[j]:=by
    rw[q2 I];congr 1;omega
   simp only[g,e,r]at h1;have:=lY h1;simpa using λh=>this h.symm
  rw[G];rfl
def wW(T:aL)(L:O aR)(key:Key)(w:J)(v:aa)(w':J):Prop:=
 ∃aD:bT,bH w' (T.bg aD T.P)/\bO T (T.bg aD T.P) w w' 30/\(∀j,aD.view j=T.C.view j)/\
  ((v=.tuple #[(),false,(0:Int)]/\(cD key->eV L key=none))\/
   (∃ (t:Y) (x:Key),v=.tuple #[t,true,(0:Int)]/\cD key/\eV L key=some x/\bk (λq=>¬(T.bg aD T.P).M q) w' t x)\/
   (v=.tuple #[(),false,(3:Int)]/\cD key/\¬T.C.D.calm 30))
theorem wX{w:J}{T:aL}{pages:O Nat}{L:O aR}{tk:Y}{key:Key}(h:bH w T)(S:fu T pages L)(aW:T.C.D.aM<=800000000)(l:Src 1 w tk (aF key))(v:∀q,aC tk q->q<w.heap.size/\¬T.M q):
 aP ak 80 #[.pointer (some T.a_),tk] w (wW T L key w):=by
 have W:=len8 l;have aX:=h.num.2.1;have aY:T.bg T.C T.P=T:=rfl;refine okF (af.sA (some T.a_) tk) az.sA func80 ?_;(delta af.sA al aH b8 au a8 ag cc U jz aI;dsimp only);refine ct (λb w'=>b= !(decide (cD key))/\w=w') (λq m=>⟨λh=>(by cases h),λ_=>(lU w tk).use ?_⟩) ?_
 .rintro _ _ ⟨rfl,rfl⟩
  refine⟨_,rfl,m _ _ ⟨?_,rfl⟩⟩;unfold cD;rw[W]
 rintro _ _ ⟨rfl,rfl⟩;refine⟨λf=>⟨λh=>(by cases h),λ_=>?_⟩,λf=>?_⟩
 .have:¬cD key:=by simpa using f
  exact⟨T.C,h,(bO.refl T w).mono I,λ_=>rfl,.inl ⟨rfl,λhx=>absurd hx this⟩⟩
 have hg:cD key:=by simpa using f
 obtain⟨steps,x,y⟩:=wV (k:=key) h S;refine(wH h I l v x).use ?_;rintro _ X ⟨aD,n,g,j,Z⟩;rcases Z with ⟨s,a,rfl,d,z⟩|⟨rfl,aa⟩
 rotate_left
 .exact⟨⟨none,0,0⟩,3,rfl,λ_=>⟨aD,n,g.mono I,j,.inr (.inr ⟨rfl,hg,λhc=>aa (fJ hc I)⟩)⟩,λhx=>(by simp at hx)⟩
 have aZ:s.len=a.length:=by
  have:=z.own.1;rw[gQ _ (mb a)]at this;omega
 have a0:a.length=T.aE:=by
  have:=x.length;rw[←d,dr]at this;exact this
 refine⟨s,0,rfl,λhx=>⟨aD,n,g.mono I,j,.inl ⟨rfl,λ_=>?_⟩⟩,λhx=>?_⟩
 .have ac:a.length=0:=by
   have:(s.len:Int)=0:=by simpa using hx
   omega
  rcases y with ⟨_,_,_,ad⟩|⟨ae,bp,ah,ai,aj,am,an,ao,bW,_⟩
  .rw[ad];rfl
  .rw[bW]at d
   obtain⟨av,_⟩:=o2 d;omega
 have ac:0<a.length:=by
  have:¬(s.len:Int)=0:=by simpa using hx
  omega
 have e:IntKind.wrap .i64 ((s.len:Int)-1)=((a.length-1:Nat):Int):=by rw[bu I I];omega
 obtain⟨A,ar,_,_,_,hu⟩:=z.at (i:=a.length-1) I;rcases y with ⟨h1,_⟩|⟨ae,bp,ah,ai,aj,am,an,ao,bW,ag,bF,a8,a1,a2,a3,a4,a5,ap,aq⟩
 .rw[h1]at d
  have:=congrArg List.length d;simp at this;omega
 have B:=d;rw[bW]at B;obtain⟨av,ax⟩:=o2 B;rw[e,di];generalize a6:(a[a.length-1]'I)=u at hu ax;obtain⟨a7,un,a9,K,V,D⟩:=u;obtain rfl:un=bp:=ax;refine⟨A,ar,⟨I,I⟩,_,hu.aB,K,hu.aT,V,hu.aH,D,hu.dj,bl (vs:=[false,(),(),()]) rfl λba E aw bb=>⟨E.b2 rfl fj,rfl,cp E (us:=dO un K V D) rfl rfl λo F ay bc=>?_⟩⟩;have p:Ext X o:=Ext.ck aw ay (bo _);obtain⟨d0,d1,d2,d3⟩:=bw F;have bd:=(cv.fH (.inl a8) (by have:=h.nq _ _ bF;omega));have aA:Src 1 o tk (aF key):=(l.ab g.ab λq m aG=>(v q m).2 (aL.gm aG)).ext p;have G:br (λq=>w.heap.size<=q/\¬(T.bg aD T.P).M q) o un K V D:=hu.bj.ext p;refine⟨_,d0,K,d1,V,d2,D,d3,(oq G aA a8.e_ I).use ?_⟩;rintro _ aJ ⟨rfl,r⟩;have H:=p.trans r;have N:=n.ext H;have Q:bO T (T.bg aD T.P) w aJ 30:=(g.trans (bO.ext _ H)).mono I;have t:eV L key=eV un.e5 key:=Ax ap (aq (λL=>eA L key) (vz key));rw[Ay a8]at t;refine⟨_,_,rfl,λc=>⟨aD,N,Q,j,.inl ⟨rfl,λ_=>?_⟩⟩,λc=>?_⟩
 .have c:gE un.keys key=false:=by simpa using c
  rw[t,if_neg (by rw[c];simp)]
 .have c:gE un.keys key=true:=by simpa using c
  have aK:cu un.keys key<un.keys.length:=(iy.1 (b_ c)).1;have R:cu un.keys key<un.vals.length:=by rw[a8.len];exact aK
  obtain⟨f0,f1,f2,f3⟩:=bw (F.ext r);obtain⟨aN,dC,aO,aQ,aS,aU,_⟩:=bf.at (G.ext r).vals R;refine⟨V,f2,aN,aO,aQ,dC,aS,aD,N,Q,j,.inr (.inl ⟨dC,un.vals[cu un.keys key],rfl,hg,?_,bk.aV aU λq _ f=>f.2⟩)⟩;rw[t,if_pos c,dE R]
theorem E5{n:aA}{k:Key}(h:gw n)(w:gE n.keys k=true):gw (kB n k)/\(kB n k).e5=eA n.e5 k/\bz (kB n k)<=bz n/\n.keys.length=(kB n k).keys.length+1/\(∀s∈(kB n k).keys,s∈n.keys):=by
 have o:=oK n.keys k;have A:=h.e_;have l:n.e5=n.keys.zip n.vals:=rfl;have he:n.keys[cu n.keys k]? =some k:=b_ w;rw[l];unfold kB;generalize cu n.keys k=i at o he⊢;obtain⟨a,b,c,d,j,m,q,B,r,C,H,D,J⟩:=wU h o;have g:n.keys.zip n.vals=a.zip c++b.zip d:=by rw[j,m];exact m3 I
 have E:∃e,b=k::e:=by
  cases b with
  |nil=>rw[j,jP I]at he;simp at he
  |cons y e=>
   rw[j,jP I,q,ml]at he;simp at he;exact⟨e,by rw[he]⟩
 obtain⟨e,rfl⟩:=E;obtain⟨x,f,rfl⟩:∃x f,d=x::f:=by
  cases d with
  |nil=>simp at r
  |cons x f=>exact⟨x,f,rfl⟩
 have av:n.keys.drop (i+1)=e:=by rw[j,show a++k::e=(a++ [k])++e by simp];exact drop_left' (by simp[q])
 have ax:n.vals.drop (i+1)=f:=by rw[m,show c++x::f=(c++ [x])++f by simp];exact drop_left' (by simp[B])
 rw[C,D,av,ax];have F:(a++k::e).Pairwise bX:=by rw[←j];exact A
 obtain⟨gG,dZ,t⟩:=lE.1 F;have u:=kk.1 dZ;have v:∀z,z∈a++e->z∈n.keys:=λz g=>by
  rw[j];simp only[cH,cP]at g⊢;rcases g with h1|h1
  .exact .inl h1
  .exact .inr (.inr h1)
 refine⟨⟨⟨λz g=>h.ok z (v z g),lE.2 ⟨gG,u.2,λy G z g=>t y G z (iV _ g)⟩⟩,h.leaf,?_,h.kids,λz g=>h.vals z ?_⟩,?_,?_,?_,v⟩
 .show(c++f).length=(a++e).length
  simp only[cF,fy]at r⊢;omega
 .rw[m]
  have g:z∈c++f:=g;simp only[cH,cP]at g⊢;rcases g with h1|h1
  .exact .inl h1
  .exact .inr (.inr h1)
 .show(a++e).zip (c++f)=_
  rw[g,m3 I,qm,List.zip_cons_cons];have f1:eA (a.zip c) k=a.zip c:=qn λp l=>lY (t _ (pn l).1 k List.mem_cons_self);have f2:eA ((k,x)::e.zip f) k=e.zip f:=by
   have:eA ((k,x)::e.zip f) k=eA (e.zip f) k:=by unfold eA;simp
   rw[this];exact qn λp l=>(lY (u.1 _ (pn l).1)).symm
  rw[f1,f2]
 .rw[o1 h.leaf,o1 (n:={n with keys:=a++e,vals:=c++f}) h.leaf]
  show 1+(List.zipWith jn (a++e) (c++f)).sum<=_;rw[j,m,nH I,nH I,kl,kl,List.zipWith_cons_cons,pq];omega
 .show n.keys.length=(a++e).length+1
  rw[j];simp only[cF,fy];omega
structure h_(T ao:aL):Prop where
 root:ao.root=T.root
 aE:ao.aE=T.aE
 f:ao.f=T.f
 ee:∀no,(T.f no||T.g no)=true->ao.P no=T.P no/\ao.C.view no=T.C.view no
theorem h_.refl(T:aL):h_ T T:=⟨rfl,rfl,rfl,λ_ _=>⟨rfl,rfl⟩⟩
theorem h_.bg{T:aL}{aD:bT}(a:∀j,aD.view j=T.C.view j):h_ T (T.bg aD T.P):=⟨rfl,rfl,rfl,λno _=>⟨rfl,a no⟩⟩
theorem h_.trans{T ao a:aL}(h1:h_ T ao)(h2:h_ ao a)(hg:ao.g=T.g):h_ T a:=
 ⟨h2.root.trans h1.root,h2.aE.trans h1.aE,h2.f.trans h1.f,λno h=>by
  have b:=h1.ee no h
  have c:=h2.ee no (by rw[h1.f,hg];exact h)
  exact⟨c.1.trans b.1,c.2.trans b.2⟩⟩
structure Az(T ao:aL)(aN:O Nat)(dx:O aR):Prop where
 ok:∃pages,b3 T<=b3 ao+(2*T.aE+3)/\fu ao pages dx/\pages.Nodup/\(∀no∈pages,no∈aN\/(T.f no||T.g no)=false)/\∀no,ao.f no=true↔(no∈pages\/(T.f no=true/\no∉aN))
 ee:∀no,T.g no=true->ao.P no=T.P no/\ao.C.view no=T.C.view no
theorem h_.ok{T ao:aL}{pages:O Nat}{L:O aR}(h:h_ T ao)(a:fu T pages L)(hf:∀x∈pages,T.f x=true):fu ao pages L:=by
 unfold fu at a⊢;rw[h.root,h.aE];rcases a with a|b
 .exact .inl a
 .exact .inr (en.agree b λx hx=>(h.ee x (by rw[hf x hx];rfl)).1.symm).1
def E6(T:aL)(aN:O Nat)(L:O aR)(key:Key)(w:J)(v:aa)(w':J):Prop:=
 ∃ao:aL,bH w' ao/\bO T ao w w' 100/\ao.E=T.E/\ao.G=T.G/\
  ((v=.tuple #[false,(1:Int)]/\¬cD key/\h_ T ao)\/
   (v=.tuple #[false,(0:Int)]/\cD key/\eV L key=none/\h_ T ao)\/
   (v=.tuple #[false,(2:Int)]/\cD key/\eV L key≠none/\b3 T<2*T.aE+3/\h_ T ao)\/
   (v=.tuple #[true,(0:Int)]/\cD key/\eV L key≠none/\2*T.aE+3<=b3 T/\Az T ao aN (eA L key))\/
   (v=.tuple #[false,(3:Int)]/\cD key/\¬T.C.D.calm 100/\h_ T ao))
theorem E7{w:J}{T:aL}{pages:O Nat}{L:O aR}{tk:Y}{key:Key}(h:bH w T)(aO:¬T.C.D.ro)(ad:fu T pages L)(aQ:L.length<4096)(cT:pages.Nodup)(hf:∀x∈pages,T.f x=true)(bk:T.C.D.aM<=800000000)
 (Q:Src 1 w tk (aF key)) (ae:∀q,aC tk q->q<w.heap.size/\¬T.M q):
 aP ak 83 #[.pointer (some T.a_),tk] w (E6 T pages L key w):=by
 have aS:=len8 Q;have bm:=h.num.2.1;refine okF (af.sD (some T.a_) tk) az.sD func83 ?_;(delta af.sD al aH b8 au a8 ag lQ cc U aB;dsimp only);refine ct (λb w'=>b= !(decide (cD key))/\w=w') (λq m=>⟨λh=>(by cases h),λ_=>(lU w tk).use ?_⟩) ?_
 .rintro _ _ ⟨rfl,rfl⟩
  refine⟨_,rfl,m _ _ ⟨?_,rfl⟩⟩;unfold cD;rw[aS]
 rintro _ _ ⟨rfl,rfl⟩;refine⟨λR=>⟨T,h,(bO.refl T w).mono I,rfl,rfl,.inl ⟨rfl,by simpa using R,.refl T⟩⟩,λR=>?_⟩;have hg:cD key:=by simpa using R
 obtain⟨steps,ah,ai⟩:=wV (k:=key) h ad;refine(wH h I Q ae ah).use ?_;rintro _ aU ⟨aD,r,c,o,g⟩;rcases g with ⟨s,a,rfl,j,S⟩|⟨rfl,aW⟩
 rotate_left
 .exact⟨⟨none,0,0⟩,3,rfl,λ_=>⟨_,r,c.mono I,rfl,rfl,.inr (.inr (.inr (.inr ⟨rfl,hg,λhc=>aW (fJ hc I),.bg o⟩)))⟩,λhx=>(by simp at hx)⟩
 have bq:s.len=a.length:=by
  have:=S.own.1;rw[gQ _ (mb a)]at this;omega
 have bs:a.length=T.aE:=by
  have:=ah.length;rw[←j,dr]at this;exact this
 refine⟨s,0,rfl,λhx=>⟨_,r,c.mono I,rfl,rfl,.inr (.inl ⟨rfl,hg,?_,.bg o⟩)⟩,λhx=>?_⟩
 .have aX:a.length=0:=by
   have:(s.len:Int)=0:=by simpa using hx
   omega
  rcases ai with ⟨_,_,_,t⟩|⟨aj,bp,am,an,ap,aq,aw,ay,bW,_⟩
  .rw[t];rfl
  .rw[bW]at j
   obtain⟨av,_⟩:=o2 j;omega
 have aX:0<a.length:=by
  have:¬(s.len:Int)=0:=by simpa using hx
  omega
 have e:IntKind.wrap .i64 ((s.len:Int)-1)=((a.length-1:Nat):Int):=by rw[bu I I];omega
 obtain⟨A,ar,_,_,_,hu⟩:=S.at (i:=a.length-1) I;rcases ai with ⟨h1,_⟩|⟨aj,bp,am,an,ap,aq,aw,ay,bW,ag,bF,a8,aY,bt,aZ,bv,a0,a1,aA⟩
 .rw[h1]at j
  have:=congrArg List.length j;simp at this;omega
 have F:=j;rw[bW]at F;obtain⟨av,ax⟩:=o2 F;rw[e,di];generalize bz:(a[a.length-1]'I)=u at hu ax;obtain⟨bA,un,bD,K,V,D⟩:=u;obtain rfl:un=bp:=ax;have bE:=(cv.fH (.inl a8) (by have:=h.nq _ _ bF;omega));have a2:Src 1 aU tk (aF key):=Q.ab c.ab λq m a3=>(ae q m).2 (aL.gm a3);have W:eV L key=eV un.e5 key:=Ax a1 (aA (λL=>eA L key) (vz key));rw[Ay a8]at W;refine⟨A,ar,⟨I,I⟩,_,hu.aB,K,hu.aT,V,hu.aH,D,hu.dj,(ot (n:=un) hu.bj a8 I a2).use ?_⟩;intro v aG g;unfold oT at g;by_cases d:gE un.keys key=true
 rotate_left
 .have d:gE un.keys key=false:=by simpa using d
  rw[d,if_neg (by simp)]at g;obtain⟨rfl,G⟩:=g;refine⟨_,bn,bn,bn,false,rfl,bl (vs:=[false,(),(),()]) rfl λa4 y X a5=>⟨y.b2 rfl (fj (b:=iL.leaf) (K:=bn) (V:=bn) (D:=bn)),rfl,cp y (us:=dO iL bn bn bn) rfl rfl λH aI Z a6=>⟨λ_=>?_,λhx=>(by cases hx)⟩⟩⟩;have N:Ext aG H:=Ext.ck X Z (bo _);have p:=G.trans N;refine⟨_,r.ext p,(c.trans (bO.ext _ p)).mono I,rfl,rfl,.inr (.inl ⟨rfl,hg,?_,.bg o⟩)⟩;rw[W,if_neg (by rw[d];simp)]
 rw[if_pos d]at g;obtain⟨cq,cy,b9,rfl,a7,G⟩:=g;refine⟨_,cq,cy,b9,true,rfl,bl (vs:=[false,(),(),()]) rfl λa4 y X a5=>⟨y.b2 rfl fj,rfl,cp y (us:=dO (kB un key) cq cy b9) rfl rfl λH aI Z a6=>⟨λhx=>(by cases hx),λ_=>?_⟩⟩⟩;have N:Ext aG H:=Ext.ck X Z (bo _);have p:=G.trans N;obtain⟨d0,d1,d2,d3⟩:=bw aI;obtain⟨bB,bx,bG,aJ,a9⟩:=E5 a8 d;have ba:cu un.keys key<un.keys.length:=(iy.1 (b_ d)).1;have bb:cu un.keys key<un.vals.length:=by rw[a8.len];exact ba
 have aK:eV L key≠none:=by
  rw[W,if_pos d,dE bb];simp
 have bc:aD.D.aM<=900000000:=by
  have:aD.D.aM<=T.C.D.aM+2*T.aE:=c.aM;omega
 have bI:=G.size;have bd:br (λq=>¬(T.bg aD T.P).M q) H (kB un key) cq cy b9:=(a7.ext N).aV λq _ m F=>by have:=r.lt F;omega
 have be:=Av (dx:=eA L key) (k:=key) (steps:=steps) (bJ:=un) (r.ext p) (λe=>aO λi=>c.bC.1▸e i) ad aQ cT hf bc j (S.ext' p λq m=>m.2) bd bB (.inr ⟨aj,am,an,ap,aq,aw,ay,bW,ag,λs hs=>aY s (a9 s hs),λhs e=>by
  have z:=aZ hs;rw[e]at aJ;simp at aJ;omega,a0,by rw[bx];exact aA (λL=>eA L key) (vz key),by have:=h.nq _ _ bF;omega⟩)
 refine⟨_,d0,cq,d1,cy,d2,b9,d3,be.use ?_⟩;rintro v w' ⟨ao,h1,h2,aa,t,bf⟩;have ac:=((c.trans (bO.ext (T.bg aD T.P) p)).trans h2).mono (l:=100) I;have bK:b3 (T.bg aD T.P)=b3 T:=rfl;have bL:(T.bg aD T.P).aE=T.aE:=rfl;rcases bf with ⟨rfl,B,E⟩|⟨rfl,B,E,z⟩|⟨rfl,B,E,z,bh,bi⟩
 .subst E
  exact⟨2,rfl,_,h1,ac,aa,t,.inr (.inr (.inl ⟨rfl,hg,aK,B,.bg o⟩))⟩
 .exact⟨0,rfl,_,h1,ac,aa,t,.inr (.inr (.inr (.inl ⟨rfl,hg,aK,B,E,λno aN=>⟨(z no aN).1,(z no aN).2.trans (o no)⟩⟩)))⟩
 .exact⟨3,rfl,_,h1,ac,aa,t,.inr (.inr (.inr (.inr ⟨rfl,hg,λhc=>B (c.calm 60 (fJ hc I)),(h_.bg o).trans ⟨E,z,bh,bi⟩ rfl⟩)))⟩
def E8(p:Y×Y):O aa:=[p.1,p.2]
def nr(B:Nat->Prop)(w:J)(ps:O (Y×Y))(L:O aR):Prop:=ps.length=L.length/\∀i (h1:i<ps.length) (h2:i<L.length),bk B w ps[i].1 L[i].1/\bk B w ps[i].2 L[i].2
def mf(B:Nat->Prop)(w:J)(s:Y)(L:O aR):Prop:=∃ps,Src 2 w s (b5 E8 ps)/\s.len<=s.cap/\In B w s/\nr B w ps L
section
variable {B C W:Nat->Prop}{w w':J}{s:Y}{ps:O (Y×Y)}{L:O aR}
theorem nr.ab(h:nr B w ps L)(hc:ad W w w')(d:∀k,B k->k<w.heap.size->¬W k):nr B w' ps L:=
 ⟨h.1,λi h1 h2=>by
  obtain⟨a,b⟩:=h.2 i h1 h2
  exact⟨bk.hG a hc λk c=>d k (a.2.2 k c).1 (a.2.2 k c).2,bk.hG b hc λk c=>d k (b.2.2 k c).1 (b.2.2 k c).2⟩⟩
theorem nr.aV(h:nr B w ps L)(a:∀k,k<w.heap.size->B k->C k):nr C w ps L:=⟨h.1,λi h1 h2=>⟨bk.aV (h.2 i h1 h2).1 a,bk.aV (h.2 i h1 h2).2 a⟩⟩
theorem mf.ab(h:mf B w s L)(hc:ad W w w')(b:∀k,B k->k<w.heap.size->¬W k):mf B w' s L:=by
 obtain⟨ps,h1,h2,a,d⟩:=h;exact⟨ps,h1.ab hc λk c=>b k (a k c).1 (a k c).2,h2,In.ab a hc,d.ab hc b⟩
theorem mf.aV(h:mf B w s L)(a:∀k,k<w.heap.size->B k->C k):mf C w s L:=by
 obtain⟨ps,h1,h2,b,c⟩:=h;exact⟨ps,h1,h2,In.aV b a,c.aV a⟩
end
structure dW(T ao:aL)(w w':J)(k:Nat):Prop where
 to:bO T ao w w' k
 E:ao.E=T.E
 G:∀q,T.G q->ao.G q
 root:ao.root=T.root
 aE:ao.aE=T.aE
 f:ao.f=T.f
 P:ao.P=T.P
 view:∀j,ao.C.view j=T.C.view j
theorem dW.refl(T:aL)(w:J):dW T T w w 0:=⟨.refl _ _,rfl,λ_ h=>h,rfl,rfl,rfl,rfl,λ_=>rfl⟩
theorem dW.ext{w w':J}(T:aL)(h:Ext w w'):dW T T w w' 0:=⟨.ext T h,rfl,λ_ h=>h,rfl,rfl,rfl,rfl,λ_=>rfl⟩
theorem dW.trans{T ao a:aL}{w w' b:J}{k l:Nat}(h1:dW T ao w w' k)(h2:dW ao a w' b l):dW T a w b (k+l):=
 ⟨h1.to.trans h2.to,h2.E.trans h1.E,λq h=>h2.G q (h1.G q h),h2.root.trans h1.root,h2.aE.trans h1.aE,h2.f.trans h1.f,h2.P.trans h1.P,λj=>(h2.view j).trans (h1.view j)⟩
theorem dW.mono{T ao:aL}{w w':J}{k l:Nat}(h:dW T ao w w' k)(a:k<=l):dW T ao w w' l:=⟨h.to.mono a,h.E,h.G,h.root,h.aE,h.f,h.P,h.view⟩
theorem dW.bg{T:aL}{aD:bT}{w w':J}{k:Nat}(h:bO T (T.bg aD T.P) w w' k)(a:∀j,aD.view j=T.C.view j):dW T (T.bg aD T.P) w w' k:=⟨h,rfl,λ_ h=>h,rfl,rfl,rfl,rfl,a⟩
theorem bO.out{T ao:aL}{w w':J}{k q:Nat}(h:bO T ao w w' k)(a:q<w.heap.size)(b:¬T.M q):¬ao.M q/\q<w'.heap.size:=by
 refine⟨λh1=>?_,fl a h.ab.size⟩;rcases h.cS q h1 with h2|h2
 .exact b h2
 .omega
section
variable {w w':J}{T ao:aL}{lo aG:Nat}{s:Y}{L:O aR}
end
section
variable {w w':J}{T ao:aL}{a_ aU ef:Nat}{GB GC:Y}{to fr:Key}{most:Int}
end
theorem bO.iL{T ao:aL}{w w':J}{k:Nat}(h:bO T ao w w' k){n:aA}{K V D:Y}(b:br (λq=>¬T.M q) w n K V D):br (λq=>¬ao.M q) w' n K V D:=
 (h.bj (lo:=0) (b.aV λ_ _ a=>⟨cN _,a⟩)).aV λ_ _ a=>a.2
def iS(T:aL)(no:Nat):Prop:=(no<T.n/\2<=no)/\∃e,dk (no:Int) (T.C.view no)=.error e
theorem E9{w:J}{T:aL}{no:Nat}{o:aA}(h:bH w T)(s:T.C.D.aM<=999999999)(d:T.P no=some o\/iS T no):
 aP ak 196 #[.pointer (some T.a_),no,o.leaf] w (λv w'=>∃aD:bT,dW T (T.bg aD T.P) w w' 2/\bH w' (T.bg aD T.P)/\ad (λq=>T.N q/\¬T.G q) w w'/\
  ((∃ (K V D:Y),v=.tuple #[cQ o K V D,(0:Int)]/\T.P no=some o/\br (λq=>w.heap.size<=q/\¬(T.bg aD T.P).M q) w' o K V D)\/(∃e:Int,v=.tuple #[cQ iL bn bn bn,e]/\e≠0/\((e=3/\¬T.C.D.calm 2)\/iS T no)))):=by
 have f:no<T.n:=d.elim (λh1=>(h.dQ no o h1).1) λh1=>h1.1.1;have g:2<=no:=d.elim (λh1=>(h.dQ no o h1).2.two) λh1=>h1.1.2;obtain⟨bV,i⟩:∃bV,bV=λq=>T.E q\/T.G q:=⟨_,rfl⟩;have c:∀q,T.E q\/T.G q->bV q:=λq a=>by rw[i];exact a
 have j:∀q,bV q->T.E q\/T.G q:=λq a=>by rw[i]at a;exact a
 have k:bH w (T.cg bV λ_=>False):=h.grow (W:=λ_=>False) (ad.refl _ _) (λ_ h=>h.elim) (λq a=>(j q a).imp id .inl) (λ_ h=>h.elim) λ_ _ h=>h;have t:∀q,(T.cg bV λ_=>False).N q->T.N q/\¬T.G q:=λq a=>⟨by
  rcases a with a|a|a|a
  .exact .inl a
  .exact .inr (.inl a)
  .exact .inr (.inr (.inl a))
  .exact a.elim,λhg=>k.iM (c q (.inr hg)) a⟩
 refine(wG k s f g o.leaf).mono ?_;rintro v w' ⟨aD,u,ht,x,y⟩;have z:bO T (T.bg aD T.P) w w' 2:=bO.read (E:=bV) ht c λq a=>(j q a).imp id .inl;have A:ad (λq=>T.N q/\¬T.G q) w w':=ht.ab.mono λq _ a=>t q a;refine⟨aD,.bg z x,?_,A,?_⟩
 .exact u.grow (E:=T.E) (G:=T.G) (W:=λ_=>False) (ad.refl _ _) (λ_ h=>h.elim) (λq a=>.inl (c q (.inl a))) (λq a=>.inl (c q (.inr a))) λq a=>(h.c3 q a).2.2
 .rcases y with ⟨bp,K,V,D,rfl,l,cT⟩|⟨e,rfl,B,F⟩
  .have m:T.P no=some o:=d.resolve_right λ⟨_,e,h1⟩=>by
    obtain⟨p,av,_⟩:=l;have h1:dk (no:Int) (T.C.view no)=.error e:=h1;have av:dk (no:Int) (T.C.view no)=.ok p:=av;rw[h1]at av;cases av
   obtain rfl:=gg.uniq (h.dQ no o m).2 l;refine .inl ⟨K,V,D,rfl,m,cT.aV λq a r=>⟨r.1,λb=>r.2 ?_⟩⟩;rcases b with b|b|b|b|b
   .exact .inl b
   .exact .inr (.inl b)
   .exact .inr (.inr (.inl b))
   .exact .inr (.inr (.inr (.inl (c q (.inl b)))))
   .exact .inr (.inr (.inr (.inl (c q (.inr b)))))
  .refine .inr ⟨e,rfl,F,?_⟩
   rcases B with h1|h1|⟨_,_,h1⟩
   .exact .inl h1
   .exact .inr ⟨⟨f,g⟩,e,h1⟩
   .exact d.elim (λh2=>absurd (h.dQ no o h2).2 (h1 o)) .inr
theorem AA{w:J}{T:aL}(h:bH w T):aP ak 147 #[.pointer (some T.a_)] w (λv w'=>v=.tuple #[T.root,T.aE]/\Ext w w'):=by
 refine okF (af.sW (some T.a_)) az.sW func147 ?_;(delta af.sW al r1;dsimp only);have hd:=h.ext (cw w);exact⟨λh=>(by cases h),λ_=>aY ⟨_,rfl,id,_,hd.cells.2.2.2.1,_,rfl,id,_,hd.cells.2.2.2.2,rfl,cw w⟩⟩
end Go.Proofs.YtkdhdlfonmgheaaGreat
namespace Go.Proofs.YtkdhdlfonmgheaaGreat
open Go Go.Proofs Go.Shelf
def AB:Go.Shelf.Ren:=⟨λ |7=>178|10=>232|n=>n,λ |23=>137|26=>3|3=>136|28=>264|0=>0|27=>263|33=>180|4=>4|n=>n,λ |n=>n⟩
theorem E_:Go.Proofs.SlLaysZI.n7 Tryz.prog AB:={
 mixed:=by kernel_rfl
 f7:=⟨Tryz.f178.name,by decide,Tryz.func178.trans (congrArg some (by kernel_rfl))⟩
 f10:=⟨Tryz.f232.name,by decide,Tryz.func232.trans (congrArg some (by kernel_rfl))⟩
 t0:=Tryz.underlying0
 a0:=Tryz.isAgg0
 z0:=Tryz.sizeOf0
 v0:=Tryz.zeroValue0
 t4:=Tryz.underlying4
 a4:=Tryz.isAgg4
 z4:=Tryz.sizeOf4
 v4:=Tryz.zeroValue4
 t23:=Tryz.underlying137
 a23:=Tryz.isAgg137
 z23:=Tryz.sizeOf137
 v23:=Tryz.zeroValue137
 t26:=Tryz.underlying3
 a26:=Tryz.isAgg3
 z26:=Tryz.sizeOf3
 v26:=Tryz.zeroValue3
 t27:=Tryz.underlying263
 a27:=Tryz.isAgg263
 z27:=Tryz.sizeOf263
 v27:=Tryz.zeroValue263
 t28:=Tryz.underlying264
 a28:=Tryz.isAgg264
 z28:=Tryz.sizeOf264
 v28:=Tryz.zeroValue264
 t33:=Tryz.underlying180
 a33:=Tryz.isAgg180
 z33:=Tryz.sizeOf180
 v33:=Tryz.zeroValue180}
def AD:Go.Shelf.Ren:=⟨λ |6=>177|8=>231|9=>153|11=>271|13=>213|12=>212|23=>264|24=>265|14=>255|15=>256|16=>257|17=>258|18=>259|19=>260|20=>261|21=>262|22=>263|25=>286|26=>287|27=>288|28=>289|29=>290|30=>291|31=>297|n=>n,λ |26=>3|28=>264|24=>58|0=>0|3=>3|37=>101|48=>219|50=>27|4=>4|40=>340|39=>339|45=>175|5=>5|9=>9|51=>364|55=>367|57=>371|58=>234|33=>180|n=>n,λ |n=>n⟩
theorem Fa:Go.Proofs.SlLaysZI.n6 Tryz.prog AD:={
 mixed:=by kernel_rfl
 f6:=⟨Tryz.f177.name,by decide,Tryz.func177.trans (congrArg some (by kernel_rfl))⟩
 f8:=⟨Tryz.f231.name,by decide,Tryz.func231.trans (congrArg some (by kernel_rfl))⟩
 f11:=⟨Tryz.f271.name,by decide,Tryz.func271.trans (congrArg some (by kernel_rfl))⟩
 t0:=Tryz.underlying0
 a0:=Tryz.isAgg0
 z0:=Tryz.sizeOf0
 v0:=Tryz.zeroValue0
 t24:=Tryz.underlying58
 a24:=Tryz.isAgg58
 z24:=Tryz.sizeOf58
 v24:=Tryz.zeroValue58
 t26:=Tryz.underlying3
 a26:=Tryz.isAgg3
 z26:=Tryz.sizeOf3
 v26:=Tryz.zeroValue3
 t28:=Tryz.underlying264
 a28:=Tryz.isAgg264
 z28:=Tryz.sizeOf264
 v28:=Tryz.zeroValue264
 i26:=by kernel_rfl}
def Fb:Go.Shelf.Ren:=⟨λ |5=>153|8=>213|7=>212|19=>264|20=>265|10=>255|11=>256|12=>257|13=>258|14=>259|15=>260|16=>261|17=>262|18=>263|30=>286|31=>287|32=>288|33=>289|34=>290|35=>291|40=>297|n=>n,λ |23=>58|25=>3|3=>3|32=>101|22=>58|0=>0|44=>219|46=>27|4=>4|36=>340|35=>339|41=>175|5=>5|9=>9|53=>364|57=>367|63=>371|64=>234|n=>n,λ |n=>n⟩
theorem uj:Go.Proofs.SlLaysM.n5 Tryz.prog Fb:={
 mixed:=by kernel_rfl
 f5:=⟨Tryz.f153.name,by decide,Tryz.func153.trans (congrArg some (by kernel_rfl))⟩
 f7:=⟨Tryz.f212.name,by decide,Tryz.func212.trans (congrArg some (by kernel_rfl))⟩
 f8:=Tryz.func213.trans (congrArg some (by kernel_rfl))
 f10:=⟨Tryz.f255.name,by decide,Tryz.func255.trans (congrArg some (by kernel_rfl))⟩
 f11:=⟨Tryz.f256.name,by decide,Tryz.func256.trans (congrArg some (by kernel_rfl))⟩
 f12:=⟨Tryz.f257.name,by decide,Tryz.func257.trans (congrArg some (by kernel_rfl))⟩
 f13:=⟨Tryz.f258.name,by decide,Tryz.func258.trans (congrArg some (by kernel_rfl))⟩
 f14:=⟨Tryz.f259.name,by decide,Tryz.func259.trans (congrArg some (by kernel_rfl))⟩
 f15:=⟨Tryz.f260.name,by decide,Tryz.func260.trans (congrArg some (by kernel_rfl))⟩
 f16:=⟨Tryz.f261.name,by decide,Tryz.func261.trans (congrArg some (by kernel_rfl))⟩
 f17:=⟨Tryz.f262.name,by decide,Tryz.func262.trans (congrArg some (by kernel_rfl))⟩
 f18:=⟨Tryz.f263.name,by decide,Tryz.func263.trans (congrArg some (by kernel_rfl))⟩
 f19:=Tryz.func264.trans (congrArg some (by kernel_rfl))
 f20:=Tryz.func265.trans (congrArg some (by kernel_rfl))
 f30:=⟨Tryz.f286.name,by decide,Tryz.func286.trans (congrArg some (by kernel_rfl))⟩
 f31:=Tryz.func287.trans (congrArg some (by kernel_rfl))
 f32:=Tryz.func288.trans (congrArg some (by kernel_rfl))
 f33:=⟨Tryz.f289.name,by decide,Tryz.func289.trans (congrArg some (by kernel_rfl))⟩
 f34:=⟨Tryz.f290.name,by decide,Tryz.func290.trans (congrArg some (by kernel_rfl))⟩
 f35:=⟨Tryz.f291.name,by decide,Tryz.func291.trans (congrArg some (by kernel_rfl))⟩
 f40:=⟨Tryz.f297.name,by decide,Tryz.func297.trans (congrArg some (by kernel_rfl))⟩
 t0:=Tryz.underlying0
 a0:=Tryz.isAgg0
 z0:=Tryz.sizeOf0
 v0:=Tryz.zeroValue0
 t3:=Tryz.underlying3
 a3:=Tryz.isAgg3
 z3:=Tryz.sizeOf3
 v3:=Tryz.zeroValue3
 t4:=Tryz.underlying4
 a4:=Tryz.isAgg4
 z4:=Tryz.sizeOf4
 v4:=Tryz.zeroValue4
 t5:=Tryz.underlying5
 a5:=Tryz.isAgg5
 z5:=Tryz.sizeOf5
 v5:=Tryz.zeroValue5
 t9:=Tryz.underlying9
 a9:=Tryz.isAgg9
 z9:=Tryz.sizeOf9
 v9:=Tryz.zeroValue9
 t22:=Tryz.underlying58
 a22:=Tryz.isAgg58
 z22:=Tryz.sizeOf58
 v22:=Tryz.zeroValue58
 t23:=Tryz.underlying58
 a23:=Tryz.isAgg58
 z23:=Tryz.sizeOf58
 v23:=Tryz.zeroValue58
 t25:=Tryz.underlying3
 a25:=Tryz.isAgg3
 z25:=Tryz.sizeOf3
 v25:=Tryz.zeroValue3
 t32:=Tryz.underlying101
 a32:=Tryz.isAgg101
 z32:=Tryz.sizeOf101
 v32:=Tryz.zeroValue101
 t35:=Tryz.underlying339
 a35:=Tryz.isAgg339
 z35:=Tryz.sizeOf339
 v35:=Tryz.zeroValue339
 t36:=Tryz.underlying340
 a36:=Tryz.isAgg340
 z36:=Tryz.sizeOf340
 v36:=Tryz.zeroValue340
 t41:=Tryz.underlying175
 a41:=Tryz.isAgg175
 z41:=Tryz.sizeOf175
 v41:=Tryz.zeroValue175
 t44:=Tryz.underlying219
 a44:=Tryz.isAgg219
 z44:=Tryz.sizeOf219
 v44:=Tryz.zeroValue219
 t46:=Tryz.underlying27
 a46:=Tryz.isAgg27
 z46:=Tryz.sizeOf27
 v46:=Tryz.zeroValue27
 t53:=Tryz.underlying364
 a53:=Tryz.isAgg364
 z53:=Tryz.sizeOf364
 v53:=Tryz.zeroValue364
 t57:=Tryz.underlying367
 a57:=Tryz.isAgg367
 z57:=Tryz.sizeOf367
 v57:=Tryz.zeroValue367
 t63:=Tryz.underlying371
 a63:=Tryz.isAgg371
 z63:=Tryz.sizeOf371
 v63:=Tryz.zeroValue371
 t64:=Tryz.underlying234
 a64:=Tryz.isAgg234
 z64:=Tryz.sizeOf234
 v64:=Tryz.zeroValue234}
end Go.Proofs.YtkdhdlfonmgheaaGreat
namespace Go.Proofs.YtkdhdlfonmgheaaGreat
open Go a6 Go.Proofs.Tryz
theorem Fc{w:J}{b n:Nat}{c:Array aa}{T:TypeId}{os:Array Obj}{zs:O Int}(h:bm w b c T)(g:zs.length<=c.size):
 ∃c':Array aa,bm (Go.Sort.grow (Go.Sort.putRow (Value.int .i64) (Go.Sort.ahead w n) b 0 zs.toArray) os) b c' T/\c'.size=c.size/\c'.toList.take zs.length=zs.map encZ/\ad (λq=>q=b) w (Go.Sort.grow (Go.Sort.putRow (Value.int .i64) (Go.Sort.ahead w n) b 0 zs.toArray) os):=by
 have aK:=h.lt;have d:∀k,k<w.heap.size->(Go.Sort.grow (Go.Sort.putRow (Value.int .i64) (Go.Sort.ahead w n) b 0 zs.toArray) os).heap[k]? =(w.heap.modify b (Go.Sort.onCells (Go.Sort.putCells (Value.int .i64) 0 zs.toArray)))[k]? :=λk a=>by
  show((w.heap.modify b _)++os)[k]? =_;rw[Array.getElem?_append_left (by simpa using a)]
 refine⟨Go.Sort.putCells (Value.int .i64) 0 zs.toArray c,?_,by simp[Go.Sort.putCells],?_,rfl,rfl,rfl,?_,λk a f=>?_⟩
 .unfold bm at h⊢
  rw[d b aK,qS,if_pos rfl,h];rfl
 .apply List.ext_getElem?
  intro i;rw[qV];split
  .rename_i hi
   rw[Array.getElem?_toList,Go.Sort.putCells,Array.getElem?_mapIdx,Array.getElem?_eq_getElem I,lC,if_pos ⟨cN _,by simpa using hi⟩,km,dE hi];simp[hi]
  .rename_i hi
   rw[kQ (by simpa using hi)]
 .show w.heap.size<=((w.heap.modify b _)++os).size
  simp
 .rw[d k a,qS,if_neg (λe=>f e.symm)]
theorem wY(ds:O Nat):dv ds=(ds.map λd=>((d:Nat):Int)).map encZ:=by simp[dv]
theorem AE{w:J}{s:Y}{zs:O Int}(h:a7 1 3 w s (zs.map encZ))(F:zs.length<=1000000):
 aP ak 153 #[s] w (λv w'=>v=.tuple #[]/\ad (aC s) w w'/\∃d:O Int,a7 1 3 w' s (d.map encZ)/\d.Perm zs/\d.Pairwise λa b=>a<=b):=by
 have G:s.len=zs.length:=by have:=h.1;rw[dr]at this;omega
 rcases mn zs.length with h0|h0
 .have hd:zs=[]:=kM.1 h0
  have e:s.len=0:=by omega
  rw[e];refine Calls.mono (AnyM.slices_Sort_int_none uj s.a s.cap w) ?_;rintro _ _ ⟨rfl,rfl⟩;exact⟨_,rfl,rfl,.refl _ _,[],by rw[hd]at h;exact h,by rw[hd],List.Pairwise.nil⟩
 obtain⟨h1,h2,t,u⟩:=h;rcases u with ⟨_,g⟩|⟨b,c,i,f,z,A⟩
 .omega
 have B:Go.Sort.Holds (Value.int .i64) w b 0 zs.toArray:=λj C=>by
  have m:j<zs.length:=by simpa using C
  refine⟨?_,bm.frozen f _ rfl⟩;rw[f.cell,cE];have e:=congrArg (λl=>l[j]?) A;simp only[qV,km,dE m,lC]at e;rw[if_pos I,Array.getElem?_toList]at e;rw[e];simp[m]
 have D:=AnyM.slices_Sort_int uj b 0 s.cap zs w B f.lt I;rw[i];have e:s.len=zs.length:=by omega
 rw[e];refine Calls.mono D ?_;rintro _ w' ⟨rfl,n,os,rfl⟩;obtain⟨c',av,ax,o,p⟩:=Fc (n:=n) (os:=os) (zs:=zs.mergeSort λx y=>decide (x<=y)) f (by rw[List.length_mergeSort];omega);have k:=List.mergeSort_perm zs λx y=>decide (x<=y);have r:(zs.mergeSort λx y=>decide (x<=y)).Pairwise λa b=>decide (a<=b)=true:=List.pairwise_mergeSort (λa b c h1 h2=>by simp only[cR]at*;omega) (λa b=>by simp only[ic,cR];omega) zs;generalize (zs.mergeSort λx y=>decide (x<=y))=d at av ax o p k r;refine⟨_,rfl,rfl,p.mono λq _ e=>⟨b,i,e.symm⟩,d,?_,k,r.imp λh=>b_ h⟩;have E:=k.length_eq;have g:=a7.mk' (sz:=1) (n:=s.len) (cap:=s.cap) av (vs:=d.map encZ) (by rw[dr];omega) h2 t (by rw[ax];exact z) (by rw[fz,e,←E];exact o);rw[←i]at g;exact g
theorem AF{w:J}{s:Y}{ds:O Nat}(h:a7 1 3 w s (dv ds))(i:ds.length<=1000000):
 aP ak 153 #[.slice s.a s.len s.cap] w (λv w'=>v=.tuple #[]/\ad (aC s) w w'/\∃es:O Nat,a7 1 3 w' s (dv es)/\es.Perm ds/\es.Pairwise λa b=>a<=b):=by
 rw[wY]at h;refine(AE h (by rw[dr];exact i)).mono ?_;rintro v w' ⟨rfl,hc,c,j,f,k⟩;have g:∀y∈c,0<=y:=λy e=>by
  obtain⟨d,_,rfl⟩:=dU.1 (f.mem_iff.1 e);omega
 have l:(c.map Int.toNat).map (λd=>((d:Nat):Int))=c:=by
  rw[g8]
  conv=>rhs;rw[←List.map_id c]
  refine List.map_congr_left λy e=>?_;have:=g y e;show((y.toNat:Nat):Int)=y;omega
 refine⟨rfl,hc,c.map Int.toNat,by rw[wY,l];exact j,?_,?_⟩
 .have:=f.map Int.toNat
  rw[g8]at this;have m:(Int.toNat∘ λd:Nat=>((d:Nat):Int))=id:=by funext d;simp
  rw[m,List.map_id]at this;exact this
 .rw[List.pairwise_map]
  exact k.imp_of_mem λn o p=>by
   have:=g _ n;omega
theorem Fe{B:Nat->Prop}{w:J}{s:Y}{ds:O Nat}(h:cx B w s ds)(no:Nat)(k:ds.length<=1000000):
 aP ak 184 #[s,no] w (λv w'=>∃n:Int,v=n/\(0<=n↔no∈ds)/\w=w'):=by
 have l:=h.len;refine okF (af.r7 s (no:Nat)) az.r7 func184 ?_;(delta af.r7 al aI r1 au;dsimp only);refine⟨λn w'=>∃i:Nat,n=(i:Int)/\i<=ds.length/\no∉ds.take i/\w=w',λn _=>((ds.length:Int)-n).toNat,⟨0,rfl,cN _,by simp,rfl⟩,?_⟩;rintro _ _ ⟨i,rfl,hi,d,rfl⟩;refine⟨λaK=>?_,λf=>?_⟩
 .have b:i<ds.length:=by
   have:(i:Int)<(s.len:Int):=b_ aK;omega
  obtain⟨A,ar,g,hc⟩:=cx.at h b;refine⟨A,ar,g,_,hc,λhe=>?_,λc=>?_⟩
  .have he:no=ds[i]:=by
    have:(no:Int)=((ds[i]:Nat):Int):=by simpa using he
    omega
   exact⟨_,rfl,⟨λ_=>by rw[he];exact cr _,λ_=>I⟩,rfl⟩
  .have c:no≠ds[i]:=λe=>by rw[e]at c;simp at c
   have j:IntKind.wrap .i64 ((i:Int)+1)=((i+1:Nat):Int):=by rw[bu I I];omega
   rw[j];refine⟨⟨i+1,rfl,I,?_,rfl⟩,by show((ds.length:Int)-((i+1:Nat):Int)).toNat<((ds.length:Int)-(i:Int)).toNat;omega⟩;rw[iW b];intro a;rcases cH.1 a with a|a
   .exact d a
   .exact c (e0.1 a)
 .have b:i=ds.length:=by
   have:¬(i:Int)<(s.len:Int):=cG f;omega
  rw[b,iB]at d;exact⟨-1,rfl,⟨λh=>I,λh=>absurd h d⟩,rfl⟩
theorem Ff{B:Nat->Prop}{w:J}{s:Y}{ds:O Nat}(h:cx B w s ds)(no:Nat)(a:ds.length<=1000000):
 aP ak 118 #[s,no] w (λv w'=>v=.bool (decide (no∈ds))/\w=w'):=by
 refine okF (af.r3 s (no:Nat)) az.r3 func118 ?_;(delta af.r3 aB;dsimp only);refine(Fe h no a).use ?_;rintro _ _ ⟨n,rfl,b,rfl⟩;refine⟨n,rfl,?_,rfl⟩
 congr 1
 exact decide_eq_decide.2 b
def g5(B:Nat->Prop)(w:J)(t:Y):aq Key->Prop
 |none=>t.a=none
 |some k=>k≠ []/\bk B w t k
theorem g5.ab{B W:Nat->Prop}{w w':J}{t:Y}{o:aq Key}(h:g5 B w t o)(hc:ad W w w')(b:∀q,B q->q<w.heap.size->¬W q):g5 B w' t o:=by
 cases o with
 |none=>exact h
 |some k=>exact⟨h.1,bk.hG h.2 hc λq a=>b q (h.2.2.2 q a).1 (h.2.2.2 q a).2⟩
theorem g5.aV{B C:Nat->Prop}{w:J}{t:Y}{o:aq Key}(h:g5 B w t o)(a:∀q,q<w.heap.size->B q->C q):g5 C w t o:=by
 cases o with
 |none=>exact h
 |some k=>exact⟨h.1,bk.aV h.2 a⟩
theorem g5.nil{B:Nat->Prop}{w:J}{t:Y}{o:aq Key}(h:g5 B w t o):(!(Option.isNone t.a))=o.isSome:=by
 cases o with
 |none=>rw[show t.a=none from h];rfl
 |some k=>
  obtain⟨A,ar⟩:=bk.some h.2 h.1;rw[ar];rfl
theorem oF{B C D:Nat->Prop}{w:J}{n:aA}{K V l kG kH:Y}{lo hi:aq Key}(z:br B w n K V l)(S:n.keys.length<=100000)(L:g5 C w kG lo)(M:g5 D w kH hi):
 aP ak 254 #[cQ n K V l,kG,kH] w (λv w'=>∃b:ai,v=b/\(b=true↔n.within lo hi)/\Ext w w'):=by
 have T:=bf.len z.keys;refine okF (af.oF n.leaf K V l kG kH) az.oF func254 ?_;(delta af.oF ag U al aI aB au;dsimp only);refine bl (vs:=dO n K V l) rfl λw1 N f X=>?_;obtain⟨bI,aB,aT,aH⟩:=bw N;have O:=z.ext f;have o:=L.ab (W:=λ_=>False) f λ_ _ _ h=>h;have p:=M.ab (W:=λ_=>False) f λ_ _ _ h=>h;refine⟨K,aB,λi w'=>∃s:Nat,i=(s:Int)/\s<=n.keys.length/\(∀k∈n.keys.take s,e4 lo hi k)/\w1=w',λi _=>((n.keys.length:Int)-i).toNat,⟨0,rfl,cN _,by simp,rfl⟩,?_⟩;rintro _ _ ⟨i,rfl,Z,t,rfl⟩;refine⟨λaK=>?_,λP=>?_⟩
 rotate_left
 .have m:i=n.keys.length:=by
   have:¬(i:Int)<(K.len:Int):=cG P;omega
  rw[m,iB]at t;exact⟨true,rfl,⟨λ_=>t,λ_=>rfl⟩,f⟩
 have m:i<n.keys.length:=by
  have:(i:Int)<(K.len:Int):=b_ aK;omega
 obtain⟨A,tk,ar,g,hc,u,_⟩:=bf.at O.keys m;obtain⟨key,x⟩:∃key,key=n.keys[i]:=⟨_,rfl⟩;rw[←x]at u;refine⟨A,ar,g,tk,hc,ct (λb w'=>(b=true↔¬∀a,lo=some a->gb a key)/\w1=w') (λq j=>⟨λc=>?_,λc=>?_⟩) ?_⟩
 .rw[o.nil]at c
  cases lo with
  |none=>cases c
  |some a=>
   refine(kx u.1 o.2.1).use ?_;rintro _ _ ⟨rfl,rfl⟩;refine⟨_,rfl,j _ _ ⟨?_,rfl⟩⟩;rw[cR];constructor
   .exact λh h2=>h2 a rfl h
   .exact λh=>pw λh2=>h λb g=>by cases g;exact h2
 .rw[o.nil]at c
  cases lo with
  |none=>exact j _ _ ⟨⟨λh=>(by cases h),λh=>absurd (λa e=>(by cases e)) h⟩,rfl⟩
  |some a=>cases c
 rintro aa _ ⟨E,rfl⟩;refine ct (λb w'=>(b=true↔¬e4 lo hi key)/\w1=w') (λq j=>⟨λc=>j _ _ ⟨⟨λ_ h=>(E.1 c) h.1,λ_=>rfl⟩,rfl⟩,λc=>?_⟩) ?_
 .have Q:∀a,lo=some a->gb a key:=Classical.byContradiction λh2=>by rw[E.2 h2]at c;cases c
  refine ct (λb w'=>(b=true↔¬∀a,hi=some a->bX key a)/\w1=w') (λr F=>⟨λh2=>?_,λh2=>?_⟩) ?_
  .rw[p.nil]at h2
   cases hi with
   |none=>cases h2
   |some a=>
    refine(kx u.1 p.2.1).use ?_;rintro _ _ ⟨rfl,rfl⟩;refine⟨_,rfl,F _ _ ⟨?_,rfl⟩⟩;rw[cR];constructor
    .exact λh h2=>by
      have:eO key a<0:=h2 a rfl;omega
    .exact λh=>pw λh2=>h λb g=>by cases g;show eO key a<0;omega
  .rw[p.nil]at h2
   cases hi with
   |none=>exact F _ _ ⟨⟨λh=>(by cases h),λh=>absurd (λa e=>(by cases e)) h⟩,rfl⟩
   |some a=>cases h2
  .rintro ac _ ⟨G,rfl⟩
   exact j _ _ ⟨⟨λh y=>G.1 h y.2,λh=>G.2 λy=>h ⟨Q,y⟩⟩,rfl⟩
 .rintro ad _ ⟨H,rfl⟩
  have R:IntKind.wrap .i64 ((i:Int)+1)=((i+1:Nat):Int):=by rw[bu I I];omega
  refine⟨λc=>⟨false,rfl,⟨λh=>(by cases h),λh=>absurd (h key (by rw[x];exact cr _)) (H.1 c)⟩,f⟩,λc=>?_⟩;rw[R];refine⟨⟨i+1,rfl,I,λk d=>?_,rfl⟩,by show((n.keys.length:Int)-((i+1:Nat):Int)).toNat<((n.keys.length:Int)-(i:Int)).toNat;omega⟩;rw[iW m]at d;rcases cH.1 d with d|d
  .exact t k d
  .rw[e0.1 d,←x]
   exact Classical.byContradiction λh=>by rw[H.2 h]at c;cases c
theorem dH.each{W:Below}{lo hi:aq Key}{ks:O Key}{kids p:O Nat}{L:O aR}(h:dH W lo hi ks kids p L):
 ∃ (ps:O (O Nat)) (a:O (O aR)),ps.length=kids.length/\a.length=kids.length/\p=ps.flatten/\L=a.flatten/\
  ∀ (i:Nat) (h1:i<kids.length) (h2:i<ps.length) (b:i<a.length),W (if i=0 then lo else ks[i-1]?) (if i<ks.length then ks[i]? else hi) kids[i] ps[i] a[i]:=by
 induction h with
 | @one lo hi k p L h=>
  refine⟨[p],[L],rfl,rfl,by simp,by simp,λi h1 h2 b=>?_⟩;have:i=0:=by simpa using h1
  subst this;exact h
 | @cons lo hi s k bB bx bq bM ks kids h t c=>
  obtain⟨ps,a,av,ax,rfl,rfl,d⟩:=c;have e:=t.len;refine⟨bB::ps,bq::a,by simp[av],by simp[ax],by simp,by simp,λi h1 h2 b=>?_⟩
  cases i with
  |zero=>simpa using h
  |succ i=>
   have:=d i (by simpa using h1) (by simpa using h2) (by simpa using b);simp only[List.getElem_cons_succ,fy,Nat.add_lt_add_iff_right,ux,Nat.add_one_ne_zero,if_false,Nat.add_sub_cancel]
   cases i with
   |zero=>simpa using this
   |succ i=>simpa using this
structure gT(w:J)(T:aL)(dm:Nat)(s:Y)(ps:O Nat)(k:Nat):Prop where
 t:bH w T
 v:Var w dm [.pointer (some T.a_),s,k] 303
 own:a7 1 3 w s (dv ps)
 o3:T.G dm
 gs:∀q,aC s q->T.G q/\q≠dm
section
variable {w w':J}{T ao:aL}{dm k:Nat}{s:Y}{ps:O Nat}
theorem gT.of{W:Nat->Prop}(h:gT w T dm s ps k)(d:bH w' ao)(e:ao.a_=T.a_)(b:∀q,T.G q->ao.G q)(c:ad W w w')(cj:∀q,T.G q->¬W q):gT w' ao dm s ps k:=
 ⟨d,by rw[e];exact h.v.ab c (cj _ h.o3),h.own.ab c λq a=>cj q (h.gs q a).1,b _ h.o3,λq a=>⟨b q (h.gs q a).1,(h.gs q a).2⟩⟩
theorem gT.ext(h:gT w T dm s ps k)(hx:Ext w w'):gT w' T dm s ps k:=h.of (h.t.ext hx) rfl (λ_ h=>h) hx λ_ _ h=>h
theorem gT.cells(h:gT w T dm s ps k):w.cell? dm=some (.pointer (some T.a_))/\w.cell? (Addr.add dm 1)=some (.slice s.a s.len s.cap)/\w.cell? (Addr.add dm 2)=some (.int .i64 (k:Nat)):=by
 rw[ay,ay];exact⟨h.v.cell,h.v.cell,h.v.cell⟩
theorem Fg(h:gT w T dm s ps k)(no:Nat)(r:ps.length<=100000):
 ∃ (b:Y) (ah:J),Sem.run ak (Builtin.append_ #[58,58] 58 #[s,.slice (some w.heap.size) 1 1]) (w.alloc (.cells #[no] 3))=.ok b ah/\
  (∃u:aa,ah.cell? ⟨dm,1,none⟩=some u)/\ah.frozen? ⟨dm,1,none⟩=false/\
  ∀c,c=ah.setCell ⟨dm,1,none⟩ b->gT c (T.cg T.E λq=>T.G q\/aC b q) dm b (ps++ [no]) k/\dW T (T.cg T.E λq=>T.G q\/aC b q) w c 0:=by
 obtain⟨b,ah,av,ax,d,f,x⟩:=wI no h.own I;have cj:∀q,aC s q->T.G q:=λq a=>(h.gs q a).1;have y:=d.size;have j:=h.v.ab d λa=>(h.gs _ a).2 rfl;obtain⟨bN,bZ⟩:=dB j (i:=1) (by simp);refine⟨b,ah,av,bN,bZ,?_⟩;rintro _ rfl;have g:=dg ah dm 1 b;have o:=dI j (i:=1) b;have l:ad T.G w (ah.setCell ⟨dm,1,none⟩ b):=cm (d.mono λq _ a=>cj q a) g λq _ e=>by rw[e];exact h.o3
 have m:∀q,aC b q->T.G q\/(w.heap.size<=q/\q<(ah.setCell ⟨dm,1,none⟩ b).heap.size):=λq a=>by
  rcases f q a with h1|h1
  .exact .inl (cj q h1)
  .exact .inr ⟨h1,by have:=a7.lt ax q a;have:=g.size;omega⟩
 have n:∀q,aC b q->q≠dm:=λq a e=>by
  rcases f q a with h1|h1
  .exact(h.gs q h1).2 e
  .have:=h.v.lt;omega
 have p:=h.t.grow (E:=T.E) (G:=λq=>T.G q\/aC b q) l (λq a _=>.inr a) (λq a=>.inl a) (λq a=>by
  rcases a with a|a
  .exact .inr (.inl a)
  .exact .inr (m q a)) λq a hg=>by
  rcases hg with hg|hg
  .exact(h.t.c3 q a).2.2 hg
  .rcases f q hg with h1|h1
   .exact(h.t.c3 q a).2.2 (cj q h1)
   .have:=h.t.lt (q:=q) (.inr (.inr (.inr (.inl a))));omega
 refine⟨⟨p,o,ax.ab g λq a e=>n q a e,.inl h.o3,λq a=>⟨.inr a,n q a⟩⟩,?_,rfl,λ_ h=>.inl h,rfl,rfl,rfl,rfl,λ_=>rfl⟩;exact(bO.refl T w).step l (λq a _=>.inr (.inr (.inr a))) (λq a=>.inl a) λq a=>by
  rcases a with a|a
  .exact .inl a
  .exact(m q a).imp id λe=>e.1
theorem Fh(h:gT w T dm s ps k)(m:Nat):(∃u:aa,w.cell? (Addr.add dm 2)=some u)/\w.frozen? (Addr.add dm 2)=false/\
 gT (w.setCell (Addr.add dm 2) m) T dm s ps m/\dW T T w (w.setCell (Addr.add dm 2) m) 0:=by
 rw[ay];obtain⟨bN,bZ⟩:=dB h.v (i:=2) (by simp);have b:=dg w dm 2 m;have hc:ad T.G w (w.setCell ⟨dm,2,none⟩ m):=b.mono λq _ e=>by rw[e];exact h.o3
 refine⟨bN,bZ,⟨?_,dI h.v (i:=2) _,h.own.ab b λq a e=>(h.gs q a).2 e,h.o3,h.gs⟩,?_,rfl,λ_ h=>h,rfl,rfl,rfl,rfl,λ_=>rfl⟩
 .exact h.t.grow (E:=T.E) (G:=T.G) hc (λq a _=>.inr a) (λq a=>.inl a) (λq a=>.inr (.inl a)) λq a=>(h.t.c3 q a).2.2
 .exact(bO.refl T w).step (E:=T.E) (G:=T.G) hc (λq a _=>.inr (.inr (.inr a))) (λq a=>.inl a) λq a=>.inl a
end
theorem bO.aI{T ao:aL}{w w':J}{k:Nat}{t:Y}{o:aq Key}(h:bO T ao w w' k)(a:g5 (λq=>¬T.M q) w t o):g5 (λq=>¬ao.M q) w' t o:=by
 have h1:g5 (λq=>q<w.heap.size/\¬T.M q) w t o:=a.aV λq b a=>⟨b,a⟩;exact(h1.ab h.ab λq b _ c=>b.2 (aL.gm c)).aV λq _ a=>(h.out a.1 a.2).1
theorem dW.bad{T ao:aL}{w w':J}{k x:Nat}(h:dW T ao w w' k)(a:iS ao x):iS T x:=by
 obtain⟨h1,e,h2⟩:=a;exact⟨by rw[←h.to.n];exact h1,e,by rw[←h.view];exact h2⟩
theorem dW.Fi{T ao:aL}{w w':J}{k x:Nat}(h:dW T ao w w' k)(a:iS T x):iS ao x:=by
 obtain⟨h1,e,h2⟩:=a;exact⟨by rw[h.to.n];exact h1,e,by rw[h.view];exact h2⟩
theorem en.AG{P:Nat->aq aA}{h:Nat}{lo hi:aq Key}{no:Nat}{p:O Nat}{L:O aR}(d:en P (h+1) lo hi no p L):∃ (n:aA) (a:O Nat),P no=some n/\n.leaf=decide (h=0)/\cv n/\p=no::a/\n.within lo hi/\
 ((h=0/\gw n/\a=[]/\L.length=n.keys.length)\/(vx n/\∃ (ps:O (O Nat)) (b:O (O aR)),ps.length=n.kids.length/\b.length=n.kids.length/\a=ps.flatten/\L=b.flatten/\
   ∀ (i:Nat) (h1:i<n.kids.length) (h2:i<ps.length) (c:i<b.length),en P h (if i=0 then lo else n.keys[i-1]?) (if i<n.keys.length then n.keys[i]? else hi) n.kids[i] ps[i] b[i])):=by
 match h,d with
 |0,⟨n,h1,h2,c,g,e,f⟩=>
  refine⟨n,[],h1,h2.leaf,.inl h2,e,c,.inl ⟨rfl,h2,rfl,?_⟩⟩;rw[f];unfold aA.e5;rw[nF,h2.len,Nat.min_self]
 |h+1,⟨n,a,h1,h2,c,g,e⟩=>
  have f:=e.mono (V:=λlo hi k p L=>en P (h+1) lo hi k p L) λ_ _ _ _ _ _ d=>d.1;exact⟨n,a,h1,by rw[h2.inner];simp,.inr h2,g,c,.inr ⟨h2,f.each⟩⟩
def Fj(T:aL)(dm:Nat)(ps:O Nat)(keys:Nat)(fk:Nat->aq aA)(p:O Nat)(b:Nat)(w:J)(v:aa)(w':J):Prop:=
 ∃ao:aL,dW T ao w w' (2*p.length)/\
  ((v=.int .i64 0/\(∃a,gT w' ao dm a (ps++p) (keys+b))/\∀x∈p,T.P x=fk x)\/
   (∃e:Int,v=e/\e≠0/\(∃ (a:Y) (c:O Nat) (d:Nat),gT w' ao dm a c d)/\((e=3/\¬T.C.D.calm (2*p.length))\/∃x∈p,iS T x)))
theorem qH{α:Type}{l:O (O α)}{i:Nat}(h:i<l.length):(l.take (i+1)).flatten=(l.take i).flatten++l[i]:=by
 rw[iW h,qZ];simp
theorem wZ{α:Type}{l:O (O α)}{i:Nat}(h:i<l.length):l.flatten=(l.take i).flatten++(l[i]++(l.drop (i+1)).flatten):=by
 conv=>lhs;rw[←hO i l,lB h]
 rw[qZ,List.flatten_cons]
theorem AH{α:Type}{l:O (O α)}{i:Nat}(h:i<l.length):(l.take i).flatten.length+l[i].length<=l.flatten.length:=by
 have:=congrArg List.length (wZ h);rw[cF,cF]at this;omega
theorem Fk(h:Nat):∀ {w:J}{T:aL}{dm keys:Nat}{s kG kH:Y}{ps p:O Nat}{fk:Nat->aq aA}{L:O aR}{lo hi:aq Key}{no:Nat},gT w T dm s ps keys->h<=12->en fk h lo hi no p L->(∀x∈p,T.f x=true/\x<T.n)->(∀x∈p,∀bj,fk x=some bj->T.P x=some bj\/iS T x)->(ps++p).Nodup->
   g5 (λq=>¬T.M q) w kG lo->g5 (λq=>¬T.M q) w kH hi->ps.length+p.length<=10000->keys+L.length<=100000->T.C.D.aM+2*p.length<=999999999->
   aP ak 211 #[.pointer (some dm),no,h,kG,kH] w (Fj T dm ps keys fk p L.length w):=by
 induction h with
 |zero=>intro w T dm keys s kG kH ps p fk L lo hi no _ _ ai;exact ai.elim
 |succ h bp=>
   intro w T dm keys s kG kH ps p fk L lo hi no aj cy ai a0 a1 cT a2 a3 bq cz bs
   obtain⟨n,cA,am,bt,bv,rfl,bx,bz⟩:=ai.AG
   have a4:=aj.t
   have bA:=a1 no (by simp) n am
   have bB:=a0 no (by simp)
   simp only[fy]at bq bs
   refine okF (af.s9 (some dm) (no:Nat) ((h+1:Nat):Int) kG kH) az.s9 func211 ?_
   (delta af.s9 jX cc U al ag aH a8 st r1 au aI aB;dsimp only)
   rw[Aa bt]
   refine⟨_,rfl,_,aj.cells.1,(E9 a4 I bA).use ?_⟩
   rintro _ S ⟨aD,W,a5,bC,an⟩
   have a6:gT S (T.bg aD T.P) dm s ps keys:=aj.of a5 rfl (λ_ h=>h) bC λq g bD=>bD.2 g
   rcases an with ⟨K,V,D,rfl,ao,bE⟩|⟨e,rfl,z,ap⟩
   rotate_left
   · refine⟨_,bn,bn,bn,e,rfl,bl (vs:=[false,(),(),()]) rfl λbF F aw bG=>⟨F.b2 rfl (fj (b:=iL.leaf) (K:=bn) (V:=bn) (D:=bn)),rfl,cp F (us:=dO iL bn bn bn) rfl rfl λbH cB bI cC=>⟨λ_=>?_,λhx=>(by simp at hx;exact absurd hx z)⟩⟩⟩
     have a7:Ext S bH:=Ext.ck aw bI (bo _)
     refine⟨_,(W.trans (dW.ext _ a7)).mono (by simp only[fy];omega),.inr ⟨e,rfl,z,⟨s,ps,keys,a6.ext a7⟩,?_⟩⟩
     rcases ap with ⟨rfl,bJ⟩|bK
     · exact .inl ⟨rfl,λhc=>bJ (fJ hc (by simp only[fy];omega))⟩
     · exact .inr ⟨no,by simp,bK⟩
   have cD:=cv.fH bv (by have:=a4.nq _ _ ao;omega)
   refine⟨_,K,V,D,0,rfl,bl (vs:=[false,(),(),()]) rfl λbF F aw bG=>⟨F.b2 rfl fj,rfl,cp F (us:=dO n K V D) rfl rfl λX Z bL cI=>⟨λhx=>(by cases hx),λ_=>?_⟩⟩⟩
   have u:Ext S X:=Ext.ck aw bL (bo _)
   obtain⟨nb,bM⟩:∃nb,nb=S.heap.size:=⟨_,rfl⟩
   rw[←bM]at Z⊢
   have a9:¬(T.bg aD T.P).M nb:=λo=>by have:=a5.lt o;omega
   have l:=a6.ext u
   have aa:br (λq=>¬(T.bg aD T.P).M q) X n K V D:=(bE.ext u).aV λq _ c=>c.2
   have cJ:=u.size
   have bP:=bf.len aa.keys
   have cK:=cx.len aa.kids
   obtain⟨d0,d1,d2,d3⟩:=bw Z
   have bQ:no∉ps:=λo=>by
     rw[nE]at cT
     exact cT.2.2 no o no (by simp) rfl
   refine⟨_,rfl,s,l.cells.2.1,(Ff (B:=λ_=>True) ⟨l.own.src,l.own.2.1,λq g=>⟨trivial,l.own.lt q g⟩⟩ no I).use ?_⟩
   rintro _ _ ⟨rfl,rfl⟩
   refine⟨_,rfl,ct (λb w'=>b=false/\X=w') (λq g=>⟨λc=>absurd (b_ c) bQ,λ_=>⟨_,rfl,_,l.cells.1,_,rfl,_,l.t.cells.2.1,(Eh l.t.s (no:Nat)).use ?_⟩⟩) ?_⟩
   · rintro _ _ ⟨rfl,rfl⟩
     refine⟨_,rfl,g _ _ ⟨?_,rfl⟩⟩
     have ba:(T.bg aD T.P).f=T.f:=rfl
     have bb:(T.bg aD T.P).n=T.n:=rfl
     rw[ba,bb,di,bB.1]
     have:(0:Int)<=(no:Int)/\(no:Int)<(T.n:Int):=⟨I,I⟩
     simp[this.2]
   rintro _ _ ⟨rfl,rfl⟩
   have bR:=(W.to.trans (bO.ext _ u)).aI a2
   have bS:=(W.to.trans (bO.ext _ u)).aI a3
   refine ct (λb w'=>b=false/\Ext X w') (λq g=>⟨λc=>(by cases c),λ_=>⟨_,d0,K,d1,V,d2,D,d3,(oF aa I bR bS).use ?_⟩⟩) ?_
   · rintro _ cL ⟨b,rfl,c,bT⟩
     exact⟨b,rfl,g _ _ ⟨by rw[c.2 bx];rfl,bT⟩⟩
   rintro _ cM ⟨rfl,H⟩
   refine⟨λc=>(by cases c),λ_=>?_⟩
   have bc:=l.ext H
   obtain⟨N,bd,av,ax,bU,bV⟩:=Fg bc no I
   refine⟨_,rfl,s,bc.cells.2.1,aY ⟨N,bd,av,_,rfl,?_⟩⟩
   rw[ay,cE]
   refine⟨ax,bU,aY ?_⟩
   obtain⟨ac,r⟩:=bV _ rfl
   generalize cO:bd.setCell ⟨dm,1,none⟩ N=v at ac r⊢
   obtain⟨hX,bW⟩:∃hX,hX=(T.bg aD T.P).cg (T.bg aD T.P).E λq=>(T.bg aD T.P).G q\/aC N q:=⟨_,rfl⟩
   rw[←bW]at ac r
   have aE:dW T hX w v 2:=((W.trans (dW.ext _ (u.trans H))).trans r).mono I
   have cQ:=Z.lt
   have cR:=H.size
   have aF:=(Z.ext H).ab r.to.ab λo=>a9 (aL.gm o)
   have bX:=r.to.out (q:=nb) I a9
   have bY:=r.to.iL (aa.ext H)
   have cS:=r.to.ab.size
   have cU:=aE.to.ab.size
   rcases bz with ⟨rfl,b0,rfl,b1⟩|⟨aG,d,aJ,ba,bb,rfl,rfl,b3⟩
   ·
     have aN:n.leaf=true:=b0.leaf
     refine⟨λ_=>aY ?_,λhx=>(by rw[aN]at hx;cases hx)⟩
     have be:=ac.ext (cw v)
     have b4:=aF.ext (cw v)
     have b5:IntKind.wrap .i64 ((keys:Int)+(K.len:Int))=((keys+K.len:Nat):Int):=by rw[bu I I];omega
     obtain⟨bN,bZ,b6,b7⟩:=Fh be (keys+K.len)
     refine⟨_,rfl,id,_,be.cells.2.2,id,K,(bw b4).2.1,_,rfl,bN,bZ,?_⟩
     rw[b5]
     refine aY ⟨hX,((aE.trans (dW.ext hX (cw v))).trans b7).mono (by simp),.inl ⟨rfl,⟨N,?_⟩,λx hx=>?_⟩⟩
     · rw[b1,←bP];exact b6
     · rw[e0.1 hx,ao,am]
   · have aN:n.leaf=false:=aG.inner
     refine⟨λhx=>(by rw[aN]at hx;cases hx),λ_=>?_⟩
     have cV:=aG.len
     refine⟨D,(bw aF).2.2.2,λaO w'=>∃ (i:Nat) (hY:aL) (aQ:Y),aO=(i:Int)/\i<=n.kids.length/\gT w' hY dm aQ (ps++no::(d.take i).flatten) (keys+(aJ.take i).flatten.length)/\dW T hY w w' (2+2*(d.take i).flatten.length)/\dW hX hY v w' (2*(d.take i).flatten.length)/\∀x∈(d.take i).flatten,T.P x=fk x,
       λaO _=>((n.kids.length:Int)-aO).toNat,⟨0,hX,N,rfl,cN _,by simpa using ac,by simpa using aE,by simpa using dW.refl hX v,by simp⟩,?_⟩
     rintro _ y ⟨i,hY,aQ,rfl,cW,ad,k,aS,aT⟩
     refine⟨λaK=>?_,λb8=>?_⟩
     rotate_left
     · have aU:i=n.kids.length:=by
         have:¬(i:Int)<(D.len:Int):=cG b8
         omega
       rw[dP I]at ad k aT
       rw[dP I]at ad
       refine⟨hY,k.mono (by simp only[fy];omega),.inl ⟨rfl,⟨aQ,ad⟩,λx hx=>?_⟩⟩
       rcases cP.1 hx with rfl|hx
       · rw[ao,am]
       · exact aT x hx
     have aU:i<n.kids.length:=by
       have:(i:Int)<(D.len:Int):=b_ aK
       omega
     have m:i<d.length:=by omega
     have aW:i<aJ.length:=by omega
     have bh:=aS.to.iL bY
     have aX:=aF.ab aS.to.ab λo=>bX.1 (aL.gm o)
     have b9:=k.to.aI a2
     have ca:=k.to.aI a3
     obtain⟨A,ar,cb,cd⟩:=cx.at bh.kids aU
     have cX:=AH m
     have cY:=AH aW
     have bi:∀ (j:Nat) (ah:j<n.keys.length),∃ (a:ae) (t:Y),K.a=some a/\((0:Int)<=(j:Int)/\(j:Int)<(K.len:Int))/\y.cell? (a.add (Int.toNat (j:Int)*1))=some (.slice t.a t.len t.cap)/\g5 (λq=>¬hY.M q) y t n.keys[j]? :=λj ah=>by
       obtain⟨a,t,h1,h2,Q,R,_⟩:=bf.at bh.keys ah
       refine⟨a,t,h1,h2,Q,?_⟩
       rw[dE ah]
       refine⟨λe=>?_,R⟩
       have:=(aG.ok _ (cr ah)).1
       rw[e]at this;simp at this
     refine⟨A,ar,cb,_,cd,ct (λt w'=>g5 (λq=>¬hY.M q) y t (if i=0 then lo else n.keys[i-1]?)/\y=w') (λq g=>⟨λc=>?_,λc=>?_⟩) ?_⟩
     · have c:0<i:=by
         have:(i:Int)>0:=b_ c
         omega
       have ce:IntKind.wrap .i64 ((i:Int)-1)=((i-1:Nat):Int):=by rw[bu I I];omega
       obtain⟨a,t,h1,h2,Q,R⟩:=bi (i-1) I
       rw[ce]
       refine⟨K,(bw aX).2.1,a,h1,h2,t,Q,g _ _ ⟨?_,rfl⟩⟩
       rw[if_neg I];exact R
     · have c:i=0:=by
         have:¬(i:Int)>0:=cG c
         omega
       refine g _ _ ⟨?_,rfl⟩
       rw[if_pos c];exact b9
     rintro cZ _ ⟨cf,rfl⟩
     refine ct (λt w'=>g5 (λq=>¬hY.M q) y t (if i<n.keys.length then n.keys[i]? else hi)/\y=w') (λq g=>⟨K,(bw aX).2.1,λc=>?_,λc=>?_⟩) ?_
     · have c:i<n.keys.length:=by
         have:(i:Int)<(K.len:Int):=b_ c
         omega
       obtain⟨a,t,h1,h2,Q,R⟩:=bi i c
       refine⟨K,(bw aX).2.1,a,h1,h2,t,Q,g _ _ ⟨?_,rfl⟩⟩
       rw[if_pos c];exact R
     · have c:¬i<n.keys.length:=by
         have:¬(i:Int)<(K.len:Int):=cG c
         omega
       refine g _ _ ⟨?_,rfl⟩
       rw[if_neg c];exact ca
     rintro a_ _ ⟨ch,rfl⟩
     have ci:IntKind.wrap .i64 (((h+1:Nat):Int)-1)=(h:Int):=by rw[bu I I];omega
     have cj:IntKind.wrap .i64 ((i:Int)+1)=((i+1:Nat):Int):=by rw[bu I I];omega
     have cl:hY.n=T.n:=k.to.n
     have c0:=k.to.aM
     have aZ:∀x∈d[i],x∈no::d.flatten:=λx hx=>by
       rw[wZ m]
       exact iV _ (gV _ (iD _ hx))
     have cm:=bp (p:=d[i]) (fk:=fk) (L:=aJ[i]) (no:=n.kids[i]) ad I (b3 i aU m aW) (λx hx=>by rw[k.f,cl];exact a0 x (aZ x hx)) (λx hx bj h1=>by
       rw[k.P]
       exact(a1 x (aZ x hx) bj h1).imp id k.Fi) (by
       rw[wZ m]at cT
       have e:ps++no::((d.take i).flatten++(d[i]++(d.drop (i+1)).flatten))=((ps++no::(d.take i).flatten)++d[i])++(d.drop (i+1)).flatten:=by simp
       rw[e]at cT
       exact(nE.1 cT).1) cf ch (by simp only[cF,fy];omega) I I
     rw[ci,cj]
     refine cm.use ?_
     rintro _ cn ⟨ga,bk,an⟩
     have bm:dW T ga w cn (2+2*((d.take i).flatten.length+d[i].length)):=(k.trans bk).mono I
     rcases an with ⟨rfl,⟨co,cq⟩,cs⟩|⟨e,rfl,z,cu,ap⟩
     · refine⟨0,rfl,λhx=>(by cases hx),λ_=>⟨⟨i+1,ga,co,rfl,I,?_,?_,?_,?_⟩,?_⟩⟩
       · rw[qH m,qH aW,cF,←Nat.add_assoc]
         have e:ps++no::((d.take i).flatten++d[i])=(ps++no::(d.take i).flatten)++d[i]:=by simp
         rw[e];exact cq
       · rw[qH m,cF];exact bm
       · rw[qH m,cF];exact(aS.trans bk).mono I
       · intro x hx
         rw[qH m]at hx
         rcases cH.1 hx with hx|hx
         · exact aT x hx
         · rw[←k.P];exact cs x hx
       · show((n.kids.length:Int)-((i+1:Nat):Int)).toNat<((n.kids.length:Int)-(i:Int)).toNat
         omega
     · refine⟨e,rfl,λ_=>⟨ga,bm.mono (by simp only[fy];omega),.inr ⟨e,rfl,z,cu,?_⟩⟩,λhx=>(by simp at hx;exact absurd hx z)⟩
       rcases ap with ⟨h1,h2⟩|⟨x,hx,c⟩
       · exact .inl ⟨h1,λhc=>h2 (k.to.calm _ (fJ hc (by simp only[fy];omega)))⟩
       · exact .inr ⟨x,aZ x hx,k.bad c⟩
def Fl(T:aL)(fk:Nat->aq aA)(pages:O Nat)(c:Nat)(w:J)(v:aa)(w':J):Prop:=
 ∃ao:aL,bH w' ao/\dW T ao w w' (2*pages.length)/\ao.G=T.G/\
  ((∃ (s:Y) (es:O Nat),v=.tuple #[s,c,(0:Int)]/\a7 1 3 w' s (dv es)/\es.Perm pages/\(es.Pairwise λa b=>a<=b)/\(∀q,aC s q->(T.N q\/w.heap.size<=q)/\¬ao.M q)/\(∀x∈pages,T.P x=fk x)/\bH w' (ao.cg T.E λq=>T.G q\/aC s q))\/
   (∃e:Int,v=.tuple #[(),(0:Int),e]/\e≠0/\((e=3/\¬T.C.D.calm (2*pages.length))\/∃x∈pages,iS T x)))
theorem Fm{w:J}{T:aL}{fk:Nat->aq aA}{pages:O Nat}{L:O aR}(h:bH w T)(ae:fu (T.bg T.C fk) pages L)(aw:∀x∈pages,T.f x=true/\x<T.n)(ax:∀x∈pages,∀bj,fk x=some bj->T.P x=some bj\/iS T x)(cT:pages.Nodup)(a4:L.length<=9000)(a5:pages.length<=9000)(aD:T.C.D.aM+2*pages.length<=999999999):
 aP ak 152 #[.pointer (some T.a_)] w (Fl T fk pages L.length w):=by
 have aF:=h.num.2.1;refine okF (af.sX (some T.a_)) az.sX func152 ?_;(delta af.sX al r1 aB U ag aT;dsimp only);refine⟨λh=>(by cases h),λ_=>bl (vs:=[.pointer (some T.a_),(),(0:Int)]) rfl λw1 R ah a6=>?_⟩;obtain⟨dm,aG⟩:∃dm,dm=w.heap.size:=⟨_,rfl⟩;rw[←aG]at R⊢;obtain⟨bV,ai⟩:∃bV,bV=λq=>T.E q\/T.G q:=⟨_,rfl⟩;have A:∀q,T.E q\/T.G q->bV q:=λq a=>by rw[ai];exact a
 have S:∀q,bV q->T.E q\/T.G q:=λq a=>by rw[ai]at a;exact a
 have a8:=R.lt;have h1:bH w1 (T.cg bV λq=>q=dm):=h.grow (W:=λ_=>False) ah (λ_ h=>h.elim) (λq a=>(S q a).imp id .inl) (λq e=>.inr (.inr ⟨I,I⟩)) λq a e=>by
  rcases S q a with h2|h2
  .have:=h.lt (q:=q) (.inr (.inr (.inr (.inl h2))));omega
  .have:=h.lt (q:=q) (.inr (.inr (.inr (.inr h2))));omega
 obtain⟨bK,k⟩:∃bK,bK=T.cg bV λq=>q=dm:=⟨_,rfl⟩;rw[←k]at h1;have V:bK.a_=T.a_:=by rw[k];rfl
 have aj:bK.E=bV:=by rw[k];rfl
 have K:bK.C=T.C:=by rw[k];rfl
 have X:bK.P=T.P:=by rw[k];rfl
 have am:gT w1 bK dm ⟨none,0,0⟩ [] 0:=⟨h1,by rw[V];exact R,a7.none _ _ _,by rw[k];rfl,λq a=>(gu q a).elim⟩;have i:bO T bK w w1 0:=by
  rw[k];exact(bO.refl T w).step (W:=λ_=>False) ah (λ_ h=>h.elim) (λq a=>(S q a).imp id .inl) λq e=>.inr I
 have fin:∀ (w':J) (ao:aL),bH w' ao->dW bK ao w1 w' (2*pages.length)->bH w' (ao.cg T.E T.G)/\dW T (ao.cg T.E T.G) w w' (2*pages.length):=λw' ao aH b=>by
  have u:ao.E=bV:=b.E.trans aj;refine⟨aH.grow (E:=T.E) (G:=T.G) (W:=λ_=>False) (ad.refl _ _) (λ_ h=>h.elim) (λq a=>.inl (by rw[u];exact A q (.inl a))) (λq a=>.inl (by rw[u];exact A q (.inr a))) λq a=>(h.c3 q a).2.2,?_,rfl,λ_ h=>h,?_,?_,?_,?_,λj=>?_⟩
  .refine⟨b.to.a_.trans i.a_,b.to.sb.trans i.sb,b.to.n.trans i.n,b.to.g.trans i.g,b.to.s1.trans i.s1,b.to.s2.trans i.s2,b.to.c.trans i.c,b.to.d.trans i.d,b.to.bc.trans i.bc,b.to.gen.trans i.gen,by have:=b.to.aM;rw[K]at this;exact this,λm o=>b.to.calm m (by rw[K];exact o),?_,λq a=>?_,λq a=>?_⟩
   .exact(cm i.ab b.to.ab λq a aI=>by
     rcases i.fn q aI with h2|h2
     .exact h2
     .omega)
   .rcases a with a|a|a|a|a
    .exact((i.trans b.to).cS q (.inl a))
    .exact((i.trans b.to).cS q (.inr (.inl a)))
    .exact((i.trans b.to).cS q (.inr (.inr (.inl a))))
    .exact .inl (.inr (.inr (.inr (.inl a))))
    .exact .inl (.inr (.inr (.inr (.inr a))))
   .rcases a with a|a|a|a
    .exact((i.trans b.to).fn q (.inl a))
    .exact((i.trans b.to).fn q (.inr (.inl a)))
    .exact((i.trans b.to).fn q (.inr (.inr (.inl a))))
    .exact .inl (.inr (.inr (.inr a)))
  .show ao.root=T.root;rw[b.root,k];rfl
  .show ao.aE=T.aE;rw[b.aE,k];rfl
  .show ao.f=T.f;rw[b.f,k];rfl
  .show ao.P=T.P;rw[b.P,X]
  .show ao.C.view j=T.C.view j;rw[b.view,K]
 refine jd (λM=>∃ (ao:aL) (s:Y) (ps:O Nat),gT M ao dm s ps L.length/\ps=pages/\dW bK ao w1 M (2*pages.length)/\∀x∈pages,T.P x=fk x) (λq a=>⟨_,rfl,_,by have:=h1.cells.2.2.2.2;rw[V]at this;exact this,λy=>aY ?_,λy=>?_⟩) ?_
 .have B:=am.ext (cw w1)
  have an:bK.aE=T.aE:=by rw[k];rfl
  have aJ:bK.root=T.root:=by rw[k];rfl
  have y:T.aE≠0:=by
   rw[an]at y;have:(T.aE:Int)>0:=b_ y;omega
  have F:en fk T.aE none none T.root pages L:=by
   rcases ae with ⟨aK,_⟩|F
   .exact absurd aK y
   .exact F
  have dj:=B.t.cells.2.2.2.1;have aW:=B.t.cells.2.2.2.2;rw[V]at dj aW;rw[an]at aW;rw[aJ]at dj;have aN:=Fk T.aE (kG:=bn) (kH:=bn) (fk:=fk) (L:=L) (p:=pages) (lo:=none) (hi:=none) (no:=T.root) B aF F (λx hx=>by rw[k];exact aw x hx) (λx hx bj h2=>by
   rw[X];refine(ax x hx bj h2).imp id λH=>?_;rw[k];exact H) (by simpa using cT) rfl rfl (by simp only[jQ];omega) I (by rw[K];exact aD)
  refine⟨_,rfl,id,_,dj,_,rfl,id,_,aW,aN.use ?_⟩;rintro _ ap ⟨ao,Z,aO⟩;have ar:dW bK ao w1 ap (2*pages.length):=((dW.ext bK (cw w1)).trans Z).mono I;rcases aO with ⟨rfl,⟨s,r⟩,aa⟩|⟨e,rfl,au,⟨s,a9,ba,r⟩,aQ⟩
  .refine⟨0,rfl,λhx=>(by cases hx),λ_=>a _ ⟨ao,s,pages,?_,rfl,ar,λx hx=>by rw[←X];exact aa x hx⟩⟩
   rw[ki,cE]at r;exact r
  .obtain⟨f1,f2⟩:=fin ap ao r.t ar
   refine⟨e,rfl,λ_=>⟨_,f1,f2,rfl,.inr ⟨e,rfl,au,?_⟩⟩,λhx=>(by simp at hx;exact absurd hx au)⟩;rcases aQ with ⟨h2,H⟩|⟨x,hx,H⟩
   .exact .inl ⟨h2,by rw[←K];exact H⟩
   .refine .inr ⟨x,hx,?_⟩
    rw[k]at H;exact H
 .have y:T.aE=0:=by
   have:¬(bK.aE:Int)>0:=cG y;rw[k]at this;have:¬(T.aE:Int)>0:=this;omega
  rcases ae with ⟨_,_,aS,aU⟩|F
  .subst aS aU
   exact a _ ⟨bK,⟨none,0,0⟩,[],am,rfl,dW.refl _ _,λx hx=>(by cases hx)⟩
  .have e:(T.bg T.C fk).aE=T.aE:=rfl
   rw[e,y]at F;exact F.elim
 rintro M ⟨ao,s,ps,r,aV,Z,aa⟩;rw[aV]at r;refine⟨_,rfl,s,r.cells.2.1,(AF r.own I).use ?_⟩;rintro _ N ⟨rfl,ac,es,aX,aZ,a0⟩;have cj:∀q,aC s q->ao.G q:=λq a=>(r.gs q a).1;have a1:=r.v.ab ac λa=>(r.gs _ a).2 rfl;have z:bH N ao:=by
  have:=r.t.grow (E:=ao.E) (G:=ao.G) ac (λq a _=>.inr (cj q a)) (λq a=>.inl a) (λq a=>.inr (.inl a)) λq a=>(r.t.c3 q a).2.2;exact this
 have a2:dW ao ao M N 0:=⟨(bO.refl ao M).step (E:=ao.E) (G:=ao.G) ac (λq a _=>.inr (.inr (.inr (cj q a)))) (λq a=>.inl a) λq a=>.inl a,rfl,λ_ h=>h,rfl,rfl,rfl,rfl,λ_=>rfl⟩;have Q:=cw N;have b:=((Z.trans a2).trans (dW.ext ao Q)).mono (l:=2*pages.length) I;obtain⟨f1,f2⟩:=fin N.drew ao (z.ext Q) b;have B:=a1.ext Q;have u:ao.E=bV:=b.E.trans aj;have a3:bH N.drew (ao.cg T.E λq=>T.G q\/aC s q):=(z.ext Q).grow (E:=T.E) (G:=λq=>T.G q\/aC s q) (W:=λ_=>False) (ad.refl _ _) (λ_ h=>h.elim) (λq a=>.inl (by rw[u];exact A q (.inl a))) (λq a=>a.elim (λa=>.inl (by rw[u];exact A q (.inr a))) λa=>.inr (.inl (cj q a))) λq a hg=>by
  rcases hg with hg|hg
  .exact(h.c3 q a).2.2 hg
  .exact(z.c3 q (by rw[u];exact A q (.inl a))).2.2 (cj q hg)
 refine⟨rfl,aY ⟨_,rfl,id,s,by rw[ay];exact B.cell,_,rfl,id,_,by rw[ay];exact B.cell,_,f1,f2,rfl,.inl ⟨s,es,rfl,aX.ext Q,aZ,a0,λq a=>⟨?_,λo=>?_⟩,aa,a3⟩⟩⟩
 .exact(i.trans b.to).fn q (.inr (.inr (.inr (cj q a))))
 .have av:=cj q a
  rcases o with o|o|o|o|o
  .exact z.ud av o
  .exact(z.hL q av).1 o
  .exact(z.hL q av).2 o
  .exact(z.c3 q (by rw[u];exact A q (.inl o))).2.2 av
  .exact(z.c3 q (by rw[u];exact A q (.inr o))).2.2 av
theorem Fo{w:J}{s:Y}{l:O UInt8}(h:Src 1 w s (aF l)){i:Nat}(hi:i<l.length):∃A:ae,s.a=some A/\((0:Int)<=(i:Int)/\(i:Int)<(s.len:Int))/\w.cell? (A.add (Int.toNat (i:Int)*1))=some (.int .u8 ((l[i].toNat:Nat):Int)):=by
 obtain⟨A,ar,b,hc⟩:=h.at (i:=i) (v:=.int .u8 ((l[i].toNat:Nat):Int)) (by simp[aF,hi]);exact⟨A,ar,b,hc⟩
section
variable {B C W:Nat->Prop}{w w':J}{s:Y}{ps GD:O (Y×Y)}{L M:O aR}
structure nt(o4:O aa)(o5:TypeId)(B:Nat->Prop)(w:J)(ef:Nat)(s:Y)(L:O aR):Prop where
 v:Var w ef (s::o4) o5
 p:mf B w s L
 nb:¬B ef
 ok:∀p∈L,p.1.length<=1000/\p.2.length<=1000
 fH:L.length<=10000
variable {o4:O aa}{o5:TypeId}{ef:Nat}{key val:Key}{tk dC:Y}
theorem nt.ab(h:nt o4 o5 B w ef s L)(hc:ad W w w')(a:¬W ef)(b:∀k,B k->k<w.heap.size->¬W k):nt o4 o5 B w' ef s L:=⟨h.v.ab hc a,h.p.ab hc b,h.nb,h.ok,h.fH⟩
theorem nt.aV(h:nt o4 o5 B w ef s L)(a:∀k,k<w.heap.size->B k->C k)(b:¬C ef):nt o4 o5 C w ef s L:=⟨h.v,h.p.aV a,b,h.ok,h.fH⟩
end
def o6(n:Nat)(root aE:Int):Prop:=0<=aE/\aE<=12/\0<=root/\root<n/\(root=0↔aE=0)
theorem mQ{w:J}{C:bT}(hc:eX w C)(sb:Nat)(gen root aE:Int):
 aP ak 140 #[.pointer (some C.c),.pointer (some sb),.int .u64 gen,root,aE] w (λv w'=>
  (o6 C.D.n root aE/\v=.tuple #[.pointer (some w.heap.size),(0:Int)]/\Ext w w'/\Var w' w.heap.size [.pointer (some C.c),.pointer (some sb),.int .u64 gen,root,aE] 239/\w'.heap.size=w.heap.size+1)\/
  (¬o6 C.D.n root aE/\v=.tuple #[.pointer none,(1:Int)]/\w=w')):=by
 refine okF (af.mQ (some C.c) (some sb) gen root aE) az.mQ func140 ?_;(delta af.mQ al aB U;dsimp only);refine ct (λb w'=>(b=false↔(0<=aE/\aE<=12/\0<=root/\root<C.D.n))/\w=w') (λq g=>⟨λh1=>g _ _ ⟨?_,rfl⟩,λh1=>⟨_,rfl,_,hc.cells.1,(oV hc.dev).use ?_⟩⟩) ?_
 .simp only[Option.isNone_some,kK,ic,cR]at h1
  exact⟨λh=>(by cases h),λh=>I⟩
 .rintro _ _ ⟨rfl,rfl⟩
  simp only[Option.isNone_some,kK,nB,kh]at h1;refine⟨_,rfl,g _ _ ⟨?_,rfl⟩⟩;rw[kh];omega
 rintro b _ ⟨i,rfl⟩;refine⟨λh1=>.inr ⟨λhg=>?_,rfl,rfl⟩,λh1=>?_⟩
 .have h2:=i.2 ⟨hg.1,hg.2.1,hg.2.2.1,hg.2.2.2.1⟩
  rw[h2,kK]at h1;have d:=hg.2.2.2.2;by_cases a:root=0
  .rw[a,d.1 a]at h1;simp at h1
  .have f:aE≠0:=λe=>a (d.2 e)
   have j:(root==0)=false:=by simpa using a
   have k:(aE==0)=false:=by simpa using f
   rw[j,k]at h1
   cases h1
 .rw[nB]at h1
  have h2:=i.1 h1.1;have d:root=0↔aE=0:=by
   have a:=h1.2;by_cases f:root=0<;>by_cases l:aE=0<;>simp[f,l]at a⊢
  refine bl (vs:=[.pointer (some C.c),.pointer (some sb),.int .u64 gen,root,aE]) rfl λo m hx hs=>.inl ⟨⟨h2.1,h2.2.1,h2.2.2.1,h2.2.2.2,d⟩,rfl,hx,m,hs⟩
theorem w2{w:J}{s:Y}{l:O UInt8}(hs:Src 1 w s (aF l))(hc:s.len<=s.cap)(most:Nat)(g:most<=100000):aP ak 24 #[s,most] w (λv w'=>∃a:Y,v=a/\a7 1 5 w' a (aF (l.take most))/\Ext w w'/\∀q,aC a q->w.heap.size<=q):=by
 have hlen:=len8 hs;refine okF (af.tu s (most:Nat)) az.tu func24 ?_;delta af.tu al U;refine ct (λs2 w'=>w=w'/\Src 1 w s2 (aF (l.take most))/\s2.len<=most) (λq b=>⟨λh=>?_,λh=>?_⟩) ?_
 .have h:most<l.length:=by have:=b_ h;omega
  refine⟨⟨I,I⟩,b _ _ ⟨rfl,?_,by simp⟩⟩;have:=l5 hs hc (lo:=0) (hi:=most) I I;simpa using this
 .have h:l.length<=most:=by have:=cG h;omega
  rw[dP h]at b;exact b _ _ ⟨rfl,hs,I⟩
 rintro s2 _ ⟨rfl,h2,i⟩;obtain⟨c,d,av,ax,j,e,f,_⟩:=qo.clone (dG:=48) h2 (k8 _) I;exact aY ⟨c,d,av,c,rfl,ax,e,f⟩
instance (n:Nat) (root aE:Int):Decidable (o6 n root aE):=by unfold o6;infer_instance
theorem oI{w:J}{tk dC:Y}{key val:Key}(kind n:Int)(H:Src 1 w tk (aF key))(K:tk.len<=tk.cap)(g:Src 1 w dC (aF val))(L:dC.len<=dC.cap):
 aP ak 21 #[.agg #[kind,tk,dC,n]] w (λv w'=>∃b sv:Y,v=.agg #[kind,b,sv,n]/\Ext w w'/\
  bk (λq=>w.heap.size<=q) w' b (key.take 26)/\bk (λq=>w.heap.size<=q) w' sv (val.take 26)):=by
 refine okF (af.oI kind tk dC n) az.oI func21 ?_;(delta af.oI rW U ag aW st r1;dsimp only);refine bl (vs:=[kind,tk,dC,n]) rfl λw1 M A Z=>bl (vs:=[(0:Int),(),(),(0:Int)]) rfl λah N s aa=>aY ?_;obtain⟨c,B⟩:∃c,c=ah.drew:=⟨_,rfl⟩;rw[←B];have j:Ext ah c:=by rw[B];exact cw _
 have t:=(M.ext s).ext j;have O:=N.ext j;have u:=Ext.trans (Ext.trans A s) j;have ac:=A.size;have ae:=s.size;have ai:=j.size;refine⟨λq=>c.heap.size<=q,λh=>?_,tk,by rw[ay];exact t.cell,λh=>?_,dC,by rw[ay];exact t.cell,(w2 (H.ext u) K 26 I).use ?_⟩
 .have h:c.heap.size<=w.heap.size:=h
  omega
 .have h:c.heap.size<=w.heap.size:=h
  omega
 rintro _ aj ⟨b,rfl,P,d,k⟩;refine⟨b,rfl,ad.cK d,(w2 (g.ext (Ext.trans u d)) L 26 I).use ?_⟩;rintro _ C ⟨sv,rfl,Q,f,l⟩;have al:=d.size;have am:=f.size;have D:=(t.ext d).ext f;have R:=(O.ext d).ext f;obtain⟨bN,bZ⟩:=dB D (i:=1) (by simp);have E:=dI D (i:=1) b;have m:=dg C w.heap.size 1 b;obtain⟨S,T⟩:=dB E (i:=2) (by simp);have o:=dI E (i:=2) sv;have p:=dg (C.setCell ⟨w.heap.size,0+1,none⟩ b) w.heap.size 2 sv;have F:¬w1.heap.size=w.heap.size:=by omega
 have G:=(R.ab m F).ab p F;rw[ay,ay];refine⟨sv,rfl,ad.cK f,bN,bZ,aY ⟨S,T,aY ?_⟩⟩;refine⟨_,o.cell,b,o.cell,sv,o.cell,n,by rw[ay];exact o.cell,G.b2 rfl (λv g=>?_),rfl,cp G (us:=[kind,b,sv,n]) rfl rfl λV r x an=>?_⟩
 .simp only[cP,eE,eL]at g
  rcases g with rfl|rfl|rfl|rfl<;>trivial
 have W:=Ext.trans (Ext.trans u d) f;have X:Ext w V:=Ext.ck (Ext.ck (Ext.ck W m (bo _)) p (bo _)) x I;have y:=(((P.ext f).ab m λq a e=>by have:=k q a;omega).ab p λq a e=>by have:=k q a;omega).ab x λq a e=>by have:=k q a;omega
 have z:=((Q.ab m λq a e=>by have:=l q a;omega).ab p λq a e=>by have:=l q a;omega).ab x λq a e=>by have:=l q a;omega
 exact⟨_,r.cell,b,by rw[ay];exact r.cell,sv,by rw[ay];exact r.cell,n,by rw[ay];exact r.cell,b,sv,rfl,X,⟨y.src,y.2.1,λq a=>⟨by have:=k q a;omega,y.lt q a⟩⟩,z.src,z.2.1,λq a=>⟨by have:=l q a;omega,z.lt q a⟩⟩
structure mg where
 now:O aR
 sure:O aR
 ir:Y
 ss:Y
 j_:Nat
 clock:Nat
 first:Nat
 db:Nat
 Fp:Nat
def mg.rest(m:mg):O aa:=[m.ss,m.j_,.int .u64 (m.clock:Nat),.int .u64 (m.first:Nat),.int .u64 (m.db:Nat),.int .u64 (m.Fp:Nat)]
structure mh(B:Nat->Prop)(w:J)(ef:Nat)(m:mg):Prop where
 now:nt m.rest 90 B w ef m.ir m.now
 sure:mf B w m.ss m.sure
 num:m.clock<18446744073709551616/\(m.j_≠0->m.first<=m.clock)
section
variable {B C W:Nat->Prop}{w w':J}{ef:Nat}{m:mg}
theorem mh.ab(h:mh B w ef m)(hc:ad W w w')(b:¬W ef)(a:∀k,B k->k<w.heap.size->¬W k):mh B w' ef m:=⟨h.now.ab hc b a,h.sure.ab hc a,h.num⟩
theorem mh.aV(h:mh B w ef m)(a:∀k,k<w.heap.size->B k->C k)(b:¬C ef):mh C w ef m:=⟨h.now.aV a b,h.sure.aV a,h.num⟩
theorem w3(d i k:Nat):Addr.add ⟨d,i,none⟩ k=⟨d,i+k,none⟩:=by
 rw[ay]
end
structure cM where
 root:Nat
 aE:Nat
 map:Nat
 clock:Nat
 db:Nat
 keys:Nat
 deriving DecidableEq
def fU:cM:=⟨0,0,0,0,0,0⟩
def cM.c(u:cM):O aa:=[u.root,u.aE,u.map,.int .u64 (u.clock:Nat),.int .u64 (u.db:Nat),u.keys]
structure mi(u:cM):Prop where
 root:u.root<4294967296
 aE:u.aE<256
 map:u.map<4294967296
 clock:u.clock<18446744073709551616
 db:u.db<18446744073709551616
 keys:u.keys<4294967296
def gy(u:cM)(n:Nat):O UInt8:=[]++bU u.root 4++bU u.aE 1++bU u.map 4++bU n 4++bU u.clock 8++bU u.db 8++bU u.keys 4
def nu(b:O UInt8):cM:=⟨cW b 0 4,cW b 4 1,cW b 5 4,cW b 13 8,cW b 21 8,cW b 29 4⟩
def jo(u:cM)(n:Nat):Prop:=(u.root=0↔u.aE=0)/\u.aE<=12/\u.root<n/\u.map<n/\2<=u.map/\n<=1600
instance GF(u:cM)(n:Nat):Decidable (jo u n):=by unfold jo;infer_instance
def gn(no:Int)(l:O UInt8):Except Int (cM×Nat×Nat):=match dk no l with
 | .error e=>.error e
 | .ok p=>if p.kind≠3\/p.body.length≠33 then .error 4 else if jo (nu p.body) (cW p.body 9 4) then .ok (nu p.body,cW p.body 9 4,p.gen) else .error 4
theorem AI(u:cM)(n:Nat):(gy u n).length=33:=by simp[gy,eC]
theorem Fq{u:cM}{n:Nat}(h:mi u)(c:n<4294967296):nu (gy u n)=u/\cW (gy u n) 9 4=n:=by
 have e:∀ {k x m:Nat} (a b:O UInt8),gy u n=a++(bU x k++b)->a.length=m->x<256^k->cW (gy u n) m k=x:=λa b he d hx=>by rw[he];exact qs d hx
 have f:=h.keys;refine⟨?_,e (bU u.root 4++bU u.aE 1++bU u.map 4) (bU u.clock 8++(bU u.db 8++bU u.keys 4)) (by simp[gy]) (by simp[eC]) c⟩;unfold nu;rw[e (m:=0) [] (bU u.aE 1++(bU u.map 4++(bU n 4++(bU u.clock 8++(bU u.db 8++bU u.keys 4))))) (by simp[gy]) rfl h.root,
  e (bU u.root 4) (bU u.map 4++(bU n 4++(bU u.clock 8++(bU u.db 8++bU u.keys 4)))) (by simp[gy]) (by simp[eC]) h.aE,
  e (bU u.root 4++bU u.aE 1) (bU n 4++(bU u.clock 8++(bU u.db 8++bU u.keys 4))) (by simp[gy]) (by simp[eC]) h.map,
  e (bU u.root 4++bU u.aE 1++bU u.map 4++bU n 4) (bU u.db 8++bU u.keys 4) (by simp[gy]) (by simp[eC]) h.clock,
  e (bU u.root 4++bU u.aE 1++bU u.map 4++bU n 4++bU u.clock 8) (bU u.keys 4) (by simp[gy]) (by simp[eC]) h.db,
  e (bU u.root 4++bU u.aE 1++bU u.map 4++bU n 4++bU u.clock 8++bU u.db 8) [] (by simp[gy]) (by simp[eC]) f]
def ia(u:cM)(n gen:Nat):g4:=⟨3,gen,gy u n⟩
theorem w4{u:cM}{n gen:Nat}(hg:gen<18446744073709551616):l3 (ia u n gen):=⟨(by decide:1<=3),(by decide:3<=4),hg,by show(gy u n).length<=232;rw[AI];decide⟩
theorem AJ{u:cM}{n gen no:Nat}(h:mi u)(hu:jo u n)(hg:gen<18446744073709551616)(a:no<1600):gn no (d_ no (ia u n gen))=.ok (u,n,gen):=by
 unfold gn;rw[tH a (w4 hg)];have b:n<4294967296:=by have:=hu.2.2.2.2.2;omega
 obtain⟨h1,h2⟩:=Fq h b;show(if (3:Nat)≠3\/(gy u n).length≠33 then _ else if jo (nu (gy u n)) (cW (gy u n) 9 4) then Except.ok (nu (gy u n),cW (gy u n) 9 4,gen) else _)=_;rw[h1,h2,if_neg (by rw[AI];simp),if_pos hu]
section
variable {w w':J}{h:Nat}{vs:O aa}{u:cM}
theorem cM.plain(u:cM):∀v∈u.c,Plain v:=by
 intro v a;simp only[cM.c,cP,eE,eL]at a;rcases a with rfl|rfl|rfl|rfl|rfl|rfl<;>trivial
theorem gp(a:Var w h u.c 104){K:Int->Int->Int->Int->Int->Int->Prop}(e:K (u.root:Nat) (u.aE:Nat) (u.map:Nat) (u.clock:Nat) (u.db:Nat) (u.keys:Nat)):
 ∃bJ:Int,w.cell? h=some (.int .i64 bJ)/\∃bp:Int,w.cell? (Addr.add h 1)=some (.int .i64 bp)/\∃b:Int,w.cell? (Addr.add h 2)=some (.int .i64 b)/\
  ∃d:Int,w.cell? (Addr.add h 3)=some (.int .u64 d)/\∃n5:Int,w.cell? (Addr.add h 4)=some (.int .u64 n5)/\∃n6:Int,w.cell? (Addr.add h 5)=some (.int .i64 n6)/\K bJ bp b d n5 n6:=
 ⟨_,a.cell,_,by rw[ay];exact a.cell,_,by rw[ay];exact a.cell,_,by rw[ay];exact a.cell,_,by rw[ay];exact a.cell,_,by rw[ay];exact a.cell,e⟩
theorem iT(a:Var w h vs 104)(b:vs.length=6)(u:cM){K:J->Prop}(d:∀ah,Var ah h u.c 104->ad (λq=>q=h) w ah->ah.heap.size=w.heap.size->K ah):
 bt w h [u.root,u.aE,u.map,.int .u64 (u.clock:Nat),.int .u64 (u.db:Nat),u.keys]/\(6:Nat)=6/\
  an (setCells w h 0 [u.root,u.aE,u.map,.int .u64 (u.clock:Nat),.int .u64 (u.db:Nat),u.keys]) K:=
 ⟨a.b2 (by rw[b];rfl) u.plain,rfl,cp a (us:=u.c) (by rw[b];rfl) rfl λah e hc f=>d ah e hc f⟩
end
theorem om{w:J}{u:cM}(h:mi u){n:Nat}(y:n<4294967296):aP ak 138 #[.agg u.c.toArray,n] w (λv w'=>∃s:Y,v=s/\a7 1 5 w' s (aF (gy u n))/\Ext w w'/\gl w s):=by
 have h1:=h.root;have h2:=h.aE;have z:=h.map;have W:=h.clock;have X:=h.db;have A:=h.keys;have a:∀ {x:Nat},x<4294967296->IntKind.wrap .u64 (x:Int)=(x:Int):=λ{x} hx=>gJ I I;refine okF (af.om (u.root:Nat) (u.aE:Nat) (u.map:Nat) (u.clock:Nat) (u.db:Nat) (u.keys:Nat) (n:Nat)) az.om func138 ?_;(delta af.om r1 U aW bF;dsimp only);refine bl (vs:=u.c) rfl λw1 b B Z=>⟨_,b.cell,?_⟩;rw[a h1];refine(g1 (s:=⟨none,0,0⟩) (l:=[]) (a7.none 1 5 w1).src (cN _) (n:=u.root) I (by decide)).use ?_;rintro _ ah ⟨s2,rfl,C,d,aa⟩;have e:=b.ext d;refine⟨s2,rfl,_,by rw[ay];exact e.cell,?_⟩;rw[a (x:=u.aE) I];refine(g1 C.src (by simp[eC]) (n:=u.aE) I (by decide)).use ?_;rintro _ ab ⟨D,rfl,E,f,ac⟩;have g:=e.ext f;refine⟨D,rfl,_,by rw[ay];exact g.cell,?_⟩;rw[a z];refine(g1 E.src (by simp[eC]) (n:=u.map) I (by decide)).use ?_;rintro _ ad ⟨F,rfl,G,i,ae⟩;have H:=g.ext i;refine⟨F,rfl,?_⟩;rw[a y];refine(g1 G.src (by simp[eC]) (n:=n) I (by decide)).use ?_;rintro _ ag ⟨K,rfl,L,j,ai⟩;have k:=H.ext j;refine⟨K,rfl,_,by rw[ay];exact k.cell,?_⟩;refine(g1 L.src (by simp[eC]) (n:=u.clock) I (by decide)).use ?_;rintro _ aj ⟨M,rfl,N,m,al⟩;have o:=k.ext m;refine⟨M,rfl,_,by rw[ay];exact o.cell,?_⟩;refine(g1 N.src (by simp[eC]) (n:=u.db) I (by decide)).use ?_;rintro _ am ⟨O,rfl,P,p,an⟩;have Q:=o.ext p;refine⟨O,rfl,_,by rw[ay];exact Q.cell,?_⟩;rw[a A];refine(g1 P.src (by simp[eC]) (n:=u.keys) I (by decide)).use ?_;rintro _ ao ⟨r,rfl,R,S,T⟩;have t:=Ext.trans (Ext.trans (Ext.trans (Ext.trans (Ext.trans (Ext.trans B d) f) i) j) m) p;refine⟨r,rfl,r,rfl,R,Ext.trans t S,λq V=>?_⟩;have:=T q V;have:=t.size;omega
theorem Fs{w:J}{b:Y}{l:O UInt8}{aU a k:Nat}(f:Var w aU [b,a] 316)(hs:Src 1 w b (aF l))(hc:b.len<=b.cap)(g:1<=k/\k<=8)(j:a+k<=l.length)(m:l.length<=1000):
 aP ak 226 #[.pointer (some aU),k] w (λv w'=>v=.int .u64 (cW l a k:Nat)/\Var w' aU [b,.int .i64 ((a+k:Nat):Int)] 316/\ad (λq=>q=aU) w w'):=by
 refine af.CA _ (k:Nat) w _ ?_;(delta af.qj ag r1 n4 st au;dsimp only);have d:=cw w;have c:=f.ext d;refine aY ⟨λ_=>False,_,rfl,id,b,c.cell,_,rfl,id,_,by rw[ay];exact c.cell,(jZ (hs.ext d) hc g j I).use ?_⟩;rintro _ _ ⟨rfl,rfl⟩;obtain⟨bN,bZ⟩:=dB c (i:=1) (by simp);refine⟨_,true,rfl,_,rfl,_,by rw[ay];exact c.cell,_,rfl,by rw[ay];exact bN,by rw[ay];exact bZ,aY ⟨rfl,?_,?_⟩⟩
 .rw[ay]
  have h1:=dI c (i:=1) (.int .i64 (IntKind.wrap .i64 ((a:Nat)+(k:Nat))));have e:IntKind.wrap .i64 ((a:Int)+(k:Int))=((a+k:Nat):Int):=by rw[bu I I];omega
  rw[e]at h1⊢;exact h1
 .rw[ay]
  exact cm (d.mono λ_ _ h=>h.elim) (dg _ _ _ _) λq _ e=>e
def AK:Except Int (cM×Nat×Nat)->aa
 | .ok (u,n,g)=>.tuple #[.agg u.c.toArray,n,.int .u64 (g:Nat),(0:Int)]
 | .error e=>.tuple #[.agg fU.c.toArray,(0:Int),.int .u64 0,e]
theorem w5{no:Int}{l:O UInt8}{e:Int}(h:dk no l=.error e):e≠0:=by
 unfold dk at h
 repeat' split at h
 all_goals first|(cases h;decide)|cases h
theorem ov{s:Y}{l:O UInt8}{w:J}(hs:Src 1 w s (aF l))(hc:s.len<=s.cap)(aQ:l.length<=1000)(no:Int):
 aP ak 171 #[.int .i64 no,.slice s.a s.len s.cap] w (λv w'=>v=AK (gn no l)/\Ext w w'):=by
 refine okF (af.ov no s) az.ov func171 ?_;(delta af.ov gD kv z3 U al r1 bF ag e3 fP st au;dsimp only);refine bl (vs:=fU.c) rfl λw1 ai H bD=>(lV (hs.ext H) hc aQ no).use ?_;rintro _ ah ⟨r,W⟩;obtain⟨d,aR⟩:∃d,d=w.heap.size:=⟨_,rfl⟩;rw[←aR]at ai⊢;have L:=ai.ext W
 cases B:dk no l with
 |error e=>
  rw[B]at r;have X:=w5 B;have hd:gn no l=.error e:=by unfold gn;rw[B]
  rw[hd];obtain rfl:_=_:=r;refine⟨0,0,⟨none,0,0⟩,e,rfl,bl (vs:=[.int .i64 0,.int .u64 0,.slice none 0 0]) rfl λaS M aj aT=>⟨M.b2 rfl (λv N=>?_),rfl,cp M (us:=[.int .i64 0,.int .u64 0,.slice none 0 0]) rfl rfl λC t am aV=>⟨λ_=>?_,λh=>?_⟩⟩⟩
  .simp only[cP,eE,eL]at N
   rcases N with rfl|rfl|rfl<;>trivial
  .have y:Ext ah C:=Ext.ck aj am (bo _)
   have m:=L.ext y;refine gp (u:=fU) m (iT m rfl fU λD ao aW bE=>gp (u:=fU) ao ⟨rfl,?_⟩);exact Ext.ck (Ext.trans (Ext.trans H W) y) aW I
  .simp at h;exact absurd h X
 |ok p=>
  rw[B]at r;obtain⟨sb,rfl,Z,aX⟩:=r;refine⟨_,_,sb,0,rfl,bl (vs:=[.int .i64 0,.int .u64 0,.slice none 0 0]) rfl λaS M aj aT=>⟨M.b2 rfl (λv N=>?_),rfl,cp M (us:=[.int .i64 (p.kind:Nat),.int .u64 (p.gen:Nat),.slice sb.a sb.len sb.cap]) rfl rfl λC t am aV=>⟨λh=>(by simp at h),λ_=>⟨_,t.cell,?_⟩⟩⟩⟩
  .simp only[cP,eE,eL]at N
   rcases N with rfl|rfl|rfl<;>trivial
  have y:Ext ah C:=Ext.ck aj am (bo _);have ap:=Ext.trans (Ext.trans H W) y;obtain⟨P,aZ⟩:∃P,P=ah.heap.size:=⟨_,rfl⟩;rw[←aZ]at t⊢;have m:=L.ext y;have a0:sb.len=p.body.length:=by have:=Z.1;rw[dA]at this;omega
  have bG:=(Ext.trans H W).size;have a1:p.kind≠3\/p.body.length≠33->gn no l=.error 4:=λh=>by
   unfold gn;rw[B];exact if_pos h
  refine ct (λb w'=>b=decide (p.kind≠3\/p.body.length≠33)/\C=w') (λq f=>⟨λh=>f _ _ ⟨?_,rfl⟩,λh=>⟨sb,by rw[ay];exact t.cell,f _ _ ⟨?_,rfl⟩⟩⟩) ?_
  .have:p.kind≠3:=λe=>by rw[e]at h;simp at h
   rw[dL (.inl this)]
  .have a2:p.kind=3:=by
    have:((p.kind:Nat):Int)=3:=by simpa using h
    omega
   rw[a0,fD,cR];constructor
   .intro Q
    refine .inr λe=>?_;rw[e]at Q;simp at Q
   .rintro(Q|Q)
    .exact absurd a2 Q
    .rw[bne_iff_ne];omega
  rintro _ _ ⟨rfl,rfl⟩;have aH:∀ {D:J}{vs:O aa},Var D d vs 104->vs.length=6->Ext w D->(gn no l=.error 4)->bt D ⟨d,0,none⟩ [.int .i64 0,.int .i64 0,.int .i64 0,.int .u64 0,.int .u64 0,.int .i64 0]/\(6:Nat)=6/\an (setCells D ⟨d,0,none⟩ 0 [.int .i64 0,.int .i64 0,.int .i64 0,.int .u64 0,.int .u64 0,.int .i64 0]) λo=>
   ∃bJ:Int,o.cell? ⟨d,0,none⟩=some (.int .i64 bJ)/\∃bp:Int,o.cell? (Addr.add ⟨d,0,none⟩ 1)=some (.int .i64 bp)/\∃aI:Int,o.cell? (Addr.add ⟨d,0,none⟩ 2)=some (.int .i64 aI)/\
   ∃aJ:Int,o.cell? (Addr.add ⟨d,0,none⟩ 3)=some (.int .u64 aJ)/\∃n5:Int,o.cell? (Addr.add ⟨d,0,none⟩ 4)=some (.int .u64 n5)/\∃n6:Int,o.cell? (Addr.add ⟨d,0,none⟩ 5)=some (.int .i64 n6)/\
   (Value.tuple #[.agg #[.int .i64 bJ,.int .i64 bp,.int .i64 aI,.int .u64 aJ,.int .u64 n5,.int .i64 n6],.int .i64 0,.int .u64 0,.int .i64 4]=AK (gn no l)/\Ext w o):=by
   intro D vs ao a3 a4 hd;rw[hd];exact iT ao a3 fU λo a5 a6 bH=>gp (u:=fU) a5 ⟨rfl,Ext.ck a4 a6 I⟩
  refine⟨λh=>?_,λh=>?_⟩
  .exact gp (u:=fU) m (aH m rfl ap (a1 (b_ h)))
  have aq:=cG h;have bI:p.kind=3:=pw λh=>aq (.inl h);have bK:p.body.length=33:=pw λh=>aq (.inr h);have a7:=(Z.ext y).src;have a8:sb.len<=sb.cap:=Z.2.1;have aK:∀q,aC sb q->q<C.heap.size:=(Z.ext y).lt;refine⟨sb,by rw[ay];exact t.cell,bl (vs:=[.slice sb.a sb.len sb.cap,.int .i64 ((0:Nat):Int)]) rfl λa9 aL ac bL=>?_⟩;obtain⟨aU,a_⟩:∃aU,aU=C.heap.size:=⟨_,rfl⟩;rw[←a_]at aL aK⊢;have X:aU≠d:=by have:=m.lt;omega
  have ba:aU≠P:=by have:=t.lt;omega
  have bb:=a7.ext ac;have bc:=m.ext ac;have bd:=t.ext ac;have be:=Ext.trans ap ac;have bf:w.heap.size<=aU:=by have:=ap.size;omega
  obtain⟨cn,E⟩:∃cn:J->O aa->Nat->Prop,cn=λw' vs a=>Var w' aU [.slice sb.a sb.len sb.cap,.int .i64 ((a:Nat):Int)] 316/\Src 1 w' sb (aF p.body)/\Var w' d vs 104/\Var w' P [.int .i64 (p.kind:Nat),.int .u64 (p.gen:Nat),.slice sb.a sb.len sb.cap] 150/\Ext w w':=⟨_,rfl⟩;have bg:∀q,aC sb q->q≠d:=λq f e=>by
   have:=aX q f;have:=L.lt;have:=H.size;have:=ai.lt;omega
  have z:∀ {w':J}{vs:O aa}{a k:Nat}{R:Ending->J->Prop},cn w' vs a->1<=k/\k<=8->a+k<=33->(∀g,cn g vs (a+k)->R (.returned (.int .u64 (cW p.body a k:Nat))) g)->Calls ak 226 #[.pointer (some ⟨aU,0,none⟩),.int .i64 (k:Nat)] w' R:=by
   intro w' vs a k R A ar bM bh;rw[E]at A;obtain⟨bN,bZ,S,aw,aA⟩:=A;refine(Fs bN bZ a8 ar I I).use ?_;rintro _ g ⟨rfl,av,ax⟩;refine bh g ?_;rw[E];exact⟨av,bZ.ab ax λq f e=>by have:=aK q f;omega,S.ab ax (λe=>X e.symm),aw.ab ax (λe=>ba e.symm),Ext.ck aA ax bf⟩
  have je:∀ {w':J}{vs:O aa}{a:Nat} (j:Nat) (v:aa) {K:J->Prop},cn w' vs a->j<vs.length->(∀g,cn g (vs.set j v) a->K g)->(∃u:aa,w'.cell? ⟨d,j,none⟩=some u)/\w'.frozen? ⟨d,j,none⟩=false/\an (w'.setCell ⟨d,j,none⟩ v) K:=by
   intro w' vs a j v K A ad aB;rw[E]at A;obtain⟨bN,bZ,S,aw,aA⟩:=A;have hc:=dg w' d j v;refine⟨(dB S ad).1,(dB S ad).2,aY (aB _ ?_)⟩;rw[E];exact⟨bN.ab hc X,bZ.ab hc bg,dI S v,aw.ab hc (λe=>by have:=m.lt;have:=L.lt;omega),Ext.ck aA hc I⟩
  have T:∀ {w':J}{vs:O aa}{a:Nat} (j:Nat) (v:aa) {K:J->Prop},cn w' vs a->j<vs.length->(∀g,cn g (vs.set j v) a->K g)->(∃u:aa,w'.cell? (Addr.add ⟨d,0,none⟩ j)=some u)/\w'.frozen? (Addr.add ⟨d,0,none⟩ j)=false/\an (w'.setCell (Addr.add ⟨d,0,none⟩ j) v) K:=by
   intro w' vs a j v K A ad aB;rw[ay,cE];exact je j v A ad aB
  have bi:cn a9 fU.c 0:=by rw[E];exact⟨aL,bb,bc,bd,be⟩
  have ae:∀a,a+4<=33->cW p.body a 4<4294967296:=λa bj=>l0 4 _ (by rw[cC,cX];omega);have bk:cW p.body 4 1<256:=l0 1 _ (by rw[cC,cX];omega);have bO:∀a,a+8<=33->cW p.body a 8<18446744073709551616:=λa bj=>l0 8 _ (by rw[cC,cX];omega);have V:∀ {x:Nat},x<4294967296->IntKind.wrap .i64 ((x:Nat):Int)=((x:Nat):Int):=λhx=>bu I I;refine z (k:=4) bi (by decide) (by decide) λbP t43=>⟨_,rfl,z (k:=1) t43 (by decide) (by decide) λbR t46=>⟨_,rfl,z (k:=4) t46 (by decide) (by decide) λbS t49=>⟨_,rfl,?_⟩⟩⟩;rw[V (ae 0 (by decide)),V (x:=cW p.body (0+4) 1) (by have:=bk;show cW p.body 4 1<_;omega),V (ae (0+4+1) (by decide))];refine je 0 _ t49 (by simp[fU,cM.c]) λbT t52=>T 1 _ t52 (by simp[fU,cM.c]) λbU t53=>T 2 _ t53 (by simp[fU,cM.c]) λbV t54=>?_;refine(z (k:=4) t54 (by decide) (by decide) λbW t55=>⟨_,rfl,z (k:=8) t55 (by decide) (by decide) λbX t58=>⟨_,rfl,z (k:=8) t58 (by decide) (by decide) λbY t61=>⟨_,rfl,z (k:=4) t61 (by decide) (by decide) λb0 t64=>⟨_,rfl,?_⟩⟩⟩⟩);rw[V (ae (0+4+1+4) (by decide)),V (ae (0+4+1+4+4+8+8) (by decide))];refine T 3 _ t64 (by simp[fU,cM.c]) λb1 t67=>T 4 _ t67 (by simp[fU,cM.c]) λb3 t68=>T 5 _ t68 (by simp[fU,cM.c]) λF t69=>?_;obtain⟨u,hu⟩:∃u,u=nu p.body:=⟨_,rfl⟩;obtain⟨n,aM⟩:∃n,n=cW p.body 9 4:=⟨_,rfl⟩;rw[E]at t69;obtain⟨_,_,i,bm,aN⟩:=t69;have i:Var F d u.c 104:=by rw[hu];exact i
  have r:gn no l=if jo u n then .ok (u,n,p.gen) else .error 4:=by
   unfold gn;rw[B,hu,aM];exact if_neg aq
  rw[show cW p.body (0+4+1+4) 4=n from aM.symm];refine⟨(u.root:Nat),i.cell,(u.aE:Nat),by rw[ay];exact i.cell,ct (λb w'=>b=(!((((u.root:Nat):Int)==0)==(((u.aE:Nat):Int)==0))||decide (((u.aE:Nat):Int)>12))/\F=w') (λq f=>⟨λh=>f _ _ ⟨by rw[h,Bool.true_or],rfl⟩,λh=>⟨_,by rw[ay];exact i.cell,f _ _ ⟨by rw[h,kK],rfl⟩⟩⟩) ?_⟩;rintro cd _ ⟨bn,rfl⟩;refine ct (λb w'=>b=(cd||decide (((u.root:Nat):Int)>=(n:Nat)))/\F=w') (λq f=>⟨λh=>f _ _ ⟨by rw[h,Bool.true_or],rfl⟩,λh=>⟨_,i.cell,f _ _ ⟨by rw[h,kK],rfl⟩⟩⟩) ?_;rintro bQ _ ⟨bq,rfl⟩;refine ct (λb w'=>b=(bQ||decide (((u.map:Nat):Int)>=(n:Nat)))/\F=w') (λq f=>⟨λh=>f _ _ ⟨by rw[h,Bool.true_or],rfl⟩,λh=>⟨_,by rw[ay];exact i.cell,f _ _ ⟨by rw[h,kK],rfl⟩⟩⟩) ?_;rintro br _ ⟨bs,rfl⟩;refine ct (λb w'=>b=(br||decide (((u.map:Nat):Int)<2))/\F=w') (λq f=>⟨λh=>f _ _ ⟨by rw[h,Bool.true_or],rfl⟩,λh=>⟨_,by rw[ay];exact i.cell,f _ _ ⟨by rw[h,kK],rfl⟩⟩⟩) ?_;rintro bv _ ⟨bw,rfl⟩;have bx:(bv||decide (((n:Nat):Int)>1600))= !decide (jo u n):=by
   have bz:(((u.root:Nat):Int)==0)=decide (u.root=0):=by rw[fD];simp
   have bA:(((u.aE:Nat):Int)==0)=decide (u.aE=0):=by rw[fD];simp
   rw[bw,bs,bq,bn,bz,bA,fD];unfold jo;by_cases h1:u.root=0<;>by_cases h2:u.aE=0<;>simp[h1,h2]<;>omega
  rw[bx];refine⟨λh=>?_,λh=>?_⟩
  .have bB:¬jo u n:=λhg=>by rw[dL hg]at h;cases h
   exact aH i rfl aN (by rw[r,if_neg bB])
  .have hg:jo u n:=pw λhg=>by rw[ig hg]at h;cases h
   rw[r,if_pos hg];have aD:=cw F;have aG:=i.ext aD;have bC:=bm.ext aD;have b4:d≠P:=by have:=m.lt;have:=L.lt;omega
   refine aY ⟨λ_=>False,id,gp aG ⟨id,_,by rw[ay];exact bC.cell,iT aG rfl u λb5 aO G b6=>⟨?_,gp aO ⟨rfl,Ext.ck (Ext.trans aN aD) G I⟩⟩⟩⟩;refine⟨G.os,G.tape,G.output,G.size,λk ar _=>?_⟩;by_cases e:k=d
   .rw[e];exact aO.trans aG.symm
   .exact G.block k ar e
section
variable {α:Type}{P:Program}{w w':J}{gK e1 T:TypeId}{enc:α->aa}{r m:Nat}{L:O (α×aa×Nat)}{seen:O Nat}
structure jI(w:J)(r m:Nat)(enc:α->aa)(L:O (α×aa×Nat))(seen:O Nat):Prop where
 it:∃a:Nat,w.heap[r]? =some (.mapIter (some m) a seen.toArray a)/\w.heap[m]? =some (.map (L.map (dn enc)).toArray a)/\∀x∈L,x.2.2<a
 bj:(L.map (·.2.2)).Nodup
def fL(L:O (α×aa×Nat))(seen:O Nat):O (α×aa×Nat):=L.filter λx=> !seen.contains x.2.2
theorem AL(P:Program){n:Nat}(b:1<=n)(w:J):∃ (i:Nat) (w':J),i<n/\(choose (.mapNext n)).run P w=.ok i w'/\(w'=w\/w'=w.drew):=by
 by_cases h:n<=1
 .refine⟨0,w,I,?_,.inl rfl⟩
  show Sem.run P (.choose (.mapNext n) .pure) w=_;have a:(Question.mapNext n).forced=true:=by simp[Question.forced,h]
  simp only[Sem.run,a,if_true]
 .refine⟨(Question.mapNext n).cut (w.tape w.drawn (.mapNext n)),w.drew,gB _ I,?_,.inr rfl⟩
  show Sem.run P (.choose (.mapNext n) .pure) w=_;have a:(Question.mapNext n).forced=false:=by simp[Question.forced,h]
  simp only[Sem.run,a,fC,if_false];rfl
theorem w6{a:aq Nat}{b d:Nat}{c:Array Nat}(h:w.heap[r]? =some (.mapIter a b c d)):(getObj r).run P w=.ok (.mapIter a b c d) w:=by simp[getObj,Sem.run,h]
theorem Ft{a:aq Nat}{b d:Nat}{c:Array Nat}(h:w.heap[r]? =some (.mapIter a b c d))(e:Obj):(setObj r e).run P w=.ok () (hA w r e):=by simp[setObj,Sem.run,h,hA]
theorem jI.begin{M:O (α×aa)}(h:dV w m enc M){T:TypeId}{gK e1:TypeId}(b:P.underlying T=some (.map gK e1)):∃ (L:O (α×aa×Nat)) (w1:J),(L.map kt).Perm M/\(Instr.range T (.map (some m))).run P w=.ok (.pointer (some w.heap.size)) w1/\jI w1 w.heap.size m enc L []/\Ext w w1/\w1.heap.size=w.heap.size+1:=by
 have aK:=h.lt;obtain⟨L,a,h1,h2,e,c,d⟩:=h;refine⟨L,w.alloc (.mapIter (some m) a #[] a),h2,?_,⟨⟨a,?_,?_,d⟩,c⟩,ad.alloc (.refl _ _) _,by simp⟩
 .simp only[Instr.range,Sem.run_bind,c2 b,Result.andThen,k1 h1,Sem.run_pure,newObj,Sem.run]
  rfl
 .show(w.heap.push _)[w.heap.size]? =_
  simp
 .show(w.heap.push _)[m]? =_
  rw[Array.getElem?_push_lt aK];exact(Array.getElem?_eq_getElem aK).symm.trans h1
theorem jI.next(h:jI w r m enc L seen)(E:r≠m)(T:TypeId):
 (fL L seen=[]/\∃w1,(Instr.next (.pointer (some r)) false T).run P w=.ok (.tuple #[false]) w1/\Ext w w1/\w1.heap=w.heap)\/
 (∃x∈fL L seen,∃w1,(Instr.next (.pointer (some r)) false T).run P w=.ok (.tuple #[true,enc x.1,x.2.1]) w1/\jI w1 r m enc L (seen++ [x.2.2])/\ad (λq=>q=r) w w1/\w1.heap.size=w.heap.size/\(Instr.entry (.pointer (some r))).run P w1=.ok (.tuple #[enc x.1,x.2.1]) w1):=by
 obtain⟨⟨a,h1,h2,d⟩,j⟩:=h;have k:(!seen.toArray.isEmpty&& !((L.map (dn enc)).toArray).isEmpty&&((L.map (dn enc)).toArray).all λe=>decide (e.born>=a))=false:=by
  cases L with
  |nil=>simp
  |cons x L=>
   have:¬a<=x.2.2:=by have:=d x (by simp);omega
   simp[dn,this]
 have f:((L.map (dn enc)).toArray.filter λe=> !seen.toArray.contains e.born)=((fL L seen).map (dn enc)).toArray:=by
  rw[List.filter_toArray,List.filter_map]
  congr 1
  unfold fL
  congr 1
  apply List.filter_congr;intro x _;simp only[Function.comp,dn,List.contains_toArray]
 have aK:∀x∈fL L seen,x.2.2<a:=λx hx=>d x (gI.1 hx).1;have hold:(((fL L seen).map (dn enc)).toArray.filter λe=>decide (e.born<a))=((fL L seen).map (dn enc)).toArray:=by
  rw[List.filter_toArray,kO.2];intro e he;obtain⟨x,hx,rfl⟩:=dU.1 he;exact dL (aK x hx)
 have g:(((fL L seen).map (dn enc)).toArray.filter λe=>decide (e.born>=a))= #[]:=by
  rw[List.filter_toArray,pk.2];intro e he;obtain⟨x,hx,rfl⟩:=dU.1 he;have:=aK x hx;have F:¬a<=x.2.2:=by omega
  simp[dn,F]
 cases b:fL L seen with
 |nil=>
  rw[b]at f hold g;obtain⟨i,w1,hi,hc,c⟩:=AL P (n:=1) (bo _) w;have G:i=0:=by omega
  subst G;refine .inl ⟨rfl,w1,?_,?_,?_⟩
  .simp only[Instr.next,Sem.run_bind,w6 h1,Result.andThen,k1 h2,k,fC,if_false,f,hold,g]
   simp only[List.map_nil,Array.isEmpty,q4,jQ,decide_true,if_true];have e:(#[none]++((#[]:Array MapEntry)++ #[]).map some:Array (aq MapEntry)).size=1:=by simp
   have o:((#[none]++((#[]:Array MapEntry)++ #[]).map some:Array (aq MapEntry)))[0]? =some none:=by simp
   simp only[e,Sem.run_bind,hc,Result.andThen,o,Sem.run_pure,Sem.run_pure]
  .rcases c with rfl|rfl
   .exact .refl _ _
   .exact ad.drew (.refl _ _)
  .rcases c with rfl|rfl<;>rfl
 |cons y l=>
  right;rw[←b];have v:1<=(fL L seen).length:=by rw[b];simp
  obtain⟨i,w1,hi,hc,c⟩:=AL P (n:=(fL L seen).length) v w;have p:w1.heap=w.heap:=by rcases c with rfl|rfl<;>rfl
  obtain⟨x,hx⟩:∃x,x=(fL L seen)[i]:=⟨_,rfl⟩;have s:x∈fL L seen:=by rw[hx];exact cr _
  have A:x∈L:=(gI.1 s).1;have B:w1.heap[r]? =some (.mapIter (some m) a seen.toArray a):=by rw[p];exact h1
  have H:r<w1.heap.size:=(kL.1 B).1;have t:(hA w1 r (.mapIter (some m) a (seen.toArray.push x.2.2) a)).heap[r]? =some (.mapIter (some m) a (seen++ [x.2.2]).toArray a):=by
   rw[rJ H];simp
  have u:(hA w1 r (.mapIter (some m) a (seen.toArray.push x.2.2) a)).heap[m]? =some (.map (L.map (dn enc)).toArray a):=by
   have C:w1.heap[m]? =some (.map (L.map (dn enc)).toArray a):=by rw[p];exact h2
   rw[(pX w1 r _).block m (kL.1 C).1 (λe=>E e.symm)];exact C
  refine⟨x,s,hA w1 r (.mapIter (some m) a (seen.toArray.push x.2.2) a),?_,⟨⟨a,t,u,d⟩,j⟩,?_,?_,?_⟩
  .simp only[Instr.next,Sem.run_bind,w6 h1,Result.andThen,k1 h2,k,fC,if_false,f,hold,g]
   have I:((fL L seen).map (dn enc)).toArray.isEmpty=false:=by rw[b];rfl
   have e:((#[]:Array (aq MapEntry))++(((fL L seen).map (dn enc)).toArray++ #[]).map some).size=(fL L seen).length:=by simp
   have o:((#[]:Array (aq MapEntry))++(((fL L seen).map (dn enc)).toArray++ #[]).map some)[i]? =some (some (dn enc x)):=by
    simp[hi,hx]
   simp only[I,fC,if_false,e,Sem.run_bind,hc,Result.andThen,o,Ft B,Sem.run_pure,dn]
  .have J:ad (λq=>q=r) w w1:=by
    rcases c with rfl|rfl
    .exact .refl _ _
    .exact ad.drew (.refl _ _)
   exact J.trans (pX _ _ _)
  .rw[rI,p]
  .have K:(seen++ [x.2.2]).toArray.back? =some x.2.2:=by simp
   have hf:((L.map (dn enc)).toArray.find? λe=>e.born==x.2.2)=some (dn enc x):=by
    rw[List.find?_toArray,List.find?_map];have:L.find? ((λe:MapEntry=>e.born==x.2.2)∘dn enc)=some x:=by
     clear b v hi hc s hx t u f hold g aK k h2 d
     induction L with
     |nil=>cases A
     |cons z L M=>
      rw[iC]at j;obtain⟨bJ,bp⟩:=List.nodup_cons.1 j;rw[List.find?_cons];rcases cP.1 A with rfl|D
      .simp[dn]
      .have N:z.2.2≠x.2.2:=λe=>bJ (by rw[e];exact dU.2 ⟨x,D,rfl⟩)
       have:((λe:MapEntry=>e.born==x.2.2)∘dn enc) z=false:=by simp[dn,N]
       rw[this];exact M bp D
    rw[this];rfl
   have O:(a !=a)=false:=by simp
   simp only[Instr.entry,Sem.run_bind,w6 t,Result.andThen,K,k1 u,O,fC,if_false,hf,Sem.run_pure,dn]
theorem dV.clear{M:O (α×aa)}(h:dV w m enc M){o:TypeId}(b:P.underlying T=some (.map gK e1)):∃w1,(Builtin.clear_ #[T] o #[.map (some m)]).run P w=.ok (.tuple #[]) w1/\dV w1 m enc ([]:O (α×aa))/\ad (λq=>q=m) w w1/\w1.heap.size=w.heap.size:=by
 have aK:=h.lt;obtain⟨L,a,h1,h2,c,d,e⟩:=h;refine⟨hA w m (.map #[] a),?_,⟨[],a,rJ aK _,by simp,by simp,by simp,by simp⟩,pX _ _ _,rI _ _ _⟩;unfold Builtin.clear_;simp only[ph,lz,Sem.run_bind,c2 b,Result.andThen,k1 h1,vd h1,Sem.run_pure]
end
theorem AM{w:J}{lb:Nat}{ls:O cL}{T:TypeId}(h:bm w lb (b5 aF ls).toArray T)(hs:∀x∈ls,x.length=256){i:Nat}(hi:i<ls.length){x:cL}(hx:x.length=256):
 bt w ⟨lb,i*256,none⟩ (aF x)/\bm (setCells w ⟨lb,i*256,none⟩ 0 (aF x)) lb (b5 aF (ls.set i x)).toArray T/\ad (λq=>q=lb) w (setCells w ⟨lb,i*256,none⟩ 0 (aF x)):=by
 have a:∀x∈ls,(aF x).length=256:=λx hx=>by rw[dA];exact hs x hx
 have f:=gQ (c:=aF) ls a;have b:(aF x).length=256:=by rw[dA];exact hx
 have d:i*256+(aF x).length<=(b5 aF ls).toArray.size:=by
  rw[q4,f,b];omega
 refine⟨bm.b2 h _ _ d (k8 _),?_,ad.jW (.refl _ _) _ 0⟩;have h0:=bm.je (o:=i*256) h (aF x);have h1:=ku (aF x) (b5 aF ls).toArray (i*256) d;have h2:=zr a hi x;rw[b]at h1;have g:(fZ (b5 aF ls).toArray (i*256) (aF x)).toList=b5 aF (ls.set i x):=h1.trans h2;have e:fZ (b5 aF ls).toArray (i*256) (aF x)=(b5 aF (ls.set i x)).toArray:=by rw[←g]
 rw[e]at h0;exact h0
theorem Fu{α:Type}{L:O (α×aa×Nat)}{seen:O Nat}{x:α×aa×Nat}(h:x∈fL L seen):(fL L (seen++ [x.2.2])).length<(fL L seen).length:=by
 have e:fL L (seen++ [x.2.2])=(fL L seen).filter λy=> !(y.2.2==x.2.2):=by
  unfold fL;rw[List.filter_filter];apply List.filter_congr;intro y _;rw[fD];simp only[kg,dT,List.contains_eq_mem,kh,cH,e0,beq_eq_false_iff_ne];constructor
  .exact λh=>⟨λh2=>h (.inr h2),λh2=>h (.inl h2)⟩
  .rintro⟨h1,h2⟩ (a|a)
   .exact h2 a
   .exact h1 a
 rw[e];exact List.length_filter_lt_length_iff_exists.2 ⟨x,h,by simp⟩
def w7{α:Type}(L:O (α×aa×Nat))(r:Nat)(w:J):Nat:=match w.heap[r]? with
 |some (.mapIter _ _ seen _)=>(fL L seen.toList).length
 |_=>0
theorem jI.left{α:Type}{w:J}{r m:Nat}{enc:α->aa}{L:O (α×aa×Nat)}{seen:O Nat}(h:jI w r m enc L seen):w7 L r w=(fL L seen).length:=by
 obtain⟨⟨a,h1,_⟩,_⟩:=h;unfold w7;rw[h1]
theorem jI.ab{α:Type}{W:Nat->Prop}{w w':J}{r m:Nat}{enc:α->aa}{L:O (α×aa×Nat)}{seen:O Nat}(h:jI w r m enc L seen)(hc:ad W w w')(a:¬W r)(b:¬W m):jI w' r m enc L seen:=by
 obtain⟨⟨c,h1,h2,d⟩,e⟩:=h;exact⟨⟨c,by rw[hc.block r (kL.1 h1).1 a];exact h1,by rw[hc.block m (kL.1 h2).1 b];exact h2,d⟩,e⟩
def aX.ib(D:aX):aX:={D with bc:=(List.range D.n).map D.now,waits:=[]}
theorem qI(D:aX):D.ib.n=D.n:=by simp[aX.ib,aX.n]
theorem w8(D:aX){i:Nat}(hi:i<D.n):D.ib.now i=D.now i:=by
 show((List.range D.n).map D.now).getD i []=_;rw[eQ (by simp;exact hi)];simp
def Fv(D:aX)(w:J)(v:aa)(w':J):Prop:=
 (D.fh 3=true/\v=.int .i64 3/\cl w' (D.cf 3)/\ad (λq=>q=D.d) w w')\/
 (D.fh 3=false/\v=.int .i64 0/\cl w' (D.cf 3).ib/\ad (bG D) w w')
theorem w9{w:J}{D:aX}(h:cl w D)(bw:D.aM<=1000000000):aP ak 76 #[.pointer (some D.d)] w (Fv D w):=by
 refine okF (af.sy (some D.d)) az.sy func76 ?_;(delta af.sy al aH vk ag rV fP aI vo;dsimp only);refine⟨λh1=>(by cases h1),λ_=>⟨_,rfl,(wg h (k:=3) (by decide)).use ?_⟩⟩;rintro _ ah ⟨rfl,f,ai,bx⟩;obtain⟨bd,p⟩:∃bd,bd=D.cf 3:=⟨_,rfl⟩;have aK:bd.d=D.d:=by rw[p];rfl
 have bz:bd.lb=D.lb:=by rw[p];rfl
 have aL:bd.mr=D.mr:=by rw[p];rfl
 have aN:bd.n=D.n:=by rw[p];rfl
 have aO:bG bd=bG D:=by rw[p];rfl
 have bA:bd.aM=D.aM:=by rw[p];rfl
 rw[←p]at f;refine⟨_,rfl,λB=>.inl ⟨B,rfl,by rw[←p];exact f,ai⟩,λB=>?_⟩;rw[←aK];have aj:=f.bp;obtain⟨L,am,an,ao,ap,aq,bB⟩:=jI.begin (P:=ak) f.m kC;obtain⟨r,aQ⟩:∃r,r=ah.heap.size:=⟨_,rfl⟩;rw[←aQ]at ao ap;have aR:r≠bd.mr:=by have:=f.m.lt;omega
 have au:∀q,bG bd q->q≠r:=λq C e=>by have:=f.lt C;omega
 have aS:∀x∈L,∃y∈bd.waits,x.1=(y.i:Int):=λx hx=>by
  have:=an.mem_iff.1 (dU.2 ⟨x,hx,rfl⟩);obtain⟨y,t,e⟩:=dU.1 this;refine⟨y,t,?_⟩;have:=congrArg Prod.fst e;exact this.symm
 have aT:∀y∈bd.waits,∃x∈L,x.1=(y.i:Int):=λy t=>by
  have:y.e∈L.map kt:=an.mem_iff.2 (dU.2 ⟨y,t,rfl⟩);obtain⟨x,hx,e⟩:=dU.1 this;exact⟨x,hx,congrArg Prod.fst e⟩
 refine⟨_,rfl,some bd.mr,f.aW,_,am,ao,λw'=>∃ (seen:O Nat) (ls:O cL),jI w' r bd.mr encZ L seen/\cl w' {bd with bc:=ls}/\ls.length=bd.n/\(∀ (j:Nat) (F:j<ls.length),ls[j]=if ∃x∈L,x.2.2∈seen/\x.1=(j:Int) then bd.now j else bd.bc.getD j [])/\ad (λq=>bG bd q) ah w'/\am.heap.size<=w'.heap.size,
  w7 L r,⟨[],bd.bc,ap,f.ext aq,rfl,λj F=>?_,ad.cK aq,bo _⟩,?_⟩
 .rw[if_neg (by rintro⟨x,_,h1,_⟩;cases h1),eQ F]
 rintro av ⟨seen,ls,R,E,u,g0,H,bC⟩;have S:∀s∈ls,s.length=256:=E.sl;have bD:r<av.heap.size:=by omega
 have aU:bd.lb≠r:=au _ (.inr (.inl rfl));rcases R.next (P:=ak) aR 0 with ⟨aV,aZ,T,aw,bE⟩|⟨x,hx,K,T,a0,ax,bF,a4⟩
 .
  refine .inr ⟨aZ,T,λh=>(by cases h),λ_=>?_⟩;have M:=E.ext aw;obtain⟨a5,a6,a7,U,bH⟩:=dV.clear (P:=ak) (o:=0) M.m kC;refine⟨_,rfl,some bd.mr,M.aW,_,a5,a6,.inr ⟨B,rfl,?_,?_⟩⟩
  .have a8:∀x∈L,x.2.2∈seen:=λx hx=>by
    have:=pk.1 aV x hx;simpa using this
   have a9:ls=(List.range D.n).map D.now:=by
    refine List.ext_getElem (by simp[u,aN]) λj h1 h2=>?_;rw[g0 j h1,List.getElem_map,List.getElem_range];have V:D.now j=bd.now j:=by rw[p];rfl
    rw[V];split
    .rfl
    .rename_i a_
     unfold aX.now
     cases hf:bd.waits.find? λx=>x.i==j with
     |some y=>
      exfalso;have t:=iE hf;have ba:y.i=j:=by simpa using jr hf
      obtain⟨x,hx,e⟩:=aT y t;exact a_ ⟨x,hx,a8 x hx,by rw[e,ba]⟩
     |none=>rfl
   have W:bd.d≠bd.mr:=f.a1.2.1;have bb:bd.lb≠bd.mr:=f.a1.2.2;have e:(D.cf 3).ib={bd with bc:=ls,waits:=[]}:=by
    rw[a9,p];rfl
   rw[e];refine⟨M.v.ab U W,bm.ab M.l U bb,a7,λx hx=>(by cases hx),λx hx=>(by cases hx),S,λx hx=>(by cases hx),?_,?_,E.f4,E.fr,E.a1,λx hx=>(by cases hx),λx hx=>(by cases hx)⟩
   .show 16<=ls.length;rw[u];exact f.bJ
   .show ls.length<=1600;rw[u];exact aj
  .have be:bG D D.d:=.inl rfl
   have hc:ad (λq=>bG D q) w ah:=ai.mono λq _ e=>by rw[e];exact be
   have H:ad (λq=>bG D q) ah av:=by rw[←aO];exact H
   have bf:=cm hc H λq _ h=>h;have bg:=cm bf aw λq _ h=>h.elim;exact cm bg U λq _ bh=>by rw[bh,aL];exact .inr (.inr (.inl rfl))
 .
  have X:x∈L:=(gI.1 hx).1;have bI:x.2.2∉seen:=by
   have:=(gI.1 hx).2;simpa using this
  obtain⟨y,t,Y⟩:=aS x X;have bi:=E.ab ax λq C=>au q C;have hi:y.i<bd.n:=(f.wn y t).2.1;have bk:y.i<ls.length:=by omega
  refine .inl ⟨_,_,K,T,λ_=>⟨(y.i:Int),x.2.1,K,?_,?_⟩,λh=>(by cases h)⟩
  .rw[a4]
   have e:encZ x.1=y.i:=by rw[Y]
   rw[e]
  have aA:=cw K;have Z:=bi.ext aA;have bl:({bd with bc:=ls}:aX).n=bd.n:=u;refine aY ⟨λ_=>False,_,rfl,id,⟨some bd.lb,ls.length,ls.length⟩,Z.dj,(zv (i:=y.i) Z (by rw[bl];exact hi) (by show bd.aM<=_;omega)).use ?_⟩;rintro _ N ⟨rfl,aa⟩;have g:=Z.ext aa;have V:({bd with bc:=ls}:aX).now y.i=bd.now y.i:=by
   unfold aX.now
   cases hf:bd.waits.find? λx=>x.i==y.i with
   |some z=>rfl
   |none=>
    have:=iY.1 hf y t;simp at this
  have ac:(bd.now y.i).length=256:=f.ng hi;rw[V];have ar:Addr.add bd.lb (Int.toNat (y.i:Int)*256)=⟨bd.lb,y.i*256,none⟩:=by rw[di,ay,cE]
  obtain⟨bN,bZ,bn⟩:=AM g.l S bk ac;refine⟨_,rfl,aa,_,rfl,⟨I,by show(y.i:Int)<(ls.length:Int);omega⟩,by rw[ar];exact bN,by simp[dA,ac],?_⟩;rw[ar];refine aY ?_;show _/\_;have aB:bm (setCells N ⟨bd.lb,y.i*256,none⟩ 0 (aF (bd.now y.i)).toArray.toList) bd.lb (b5 aF (ls.set y.i (bd.now y.i))).toArray 182:=bZ;have A:ad (λq=>q=bd.lb) N (setCells N ⟨bd.lb,y.i*256,none⟩ 0 (aF (bd.now y.i)).toArray.toList):=bn;generalize setCells N ⟨bd.lb,y.i*256,none⟩ 0 (aF (bd.now y.i)).toArray.toList=aC at aB A;have ae:=Ext.trans aA aa;have aD:=(a0.ab ae id id).ab A (λe=>aU e.symm) λe=>f.a1.2.2 e.symm;have bq:ad (λq=>bG bd q) ah aC:=by
   have h1:ad (λq=>bG bd q) ah K:=cm H ax λq C e=>by omega
   have h2:=cm h1 ae λq _ h=>h.elim;exact cm h2 A λq _ e=>by rw[e];exact .inr (.inl rfl)
  have bK:=ae.size;have bL:=A.size;have br:cl aC {bd with bc:=ls.set y.i (bd.now y.i)}:=by
   have W:bd.d≠bd.lb:=f.a1.1;refine⟨?_,aB,g.m.ab A λe=>f.a1.2.2 e.symm,λx hx=>(g.ws x hx).ab A λq C e=>(g.a2 x hx).2.1 (by rw[←e];exact C),?_,λs hs=>?_,g.jF,?_,?_,g.f4,g.fr,g.a1,g.a2,g.a3⟩
   .have h1:=g.v.ab A W
    have e:({bd with bc:=ls.set y.i (bd.now y.i)}:aX).c=({bd with bc:=ls}:aX).c:=by unfold aX.c;simp
    rw[e];exact h1
   .intro z bs
    have:=g.wn z bs;refine⟨this.1,?_,this.2.2⟩;show z.i<(ls.set y.i (bd.now y.i)).length;rw[cY];exact this.2.1
   .rcases kR hs with h1|rfl
    .exact S s h1
    .exact ac
   .show 16<=(ls.set y.i (bd.now y.i)).length;rw[cY,u];exact f.bJ
   .show(ls.set y.i (bd.now y.i)).length<=1600;rw[cY,u];exact aj
  refine⟨⟨seen++ [x.2.2],_,aD,br,by rw[cY];exact u,λj F=>?_,bq,I⟩,?_⟩
  .rw[cY]at F
   rw[q3];split
   .rename_i e
    subst e;rw[if_pos ⟨x,X,by simp,Y⟩]
   .rename_i bt
    rw[g0 j F];have:(∃G∈L,G.2.2∈seen/\G.1=(j:Int))↔∃G∈L,G.2.2∈seen++ [x.2.2]/\G.1=(j:Int):=by
     constructor
     .rintro⟨z,h1,h2,Q⟩
      exact⟨z,h1,iD _ h2,Q⟩
     .rintro⟨z,h1,h2,Q⟩
      rcases cH.1 h2 with h2|h2
      .exact⟨z,h1,h2,Q⟩
      .have bu:z=x:=by
        have aE:=R.bj;obtain⟨a,aG,rfl⟩:=eK h1;obtain⟨b,B,rfl⟩:=eK X;have aJ:=e0.1 h2;have bv:a=b:=by
         rcases Nat.lt_trichotomy a b with h|h|h
         .have:=lF.1 aE a b (by simpa using aG) (by simpa using B) h
          simp at this;exact absurd aJ this
         .exact h
         .have:=lF.1 aE b a (by simpa using B) (by simpa using aG) h
          simp at this;exact absurd aJ.symm this
        subst bv;rfl
       rw[bu,Y]at Q;exact absurd I bt
    simp only[this]
  .rw[aD.left,R.left]
   exact Fu hx
structure fc where
 aj:Nat
 batch:Nat
 gk:Nat
def fc.c(l:fc):O aa:=[l.aj,l.batch,.int .u64 (l.gk:Nat)]
def jJ(f b d:Int):Prop:=8<=f/\f<=64/\1<=b/\b<=1000/\1<=d/\d<=1048576
instance GG(f b d:Int):Decidable (jJ f b d):=by unfold jJ;infer_instance
section
variable {w w':J}{D:aX}
theorem mO(w:J)(p:aq ae)(f b d:Int):aP ak 70 #[.pointer p,.agg #[f,b,.int .u64 d]] w (λv w'=>v=.bool (!(Option.isNone p)&&decide (jJ f b d))/\Ext w w'):=by
 refine okF (af.mO p f b d) az.mO func70 ?_;(delta af.mO al r1 U bF;dsimp only);refine bl (vs:=[f,b,.int .u64 d]) rfl λw1 c hx hs=>?_;refine ct (λx w'=>x=(!(Option.isNone p)&&decide (8<=f))/\w1=w') (λq a=>⟨λh=>⟨f,c.cell,a _ _ ⟨by rw[h,iz],rfl⟩⟩,λh=>a _ _ ⟨by rw[h,kP],rfl⟩⟩) ?_;rintro e _ ⟨h1,rfl⟩;refine ct (λx w'=>x=(e&&decide (f<=64))/\w1=w') (λq a=>⟨λh=>⟨f,c.cell,a _ _ ⟨by rw[h,iz],rfl⟩⟩,λh=>a _ _ ⟨by rw[h,kP],rfl⟩⟩) ?_;rintro g _ ⟨h2,rfl⟩;refine ct (λx w'=>x=(g&&decide (1<=b))/\w1=w') (λq a=>⟨λh=>⟨b,by rw[ay];exact c.cell,a _ _ ⟨by rw[h,iz],rfl⟩⟩,λh=>a _ _ ⟨by rw[h,kP],rfl⟩⟩) ?_;rintro i _ ⟨j,rfl⟩;refine ct (λx w'=>x=(i&&decide (b<=1000))/\w1=w') (λq a=>⟨λh=>⟨b,by rw[ay];exact c.cell,a _ _ ⟨by rw[h,iz],rfl⟩⟩,λh=>a _ _ ⟨by rw[h,kP],rfl⟩⟩) ?_;rintro k _ ⟨l,rfl⟩;refine ct (λx w'=>x=(k&&decide (1<=d))/\w1=w') (λq a=>⟨λh=>⟨d,by rw[ay];exact c.cell,a _ _ ⟨by rw[h,iz],rfl⟩⟩,λh=>a _ _ ⟨by rw[h,kP],rfl⟩⟩) ?_;rintro m _ ⟨n,rfl⟩;refine ct (λx w'=>x=(m&&decide (d<=1048576))/\w1=w') (λq a=>⟨λh=>⟨d,by rw[ay];exact c.cell,a _ _ ⟨by rw[h,iz],rfl⟩⟩,λh=>a _ _ ⟨by rw[h,kP],rfl⟩⟩) ?_;rintro r _ ⟨o,rfl⟩;refine⟨?_,hx⟩;rw[o,n,l,j,h2,h1,Value.bool.injEq,fD];simp only[dT,cR,and_assoc];exact Iff.rfl
theorem uk{D:aX}{no:Nat}{s:Y}{l:cL}{N:Nat}(a:∀q,aC s q->bG D q\/N<=q):∀q,bG (D.put no s l) q->bG D q\/N<=q:=by
 rintro q (e|e|e|⟨x,hx,e⟩)
 .exact .inl (.inl e)
 .exact .inl (.inr (.inl e))
 .exact .inl (.inr (.inr (.inl e)))
 .rcases cP.1 hx with rfl|hx
  .exact a q e
  .exact .inl (.inr (.inr (.inr ⟨x,(gI.1 hx).1,e⟩)))
def Fw(D:aX)(u:cM)(gen:Nat)(w:J)(v:aa)(w':J):Prop:=
 ad (bG D) w w'/\((D.fh 2=true/\v=.int .i64 3/\cl w' (D.cf 2))\/
 (D.fh 2=false/\∃s:Y,(∀q,aC s q->bG D q\/w.heap.size<=q)/\∃bd:aX,bd=D.put (gen%2) s (d_ (gen%2) (ia u D.n gen))/\
   ((bd.fh 3=true/\v=.int .i64 3/\cl w' (bd.cf 3))\/(bd.fh 3=false/\v=.int .i64 0/\cl w' (bd.cf 3).ib))))
theorem lS(h:cl w D)(P:D.aM<=999999999){u:cM}(hu:mi u){gen:Nat}(hg:gen<18446744073709551616):
 aP ak 77 #[.pointer (some D.d),.agg u.c.toArray,.int .u64 (gen:Nat)] w (Fw D u gen w):=by
 have Q:=h.bJ;have R:=h.bp;refine af.Ci _ (u.root:Nat) (u.aE:Nat) (u.map:Nat) (u.clock:Nat) (u.db:Nat) (u.keys:Nat) (gen:Nat) w _ ?_;(delta af.lS U r1 bF aB aW kv b8 au al;dsimp only);have A:IntKind.wrap .i64 (Int.tmod (gen:Int) 2)=((gen%2:Nat):Int):=by
  rw[nJ I,bu I I];omega
 refine bl (vs:=u.c) rfl λw1 B j S=>⟨by decide,?_⟩;have a:=cw w1;have C:=B.ext a;have E:=h.ext (j.trans a);refine aY ⟨λ_=>False,id,gp C ((oV E).use ?_)⟩;rintro _ _ ⟨rfl,rfl⟩;refine⟨_,rfl,ad.refl _ _,(om hu (n:=D.n) I).use ?_⟩;rintro _ F ⟨k,rfl,G,t,T⟩;rw[A];refine⟨k,rfl,λ_=>False,#[(3:Int),.int .u64 (gen:Nat),k],λV=>by kernel_rfl,(tM (s:=k) (p:=ia u D.n gen) G.src I (w4 hg)).use ?_⟩;rintro _ W ⟨H,rfl,J,v,K⟩;have b:=(j.trans a).trans (Ext.trans t v);have L:=h.ext b;have X:=b.size;have M:(d_ (gen%2) (ia u D.n gen)).length=256:=qq _ (w4 hg);have Y:w.heap.size<=F.heap.size:=by have:=(j.trans a).size;have:=t.size;omega
 refine⟨H,0,rfl,v,λh=>(by cases h),λ_=>(tX L (i:=gen%2) I I J.src M λq f hf=>by have:=K q f;have:=h.lt hf;omega).use ?_⟩;rintro _ N (⟨g,rfl,hd,hc⟩|⟨g,rfl,s,hd,hc,x⟩)
 .exact⟨3,rfl,λ_=>⟨cm (b.mono λ_ _ h=>h.elim) hc λq _ e=>by rw[e];exact .inl rfl,.inl ⟨g,rfl,hd⟩⟩,λh=>(by cases h)⟩
 .have y:ad (bG D) w N:=cm (b.mono λ_ _ h=>h.elim) hc λq _ e=>e
  have O:=uk (no:=gen%2) (l:=d_ (gen%2) (ia u D.n gen)) x;refine⟨0,rfl,λh=>(by cases h),λ_=>(w9 hd (by show D.aM+1<=_;omega)).use ?_⟩;have z:∀q,aC s q->bG D q\/w.heap.size<=q:=λq f=>(x q f).imp id λh=>by omega
  rintro _ Z (⟨m,rfl,o,r⟩|⟨m,rfl,o,r⟩)
  .exact⟨3,rfl,cm y r λq _ e=>by rw[e];exact .inl rfl,.inr ⟨g,s,z,_,rfl,.inl ⟨m,rfl,o⟩⟩⟩
  .exact⟨0,rfl,cm y r λq f e=>(O q e).resolve_right I,.inr ⟨g,s,z,_,rfl,.inr ⟨m,rfl,o⟩⟩⟩
end
def bitsOf(ns:O Int)(i:Nat):ai:=((ns.getD (i/8) 0).toNat).testBit (i%8)
theorem AN(ns:O Int)(i:Nat)(h:8*ns.length<=i):bitsOf ns i=false:=by
 unfold bitsOf;have:ns.length<=i/8:=by omega
 simp[List.getD,kQ this]
theorem Fx(ns:O Int)(h:∀n∈ns,0<=n/\n<=255):ns.map (Value.int .u8)=ew (bitsOf ns) ns.length:=by
 apply List.ext_getElem
 .simp[ew]
 .intro i h1 h2
  have hi:i<ns.length:=by simpa using h1
  simp only[ew,List.getElem_map,List.getElem_range]
  congr 1
  obtain⟨lg,av⟩:=h ns[i] (cr hi);have:=t_ (bitsOf ns) i ns[i].toNat I (λj c=>by
   unfold bitsOf;have a:(8*i+j)/8=i:=by omega
   have b:(8*i+j)%8=j:=by omega
   rw[a,b];simp[List.getD,hi])
  rw[←this];omega
theorem Fy:∀x:Nat,x<256->∀j:Nat,j<8->decide (Int.fdiv (x:Int) (2^(min (Int.toNat (j:Int)) 8))>0)=(List.range 8).any (λk=>decide (j<=k)&&x.testBit k):=by decide+kernel
section
variable {w w':J}{b n:Nat}{f g:Nat->ai}{s1 s2:Y}
def nv(ns:O Int)(n:Nat):Prop:=ns.length=(n+7)/8/\∀i,n<=i->bitsOf ns i=false
theorem Fz{ns:O Int}{n:Nat}(l:ns.length=(n+7)/8)(m:0<n%8){x:Nat}(hx:x<256)(a:ns[ns.length-1]? =some (x:Int)):
 decide (Int.fdiv (x:Int) (2^(min (Int.toNat ((n%8:Nat):Int)) 8))>0)=false↔∀i,n<=i->bitsOf ns i=false:=by
 rw[Fy x hx _ (gB _ I)];have f:ns.length-1=n/8:=by omega
 rw[f]at a;rw[nA];constructor
 .intro h i hi
  rcases dR i (8*ns.length) with c|c
  .have e:i/8=n/8:=by omega
   unfold bitsOf;rw[e];simp only[List.getD,a,pj,di];have:=h (i%8) (iA.2 (gB _ I));have b:n%8<=i%8:=by omega
   simpa[b] using this
  .exact AN ns i c
 .intro h k d
  have d:=iA.1 d;by_cases b:n%8<=k
  .have:=h (8*(n/8)+k) I
   unfold bitsOf at this;have g:(8*(n/8)+k)/8=n/8:=by omega
   have j:(8*(n/8)+k)%8=k:=by omega
   rw[g,j]at this;simp only[List.getD,a,pj,di]at this;simp[this]
  .simp[b]
theorem ow{s:Y}{ns:O Int}(hs:Src 1 w s (ns.map (.int .u8)))(m:∀n∈ns,(0:Int)<=n/\n<=255)(P:ns.length<=1000000)(n:Int):
 aP ak 173 #[.slice s.a s.len s.cap,.int .i64 n] w (λv w'=>Ext w w'/\((¬(1<=n/\n<=1600)/\v=.tuple #[.pointer none,.int .i64 1])\/
  (1<=n/\n<=1600/\¬nv ns n.toNat/\v=.tuple #[.pointer none,.int .i64 4])\/
  (1<=n/\n<=1600/\nv ns n.toNat/\∃b s1 s2,v=.tuple #[.pointer (some ⟨b,0,none⟩),.int .i64 0]/\eo w' b n.toNat (bitsOf ns) (bitsOf ns) s1 s2/\∀k,eY b s1 s2 k->w.heap.size<=k))):=by
 have hlen:s.len=ns.length:=by have:=hs.len;simp at this;omega
 refine okF (af.ow s n) az.ow func173 ?_;(delta af.ow an aH al aB au bW aW aT U;dsimp only);refine(z7 w n).use ?_;rintro _ _ ⟨rfl,rfl⟩;refine⟨_,rfl,λh=>⟨.refl _ _,.inl ⟨by simp at h;omega,rfl⟩⟩,λh=>?_⟩;have h:1<=n/\n<=1600:=by simpa using h
 obtain⟨n,rfl⟩:=pz (by omega:0<=n);simp only[di];refine(z8 w n I).use ?_;rintro _ _ ⟨rfl,rfl⟩;refine⟨_,rfl,ct (λc w'=>(c=true↔¬nv ns n)/\w=w') (λq u=>⟨λf=>u _ _ ⟨?_,rfl⟩,λg=>⟨by decide,?_⟩⟩) ?_⟩
 .have f:¬ns.length=(n+7)/8:=by
   intro h;rw[hlen,h]at f;simp at f
  exact⟨λ_ hg=>f hg.1,λ_=>rfl⟩
 .have g:ns.length=(n+7)/8:=by
   simp only[bne_eq_false_iff_eq]at g;omega
  refine ct (λc w'=>(c=true↔¬nv ns n)/\w=w') (λQ y=>⟨λj=>?_,λj=>y _ _ ⟨?_,rfl⟩⟩) ?_
  .rw[qD]at j⊢
   have z:0<n%8:=by
    have:((n%8:Nat):Int)>0:=by simpa using j
    omega
   have o:ns.length-1<ns.length:=by omega
   obtain⟨x,F⟩:∃x:Nat,ns[ns.length-1]=(x:Int):=⟨ns[ns.length-1].toNat,by have:=m _ (cr o);omega⟩;have G:x<256:=by have:=m _ (cr o);omega
   have B:ns[ns.length-1]? =some (x:Int):=by rw[dE o,F]
   obtain⟨A,ar,C,hc⟩:=hs.at (i:=ns.length-1) (v:=.int .u8 x) (by rw[km,B];rfl);rw[hlen,bu I I,show(((ns.length:Nat):Int)-1)=((ns.length-1:Nat):Int) from I];rw[hlen]at C;refine⟨A,ar,C,x,hc,by decide,I,y _ _ ⟨?_,rfl⟩⟩;have D:=Fz g z G B;constructor
   .intro ht hg
    have:=D.2 hg.2;rw[ht]at this;cases this
   .intro p
    cases hd:decide (Int.fdiv (x:Int) (2^(min (Int.toNat ((n%8:Nat):Int)) 8))>0) with
    |true=>rfl
    |false=>exact(p ⟨g,D.1 hd⟩).elim
  .rw[qD]at j
   have z:n%8=0:=by
    have:¬((n%8:Nat):Int)>0:=by simpa using j
    omega
   constructor
   .intro h;cases h
   .intro p
    exact(p ⟨g,λi hi=>AN ns i I⟩).elim
  .rintro c _ ⟨hc,rfl⟩
   exact u _ _ ⟨hc,rfl⟩
 .rintro c _ ⟨hc,rfl⟩
  refine⟨λht=>⟨.refl _ _,.inr (.inl ⟨h.1,h.2,hc.1 ht,trivial⟩)⟩,λhf=>?_⟩;have hg:nv ns n:=by
   rcases Classical.em (nv ns n) with h|h
   .exact h
   .rw[hc.2 h]at hf;cases hf
  refine(zY hs (BV _ _) I).use ?_;rintro _ ah ⟨t,rfl,l,hx,H⟩;rw[Fx ns m,hg.1]at l;have J:=bm.new ah #[.int .i64 (n:Int),.slice t.a t.len t.cap,.slice none 0 0] 218;have E:Ext ah (ah.alloc (.cells #[.int .i64 (n:Int),.slice t.a t.len t.cap,.slice none 0 0] 218)):=ad.alloc (.refl _ _) _;have f:∀k,aC t k->k≠ah.heap.size:=λk d e=>by have:=l.lt k d;omega
  refine⟨t,rfl,(wD J (l.ext E) f I).use ?_⟩;rintro _ R ⟨rfl,K,h1,h2,L,M,r⟩;have S:=hx.size;refine⟨rfl,?_,.inr (.inr ⟨h.1,h.2,hg,ah.heap.size,t,K,rfl,⟨h1,h2,L,λk d=>⟨f k d,λN=>?_⟩,λk d e=>?_,I,I,hg.2,hg.2⟩,?_⟩)⟩
  .exact((ad.cK (hx.trans E)).trans M).mono λk d e=>by omega
  .have:=r k N
   have:=l.lt k d;simp at*;omega
  .have:=r k d
   simp at this;omega
  .rintro k (rfl|d|d)
   .omega
   .exact H k d
   .have:=r k d
    simp at this;omega
end
section
variable {w w':J}{C:bT}{X:Nat->Prop}
def Fr.gq(f:Fr):ai:=f.full&&f.fi
theorem FA:ih ak 200:=⟨Tryz.f200,func200,by kernel_rfl,by kernel_rfl⟩
theorem FB(f:Fr)(w:J):aP ak 200 #[.agg #[f.full,f.fi,f.used,f.no,f.pins,f.b]] w (λv w'=>v=f.gq/\Ext w w'):=by
 refine okF (af.s6 f.full f.fi f.used f.no f.pins f.b) az.s6 func200 ?_;(delta af.s6 a8 U al;dsimp only);refine bl (vs:=f.c) rfl λw1 a hx hs=>⟨f.full,a.cell,ct (λb w'=>b=f.gq/\w1=w') (λq d=>⟨λh=>⟨f.fi,by rw[ay];exact a.cell,d _ _ ⟨by unfold Fr.gq;rw[h];rfl,rfl⟩⟩,λh=>d _ _ ⟨by unfold Fr.gq;rw[h];rfl,rfl⟩⟩) ?_⟩;rintro _ _ ⟨rfl,rfl⟩;exact⟨rfl,hx⟩
def iu(fs:O Fr):O Int:=(fs.filter Fr.gq).map Fr.no
theorem AO(h:eX w C):aP ak 145 #[.pointer (some C.c)] w (λv w'=>∃ (s:Y) (zs:O Int),v=s/\a7 1 3 w' s (zs.map encZ)/\zs.Perm (iu C.aj)/\Ext w w'/\∀q,aC s q->w.heap.size<=q):=by
 obtain⟨bI,aB,aT⟩:=h.cells
 have X:=h.bZ
 refine okF (af.sU (some C.c)) az.sU func145 ?_
 (delta af.sU aW;dsimp only)
 refine Calls.mono (af.Cv (some C.c) ⟨200,#[],#[]⟩ w (λv w'=>∃ (s:Y) (zs:O Int),v=s/\a7 1 3 w' s (zs.map encZ)/\zs.Perm (iu C.aj)/\Ext w w'/\∀q,aC s q->w.heap.size<=q) ?_) ?_
 · (delta af.qg al ag aI a8 r1 U r0 au aT;dsimp only)
   refine⟨λh=>(by cases h),λ_=>⟨_,rfl,⟨some C.aU,C.aj.length,C.aj.length⟩,aB,λs n w'=>∃i:Nat,n=(i:Int)/\i<=C.aj.length/\a7 1 3 w' s ((iu (C.aj.take i)).map encZ)/\Ext w w'/\∀q,aC s q->w.heap.size<=q,λ_ n _=>((C.aj.length:Int)-n).toNat,⟨0,rfl,cN _,by simpa[iu] using a7.none 1 3 w,.refl _ _,λq e=>(gu q e).elim⟩,?_⟩⟩
   rintro s _ p ⟨i,rfl,hi,a,hx,g⟩
   have A:=h.ext hx
   refine⟨λaK=>?_,λB=>?_⟩
   · have r:i<C.aj.length:=by
       have:(i:Int)<(C.aj.length:Int):=b_ aK
       omega
     obtain⟨f,hf⟩:∃f,f=C.aj[i]:=⟨_,rfl⟩
     have Z:(iu (C.aj.take i)).length<=64:=by
       unfold iu
       rw[dr]
       have:=pA Fr.gq (C.aj.take i)
       rw[cC]at this;omega
     have t:iu (C.aj.take (i+1))=iu (C.aj.take i)++(if f.gq then [f.no] else []):=by
       unfold iu
       rw[iW r,kj,fm,←hf,q5,List.filter_nil]
       congr 1
       split<;>rfl
     refine ct (λs w'=>a7 1 3 w' s ((iu (C.aj.take (i+1))).map encZ)/\Ext w w'/\∀q,aC s q->w.heap.size<=q) (λq e=>?_) ?_
     · have hc:∀j,j<6->p.cell? ⟨C.aU,i*6+j,none⟩=(f.c)[j]? :=λj D=>by rw[hf];exact jj A.f r D
       refine⟨_,rfl,⟨I,by show(i:Int)<(C.aj.length:Int);omega⟩,?_⟩
       rw[qy]
       refine⟨f.full,hc 0 (by decide),f.fi,by rw[ay];exact hc 1 (by decide),f.used,by rw[ay];exact hc 2 (by decide),f.no,by rw[ay];exact hc 3 (by decide),f.pins,by rw[ay];exact hc 4 (by decide),f.b,by rw[ay];exact hc 5 (by decide),?_⟩
       refine bl (vs:=[false,false,false,(0:Int),(0:Int),()]) rfl λaa u E ab=>⟨u.b2 rfl (λv l=>?_),rfl,cp u (us:=f.c) rfl rfl λy d F ac=>?_⟩
       · simp only[cP,eE,eL]at l
         rcases l with rfl|rfl|rfl|rfl|rfl|rfl<;>trivial
       have G:Ext p y:=Ext.ck E F (bo _)
       refine⟨f.full,d.cell,f.fi,by rw[ay];exact d.cell,f.used,by rw[ay];exact d.cell,f.no,by rw[ay];exact d.cell,f.pins,by rw[ay];exact d.cell,f.b,by rw[ay];exact d.cell,FA,(FB f y).use ?_⟩
       rintro _ m ⟨rfl,z⟩
       have k:=Ext.trans G z
       have H:=d.ext z
       refine⟨_,rfl,λhd=>⟨f.no,by rw[ay];exact H.cell,aY ?_⟩,λhd=>e _ _ ⟨?_,Ext.trans hx k,g⟩⟩
       · have o:Ext m (m.alloc (.cells #[encZ f.no] 3)):=eu _ _
         obtain⟨J,K,av,ax,_,L,M⟩:=oQ.append (dG:=58) (x:=⟨some m.heap.size,1,1⟩) (Src.new (T:=3) m [encZ f.no] 1 rfl) ((a.ext k).ext o) (λv l=>by rw[e0.1 l];trivial) (by
           have:s.len=(iu (C.aj.take i)).length:=by
             have:=a.1
             rw[dr]at this;omega
           show(2*(s.len+1)+1000)*8<=_;omega)
         refine⟨J,K,av,e _ _ ⟨?_,?_,λq e=>?_⟩⟩
         · rw[t,hd,if_pos rfl,fm];exact ax
         · exact Ext.dc (Ext.trans (Ext.trans hx k) o) L g
         · rcases M q e with h1|h1
           · exact g q h1
           · have:=(Ext.trans hx k).size
             have:=o.size;omega
       · rw[t,hd]
         simp only[fC,if_false,gi]
         exact a.ext k
     · rintro ad ae ⟨h1,h2,N⟩
       have P:IntKind.wrap .i64 ((i:Int)+1)=((i+1:Nat):Int):=by rw[bu I I];omega
       rw[P]
       exact⟨⟨i+1,rfl,I,h1,h2,N⟩,by show((C.aj.length:Int)-((i+1:Nat):Int)).toNat<((C.aj.length:Int)-(i:Int)).toNat;omega⟩
   · have Q:i=C.aj.length:=by
       have:¬(i:Int)<(C.aj.length:Int):=cG B
       omega
     rw[Q,iB]at a
     refine(AE a (by
       unfold iu
       rw[dr]
       have:=pA Fr.gq C.aj;omega)).use ?_
     rintro _ ah ⟨rfl,R,zs,S,V⟩
     exact⟨rfl,s,zs,rfl,S,V.1,Ext.dc hx R g,g⟩
 · rintro _ w1 ⟨_,rfl,s,zs,rfl,a,W,hx,hf⟩
   exact⟨s,rfl,s,zs,rfl,a,W,hx,hf⟩
end
section
variable {w w':J}{C:bT}{X:Nat->Prop}
theorem FC{D:aX}{no:Nat}{s:Y}{l:cL}{N:Nat}(a:∀q,aC s q->bG D q\/N<=q):∀q,bG (D.put no s l) q->bG D q\/N<=q:=by
 rintro q (e|e|e|⟨x,hx,e⟩)
 .exact .inl (.inl e)
 .exact .inl (.inr (.inl e))
 .exact .inl (.inr (.inr (.inl e)))
 .rcases cP.1 hx with rfl|hx
  .exact a q e
  .exact .inl (.inr (.inr (.inr ⟨x,(gI.1 hx).1,e⟩)))
theorem eX.oM{aw:aX}(h:eX w C)(hd:cl w' aw)(e:aw.d=C.D.d)(hc:ad (bG C.D) w w')(hf:∀q,bG aw q->bG C.D q\/w.heap.size<=q):eX w' {C with D:=aw}:=by
 have h1:=h.v.ab hc h.a1.2.1;rw[←e]at h1;have a:C.c<w.heap.size:=h.v.lt;have b:C.aU<w.heap.size:=bm.lt h.f;refine⟨h1,bm.ab h.f hc h.a1.2.2,hd,h.bN,h.bZ,h.hd,h.a1.1,λg=>?_,λg=>?_⟩
 .rcases hf _ g with g|g
  .exact h.a1.2.1 g
  .have g:w.heap.size<=C.c:=g
   omega
 .rcases hf _ g with g|g
  .exact h.a1.2.2 g
  .have g:w.heap.size<=C.aU:=g
   omega
def bT.wrote(C:bT)(i no:Nat)(hi:i<C.aj.length)(s:Y):bT:={C with aj:=C.aj.set i {C.aj[i] with fi:=false},D:=C.D.put no s (C.aj[i]).l}
theorem FD(h:dD X w C){i no:Nat}(hi:i<C.aj.length)(hf:(C.aj[i]).full=true)(t:(C.aj[i]).no=no){s:Y}(H:¬C.D.bC no=true)(hd:cl w' (C.D.put no s (C.aj[i]).l))(hc:ad (bG C.D) w w')(U:∀q,aC s q->bG C.D q\/w.heap.size<=q):
 (∃u:aa,w'.cell? ⟨C.aU,i*6+1,none⟩=some u)/\w'.frozen? ⟨C.aU,i*6+1,none⟩=false/\dD X (w'.setCell ⟨C.aU,i*6+1,none⟩ false) (C.wrote i no hi s)/\
   ec C (C.wrote i no hi s) w (w'.setCell ⟨C.aU,i*6+1,none⟩ false) 1/\∀j,(C.wrote i no hi s).view j=C.view j:=by
 have z:=FC (no:=no) (l:=(C.aj[i]).l) U;obtain⟨aw,x⟩:∃aw,aw=C.D.put no s (C.aj[i]).l:=⟨_,rfl⟩;have B:∀j,aw.now j=if j=no then (C.aj[i]).l else C.D.now j:=by rw[x];exact nh _ _ _ _
 have J:aw.d=C.D.d:=by rw[x];rfl
 have W:aw.n=C.D.n:=by rw[x];rfl
 have Z:aw.key=C.D.key:=by rw[x];exact zH C.D H
 have K:jG aw C.D:=by rw[x];exact zG h.inv H
 have an:aw.aM=C.D.aM+1:=by rw[x];rfl
 have ab:∀m,C.D.calm (m+1)->aw.calm m:=λm ac=>by rw[x];exact(iN (.inr rfl) h.raw.dev.f4 ac).1
 unfold bT.wrote;rw[←x]at hd z⊢;have L:=h.raw.oM hd J hc z;obtain⟨a1,a2,a3,a4⟩:=l7 L.f hi (j:=1) (by decide) (v:=false) {C.aj[i] with fi:=false} rfl;obtain⟨g,o⟩:∃g:Fr,g={C.aj[i] with fi:=false}:=⟨_,rfl⟩;rw[←o]at a3⊢;refine⟨a1,a2,?_⟩;generalize w'.setCell ⟨C.aU,i*6+1,none⟩ false=E at a3 a4;have G:ad (cO C) w E:=cm (hc.mono λq _ e=>.inr (.inr e)) a4 λq _ e=>.inr (.inl e);obtain⟨y,av,ax,ae,af,ao,ap,ag⟩:=h.inv.ok _ (cr hi) hf;have ah:y=no:=by rw[t]at av;omega
 subst ah;obtain⟨a,r⟩:∃a:bT,a={C with aj:=C.aj.set i dp,D:=aw}:=⟨_,rfl⟩;have h1:fS X E a:=by
  rw[r];exact wo (V:=cO C) hi h.inv G (λ_ _ h=>h) K (λj A=>by rw[B,if_neg λe=>A hf (by rw[t,e])]) z dp rfl rfl
 have v1:∀j,a.view j=C.view j:=λj=>by
  rw[r];exact zF hi h.inv (λ_ j A=>by rw[B,if_pos (by rw[t]at A;omega)]) (λj A=>by rw[B,if_neg λe=>A hf (by rw[t,e])]) dp rfl j
 have F:a.aj=C.aj.set i dp:=by rw[r]
 have M:i<a.aj.length:=by rw[F,cY];exact hi
 have N:∀ (k:Nat) (ai:k<a.aj.length),k≠i->(a.aj[k]).full=true->(a.aj[k]).no≠y:=λk ai O h2 P=>by
  simp only[F,e7 (Ne.symm O)]at h2 P;exact O (h.inv.un k i _ hi h2 hf (by rw[P,t]))
 have Q:C.aj.set i g=a.aj.set i g:=by rw[F,set_set]
 have R:({C with aj:=C.aj.set i g,D:=aw}:bT)={a with aj:=a.aj.set i g,D:=aw}:=by rw[Q,r]
 have ak:bk (λq=>¬cO {C with aj:=C.aj.set i g,D:=aw} q/\¬X q) E g.b g.l:=by
  rw[o];refine bk.re ae G (λq _ S=>S.1) λq S T=>⟨λp=>T.1 ?_,T.2⟩;rcases p with p|p|p
  .exact .inl p
  .exact .inr (.inl p)
  .exact .inr (.inr ((z q p).resolve_right I))
 have h2:fS X E {C with aj:=C.aj.set i g,D:=aw}:=by
  rw[R];refine wq (C:=a) (no:=y) (V:=λ_=>False) M h1 (.refl _ _) (λ_ _ h=>h.elim) (by rw[r];exact⟨rfl,λ_ h=>h,K.2.2⟩) (λj=>by rw[r]) (λq=>by rw[r]) g (by rw[o];exact hf) (by rw[o];exact h.inv.pins (C.aj[i]) (cr hi)) ⟨by rw[o];exact t,by show y<aw.n;rw[W];exact ax,by rw[←R];exact ak,by rw[o];exact af,λ_=>?_,λ_=>by rw[o],ag⟩ N;show g.l=aw.now y;rw[B,if_pos rfl,o]
 have al:∀j,({C with aj:=C.aj.set i g,D:=aw}:bT).view j=C.view j:=λj=>by
  have am:({C with aj:=C.aj.set i g,D:=aw}:bT)=bT.mk a.c a.aU (a.aj.set i g) C.hand aw:=by rw[Q,r]
  rw[am,wu (C:=a) (hd:=C.hand) (aw:=aw) (no:=y) M h1.un (λj=>by rw[r]) g (by rw[o];exact hf) (by rw[o];exact t) (λp=>by simp only[F,gW]at p;cases p) N j,v1];split
  .rename_i e
   subst e;have:=lh (fs:=C.aj) (D:=C.D) (c:=C.c) (aU:=C.aU) (hd:=C.hand) h.inv.un hi hf t;rw[o];exact this.symm
  .rfl
 refine⟨⟨?_,h2⟩,⟨rfl,J,by show(C.aj.set i _).length=_;rw[cY],Z,by show aw.aM<=_;omega,ab,G,?_⟩,al⟩
 .refine wv (C:={C with D:=aw}) L a4 a3
 .rintro q (e|e|e)
  .exact .inl (.inl e)
  .exact .inl (.inr (.inl e))
  .exact(z q e).imp (λh=>.inr (.inr h)) id
theorem w_{aw:aX}(h:dD X w C)(hd:cl w' aw)(e:aw.d=C.D.d)(b:jG aw C.D)(a:∀i,aw.now i=C.D.now i)(hc:ad (bG C.D) w w')(hf:∀q,bG aw q->bG C.D q\/w.heap.size<=q):dD X w' {C with D:=aw}/\∀j,({C with D:=aw}:bT).view j=C.view j:=
 ⟨⟨h.raw.oM hd e hc hf,qA (C:=C) (hd:=C.hand) h.inv (gR.refl _) (hc.mono λq _ e=>.inr (.inr e)) (λ_ _ h=>h) b a hf⟩,λj=>qB (C:=C) (hd:=C.hand) h.inv (gR.refl _) a j⟩
theorem FE(h:dD X w C)(hc:∀f∈C.aj,f.gq=false)(j:Nat):C.view j=C.D.now j:=by
 unfold bT.view
 cases b:C.aj.find? λf=>f.full&&f.no==(j:Int) with
 |none=>rfl
 |some f=>
  have c:=iE b;have a:=jr b;simp only[dT,jO]at a;obtain⟨no,av,ax,g,i,d⟩:=h.inv.ok f c a.1;have h1:=hc f c;unfold Fr.gq at h1;rw[a.1,iz]at h1;have e:no=j:=by rw[a.2]at av;omega
  rw[←e];exact d h1
theorem AP{D:aX}(h:cl w D)(i:Nat):D.ib.now i=D.now i:=by
 by_cases hi:i<D.n
 .exact w8 D hi
 .have h1:D.now i=[]:=by
   unfold aX.now
   cases hf:D.waits.find? λx=>x.i==i with
   |some x=>
    have hx:=iE hf;have he:x.i=i:=by simpa using jr hf
    have:=(h.wn x hx).2.1;omega
   |none=>
    have:¬i<D.bc.length:=hi;show D.bc.getD i []=[];rw[fg,kQ I];rfl
  rw[h1];show((List.range D.n).map D.now).getD i []=[];rw[fg,kQ (by simp;omega)];rfl
theorem qJ(D:aX){m:Nat}(h:D.calm m):(D.cf 3).calm m:=by
 unfold aX.calm aX.cf at*;simpa[fg] using h
structure FF(X:Nat->Prop)(C aD:bT)(w:J)(v:aa)(w':J):Prop where
 at_:dD X w' aD
 c:aD.c=C.c
 d:aD.D.d=C.D.d
 len:aD.aj.length=C.aj.length
 n:aD.D.n=C.D.n
 bC:aD.D.bC=C.D.bC/\aD.D.dS=C.D.dS
 aM:aD.D.aM<=C.D.aM+64
 calm:∀m,C.D.calm (m+64)->aD.D.calm m
 ab:ad (cO C) w w'
 cS:∀q,cO aD q->cO C q\/w.heap.size<=q
 view:∀j,aD.view j=C.view j
 g2:(v=.int .i64 0/\aD.D.waits=[]/\(∀f∈aD.aj,f.gq=false)/\aD.D.b6.getD 3 0=(fR (C.D.b6.getD 3 0)).2)\/(v=.int .i64 3/\aD.D.bc=C.D.bc/\(¬C.D.calm 64\/C.D.fh 3=true))
theorem FG(h:dD X w C)(a3:C.D.aM<=999999900)(ao:∀j,C.D.bC j=true->C.D.dS j=[]):aP ak 163 #[.pointer (some C.c)] w (λv w'=>∃aD,FF X C aD w v w'):=by
 have a4:=h.raw.bZ;refine okF (af.sZ (some C.c)) az.sZ func163 ?_;(delta af.sZ al aW aI r1 jY ag aB st au;dsimp only);refine⟨λh=>(by cases h),λ_=>(AO h.raw).use ?_⟩;rintro _ w1 ⟨s,zs,rfl,hs,M,V,ap⟩;have hlen:s.len=zs.length:=by have:=hs.1;rw[dr]at this;omega
 have a5:zs.length<=64:=by
  rw[M.length_eq];unfold iu;rw[dr];have:=pA Fr.gq C.aj;omega
 have h1:=h.ext V;have aq:∀z∈zs,∀no:Nat,(no:Int)=z->¬C.D.bC no=true:=λz t no a6 hs=>by
  obtain⟨f,hf,e⟩:=dU.1 (M.mem_iff.1 t);obtain⟨h2,u⟩:=gI.1 hf;unfold Fr.gq at u;rw[dT]at u;obtain⟨m,bN,_,_,_,_,W,ar⟩:=h.inv.ok f h2 u.1;have:m=no:=by rw[e]at bN;omega
  subst this;rw[W hs]at u
  cases u.2
 refine⟨s,rfl,λn w'=>∃ (i:Nat) (g:bT),n=(i:Int)/\i<=zs.length/\dD X w' g/\ec C g w w' i/\(∀j,g.view j=C.view j)/\a7 1 3 w' s (zs.map encZ)/\(∀f∈g.aj,f.gq=true->f.no∈zs.drop i)/\(∀z∈zs,∃f∈g.aj,f.full=true/\f.no=z)/\∀q,cO g q->¬aC s q,
  λn _=>((zs.length:Int)-n).toNat,⟨0,C,rfl,cN _,h1,ec.ext C V,λ_=>rfl,hs,λf hf hd=>?_,λz t=>?_,λq o N=>?_⟩,?_⟩
 .exact M.mem_iff.2 (dU.2 ⟨f,gI.2 ⟨hf,hd⟩,rfl⟩)
 .obtain⟨f,hf,e⟩:=dU.1 (M.mem_iff.1 t)
  obtain⟨h2,u⟩:=gI.1 hf;unfold Fr.gq at u;rw[dT]at u;exact⟨f,h2,u.1,e⟩
 .have:=ap q N;have:=h.raw.lt o;omega
 rintro _ Q ⟨i,g,rfl,hi,p,l,O,R,Y,hex,Z⟩;have a8:=l.aM;refine⟨λaK=>?_,λaw=>?_⟩
 .have G:i<zs.length:=by
   have:(i:Int)<(s.len:Int):=b_ aK;omega
  obtain⟨a,aA,aE⟩:∃a:ae,s.a=some a/\Q.cell? (a.add (Int.toNat (i:Int)*1))=some (.int .i64 zs[i]):=by
   obtain⟨b,c,y,_,_,_,_,S,_⟩:=R.cell (i:=i) (v:=encZ zs[i]) (by rw[km,dE G];rfl);exact⟨_,y,by rw[di,ay,cE,fz];exact S⟩
  refine⟨a,aA,⟨I,by show(i:Int)<(s.len:Int);omega⟩,zs[i],aE,?_⟩;rw[←l.c];refine(tZ p.raw _).use ?_;rintro _ _ ⟨aF,rfl⟩;obtain⟨f,aG,aH,aJ⟩:=hex zs[i] (cr G);rcases aF with ⟨k,H,rfl,av,ax⟩|⟨_,aL⟩
  rotate_left
  .exact absurd aJ (aL f aG aH)
  have J:=cw Q;have B:=p.ext J;obtain⟨no,bN,bZ,aa,aN,a9,W,ar⟩:=B.inv.ok _ (cr H) av;have t:zs[i]=(no:Int):=by rw[←ax,bN]
  have aO:=jj B.raw.f H (j:=5) (by decide);refine⟨_,rfl,aY ⟨_,rfl,id,_,B.raw.cells.1,_,rfl,id,(g.aj[k]).b,by rw[ay];exact aO,?_⟩⟩;rw[t];refine(tX B.raw.dev (i:=no) bZ I aa.1 aN λq o hf=>(aa.2.2 q o).1.1 (.inr (.inr hf))).use ?_;rintro v2 ah aQ;have aR:=l.ab.size;have a_:=J.size;rcases aQ with ⟨y,rfl,E,r⟩|⟨y,rfl,s2,E,r,aS⟩
  .obtain⟨gG,dZ⟩:=w_ B E rfl (B.inv.cf 2) (λj=>qz g.D 2 j) (r.mono λq _ e=>.inl e) λq o=>.inl o
   refine⟨3,rfl,λ_=>⟨{g with D:=g.D.cf 2},gG,l.c,l.d,l.len,l.n,l.l8,by show g.D.aM<=_;omega,λm K=>?_,?_,?_,λj=>(dZ j).trans (O j),.inr ⟨rfl,?_,.inl λaT=>?_⟩⟩,λh=>(by cases h)⟩
   .exact(iN (.inr rfl) p.raw.dev.f4 (l.calm (m+1) (fJ K I))).1
   .refine cm (l.ab.trans (ad.cK J)) r λq o e=>?_
    exact(l.cS q (.inr (.inr (.inl e)))).resolve_right I
   .exact l.cS
   .exact congrArg (λk=>k.1.1) l.bc
   .have:=(iN (k:=2) (m:=0) (.inr rfl) p.raw.dev.f4 (l.calm 1 (fJ aT I))).2
    rw[y]at this;cases this
  .obtain⟨bB,bx,ac,P,aV⟩:=FD B H av (by rw[ax,t]) (λhs=>aq _ (cr G) _ t.symm (by rw[←l.bC];exact hs)) E r aS
   refine⟨0,rfl,λh=>(by cases h),λ_=>⟨_,rfl,by rw[ay];exact bB,by rw[ay];exact bx,?_⟩⟩;rw[ay];refine aY ?_;generalize ah.setCell ⟨g.aU,k*6+1,none⟩ false=ba at ac P;have aZ:IntKind.wrap .i64 ((i:Int)+1)=((i+1:Nat):Int):=by rw[bu I I];omega
   rw[aZ];have a0:=(l.trans (ec.ext g J)).trans P;have a1:zs.drop i=zs[i]::zs.drop (i+1):=lB G;refine⟨⟨i+1,_,rfl,I,ac,a0,λj=>(aV j).trans (O j),(R.ext J).ab P.ab λq o hf=>Z q hf o,λf hf A=>?_,λz t=>?_,λq o N=>?_⟩,by show((zs.length:Int)-((i+1:Nat):Int)).toNat<((zs.length:Int)-(i:Int)).toNat;omega⟩
   .have hf:f∈g.aj.set k {g.aj[k] with fi:=false}:=hf
    obtain⟨b,T,rfl⟩:=eK hf;have ai:b<g.aj.length:=by simpa using T
    by_cases e:k=b
    .subst e
     simp[Fr.gq]at A
    .simp only[e7 e]at A⊢
     have F:=Y _ (cr ai) A;rw[a1]at F;rcases cP.1 F with U|U
     .unfold Fr.gq at A
      rw[dT]at A;exact absurd (p.inv.un k b H ai av A.1 (by rw[ax,U])) e
     .exact U
   .obtain⟨f,f1,f2,f3⟩:=hex z t
    obtain⟨b,T,rfl⟩:=eK f1;by_cases e:k=b
    .subst e
     exact⟨{g.aj[k] with fi:=false},List.mem_set H _,f2,f3⟩
    .exact⟨g.aj[b],List.mem_iff_getElem.2 ⟨b,by show b<(g.aj.set k _).length;rw[cY];exact T,by show(g.aj.set k _)[b]'_=_;rw[e7 e]⟩,f2,f3⟩
   .rcases P.cS q o with F|F
    .exact Z q F N
    .have:=R.lt q N;omega
 .have G:i=zs.length:=by
   have:¬(i:Int)<(s.len:Int):=cG aw;omega
  have S:∀f∈g.aj,f.gq=false:=λf hf=>by
   cases A:f.gq with
   |false=>rfl
   |true=>
    have:=Y f hf A;rw[G,List.drop_length]at this
    cases this
  have am:g.D.b6.getD 3 0=C.D.b6.getD 3 0:=congrArg Prod.snd l.bc;rw[←l.c];refine⟨_,rfl,_,p.raw.cells.1,(w9 p.raw.dev I).use ?_⟩;have aR:=l.ab.size;rintro v2 ah (⟨y,rfl,E,r⟩|⟨y,rfl,E,r⟩)
  .obtain⟨gG,dZ⟩:=w_ p E rfl (p.inv.cf 3) (λj=>qz g.D 3 j) (r.mono λq _ e=>.inl e) λq o=>.inl o
   refine⟨3,rfl,{g with D:=g.D.cf 3},gG,l.c,l.d,l.len,l.n,l.l8,by show g.D.aM<=_;omega,λm K=>qJ _ (l.calm m (fJ K I)),cm l.ab r λq o e=>(l.cS q (.inr (.inr (.inl e)))).resolve_right I,l.cS,λj=>(dZ j).trans (O j),.inr ⟨rfl,congrArg (λk=>k.1.1) l.bc,.inr ?_⟩⟩;unfold aX.fh at y⊢;rw[←am];exact y
  .have an:∀q,bG (g.D.cf 3).ib q->bG g.D q\/Q.heap.size<=q:=by
    rintro q (e|e|e|⟨x,hx,e⟩)
    .exact .inl (.inl e)
    .exact .inl (.inr (.inl e))
    .exact .inl (.inr (.inr (.inl e)))
    .cases hx
   have a2:∀j,(g.D.cf 3).ib.now j=g.D.now j:=λj=>by
    by_cases L:j<g.D.n
    .exact(w8 (g.D.cf 3) L).trans (qz g.D 3 j)
    .have F:g.D.ib.now j=g.D.now j:=AP p.raw.dev j
     exact F
   obtain⟨gG,dZ⟩:=w_ p E rfl ⟨qI (g.D.cf 3),λ_ h=>h,λj L=>by
    have L:g.D.bC j=true:=L;have e:g.D.dS j=[]:=by rw[l.l8.2];exact ao j (by rw[←l.l8.1];exact L)
    exact e.symm⟩ a2 r an
   refine⟨0,rfl,{g with D:=(g.D.cf 3).ib},gG,l.c,l.d,l.len,(qI (g.D.cf 3)).trans l.n,l.l8,by show g.D.aM<=_;omega,λm K=>qJ g.D (l.calm m (fJ K I)),cm l.ab r λq o e=>(l.cS q (.inr (.inr e))).resolve_right I,λq o=>?_,λj=>(dZ j).trans (O j),.inl ⟨rfl,rfl,S,?_⟩⟩
   .rcases o with e|e|e
    .exact l.cS q (.inl e)
    .exact l.cS q (.inr (.inl e))
    .rcases an q e with e|e
     .exact l.cS q (.inr (.inr e))
     .exact .inr I
   .show(g.D.b6.set 3 _).getD 3 0=_
    have bb:=p.raw.dev.f4;rw[eQ (by rw[cY];omega),gW,am]
end
def gz(a_ d c sb:Nat)(l:fc)(u:cM)(gen now first pending keys:Nat)(failed:ai):O aa:=
 [.pointer (some a_),.pointer (some d),.pointer (some c),.pointer (some sb),l.aj,l.batch,.int .u64 (l.gk:Nat),
  u.root,u.aE,u.map,.int .u64 (u.clock:Nat),.int .u64 (u.db:Nat),u.keys,
  .int .u64 (gen:Nat),.int .u64 (now:Nat),.int .u64 (first:Nat),pending,keys,failed]
section
variable {w w':J}{D:aX}
structure AQ(D:aX)(l:fc)(u:cM)(gen sb:Nat)(w:J)(v:aa)(w':J)(c aU a_ st:Nat):Prop where
 val:v=.tuple #[.pointer (some st),(0:Int)]
 ca:dD (λ_=>False) w' (hK c aU l.aj D)
 dC:Var w' a_ [.pointer (some c),.pointer (some sb),.int .u64 ((gen+1:Nat):Int),u.root,u.aE] 239
 sv:Var w' st (gz a_ D.d c sb l u gen u.clock 0 0 u.keys false) 158
 x:Ext w w'
 hc:w.heap.size<=c/\c<a_
 hf:w.heap.size<=aU/\aU<a_
 ht:a_<st
def aX.fB(D:aX)(s:Nat->ai)(z:Nat->O cL):aX:={D with bC:=s,dS:=z}
theorem cl.fB(h:cl w D)(s:Nat->ai)(z:Nat->O cL):cl w (D.fB s z):=⟨h.v,h.l,h.m,h.ws,h.wn,h.sl,h.jF,h.bJ,h.bp,h.f4,h.fr,h.a1,h.a2,h.a3⟩
theorem lT(h:cl w D){l:fc}(q:8<=l.aj/\l.aj<=64){u:cM}(hu:o6 D.n (u.root:Nat) (u.aE:Nat)){gen:Nat}(hg:gen+1<18446744073709551616)(s:∀j,D.bC j=true->D.c_ j=D.dS j)(sb:Nat):
 aP ak 78 #[.pointer (some D.d),.agg l.c.toArray,.agg u.c.toArray,.int .u64 (gen:Nat),.pointer (some sb)] w (λv w'=>∃c aU a_ st,AQ D l u gen sb w v w' c aU a_ st):=by
 refine af.Cj _ (l.aj:Nat) (l.batch:Nat) (l.gk:Nat) (u.root:Nat) (u.aE:Nat) (u.map:Nat) (u.clock:Nat) (u.db:Nat) (u.keys:Nat) (gen:Nat) (some sb) w _ ?_;(delta af.lT r1 U dj al bF mJ;dsimp only);refine bl (vs:=l.c) rfl λw1 t i H=>bl (vs:=u.c) rfl λah x b J=>?_;have r:=t.ext b;have y:=h.ext (i.trans b);refine⟨_,r.cell,(oo y q.1 q.2 s).use ?_⟩;rintro _ a ⟨c,aU,rfl,e,f,K,L⟩;have k:=x.ext f;have z:IntKind.wrap .u64 ((gen:Int)+1)=((gen+1:Nat):Int):=by rw[gJ I I];omega
 rw[z];have M:(hK c aU l.aj D).D=D:=rfl;refine⟨_,0,rfl,λh=>(by cases h),λ_=>⟨_,k.cell,_,by rw[ay];exact k.cell,(mQ e.raw sb ((gen+1:Nat):Int) (u.root:Nat) (u.aE:Nat)).use ?_⟩⟩;rintro _ A (⟨_,rfl,g,B,N⟩|⟨C,_⟩)
 rotate_left
 .exact absurd hu C
 have m:=k.ext g;have o:=(r.ext f).ext g;have O:=(i.trans b).size;have P:=f.size;have E:c<a.heap.size:=e.raw.lt (.inl rfl);have F:aU<a.heap.size:=e.raw.lt (.inr (.inl rfl));refine⟨_,0,rfl,λh=>(by cases h),λ_=>⟨_,o.cell,_,by rw[ay];exact o.cell,_,by rw[ay];exact o.cell,gp m ⟨_,by rw[ay];exact m.cell,_,by rw[ay];exact m.cell,(gz a.heap.size D.d c sb l u gen u.clock 0 0 u.keys false).toArray,by kernel_rfl,bl (vs:=gz a.heap.size D.d c sb l u gen u.clock 0 0 u.keys false) rfl λQ G p R=>?_⟩⟩⟩;exact⟨c,aU,a.heap.size,A.heap.size,rfl,(e.ext g).ext p,B.ext p,G,Ext.trans (Ext.trans (i.trans b) f) (Ext.trans g p),⟨I,E⟩,⟨I,F⟩,I⟩
def fe(f:Nat->ai)(k:Nat):O UInt8:=(List.range k).map λi=>UInt8.ofNat (byteOf f i)
theorem AR(f:Nat->ai)(k:Nat):aF (fe f k)=ew f k:=by
 unfold aF fe ew;rw[g8];refine List.map_congr_left λi _=>?_;have:=jk f i;show Value.int .u8 (((UInt8.ofNat (byteOf f i)).toNat:Nat):Int)=_;rw[pB,iF this]
theorem nw(f:Nat->ai)(k:Nat):(fe f k).length=k:=by simp[fe]
def jq:cM:=⟨0,0,2,0,0,0⟩
structure AS(D aw:aX):Prop where
 d:aw.d=D.d
 n:aw.n=D.n
 now:∀j,aw.now j=if j=1 then d_ 1 (ia jq D.n 1) else if j=2 then d_ 2 ⟨4,1,fe (λi=>decide (i<3)) ((D.n+7)/8)⟩ else if j=0 then fK else D.now j
 waits:aw.waits=[]
 aM:aw.aM=D.aM+4
 calm:∀k,aw.calm k
 b6:aw.b6.getD 3 0= -1
 bC:aw.bC=λi=>decide (i<3)
 dS:aw.dS=λ_=> []
structure FH(D:aX)(l:fc)(w:J)(v:aa)(w':J)(aw:aX)(sb:Nat)(s1 s2:Y)(c aU a_ st:Nat)(ji:J):Prop where
 AT:AQ aw l jq 1 sb ji v w' c aU a_ st
 sp:eo w' sb D.n (λi=>decide (i<3)) (λi=>decide (i<3)) s1 s2
 oM:AS D aw
 ab:ad (bG D) w ji
 qK:∀q,eY sb s1 s2 q->w.heap.size<=q/\q<ji.heap.size
 dq:∀q,bG aw q->bG D q\/(w.heap.size<=q/\q<ji.heap.size)
 FI:∀q,eY sb s1 s2 q->¬bG aw q
theorem mN(h:cl w D){l:fc}(ap:jJ (l.aj:Nat) (l.batch:Nat) (l.gk:Nat))(bj:∀k,D.calm k)(oS:D.b6.getD 3 0= -1)(b1:D.aM<=999999000):
 aP ak 19 #[.pointer (some ⟨D.d,0,none⟩),.agg l.c.toArray] w (λv w'=>∃aw sb s1 s2 c aU a_ st ji,FH D l w v w' aw sb s1 s2 c aU a_ st ji):=by
 have b2:=h.bJ;have b3:=h.bp;refine af.Cg _ (l.aj:Nat) (l.batch:Nat) (l.gk:Nat) w _ ?_;(delta af.mN r1 U bF aH al aB dj aW b8 jy il au gD;dsimp only);refine bl (vs:=l.c) rfl λw1 Q J b4=>⟨_,Q.cell,_,by rw[ay];exact Q.cell,_,by rw[ay];exact Q.cell,(mO w1 _ _ _ _).use ?_⟩;rintro _ bk ⟨rfl,C⟩;have bm:=h.ext (J.trans C);refine⟨_,rfl,λg=>?_,λ_=>(oV bm).use ?_⟩
 .rw[dL ap]at g;cases g
 rintro _ _ ⟨rfl,rfl⟩;refine⟨_,rfl,(od bk (D.n:Nat) 3).use ?_⟩;rintro _ b5 (⟨bn,_⟩|⟨_,_,_,_,sb,s1,s2,rfl,hs,aa,ac⟩)
 .exact absurd ⟨I,I,I,I⟩ bn
 rw[di]at hs;have ae:Int.toNat 3=3:=rfl;rw[ae]at hs;refine⟨_,0,rfl,λh=>(by cases h),λ_=>(z6 hs).use ?_⟩;rintro _ bq ⟨aO,rfl,aQ,K,b7⟩;rw[←AR]at aQ;obtain⟨mp,R⟩:∃mp:g4,mp=⟨4,1,fe (λi=>decide (i<3)) ((D.n+7)/8)⟩:=⟨_,rfl⟩;have aR:l3 mp:=by rw[R];exact⟨(by decide:1<=4),(by decide:4<=4),(by decide:1<18446744073709551616),by show(fe _ _).length<=232;rw[nw];omega⟩
 have aS:=tM (s:=aO) (p:=mp) (no:=2) (w:=bq) (by rw[R];exact aQ.src) (by decide) aR;rw[R]at aS;refine⟨aO,rfl,aS.use ?_⟩;rw[←R];rintro _ br ⟨E,rfl,aT,N,bs⟩;have aV:=Ext.trans (Ext.trans (J.trans C) aa) (Ext.trans K N);have ca:=aV.size;refine⟨E,0,rfl,λh=>(by cases h),λ_=>⟨⟨I,I,I,I⟩,?_⟩⟩;rw[vU];have bt:Int.toNat 256=256:=rfl;rw[bt];have aq:fK.length=256:=kS;refine bl (vs:=aF fK) rfl λz S F cb=>?_;obtain⟨t,bv⟩:∃t,t=br.heap.size:=⟨_,rfl⟩;rw[←bv]at S⊢;have ag:=Ext.trans aV F;have aY:Src 1 z ⟨some ⟨t,0,none⟩,256,256⟩ (aF fK):=S.vI (o:=0) (n:=256) (c:=256) (l:=fK) (by rw[dA,aq];exact bo _) (by rw[lG,dP (by rw[dA,aq];exact bo _)]);refine⟨#[.slice (some ⟨t,0,none⟩) 256 256,.slice (some ⟨t,0,none⟩) 256 256,.slice E.a E.len E.cap],by kernel_rfl,?_⟩;have bw:(d_ 2 mp).length=256:=qq _ aR;obtain⟨vals,av⟩:∃vals:Nat->cL,vals=λj=>if j=2 then d_ 2 mp else fK:=⟨_,rfl⟩
 have bx:∀j,(vals j).length=256:=λj=>by
  rw[av];show(if j=2 then _ else _:cL).length=256;split
  .exact bw
  .exact aq
 have bz:∀k,k<3->∃G:Y,cellAt #[.slice (some ⟨t,0,none⟩) 256 256,.slice (some ⟨t,0,none⟩) 256 256,.slice E.a E.len E.cap] (Int.toNat ((k:Nat):Int)*1)=some (.slice G.a G.len G.cap)/\Src 1 z G (aF (vals k))/\∀q,aC G q->w.heap.size<=q/\q<z.heap.size:=by
  intro k aZ;have bA:=S.lt;have cc:=F.size;rw[av];have hi:∀q,aC (⟨some ⟨t,0,none⟩,256,256⟩:Y) q->w.heap.size<=q/\q<z.heap.size:=λq b=>by
   obtain⟨A,ar,rfl⟩:=b
   cases ar;show w.heap.size<=t/\t<_;exact⟨I,bA⟩
  have cd:=(Ext.trans (Ext.trans (J.trans C) aa) K).size
  match k,aZ with
  |0,_=>exact⟨⟨some ⟨t,0,none⟩,256,256⟩,rfl,aY,hi⟩
  |1,_=>exact⟨⟨some ⟨t,0,none⟩,256,256⟩,rfl,aY,hi⟩
  |2,_=>exact⟨E,rfl,aT.src.ext F,λq b=>by have:=bs q b;have:=aT.lt q b;omega⟩
 have bB:=h.ext ag;refine⟨λn w'=>∃ (k:Nat) (r:aX),n=(k:Int)/\k<=3/\cl w' r/\r.d=D.d/\r.n=D.n/\(∀j,r.now j=if j<k then vals j else D.now j)/\r.aM=D.aM+k/\(∀m,r.calm m)/\r.b6.getD 3 0= -1/\ad (bG D) z w'/\(∀q,bG r q->bG D q\/z.heap.size<=q),
  λn _=>((3:Int)-n).toNat,⟨0,D,rfl,cN _,bB,rfl,rfl,λj=>rfl,rfl,bj,oS,.refl _ _,λq b=>.inl b⟩,?_⟩
 rintro _ ce ⟨k,r,rfl,aZ,O,ah,a0,a1,bC,ax,az,ai,L⟩;have cg:=ai.size;refine⟨λaK=>?_,λbD=>?_⟩
 .have aA:k<3:=by
   have:((k:Nat):Int)<3:=b_ aK;omega
  obtain⟨G,bE,bH,a2⟩:=bz k aA;have cT:∀q,aC G q->¬bG D q:=λq b hf=>by have:=(a2 q b).1;have:=h.lt hf;omega
  have a3:=tX O (i:=k) I I (bH.ab ai cT) (bx k) λq b hf=>by
   rcases L q hf with h1|h1
   .exact cT q b h1
   .have:=(a2 q b).2;omega
  rw[ah]at a3;refine⟨⟨I,I⟩,G,bE,a3.use ?_⟩;rintro _ ch (⟨g,_⟩|⟨g,rfl,s,bI,bK,bL⟩)
  .have:=(iN (k:=2) (m:=0) (.inr rfl) O.f4 (ax 1)).2
   rw[g]at this;cases this
  refine⟨0,rfl,λh=>(by cases h),λ_=>?_⟩;have bM:IntKind.wrap .i64 (((k:Nat):Int)+1)=((k+1:Nat):Int):=by rw[bu I I];omega
  rw[bM];refine⟨⟨k+1,_,rfl,I,bI,ah,a0,λj=>?_,by show r.aM+1=_;omega,λm=>(iN (.inr rfl) O.f4 (ax _)).1,(congrArg Prod.snd (oW r (.inr rfl))).trans az,cm ai bK λq b hf=>(L q hf).resolve_right I,λq b=>?_⟩,by show((3:Int)-((k+1:Nat):Int)).toNat<((3:Int)-((k:Nat):Int)).toNat;omega⟩
  .rw[nh,a1]
   by_cases e:j=k
   .rw[if_pos e,if_pos I,e]
   .rw[if_neg e]
    by_cases T:j<k
    .rw[if_pos T,if_pos I]
    .rw[if_neg T,if_neg I]
  .rcases uk bL q b with h1|h1
   .exact L q h1
   .exact .inr I
 have aA:k=3:=by
  have:¬((k:Nat):Int)<3:=cG bD;omega
 subst aA;have hf:=w9 O I;rw[ah]at hf;refine hf.use ?_;rintro _ a4 (⟨g,_⟩|⟨_,rfl,aD,bN⟩)
 .unfold aX.fh at g
  rw[az]at g;cases g
 obtain⟨b9,H⟩:∃b9,b9=(r.cf 3).ib:=⟨_,rfl⟩;rw[←H]at aD;have a5:b9.d=D.d:=by rw[H];exact ah
 have a6:b9.n=D.n:=by rw[H];exact(qI _).trans a0
 have bO:∀j,b9.now j=if j<3 then vals j else D.now j:=λj=>by
  rw[←a1,H];have aE:r.ib.now j=r.now j:=AP O j;exact aE
 have ci:b9.aM=D.aM+3:=by rw[H];exact bC
 have a7:∀m,b9.calm m:=λm=>by rw[H];exact qJ _ (ax m)
 have a8:b9.b6.getD 3 0= -1:=by
  rw[H];show(r.b6.set 3 _).getD 3 0=_;have bP:=O.f4;rw[eQ (by rw[cY];omega),gW,az];rfl
 have am:∀q,bG b9 q->bG D q\/z.heap.size<=q:=λq b=>by
  rw[H]at b;rcases b with e|e|e|⟨x,hx,e⟩
  .exact L q (.inl e)
  .exact L q (.inr (.inl e))
  .exact L q (.inr (.inr (.inl e)))
  .cases hx
 have an:ad (bG D) z a4:=cm ai bN λq b hf=>(L q hf).resolve_right I;have V:∀q,w.heap.size<=q->¬bG D q:=λq b hf=>by have:=h.lt hf;omega
 have bQ:=((Q.ext (C.trans (Ext.trans aa (Ext.trans K (Ext.trans N F))))).ab an (V _ (bo _)));have bR:=(hs.ext (Ext.trans K (Ext.trans N F))).ab an λq b=>V q (by have:=ac q b;have:=(J.trans C).size;omega);refine⟨0,rfl,λh=>(by cases h),λ_=>bl (vs:=fU.c) rfl λcj bS bT cn=>iT bS rfl jq λbU a9 bV co=>gp a9 ?_⟩;have W:Ext a4 bU:=Ext.ck bT bV (bo _);have X:=aD.ext W;have ba:=lS X I (u:=jq) ⟨(by decide:0<4294967296),(by decide:0<256),(by decide:2<4294967296),(by decide:0<18446744073709551616),(by decide:0<18446744073709551616),(by decide:0<4294967296)⟩ (gen:=1) (by decide);rw[a5]at ba;refine ba.use ?_;have cp:=W.size;have cq:=an.size;rintro _ bb ⟨ao,⟨g,_⟩|⟨_,s,bW,f,B,⟨g,_⟩|⟨_,rfl,Z⟩⟩⟩
 .have:=(iN (k:=2) (m:=0) (.inr rfl) X.f4 (a7 1)).2
  rw[g]at this;cases this
 .have aG:f.b6.getD 3 0= -1:=by rw[B];exact(congrArg Prod.snd (oW b9 (.inr rfl))).trans a8
  unfold aX.fh at g;rw[aG]at g;cases g
 have aG:f.b6.getD 3 0= -1:=by rw[B];exact(congrArg Prod.snd (oW b9 (.inr rfl))).trans a8
 obtain⟨M,y⟩:∃M,M=((f.cf 3).ib).fB (λi=>decide (i<3)) (λ_=> []):=⟨_,rfl⟩;have Z:=Z.fB (λi=>decide (i<3)) (λ_=> []);rw[←y]at Z;have bX:∀x∈f.waits,x.i<f.n:=λx hx=>by
  rw[B]at hx⊢;rcases cP.1 hx with rfl|hx
  .show 1%2<b9.n;omega
  .exact(X.wn x (gI.1 hx).1).2.1
 have bY:∀j,M.now j=if j=1 then d_ 1 (ia jq D.n 1) else if j<3 then vals j else D.now j:=λj=>by
  have aE:M.now j=f.now j:=by
   rw[y];by_cases bd:j<f.n
   .exact(w8 (f.cf 3) bd).trans (qz f 3 j)
   .have P:f.now j=[]:=by
     unfold aX.now
     cases hf:f.waits.find? λx=>x.i==j with
     |some x=>
      have hx:=iE hf;have he:x.i=j:=by simpa using jr hf
      have:=bX x hx;omega
     |none=>
      have:¬j<f.bc.length:=bd;show f.bc.getD j []=[];rw[fg,kQ I];rfl
    rw[P];show((List.range (f.cf 3).n).map (f.cf 3).now).getD j []=[];rw[fg,kQ (by simp;show f.n<=j;omega)];rfl
  rw[aE,B,nh,bO,a6]
 have aI:AS D M:=by
  refine⟨by rw[y,B];exact a5,by rw[y];exact(qI (f.cf 3)).trans (by rw[B];exact a6),λj=>?_,by rw[y];rfl,by rw[y,B];show b9.aM+1=_;omega,λm=>by rw[y,B];exact qJ (b9.put (1%2) s (d_ (1%2) (ia jq b9.n 1))) (iN (.inr rfl) X.f4 (a7 _)).1,?_,by rw[y];rfl,by rw[y];rfl⟩
  .rw[bY,av,←R]
   by_cases P:j=1
   .rw[if_pos P,if_pos P]
   .rw[if_neg P,if_neg P]
    by_cases T:j=2
    .subst T;rfl
    .by_cases ae:j=0
     .subst ae;rfl
     .rw[if_neg I,if_neg T,if_neg ae]
  .rw[y]
   show(f.b6.set 3 _).getD 3 0=_;have bP:f.b6.length=4:=by rw[B];show(b9.b6.set 2 _).length=4;rw[cY];exact X.f4
   rw[eQ (by rw[cY];omega),gW,aG];rfl
 have be:∀q,bG M q->bG D q\/z.heap.size<=q:=λq b=>by
  rw[y]at b;have h1:bG f q:=by
   rcases b with e|e|e|⟨x,hx,e⟩
   .exact .inl e
   .exact .inr (.inl e)
   .exact .inr (.inr (.inl e))
   .cases hx
  rw[B]at h1;rcases uk bW q h1 with h2|h2
  .exact am q h2
  .exact .inr I
 have bf:ad (bG D) z bb:=cm (cm an W λq _ h=>h.elim) ao λq b hf=>(am q hf).resolve_right I;have aJ:=(bQ.ext W).ab ao λhf=>by
  rcases am _ hf with h1|h1
  .exact V _ (bo _) h1
  .have:=ag.size;have:=S.lt;have:=Q.lt;have:=C.size;have:=aa.size;have:=K.size;have:=N.size;have:=F.size;omega
 have bZ:=a9.ab ao λhf=>by
  have:=aD.lt hf;omega
 have bg:=(bR.ext W).ab ao λq b hf=>by
  have bh:=ac q b;have aL:=(hs.ext (Ext.trans K (Ext.trans N (ad.refl _ _)))).lt q b;rcases am _ hf with h1|h1
  .exact V q (by have:=(J.trans C).size;omega) h1
  .have:=F.size;omega
 have cr:=bf.size;have S:=ag.size;have bi:=lT Z (l:=l) (u:=jq) (gen:=1) ⟨by have:=ap.1;omega,by have:=ap.2.1;omega⟩ ⟨by decide,by decide,by decide,by rw[aI.n];show(0:Int)<_;omega,by decide⟩ (by decide) (λj _=>by rw[y];rfl) sb;rw[aI.d]at bi;refine⟨0,rfl,λh=>(by cases h),λ_=>⟨_,aJ.cell,_,by rw[ay];exact aJ.cell,_,by rw[ay];exact aJ.cell,gp bZ (bi.use ?_)⟩⟩;rintro _ cs ⟨c,aU,a_,st,aN⟩;have b0:=aN.val;subst b0;refine⟨_,0,rfl,M,sb,s1,s2,c,aU,a_,st,bb,aN,bg.ext aN.x,aI,cm (ag.mono λ_ _ h=>h.elim) bf λq _ h=>h,λq b=>?_,λq b=>?_,λq b hf=>?_⟩
 .have bh:=ac q b
  have aL:=bg.lt q b;have:=(J.trans C).size;exact⟨I,aL⟩
 .rcases be q b with h1|h1
  .exact .inl h1
  .exact .inr ⟨I,Z.lt b⟩
 .have bh:=ac q b
  have aL:=(hs.ext (Ext.trans K (Ext.trans N (ad.refl _ _)))).lt q b;rcases be _ hf with h1|h1
  .exact V q (by have:=(J.trans C).size;omega) h1
  .have:=F.size;omega
end
theorem fu.rising{T:aL}{pages:O Nat}{L:O aR}(h:fu T pages L):h3 L:=by
 rcases h with ⟨_,_,_,a⟩|b
 .rw[a];exact List.Pairwise.nil
 .exact b.e_.1
section
variable {w0 w w':J}{um ef:Nat}{T ao:aL}{r h k:Nat}{pages:O Nat}{L jK:O aR}{ms:Y}
theorem bH.nx{qG:Nat}(ht:bH w T)(a:T.E qG)(hc:ad (λq=>q=qG) w w'):bH w' T:=
 ht.grow (E:=T.E) (G:=T.G) hc (λq e _=>.inl (by rw[e];exact a)) (λq a=>.inl a) (λq a=>.inr (.inl a)) λq a=>(ht.c3 q a).2.2
end
def aL.uo(T:aL)(f g:Nat->ai)(s1 s2:Y):aL:={T with f:=f,g:=g,s1:=s1,s2:=s2}
def aL.bY(T:aL)(a_ gen root aE:Nat)(E:Nat->Prop):aL:={T with a_:=a_,gen:=gen,root:=root,aE:=aE,E:=E}
section
variable {w0 w w':J}{um ef:Nat}{T ao:aL}{r h k:Nat}{pages:O Nat}{L jK:O aR}{ms:Y}
theorem bH.space{f g:Nat->ai}{s1 s2:Y}(ht:bH w T)(hs:eo w' T.sb T.n f g s1 s2)(hc:ad (eY T.sb T.s1 T.s2) w w')(hf:∀k,eY T.sb s1 s2 k->eY T.sb T.s1 T.s2 k\/w.heap.size<=k)(d:∀j,T.C.D.bC j=true->g j=true\/T.C.D.ro)(e:g 0=true/\g 1=true):
 bH w' (T.uo f g s1 s2)/\∀q,(T.uo f g s1 s2).M q->T.M q\/w.heap.size<=q:=by
 have c:∀q,T.X q->¬eY T.sb T.s1 T.s2 q->¬eY T.sb s1 s2 q:=λq hx a h2=>by
  rcases hf q h2 with b|b
  .exact a b
  .have:=ht.lt (q:=q) (.inr hx);omega
 refine⟨⟨ht.t.ab hc ht.iP,hs,ht.ca.grow hc (λq a _=>.inr (.inl a)) λq a=>?_,c _ (.inl rfl) ht.iP,λq a=>⟨(ht.c3 q a).1,c q (.inr (.inr (.inl a))) (ht.c3 q a).2.1,(ht.c3 q a).2.2⟩,λq a=>⟨(ht.hL q a).1,c q (.inr (.inr (.inr a))) (ht.hL q a).2⟩,ht.n,ht.num,ht.dQ,d,e⟩,λq a=>?_⟩
 .rcases a with a|a|a|a
  .exact .inl (.inl a)
  .rcases hf q a with b|b
   .exact .inl (.inr (.inl b))
   .exact .inr ⟨b,hs.lt q a⟩
  .exact .inl (.inr (.inr (.inl a)))
  .exact .inl (.inr (.inr (.inr a)))
 .rcases a with a|a|a|a|a
  .exact .inl (.inl a)
  .exact .inl (.inr (.inl a))
  .exact(hf q a).imp (λh=>.inr (.inr (.inl h))) id
  .exact .inl (.inr (.inr (.inr (.inl a))))
  .exact .inl (.inr (.inr (.inr (.inr a))))
theorem bH.tree{a_ gen root aE:Nat}{E:Nat->Prop}(ht:bH w T)(hx:Ext w w')(g:Var w' a_ (j8 (T.bY a_ gen root aE E)) 239)(c:T.E a_\/w.heap.size<=a_)(d:∀q,E q->q≠a_/\(T.E q\/q=T.a_\/(w.heap.size<=q/\q<w'.heap.size)))
 (i:root<T.n/\aE<=12/\gen<18446744073709551616) (j:∀no bj,T.P no=some bj->no<T.n/\gg gen bj.leaf no (T.C.view no) bj):bH w' (T.bY a_ gen root aE E):=by
 have l:=g.lt;have h1:¬eY T.sb T.s1 T.s2 a_:=λh=>by
  rcases c with h2|h2
  .exact(ht.c3 _ h2).2.1 h
  .have:=ht.lt (q:=a_) (.inr (.inr (.inl h)));omega
 have h2:∀q,T.G q->q≠a_:=λq a e=>by
  rcases c with h2|h2
  .rw[e]at a;exact(ht.c3 _ h2).2.2 a
  .have:=ht.lt (q:=q) (.inr (.inr (.inr (.inr a))));omega
 have k:∀q,E q->¬eY T.sb T.s1 T.s2 q/\¬T.G q:=λq a=>by
  rcases(d q a).2 with b|b|b
  .exact(ht.c3 q b).2
  .rw[b]
   exact⟨ht.iP,λhg=>(ht.hL _ hg).1 rfl⟩
  .exact⟨λf=>by have:=ht.lt (q:=q) (.inr (.inr (.inl f)));omega,λf=>by have:=ht.lt (q:=q) (.inr (.inr (.inr (.inr f))));omega⟩
 refine⟨g,ht.s.ext hx,ht.ca.grow (W:=λ_=>False) hx (λ_ h=>h.elim) λq a=>?_,h1,λq a=>⟨(d q a).1,k q a⟩,λq a=>⟨h2 q a,(ht.hL q a).2⟩,ht.n,i,j,ht.bC,ht.low⟩;rcases a with a|a|a|a
 .have a:q=a_:=a
  rcases c with b|b
  .exact .inl (.inr (.inr (.inl (by rw[a];exact b))))
  .exact .inr ⟨I,I⟩
 .exact .inl (.inr (.inl a))
 .rcases(d q a).2 with b|b|b
  .exact .inl (.inr (.inr (.inl b)))
  .exact .inl (.inl b)
  .exact .inr b
 .exact .inl (.inr (.inr (.inr a)))
theorem fu.agree{p:O Nat}(a:fu T p L)(b:ao.root=T.root)(c:ao.aE=T.aE)(d:∀x∈p,T.P x=ao.P x):fu ao p L:=by
 unfold fu at a⊢;rw[b,c];exact a.imp id λe=>(e.agree d).1
end
theorem en.node{P:Nat->aq aA}:∀ (h:Nat) {lo hi:aq Key}{no:Nat}{p:O Nat}{L:O aR},en P h lo hi no p L->∀x∈p,∃bj,P x=some bj
 |0,_,_,_,_,_,a=>a.elim
 |h+1,_,_,no,p,_,a=>by
  obtain⟨n,d,h1,_,_,rfl,_,hc⟩:=a.AG
  intro x hx
  rcases cP.1 hx with rfl|hx
  .exact⟨n,h1⟩
  .rcases hc with ⟨_,_,rfl,_⟩|⟨_,ps,e,f,g,rfl,_,he⟩
   .cases hx
   .obtain⟨l,b,c⟩:=List.mem_flatten.1 hx
    obtain⟨i,hi,rfl⟩:=eK b
    exact en.node h (he i I hi I) x c
theorem bH.FJ{w:J}{T:aL}{pages:O Nat}{L:O aR}(ht:bH w T)(b:fu T pages L){x:Nat}(hx:x∈pages):¬iS T x:=by
 rintro⟨_,e,h2⟩;rcases b with ⟨_,_,a,_⟩|c
 .rw[a]at hx;cases hx
 .obtain⟨bj,a⟩:=c.node _ x hx
  obtain⟨_,p,av,_⟩:=ht.dQ x bj a;rw[h2]at av;cases av
theorem xa(f:Nat->ai):∀ (n:Nat) (x:Int),x∈iO f n↔∃k:Nat,x=(k:Int)/\k<n/\f k=true
 |0,x=>by simp[iO]
 |n+1,x=>by
  rw[iO,cH,xa f n x]
  constructor
  .rintro(⟨k,h1,h2,a⟩|h)
   .exact⟨k,h1,I,a⟩
   .split at h
    .exact⟨n,e0.1 h,I,by assumption⟩
    .cases h
  .rintro⟨k,h1,h2,a⟩
   rcases dR k n with b|b
   .exact .inl ⟨k,h1,b,a⟩
   .have:k=n:=by omega
    subst this
    right
    rw[if_pos a,h1];simp
theorem xb(f:Nat->ai):∀n,(iO f n).Pairwise λa b=>a<b
 |0=>List.Pairwise.nil
 |n+1=>by
  rw[iO]
  refine lE.2 ⟨xb f n,by split<;>simp,λa d b c=>?_⟩
  obtain⟨k,h1,h2,_⟩:=(xa f n a).1 d
  split at c
  .have:=e0.1 c;omega
  .cases c
theorem FK{f:Nat->ai}{n:Nat}{es:O Nat}(h1:es.Pairwise λa b=>a<b)(h2:∀x,x∈es↔x<n/\f x=true):dv es=ll f n:=by
 have e:(es.map λd=>((d:Nat):Int)).Perm (iO f n):=by
  refine(List.perm_ext_iff_of_nodup ?_ ?_).2 λx=>?_
  .exact List.Pairwise.map _ (λa b g=>by show((a:Nat):Int)≠((b:Nat):Int);omega) h1
  .exact(xb f n).imp λh=>by omega
  .rw[xa,dU]
   constructor
   .rintro⟨k,c,rfl⟩
    exact⟨k,rfl,(h2 k).1 c⟩
   .rintro⟨k,rfl,c⟩
    exact⟨k,(h2 k).2 c,rfl⟩
 have he:(es.map λd=>((d:Nat):Int))=iO f n:=by
  refine e.eq_of_pairwise (le:=λx y=>x<=y) (λx y _ _ h1 h2=>I) ?_ ((xb f n).imp λh=>I);exact List.Pairwise.map _ (λa b g=>by show((a:Nat):Int)<=((b:Nat):Int);omega) h1
 rw[wY,he];rfl
section
variable {w0 w w':J}{um ef:Nat}{T ao:aL}{r h k:Nat}{pages:O Nat}{L jK:O aR}{ms:Y}
structure g6 where
 kind:Int
 tk:Y
 dC:Y
 n:Int
 key:Key
 val:Key
def g6.c(a:g6):O aa:=[a.kind,a.tk,a.dC,a.n]
structure o7(w:J)(a:g6):Prop where
 k:Src 1 w a.tk (aF a.key)
 AU:a.tk.len<=a.tk.cap
 v:Src 1 w a.dC (aF a.val)
 lK:a.dC.len<=a.dC.cap
structure kc(w:J)(l:Y)(A:O g6):Prop where
 s:Src 4 w l (b5 g6.c A)
 ok:∀a∈A,o7 w a
theorem xc(A:O g6):∀x∈A,(g6.c x).length=4:=λ_ _=>rfl
theorem o7.ext{a:g6}(h:o7 w a)(hx:Ext w w'):o7 w' a:=⟨h.k.ext hx,h.AU,h.v.ext hx,h.lK⟩
theorem kc.ext{l:Y}{A:O g6}(h:kc w l A)(hx:Ext w w'):kc w' l A:=⟨h.s.ext hx,λa b=>(h.ok a b).ext hx⟩
theorem kc.len{l:Y}{A:O g6}(h:kc w l A):l.len=A.length:=by
 have:=h.s.len;rw[gQ _ (xc A)]at this;omega
theorem kc.at{l:Y}{A:O g6}(h:kc w l A){i:Nat}(hi:i<A.length):∃a:ae,l.a=some a/\((0:Int)<=(i:Int)/\(i:Int)<(l.len:Int))/\w.cell? (a.add (Int.toNat (i:Int)*4))=some (.int .i64 (A[i]).kind)/\w.cell? ((a.add (Int.toNat (i:Int)*4)).add 1)=some (.slice (A[i]).tk.a (A[i]).tk.len (A[i]).tk.cap)/\
 w.cell? ((a.add (Int.toNat (i:Int)*4)).add 2)=some (.slice (A[i]).dC.a (A[i]).dC.len (A[i]).dC.cap)/\w.cell? ((a.add (Int.toNat (i:Int)*4)).add 3)=some (.int .i64 (A[i]).n):=by
 have k:=h.len
 cases b:l.a with
 |none=>
  have:=congrArg List.length (h.s.nil b);rw[gQ _ (xc A),jQ]at this;omega
 |some a=>
  have f:=h.s.rd a b;have hg:∀j v,(g6.c A[i])[j]? =some v->w.cell? (a.add (i*4+j))=some v:=λj v d=>by
   have g:j<4:=(iy.1 d).1;have e:=pU f (j:=i*4+j) (v:=v) (by rw[tT (xc A) hi g];exact d);rw[cE]at e;exact e
  rw[di];refine⟨a,rfl,⟨I,I⟩,hg 0 _ rfl,?_,?_,?_⟩<;>rw[add_add]
  .exact hg 1 _ rfl
  .exact hg 2 _ rfl
  .exact hg 3 _ rfl
theorem AV{s:Y}(h:mG ak w 5 s):∃l:O UInt8,Src 1 w s (aF l):=by
 obtain⟨l,h1,_,_⟩:=h.src (c:=λc:UInt8=> [Value.int .u8 (c.toNat:Int)]) (sz:=1) (by kernel_rfl) (λ_=>True) λfuel us b=>by
  obtain⟨n,rfl,h2,d⟩:=u5 b (k:=.u8) (by kernel_rfl);have g:=u3 h2 d;refine⟨UInt8.ofNat n.toNat,?_,trivial⟩;simp only[pB]
  congr 2
  omega
 have e:∀l:O UInt8,(l.map λc:UInt8=> [Value.int .u8 (c.toNat:Int)]).flatten=aF l:=λl=>by
  unfold aF
  induction l with
  |nil=>rfl
  |cons a l f=>rw[iC,List.flatten_cons,f];rfl
 rw[e]at h1;exact⟨l,h1⟩
set_option maxRecDepth 100000 in
theorem rH {fuel:Nat}{vs:O aa} (h:fY ak w fuel 50 vs):∃a:g6,vs=a.c/\o7 w a:=by
 have hu:Tryz.prog.underlying 50=some (.struct (fieldsOf ak 50)):=by kernel_rfl
 have hlen:vs.length=4:=by
  have:=(ym h hu).1;rwa[show Tryz.prog.cellsOf 50=4 by kernel_rfl]at this
 obtain⟨_,f0⟩:=rM h hu 0 (t:=3) (o:=0) (n:=1) (by kernel_rfl) (by kernel_rfl);obtain⟨_,f1⟩:=rM h hu 1 (t:=48) (o:=1) (n:=1) (by kernel_rfl) (by kernel_rfl);obtain⟨_,f2⟩:=rM h hu 2 (t:=48) (o:=2) (n:=1) (by kernel_rfl) (by kernel_rfl);obtain⟨_,f3⟩:=rM h hu 3 (t:=3) (o:=3) (n:=1) (by kernel_rfl) (by kernel_rfl);obtain⟨l,f,_⟩:=u5 f0 (k:=.i64) (by kernel_rfl);obtain⟨d1,g,av⟩:=u6 f1 (e:=5) (by kernel_rfl);obtain⟨d2,i,ax⟩:=u6 f2 (e:=5) (by kernel_rfl);obtain⟨m,j,_⟩:=u5 f3 (k:=.i64) (by kernel_rfl);obtain⟨jc,bN⟩:=AV av;obtain⟨p,bZ⟩:=AV ax;refine⟨⟨l,d1,d2,m,jc,p⟩,?_,bN,av.le,bZ,ax.le⟩
 match vs,hlen with
 | [a,b,c,d],_=>
  simp at f g i j;rw[f,g,i,j];rfl
set_option maxRecDepth 100000 in
theorem kc.of {v:aa} (h:kr ak w 39 v):∃ (l:Y) (A:O g6),v=l/\kc w l A:=by
 obtain⟨t,rfl,ht⟩:=mG.of h (e:=50) (by kernel_rfl);obtain⟨A,h1,_,h2⟩:=ht.src (c:=g6.c) (sz:=4) (by kernel_rfl) (λa=>o7 w a) λfuel vs b=>rH b;exact⟨t,A,rfl,h1,h2⟩
end
structure gA(V:Nat->cL)(n gen:Nat)(u:cM)(g:Nat->ai)(P:Nat->aq aA)(p:O Nat)(L:O aR):Prop where
 fr:∃j,j<n/\g j=false
 uq:gn ((gen%2:Nat):Int) (V (gen%2))=.ok (u,n,gen)
 xd:V (1-gen%2)=fK\/∃a g',gn ((1-gen%2:Nat):Int) (V (1-gen%2))=.ok (a,n,g')/\g'<gen
 mp:∃eZ,eZ<=gen/\dk (u.map:Int) (V u.map)=.ok ⟨4,eZ,fe g ((n+7)/8)⟩
 g:∀no,g no=true↔no∈p\/no<2\/no=u.map
 bj:p.Nodup
 two:∀x∈p,2<=x/\x≠u.map/\x<n
 ok:(u.aE=0/\u.root=0/\p=[]/\L=[])\/en P u.aE none none u.root p L
 dQ:∀x∈p,∀bj,P x=some bj->gg gen bj.leaf x (V x) bj
 keys:u.keys=L.length
 jL:∀q∈L,cD q.1/\q.2.length<=24
 AW:mi u
 o8:jo u n
 AX:u.db+1<=gen
theorem gA.agree{V a:Nat->cL}{n gen:Nat}{u:cM}{g:Nat->ai}{P P':Nat->aq aA}{p:O Nat}{L:O aR}(h:gA V n gen u g P p L)(dJ:∀j,g j=true->a j=V j)(b:∀x∈p,P x=P' x):gA a n gen u g P' p L:=by
 have h0:a (gen%2)=V (gen%2):=dJ _ ((h.g _).2 (.inr (.inl I)));have h1:a (1-gen%2)=V (1-gen%2):=dJ _ ((h.g _).2 (.inr (.inl I)));refine⟨h.fr,by rw[h0];exact h.uq,by rw[h1];exact h.xd,by rw[dJ _ ((h.g _).2 (.inr (.inr rfl)))];exact h.mp,h.g,h.bj,h.two,h.ok.imp id λc=>(c.agree b).1,λx hx bj d=>?_,h.keys,h.jL,h.AW,h.o8,h.AX⟩;rw[dJ _ ((h.g _).2 (.inl hx))];exact h.dQ x hx bj (by rw[b x hx];exact d)
structure cn where
 st:Nat
 T:aL
 l:fc
 u:cM
 gen:Nat
 now:Nat
 first:Nat
 pending:Nat
 keys:Nat
 failed:ai
def cn.V(S:cn)(j:Nat):cL:=S.T.C.D.bc.getD j []
def cn.cells(S:cn):O aa:=gz S.T.a_ S.T.C.D.d S.T.C.c S.T.sb S.l S.u S.gen S.now S.first S.pending S.keys S.failed
structure fw(w:J)(S:cn)(aN:O Nat)(aZ:O aR):Prop where
 v:Var w S.st S.cells 158
 t:bH w S.T
 es:S.T.E S.st
 fx:gA S.V S.T.n S.gen S.u S.T.g S.T.P aN aZ
 gen:S.T.gen=S.gen+1
 num:S.now<18446744073709551616/\S.first<=S.now/\S.u.db+1<=S.gen/\S.gen+2<18446744073709551616/\S.l.batch<=1000/\S.l.gk<=1048576/\1<=S.l.batch
 bC:∀j,S.T.g j=true->S.T.C.D.bC j=true
structure dK(w:J)(S:cn)(pages:O Nat)(L:O aR)(aN:O Nat)(aZ:O aR):Prop extends fw w S aN aZ where
 ok:fu S.T pages L
 bj:pages.Nodup
 f:∀no,S.T.f no=true↔no∈pages\/no<2\/no=S.u.map
 two:∀x∈pages,2<=x/\x≠S.u.map
 jL:∀p∈L,cD p.1/\p.2.length<=24
 keys:S.keys=L.length
 j_:S.pending<=1000
 live:S.failed=false->¬S.T.C.D.ro/\S.T.C.D.dS=(λ_=> [])/\1<=b3 S.T
 dead:S.failed=true->S.T.C.D.ro/\L=aZ/\pages=aN/\S.pending=0
def aX.quiet(D:aX):Prop:=(∀k,D.calm k)/\D.b6.getD 3 0= -1
def cn.W(S:cn)(q:Nat):Prop:=S.T.M q/\(S.T.E q->q=S.st)
structure dy(k:Nat)(S aJ:cn)(w w':J):Prop where
 st:aJ.st=S.st
 d:aJ.T.C.D.d=S.T.C.D.d
 n:aJ.T.n=S.T.n
 l:aJ.l=S.l
 aM:aJ.T.C.D.aM<=S.T.C.D.aM+k
 q:S.T.C.D.quiet->aJ.T.C.D.quiet
 ab:ad S.W w w'
 cS:∀q,aJ.T.M q->S.T.M q\/w.heap.size<=q
 E:aJ.T.E=S.T.E
 G:aJ.T.G=S.T.G
section
variable {w w':J}{C:bT}{X:Nat->Prop}{T:aL}{S aJ:cn}{pages aN:O Nat}{L aZ:O aR}
theorem fw.kI(h:fw w S aN aZ){q:Nat}(a:S.T.N q):S.W q:=⟨aL.gm a,λhe=>absurd a (h.t.iM he)⟩
theorem fw.xe(h:fw w S aN aZ):S.W S.st:=⟨.inr (.inr (.inr (.inl h.es))),λ_=>rfl⟩
theorem dy.back{k q:Nat}(h:dy k S aJ w w')(b:q<w.heap.size)(a:aJ.W q):S.W q:=⟨(h.cS q a.1).resolve_right I,λhe=>(a.2 (by rw[h.E];exact he)).trans h.st⟩
theorem dD.fB(h:dD X w C){s:Nat->ai}{z:Nat->O cL}(hc:∀f∈C.aj,∀j:Nat,f.full=true->f.no=j->s j=true->f.fi=false)(b:∀j,s j=true->C.D.c_ j=z j):
 dD X w {C with D:=C.D.fB s z}:=
 ⟨⟨h.raw.v,h.raw.f,h.raw.dev.fB s z,h.raw.bN,h.raw.bZ,h.raw.hd,h.raw.a1⟩,h.inv.pins,λf hf a=>by
  obtain⟨no,av,ax,c,d,e,i,g⟩:=h.inv.ok f hf a
  exact⟨no,av,ax,c,d,e,λhs=>hc f hf no a av hs,g⟩,h.inv.un,h.inv.eR,b⟩
theorem bH.fB(h:bH w T){s:Nat->ai}{z:Nat->O cL}(hc:∀f∈T.C.aj,∀j:Nat,f.full=true->f.no=j->s j=true->f.fi=false)(a:∀j,s j=true->T.C.D.c_ j=z j)(hs:∀j,s j=true->T.g j=true\/∀i,s i=true):
 bH w (T.bg {T.C with D:=T.C.D.fB s z} T.P):=⟨h.t,h.s,h.ca.fB hc a,h.iP,h.c3,h.hL,h.n,h.num,h.dQ,hs,h.low⟩
theorem FL(h:dD X w C){j:Nat}(hs:C.D.bC j=true):C.view j=C.D.now j:=by
 unfold bT.view
 cases hf:C.aj.find? λf=>f.full&&f.no==(j:Int) with
 |none=>rfl
 |some f=>
  have h1:=jr hf;have h2:=iE hf;simp only[dT,jO]at h1;obtain⟨no,av,ax,c,d,a,b,e⟩:=h.inv.ok f h2 h1.1;have:no=j:=by omega
  subst this;exact a (b hs)
theorem FM(h:dD X w C){j:Nat}(hs:C.D.bC j=true)(a:C.D.dS j=[]):C.view j=C.D.bc.getD j []:=by
 rw[FL h hs,tW _ (λx hx=>(h.raw.dev.wn x hx).1),if_pos (by rw[h.inv.j6 j hs,a])]
theorem dK.view(h:dK w S pages L aN aZ)(a:S.failed=false){j:Nat}(b:S.T.g j=true):S.T.C.view j=S.V j:=
 FM h.t.ca (h.bC j b) (by rw[(h.live a).2.1])
theorem fw.FN(h:fw w S aN aZ):o6 S.T.C.D.n (S.u.root:Nat) (S.u.aE:Nat):=by
 obtain⟨h1,h2,a,_⟩:=h.fx.o8;rw[h.t.n];exact⟨I,I,I,I,I⟩
theorem fw.set(h:fw w S aN aZ){i:Nat}{x:aa}(hi:i<19):(∃u:aa,w.cell? ⟨S.st,i,none⟩=some u)/\w.frozen? ⟨S.st,i,none⟩=false/\
 Var (w.setCell ⟨S.st,i,none⟩ x) S.st (S.cells.set i x) 158/\bH (w.setCell ⟨S.st,i,none⟩ x) S.T/\ad (λq=>q=S.st) w (w.setCell ⟨S.st,i,none⟩ x):=by
 obtain⟨av,ax⟩:=dB h.v (i:=i) (by exact hi);exact⟨av,ax,dI h.v (i:=i) x,h.t.nx h.es (dg w S.st i x),dg w S.st i x⟩
end
end Go.Proofs.YtkdhdlfonmgheaaGreat
