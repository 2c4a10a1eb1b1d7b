/- Contracts of the functions that the statement reaches, and the plain laws over them; each theorem stands with its conditions. -/
import Derived.Shelf.SlIterI.Nil
import Derived.Shelf.SortM.Plain
import Derived.Shelf.SortM.SortNone
import Derived.Test.YtkdhdlfonmgheaaGreatProg
import Derived.Test.YtkdhdlfonmgheaaGreatBFails4
namespace Go.Proofs.YtkdhdlfonmgheaaGreat
open Go a7 Go.Proofs.Tryz
theorem Cd{l:O aI}{k:Key}(h:(ed l k).length=l.length):∀p∈l,p.1≠k:=by
 intro p a;unfold ed at h;have:=(jT (p:=λp:aI=>decide (p.1≠k))).1 (List.Sublist.eq_of_length List.filter_sublist h);exact b1 (this p a)
theorem Ce{L A B M:O aI}{k:Key}(b:L=A++(M++B))(hu:ed L k=A++(ed M k++B)):eB L k=eB M k:=by
 have h1:(ed A k).length<=A.length:=lW _ _;have h2:(ed B k).length<=B.length:=lW _ _;have c:=congrArg List.length hu;rw[b,pU,pU]at c;simp only[cz]at c;have ar:=Cd (l:=A) (k:=k) I;have hB:=Cd (l:=B) (k:=k) I;have d:A.find? (λp=>decide (p.1=k))=none:=jk.2 λp a=>by simpa using ar p a
 have e:B.find? (λp=>decide (p.1=k))=none:=jk.2 λp a=>by simpa using hB p a
 unfold eB;rw[b,List.find?_append,List.find?_append,d,e];simp
theorem Cf{n:aD}{k:Key}(h:gS n):eB n.dN k=if hA n.keys k then n.vals[cN n.keys k]? else none:=by
 have s:=pX n.keys k;have w:=h.fb;have t:∀ (j:Nat) (f:j<n.keys.length),j<cN n.keys k->bH n.keys[j] k:=λj f h1=>om h1 f;have u:n.keys[cN n.keys k]? ≠some k->∀ (j:Nat) (f:j<n.keys.length),cN n.keys k<=j->bH k n.keys[j]:=λhe j f h1=>Ca w h1 f he;have l:n.dN=n.keys.zip n.vals:=rfl;unfold hA;rw[l];generalize cN n.keys k=i at s t u⊢;obtain⟨a,b,c,d,g,v,z,A,B,H,J,K,L⟩:=yr h s;have C:n.keys.zip n.vals=a.zip c++b.zip d:=by rw[g,v];exact oh I
 have D:(a.zip c).find? (λp:aI=>decide (p.1=k))=none:=jk.2 λp l=>by
  have q:=(qy l).1;obtain⟨j,f,r⟩:=fh q;have h1:=t j (by rw[g,cz];omega) I;simp only[g,lU f,r]at h1;simpa using kz h1
 unfold eB;rw[C,List.find?_append,D];by_cases he:n.keys[i]? =some k
 .rw[if_pos (by simpa using he)]
  have E:∃m,b=k::m:=by
   cases b with
   |nil=>rw[g,kl I]at he;simp at he
   |cons y m=>
    rw[g,kl I,z,nx]at he;simp at he;exact⟨m,by rw[he]⟩
  obtain⟨m,rfl⟩:=E;obtain⟨x,o,rfl⟩:∃x o,d=x::o:=by
   cases d with
   |nil=>simp at B
   |cons x o=>exact⟨x,o,rfl⟩
  rw[v,kl I,A,nx];simp
 .rw[if_neg (by simpa using he)]
  have F:=u he;have G:(b.zip d).find? (λp:aI=>decide (p.1=k))=none:=jk.2 λp l=>by
   have q:=(qy l).1;obtain⟨j,f,r⟩:=fh q;have h1:=F (i+j) (by rw[g,cz];omega) I;have e:(a++b)[i+j]'(by rw[cz];omega)=b[j]:=by
    rw[ny I];congr 1;omega
   simp only[g,e,r]at h1;have:=kz h1;simpa using λh=>this h.symm
  rw[G];rfl
def yu(T:aN)(L:O aI)(key:Key)(w:J)(v:aa)(w':J):Prop:=
 ∃aE:b4,bL w' (T.bk aE T.P)/\bN T (T.bk aE T.P) w w' 30/\(∀j,aE.view j=T.C.view j)/\
  ((v=.tuple #[(),false,(0:Int)]/\(cv key->eB L key=none))\/
   (∃ (t:Y) (x:Key),v=.tuple #[t,true,(0:Int)]/\cv key/\eB L key=some x/\a6 (λq=>¬(T.bk aE T.P).M q) w' t x)\/
   (v=.tuple #[(),false,(3:Int)]/\cv key/\¬T.C.D.calm 30))
theorem yw{w:J}{T:aN}{pages:O Nat}{L:O aI}{tk:Y}{key:Key}(h:bL w T)(S:gj T pages L)(aS:T.C.D.aR<=800000000)(l:Src 1 w tk (aJ key))(v:∀q,aB tk q->q<w.heap.size/\¬T.M q):
 aQ aj 80 #[.pointer (some T.aY),tk] w (yu T L key w):=by
 have W:=len8 l;have aT:=h.num.2.1;have aV:T.bk T.C T.P=T:=rfl;refine okF (af.tU (some T.aY) tk) aA.tU func80 ?_;(delta af.tU ak aM b_ au a_ ag ct U gZ aL;dsimp only);refine cd (λb w'=>b= !(decide (cv key))/\w=w') (λq m=>⟨λh=>(by cases h),λ_=>(mX w tk).use ?_⟩) ?_
 .rintro _ _ ⟨rfl,rfl⟩
  refine⟨_,rfl,m _ _ ⟨?_,rfl⟩⟩;unfold cv;rw[W]
 rintro _ _ ⟨rfl,rfl⟩;refine⟨λf=>⟨λh=>(by cases h),λ_=>?_⟩,λf=>?_⟩
 .have:¬cv key:=by simpa using f
  exact⟨T.C,h,(bN.refl T w).mono I,λ_=>rfl,.inl ⟨rfl,λhx=>absurd hx this⟩⟩
 have hg:cv key:=by simpa using f
 obtain⟨steps,x,y⟩:=yt (k:=key) h S;refine(yf h I l v x).use ?_;rintro _ X ⟨aE,n,g,j,Z⟩;rcases Z with ⟨s,a,rfl,d,z⟩|⟨rfl,aa⟩
 rotate_left
 .exact⟨⟨none,0,0⟩,3,rfl,λ_=>⟨aE,n,g.mono I,j,.inr (.inr ⟨rfl,hg,λhc=>aa (fH hc I)⟩)⟩,λhx=>(by simp at hx)⟩
 have aW:s.len=a.length:=by
  have:=z.own.1;rw[gL _ (nj a)]at this;omega
 have aZ:a.length=T.aH:=by
  have:=x.length;rw[←d,dL]at this;exact this
 refine⟨s,0,rfl,λhx=>⟨aE,n,g.mono I,j,.inl ⟨rfl,λ_=>?_⟩⟩,λhx=>?_⟩
 .have ac:a.length=0:=by
   have:(s.len:Int)=0:=by simpa using hx
   omega
  rcases y with ⟨_,_,_,ad⟩|⟨ae,bw,fc,dO,ah,ai,al,am,b5,_⟩
  .rw[ad];rfl
  .rw[b5]at d
   obtain⟨av,_⟩:=qf d;omega
 have ac:0<a.length:=by
  have:¬(s.len:Int)=0:=by simpa using hx
  omega
 have e:IntKind.wrap .i64 ((s.len:Int)-1)=((a.length-1:Nat):Int):=by rw[bx I I];omega
 obtain⟨A,ar,_,_,_,hu⟩:=z.at (i:=a.length-1) I;rcases y with ⟨h1,_⟩|⟨ae,bw,fc,dO,ah,ai,al,am,b5,ag,bD,a_,a0,a1,a2,a3,a4,an,ao⟩
 .rw[h1]at d
  have:=congrArg List.length d;simp at this;omega
 have B:=d;rw[b5]at B;obtain⟨av,ax⟩:=qf B;rw[e,dc];generalize a5:(a[a.length-1]'I)=u at hu ax;obtain⟨a7,un,a8,K,V,D⟩:=u;obtain rfl:un=bw:=ax;refine⟨A,ar,⟨I,I⟩,_,hu.aC,K,hu.aU,V,hu.aM,D,hu.du,bj (vs:=[false,(),(),()]) rfl λa9 E ap ba=>⟨E.cc rfl fI,rfl,cw E (us:=dY un K V D) rfl rfl λo F aq bb=>?_⟩⟩;have p:Ext X o:=Ext.cn ap aq (bp _);obtain⟨d0,d1,d2,d3⟩:=bF F;have bc:=(cH.eS (.inl a_) (by have:=h.nm _ _ bD;omega));have aw:Src 1 o tk (aJ key):=(l.ab g.ab λq m ay=>(v q m).2 (aN.gh ay)).ext p;have G:bC (λq=>w.heap.size<=q/\¬(T.bk aE T.P).M q) o un K V D:=hu.bn.ext p;refine⟨_,d0,K,d1,V,d2,D,d3,(pE G aw a_.fb I).use ?_⟩;rintro _ az ⟨rfl,r⟩;have H:=p.trans r;have N:=n.ext H;have Q:bN T (T.bk aE T.P) w az 30:=(g.trans (bN.ext _ H)).mono I;have t:eB L key=eB un.dN key:=Ce an (ao (λL=>ed L key) (xn key));rw[Cf a_]at t;refine⟨_,_,rfl,λc=>⟨aE,N,Q,j,.inl ⟨rfl,λ_=>?_⟩⟩,λc=>?_⟩
 .have c:hA un.keys key=false:=by simpa using c
  rw[t,if_neg (by rw[c];simp)]
 .have c:hA un.keys key=true:=by simpa using c
  have aD:cN un.keys key<un.keys.length:=(ix.1 (b1 c)).1;have R:cN un.keys key<un.vals.length:=by rw[a_.len];exact aD
  obtain⟨f0,f1,f2,f3⟩:=bF (F.ext r);obtain⟨aF,di,aG,aK,aO,aP,_⟩:=bo.at (G.ext r).vals R;refine⟨V,f2,aF,aG,aK,di,aO,aE,N,Q,j,.inr (.inl ⟨di,un.vals[cN un.keys key],rfl,hg,?_,a6.aX aP λq _ f=>f.2⟩)⟩;rw[t,if_pos c,dE R]
theorem Hg{n:aD}{k:Key}(h:gS n)(w:hA n.keys k=true):gS (lG n k)/\(lG n k).dN=ed n.dN k/\bJ (lG n k)<=bJ n/\n.keys.length=(lG n k).keys.length+1/\(∀s∈(lG n k).keys,s∈n.keys):=by
 have o:=pX n.keys k;have A:=h.fb;have l:n.dN=n.keys.zip n.vals:=rfl;have he:n.keys[cN n.keys k]? =some k:=b1 w;rw[l];unfold lG;generalize cN n.keys k=i at o he⊢;obtain⟨a,b,c,d,j,m,q,B,r,C,H,D,J⟩:=yr h o;have g:n.keys.zip n.vals=a.zip c++b.zip d:=by rw[j,m];exact oh I
 have E:∃e,b=k::e:=by
  cases b with
  |nil=>rw[j,kl I]at he;simp at he
  |cons y e=>
   rw[j,kl I,q,nx]at he;simp at he;exact⟨e,by rw[he]⟩
 obtain⟨e,rfl⟩:=E;obtain⟨x,f,rfl⟩:∃x f,d=x::f:=by
  cases d with
  |nil=>simp at r
  |cons x f=>exact⟨x,f,rfl⟩
 have av:n.keys.drop (i+1)=e:=by rw[j,show a++k::e=(a++ [k])++e by simp];exact drop_left' (by simp[q])
 have ax:n.vals.drop (i+1)=f:=by rw[m,show c++x::f=(c++ [x])++f by simp];exact drop_left' (by simp[B])
 rw[C,D,av,ax];have F:(a++k::e).Pairwise bH:=by rw[←j];exact A
 obtain⟨fL,dH,t⟩:=mH.1 F;have u:=jA.1 dH;have v:∀z,z∈a++e->z∈n.keys:=λz g=>by
  rw[j];simp only[cT,cU]at g⊢;rcases g with h1|h1
  .exact .inl h1
  .exact .inr (.inr h1)
 refine⟨⟨⟨λz g=>h.ok z (v z g),mH.2 ⟨fL,u.2,λy G z g=>t y G z (jR _ g)⟩⟩,h.leaf,?_,h.kids,λz g=>h.vals z ?_⟩,?_,?_,?_,v⟩
 .show(c++f).length=(a++e).length
  simp only[cz,e8]at r⊢;omega
 .rw[m]
  have g:z∈c++f:=g;simp only[cT,cU]at g⊢;rcases g with h1|h1
  .exact .inl h1
  .exact .inr (.inr h1)
 .show(a++e).zip (c++f)=_
  rw[g,oh I,pU,List.zip_cons_cons];have f1:ed (a.zip c) k=a.zip c:=og λp l=>kz (t _ (qy l).1 k List.mem_cons_self);have f2:ed ((k,x)::e.zip f) k=e.zip f:=by
   have:ed ((k,x)::e.zip f) k=ed (e.zip f) k:=by unfold ed;simp
   rw[this];exact og λp l=>(kz (u.1 _ (qy l).1)).symm
  rw[f1,f2]
 .rw[qe h.leaf,qe (n:={n with keys:=a++e,vals:=c++f}) h.leaf]
  show 1+(List.zipWith kc (a++e) (c++f)).sum<=_;rw[j,m,oU I,oU I,lj,lj,List.zipWith_cons_cons,qA];omega
 .show n.keys.length=(a++e).length+1
  rw[j];simp only[cz,e8];omega
structure je(T ao:aN):Prop where
 root:ao.root=T.root
 aH:ao.aH=T.aH
 f:ao.f=T.f
 eN:∀no,(T.f no||T.g no)=true->ao.P no=T.P no/\ao.C.view no=T.C.view no
theorem je.refl(T:aN):je T T:=⟨rfl,rfl,rfl,λ_ _=>⟨rfl,rfl⟩⟩
theorem je.bk{T:aN}{aE:b4}(a:∀j,aE.view j=T.C.view j):je T (T.bk aE T.P):=⟨rfl,rfl,rfl,λno _=>⟨rfl,a no⟩⟩
theorem je.trans{T ao a:aN}(h1:je T ao)(h2:je ao a)(hg:ao.g=T.g):je T a:=
 ⟨h2.root.trans h1.root,h2.aH.trans h1.aH,h2.f.trans h1.f,λno h=>by
  have b:=h1.eN no h
  have c:=h2.eN no (by rw[h1.f,hg];exact h)
  exact⟨c.1.trans b.1,c.2.trans b.2⟩⟩
structure Cg(T ao:aN)(aG:O Nat)(ej:O aI):Prop where
 ok:∃pages,cl T<=cl ao+(2*T.aH+3)/\gj ao pages ej/\pages.Nodup/\(∀no∈pages,no∈aG\/(T.f no||T.g no)=false)/\∀no,ao.f no=true↔(no∈pages\/(T.f no=true/\no∉aG))
 eN:∀no,T.g no=true->ao.P no=T.P no/\ao.C.view no=T.C.view no
theorem je.ok{T ao:aN}{pages:O Nat}{L:O aI}(h:je T ao)(a:gj T pages L)(hf:∀x∈pages,T.f x=true):gj ao pages L:=by
 unfold gj at a⊢;rw[h.root,h.aH];rcases a with a|b
 .exact .inl a
 .exact .inr (eo.agree b λx hx=>(h.eN x (by rw[hf x hx];rfl)).1.symm).1
def Hh(T:aN)(aG:O Nat)(L:O aI)(key:Key)(w:J)(v:aa)(w':J):Prop:=
 ∃ao:aN,bL w' ao/\bN T ao w w' 100/\ao.E=T.E/\ao.G=T.G/\
  ((v=.tuple #[false,(1:Int)]/\¬cv key/\je T ao)\/
   (v=.tuple #[false,(0:Int)]/\cv key/\eB L key=none/\je T ao)\/
   (v=.tuple #[false,(2:Int)]/\cv key/\eB L key≠none/\cl T<2*T.aH+3/\je T ao)\/
   (v=.tuple #[true,(0:Int)]/\cv key/\eB L key≠none/\2*T.aH+3<=cl T/\Cg T ao aG (ed L key))\/
   (v=.tuple #[false,(3:Int)]/\cv key/\¬T.C.D.calm 100/\je T ao))
theorem Hi{w:J}{T:aN}{pages:O Nat}{L:O aI}{tk:Y}{key:Key}(h:bL w T)(aK:¬T.C.D.ro)(ad:gj T pages L)(aL:L.length<4096)(c7:pages.Nodup)(hf:∀x∈pages,T.f x=true)(bh:T.C.D.aR<=800000000)
 (Q:Src 1 w tk (aJ key)) (ae:∀q,aB tk q->q<w.heap.size/\¬T.M q):
 aQ aj 83 #[.pointer (some T.aY),tk] w (Hh T pages L key w):=by
 have aO:=len8 Q;have bi:=h.num.2.1;refine okF (af.tX (some T.aY) tk) aA.tX func83 ?_;(delta af.tX ak aM b_ au a_ ag iF ct U aC;dsimp only);refine cd (λb w'=>b= !(decide (cv key))/\w=w') (λq m=>⟨λh=>(by cases h),λ_=>(mX w tk).use ?_⟩) ?_
 .rintro _ _ ⟨rfl,rfl⟩
  refine⟨_,rfl,m _ _ ⟨?_,rfl⟩⟩;unfold cv;rw[aO]
 rintro _ _ ⟨rfl,rfl⟩;refine⟨λR=>⟨T,h,(bN.refl T w).mono I,rfl,rfl,.inl ⟨rfl,by simpa using R,.refl T⟩⟩,λR=>?_⟩;have hg:cv key:=by simpa using R
 obtain⟨steps,ah,ai⟩:=yt (k:=key) h ad;refine(yf h I Q ae ah).use ?_;rintro _ aP ⟨aE,r,c,o,g⟩;rcases g with ⟨s,a,rfl,j,S⟩|⟨rfl,aS⟩
 rotate_left
 .exact⟨⟨none,0,0⟩,3,rfl,λ_=>⟨_,r,c.mono I,rfl,rfl,.inr (.inr (.inr (.inr ⟨rfl,hg,λhc=>aS (fH hc I),.bk o⟩)))⟩,λhx=>(by simp at hx)⟩
 have bl:s.len=a.length:=by
  have:=S.own.1;rw[gL _ (nj a)]at this;omega
 have bm:a.length=T.aH:=by
  have:=ah.length;rw[←j,dL]at this;exact this
 refine⟨s,0,rfl,λhx=>⟨_,r,c.mono I,rfl,rfl,.inr (.inl ⟨rfl,hg,?_,.bk o⟩)⟩,λhx=>?_⟩
 .have aT:a.length=0:=by
   have:(s.len:Int)=0:=by simpa using hx
   omega
  rcases ai with ⟨_,_,_,t⟩|⟨al,bw,fc,dO,am,an,ap,aq,b5,_⟩
  .rw[t];rfl
  .rw[b5]at j
   obtain⟨av,_⟩:=qf j;omega
 have aT:0<a.length:=by
  have:¬(s.len:Int)=0:=by simpa using hx
  omega
 have e:IntKind.wrap .i64 ((s.len:Int)-1)=((a.length-1:Nat):Int):=by rw[bx I I];omega
 obtain⟨A,ar,_,_,_,hu⟩:=S.at (i:=a.length-1) I;rcases ai with ⟨h1,_⟩|⟨al,bw,fc,dO,am,an,ap,aq,b5,ag,bD,a_,aV,bo,aW,br,aZ,a0,aw⟩
 .rw[h1]at j
  have:=congrArg List.length j;simp at this;omega
 have F:=j;rw[b5]at F;obtain⟨av,ax⟩:=qf F;rw[e,dc];generalize bs:(a[a.length-1]'I)=u at hu ax;obtain⟨bt,un,bu,K,V,D⟩:=u;obtain rfl:un=bw:=ax;have bv:=(cH.eS (.inl a_) (by have:=h.nm _ _ bD;omega));have a1:Src 1 aP tk (aJ key):=Q.ab c.ab λq m a2=>(ae q m).2 (aN.gh a2);have W:eB L key=eB un.dN key:=Ce a0 (aw (λL=>ed L key) (xn key));rw[Cf a_]at W;refine⟨A,ar,⟨I,I⟩,_,hu.aC,K,hu.aU,V,hu.aM,D,hu.du,(pF (n:=un) hu.bn a_ I a1).use ?_⟩;intro v ay g;unfold p5 at g;by_cases d:hA un.keys key=true
 rotate_left
 .have d:hA un.keys key=false:=by simpa using d
  rw[d,if_neg (by simp)]at g;obtain⟨rfl,G⟩:=g;refine⟨_,bg,bg,bg,false,rfl,bj (vs:=[false,(),(),()]) rfl λa3 y X a4=>⟨y.cc rfl (fI (b:=g_.leaf) (K:=bg) (V:=bg) (D:=bg)),rfl,cw y (us:=dY g_ bg bg bg) rfl rfl λH az Z a5=>⟨λ_=>?_,λhx=>(by cases hx)⟩⟩⟩;have N:Ext ay H:=Ext.cn X Z (bp _);have p:=G.trans N;refine⟨_,r.ext p,(c.trans (bN.ext _ p)).mono I,rfl,rfl,.inr (.inl ⟨rfl,hg,?_,.bk o⟩)⟩;rw[W,if_neg (by rw[d];simp)]
 rw[if_pos d]at g;obtain⟨cI,cP,cq,rfl,a6,G⟩:=g;refine⟨_,cI,cP,cq,true,rfl,bj (vs:=[false,(),(),()]) rfl λa3 y X a4=>⟨y.cc rfl fI,rfl,cw y (us:=dY (lG un key) cI cP cq) rfl rfl λH az Z a5=>⟨λhx=>(by cases hx),λ_=>?_⟩⟩⟩;have N:Ext ay H:=Ext.cn X Z (bp _);have p:=G.trans N;obtain⟨d0,d1,d2,d3⟩:=bF az;obtain⟨bB,bq,bz,aD,a7⟩:=Hg a_ d;have a8:cN un.keys key<un.keys.length:=(ix.1 (b1 d)).1;have a9:cN un.keys key<un.vals.length:=by rw[a_.len];exact a8
 have aF:eB L key≠none:=by
  rw[W,if_pos d,dE a9];simp
 have ba:aE.D.aR<=900000000:=by
  have:aE.D.aR<=T.C.D.aR+2*T.aH:=c.aR;omega
 have bA:=G.size;have bb:bC (λq=>¬(T.bk aE T.P).M q) H (lG un key) cI cP cq:=(a6.ext N).aX λq _ m F=>by have:=r.lt F;omega
 have bc:=Cc (ej:=ed L key) (k:=key) (steps:=steps) (bW:=un) (r.ext p) (λe=>aK λi=>c.bI.1▸e i) ad aL c7 hf ba j (S.ext' p λq m=>m.2) bb bB (.inr ⟨al,fc,dO,am,an,ap,aq,b5,ag,λs hs=>aV s (a7 s hs),λhs e=>by
  have z:=aW hs;rw[e]at aD;simp at aD;omega,aZ,by rw[bq];exact aw (λL=>ed L key) (xn key),by have:=h.nm _ _ bD;omega⟩)
 refine⟨_,d0,cI,d1,cP,d2,cq,d3,bc.use ?_⟩;rintro v w' ⟨ao,h1,h2,aa,t,bd⟩;have ac:=((c.trans (bN.ext (T.bk aE T.P) p)).trans h2).mono (l:=100) I;have bE:cl (T.bk aE T.P)=cl T:=rfl;have bG:(T.bk aE T.P).aH=T.aH:=rfl;rcases bd with ⟨rfl,B,E⟩|⟨rfl,B,E,z⟩|⟨rfl,B,E,z,be,bf⟩
 .subst E
  exact⟨2,rfl,_,h1,ac,aa,t,.inr (.inr (.inl ⟨rfl,hg,aF,B,.bk o⟩))⟩
 .exact⟨0,rfl,_,h1,ac,aa,t,.inr (.inr (.inr (.inl ⟨rfl,hg,aF,B,E,λno aG=>⟨(z no aG).1,(z no aG).2.trans (o no)⟩⟩)))⟩
 .exact⟨3,rfl,_,h1,ac,aa,t,.inr (.inr (.inr (.inr ⟨rfl,hg,λhc=>B (c.calm 60 (fH hc I)),(je.bk o).trans ⟨E,z,be,bf⟩ rfl⟩)))⟩
def k9(fr to:Key)(p:aI):ai:=decide (ey fr p.1)&&(to.isEmpty||decide (bH p.1 to))
theorem rY(l:O aI)(fr to:Key):eY l fr to=l.filter (k9 fr to):=rfl
theorem rZ(a b:O aI)(fr to:Key):eY (a++b) fr to=eY a fr to++eY b fr to:=kQ ..
def kH(fr to:Key)(most:Nat):O aI->O aI->ai×O aI
 |acc,[]=>(true,acc)
 |acc,p::ps=>
  if to≠ []/\¬bH p.1 to then (false,acc)
  else
   let a:=if ey fr p.1 then acc++ [p] else acc
   if a.length=most then (false,a) else kH fr to most a ps
def h5(fr to:Key)(most:Nat)(acc L:O aI)(on:ai)(a:O aI):Prop:=
 (on=true/\a=acc++eY L fr to/\a.length<most)\/(on=false/\∀R,gJ (L++R)->a=(acc++eY (L++R) fr to).take most)
variable {fr to:Key}{most:Nat}
theorem h5.nil{acc:O aI}(h:acc.length<most):h5 fr to most acc [] true acc:=.inl ⟨rfl,by simp[eY],h⟩
theorem h5.app{acc mv jd bf bz:O aI}{on:ai}(h1:h5 fr to most acc bf true mv)(h2:h5 fr to most mv bz on jd):h5 fr to most acc (bf++bz) on jd:=by
 rcases h1 with ⟨_,h1,_⟩|⟨h,_⟩
 rotate_left
 .cases h
 subst h1;rcases h2 with ⟨a,b,d⟩|⟨a,b⟩
 .exact .inl ⟨a,by rw[b,rZ,cO],d⟩
 .refine .inr ⟨a,λR c=>?_⟩
  rw[cO]at c;rw[b R (pV.1 c).2.1,cO bf bz R,rZ bf,cO]
theorem h5.stop{acc mv bf bz:O aI}(h1:h5 fr to most acc bf false mv):h5 fr to most acc (bf++bz) false mv:=by
 rcases h1 with ⟨h,_⟩|⟨_,h⟩
 .cases h
 .refine .inr ⟨rfl,λR a=>?_⟩
  rw[cO]at a⊢;exact h _ a
theorem h5.skip{acc jd bf bz:O aI}{on:ai}(hs:eY bf fr to=[])(h2:h5 fr to most acc bz on jd):h5 fr to most acc (bf++bz) on jd:=by
 rcases h2 with ⟨a,b,d⟩|⟨a,b⟩
 .exact .inl ⟨a,by rw[b,rZ,hs];rfl,d⟩
 .refine .inr ⟨a,λR c=>?_⟩
  rw[cO]at c⊢;rw[b R (pV.1 c).2.1,rZ bf,hs];rfl
theorem h5.all{L acc:O aI}{on:ai}(h:h5 fr to most [] L on acc)(a:gJ L):acc=(eY L fr to).take most:=by
 rcases h with ⟨_,h1,h2⟩|⟨_,h1⟩
 .rw[h1]at h2⊢
  rw[iT]at h2⊢;rw[dM I]
 .have:=h1 [] (by simpa using a)
  simpa using this
theorem Ch:∀ {ps acc:O aI},gJ ps->acc.length<most->h5 fr to most acc ps (kH fr to most acc ps).1 (kH fr to most acc ps).2
 | [],acc,_,h=>.nil h
 |p::ps,acc,i,h=>by
  unfold kH
  by_cases h1:to≠ []/\¬bH p.1 to
  .rw[if_pos h1]
   refine .inr ⟨rfl,λR b=>?_⟩
   have:eY (p::ps++R) fr to=[]:=by
    rw[rY];refine lT.2 λq c=>?_;have j:ey p.1 q.1:=by
     rw[nv]at c b;rcases cU.1 c with rfl|c
     .exact Ay _
     .exact iG ((jA.1 b).1 q c)
    have h2:¬bH q.1 to:=λa=>h1.2 (j3 j a);unfold k9;have e:to.isEmpty=false:=by simpa using h1.1
    simp[e,h2]
   rw[this,fQ,dM I]
  .rw[if_neg h1]
   have k:k9 fr to p=decide (ey fr p.1):=by
    unfold k9;by_cases h2:to=[]
    .simp[h2]
    .have:bH p.1 to:=oX λa=>h1 ⟨h2,a⟩
     simp[this]
   have d:∀l,eY (p::l) fr to=(if ey fr p.1 then [p] else [])++eY l fr to:=λl=>by
    rw[rY,o0,k,rY];by_cases h2:ey fr p.1<;>simp[h2]
   have m:(if ey fr p.1 then acc++ [p] else acc)=acc++(if ey fr p.1 then [p] else []):=by split<;>simp
   simp only[m];generalize hx:(if ey fr p.1 then [p] else [])=x at d;have o:x.length<=1:=by rw[←hx];split<;>simp
   by_cases a:(acc++x).length=most
   .rw[if_pos a]
    refine .inr ⟨rfl,λR b=>?_⟩;rw[nv,d,←cO,←a,List.take_left]
   .rw[if_neg a]
    have e:(acc++x).length<most:=by rw[cz]at a⊢;omega
    have:=Ch (ps:=ps) (acc:=acc++x) (jA.1 i).2 e;rcases this with ⟨f,g,n⟩|⟨f,g⟩
    .exact .inl ⟨f,by rw[g,d,cO],n⟩
    .refine .inr ⟨f,λR b=>?_⟩
     rw[nv]at b⊢;rw[g R (jA.1 b).2,d,cO]
def eK(p:Y×Y):O aa:=[p.1,p.2]
theorem oK(l:O (Y×Y)):∀x∈l,(eK x).length=2:=λ_ _=>rfl
theorem qg(p:Y×Y):∀v∈eK p,Plain v:=by
 intro v a;unfold eK at a;simp only[cU,eL,eO]at a;rcases a with rfl|rfl<;>trivial
def e1(B:Nat->Prop)(w:J)(ps:O (Y×Y))(L:O aI):Prop:=ps.length=L.length/\∀i (h1:i<ps.length) (h2:i<L.length),a6 B w ps[i].1 L[i].1/\a6 B w ps[i].2 L[i].2
def kI(B:Nat->Prop)(w:J)(s:Y)(L:O aI):Prop:=∃ps,ba 2 167 w s (bM eK ps)/\e1 B w ps L
def eV(B:Nat->Prop)(w:J)(s:Y)(L:O aI):Prop:=∃ps,Src 2 w s (bM eK ps)/\s.len<=s.cap/\In B w s/\e1 B w ps L
section
variable {B C W:Nat->Prop}{w w':J}{s:Y}{ps:O (Y×Y)}{L:O aI}
theorem e1.ab(h:e1 B w ps L)(hc:ad W w w')(d:∀k,B k->k<w.heap.size->¬W k):e1 B w' ps L:=
 ⟨h.1,λi h1 h2=>by
  obtain⟨a,b⟩:=h.2 i h1 h2
  exact⟨a6.iL a hc λk c=>d k (a.2.2 k c).1 (a.2.2 k c).2,a6.iL b hc λk c=>d k (b.2.2 k c).1 (b.2.2 k c).2⟩⟩
theorem e1.aX(h:e1 B w ps L)(a:∀k,k<w.heap.size->B k->C k):e1 C w ps L:=⟨h.1,λi h1 h2=>⟨a6.aX (h.2 i h1 h2).1 a,a6.aX (h.2 i h1 h2).2 a⟩⟩
theorem e1.push{p:Y×Y}{fT:aI}(h:e1 B w ps L)(h1:a6 B w p.1 fT.1)(h2:a6 B w p.2 fT.2):e1 B w (ps++ [p]) (L++ [fT]):=by
 refine⟨by simp[h.1],λi av ax=>?_⟩;rcases dJ i ps.length with g|g
 .have g':i<L.length:=by have:=h.1;omega
  simp only[lU g,lU g'];exact h.2 i g g'
 .have e:i=ps.length:=by simp at av;omega
  subst e;have a:(ps++ [p])[ps.length]'av=p:=by simp
  have b:(L++ [fT])[ps.length]'ax=fT:=by rw[ny (by rw[h.1];exact bp _)];simp
  rw[a,b];exact⟨h1,h2⟩
theorem kI.len(h:kI B w s L):s.len=L.length:=by
 obtain⟨ps,h1,h2⟩:=h;have:=h1.1;rw[gL _ (oK ps)]at this;have:=h2.1;omega
theorem kI.aX(h:kI B w s L)(a:∀k,k<w.heap.size->B k->C k):kI C w s L:=by
 obtain⟨ps,h1,h2⟩:=h;exact⟨ps,h1,h2.aX a⟩
theorem kI.none(B:Nat->Prop)(w:J):kI B w ⟨.none,0,0⟩ []:=⟨[],ba.none _ _ _,rfl,λi h=>by simp at h⟩
theorem kI.r(h:kI B w s L)(hs:∀k,aB s k->B k):eV B w s L:=by
 obtain⟨ps,h1,h2⟩:=h;exact⟨ps,h1.src,h1.2.1,λk a=>⟨hs k a,h1.lt k a⟩,h2⟩
theorem eV.len(h:eV B w s L):s.len=L.length:=by
 obtain⟨ps,h1,_,_,h2⟩:=h;have:=h1.len;rw[gL _ (oK ps)]at this;have:=h2.1;omega
theorem eV.ab(h:eV B w s L)(hc:ad W w w')(b:∀k,B k->k<w.heap.size->¬W k):eV B w' s L:=by
 obtain⟨ps,h1,h2,a,d⟩:=h;exact⟨ps,h1.ab hc λk c=>b k (a k c).1 (a k c).2,h2,In.ab a hc,d.ab hc b⟩
theorem eV.ext(h:eV B w s L)(hc:Ext w w'):eV B w' s L:=h.ab hc λ_ _ _ h=>h
theorem eV.aX(h:eV B w s L)(a:∀k,k<w.heap.size->B k->C k):eV C w s L:=by
 obtain⟨ps,h1,h2,b,c⟩:=h;exact⟨ps,h1,h2,In.aX b a,c.aX a⟩
theorem eV.at(h:eV B w s L){i:Nat}(hi:i<L.length):∃ (A:ae) (tk di:Y),s.a=some A/\B A.block/\((0:Int)<=(i:Int)/\(i:Int)<(s.len:Int))/\w.cell? (A.add (i*2))=some (.slice tk.a tk.len tk.cap)/\w.cell? ((A.add (i*2)).add 1)=some (.slice di.a di.len di.cap)/\
 a6 B w tk L[i].1/\a6 B w di L[i].2:=by
 have o:=h.len;obtain⟨ps,h1,h2,k,c⟩:=h;have d:i<ps.length:=by have:=c.1;omega
 cases b:s.a with
 |none=>
  have:=h1.nil b;have e:=gL ps (oK ps);rw[this]at e;simp at e;omega
 |some A=>
  have l:=h1.rd A b;have hg:∀j v,(eK ps[i])[j]? =some v->w.cell? (A.add (i*2+j))=some v:=λj v f=>by
   have m:j<2:=(ix.1 f).1;have g:=ph l (j:=i*2+j) (v:=v) (by rw[rL (oK ps) d m];exact f);rw[cB]at g;exact g
  obtain⟨t1,t2⟩:=c.2 i d hi;have n:(A.add (i*2)).add 1=A.add (i*2+1):=add_add A _ _;refine⟨A,ps[i].1,ps[i].2,rfl,(k A.block ⟨A,b,rfl⟩).1,⟨I,I⟩,?_,?_,t1,t2⟩
  .exact hg 0 _ rfl
  .rw[n]
   exact hg 1 _ rfl
end
theorem qh:hM aj 86 167 2 48:=⟨by kernel_rfl⟩
theorem vP(w:J)(cs:Array aa)(h:cs.size=2):Sem.run aj (Instr.buildSlice 86 1 #[(0,.agg cs)]) w=.ok (.slice (some w.heap.size) 1 1) (w.alloc (.cells cs 167)):=by
 have h0:((Tryz.prog.info? 167).bind (·.zero)).isSome=true:=by kernel_rfl
 obtain⟨z,a⟩:=mB.1 h0;obtain⟨i,hi,b⟩:=rM a;have h1:(Tryz.prog.underlying 167).isSome=true:=by kernel_rfl
 obtain⟨d,hd⟩:=mB.1 h1;exact xY (sz:=2) w (by kernel_rfl) hd (by kernel_rfl) hi b h (by decide) (by decide)
structure c4(T ao:aN)(w w':J)(k:Nat):Prop where
 to:bN T ao w w' k
 E:ao.E=T.E
 G:∀q,T.G q->ao.G q
 root:ao.root=T.root
 aH:ao.aH=T.aH
 f:ao.f=T.f
 P:ao.P=T.P
 view:∀j,ao.C.view j=T.C.view j
theorem c4.refl(T:aN)(w:J):c4 T T w w 0:=⟨.refl _ _,rfl,λ_ h=>h,rfl,rfl,rfl,rfl,λ_=>rfl⟩
theorem c4.ext{w w':J}(T:aN)(h:Ext w w'):c4 T T w w' 0:=⟨.ext T h,rfl,λ_ h=>h,rfl,rfl,rfl,rfl,λ_=>rfl⟩
theorem c4.trans{T ao a:aN}{w w' b:J}{k l:Nat}(h1:c4 T ao w w' k)(h2:c4 ao a w' b l):c4 T a w b (k+l):=
 ⟨h1.to.trans h2.to,h2.E.trans h1.E,λq h=>h2.G q (h1.G q h),h2.root.trans h1.root,h2.aH.trans h1.aH,h2.f.trans h1.f,h2.P.trans h1.P,λj=>(h2.view j).trans (h1.view j)⟩
theorem c4.mono{T ao:aN}{w w':J}{k l:Nat}(h:c4 T ao w w' k)(a:k<=l):c4 T ao w w' l:=⟨h.to.mono a,h.E,h.G,h.root,h.aH,h.f,h.P,h.view⟩
theorem c4.bk{T:aN}{aE:b4}{w w':J}{k:Nat}(h:bN T (T.bk aE T.P) w w' k)(a:∀j,aE.view j=T.C.view j):c4 T (T.bk aE T.P) w w' k:=⟨h,rfl,λ_ h=>h,rfl,rfl,rfl,rfl,a⟩
theorem bN.out{T ao:aN}{w w':J}{k q:Nat}(h:bN T ao w w' k)(a:q<w.heap.size)(b:¬T.M q):¬ao.M q/\q<w'.heap.size:=by
 refine⟨λh1=>?_,fP a h.ab.size⟩;rcases h.c5 q h1 with h2|h2
 .exact b h2
 .omega
theorem bN.Ci{T ao:aN}{w w':J}{k:Nat}{ps:O (Y×Y)}{L:O aI}(h:bN T ao w w' k)(c:e1 (λq=>¬T.M q) w ps L):e1 (λq=>¬ao.M q) w' ps L:=by
 have h1:e1 (λq=>q<w.heap.size/\¬T.M q) w ps L:=c.aX λq b a=>⟨b,a⟩;exact(h1.ab h.ab λq b _ d=>b.2 (aN.gh d)).aX λq _ a=>(h.out a.1 a.2).1
structure iR(lo:Nat)(w:J)(T:aN)(aF:Nat)(s:Y)(L:O aI):Prop where
 t:bL w T
 v:Var w aF [s] 86
 own:kI (λq=>¬T.M q) w s L
 go:T.G aF
 gs:∀q,aB s q->T.G q/\q≠aF/\lo<=q
section
variable {w w':J}{T ao:aN}{lo aF:Nat}{s:Y}{L:O aI}
theorem iR.of{k:Nat}(h:iR lo w T aF s L)(d:bL w' ao)(ht:bN T ao w w' k)(b:∀q,T.G q->ao.G q){W:Nat->Prop}(c:ad W w w')(cg:∀q,T.G q->¬W q):iR lo w' ao aF s L:=by
 obtain⟨ps,h1,h2⟩:=h.own;exact⟨d,h.v.ab c (cg _ h.go),⟨ps,h1.ab c λq a=>cg q (h.gs q a).1,ht.Ci h2⟩,b _ h.go,λq a=>⟨b q (h.gs q a).1,(h.gs q a).2⟩⟩
theorem iR.ext(h:iR lo w T aF s L)(hx:Ext w w'):iR lo w' T aF s L:=h.of (h.t.ext hx) (bN.ext T hx) (λ_ h=>h) hx λ_ _ h=>h
theorem Hj{k v:Key}{tk di:Y}(h:iR lo w T aF s L)(B:lo<=w.heap.size)(p:a6 (λq=>¬T.M q) w tk k)(r:a6 (λq=>¬T.M q) w di v)(C:L.length<=100000):
 ∃ (b:Y) (ah:J),Sem.run aj (Builtin.append_ #[86,86] 86 #[s,.slice (some w.heap.size) 1 1]) (w.alloc (.cells (eK (tk,di)).toArray 167))=.ok b ah/\
  (∃u:aa,ah.cell? aF=some u)/\ah.frozen? aF=false/\
  ∀d,d=ah.setCell aF b->iR lo d (T.ck T.E λq=>T.G q\/aB b q) aF b (L++ [(k,v)])/\c4 T (T.ck T.E λq=>T.G q\/aB b q) w d 0:=by
 have D:=h.own.len;obtain⟨ps,x,y⟩:=h.own;obtain⟨b,ah,av,ax,F,f,c⟩:=qh.push (cK:=86) (w:=w) (s:=s) (xs:=eK (tk,di)) rfl x (qg _) I;have cg:∀q,aB s q->T.G q:=λq a=>(h.gs q a).1;have H:=f.size;have j:=h.v.ab f λa=>(h.gs _ a).2.1 rfl;obtain⟨bE,bG⟩:=dP j (i:=0) (by simp);refine⟨b,ah,av,bE,bG,?_⟩;rintro _ rfl;have g:=dp ah aF 0 b;have z:=dT j (i:=0) b;have l:ad T.G w (ah.setCell aF b):=cy (f.mono λq _ a=>cg q a) g λq _ e=>by rw[e];exact h.go
 have aK:∀q,aB b q->q<ah.heap.size:=λq a=>ba.lt ax q a;have m:∀q,aB b q->T.G q\/(w.heap.size<=q/\q<(ah.setCell aF b).heap.size):=λq a=>by
  rcases c q a with h1|h1
  .exact .inl (cg q h1)
  .exact .inr ⟨h1,by have:=aK q a;have:=g.size;omega⟩
 have n:∀q,aB b q->q≠aF:=λq a e=>by
  rcases c q a with h1|h1
  .exact(h.gs q h1).2.1 e
  .have:=h.v.lt;omega
 have A:=h.t.grow (E:=T.E) (G:=λq=>T.G q\/aB b q) l (λq a _=>.inr a) (λq a=>.inl a) (λq a=>by
  rcases a with a|a
  .exact .inr (.inl a)
  .exact .inr (m q a)) λq a hg=>by
  rcases hg with hg|hg
  .exact(h.t.c6 q a).2.2 hg
  .rcases c q hg with h1|h1
   .exact(h.t.c6 q a).2.2 (cg q h1)
   .have:=h.t.lt (q:=q) (.inr (.inr (.inr (.inl a))));omega
 have o:bN T (T.ck T.E λq=>T.G q\/aB b q) w (ah.setCell aF b) 0:=by
  have h0:bN T T w w 0:=.refl _ _;exact h0.step l (λq a _=>.inr (.inr (.inr a))) (λq a=>.inl a) λq a=>by
   rcases a with a|a
   .exact .inl a
   .exact(m q a).imp id λe=>e.1
 refine⟨⟨A,z,⟨ps++ [(tk,di)],?_,o.Ci (y.push (fT:=(k,v)) p r)⟩,.inl h.go,λq a=>⟨.inr a,n q a,?_⟩⟩,o,rfl,λ_ h=>.inl h,rfl,rfl,rfl,rfl,λ_=>rfl⟩
 .have e:bM eK (ps++ [(tk,di)])=bM eK ps++eK (tk,di):=by rw[lH];simp[bM]
  rw[e];exact ax.ab g λq a e=>n q a e
 .rcases c q a with h1|h1
  .exact(h.gs q h1).2.2
  .omega
end
structure qi(w:J)(T:aN)(aY aT a8:Nat)(fB fJ:Y)(to fr:Key)(most:Int):Prop where
 vQ:Var w aY [fB] 48
 vR:Var w aT [fJ] 48
 jl:Var w a8 [most] 3
 Cj:¬T.M aY
 Ck:¬T.M aT
 Cl:¬T.M a8
 st:Src 1 w fB (aJ to)
 yx:Src 1 w fJ (aJ fr)
 r0:∀q,aB fB q->q<w.heap.size/\¬T.M q
 r2:∀q,aB fJ q->q<w.heap.size/\¬T.M q
 lt:to.length<=9000000000000000000
section
variable {w w':J}{T ao:aN}{aY aT a8:Nat}{fB fJ:Y}{to fr:Key}{most:Int}
theorem qi.go{k:Nat}(h:qi w T aY aT a8 fB fJ to fr most)(ht:bN T ao w w' k):qi w' ao aY aT a8 fB fJ to fr most:=by
 have b:∀q,¬T.M q->¬T.N q:=λq a b=>a (aN.gh b);exact⟨h.vQ.ab ht.ab (b _ h.Cj),h.vR.ab ht.ab (b _ h.Ck),h.jl.ab ht.ab (b _ h.Cl),(ht.out h.vQ.lt h.Cj).1,(ht.out h.vR.lt h.Ck).1,(ht.out h.jl.lt h.Cl).1,
  h.st.ab ht.ab λq a=>b _ (h.r0 q a).2,h.yx.ab ht.ab λq a=>b _ (h.r2 q a).2,λq a=>⟨(ht.out (h.r0 q a).1 (h.r0 q a).2).2,(ht.out (h.r0 q a).1 (h.r0 q a).2).1⟩,λq a=>⟨(ht.out (h.r2 q a).1 (h.r2 q a).2).2,(ht.out (h.r2 q a).1 (h.r2 q a).2).1⟩,h.lt⟩
end
def jM(fr to:Key)(most:Nat)(n:aD)(acc ps:O aI):ai×O aI:=if n.leaf then kH fr to most acc ps else (true,acc)
def Hk(lo aF:Nat)(T:aN)(a:ai×O aI)(w:J)(v:aa)(w':J):Prop:=
 ∃ (ao:aN) (b:Y),v=a.1/\iR lo w' ao aF b a.2/\c4 T ao w w' 0
theorem bN.g_{T ao:aN}{w w':J}{k:Nat}(h:bN T ao w w' k){n:aD}{K V D:Y}(b:bC (λq=>¬T.M q) w n K V D):bC (λq=>¬ao.M q) w' n K V D:=
 (h.bn (lo:=0) (b.aX λ_ _ a=>⟨cG _,a⟩)).aX λ_ _ a=>a.2
theorem Cm{a b:Key}:(decide ((eH a b:Int)>=0))=decide (ey b a):=by
 unfold ey;by_cases h:eH a b<0
 .have h1:¬eH a b>=0:=by omega
  simp[h,h1]
 .have h1:eH a b>=0:=by omega
  simp[h,h1]
theorem Hl{w:J}{T:aN}{lo aF aY aT a8:Nat}{s fB fJ:Y}{L:O aI}{to fr:Key}{most:Int}{n:aD}{K V D:Y}(no:Int)(h:iR lo w T aF s L)(a9:lo<=w.heap.size)(hf:qi w T aY aT a8 fB fJ to fr most)
 (W:bC (λq=>¬T.M q) w n K V D) (hs:cH n) (ba:n.keys.length<=1000) (az:(L.length:Int)<most) (bb:L.length<=50000):
 aQ aj 175 #[no,c0 n K V D,.pointer (some aY),.pointer (some aT),.pointer (some aF),.pointer (some a8)] w (Hk lo aF T (jM fr to most.toNat n L n.dN) w):=by
 have bc:=bo.len W.keys;refine okF (af.uC no n.leaf K V D aY aT aF a8) aA.uC func175 ?_;(delta af.uC ag U ak aL aC a_ r1 au;dsimp only);refine bj (vs:=dY n K V D) rfl λw1 N m bd=>?_;obtain⟨nb,aB⟩:∃nb,nb=w.heap.size:=⟨_,rfl⟩;rw[←aB]at N⊢;have h1:=h.ext m;have aE:=hf.go (bN.ext T m);have aG:=W.ext m;have X:¬T.M nb:=λP=>by have:=h.t.lt P;omega
 obtain⟨bT,aC,aU,aM⟩:=bF N;refine⟨K,aC,λi d=>∃ (C:Nat) (ao:aN) (y:Y) (acc:O aI),i=(C:Int)/\C<=n.keys.length/\iR lo d ao aF y acc/\c4 T ao w1 d 0/\(acc.length:Int)<most/\acc.length<=L.length+C/\jM fr to most.toNat n acc (n.dN.drop C)=jM fr to most.toNat n L n.dN,
  λi _=>((n.keys.length:Int)-i).toNat,⟨0,T,s,L,rfl,cG _,h1,.refl _ _,az,I,by rw[ln]⟩,?_⟩
 rintro _ d ⟨i,ao,y,acc,rfl,hi,E,k,be,bf,f⟩;have bg:=m.size;have bh:=k.to.ab.size;have o:=aE.go k.to;have Z:=k.to.g_ aG;have aa:=N.ab k.to.ab λP=>X (aN.gh P);have bi:=(k.to.out I X).1;refine⟨λaK=>?_,λaH=>?_⟩
 rotate_left
 .have ac:i=n.keys.length:=by
   have:¬(i:Int)<(K.len:Int):=cu aH;omega
  have hd:n.dN.drop i=[]:=by
   refine sA ?_;unfold aD.dN;rw[mI];omega
  rw[hd]at f;have e:jM fr to most.toNat n acc []=(true,acc):=by unfold jM kH;split<;>rfl
  rw[e]at f;exact⟨ao,y,by rw[←f],by rw[←f];exact E,((c4.ext T m).trans k)⟩
 .have ac:i<n.keys.length:=by
   have:(i:Int)<(K.len:Int):=b1 aK;omega
  obtain⟨A,tk,ar,aJ,hc,F,_⟩:=bo.at Z.keys ac;have Q:IntKind.wrap .i64 ((i:Int)+1)=((i+1:Nat):Int):=by rw[bx I I];omega
  have aO:∀w':J,((n.keys.length:Int)-IntKind.wrap .i64 ((i:Int)+1)).toNat<((n.keys.length:Int)-(i:Int)).toNat:=λ_=>by rw[Q];omega
  obtain⟨key,ad⟩:∃key,key=n.keys[i]:=⟨_,rfl⟩;rw[←ad]at F;have ae:=len8 o.st;refine⟨A,ar,aJ,tk,hc,fB,o.vQ.cell,cd (λb w'=>b=decide (to≠ []/\¬bH key to)/\d=w') (λq l=>⟨λc=>⟨fB,o.vQ.cell,(ky F.1 o.st).use ?_⟩,λc=>l _ _ ⟨?_,rfl⟩⟩) ?_⟩
  .rintro _ _ ⟨rfl,rfl⟩
   refine⟨_,rfl,l _ _ ⟨?_,rfl⟩⟩;have h2:to≠ []:=λe=>by
    rw[e]at ae;have:(fB.len:Int)>0:=b1 c;simp at ae;omega
   rw[Cm];simp only[h2,ne_eq,not_false_eq_true,true_and];rfl
  .have h2:to=[]:=by
    have:¬(fB.len:Int)>0:=cu c;exact kO.1 I
   simp[h2]
  rintro aP _ ⟨ah,rfl⟩;have d0:d.cell? nb=some (.bool n.leaf):=(bF aa).1;refine cd (λb w'=>b=(aP&&n.leaf)/\d=w') (λq l=>⟨λc=>⟨_,d0,l _ _ ⟨by rw[c];rfl,rfl⟩⟩,λc=>l _ _ ⟨by rw[c];rfl,rfl⟩⟩) ?_;rintro bk _ ⟨ai,rfl⟩;have G:n.leaf=true->∃x:Key,(∃j:i<n.vals.length,x=n.vals[i])/\n.dN.drop i=(key,x)::n.dN.drop (i+1):=λa=>by
   have bl:n.vals.length=n.keys.length:=by
    rcases hs with h2|h2
    .exact h2.len
    .have:=h2.inner;rw[a]at this;cases this
   have j:i<n.vals.length:=by omega
   refine⟨n.vals[i],⟨j,rfl⟩,?_⟩;have aR:i<n.dN.length:=by unfold aD.dN;rw[mI];omega
   rw[jy aR];have e:n.dN[i]=(key,n.vals[i]):=by
    rw[ad];exact sm
   rw[e]
  refine⟨λc=>?_,λc=>?_⟩
  .
   rw[ai,dZ]at c;obtain⟨x,_,z⟩:=G c.2;have aS:to≠ []/\¬bH key to:=by
    rw[ah]at c;exact b1 c.1
   have e:jM fr to most.toNat n acc (n.dN.drop i)=(false,acc):=by
    unfold jM;rw[if_pos c.2,z];unfold kH;rw[if_pos aS]
   rw[e]at f;exact⟨ao,y,by rw[←f],by rw[←f];exact E,((c4.ext T m).trans k)⟩
  .have al:n.leaf=true->¬(to≠ []/\¬bH key to):=λa h2=>by
    rw[ai,ah,a,dK h2]at c
    cases c
   refine ij (λH=>∃ (b6:aN) (s2:Y) (jd:O aI),jd=(if n.leaf=true/\ey fr key then acc++ [(key,n.vals.getD i [])] else acc)/\iR lo H b6 aF s2 jd/\c4 ao b6 d H 0) (λq l=>⟨n.leaf,d0,?_⟩) ?_
   .refine cd (λb w'=>b=decide (n.leaf=true/\ey fr key)/\d=w') (λr am=>⟨λa=>⟨fJ,o.vR.cell,(ky F.1 o.yx).use ?_⟩,λa=>am _ _ ⟨by simp[a],rfl⟩⟩) ?_
    .rintro _ _ ⟨rfl,rfl⟩
     refine⟨_,rfl,am _ _ ⟨?_,rfl⟩⟩;rw[Cm,a];simp
    .rintro bm _ ⟨an,rfl⟩
     refine⟨λg=>aW ?_,λg=>?_⟩
     .rw[an]at g
      have g:=b1 g;obtain⟨x,⟨j,hx⟩,z⟩:=G g.1;have B:Ext d d.drew:=cj _;have p:=E.ext B;obtain⟨aV,di,aX,aZ,a0,ap,bn⟩:=bo.at (Z.ext B).vals j;rw[←hx]at ap;have a1:=a6.ext F B;have bp:=B.size;obtain⟨aq,a2,av,ax,a3,a4⟩:=Hj p I a1 ap I;refine⟨λ_=>False,id,y,p.v.cell,id,V,(bF (aa.ext B)).2.2.1,aV,aX,aZ,id,di,a0,(eK (tk,di)).toArray,λbq=>?_,⟨some d.drew.heap.size,1,1⟩,_,vP _ _ rfl,eJ _ _,aq,a2,av,ax,a3,aW (l _ ?_)⟩
      .kernel_rfl
      .obtain⟨bE,bG⟩:=a4 _ rfl
       refine⟨_,aq,_,?_,bE,((c4.ext ao B).trans bG)⟩;rw[if_pos g,fq,dE j,←hx];rfl
     .rw[an]at g
      have g:=cu g;exact l _ ⟨ao,y,acc,by rw[if_neg g],E,.refl _ _⟩
   .rintro H ⟨b6,s2,jd,u,p,aw⟩
    have a5:=o.go aw.to;have a7:=p.own.len;have ay:=k.trans aw;have br:jd.length<=acc.length+1:=by rw[u];split<;>simp
    have bs:(0:Int)<=most:=by omega
    refine⟨s2,p.v.cell,most,a5.jl.cell,λc=>?_,λc=>?_⟩
    .have he:(s2.len:Int)=most:=by simpa using c
     by_cases a:n.leaf=true
     .obtain⟨x,⟨j,hx⟩,z⟩:=G a
      have R:n.vals.getD i []=x:=by rw[fq,dE j,hx];rfl
      have e:jM fr to most.toNat n acc (n.dN.drop i)=(false,jd):=by
       unfold jM;rw[if_pos a,z];unfold kH;rw[if_neg (al a)];have S:(if ey fr key then acc++ [(key,x)] else acc)=jd:=by rw[u,R];simp[a]
       simp only[S];rw[if_pos I]
      rw[e]at f;exact⟨b6,s2,by rw[←f],by rw[←f];exact p,((c4.ext T m).trans ay)⟩
     .exfalso
      rw[if_neg (λh2=>a h2.1)]at u;rw[u]at a7;omega
    .have he:¬(s2.len:Int)=most:=by simpa using c
     rw[Q];refine⟨⟨i+1,b6,s2,jd,rfl,I,p,ay,I,I,?_⟩,?_⟩
     .rw[←f]
      unfold jM;by_cases a:n.leaf=true
      .obtain⟨x,⟨j,hx⟩,z⟩:=G a
       have R:n.vals.getD i []=x:=by rw[fq,dE j,hx];rfl
       rw[if_pos a,if_pos a,z]
       conv=>rhs;unfold kH
       rw[if_neg (al a)];have S:(if ey fr key then acc++ [(key,x)] else acc)=jd:=by rw[u,R];simp[a]
       simp only[S];rw[if_neg I]
      .rw[if_neg a,if_neg a]
       rw[if_neg (λh2=>a h2.1)]at u;rw[u]
     .have:=aO H
      rw[Q]at this;exact this
inductive Kids (W:Below):O Nat->O Nat->O aI->Prop
 |nil:Kids W [] [] []
 |cons {lo hi:aq Key}{k:Nat}{kids bB bq:O Nat}{bf bz:O aI} (h:W lo hi k bB bf) (t:Kids W kids bq bz):Kids W (k::kids) (bB++bq) (bf++bz)
theorem dG.kids{W:Below}{lo hi:aq Key}{ks:O Key}{kids p:O Nat}{L:O aI}(h:dG W lo hi ks kids p L):Kids W kids p L:=by
 induction h with
 |one h=>
  have:=Kids.cons h .nil;rwa[fQ,fQ]at this
 |cons h _ a=>exact .cons h a
theorem Hm(s:Key)(ks:O Key)(k:Key):dn (s::ks) k=if bH k s then 0 else dn ks k+1:=by
 unfold dn;rw[List.findIdx_cons];by_cases h:bH k s<;>simp[h]
theorem dG.from{W:Below}(cg:∀lo hi k p L,W lo hi k p L->∀q∈L,fw lo hi q.1){lo hi:aq Key}{ks:O Key}{kids p:O Nat}{L:O aI}(h:dG W lo hi ks kids p L)(k:Key):
 ∃ (bB bq:O Nat) (bf bz:O aI),p=bB++bq/\L=bf++bz/\(∀q∈bf,bH q.1 k)/\Kids W (kids.drop (dn ks k)) bq bz:=by
 induction h with
 |one h=>exact⟨[],_,[],_,rfl,rfl,λ_ h=>(by cases h),(dG.one h).kids⟩
 | @cons lo hi s f bB bq bf bz ks kids h t c=>
  rw[Hm];by_cases b:bH k s
  .rw[if_pos b]
   exact⟨[],_,[],_,rfl,rfl,λ_ h=>(by cases h),(dG.cons h t).kids⟩
  .rw[if_neg b,List.drop_succ_cons]
   obtain⟨a1,a2,cf,bS,rfl,rfl,d,e⟩:=c;refine⟨bB++a1,a2,bf++cf,bS,by rw[cO],by rw[cO],λq a=>?_,e⟩;rcases cT.1 a with a|a
   .exact m4 ((cg _ _ _ _ _ h q a).2 s rfl) b
   .exact d q a
theorem Cn{L:O aI}{fr to:Key}(h:∀q∈L,bH q.1 fr):eY L fr to=[]:=by
 rw[rY];refine lT.2 λq a=>?_;unfold k9;have:¬ey fr q.1:=λh2=>h2 (h q a);simp[this]
def ke(T:aN)(no:Nat):Prop:=(no<T.n/\2<=no)/\∃e,dS (no:Int) (T.C.view no)=.error e
theorem Co{w:J}{T:aN}{no:Nat}{o:aD}(h:bL w T)(s:T.C.D.aR<=999999999)(d:T.P no=some o\/ke T no):
 aQ aj 196 #[.pointer (some T.aY),no,o.leaf] w (λv w'=>∃aE:b4,c4 T (T.bk aE T.P) w w' 2/\bL w' (T.bk aE T.P)/\ad (λq=>T.N q/\¬T.G q) w w'/\
  ((∃ (K V D:Y),v=.tuple #[c0 o K V D,(0:Int)]/\T.P no=some o/\bC (λq=>w.heap.size<=q/\¬(T.bk aE T.P).M q) w' o K V D)\/(∃e:Int,v=.tuple #[c0 g_ bg bg bg,e]/\e≠0/\((e=3/\¬T.C.D.calm 2)\/ke T no)))):=by
 have f:no<T.n:=d.elim (λh1=>(h.eA no o h1).1) λh1=>h1.1.1;have g:2<=no:=d.elim (λh1=>(h.eA no o h1).2.two) λh1=>h1.1.2;obtain⟨bd,i⟩:∃bd,bd=λq=>T.E q\/T.G q:=⟨_,rfl⟩;have c:∀q,T.E q\/T.G q->bd q:=λq a=>by rw[i];exact a
 have j:∀q,bd q->T.E q\/T.G q:=λq a=>by rw[i]at a;exact a
 have k:bL w (T.ck bd λ_=>False):=h.grow (W:=λ_=>False) (ad.refl _ _) (λ_ h=>h.elim) (λq a=>(j q a).imp id .inl) (λ_ h=>h.elim) λ_ _ h=>h;have t:∀q,(T.ck bd λ_=>False).N q->T.N q/\¬T.G q:=λq a=>⟨by
  rcases a with a|a|a|a
  .exact .inl a
  .exact .inr (.inl a)
  .exact .inr (.inr (.inl a))
  .exact a.elim,λhg=>k.iN (c q (.inr hg)) a⟩
 refine(yd k s f g o.leaf).mono ?_;rintro v w' ⟨aE,u,ht,x,y⟩;have z:bN T (T.bk aE T.P) w w' 2:=bN.read (E:=bd) ht c λq a=>(j q a).imp id .inl;have A:ad (λq=>T.N q/\¬T.G q) w w':=ht.ab.mono λq _ a=>t q a;refine⟨aE,.bk z x,?_,A,?_⟩
 .exact u.grow (E:=T.E) (G:=T.G) (W:=λ_=>False) (ad.refl _ _) (λ_ h=>h.elim) (λq a=>.inl (c q (.inl a))) (λq a=>.inl (c q (.inr a))) λq a=>(h.c6 q a).2.2
 .rcases y with ⟨bw,K,V,D,rfl,l,c7⟩|⟨e,rfl,B,F⟩
  .have m:T.P no=some o:=d.resolve_right λ⟨_,e,h1⟩=>by
    obtain⟨p,av,_⟩:=l;have h1:dS (no:Int) (T.C.view no)=.error e:=h1;have av:dS (no:Int) (T.C.view no)=.ok p:=av;rw[h1]at av;cases av
   obtain rfl:=gM.uniq (h.eA no o m).2 l;refine .inl ⟨K,V,D,rfl,m,c7.aX λq a r=>⟨r.1,λb=>r.2 ?_⟩⟩;rcases b with b|b|b|b|b
   .exact .inl b
   .exact .inr (.inl b)
   .exact .inr (.inr (.inl b))
   .exact .inr (.inr (.inr (.inl (c q (.inl b)))))
   .exact .inr (.inr (.inr (.inl (c q (.inr b)))))
  .refine .inr ⟨e,rfl,F,?_⟩
   rcases B with h1|h1|⟨_,_,h1⟩
   .exact .inl h1
   .exact .inr ⟨⟨f,g⟩,e,h1⟩
   .exact d.elim (λh2=>absurd (h.eA no o h2).2 (h1 o)) .inr
theorem Hn{w:J}{T:aN}{no:Nat}{o:aD}(h:bL w T)(f:T.C.D.aR<=999999999)(c:T.P no=some o):
 aQ aj 196 #[.pointer (some T.aY),no,o.leaf] w (λv w'=>∃aE:b4,c4 T (T.bk aE T.P) w w' 2/\bL w' (T.bk aE T.P)/\ad (λq=>T.N q/\¬T.G q) w w'/\
  ((∃ (K V D:Y),v=.tuple #[c0 o K V D,(0:Int)]/\bC (λq=>w.heap.size<=q/\¬(T.bk aE T.P).M q) w' o K V D)\/(v=.tuple #[c0 g_ bg bg bg,(3:Int)]/\¬T.C.D.calm 2))):=by
 refine(Co h f (.inl c)).mono ?_;rintro v w' ⟨aE,h1,h2,d,⟨K,V,D,b,_,a⟩|⟨e,b,_,⟨rfl,a⟩|⟨_,g,a⟩⟩⟩
 .exact⟨aE,h1,h2,d,.inl ⟨K,V,D,b,a⟩⟩
 .exact⟨aE,h1,h2,d,.inr ⟨b,a⟩⟩
 .obtain⟨p,av,_⟩:=(h.eA no o c).2
  rw[a]at av;cases av
def Ho(lo aF:Nat)(T:aN)(fr to:Key)(most:Int)(acc L:O aI)(a:Nat)(w:J)(v:aa)(w':J):Prop:=
 ∃ (ao:aN) (c:Y) (b:O aI),c4 T ao w w' (2*a)/\iR lo w' ao aF c b/\
  ((∃on:ai,v=.tuple #[on,(0:Int)]/\h5 fr to most.toNat acc L on b)\/(v=.tuple #[false,(3:Int)]/\¬T.C.D.calm (2*a)))
theorem Hp:iD aj 175:=⟨Tryz.f175,func175,by kernel_rfl,by kernel_rfl⟩
theorem eo.top{P:Nat->aq aD}{h:Nat}{lo hi:aq Key}{no:Nat}{p:O Nat}{L:O aI}(b:eo P (h+1) lo hi no p L):∃ (n:aD) (a:O Nat),P no=some n/\n.leaf=decide (h=0)/\cH n/\p=no::a/\
 ((h=0/\gS n/\a=[]/\L=n.dN)\/(∃g,h=g+1/\ve n/\Kids (λlo hi k p L=>eo P h lo hi k p L) n.kids a L/\∀k:Key,∃ (bB bq:O Nat) (bf bz:O aI),a=bB++bq/\L=bf++bz/\(∀q∈bf,bH q.1 k)/\Kids (λlo hi k p L=>eo P h lo hi k p L) (n.kids.drop (dn n.keys k)) bq bz)):=by
 match h,b with
 |0,⟨n,h1,h2,f,e,d,c⟩=>exact⟨n,[],h1,h2.leaf,.inl h2,d,.inl ⟨rfl,h2,rfl,c⟩⟩
 |h+1,⟨n,a,h1,h2,f,e,d⟩=>
  have c:=d.mono (V:=λlo hi k p L=>eo P (h+1) lo hi k p L) λ_ _ _ _ _ _ b=>b.1;refine⟨n,a,h1,by rw[h2.inner];simp,.inr h2,e,.inr ⟨h,rfl,h2,c.kids,λk=>c.from (λ_ _ _ _ _ b=>(eo.fb b).2) k⟩⟩
theorem h5.len{fr to:Key}{most:Nat}{acc L a:O aI}{on:ai}(h:h5 fr to most acc L on a)(b:gJ L):a.length<=acc.length+L.length:=by
 have c:(eY L fr to).length<=L.length:=lW _ _;rcases h with ⟨_,h1,_⟩|⟨_,h1⟩
 .rw[h1,cz];omega
 .have:=h1 [] (by simpa using b)
  rw[this,fQ,cC,cz];omega
theorem Hq{A:ae}{i c:Nat}(h:i<c):aO (some A) 1 i c=some (A.add i):=by
 unfold aO;rw[fF];split
 .rename_i h2;omega
 .rfl
theorem Hr(h:Nat):∀ {w:J}{T:aN}{lo aF aY aT a8:Nat}{s fB fJ:Y}{acc L:O aI}{to fr:Key}{most:Int}{fc dO:aq Key}{no:Nat}{p:O Nat},iR lo w T aF s acc->lo<=w.heap.size->qi w T aY aT a8 fB fJ to fr most->h<=12->eo T.P h fc dO no p L->(acc.length:Int)<most->acc.length+L.length<=40000->T.C.D.aR+2*p.length<=999999999->
 aQ aj 174 #[.pointer (some T.aY),no,h,fJ,.func (.func 175) #[] #[.pointer (some aY),.pointer (some aT),.pointer (some aF),.pointer (some a8)]] w (Ho lo aF T fr to most acc L p.length w):=by
 induction h with
 |zero=>intro w T lo aF aY aT a8 s fB fJ acc L to fr most fc dO no p _ _ _ _ z;exact z.elim
 |succ h bc=>
  intro w T lo aF aY aT a8 s fB fJ acc L to fr most fc dO no p ax b8 hf b9 z bd be bh;obtain⟨n,b_,ay,bi,az,rfl,bl⟩:=z.top;have bm:=z.fb.1;have aB:=ax.t;have ca:=cH.eS az (by have:=aB.nm _ _ ay;omega);refine okF (af.uB (some T.aY) (no:Nat) ((h+1:Nat):Int) fJ ⟨175,#[],#[.pointer (some aY),.pointer (some aT),.pointer (some aF),.pointer (some a8)]⟩) aA.uB func174 ?_;(delta af.uB g0 ct U ak a_ ag aC r1 jZ au;dsimp only);rw[ye bi];refine(Hn aB I ay).use ?_;rintro _ w1 ⟨aE,B,aD,aG,bn⟩;have cb:=aG.size;have aH:iR lo w1 (T.bk aE T.P) aF s acc:=ax.of aD B.to (λ_ h=>h) aG λq bo bq=>bq.2 bo;have br:=hf.go B.to;rcases bn with ⟨K,V,D,rfl,c7⟩|⟨rfl,W⟩
  rotate_left
  .refine⟨_,bg,bg,bg,3,rfl,bj (vs:=[false,(),(),()]) rfl λbs v X bt=>⟨v.cc rfl (fI (b:=g_.leaf) (K:=bg) (V:=bg) (D:=bg)),rfl,cw v (us:=dY g_ bg bg bg) rfl rfl λE F Z bu=>⟨λ_=>?_,λhx=>(by simp at hx)⟩⟩⟩
   have f:Ext w1 E:=Ext.cn X Z (bp _);refine⟨_,s,acc,((B.trans (c4.ext _ f)).mono (by simp only[e8];omega)),aH.ext f,.inr ⟨rfl,λhc=>W (fH hc (by simp only[e8];omega))⟩⟩
  refine⟨_,K,V,D,0,rfl,bj (vs:=[false,(),(),()]) rfl λbs v X bt=>⟨v.cc rfl fI,rfl,cw v (us:=dY n K V D) rfl rfl λE F Z bu=>⟨λhx=>(by cases hx),λ_=>?_⟩⟩⟩;have f:Ext w1 E:=Ext.cn X Z (bp _);obtain⟨nb,bv⟩:∃nb,nb=w1.heap.size:=⟨_,rfl⟩;rw[←bv]at F⊢;have aJ:¬(T.bk aE T.P).M nb:=λaa=>by have:=aD.lt aa;omega
  have bw:=aH.ext f;have aL:=br.go (bN.ext _ f);have aO:bC (λq=>¬(T.bk aE T.P).M q) E n K V D:=(c7.ext f).aX λq _ c=>c.2;have cd:=f.size;obtain⟨bT,aC,aU,aM⟩:=bF F;refine⟨_,bT,K,aC,V,aU,D,aM,Hp,?_⟩;refine(Hl (no:Nat) bw I aL aO az I bd I).use ?_;rintro _ G ⟨b6,s2,rfl,x,l⟩;have ac:=(B.trans (c4.ext _ f)).trans l;have aP:=aL.go l.to;have ce:=l.to.ab.size;have aS:acc.length<most.toNat:=by omega
  rcases bl with ⟨rfl,aV,rfl,rfl⟩|⟨g,rfl,ad,_,bA⟩
  .
   have y:n.leaf=true:=aV.leaf;have e:jM fr to most.toNat n acc n.dN=kH fr to most.toNat acc n.dN:=by unfold jM;rw[if_pos y]
   have d:=Ch (fr:=fr) (to:=to) aV.dN.1 aS;rw[e]at x⊢;refine⟨_,rfl,λc=>?_,λc=>⟨λ_=>?_,λhx=>?_⟩⟩
   .have c:(kH fr to most.toNat acc n.dN).1=false:=by simpa using c
    refine⟨b6,s2,_,ac.mono (by simp),x,.inl ⟨false,rfl,?_⟩⟩;rw[c]at d;exact d
   .have c:(kH fr to most.toNat acc n.dN).1=true:=by simpa using c
    refine⟨b6,s2,_,ac.mono (by simp),x,.inl ⟨true,rfl,?_⟩⟩;rw[c]at d;exact d
   .rw[y]at hx;cases hx
  .
   have y:n.leaf=false:=ad.inner;have e:jM fr to most.toNat n acc n.dN=(true,acc):=by unfold jM;rw[y];rfl
   rw[e]at x⊢;refine⟨true,rfl,λc=>(by cases c),λ_=>⟨λc=>(by rw[y]at c;cases c),λ_=>aW ?_⟩⟩;have ae:Ext G G.drew:=cj _;have aZ:Var G.drew nb (dY n K V D) 202:=(F.ab l.to.ab λaa=>aJ (aN.gh aa)).drew;have cf:=(l.to.out (q:=nb) I aJ).1;have ah:bC (λq=>¬b6.M q) G.drew n K V D:=(l.to.g_ aO).ext ae;have bB:=aP.go (bN.ext b6 ae);obtain⟨d0,d1,d2,d3⟩:=bF aZ;refine⟨λ_=>False,id,D,d3,id,_,d0,K,d1,V,d2,D,d3,(n0 ah bB.yx ad.fb I).use ?_⟩;rintro _ bD ⟨rfl,H⟩;have cg:=vf n.keys fr;have ch:=ah.kids.len;have ci:=ad.len;obtain⟨fL,dH,bf,bz,rfl,rfl,a0,bE⟩:=bA fr;have N:=ae.trans H;have bG:=ac.trans (c4.ext b6 N);have bH:=x.ext N;have bI:=aP.go (bN.ext b6 N);have ai:=ah.ext H;have ck:=aZ.ext H;have cl:=N.size;have cm:n.kids.length<=100000:=by omega
   have co:dn n.keys fr<D.len:=by omega
   obtain⟨A,ar,cp⟩:∃A,D.a=some A/\D.len<=D.cap:=by
    obtain⟨A,ar,_⟩:=cL.at ai.kids (i:=0) I;exact⟨A,ar,ai.kids.2.1⟩
   refine⟨_,rfl,H,⟨I,I⟩,λi w'=>∃ (j:Nat) (db:aN) (Q:Y) (mw:O aI) (m qr:O Nat) (o al:O aI),i=(j:Int)/\j<=D.len-dn n.keys fr/\iR lo w' db aF Q mw/\c4 T db w w' (2+2*m.length)/\c4 b6 db bD w' (2*m.length)/\Kids (λlo hi k p L=>eo T.P (g+1) lo hi k p L) (n.kids.drop (dn n.keys fr+j)) qr al/\dH=m++qr/\bz=o++al/\h5 fr to most.toNat acc o true mw,
    λi _=>((D.len:Int)-i).toNat,⟨0,b6,s2,acc,[],dH,[],bz,rfl,cG _,bH,bG.mono (by simp),.refl _ _,bE,rfl,rfl,.nil aS⟩,?_⟩
   rintro _ a1 ⟨j,db,Q,mw,m,qr,o,al,rfl,cq,a2,r,R,S,rfl,rfl,d⟩;have bJ:(((dn n.keys fr:Nat):Int)).toNat=dn n.keys fr:=dc _;rw[bJ];refine⟨λaK=>?_,λbK=>?_⟩
   rotate_left
   .
    have bL:j=D.len-dn n.keys fr:=by
     have:¬(j:Int)<((D.len-dn n.keys fr:Nat):Int):=cu bK;omega
    have hd:n.kids.drop (dn n.keys fr+j)=[]:=sA I;rw[hd]at S
    cases S;refine⟨db,Q,mw,r.mono (by simp only[cz,e8,jD];omega),a2,.inl ⟨true,rfl,.skip (Cn a0) ?_⟩⟩;rw[fQ];exact d
   .have bL:j<D.len-dn n.keys fr:=by
     have:(j:Int)<((D.len-dn n.keys fr:Nat):Int):=b1 aK;omega
    have a3:dn n.keys fr+j<n.kids.length:=by omega
    have bM:=R.to.g_ ai;have bO:=bI.go R.to;have cr:=R.to.ab.size;obtain⟨cs,a4,c,am⟩:=cL.at bM.kids a3;rw[ar]at a4
    cases a4;obtain⟨u,a5⟩:∃u,u=n.kids[dn n.keys fr+j]:=⟨_,rfl⟩;rw[←a5]at am;have bP:n.kids.drop (dn n.keys fr+j)=u::n.kids.drop (dn n.keys fr+j+1):=by rw[jy a3,a5]
    rw[bP]at S
    cases S with
    | @cons bQ bR _ _ an bS a6 bU bV bW=>
    have bX:db.P=T.P:=r.P;have bY:a1.cell? ((A.add (dn n.keys fr)).add (Int.toNat (j:Int)*1))=some (.int .i64 (u:Int)):=by
     rw[dc,fF,add_add];rw[dc,fF]at am;exact am
    have bZ:IntKind.wrap .i64 (((g+1+1:Nat):Int)-1)=((g+1:Nat):Int):=by rw[bx I I];omega
    have b0:IntKind.wrap .i64 ((j:Int)+1)=((j+1:Nat):Int):=by rw[bx I I];omega
    have b2:db.aY=T.aY:=r.to.aY;simp only[e8,cz]at bh be;have b3:(mw.length:Int)<most/\mw.length<=acc.length+o.length:=by
     have b4:gJ o:=(pV.1 (pV.1 bm).2.1).1;refine⟨?_,d.len b4⟩;rcases d with ⟨_,_,a7⟩|⟨a7,_⟩
     .omega
     .cases a7
    have cv:=r.to.aR;have a9:=bc (w:=a1) (T:=db) (lo:=lo) (aF:=aF) (aY:=aY) (aT:=aT) (a8:=a8) (s:=Q) (fB:=fB) (fJ:=fJ) (acc:=mw) (L:=a6) (to:=to) (fr:=fr) (most:=most) (fc:=bQ) (dO:=bR) (no:=u) (p:=an) a2 I bO I (by rw[bX];exact bV) b3.1 I I;rw[b2]at a9;refine⟨A.add (dn n.keys fr),by rw[ar];exact Hq I,⟨I,I⟩,u,bY,?_⟩;rw[bZ,b0];refine a9.use ?_;rintro _ b5 ⟨j0,ao,ap,ba,av,b7⟩;have aw:c4 T j0 w b5 (2+2*(m.length+an.length)):=(r.trans ba).mono I;rcases b7 with ⟨on,rfl,bb⟩|⟨rfl,W⟩
    .refine⟨on,0,rfl,λc=>?_,λc=>?_⟩
     .have c:on=false:=by simpa using c
      subst c;refine⟨j0,ao,ap,aw.mono (by simp only[cz,e8];omega),av,.inl ⟨false,rfl,.skip (Cn a0) ?_⟩⟩;rw[←cO];exact(d.app bb).stop
     .have c:on=true:=by simpa using c
      subst c;refine⟨⟨j+1,j0,ao,ap,m++an,bS,o++a6,bU,rfl,I,av,?_,?_,?_,by rw[cO],by rw[cO],d.app bb⟩,?_⟩
      .rw[cz];exact aw
      .rw[cz];exact(R.trans ba).mono I
      .rw[←Nat.add_assoc];exact bW
      .show((D.len:Int)-((j+1:Nat):Int)).toNat<((D.len:Int)-(j:Int)).toNat
       omega
    .refine⟨false,3,rfl,λ_=>?_,λc=>(by simp at c)⟩
     refine⟨j0,ao,ap,aw.mono (by simp only[cz,e8];omega),av,.inr ⟨rfl,λhc=>W (r.to.calm _ (fH hc (by simp only[cz,e8];omega)))⟩⟩
def Hs(T:aN)(L:O aI)(fr to:Key)(most:Int)(a:Nat)(w:J)(v:aa)(w':J):Prop:=
 ∃ao:aN,bL w' ao/\c4 T ao w w' (2*a)/\ao.G=T.G/\
  ((∃s:Y,v=.tuple #[s,(0:Int)]/\eV (λq=>¬ao.M q) w' s ((eY L fr to).take most.toNat))\/(v=.tuple #[(),(3:Int)]/\¬T.C.D.calm (2*a)))
theorem eV.none(B:Nat->Prop)(w:J):eV B w ⟨.none,0,0⟩ []:=(kI.none B w).r λq a=>(fZ q a).elim
theorem c4.back{T ao:aN}{w w':J}{k:Nat}(ht:bL w T)(h:c4 T ao w w' k)(b:bL w' ao):bL w' (ao.ck T.E T.G)/\c4 T (ao.ck T.E T.G) w w' k:=
 ⟨b.grow (W:=λ_=>False) (ad.refl _ _) (λ_ h=>h.elim) (λq a=>.inl (by rw[h.E];exact a)) (λq a=>.inr (.inl (h.G q a))) λq a=>(ht.c6 q a).2.2,
  h.to.step (W:=λ_=>False) (ad.refl _ _) (λ_ h=>h.elim) (λq a=>.inl (by rw[h.E];exact a)) (λq a=>.inl (h.G q a)),rfl,λ_ h=>h,h.root,h.aH,h.f,h.P,h.view⟩
theorem Ht{w:J}{T:aN}{pages:O Nat}{L:O aI}{fJ fB:Y}{fr to:Key}{most:Int}(h:bL w T)(H:gj T pages L)(aU:L.length<=30000)(ap:T.C.D.aR+2*pages.length<=999999999)
 (hf:Src 1 w fJ (aJ fr)) (u:∀q,aB fJ q->q<w.heap.size/\¬T.M q) (ht:Src 1 w fB (aJ to)) (x:∀q,aB fB q->q<w.heap.size/\¬T.M q) (aV:to.length<=1000000):
 aQ aj 111 #[.pointer (some T.aY),fJ,fB,most] w (Hs T L fr to most pages.length w):=by
 have aq:=h.num.2.1;refine okF (af.ue (some T.aY) fJ fB most) aA.ue func111 ?_;(delta af.ue ak r1 U ag jZ;dsimp only);refine bj (vs:=[fJ]) rfl λw1 K N aZ=>bj (vs:=[fB]) rfl λah Q y a0=>bj (vs:=[most]) rfl λR z o a1=>⟨λh=>(by cases h),λ_=>?_⟩;have A:=(N.trans y).trans o;have S:=h.ext A;refine⟨_,rfl,_,S.cells.2.2.2.2,cd (λb w'=>b=decide (T.aH=0\/most<1)/\R=w') (λq c=>⟨λd=>c _ _ ⟨?_,rfl⟩,λd=>⟨_,z.cell,c _ _ ⟨?_,rfl⟩⟩⟩) ?_⟩
 .have:T.aH=0:=by simpa using d
  simp[this]
 .have:T.aH≠0:=by simpa using d
  simp[this]
 rintro _ _ ⟨rfl,rfl⟩;refine⟨λd=>?_,λd=>?_⟩
 .have d:=b1 d
  have e:(eY L fr to).take most.toNat=[]:=by
   rcases d with d|d
   .rcases H with ⟨_,_,_,ar⟩|g
    .rw[ar];simp[eY]
    .rw[d]at g;exact g.elim
   .have:most.toNat=0:=by omega
    rw[this,List.take_zero]
  refine⟨T,S,(c4.ext T A).mono I,rfl,.inl ⟨⟨none,0,0⟩,rfl,?_⟩⟩;rw[e];exact eV.none _ _
 have d:=cu d;have g:eo T.P T.aH none none T.root pages L:=by
  rcases H with ⟨au,_⟩|g
  .exact absurd (.inl au) d
  .exact g
 refine bj (vs:=[()]) rfl λB V l a2=>aW ?_;have i:Ext B B.drew:=cj _;obtain⟨k,aw⟩:∃k,k=B.drew:=⟨_,rfl⟩;rw[←aw]at i⊢;obtain⟨aF,X⟩:∃aF,aF=R.heap.size:=⟨_,rfl⟩;obtain⟨aT,Z⟩:∃aT,aT=w.heap.size:=⟨_,rfl⟩;obtain⟨aY,aa⟩:∃aY,aY=w1.heap.size:=⟨_,rfl⟩;obtain⟨a8,ab⟩:∃a8,a8=ah.heap.size:=⟨_,rfl⟩;rw[←X]at V;rw[←Z]at K;rw[←aa]at Q;rw[←ab]at z;rw[←X,←Z,←aa,←ab];have m:=(A.trans l).trans i;have a3:=N.size;have a4:=y.size;have a5:=o.size;have a6:=l.size;have a7:=i.size;have ac:=V.ext i;have a9:=ac.lt;have F:∀q,w.heap.size<=q->¬T.M q:=λq c a=>by have:=h.lt a;omega
 obtain⟨bO,j⟩:∃bO,bO=T.ck T.E λq=>T.G q\/q=aF:=⟨_,rfl⟩;have ay:bL k bO:=by
  rw[j];refine h.grow (W:=λ_=>False) m (λ_ h=>h.elim) (λq c=>.inl c) (λq c=>.inr (c.imp id λe=>⟨I,I⟩)) λq c hg=>?_;rcases hg with hg|hg
  .exact(h.c6 q c).2.2 hg
  .have:=h.lt (q:=q) (.inr (.inr (.inr (.inl c))));omega
 have az:c4 T bO w k 0:=by
  rw[j];exact⟨(bN.refl T w).step (W:=λ_=>False) m (λ_ h=>h.elim) (λq c=>.inl c) λq c=>c.imp id λe=>I,rfl,λ_ h=>.inl h,rfl,rfl,rfl,rfl,λ_=>rfl⟩
 have n:∀q,¬T.M q->q≠aF->¬bO.M q:=λq c aC a=>by
  rw[j]at a;rcases a with a|a|a|a|a
  .exact c (.inl a)
  .exact c (.inr (.inl a))
  .exact c (.inr (.inr (.inl a)))
  .exact c (.inr (.inr (.inr (.inl a))))
  .rcases a with a|a
   .exact c (.inr (.inr (.inr (.inr a))))
   .exact aC a
 have aD:bO.aY=T.aY:=by rw[j];rfl
 have ae:bO.C=T.C:=by rw[j];rfl
 have aE:bO.P=T.P:=by rw[j];rfl
 have aG:iR w.heap.size k bO aF ⟨none,0,0⟩ []:=⟨ay,ac,kI.none _ _,by rw[j];exact .inr rfl,λq c=>(fZ q c).elim⟩;have ai:qi k bO aY aT a8 fB fJ to fr most:=⟨(((Q.ext o).ext l).ext i),((((K.ext y).ext o).ext l).ext i),((z.ext l).ext i),n _ (F _ I) I,n _ (F _ I) I,n _ (F _ I) I,
  ht.ext m,hf.ext m,λq c=>⟨by have:=(x q c).1;omega,n q (x q c).2 (by have:=(x q c).1;omega)⟩,λq c=>⟨by have:=(u q c).1;omega,n q (u q c).2 (by have:=(u q c).1;omega)⟩,I⟩
 have al:=Hr T.aH (acc:=[]) (no:=T.root) (L:=L) (p:=pages) (fc:=none) (dO:=none) aG I ai aq (by rw[aE];exact g) (by show(((([]:O aI).length:Nat)):Int)<most;simp only[jD];omega) (by simp only[jD];omega) (by rw[ae];exact ap);rw[aD]at al;have am:=h.ext m;refine⟨λ_=>False,_,rfl,id,_,am.cells.2.2.2.1,_,rfl,id,_,am.cells.2.2.2.2,id,_,ai.vR.cell,ad.refl _ _,al.use ?_⟩;rintro _ aK ⟨ao,an,a_,aL,f,aM⟩;have s:c4 T ao w aK (2*pages.length):=(az.trans aL).mono I;obtain⟨cf,bS⟩:=s.back h f.t;rcases aM with ⟨on,rfl,aO⟩|⟨rfl,aP⟩
 .refine⟨on,0,rfl,λhx=>(by cases hx),λ_=>⟨an,f.v.cell,_,cf,bS,rfl,.inl ⟨an,rfl,?_⟩⟩⟩
  have he:=aO.all g.fb.1;rw[←he];have aS:∀q,¬ao.M q->¬(ao.ck T.E T.G).M q:=λq c a=>c (by
   rcases a with a|a|a|a|a
   .exact .inl a
   .exact .inr (.inl a)
   .exact .inr (.inr (.inl a))
   .exact .inr (.inr (.inr (.inl (by rw[s.E];exact a))))
   .exact .inr (.inr (.inr (.inr (s.G q a)))))
  refine(f.own.aX λq _ c=>aS q c).r λq c a=>?_;obtain⟨av,ax,ba⟩:=f.gs q c;rcases a with a|a|a|a|a
  .exact f.t.rW av a
  .exact(f.t.hD q av).1 a
  .exact(f.t.hD q av).2 a
  .exact(f.t.c6 q (by rw[s.E];exact a)).2.2 av
  .have:=h.lt (q:=q) (.inr (.inr (.inr (.inr a))));omega
 .exact⟨false,3,rfl,λ_=>⟨_,cf,bS,rfl,.inr ⟨rfl,by rw[←ae];exact aP⟩⟩,λhx=>(by simp at hx)⟩
theorem Cp{w:J}{T:aN}(h:bL w T):aQ aj 147 #[.pointer (some T.aY)] w (λv w'=>v=.tuple #[T.root,T.aH]/\Ext w w'):=by
 refine okF (af.uw (some T.aY)) aA.uw func147 ?_;(delta af.uw ak r1;dsimp only);have hd:=h.ext (cj w);exact⟨λh=>(by cases h),λ_=>aW ⟨_,rfl,id,_,hd.cells.2.2.2.1,_,rfl,id,_,hd.cells.2.2.2.2,rfl,cj w⟩⟩
end Go.Proofs.YtkdhdlfonmgheaaGreat
namespace Go.Proofs.YtkdhdlfonmgheaaGreat
open Go Go.Proofs Go.Shelf
def Cq:Go.Shelf.Ren:=⟨λ |7=>178|10=>232|n=>n,λ |23=>137|26=>3|3=>136|28=>264|0=>0|27=>263|33=>180|4=>4|n=>n,λ |n=>n⟩
theorem Hu:Go.Proofs.SlLaysZI.n7 Tryz.prog Cq:={
 mixed:=by kernel_rfl
 f7:=⟨Tryz.f178.name,by decide,Tryz.func178.trans (congrArg some (by kernel_rfl))⟩
 f10:=⟨Tryz.f232.name,by decide,Tryz.func232.trans (congrArg some (by kernel_rfl))⟩
 t0:=Tryz.underlying0
 a0:=Tryz.isAgg0
 z0:=Tryz.sizeOf0
 v0:=Tryz.zeroValue0
 t4:=Tryz.underlying4
 a4:=Tryz.isAgg4
 z4:=Tryz.sizeOf4
 v4:=Tryz.zeroValue4
 t23:=Tryz.underlying137
 a23:=Tryz.isAgg137
 z23:=Tryz.sizeOf137
 v23:=Tryz.zeroValue137
 t26:=Tryz.underlying3
 a26:=Tryz.isAgg3
 z26:=Tryz.sizeOf3
 v26:=Tryz.zeroValue3
 t27:=Tryz.underlying263
 a27:=Tryz.isAgg263
 z27:=Tryz.sizeOf263
 v27:=Tryz.zeroValue263
 t28:=Tryz.underlying264
 a28:=Tryz.isAgg264
 z28:=Tryz.sizeOf264
 v28:=Tryz.zeroValue264
 t33:=Tryz.underlying180
 a33:=Tryz.isAgg180
 z33:=Tryz.sizeOf180
 v33:=Tryz.zeroValue180}
def Cr:Go.Shelf.Ren:=⟨λ |6=>177|8=>231|9=>153|11=>271|13=>213|12=>212|23=>264|24=>265|14=>255|15=>256|16=>257|17=>258|18=>259|19=>260|20=>261|21=>262|22=>263|25=>286|26=>287|27=>288|28=>289|29=>290|30=>291|31=>297|n=>n,λ |26=>3|28=>264|24=>58|0=>0|3=>3|37=>101|48=>219|50=>27|4=>4|40=>340|39=>339|45=>175|5=>5|9=>9|51=>364|55=>367|57=>371|58=>234|33=>180|n=>n,λ |n=>n⟩
theorem Hv:Go.Proofs.SlLaysZI.n6 Tryz.prog Cr:={
 mixed:=by kernel_rfl
 f6:=⟨Tryz.f177.name,by decide,Tryz.func177.trans (congrArg some (by kernel_rfl))⟩
 f8:=⟨Tryz.f231.name,by decide,Tryz.func231.trans (congrArg some (by kernel_rfl))⟩
 f11:=⟨Tryz.f271.name,by decide,Tryz.func271.trans (congrArg some (by kernel_rfl))⟩
 t0:=Tryz.underlying0
 a0:=Tryz.isAgg0
 z0:=Tryz.sizeOf0
 v0:=Tryz.zeroValue0
 t24:=Tryz.underlying58
 a24:=Tryz.isAgg58
 z24:=Tryz.sizeOf58
 v24:=Tryz.zeroValue58
 t26:=Tryz.underlying3
 a26:=Tryz.isAgg3
 z26:=Tryz.sizeOf3
 v26:=Tryz.zeroValue3
 t28:=Tryz.underlying264
 a28:=Tryz.isAgg264
 z28:=Tryz.sizeOf264
 v28:=Tryz.zeroValue264
 i26:=by kernel_rfl}
def Hw:Go.Shelf.Ren:=⟨λ |5=>153|8=>213|7=>212|19=>264|20=>265|10=>255|11=>256|12=>257|13=>258|14=>259|15=>260|16=>261|17=>262|18=>263|30=>286|31=>287|32=>288|33=>289|34=>290|35=>291|40=>297|n=>n,λ |23=>58|25=>3|3=>3|32=>101|22=>58|0=>0|44=>219|46=>27|4=>4|36=>340|35=>339|41=>175|5=>5|9=>9|53=>364|57=>367|63=>371|64=>234|n=>n,λ |n=>n⟩
theorem vS:Go.Proofs.SlLaysM.n5 Tryz.prog Hw:={
 mixed:=by kernel_rfl
 f5:=⟨Tryz.f153.name,by decide,Tryz.func153.trans (congrArg some (by kernel_rfl))⟩
 f7:=⟨Tryz.f212.name,by decide,Tryz.func212.trans (congrArg some (by kernel_rfl))⟩
 f8:=Tryz.func213.trans (congrArg some (by kernel_rfl))
 f10:=⟨Tryz.f255.name,by decide,Tryz.func255.trans (congrArg some (by kernel_rfl))⟩
 f11:=⟨Tryz.f256.name,by decide,Tryz.func256.trans (congrArg some (by kernel_rfl))⟩
 f12:=⟨Tryz.f257.name,by decide,Tryz.func257.trans (congrArg some (by kernel_rfl))⟩
 f13:=⟨Tryz.f258.name,by decide,Tryz.func258.trans (congrArg some (by kernel_rfl))⟩
 f14:=⟨Tryz.f259.name,by decide,Tryz.func259.trans (congrArg some (by kernel_rfl))⟩
 f15:=⟨Tryz.f260.name,by decide,Tryz.func260.trans (congrArg some (by kernel_rfl))⟩
 f16:=⟨Tryz.f261.name,by decide,Tryz.func261.trans (congrArg some (by kernel_rfl))⟩
 f17:=⟨Tryz.f262.name,by decide,Tryz.func262.trans (congrArg some (by kernel_rfl))⟩
 f18:=⟨Tryz.f263.name,by decide,Tryz.func263.trans (congrArg some (by kernel_rfl))⟩
 f19:=Tryz.func264.trans (congrArg some (by kernel_rfl))
 f20:=Tryz.func265.trans (congrArg some (by kernel_rfl))
 f30:=⟨Tryz.f286.name,by decide,Tryz.func286.trans (congrArg some (by kernel_rfl))⟩
 f31:=Tryz.func287.trans (congrArg some (by kernel_rfl))
 f32:=Tryz.func288.trans (congrArg some (by kernel_rfl))
 f33:=⟨Tryz.f289.name,by decide,Tryz.func289.trans (congrArg some (by kernel_rfl))⟩
 f34:=⟨Tryz.f290.name,by decide,Tryz.func290.trans (congrArg some (by kernel_rfl))⟩
 f35:=⟨Tryz.f291.name,by decide,Tryz.func291.trans (congrArg some (by kernel_rfl))⟩
 f40:=⟨Tryz.f297.name,by decide,Tryz.func297.trans (congrArg some (by kernel_rfl))⟩
 t0:=Tryz.underlying0
 a0:=Tryz.isAgg0
 z0:=Tryz.sizeOf0
 v0:=Tryz.zeroValue0
 t3:=Tryz.underlying3
 a3:=Tryz.isAgg3
 z3:=Tryz.sizeOf3
 v3:=Tryz.zeroValue3
 t4:=Tryz.underlying4
 a4:=Tryz.isAgg4
 z4:=Tryz.sizeOf4
 v4:=Tryz.zeroValue4
 t5:=Tryz.underlying5
 a5:=Tryz.isAgg5
 z5:=Tryz.sizeOf5
 v5:=Tryz.zeroValue5
 t9:=Tryz.underlying9
 a9:=Tryz.isAgg9
 z9:=Tryz.sizeOf9
 v9:=Tryz.zeroValue9
 t22:=Tryz.underlying58
 a22:=Tryz.isAgg58
 z22:=Tryz.sizeOf58
 v22:=Tryz.zeroValue58
 t23:=Tryz.underlying58
 a23:=Tryz.isAgg58
 z23:=Tryz.sizeOf58
 v23:=Tryz.zeroValue58
 t25:=Tryz.underlying3
 a25:=Tryz.isAgg3
 z25:=Tryz.sizeOf3
 v25:=Tryz.zeroValue3
 t32:=Tryz.underlying101
 a32:=Tryz.isAgg101
 z32:=Tryz.sizeOf101
 v32:=Tryz.zeroValue101
 t35:=Tryz.underlying339
 a35:=Tryz.isAgg339
 z35:=Tryz.sizeOf339
 v35:=Tryz.zeroValue339
 t36:=Tryz.underlying340
 a36:=Tryz.isAgg340
 z36:=Tryz.sizeOf340
 v36:=Tryz.zeroValue340
 t41:=Tryz.underlying175
 a41:=Tryz.isAgg175
 z41:=Tryz.sizeOf175
 v41:=Tryz.zeroValue175
 t44:=Tryz.underlying219
 a44:=Tryz.isAgg219
 z44:=Tryz.sizeOf219
 v44:=Tryz.zeroValue219
 t46:=Tryz.underlying27
 a46:=Tryz.isAgg27
 z46:=Tryz.sizeOf27
 v46:=Tryz.zeroValue27
 t53:=Tryz.underlying364
 a53:=Tryz.isAgg364
 z53:=Tryz.sizeOf364
 v53:=Tryz.zeroValue364
 t57:=Tryz.underlying367
 a57:=Tryz.isAgg367
 z57:=Tryz.sizeOf367
 v57:=Tryz.zeroValue367
 t63:=Tryz.underlying371
 a63:=Tryz.isAgg371
 z63:=Tryz.sizeOf371
 v63:=Tryz.zeroValue371
 t64:=Tryz.underlying234
 a64:=Tryz.isAgg234
 z64:=Tryz.sizeOf234
 v64:=Tryz.zeroValue234}
end Go.Proofs.YtkdhdlfonmgheaaGreat
namespace Go.Proofs.YtkdhdlfonmgheaaGreat
open Go a7 Go.Proofs.Tryz
theorem Hx{w:J}{b n:Nat}{c:Array aa}{T:TypeId}{os:Array Obj}{zs:O Int}(h:bu w b c T)(g:zs.length<=c.size):
 ∃c':Array aa,bu (Go.Sort.grow (Go.Sort.putRow (Value.int .i64) (Go.Sort.ahead w n) b 0 zs.toArray) os) b c' T/\c'.size=c.size/\c'.toList.take zs.length=zs.map encZ/\ad (λq=>q=b) w (Go.Sort.grow (Go.Sort.putRow (Value.int .i64) (Go.Sort.ahead w n) b 0 zs.toArray) os):=by
 have aK:=h.lt;have d:∀k,k<w.heap.size->(Go.Sort.grow (Go.Sort.putRow (Value.int .i64) (Go.Sort.ahead w n) b 0 zs.toArray) os).heap[k]? =(w.heap.modify b (Go.Sort.onCells (Go.Sort.putCells (Value.int .i64) 0 zs.toArray)))[k]? :=λk a=>by
  show((w.heap.modify b _)++os)[k]? =_;rw[Array.getElem?_append_left (by simpa using a)]
 refine⟨Go.Sort.putCells (Value.int .i64) 0 zs.toArray c,?_,by simp[Go.Sort.putCells],?_,rfl,rfl,rfl,?_,λk a f=>?_⟩
 .unfold bu at h⊢
  rw[d b aK,sg,if_pos rfl,h];rfl
 .apply List.ext_getElem?
  intro i;rw[sj];split
  .rename_i hi
   rw[Array.getElem?_toList,Go.Sort.putCells,Array.getElem?_mapIdx,Array.getElem?_eq_getElem I,lh,if_pos ⟨cG _,by simpa using hi⟩,lk,dE hi];simp[hi]
  .rename_i hi
   rw[kk (by simpa using hi)]
 .show w.heap.size<=((w.heap.modify b _)++os).size
  simp
 .rw[d k a,sg,if_neg (λe=>f e.symm)]
theorem yy(ds:O Nat):ef ds=(ds.map λd=>((d:Nat):Int)).map encZ:=by simp[ef]
theorem Cs{w:J}{s:Y}{zs:O Int}(h:ba 1 3 w s (zs.map encZ))(F:zs.length<=1000000):
 aQ aj 153 #[s] w (λv w'=>v=.tuple #[]/\ad (aB s) w w'/\∃d:O Int,ba 1 3 w' s (d.map encZ)/\d.Perm zs/\d.Pairwise λa b=>a<=b):=by
 have G:s.len=zs.length:=by have:=h.1;rw[dL]at this;omega
 rcases nA zs.length with h0|h0
 .have hd:zs=[]:=kO.1 h0
  have e:s.len=0:=by omega
  rw[e];refine Calls.mono (AnyM.slices_Sort_int_none vS s.a s.cap w) ?_;rintro _ _ ⟨rfl,rfl⟩;exact⟨_,rfl,rfl,.refl _ _,[],by rw[hd]at h;exact h,by rw[hd],List.Pairwise.nil⟩
 obtain⟨h1,h2,t,u⟩:=h;rcases u with ⟨_,g⟩|⟨b,c,i,f,z,A⟩
 .omega
 have B:Go.Sort.Holds (Value.int .i64) w b 0 zs.toArray:=λj C=>by
  have m:j<zs.length:=by simpa using C
  refine⟨?_,bu.frozen f _ rfl⟩;rw[f.cell,cB];have e:=congrArg (λl=>l[j]?) A;simp only[sj,lk,dE m,lh]at e;rw[if_pos I,Array.getElem?_toList]at e;rw[e];simp[m]
 have D:=AnyM.slices_Sort_int vS b 0 s.cap zs w B f.lt I;rw[i];have e:s.len=zs.length:=by omega
 rw[e];refine Calls.mono D ?_;rintro _ w' ⟨rfl,n,os,rfl⟩;obtain⟨c',av,ax,o,p⟩:=Hx (n:=n) (os:=os) (zs:=zs.mergeSort λx y=>decide (x<=y)) f (by rw[List.length_mergeSort];omega);have k:=List.mergeSort_perm zs λx y=>decide (x<=y);have r:(zs.mergeSort λx y=>decide (x<=y)).Pairwise λa b=>decide (a<=b)=true:=List.pairwise_mergeSort (λa b c h1 h2=>by simp only[cQ]at*;omega) (λa b=>by simp only[iS,cQ];omega) zs;generalize (zs.mergeSort λx y=>decide (x<=y))=d at av ax o p k r;refine⟨_,rfl,rfl,p.mono λq _ e=>⟨b,i,e.symm⟩,d,?_,k,r.imp λh=>b1 h⟩;have E:=k.length_eq;have g:=ba.mk' (sz:=1) (n:=s.len) (cap:=s.cap) av (vs:=d.map encZ) (by rw[dL];omega) h2 t (by rw[ax];exact z) (by rw[fF,e,←E];exact o);rw[←i]at g;exact g
theorem Ct{w:J}{s:Y}{ds:O Nat}(h:ba 1 3 w s (ef ds))(i:ds.length<=1000000):
 aQ aj 153 #[.slice s.a s.len s.cap] w (λv w'=>v=.tuple #[]/\ad (aB s) w w'/\∃es:O Nat,ba 1 3 w' s (ef es)/\es.Perm ds/\es.Pairwise λa b=>a<=b):=by
 rw[yy]at h;refine(Cs h (by rw[dL];exact i)).mono ?_;rintro v w' ⟨rfl,hc,c,j,f,k⟩;have g:∀y∈c,0<=y:=λy e=>by
  obtain⟨d,_,rfl⟩:=eE.1 (f.mem_iff.1 e);omega
 have l:(c.map Int.toNat).map (λd=>((d:Nat):Int))=c:=by
  rw[iA]
  conv=>rhs;rw[←List.map_id c]
  refine List.map_congr_left λy e=>?_;have:=g y e;show((y.toNat:Nat):Int)=y;omega
 refine⟨rfl,hc,c.map Int.toNat,by rw[yy,l];exact j,?_,?_⟩
 .have:=f.map Int.toNat
  rw[iA]at this;have m:(Int.toNat∘ λd:Nat=>((d:Nat):Int))=id:=by funext d;simp
  rw[m,List.map_id]at this;exact this
 .rw[List.pairwise_map]
  exact k.imp_of_mem λn o p=>by
   have:=g _ n;omega
theorem Hy{B:Nat->Prop}{w:J}{s:Y}{ds:O Nat}(h:cL B w s ds)(no:Nat)(k:ds.length<=1000000):
 aQ aj 184 #[s,no] w (λv w'=>∃n:Int,v=n/\(0<=n↔no∈ds)/\w=w'):=by
 have l:=h.len;refine okF (af.tx s (no:Nat)) aA.tx func184 ?_;(delta af.tx ak aL r1 au;dsimp only);refine⟨λn w'=>∃i:Nat,n=(i:Int)/\i<=ds.length/\no∉ds.take i/\w=w',λn _=>((ds.length:Int)-n).toNat,⟨0,rfl,cG _,by simp,rfl⟩,?_⟩;rintro _ _ ⟨i,rfl,hi,d,rfl⟩;refine⟨λaK=>?_,λf=>?_⟩
 .have b:i<ds.length:=by
   have:(i:Int)<(s.len:Int):=b1 aK;omega
  obtain⟨A,ar,g,hc⟩:=cL.at h b;refine⟨A,ar,g,_,hc,λhe=>?_,λc=>?_⟩
  .have he:no=ds[i]:=by
    have:(no:Int)=((ds[i]:Nat):Int):=by simpa using he
    omega
   exact⟨_,rfl,⟨λ_=>by rw[he];exact cE _,λ_=>I⟩,rfl⟩
  .have c:no≠ds[i]:=λe=>by rw[e]at c;simp at c
   have j:IntKind.wrap .i64 ((i:Int)+1)=((i+1:Nat):Int):=by rw[bx I I];omega
   rw[j];refine⟨⟨i+1,rfl,I,?_,rfl⟩,by show((ds.length:Int)-((i+1:Nat):Int)).toNat<((ds.length:Int)-(i:Int)).toNat;omega⟩;rw[iy b];intro a;rcases cT.1 a with a|a
   .exact d a
   .exact c (fo.1 a)
 .have b:i=ds.length:=by
   have:¬(i:Int)<(s.len:Int):=cu f;omega
  rw[b,iz]at d;exact⟨-1,rfl,⟨λh=>I,λh=>absurd h d⟩,rfl⟩
theorem Hz{B:Nat->Prop}{w:J}{s:Y}{ds:O Nat}(h:cL B w s ds)(no:Nat)(a:ds.length<=1000000):
 aQ aj 118 #[s,no] w (λv w'=>v=.bool (decide (no∈ds))/\w=w'):=by
 refine okF (af.tr s (no:Nat)) aA.tr func118 ?_;(delta af.tr aC;dsimp only);refine(Hy h no a).use ?_;rintro _ _ ⟨n,rfl,b,rfl⟩;refine⟨n,rfl,?_,rfl⟩
 congr 1
 exact decide_eq_decide.2 b
def ir(B:Nat->Prop)(w:J)(t:Y):aq Key->Prop
 |none=>t.a=none
 |some k=>k≠ []/\a6 B w t k
theorem ir.ab{B W:Nat->Prop}{w w':J}{t:Y}{o:aq Key}(h:ir B w t o)(hc:ad W w w')(b:∀q,B q->q<w.heap.size->¬W q):ir B w' t o:=by
 cases o with
 |none=>exact h
 |some k=>exact⟨h.1,a6.iL h.2 hc λq a=>b q (h.2.2.2 q a).1 (h.2.2.2 q a).2⟩
theorem ir.aX{B C:Nat->Prop}{w:J}{t:Y}{o:aq Key}(h:ir B w t o)(a:∀q,q<w.heap.size->B q->C q):ir C w t o:=by
 cases o with
 |none=>exact h
 |some k=>exact⟨h.1,a6.aX h.2 a⟩
theorem ir.nil{B:Nat->Prop}{w:J}{t:Y}{o:aq Key}(h:ir B w t o):(!(Option.isNone t.a))=o.isSome:=by
 cases o with
 |none=>rw[show t.a=none from h];rfl
 |some k=>
  obtain⟨A,ar⟩:=a6.some h.2 h.1;rw[ar];rfl
theorem pQ{B C D:Nat->Prop}{w:J}{n:aD}{K V l lM lN:Y}{lo hi:aq Key}(z:bC B w n K V l)(S:n.keys.length<=100000)(L:ir C w lM lo)(M:ir D w lN hi):
 aQ aj 254 #[c0 n K V l,lM,lN] w (λv w'=>∃b:ai,v=b/\(b=true↔n.within lo hi)/\Ext w w'):=by
 have T:=bo.len z.keys;refine okF (af.pQ n.leaf K V l lM lN) aA.pQ func254 ?_;(delta af.pQ ag U ak aL aC au;dsimp only);refine bj (vs:=dY n K V l) rfl λw1 N f X=>?_;obtain⟨bT,aC,aU,aM⟩:=bF N;have O:=z.ext f;have o:=L.ab (W:=λ_=>False) f λ_ _ _ h=>h;have p:=M.ab (W:=λ_=>False) f λ_ _ _ h=>h;refine⟨K,aC,λi w'=>∃s:Nat,i=(s:Int)/\s<=n.keys.length/\(∀k∈n.keys.take s,fw lo hi k)/\w1=w',λi _=>((n.keys.length:Int)-i).toNat,⟨0,rfl,cG _,by simp,rfl⟩,?_⟩;rintro _ _ ⟨i,rfl,Z,t,rfl⟩;refine⟨λaK=>?_,λP=>?_⟩
 rotate_left
 .have m:i=n.keys.length:=by
   have:¬(i:Int)<(K.len:Int):=cu P;omega
  rw[m,iz]at t;exact⟨true,rfl,⟨λ_=>t,λ_=>rfl⟩,f⟩
 have m:i<n.keys.length:=by
  have:(i:Int)<(K.len:Int):=b1 aK;omega
 obtain⟨A,tk,ar,g,hc,u,_⟩:=bo.at O.keys m;obtain⟨key,x⟩:∃key,key=n.keys[i]:=⟨_,rfl⟩;rw[←x]at u;refine⟨A,ar,g,tk,hc,cd (λb w'=>(b=true↔¬∀a,lo=some a->ey a key)/\w1=w') (λq j=>⟨λc=>?_,λc=>?_⟩) ?_⟩
 .rw[o.nil]at c
  cases lo with
  |none=>cases c
  |some a=>
   refine(ky u.1 o.2.1).use ?_;rintro _ _ ⟨rfl,rfl⟩;refine⟨_,rfl,j _ _ ⟨?_,rfl⟩⟩;rw[cQ];constructor
   .exact λh h2=>h2 a rfl h
   .exact λh=>oX λh2=>h λb g=>by cases g;exact h2
 .rw[o.nil]at c
  cases lo with
  |none=>exact j _ _ ⟨⟨λh=>(by cases h),λh=>absurd (λa e=>(by cases e)) h⟩,rfl⟩
  |some a=>cases c
 rintro aa _ ⟨E,rfl⟩;refine cd (λb w'=>(b=true↔¬fw lo hi key)/\w1=w') (λq j=>⟨λc=>j _ _ ⟨⟨λ_ h=>(E.1 c) h.1,λ_=>rfl⟩,rfl⟩,λc=>?_⟩) ?_
 .have Q:∀a,lo=some a->ey a key:=Classical.byContradiction λh2=>by rw[E.2 h2]at c;cases c
  refine cd (λb w'=>(b=true↔¬∀a,hi=some a->bH key a)/\w1=w') (λr F=>⟨λh2=>?_,λh2=>?_⟩) ?_
  .rw[p.nil]at h2
   cases hi with
   |none=>cases h2
   |some a=>
    refine(ky u.1 p.2.1).use ?_;rintro _ _ ⟨rfl,rfl⟩;refine⟨_,rfl,F _ _ ⟨?_,rfl⟩⟩;rw[cQ];constructor
    .exact λh h2=>by
      have:eH key a<0:=h2 a rfl;omega
    .exact λh=>oX λh2=>h λb g=>by cases g;show eH key a<0;omega
  .rw[p.nil]at h2
   cases hi with
   |none=>exact F _ _ ⟨⟨λh=>(by cases h),λh=>absurd (λa e=>(by cases e)) h⟩,rfl⟩
   |some a=>cases h2
  .rintro ac _ ⟨G,rfl⟩
   exact j _ _ ⟨⟨λh y=>G.1 h y.2,λh=>G.2 λy=>h ⟨Q,y⟩⟩,rfl⟩
 .rintro ad _ ⟨H,rfl⟩
  have R:IntKind.wrap .i64 ((i:Int)+1)=((i+1:Nat):Int):=by rw[bx I I];omega
  refine⟨λc=>⟨false,rfl,⟨λh=>(by cases h),λh=>absurd (h key (by rw[x];exact cE _)) (H.1 c)⟩,f⟩,λc=>?_⟩;rw[R];refine⟨⟨i+1,rfl,I,λk d=>?_,rfl⟩,by show((n.keys.length:Int)-((i+1:Nat):Int)).toNat<((n.keys.length:Int)-(i:Int)).toNat;omega⟩;rw[iy m]at d;rcases cT.1 d with d|d
  .exact t k d
  .rw[fo.1 d,←x]
   exact Classical.byContradiction λh=>by rw[H.2 h]at c;cases c
theorem dG.each{W:Below}{lo hi:aq Key}{ks:O Key}{kids p:O Nat}{L:O aI}(h:dG W lo hi ks kids p L):
 ∃ (ps:O (O Nat)) (a:O (O aI)),ps.length=kids.length/\a.length=kids.length/\p=ps.flatten/\L=a.flatten/\
  ∀ (i:Nat) (h1:i<kids.length) (h2:i<ps.length) (b:i<a.length),W (if i=0 then lo else ks[i-1]?) (if i<ks.length then ks[i]? else hi) kids[i] ps[i] a[i]:=by
 induction h with
 | @one lo hi k p L h=>
  refine⟨[p],[L],rfl,rfl,by simp,by simp,λi h1 h2 b=>?_⟩;have:i=0:=by simpa using h1
  subst this;exact h
 | @cons lo hi s k bB bq bf bz ks kids h t c=>
  obtain⟨ps,a,av,ax,rfl,rfl,d⟩:=c;have e:=t.len;refine⟨bB::ps,bf::a,by simp[av],by simp[ax],by simp,by simp,λi h1 h2 b=>?_⟩
  cases i with
  |zero=>simpa using h
  |succ i=>
   have:=d i (by simpa using h1) (by simpa using h2) (by simpa using b);simp only[List.getElem_cons_succ,e8,Nat.add_lt_add_iff_right,we,Nat.add_one_ne_zero,if_false,Nat.add_sub_cancel]
   cases i with
   |zero=>simpa using this
   |succ i=>simpa using this
structure h7(w:J)(T:aN)(dU:Nat)(s:Y)(ps:O Nat)(k:Nat):Prop where
 t:bL w T
 v:Var w dU [.pointer (some T.aY),s,k] 303
 own:ba 1 3 w s (ef ps)
 qj:T.G dU
 gs:∀q,aB s q->T.G q/\q≠dU
section
variable {w w':J}{T ao:aN}{dU k:Nat}{s:Y}{ps:O Nat}
theorem h7.of{W:Nat->Prop}(h:h7 w T dU s ps k)(d:bL w' ao)(e:ao.aY=T.aY)(b:∀q,T.G q->ao.G q)(c:ad W w w')(cg:∀q,T.G q->¬W q):h7 w' ao dU s ps k:=
 ⟨d,by rw[e];exact h.v.ab c (cg _ h.qj),h.own.ab c λq a=>cg q (h.gs q a).1,b _ h.qj,λq a=>⟨b q (h.gs q a).1,(h.gs q a).2⟩⟩
theorem h7.ext(h:h7 w T dU s ps k)(hx:Ext w w'):h7 w' T dU s ps k:=h.of (h.t.ext hx) rfl (λ_ h=>h) hx λ_ _ h=>h
theorem h7.cells(h:h7 w T dU s ps k):w.cell? dU=some (.pointer (some T.aY))/\w.cell? (Addr.add dU 1)=some (.slice s.a s.len s.cap)/\w.cell? (Addr.add dU 2)=some (.int .i64 (k:Nat)):=by
 rw[aw,aw];exact⟨h.v.cell,h.v.cell,h.v.cell⟩
theorem HA(h:h7 w T dU s ps k)(no:Nat)(r:ps.length<=100000):
 ∃ (b:Y) (ah:J),Sem.run aj (Builtin.append_ #[58,58] 58 #[s,.slice (some w.heap.size) 1 1]) (w.alloc (.cells #[no] 3))=.ok b ah/\
  (∃u:aa,ah.cell? ⟨dU,1,none⟩=some u)/\ah.frozen? ⟨dU,1,none⟩=false/\
  ∀c,c=ah.setCell ⟨dU,1,none⟩ b->h7 c (T.ck T.E λq=>T.G q\/aB b q) dU b (ps++ [no]) k/\c4 T (T.ck T.E λq=>T.G q\/aB b q) w c 0:=by
 obtain⟨b,ah,av,ax,d,f,x⟩:=yg no h.own I;have cg:∀q,aB s q->T.G q:=λq a=>(h.gs q a).1;have y:=d.size;have j:=h.v.ab d λa=>(h.gs _ a).2 rfl;obtain⟨bE,bG⟩:=dP j (i:=1) (by simp);refine⟨b,ah,av,bE,bG,?_⟩;rintro _ rfl;have g:=dp ah dU 1 b;have o:=dT j (i:=1) b;have l:ad T.G w (ah.setCell ⟨dU,1,none⟩ b):=cy (d.mono λq _ a=>cg q a) g λq _ e=>by rw[e];exact h.qj
 have m:∀q,aB b q->T.G q\/(w.heap.size<=q/\q<(ah.setCell ⟨dU,1,none⟩ b).heap.size):=λq a=>by
  rcases f q a with h1|h1
  .exact .inl (cg q h1)
  .exact .inr ⟨h1,by have:=ba.lt ax q a;have:=g.size;omega⟩
 have n:∀q,aB b q->q≠dU:=λq a e=>by
  rcases f q a with h1|h1
  .exact(h.gs q h1).2 e
  .have:=h.v.lt;omega
 have p:=h.t.grow (E:=T.E) (G:=λq=>T.G q\/aB b q) l (λq a _=>.inr a) (λq a=>.inl a) (λq a=>by
  rcases a with a|a
  .exact .inr (.inl a)
  .exact .inr (m q a)) λq a hg=>by
  rcases hg with hg|hg
  .exact(h.t.c6 q a).2.2 hg
  .rcases f q hg with h1|h1
   .exact(h.t.c6 q a).2.2 (cg q h1)
   .have:=h.t.lt (q:=q) (.inr (.inr (.inr (.inl a))));omega
 refine⟨⟨p,o,ax.ab g λq a e=>n q a e,.inl h.qj,λq a=>⟨.inr a,n q a⟩⟩,?_,rfl,λ_ h=>.inl h,rfl,rfl,rfl,rfl,λ_=>rfl⟩;exact(bN.refl T w).step l (λq a _=>.inr (.inr (.inr a))) (λq a=>.inl a) λq a=>by
  rcases a with a|a
  .exact .inl a
  .exact(m q a).imp id λe=>e.1
theorem HB(h:h7 w T dU s ps k)(m:Nat):(∃u:aa,w.cell? (Addr.add dU 2)=some u)/\w.frozen? (Addr.add dU 2)=false/\
 h7 (w.setCell (Addr.add dU 2) m) T dU s ps m/\c4 T T w (w.setCell (Addr.add dU 2) m) 0:=by
 rw[aw];obtain⟨bE,bG⟩:=dP h.v (i:=2) (by simp);have b:=dp w dU 2 m;have hc:ad T.G w (w.setCell ⟨dU,2,none⟩ m):=b.mono λq _ e=>by rw[e];exact h.qj
 refine⟨bE,bG,⟨?_,dT h.v (i:=2) _,h.own.ab b λq a e=>(h.gs q a).2 e,h.qj,h.gs⟩,?_,rfl,λ_ h=>h,rfl,rfl,rfl,rfl,λ_=>rfl⟩
 .exact h.t.grow (E:=T.E) (G:=T.G) hc (λq a _=>.inr a) (λq a=>.inl a) (λq a=>.inr (.inl a)) λq a=>(h.t.c6 q a).2.2
 .exact(bN.refl T w).step (E:=T.E) (G:=T.G) hc (λq a _=>.inr (.inr (.inr a))) (λq a=>.inl a) λq a=>.inl a
end
theorem bN.aL{T ao:aN}{w w':J}{k:Nat}{t:Y}{o:aq Key}(h:bN T ao w w' k)(a:ir (λq=>¬T.M q) w t o):ir (λq=>¬ao.M q) w' t o:=by
 have h1:ir (λq=>q<w.heap.size/\¬T.M q) w t o:=a.aX λq b a=>⟨b,a⟩;exact(h1.ab h.ab λq b _ c=>b.2 (aN.gh c)).aX λq _ a=>(h.out a.1 a.2).1
theorem c4.bad{T ao:aN}{w w':J}{k x:Nat}(h:c4 T ao w w' k)(a:ke ao x):ke T x:=by
 obtain⟨h1,e,h2⟩:=a;exact⟨by rw[←h.to.n];exact h1,e,by rw[←h.view];exact h2⟩
theorem c4.HC{T ao:aN}{w w':J}{k x:Nat}(h:c4 T ao w w' k)(a:ke T x):ke ao x:=by
 obtain⟨h1,e,h2⟩:=a;exact⟨by rw[h.to.n];exact h1,e,by rw[h.view];exact h2⟩
theorem eo.Cu{P:Nat->aq aD}{h:Nat}{lo hi:aq Key}{no:Nat}{p:O Nat}{L:O aI}(d:eo P (h+1) lo hi no p L):∃ (n:aD) (a:O Nat),P no=some n/\n.leaf=decide (h=0)/\cH n/\p=no::a/\n.within lo hi/\
 ((h=0/\gS n/\a=[]/\L.length=n.keys.length)\/(ve n/\∃ (ps:O (O Nat)) (b:O (O aI)),ps.length=n.kids.length/\b.length=n.kids.length/\a=ps.flatten/\L=b.flatten/\
   ∀ (i:Nat) (h1:i<n.kids.length) (h2:i<ps.length) (c:i<b.length),eo P h (if i=0 then lo else n.keys[i-1]?) (if i<n.keys.length then n.keys[i]? else hi) n.kids[i] ps[i] b[i])):=by
 match h,d with
 |0,⟨n,h1,h2,c,g,e,f⟩=>
  refine⟨n,[],h1,h2.leaf,.inl h2,e,c,.inl ⟨rfl,h2,rfl,?_⟩⟩;rw[f];unfold aD.dN;rw[mI,h2.len,Nat.min_self]
 |h+1,⟨n,a,h1,h2,c,g,e⟩=>
  have f:=e.mono (V:=λlo hi k p L=>eo P (h+1) lo hi k p L) λ_ _ _ _ _ _ d=>d.1;exact⟨n,a,h1,by rw[h2.inner];simp,.inr h2,g,c,.inr ⟨h2,f.each⟩⟩
def HD(T:aN)(dU:Nat)(ps:O Nat)(keys:Nat)(gb:Nat->aq aD)(p:O Nat)(b:Nat)(w:J)(v:aa)(w':J):Prop:=
 ∃ao:aN,c4 T ao w w' (2*p.length)/\
  ((v=.int .i64 0/\(∃a,h7 w' ao dU a (ps++p) (keys+b))/\∀x∈p,T.P x=gb x)\/
   (∃e:Int,v=e/\e≠0/\(∃ (a:Y) (c:O Nat) (d:Nat),h7 w' ao dU a c d)/\((e=3/\¬T.C.D.calm (2*p.length))\/∃x∈p,ke T x)))
theorem r3{α:Type}{l:O (O α)}{i:Nat}(h:i<l.length):(l.take (i+1)).flatten=(l.take i).flatten++l[i]:=by
 rw[iy h,so];simp
theorem yz{α:Type}{l:O (O α)}{i:Nat}(h:i<l.length):l.flatten=(l.take i).flatten++(l[i]++(l.drop (i+1)).flatten):=by
 conv=>lhs;rw[←ib i l,jy h]
 rw[so,sr]
theorem Cv{α:Type}{l:O (O α)}{i:Nat}(h:i<l.length):(l.take i).flatten.length+l[i].length<=l.flatten.length:=by
 have:=congrArg List.length (yz h);rw[cz,cz]at this;omega
theorem HE(h:Nat):∀ {w:J}{T:aN}{dU keys:Nat}{s lM lN:Y}{ps p:O Nat}{gb:Nat->aq aD}{L:O aI}{lo hi:aq Key}{no:Nat},h7 w T dU s ps keys->h<=12->eo gb h lo hi no p L->(∀x∈p,T.f x=true/\x<T.n)->(∀x∈p,∀bn,gb x=some bn->T.P x=some bn\/ke T x)->(ps++p).Nodup->
   ir (λq=>¬T.M q) w lM lo->ir (λq=>¬T.M q) w lN hi->ps.length+p.length<=10000->keys+L.length<=100000->T.C.D.aR+2*p.length<=999999999->
   aQ aj 211 #[.pointer (some dU),no,h,lM,lN] w (HD T dU ps keys gb p L.length w):=by
 induction h with
 |zero=>intro w T dU keys s lM lN ps p gb L lo hi no _ _ ai;exact ai.elim
 |succ h bm=>
   intro w T dU keys s lM lN ps p gb L lo hi no al cv ai a1 a2 c7 a3 a4 bq cx br
   obtain⟨n,cy,am,bs,bt,rfl,bu,bv⟩:=ai.Cu
   have a5:=al.t
   have bw:=a2 no (by simp) n am
   have bz:=a1 no (by simp)
   simp only[e8]at bq br
   refine okF (af.uJ (some dU) (no:Nat) ((h+1:Nat):Int) lM lN) aA.uJ func211 ?_
   (delta af.uJ g0 ct U ak ag aM a_ st r1 au aL aC;dsimp only)
   rw[ye bs]
   refine⟨_,rfl,_,al.cells.1,(Co a5 I bw).use ?_⟩
   rintro _ S ⟨aE,W,a6,bA,an⟩
   have a7:h7 S (T.bk aE T.P) dU s ps keys:=al.of a6 rfl (λ_ h=>h) bA λq g bB=>bB.2 g
   rcases an with ⟨K,V,D,rfl,ao,bD⟩|⟨e,rfl,z,ap⟩
   rotate_left
   · refine⟨_,bg,bg,bg,e,rfl,bj (vs:=[false,(),(),()]) rfl λbH F ay bI=>⟨F.cc rfl (fI (b:=g_.leaf) (K:=bg) (V:=bg) (D:=bg)),rfl,cw F (us:=dY g_ bg bg bg) rfl rfl λbJ cA bK cC=>⟨λ_=>?_,λhx=>(by simp at hx;exact absurd hx z)⟩⟩⟩
     have a8:Ext S bJ:=Ext.cn ay bK (bp _)
     refine⟨_,(W.trans (c4.ext _ a8)).mono (by simp only[e8];omega),.inr ⟨e,rfl,z,⟨s,ps,keys,a7.ext a8⟩,?_⟩⟩
     rcases ap with ⟨rfl,bL⟩|bM
     · exact .inl ⟨rfl,λhc=>bL (fH hc (by simp only[e8];omega))⟩
     · exact .inr ⟨no,by simp,bM⟩
   have cD:=cH.eS bt (by have:=a5.nm _ _ ao;omega)
   refine⟨_,K,V,D,0,rfl,bj (vs:=[false,(),(),()]) rfl λbH F ay bI=>⟨F.cc rfl fI,rfl,cw F (us:=dY n K V D) rfl rfl λX Z bO cF=>⟨λhx=>(by cases hx),λ_=>?_⟩⟩⟩
   have u:Ext S X:=Ext.cn ay bO (bp _)
   obtain⟨nb,bP⟩:∃nb,nb=S.heap.size:=⟨_,rfl⟩
   rw[←bP]at Z⊢
   have a9:¬(T.bk aE T.P).M nb:=λo=>by have:=a6.lt o;omega
   have l:=a7.ext u
   have aa:bC (λq=>¬(T.bk aE T.P).M q) X n K V D:=(bD.ext u).aX λq _ c=>c.2
   have cI:=u.size
   have bQ:=bo.len aa.keys
   have cJ:=cL.len aa.kids
   obtain⟨d0,d1,d2,d3⟩:=bF Z
   have bR:no∉ps:=λo=>by
     rw[oS]at c7
     exact c7.2.2 no o no (by simp) rfl
   refine⟨_,rfl,s,l.cells.2.1,(Hz (B:=λ_=>True) ⟨l.own.src,l.own.2.1,λq g=>⟨trivial,l.own.lt q g⟩⟩ no I).use ?_⟩
   rintro _ _ ⟨rfl,rfl⟩
   refine⟨_,rfl,cd (λb w'=>b=false/\X=w') (λq g=>⟨λc=>absurd (b1 c) bR,λ_=>⟨_,rfl,_,l.cells.1,_,rfl,_,l.t.cells.2.1,(Gv l.t.s (no:Nat)).use ?_⟩⟩) ?_⟩
   · rintro _ _ ⟨rfl,rfl⟩
     refine⟨_,rfl,g _ _ ⟨?_,rfl⟩⟩
     have ba:(T.bk aE T.P).f=T.f:=rfl
     have bb:(T.bk aE T.P).n=T.n:=rfl
     rw[ba,bb,dc,bz.1]
     have:(0:Int)<=(no:Int)/\(no:Int)<(T.n:Int):=⟨I,I⟩
     simp[this.2]
   rintro _ _ ⟨rfl,rfl⟩
   have bS:=(W.to.trans (bN.ext _ u)).aL a3
   have bT:=(W.to.trans (bN.ext _ u)).aL a4
   refine cd (λb w'=>b=false/\Ext X w') (λq g=>⟨λc=>(by cases c),λ_=>⟨_,d0,K,d1,V,d2,D,d3,(pQ aa I bS bT).use ?_⟩⟩) ?_
   · rintro _ cK ⟨b,rfl,c,bU⟩
     exact⟨b,rfl,g _ _ ⟨by rw[c.2 bu];rfl,bU⟩⟩
   rintro _ cM ⟨rfl,H⟩
   refine⟨λc=>(by cases c),λ_=>?_⟩
   have bc:=l.ext H
   obtain⟨N,bd,av,ax,bV,bW⟩:=HA bc no I
   refine⟨_,rfl,s,bc.cells.2.1,aW ⟨N,bd,av,_,rfl,?_⟩⟩
   rw[aw,cB]
   refine⟨ax,bV,aW ?_⟩
   obtain⟨ac,r⟩:=bW _ rfl
   generalize cN:bd.setCell ⟨dU,1,none⟩ N=v at ac r⊢
   obtain⟨iZ,bX⟩:∃iZ,iZ=(T.bk aE T.P).ck (T.bk aE T.P).E λq=>(T.bk aE T.P).G q\/aB N q:=⟨_,rfl⟩
   rw[←bX]at ac r
   have az:c4 T iZ w v 2:=((W.trans (c4.ext _ (u.trans H))).trans r).mono I
   have cO:=Z.lt
   have cP:=H.size
   have aF:=(Z.ext H).ab r.to.ab λo=>a9 (aN.gh o)
   have bY:=r.to.out (q:=nb) I a9
   have bZ:=r.to.g_ (aa.ext H)
   have cQ:=r.to.ab.size
   have cR:=az.to.ab.size
   rcases bv with ⟨rfl,b0,rfl,b2⟩|⟨aG,d,aH,ba,bb,rfl,rfl,b3⟩
   ·
     have aJ:n.leaf=true:=b0.leaf
     refine⟨λ_=>aW ?_,λhx=>(by rw[aJ]at hx;cases hx)⟩
     have be:=ac.ext (cj v)
     have b4:=aF.ext (cj v)
     have b5:IntKind.wrap .i64 ((keys:Int)+(K.len:Int))=((keys+K.len:Nat):Int):=by rw[bx I I];omega
     obtain⟨bE,bG,b6,b7⟩:=HB be (keys+K.len)
     refine⟨_,rfl,id,_,be.cells.2.2,id,K,(bF b4).2.1,_,rfl,bE,bG,?_⟩
     rw[b5]
     refine aW ⟨iZ,((az.trans (c4.ext iZ (cj v))).trans b7).mono (by simp),.inl ⟨rfl,⟨N,?_⟩,λx hx=>?_⟩⟩
     · rw[b2,←bQ];exact b6
     · rw[fo.1 hx,ao,am]
   · have aJ:n.leaf=false:=aG.inner
     refine⟨λhx=>(by rw[aJ]at hx;cases hx),λ_=>?_⟩
     have cS:=aG.len
     refine⟨D,(bF aF).2.2.2,λaO w'=>∃ (i:Nat) (gH:aN) (aP:Y),aO=(i:Int)/\i<=n.kids.length/\h7 w' gH dU aP (ps++no::(d.take i).flatten) (keys+(aH.take i).flatten.length)/\c4 T gH w w' (2+2*(d.take i).flatten.length)/\c4 iZ gH v w' (2*(d.take i).flatten.length)/\∀x∈(d.take i).flatten,T.P x=gb x,
       λaO _=>((n.kids.length:Int)-aO).toNat,⟨0,iZ,N,rfl,cG _,by simpa using ac,by simpa using az,by simpa using c4.refl iZ v,by simp⟩,?_⟩
     rintro _ y ⟨i,gH,aP,rfl,cV,ad,k,aS,aT⟩
     refine⟨λaK=>?_,λb8=>?_⟩
     rotate_left
     · have aU:i=n.kids.length:=by
         have:¬(i:Int)<(D.len:Int):=cu b8
         omega
       rw[dM I]at ad k aT
       rw[dM I]at ad
       refine⟨gH,k.mono (by simp only[e8];omega),.inl ⟨rfl,⟨aP,ad⟩,λx hx=>?_⟩⟩
       rcases cU.1 hx with rfl|hx
       · rw[ao,am]
       · exact aT x hx
     have aU:i<n.kids.length:=by
       have:(i:Int)<(D.len:Int):=b1 aK
       omega
     have m:i<d.length:=by omega
     have aV:i<aH.length:=by omega
     have bf:=aS.to.g_ bZ
     have aZ:=aF.ab aS.to.ab λo=>bY.1 (aN.gh o)
     have b9:=k.to.aL a3
     have b_:=k.to.aL a4
     obtain⟨A,ar,ca,cb⟩:=cL.at bf.kids aU
     have cW:=Cv m
     have cX:=Cv aV
     have bh:∀ (j:Nat) (ah:j<n.keys.length),∃ (a:ae) (t:Y),K.a=some a/\((0:Int)<=(j:Int)/\(j:Int)<(K.len:Int))/\y.cell? (a.add (Int.toNat (j:Int)*1))=some (.slice t.a t.len t.cap)/\ir (λq=>¬gH.M q) y t n.keys[j]? :=λj ah=>by
       obtain⟨a,t,h1,h2,Q,R,_⟩:=bo.at bf.keys ah
       refine⟨a,t,h1,h2,Q,?_⟩
       rw[dE ah]
       refine⟨λe=>?_,R⟩
       have:=(aG.ok _ (cE ah)).1
       rw[e]at this;simp at this
     refine⟨A,ar,ca,_,cb,cd (λt w'=>ir (λq=>¬gH.M q) y t (if i=0 then lo else n.keys[i-1]?)/\y=w') (λq g=>⟨λc=>?_,λc=>?_⟩) ?_⟩
     · have c:0<i:=by
         have:(i:Int)>0:=b1 c
         omega
       have ce:IntKind.wrap .i64 ((i:Int)-1)=((i-1:Nat):Int):=by rw[bx I I];omega
       obtain⟨a,t,h1,h2,Q,R⟩:=bh (i-1) I
       rw[ce]
       refine⟨K,(bF aZ).2.1,a,h1,h2,t,Q,g _ _ ⟨?_,rfl⟩⟩
       rw[if_neg I];exact R
     · have c:i=0:=by
         have:¬(i:Int)>0:=cu c
         omega
       refine g _ _ ⟨?_,rfl⟩
       rw[if_pos c];exact b9
     rintro cY _ ⟨cf,rfl⟩
     refine cd (λt w'=>ir (λq=>¬gH.M q) y t (if i<n.keys.length then n.keys[i]? else hi)/\y=w') (λq g=>⟨K,(bF aZ).2.1,λc=>?_,λc=>?_⟩) ?_
     · have c:i<n.keys.length:=by
         have:(i:Int)<(K.len:Int):=b1 c
         omega
       obtain⟨a,t,h1,h2,Q,R⟩:=bh i c
       refine⟨K,(bF aZ).2.1,a,h1,h2,t,Q,g _ _ ⟨?_,rfl⟩⟩
       rw[if_pos c];exact R
     · have c:¬i<n.keys.length:=by
         have:¬(i:Int)<(K.len:Int):=cu c
         omega
       refine g _ _ ⟨?_,rfl⟩
       rw[if_neg c];exact b_
     rintro aY _ ⟨cg,rfl⟩
     have ch:IntKind.wrap .i64 (((h+1:Nat):Int)-1)=(h:Int):=by rw[bx I I];omega
     have ci:IntKind.wrap .i64 ((i:Int)+1)=((i+1:Nat):Int):=by rw[bx I I];omega
     have cl:gH.n=T.n:=k.to.n
     have cZ:=k.to.aR
     have a0:∀x∈d[i],x∈no::d.flatten:=λx hx=>by
       rw[yz m]
       exact jR _ (ic _ (jz _ hx))
     have cm:=bm (p:=d[i]) (gb:=gb) (L:=aH[i]) (no:=n.kids[i]) ad I (b3 i aU m aV) (λx hx=>by rw[k.f,cl];exact a1 x (a0 x hx)) (λx hx bn h1=>by
       rw[k.P]
       exact(a2 x (a0 x hx) bn h1).imp id k.HC) (by
       rw[yz m]at c7
       have e:ps++no::((d.take i).flatten++(d[i]++(d.drop (i+1)).flatten))=((ps++no::(d.take i).flatten)++d[i])++(d.drop (i+1)).flatten:=by simp
       rw[e]at c7
       exact(oS.1 c7).1) cf cg (by simp only[cz,e8];omega) I I
     rw[ch,ci]
     refine cm.use ?_
     rintro _ co ⟨gI,bi,an⟩
     have bl:c4 T gI w co (2+2*((d.take i).flatten.length+d[i].length)):=(k.trans bi).mono I
     rcases an with ⟨rfl,⟨cp,cq⟩,cr⟩|⟨e,rfl,z,cs,ap⟩
     · refine⟨0,rfl,λhx=>(by cases hx),λ_=>⟨⟨i+1,gI,cp,rfl,I,?_,?_,?_,?_⟩,?_⟩⟩
       · rw[r3 m,r3 aV,cz,←Nat.add_assoc]
         have e:ps++no::((d.take i).flatten++d[i])=(ps++no::(d.take i).flatten)++d[i]:=by simp
         rw[e];exact cq
       · rw[r3 m,cz];exact bl
       · rw[r3 m,cz];exact(aS.trans bi).mono I
       · intro x hx
         rw[r3 m]at hx
         rcases cT.1 hx with hx|hx
         · exact aT x hx
         · rw[←k.P];exact cr x hx
       · show((n.kids.length:Int)-((i+1:Nat):Int)).toNat<((n.kids.length:Int)-(i:Int)).toNat
         omega
     · refine⟨e,rfl,λ_=>⟨gI,bl.mono (by simp only[e8];omega),.inr ⟨e,rfl,z,cs,?_⟩⟩,λhx=>(by simp at hx;exact absurd hx z)⟩
       rcases ap with ⟨h1,h2⟩|⟨x,hx,c⟩
       · exact .inl ⟨h1,λhc=>h2 (k.to.calm _ (fH hc (by simp only[e8];omega)))⟩
       · exact .inr ⟨x,a0 x hx,k.bad c⟩
def HF(T:aN)(gb:Nat->aq aD)(pages:O Nat)(c:Nat)(w:J)(v:aa)(w':J):Prop:=
 ∃ao:aN,bL w' ao/\c4 T ao w w' (2*pages.length)/\ao.G=T.G/\
  ((∃ (s:Y) (es:O Nat),v=.tuple #[s,c,(0:Int)]/\ba 1 3 w' s (ef es)/\es.Perm pages/\(es.Pairwise λa b=>a<=b)/\(∀q,aB s q->(T.N q\/w.heap.size<=q)/\¬ao.M q)/\(∀x∈pages,T.P x=gb x)/\bL w' (ao.ck T.E λq=>T.G q\/aB s q))\/
   (∃e:Int,v=.tuple #[(),(0:Int),e]/\e≠0/\((e=3/\¬T.C.D.calm (2*pages.length))\/∃x∈pages,ke T x)))
theorem HG{w:J}{T:aN}{gb:Nat->aq aD}{pages:O Nat}{L:O aI}(h:bL w T)(ae:gj (T.bk T.C gb) pages L)(ax:∀x∈pages,T.f x=true/\x<T.n)(ay:∀x∈pages,∀bn,gb x=some bn->T.P x=some bn\/ke T x)(c7:pages.Nodup)(a4:L.length<=9000)(a5:pages.length<=9000)(az:T.C.D.aR+2*pages.length<=999999999):
 aQ aj 152 #[.pointer (some T.aY)] w (HF T gb pages L.length w):=by
 have aE:=h.num.2.1;refine okF (af.ux (some T.aY)) aA.ux func152 ?_;(delta af.ux ak r1 aC U ag aU;dsimp only);refine⟨λh=>(by cases h),λ_=>bj (vs:=[.pointer (some T.aY),(),(0:Int)]) rfl λw1 R ah a6=>?_⟩;obtain⟨dU,aF⟩:∃dU,dU=w.heap.size:=⟨_,rfl⟩;rw[←aF]at R⊢;obtain⟨bd,ai⟩:∃bd,bd=λq=>T.E q\/T.G q:=⟨_,rfl⟩;have A:∀q,T.E q\/T.G q->bd q:=λq a=>by rw[ai];exact a
 have S:∀q,bd q->T.E q\/T.G q:=λq a=>by rw[ai]at a;exact a
 have a7:=R.lt;have h1:bL w1 (T.ck bd λq=>q=dU):=h.grow (W:=λ_=>False) ah (λ_ h=>h.elim) (λq a=>(S q a).imp id .inl) (λq e=>.inr (.inr ⟨I,I⟩)) λq a e=>by
  rcases S q a with h2|h2
  .have:=h.lt (q:=q) (.inr (.inr (.inr (.inl h2))));omega
  .have:=h.lt (q:=q) (.inr (.inr (.inr (.inr h2))));omega
 obtain⟨bO,k⟩:∃bO,bO=T.ck bd λq=>q=dU:=⟨_,rfl⟩;rw[←k]at h1;have V:bO.aY=T.aY:=by rw[k];rfl
 have al:bO.E=bd:=by rw[k];rfl
 have K:bO.C=T.C:=by rw[k];rfl
 have X:bO.P=T.P:=by rw[k];rfl
 have am:h7 w1 bO dU ⟨none,0,0⟩ [] 0:=⟨h1,by rw[V];exact R,ba.none _ _ _,by rw[k];rfl,λq a=>(fZ q a).elim⟩;have i:bN T bO w w1 0:=by
  rw[k];exact(bN.refl T w).step (W:=λ_=>False) ah (λ_ h=>h.elim) (λq a=>(S q a).imp id .inl) λq e=>.inr I
 have fin:∀ (w':J) (ao:aN),bL w' ao->c4 bO ao w1 w' (2*pages.length)->bL w' (ao.ck T.E T.G)/\c4 T (ao.ck T.E T.G) w w' (2*pages.length):=λw' ao aG b=>by
  have u:ao.E=bd:=b.E.trans al;refine⟨aG.grow (E:=T.E) (G:=T.G) (W:=λ_=>False) (ad.refl _ _) (λ_ h=>h.elim) (λq a=>.inl (by rw[u];exact A q (.inl a))) (λq a=>.inl (by rw[u];exact A q (.inr a))) λq a=>(h.c6 q a).2.2,?_,rfl,λ_ h=>h,?_,?_,?_,?_,λj=>?_⟩
  .refine⟨b.to.aY.trans i.aY,b.to.sb.trans i.sb,b.to.n.trans i.n,b.to.g.trans i.g,b.to.s1.trans i.s1,b.to.s2.trans i.s2,b.to.c.trans i.c,b.to.d.trans i.d,b.to.bh.trans i.bh,b.to.gen.trans i.gen,by have:=b.to.aR;rw[K]at this;exact this,λm o=>b.to.calm m (by rw[K];exact o),?_,λq a=>?_,λq a=>?_⟩
   .exact(cy i.ab b.to.ab λq a aJ=>by
     rcases i.fn q aJ with h2|h2
     .exact h2
     .omega)
   .rcases a with a|a|a|a|a
    .exact((i.trans b.to).c5 q (.inl a))
    .exact((i.trans b.to).c5 q (.inr (.inl a)))
    .exact((i.trans b.to).c5 q (.inr (.inr (.inl a))))
    .exact .inl (.inr (.inr (.inr (.inl a))))
    .exact .inl (.inr (.inr (.inr (.inr a))))
   .rcases a with a|a|a|a
    .exact((i.trans b.to).fn q (.inl a))
    .exact((i.trans b.to).fn q (.inr (.inl a)))
    .exact((i.trans b.to).fn q (.inr (.inr (.inl a))))
    .exact .inl (.inr (.inr (.inr a)))
  .show ao.root=T.root;rw[b.root,k];rfl
  .show ao.aH=T.aH;rw[b.aH,k];rfl
  .show ao.f=T.f;rw[b.f,k];rfl
  .show ao.P=T.P;rw[b.P,X]
  .show ao.C.view j=T.C.view j;rw[b.view,K]
 refine ij (λM=>∃ (ao:aN) (s:Y) (ps:O Nat),h7 M ao dU s ps L.length/\ps=pages/\c4 bO ao w1 M (2*pages.length)/\∀x∈pages,T.P x=gb x) (λq a=>⟨_,rfl,_,by have:=h1.cells.2.2.2.2;rw[V]at this;exact this,λy=>aW ?_,λy=>?_⟩) ?_
 .have B:=am.ext (cj w1)
  have an:bO.aH=T.aH:=by rw[k];rfl
  have aK:bO.root=T.root:=by rw[k];rfl
  have y:T.aH≠0:=by
   rw[an]at y;have:(T.aH:Int)>0:=b1 y;omega
  have F:eo gb T.aH none none T.root pages L:=by
   rcases ae with ⟨aL,_⟩|F
   .exact absurd aL y
   .exact F
  have du:=B.t.cells.2.2.2.1;have bc:=B.t.cells.2.2.2.2;rw[V]at du bc;rw[an]at bc;rw[aK]at du;have aM:=HE T.aH (lM:=bg) (lN:=bg) (gb:=gb) (L:=L) (p:=pages) (lo:=none) (hi:=none) (no:=T.root) B aE F (λx hx=>by rw[k];exact ax x hx) (λx hx bn h2=>by
   rw[X];refine(ay x hx bn h2).imp id λH=>?_;rw[k];exact H) (by simpa using c7) rfl rfl (by simp only[jD];omega) I (by rw[K];exact az)
  refine⟨_,rfl,id,_,du,_,rfl,id,_,bc,aM.use ?_⟩;rintro _ ap ⟨ao,Z,aO⟩;have ar:c4 bO ao w1 ap (2*pages.length):=((c4.ext bO (cj w1)).trans Z).mono I;rcases aO with ⟨rfl,⟨s,r⟩,aa⟩|⟨e,rfl,au,⟨s,a8,a9,r⟩,aP⟩
  .refine⟨0,rfl,λhx=>(by cases hx),λ_=>a _ ⟨ao,s,pages,?_,rfl,ar,λx hx=>by rw[←X];exact aa x hx⟩⟩
   rw[iT,cB]at r;exact r
  .obtain⟨f1,f2⟩:=fin ap ao r.t ar
   refine⟨e,rfl,λ_=>⟨_,f1,f2,rfl,.inr ⟨e,rfl,au,?_⟩⟩,λhx=>(by simp at hx;exact absurd hx au)⟩;rcases aP with ⟨h2,H⟩|⟨x,hx,H⟩
   .exact .inl ⟨h2,by rw[←K];exact H⟩
   .refine .inr ⟨x,hx,?_⟩
    rw[k]at H;exact H
 .have y:T.aH=0:=by
   have:¬(bO.aH:Int)>0:=cu y;rw[k]at this;have:¬(T.aH:Int)>0:=this;omega
  rcases ae with ⟨_,_,aS,aT⟩|F
  .subst aS aT
   exact a _ ⟨bO,⟨none,0,0⟩,[],am,rfl,c4.refl _ _,λx hx=>(by cases hx)⟩
  .have e:(T.bk T.C gb).aH=T.aH:=rfl
   rw[e,y]at F;exact F.elim
 rintro M ⟨ao,s,ps,r,aV,Z,aa⟩;rw[aV]at r;refine⟨_,rfl,s,r.cells.2.1,(Ct r.own I).use ?_⟩;rintro _ N ⟨rfl,ac,es,aX,aZ,a0⟩;have cg:∀q,aB s q->ao.G q:=λq a=>(r.gs q a).1;have a1:=r.v.ab ac λa=>(r.gs _ a).2 rfl;have z:bL N ao:=by
  have:=r.t.grow (E:=ao.E) (G:=ao.G) ac (λq a _=>.inr (cg q a)) (λq a=>.inl a) (λq a=>.inr (.inl a)) λq a=>(r.t.c6 q a).2.2;exact this
 have a2:c4 ao ao M N 0:=⟨(bN.refl ao M).step (E:=ao.E) (G:=ao.G) ac (λq a _=>.inr (.inr (.inr (cg q a)))) (λq a=>.inl a) λq a=>.inl a,rfl,λ_ h=>h,rfl,rfl,rfl,rfl,λ_=>rfl⟩;have Q:=cj N;have b:=((Z.trans a2).trans (c4.ext ao Q)).mono (l:=2*pages.length) I;obtain⟨f1,f2⟩:=fin N.drew ao (z.ext Q) b;have B:=a1.ext Q;have u:ao.E=bd:=b.E.trans al;have a3:bL N.drew (ao.ck T.E λq=>T.G q\/aB s q):=(z.ext Q).grow (E:=T.E) (G:=λq=>T.G q\/aB s q) (W:=λ_=>False) (ad.refl _ _) (λ_ h=>h.elim) (λq a=>.inl (by rw[u];exact A q (.inl a))) (λq a=>a.elim (λa=>.inl (by rw[u];exact A q (.inr a))) λa=>.inr (.inl (cg q a))) λq a hg=>by
  rcases hg with hg|hg
  .exact(h.c6 q a).2.2 hg
  .exact(z.c6 q (by rw[u];exact A q (.inl a))).2.2 (cg q hg)
 refine⟨rfl,aW ⟨_,rfl,id,s,by rw[aw];exact B.cell,_,rfl,id,_,by rw[aw];exact B.cell,_,f1,f2,rfl,.inl ⟨s,es,rfl,aX.ext Q,aZ,a0,λq a=>⟨?_,λo=>?_⟩,aa,a3⟩⟩⟩
 .exact(i.trans b.to).fn q (.inr (.inr (.inr (cg q a))))
 .have av:=cg q a
  rcases o with o|o|o|o|o
  .exact z.rW av o
  .exact(z.hD q av).1 o
  .exact(z.hD q av).2 o
  .exact(z.c6 q (by rw[u];exact A q (.inl o))).2.2 av
  .exact(z.c6 q (by rw[u];exact A q (.inr o))).2.2 av
variable {w w':J}
theorem Src.cut{sz:Nat}{s:Y}{vs:O aa}{lo hi:Nat}(h:Src sz w s vs)(hc:s.len<=s.cap)(h1:lo<=hi)(h2:hi<=s.len):
 Src sz w ⟨aO s.a sz lo s.cap,hi-lo,s.cap-lo⟩ ((vs.drop (lo*sz)).take ((hi-lo)*sz)):=by
 have f:=h.len;have g:hi*sz<=s.len*sz:=mF _ h2;have i:lo*sz+(hi-lo)*sz=hi*sz:=by rw[←kP,Nat.add_sub_cancel' h1]
 refine⟨by simp;omega,λc=>?_,λa b=>?_⟩
 .have d:s.a=none:=by
   unfold aO at c;split at c
   .exact c
   .simpa using c
  simp[h.nil d]
 .show cD w a 0 ((hi-lo)*sz)=_
  by_cases e:hi=lo
  .rw[show hi-lo=0 from I];simp[cD]
  .have ar:∃A,s.a=some A/\a=A.add (lo*sz):=by
    unfold aO at b;rw[if_neg I]at b
    cases hs:s.a with
    |none=>rw[hs]at b;cases b
    |some A=>rw[hs]at b;exact⟨A,rfl,by simpa using b.symm⟩
   obtain⟨A,ar,rfl⟩:=ar;exact Ak (h.rd A ar) I
theorem Cw{s:Y}{sz n:Nat}{q:Nat}:aB ⟨aO s.a sz 0 s.cap,n-0,s.cap-0⟩ q↔aB s q:=by
 rw[w2];exact Iff.rfl
section
variable {P:Program}{cM e cK:TypeId}{sz bytes:Nat}
structure gp(sz:Nat)(e:TypeId)(w0 w:J)(s:Y)(l:O aa):Prop where
 o:ba sz e w s l
 x:Ext w0 w
 f:∀q,aB s q->w0.heap.size<=q
theorem Ext.new{a:Nat->Prop}{w0 w1 ah:J}(hx:Ext w0 w1)(h:ad a w1 ah)(cg:∀q,a q->w0.heap.size<=q):Ext w0 ah/\ad (λq=>w0.heap.size<=q) w1 ah:=
 ⟨Ext.dy hx h cg,h.mono λq _ b=>cg q b⟩
theorem gp.app(h:hM P cM e sz bytes){w0 w1:J}{s x:Y}{l xs:O aa}(hs:gp sz e w0 w1 s l)(hx:Src sz w1 x xs)(d:∀v∈xs,Plain v)(g:(2*(s.len+x.len)+1000)*bytes<=281474976710656):
 ∃ (a:Y) (ah:J),Sem.run P (Builtin.append_ #[cM,cM] cK #[s,x]) w1=.ok a ah/\ad (λq=>w0.heap.size<=q) w1 ah/\gp sz e w0 ah a (l++xs)/\
  a.len=s.len+x.len/\ad (aB s) w1 ah/\∀q,aB a q->aB s q\/w1.heap.size<=q:=by
 obtain⟨a,ah,av,ax,i,b,c⟩:=h.append (cK:=cK) hx hs.o d g;obtain⟨bE,bG⟩:=Ext.new hs.x b hs.f;exact⟨a,ah,av,bG,⟨ax,bE,λq j=>(c q j).elim (hs.f q) λh=>eD hs.x.size h⟩,i,b,c⟩
theorem size_le{a b c:Nat}(h:(2*b+1000)*c<=281474976710656)(d:a<=b):(2*a+1000)*c<=281474976710656:=eD (mF _ I) h
theorem Cx(h:hM P cM e sz bytes){x u L:O aa}{s1 s2:Y}{w0:J}
 (U:∀w:J,Sem.run P (Instr.buildSlice cM 0 #[]) w=.ok (.slice (some w.heap.size) 0 0) (w.alloc (.cells #[] e)))
 (cf:∀w:J,Sem.run P (Instr.buildSlice cM 1 #[(0,.agg x.toArray)]) w=.ok (.slice (some w.heap.size) 1 1) (w.alloc (.cells x.toArray e)))
 (hx:x.length=sz) (h1:Src sz w0 s1 u) (h2:Src sz w0 s2 L) (aG:∀v∈x,Plain v) (bB:∀v∈u,Plain v) (bq:∀v∈L,Plain v)
 (y:(2*(s1.len+s2.len+1)+1000)*bytes<=281474976710656) {K:Y->J->Prop} (am:∀V w',gp sz e w0 w' V (u++x++L)->K V w'):
 (∃M:Y,∃p:J,Sem.run P (Instr.buildSlice cM 0 #[]) w0=.ok M p/\ad (λq=>w0.heap.size<=q) w0 p/\(
   (∃d:Y,∃g:J,Sem.run P (Builtin.append_ #[cM,cM] cK #[M,s1]) p=.ok d g/\ad (λq=>w0.heap.size<=q) p g/\
     ∃m:Y,∃A:J,Sem.run P (Instr.buildSlice cM 1 #[(0,.agg x.toArray)]) g=.ok m A/\ad (λq=>w0.heap.size<=q) g A/\
     ∃i:Y,∃c:J,Sem.run P (Builtin.append_ #[cM,cM] cK #[d,m]) A=.ok i c/\ad (λq=>w0.heap.size<=q) A c/\
     ∃n:Y,∃k:J,Sem.run P (Builtin.append_ #[cM,cM] cK #[i,s2]) c=.ok n k/\ad (λq=>w0.heap.size<=q) c k/\K n k)/\
   (∃W:Y,∃B:J,Sem.run P (Instr.buildSlice cM 1 #[(0,.agg x.toArray)]) p=.ok W B/\ad (λq=>w0.heap.size<=q) p B/\
     ∃X:Y,∃C:J,Sem.run P (Builtin.append_ #[cM,cM] cK #[M,s1]) B=.ok X C/\ad (λq=>w0.heap.size<=q) B C/\
     ∃Z:Y,∃D:J,Sem.run P (Builtin.append_ #[cM,cM] cK #[X,W]) C=.ok Z D/\ad (λq=>w0.heap.size<=q) C D/\
     ∃ac:Y,∃N:J,Sem.run P (Builtin.append_ #[cM,cM] cK #[Z,s2]) D=.ok ac N/\ad (λq=>w0.heap.size<=q) D N/\K ac N)))/\
 (∃ae:Y,∃E:J,Sem.run P (Instr.buildSlice cM 1 #[(0,.agg x.toArray)]) w0=.ok ae E/\ad (λq=>w0.heap.size<=q) w0 E/\
   ∃af:Y,∃F:J,Sem.run P (Instr.buildSlice cM 0 #[]) E=.ok af F/\ad (λq=>w0.heap.size<=q) E F/\
   ∃ag:Y,∃G:J,Sem.run P (Builtin.append_ #[cM,cM] cK #[af,s1]) F=.ok ag G/\ad (λq=>w0.heap.size<=q) F G/\
   ∃ai:Y,∃H:J,Sem.run P (Builtin.append_ #[cM,cM] cK #[ag,ae]) G=.ok ai H/\ad (λq=>w0.heap.size<=q) G H/\
   ∃aj:Y,∃Q:J,Sem.run P (Builtin.append_ #[cM,cM] cK #[ai,s2]) H=.ok aj Q/\ad (λq=>w0.heap.size<=q) H Q/\K aj Q):=by
 have kv:∀ (w:J) (o:Obj),Ext w (w.alloc o):=λw o=>ad.alloc (.refl _ _) o;have dC:∀w:J,Ext w0 w->gp sz e w0 (w.alloc (.cells #[] e)) ⟨some w.heap.size,0,0⟩ []:=λw ak=>
  ⟨ba.new (T:=e) w [] 0 (by simp) (by decide),Ext.trans ak (kv w _),λq l=>by rw[kt]at l;have:=ak.size;simp at l;omega⟩
 have R:∀w:J,Src sz (w.alloc (.cells x.toArray e)) ⟨some w.heap.size,1,1⟩ x:=λw=>Src.new w x 1 (by simpa using hx);have mx:∀ {w ah:J},Ext w ah->ad (λq=>w0.heap.size<=q) w ah:=λh=>ad.cF h;have an:∀ {s:Y}{a b:J},gp sz e w0 a s []->Ext a b->gp sz e w0 b s []:=λh hx=>⟨h.o.ext hx,Ext.trans h.x hx,h.f⟩
 have tail:∀ {w1 ah:J}{d m:Y},gp sz e w0 w1 d u->d.len=s1.len->Ext w1 ah->Src sz ah m x->m.len=1->
  ∃i:Y,∃c:J,Sem.run P (Builtin.append_ #[cM,cM] cK #[d,m]) ah=.ok i c/\ad (λq=>w0.heap.size<=q) ah c/\
   ∃n:Y,∃k:J,Sem.run P (Builtin.append_ #[cM,cM] cK #[i,s2]) c=.ok n k/\ad (λq=>w0.heap.size<=q) c k/\K n k:=by
  intro w1 ah d m hf ar al ao au;have ap:gp sz e w0 ah d u:=⟨hf.o.ext al,Ext.trans hf.x al,hf.f⟩;obtain⟨i,c,av,ax,j,t,_,_⟩:=gp.app (cK:=cK) h ap ao aG (size_le y I);obtain⟨n,k,bE,bG,aq,_,_,_⟩:=gp.app (cK:=cK) h j (h2.ext j.x) bq (size_le y I);exact⟨i,c,av,ax,n,k,bE,bG,am _ _ aq⟩
 refine⟨⟨⟨some w0.heap.size,0,0⟩,_,U w0,mx (kv _ _),?_,?_⟩,?_⟩
 .have f0:=dC w0 (.refl _ _)
  obtain⟨d,g,av,ax,j,t,_,_⟩:=gp.app (cK:=cK) h f0 (h1.ext f0.x) bB (size_le y (by simp;omega));rw[iT]at j;obtain⟨i,c,r⟩:=tail j (by simpa using t) (kv g (.cells x.toArray e)) (R g) rfl;exact⟨d,g,av,ax,⟨some g.heap.size,1,1⟩,_,cf g,mx (kv _ _),i,c,r⟩
 .have f0:=an (dC w0 (.refl _ _)) (kv _ (.cells x.toArray e))
  obtain⟨d,g,av,ax,j,t,S,_⟩:=gp.app (cK:=cK) h f0 (h1.ext f0.x) bB (size_le y (by simp;omega));rw[iT]at j;have hs:=(R (w0.alloc (.cells #[] e))).ab S λq l z=>by
   rw[kt]at l z;simp at l z;omega
  obtain⟨i,c,r⟩:=tail j (by simpa using t) (.refl _ _) hs rfl;exact⟨⟨some ⟨(w0.alloc (.cells #[] e)).heap.size,0,none⟩,1,1⟩,_,cf _,mx (kv _ _),d,g,av,ax,i,c,r⟩
 .have f0:=dC (w0.alloc (.cells x.toArray e)) (kv _ _)
  obtain⟨d,g,av,ax,j,t,S,_⟩:=gp.app (cK:=cK) h f0 (h1.ext f0.x) bB (size_le y (by simp;omega));rw[iT]at j;have hs:=((R w0).alloc (.cells #[] e)).ab S λq l z=>by
   rw[kt]at l z;simp at l z;omega
  obtain⟨i,c,r⟩:=tail j (by simpa using t) (.refl _ _) hs rfl;exact⟨⟨some w0.heap.size,1,1⟩,_,cf _,mx (kv _ _),⟨some ⟨(w0.alloc (.cells x.toArray e)).heap.size,0,none⟩,0,0⟩,_,U _,mx (kv _ _),d,g,av,ax,i,c,r⟩
end
structure qk(L:O aI)(k:Key)(i:Nat):Prop where
 le:i<=L.length
 lo:∀p∈L.take i,bH p.1 k
 hi:∀p,L[i]? =some p->¬bH p.1 k
def iu(L:O aI)(k:Key)(i:Nat):ai:=decide ((L[i]?).map Prod.fst=some k)
theorem qk.yA{L:O aI}{k:Key}{i:Nat}(h:qk L k i)(n:gJ L)(v:Key):
 e4 L k v=L.take i++(k,v)::L.drop (if iu L k i then i+1 else i)/\ed L k=L.take i++L.drop (if iu L k i then i+1 else i)/\eB L k=if iu L k i then (L[i]?).map Prod.snd else none:=by
 obtain⟨s,d,l⟩:=h;unfold iu;obtain⟨A,ar⟩:∃A,A=L.take i:=⟨_,rfl⟩;obtain⟨B,hB⟩:∃B,B=L.drop i:=⟨_,rfl⟩;have e:L=A++B:=by rw[ar,hB,ib]
 have D:A.length=i:=by rw[ar,cC,jj s]
 have hg:L[i]? =B[0]? :=by rw[hB,sh,kN]
 have hd:∀j,L.drop (i+j)=B.drop j:=λj=>by rw[hB,qB]
 have o:=hd 0;rw[kN]at o;have t:∀c:ai,L.drop (if c then i+1 else i)=B.drop (if c then 1 else 0):=λc=>by cases c<;>simp[hd,o]
 rw[t,←ar,hg];rw[←ar]at d;rw[hg]at l;rw[e]at n;obtain⟨E,r,F⟩:=pV.1 n;have u:∀v,e4 L k v=A++e4 B k v:=λv=>by rw[e];exact AB d
 have w:ed L k=A++ed B k:=by
  rw[e,pU,og λp m=>kz (d p m)]
 have x:A.find? (λp=>decide (p.1=k))=none:=jk.2 λp m=>by simpa using kz (d p m)
 have y:eB L k=eB B k:=by
  unfold eB;rw[e,List.find?_append,x];rfl
 rw[u,w,y]
 cases z:B with
 |nil=>simp[e4,ed,eB]
 |cons p f=>
  rw[z]at l r;obtain⟨av,ax⟩:=jA.1 r;have C:ey k p.1:=l p rfl;by_cases he:p.1=k
  .have b:∀q∈f,bH k q.1:=λq a=>by rw[←he];exact av q a
   have g:∀q∈f,q.1≠k:=λq a=>(kz (b q a)).symm;simp only[lg,lh,he,decide_true,if_true,List.drop_succ_cons,ln];refine⟨?_,?_,?_⟩
   .unfold e4
    rw[lT.2 (λq a=>?_),List.filter_cons_of_neg (by simpa[he] using mb k),jT.2 λq a=>dK (b q a),iT];rcases cU.1 a with rfl|a
    .simpa[he] using mb k
    .simpa using j2 (b q a)
   .unfold ed
    rw[List.filter_cons_of_neg (by simp[he]),jT.2 λq a=>dK (g q a)]
   .unfold eB
    rw[List.find?_cons_of_pos (by simp[he])];rfl
  .have aK:bH k p.1:=by
    rcases vc p.1 k with h|h|h
    .exact absurd h C
    .exact absurd h he
    .exact h
   have b:∀q∈p::f,bH k q.1:=λq a=>by
    rcases cU.1 a with rfl|a
    .exact aK
    .exact lC aK (av q a)
   have g:∀q∈p::f,q.1≠k:=λq a=>(kz (b q a)).symm;have hf:¬some p.1=some k:=λh=>he (Option.some.inj h);simp only[lg,lh,hf,decide_false,fN,if_false,ln];refine⟨?_,?_,?_⟩
   .unfold e4
    rw[lT.2 (λq a=>by simpa using j2 (b q a)),jT.2 λq a=>dK (b q a),iT]
   .exact congrArg (A++ ·) (og g)
   .unfold eB
    rw[jk.2 λq a=>by simpa using g q a];rfl
theorem vT{w:J}{s:Y}{l:O UInt8}(h:Src 1 w s (aJ l)){i:Nat}(hi:i<l.length):∃A:ae,s.a=some A/\((0:Int)<=(i:Int)/\(i:Int)<(s.len:Int))/\w.cell? (A.add (Int.toNat (i:Int)*1))=some (.int .u8 ((l[i].toNat:Nat):Int)):=by
 obtain⟨A,ar,b,hc⟩:=h.at (i:=i) (v:=.int .u8 ((l[i].toNat:Nat):Int)) (by simp[aJ,hi]);exact⟨A,ar,b,hc⟩
theorem m3{w:J}{s t:Y}{a b:Key}(hs:Src 1 w s (aJ a))(ht:Src 1 w t (aJ b))(L:a.length<=1000000)(M:b.length<=1000000):
 aQ aj 113 #[s,t] w (λv w'=>∃n:Int,v=n/\(n<0↔bH a b)/\Ext w w'):=by
 have h1:=len8 hs;have h2:=len8 ht;refine okF (af.m3 s t) aA.m3 func113 ?_;(delta af.m3 ak aL b5 au;dsimp only);refine⟨λn w'=>∃i:Nat,n=(i:Int)/\i<=a.length/\i<=b.length/\eH a b=eH (a.drop i) (b.drop i)/\Ext w w',λn _=>((a.length:Int)-n).toNat,⟨0,rfl,cG _,cG _,rfl,.refl _ _⟩,?_⟩;rintro _ l ⟨i,rfl,N,O,hc,hx⟩;refine⟨λaK=>?_,λm=>?_⟩
 .rw[dZ,cQ,cQ]at aK
  have d:i<a.length:=by omega
  have f:i<b.length:=by omega
  have c:=Ext.trans hx (cj l);obtain⟨A,ar,o,p⟩:=vT (hs.ext c) d;obtain⟨B,hB,q,r⟩:=vT (ht.ext c) f;rw[jy d,jy f]at hc;have P:=oW a[i];have Q:=oW b[i];refine aW ⟨A,ar,o,id,_,p,B,hB,q,id,_,r,λg=>?_,λu=>?_⟩
  .have g:a[i].toNat≠b[i].toNat:=λe=>by rw[e]at g;simp at g
   have j:=Ext.trans c (cj _);obtain⟨x,y,z,C⟩:=vT (hs.ext j) d;obtain⟨D,E,F,G⟩:=vT (ht.ext j) f;refine aW ⟨x,y,z,id,_,C,D,E,F,id,_,G,_,rfl,?_,j⟩;rw[bx (n:=((a[i].toNat:Nat):Int)) I I,bx (n:=((b[i].toNat:Nat):Int)) I I,bx I I];unfold bH;rw[hc];unfold eH;rcases dJ a[i].toNat b[i].toNat with h|h
   .rw[if_pos h]
    exact⟨λ_=>by decide,λ_=>I⟩
   .rw[if_neg I,if_pos I]
    exact⟨λ_=>I,λh=>absurd h (by decide)⟩
  .have he:a[i]=b[i]:=by
    have:((a[i].toNat:Nat):Int)=((b[i].toNat:Nat):Int):=by simpa using u
    exact UInt8.toNat_inj.1 I
   have H:IntKind.wrap .i64 ((i:Int)+1)=((i+1:Nat):Int):=by rw[bx I I];omega
   rw[H];refine⟨⟨i+1,rfl,I,I,?_,c⟩,by show((a.length:Int)-((i+1:Nat):Int)).toNat<((a.length:Int)-(i:Int)).toNat;omega⟩;rw[hc]
   conv=>lhs;unfold eH
   rw[he,if_neg (by simp),if_neg (by simp)]
 .have R:a.length=i\/b.length=i:=by
   rw[Bool.and_eq_false_iff,jw,jw]at m;omega
  rw[bx I I];refine⟨_,rfl,?_,hx⟩;unfold bH;rw[hc];rcases dJ i a.length with h|h
  .rw[jy h,sA (show b.length<=i from I)]
   exact⟨λK=>by exfalso;omega,λh=>absurd h (show¬((1:Int)<0) by decide)⟩
  .rw[sA (show a.length<=i from I)]
   rcases dJ i b.length with k|k
   .rw[jy k]
    exact⟨λ_=>show((-1:Int)<0) by decide,λ_=>I⟩
   .rw[sA (show b.length<=i from I)]
    exact⟨λK=>by exfalso;omega,λh=>absurd h (show¬((0:Int)<0) by decide)⟩
theorem yB{α:Type}{c:α->O aa}{sz:Nat}:∀ (l:O α) (i:Nat),(∀x∈l,(c x).length=sz)->(bM c l).take (i*sz)=bM c (l.take i)/\(bM c l).drop (i*sz)=bM c (l.drop i)
 |l,0,_=>by simp[bM]
 | [],i+1,_=>by simp[bM]
 |x::l,i+1,h=>by
  obtain⟨h1,h2⟩:=yB l i λy a=>h y (by simp[a])
  have hx:=h x (by simp)
  have e:(i+1)*sz=(c x).length+i*sz:=by rw[kP,hx];omega
  rw[p7,e,List.take_length_add_append,List.drop_length_add_append,h1,h2]
  exact⟨rfl,rfl⟩
theorem ql{l:O (Y×Y)}:∀v∈bM eK l,Plain v:=by
 intro v a;obtain⟨x,hx,a⟩:=List.mem_flatten.1 a;obtain⟨p,_,rfl⟩:=eE.1 hx;exact qg p v a
theorem Cy(l:O (Y×Y)):(bM eK l).length=l.length*2:=gL _ (oK l)
section
variable {B C W:Nat->Prop}{w w':J}{s:Y}{ps iv:O (Y×Y)}{L M:O aI}
theorem e1.app(h:e1 B w ps L)(h2:e1 B w iv M):e1 B w (ps++iv) (L++M):=by
 refine⟨by simp[h.1,h2.1],λi av ax=>?_⟩;rcases dJ i ps.length with g|g
 .have g':i<L.length:=by have:=h.1;omega
  simp only[lU g,lU g'];exact h.2 i g g'
 .have g':L.length<=i:=by have:=h.1;omega
  rw[cz]at av ax;simp only[ny g,ny g',h.1];exact h2.2 _ (by have:=h.1;omega) I
theorem e1.drop(h:e1 B w ps L)(i:Nat):e1 B w (ps.drop i) (L.drop i):=by
 refine⟨by simp[h.1],λj av ax=>?_⟩;simp only[qE];exact h.2 _ (by rw[c_]at av;omega) (by rw[c_]at ax;omega)
theorem e1.take(h:e1 B w ps L)(i:Nat):e1 B w (ps.take i) (L.take i):=by
 refine⟨by simp[h.1],λj av ax=>?_⟩;simp only[oV];exact h.2 _ (by rw[cC]at av;omega) (by rw[cC]at ax;omega)
theorem e1.one{p:Y×Y}{fT:aI}(h1:a6 B w p.1 fT.1)(h2:a6 B w p.2 fT.2):e1 B w [p] [fT]:=
 e1.push (ps:=[]) (L:=[]) ⟨rfl,λi h=>by simp at h⟩ h1 h2
structure g2(hF:O aa)(hG:TypeId)(B:Nat->Prop)(w:J)(a8:Nat)(s:Y)(L:O aI):Prop where
 v:Var w a8 (s::hF) hG
 p:eV B w s L
 nb:¬B a8
 ok:∀p∈L,p.1.length<=1000/\p.2.length<=1000
 eS:L.length<=10000
variable {hF:O aa}{hG:TypeId}{a8:Nat}{key val:Key}{tk di:Y}
theorem g2.ab(h:g2 hF hG B w a8 s L)(hc:ad W w w')(a:¬W a8)(b:∀k,B k->k<w.heap.size->¬W k):g2 hF hG B w' a8 s L:=⟨h.v.ab hc a,h.p.ab hc b,h.nb,h.ok,h.eS⟩
theorem g2.ext(h:g2 hF hG B w a8 s L)(hc:Ext w w'):g2 hF hG B w' a8 s L:=h.ab hc id λ_ _ _ h=>h
theorem g2.aX(h:g2 hF hG B w a8 s L)(a:∀k,k<w.heap.size->B k->C k)(b:¬C a8):g2 hF hG C w a8 s L:=⟨h.v,h.p.aX a,b,h.ok,h.eS⟩
theorem qm(h:eV B w s L){i:Nat}(hi:i<L.length):∃ (A:ae) (tk di:Y),s.a=some A/\((0:Int)<=(i:Int)/\(i:Int)<(s.len:Int))/\w.cell? (A.add (Int.toNat (i:Int)*2))=some (.slice tk.a tk.len tk.cap)/\w.cell? ((A.add (Int.toNat (i:Int)*2)).add 1)=some (.slice di.a di.len di.cap)/\
 a6 B w tk L[i].1/\a6 B w di L[i].2:=by
 obtain⟨A,tk,di,h1,_,b,c,d,e,f⟩:=h.at hi;rw[dc];exact⟨A,tk,di,h1,b,c,d,e,f⟩
theorem yC(h:g2 hF hG B w a8 s L)(o:Src 1 w tk (aJ key))(H:key.length<=1000):
 aQ aj 103 #[.pointer (some a8),tk] w (λv w'=>∃i:Nat,v=.tuple #[i,.bool (iu L key i)]/\qk L key i/\Ext w w'):=by
 have J:=h.p.len;have K:=h.eS;refine okF (af.u5 (some a8) tk) aA.u5 func103 ?_;(delta af.u5 ag ak aL aC au;dsimp only);refine⟨λn w'=>∃i:Nat,n=(i:Int)/\i<=L.length/\(∀p∈L.take i,bH p.1 key)/\Ext w w',λn _=>((L.length:Int)-n).toNat,⟨0,rfl,cG _,by simp,.refl _ _⟩,?_⟩;rintro _ M ⟨i,rfl,hi,r,hx⟩;have g:=h.ext hx;refine⟨_,rfl,s,g.v.cell,cd (λb w'=>(b=true↔∃p,L[i]? =some p/\bH p.1 key)/\Ext w w') (λq a=>⟨λaK=>?_,λj=>a _ _ ⟨⟨λh=>(by cases h),λ⟨p,h1,_⟩=>?_⟩,hx⟩⟩) ?_⟩
 .have c:i<L.length:=by
   have:(i:Int)<(s.len:Int):=b1 aK;omega
  obtain⟨A,t1,t2,ar,d,aC,aU,k,x⟩:=qm g.p c;refine⟨_,rfl,s,g.v.cell,A,ar,d,t1,aC,(m3 k.1 (o.ext hx) (by have:=(h.ok _ (cE c)).1;omega) I).use ?_⟩;rintro _ N ⟨n,rfl,y,z⟩;refine⟨n,rfl,a _ _ ⟨?_,Ext.trans hx z⟩⟩;rw[cQ,y,dE c];exact⟨λh=>⟨_,rfl,h⟩,λ⟨p,h1,h2⟩=>by cases h1;exact h2⟩
 .have:=(ix.1 h1).1
  have:¬(i:Int)<(s.len:Int):=cu j;omega
 rintro O C ⟨d,t⟩;refine⟨λht=>?_,λhf=>?_⟩
 .obtain⟨p,l,aK⟩:=d.1 ht
  obtain⟨c,D⟩:=ix.1 l;have E:IntKind.wrap .i64 ((i:Int)+1)=((i+1:Nat):Int):=by rw[bx I I];omega
  rw[E];refine⟨⟨i+1,rfl,I,λq a=>?_,t⟩,by show((L.length:Int)-((i+1:Nat):Int)).toNat<((L.length:Int)-(i:Int)).toNat;omega⟩;rw[iy c]at a;rcases cT.1 a with a|a
  .exact r q a
  .rw[fo.1 a,D];exact aK
 .have f:=Ext.trans t (cj C)
  have m:=h.ext f;have u:qk L key i:=⟨hi,r,λp l aK=>by rw[d.2 ⟨p,l,aK⟩]at hf;cases hf⟩;refine aW ⟨_,rfl,id,s,m.v.cell,λaK=>?_,λj=>⟨i,?_,u,f⟩⟩
  .have c:i<L.length:=by
    have:(i:Int)<(s.len:Int):=b1 aK;omega
   obtain⟨A,t1,t2,ar,d,aC,aU,k,x⟩:=qm m.p c;refine⟨_,rfl,id,s,m.v.cell,A,ar,d,id,t1,aC,_,λP F=>mh (k.1.ext F),_,λQ G=>mh ((o.ext f).ext G),i,?_,u,f⟩;rw[nO];unfold iu;rw[dE c];have e:(L[i].1==key)=decide ((some L[i]).map Prod.fst=some key):=by rw[fV];simp
   rw[e]
  .have:¬i<L.length:=by
    have:¬(i:Int)<(s.len:Int):=cu j;omega
   unfold iu;rw[kk I];rfl
theorem vU(w:J):Sem.run aj (Instr.buildSlice 86 0 #[]) w=.ok (.slice (some w.heap.size) 0 0) (w.alloc (.cells #[] 167)):=by kernel_rfl
theorem Src.qn(h:Src 2 w s (bM eK ps))(hc:s.len<=s.cap){lo hi:Nat}(h1:lo<=hi)(h2:hi<=ps.length):Src 2 w ⟨aO s.a 2 lo s.cap,hi-lo,s.cap-lo⟩ (bM eK ((ps.drop lo).take (hi-lo))):=by
 have b:=h.len;rw[Cy]at b;have:=Src.cut h hc h1 (hi:=hi) I;rw[(yB ps lo (oK ps)).2,(yB (ps.drop lo) (hi-lo) (oK _)).1]at this;exact this
theorem Cz(h:Var w a8 (s::hF) hG){a:Y}{b:J}(hf:gp 2 167 w b a (bM eK ps))(l:e1 B w ps M)(hB:∀q,w.heap.size<=q->B q)(d:¬B a8)(m:∀p∈M,p.1.length<=1000/\p.2.length<=1000)(n:M.length<=10000):
 (∃u:aa,b.cell? a8=some u)/\b.frozen? a8=false/\g2 hF hG B (b.setCell a8 a) a8 a M/\ad (λq=>q=a8) w (b.setCell a8 a):=by
 have j:=h.ext hf.x;obtain⟨bE,bG⟩:=dP j (i:=0) (by simp);have g:=dp b a8 0 a;have aK:=h.lt;have k:∀q,aB a q->B q:=λq c=>hB q (hf.f q c);have hc:=cy (W:=λq=>q=a8) (ad.cF hf.x) g λq _ e=>e;refine⟨bE,bG,⟨dT j (i:=0) _,⟨ps,?_,hf.o.2.1,λq c=>⟨k q c,?_⟩,l.ab hc λq r _ e=>d (e▸r)⟩,d,m,n⟩,hc⟩
 .exact(hf.o.ab g λq c e=>d (e▸k q c)).src
 .exact fP (hf.o.lt q c) g.size
theorem HH(h:g2 hF hG B w a8 s L)(ah:gJ L)(y:Src 1 w tk (aJ key))(N:key.length<=1000)(O:Src 1 w di (aJ val))(ai:val.length<=1000)(hB:∀q,w.heap.size<=q->B q)(aE:L.length<=9999):
 aQ aj 107 #[.pointer (some a8),tk,di] w (λv w'=>v=.tuple #[]/\ad (λq=>q=a8) w w'/\∃a,g2 hF hG B w' a8 a (e4 L key val)):=by
 have aF:=h.p.len;have aG:=len8 y;have aH:=len8 O;refine okF (af.u_ (some a8) tk di) aA.u_ func107 ?_;(delta af.u_ gZ U ak ag au tm f_;dsimp only);refine(yC h y N).use ?_;rintro _ w1 ⟨i,rfl,P,z⟩;obtain⟨m,_,_⟩:=P.yA ah val;have am:=P.le;obtain⟨c,Q,av,ax,aI,R,an,_⟩:=ot.clone (cK:=48) (y.ext z) (k3 _) I;have S:=Ext.trans z R;obtain⟨sv,n,bE,bG,aK,A,ao,_⟩:=ot.clone (cK:=48) (O.ext S) (k3 _) I;have ap:=Ext.trans S A;refine⟨_,_,rfl,aW ⟨c,Q,av,aW ⟨sv,n,bE,bj (vs:=[(),()]) rfl λaL T aq aM=>⟨T.cc rfl (qg (c,sv)),rfl,cw T (us:=eK (c,sv)) rfl rfl λV ar aw aN=>?_⟩⟩⟩⟩;have C:Ext n V:=Ext.cn aq aw (bp _);obtain⟨d,l⟩:∃d,d=V.drew:=⟨_,rfl⟩;have D:Ext w d:=by rw[l];exact Ext.trans (Ext.trans ap C) (cj _)
 have o:Var d n.heap.size (eK (c,sv)) 167:=by rw[l];exact ar.drew
 have k:=h.ext D;have aO:=z.size;have aP:=R.size;have aR:=A.size;have ay:∀q,w1.heap.size<=q->B q:=λq g=>hB q I;have W:Ext Q d:=by rw[l];exact Ext.trans (Ext.trans A C) (cj _)
 have X:Ext n d:=by rw[l];exact Ext.trans C (cj _)
 have az:a6 B d c key:=⟨(ax.ext W).src,ax.2.1,λq g=>⟨ay q (an q g),(ax.ext W).lt q g⟩⟩;have ev:a6 B d sv val:=⟨(bG.ext X).src,bG.2.1,λq g=>⟨hB q (by have:=ao q g;omega),(bG.ext X).lt q g⟩⟩;obtain⟨ps,fL,dH,aS,E⟩:=k.p;have aT:ps.length=L.length:=E.1;have Z:∀ (j:Nat),i<=j->j<=L.length->∀ (a:Y) (b:J),gp 2 167 d b a (bM eK ((ps.drop 0).take (i-0))++eK (c,sv)++bM eK ((ps.drop j).take (ps.length-j)))->e4 L key val=L.take i++(key,val)::L.drop j->
  (∃u:aa,b.cell? a8=some u)/\b.frozen? a8=false/\al (b.setCell a8 a) λw'=>(.tuple #[]:aa)=.tuple #[]/\ad (λq=>q=a8) w w'/\∃a,g2 hF hG B w' a8 a (e4 L key val):=by
  intro j aU aV a b hf ab;have e:bM eK ((ps.drop 0).take (i-0))++eK (c,sv)++bM eK ((ps.drop j).take (ps.length-j))=bM eK (ps.take i++ [(c,sv)]++ps.drop j):=by
   rw[dM (show(ps.drop j).length<=ps.length-j by simp),lH,lH];simp[bM]
  rw[e]at hf;have aB:e1 B d (ps.take i++ [(c,sv)]++ps.drop j) (e4 L key val):=by
   rw[ab,cO];exact(E.take i).app (e1.app (M:=L.drop j) (L:=[(key,val)]) (e1.one az ev) (E.drop j))
  obtain⟨a1,a2,a3,a4⟩:=Cz k.v hf aB (λq g=>hB q (eD D.size g)) h.nb (λp F=>by
   rcases AD.1 F with rfl|⟨F,_⟩
   .exact⟨N,ai⟩
   .exact h.ok p F) (by
   rw[ab];simp only[cz,cC,e8,c_];omega)
  exact⟨a1,a2,aW ⟨rfl,cy (ad.cF D) a4 λq _ e=>e,a,a3⟩⟩
 have aX:i<=s.cap:=by omega
 have t:¬d.heap.size<=a8:=by have:=k.v.lt;omega
 have ac:¬d.heap.size<=n.heap.size:=by have:=o.lt;omega
 have aC:IntKind.wrap .i64 ((i:Int)+1)=((i+1:Nat):Int):=by have:=h.eS;rw[bx I I];omega
 refine⟨λG=>?_,λG=>?_⟩
 .have r:iu L key i=true:=G
  rw[r,if_pos rfl]at m;have aD:i+1<=L.length:=by
   unfold iu at r;have h1:=b1 r;rcases dJ i L.length with h2|h2
   .exact h2
   .rw[kk h2]at h1;cases h1
  rw[aC,←l];refine aW ⟨λq=>d.heap.size<=q,_,rfl,t,s,k.v.cell,⟨I,I⟩,ac,c,o.cell,sv,o.cell,_,rfl,t,s,k.v.cell,⟨I,I⟩,?_⟩;rw[dc,dc];have H:s.len-(i+1)=ps.length-(i+1):=by omega
  rw[H];exact Cx (x:=[c,sv]) qh vU (λw=>vP w _ rfl) rfl (Src.qn fL dH (cG _) I) (Src.qn fL dH I (bp _)) (qg (c,sv)) ql ql (by show(2*((i-0)+(ps.length-(i+1))+1)+1000)*48<=_;omega) (K:=λa b=>∃f:ae,some (a8:ae)=some f/\(∃u:aa,b.cell? f=some u)/\b.frozen? f=false/\al (b.setCell f a) λw'=>(.tuple #[]:aa)=.tuple #[]/\ad (λq=>q=a8) w w'/\∃a,g2 hF hG B w' a8 a (e4 L key val))
   λa b hf=>⟨_,rfl,Z (i+1) I aD a b hf m⟩
 .have r:iu L key i=false:=G
  rw[r]at m;simp only[fN,if_false]at m;rw[←l];refine aW ⟨λq=>d.heap.size<=q,_,rfl,t,s,k.v.cell,⟨I,I⟩,ac,c,o.cell,sv,o.cell,_,rfl,t,s,k.v.cell,⟨I,I⟩,?_⟩;rw[dc];have H:s.len-i=ps.length-i:=by omega
  rw[H];exact Cx (x:=[c,sv]) qh vU (λw=>vP w _ rfl) rfl (Src.qn fL dH (cG _) I) (Src.qn fL dH I (bp _)) (qg (c,sv)) ql ql (by show(2*((i-0)+(ps.length-i)+1)+1000)*48<=_;omega) (K:=λa b=>∃f:ae,some (a8:ae)=some f/\(∃u:aa,b.cell? f=some u)/\b.frozen? f=false/\al (b.setCell f a) λw'=>(.tuple #[]:aa)=.tuple #[]/\ad (λq=>q=a8) w w'/\∃a,g2 hF hG B w' a8 a (e4 L key val))
   λa b hf=>⟨_,rfl,Z i (bp _) am a b hf m⟩
end
section
variable {hF:O aa}{hG:TypeId}{B C W:Nat->Prop}{w w':J}{s t:Y}{L M:O aI}{a8:Nat}{key fr to:Key}{tk yD tt:Y}
theorem CA{i:Nat}(h:iu L key i=true):i<L.length:=by
 unfold iu at h;have h1:=b1 h;rcases dJ i L.length with h2|h2
 .exact h2
 .rw[kk h2]at h1;cases h1
theorem qk.get{i:Nat}(h:qk L key i)(b:gJ L):iu L key i=(eB L key).isSome:=by
 rw[(h.yA b []).2.2];by_cases a:iu L key i=true
 .rw[a,if_pos rfl,dE (CA a)];rfl
 .have:iu L key i=false:=by simpa using a
  rw[this];rfl
theorem HI(h:g2 hF hG B w a8 s L)(m:gJ L)(y:Src 1 w tk (aJ key))(z:key.length<=1000)(hB:∀q,w.heap.size<=q->B q):
 aQ aj 104 #[.pointer (some a8),tk] w (λv w'=>v=.bool (eB L key).isSome/\ad (λq=>q=a8) w w'/\∃g,g2 hF hG B w' a8 g (ed L key)):=by
 have M:=h.p.len;have A:=h.eS;refine okF (af.u6 (some a8) tk) aA.u6 func104 ?_;(delta af.u6 gZ ak ag au;dsimp only);refine(yC h y z).use ?_;rintro _ w1 ⟨i,rfl,n,j⟩;obtain⟨_,d,_⟩:=n.yA m [];refine⟨_,_,rfl,ij (λw'=>ad (λq=>q=a8) w w'/\∃g,g2 hF hG B w' a8 g (ed L key)) (λq b=>⟨λc=>?_,λc=>?_⟩) ?_⟩
 rotate_left
 .have c:iu L key i=false:=c
  rw[c]at d;simp only[fN,if_false,ib]at d;rw[d]at b;exact b _ ⟨ad.cF j,s,h.ext j⟩
 .rintro N ⟨h1,h2⟩
  exact⟨by rw[n.get m],h1,h2⟩
 have c:iu L key i=true:=c;have O:=CA c;rw[c,if_pos rfl]at d;obtain⟨a,o⟩:∃a,a=w1.drew:=⟨_,rfl⟩;rw[←o];have k:Ext w a:=by rw[o];exact Ext.trans j (cj _)
 have f:=h.ext k;obtain⟨ps,fL,dH,P,l⟩:=f.p;have Q:ps.length=L.length:=l.1;have r:¬a.heap.size<=a8:=by have:=f.v.lt;omega
 have C:IntKind.wrap .i64 ((i:Int)+1)=((i+1:Nat):Int):=by rw[bx I I];omega
 have f0:gp 2 167 a (a.alloc (.cells #[] 167)) ⟨some a.heap.size,0,0⟩ []:=⟨ba.new (T:=167) a [] 0 (by simp) (by decide),eJ _ _,λq b=>by rw[kt]at b;simp at b;omega⟩;obtain⟨D,E,av,ax,t,F,_,_⟩:=gp.app (cK:=86) qh f0 ((Src.qn fL dH (cG i) I).ext f0.x) ql (by show(2*(0+(i-0))+1000)*48<=_;omega);obtain⟨G,H,bE,bG,u,R,_,_⟩:=gp.app (cK:=86) qh t ((Src.qn fL dH (show i+1<=ps.length from I) (bp _)).ext t.x) ql (by rw[F];show(2*((0+(i-0))+(ps.length-(i+1)))+1000)*48<=_;omega);rw[C];refine aW ⟨λq=>a.heap.size<=q,_,rfl,r,s,f.v.cell,⟨I,I⟩,_,rfl,r,s,f.v.cell,⟨I,I⟩,⟨some a.heap.size,0,0⟩,_,vU a,ad.cF f0.x,?_⟩;rw[dc,dc,show s.len-(i+1)=ps.length-(i+1) from I];have e: []++bM eK ((ps.drop 0).take (i-0))++bM eK ((ps.drop (i+1)).take (ps.length-(i+1)))=bM eK (ps.take i++ps.drop (i+1)):=by
  rw[dM (show(ps.drop (i+1)).length<=ps.length-(i+1) by simp),lH];simp
 rw[e]at u;have J:e1 B a (ps.take i++ps.drop (i+1)) (ed L key):=by
  rw[d];exact(l.take i).app (l.drop (i+1))
 have hlen:(ed L key).length<=10000:=eD (lW _ _) A;obtain⟨a1,a2,a3,a4⟩:=Cz f.v u J (λq b=>hB q (eD k.size b)) h.nb (λp K=>h.ok p (hJ.1 K).1) hlen;exact⟨D,E,av,ax,G,H,bE,bG,_,rfl,a1,a2,aW (b _ ⟨cy (ad.cF k) a4 λq _ e=>e,_,a3⟩)⟩
theorem CB{L:O aI}{i m:Nat}(hi:i<L.length):(eY (L.take (i+1)) fr to).take m=(if k9 fr to L[i]=true/\(eY (L.take i) fr to).length<m then (eY (L.take i) fr to).take m++ [L[i]] else (eY (L.take i) fr to).take m):=by
 rw[iy hi,rZ,rY [L[i]],o0,List.filter_nil];by_cases h1:k9 fr to L[i]=true
 .rw[if_pos h1]
  by_cases h2:(eY (L.take i) fr to).length<m
  .rw[if_pos ⟨h1,h2⟩,dM (l:=eY (L.take i) fr to) I,dM (by rw[cz,iU];omega)]
  .rw[if_neg (λh=>h2 h.2),nz I]
 .rw[if_neg h1,if_neg (λh=>h1 h.1),fQ]
theorem HJ{F:ae}(G:eV B w s L)(ac:∀p∈L,p.1.length<=1000/\p.2.length<=1000)(aO:L.length<=10000)(H:∀w',Ext w w'->w'.cell? F=some (.slice s.a s.len s.cap))(hf:Src 1 w yD (aJ fr))(aP:fr.length<=1000)(ht:Src 1 w tt (aJ to))(aR:to.length<=1000)(most:Int)(hB:∀q,w.heap.size<=q->B q):
 aQ aj 52 #[.pointer (some F),.slice yD.a yD.len yD.cap,.slice tt.a tt.len tt.cap,.int .i64 most] w (λv w'=>∃C,v=.slice C.a C.len C.cap/\eV B w' C ((eY L fr to).take most.toNat)/\Ext w w'):=by
 have aS:=G.len;have U:=len8 ht;refine okF (af.u4 (some F) yD tt most) aA.u4 func52 ?_;(delta af.u4 ag ak aL aC au;dsimp only);have f0:gp 2 167 w (w.alloc (.cells #[] 167)) ⟨some ⟨w.heap.size,0,none⟩,0,0⟩ (bM eK []):=⟨ba.new (T:=167) w [] 0 (by simp) (by decide),eJ _ _,λq g=>by rw[kt]at g;simp at g;omega⟩;have ah:eV (λq=>B q/\q<w.heap.size) w s L:=G.aX λq g c=>⟨c,g⟩;have ai:∀w',e1 (λq=>B q/\q<w.heap.size) w' [] ((eY (L.take 0) fr to).take most.toNat):=λw'=>by
  rw[List.take_zero];have e:(eY [] fr to).take most.toNat=[]:=by simp[eY]
  rw[e];exact⟨rfl,λi h=>by simp at h⟩
 refine⟨⟨some ⟨w.heap.size,0,none⟩,0,0⟩,_,vU w,λj n l=>∃ (i:Nat) (iv:O (Y×Y)),n=(i:Int)/\i<=L.length/\gp 2 167 w l j (bM eK iv)/\e1 (λq=>B q/\q<w.heap.size) l iv ((eY (L.take i) fr to).take most.toNat),λ_ n _=>((L.length:Int)-n).toNat,⟨0,[],rfl,cG _,f0,ai _⟩,?_⟩;rintro j _ l ⟨i,iv,rfl,hi,d,D⟩;have al:=G.ab (ad.cF d.x:ad (λ_=>False) _ _) λ_ _ _ h=>h;have aT:j.len=iv.length:=by
  have:=d.o.1;rw[Cy]at this;omega
 have J:=D.1;rw[cC]at J;have aV:(eY (L.take i) fr to).length<=i:=eD (lW _ _) (by rw[cC];omega);refine⟨_,rfl,s,H l d.x,λaK=>?_,λK=>?_⟩
 rotate_left
 .have am:i=L.length:=by
   have:¬((i:Nat):Int)<((s.len:Nat):Int):=cu K;omega
  rw[am,iz]at D;exact⟨j,rfl,⟨iv,d.o.src,d.o.2.1,λq g=>⟨hB q (d.f q g),d.o.lt q g⟩,D.aX λq _ c=>c.1⟩,d.x⟩
 have u:i<L.length:=by
  have:((i:Nat):Int)<((s.len:Nat):Int):=b1 aK;omega
 obtain⟨A,t1,t2,ar,c,aC,aU,E,V⟩:=qm al u;have an:IntKind.wrap .i64 (((i:Nat):Int)+1)=((i+1:Nat):Int):=by rw[bx I I];omega
 have aW:=ac _ (cE u);refine cd (λj w'=>∃iv:O (Y×Y),gp 2 167 w w' j (bM eK iv)/\e1 (λq=>B q/\q<w.heap.size) w' iv ((eY (L.take (i+1)) fr to).take most.toNat)) (λq g=>⟨_,rfl,s,H l d.x,A,ar,c,t1,aC,(m3 E.1 (hf.ext d.x) I I).use ?_⟩) ?_
 rotate_left
 .rintro aY aZ ⟨ao,ap,aq⟩
  rw[an];exact⟨⟨i+1,ao,rfl,I,ap,aq⟩,by show((L.length:Int)-((i+1:Nat):Int)).toNat<((L.length:Int)-((i:Nat):Int)).toNat;omega⟩
 rintro _ a0 ⟨n,rfl,X,y⟩;refine⟨n,rfl,cd (λb w'=>b=k9 fr to L[i]/\Ext l w') (λr z=>⟨λK=>?_,λaK=>?_⟩) ?_⟩
 .have M:ey fr L[i].1:=λN=>by
   have:=X.2 N;have:n>=0:=b1 K;omega
  refine cd (λb w'=>b=(to.isEmpty||decide (bH L[i].1 to))/\Ext l w') (λr z=>⟨λh0=>z _ _ ⟨?_,y⟩,λh0=>?_⟩) ?_
  .have:to=[]:=kO.1 (by
    have:((tt.len:Nat):Int)=0:=by simpa using h0
    omega)
   rw[this];rfl
  .refine(m3 (E.1.ext y) (ht.ext (Ext.trans d.x y)) I I).use ?_
   rintro _ a1 ⟨m,rfl,aw,ay⟩;refine⟨m,rfl,z _ _ ⟨?_,Ext.trans y ay⟩⟩;have:to.isEmpty=false:=by
    cases az:to with
    |nil=>
     rw[az]at U;have h0:¬((tt.len:Nat):Int)=0:=by simpa using h0
     simp at U;omega
    |cons _ _=>rfl
   rw[this,jS];exact decide_eq_decide.2 aw
  .rintro a2 a3 ⟨rfl,aD⟩
   refine z _ _ ⟨?_,aD⟩;unfold k9;rw[dK M,jh]
 .refine z _ _ ⟨?_,y⟩
  have M:¬ey fr L[i].1:=λN=>by
   have:¬n>=0:=cu aK;exact N (X.1 I)
  unfold k9;rw[iV M,lV]
 rintro a4 k ⟨rfl,P⟩;have t:gp 2 167 w k j (bM eK iv):=⟨d.o.ext P,Ext.trans d.x P,d.f⟩;have Z:e1 (λq=>B q/\q<w.heap.size) k iv ((eY (L.take i) fr to).take most.toNat):=D.ab P λ_ _ _ h=>h;refine⟨λc=>?_,λc=>g _ _ ⟨iv,t,?_⟩⟩
 .rw[dZ,cQ]at c
  have aE:k9 fr to L[i]=true/\(eY (L.take i) fr to).length<most.toNat:=⟨c.1,by
   rcases dJ (eY (L.take i) fr to).length most.toNat with h|h
   .exact h
   .rw[jj h]at J;omega⟩
  obtain⟨A,t1,t2,ar,aF,aC,aU,E,V⟩:=qm (ah.ext t.x) u;have Q:Ext k (k.alloc (.cells (eK (t1,t2)).toArray 167)):=eJ _ _;have aG:gp 2 167 w (k.alloc (.cells (eK (t1,t2)).toArray 167)) j (bM eK iv):=⟨t.o.ext Q,Ext.trans t.x Q,t.f⟩;obtain⟨aH,aa,av,ax,aI,a5,aM,_⟩:=gp.app (cK:=86) qh aG (Src.new (T:=167) k (eK (t1,t2)) 1 rfl) (qg _) (by show(2*(j.len+1)+1000)*48<=_;omega);have R:ad (aB j) k aa:=cy (W:=aB j) (ad.cF Q) aM λq _ h=>h;have S:∀q,B q/\q<w.heap.size->¬aB j q:=λq g aN=>by have:=d.f q aN;omega
  refine⟨_,rfl,s,H k t.x,A,ar,aF,t1,aC,t2,aU,⟨some ⟨k.heap.size,0,none⟩,1,1⟩,_,vP k _ rfl,aH,aa,av,g _ _ ⟨iv++ [(t1,t2)],?_,?_⟩⟩
  .have e:bM eK (iv++ [(t1,t2)])=bM eK iv++eK (t1,t2):=by rw[lH];simp[bM]
   rw[e];exact aI
  .rw[CB u,if_pos aE]
   exact(Z.ab R λq g _=>S q g).app (e1.one (a6.ab E R S) (a6.ab V R S))
 .rw[CB u]
  rw[Bool.and_eq_false_iff,jw]at c;rw[if_neg]
  .exact Z
  .rintro⟨h1,h2⟩
   rcases c with c|c
   .rw[h1]at c;cases c
   .rw[Nat.min_eq_right I]at J
    omega
end
def qo(n:Nat)(root aH:Int):Prop:=0<=aH/\aH<=12/\0<=root/\root<n/\(root=0↔aH=0)
theorem nZ{w:J}{C:b4}(hc:fy w C)(sb:Nat)(gen root aH:Int):
 aQ aj 140 #[.pointer (some C.c),.pointer (some sb),.int .u64 gen,root,aH] w (λv w'=>
  (qo C.D.n root aH/\v=.tuple #[.pointer (some w.heap.size),(0:Int)]/\Ext w w'/\Var w' w.heap.size [.pointer (some C.c),.pointer (some sb),.int .u64 gen,root,aH] 239/\w'.heap.size=w.heap.size+1)\/
  (¬qo C.D.n root aH/\v=.tuple #[.pointer none,(1:Int)]/\w=w')):=by
 refine okF (af.nZ (some C.c) (some sb) gen root aH) aA.nZ func140 ?_;(delta af.nZ ak aC U;dsimp only);refine cd (λb w'=>(b=false↔(0<=aH/\aH<=12/\0<=root/\root<C.D.n))/\w=w') (λq g=>⟨λh1=>g _ _ ⟨?_,rfl⟩,λh1=>⟨_,rfl,_,hc.cells.1,(p9 hc.dev).use ?_⟩⟩) ?_
 .simp only[sy,jS,iS,cQ]at h1
  exact⟨λh=>(by cases h),λh=>I⟩
 .rintro _ _ ⟨rfl,rfl⟩
  simp only[sy,jS,nw,jw]at h1;refine⟨_,rfl,g _ _ ⟨?_,rfl⟩⟩;rw[jw];omega
 rintro b _ ⟨i,rfl⟩;refine⟨λh1=>.inr ⟨λhg=>?_,rfl,rfl⟩,λh1=>?_⟩
 .have h2:=i.2 ⟨hg.1,hg.2.1,hg.2.2.1,hg.2.2.2.1⟩
  rw[h2,jS]at h1;have d:=hg.2.2.2.2;by_cases a:root=0
  .rw[a,d.1 a]at h1;simp at h1
  .have f:aH≠0:=λe=>a (d.2 e)
   have j:(root==0)=false:=by simpa using a
   have k:(aH==0)=false:=by simpa using f
   rw[j,k]at h1
   cases h1
 .rw[nw]at h1
  have h2:=i.1 h1.1;have d:root=0↔aH=0:=by
   have a:=h1.2;by_cases f:root=0<;>by_cases l:aH=0<;>simp[f,l]at a⊢
  refine bj (vs:=[.pointer (some C.c),.pointer (some sb),.int .u64 gen,root,aH]) rfl λo m hx hs=>.inl ⟨⟨h2.1,h2.2.1,h2.2.2.1,h2.2.2.2,d⟩,rfl,hx,m,hs⟩
theorem CC{w:J}{s:Y}{l:O UInt8}(hs:Src 1 w s (aJ l))(hc:s.len<=s.cap)(most:Nat)(g:most<=100000):aQ aj 24 #[s,most] w (λv w'=>∃a:Y,v=a/\ba 1 5 w' a (aJ (l.take most))/\Ext w w'/\∀q,aB a q->w.heap.size<=q):=by
 have hlen:=len8 hs;refine okF (af.vb s (most:Nat)) aA.vb func24 ?_;delta af.vb ak U;refine cd (λs2 w'=>w=w'/\Src 1 w s2 (aJ (l.take most))/\s2.len<=most) (λq b=>⟨λh=>?_,λh=>?_⟩) ?_
 .have h:most<l.length:=by have:=b1 h;omega
  refine⟨⟨I,I⟩,b _ _ ⟨rfl,?_,by simp⟩⟩;have:=na hs hc (lo:=0) (hi:=most) I I;simpa using this
 .have h:l.length<=most:=by have:=cu h;omega
  rw[dM h]at b;exact b _ _ ⟨rfl,hs,I⟩
 rintro s2 _ ⟨rfl,h2,i⟩;obtain⟨c,d,av,ax,j,e,f,_⟩:=ot.clone (cK:=48) h2 (k3 _) I;exact aW ⟨c,d,av,c,rfl,ax,e,f⟩
instance (n:Nat) (root aH:Int):Decidable (qo n root aH):=by unfold qo;infer_instance
theorem oc{B C:Nat->Prop}{w:J}{s t:Y}{L M:O aI}(hs:eV B w s L)(ht:eV C w t M)(N:L.length<=1000000):
 aQ aj 43 #[s,t] w (λv w'=>∃r:ai,v=r/\(r=true↔L=M)/\Ext w w'):=by
 have h1:=hs.len;have h2:=ht.len;refine okF (af.oc s t) aA.oc func43 ?_;(delta af.oc ak aL ag au;dsimp only);refine⟨λa=>⟨false,rfl,⟨λh=>(by cases h),λh=>?_⟩,.refl _ _⟩,λb=>?_⟩
 .rw[h1,h2,h]at a;simp at a
 have l:L.length=M.length:=by
  have:(s.len:Int)=(t.len:Int):=by simpa using b
  omega
 refine⟨λn w'=>∃i:Nat,n=(i:Int)/\i<=L.length/\L.take i=M.take i/\Ext w w',λn _=>((L.length:Int)-n).toNat,⟨0,rfl,cG _,by simp,.refl _ _⟩,?_⟩;rintro _ m ⟨i,rfl,hi,he,hx⟩;refine⟨λaK=>?_,λo=>?_⟩
 rotate_left
 .have d:i=L.length:=by
   have:¬(i:Int)<(s.len:Int):=cu o;omega
  refine⟨true,rfl,⟨λ_=>?_,λ_=>rfl⟩,hx⟩;rw[d,iz,l,iz]at he;exact he
 have d:i<L.length:=by
  have:(i:Int)<(s.len:Int):=b1 aK;omega
 have e:i<M.length:=by omega
 have c:=Ext.trans hx (cj m);obtain⟨A,a1,a2,ar,f,aC,aU,p,q⟩:=qm (hs.ext c) d;obtain⟨D,cf,bS,g,j,d1,d2,u,x⟩:=qm (ht.ext c) e;have y:IntKind.wrap .i64 ((i:Int)+1)=((i+1:Nat):Int):=by rw[bx I I];omega
 have k:∀ {r:Prop},L[i]≠M[i]->L=M->r:=λh h2=>absurd (by subst h2;rfl) h;refine aW ⟨A,ar,f,id,a1,aC,_,λP z=>mh (p.1.ext z),D,g,j,id,cf,d1,_,λQ E=>mh (u.1.ext E),λa=>⟨λ_=>⟨false,rfl,⟨λh=>(by cases h),k λh=>?_⟩,c⟩,λh=>(by cases h)⟩,λb=>?_⟩
 .rw[nO,h]at a;simp at a
 rw[nO]at b;have F:L[i].1=M[i].1:=by simpa using b
 refine⟨A,ar,f,id,a2,aU,_,λR G=>mh (q.1.ext G),D,g,j,id,bS,d2,_,λS H=>mh (x.1.ext H),λa=>⟨false,rfl,⟨λh=>(by cases h),k λh=>?_⟩,c⟩,λb=>?_⟩
 .rw[nO,h]at a;simp at a
 rw[nO]at b;have K:L[i].2=M[i].2:=by simpa using b
 rw[y];refine⟨⟨i+1,rfl,I,?_,c⟩,by show((L.length:Int)-((i+1:Nat):Int)).toNat<((L.length:Int)-(i:Int)).toNat;omega⟩;rw[iy d,iy e,he,Prod.ext F K]
theorem l9{w:J}{s:Y}{k:Key}(h:Src 1 w s (aJ k)):aQ aj 50 #[s] w (λv w'=>v=.bool (decide (cv k))/\w=w'):=by
 have a:=len8 h;refine okF (af.l9 s) aA.l9 func50 ?_;unfold af.l9;refine⟨?_,rfl⟩;have e:(decide ((s.len:Int)>0)&&decide ((s.len:Int)<=24))=decide (cv k):=by
  rw[fV,dZ,cQ,cQ,cQ];unfold cv;omega
 rw[e]
structure cS where
 now:O aI
 sure:O aI
 gi:Y
 ss:Y
 c1:Nat
 clock:Nat
 first:Nat
 bY:Nat
 gU:Nat
def cS.rest(m:cS):O aa:=[m.ss,m.c1,.int .u64 (m.clock:Nat),.int .u64 (m.first:Nat),.int .u64 (m.bY:Nat),.int .u64 (m.gU:Nat)]
def cS.c(m:cS):O aa:=m.gi::m.rest
def cS.nr(m:cS):cS:={m with sure:=m.now,ss:=m.gi,c1:=0,bY:=m.bY+1,gU:=m.clock}
def cS.lO(m:cS):cS:={m with first:=if m.c1=0 then m.clock else m.first,c1:=m.c1+1}
def cS.more(m:cS)(batch:Nat):cS:=if batch<=m.c1+1 then m.lO.nr else m.lO
def cS.jt(m:cS)(n:Nat):cS:={m with clock:=max m.clock n}
def cS.tick(m:cS)(n dX:Nat):cS:=if m.c1≠0/\dX<=max m.clock n-m.first then (m.jt n).nr else m.jt n
structure eu(B:Nat->Prop)(w:J)(a8:Nat)(m:cS):Prop where
 now:g2 m.rest 90 B w a8 m.gi m.now
 sure:eV B w m.ss m.sure
 num:m.clock<18446744073709551616/\(m.c1≠0->m.first<=m.clock)
section
variable {B C W:Nat->Prop}{w w':J}{a8:Nat}{m:cS}
theorem eu.ab(h:eu B w a8 m)(hc:ad W w w')(b:¬W a8)(a:∀k,B k->k<w.heap.size->¬W k):eu B w' a8 m:=⟨h.now.ab hc b a,h.sure.ab hc a,h.num⟩
theorem eu.ext(h:eu B w a8 m)(hx:Ext w w'):eu B w' a8 m:=h.ab hx id λ_ _ _ h=>h
theorem eu.aX(h:eu B w a8 m)(a:∀k,k<w.heap.size->B k->C k)(b:¬C a8):eu C w a8 m:=⟨h.now.aX a b,h.sure.aX a,h.num⟩
theorem eu.v(h:eu B w a8 m):Var w a8 m.c 90:=h.now.v
theorem eu.set(h:eu B w a8 m){i:Nat}{x:aa}(m':cS)(hi:i<7)(hc:m.c.set i x=m'.c)(hs:m'.gi=m.gi)(a:m'.now=m.now)(g:eV B w m'.ss m'.sure)(j:m'.clock<18446744073709551616/\(m'.c1≠0->m'.first<=m'.clock)):
 (∃u:aa,w.cell? ⟨a8,i,none⟩=some u)/\w.frozen? ⟨a8,i,none⟩=false/\eu B (w.setCell ⟨a8,i,none⟩ x) a8 m'/\ad (λq=>q=a8) w (w.setCell ⟨a8,i,none⟩ x):=by
 obtain⟨bE,bG⟩:=dP h.v (i:=i) (by show i<7;exact hi);have b:=dp w a8 i x;have d:=dT h.v (i:=i) x;rw[hc]at d;have f:∀q,B q->q<w.heap.size->¬q=a8:=λq k _ e=>h.now.nb (e▸k);exact⟨bE,bG,⟨⟨d,by rw[hs,a];exact h.now.p.ab b f,h.now.nb,by rw[a];exact h.now.ok,by rw[a];exact h.now.eS⟩,g.ab b f,j⟩,b⟩
theorem ff(d i k:Nat):Addr.add ⟨d,i,none⟩ k=⟨d,i+k,none⟩:=by
 rw[aw]
theorem yE (h:eu B w a8 m) (hg:m.bY<1000000000000):aQ aj 39 #[.pointer (some a8)] w (fun v w'=>v= .tuple #[]∧ad (fun q=>q=a8) w w'∧eu B w' a8 m.nr):=by
 refine okF (af.u3 (some a8)) aA.u3 func39 ?_
 (delta af.u3 ag st bD;dsimp only)
 refine⟨_,rfl,m.gi,h.v.cell,_,rfl,?_⟩
 rw[ff,cB]
 obtain⟨a1,a2,c,du⟩:=h.set (i:=1) (x:=m.gi) {m with sure:=m.now,ss:=m.gi} (by decide) rfl rfl rfl h.now.p h.num
 refine⟨a1,a2,aW ⟨_,rfl,?_⟩⟩
 rw[ff,cB]
 obtain⟨cf,bS,a,b_⟩:=c.set (i:=2) (x:= .int .i64 0) {m with sure:=m.now,ss:=m.gi,c1:=0} (by decide) rfl rfl rfl c.sure ⟨h.num.1,fun h=>absurd rfl h⟩
 refine⟨cf,bS,aW ⟨_,rfl,_,by rw[ff];exact a.v.cell,_,rfl,?_⟩⟩
 rw[ff,cB,gQ (n:=(m.bY:Nat)+1) (by omega) (by omega)]
 obtain⟨d1,d2,b,gG⟩:=a.set (i:=5) (x:= .int .u64 ((m.bY:Nat)+1)) {m with sure:=m.now,ss:=m.gi,c1:=0,bY:=m.bY+1} (by decide) rfl rfl rfl a.sure a.num
 refine⟨d1,d2,aW ⟨_,rfl,_,by rw[ff];exact b.v.cell,_,rfl,?_⟩⟩
 rw[ff,cB]
 obtain⟨d,e,f,iF⟩:=b.set (i:=6) (x:= .int .u64 (m.clock:Nat)) m.nr (by decide) rfl rfl rfl b.sure b.num
 exact⟨d,e,aW ⟨rfl,((du.trans b_).trans gG).trans iF,f⟩⟩
theorem CD (h:eu B w a8 m) (hg:m.bY<1000000000000) (l:m.c1<1000000) {batch:Nat}:aQ aj 105 #[.pointer (some a8),batch] w (fun v w'=>v= .tuple #[]∧ad (fun q=>q=a8) w w'∧eu B w' a8 (m.more batch)):=by
 refine okF (af.u7 (some a8) (batch:Nat)) aA.u7 func105 ?_
 (delta af.u7 r1 ak bD st au aU;dsimp only)
 refine ij (fun b=>ad (fun q=>q=a8) w b∧eu B b a8 {m with first:=if m.c1=0 then m.clock else m.first}) (fun q f=>⟨_,rfl,_,by rw[ff];exact h.v.cell,fun a=>⟨_,rfl,_,by rw[ff];exact h.v.cell,_,rfl,?_⟩,fun a=>f _ ⟨.refl _ _,?_⟩⟩) ?_
 · have e:m.c1=0:=by simp at a;omega
   rw[ff,cB]
   obtain⟨a1,a2,g,du⟩:=h.set (i:=4) (x:= .int .u64 (m.clock:Nat)) {m with first:=if m.c1=0 then m.clock else m.first} (by decide) (by rw[if_pos e];rfl) rfl rfl h.sure ⟨h.num.1,fun h0=>absurd e h0⟩
   exact⟨a1,a2,aW (f _ ⟨du,g⟩)⟩
 · have e:¬m.c1=0:=by simp at a;omega
   have j:({m with first:=if m.c1=0 then m.clock else m.first}:cS)=m:=by rw[if_neg e]
   rw[j];exact h
 rintro b ⟨jZ,c⟩
 refine⟨_,rfl,_,by rw[ff];exact c.v.cell,_,rfl,?_⟩
 rw[ff,cB,bx (n:=(m.c1:Nat)+1) (by omega) (by omega)]
 obtain⟨cf,bS,d,gZ⟩:=c.set (i:=2) (x:= .int .i64 ((m.c1:Nat)+1)) m.lO (by decide) rfl rfl rfl c.sure ⟨h.num.1,fun _=>by show(if m.c1=0 then m.clock else m.first)≤m.clock;split;exact bp _;exact h.num.2 (by assumption)⟩
 refine⟨cf,bS,aW ⟨_,rfl,((m.c1+1:Nat):Int),by rw[ff];exact d.v.cell,fun a=>(yE d hg).use ?_,fun a=>?_⟩⟩
 · rintro _ o ⟨rfl,po,k⟩
   have a:((m.c1+1:Nat):Int)≥(batch:Nat):=b1 a
   refine⟨rfl,rfl,(jZ.trans gZ).trans po,?_⟩
   unfold cS.more
   rw[if_pos (by omega)];exact k
 · have a:¬((m.c1+1:Nat):Int)≥(batch:Nat):=cu a
   refine⟨rfl,jZ.trans gZ,?_⟩
   unfold cS.more
   rw[if_neg (by omega)];exact d
theorem HK(h:eu B w a8 m)(hB:∀q,w.heap.size<=q->B q)(hg:m.bY<1000000000000){n dX:Nat}(l:n<18446744073709551616):aQ aj 106 #[.pointer (some a8),.int .u64 (n:Nat),.int .u64 (dX:Nat)] w (λv w'=>v=.tuple #[]/\ad (λq=>q=a8) w w'/\eu B w' a8 (m.tick n dX)):=by
 have d:=h.num;refine okF (af.u9 (some a8) (n:Nat) (dX:Nat)) aA.u9 func106 ?_;(delta af.u9 bD ak st r1 aU;dsimp only);refine ij (λb=>ad (λq=>q=a8) w b/\eu B b a8 (m.jt n)) (λq f=>⟨_,rfl,_,by rw[ff];exact h.v.cell,λa=>⟨_,rfl,?_⟩,λa=>f _ ⟨.refl _ _,?_⟩⟩) ?_
 .have a:(n:Int)>(m.clock:Nat):=b1 a
  rw[ff,cB];obtain⟨a1,a2,g,du⟩:=h.set (i:=3) (x:=.int .u64 (n:Nat)) (m.jt n) (by decide) (by unfold cS.jt;rw[Nat.max_eq_right I];rfl) rfl rfl h.sure ⟨by show max m.clock n<_;omega,λh0=>by have:=d.2 h0;show m.first<=max m.clock n;omega⟩;exact⟨a1,a2,aW (f _ ⟨du,g⟩)⟩
 .have a:¬(n:Int)>(m.clock:Nat):=cu a
  unfold cS.jt;rw[Nat.max_eq_left I];exact h
 rintro b ⟨b_,j⟩;have c:=j.ext (cj b);have kx:=b_.trans (ad.cF (cj b):ad (λq=>q=a8) b b.drew);refine aW ⟨_,rfl,id,_,by rw[ff];exact c.v.cell,λa=>⟨_,rfl,id,_,by rw[ff];exact c.v.cell,_,rfl,id,_,by rw[ff];exact c.v.cell,?_⟩,λa=>⟨λh=>(by cases h),λ_=>⟨rfl,kx,?_⟩⟩⟩
 .have a:(m.c1:Int)>0:=b1 a
  have o:=c.num;have e:IntKind.wrap .u64 (((m.jt n).clock:Nat)-((m.jt n).first:Nat))=((max m.clock n-m.first:Nat):Int):=by
   have h1:m.first<=max m.clock n:=by have:=d.2 I;omega
   have h2:max m.clock n<18446744073709551616:=by omega
   show IntKind.wrap .u64 (((max m.clock n:Nat):Int)-(m.first:Int))=_;rw[gQ I I];omega
  have p:∀x:Prop,(decide (IntKind.wrap .u64 (((m.jt n).clock:Nat)-((m.jt n).first:Nat))>=(dX:Int))=true->x)->(dX<=max m.clock n-m.first->x):=λx hx hd=>hx (dK (by rw[e];omega));refine⟨λhc=>(yE c hg).use ?_,λhc=>⟨rfl,kx,?_⟩⟩
  .rintro _ r ⟨rfl,po,k⟩
   have hc:=b1 hc;rw[e]at hc;refine⟨rfl,rfl,kx.trans po,?_⟩;unfold cS.tick;rw[if_pos ⟨I,I⟩];exact k
  .have hc:=cu hc
   rw[e]at hc;unfold cS.tick;rw[if_neg I];exact c
 .have a:¬(m.c1:Int)>0:=cu a
  unfold cS.tick;rw[if_neg I];exact c
end
structure cZ where
 root:Nat
 aH:Nat
 map:Nat
 clock:Nat
 bY:Nat
 keys:Nat
 deriving DecidableEq
def gC:cZ:=⟨0,0,0,0,0,0⟩
def cZ.c(u:cZ):O aa:=[u.root,u.aH,u.map,.int .u64 (u.clock:Nat),.int .u64 (u.bY:Nat),u.keys]
structure nt(u:cZ):Prop where
 root:u.root<4294967296
 aH:u.aH<256
 map:u.map<4294967296
 clock:u.clock<18446744073709551616
 bY:u.bY<18446744073709551616
 keys:u.keys<4294967296
def g3(u:cZ)(n:Nat):O UInt8:=[]++b9 u.root 4++b9 u.aH 1++b9 u.map 4++b9 n 4++b9 u.clock 8++b9 u.bY 8++b9 u.keys 4
def oL(b:O UInt8):cZ:=⟨dg b 0 4,dg b 4 1,dg b 5 4,dg b 13 8,dg b 21 8,dg b 29 4⟩
def kf(u:cZ)(n:Nat):Prop:=(u.root=0↔u.aH=0)/\u.aH<=12/\u.root<n/\u.map<n/\2<=u.map/\n<=1600
instance IZ(u:cZ)(n:Nat):Decidable (kf u n):=by unfold kf;infer_instance
def gV(no:Int)(l:O UInt8):Except Int (cZ×Nat×Nat):=match dS no l with
 | .error e=>.error e
 | .ok p=>if p.kind≠3\/p.body.length≠33 then .error 4 else if kf (oL p.body) (dg p.body 9 4) then .ok (oL p.body,dg p.body 9 4,p.gen) else .error 4
theorem CE(u:cZ)(n:Nat):(g3 u n).length=33:=by simp[g3,e5]
theorem HL{u:cZ}{n:Nat}(h:nt u)(c:n<4294967296):oL (g3 u n)=u/\dg (g3 u n) 9 4=n:=by
 have e:∀ {k x m:Nat} (a b:O UInt8),g3 u n=a++(b9 x k++b)->a.length=m->x<256^k->dg (g3 u n) m k=x:=λa b he d hx=>by rw[he];exact rI d hx
 have f:=h.keys;refine⟨?_,e (b9 u.root 4++b9 u.aH 1++b9 u.map 4) (b9 u.clock 8++(b9 u.bY 8++b9 u.keys 4)) (by simp[g3]) (by simp[e5]) c⟩;unfold oL;rw[e (m:=0) [] (b9 u.aH 1++(b9 u.map 4++(b9 n 4++(b9 u.clock 8++(b9 u.bY 8++b9 u.keys 4))))) (by simp[g3]) rfl h.root,
  e (b9 u.root 4) (b9 u.map 4++(b9 n 4++(b9 u.clock 8++(b9 u.bY 8++b9 u.keys 4)))) (by simp[g3]) (by simp[e5]) h.aH,
  e (b9 u.root 4++b9 u.aH 1) (b9 n 4++(b9 u.clock 8++(b9 u.bY 8++b9 u.keys 4))) (by simp[g3]) (by simp[e5]) h.map,
  e (b9 u.root 4++b9 u.aH 1++b9 u.map 4++b9 n 4) (b9 u.bY 8++b9 u.keys 4) (by simp[g3]) (by simp[e5]) h.clock,
  e (b9 u.root 4++b9 u.aH 1++b9 u.map 4++b9 n 4++b9 u.clock 8) (b9 u.keys 4) (by simp[g3]) (by simp[e5]) h.bY,
  e (b9 u.root 4++b9 u.aH 1++b9 u.map 4++b9 n 4++b9 u.clock 8++b9 u.bY 8) [] (by simp[g3]) (by simp[e5]) f]
def jf(u:cZ)(n gen:Nat):iq:=⟨3,gen,g3 u n⟩
theorem yF{u:cZ}{n gen:Nat}(hg:gen<18446744073709551616):m9 (jf u n gen):=⟨(by decide:1<=3),(by decide:3<=4),hg,by show(g3 u n).length<=232;rw[CE];decide⟩
theorem CF{u:cZ}{n gen no:Nat}(h:nt u)(hu:kf u n)(hg:gen<18446744073709551616)(a:no<1600):gV no (eI no (jf u n gen))=.ok (u,n,gen):=by
 unfold gV;rw[vq a (yF hg)];have b:n<4294967296:=by have:=hu.2.2.2.2.2;omega
 obtain⟨h1,h2⟩:=HL h b;show(if (3:Nat)≠3\/(g3 u n).length≠33 then _ else if kf (oL (g3 u n)) (dg (g3 u n) 9 4) then Except.ok (oL (g3 u n),dg (g3 u n) 9 4,gen) else _)=_;rw[h1,h2,if_neg (by rw[CE];simp),if_pos hu]
section
variable {w w':J}{h:Nat}{vs:O aa}{u:cZ}
theorem cZ.plain(u:cZ):∀v∈u.c,Plain v:=by
 intro v a;simp only[cZ.c,cU,eL,eO]at a;rcases a with rfl|rfl|rfl|rfl|rfl|rfl<;>trivial
theorem gW(a:Var w h u.c 104){K:Int->Int->Int->Int->Int->Int->Prop}(e:K (u.root:Nat) (u.aH:Nat) (u.map:Nat) (u.clock:Nat) (u.bY:Nat) (u.keys:Nat)):
 ∃bW:Int,w.cell? h=some (.int .i64 bW)/\∃bw:Int,w.cell? (Addr.add h 1)=some (.int .i64 bw)/\∃b:Int,w.cell? (Addr.add h 2)=some (.int .i64 b)/\
  ∃d:Int,w.cell? (Addr.add h 3)=some (.int .u64 d)/\∃n5:Int,w.cell? (Addr.add h 4)=some (.int .u64 n5)/\∃n6:Int,w.cell? (Addr.add h 5)=some (.int .i64 n6)/\K bW bw b d n5 n6:=
 ⟨_,a.cell,_,by rw[aw];exact a.cell,_,by rw[aw];exact a.cell,_,by rw[aw];exact a.cell,_,by rw[aw];exact a.cell,_,by rw[aw];exact a.cell,e⟩
theorem jN(a:Var w h vs 104)(b:vs.length=6)(u:cZ){K:J->Prop}(d:∀ah,Var ah h u.c 104->ad (λq=>q=h) w ah->ah.heap.size=w.heap.size->K ah):
 bA w h [u.root,u.aH,u.map,.int .u64 (u.clock:Nat),.int .u64 (u.bY:Nat),u.keys]/\(6:Nat)=6/\
  al (setCells w h 0 [u.root,u.aH,u.map,.int .u64 (u.clock:Nat),.int .u64 (u.bY:Nat),u.keys]) K:=
 ⟨a.cc (by rw[b];rfl) u.plain,rfl,cw a (us:=u.c) (by rw[b];rfl) rfl λah e hc f=>d ah e hc f⟩
end
theorem pC{w:J}{u:cZ}(h:nt u){n:Nat}(y:n<4294967296):aQ aj 138 #[.agg u.c.toArray,n] w (λv w'=>∃s:Y,v=s/\ba 1 5 w' s (aJ (g3 u n))/\Ext w w'/\gT w s):=by
 have h1:=h.root;have h2:=h.aH;have z:=h.map;have W:=h.clock;have X:=h.bY;have A:=h.keys;have a:∀ {x:Nat},x<4294967296->IntKind.wrap .u64 (x:Int)=(x:Int):=λ{x} hx=>gQ I I;refine okF (af.pC (u.root:Nat) (u.aH:Nat) (u.map:Nat) (u.clock:Nat) (u.bY:Nat) (u.keys:Nat) (n:Nat)) aA.pC func138 ?_;(delta af.pC r1 U bc bD;dsimp only);refine bj (vs:=u.c) rfl λw1 b B Z=>⟨_,b.cell,?_⟩;rw[a h1];refine(ik (s:=⟨none,0,0⟩) (l:=[]) (ba.none 1 5 w1).src (cG _) (n:=u.root) I (by decide)).use ?_;rintro _ ah ⟨s2,rfl,C,d,aa⟩;have e:=b.ext d;refine⟨s2,rfl,_,by rw[aw];exact e.cell,?_⟩;rw[a (x:=u.aH) I];refine(ik C.src (by simp[e5]) (n:=u.aH) I (by decide)).use ?_;rintro _ ab ⟨D,rfl,E,f,ac⟩;have g:=e.ext f;refine⟨D,rfl,_,by rw[aw];exact g.cell,?_⟩;rw[a z];refine(ik E.src (by simp[e5]) (n:=u.map) I (by decide)).use ?_;rintro _ ad ⟨F,rfl,G,i,ae⟩;have H:=g.ext i;refine⟨F,rfl,?_⟩;rw[a y];refine(ik G.src (by simp[e5]) (n:=n) I (by decide)).use ?_;rintro _ ag ⟨K,rfl,L,j,ai⟩;have k:=H.ext j;refine⟨K,rfl,_,by rw[aw];exact k.cell,?_⟩;refine(ik L.src (by simp[e5]) (n:=u.clock) I (by decide)).use ?_;rintro _ ak ⟨M,rfl,N,m,al⟩;have o:=k.ext m;refine⟨M,rfl,_,by rw[aw];exact o.cell,?_⟩;refine(ik N.src (by simp[e5]) (n:=u.bY) I (by decide)).use ?_;rintro _ am ⟨O,rfl,P,p,an⟩;have Q:=o.ext p;refine⟨O,rfl,_,by rw[aw];exact Q.cell,?_⟩;rw[a A];refine(ik P.src (by simp[e5]) (n:=u.keys) I (by decide)).use ?_;rintro _ ao ⟨r,rfl,R,S,T⟩;have t:=Ext.trans (Ext.trans (Ext.trans (Ext.trans (Ext.trans (Ext.trans B d) f) i) j) m) p;refine⟨r,rfl,r,rfl,R,Ext.trans t S,λq V=>?_⟩;have:=T q V;have:=t.size;omega
theorem HM{w:J}{b:Y}{l:O UInt8}{aT a k:Nat}(f:Var w aT [b,a] 316)(hs:Src 1 w b (aJ l))(hc:b.len<=b.cap)(g:1<=k/\k<=8)(j:a+k<=l.length)(m:l.length<=1000):
 aQ aj 226 #[.pointer (some aT),k] w (λv w'=>v=.int .u64 (dg l a k:Nat)/\Var w' aT [b,.int .i64 ((a+k:Nat):Int)] 316/\ad (λq=>q=aT) w w'):=by
 refine af.EM _ (k:Nat) w _ ?_;(delta af.rD ag r1 kY st au;dsimp only);have d:=cj w;have c:=f.ext d;refine aW ⟨λ_=>False,_,rfl,id,b,c.cell,_,rfl,id,_,by rw[aw];exact c.cell,(kZ (hs.ext d) hc g j I).use ?_⟩;rintro _ _ ⟨rfl,rfl⟩;obtain⟨bE,bG⟩:=dP c (i:=1) (by simp);refine⟨_,true,rfl,_,rfl,_,by rw[aw];exact c.cell,_,rfl,by rw[aw];exact bE,by rw[aw];exact bG,aW ⟨rfl,?_,?_⟩⟩
 .rw[aw]
  have h1:=dT c (i:=1) (.int .i64 (IntKind.wrap .i64 ((a:Nat)+(k:Nat))));have e:IntKind.wrap .i64 ((a:Int)+(k:Int))=((a+k:Nat):Int):=by rw[bx I I];omega
  rw[e]at h1⊢;exact h1
 .rw[aw]
  exact cy (d.mono λ_ _ h=>h.elim) (dp _ _ _ _) λq _ e=>e
def CG:Except Int (cZ×Nat×Nat)->aa
 | .ok (u,n,g)=>.tuple #[.agg u.c.toArray,n,.int .u64 (g:Nat),(0:Int)]
 | .error e=>.tuple #[.agg gC.c.toArray,(0:Int),.int .u64 0,e]
theorem yG{no:Int}{l:O UInt8}{e:Int}(h:dS no l=.error e):e≠0:=by
 unfold dS at h
 repeat' split at h
 all_goals first|(cases h;decide)|cases h
theorem pH{s:Y}{l:O UInt8}{w:J}(hs:Src 1 w s (aJ l))(hc:s.len<=s.cap)(aP:l.length<=1000)(no:Int):
 aQ aj 171 #[.int .i64 no,.slice s.a s.len s.cap] w (λv w'=>v=CG (gV no l)/\Ext w w'):=by
 refine okF (af.pH no s) aA.pH func171 ?_;(delta af.pH g8 lB z3 U ak r1 bD ag w9 gw st au;dsimp only);refine bj (vs:=gC.c) rfl λw1 ai H bF=>(mY (hs.ext H) hc aP no).use ?_;rintro _ ah ⟨r,W⟩;obtain⟨d,aR⟩:∃d,d=w.heap.size:=⟨_,rfl⟩;rw[←aR]at ai⊢;have L:=ai.ext W
 cases B:dS no l with
 |error e=>
  rw[B]at r;have X:=yG B;have hd:gV no l=.error e:=by unfold gV;rw[B]
  rw[hd];obtain rfl:_=_:=r;refine⟨0,0,⟨none,0,0⟩,e,rfl,bj (vs:=[.int .i64 0,.int .u64 0,.slice none 0 0]) rfl λaS M am aU=>⟨M.cc rfl (λv N=>?_),rfl,cw M (us:=[.int .i64 0,.int .u64 0,.slice none 0 0]) rfl rfl λC t an aV=>⟨λ_=>?_,λh=>?_⟩⟩⟩
  .simp only[cU,eL,eO]at N
   rcases N with rfl|rfl|rfl<;>trivial
  .have y:Ext ah C:=Ext.cn am an (bp _)
   have m:=L.ext y;refine gW (u:=gC) m (jN m rfl gC λD ao aX bH=>gW (u:=gC) ao ⟨rfl,?_⟩);exact Ext.cn (Ext.trans (Ext.trans H W) y) aX I
  .simp at h;exact absurd h X
 |ok p=>
  rw[B]at r;obtain⟨sb,rfl,Z,aY⟩:=r;refine⟨_,_,sb,0,rfl,bj (vs:=[.int .i64 0,.int .u64 0,.slice none 0 0]) rfl λaS M am aU=>⟨M.cc rfl (λv N=>?_),rfl,cw M (us:=[.int .i64 (p.kind:Nat),.int .u64 (p.gen:Nat),.slice sb.a sb.len sb.cap]) rfl rfl λC t an aV=>⟨λh=>(by simp at h),λ_=>⟨_,t.cell,?_⟩⟩⟩⟩
  .simp only[cU,eL,eO]at N
   rcases N with rfl|rfl|rfl<;>trivial
  have y:Ext ah C:=Ext.cn am an (bp _);have ap:=Ext.trans (Ext.trans H W) y;obtain⟨P,aZ⟩:∃P,P=ah.heap.size:=⟨_,rfl⟩;rw[←aZ]at t⊢;have m:=L.ext y;have a0:sb.len=p.body.length:=by have:=Z.1;rw[ez]at this;omega
  have bI:=(Ext.trans H W).size;have a1:p.kind≠3\/p.body.length≠33->gV no l=.error 4:=λh=>by
   unfold gV;rw[B];exact if_pos h
  refine cd (λb w'=>b=decide (p.kind≠3\/p.body.length≠33)/\C=w') (λq f=>⟨λh=>f _ _ ⟨?_,rfl⟩,λh=>⟨sb,by rw[aw];exact t.cell,f _ _ ⟨?_,rfl⟩⟩⟩) ?_
  .have:p.kind≠3:=λe=>by rw[e]at h;simp at h
   rw[dK (.inl this)]
  .have a2:p.kind=3:=by
    have:((p.kind:Nat):Int)=3:=by simpa using h
    omega
   rw[a0,fV,cQ];constructor
   .intro Q
    refine .inr λe=>?_;rw[e]at Q;simp at Q
   .rintro(Q|Q)
    .exact absurd a2 Q
    .rw[bne_iff_ne];omega
  rintro _ _ ⟨rfl,rfl⟩;have aF:∀ {D:J}{vs:O aa},Var D d vs 104->vs.length=6->Ext w D->(gV no l=.error 4)->bA D ⟨d,0,none⟩ [.int .i64 0,.int .i64 0,.int .i64 0,.int .u64 0,.int .u64 0,.int .i64 0]/\(6:Nat)=6/\al (setCells D ⟨d,0,none⟩ 0 [.int .i64 0,.int .i64 0,.int .i64 0,.int .u64 0,.int .u64 0,.int .i64 0]) λo=>
   ∃bW:Int,o.cell? ⟨d,0,none⟩=some (.int .i64 bW)/\∃bw:Int,o.cell? (Addr.add ⟨d,0,none⟩ 1)=some (.int .i64 bw)/\∃aG:Int,o.cell? (Addr.add ⟨d,0,none⟩ 2)=some (.int .i64 aG)/\
   ∃aI:Int,o.cell? (Addr.add ⟨d,0,none⟩ 3)=some (.int .u64 aI)/\∃n5:Int,o.cell? (Addr.add ⟨d,0,none⟩ 4)=some (.int .u64 n5)/\∃n6:Int,o.cell? (Addr.add ⟨d,0,none⟩ 5)=some (.int .i64 n6)/\
   (Value.tuple #[.agg #[.int .i64 bW,.int .i64 bw,.int .i64 aG,.int .u64 aI,.int .u64 n5,.int .i64 n6],.int .i64 0,.int .u64 0,.int .i64 4]=CG (gV no l)/\Ext w o):=by
   intro D vs ao a3 a4 hd;rw[hd];exact jN ao a3 gC λo a5 a6 bJ=>gW (u:=gC) a5 ⟨rfl,Ext.cn a4 a6 I⟩
  refine⟨λh=>?_,λh=>?_⟩
  .exact gW (u:=gC) m (aF m rfl ap (a1 (b1 h)))
  have aq:=cu h;have bK:p.kind=3:=oX λh=>aq (.inl h);have bL:p.body.length=33:=oX λh=>aq (.inr h);have a7:=(Z.ext y).src;have a8:sb.len<=sb.cap:=Z.2.1;have aK:∀q,aB sb q->q<C.heap.size:=(Z.ext y).lt;refine⟨sb,by rw[aw];exact t.cell,bj (vs:=[.slice sb.a sb.len sb.cap,.int .i64 ((0:Nat):Int)]) rfl λa9 aL ac bM=>?_⟩;obtain⟨aT,a_⟩:∃aT,aT=C.heap.size:=⟨_,rfl⟩;rw[←a_]at aL aK⊢;have X:aT≠d:=by have:=m.lt;omega
  have ba:aT≠P:=by have:=t.lt;omega
  have bb:=a7.ext ac;have bc:=m.ext ac;have bd:=t.ext ac;have be:=Ext.trans ap ac;have bf:w.heap.size<=aT:=by have:=ap.size;omega
  obtain⟨bZ,E⟩:∃bZ:J->O aa->Nat->Prop,bZ=λw' vs a=>Var w' aT [.slice sb.a sb.len sb.cap,.int .i64 ((a:Nat):Int)] 316/\Src 1 w' sb (aJ p.body)/\Var w' d vs 104/\Var w' P [.int .i64 (p.kind:Nat),.int .u64 (p.gen:Nat),.slice sb.a sb.len sb.cap] 150/\Ext w w':=⟨_,rfl⟩;have bg:∀q,aB sb q->q≠d:=λq f e=>by
   have:=aY q f;have:=L.lt;have:=H.size;have:=ai.lt;omega
  have z:∀ {w':J}{vs:O aa}{a k:Nat}{R:Ending->J->Prop},bZ w' vs a->1<=k/\k<=8->a+k<=33->(∀g,bZ g vs (a+k)->R (.returned (.int .u64 (dg p.body a k:Nat))) g)->Calls aj 226 #[.pointer (some ⟨aT,0,none⟩),.int .i64 (k:Nat)] w' R:=by
   intro w' vs a k R A ar bN bh;rw[E]at A;obtain⟨bE,bG,S,ay,az⟩:=A;refine(HM bE bG a8 ar I I).use ?_;rintro _ g ⟨rfl,av,ax⟩;refine bh g ?_;rw[E];exact⟨av,bG.ab ax λq f e=>by have:=aK q f;omega,S.ab ax (λe=>X e.symm),ay.ab ax (λe=>ba e.symm),Ext.cn az ax bf⟩
  have jY:∀ {w':J}{vs:O aa}{a:Nat} (j:Nat) (v:aa) {K:J->Prop},bZ w' vs a->j<vs.length->(∀g,bZ g (vs.set j v) a->K g)->(∃u:aa,w'.cell? ⟨d,j,none⟩=some u)/\w'.frozen? ⟨d,j,none⟩=false/\al (w'.setCell ⟨d,j,none⟩ v) K:=by
   intro w' vs a j v K A ad aC;rw[E]at A;obtain⟨bE,bG,S,ay,az⟩:=A;have hc:=dp w' d j v;refine⟨(dP S ad).1,(dP S ad).2,aW (aC _ ?_)⟩;rw[E];exact⟨bE.ab hc X,bG.ab hc bg,dT S v,ay.ab hc (λe=>by have:=m.lt;have:=L.lt;omega),Ext.cn az hc I⟩
  have T:∀ {w':J}{vs:O aa}{a:Nat} (j:Nat) (v:aa) {K:J->Prop},bZ w' vs a->j<vs.length->(∀g,bZ g (vs.set j v) a->K g)->(∃u:aa,w'.cell? (Addr.add ⟨d,0,none⟩ j)=some u)/\w'.frozen? (Addr.add ⟨d,0,none⟩ j)=false/\al (w'.setCell (Addr.add ⟨d,0,none⟩ j) v) K:=by
   intro w' vs a j v K A ad aC;rw[aw,cB];exact jY j v A ad aC
  have bi:bZ a9 gC.c 0:=by rw[E];exact⟨aL,bb,bc,bd,be⟩
  have ae:∀a,a+4<=33->dg p.body a 4<4294967296:=λa bk=>m6 4 _ (by rw[cC,c_];omega);have bl:dg p.body 4 1<256:=m6 1 _ (by rw[cC,c_];omega);have bO:∀a,a+8<=33->dg p.body a 8<18446744073709551616:=λa bk=>m6 8 _ (by rw[cC,c_];omega);have V:∀ {x:Nat},x<4294967296->IntKind.wrap .i64 ((x:Nat):Int)=((x:Nat):Int):=λhx=>bx I I;refine z (k:=4) bi (by decide) (by decide) λbP t43=>⟨_,rfl,z (k:=1) t43 (by decide) (by decide) λbQ t46=>⟨_,rfl,z (k:=4) t46 (by decide) (by decide) λbR t49=>⟨_,rfl,?_⟩⟩⟩;rw[V (ae 0 (by decide)),V (x:=dg p.body (0+4) 1) (by have:=bl;show dg p.body 4 1<_;omega),V (ae (0+4+1) (by decide))];refine jY 0 _ t49 (by simp[gC,cZ.c]) λbT t52=>T 1 _ t52 (by simp[gC,cZ.c]) λbU t53=>T 2 _ t53 (by simp[gC,cZ.c]) λbV t54=>?_;refine(z (k:=4) t54 (by decide) (by decide) λbX t55=>⟨_,rfl,z (k:=8) t55 (by decide) (by decide) λbY t58=>⟨_,rfl,z (k:=8) t58 (by decide) (by decide) λb0 t61=>⟨_,rfl,z (k:=4) t61 (by decide) (by decide) λb2 t64=>⟨_,rfl,?_⟩⟩⟩⟩);rw[V (ae (0+4+1+4) (by decide)),V (ae (0+4+1+4+4+8+8) (by decide))];refine T 3 _ t64 (by simp[gC,cZ.c]) λb3 t67=>T 4 _ t67 (by simp[gC,cZ.c]) λb4 t68=>T 5 _ t68 (by simp[gC,cZ.c]) λF t69=>?_;obtain⟨u,hu⟩:∃u,u=oL p.body:=⟨_,rfl⟩;obtain⟨n,aM⟩:∃n,n=dg p.body 9 4:=⟨_,rfl⟩;rw[E]at t69;obtain⟨_,_,i,bm,aN⟩:=t69;have i:Var F d u.c 104:=by rw[hu];exact i
  have r:gV no l=if kf u n then .ok (u,n,p.gen) else .error 4:=by
   unfold gV;rw[B,hu,aM];exact if_neg aq
  rw[show dg p.body (0+4+1+4) 4=n from aM.symm];refine⟨(u.root:Nat),i.cell,(u.aH:Nat),by rw[aw];exact i.cell,cd (λb w'=>b=(!((((u.root:Nat):Int)==0)==(((u.aH:Nat):Int)==0))||decide (((u.aH:Nat):Int)>12))/\F=w') (λq f=>⟨λh=>f _ _ ⟨by rw[h,Bool.true_or],rfl⟩,λh=>⟨_,by rw[aw];exact i.cell,f _ _ ⟨by rw[h,jS],rfl⟩⟩⟩) ?_⟩;rintro cf _ ⟨bn,rfl⟩;refine cd (λb w'=>b=(cf||decide (((u.root:Nat):Int)>=(n:Nat)))/\F=w') (λq f=>⟨λh=>f _ _ ⟨by rw[h,Bool.true_or],rfl⟩,λh=>⟨_,i.cell,f _ _ ⟨by rw[h,jS],rfl⟩⟩⟩) ?_;rintro bS _ ⟨bo,rfl⟩;refine cd (λb w'=>b=(bS||decide (((u.map:Nat):Int)>=(n:Nat)))/\F=w') (λq f=>⟨λh=>f _ _ ⟨by rw[h,Bool.true_or],rfl⟩,λh=>⟨_,by rw[aw];exact i.cell,f _ _ ⟨by rw[h,jS],rfl⟩⟩⟩) ?_;rintro bq _ ⟨br,rfl⟩;refine cd (λb w'=>b=(bq||decide (((u.map:Nat):Int)<2))/\F=w') (λq f=>⟨λh=>f _ _ ⟨by rw[h,Bool.true_or],rfl⟩,λh=>⟨_,by rw[aw];exact i.cell,f _ _ ⟨by rw[h,jS],rfl⟩⟩⟩) ?_;rintro bs _ ⟨bt,rfl⟩;have bu:(bs||decide (((n:Nat):Int)>1600))= !decide (kf u n):=by
   have bv:(((u.root:Nat):Int)==0)=decide (u.root=0):=by rw[fV];simp
   have bz:(((u.aH:Nat):Int)==0)=decide (u.aH=0):=by rw[fV];simp
   rw[bt,br,bo,bn,bv,bz,fV];unfold kf;by_cases h1:u.root=0<;>by_cases h2:u.aH=0<;>simp[h1,h2]<;>omega
  rw[bu];refine⟨λh=>?_,λh=>?_⟩
  .have bB:¬kf u n:=λhg=>by rw[dK hg]at h;cases h
   exact aF i rfl aN (by rw[r,if_neg bB])
  .have hg:kf u n:=oX λhg=>by rw[iV hg]at h;cases h
   rw[r,if_pos hg];have aD:=cj F;have aE:=i.ext aD;have bC:=bm.ext aD;have b5:d≠P:=by have:=m.lt;have:=L.lt;omega
   refine aW ⟨λ_=>False,id,gW aE ⟨id,_,by rw[aw];exact bC.cell,jN aE rfl u λb6 aO G b7=>⟨?_,gW aO ⟨rfl,Ext.cn (Ext.trans aN aD) G I⟩⟩⟩⟩;refine⟨G.os,G.tape,G.output,G.size,λk ar _=>?_⟩;by_cases e:k=d
   .rw[e];exact aO.trans aE.symm
   .exact G.block k ar e
section
variable {α:Type}{P:Program}{w w':J}{hO fu T:TypeId}{enc:α->aa}{r m:Nat}{L:O (α×aa×Nat)}{seen:O Nat}
structure kJ(w:J)(r m:Nat)(enc:α->aa)(L:O (α×aa×Nat))(seen:O Nat):Prop where
 it:∃a:Nat,w.heap[r]? =some (.mapIter (some m) a seen.toArray a)/\w.heap[m]? =some (.map (L.map (dV enc)).toArray a)/\∀x∈L,x.2.2<a
 bn:(L.map (·.2.2)).Nodup
def gq(L:O (α×aa×Nat))(seen:O Nat):O (α×aa×Nat):=L.filter λx=> !seen.contains x.2.2
theorem CH(P:Program){n:Nat}(b:1<=n)(w:J):∃ (i:Nat) (w':J),i<n/\(choose (.mapNext n)).run P w=.ok i w'/\(w'=w\/w'=w.drew):=by
 by_cases h:n<=1
 .refine⟨0,w,I,?_,.inl rfl⟩
  show Sem.run P (.choose (.mapNext n) .pure) w=_;have a:(Question.mapNext n).forced=true:=by simp[Question.forced,h]
  simp only[Sem.run,a,if_true]
 .refine⟨(Question.mapNext n).cut (w.tape w.drawn (.mapNext n)),w.drew,g6 _ I,?_,.inr rfl⟩
  show Sem.run P (.choose (.mapNext n) .pure) w=_;have a:(Question.mapNext n).forced=false:=by simp[Question.forced,h]
  simp only[Sem.run,a,fN,if_false];rfl
theorem yH{a:aq Nat}{b d:Nat}{c:Array Nat}(h:w.heap[r]? =some (.mapIter a b c d)):(getObj r).run P w=.ok (.mapIter a b c d) w:=by simp[getObj,Sem.run,h]
theorem HN{a:aq Nat}{b d:Nat}{c:Array Nat}(h:w.heap[r]? =some (.mapIter a b c d))(e:Obj):(setObj r e).run P w=.ok () (iE w r e):=by simp[setObj,Sem.run,h,iE]
theorem kJ.begin{M:O (α×aa)}(h:eG w m enc M){T:TypeId}{hO fu:TypeId}(b:P.underlying T=some (.map hO fu)):∃ (L:O (α×aa×Nat)) (w1:J),(L.map lz).Perm M/\(Instr.range T (.map (some m))).run P w=.ok (.pointer (some w.heap.size)) w1/\kJ w1 w.heap.size m enc L []/\Ext w w1/\w1.heap.size=w.heap.size+1:=by
 have aK:=h.lt;obtain⟨L,a,h1,h2,e,c,d⟩:=h;refine⟨L,w.alloc (.mapIter (some m) a #[] a),h2,?_,⟨⟨a,?_,?_,d⟩,c⟩,ad.alloc (.refl _ _) _,by simp⟩
 .simp only[Instr.range,Sem.run_bind,dm b,Result.andThen,l5 h1,Sem.run_pure,newObj,Sem.run]
  rfl
 .show(w.heap.push _)[w.heap.size]? =_
  simp
 .show(w.heap.push _)[m]? =_
  rw[Array.getElem?_push_lt aK];exact(Array.getElem?_eq_getElem aK).symm.trans h1
theorem kJ.next(h:kJ w r m enc L seen)(E:r≠m)(T:TypeId):
 (gq L seen=[]/\∃w1,(Instr.next (.pointer (some r)) false T).run P w=.ok (.tuple #[false]) w1/\Ext w w1/\w1.heap=w.heap)\/
 (∃x∈gq L seen,∃w1,(Instr.next (.pointer (some r)) false T).run P w=.ok (.tuple #[true,enc x.1,x.2.1]) w1/\kJ w1 r m enc L (seen++ [x.2.2])/\ad (λq=>q=r) w w1/\w1.heap.size=w.heap.size/\(Instr.entry (.pointer (some r))).run P w1=.ok (.tuple #[enc x.1,x.2.1]) w1):=by
 obtain⟨⟨a,h1,h2,d⟩,j⟩:=h;have k:(!seen.toArray.isEmpty&& !((L.map (dV enc)).toArray).isEmpty&&((L.map (dV enc)).toArray).all λe=>decide (e.born>=a))=false:=by
  cases L with
  |nil=>simp
  |cons x L=>
   have:¬a<=x.2.2:=by have:=d x (by simp);omega
   simp[dV,this]
 have f:((L.map (dV enc)).toArray.filter λe=> !seen.toArray.contains e.born)=((gq L seen).map (dV enc)).toArray:=by
  rw[List.filter_toArray,List.filter_map]
  congr 1
  unfold gq
  congr 1
  apply List.filter_congr;intro x _;simp only[Function.comp,dV,List.contains_toArray]
 have aK:∀x∈gq L seen,x.2.2<a:=λx hx=>d x (hJ.1 hx).1;have hold:(((gq L seen).map (dV enc)).toArray.filter λe=>decide (e.born<a))=((gq L seen).map (dV enc)).toArray:=by
  rw[List.filter_toArray,jT.2];intro e he;obtain⟨x,hx,rfl⟩:=eE.1 he;exact dK (aK x hx)
 have g:(((gq L seen).map (dV enc)).toArray.filter λe=>decide (e.born>=a))= #[]:=by
  rw[List.filter_toArray,lT.2];intro e he;obtain⟨x,hx,rfl⟩:=eE.1 he;have:=aK x hx;have F:¬a<=x.2.2:=by omega
  simp[dV,F]
 cases b:gq L seen with
 |nil=>
  rw[b]at f hold g;obtain⟨i,w1,hi,hc,c⟩:=CH P (n:=1) (bp _) w;have G:i=0:=by omega
  subst G;refine .inl ⟨rfl,w1,?_,?_,?_⟩
  .simp only[Instr.next,Sem.run_bind,yH h1,Result.andThen,l5 h2,k,fN,if_false,f,hold,g]
   simp only[List.map_nil,Array.isEmpty,sx,jD,decide_true,if_true];have e:(#[none]++((#[]:Array MapEntry)++ #[]).map some:Array (aq MapEntry)).size=1:=by simp
   have o:((#[none]++((#[]:Array MapEntry)++ #[]).map some:Array (aq MapEntry)))[0]? =some none:=by simp
   simp only[e,Sem.run_bind,hc,Result.andThen,o,Sem.run_pure,Sem.run_pure]
  .rcases c with rfl|rfl
   .exact .refl _ _
   .exact ad.drew (.refl _ _)
  .rcases c with rfl|rfl<;>rfl
 |cons y l=>
  right;rw[←b];have v:1<=(gq L seen).length:=by rw[b];simp
  obtain⟨i,w1,hi,hc,c⟩:=CH P (n:=(gq L seen).length) v w;have p:w1.heap=w.heap:=by rcases c with rfl|rfl<;>rfl
  obtain⟨x,hx⟩:∃x,x=(gq L seen)[i]:=⟨_,rfl⟩;have s:x∈gq L seen:=by rw[hx];exact cE _
  have A:x∈L:=(hJ.1 s).1;have B:w1.heap[r]? =some (.mapIter (some m) a seen.toArray a):=by rw[p];exact h1
  have H:r<w1.heap.size:=(lS.1 B).1;have t:(iE w1 r (.mapIter (some m) a (seen.toArray.push x.2.2) a)).heap[r]? =some (.mapIter (some m) a (seen++ [x.2.2]).toArray a):=by
   rw[s7 H];simp
  have u:(iE w1 r (.mapIter (some m) a (seen.toArray.push x.2.2) a)).heap[m]? =some (.map (L.map (dV enc)).toArray a):=by
   have C:w1.heap[m]? =some (.map (L.map (dV enc)).toArray a):=by rw[p];exact h2
   rw[(q3 w1 r _).block m (lS.1 C).1 (λe=>E e.symm)];exact C
  refine⟨x,s,iE w1 r (.mapIter (some m) a (seen.toArray.push x.2.2) a),?_,⟨⟨a,t,u,d⟩,j⟩,?_,?_,?_⟩
  .simp only[Instr.next,Sem.run_bind,yH h1,Result.andThen,l5 h2,k,fN,if_false,f,hold,g]
   have I:((gq L seen).map (dV enc)).toArray.isEmpty=false:=by rw[b];rfl
   have e:((#[]:Array (aq MapEntry))++(((gq L seen).map (dV enc)).toArray++ #[]).map some).size=(gq L seen).length:=by simp
   have o:((#[]:Array (aq MapEntry))++(((gq L seen).map (dV enc)).toArray++ #[]).map some)[i]? =some (some (dV enc x)):=by
    simp[hi,hx]
   simp only[I,fN,if_false,e,Sem.run_bind,hc,Result.andThen,o,HN B,Sem.run_pure,dV]
  .have J:ad (λq=>q=r) w w1:=by
    rcases c with rfl|rfl
    .exact .refl _ _
    .exact ad.drew (.refl _ _)
   exact J.trans (q3 _ _ _)
  .rw[s6,p]
  .have K:(seen++ [x.2.2]).toArray.back? =some x.2.2:=by simp
   have hf:((L.map (dV enc)).toArray.find? λe=>e.born==x.2.2)=some (dV enc x):=by
    rw[List.find?_toArray,List.find?_map];have:L.find? ((λe:MapEntry=>e.born==x.2.2)∘dV enc)=some x:=by
     clear b v hi hc s hx t u f hold g aK k h2 d
     induction L with
     |nil=>cases A
     |cons z L M=>
      rw[ji]at j;obtain⟨bW,bw⟩:=List.nodup_cons.1 j;rw[List.find?_cons];rcases cU.1 A with rfl|D
      .simp[dV]
      .have N:z.2.2≠x.2.2:=λe=>bW (by rw[e];exact eE.2 ⟨x,D,rfl⟩)
       have:((λe:MapEntry=>e.born==x.2.2)∘dV enc) z=false:=by simp[dV,N]
       rw[this];exact M bw D
    rw[this];rfl
   have O:(a !=a)=false:=by simp
   simp only[Instr.entry,Sem.run_bind,yH t,Result.andThen,K,l5 u,O,fN,if_false,hf,Sem.run_pure,dV]
theorem eG.clear{M:O (α×aa)}(h:eG w m enc M){o:TypeId}(b:P.underlying T=some (.map hO fu)):∃w1,(Builtin.clear_ #[T] o #[.map (some m)]).run P w=.ok (.tuple #[]) w1/\eG w1 m enc ([]:O (α×aa))/\ad (λq=>q=m) w w1/\w1.heap.size=w.heap.size:=by
 have aK:=h.lt;obtain⟨L,a,h1,h2,c,d,e⟩:=h;refine⟨iE w m (.map #[] a),?_,⟨[],a,s7 aK _,by simp,by simp,by simp,by simp⟩,q3 _ _ _,s6 _ _ _⟩;unfold Builtin.clear_;simp only[qw,lg,Sem.run_bind,dm b,Result.andThen,l5 h1,wY h1,Sem.run_pure]
end
end Go.Proofs.YtkdhdlfonmgheaaGreat
