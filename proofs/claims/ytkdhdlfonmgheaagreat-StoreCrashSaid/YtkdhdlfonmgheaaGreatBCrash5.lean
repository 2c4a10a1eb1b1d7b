/- Contracts of the functions that the statement reaches, and the plain laws over them; each theorem stands with its conditions. -/
import Derived.Shelf.SlIterI.Nil
import Derived.Shelf.SortM.Plain
import Derived.Shelf.SortM.SortNone
import Derived.Test.YtkdhdlfonmgheaaGreatProg
import Derived.Test.YtkdhdlfonmgheaaGreatBCrash4
namespace Go.Proofs.YtkdhdlfonmgheaaGreat
open Go a8 Go.Proofs.Tryz
theorem Ci{l:O aH}{k:Key}(h:(ec l k).length=l.length):∀p∈l,p.1≠k:=by
 intro p a;unfold ec at h;have:=(jZ (p:=λp:aH=>decide (p.1≠k))).1 (List.Sublist.eq_of_length List.filter_sublist h);exact b8 (this p a)
theorem Cj{L A B M:O aH}{k:Key}(b:L=A++(M++B))(hu:ec L k=A++(ec M k++B)):eA L k=eA M k:=by
 have h1:(ec A k).length<=A.length:=nA _ _;have h2:(ec B k).length<=B.length:=nA _ _;have c:=congrArg List.length hu;rw[b,pX,pX]at c;simp only[cz]at c;have ar:=Ci (l:=A) (k:=k) I;have d:=Ci (l:=B) (k:=k) I;have e:A.find? (λp=>decide (p.1=k))=none:=jo.2 λp a=>by simpa using ar p a
 have f:B.find? (λp=>decide (p.1=k))=none:=jo.2 λp a=>by simpa using d p a
 unfold eA;rw[b,List.find?_append,List.find?_append,e,f];simp
theorem Ck{n:aD}{k:Key}(h:gT n):eA n.dL k=if hA n.keys k then n.vals[cO n.keys k]? else none:=by
 have s:=p0 n.keys k;have w:=h.fb;have t:∀ (j:Nat) (f:j<n.keys.length),j<cO n.keys k->bK n.keys[j] k:=λj f h1=>oh h1 f;have u:n.keys[cO n.keys k]? ≠some k->∀ (j:Nat) (f:j<n.keys.length),cO n.keys k<=j->bK k n.keys[j]:=λhe j f h1=>Cf w h1 f he;have l:n.dL=n.keys.zip n.vals:=rfl;unfold hA;rw[l];generalize cO n.keys k=i at s t u⊢;obtain⟨a,b,c,d,g,v,z,A,B,H,J,K,L⟩:=yw h s;have C:n.keys.zip n.vals=a.zip c++b.zip d:=by rw[g,v];exact og I
 have D:(a.zip c).find? (λp:aH=>decide (p.1=k))=none:=jo.2 λp l=>by
  have q:=(qA l).1;obtain⟨j,f,r⟩:=fi q;have h1:=t j (by rw[g,cz];omega) I;simp only[g,lW f,r]at h1;simpa using kC h1
 unfold eA;rw[C,List.find?_append,D];by_cases he:n.keys[i]? =some k
 .rw[if_pos (by simpa using he)]
  have E:∃m,b=k::m:=by
   cases b with
   |nil=>rw[g,kR I]at he;simp at he
   |cons y m=>
    rw[g,kR I,z,nw]at he;simp at he;exact⟨m,by rw[he]⟩
  obtain⟨m,rfl⟩:=E;obtain⟨x,o,rfl⟩:∃x o,d=x::o:=by
   cases d with
   |nil=>simp at B
   |cons x o=>exact⟨x,o,rfl⟩
  rw[v,kR I,A,nw];simp
 .rw[if_neg (by simpa using he)]
  have F:=u he;have G:(b.zip d).find? (λp:aH=>decide (p.1=k))=none:=jo.2 λp l=>by
   have q:=(qA l).1;obtain⟨j,f,r⟩:=fi q;have h1:=F (i+j) (by rw[g,cz];omega) I;have e:(a++b)[i+j]'(by rw[cz];omega)=b[j]:=by
    rw[nx I];congr 1;omega
   simp only[g,e,r]at h1;have:=kC h1;simpa using λh=>this h.symm
  rw[G];rfl
def yy(T:aN)(L:O aH)(key:Key)(w:J)(v:aa)(w':J):Prop:=
 ∃aF:b5,bJ w' (T.bm aF T.P)/\bQ T (T.bm aF T.P) w w' 30/\(∀j,aF.view j=T.C.view j)/\
  ((v=.tuple #[(),false,(0:Int)]/\(cw key->eA L key=none))\/
   (∃ (t:Y) (x:Key),v=.tuple #[t,true,(0:Int)]/\cw key/\eA L key=some x/\a_ (λq=>¬(T.bm aF T.P).M q) w' t x)\/
   (v=.tuple #[(),false,(3:Int)]/\cw key/\¬T.C.D.calm 30))
theorem yz{w:J}{T:aN}{pages:O Nat}{L:O aH}{tk:Y}{key:Key}(h:bJ w T)(S:gh T pages L)(aS:T.C.D.aQ<=800000000)(l:Src 1 w tk (aJ key))(v:∀q,aB tk q->q<w.heap.size/\¬T.M q):
 aR aj 80 #[.pointer (some T.aZ),tk] w (yy T L key w):=by
 have W:=len8 l;have aT:=h.num.2.1;have aV:T.bm T.C T.P=T:=rfl;refine okF (af.tY (some T.aZ) tk) aA.tY func80 ?_;(delta af.tY ak aO cc av bc ag cj U g0 aL;dsimp only);refine cq (λb w'=>b= !(decide (cw key))/\w=w') (λq m=>⟨λh=>(by cases h),λ_=>(mY w tk).use ?_⟩) ?_
 .rintro _ _ ⟨rfl,rfl⟩
  refine⟨_,rfl,m _ _ ⟨?_,rfl⟩⟩;unfold cw;rw[W]
 rintro _ _ ⟨rfl,rfl⟩;refine⟨λf=>⟨λh=>(by cases h),λ_=>?_⟩,λf=>?_⟩
 .have:¬cw key:=by simpa using f
  exact⟨T.C,h,(bQ.refl T w).mono I,λ_=>rfl,.inl ⟨rfl,λhx=>absurd hx this⟩⟩
 have hg:cw key:=by simpa using f
 obtain⟨steps,x,y⟩:=yx (k:=key) h S;refine(yi h I l v x).use ?_;rintro _ X ⟨aF,n,g,j,Z⟩;rcases Z with ⟨s,a,rfl,d,z⟩|⟨rfl,aa⟩
 rotate_left
 .exact⟨⟨none,0,0⟩,3,rfl,λ_=>⟨aF,n,g.mono I,j,.inr (.inr ⟨rfl,hg,λhc=>aa (gg hc I)⟩)⟩,λhx=>(by simp at hx)⟩
 have aW:s.len=a.length:=by
  have:=z.own.1;rw[gM _ (nj a)]at this;omega
 have aX:a.length=T.aI:=by
  have:=x.length;rw[←d,dU]at this;exact this
 refine⟨s,0,rfl,λhx=>⟨aF,n,g.mono I,j,.inl ⟨rfl,λ_=>?_⟩⟩,λhx=>?_⟩
 .have ac:a.length=0:=by
   have:(s.len:Int)=0:=by simpa using hx
   omega
  rcases y with ⟨_,_,_,ad⟩|⟨ae,bC,fc,dM,ah,ai,al,am,b3,_⟩
  .rw[ad];rfl
  .rw[b3]at d
   obtain⟨au,_⟩:=qi d;omega
 have ac:0<a.length:=by
  have:¬(s.len:Int)=0:=by simpa using hx
  omega
 have e:IntKind.wrap .i64 ((s.len:Int)-1)=((a.length-1:Nat):Int):=by rw[bA I I];omega
 obtain⟨A,ar,_,_,_,hu⟩:=z.at (i:=a.length-1) I;rcases y with ⟨h1,_⟩|⟨ae,bC,fc,dM,ah,ai,al,am,b3,ag,br,bc,a0,a1,a2,a3,a4,an,ao⟩
 .rw[h1]at d
  have:=congrArg List.length d;simp at this;omega
 have B:=d;rw[b3]at B;obtain⟨au,ay⟩:=qi B;rw[e,dd];generalize a5:(a[a.length-1]'I)=u at hu ay;obtain⟨a6,un,a7,K,V,D⟩:=u;obtain rfl:un=bC:=ay;refine⟨A,ar,⟨I,I⟩,_,hu.aC,K,hu.aU,V,hu.aO,D,hu.dg,bh (vs:=[false,(),(),()]) rfl λa8 E ap a9=>⟨E.b9 rfl fK,rfl,cr E (us:=dZ un K V D) rfl rfl λo F aq ba=>?_⟩⟩;have p:Ext X o:=Ext.cn ap aq (bl _);obtain⟨d0,d1,d2,d3⟩:=bH F;have bb:=(cH.eB (.inl bc) (by have:=h.nm _ _ br;omega));have aw:Src 1 o tk (aJ key):=(l.ab g.ab λq m ax=>(v q m).2 (aN.gl ax)).ext p;have G:bF (λq=>w.heap.size<=q/\¬(T.bm aF T.P).M q) o un K V D:=hu.bj.ext p;refine⟨_,d0,K,d1,V,d2,D,d3,(pF G aw bc.fb I).use ?_⟩;rintro _ az ⟨rfl,r⟩;have H:=p.trans r;have N:=n.ext H;have Q:bQ T (T.bm aF T.P) w az 30:=(g.trans (bQ.ext _ H)).mono I;have t:eA L key=eA un.dL key:=Cj an (ao (λL=>ec L key) (xq key));rw[Ck bc]at t;refine⟨_,_,rfl,λc=>⟨aF,N,Q,j,.inl ⟨rfl,λ_=>?_⟩⟩,λc=>?_⟩
 .have c:hA un.keys key=false:=by simpa using c
  rw[t,if_neg (by rw[c];simp)]
 .have c:hA un.keys key=true:=by simpa using c
  have aD:cO un.keys key<un.keys.length:=(iy.1 (b8 c)).1;have R:cO un.keys key<un.vals.length:=by rw[bc.len];exact aD
  obtain⟨f0,f1,f2,f3⟩:=bH (F.ext r);obtain⟨aE,dm,aG,aK,aM,aP,_⟩:=bq.at (G.ext r).vals R;refine⟨V,f2,aE,aG,aK,dm,aM,aF,N,Q,j,.inr (.inl ⟨dm,un.vals[cO un.keys key],rfl,hg,?_,a_.aY aP λq _ f=>f.2⟩)⟩;rw[t,if_pos c,dE R]
theorem Hg{n:aD}{k:Key}(h:gT n)(w:hA n.keys k=true):gT (lL n k)/\(lL n k).dL=ec n.dL k/\bM (lL n k)<=bM n/\n.keys.length=(lL n k).keys.length+1/\(∀s∈(lL n k).keys,s∈n.keys):=by
 have o:=p0 n.keys k;have A:=h.fb;have l:n.dL=n.keys.zip n.vals:=rfl;have he:n.keys[cO n.keys k]? =some k:=b8 w;rw[l];unfold lL;generalize cO n.keys k=i at o he⊢;obtain⟨a,b,c,d,j,m,q,B,r,C,H,D,J⟩:=yw h o;have g:n.keys.zip n.vals=a.zip c++b.zip d:=by rw[j,m];exact og I
 have E:∃e,b=k::e:=by
  cases b with
  |nil=>rw[j,kR I]at he;simp at he
  |cons y e=>
   rw[j,kR I,q,nw]at he;simp at he;exact⟨e,by rw[he]⟩
 obtain⟨e,rfl⟩:=E;obtain⟨x,f,rfl⟩:∃x f,d=x::f:=by
  cases d with
  |nil=>simp at r
  |cons x f=>exact⟨x,f,rfl⟩
 have au:n.keys.drop (i+1)=e:=by rw[j,show a++k::e=(a++ [k])++e by simp];exact drop_left' (by simp[q])
 have ay:n.vals.drop (i+1)=f:=by rw[m,show c++x::f=(c++ [x])++f by simp];exact drop_left' (by simp[B])
 rw[C,D,au,ay];have F:(a++k::e).Pairwise bK:=by rw[←j];exact A
 obtain⟨fN,dG,t⟩:=mH.1 F;have u:=jF.1 dG;have v:∀z,z∈a++e->z∈n.keys:=λz g=>by
  rw[j];simp only[cT,cU]at g⊢;rcases g with h1|h1
  .exact .inl h1
  .exact .inr (.inr h1)
 refine⟨⟨⟨λz g=>h.ok z (v z g),mH.2 ⟨fN,u.2,λy G z g=>t y G z (jW _ g)⟩⟩,h.leaf,?_,h.kids,λz g=>h.vals z ?_⟩,?_,?_,?_,v⟩
 .show(c++f).length=(a++e).length
  simp only[cz,e8]at r⊢;omega
 .rw[m]
  have g:z∈c++f:=g;simp only[cT,cU]at g⊢;rcases g with h1|h1
  .exact .inl h1
  .exact .inr (.inr h1)
 .show(a++e).zip (c++f)=_
  rw[g,og I,pX,List.zip_cons_cons];have f1:ec (a.zip c) k=a.zip c:=oe λp l=>kC (t _ (qA l).1 k List.mem_cons_self);have f2:ec ((k,x)::e.zip f) k=e.zip f:=by
   have:ec ((k,x)::e.zip f) k=ec (e.zip f) k:=by unfold ec;simp
   rw[this];exact oe λp l=>(kC (u.1 _ (qA l).1)).symm
  rw[f1,f2]
 .rw[qh h.leaf,qh (n:={n with keys:=a++e,vals:=c++f}) h.leaf]
  show 1+(List.zipWith kj (a++e) (c++f)).sum<=_;rw[j,m,oS I,oS I,lr,lr,List.zipWith_cons_cons,qC];omega
 .show n.keys.length=(a++e).length+1
  rw[j];simp only[cz,e8];omega
structure jh(T ao:aN):Prop where
 root:ao.root=T.root
 aI:ao.aI=T.aI
 f:ao.f=T.f
 eN:∀no,(T.f no||T.g no)=true->ao.P no=T.P no/\ao.C.view no=T.C.view no
theorem jh.refl(T:aN):jh T T:=⟨rfl,rfl,rfl,λ_ _=>⟨rfl,rfl⟩⟩
theorem jh.bm{T:aN}{aF:b5}(a:∀j,aF.view j=T.C.view j):jh T (T.bm aF T.P):=⟨rfl,rfl,rfl,λno _=>⟨rfl,a no⟩⟩
theorem jh.trans{T ao a:aN}(h1:jh T ao)(h2:jh ao a)(hg:ao.g=T.g):jh T a:=
 ⟨h2.root.trans h1.root,h2.aI.trans h1.aI,h2.f.trans h1.f,λno h=>by
  have b:=h1.eN no h
  have c:=h2.eN no (by rw[h1.f,hg];exact h)
  exact⟨c.1.trans b.1,c.2.trans b.2⟩⟩
structure Cl(T ao:aN)(aG:O Nat)(ef:O aH):Prop where
 ok:∃pages,cl T<=cl ao+(2*T.aI+3)/\gh ao pages ef/\pages.Nodup/\(∀no∈pages,no∈aG\/(T.f no||T.g no)=false)/\∀no,ao.f no=true↔(no∈pages\/(T.f no=true/\no∉aG))
 eN:∀no,T.g no=true->ao.P no=T.P no/\ao.C.view no=T.C.view no
theorem jh.ok{T ao:aN}{pages:O Nat}{L:O aH}(h:jh T ao)(a:gh T pages L)(hf:∀x∈pages,T.f x=true):gh ao pages L:=by
 unfold gh at a⊢;rw[h.root,h.aI];rcases a with a|b
 .exact .inl a
 .exact .inr (ej.agree b λx hx=>(h.eN x (by rw[hf x hx];rfl)).1.symm).1
def Hh(T:aN)(aG:O Nat)(L:O aH)(key:Key)(w:J)(v:aa)(w':J):Prop:=
 ∃ao:aN,bJ w' ao/\bQ T ao w w' 100/\ao.E=T.E/\ao.G=T.G/\
  ((v=.tuple #[false,(1:Int)]/\¬cw key/\jh T ao)\/
   (v=.tuple #[false,(0:Int)]/\cw key/\eA L key=none/\jh T ao)\/
   (v=.tuple #[false,(2:Int)]/\cw key/\eA L key≠none/\cl T<2*T.aI+3/\jh T ao)\/
   (v=.tuple #[true,(0:Int)]/\cw key/\eA L key≠none/\2*T.aI+3<=cl T/\Cl T ao aG (ec L key))\/
   (v=.tuple #[false,(3:Int)]/\cw key/\¬T.C.D.calm 100/\jh T ao))
theorem Hi{w:J}{T:aN}{pages:O Nat}{L:O aH}{tk:Y}{key:Key}(h:bJ w T)(aK:¬T.C.D.ro)(ad:gh T pages L)(aL:L.length<4096)(c9:pages.Nodup)(hf:∀x∈pages,T.f x=true)(bg:T.C.D.aQ<=800000000)
 (Q:Src 1 w tk (aJ key)) (ae:∀q,aB tk q->q<w.heap.size/\¬T.M q):
 aR aj 83 #[.pointer (some T.aZ),tk] w (Hh T pages L key w):=by
 have aM:=len8 Q;have bi:=h.num.2.1;refine okF (af.ua (some T.aZ) tk) aA.ua func83 ?_;(delta af.ua ak aO cc av bc ag iG cj U aC;dsimp only);refine cq (λb w'=>b= !(decide (cw key))/\w=w') (λq m=>⟨λh=>(by cases h),λ_=>(mY w tk).use ?_⟩) ?_
 .rintro _ _ ⟨rfl,rfl⟩
  refine⟨_,rfl,m _ _ ⟨?_,rfl⟩⟩;unfold cw;rw[aM]
 rintro _ _ ⟨rfl,rfl⟩;refine⟨λR=>⟨T,h,(bQ.refl T w).mono I,rfl,rfl,.inl ⟨rfl,by simpa using R,.refl T⟩⟩,λR=>?_⟩;have hg:cw key:=by simpa using R
 obtain⟨steps,ah,ai⟩:=yx (k:=key) h ad;refine(yi h I Q ae ah).use ?_;rintro _ aP ⟨aF,r,c,o,g⟩;rcases g with ⟨s,a,rfl,j,S⟩|⟨rfl,aS⟩
 rotate_left
 .exact⟨⟨none,0,0⟩,3,rfl,λ_=>⟨_,r,c.mono I,rfl,rfl,.inr (.inr (.inr (.inr ⟨rfl,hg,λhc=>aS (gg hc I),.bm o⟩)))⟩,λhx=>(by simp at hx)⟩
 have bo:s.len=a.length:=by
  have:=S.own.1;rw[gM _ (nj a)]at this;omega
 have bq:a.length=T.aI:=by
  have:=ah.length;rw[←j,dU]at this;exact this
 refine⟨s,0,rfl,λhx=>⟨_,r,c.mono I,rfl,rfl,.inr (.inl ⟨rfl,hg,?_,.bm o⟩)⟩,λhx=>?_⟩
 .have aT:a.length=0:=by
   have:(s.len:Int)=0:=by simpa using hx
   omega
  rcases ai with ⟨_,_,_,t⟩|⟨al,bC,fc,dM,am,an,ap,aq,b3,_⟩
  .rw[t];rfl
  .rw[b3]at j
   obtain⟨au,_⟩:=qi j;omega
 have aT:0<a.length:=by
  have:¬(s.len:Int)=0:=by simpa using hx
  omega
 have e:IntKind.wrap .i64 ((s.len:Int)-1)=((a.length-1:Nat):Int):=by rw[bA I I];omega
 obtain⟨A,ar,_,_,_,hu⟩:=S.at (i:=a.length-1) I;rcases ai with ⟨h1,_⟩|⟨al,bC,fc,dM,am,an,ap,aq,b3,ag,br,bc,aV,bs,aW,bt,aX,a0,aw⟩
 .rw[h1]at j
  have:=congrArg List.length j;simp at this;omega
 have F:=j;rw[b3]at F;obtain⟨au,ay⟩:=qi F;rw[e,dd];generalize bu:(a[a.length-1]'I)=u at hu ay;obtain⟨bv,un,bw,K,V,D⟩:=u;obtain rfl:un=bC:=ay;have bx:=(cH.eB (.inl bc) (by have:=h.nm _ _ br;omega));have a1:Src 1 aP tk (aJ key):=Q.ab c.ab λq m a2=>(ae q m).2 (aN.gl a2);have W:eA L key=eA un.dL key:=Cj a0 (aw (λL=>ec L key) (xq key));rw[Ck bc]at W;refine⟨A,ar,⟨I,I⟩,_,hu.aC,K,hu.aU,V,hu.aO,D,hu.dg,(pG (n:=un) hu.bj bc I a1).use ?_⟩;intro v ax g;unfold p9 at g;by_cases d:hA un.keys key=true
 rotate_left
 .have d:hA un.keys key=false:=by simpa using d
  rw[d,if_neg (by simp)]at g;obtain⟨rfl,G⟩:=g;refine⟨_,bk,bk,bk,false,rfl,bh (vs:=[false,(),(),()]) rfl λa3 y X a4=>⟨y.b9 rfl (fK (b:=g_.leaf) (K:=bk) (V:=bk) (D:=bk)),rfl,cr y (us:=dZ g_ bk bk bk) rfl rfl λH az Z a5=>⟨λ_=>?_,λhx=>(by cases hx)⟩⟩⟩;have N:Ext ax H:=Ext.cn X Z (bl _);have p:=G.trans N;refine⟨_,r.ext p,(c.trans (bQ.ext _ p)).mono I,rfl,rfl,.inr (.inl ⟨rfl,hg,?_,.bm o⟩)⟩;rw[W,if_neg (by rw[d];simp)]
 rw[if_pos d]at g;obtain⟨cI,cQ,ct,rfl,a6,G⟩:=g;refine⟨_,cI,cQ,ct,true,rfl,bh (vs:=[false,(),(),()]) rfl λa3 y X a4=>⟨y.b9 rfl fK,rfl,cr y (us:=dZ (lL un key) cI cQ ct) rfl rfl λH az Z a5=>⟨λhx=>(by cases hx),λ_=>?_⟩⟩⟩;have N:Ext ax H:=Ext.cn X Z (bl _);have p:=G.trans N;obtain⟨d0,d1,d2,d3⟩:=bH az;obtain⟨bn,bp,bz,aD,a7⟩:=Hg bc d;have a8:cO un.keys key<un.keys.length:=(iy.1 (b8 d)).1;have a9:cO un.keys key<un.vals.length:=by rw[bc.len];exact a8
 have aE:eA L key≠none:=by
  rw[W,if_pos d,dE a9];simp
 have a_:aF.D.aQ<=900000000:=by
  have:aF.D.aQ<=T.C.D.aQ+2*T.aI:=c.aQ;omega
 have bB:=G.size;have ba:bF (λq=>¬(T.bm aF T.P).M q) H (lL un key) cI cQ ct:=(a6.ext N).aY λq _ m F=>by have:=r.lt F;omega
 have bb:=Ch (ef:=ec L key) (k:=key) (steps:=steps) (bW:=un) (r.ext p) (λe=>aK λi=>c.bL.1▸e i) ad aL c9 hf a_ j (S.ext' p λq m=>m.2) ba bn (.inr ⟨al,fc,dM,am,an,ap,aq,b3,ag,λs hs=>aV s (a7 s hs),λhs e=>by
  have z:=aW hs;rw[e]at aD;simp at aD;omega,aX,by rw[bp];exact aw (λL=>ec L key) (xq key),by have:=h.nm _ _ br;omega⟩)
 refine⟨_,d0,cI,d1,cQ,d2,ct,d3,bb.use ?_⟩;rintro v w' ⟨ao,h1,h2,aa,t,bd⟩;have ac:=((c.trans (bQ.ext (T.bm aF T.P) p)).trans h2).mono (l:=100) I;have bD:cl (T.bm aF T.P)=cl T:=rfl;have bE:(T.bm aF T.P).aI=T.aI:=rfl;rcases bd with ⟨rfl,B,E⟩|⟨rfl,B,E,z⟩|⟨rfl,B,E,z,be,bf⟩
 .subst E
  exact⟨2,rfl,_,h1,ac,aa,t,.inr (.inr (.inl ⟨rfl,hg,aE,B,.bm o⟩))⟩
 .exact⟨0,rfl,_,h1,ac,aa,t,.inr (.inr (.inr (.inl ⟨rfl,hg,aE,B,E,λno aG=>⟨(z no aG).1,(z no aG).2.trans (o no)⟩⟩)))⟩
 .exact⟨3,rfl,_,h1,ac,aa,t,.inr (.inr (.inr (.inr ⟨rfl,hg,λhc=>B (c.calm 60 (gg hc I)),(jh.bm o).trans ⟨E,z,be,bf⟩ rfl⟩)))⟩
def rZ(fr to:Key)(p:aH):ai:=decide (ez fr p.1)&&(to.isEmpty||decide (bK p.1 to))
theorem vS(l:O aH)(fr to:Key):g9 l fr to=l.filter (rZ fr to):=rfl
theorem vT(a b:O aH)(fr to:Key):g9 (a++b) fr to=g9 a fr to++g9 b fr to:=kQ ..
def kJ(fr to:Key)(most:Nat):O aH->O aH->ai×O aH
 |acc,[]=>(true,acc)
 |acc,p::ps=>
  if to≠ []/\¬bK p.1 to then (false,acc)
  else
   let a:=if ez fr p.1 then acc++ [p] else acc
   if a.length=most then (false,a) else kJ fr to most a ps
def h5(fr to:Key)(most:Nat)(acc L:O aH)(on:ai)(a:O aH):Prop:=
 (on=true/\a=acc++g9 L fr to/\a.length<most)\/(on=false/\∀R,gK (L++R)->a=(acc++g9 (L++R) fr to).take most)
variable {fr to:Key}{most:Nat}
theorem h5.nil{acc:O aH}(h:acc.length<most):h5 fr to most acc [] true acc:=.inl ⟨rfl,by simp[g9],h⟩
theorem h5.app{acc mv jg a7 bB:O aH}{on:ai}(h1:h5 fr to most acc a7 true mv)(h2:h5 fr to most mv bB on jg):h5 fr to most acc (a7++bB) on jg:=by
 rcases h1 with ⟨_,h1,_⟩|⟨h,_⟩
 rotate_left
 .cases h
 subst h1;rcases h2 with ⟨a,b,d⟩|⟨a,b⟩
 .exact .inl ⟨a,by rw[b,vT,cP],d⟩
 .refine .inr ⟨a,λR c=>?_⟩
  rw[cP]at c;rw[b R (pY.1 c).2.1,cP a7 bB R,vT a7,cP]
theorem h5.stop{acc mv a7 bB:O aH}(h1:h5 fr to most acc a7 false mv):h5 fr to most acc (a7++bB) false mv:=by
 rcases h1 with ⟨h,_⟩|⟨_,h⟩
 .cases h
 .refine .inr ⟨rfl,λR a=>?_⟩
  rw[cP]at a⊢;exact h _ a
theorem h5.skip{acc jg a7 bB:O aH}{on:ai}(hs:g9 a7 fr to=[])(h2:h5 fr to most acc bB on jg):h5 fr to most acc (a7++bB) on jg:=by
 rcases h2 with ⟨a,b,d⟩|⟨a,b⟩
 .exact .inl ⟨a,by rw[b,vT,hs];rfl,d⟩
 .refine .inr ⟨a,λR c=>?_⟩
  rw[cP]at c⊢;rw[b R (pY.1 c).2.1,vT a7,hs];rfl
theorem h5.all{L acc:O aH}{on:ai}(h:h5 fr to most [] L on acc)(a:gK L):acc=(g9 L fr to).take most:=by
 rcases h with ⟨_,h1,h2⟩|⟨_,h1⟩
 .rw[h1]at h2⊢
  rw[iW]at h2⊢;rw[dV I]
 .have:=h1 [] (by simpa using a)
  simpa using this
theorem Cm:∀ {ps acc:O aH},gK ps->acc.length<most->h5 fr to most acc ps (kJ fr to most acc ps).1 (kJ fr to most acc ps).2
 | [],acc,_,h=>.nil h
 |p::ps,acc,i,h=>by
  unfold kJ
  by_cases h1:to≠ []/\¬bK p.1 to
  .rw[if_pos h1]
   refine .inr ⟨rfl,λR b=>?_⟩
   have:g9 (p::ps++R) fr to=[]:=by
    rw[vS];refine lV.2 λq c=>?_;have j:ez p.1 q.1:=by
     rw[nu]at c b;rcases cU.1 c with rfl|c
     .exact AF _
     .exact iH ((jF.1 b).1 q c)
    have h2:¬bK q.1 to:=λa=>h1.2 (j7 j a);unfold rZ;have e:to.isEmpty=false:=by simpa using h1.1
    simp[e,h2]
   rw[this,f_,dV I]
  .rw[if_neg h1]
   have k:rZ fr to p=decide (ez fr p.1):=by
    unfold rZ;by_cases h2:to=[]
    .simp[h2]
    .have:bK p.1 to:=oV λa=>h1 ⟨h2,a⟩
     simp[this]
   have d:∀l,g9 (p::l) fr to=(if ez fr p.1 then [p] else [])++g9 l fr to:=λl=>by
    rw[vS,qJ,k,vS];by_cases h2:ez fr p.1<;>simp[h2]
   have m:(if ez fr p.1 then acc++ [p] else acc)=acc++(if ez fr p.1 then [p] else []):=by split<;>simp
   simp only[m];generalize hx:(if ez fr p.1 then [p] else [])=x at d;have o:x.length<=1:=by rw[←hx];split<;>simp
   by_cases a:(acc++x).length=most
   .rw[if_pos a]
    refine .inr ⟨rfl,λR b=>?_⟩;rw[nu,d,←cP,←a,List.take_left]
   .rw[if_neg a]
    have e:(acc++x).length<most:=by rw[cz]at a⊢;omega
    have:=Cm (ps:=ps) (acc:=acc++x) (jF.1 i).2 e;rcases this with ⟨f,g,n⟩|⟨f,g⟩
    .exact .inl ⟨f,by rw[g,d,cP],n⟩
    .refine .inr ⟨f,λR b=>?_⟩
     rw[nu]at b⊢;rw[g R (jF.1 b).2,d,cP]
def fP(p:Y×Y):O aa:=[p.1,p.2]
theorem oI(l:O (Y×Y)):∀x∈l,(fP x).length=2:=λ_ _=>rfl
theorem r0(p:Y×Y):∀v∈fP p,Plain v:=by
 intro v a;unfold fP at a;simp only[cU,eL,eO]at a;rcases a with rfl|rfl<;>trivial
def fA(B:Nat->Prop)(w:J)(ps:O (Y×Y))(L:O aH):Prop:=ps.length=L.length/\∀i (h1:i<ps.length) (h2:i<L.length),a_ B w ps[i].1 L[i].1/\a_ B w ps[i].2 L[i].2
def kK(B:Nat->Prop)(w:J)(s:Y)(L:O aH):Prop:=∃ps,bd 2 167 w s (bV fP ps)/\fA B w ps L
def e7(B:Nat->Prop)(w:J)(s:Y)(L:O aH):Prop:=∃ps,Src 2 w s (bV fP ps)/\s.len<=s.cap/\In B w s/\fA B w ps L
section
variable {B C W:Nat->Prop}{w w':J}{s:Y}{ps:O (Y×Y)}{L:O aH}
theorem fA.ab(h:fA B w ps L)(hc:ad W w w')(d:∀k,B k->k<w.heap.size->¬W k):fA B w' ps L:=
 ⟨h.1,λi h1 h2=>by
  obtain⟨a,b⟩:=h.2 i h1 h2
  exact⟨a_.iM a hc λk c=>d k (a.2.2 k c).1 (a.2.2 k c).2,a_.iM b hc λk c=>d k (b.2.2 k c).1 (b.2.2 k c).2⟩⟩
theorem fA.aY(h:fA B w ps L)(a:∀k,k<w.heap.size->B k->C k):fA C w ps L:=⟨h.1,λi h1 h2=>⟨a_.aY (h.2 i h1 h2).1 a,a_.aY (h.2 i h1 h2).2 a⟩⟩
theorem fA.push{p:Y×Y}{fQ:aH}(h:fA B w ps L)(h1:a_ B w p.1 fQ.1)(h2:a_ B w p.2 fQ.2):fA B w (ps++ [p]) (L++ [fQ]):=by
 refine⟨by simp[h.1],λi au ay=>?_⟩;rcases dO i ps.length with g|g
 .have g':i<L.length:=by have:=h.1;omega
  simp only[lW g,lW g'];exact h.2 i g g'
 .have e:i=ps.length:=by simp at au;omega
  subst e;have a:(ps++ [p])[ps.length]'au=p:=by simp
  have b:(L++ [fQ])[ps.length]'ay=fQ:=by rw[nx (by rw[h.1];exact bl _)];simp
  rw[a,b];exact⟨h1,h2⟩
theorem kK.len(h:kK B w s L):s.len=L.length:=by
 obtain⟨ps,h1,h2⟩:=h;have:=h1.1;rw[gM _ (oI ps)]at this;have:=h2.1;omega
theorem kK.aY(h:kK B w s L)(a:∀k,k<w.heap.size->B k->C k):kK C w s L:=by
 obtain⟨ps,h1,h2⟩:=h;exact⟨ps,h1,h2.aY a⟩
theorem kK.none(B:Nat->Prop)(w:J):kK B w ⟨.none,0,0⟩ []:=⟨[],bd.none _ _ _,rfl,λi h=>by simp at h⟩
theorem kK.r(h:kK B w s L)(hs:∀k,aB s k->B k):e7 B w s L:=by
 obtain⟨ps,h1,h2⟩:=h;exact⟨ps,h1.src,h1.2.1,λk a=>⟨hs k a,h1.lt k a⟩,h2⟩
theorem e7.len(h:e7 B w s L):s.len=L.length:=by
 obtain⟨ps,h1,_,_,h2⟩:=h;have:=h1.len;rw[gM _ (oI ps)]at this;have:=h2.1;omega
theorem e7.ab(h:e7 B w s L)(hc:ad W w w')(b:∀k,B k->k<w.heap.size->¬W k):e7 B w' s L:=by
 obtain⟨ps,h1,h2,a,d⟩:=h;exact⟨ps,h1.ab hc λk c=>b k (a k c).1 (a k c).2,h2,In.ab a hc,d.ab hc b⟩
theorem e7.ext(h:e7 B w s L)(hc:Ext w w'):e7 B w' s L:=h.ab hc λ_ _ _ h=>h
theorem e7.aY(h:e7 B w s L)(a:∀k,k<w.heap.size->B k->C k):e7 C w s L:=by
 obtain⟨ps,h1,h2,b,c⟩:=h;exact⟨ps,h1,h2,In.aY b a,c.aY a⟩
theorem e7.at(h:e7 B w s L){i:Nat}(hi:i<L.length):∃ (A:ae) (tk dm:Y),s.a=some A/\B A.block/\((0:Int)<=(i:Int)/\(i:Int)<(s.len:Int))/\w.cell? (A.add (i*2))=some (.slice tk.a tk.len tk.cap)/\w.cell? ((A.add (i*2)).add 1)=some (.slice dm.a dm.len dm.cap)/\
 a_ B w tk L[i].1/\a_ B w dm L[i].2:=by
 have o:=h.len;obtain⟨ps,h1,h2,k,c⟩:=h;have d:i<ps.length:=by have:=c.1;omega
 cases b:s.a with
 |none=>
  have:=h1.nil b;have e:=gM ps (oI ps);rw[this]at e;simp at e;omega
 |some A=>
  have l:=h1.rd A b;have hg:∀j v,(fP ps[i])[j]? =some v->w.cell? (A.add (i*2+j))=some v:=λj v f=>by
   have m:j<2:=(iy.1 f).1;have g:=pg l (j:=i*2+j) (v:=v) (by rw[rL (oI ps) d m];exact f);rw[cy]at g;exact g
  obtain⟨t1,t2⟩:=c.2 i d hi;have n:(A.add (i*2)).add 1=A.add (i*2+1):=add_add A _ _;refine⟨A,ps[i].1,ps[i].2,rfl,(k A.block ⟨A,b,rfl⟩).1,⟨I,I⟩,?_,?_,t1,t2⟩
  .exact hg 0 _ rfl
  .rw[n]
   exact hg 1 _ rfl
end
theorem r2:hM aj 86 167 2 48:=⟨by kernel_rfl⟩
theorem yA(w:J)(cs:Array aa)(h:cs.size=2):Sem.run aj (Instr.buildSlice 86 1 #[(0,.agg cs)]) w=.ok (.slice (some w.heap.size) 1 1) (w.alloc (.cells cs 167)):=by
 have h0:((Tryz.prog.info? 167).bind (·.zero)).isSome=true:=by kernel_rfl
 obtain⟨z,a⟩:=mB.1 h0;obtain⟨i,hi,b⟩:=rM a;have h1:(Tryz.prog.underlying 167).isSome=true:=by kernel_rfl
 obtain⟨d,hd⟩:=mB.1 h1;exact x1 (sz:=2) w (by kernel_rfl) hd (by kernel_rfl) hi b h (by decide) (by decide)
structure c5(T ao:aN)(w w':J)(k:Nat):Prop where
 to:bQ T ao w w' k
 E:ao.E=T.E
 G:∀q,T.G q->ao.G q
 root:ao.root=T.root
 aI:ao.aI=T.aI
 f:ao.f=T.f
 P:ao.P=T.P
 view:∀j,ao.C.view j=T.C.view j
theorem c5.refl(T:aN)(w:J):c5 T T w w 0:=⟨.refl _ _,rfl,λ_ h=>h,rfl,rfl,rfl,rfl,λ_=>rfl⟩
theorem c5.ext{w w':J}(T:aN)(h:Ext w w'):c5 T T w w' 0:=⟨.ext T h,rfl,λ_ h=>h,rfl,rfl,rfl,rfl,λ_=>rfl⟩
theorem c5.trans{T ao a:aN}{w w' b:J}{k l:Nat}(h1:c5 T ao w w' k)(h2:c5 ao a w' b l):c5 T a w b (k+l):=
 ⟨h1.to.trans h2.to,h2.E.trans h1.E,λq h=>h2.G q (h1.G q h),h2.root.trans h1.root,h2.aI.trans h1.aI,h2.f.trans h1.f,h2.P.trans h1.P,λj=>(h2.view j).trans (h1.view j)⟩
theorem c5.mono{T ao:aN}{w w':J}{k l:Nat}(h:c5 T ao w w' k)(a:k<=l):c5 T ao w w' l:=⟨h.to.mono a,h.E,h.G,h.root,h.aI,h.f,h.P,h.view⟩
theorem c5.bm{T:aN}{aF:b5}{w w':J}{k:Nat}(h:bQ T (T.bm aF T.P) w w' k)(a:∀j,aF.view j=T.C.view j):c5 T (T.bm aF T.P) w w' k:=⟨h,rfl,λ_ h=>h,rfl,rfl,rfl,rfl,a⟩
theorem bQ.out{T ao:aN}{w w':J}{k q:Nat}(h:bQ T ao w w' k)(a:q<w.heap.size)(b:¬T.M q):¬ao.M q/\q<w'.heap.size:=by
 refine⟨λh1=>?_,fU a h.ab.size⟩;rcases h.c7 q h1 with h2|h2
 .exact b h2
 .omega
theorem bQ.Cn{T ao:aN}{w w':J}{k:Nat}{ps:O (Y×Y)}{L:O aH}(h:bQ T ao w w' k)(c:fA (λq=>¬T.M q) w ps L):fA (λq=>¬ao.M q) w' ps L:=by
 have h1:fA (λq=>q<w.heap.size/\¬T.M q) w ps L:=c.aY λq b a=>⟨b,a⟩;exact(h1.ab h.ab λq b _ d=>b.2 (aN.gl d)).aY λq _ a=>(h.out a.1 a.2).1
structure iR(lo:Nat)(w:J)(T:aN)(aE:Nat)(s:Y)(L:O aH):Prop where
 t:bJ w T
 v:Var w aE [s] 86
 own:kK (λq=>¬T.M q) w s L
 go:T.G aE
 gs:∀q,aB s q->T.G q/\q≠aE/\lo<=q
section
variable {w w':J}{T ao:aN}{lo aE:Nat}{s:Y}{L:O aH}
theorem iR.of{k:Nat}(h:iR lo w T aE s L)(d:bJ w' ao)(ht:bQ T ao w w' k)(b:∀q,T.G q->ao.G q){W:Nat->Prop}(c:ad W w w')(cd:∀q,T.G q->¬W q):iR lo w' ao aE s L:=by
 obtain⟨ps,h1,h2⟩:=h.own;exact⟨d,h.v.ab c (cd _ h.go),⟨ps,h1.ab c λq a=>cd q (h.gs q a).1,ht.Cn h2⟩,b _ h.go,λq a=>⟨b q (h.gs q a).1,(h.gs q a).2⟩⟩
theorem iR.ext(h:iR lo w T aE s L)(hx:Ext w w'):iR lo w' T aE s L:=h.of (h.t.ext hx) (bQ.ext T hx) (λ_ h=>h) hx λ_ _ h=>h
theorem Hj{k v:Key}{tk dm:Y}(h:iR lo w T aE s L)(B:lo<=w.heap.size)(p:a_ (λq=>¬T.M q) w tk k)(r:a_ (λq=>¬T.M q) w dm v)(C:L.length<=100000):
 ∃ (b:Y) (ah:J),Sem.run aj (Builtin.append_ #[86,86] 86 #[s,.slice (some w.heap.size) 1 1]) (w.alloc (.cells (fP (tk,dm)).toArray 167))=.ok b ah/\
  (∃u:aa,ah.cell? aE=some u)/\ah.frozen? aE=false/\
  ∀d,d=ah.setCell aE b->iR lo d (T.ck T.E λq=>T.G q\/aB b q) aE b (L++ [(k,v)])/\c5 T (T.ck T.E λq=>T.G q\/aB b q) w d 0:=by
 have D:=h.own.len;obtain⟨ps,x,y⟩:=h.own;obtain⟨b,ah,au,ay,F,f,c⟩:=r2.push (cM:=86) (w:=w) (s:=s) (xs:=fP (tk,dm)) rfl x (r0 _) I;have cd:∀q,aB s q->T.G q:=λq a=>(h.gs q a).1;have H:=f.size;have j:=h.v.ab f λa=>(h.gs _ a).2.1 rfl;obtain⟨bG,bI⟩:=dI j (i:=0) (by simp);refine⟨b,ah,au,bG,bI,?_⟩;rintro _ rfl;have g:=dk ah aE 0 b;have z:=dN j (i:=0) b;have l:ad T.G w (ah.setCell aE b):=cu (f.mono λq _ a=>cd q a) g λq _ e=>by rw[e];exact h.go
 have aK:∀q,aB b q->q<ah.heap.size:=λq a=>bd.lt ay q a;have m:∀q,aB b q->T.G q\/(w.heap.size<=q/\q<(ah.setCell aE b).heap.size):=λq a=>by
  rcases c q a with h1|h1
  .exact .inl (cd q h1)
  .exact .inr ⟨h1,by have:=aK q a;have:=g.size;omega⟩
 have n:∀q,aB b q->q≠aE:=λq a e=>by
  rcases c q a with h1|h1
  .exact(h.gs q h1).2.1 e
  .have:=h.v.lt;omega
 have A:=h.t.grow (E:=T.E) (G:=λq=>T.G q\/aB b q) l (λq a _=>.inr a) (λq a=>.inl a) (λq a=>by
  rcases a with a|a
  .exact .inr (.inl a)
  .exact .inr (m q a)) λq a hg=>by
  rcases hg with hg|hg
  .exact(h.t.c8 q a).2.2 hg
  .rcases c q hg with h1|h1
   .exact(h.t.c8 q a).2.2 (cd q h1)
   .have:=h.t.lt (q:=q) (.inr (.inr (.inr (.inl a))));omega
 have o:bQ T (T.ck T.E λq=>T.G q\/aB b q) w (ah.setCell aE b) 0:=by
  have h0:bQ T T w w 0:=.refl _ _;exact h0.step l (λq a _=>.inr (.inr (.inr a))) (λq a=>.inl a) λq a=>by
   rcases a with a|a
   .exact .inl a
   .exact(m q a).imp id λe=>e.1
 refine⟨⟨A,z,⟨ps++ [(tk,dm)],?_,o.Cn (y.push (fQ:=(k,v)) p r)⟩,.inl h.go,λq a=>⟨.inr a,n q a,?_⟩⟩,o,rfl,λ_ h=>.inl h,rfl,rfl,rfl,rfl,λ_=>rfl⟩
 .have e:bV fP (ps++ [(tk,dm)])=bV fP ps++fP (tk,dm):=by rw[mj];simp[bV]
  rw[e];exact ay.ab g λq a e=>n q a e
 .rcases c q a with h1|h1
  .exact(h.gs q h1).2.2
  .omega
end
structure qj(w:J)(T:aN)(aZ aV aS:Nat)(fF fL:Y)(to fr:Key)(most:Int):Prop where
 vU:Var w aZ [fF] 48
 vV:Var w aV [fL] 48
 jr:Var w aS [most] 3
 Co:¬T.M aZ
 Cp:¬T.M aV
 Cq:¬T.M aS
 st:Src 1 w fF (aJ to)
 yB:Src 1 w fL (aJ fr)
 r3:∀q,aB fF q->q<w.heap.size/\¬T.M q
 r4:∀q,aB fL q->q<w.heap.size/\¬T.M q
 lt:to.length<=9000000000000000000
section
variable {w w':J}{T ao:aN}{aZ aV aS:Nat}{fF fL:Y}{to fr:Key}{most:Int}
theorem qj.go{k:Nat}(h:qj w T aZ aV aS fF fL to fr most)(ht:bQ T ao w w' k):qj w' ao aZ aV aS fF fL to fr most:=by
 have b:∀q,¬T.M q->¬T.N q:=λq a b=>a (aN.gl b);exact⟨h.vU.ab ht.ab (b _ h.Co),h.vV.ab ht.ab (b _ h.Cp),h.jr.ab ht.ab (b _ h.Cq),(ht.out h.vU.lt h.Co).1,(ht.out h.vV.lt h.Cp).1,(ht.out h.jr.lt h.Cq).1,
  h.st.ab ht.ab λq a=>b _ (h.r3 q a).2,h.yB.ab ht.ab λq a=>b _ (h.r4 q a).2,λq a=>⟨(ht.out (h.r3 q a).1 (h.r3 q a).2).2,(ht.out (h.r3 q a).1 (h.r3 q a).2).1⟩,λq a=>⟨(ht.out (h.r4 q a).1 (h.r4 q a).2).2,(ht.out (h.r4 q a).1 (h.r4 q a).2).1⟩,h.lt⟩
end
def jS(fr to:Key)(most:Nat)(n:aD)(acc ps:O aH):ai×O aH:=if n.leaf then kJ fr to most acc ps else (true,acc)
def Hk(lo aE:Nat)(T:aN)(a:ai×O aH)(w:J)(v:aa)(w':J):Prop:=
 ∃ (ao:aN) (b:Y),v=a.1/\iR lo w' ao aE b a.2/\c5 T ao w w' 0
theorem bQ.g_{T ao:aN}{w w':J}{k:Nat}(h:bQ T ao w w' k){n:aD}{K V D:Y}(b:bF (λq=>¬T.M q) w n K V D):bF (λq=>¬ao.M q) w' n K V D:=
 (h.bj (lo:=0) (b.aY λ_ _ a=>⟨cL _,a⟩)).aY λ_ _ a=>a.2
theorem Cr{a b:Key}:(decide ((eE a b:Int)>=0))=decide (ez b a):=by
 unfold ez;by_cases h:eE a b<0
 .have h1:¬eE a b>=0:=by omega
  simp[h,h1]
 .have h1:eE a b>=0:=by omega
  simp[h,h1]
theorem Hl{w:J}{T:aN}{lo aE aZ aV aS:Nat}{s fF fL:Y}{L:O aH}{to fr:Key}{most:Int}{n:aD}{K V D:Y}(no:Int)(h:iR lo w T aE s L)(a8:lo<=w.heap.size)(hf:qj w T aZ aV aS fF fL to fr most)
 (W:bF (λq=>¬T.M q) w n K V D) (hs:cH n) (a9:n.keys.length<=1000) (az:(L.length:Int)<most) (ba:L.length<=50000):
 aR aj 175 #[no,c2 n K V D,.pointer (some aZ),.pointer (some aV),.pointer (some aE),.pointer (some aS)] w (Hk lo aE T (jS fr to most.toNat n L n.dL) w):=by
 have bb:=bq.len W.keys;refine okF (af.uG no n.leaf K V D aZ aV aE aS) aA.uG func175 ?_;(delta af.uG ag U ak aL aC bc r1 av;dsimp only);refine bh (vs:=dZ n K V D) rfl λw1 N m bd=>?_;obtain⟨nb,aB⟩:∃nb,nb=w.heap.size:=⟨_,rfl⟩;rw[←aB]at N⊢;have h1:=h.ext m;have aF:=hf.go (bQ.ext T m);have aG:=W.ext m;have X:¬T.M nb:=λP=>by have:=h.t.lt P;omega
 obtain⟨bX,aC,aU,aO⟩:=bH N;refine⟨K,aC,λi d=>∃ (C:Nat) (ao:aN) (y:Y) (acc:O aH),i=(C:Int)/\C<=n.keys.length/\iR lo d ao aE y acc/\c5 T ao w1 d 0/\(acc.length:Int)<most/\acc.length<=L.length+C/\jS fr to most.toNat n acc (n.dL.drop C)=jS fr to most.toNat n L n.dL,
  λi _=>((n.keys.length:Int)-i).toNat,⟨0,T,s,L,rfl,cL _,h1,.refl _ _,az,I,by rw[lv]⟩,?_⟩
 rintro _ d ⟨i,ao,y,acc,rfl,hi,E,k,be,bf,f⟩;have bg:=m.size;have bi:=k.to.ab.size;have o:=aF.go k.to;have Z:=k.to.g_ aG;have aa:=N.ab k.to.ab λP=>X (aN.gl P);have bj:=(k.to.out I X).1;refine⟨λaK=>?_,λaI=>?_⟩
 rotate_left
 .have ac:i=n.keys.length:=by
   have:¬(i:Int)<(K.len:Int):=cv aI;omega
  have hd:n.dL.drop i=[]:=by
   refine sB ?_;unfold aD.dL;rw[mI];omega
  rw[hd]at f;have e:jS fr to most.toNat n acc []=(true,acc):=by unfold jS kJ;split<;>rfl
  rw[e]at f;exact⟨ao,y,by rw[←f],by rw[←f];exact E,((c5.ext T m).trans k)⟩
 .have ac:i<n.keys.length:=by
   have:(i:Int)<(K.len:Int):=b8 aK;omega
  obtain⟨A,tk,ar,aJ,hc,F,_⟩:=bq.at Z.keys ac;have Q:IntKind.wrap .i64 ((i:Int)+1)=((i+1:Nat):Int):=by rw[bA I I];omega
  have aM:∀w':J,((n.keys.length:Int)-IntKind.wrap .i64 ((i:Int)+1)).toNat<((n.keys.length:Int)-(i:Int)).toNat:=λ_=>by rw[Q];omega
  obtain⟨key,ad⟩:∃key,key=n.keys[i]:=⟨_,rfl⟩;rw[←ad]at F;have ae:=len8 o.st;refine⟨A,ar,aJ,tk,hc,fF,o.vU.cell,cq (λb w'=>b=decide (to≠ []/\¬bK key to)/\d=w') (λq l=>⟨λc=>⟨fF,o.vU.cell,(kB F.1 o.st).use ?_⟩,λc=>l _ _ ⟨?_,rfl⟩⟩) ?_⟩
  .rintro _ _ ⟨rfl,rfl⟩
   refine⟨_,rfl,l _ _ ⟨?_,rfl⟩⟩;have h2:to≠ []:=λe=>by
    rw[e]at ae;have:(fF.len:Int)>0:=b8 c;simp at ae;omega
   rw[Cr];simp only[h2,ne_eq,not_false_eq_true,true_and];rfl
  .have h2:to=[]:=by
    have:¬(fF.len:Int)>0:=cv c;exact lp.1 I
   simp[h2]
  rintro aP _ ⟨ah,rfl⟩;have d0:d.cell? nb=some (.bool n.leaf):=(bH aa).1;refine cq (λb w'=>b=(aP&&n.leaf)/\d=w') (λq l=>⟨λc=>⟨_,d0,l _ _ ⟨by rw[c];rfl,rfl⟩⟩,λc=>l _ _ ⟨by rw[c];rfl,rfl⟩⟩) ?_;rintro bk _ ⟨ai,rfl⟩;have G:n.leaf=true->∃x:Key,(∃j:i<n.vals.length,x=n.vals[i])/\n.dL.drop i=(key,x)::n.dL.drop (i+1):=λa=>by
   have bl:n.vals.length=n.keys.length:=by
    rcases hs with h2|h2
    .exact h2.len
    .have:=h2.inner;rw[a]at this;cases this
   have j:i<n.vals.length:=by omega
   refine⟨n.vals[i],⟨j,rfl⟩,?_⟩;have aQ:i<n.dL.length:=by unfold aD.dL;rw[mI];omega
   rw[jD aQ];have e:n.dL[i]=(key,n.vals[i]):=by
    rw[ad];exact sn
   rw[e]
  refine⟨λc=>?_,λc=>?_⟩
  .
   rw[ai,er]at c;obtain⟨x,_,z⟩:=G c.2;have aT:to≠ []/\¬bK key to:=by
    rw[ah]at c;exact b8 c.1
   have e:jS fr to most.toNat n acc (n.dL.drop i)=(false,acc):=by
    unfold jS;rw[if_pos c.2,z];unfold kJ;rw[if_pos aT]
   rw[e]at f;exact⟨ao,y,by rw[←f],by rw[←f];exact E,((c5.ext T m).trans k)⟩
  .have al:n.leaf=true->¬(to≠ []/\¬bK key to):=λa h2=>by
    rw[ai,ah,a,dP h2]at c
    cases c
   refine iE (λH=>∃ (b4:aN) (s2:Y) (jg:O aH),jg=(if n.leaf=true/\ez fr key then acc++ [(key,n.vals.getD i [])] else acc)/\iR lo H b4 aE s2 jg/\c5 ao b4 d H 0) (λq l=>⟨n.leaf,d0,?_⟩) ?_
   .refine cq (λb w'=>b=decide (n.leaf=true/\ez fr key)/\d=w') (λr am=>⟨λa=>⟨fL,o.vV.cell,(kB F.1 o.yB).use ?_⟩,λa=>am _ _ ⟨by simp[a],rfl⟩⟩) ?_
    .rintro _ _ ⟨rfl,rfl⟩
     refine⟨_,rfl,am _ _ ⟨?_,rfl⟩⟩;rw[Cr,a];simp
    .rintro bm _ ⟨an,rfl⟩
     refine⟨λg=>aW ?_,λg=>?_⟩
     .rw[an]at g
      have g:=b8 g;obtain⟨x,⟨j,hx⟩,z⟩:=G g.1;have B:Ext d d.drew:=cf _;have p:=E.ext B;obtain⟨aX,dm,aY,a0,a1,ap,bn⟩:=bq.at (Z.ext B).vals j;rw[←hx]at ap;have a2:=a_.ext F B;have bo:=B.size;obtain⟨aq,a3,au,ay,a4,a5⟩:=Hj p I a2 ap I;refine⟨λ_=>False,id,y,p.v.cell,id,V,(bH (aa.ext B)).2.2.1,aX,aY,a0,id,dm,a1,(fP (tk,dm)).toArray,λbp=>?_,⟨some d.drew.heap.size,1,1⟩,_,yA _ _ rfl,eS _ _,aq,a3,au,ay,a4,aW (l _ ?_)⟩
      .kernel_rfl
      .obtain⟨bG,bI⟩:=a5 _ rfl
       refine⟨_,aq,_,?_,bG,((c5.ext ao B).trans bI)⟩;rw[if_pos g,fC,dE j,←hx];rfl
     .rw[an]at g
      have g:=cv g;exact l _ ⟨ao,y,acc,by rw[if_neg g],E,.refl _ _⟩
   .rintro H ⟨b4,s2,jg,u,p,aw⟩
    have a6:=o.go aw.to;have a7:=p.own.len;have ax:=k.trans aw;have br:jg.length<=acc.length+1:=by rw[u];split<;>simp
    have bs:(0:Int)<=most:=by omega
    refine⟨s2,p.v.cell,most,a6.jr.cell,λc=>?_,λc=>?_⟩
    .have he:(s2.len:Int)=most:=by simpa using c
     by_cases a:n.leaf=true
     .obtain⟨x,⟨j,hx⟩,z⟩:=G a
      have R:n.vals.getD i []=x:=by rw[fC,dE j,hx];rfl
      have e:jS fr to most.toNat n acc (n.dL.drop i)=(false,jg):=by
       unfold jS;rw[if_pos a,z];unfold kJ;rw[if_neg (al a)];have S:(if ez fr key then acc++ [(key,x)] else acc)=jg:=by rw[u,R];simp[a]
       simp only[S];rw[if_pos I]
      rw[e]at f;exact⟨b4,s2,by rw[←f],by rw[←f];exact p,((c5.ext T m).trans ax)⟩
     .exfalso
      rw[if_neg (λh2=>a h2.1)]at u;rw[u]at a7;omega
    .have he:¬(s2.len:Int)=most:=by simpa using c
     rw[Q];refine⟨⟨i+1,b4,s2,jg,rfl,I,p,ax,I,I,?_⟩,?_⟩
     .rw[←f]
      unfold jS;by_cases a:n.leaf=true
      .obtain⟨x,⟨j,hx⟩,z⟩:=G a
       have R:n.vals.getD i []=x:=by rw[fC,dE j,hx];rfl
       rw[if_pos a,if_pos a,z]
       conv=>rhs;unfold kJ
       rw[if_neg (al a)];have S:(if ez fr key then acc++ [(key,x)] else acc)=jg:=by rw[u,R];simp[a]
       simp only[S];rw[if_neg I]
      .rw[if_neg a,if_neg a]
       rw[if_neg (λh2=>a h2.1)]at u;rw[u]
     .have:=aM H
      rw[Q]at this;exact this
inductive Kids (W:Below):O Nat->O Nat->O aH->Prop
 |nil:Kids W [] [] []
 |cons {lo hi:aq Key}{k:Nat}{kids bn bp:O Nat}{a7 bB:O aH} (h:W lo hi k bn a7) (t:Kids W kids bp bB):Kids W (k::kids) (bn++bp) (a7++bB)
theorem dF.kids{W:Below}{lo hi:aq Key}{ks:O Key}{kids p:O Nat}{L:O aH}(h:dF W lo hi ks kids p L):Kids W kids p L:=by
 induction h with
 |one h=>
  have:=Kids.cons h .nil;rwa[f_,f_]at this
 |cons h _ a=>exact .cons h a
theorem Hm(s:Key)(ks:O Key)(k:Key):dt (s::ks) k=if bK k s then 0 else dt ks k+1:=by
 unfold dt;rw[List.findIdx_cons];by_cases h:bK k s<;>simp[h]
theorem dF.from{W:Below}(cd:∀lo hi k p L,W lo hi k p L->∀q∈L,fu lo hi q.1){lo hi:aq Key}{ks:O Key}{kids p:O Nat}{L:O aH}(h:dF W lo hi ks kids p L)(k:Key):
 ∃ (bn bp:O Nat) (a7 bB:O aH),p=bn++bp/\L=a7++bB/\(∀q∈a7,bK q.1 k)/\Kids W (kids.drop (dt ks k)) bp bB:=by
 induction h with
 |one h=>exact⟨[],_,[],_,rfl,rfl,λ_ h=>(by cases h),(dF.one h).kids⟩
 | @cons lo hi s f bn bp a7 bB ks kids h t c=>
  rw[Hm];by_cases b:bK k s
  .rw[if_pos b]
   exact⟨[],_,[],_,rfl,rfl,λ_ h=>(by cases h),(dF.cons h t).kids⟩
  .rw[if_neg b,List.drop_succ_cons]
   obtain⟨a1,a2,b_,bO,rfl,rfl,d,e⟩:=c;refine⟨bn++a1,a2,a7++b_,bO,by rw[cP],by rw[cP],λq a=>?_,e⟩;rcases cT.1 a with a|a
   .exact m4 ((cd _ _ _ _ _ h q a).2 s rfl) b
   .exact d q a
theorem Cs{L:O aH}{fr to:Key}(h:∀q∈L,bK q.1 fr):g9 L fr to=[]:=by
 rw[vS];refine lV.2 λq a=>?_;unfold rZ;have:¬ez fr q.1:=λh2=>h2 (h q a);simp[this]
def jT(T:aN)(no:Nat):Prop:=(no<T.n/\2<=no)/\∃e,dQ (no:Int) (T.C.view no)=.error e
theorem Ct{w:J}{T:aN}{no:Nat}{o:aD}(h:bJ w T)(s:T.C.D.aQ<=999999999)(d:T.P no=some o\/jT T no):
 aR aj 196 #[.pointer (some T.aZ),no,o.leaf] w (λv w'=>∃aF:b5,c5 T (T.bm aF T.P) w w' 2/\bJ w' (T.bm aF T.P)/\ad (λq=>T.N q/\¬T.G q) w w'/\
  ((∃ (K V D:Y),v=.tuple #[c2 o K V D,(0:Int)]/\T.P no=some o/\bF (λq=>w.heap.size<=q/\¬(T.bm aF T.P).M q) w' o K V D)\/(∃e:Int,v=.tuple #[c2 g_ bk bk bk,e]/\e≠0/\((e=3/\¬T.C.D.calm 2)\/jT T no)))):=by
 have f:no<T.n:=d.elim (λh1=>(h.eo no o h1).1) λh1=>h1.1.1;have g:2<=no:=d.elim (λh1=>(h.eo no o h1).2.two) λh1=>h1.1.2;obtain⟨bf,i⟩:∃bf,bf=λq=>T.E q\/T.G q:=⟨_,rfl⟩;have c:∀q,T.E q\/T.G q->bf q:=λq a=>by rw[i];exact a
 have j:∀q,bf q->T.E q\/T.G q:=λq a=>by rw[i]at a;exact a
 have k:bJ w (T.ck bf λ_=>False):=h.grow (W:=λ_=>False) (ad.refl _ _) (λ_ h=>h.elim) (λq a=>(j q a).imp id .inl) (λ_ h=>h.elim) λ_ _ h=>h;have t:∀q,(T.ck bf λ_=>False).N q->T.N q/\¬T.G q:=λq a=>⟨by
  rcases a with a|a|a|a
  .exact .inl a
  .exact .inr (.inl a)
  .exact .inr (.inr (.inl a))
  .exact a.elim,λhg=>k.jf (c q (.inr hg)) a⟩
 refine(yg k s f g o.leaf).mono ?_;rintro v w' ⟨aF,u,ht,x,y⟩;have z:bQ T (T.bm aF T.P) w w' 2:=bQ.read (E:=bf) ht c λq a=>(j q a).imp id .inl;have A:ad (λq=>T.N q/\¬T.G q) w w':=ht.ab.mono λq _ a=>t q a;refine⟨aF,.bm z x,?_,A,?_⟩
 .exact u.grow (E:=T.E) (G:=T.G) (W:=λ_=>False) (ad.refl _ _) (λ_ h=>h.elim) (λq a=>.inl (c q (.inl a))) (λq a=>.inl (c q (.inr a))) λq a=>(h.c8 q a).2.2
 .rcases y with ⟨bC,K,V,D,rfl,l,c9⟩|⟨e,rfl,B,F⟩
  .have m:T.P no=some o:=d.resolve_right λ⟨_,e,h1⟩=>by
    obtain⟨p,au,_⟩:=l;have h1:dQ (no:Int) (T.C.view no)=.error e:=h1;have au:dQ (no:Int) (T.C.view no)=.ok p:=au;rw[h1]at au;cases au
   obtain rfl:=gN.uniq (h.eo no o m).2 l;refine .inl ⟨K,V,D,rfl,m,c9.aY λq a r=>⟨r.1,λb=>r.2 ?_⟩⟩;rcases b with b|b|b|b|b
   .exact .inl b
   .exact .inr (.inl b)
   .exact .inr (.inr (.inl b))
   .exact .inr (.inr (.inr (.inl (c q (.inl b)))))
   .exact .inr (.inr (.inr (.inl (c q (.inr b)))))
  .refine .inr ⟨e,rfl,F,?_⟩
   rcases B with h1|h1|⟨_,_,h1⟩
   .exact .inl h1
   .exact .inr ⟨⟨f,g⟩,e,h1⟩
   .exact d.elim (λh2=>absurd (h.eo no o h2).2 (h1 o)) .inr
theorem Hn{w:J}{T:aN}{no:Nat}{o:aD}(h:bJ w T)(f:T.C.D.aQ<=999999999)(c:T.P no=some o):
 aR aj 196 #[.pointer (some T.aZ),no,o.leaf] w (λv w'=>∃aF:b5,c5 T (T.bm aF T.P) w w' 2/\bJ w' (T.bm aF T.P)/\ad (λq=>T.N q/\¬T.G q) w w'/\
  ((∃ (K V D:Y),v=.tuple #[c2 o K V D,(0:Int)]/\bF (λq=>w.heap.size<=q/\¬(T.bm aF T.P).M q) w' o K V D)\/(v=.tuple #[c2 g_ bk bk bk,(3:Int)]/\¬T.C.D.calm 2))):=by
 refine(Ct h f (.inl c)).mono ?_;rintro v w' ⟨aF,h1,h2,d,⟨K,V,D,b,_,a⟩|⟨e,b,_,⟨rfl,a⟩|⟨_,g,a⟩⟩⟩
 .exact⟨aF,h1,h2,d,.inl ⟨K,V,D,b,a⟩⟩
 .exact⟨aF,h1,h2,d,.inr ⟨b,a⟩⟩
 .obtain⟨p,au,_⟩:=(h.eo no o c).2
  rw[a]at au;cases au
def Ho(lo aE:Nat)(T:aN)(fr to:Key)(most:Int)(acc L:O aH)(a:Nat)(w:J)(v:aa)(w':J):Prop:=
 ∃ (ao:aN) (c:Y) (b:O aH),c5 T ao w w' (2*a)/\iR lo w' ao aE c b/\
  ((∃on:ai,v=.tuple #[on,(0:Int)]/\h5 fr to most.toNat acc L on b)\/(v=.tuple #[false,(3:Int)]/\¬T.C.D.calm (2*a)))
theorem Hp:iC aj 175:=⟨Tryz.f175,func175,by kernel_rfl,by kernel_rfl⟩
theorem ej.top{P:Nat->aq aD}{h:Nat}{lo hi:aq Key}{no:Nat}{p:O Nat}{L:O aH}(b:ej P (h+1) lo hi no p L):∃ (n:aD) (a:O Nat),P no=some n/\n.leaf=decide (h=0)/\cH n/\p=no::a/\
 ((h=0/\gT n/\a=[]/\L=n.dL)\/(∃g,h=g+1/\vh n/\Kids (λlo hi k p L=>ej P h lo hi k p L) n.kids a L/\∀k:Key,∃ (bn bp:O Nat) (a7 bB:O aH),a=bn++bp/\L=a7++bB/\(∀q∈a7,bK q.1 k)/\Kids (λlo hi k p L=>ej P h lo hi k p L) (n.kids.drop (dt n.keys k)) bp bB)):=by
 match h,b with
 |0,⟨n,h1,h2,f,e,d,c⟩=>exact⟨n,[],h1,h2.leaf,.inl h2,d,.inl ⟨rfl,h2,rfl,c⟩⟩
 |h+1,⟨n,a,h1,h2,f,e,d⟩=>
  have c:=d.mono (V:=λlo hi k p L=>ej P (h+1) lo hi k p L) λ_ _ _ _ _ _ b=>b.1;refine⟨n,a,h1,by rw[h2.inner];simp,.inr h2,e,.inr ⟨h,rfl,h2,c.kids,λk=>c.from (λ_ _ _ _ _ b=>(ej.fb b).2) k⟩⟩
theorem h5.len{fr to:Key}{most:Nat}{acc L a:O aH}{on:ai}(h:h5 fr to most acc L on a)(b:gK L):a.length<=acc.length+L.length:=by
 have c:(g9 L fr to).length<=L.length:=nA _ _;rcases h with ⟨_,h1,_⟩|⟨_,h1⟩
 .rw[h1,cz];omega
 .have:=h1 [] (by simpa using b)
  rw[this,f_,cG,cz];omega
theorem Hq{A:ae}{i c:Nat}(h:i<c):aP (some A) 1 i c=some (A.add i):=by
 unfold aP;rw[fG];split
 .rename_i h2;omega
 .rfl
theorem Hr(h:Nat):∀ {w:J}{T:aN}{lo aE aZ aV aS:Nat}{s fF fL:Y}{acc L:O aH}{to fr:Key}{most:Int}{fc dM:aq Key}{no:Nat}{p:O Nat},iR lo w T aE s acc->lo<=w.heap.size->qj w T aZ aV aS fF fL to fr most->h<=12->ej T.P h fc dM no p L->(acc.length:Int)<most->acc.length+L.length<=40000->T.C.D.aQ+2*p.length<=999999999->
 aR aj 174 #[.pointer (some T.aZ),no,h,fL,.func (.func 175) #[] #[.pointer (some aZ),.pointer (some aV),.pointer (some aE),.pointer (some aS)]] w (Ho lo aE T fr to most acc L p.length w):=by
 induction h with
 |zero=>intro w T lo aE aZ aV aS s fF fL acc L to fr most fc dM no p _ _ _ _ z;exact z.elim
 |succ h bd=>
  intro w T lo aE aZ aV aS s fF fL acc L to fr most fc dM no p ax b7 hf b_ z be bf bg;obtain⟨n,ca,ay,bi,az,rfl,bj⟩:=z.top;have bn:=z.fb.1;have aB:=ax.t;have cb:=cH.eB az (by have:=aB.nm _ _ ay;omega);refine okF (af.uF (some T.aZ) (no:Nat) ((h+1:Nat):Int) fL ⟨175,#[],#[.pointer (some aZ),.pointer (some aV),.pointer (some aE),.pointer (some aS)]⟩) aA.uF func174 ?_;(delta af.uF g1 cj U ak bc ag aC r1 kZ av;dsimp only);rw[yh bi];refine(Hn aB I ay).use ?_;rintro _ w1 ⟨aF,B,aD,aG,bo⟩;have cc:=aG.size;have aI:iR lo w1 (T.bm aF T.P) aE s acc:=ax.of aD B.to (λ_ h=>h) aG λq bp bq=>bq.2 bp;have br:=hf.go B.to;rcases bo with ⟨K,V,D,rfl,c9⟩|⟨rfl,W⟩
  rotate_left
  .refine⟨_,bk,bk,bk,3,rfl,bh (vs:=[false,(),(),()]) rfl λbs v X bt=>⟨v.b9 rfl (fK (b:=g_.leaf) (K:=bk) (V:=bk) (D:=bk)),rfl,cr v (us:=dZ g_ bk bk bk) rfl rfl λE F Z bu=>⟨λ_=>?_,λhx=>(by simp at hx)⟩⟩⟩
   have f:Ext w1 E:=Ext.cn X Z (bl _);refine⟨_,s,acc,((B.trans (c5.ext _ f)).mono (by simp only[e8];omega)),aI.ext f,.inr ⟨rfl,λhc=>W (gg hc (by simp only[e8];omega))⟩⟩
  refine⟨_,K,V,D,0,rfl,bh (vs:=[false,(),(),()]) rfl λbs v X bt=>⟨v.b9 rfl fK,rfl,cr v (us:=dZ n K V D) rfl rfl λE F Z bu=>⟨λhx=>(by cases hx),λ_=>?_⟩⟩⟩;have f:Ext w1 E:=Ext.cn X Z (bl _);obtain⟨nb,bv⟩:∃nb,nb=w1.heap.size:=⟨_,rfl⟩;rw[←bv]at F⊢;have aJ:¬(T.bm aF T.P).M nb:=λaa=>by have:=aD.lt aa;omega
  have bw:=aI.ext f;have aL:=br.go (bQ.ext _ f);have aM:bF (λq=>¬(T.bm aF T.P).M q) E n K V D:=(c9.ext f).aY λq _ c=>c.2;have cd:=f.size;obtain⟨bX,aC,aU,aO⟩:=bH F;refine⟨_,bX,K,aC,V,aU,D,aO,Hp,?_⟩;refine(Hl (no:Nat) bw I aL aM az I be I).use ?_;rintro _ G ⟨b4,s2,rfl,x,l⟩;have ac:=(B.trans (c5.ext _ f)).trans l;have aP:=aL.go l.to;have ce:=l.to.ab.size;have aT:acc.length<most.toNat:=by omega
  rcases bj with ⟨rfl,aX,rfl,rfl⟩|⟨g,rfl,ad,_,bx⟩
  .
   have y:n.leaf=true:=aX.leaf;have e:jS fr to most.toNat n acc n.dL=kJ fr to most.toNat acc n.dL:=by unfold jS;rw[if_pos y]
   have d:=Cm (fr:=fr) (to:=to) aX.dL.1 aT;rw[e]at x⊢;refine⟨_,rfl,λc=>?_,λc=>⟨λ_=>?_,λhx=>?_⟩⟩
   .have c:(kJ fr to most.toNat acc n.dL).1=false:=by simpa using c
    refine⟨b4,s2,_,ac.mono (by simp),x,.inl ⟨false,rfl,?_⟩⟩;rw[c]at d;exact d
   .have c:(kJ fr to most.toNat acc n.dL).1=true:=by simpa using c
    refine⟨b4,s2,_,ac.mono (by simp),x,.inl ⟨true,rfl,?_⟩⟩;rw[c]at d;exact d
   .rw[y]at hx;cases hx
  .
   have y:n.leaf=false:=ad.inner;have e:jS fr to most.toNat n acc n.dL=(true,acc):=by unfold jS;rw[y];rfl
   rw[e]at x⊢;refine⟨true,rfl,λc=>(by cases c),λ_=>⟨λc=>(by rw[y]at c;cases c),λ_=>aW ?_⟩⟩;have ae:Ext G G.drew:=cf _;have a0:Var G.drew nb (dZ n K V D) 202:=(F.ab l.to.ab λaa=>aJ (aN.gl aa)).drew;have cg:=(l.to.out (q:=nb) I aJ).1;have ah:bF (λq=>¬b4.M q) G.drew n K V D:=(l.to.g_ aM).ext ae;have bz:=aP.go (bQ.ext b4 ae);obtain⟨d0,d1,d2,d3⟩:=bH a0;refine⟨λ_=>False,id,D,d3,id,_,d0,K,d1,V,d2,D,d3,(nZ ah bz.yB ad.fb I).use ?_⟩;rintro _ bC ⟨rfl,H⟩;have ch:=vi n.keys fr;have ci:=ah.kids.len;have ck:=ad.len;obtain⟨fN,dG,a7,bB,rfl,rfl,a1,bD⟩:=bx fr;have N:=ae.trans H;have bE:=ac.trans (c5.ext b4 N);have bG:=x.ext N;have bI:=aP.go (bQ.ext b4 N);have ai:=ah.ext H;have cl:=a0.ext H;have cm:=N.size;have co:n.kids.length<=100000:=by omega
   have cp:dt n.keys fr<D.len:=by omega
   obtain⟨A,ar,cq⟩:∃A,D.a=some A/\D.len<=D.cap:=by
    obtain⟨A,ar,_⟩:=cK.at ai.kids (i:=0) I;exact⟨A,ar,ai.kids.2.1⟩
   refine⟨_,rfl,H,⟨I,I⟩,λi w'=>∃ (j:Nat) (dc:aN) (Q:Y) (mw:O aH) (m qr:O Nat) (o al:O aH),i=(j:Int)/\j<=D.len-dt n.keys fr/\iR lo w' dc aE Q mw/\c5 T dc w w' (2+2*m.length)/\c5 b4 dc bC w' (2*m.length)/\Kids (λlo hi k p L=>ej T.P (g+1) lo hi k p L) (n.kids.drop (dt n.keys fr+j)) qr al/\dG=m++qr/\bB=o++al/\h5 fr to most.toNat acc o true mw,
    λi _=>((D.len:Int)-i).toNat,⟨0,b4,s2,acc,[],dG,[],bB,rfl,cL _,bG,bE.mono (by simp),.refl _ _,bD,rfl,rfl,.nil aT⟩,?_⟩
   rintro _ a2 ⟨j,dc,Q,mw,m,qr,o,al,rfl,cs,a3,r,R,S,rfl,rfl,d⟩;have bJ:(((dt n.keys fr:Nat):Int)).toNat=dt n.keys fr:=dd _;rw[bJ];refine⟨λaK=>?_,λbK=>?_⟩
   rotate_left
   .
    have bL:j=D.len-dt n.keys fr:=by
     have:¬(j:Int)<((D.len-dt n.keys fr:Nat):Int):=cv bK;omega
    have hd:n.kids.drop (dt n.keys fr+j)=[]:=sB I;rw[hd]at S
    cases S;refine⟨dc,Q,mw,r.mono (by simp only[cz,e8,jJ];omega),a3,.inl ⟨true,rfl,.skip (Cs a1) ?_⟩⟩;rw[f_];exact d
   .have bL:j<D.len-dt n.keys fr:=by
     have:(j:Int)<((D.len-dt n.keys fr:Nat):Int):=b8 aK;omega
    have a4:dt n.keys fr+j<n.kids.length:=by omega
    have bM:=R.to.g_ ai;have bN:=bI.go R.to;have ct:=R.to.ab.size;obtain⟨cu,a5,c,am⟩:=cK.at bM.kids a4;rw[ar]at a5
    cases a5;obtain⟨u,a6⟩:∃u,u=n.kids[dt n.keys fr+j]:=⟨_,rfl⟩;rw[←a6]at am;have bO:n.kids.drop (dt n.keys fr+j)=u::n.kids.drop (dt n.keys fr+j+1):=by rw[jD a4,a6]
    rw[bO]at S
    cases S with
    | @cons bP bR _ _ an bS a8 bT bU bV=>
    have bW:dc.P=T.P:=r.P;have bY:a2.cell? ((A.add (dt n.keys fr)).add (Int.toNat (j:Int)*1))=some (.int .i64 (u:Int)):=by
     rw[dd,fG,add_add];rw[dd,fG]at am;exact am
    have bZ:IntKind.wrap .i64 (((g+1+1:Nat):Int)-1)=((g+1:Nat):Int):=by rw[bA I I];omega
    have b0:IntKind.wrap .i64 ((j:Int)+1)=((j+1:Nat):Int):=by rw[bA I I];omega
    have b1:dc.aZ=T.aZ:=r.to.aZ;simp only[e8,cz]at bg bf;have b2:(mw.length:Int)<most/\mw.length<=acc.length+o.length:=by
     have b3:gK o:=(pY.1 (pY.1 bn).2.1).1;refine⟨?_,d.len b3⟩;rcases d with ⟨_,_,a9⟩|⟨a9,_⟩
     .omega
     .cases a9
    have cw:=r.to.aQ;have a_:=bd (w:=a2) (T:=dc) (lo:=lo) (aE:=aE) (aZ:=aZ) (aV:=aV) (aS:=aS) (s:=Q) (fF:=fF) (fL:=fL) (acc:=mw) (L:=a8) (to:=to) (fr:=fr) (most:=most) (fc:=bP) (dM:=bR) (no:=u) (p:=an) a3 I bN I (by rw[bW];exact bU) b2.1 I I;rw[b1]at a_;refine⟨A.add (dt n.keys fr),by rw[ar];exact Hq I,⟨I,I⟩,u,bY,?_⟩;rw[bZ,b0];refine a_.use ?_;rintro _ b5 ⟨i_,ao,ap,ba,au,b6⟩;have aw:c5 T i_ w b5 (2+2*(m.length+an.length)):=(r.trans ba).mono I;rcases b6 with ⟨on,rfl,bb⟩|⟨rfl,W⟩
    .refine⟨on,0,rfl,λc=>?_,λc=>?_⟩
     .have c:on=false:=by simpa using c
      subst c;refine⟨i_,ao,ap,aw.mono (by simp only[cz,e8];omega),au,.inl ⟨false,rfl,.skip (Cs a1) ?_⟩⟩;rw[←cP];exact(d.app bb).stop
     .have c:on=true:=by simpa using c
      subst c;refine⟨⟨j+1,i_,ao,ap,m++an,bS,o++a8,bT,rfl,I,au,?_,?_,?_,by rw[cP],by rw[cP],d.app bb⟩,?_⟩
      .rw[cz];exact aw
      .rw[cz];exact(R.trans ba).mono I
      .rw[←Nat.add_assoc];exact bV
      .show((D.len:Int)-((j+1:Nat):Int)).toNat<((D.len:Int)-(j:Int)).toNat
       omega
    .refine⟨false,3,rfl,λ_=>?_,λc=>(by simp at c)⟩
     refine⟨i_,ao,ap,aw.mono (by simp only[cz,e8];omega),au,.inr ⟨rfl,λhc=>W (r.to.calm _ (gg hc (by simp only[cz,e8];omega)))⟩⟩
def Hs(T:aN)(L:O aH)(fr to:Key)(most:Int)(a:Nat)(w:J)(v:aa)(w':J):Prop:=
 ∃ao:aN,bJ w' ao/\c5 T ao w w' (2*a)/\ao.G=T.G/\
  ((∃s:Y,v=.tuple #[s,(0:Int)]/\e7 (λq=>¬ao.M q) w' s ((g9 L fr to).take most.toNat))\/(v=.tuple #[(),(3:Int)]/\¬T.C.D.calm (2*a)))
theorem e7.none(B:Nat->Prop)(w:J):e7 B w ⟨.none,0,0⟩ []:=(kK.none B w).r λq a=>(gk q a).elim
theorem c5.back{T ao:aN}{w w':J}{k:Nat}(ht:bJ w T)(h:c5 T ao w w' k)(b:bJ w' ao):bJ w' (ao.ck T.E T.G)/\c5 T (ao.ck T.E T.G) w w' k:=
 ⟨b.grow (W:=λ_=>False) (ad.refl _ _) (λ_ h=>h.elim) (λq a=>.inl (by rw[h.E];exact a)) (λq a=>.inr (.inl (h.G q a))) λq a=>(ht.c8 q a).2.2,
  h.to.step (W:=λ_=>False) (ad.refl _ _) (λ_ h=>h.elim) (λq a=>.inl (by rw[h.E];exact a)) (λq a=>.inl (h.G q a)),rfl,λ_ h=>h,h.root,h.aI,h.f,h.P,h.view⟩
theorem Ht{w:J}{T:aN}{pages:O Nat}{L:O aH}{fL fF:Y}{fr to:Key}{most:Int}(h:bJ w T)(H:gh T pages L)(aU:L.length<=30000)(ap:T.C.D.aQ+2*pages.length<=999999999)
 (hf:Src 1 w fL (aJ fr)) (u:∀q,aB fL q->q<w.heap.size/\¬T.M q) (ht:Src 1 w fF (aJ to)) (x:∀q,aB fF q->q<w.heap.size/\¬T.M q) (aX:to.length<=1000000):
 aR aj 111 #[.pointer (some T.aZ),fL,fF,most] w (Hs T L fr to most pages.length w):=by
 have aq:=h.num.2.1;refine okF (af.ui (some T.aZ) fL fF most) aA.ui func111 ?_;(delta af.ui ak r1 U ag kZ;dsimp only);refine bh (vs:=[fL]) rfl λw1 K N a0=>bh (vs:=[fF]) rfl λah Q y a1=>bh (vs:=[most]) rfl λR z o a2=>⟨λh=>(by cases h),λ_=>?_⟩;have A:=(N.trans y).trans o;have S:=h.ext A;refine⟨_,rfl,_,S.cells.2.2.2.2,cq (λb w'=>b=decide (T.aI=0\/most<1)/\R=w') (λq c=>⟨λd=>c _ _ ⟨?_,rfl⟩,λd=>⟨_,z.cell,c _ _ ⟨?_,rfl⟩⟩⟩) ?_⟩
 .have:T.aI=0:=by simpa using d
  simp[this]
 .have:T.aI≠0:=by simpa using d
  simp[this]
 rintro _ _ ⟨rfl,rfl⟩;refine⟨λd=>?_,λd=>?_⟩
 .have d:=b8 d
  have e:(g9 L fr to).take most.toNat=[]:=by
   rcases d with d|d
   .rcases H with ⟨_,_,_,ar⟩|g
    .rw[ar];simp[g9]
    .rw[d]at g;exact g.elim
   .have:most.toNat=0:=by omega
    rw[this,List.take_zero]
  refine⟨T,S,(c5.ext T A).mono I,rfl,.inl ⟨⟨none,0,0⟩,rfl,?_⟩⟩;rw[e];exact e7.none _ _
 have d:=cv d;have g:ej T.P T.aI none none T.root pages L:=by
  rcases H with ⟨av,_⟩|g
  .exact absurd (.inl av) d
  .exact g
 refine bh (vs:=[()]) rfl λB V l a3=>aW ?_;have i:Ext B B.drew:=cf _;obtain⟨k,aw⟩:∃k,k=B.drew:=⟨_,rfl⟩;rw[←aw]at i⊢;obtain⟨aE,X⟩:∃aE,aE=R.heap.size:=⟨_,rfl⟩;obtain⟨aV,Z⟩:∃aV,aV=w.heap.size:=⟨_,rfl⟩;obtain⟨aZ,aa⟩:∃aZ,aZ=w1.heap.size:=⟨_,rfl⟩;obtain⟨aS,ab⟩:∃aS,aS=ah.heap.size:=⟨_,rfl⟩;rw[←X]at V;rw[←Z]at K;rw[←aa]at Q;rw[←ab]at z;rw[←X,←Z,←aa,←ab];have m:=(A.trans l).trans i;have a4:=N.size;have a5:=y.size;have a6:=o.size;have a7:=l.size;have a8:=i.size;have ac:=V.ext i;have a9:=ac.lt;have F:∀q,w.heap.size<=q->¬T.M q:=λq c a=>by have:=h.lt a;omega
 obtain⟨bP,j⟩:∃bP,bP=T.ck T.E λq=>T.G q\/q=aE:=⟨_,rfl⟩;have ax:bJ k bP:=by
  rw[j];refine h.grow (W:=λ_=>False) m (λ_ h=>h.elim) (λq c=>.inl c) (λq c=>.inr (c.imp id λe=>⟨I,I⟩)) λq c hg=>?_;rcases hg with hg|hg
  .exact(h.c8 q c).2.2 hg
  .have:=h.lt (q:=q) (.inr (.inr (.inr (.inl c))));omega
 have az:c5 T bP w k 0:=by
  rw[j];exact⟨(bQ.refl T w).step (W:=λ_=>False) m (λ_ h=>h.elim) (λq c=>.inl c) λq c=>c.imp id λe=>I,rfl,λ_ h=>.inl h,rfl,rfl,rfl,rfl,λ_=>rfl⟩
 have n:∀q,¬T.M q->q≠aE->¬bP.M q:=λq c aC a=>by
  rw[j]at a;rcases a with a|a|a|a|a
  .exact c (.inl a)
  .exact c (.inr (.inl a))
  .exact c (.inr (.inr (.inl a)))
  .exact c (.inr (.inr (.inr (.inl a))))
  .rcases a with a|a
   .exact c (.inr (.inr (.inr (.inr a))))
   .exact aC a
 have aD:bP.aZ=T.aZ:=by rw[j];rfl
 have ae:bP.C=T.C:=by rw[j];rfl
 have aF:bP.P=T.P:=by rw[j];rfl
 have aG:iR w.heap.size k bP aE ⟨none,0,0⟩ []:=⟨ax,ac,kK.none _ _,by rw[j];exact .inr rfl,λq c=>(gk q c).elim⟩;have ai:qj k bP aZ aV aS fF fL to fr most:=⟨(((Q.ext o).ext l).ext i),((((K.ext y).ext o).ext l).ext i),((z.ext l).ext i),n _ (F _ I) I,n _ (F _ I) I,n _ (F _ I) I,
  ht.ext m,hf.ext m,λq c=>⟨by have:=(x q c).1;omega,n q (x q c).2 (by have:=(x q c).1;omega)⟩,λq c=>⟨by have:=(u q c).1;omega,n q (u q c).2 (by have:=(u q c).1;omega)⟩,I⟩
 have al:=Hr T.aI (acc:=[]) (no:=T.root) (L:=L) (p:=pages) (fc:=none) (dM:=none) aG I ai aq (by rw[aF];exact g) (by show(((([]:O aH).length:Nat)):Int)<most;simp only[jJ];omega) (by simp only[jJ];omega) (by rw[ae];exact ap);rw[aD]at al;have am:=h.ext m;refine⟨λ_=>False,_,rfl,id,_,am.cells.2.2.2.1,_,rfl,id,_,am.cells.2.2.2.2,id,_,ai.vV.cell,ad.refl _ _,al.use ?_⟩;rintro _ aK ⟨ao,an,a_,aL,f,aM⟩;have s:c5 T ao w aK (2*pages.length):=(az.trans aL).mono I;obtain⟨b_,bO⟩:=s.back h f.t;rcases aM with ⟨on,rfl,aO⟩|⟨rfl,aP⟩
 .refine⟨on,0,rfl,λhx=>(by cases hx),λ_=>⟨an,f.v.cell,_,b_,bO,rfl,.inl ⟨an,rfl,?_⟩⟩⟩
  have he:=aO.all g.fb.1;rw[←he];have aT:∀q,¬ao.M q->¬(ao.ck T.E T.G).M q:=λq c a=>c (by
   rcases a with a|a|a|a|a
   .exact .inl a
   .exact .inr (.inl a)
   .exact .inr (.inr (.inl a))
   .exact .inr (.inr (.inr (.inl (by rw[s.E];exact a))))
   .exact .inr (.inr (.inr (.inr (s.G q a)))))
  refine(f.own.aY λq _ c=>aT q c).r λq c a=>?_;obtain⟨au,ay,ba⟩:=f.gs q c;rcases a with a|a|a|a|a
  .exact f.t.rX au a
  .exact(f.t.hD q au).1 a
  .exact(f.t.hD q au).2 a
  .exact(f.t.c8 q (by rw[s.E];exact a)).2.2 au
  .have:=h.lt (q:=q) (.inr (.inr (.inr (.inr a))));omega
 .exact⟨false,3,rfl,λ_=>⟨_,b_,bO,rfl,.inr ⟨rfl,by rw[←ae];exact aP⟩⟩,λhx=>(by simp at hx)⟩
theorem Cu{w:J}{T:aN}(h:bJ w T):aR aj 147 #[.pointer (some T.aZ)] w (λv w'=>v=.tuple #[T.root,T.aI]/\Ext w w'):=by
 refine okF (af.uA (some T.aZ)) aA.uA func147 ?_;(delta af.uA ak r1;dsimp only);have hd:=h.ext (cf w);exact⟨λh=>(by cases h),λ_=>aW ⟨_,rfl,id,_,hd.cells.2.2.2.1,_,rfl,id,_,hd.cells.2.2.2.2,rfl,cf w⟩⟩
end Go.Proofs.YtkdhdlfonmgheaaGreat
namespace Go.Proofs.YtkdhdlfonmgheaaGreat
open Go Go.Proofs Go.Shelf
def Cv:Go.Shelf.Ren:=⟨λ |7=>178|10=>232|n=>n,λ |23=>137|26=>3|3=>136|28=>264|0=>0|27=>263|33=>180|4=>4|n=>n,λ |n=>n⟩
theorem Hu:Go.Proofs.SlLaysZI.n7 Tryz.prog Cv:={
 mixed:=by kernel_rfl
 f7:=⟨Tryz.f178.name,by decide,Tryz.func178.trans (congrArg some (by kernel_rfl))⟩
 f10:=⟨Tryz.f232.name,by decide,Tryz.func232.trans (congrArg some (by kernel_rfl))⟩
 t0:=Tryz.underlying0
 a0:=Tryz.isAgg0
 z0:=Tryz.sizeOf0
 v0:=Tryz.zeroValue0
 t4:=Tryz.underlying4
 a4:=Tryz.isAgg4
 z4:=Tryz.sizeOf4
 v4:=Tryz.zeroValue4
 t23:=Tryz.underlying137
 a23:=Tryz.isAgg137
 z23:=Tryz.sizeOf137
 v23:=Tryz.zeroValue137
 t26:=Tryz.underlying3
 a26:=Tryz.isAgg3
 z26:=Tryz.sizeOf3
 v26:=Tryz.zeroValue3
 t27:=Tryz.underlying263
 a27:=Tryz.isAgg263
 z27:=Tryz.sizeOf263
 v27:=Tryz.zeroValue263
 t28:=Tryz.underlying264
 a28:=Tryz.isAgg264
 z28:=Tryz.sizeOf264
 v28:=Tryz.zeroValue264
 t33:=Tryz.underlying180
 a33:=Tryz.isAgg180
 z33:=Tryz.sizeOf180
 v33:=Tryz.zeroValue180}
def Cw:Go.Shelf.Ren:=⟨λ |6=>177|8=>231|9=>153|11=>271|13=>213|12=>212|23=>264|24=>265|14=>255|15=>256|16=>257|17=>258|18=>259|19=>260|20=>261|21=>262|22=>263|25=>286|26=>287|27=>288|28=>289|29=>290|30=>291|31=>297|n=>n,λ |26=>3|28=>264|24=>58|0=>0|3=>3|37=>101|48=>219|50=>27|4=>4|40=>340|39=>339|45=>175|5=>5|9=>9|51=>364|55=>367|57=>371|58=>234|33=>180|n=>n,λ |n=>n⟩
theorem Hv:Go.Proofs.SlLaysZI.n6 Tryz.prog Cw:={
 mixed:=by kernel_rfl
 f6:=⟨Tryz.f177.name,by decide,Tryz.func177.trans (congrArg some (by kernel_rfl))⟩
 f8:=⟨Tryz.f231.name,by decide,Tryz.func231.trans (congrArg some (by kernel_rfl))⟩
 f11:=⟨Tryz.f271.name,by decide,Tryz.func271.trans (congrArg some (by kernel_rfl))⟩
 t0:=Tryz.underlying0
 a0:=Tryz.isAgg0
 z0:=Tryz.sizeOf0
 v0:=Tryz.zeroValue0
 t24:=Tryz.underlying58
 a24:=Tryz.isAgg58
 z24:=Tryz.sizeOf58
 v24:=Tryz.zeroValue58
 t26:=Tryz.underlying3
 a26:=Tryz.isAgg3
 z26:=Tryz.sizeOf3
 v26:=Tryz.zeroValue3
 t28:=Tryz.underlying264
 a28:=Tryz.isAgg264
 z28:=Tryz.sizeOf264
 v28:=Tryz.zeroValue264
 i26:=by kernel_rfl}
def Hw:Go.Shelf.Ren:=⟨λ |5=>153|8=>213|7=>212|19=>264|20=>265|10=>255|11=>256|12=>257|13=>258|14=>259|15=>260|16=>261|17=>262|18=>263|30=>286|31=>287|32=>288|33=>289|34=>290|35=>291|40=>297|n=>n,λ |23=>58|25=>3|3=>3|32=>101|22=>58|0=>0|44=>219|46=>27|4=>4|36=>340|35=>339|41=>175|5=>5|9=>9|53=>364|57=>367|63=>371|64=>234|n=>n,λ |n=>n⟩
theorem vW:Go.Proofs.SlLaysM.n5 Tryz.prog Hw:={
 mixed:=by kernel_rfl
 f5:=⟨Tryz.f153.name,by decide,Tryz.func153.trans (congrArg some (by kernel_rfl))⟩
 f7:=⟨Tryz.f212.name,by decide,Tryz.func212.trans (congrArg some (by kernel_rfl))⟩
 f8:=Tryz.func213.trans (congrArg some (by kernel_rfl))
 f10:=⟨Tryz.f255.name,by decide,Tryz.func255.trans (congrArg some (by kernel_rfl))⟩
 f11:=⟨Tryz.f256.name,by decide,Tryz.func256.trans (congrArg some (by kernel_rfl))⟩
 f12:=⟨Tryz.f257.name,by decide,Tryz.func257.trans (congrArg some (by kernel_rfl))⟩
 f13:=⟨Tryz.f258.name,by decide,Tryz.func258.trans (congrArg some (by kernel_rfl))⟩
 f14:=⟨Tryz.f259.name,by decide,Tryz.func259.trans (congrArg some (by kernel_rfl))⟩
 f15:=⟨Tryz.f260.name,by decide,Tryz.func260.trans (congrArg some (by kernel_rfl))⟩
 f16:=⟨Tryz.f261.name,by decide,Tryz.func261.trans (congrArg some (by kernel_rfl))⟩
 f17:=⟨Tryz.f262.name,by decide,Tryz.func262.trans (congrArg some (by kernel_rfl))⟩
 f18:=⟨Tryz.f263.name,by decide,Tryz.func263.trans (congrArg some (by kernel_rfl))⟩
 f19:=Tryz.func264.trans (congrArg some (by kernel_rfl))
 f20:=Tryz.func265.trans (congrArg some (by kernel_rfl))
 f30:=⟨Tryz.f286.name,by decide,Tryz.func286.trans (congrArg some (by kernel_rfl))⟩
 f31:=Tryz.func287.trans (congrArg some (by kernel_rfl))
 f32:=Tryz.func288.trans (congrArg some (by kernel_rfl))
 f33:=⟨Tryz.f289.name,by decide,Tryz.func289.trans (congrArg some (by kernel_rfl))⟩
 f34:=⟨Tryz.f290.name,by decide,Tryz.func290.trans (congrArg some (by kernel_rfl))⟩
 f35:=⟨Tryz.f291.name,by decide,Tryz.func291.trans (congrArg some (by kernel_rfl))⟩
 f40:=⟨Tryz.f297.name,by decide,Tryz.func297.trans (congrArg some (by kernel_rfl))⟩
 t0:=Tryz.underlying0
 a0:=Tryz.isAgg0
 z0:=Tryz.sizeOf0
 v0:=Tryz.zeroValue0
 t3:=Tryz.underlying3
 a3:=Tryz.isAgg3
 z3:=Tryz.sizeOf3
 v3:=Tryz.zeroValue3
 t4:=Tryz.underlying4
 a4:=Tryz.isAgg4
 z4:=Tryz.sizeOf4
 v4:=Tryz.zeroValue4
 t5:=Tryz.underlying5
 a5:=Tryz.isAgg5
 z5:=Tryz.sizeOf5
 v5:=Tryz.zeroValue5
 t9:=Tryz.underlying9
 a9:=Tryz.isAgg9
 z9:=Tryz.sizeOf9
 v9:=Tryz.zeroValue9
 t22:=Tryz.underlying58
 a22:=Tryz.isAgg58
 z22:=Tryz.sizeOf58
 v22:=Tryz.zeroValue58
 t23:=Tryz.underlying58
 a23:=Tryz.isAgg58
 z23:=Tryz.sizeOf58
 v23:=Tryz.zeroValue58
 t25:=Tryz.underlying3
 a25:=Tryz.isAgg3
 z25:=Tryz.sizeOf3
 v25:=Tryz.zeroValue3
 t32:=Tryz.underlying101
 a32:=Tryz.isAgg101
 z32:=Tryz.sizeOf101
 v32:=Tryz.zeroValue101
 t35:=Tryz.underlying339
 a35:=Tryz.isAgg339
 z35:=Tryz.sizeOf339
 v35:=Tryz.zeroValue339
 t36:=Tryz.underlying340
 a36:=Tryz.isAgg340
 z36:=Tryz.sizeOf340
 v36:=Tryz.zeroValue340
 t41:=Tryz.underlying175
 a41:=Tryz.isAgg175
 z41:=Tryz.sizeOf175
 v41:=Tryz.zeroValue175
 t44:=Tryz.underlying219
 a44:=Tryz.isAgg219
 z44:=Tryz.sizeOf219
 v44:=Tryz.zeroValue219
 t46:=Tryz.underlying27
 a46:=Tryz.isAgg27
 z46:=Tryz.sizeOf27
 v46:=Tryz.zeroValue27
 t53:=Tryz.underlying364
 a53:=Tryz.isAgg364
 z53:=Tryz.sizeOf364
 v53:=Tryz.zeroValue364
 t57:=Tryz.underlying367
 a57:=Tryz.isAgg367
 z57:=Tryz.sizeOf367
 v57:=Tryz.zeroValue367
 t63:=Tryz.underlying371
 a63:=Tryz.isAgg371
 z63:=Tryz.sizeOf371
 v63:=Tryz.zeroValue371
 t64:=Tryz.underlying234
 a64:=Tryz.isAgg234
 z64:=Tryz.sizeOf234
 v64:=Tryz.zeroValue234}
end Go.Proofs.YtkdhdlfonmgheaaGreat
namespace Go.Proofs.YtkdhdlfonmgheaaGreat
open Go a8 Go.Proofs.Tryz
theorem Hx{w:J}{b n:Nat}{c:Array aa}{T:TypeId}{os:Array Obj}{zs:O Int}(h:bz w b c T)(g:zs.length<=c.size):
 ∃c':Array aa,bz (Go.Sort.grow (Go.Sort.putRow (Value.int .i64) (Go.Sort.ahead w n) b 0 zs.toArray) os) b c' T/\c'.size=c.size/\c'.toList.take zs.length=zs.map encZ/\ad (λq=>q=b) w (Go.Sort.grow (Go.Sort.putRow (Value.int .i64) (Go.Sort.ahead w n) b 0 zs.toArray) os):=by
 have aK:=h.lt;have d:∀k,k<w.heap.size->(Go.Sort.grow (Go.Sort.putRow (Value.int .i64) (Go.Sort.ahead w n) b 0 zs.toArray) os).heap[k]? =(w.heap.modify b (Go.Sort.onCells (Go.Sort.putCells (Value.int .i64) 0 zs.toArray)))[k]? :=λk a=>by
  show((w.heap.modify b _)++os)[k]? =_;rw[Array.getElem?_append_left (by simpa using a)]
 refine⟨Go.Sort.putCells (Value.int .i64) 0 zs.toArray c,?_,by simp[Go.Sort.putCells],?_,rfl,rfl,rfl,?_,λk a f=>?_⟩
 .unfold bz at h⊢
  rw[d b aK,sh,if_pos rfl,h];rfl
 .apply List.ext_getElem?
  intro i;rw[sk];split
  .rename_i hi
   rw[Array.getElem?_toList,Go.Sort.putCells,Array.getElem?_mapIdx,Array.getElem?_eq_getElem I,lq,if_pos ⟨cL _,by simpa using hi⟩,lu,dE hi];simp[hi]
  .rename_i hi
   rw[kp (by simpa using hi)]
 .show w.heap.size<=((w.heap.modify b _)++os).size
  simp
 .rw[d k a,sh,if_neg (λe=>f e.symm)]
theorem yC(ds:O Nat):ee ds=(ds.map λd=>((d:Nat):Int)).map encZ:=by simp[ee]
theorem Cx{w:J}{s:Y}{zs:O Int}(h:bd 1 3 w s (zs.map encZ))(F:zs.length<=1000000):
 aR aj 153 #[s] w (λv w'=>v=.tuple #[]/\ad (aB s) w w'/\∃d:O Int,bd 1 3 w' s (d.map encZ)/\d.Perm zs/\d.Pairwise λa b=>a<=b):=by
 have G:s.len=zs.length:=by have:=h.1;rw[dU]at this;omega
 rcases ny zs.length with h0|h0
 .have hd:zs=[]:=lp.1 h0
  have e:s.len=0:=by omega
  rw[e];refine Calls.mono (AnyM.slices_Sort_int_none vW s.a s.cap w) ?_;rintro _ _ ⟨rfl,rfl⟩;exact⟨_,rfl,rfl,.refl _ _,[],by rw[hd]at h;exact h,by rw[hd],List.Pairwise.nil⟩
 obtain⟨h1,h2,t,u⟩:=h;rcases u with ⟨_,g⟩|⟨b,c,i,f,z,A⟩
 .omega
 have B:Go.Sort.Holds (Value.int .i64) w b 0 zs.toArray:=λj C=>by
  have m:j<zs.length:=by simpa using C
  refine⟨?_,bz.frozen f _ rfl⟩;rw[f.cell,cy];have e:=congrArg (λl=>l[j]?) A;simp only[sk,lu,dE m,lq]at e;rw[if_pos I,Array.getElem?_toList]at e;rw[e];simp[m]
 have D:=AnyM.slices_Sort_int vW b 0 s.cap zs w B f.lt I;rw[i];have e:s.len=zs.length:=by omega
 rw[e];refine Calls.mono D ?_;rintro _ w' ⟨rfl,n,os,rfl⟩;obtain⟨c',au,ay,o,p⟩:=Hx (n:=n) (os:=os) (zs:=zs.mergeSort λx y=>decide (x<=y)) f (by rw[List.length_mergeSort];omega);have k:=List.mergeSort_perm zs λx y=>decide (x<=y);have r:(zs.mergeSort λx y=>decide (x<=y)).Pairwise λa b=>decide (a<=b)=true:=List.pairwise_mergeSort (λa b c h1 h2=>by simp only[cS]at*;omega) (λa b=>by simp only[iT,cS];omega) zs;generalize (zs.mergeSort λx y=>decide (x<=y))=d at au ay o p k r;refine⟨_,rfl,rfl,p.mono λq _ e=>⟨b,i,e.symm⟩,d,?_,k,r.imp λh=>b8 h⟩;have E:=k.length_eq;have g:=bd.mk' (sz:=1) (n:=s.len) (cap:=s.cap) au (vs:=d.map encZ) (by rw[dU];omega) h2 t (by rw[ay];exact z) (by rw[fG,e,←E];exact o);rw[←i]at g;exact g
theorem Cy{w:J}{s:Y}{ds:O Nat}(h:bd 1 3 w s (ee ds))(i:ds.length<=1000000):
 aR aj 153 #[.slice s.a s.len s.cap] w (λv w'=>v=.tuple #[]/\ad (aB s) w w'/\∃es:O Nat,bd 1 3 w' s (ee es)/\es.Perm ds/\es.Pairwise λa b=>a<=b):=by
 rw[yC]at h;refine(Cx h (by rw[dU];exact i)).mono ?_;rintro v w' ⟨rfl,hc,c,j,f,k⟩;have g:∀y∈c,0<=y:=λy e=>by
  obtain⟨d,_,rfl⟩:=eC.1 (f.mem_iff.1 e);omega
 have l:(c.map Int.toNat).map (λd=>((d:Nat):Int))=c:=by
  rw[iz]
  conv=>rhs;rw[←List.map_id c]
  refine List.map_congr_left λy e=>?_;have:=g y e;show((y.toNat:Nat):Int)=y;omega
 refine⟨rfl,hc,c.map Int.toNat,by rw[yC,l];exact j,?_,?_⟩
 .have:=f.map Int.toNat
  rw[iz]at this;have m:(Int.toNat∘ λd:Nat=>((d:Nat):Int))=id:=by funext d;simp
  rw[m,List.map_id]at this;exact this
 .rw[List.pairwise_map]
  exact k.imp_of_mem λn o p=>by
   have:=g _ n;omega
theorem Hy{B:Nat->Prop}{w:J}{s:Y}{ds:O Nat}(h:cK B w s ds)(no:Nat)(k:ds.length<=1000000):
 aR aj 184 #[s,no] w (λv w'=>∃n:Int,v=n/\(0<=n↔no∈ds)/\w=w'):=by
 have l:=h.len;refine okF (af.tA s (no:Nat)) aA.tA func184 ?_;(delta af.tA ak aL r1 av;dsimp only);refine⟨λn w'=>∃i:Nat,n=(i:Int)/\i<=ds.length/\no∉ds.take i/\w=w',λn _=>((ds.length:Int)-n).toNat,⟨0,rfl,cL _,by simp,rfl⟩,?_⟩;rintro _ _ ⟨i,rfl,hi,d,rfl⟩;refine⟨λaK=>?_,λf=>?_⟩
 .have b:i<ds.length:=by
   have:(i:Int)<(s.len:Int):=b8 aK;omega
  obtain⟨A,ar,g,hc⟩:=cK.at h b;refine⟨A,ar,g,_,hc,λhe=>?_,λc=>?_⟩
  .have he:no=ds[i]:=by
    have:(no:Int)=((ds[i]:Nat):Int):=by simpa using he
    omega
   exact⟨_,rfl,⟨λ_=>by rw[he];exact cF _,λ_=>I⟩,rfl⟩
  .have c:no≠ds[i]:=λe=>by rw[e]at c;simp at c
   have j:IntKind.wrap .i64 ((i:Int)+1)=((i+1:Nat):Int):=by rw[bA I I];omega
   rw[j];refine⟨⟨i+1,rfl,I,?_,rfl⟩,by show((ds.length:Int)-((i+1:Nat):Int)).toNat<((ds.length:Int)-(i:Int)).toNat;omega⟩;rw[iU b];intro a;rcases cT.1 a with a|a
   .exact d a
   .exact c (ff.1 a)
 .have b:i=ds.length:=by
   have:¬(i:Int)<(s.len:Int):=cv f;omega
  rw[b,iV]at d;exact⟨-1,rfl,⟨λh=>I,λh=>absurd h d⟩,rfl⟩
theorem Hz{B:Nat->Prop}{w:J}{s:Y}{ds:O Nat}(h:cK B w s ds)(no:Nat)(a:ds.length<=1000000):
 aR aj 118 #[s,no] w (λv w'=>v=.bool (decide (no∈ds))/\w=w'):=by
 refine okF (af.tv s (no:Nat)) aA.tv func118 ?_;(delta af.tv aC;dsimp only);refine(Hy h no a).use ?_;rintro _ _ ⟨n,rfl,b,rfl⟩;refine⟨n,rfl,?_,rfl⟩
 congr 1
 exact decide_eq_decide.2 b
def iu(B:Nat->Prop)(w:J)(t:Y):aq Key->Prop
 |none=>t.a=none
 |some k=>k≠ []/\a_ B w t k
theorem iu.ab{B W:Nat->Prop}{w w':J}{t:Y}{o:aq Key}(h:iu B w t o)(hc:ad W w w')(b:∀q,B q->q<w.heap.size->¬W q):iu B w' t o:=by
 cases o with
 |none=>exact h
 |some k=>exact⟨h.1,a_.iM h.2 hc λq a=>b q (h.2.2.2 q a).1 (h.2.2.2 q a).2⟩
theorem iu.aY{B C:Nat->Prop}{w:J}{t:Y}{o:aq Key}(h:iu B w t o)(a:∀q,q<w.heap.size->B q->C q):iu C w t o:=by
 cases o with
 |none=>exact h
 |some k=>exact⟨h.1,a_.aY h.2 a⟩
theorem iu.nil{B:Nat->Prop}{w:J}{t:Y}{o:aq Key}(h:iu B w t o):(!(Option.isNone t.a))=o.isSome:=by
 cases o with
 |none=>rw[show t.a=none from h];rfl
 |some k=>
  obtain⟨A,ar⟩:=a_.some h.2 h.1;rw[ar];rfl
theorem pR{B C D:Nat->Prop}{w:J}{n:aD}{K V l lQ lR:Y}{lo hi:aq Key}(z:bF B w n K V l)(S:n.keys.length<=100000)(L:iu C w lQ lo)(M:iu D w lR hi):
 aR aj 254 #[c2 n K V l,lQ,lR] w (λv w'=>∃b:ai,v=b/\(b=true↔n.within lo hi)/\Ext w w'):=by
 have T:=bq.len z.keys;refine okF (af.pR n.leaf K V l lQ lR) aA.pR func254 ?_;(delta af.pR ag U ak aL aC av;dsimp only);refine bh (vs:=dZ n K V l) rfl λw1 N f X=>?_;obtain⟨bX,aC,aU,aO⟩:=bH N;have O:=z.ext f;have o:=L.ab (W:=λ_=>False) f λ_ _ _ h=>h;have p:=M.ab (W:=λ_=>False) f λ_ _ _ h=>h;refine⟨K,aC,λi w'=>∃s:Nat,i=(s:Int)/\s<=n.keys.length/\(∀k∈n.keys.take s,fu lo hi k)/\w1=w',λi _=>((n.keys.length:Int)-i).toNat,⟨0,rfl,cL _,by simp,rfl⟩,?_⟩;rintro _ _ ⟨i,rfl,Z,t,rfl⟩;refine⟨λaK=>?_,λP=>?_⟩
 rotate_left
 .have m:i=n.keys.length:=by
   have:¬(i:Int)<(K.len:Int):=cv P;omega
  rw[m,iV]at t;exact⟨true,rfl,⟨λ_=>t,λ_=>rfl⟩,f⟩
 have m:i<n.keys.length:=by
  have:(i:Int)<(K.len:Int):=b8 aK;omega
 obtain⟨A,tk,ar,g,hc,u,_⟩:=bq.at O.keys m;obtain⟨key,x⟩:∃key,key=n.keys[i]:=⟨_,rfl⟩;rw[←x]at u;refine⟨A,ar,g,tk,hc,cq (λb w'=>(b=true↔¬∀a,lo=some a->ez a key)/\w1=w') (λq j=>⟨λc=>?_,λc=>?_⟩) ?_⟩
 .rw[o.nil]at c
  cases lo with
  |none=>cases c
  |some a=>
   refine(kB u.1 o.2.1).use ?_;rintro _ _ ⟨rfl,rfl⟩;refine⟨_,rfl,j _ _ ⟨?_,rfl⟩⟩;rw[cS];constructor
   .exact λh h2=>h2 a rfl h
   .exact λh=>oV λh2=>h λb g=>by cases g;exact h2
 .rw[o.nil]at c
  cases lo with
  |none=>exact j _ _ ⟨⟨λh=>(by cases h),λh=>absurd (λa e=>(by cases e)) h⟩,rfl⟩
  |some a=>cases c
 rintro aa _ ⟨E,rfl⟩;refine cq (λb w'=>(b=true↔¬fu lo hi key)/\w1=w') (λq j=>⟨λc=>j _ _ ⟨⟨λ_ h=>(E.1 c) h.1,λ_=>rfl⟩,rfl⟩,λc=>?_⟩) ?_
 .have Q:∀a,lo=some a->ez a key:=Classical.byContradiction λh2=>by rw[E.2 h2]at c;cases c
  refine cq (λb w'=>(b=true↔¬∀a,hi=some a->bK key a)/\w1=w') (λr F=>⟨λh2=>?_,λh2=>?_⟩) ?_
  .rw[p.nil]at h2
   cases hi with
   |none=>cases h2
   |some a=>
    refine(kB u.1 p.2.1).use ?_;rintro _ _ ⟨rfl,rfl⟩;refine⟨_,rfl,F _ _ ⟨?_,rfl⟩⟩;rw[cS];constructor
    .exact λh h2=>by
      have:eE key a<0:=h2 a rfl;omega
    .exact λh=>oV λh2=>h λb g=>by cases g;show eE key a<0;omega
  .rw[p.nil]at h2
   cases hi with
   |none=>exact F _ _ ⟨⟨λh=>(by cases h),λh=>absurd (λa e=>(by cases e)) h⟩,rfl⟩
   |some a=>cases h2
  .rintro ac _ ⟨G,rfl⟩
   exact j _ _ ⟨⟨λh y=>G.1 h y.2,λh=>G.2 λy=>h ⟨Q,y⟩⟩,rfl⟩
 .rintro ad _ ⟨H,rfl⟩
  have R:IntKind.wrap .i64 ((i:Int)+1)=((i+1:Nat):Int):=by rw[bA I I];omega
  refine⟨λc=>⟨false,rfl,⟨λh=>(by cases h),λh=>absurd (h key (by rw[x];exact cF _)) (H.1 c)⟩,f⟩,λc=>?_⟩;rw[R];refine⟨⟨i+1,rfl,I,λk d=>?_,rfl⟩,by show((n.keys.length:Int)-((i+1:Nat):Int)).toNat<((n.keys.length:Int)-(i:Int)).toNat;omega⟩;rw[iU m]at d;rcases cT.1 d with d|d
  .exact t k d
  .rw[ff.1 d,←x]
   exact Classical.byContradiction λh=>by rw[H.2 h]at c;cases c
theorem dF.each{W:Below}{lo hi:aq Key}{ks:O Key}{kids p:O Nat}{L:O aH}(h:dF W lo hi ks kids p L):
 ∃ (ps:O (O Nat)) (a:O (O aH)),ps.length=kids.length/\a.length=kids.length/\p=ps.flatten/\L=a.flatten/\
  ∀ (i:Nat) (h1:i<kids.length) (h2:i<ps.length) (b:i<a.length),W (if i=0 then lo else ks[i-1]?) (if i<ks.length then ks[i]? else hi) kids[i] ps[i] a[i]:=by
 induction h with
 | @one lo hi k p L h=>
  refine⟨[p],[L],rfl,rfl,by simp,by simp,λi h1 h2 b=>?_⟩;have:i=0:=by simpa using h1
  subst this;exact h
 | @cons lo hi s k bn bp a7 bB ks kids h t c=>
  obtain⟨ps,a,au,ay,rfl,rfl,d⟩:=c;have e:=t.len;refine⟨bn::ps,a7::a,by simp[au],by simp[ay],by simp,by simp,λi h1 h2 b=>?_⟩
  cases i with
  |zero=>simpa using h
  |succ i=>
   have:=d i (by simpa using h1) (by simpa using h2) (by simpa using b);simp only[List.getElem_cons_succ,e8,Nat.add_lt_add_iff_right,wj,Nat.add_one_ne_zero,if_false,Nat.add_sub_cancel]
   cases i with
   |zero=>simpa using this
   |succ i=>simpa using this
structure h7(w:J)(T:aN)(dS:Nat)(s:Y)(ps:O Nat)(k:Nat):Prop where
 t:bJ w T
 v:Var w dS [.pointer (some T.aZ),s,k] 303
 own:bd 1 3 w s (ee ps)
 qk:T.G dS
 gs:∀q,aB s q->T.G q/\q≠dS
section
variable {w w':J}{T ao:aN}{dS k:Nat}{s:Y}{ps:O Nat}
theorem h7.of{W:Nat->Prop}(h:h7 w T dS s ps k)(d:bJ w' ao)(e:ao.aZ=T.aZ)(b:∀q,T.G q->ao.G q)(c:ad W w w')(cd:∀q,T.G q->¬W q):h7 w' ao dS s ps k:=
 ⟨d,by rw[e];exact h.v.ab c (cd _ h.qk),h.own.ab c λq a=>cd q (h.gs q a).1,b _ h.qk,λq a=>⟨b q (h.gs q a).1,(h.gs q a).2⟩⟩
theorem h7.ext(h:h7 w T dS s ps k)(hx:Ext w w'):h7 w' T dS s ps k:=h.of (h.t.ext hx) rfl (λ_ h=>h) hx λ_ _ h=>h
theorem h7.cells(h:h7 w T dS s ps k):w.cell? dS=some (.pointer (some T.aZ))/\w.cell? (Addr.add dS 1)=some (.slice s.a s.len s.cap)/\w.cell? (Addr.add dS 2)=some (.int .i64 (k:Nat)):=by
 rw[aw,aw];exact⟨h.v.cell,h.v.cell,h.v.cell⟩
theorem HA(h:h7 w T dS s ps k)(no:Nat)(r:ps.length<=100000):
 ∃ (b:Y) (ah:J),Sem.run aj (Builtin.append_ #[58,58] 58 #[s,.slice (some w.heap.size) 1 1]) (w.alloc (.cells #[no] 3))=.ok b ah/\
  (∃u:aa,ah.cell? ⟨dS,1,none⟩=some u)/\ah.frozen? ⟨dS,1,none⟩=false/\
  ∀c,c=ah.setCell ⟨dS,1,none⟩ b->h7 c (T.ck T.E λq=>T.G q\/aB b q) dS b (ps++ [no]) k/\c5 T (T.ck T.E λq=>T.G q\/aB b q) w c 0:=by
 obtain⟨b,ah,au,ay,d,f,x⟩:=yj no h.own I;have cd:∀q,aB s q->T.G q:=λq a=>(h.gs q a).1;have y:=d.size;have j:=h.v.ab d λa=>(h.gs _ a).2 rfl;obtain⟨bG,bI⟩:=dI j (i:=1) (by simp);refine⟨b,ah,au,bG,bI,?_⟩;rintro _ rfl;have g:=dk ah dS 1 b;have o:=dN j (i:=1) b;have l:ad T.G w (ah.setCell ⟨dS,1,none⟩ b):=cu (d.mono λq _ a=>cd q a) g λq _ e=>by rw[e];exact h.qk
 have m:∀q,aB b q->T.G q\/(w.heap.size<=q/\q<(ah.setCell ⟨dS,1,none⟩ b).heap.size):=λq a=>by
  rcases f q a with h1|h1
  .exact .inl (cd q h1)
  .exact .inr ⟨h1,by have:=bd.lt ay q a;have:=g.size;omega⟩
 have n:∀q,aB b q->q≠dS:=λq a e=>by
  rcases f q a with h1|h1
  .exact(h.gs q h1).2 e
  .have:=h.v.lt;omega
 have p:=h.t.grow (E:=T.E) (G:=λq=>T.G q\/aB b q) l (λq a _=>.inr a) (λq a=>.inl a) (λq a=>by
  rcases a with a|a
  .exact .inr (.inl a)
  .exact .inr (m q a)) λq a hg=>by
  rcases hg with hg|hg
  .exact(h.t.c8 q a).2.2 hg
  .rcases f q hg with h1|h1
   .exact(h.t.c8 q a).2.2 (cd q h1)
   .have:=h.t.lt (q:=q) (.inr (.inr (.inr (.inl a))));omega
 refine⟨⟨p,o,ay.ab g λq a e=>n q a e,.inl h.qk,λq a=>⟨.inr a,n q a⟩⟩,?_,rfl,λ_ h=>.inl h,rfl,rfl,rfl,rfl,λ_=>rfl⟩;exact(bQ.refl T w).step l (λq a _=>.inr (.inr (.inr a))) (λq a=>.inl a) λq a=>by
  rcases a with a|a
  .exact .inl a
  .exact(m q a).imp id λe=>e.1
theorem HB(h:h7 w T dS s ps k)(m:Nat):(∃u:aa,w.cell? (Addr.add dS 2)=some u)/\w.frozen? (Addr.add dS 2)=false/\
 h7 (w.setCell (Addr.add dS 2) m) T dS s ps m/\c5 T T w (w.setCell (Addr.add dS 2) m) 0:=by
 rw[aw];obtain⟨bG,bI⟩:=dI h.v (i:=2) (by simp);have b:=dk w dS 2 m;have hc:ad T.G w (w.setCell ⟨dS,2,none⟩ m):=b.mono λq _ e=>by rw[e];exact h.qk
 refine⟨bG,bI,⟨?_,dN h.v (i:=2) _,h.own.ab b λq a e=>(h.gs q a).2 e,h.qk,h.gs⟩,?_,rfl,λ_ h=>h,rfl,rfl,rfl,rfl,λ_=>rfl⟩
 .exact h.t.grow (E:=T.E) (G:=T.G) hc (λq a _=>.inr a) (λq a=>.inl a) (λq a=>.inr (.inl a)) λq a=>(h.t.c8 q a).2.2
 .exact(bQ.refl T w).step (E:=T.E) (G:=T.G) hc (λq a _=>.inr (.inr (.inr a))) (λq a=>.inl a) λq a=>.inl a
end
theorem bQ.aL{T ao:aN}{w w':J}{k:Nat}{t:Y}{o:aq Key}(h:bQ T ao w w' k)(a:iu (λq=>¬T.M q) w t o):iu (λq=>¬ao.M q) w' t o:=by
 have h1:iu (λq=>q<w.heap.size/\¬T.M q) w t o:=a.aY λq b a=>⟨b,a⟩;exact(h1.ab h.ab λq b _ c=>b.2 (aN.gl c)).aY λq _ a=>(h.out a.1 a.2).1
theorem c5.bad{T ao:aN}{w w':J}{k x:Nat}(h:c5 T ao w w' k)(a:jT ao x):jT T x:=by
 obtain⟨h1,e,h2⟩:=a;exact⟨by rw[←h.to.n];exact h1,e,by rw[←h.view];exact h2⟩
theorem c5.HC{T ao:aN}{w w':J}{k x:Nat}(h:c5 T ao w w' k)(a:jT T x):jT ao x:=by
 obtain⟨h1,e,h2⟩:=a;exact⟨by rw[h.to.n];exact h1,e,by rw[h.view];exact h2⟩
theorem ej.Cz{P:Nat->aq aD}{h:Nat}{lo hi:aq Key}{no:Nat}{p:O Nat}{L:O aH}(d:ej P (h+1) lo hi no p L):∃ (n:aD) (a:O Nat),P no=some n/\n.leaf=decide (h=0)/\cH n/\p=no::a/\n.within lo hi/\
 ((h=0/\gT n/\a=[]/\L.length=n.keys.length)\/(vh n/\∃ (ps:O (O Nat)) (b:O (O aH)),ps.length=n.kids.length/\b.length=n.kids.length/\a=ps.flatten/\L=b.flatten/\
   ∀ (i:Nat) (h1:i<n.kids.length) (h2:i<ps.length) (c:i<b.length),ej P h (if i=0 then lo else n.keys[i-1]?) (if i<n.keys.length then n.keys[i]? else hi) n.kids[i] ps[i] b[i])):=by
 match h,d with
 |0,⟨n,h1,h2,c,g,e,f⟩=>
  refine⟨n,[],h1,h2.leaf,.inl h2,e,c,.inl ⟨rfl,h2,rfl,?_⟩⟩;rw[f];unfold aD.dL;rw[mI,h2.len,Nat.min_self]
 |h+1,⟨n,a,h1,h2,c,g,e⟩=>
  have f:=e.mono (V:=λlo hi k p L=>ej P (h+1) lo hi k p L) λ_ _ _ _ _ _ d=>d.1;exact⟨n,a,h1,by rw[h2.inner];simp,.inr h2,g,c,.inr ⟨h2,f.each⟩⟩
def HD(T:aN)(dS:Nat)(ps:O Nat)(keys:Nat)(fX:Nat->aq aD)(p:O Nat)(b:Nat)(w:J)(v:aa)(w':J):Prop:=
 ∃ao:aN,c5 T ao w w' (2*p.length)/\
  ((v=.int .i64 0/\(∃a,h7 w' ao dS a (ps++p) (keys+b))/\∀x∈p,T.P x=fX x)\/
   (∃e:Int,v=e/\e≠0/\(∃ (a:Y) (c:O Nat) (d:Nat),h7 w' ao dS a c d)/\((e=3/\¬T.C.D.calm (2*p.length))\/∃x∈p,jT T x)))
theorem r5{α:Type}{l:O (O α)}{i:Nat}(h:i<l.length):(l.take (i+1)).flatten=(l.take i).flatten++l[i]:=by
 rw[iU h,sq];simp
theorem yD{α:Type}{l:O (O α)}{i:Nat}(h:i<l.length):l.flatten=(l.take i).flatten++(l[i]++(l.drop (i+1)).flatten):=by
 conv=>lhs;rw[←ic i l,jD h]
 rw[sq,su]
theorem CA{α:Type}{l:O (O α)}{i:Nat}(h:i<l.length):(l.take i).flatten.length+l[i].length<=l.flatten.length:=by
 have:=congrArg List.length (yD h);rw[cz,cz]at this;omega
theorem HE(h:Nat):∀ {w:J}{T:aN}{dS keys:Nat}{s lQ lR:Y}{ps p:O Nat}{fX:Nat->aq aD}{L:O aH}{lo hi:aq Key}{no:Nat},h7 w T dS s ps keys->h<=12->ej fX h lo hi no p L->(∀x∈p,T.f x=true/\x<T.n)->(∀x∈p,∀bj,fX x=some bj->T.P x=some bj\/jT T x)->(ps++p).Nodup->
   iu (λq=>¬T.M q) w lQ lo->iu (λq=>¬T.M q) w lR hi->ps.length+p.length<=10000->keys+L.length<=100000->T.C.D.aQ+2*p.length<=999999999->
   aR aj 211 #[.pointer (some dS),no,h,lQ,lR] w (HD T dS ps keys fX p L.length w):=by
 induction h with
 |zero=>intro w T dS keys s lQ lR ps p fX L lo hi no _ _ ai;exact ai.elim
 |succ h bo=>
   intro w T dS keys s lQ lR ps p fX L lo hi no al cw ai a1 a2 c9 a3 a4 bp cx br
   obtain⟨n,cA,am,bs,bt,rfl,bu,bv⟩:=ai.Cz
   have a5:=al.t
   have bw:=a2 no (by simp) n am
   have bx:=a1 no (by simp)
   simp only[e8]at bp br
   refine okF (af.uN (some dS) (no:Nat) ((h+1:Nat):Int) lQ lR) aA.uN func211 ?_
   (delta af.uN g1 cj U ak ag aO bc st r1 av aL aC;dsimp only)
   rw[yh bs]
   refine⟨_,rfl,_,al.cells.1,(Ct a5 I bw).use ?_⟩
   rintro _ S ⟨aF,W,a6,bz,an⟩
   have a7:h7 S (T.bm aF T.P) dS s ps keys:=al.of a6 rfl (λ_ h=>h) bz λq g bB=>bB.2 g
   rcases an with ⟨K,V,D,rfl,ao,bC⟩|⟨e,rfl,z,ap⟩
   rotate_left
   · refine⟨_,bk,bk,bk,e,rfl,bh (vs:=[false,(),(),()]) rfl λbD F ax bE=>⟨F.b9 rfl (fK (b:=g_.leaf) (K:=bk) (V:=bk) (D:=bk)),rfl,cr F (us:=dZ g_ bk bk bk) rfl rfl λbJ cB bK cC=>⟨λ_=>?_,λhx=>(by simp at hx;exact absurd hx z)⟩⟩⟩
     have a8:Ext S bJ:=Ext.cn ax bK (bl _)
     refine⟨_,(W.trans (c5.ext _ a8)).mono (by simp only[e8];omega),.inr ⟨e,rfl,z,⟨s,ps,keys,a7.ext a8⟩,?_⟩⟩
     rcases ap with ⟨rfl,bL⟩|bM
     · exact .inl ⟨rfl,λhc=>bL (gg hc (by simp only[e8];omega))⟩
     · exact .inr ⟨no,by simp,bM⟩
   have cD:=cH.eB bt (by have:=a5.nm _ _ ao;omega)
   refine⟨_,K,V,D,0,rfl,bh (vs:=[false,(),(),()]) rfl λbD F ax bE=>⟨F.b9 rfl fK,rfl,cr F (us:=dZ n K V D) rfl rfl λX Z bN cE=>⟨λhx=>(by cases hx),λ_=>?_⟩⟩⟩
   have u:Ext S X:=Ext.cn ax bN (bl _)
   obtain⟨nb,bO⟩:∃nb,nb=S.heap.size:=⟨_,rfl⟩
   rw[←bO]at Z⊢
   have a9:¬(T.bm aF T.P).M nb:=λo=>by have:=a6.lt o;omega
   have l:=a7.ext u
   have aa:bF (λq=>¬(T.bm aF T.P).M q) X n K V D:=(bC.ext u).aY λq _ c=>c.2
   have cG:=u.size
   have bP:=bq.len aa.keys
   have cI:=cK.len aa.kids
   obtain⟨d0,d1,d2,d3⟩:=bH Z
   have bR:no∉ps:=λo=>by
     rw[oQ]at c9
     exact c9.2.2 no o no (by simp) rfl
   refine⟨_,rfl,s,l.cells.2.1,(Hz (B:=λ_=>True) ⟨l.own.src,l.own.2.1,λq g=>⟨trivial,l.own.lt q g⟩⟩ no I).use ?_⟩
   rintro _ _ ⟨rfl,rfl⟩
   refine⟨_,rfl,cq (λb w'=>b=false/\X=w') (λq g=>⟨λc=>absurd (b8 c) bR,λ_=>⟨_,rfl,_,l.cells.1,_,rfl,_,l.t.cells.2.1,(Gv l.t.s (no:Nat)).use ?_⟩⟩) ?_⟩
   · rintro _ _ ⟨rfl,rfl⟩
     refine⟨_,rfl,g _ _ ⟨?_,rfl⟩⟩
     have a_:(T.bm aF T.P).f=T.f:=rfl
     have ba:(T.bm aF T.P).n=T.n:=rfl
     rw[a_,ba,dd,bx.1]
     have:(0:Int)<=(no:Int)/\(no:Int)<(T.n:Int):=⟨I,I⟩
     simp[this.2]
   rintro _ _ ⟨rfl,rfl⟩
   have bS:=(W.to.trans (bQ.ext _ u)).aL a3
   have bT:=(W.to.trans (bQ.ext _ u)).aL a4
   refine cq (λb w'=>b=false/\Ext X w') (λq g=>⟨λc=>(by cases c),λ_=>⟨_,d0,K,d1,V,d2,D,d3,(pR aa I bS bT).use ?_⟩⟩) ?_
   · rintro _ cJ ⟨b,rfl,c,bU⟩
     exact⟨b,rfl,g _ _ ⟨by rw[c.2 bu];rfl,bU⟩⟩
   rintro _ cM ⟨rfl,H⟩
   refine⟨λc=>(by cases c),λ_=>?_⟩
   have bb:=l.ext H
   obtain⟨N,bd,au,ay,bV,bW⟩:=HA bb no I
   refine⟨_,rfl,s,bb.cells.2.1,aW ⟨N,bd,au,_,rfl,?_⟩⟩
   rw[aw,cy]
   refine⟨ay,bV,aW ?_⟩
   obtain⟨ac,r⟩:=bW _ rfl
   generalize cN:bd.setCell ⟨dS,1,none⟩ N=v at ac r⊢
   obtain⟨ja,bX⟩:∃ja,ja=(T.bm aF T.P).ck (T.bm aF T.P).E λq=>(T.bm aF T.P).G q\/aB N q:=⟨_,rfl⟩
   rw[←bX]at ac r
   have az:c5 T ja w v 2:=((W.trans (c5.ext _ (u.trans H))).trans r).mono I
   have cO:=Z.lt
   have cP:=H.size
   have aE:=(Z.ext H).ab r.to.ab λo=>a9 (aN.gl o)
   have bY:=r.to.out (q:=nb) I a9
   have bZ:=r.to.g_ (aa.ext H)
   have cQ:=r.to.ab.size
   have cR:=az.to.ab.size
   rcases bv with ⟨rfl,b0,rfl,b1⟩|⟨aG,d,aI,a_,ba,rfl,rfl,b2⟩
   ·
     have aJ:n.leaf=true:=b0.leaf
     refine⟨λ_=>aW ?_,λhx=>(by rw[aJ]at hx;cases hx)⟩
     have be:=ac.ext (cf v)
     have b3:=aE.ext (cf v)
     have b4:IntKind.wrap .i64 ((keys:Int)+(K.len:Int))=((keys+K.len:Nat):Int):=by rw[bA I I];omega
     obtain⟨bG,bI,b5,b6⟩:=HB be (keys+K.len)
     refine⟨_,rfl,id,_,be.cells.2.2,id,K,(bH b3).2.1,_,rfl,bG,bI,?_⟩
     rw[b4]
     refine aW ⟨ja,((az.trans (c5.ext ja (cf v))).trans b6).mono (by simp),.inl ⟨rfl,⟨N,?_⟩,λx hx=>?_⟩⟩
     · rw[b1,←bP];exact b5
     · rw[ff.1 hx,ao,am]
   · have aJ:n.leaf=false:=aG.inner
     refine⟨λhx=>(by rw[aJ]at hx;cases hx),λ_=>?_⟩
     have cS:=aG.len
     refine⟨D,(bH aE).2.2.2,λaM w'=>∃ (i:Nat) (jb:aN) (aP:Y),aM=(i:Int)/\i<=n.kids.length/\h7 w' jb dS aP (ps++no::(d.take i).flatten) (keys+(aI.take i).flatten.length)/\c5 T jb w w' (2+2*(d.take i).flatten.length)/\c5 ja jb v w' (2*(d.take i).flatten.length)/\∀x∈(d.take i).flatten,T.P x=fX x,
       λaM _=>((n.kids.length:Int)-aM).toNat,⟨0,ja,N,rfl,cL _,by simpa using ac,by simpa using az,by simpa using c5.refl ja v,by simp⟩,?_⟩
     rintro _ y ⟨i,jb,aP,rfl,cV,ad,k,aS,aT⟩
     refine⟨λaK=>?_,λb7=>?_⟩
     rotate_left
     · have aU:i=n.kids.length:=by
         have:¬(i:Int)<(D.len:Int):=cv b7
         omega
       rw[dV I]at ad k aT
       rw[dV I]at ad
       refine⟨jb,k.mono (by simp only[e8];omega),.inl ⟨rfl,⟨aP,ad⟩,λx hx=>?_⟩⟩
       rcases cU.1 hx with rfl|hx
       · rw[ao,am]
       · exact aT x hx
     have aU:i<n.kids.length:=by
       have:(i:Int)<(D.len:Int):=b8 aK
       omega
     have m:i<d.length:=by omega
     have aV:i<aI.length:=by omega
     have bf:=aS.to.g_ bZ
     have aX:=aE.ab aS.to.ab λo=>bY.1 (aN.gl o)
     have b_:=k.to.aL a3
     have ca:=k.to.aL a4
     obtain⟨A,ar,cb,cc⟩:=cK.at bf.kids aU
     have cW:=CA m
     have cX:=CA aV
     have bg:∀ (j:Nat) (ah:j<n.keys.length),∃ (a:ae) (t:Y),K.a=some a/\((0:Int)<=(j:Int)/\(j:Int)<(K.len:Int))/\y.cell? (a.add (Int.toNat (j:Int)*1))=some (.slice t.a t.len t.cap)/\iu (λq=>¬jb.M q) y t n.keys[j]? :=λj ah=>by
       obtain⟨a,t,h1,h2,Q,R,_⟩:=bq.at bf.keys ah
       refine⟨a,t,h1,h2,Q,?_⟩
       rw[dE ah]
       refine⟨λe=>?_,R⟩
       have:=(aG.ok _ (cF ah)).1
       rw[e]at this;simp at this
     refine⟨A,ar,cb,_,cc,cq (λt w'=>iu (λq=>¬jb.M q) y t (if i=0 then lo else n.keys[i-1]?)/\y=w') (λq g=>⟨λc=>?_,λc=>?_⟩) ?_⟩
     · have c:0<i:=by
         have:(i:Int)>0:=b8 c
         omega
       have cd:IntKind.wrap .i64 ((i:Int)-1)=((i-1:Nat):Int):=by rw[bA I I];omega
       obtain⟨a,t,h1,h2,Q,R⟩:=bg (i-1) I
       rw[cd]
       refine⟨K,(bH aX).2.1,a,h1,h2,t,Q,g _ _ ⟨?_,rfl⟩⟩
       rw[if_neg I];exact R
     · have c:i=0:=by
         have:¬(i:Int)>0:=cv c
         omega
       refine g _ _ ⟨?_,rfl⟩
       rw[if_pos c];exact b_
     rintro cY _ ⟨ce,rfl⟩
     refine cq (λt w'=>iu (λq=>¬jb.M q) y t (if i<n.keys.length then n.keys[i]? else hi)/\y=w') (λq g=>⟨K,(bH aX).2.1,λc=>?_,λc=>?_⟩) ?_
     · have c:i<n.keys.length:=by
         have:(i:Int)<(K.len:Int):=b8 c
         omega
       obtain⟨a,t,h1,h2,Q,R⟩:=bg i c
       refine⟨K,(bH aX).2.1,a,h1,h2,t,Q,g _ _ ⟨?_,rfl⟩⟩
       rw[if_pos c];exact R
     · have c:¬i<n.keys.length:=by
         have:¬(i:Int)<(K.len:Int):=cv c
         omega
       refine g _ _ ⟨?_,rfl⟩
       rw[if_neg c];exact ca
     rintro aZ _ ⟨cg,rfl⟩
     have ch:IntKind.wrap .i64 (((h+1:Nat):Int)-1)=(h:Int):=by rw[bA I I];omega
     have ci:IntKind.wrap .i64 ((i:Int)+1)=((i+1:Nat):Int):=by rw[bA I I];omega
     have cl:jb.n=T.n:=k.to.n
     have cZ:=k.to.aQ
     have a0:∀x∈d[i],x∈no::d.flatten:=λx hx=>by
       rw[yD m]
       exact jW _ (ie _ (jE _ hx))
     have cm:=bo (p:=d[i]) (fX:=fX) (L:=aI[i]) (no:=n.kids[i]) ad I (b2 i aU m aV) (λx hx=>by rw[k.f,cl];exact a1 x (a0 x hx)) (λx hx bj h1=>by
       rw[k.P]
       exact(a2 x (a0 x hx) bj h1).imp id k.HC) (by
       rw[yD m]at c9
       have e:ps++no::((d.take i).flatten++(d[i]++(d.drop (i+1)).flatten))=((ps++no::(d.take i).flatten)++d[i])++(d.drop (i+1)).flatten:=by simp
       rw[e]at c9
       exact(oQ.1 c9).1) ce cg (by simp only[cz,e8];omega) I I
     rw[ch,ci]
     refine cm.use ?_
     rintro _ co ⟨gJ,bi,an⟩
     have bn:c5 T gJ w co (2+2*((d.take i).flatten.length+d[i].length)):=(k.trans bi).mono I
     rcases an with ⟨rfl,⟨cp,cs⟩,ct⟩|⟨e,rfl,z,cu,ap⟩
     · refine⟨0,rfl,λhx=>(by cases hx),λ_=>⟨⟨i+1,gJ,cp,rfl,I,?_,?_,?_,?_⟩,?_⟩⟩
       · rw[r5 m,r5 aV,cz,←Nat.add_assoc]
         have e:ps++no::((d.take i).flatten++d[i])=(ps++no::(d.take i).flatten)++d[i]:=by simp
         rw[e];exact cs
       · rw[r5 m,cz];exact bn
       · rw[r5 m,cz];exact(aS.trans bi).mono I
       · intro x hx
         rw[r5 m]at hx
         rcases cT.1 hx with hx|hx
         · exact aT x hx
         · rw[←k.P];exact ct x hx
       · show((n.kids.length:Int)-((i+1:Nat):Int)).toNat<((n.kids.length:Int)-(i:Int)).toNat
         omega
     · refine⟨e,rfl,λ_=>⟨gJ,bn.mono (by simp only[e8];omega),.inr ⟨e,rfl,z,cu,?_⟩⟩,λhx=>(by simp at hx;exact absurd hx z)⟩
       rcases ap with ⟨h1,h2⟩|⟨x,hx,c⟩
       · exact .inl ⟨h1,λhc=>h2 (k.to.calm _ (gg hc (by simp only[e8];omega)))⟩
       · exact .inr ⟨x,a0 x hx,k.bad c⟩
def HF(T:aN)(fX:Nat->aq aD)(pages:O Nat)(c:Nat)(w:J)(v:aa)(w':J):Prop:=
 ∃ao:aN,bJ w' ao/\c5 T ao w w' (2*pages.length)/\ao.G=T.G/\
  ((∃ (s:Y) (es:O Nat),v=.tuple #[s,c,(0:Int)]/\bd 1 3 w' s (ee es)/\es.Perm pages/\(es.Pairwise λa b=>a<=b)/\(∀q,aB s q->(T.N q\/w.heap.size<=q)/\¬ao.M q)/\(∀x∈pages,T.P x=fX x)/\bJ w' (ao.ck T.E λq=>T.G q\/aB s q))\/
   (∃e:Int,v=.tuple #[(),(0:Int),e]/\e≠0/\((e=3/\¬T.C.D.calm (2*pages.length))\/∃x∈pages,jT T x)))
theorem HG{w:J}{T:aN}{fX:Nat->aq aD}{pages:O Nat}{L:O aH}(h:bJ w T)(ae:gh (T.bm T.C fX) pages L)(ax:∀x∈pages,T.f x=true/\x<T.n)(ay:∀x∈pages,∀bj,fX x=some bj->T.P x=some bj\/jT T x)(c9:pages.Nodup)(a4:L.length<=9000)(a5:pages.length<=9000)(az:T.C.D.aQ+2*pages.length<=999999999):
 aR aj 152 #[.pointer (some T.aZ)] w (HF T fX pages L.length w):=by
 have aE:=h.num.2.1;refine okF (af.uB (some T.aZ)) aA.uB func152 ?_;(delta af.uB ak r1 aC U ag aU;dsimp only);refine⟨λh=>(by cases h),λ_=>bh (vs:=[.pointer (some T.aZ),(),(0:Int)]) rfl λw1 R ah a6=>?_⟩;obtain⟨dS,aF⟩:∃dS,dS=w.heap.size:=⟨_,rfl⟩;rw[←aF]at R⊢;obtain⟨bf,ai⟩:∃bf,bf=λq=>T.E q\/T.G q:=⟨_,rfl⟩;have A:∀q,T.E q\/T.G q->bf q:=λq a=>by rw[ai];exact a
 have S:∀q,bf q->T.E q\/T.G q:=λq a=>by rw[ai]at a;exact a
 have a7:=R.lt;have h1:bJ w1 (T.ck bf λq=>q=dS):=h.grow (W:=λ_=>False) ah (λ_ h=>h.elim) (λq a=>(S q a).imp id .inl) (λq e=>.inr (.inr ⟨I,I⟩)) λq a e=>by
  rcases S q a with h2|h2
  .have:=h.lt (q:=q) (.inr (.inr (.inr (.inl h2))));omega
  .have:=h.lt (q:=q) (.inr (.inr (.inr (.inr h2))));omega
 obtain⟨bP,k⟩:∃bP,bP=T.ck bf λq=>q=dS:=⟨_,rfl⟩;rw[←k]at h1;have V:bP.aZ=T.aZ:=by rw[k];rfl
 have al:bP.E=bf:=by rw[k];rfl
 have K:bP.C=T.C:=by rw[k];rfl
 have X:bP.P=T.P:=by rw[k];rfl
 have am:h7 w1 bP dS ⟨none,0,0⟩ [] 0:=⟨h1,by rw[V];exact R,bd.none _ _ _,by rw[k];rfl,λq a=>(gk q a).elim⟩;have i:bQ T bP w w1 0:=by
  rw[k];exact(bQ.refl T w).step (W:=λ_=>False) ah (λ_ h=>h.elim) (λq a=>(S q a).imp id .inl) λq e=>.inr I
 have fin:∀ (w':J) (ao:aN),bJ w' ao->c5 bP ao w1 w' (2*pages.length)->bJ w' (ao.ck T.E T.G)/\c5 T (ao.ck T.E T.G) w w' (2*pages.length):=λw' ao aG b=>by
  have u:ao.E=bf:=b.E.trans al;refine⟨aG.grow (E:=T.E) (G:=T.G) (W:=λ_=>False) (ad.refl _ _) (λ_ h=>h.elim) (λq a=>.inl (by rw[u];exact A q (.inl a))) (λq a=>.inl (by rw[u];exact A q (.inr a))) λq a=>(h.c8 q a).2.2,?_,rfl,λ_ h=>h,?_,?_,?_,?_,λj=>?_⟩
  .refine⟨b.to.aZ.trans i.aZ,b.to.sb.trans i.sb,b.to.n.trans i.n,b.to.g.trans i.g,b.to.s1.trans i.s1,b.to.s2.trans i.s2,b.to.c.trans i.c,b.to.d.trans i.d,b.to.bg.trans i.bg,b.to.gen.trans i.gen,by have:=b.to.aQ;rw[K]at this;exact this,λm o=>b.to.calm m (by rw[K];exact o),?_,λq a=>?_,λq a=>?_⟩
   .exact(cu i.ab b.to.ab λq a aJ=>by
     rcases i.fn q aJ with h2|h2
     .exact h2
     .omega)
   .rcases a with a|a|a|a|a
    .exact((i.trans b.to).c7 q (.inl a))
    .exact((i.trans b.to).c7 q (.inr (.inl a)))
    .exact((i.trans b.to).c7 q (.inr (.inr (.inl a))))
    .exact .inl (.inr (.inr (.inr (.inl a))))
    .exact .inl (.inr (.inr (.inr (.inr a))))
   .rcases a with a|a|a|a
    .exact((i.trans b.to).fn q (.inl a))
    .exact((i.trans b.to).fn q (.inr (.inl a)))
    .exact((i.trans b.to).fn q (.inr (.inr (.inl a))))
    .exact .inl (.inr (.inr (.inr a)))
  .show ao.root=T.root;rw[b.root,k];rfl
  .show ao.aI=T.aI;rw[b.aI,k];rfl
  .show ao.f=T.f;rw[b.f,k];rfl
  .show ao.P=T.P;rw[b.P,X]
  .show ao.C.view j=T.C.view j;rw[b.view,K]
 refine iE (λM=>∃ (ao:aN) (s:Y) (ps:O Nat),h7 M ao dS s ps L.length/\ps=pages/\c5 bP ao w1 M (2*pages.length)/\∀x∈pages,T.P x=fX x) (λq a=>⟨_,rfl,_,by have:=h1.cells.2.2.2.2;rw[V]at this;exact this,λy=>aW ?_,λy=>?_⟩) ?_
 .have B:=am.ext (cf w1)
  have an:bP.aI=T.aI:=by rw[k];rfl
  have aK:bP.root=T.root:=by rw[k];rfl
  have y:T.aI≠0:=by
   rw[an]at y;have:(T.aI:Int)>0:=b8 y;omega
  have F:ej fX T.aI none none T.root pages L:=by
   rcases ae with ⟨aL,_⟩|F
   .exact absurd aL y
   .exact F
  have dg:=B.t.cells.2.2.2.1;have ba:=B.t.cells.2.2.2.2;rw[V]at dg ba;rw[an]at ba;rw[aK]at dg;have aM:=HE T.aI (lQ:=bk) (lR:=bk) (fX:=fX) (L:=L) (p:=pages) (lo:=none) (hi:=none) (no:=T.root) B aE F (λx hx=>by rw[k];exact ax x hx) (λx hx bj h2=>by
   rw[X];refine(ay x hx bj h2).imp id λH=>?_;rw[k];exact H) (by simpa using c9) rfl rfl (by simp only[jJ];omega) I (by rw[K];exact az)
  refine⟨_,rfl,id,_,dg,_,rfl,id,_,ba,aM.use ?_⟩;rintro _ ap ⟨ao,Z,aO⟩;have ar:c5 bP ao w1 ap (2*pages.length):=((c5.ext bP (cf w1)).trans Z).mono I;rcases aO with ⟨rfl,⟨s,r⟩,aa⟩|⟨e,rfl,av,⟨s,a8,a9,r⟩,aP⟩
  .refine⟨0,rfl,λhx=>(by cases hx),λ_=>a _ ⟨ao,s,pages,?_,rfl,ar,λx hx=>by rw[←X];exact aa x hx⟩⟩
   rw[iW,cy]at r;exact r
  .obtain⟨f1,f2⟩:=fin ap ao r.t ar
   refine⟨e,rfl,λ_=>⟨_,f1,f2,rfl,.inr ⟨e,rfl,av,?_⟩⟩,λhx=>(by simp at hx;exact absurd hx av)⟩;rcases aP with ⟨h2,H⟩|⟨x,hx,H⟩
   .exact .inl ⟨h2,by rw[←K];exact H⟩
   .refine .inr ⟨x,hx,?_⟩
    rw[k]at H;exact H
 .have y:T.aI=0:=by
   have:¬(bP.aI:Int)>0:=cv y;rw[k]at this;have:¬(T.aI:Int)>0:=this;omega
  rcases ae with ⟨_,_,aS,aT⟩|F
  .subst aS aT
   exact a _ ⟨bP,⟨none,0,0⟩,[],am,rfl,c5.refl _ _,λx hx=>(by cases hx)⟩
  .have e:(T.bm T.C fX).aI=T.aI:=rfl
   rw[e,y]at F;exact F.elim
 rintro M ⟨ao,s,ps,r,aV,Z,aa⟩;rw[aV]at r;refine⟨_,rfl,s,r.cells.2.1,(Cy r.own I).use ?_⟩;rintro _ N ⟨rfl,ac,es,aX,aY,a0⟩;have cd:∀q,aB s q->ao.G q:=λq a=>(r.gs q a).1;have a1:=r.v.ab ac λa=>(r.gs _ a).2 rfl;have z:bJ N ao:=by
  have:=r.t.grow (E:=ao.E) (G:=ao.G) ac (λq a _=>.inr (cd q a)) (λq a=>.inl a) (λq a=>.inr (.inl a)) λq a=>(r.t.c8 q a).2.2;exact this
 have a2:c5 ao ao M N 0:=⟨(bQ.refl ao M).step (E:=ao.E) (G:=ao.G) ac (λq a _=>.inr (.inr (.inr (cd q a)))) (λq a=>.inl a) λq a=>.inl a,rfl,λ_ h=>h,rfl,rfl,rfl,rfl,λ_=>rfl⟩;have Q:=cf N;have b:=((Z.trans a2).trans (c5.ext ao Q)).mono (l:=2*pages.length) I;obtain⟨f1,f2⟩:=fin N.drew ao (z.ext Q) b;have B:=a1.ext Q;have u:ao.E=bf:=b.E.trans al;have a3:bJ N.drew (ao.ck T.E λq=>T.G q\/aB s q):=(z.ext Q).grow (E:=T.E) (G:=λq=>T.G q\/aB s q) (W:=λ_=>False) (ad.refl _ _) (λ_ h=>h.elim) (λq a=>.inl (by rw[u];exact A q (.inl a))) (λq a=>a.elim (λa=>.inl (by rw[u];exact A q (.inr a))) λa=>.inr (.inl (cd q a))) λq a hg=>by
  rcases hg with hg|hg
  .exact(h.c8 q a).2.2 hg
  .exact(z.c8 q (by rw[u];exact A q (.inl a))).2.2 (cd q hg)
 refine⟨rfl,aW ⟨_,rfl,id,s,by rw[aw];exact B.cell,_,rfl,id,_,by rw[aw];exact B.cell,_,f1,f2,rfl,.inl ⟨s,es,rfl,aX.ext Q,aY,a0,λq a=>⟨?_,λo=>?_⟩,aa,a3⟩⟩⟩
 .exact(i.trans b.to).fn q (.inr (.inr (.inr (cd q a))))
 .have au:=cd q a
  rcases o with o|o|o|o|o
  .exact z.rX au o
  .exact(z.hD q au).1 o
  .exact(z.hD q au).2 o
  .exact(z.c8 q (by rw[u];exact A q (.inl o))).2.2 au
  .exact(z.c8 q (by rw[u];exact A q (.inr o))).2.2 au
variable {w w':J}
theorem Src.cut{sz:Nat}{s:Y}{vs:O aa}{lo hi:Nat}(h:Src sz w s vs)(hc:s.len<=s.cap)(h1:lo<=hi)(h2:hi<=s.len):
 Src sz w ⟨aP s.a sz lo s.cap,hi-lo,s.cap-lo⟩ ((vs.drop (lo*sz)).take ((hi-lo)*sz)):=by
 have f:=h.len;have g:hi*sz<=s.len*sz:=mF _ h2;have i:lo*sz+(hi-lo)*sz=hi*sz:=by rw[←kP,Nat.add_sub_cancel' h1]
 refine⟨by simp;omega,λc=>?_,λa b=>?_⟩
 .have d:s.a=none:=by
   unfold aP at c;split at c
   .exact c
   .simpa using c
  simp[h.nil d]
 .show cA w a 0 ((hi-lo)*sz)=_
  by_cases e:hi=lo
  .rw[show hi-lo=0 from I];simp[cA]
  .have ar:∃A,s.a=some A/\a=A.add (lo*sz):=by
    unfold aP at b;rw[if_neg I]at b
    cases hs:s.a with
    |none=>rw[hs]at b;cases b
    |some A=>rw[hs]at b;exact⟨A,rfl,by simpa using b.symm⟩
   obtain⟨A,ar,rfl⟩:=ar;exact Ap (h.rd A ar) I
theorem CB{s:Y}{sz n:Nat}{q:Nat}:aB ⟨aP s.a sz 0 s.cap,n-0,s.cap-0⟩ q↔aB s q:=by
 rw[w6];exact Iff.rfl
section
variable {P:Program}{cN e cM:TypeId}{sz bytes:Nat}
structure h_(sz:Nat)(e:TypeId)(w0 w:J)(s:Y)(l:O aa):Prop where
 o:bd sz e w s l
 x:Ext w0 w
 f:∀q,aB s q->w0.heap.size<=q
theorem Ext.new{a:Nat->Prop}{w0 w1 ah:J}(hx:Ext w0 w1)(h:ad a w1 ah)(cd:∀q,a q->w0.heap.size<=q):Ext w0 ah/\ad (λq=>w0.heap.size<=q) w1 ah:=
 ⟨Ext.dy hx h cd,h.mono λq _ b=>cd q b⟩
theorem h_.app(h:hM P cN e sz bytes){w0 w1:J}{s x:Y}{l xs:O aa}(hs:h_ sz e w0 w1 s l)(hx:Src sz w1 x xs)(d:∀v∈xs,Plain v)(g:(2*(s.len+x.len)+1000)*bytes<=281474976710656):
 ∃ (a:Y) (ah:J),Sem.run P (Builtin.append_ #[cN,cN] cM #[s,x]) w1=.ok a ah/\ad (λq=>w0.heap.size<=q) w1 ah/\h_ sz e w0 ah a (l++xs)/\
  a.len=s.len+x.len/\ad (aB s) w1 ah/\∀q,aB a q->aB s q\/w1.heap.size<=q:=by
 obtain⟨a,ah,au,ay,i,b,c⟩:=h.append (cM:=cM) hx hs.o d g;obtain⟨bG,bI⟩:=Ext.new hs.x b hs.f;exact⟨a,ah,au,bI,⟨ay,bG,λq j=>(c q j).elim (hs.f q) λh=>eK hs.x.size h⟩,i,b,c⟩
theorem size_le{a b c:Nat}(h:(2*b+1000)*c<=281474976710656)(d:a<=b):(2*a+1000)*c<=281474976710656:=eK (mF _ I) h
theorem CC(h:hM P cN e sz bytes){x iD H:O aa}{s1 s2:Y}{w0:J}
 (S:∀w:J,Sem.run P (Instr.buildSlice cN 0 #[]) w=.ok (.slice (some w.heap.size) 0 0) (w.alloc (.cells #[] e)))
 (b_:∀w:J,Sem.run P (Instr.buildSlice cN 1 #[(0,.agg x.toArray)]) w=.ok (.slice (some w.heap.size) 1 1) (w.alloc (.cells x.toArray e)))
 (hx:x.length=sz) (h1:Src sz w0 s1 iD) (h2:Src sz w0 s2 H) (aG:∀v∈x,Plain v) (bn:∀v∈iD,Plain v) (bp:∀v∈H,Plain v)
 (u:(2*(s1.len+s2.len+1)+1000)*bytes<=281474976710656) {K:Y->J->Prop} (al:∀U w',h_ sz e w0 w' U (iD++x++H)->K U w'):
 (∃L:Y,∃p:J,Sem.run P (Instr.buildSlice cN 0 #[]) w0=.ok L p/\ad (λq=>w0.heap.size<=q) w0 p/\(
   (∃d:Y,∃g:J,Sem.run P (Builtin.append_ #[cN,cN] cM #[L,s1]) p=.ok d g/\ad (λq=>w0.heap.size<=q) p g/\
     ∃m:Y,∃z:J,Sem.run P (Instr.buildSlice cN 1 #[(0,.agg x.toArray)]) g=.ok m z/\ad (λq=>w0.heap.size<=q) g z/\
     ∃i:Y,∃c:J,Sem.run P (Builtin.append_ #[cN,cN] cM #[d,m]) z=.ok i c/\ad (λq=>w0.heap.size<=q) z c/\
     ∃n:Y,∃k:J,Sem.run P (Builtin.append_ #[cN,cN] cM #[i,s2]) c=.ok n k/\ad (λq=>w0.heap.size<=q) c k/\K n k)/\
   (∃V:Y,∃A:J,Sem.run P (Instr.buildSlice cN 1 #[(0,.agg x.toArray)]) p=.ok V A/\ad (λq=>w0.heap.size<=q) p A/\
     ∃W:Y,∃B:J,Sem.run P (Builtin.append_ #[cN,cN] cM #[L,s1]) A=.ok W B/\ad (λq=>w0.heap.size<=q) A B/\
     ∃X:Y,∃C:J,Sem.run P (Builtin.append_ #[cN,cN] cM #[W,V]) B=.ok X C/\ad (λq=>w0.heap.size<=q) B C/\
     ∃Z:Y,∃M:J,Sem.run P (Builtin.append_ #[cN,cN] cM #[X,s2]) C=.ok Z M/\ad (λq=>w0.heap.size<=q) C M/\K Z M)))/\
 (∃ac:Y,∃D:J,Sem.run P (Instr.buildSlice cN 1 #[(0,.agg x.toArray)]) w0=.ok ac D/\ad (λq=>w0.heap.size<=q) w0 D/\
   ∃ae:Y,∃E:J,Sem.run P (Instr.buildSlice cN 0 #[]) D=.ok ae E/\ad (λq=>w0.heap.size<=q) D E/\
   ∃af:Y,∃F:J,Sem.run P (Builtin.append_ #[cN,cN] cM #[ae,s1]) E=.ok af F/\ad (λq=>w0.heap.size<=q) E F/\
   ∃ag:Y,∃G:J,Sem.run P (Builtin.append_ #[cN,cN] cM #[af,ac]) F=.ok ag G/\ad (λq=>w0.heap.size<=q) F G/\
   ∃ai:Y,∃N:J,Sem.run P (Builtin.append_ #[cN,cN] cM #[ag,s2]) G=.ok ai N/\ad (λq=>w0.heap.size<=q) G N/\K ai N):=by
 have kz:∀ (w:J) (o:Obj),Ext w (w.alloc o):=λw o=>ad.alloc (.refl _ _) o;have dC:∀w:J,Ext w0 w->h_ sz e w0 (w.alloc (.cells #[] e)) ⟨some w.heap.size,0,0⟩ []:=λw aj=>
  ⟨bd.new (T:=e) w [] 0 (by simp) (by decide),Ext.trans aj (kz w _),λq l=>by rw[kX]at l;have:=aj.size;simp at l;omega⟩
 have Q:∀w:J,Src sz (w.alloc (.cells x.toArray e)) ⟨some w.heap.size,1,1⟩ x:=λw=>Src.new w x 1 (by simpa using hx);have mx:∀ {w ah:J},Ext w ah->ad (λq=>w0.heap.size<=q) w ah:=λh=>ad.cJ h;have am:∀ {s:Y}{a b:J},h_ sz e w0 a s []->Ext a b->h_ sz e w0 b s []:=λh hx=>⟨h.o.ext hx,Ext.trans h.x hx,h.f⟩
 have tail:∀ {w1 ah:J}{d m:Y},h_ sz e w0 w1 d iD->d.len=s1.len->Ext w1 ah->Src sz ah m x->m.len=1->
  ∃i:Y,∃c:J,Sem.run P (Builtin.append_ #[cN,cN] cM #[d,m]) ah=.ok i c/\ad (λq=>w0.heap.size<=q) ah c/\
   ∃n:Y,∃k:J,Sem.run P (Builtin.append_ #[cN,cN] cM #[i,s2]) c=.ok n k/\ad (λq=>w0.heap.size<=q) c k/\K n k:=by
  intro w1 ah d m hf aq ak an ar;have ao:h_ sz e w0 ah d iD:=⟨hf.o.ext ak,Ext.trans hf.x ak,hf.f⟩;obtain⟨i,c,au,ay,j,t,_,_⟩:=h_.app (cM:=cM) h ao an aG (size_le u I);obtain⟨n,k,bG,bI,ap,_,_,_⟩:=h_.app (cM:=cM) h j (h2.ext j.x) bp (size_le u I);exact⟨i,c,au,ay,n,k,bG,bI,al _ _ ap⟩
 refine⟨⟨⟨some w0.heap.size,0,0⟩,_,S w0,mx (kz _ _),?_,?_⟩,?_⟩
 .have f0:=dC w0 (.refl _ _)
  obtain⟨d,g,au,ay,j,t,_,_⟩:=h_.app (cM:=cM) h f0 (h1.ext f0.x) bn (size_le u (by simp;omega));rw[iW]at j;obtain⟨i,c,r⟩:=tail j (by simpa using t) (kz g (.cells x.toArray e)) (Q g) rfl;exact⟨d,g,au,ay,⟨some g.heap.size,1,1⟩,_,b_ g,mx (kz _ _),i,c,r⟩
 .have f0:=am (dC w0 (.refl _ _)) (kz _ (.cells x.toArray e))
  obtain⟨d,g,au,ay,j,t,R,_⟩:=h_.app (cM:=cM) h f0 (h1.ext f0.x) bn (size_le u (by simp;omega));rw[iW]at j;have hs:=(Q (w0.alloc (.cells #[] e))).ab R λq l y=>by
   rw[kX]at l y;simp at l y;omega
  obtain⟨i,c,r⟩:=tail j (by simpa using t) (.refl _ _) hs rfl;exact⟨⟨some ⟨(w0.alloc (.cells #[] e)).heap.size,0,none⟩,1,1⟩,_,b_ _,mx (kz _ _),d,g,au,ay,i,c,r⟩
 .have f0:=dC (w0.alloc (.cells x.toArray e)) (kz _ _)
  obtain⟨d,g,au,ay,j,t,R,_⟩:=h_.app (cM:=cM) h f0 (h1.ext f0.x) bn (size_le u (by simp;omega));rw[iW]at j;have hs:=((Q w0).alloc (.cells #[] e)).ab R λq l y=>by
   rw[kX]at l y;simp at l y;omega
  obtain⟨i,c,r⟩:=tail j (by simpa using t) (.refl _ _) hs rfl;exact⟨⟨some w0.heap.size,1,1⟩,_,b_ _,mx (kz _ _),⟨some ⟨(w0.alloc (.cells x.toArray e)).heap.size,0,none⟩,0,0⟩,_,S _,mx (kz _ _),d,g,au,ay,i,c,r⟩
end
structure ql(L:O aH)(k:Key)(i:Nat):Prop where
 le:i<=L.length
 lo:∀p∈L.take i,bK p.1 k
 hi:∀p,L[i]? =some p->¬bK p.1 k
def iv(L:O aH)(k:Key)(i:Nat):ai:=decide ((L[i]?).map Prod.fst=some k)
theorem ql.yE{L:O aH}{k:Key}{i:Nat}(h:ql L k i)(o:gK L)(v:Key):
 e3 L k v=L.take i++(k,v)::L.drop (if iv L k i then i+1 else i)/\ec L k=L.take i++L.drop (if iv L k i then i+1 else i)/\eA L k=if iv L k i then (L[i]?).map Prod.snd else none:=by
 obtain⟨t,d,l⟩:=h;unfold iv;obtain⟨A,ar⟩:∃A,A=L.take i:=⟨_,rfl⟩;obtain⟨B,m⟩:∃B,B=L.drop i:=⟨_,rfl⟩;have e:L=A++B:=by rw[ar,m,ic]
 have E:A.length=i:=by rw[ar,cG,jG t]
 have hg:L[i]? =B[0]? :=by rw[m,si,kO]
 have hd:∀j,L.drop (i+j)=B.drop j:=λj=>by rw[m,qD]
 have r:=hd 0;rw[kO]at r;have u:∀c:ai,L.drop (if c then i+1 else i)=B.drop (if c then 1 else 0):=λc=>by cases c<;>simp[hd,r]
 rw[u,←ar,hg];rw[←ar]at d;rw[hg]at l;rw[e]at o;obtain⟨F,s,G⟩:=pY.1 o;have w:∀v,e3 L k v=A++e3 B k v:=λv=>by rw[e];exact AI d
 have x:ec L k=A++ec B k:=by
  rw[e,pX,oe λp n=>kC (d p n)]
 have y:A.find? (λp=>decide (p.1=k))=none:=jo.2 λp n=>by simpa using kC (d p n)
 have z:eA L k=eA B k:=by
  unfold eA;rw[e,List.find?_append,y];rfl
 rw[w,x,z]
 cases C:B with
 |nil=>simp[e3,ec,eA]
 |cons p f=>
  rw[C]at l s;obtain⟨au,ay⟩:=jF.1 s;have D:ez k p.1:=l p rfl;by_cases he:p.1=k
  .have b:∀q∈f,bK k q.1:=λq a=>by rw[←he];exact au q a
   have g:∀q∈f,q.1≠k:=λq a=>(kC (b q a)).symm;simp only[ln,lq,he,decide_true,if_true,List.drop_succ_cons,lv];refine⟨?_,?_,?_⟩
   .unfold e3
    rw[lV.2 (λq a=>?_),List.filter_cons_of_neg (by simpa[he] using l_ k),jZ.2 λq a=>dP (b q a),iW];rcases cU.1 a with rfl|a
    .simpa[he] using l_ k
    .simpa using j6 (b q a)
   .unfold ec
    rw[List.filter_cons_of_neg (by simp[he]),jZ.2 λq a=>dP (g q a)]
   .unfold eA
    rw[List.find?_cons_of_pos (by simp[he])];rfl
  .have aK:bK k p.1:=by
    rcases vf p.1 k with h|h|h
    .exact absurd h D
    .exact absurd h he
    .exact h
   have b:∀q∈p::f,bK k q.1:=λq a=>by
    rcases cU.1 a with rfl|a
    .exact aK
    .exact lH aK (au q a)
   have g:∀q∈p::f,q.1≠k:=λq a=>(kC (b q a)).symm;have hf:¬some p.1=some k:=λh=>he (Option.some.inj h);simp only[ln,lq,hf,decide_false,fS,if_false,lv];refine⟨?_,?_,?_⟩
   .unfold e3
    rw[lV.2 (λq a=>by simpa using j6 (b q a)),jZ.2 λq a=>dP (b q a),iW]
   .exact congrArg (A++ ·) (oe g)
   .unfold eA
    rw[jo.2 λq a=>by simpa using g q a];rfl
theorem vX{w:J}{s:Y}{l:O UInt8}(h:Src 1 w s (aJ l)){i:Nat}(hi:i<l.length):∃A:ae,s.a=some A/\((0:Int)<=(i:Int)/\(i:Int)<(s.len:Int))/\w.cell? (A.add (Int.toNat (i:Int)*1))=some (.int .u8 ((l[i].toNat:Nat):Int)):=by
 obtain⟨A,ar,b,hc⟩:=h.at (i:=i) (v:=.int .u8 ((l[i].toNat:Nat):Int)) (by simp[aJ,hi]);exact⟨A,ar,b,hc⟩
theorem pV{w:J}{s t:Y}{a b:Key}(hs:Src 1 w s (aJ a))(ht:Src 1 w t (aJ b))(M:a.length<=1000000)(N:b.length<=1000000):
 aR aj 113 #[s,t] w (λv w'=>∃n:Int,v=n/\(n<0↔bK a b)/\Ext w w'):=by
 have h1:=len8 hs;have h2:=len8 ht;refine okF (af.pV s t) aA.pV func113 ?_;(delta af.pV ak aL b3 av;dsimp only);refine⟨λn w'=>∃i:Nat,n=(i:Int)/\i<=a.length/\i<=b.length/\eE a b=eE (a.drop i) (b.drop i)/\Ext w w',λn _=>((a.length:Int)-n).toNat,⟨0,rfl,cL _,cL _,rfl,.refl _ _⟩,?_⟩;rintro _ l ⟨i,rfl,O,P,hc,hx⟩;refine⟨λaK=>?_,λm=>?_⟩
 .rw[er,cS,cS]at aK
  have d:i<a.length:=by omega
  have f:i<b.length:=by omega
  have c:=Ext.trans hx (cf l);obtain⟨A,ar,o,p⟩:=vX (hs.ext c) d;obtain⟨B,q,r,u⟩:=vX (ht.ext c) f;rw[jD d,jD f]at hc;have Q:=oU a[i];have R:=oU b[i];refine aW ⟨A,ar,o,id,_,p,B,q,r,id,_,u,λg=>?_,λx=>?_⟩
  .have g:a[i].toNat≠b[i].toNat:=λe=>by rw[e]at g;simp at g
   have j:=Ext.trans c (cf _);obtain⟨y,z,C,D⟩:=vX (hs.ext j) d;obtain⟨E,F,G,H⟩:=vX (ht.ext j) f;refine aW ⟨y,z,C,id,_,D,E,F,G,id,_,H,_,rfl,?_,j⟩;rw[bA (n:=((a[i].toNat:Nat):Int)) I I,bA (n:=((b[i].toNat:Nat):Int)) I I,bA I I];unfold bK;rw[hc];unfold eE;rcases dO a[i].toNat b[i].toNat with h|h
   .rw[if_pos h]
    exact⟨λ_=>by decide,λ_=>I⟩
   .rw[if_neg I,if_pos I]
    exact⟨λ_=>I,λh=>absurd h (by decide)⟩
  .have he:a[i]=b[i]:=by
    have:((a[i].toNat:Nat):Int)=((b[i].toNat:Nat):Int):=by simpa using x
    exact UInt8.toNat_inj.1 I
   have K:IntKind.wrap .i64 ((i:Int)+1)=((i+1:Nat):Int):=by rw[bA I I];omega
   rw[K];refine⟨⟨i+1,rfl,I,I,?_,c⟩,by show((a.length:Int)-((i+1:Nat):Int)).toNat<((a.length:Int)-(i:Int)).toNat;omega⟩;rw[hc]
   conv=>lhs;unfold eE
   rw[he,if_neg (by simp),if_neg (by simp)]
 .have S:a.length=i\/b.length=i:=by
   rw[Bool.and_eq_false_iff,jY,jY]at m;omega
  rw[bA I I];refine⟨_,rfl,?_,hx⟩;unfold bK;rw[hc];rcases dO i a.length with h|h
  .rw[jD h,sB (show b.length<=i from I)]
   exact⟨λL=>by exfalso;omega,λh=>absurd h (show¬((1:Int)<0) by decide)⟩
  .rw[sB (show a.length<=i from I)]
   rcases dO i b.length with k|k
   .rw[jD k]
    exact⟨λ_=>show((-1:Int)<0) by decide,λ_=>I⟩
   .rw[sB (show b.length<=i from I)]
    exact⟨λL=>by exfalso;omega,λh=>absurd h (show¬((0:Int)<0) by decide)⟩
theorem yF{α:Type}{c:α->O aa}{sz:Nat}:∀ (l:O α) (i:Nat),(∀x∈l,(c x).length=sz)->(bV c l).take (i*sz)=bV c (l.take i)/\(bV c l).drop (i*sz)=bV c (l.drop i)
 |l,0,_=>by simp[bV]
 | [],i+1,_=>by simp[bV]
 |x::l,i+1,h=>by
  obtain⟨h1,h2⟩:=yF l i λy a=>h y (by simp[a])
  have hx:=h x (by simp)
  have e:(i+1)*sz=(c x).length+i*sz:=by rw[kP,hx];omega
  rw[qa,e,List.take_length_add_append,List.drop_length_add_append,h1,h2]
  exact⟨rfl,rfl⟩
theorem qm{l:O (Y×Y)}:∀v∈bV fP l,Plain v:=by
 intro v a;obtain⟨x,hx,a⟩:=List.mem_flatten.1 a;obtain⟨p,_,rfl⟩:=eC.1 hx;exact r0 p v a
theorem HH(l:O (Y×Y)):(bV fP l).length=l.length*2:=gM _ (oI l)
section
variable {B C W:Nat->Prop}{w w':J}{s:Y}{ps CD:O (Y×Y)}{L M:O aH}
theorem fA.app(h:fA B w ps L)(h2:fA B w CD M):fA B w (ps++CD) (L++M):=by
 refine⟨by simp[h.1,h2.1],λi au ay=>?_⟩;rcases dO i ps.length with g|g
 .have g':i<L.length:=by have:=h.1;omega
  simp only[lW g,lW g'];exact h.2 i g g'
 .have g':L.length<=i:=by have:=h.1;omega
  rw[cz]at au ay;simp only[nx g,nx g',h.1];exact h2.2 _ (by have:=h.1;omega) I
theorem fA.drop(h:fA B w ps L)(i:Nat):fA B w (ps.drop i) (L.drop i):=by
 refine⟨by simp[h.1],λj au ay=>?_⟩;simp only[qG];exact h.2 _ (by rw[da]at au;omega) (by rw[da]at ay;omega)
theorem fA.take(h:fA B w ps L)(i:Nat):fA B w (ps.take i) (L.take i):=by
 refine⟨by simp[h.1],λj au ay=>?_⟩;simp only[oT];exact h.2 _ (by rw[cG]at au;omega) (by rw[cG]at ay;omega)
theorem fA.one{p:Y×Y}{fQ:aH}(h1:a_ B w p.1 fQ.1)(h2:a_ B w p.2 fQ.2):fA B w [p] [fQ]:=
 fA.push (ps:=[]) (L:=[]) ⟨rfl,λi h=>by simp at h⟩ h1 h2
structure g4(hF:O aa)(hG:TypeId)(B:Nat->Prop)(w:J)(aS:Nat)(s:Y)(L:O aH):Prop where
 v:Var w aS (s::hF) hG
 p:e7 B w s L
 nb:¬B aS
 ok:∀p∈L,p.1.length<=1000/\p.2.length<=1000
 eB:L.length<=10000
variable {hF:O aa}{hG:TypeId}{aS:Nat}{key val:Key}{tk dm:Y}
theorem g4.ab(h:g4 hF hG B w aS s L)(hc:ad W w w')(a:¬W aS)(b:∀k,B k->k<w.heap.size->¬W k):g4 hF hG B w' aS s L:=⟨h.v.ab hc a,h.p.ab hc b,h.nb,h.ok,h.eB⟩
theorem g4.ext(h:g4 hF hG B w aS s L)(hc:Ext w w'):g4 hF hG B w' aS s L:=h.ab hc id λ_ _ _ h=>h
theorem g4.aY(h:g4 hF hG B w aS s L)(a:∀k,k<w.heap.size->B k->C k)(b:¬C aS):g4 hF hG C w aS s L:=⟨h.v,h.p.aY a,b,h.ok,h.eB⟩
theorem vY(h:e7 B w s L){i:Nat}(hi:i<L.length):∃ (A:ae) (tk dm:Y),s.a=some A/\((0:Int)<=(i:Int)/\(i:Int)<(s.len:Int))/\w.cell? (A.add (Int.toNat (i:Int)*2))=some (.slice tk.a tk.len tk.cap)/\w.cell? ((A.add (Int.toNat (i:Int)*2)).add 1)=some (.slice dm.a dm.len dm.cap)/\
 a_ B w tk L[i].1/\a_ B w dm L[i].2:=by
 obtain⟨A,tk,dm,h1,_,b,c,d,e,f⟩:=h.at hi;rw[dd];exact⟨A,tk,dm,h1,b,c,d,e,f⟩
theorem yG(h:g4 hF hG B w aS s L)(o:Src 1 w tk (aJ key))(H:key.length<=1000):
 aR aj 103 #[.pointer (some aS),tk] w (λv w'=>∃i:Nat,v=.tuple #[i,.bool (iv L key i)]/\ql L key i/\Ext w w'):=by
 have J:=h.p.len;have K:=h.eB;refine okF (af.u9 (some aS) tk) aA.u9 func103 ?_;(delta af.u9 ag ak aL aC av;dsimp only);refine⟨λn w'=>∃i:Nat,n=(i:Int)/\i<=L.length/\(∀p∈L.take i,bK p.1 key)/\Ext w w',λn _=>((L.length:Int)-n).toNat,⟨0,rfl,cL _,by simp,.refl _ _⟩,?_⟩;rintro _ M ⟨i,rfl,hi,r,hx⟩;have g:=h.ext hx;refine⟨_,rfl,s,g.v.cell,cq (λb w'=>(b=true↔∃p,L[i]? =some p/\bK p.1 key)/\Ext w w') (λq a=>⟨λaK=>?_,λj=>a _ _ ⟨⟨λh=>(by cases h),λ⟨p,h1,_⟩=>?_⟩,hx⟩⟩) ?_⟩
 .have c:i<L.length:=by
   have:(i:Int)<(s.len:Int):=b8 aK;omega
  obtain⟨A,t1,t2,ar,d,aC,aU,k,x⟩:=vY g.p c;refine⟨_,rfl,s,g.v.cell,A,ar,d,t1,aC,(pV k.1 (o.ext hx) (by have:=(h.ok _ (cF c)).1;omega) I).use ?_⟩;rintro _ N ⟨n,rfl,y,z⟩;refine⟨n,rfl,a _ _ ⟨?_,Ext.trans hx z⟩⟩;rw[cS,y,dE c];exact⟨λh=>⟨_,rfl,h⟩,λ⟨p,h1,h2⟩=>by cases h1;exact h2⟩
 .have:=(iy.1 h1).1
  have:¬(i:Int)<(s.len:Int):=cv j;omega
 rintro O C ⟨d,t⟩;refine⟨λht=>?_,λhf=>?_⟩
 .obtain⟨p,l,aK⟩:=d.1 ht
  obtain⟨c,D⟩:=iy.1 l;have E:IntKind.wrap .i64 ((i:Int)+1)=((i+1:Nat):Int):=by rw[bA I I];omega
  rw[E];refine⟨⟨i+1,rfl,I,λq a=>?_,t⟩,by show((L.length:Int)-((i+1:Nat):Int)).toNat<((L.length:Int)-(i:Int)).toNat;omega⟩;rw[iU c]at a;rcases cT.1 a with a|a
  .exact r q a
  .rw[ff.1 a,D];exact aK
 .have f:=Ext.trans t (cf C)
  have m:=h.ext f;have u:ql L key i:=⟨hi,r,λp l aK=>by rw[d.2 ⟨p,l,aK⟩]at hf;cases hf⟩;refine aW ⟨_,rfl,id,s,m.v.cell,λaK=>?_,λj=>⟨i,?_,u,f⟩⟩
  .have c:i<L.length:=by
    have:(i:Int)<(s.len:Int):=b8 aK;omega
   obtain⟨A,t1,t2,ar,d,aC,aU,k,x⟩:=vY m.p c;refine⟨_,rfl,id,s,m.v.cell,A,ar,d,id,t1,aC,_,λP F=>mg (k.1.ext F),_,λQ G=>mg ((o.ext f).ext G),i,?_,u,f⟩;rw[nN];unfold iv;rw[dE c];have e:(L[i].1==key)=decide ((some L[i]).map Prod.fst=some key):=by rw[fY];simp
   rw[e]
  .have:¬i<L.length:=by
    have:¬(i:Int)<(s.len:Int):=cv j;omega
   unfold iv;rw[kp I];rfl
theorem yH(w:J):Sem.run aj (Instr.buildSlice 86 0 #[]) w=.ok (.slice (some w.heap.size) 0 0) (w.alloc (.cells #[] 167)):=by kernel_rfl
theorem Src.qn(h:Src 2 w s (bV fP ps))(hc:s.len<=s.cap){lo hi:Nat}(h1:lo<=hi)(h2:hi<=ps.length):Src 2 w ⟨aP s.a 2 lo s.cap,hi-lo,s.cap-lo⟩ (bV fP ((ps.drop lo).take (hi-lo))):=by
 have b:=h.len;rw[HH]at b;have:=Src.cut h hc h1 (hi:=hi) I;rw[(yF ps lo (oI ps)).2,(yF (ps.drop lo) (hi-lo) (oI _)).1]at this;exact this
theorem CE(h:Var w aS (s::hF) hG){a:Y}{b:J}(hf:h_ 2 167 w b a (bV fP ps))(l:fA B w ps M)(m:∀q,w.heap.size<=q->B q)(d:¬B aS)(n:∀p∈M,p.1.length<=1000/\p.2.length<=1000)(r:M.length<=10000):
 (∃u:aa,b.cell? aS=some u)/\b.frozen? aS=false/\g4 hF hG B (b.setCell aS a) aS a M/\ad (λq=>q=aS) w (b.setCell aS a):=by
 have j:=h.ext hf.x;obtain⟨bG,bI⟩:=dI j (i:=0) (by simp);have g:=dk b aS 0 a;have aK:=h.lt;have k:∀q,aB a q->B q:=λq c=>m q (hf.f q c);have hc:=cu (W:=λq=>q=aS) (ad.cJ hf.x) g λq _ e=>e;refine⟨bG,bI,⟨dN j (i:=0) _,⟨ps,?_,hf.o.2.1,λq c=>⟨k q c,?_⟩,l.ab hc λq t _ e=>d (e▸t)⟩,d,n,r⟩,hc⟩
 .exact(hf.o.ab g λq c e=>d (e▸k q c)).src
 .exact fU (hf.o.lt q c) g.size
theorem HI(h:g4 hF hG B w aS s L)(ai:gK L)(y:Src 1 w tk (aJ key))(O:key.length<=1000)(P:Src 1 w dm (aJ val))(am:val.length<=1000)(z:∀q,w.heap.size<=q->B q)(aF:L.length<=9999):
 aR aj 107 #[.pointer (some aS),tk,dm] w (λv w'=>v=.tuple #[]/\ad (λq=>q=aS) w w'/\∃a,g4 hF hG B w' aS a (e3 L key val)):=by
 have aG:=h.p.len;have aH:=len8 y;have aI:=len8 P;refine okF (af.vc (some aS) tk dm) aA.vc func107 ?_;(delta af.vc g0 U ak ag av gd tp;dsimp only);refine(yG h y O).use ?_;rintro _ w1 ⟨i,rfl,Q,A⟩;obtain⟨m,_,_⟩:=Q.yE ai val;have an:=Q.le;obtain⟨c,R,au,ay,aK,S,ao,_⟩:=oq.clone (cM:=48) (y.ext A) (k6 _) I;have T:=Ext.trans A S;obtain⟨sv,n,bG,bI,aL,C,ap,_⟩:=oq.clone (cM:=48) (P.ext T) (k6 _) I;have aq:=Ext.trans T C;refine⟨_,_,rfl,aW ⟨c,R,au,aW ⟨sv,n,bG,bh (vs:=[(),()]) rfl λaM V ar aN=>⟨V.b9 rfl (r0 (c,sv)),rfl,cr V (us:=fP (c,sv)) rfl rfl λW aw ax aO=>?_⟩⟩⟩⟩;have D:Ext n W:=Ext.cn ar ax (bl _);obtain⟨d,l⟩:∃d,d=W.drew:=⟨_,rfl⟩;have E:Ext w d:=by rw[l];exact Ext.trans (Ext.trans aq D) (cf _)
 have o:Var d n.heap.size (fP (c,sv)) 167:=by rw[l];exact aw.drew
 have k:=h.ext E;have aP:=A.size;have aQ:=S.size;have aT:=C.size;have az:∀q,w1.heap.size<=q->B q:=λq g=>z q I;have X:Ext R d:=by rw[l];exact Ext.trans (Ext.trans C D) (cf _)
 have Z:Ext n d:=by rw[l];exact Ext.trans D (cf _)
 have aB:a_ B d c key:=⟨(ay.ext X).src,ay.2.1,λq g=>⟨az q (ao q g),(ay.ext X).lt q g⟩⟩;have ev:a_ B d sv val:=⟨(bI.ext Z).src,bI.2.1,λq g=>⟨z q (by have:=ap q g;omega),(bI.ext Z).lt q g⟩⟩;obtain⟨ps,fN,dG,aU,F⟩:=k.p;have aV:ps.length=L.length:=F.1;have ab:∀ (j:Nat),i<=j->j<=L.length->∀ (a:Y) (b:J),h_ 2 167 d b a (bV fP ((ps.drop 0).take (i-0))++fP (c,sv)++bV fP ((ps.drop j).take (ps.length-j)))->e3 L key val=L.take i++(key,val)::L.drop j->
  (∃u:aa,b.cell? aS=some u)/\b.frozen? aS=false/\al (b.setCell aS a) λw'=>(.tuple #[]:aa)=.tuple #[]/\ad (λq=>q=aS) w w'/\∃a,g4 hF hG B w' aS a (e3 L key val):=by
  intro j aX aY a b hf ac;have e:bV fP ((ps.drop 0).take (i-0))++fP (c,sv)++bV fP ((ps.drop j).take (ps.length-j))=bV fP (ps.take i++ [(c,sv)]++ps.drop j):=by
   rw[dV (show(ps.drop j).length<=ps.length-j by simp),mj,mj];simp[bV]
  rw[e]at hf;have aC:fA B d (ps.take i++ [(c,sv)]++ps.drop j) (e3 L key val):=by
   rw[ac,cP];exact(F.take i).app (fA.app (M:=L.drop j) (L:=[(key,val)]) (fA.one aB ev) (F.drop j))
  obtain⟨a1,a2,a3,a4⟩:=CE k.v hf aC (λq g=>z q (eK E.size g)) h.nb (λp G=>by
   rcases AJ.1 G with rfl|⟨G,_⟩
   .exact⟨O,am⟩
   .exact h.ok p G) (by
   rw[ac];simp only[cz,cG,e8,da];omega)
  exact⟨a1,a2,aW ⟨rfl,cu (ad.cJ E) a4 λq _ e=>e,a,a3⟩⟩
 have aZ:i<=s.cap:=by omega
 have t:¬d.heap.size<=aS:=by have:=k.v.lt;omega
 have ah:¬d.heap.size<=n.heap.size:=by have:=o.lt;omega
 have aD:IntKind.wrap .i64 ((i:Int)+1)=((i+1:Nat):Int):=by have:=h.eB;rw[bA I I];omega
 refine⟨λH=>?_,λH=>?_⟩
 .have r:iv L key i=true:=H
  rw[r,if_pos rfl]at m;have aE:i+1<=L.length:=by
   unfold iv at r;have h1:=b8 r;rcases dO i L.length with h2|h2
   .exact h2
   .rw[kp h2]at h1;cases h1
  rw[aD,←l];refine aW ⟨λq=>d.heap.size<=q,_,rfl,t,s,k.v.cell,⟨I,I⟩,ah,c,o.cell,sv,o.cell,_,rfl,t,s,k.v.cell,⟨I,I⟩,?_⟩;rw[dd,dd];have N:s.len-(i+1)=ps.length-(i+1):=by omega
  rw[N];exact CC (x:=[c,sv]) r2 yH (λw=>yA w _ rfl) rfl (Src.qn fN dG (cL _) I) (Src.qn fN dG I (bl _)) (r0 (c,sv)) qm qm (by show(2*((i-0)+(ps.length-(i+1))+1)+1000)*48<=_;omega) (K:=λa b=>∃f:ae,some (aS:ae)=some f/\(∃u:aa,b.cell? f=some u)/\b.frozen? f=false/\al (b.setCell f a) λw'=>(.tuple #[]:aa)=.tuple #[]/\ad (λq=>q=aS) w w'/\∃a,g4 hF hG B w' aS a (e3 L key val))
   λa b hf=>⟨_,rfl,ab (i+1) I aE a b hf m⟩
 .have r:iv L key i=false:=H
  rw[r]at m;simp only[fS,if_false]at m;rw[←l];refine aW ⟨λq=>d.heap.size<=q,_,rfl,t,s,k.v.cell,⟨I,I⟩,ah,c,o.cell,sv,o.cell,_,rfl,t,s,k.v.cell,⟨I,I⟩,?_⟩;rw[dd];have N:s.len-i=ps.length-i:=by omega
  rw[N];exact CC (x:=[c,sv]) r2 yH (λw=>yA w _ rfl) rfl (Src.qn fN dG (cL _) I) (Src.qn fN dG I (bl _)) (r0 (c,sv)) qm qm (by show(2*((i-0)+(ps.length-i)+1)+1000)*48<=_;omega) (K:=λa b=>∃f:ae,some (aS:ae)=some f/\(∃u:aa,b.cell? f=some u)/\b.frozen? f=false/\al (b.setCell f a) λw'=>(.tuple #[]:aa)=.tuple #[]/\ad (λq=>q=aS) w w'/\∃a,g4 hF hG B w' aS a (e3 L key val))
   λa b hf=>⟨_,rfl,ab i (bl _) an a b hf m⟩
end
section
variable {hF:O aa}{hG:TypeId}{B C W:Nat->Prop}{w w':J}{s t:Y}{L M:O aH}{aS:Nat}{key fr to:Key}{tk I7 tt:Y}
theorem CF{i:Nat}(h:iv L key i=true):i<L.length:=by
 unfold iv at h;have h1:=b8 h;rcases dO i L.length with h2|h2
 .exact h2
 .rw[kp h2]at h1;cases h1
theorem ql.get{i:Nat}(h:ql L key i)(b:gK L):iv L key i=(eA L key).isSome:=by
 rw[(h.yE b []).2.2];by_cases a:iv L key i=true
 .rw[a,if_pos rfl,dE (CF a)];rfl
 .have:iv L key i=false:=by simpa using a
  rw[this];rfl
theorem HJ(h:g4 hF hG B w aS s L)(m:gK L)(y:Src 1 w tk (aJ key))(z:key.length<=1000)(A:∀q,w.heap.size<=q->B q):
 aR aj 104 #[.pointer (some aS),tk] w (λv w'=>v=.bool (eA L key).isSome/\ad (λq=>q=aS) w w'/\∃g,g4 hF hG B w' aS g (ec L key)):=by
 have N:=h.p.len;have C:=h.eB;refine okF (af.u_ (some aS) tk) aA.u_ func104 ?_;(delta af.u_ g0 ak ag av;dsimp only);refine(yG h y z).use ?_;rintro _ w1 ⟨i,rfl,n,j⟩;obtain⟨_,d,_⟩:=n.yE m [];refine⟨_,_,rfl,iE (λw'=>ad (λq=>q=aS) w w'/\∃g,g4 hF hG B w' aS g (ec L key)) (λq b=>⟨λc=>?_,λc=>?_⟩) ?_⟩
 rotate_left
 .have c:iv L key i=false:=c
  rw[c]at d;simp only[fS,if_false,ic]at d;rw[d]at b;exact b _ ⟨ad.cJ j,s,h.ext j⟩
 .rintro O ⟨h1,h2⟩
  exact⟨by rw[n.get m],h1,h2⟩
 have c:iv L key i=true:=c;have P:=CF c;rw[c,if_pos rfl]at d;obtain⟨a,o⟩:∃a,a=w1.drew:=⟨_,rfl⟩;rw[←o];have k:Ext w a:=by rw[o];exact Ext.trans j (cf _)
 have f:=h.ext k;obtain⟨ps,fN,dG,Q,l⟩:=f.p;have R:ps.length=L.length:=l.1;have r:¬a.heap.size<=aS:=by have:=f.v.lt;omega
 have D:IntKind.wrap .i64 ((i:Int)+1)=((i+1:Nat):Int):=by rw[bA I I];omega
 have f0:h_ 2 167 a (a.alloc (.cells #[] 167)) ⟨some a.heap.size,0,0⟩ []:=⟨bd.new (T:=167) a [] 0 (by simp) (by decide),eS _ _,λq b=>by rw[kX]at b;simp at b;omega⟩;obtain⟨E,F,au,ay,t,G,_,_⟩:=h_.app (cM:=86) r2 f0 ((Src.qn fN dG (cL i) I).ext f0.x) qm (by show(2*(0+(i-0))+1000)*48<=_;omega);obtain⟨H,J,bG,bI,u,S,_,_⟩:=h_.app (cM:=86) r2 t ((Src.qn fN dG (show i+1<=ps.length from I) (bl _)).ext t.x) qm (by rw[G];show(2*((0+(i-0))+(ps.length-(i+1)))+1000)*48<=_;omega);rw[D];refine aW ⟨λq=>a.heap.size<=q,_,rfl,r,s,f.v.cell,⟨I,I⟩,_,rfl,r,s,f.v.cell,⟨I,I⟩,⟨some a.heap.size,0,0⟩,_,yH a,ad.cJ f0.x,?_⟩;rw[dd,dd,show s.len-(i+1)=ps.length-(i+1) from I];have e: []++bV fP ((ps.drop 0).take (i-0))++bV fP ((ps.drop (i+1)).take (ps.length-(i+1)))=bV fP (ps.take i++ps.drop (i+1)):=by
  rw[dV (show(ps.drop (i+1)).length<=ps.length-(i+1) by simp),mj];simp
 rw[e]at u;have K:fA B a (ps.take i++ps.drop (i+1)) (ec L key):=by
  rw[d];exact(l.take i).app (l.drop (i+1))
 have hlen:(ec L key).length<=10000:=eK (nA _ _) C;obtain⟨a1,a2,a3,a4⟩:=CE f.v u K (λq b=>A q (eK k.size b)) h.nb (λp M=>h.ok p (hK.1 M).1) hlen;exact⟨E,F,au,ay,H,J,bG,bI,_,rfl,a1,a2,aW (b _ ⟨cu (ad.cJ k) a4 λq _ e=>e,_,a3⟩)⟩
end
def qo(n:Nat)(root aI:Int):Prop:=0<=aI/\aI<=12/\0<=root/\root<n/\(root=0↔aI=0)
theorem nY{w:J}{C:b5}(hc:fx w C)(sb:Nat)(gen root aI:Int):
 aR aj 140 #[.pointer (some C.c),.pointer (some sb),.int .u64 gen,root,aI] w (λv w'=>
  (qo C.D.n root aI/\v=.tuple #[.pointer (some w.heap.size),(0:Int)]/\Ext w w'/\Var w' w.heap.size [.pointer (some C.c),.pointer (some sb),.int .u64 gen,root,aI] 239/\w'.heap.size=w.heap.size+1)\/
  (¬qo C.D.n root aI/\v=.tuple #[.pointer none,(1:Int)]/\w=w')):=by
 refine okF (af.nY (some C.c) (some sb) gen root aI) aA.nY func140 ?_;(delta af.nY ak aC U;dsimp only);refine cq (λb w'=>(b=false↔(0<=aI/\aI<=12/\0<=root/\root<C.D.n))/\w=w') (λq g=>⟨λh1=>g _ _ ⟨?_,rfl⟩,λh1=>⟨_,rfl,_,hc.cells.1,(qb hc.dev).use ?_⟩⟩) ?_
 .simp only[sA,km,iT,cS]at h1
  exact⟨λh=>(by cases h),λh=>I⟩
 .rintro _ _ ⟨rfl,rfl⟩
  simp only[sA,km,nv,jY]at h1;refine⟨_,rfl,g _ _ ⟨?_,rfl⟩⟩;rw[jY];omega
 rintro b _ ⟨i,rfl⟩;refine⟨λh1=>.inr ⟨λhg=>?_,rfl,rfl⟩,λh1=>?_⟩
 .have h2:=i.2 ⟨hg.1,hg.2.1,hg.2.2.1,hg.2.2.2.1⟩
  rw[h2,km]at h1;have d:=hg.2.2.2.2;by_cases a:root=0
  .rw[a,d.1 a]at h1;simp at h1
  .have f:aI≠0:=λe=>a (d.2 e)
   have j:(root==0)=false:=by simpa using a
   have k:(aI==0)=false:=by simpa using f
   rw[j,k]at h1
   cases h1
 .rw[nv]at h1
  have h2:=i.1 h1.1;have d:root=0↔aI=0:=by
   have a:=h1.2;by_cases f:root=0<;>by_cases l:aI=0<;>simp[f,l]at a⊢
  refine bh (vs:=[.pointer (some C.c),.pointer (some sb),.int .u64 gen,root,aI]) rfl λo m hx hs=>.inl ⟨⟨h2.1,h2.2.1,h2.2.2.1,h2.2.2.2,d⟩,rfl,hx,m,hs⟩
theorem CG{w:J}{s:Y}{l:O UInt8}(hs:Src 1 w s (aJ l))(hc:s.len<=s.cap)(most:Nat)(g:most<=100000):aR aj 24 #[s,most] w (λv w'=>∃a:Y,v=a/\bd 1 5 w' a (aJ (l.take most))/\Ext w w'/\∀q,aB a q->w.heap.size<=q):=by
 have hlen:=len8 hs;refine okF (af.ve s (most:Nat)) aA.ve func24 ?_;delta af.ve ak U;refine cq (λs2 w'=>w=w'/\Src 1 w s2 (aJ (l.take most))/\s2.len<=most) (λq b=>⟨λh=>?_,λh=>?_⟩) ?_
 .have h:most<l.length:=by have:=b8 h;omega
  refine⟨⟨I,I⟩,b _ _ ⟨rfl,?_,by simp⟩⟩;have:=na hs hc (lo:=0) (hi:=most) I I;simpa using this
 .have h:l.length<=most:=by have:=cv h;omega
  rw[dV h]at b;exact b _ _ ⟨rfl,hs,I⟩
 rintro s2 _ ⟨rfl,h2,i⟩;obtain⟨c,d,au,ay,j,e,f,_⟩:=oq.clone (cM:=48) h2 (k6 _) I;exact aW ⟨c,d,au,c,rfl,ay,e,f⟩
instance (n:Nat) (root aI:Int):Decidable (qo n root aI):=by unfold qo;infer_instance
theorem pU{B C:Nat->Prop}{w:J}{s t:Y}{L M:O aH}(hs:e7 B w s L)(ht:e7 C w t M)(N:L.length<=1000000):
 aR aj 43 #[s,t] w (λv w'=>∃r:ai,v=r/\(r=true↔L=M)/\Ext w w'):=by
 have h1:=hs.len;have h2:=ht.len;refine okF (af.pU s t) aA.pU func43 ?_;(delta af.pU ak aL ag av;dsimp only);refine⟨λa=>⟨false,rfl,⟨λh=>(by cases h),λh=>?_⟩,.refl _ _⟩,λb=>?_⟩
 .rw[h1,h2,h]at a;simp at a
 have l:L.length=M.length:=by
  have:(s.len:Int)=(t.len:Int):=by simpa using b
  omega
 refine⟨λn w'=>∃i:Nat,n=(i:Int)/\i<=L.length/\L.take i=M.take i/\Ext w w',λn _=>((L.length:Int)-n).toNat,⟨0,rfl,cL _,by simp,.refl _ _⟩,?_⟩;rintro _ m ⟨i,rfl,hi,he,hx⟩;refine⟨λaK=>?_,λo=>?_⟩
 rotate_left
 .have d:i=L.length:=by
   have:¬(i:Int)<(s.len:Int):=cv o;omega
  refine⟨true,rfl,⟨λ_=>?_,λ_=>rfl⟩,hx⟩;rw[d,iV,l,iV]at he;exact he
 have d:i<L.length:=by
  have:(i:Int)<(s.len:Int):=b8 aK;omega
 have e:i<M.length:=by omega
 have c:=Ext.trans hx (cf m);obtain⟨A,a1,a2,ar,f,aC,aU,p,q⟩:=vY (hs.ext c) d;obtain⟨D,b_,bO,g,j,d1,d2,u,x⟩:=vY (ht.ext c) e;have y:IntKind.wrap .i64 ((i:Int)+1)=((i+1:Nat):Int):=by rw[bA I I];omega
 have k:∀ {r:Prop},L[i]≠M[i]->L=M->r:=λh h2=>absurd (by subst h2;rfl) h;refine aW ⟨A,ar,f,id,a1,aC,_,λP z=>mg (p.1.ext z),D,g,j,id,b_,d1,_,λQ E=>mg (u.1.ext E),λa=>⟨λ_=>⟨false,rfl,⟨λh=>(by cases h),k λh=>?_⟩,c⟩,λh=>(by cases h)⟩,λb=>?_⟩
 .rw[nN,h]at a;simp at a
 rw[nN]at b;have F:L[i].1=M[i].1:=by simpa using b
 refine⟨A,ar,f,id,a2,aU,_,λR G=>mg (q.1.ext G),D,g,j,id,bO,d2,_,λS H=>mg (x.1.ext H),λa=>⟨false,rfl,⟨λh=>(by cases h),k λh=>?_⟩,c⟩,λb=>?_⟩
 .rw[nN,h]at a;simp at a
 rw[nN]at b;have K:L[i].2=M[i].2:=by simpa using b
 rw[y];refine⟨⟨i+1,rfl,I,?_,c⟩,by show((L.length:Int)-((i+1:Nat):Int)).toNat<((L.length:Int)-(i:Int)).toNat;omega⟩;rw[iU d,iU e,he,Prod.ext F K]
theorem ob{w:J}{s:Y}{k:Key}(h:Src 1 w s (aJ k)):aR aj 50 #[s] w (λv w'=>v=.bool (decide (cw k))/\w=w'):=by
 have a:=len8 h;refine okF (af.ob s) aA.ob func50 ?_;unfold af.ob;refine⟨?_,rfl⟩;have e:(decide ((s.len:Int)>0)&&decide ((s.len:Int)<=24))=decide (cw k):=by
  rw[fY,er,cS,cS,cS];unfold cw;omega
 rw[e]
structure cE where
 now:O aH
 sure:O aH
 fO:Y
 ss:Y
 c0:Nat
 clock:Nat
 first:Nat
 bw:Nat
 eU:Nat
def cE.rest(m:cE):O aa:=[m.ss,m.c0,.int .u64 (m.clock:Nat),.int .u64 (m.first:Nat),.int .u64 (m.bw:Nat),.int .u64 (m.eU:Nat)]
def cE.c(m:cE):O aa:=m.fO::m.rest
def cE.nr(m:cE):cE:={m with sure:=m.now,ss:=m.fO,c0:=0,bw:=m.bw+1,eU:=m.clock}
def cE.oJ(m:cE):cE:={m with first:=if m.c0=0 then m.clock else m.first,c0:=m.c0+1}
def cE.more(m:cE)(batch:Nat):cE:=if batch<=m.c0+1 then m.oJ.nr else m.oJ
def cE.jy(m:cE)(n:Nat):cE:={m with clock:=max m.clock n}
def cE.tick(m:cE)(n dY:Nat):cE:=if m.c0≠0/\dY<=max m.clock n-m.first then (m.jy n).nr else m.jy n
structure en(B:Nat->Prop)(w:J)(aS:Nat)(m:cE):Prop where
 now:g4 m.rest 90 B w aS m.fO m.now
 sure:e7 B w m.ss m.sure
 num:m.clock<18446744073709551616/\(m.c0≠0->m.first<=m.clock)
section
variable {B C W:Nat->Prop}{w w':J}{aS:Nat}{m:cE}
theorem en.ab(h:en B w aS m)(hc:ad W w w')(b:¬W aS)(a:∀k,B k->k<w.heap.size->¬W k):en B w' aS m:=⟨h.now.ab hc b a,h.sure.ab hc a,h.num⟩
theorem en.ext(h:en B w aS m)(hx:Ext w w'):en B w' aS m:=h.ab hx id λ_ _ _ h=>h
theorem en.aY(h:en B w aS m)(a:∀k,k<w.heap.size->B k->C k)(b:¬C aS):en C w aS m:=⟨h.now.aY a b,h.sure.aY a,h.num⟩
theorem en.v(h:en B w aS m):Var w aS m.c 90:=h.now.v
theorem en.set(h:en B w aS m){i:Nat}{x:aa}(m':cE)(hi:i<7)(hc:m.c.set i x=m'.c)(hs:m'.fO=m.fO)(a:m'.now=m.now)(g:e7 B w m'.ss m'.sure)(j:m'.clock<18446744073709551616/\(m'.c0≠0->m'.first<=m'.clock)):
 (∃u:aa,w.cell? ⟨aS,i,none⟩=some u)/\w.frozen? ⟨aS,i,none⟩=false/\en B (w.setCell ⟨aS,i,none⟩ x) aS m'/\ad (λq=>q=aS) w (w.setCell ⟨aS,i,none⟩ x):=by
 obtain⟨bG,bI⟩:=dI h.v (i:=i) (by show i<7;exact hi);have b:=dk w aS i x;have d:=dN h.v (i:=i) x;rw[hc]at d;have f:∀q,B q->q<w.heap.size->¬q=aS:=λq k _ e=>h.now.nb (e▸k);exact⟨bG,bI,⟨⟨d,by rw[hs,a];exact h.now.p.ab b f,h.now.nb,by rw[a];exact h.now.ok,by rw[a];exact h.now.eB⟩,g.ab b f,j⟩,b⟩
theorem en.back(h:en B w aS m)(c:∀p∈m.sure,p.1.length<=1000/\p.2.length<=1000)(d:m.sure.length<=10000):
 (∃u:aa,w.cell? aS=some u)/\w.frozen? aS=false/\en B (w.setCell aS m.ss) aS {m with now:=m.sure,fO:=m.ss}/\ad (λq=>q=aS) w (w.setCell aS m.ss):=by
 obtain⟨bG,bI⟩:=dI h.v (i:=0) (by show 0<7;decide);have a:=dk w aS 0 m.ss;have b:∀q,B q->q<w.heap.size->¬q=aS:=λq f _ e=>h.now.nb (e▸f);exact⟨bG,bI,⟨⟨dN h.v (i:=0) _,h.sure.ab a b,h.now.nb,c,d⟩,h.sure.ab a b,h.num⟩,a⟩
theorem e0(d i k:Nat):Addr.add ⟨d,i,none⟩ k=⟨d,i+k,none⟩:=by
 rw[aw]
theorem yI (h:en B w aS m) (hg:m.bw<1000000000000):aR aj 39 #[.pointer (some aS)] w (fun v w'=>v= .tuple #[]∧ad (fun q=>q=aS) w w'∧en B w' aS m.nr):=by
 refine okF (af.u7 (some aS)) aA.u7 func39 ?_
 (delta af.u7 ag st br;dsimp only)
 refine⟨_,rfl,m.fO,h.v.cell,_,rfl,?_⟩
 rw[e0,cy]
 obtain⟨a1,a2,c,dg⟩:=h.set (i:=1) (x:=m.fO) {m with sure:=m.now,ss:=m.fO} (by decide) rfl rfl rfl h.now.p h.num
 refine⟨a1,a2,aW ⟨_,rfl,?_⟩⟩
 rw[e0,cy]
 obtain⟨b_,bO,a,cc⟩:=c.set (i:=2) (x:= .int .i64 0) {m with sure:=m.now,ss:=m.fO,c0:=0} (by decide) rfl rfl rfl c.sure ⟨h.num.1,fun h=>absurd rfl h⟩
 refine⟨b_,bO,aW ⟨_,rfl,_,by rw[e0];exact a.v.cell,_,rfl,?_⟩⟩
 rw[e0,cy,gR (n:=(m.bw:Nat)+1) (by omega) (by omega)]
 obtain⟨d1,d2,b,gI⟩:=a.set (i:=5) (x:= .int .u64 ((m.bw:Nat)+1)) {m with sure:=m.now,ss:=m.fO,c0:=0,bw:=m.bw+1} (by decide) rfl rfl rfl a.sure a.num
 refine⟨d1,d2,aW ⟨_,rfl,_,by rw[e0];exact b.v.cell,_,rfl,?_⟩⟩
 rw[e0,cy]
 obtain⟨d,e,f,iG⟩:=b.set (i:=6) (x:= .int .u64 (m.clock:Nat)) m.nr (by decide) rfl rfl rfl b.sure b.num
 exact⟨d,e,aW ⟨rfl,((dg.trans cc).trans gI).trans iG,f⟩⟩
theorem CH (h:en B w aS m) (hg:m.bw<1000000000000) (l:m.c0<1000000) {batch:Nat}:aR aj 105 #[.pointer (some aS),batch] w (fun v w'=>v= .tuple #[]∧ad (fun q=>q=aS) w w'∧en B w' aS (m.more batch)):=by
 refine okF (af.va (some aS) (batch:Nat)) aA.va func105 ?_
 (delta af.va r1 ak br st av aU;dsimp only)
 refine iE (fun b=>ad (fun q=>q=aS) w b∧en B b aS {m with first:=if m.c0=0 then m.clock else m.first}) (fun q f=>⟨_,rfl,_,by rw[e0];exact h.v.cell,fun a=>⟨_,rfl,_,by rw[e0];exact h.v.cell,_,rfl,?_⟩,fun a=>f _ ⟨.refl _ _,?_⟩⟩) ?_
 · have e:m.c0=0:=by simp at a;omega
   rw[e0,cy]
   obtain⟨a1,a2,g,dg⟩:=h.set (i:=4) (x:= .int .u64 (m.clock:Nat)) {m with first:=if m.c0=0 then m.clock else m.first} (by decide) (by rw[if_pos e];rfl) rfl rfl h.sure ⟨h.num.1,fun h0=>absurd e h0⟩
   exact⟨a1,a2,aW (f _ ⟨dg,g⟩)⟩
 · have e:¬m.c0=0:=by simp at a;omega
   have j:({m with first:=if m.c0=0 then m.clock else m.first}:cE)=m:=by rw[if_neg e]
   rw[j];exact h
 rintro b ⟨kZ,c⟩
 refine⟨_,rfl,_,by rw[e0];exact c.v.cell,_,rfl,?_⟩
 rw[e0,cy,bA (n:=(m.c0:Nat)+1) (by omega) (by omega)]
 obtain⟨b_,bO,d,g0⟩:=c.set (i:=2) (x:= .int .i64 ((m.c0:Nat)+1)) m.oJ (by decide) rfl rfl rfl c.sure ⟨h.num.1,fun _=>by show(if m.c0=0 then m.clock else m.first)≤m.clock;split;exact bl _;exact h.num.2 (by assumption)⟩
 refine⟨b_,bO,aW ⟨_,rfl,((m.c0+1:Nat):Int),by rw[e0];exact d.v.cell,fun a=>(yI d hg).use ?_,fun a=>?_⟩⟩
 · rintro _ o ⟨rfl,pn,k⟩
   have a:((m.c0+1:Nat):Int)≥(batch:Nat):=b8 a
   refine⟨rfl,rfl,(kZ.trans g0).trans pn,?_⟩
   unfold cE.more
   rw[if_pos (by omega)];exact k
 · have a:¬((m.c0+1:Nat):Int)≥(batch:Nat):=cv a
   refine⟨rfl,kZ.trans g0,?_⟩
   unfold cE.more
   rw[if_neg (by omega)];exact d
theorem HK(h:en B w aS m)(l:∀q,w.heap.size<=q->B q)(hg:m.bw<1000000000000){n dY:Nat}(o:n<18446744073709551616):aR aj 106 #[.pointer (some aS),.int .u64 (n:Nat),.int .u64 (dY:Nat)] w (λv w'=>v=.tuple #[]/\ad (λq=>q=aS) w w'/\en B w' aS (m.tick n dY)):=by
 have d:=h.num;refine okF (af.vb (some aS) (n:Nat) (dY:Nat)) aA.vb func106 ?_;(delta af.vb br ak st r1 aU;dsimp only);refine iE (λb=>ad (λq=>q=aS) w b/\en B b aS (m.jy n)) (λq f=>⟨_,rfl,_,by rw[e0];exact h.v.cell,λa=>⟨_,rfl,?_⟩,λa=>f _ ⟨.refl _ _,?_⟩⟩) ?_
 .have a:(n:Int)>(m.clock:Nat):=b8 a
  rw[e0,cy];obtain⟨a1,a2,g,dg⟩:=h.set (i:=3) (x:=.int .u64 (n:Nat)) (m.jy n) (by decide) (by unfold cE.jy;rw[Nat.max_eq_right I];rfl) rfl rfl h.sure ⟨by show max m.clock n<_;omega,λh0=>by have:=d.2 h0;show m.first<=max m.clock n;omega⟩;exact⟨a1,a2,aW (f _ ⟨dg,g⟩)⟩
 .have a:¬(n:Int)>(m.clock:Nat):=cv a
  unfold cE.jy;rw[Nat.max_eq_left I];exact h
 rintro b ⟨cc,j⟩;have c:=j.ext (cf b);have kA:=cc.trans (ad.cJ (cf b):ad (λq=>q=aS) b b.drew);refine aW ⟨_,rfl,id,_,by rw[e0];exact c.v.cell,λa=>⟨_,rfl,id,_,by rw[e0];exact c.v.cell,_,rfl,id,_,by rw[e0];exact c.v.cell,?_⟩,λa=>⟨λh=>(by cases h),λ_=>⟨rfl,kA,?_⟩⟩⟩
 .have a:(m.c0:Int)>0:=b8 a
  have p:=c.num;have e:IntKind.wrap .u64 (((m.jy n).clock:Nat)-((m.jy n).first:Nat))=((max m.clock n-m.first:Nat):Int):=by
   have h1:m.first<=max m.clock n:=by have:=d.2 I;omega
   have h2:max m.clock n<18446744073709551616:=by omega
   show IntKind.wrap .u64 (((max m.clock n:Nat):Int)-(m.first:Int))=_;rw[gR I I];omega
  have r:∀x:Prop,(decide (IntKind.wrap .u64 (((m.jy n).clock:Nat)-((m.jy n).first:Nat))>=(dY:Int))=true->x)->(dY<=max m.clock n-m.first->x):=λx hx hd=>hx (dP (by rw[e];omega));refine⟨λhc=>(yI c hg).use ?_,λhc=>⟨rfl,kA,?_⟩⟩
  .rintro _ s ⟨rfl,pn,k⟩
   have hc:=b8 hc;rw[e]at hc;refine⟨rfl,rfl,kA.trans pn,?_⟩;unfold cE.tick;rw[if_pos ⟨I,I⟩];exact k
  .have hc:=cv hc
   rw[e]at hc;unfold cE.tick;rw[if_neg I];exact c
 .have a:¬(m.c0:Int)>0:=cv a
  unfold cE.tick;rw[if_neg I];exact c
end
structure cZ where
 root:Nat
 aI:Nat
 map:Nat
 clock:Nat
 bw:Nat
 keys:Nat
 deriving DecidableEq
def gm:cZ:=⟨0,0,0,0,0,0⟩
def cZ.c(u:cZ):O aa:=[u.root,u.aI,u.map,.int .u64 (u.clock:Nat),.int .u64 (u.bw:Nat),u.keys]
structure nt(u:cZ):Prop where
 root:u.root<4294967296
 aI:u.aI<256
 map:u.map<4294967296
 clock:u.clock<18446744073709551616
 bw:u.bw<18446744073709551616
 keys:u.keys<4294967296
def g5(u:cZ)(n:Nat):O UInt8:=[]++b7 u.root 4++b7 u.aI 1++b7 u.map 4++b7 n 4++b7 u.clock 8++b7 u.bw 8++b7 u.keys 4
def oK(b:O UInt8):cZ:=⟨di b 0 4,di b 4 1,di b 5 4,di b 13 8,di b 21 8,di b 29 4⟩
def kk(u:cZ)(n:Nat):Prop:=(u.root=0↔u.aI=0)/\u.aI<=12/\u.root<n/\u.map<n/\2<=u.map/\n<=1600
instance I8(u:cZ)(n:Nat):Decidable (kk u n):=by unfold kk;infer_instance
def gV(no:Int)(l:O UInt8):Except Int (cZ×Nat×Nat):=match dQ no l with
 | .error e=>.error e
 | .ok p=>if p.kind≠3\/p.body.length≠33 then .error 4 else if kk (oK p.body) (di p.body 9 4) then .ok (oK p.body,di p.body 9 4,p.gen) else .error 4
theorem CI(u:cZ)(n:Nat):(g5 u n).length=33:=by simp[g5,e4]
theorem HL{u:cZ}{n:Nat}(h:nt u)(c:n<4294967296):oK (g5 u n)=u/\di (g5 u n) 9 4=n:=by
 have e:∀ {k x m:Nat} (a b:O UInt8),g5 u n=a++(b7 x k++b)->a.length=m->x<256^k->di (g5 u n) m k=x:=λa b he d hx=>by rw[he];exact rI d hx
 have f:=h.keys;refine⟨?_,e (b7 u.root 4++b7 u.aI 1++b7 u.map 4) (b7 u.clock 8++(b7 u.bw 8++b7 u.keys 4)) (by simp[g5]) (by simp[e4]) c⟩;unfold oK;rw[e (m:=0) [] (b7 u.aI 1++(b7 u.map 4++(b7 n 4++(b7 u.clock 8++(b7 u.bw 8++b7 u.keys 4))))) (by simp[g5]) rfl h.root,
  e (b7 u.root 4) (b7 u.map 4++(b7 n 4++(b7 u.clock 8++(b7 u.bw 8++b7 u.keys 4)))) (by simp[g5]) (by simp[e4]) h.aI,
  e (b7 u.root 4++b7 u.aI 1) (b7 n 4++(b7 u.clock 8++(b7 u.bw 8++b7 u.keys 4))) (by simp[g5]) (by simp[e4]) h.map,
  e (b7 u.root 4++b7 u.aI 1++b7 u.map 4++b7 n 4) (b7 u.bw 8++b7 u.keys 4) (by simp[g5]) (by simp[e4]) h.clock,
  e (b7 u.root 4++b7 u.aI 1++b7 u.map 4++b7 n 4++b7 u.clock 8) (b7 u.keys 4) (by simp[g5]) (by simp[e4]) h.bw,
  e (b7 u.root 4++b7 u.aI 1++b7 u.map 4++b7 n 4++b7 u.clock 8++b7 u.bw 8) [] (by simp[g5]) (by simp[e4]) f]
def ji(u:cZ)(n gen:Nat):ir:=⟨3,gen,g5 u n⟩
theorem yJ{u:cZ}{n gen:Nat}(hg:gen<18446744073709551616):m9 (ji u n gen):=⟨(by decide:1<=3),(by decide:3<=4),hg,by show(g5 u n).length<=232;rw[CI];decide⟩
theorem CJ{u:cZ}{n gen no:Nat}(h:nt u)(hu:kk u n)(hg:gen<18446744073709551616)(a:no<1600):gV no (eH no (ji u n gen))=.ok (u,n,gen):=by
 unfold gV;rw[vu a (yJ hg)];have b:n<4294967296:=by have:=hu.2.2.2.2.2;omega
 obtain⟨h1,h2⟩:=HL h b;show(if (3:Nat)≠3\/(g5 u n).length≠33 then _ else if kk (oK (g5 u n)) (di (g5 u n) 9 4) then Except.ok (oK (g5 u n),di (g5 u n) 9 4,gen) else _)=_;rw[h1,h2,if_neg (by rw[CI];simp),if_pos hu]
section
variable {w w':J}{h:Nat}{vs:O aa}{u:cZ}
theorem cZ.plain(u:cZ):∀v∈u.c,Plain v:=by
 intro v a;simp only[cZ.c,cU,eL,eO]at a;rcases a with rfl|rfl|rfl|rfl|rfl|rfl<;>trivial
theorem gO(a:Var w h u.c 104){K:Int->Int->Int->Int->Int->Int->Prop}(e:K (u.root:Nat) (u.aI:Nat) (u.map:Nat) (u.clock:Nat) (u.bw:Nat) (u.keys:Nat)):
 ∃bW:Int,w.cell? h=some (.int .i64 bW)/\∃bC:Int,w.cell? (Addr.add h 1)=some (.int .i64 bC)/\∃b:Int,w.cell? (Addr.add h 2)=some (.int .i64 b)/\
  ∃d:Int,w.cell? (Addr.add h 3)=some (.int .u64 d)/\∃n5:Int,w.cell? (Addr.add h 4)=some (.int .u64 n5)/\∃n6:Int,w.cell? (Addr.add h 5)=some (.int .i64 n6)/\K bW bC b d n5 n6:=
 ⟨_,a.cell,_,by rw[aw];exact a.cell,_,by rw[aw];exact a.cell,_,by rw[aw];exact a.cell,_,by rw[aw];exact a.cell,_,by rw[aw];exact a.cell,e⟩
theorem jj(a:Var w h vs 104)(b:vs.length=6)(u:cZ){K:J->Prop}(d:∀ah,Var ah h u.c 104->ad (λq=>q=h) w ah->ah.heap.size=w.heap.size->K ah):
 bx w h [u.root,u.aI,u.map,.int .u64 (u.clock:Nat),.int .u64 (u.bw:Nat),u.keys]/\(6:Nat)=6/\
  al (setCells w h 0 [u.root,u.aI,u.map,.int .u64 (u.clock:Nat),.int .u64 (u.bw:Nat),u.keys]) K:=
 ⟨a.b9 (by rw[b];rfl) u.plain,rfl,cr a (us:=u.c) (by rw[b];rfl) rfl λah e hc f=>d ah e hc f⟩
end
theorem pD{w:J}{u:cZ}(h:nt u){n:Nat}(y:n<4294967296):aR aj 138 #[.agg u.c.toArray,n] w (λv w'=>∃s:Y,v=s/\bd 1 5 w' s (aJ (g5 u n))/\Ext w w'/\gU w s):=by
 have h1:=h.root;have h2:=h.aI;have z:=h.map;have W:=h.clock;have X:=h.bw;have A:=h.keys;have a:∀ {x:Nat},x<4294967296->IntKind.wrap .u64 (x:Int)=(x:Int):=λ{x} hx=>gR I I;refine okF (af.pD (u.root:Nat) (u.aI:Nat) (u.map:Nat) (u.clock:Nat) (u.bw:Nat) (u.keys:Nat) (n:Nat)) aA.pD func138 ?_;(delta af.pD r1 U ba br;dsimp only);refine bh (vs:=u.c) rfl λw1 b B Z=>⟨_,b.cell,?_⟩;rw[a h1];refine(il (s:=⟨none,0,0⟩) (l:=[]) (bd.none 1 5 w1).src (cL _) (n:=u.root) I (by decide)).use ?_;rintro _ ah ⟨s2,rfl,C,d,aa⟩;have e:=b.ext d;refine⟨s2,rfl,_,by rw[aw];exact e.cell,?_⟩;rw[a (x:=u.aI) I];refine(il C.src (by simp[e4]) (n:=u.aI) I (by decide)).use ?_;rintro _ ab ⟨D,rfl,E,f,ac⟩;have g:=e.ext f;refine⟨D,rfl,_,by rw[aw];exact g.cell,?_⟩;rw[a z];refine(il E.src (by simp[e4]) (n:=u.map) I (by decide)).use ?_;rintro _ ad ⟨F,rfl,G,i,ae⟩;have H:=g.ext i;refine⟨F,rfl,?_⟩;rw[a y];refine(il G.src (by simp[e4]) (n:=n) I (by decide)).use ?_;rintro _ ag ⟨K,rfl,L,j,ai⟩;have k:=H.ext j;refine⟨K,rfl,_,by rw[aw];exact k.cell,?_⟩;refine(il L.src (by simp[e4]) (n:=u.clock) I (by decide)).use ?_;rintro _ ak ⟨M,rfl,N,m,al⟩;have o:=k.ext m;refine⟨M,rfl,_,by rw[aw];exact o.cell,?_⟩;refine(il N.src (by simp[e4]) (n:=u.bw) I (by decide)).use ?_;rintro _ am ⟨O,rfl,P,p,an⟩;have Q:=o.ext p;refine⟨O,rfl,_,by rw[aw];exact Q.cell,?_⟩;rw[a A];refine(il P.src (by simp[e4]) (n:=u.keys) I (by decide)).use ?_;rintro _ ao ⟨r,rfl,R,S,T⟩;have t:=Ext.trans (Ext.trans (Ext.trans (Ext.trans (Ext.trans (Ext.trans B d) f) i) j) m) p;refine⟨r,rfl,r,rfl,R,Ext.trans t S,λq V=>?_⟩;have:=T q V;have:=t.size;omega
theorem HM{w:J}{b:Y}{l:O UInt8}{aV a k:Nat}(f:Var w aV [b,a] 316)(hs:Src 1 w b (aJ l))(hc:b.len<=b.cap)(g:1<=k/\k<=8)(j:a+k<=l.length)(m:l.length<=1000):
 aR aj 226 #[.pointer (some aV),k] w (λv w'=>v=.int .u64 (di l a k:Nat)/\Var w' aV [b,.int .i64 ((a+k:Nat):Int)] 316/\ad (λq=>q=aV) w w'):=by
 refine af.EM _ (k:Nat) w _ ?_;(delta af.rD ag r1 k1 st av;dsimp only);have d:=cf w;have c:=f.ext d;refine aW ⟨λ_=>False,_,rfl,id,b,c.cell,_,rfl,id,_,by rw[aw];exact c.cell,(k2 (hs.ext d) hc g j I).use ?_⟩;rintro _ _ ⟨rfl,rfl⟩;obtain⟨bG,bI⟩:=dI c (i:=1) (by simp);refine⟨_,true,rfl,_,rfl,_,by rw[aw];exact c.cell,_,rfl,by rw[aw];exact bG,by rw[aw];exact bI,aW ⟨rfl,?_,?_⟩⟩
 .rw[aw]
  have h1:=dN c (i:=1) (.int .i64 (IntKind.wrap .i64 ((a:Nat)+(k:Nat))));have e:IntKind.wrap .i64 ((a:Int)+(k:Int))=((a+k:Nat):Int):=by rw[bA I I];omega
  rw[e]at h1⊢;exact h1
 .rw[aw]
  exact cu (d.mono λ_ _ h=>h.elim) (dk _ _ _ _) λq _ e=>e
def CK:Except Int (cZ×Nat×Nat)->aa
 | .ok (u,n,g)=>.tuple #[.agg u.c.toArray,n,.int .u64 (g:Nat),(0:Int)]
 | .error e=>.tuple #[.agg gm.c.toArray,(0:Int),.int .u64 0,e]
theorem yK{no:Int}{l:O UInt8}{e:Int}(h:dQ no l=.error e):e≠0:=by
 unfold dQ at h
 repeat' split at h
 all_goals first|(cases h;decide)|cases h
theorem pI{s:Y}{l:O UInt8}{w:J}(hs:Src 1 w s (aJ l))(hc:s.len<=s.cap)(aP:l.length<=1000)(no:Int):
 aR aj 171 #[.int .i64 no,.slice s.a s.len s.cap] w (λv w'=>v=CK (gV no l)/\Ext w w'):=by
 refine okF (af.pI no s) aA.pI func171 ?_;(delta af.pI ft lG z3 U ak r1 br ag xc gy st av;dsimp only);refine bh (vs:=gm.c) rfl λw1 ai H bE=>(mZ (hs.ext H) hc aP no).use ?_;rintro _ ah ⟨r,W⟩;obtain⟨d,aQ⟩:∃d,d=w.heap.size:=⟨_,rfl⟩;rw[←aQ]at ai⊢;have L:=ai.ext W
 cases B:dQ no l with
 |error e=>
  rw[B]at r;have X:=yK B;have hd:gV no l=.error e:=by unfold gV;rw[B]
  rw[hd];obtain rfl:_=_:=r;refine⟨0,0,⟨none,0,0⟩,e,rfl,bh (vs:=[.int .i64 0,.int .u64 0,.slice none 0 0]) rfl λaS M am aT=>⟨M.b9 rfl (λv N=>?_),rfl,cr M (us:=[.int .i64 0,.int .u64 0,.slice none 0 0]) rfl rfl λC t an aU=>⟨λ_=>?_,λh=>?_⟩⟩⟩
  .simp only[cU,eL,eO]at N
   rcases N with rfl|rfl|rfl<;>trivial
  .have y:Ext ah C:=Ext.cn am an (bl _)
   have m:=L.ext y;refine gO (u:=gm) m (jj m rfl gm λD ao aX bF=>gO (u:=gm) ao ⟨rfl,?_⟩);exact Ext.cn (Ext.trans (Ext.trans H W) y) aX I
  .simp at h;exact absurd h X
 |ok p=>
  rw[B]at r;obtain⟨sb,rfl,Z,aY⟩:=r;refine⟨_,_,sb,0,rfl,bh (vs:=[.int .i64 0,.int .u64 0,.slice none 0 0]) rfl λaS M am aT=>⟨M.b9 rfl (λv N=>?_),rfl,cr M (us:=[.int .i64 (p.kind:Nat),.int .u64 (p.gen:Nat),.slice sb.a sb.len sb.cap]) rfl rfl λC t an aU=>⟨λh=>(by simp at h),λ_=>⟨_,t.cell,?_⟩⟩⟩⟩
  .simp only[cU,eL,eO]at N
   rcases N with rfl|rfl|rfl<;>trivial
  have y:Ext ah C:=Ext.cn am an (bl _);have ap:=Ext.trans (Ext.trans H W) y;obtain⟨P,aZ⟩:∃P,P=ah.heap.size:=⟨_,rfl⟩;rw[←aZ]at t⊢;have m:=L.ext y;have a0:sb.len=p.body.length:=by have:=Z.1;rw[ey]at this;omega
  have bH:=(Ext.trans H W).size;have a1:p.kind≠3\/p.body.length≠33->gV no l=.error 4:=λh=>by
   unfold gV;rw[B];exact if_pos h
  refine cq (λb w'=>b=decide (p.kind≠3\/p.body.length≠33)/\C=w') (λq f=>⟨λh=>f _ _ ⟨?_,rfl⟩,λh=>⟨sb,by rw[aw];exact t.cell,f _ _ ⟨?_,rfl⟩⟩⟩) ?_
  .have:p.kind≠3:=λe=>by rw[e]at h;simp at h
   rw[dP (.inl this)]
  .have a2:p.kind=3:=by
    have:((p.kind:Nat):Int)=3:=by simpa using h
    omega
   rw[a0,fY,cS];constructor
   .intro Q
    refine .inr λe=>?_;rw[e]at Q;simp at Q
   .rintro(Q|Q)
    .exact absurd a2 Q
    .rw[bne_iff_ne];omega
  rintro _ _ ⟨rfl,rfl⟩;have aF:∀ {D:J}{vs:O aa},Var D d vs 104->vs.length=6->Ext w D->(gV no l=.error 4)->bx D ⟨d,0,none⟩ [.int .i64 0,.int .i64 0,.int .i64 0,.int .u64 0,.int .u64 0,.int .i64 0]/\(6:Nat)=6/\al (setCells D ⟨d,0,none⟩ 0 [.int .i64 0,.int .i64 0,.int .i64 0,.int .u64 0,.int .u64 0,.int .i64 0]) λo=>
   ∃bW:Int,o.cell? ⟨d,0,none⟩=some (.int .i64 bW)/\∃bC:Int,o.cell? (Addr.add ⟨d,0,none⟩ 1)=some (.int .i64 bC)/\∃aG:Int,o.cell? (Addr.add ⟨d,0,none⟩ 2)=some (.int .i64 aG)/\
   ∃aH:Int,o.cell? (Addr.add ⟨d,0,none⟩ 3)=some (.int .u64 aH)/\∃n5:Int,o.cell? (Addr.add ⟨d,0,none⟩ 4)=some (.int .u64 n5)/\∃n6:Int,o.cell? (Addr.add ⟨d,0,none⟩ 5)=some (.int .i64 n6)/\
   (Value.tuple #[.agg #[.int .i64 bW,.int .i64 bC,.int .i64 aG,.int .u64 aH,.int .u64 n5,.int .i64 n6],.int .i64 0,.int .u64 0,.int .i64 4]=CK (gV no l)/\Ext w o):=by
   intro D vs ao a3 a4 hd;rw[hd];exact jj ao a3 gm λo a5 a6 bJ=>gO (u:=gm) a5 ⟨rfl,Ext.cn a4 a6 I⟩
  refine⟨λh=>?_,λh=>?_⟩
  .exact gO (u:=gm) m (aF m rfl ap (a1 (b8 h)))
  have aq:=cv h;have bK:p.kind=3:=oV λh=>aq (.inl h);have bL:p.body.length=33:=oV λh=>aq (.inr h);have a7:=(Z.ext y).src;have a8:sb.len<=sb.cap:=Z.2.1;have aK:∀q,aB sb q->q<C.heap.size:=(Z.ext y).lt;refine⟨sb,by rw[aw];exact t.cell,bh (vs:=[.slice sb.a sb.len sb.cap,.int .i64 ((0:Nat):Int)]) rfl λa9 aL ac bM=>?_⟩;obtain⟨aV,a_⟩:∃aV,aV=C.heap.size:=⟨_,rfl⟩;rw[←a_]at aL aK⊢;have X:aV≠d:=by have:=m.lt;omega
  have ba:aV≠P:=by have:=t.lt;omega
  have bb:=a7.ext ac;have bc:=m.ext ac;have bd:=t.ext ac;have be:=Ext.trans ap ac;have bf:w.heap.size<=aV:=by have:=ap.size;omega
  obtain⟨bZ,E⟩:∃bZ:J->O aa->Nat->Prop,bZ=λw' vs a=>Var w' aV [.slice sb.a sb.len sb.cap,.int .i64 ((a:Nat):Int)] 316/\Src 1 w' sb (aJ p.body)/\Var w' d vs 104/\Var w' P [.int .i64 (p.kind:Nat),.int .u64 (p.gen:Nat),.slice sb.a sb.len sb.cap] 150/\Ext w w':=⟨_,rfl⟩;have bg:∀q,aB sb q->q≠d:=λq f e=>by
   have:=aY q f;have:=L.lt;have:=H.size;have:=ai.lt;omega
  have z:∀ {w':J}{vs:O aa}{a k:Nat}{R:Ending->J->Prop},bZ w' vs a->1<=k/\k<=8->a+k<=33->(∀g,bZ g vs (a+k)->R (.returned (.int .u64 (di p.body a k:Nat))) g)->Calls aj 226 #[.pointer (some ⟨aV,0,none⟩),.int .i64 (k:Nat)] w' R:=by
   intro w' vs a k R A ar bN bi;rw[E]at A;obtain⟨bG,bI,S,ax,az⟩:=A;refine(HM bG bI a8 ar I I).use ?_;rintro _ g ⟨rfl,au,ay⟩;refine bi g ?_;rw[E];exact⟨au,bI.ab ay λq f e=>by have:=aK q f;omega,S.ab ay (λe=>X e.symm),ax.ab ay (λe=>ba e.symm),Ext.cn az ay bf⟩
  have j4:∀ {w':J}{vs:O aa}{a:Nat} (j:Nat) (v:aa) {K:J->Prop},bZ w' vs a->j<vs.length->(∀g,bZ g (vs.set j v) a->K g)->(∃u:aa,w'.cell? ⟨d,j,none⟩=some u)/\w'.frozen? ⟨d,j,none⟩=false/\al (w'.setCell ⟨d,j,none⟩ v) K:=by
   intro w' vs a j v K A ad aC;rw[E]at A;obtain⟨bG,bI,S,ax,az⟩:=A;have hc:=dk w' d j v;refine⟨(dI S ad).1,(dI S ad).2,aW (aC _ ?_)⟩;rw[E];exact⟨bG.ab hc X,bI.ab hc bg,dN S v,ax.ab hc (λe=>by have:=m.lt;have:=L.lt;omega),Ext.cn az hc I⟩
  have T:∀ {w':J}{vs:O aa}{a:Nat} (j:Nat) (v:aa) {K:J->Prop},bZ w' vs a->j<vs.length->(∀g,bZ g (vs.set j v) a->K g)->(∃u:aa,w'.cell? (Addr.add ⟨d,0,none⟩ j)=some u)/\w'.frozen? (Addr.add ⟨d,0,none⟩ j)=false/\al (w'.setCell (Addr.add ⟨d,0,none⟩ j) v) K:=by
   intro w' vs a j v K A ad aC;rw[aw,cy];exact j4 j v A ad aC
  have bj:bZ a9 gm.c 0:=by rw[E];exact⟨aL,bb,bc,bd,be⟩
  have ae:∀a,a+4<=33->di p.body a 4<4294967296:=λa bk=>m6 4 _ (by rw[cG,da];omega);have bm:di p.body 4 1<256:=m6 1 _ (by rw[cG,da];omega);have bP:∀a,a+8<=33->di p.body a 8<18446744073709551616:=λa bk=>m6 8 _ (by rw[cG,da];omega);have V:∀ {x:Nat},x<4294967296->IntKind.wrap .i64 ((x:Nat):Int)=((x:Nat):Int):=λhx=>bA I I;refine z (k:=4) bj (by decide) (by decide) λbQ t43=>⟨_,rfl,z (k:=1) t43 (by decide) (by decide) λbR t46=>⟨_,rfl,z (k:=4) t46 (by decide) (by decide) λbS t49=>⟨_,rfl,?_⟩⟩⟩;rw[V (ae 0 (by decide)),V (x:=di p.body (0+4) 1) (by have:=bm;show di p.body 4 1<_;omega),V (ae (0+4+1) (by decide))];refine j4 0 _ t49 (by simp[gm,cZ.c]) λbT t52=>T 1 _ t52 (by simp[gm,cZ.c]) λbU t53=>T 2 _ t53 (by simp[gm,cZ.c]) λbV t54=>?_;refine(z (k:=4) t54 (by decide) (by decide) λbX t55=>⟨_,rfl,z (k:=8) t55 (by decide) (by decide) λbY t58=>⟨_,rfl,z (k:=8) t58 (by decide) (by decide) λb0 t61=>⟨_,rfl,z (k:=4) t61 (by decide) (by decide) λb1 t64=>⟨_,rfl,?_⟩⟩⟩⟩);rw[V (ae (0+4+1+4) (by decide)),V (ae (0+4+1+4+4+8+8) (by decide))];refine T 3 _ t64 (by simp[gm,cZ.c]) λb2 t67=>T 4 _ t67 (by simp[gm,cZ.c]) λb3 t68=>T 5 _ t68 (by simp[gm,cZ.c]) λF t69=>?_;obtain⟨u,hu⟩:∃u,u=oK p.body:=⟨_,rfl⟩;obtain⟨n,aM⟩:∃n,n=di p.body 9 4:=⟨_,rfl⟩;rw[E]at t69;obtain⟨_,_,i,bn,aN⟩:=t69;have i:Var F d u.c 104:=by rw[hu];exact i
  have r:gV no l=if kk u n then .ok (u,n,p.gen) else .error 4:=by
   unfold gV;rw[B,hu,aM];exact if_neg aq
  rw[show di p.body (0+4+1+4) 4=n from aM.symm];refine⟨(u.root:Nat),i.cell,(u.aI:Nat),by rw[aw];exact i.cell,cq (λb w'=>b=(!((((u.root:Nat):Int)==0)==(((u.aI:Nat):Int)==0))||decide (((u.aI:Nat):Int)>12))/\F=w') (λq f=>⟨λh=>f _ _ ⟨by rw[h,Bool.true_or],rfl⟩,λh=>⟨_,by rw[aw];exact i.cell,f _ _ ⟨by rw[h,km],rfl⟩⟩⟩) ?_⟩;rintro b_ _ ⟨bo,rfl⟩;refine cq (λb w'=>b=(b_||decide (((u.root:Nat):Int)>=(n:Nat)))/\F=w') (λq f=>⟨λh=>f _ _ ⟨by rw[h,Bool.true_or],rfl⟩,λh=>⟨_,i.cell,f _ _ ⟨by rw[h,km],rfl⟩⟩⟩) ?_;rintro bO _ ⟨bp,rfl⟩;refine cq (λb w'=>b=(bO||decide (((u.map:Nat):Int)>=(n:Nat)))/\F=w') (λq f=>⟨λh=>f _ _ ⟨by rw[h,Bool.true_or],rfl⟩,λh=>⟨_,by rw[aw];exact i.cell,f _ _ ⟨by rw[h,km],rfl⟩⟩⟩) ?_;rintro bq _ ⟨bs,rfl⟩;refine cq (λb w'=>b=(bq||decide (((u.map:Nat):Int)<2))/\F=w') (λq f=>⟨λh=>f _ _ ⟨by rw[h,Bool.true_or],rfl⟩,λh=>⟨_,by rw[aw];exact i.cell,f _ _ ⟨by rw[h,km],rfl⟩⟩⟩) ?_;rintro bt _ ⟨bu,rfl⟩;have bv:(bt||decide (((n:Nat):Int)>1600))= !decide (kk u n):=by
   have bw:(((u.root:Nat):Int)==0)=decide (u.root=0):=by rw[fY];simp
   have bz:(((u.aI:Nat):Int)==0)=decide (u.aI=0):=by rw[fY];simp
   rw[bu,bs,bp,bo,bw,bz,fY];unfold kk;by_cases h1:u.root=0<;>by_cases h2:u.aI=0<;>simp[h1,h2]<;>omega
  rw[bv];refine⟨λh=>?_,λh=>?_⟩
  .have bB:¬kk u n:=λhg=>by rw[dP hg]at h;cases h
   exact aF i rfl aN (by rw[r,if_neg bB])
  .have hg:kk u n:=oV λhg=>by rw[jq hg]at h;cases h
   rw[r,if_pos hg];have aD:=cf F;have aE:=i.ext aD;have bD:=bn.ext aD;have b4:d≠P:=by have:=m.lt;have:=L.lt;omega
   refine aW ⟨λ_=>False,id,gO aE ⟨id,_,by rw[aw];exact bD.cell,jj aE rfl u λb5 aO G b6=>⟨?_,gO aO ⟨rfl,Ext.cn (Ext.trans aN aD) G I⟩⟩⟩⟩;refine⟨G.os,G.tape,G.output,G.size,λk ar _=>?_⟩;by_cases e:k=d
   .rw[e];exact aO.trans aE.symm
   .exact G.block k ar e
section
variable {α:Type}{P:Program}{w w':J}{hO fD T:TypeId}{enc:α->aa}{r m:Nat}{L:O (α×aa×Nat)}{seen:O Nat}
structure kL(w:J)(r m:Nat)(enc:α->aa)(L:O (α×aa×Nat))(seen:O Nat):Prop where
 it:∃a:Nat,w.heap[r]? =some (.mapIter (some m) a seen.toArray a)/\w.heap[m]? =some (.map (L.map (dW enc)).toArray a)/\∀x∈L,x.2.2<a
 bj:(L.map (·.2.2)).Nodup
def gv(L:O (α×aa×Nat))(seen:O Nat):O (α×aa×Nat):=L.filter λx=> !seen.contains x.2.2
theorem CL(P:Program){n:Nat}(b:1<=n)(w:J):∃ (i:Nat) (w':J),i<n/\(choose (.mapNext n)).run P w=.ok i w'/\(w'=w\/w'=w.drew):=by
 by_cases h:n<=1
 .refine⟨0,w,I,?_,.inl rfl⟩
  show Sem.run P (.choose (.mapNext n) .pure) w=_;have a:(Question.mapNext n).forced=true:=by simp[Question.forced,h]
  simp only[Sem.run,a,if_true]
 .refine⟨(Question.mapNext n).cut (w.tape w.drawn (.mapNext n)),w.drew,g7 _ I,?_,.inr rfl⟩
  show Sem.run P (.choose (.mapNext n) .pure) w=_;have a:(Question.mapNext n).forced=false:=by simp[Question.forced,h]
  simp only[Sem.run,a,fS,if_false];rfl
theorem yL{a:aq Nat}{b d:Nat}{c:Array Nat}(h:w.heap[r]? =some (.mapIter a b c d)):(getObj r).run P w=.ok (.mapIter a b c d) w:=by simp[getObj,Sem.run,h]
theorem HN{a:aq Nat}{b d:Nat}{c:Array Nat}(h:w.heap[r]? =some (.mapIter a b c d))(e:Obj):(setObj r e).run P w=.ok () (iF w r e):=by simp[setObj,Sem.run,h,iF]
theorem kL.begin{M:O (α×aa)}(h:eD w m enc M){T:TypeId}{hO fD:TypeId}(b:P.underlying T=some (.map hO fD)):∃ (L:O (α×aa×Nat)) (w1:J),(L.map lE).Perm M/\(Instr.range T (.map (some m))).run P w=.ok (.pointer (some w.heap.size)) w1/\kL w1 w.heap.size m enc L []/\Ext w w1/\w1.heap.size=w.heap.size+1:=by
 have aK:=h.lt;obtain⟨L,a,h1,h2,e,c,d⟩:=h;refine⟨L,w.alloc (.mapIter (some m) a #[] a),h2,?_,⟨⟨a,?_,?_,d⟩,c⟩,ad.alloc (.refl _ _) _,by simp⟩
 .simp only[Instr.range,Sem.run_bind,dr b,Result.andThen,l5 h1,Sem.run_pure,newObj,Sem.run]
  rfl
 .show(w.heap.push _)[w.heap.size]? =_
  simp
 .show(w.heap.push _)[m]? =_
  rw[Array.getElem?_push_lt aK];exact(Array.getElem?_eq_getElem aK).symm.trans h1
theorem kL.next(h:kL w r m enc L seen)(E:r≠m)(T:TypeId):
 (gv L seen=[]/\∃w1,(Instr.next (.pointer (some r)) false T).run P w=.ok (.tuple #[false]) w1/\Ext w w1/\w1.heap=w.heap)\/
 (∃x∈gv L seen,∃w1,(Instr.next (.pointer (some r)) false T).run P w=.ok (.tuple #[true,enc x.1,x.2.1]) w1/\kL w1 r m enc L (seen++ [x.2.2])/\ad (λq=>q=r) w w1/\w1.heap.size=w.heap.size/\(Instr.entry (.pointer (some r))).run P w1=.ok (.tuple #[enc x.1,x.2.1]) w1):=by
 obtain⟨⟨a,h1,h2,d⟩,j⟩:=h;have k:(!seen.toArray.isEmpty&& !((L.map (dW enc)).toArray).isEmpty&&((L.map (dW enc)).toArray).all λe=>decide (e.born>=a))=false:=by
  cases L with
  |nil=>simp
  |cons x L=>
   have:¬a<=x.2.2:=by have:=d x (by simp);omega
   simp[dW,this]
 have f:((L.map (dW enc)).toArray.filter λe=> !seen.toArray.contains e.born)=((gv L seen).map (dW enc)).toArray:=by
  rw[List.filter_toArray,List.filter_map]
  congr 1
  unfold gv
  congr 1
  apply List.filter_congr;intro x _;simp only[Function.comp,dW,List.contains_toArray]
 have aK:∀x∈gv L seen,x.2.2<a:=λx hx=>d x (hK.1 hx).1;have hold:(((gv L seen).map (dW enc)).toArray.filter λe=>decide (e.born<a))=((gv L seen).map (dW enc)).toArray:=by
  rw[List.filter_toArray,jZ.2];intro e he;obtain⟨x,hx,rfl⟩:=eC.1 he;exact dP (aK x hx)
 have g:(((gv L seen).map (dW enc)).toArray.filter λe=>decide (e.born>=a))= #[]:=by
  rw[List.filter_toArray,lV.2];intro e he;obtain⟨x,hx,rfl⟩:=eC.1 he;have:=aK x hx;have F:¬a<=x.2.2:=by omega
  simp[dW,F]
 cases b:gv L seen with
 |nil=>
  rw[b]at f hold g;obtain⟨i,w1,hi,hc,c⟩:=CL P (n:=1) (bl _) w;have G:i=0:=by omega
  subst G;refine .inl ⟨rfl,w1,?_,?_,?_⟩
  .simp only[Instr.next,Sem.run_bind,yL h1,Result.andThen,l5 h2,k,fS,if_false,f,hold,g]
   simp only[List.map_nil,Array.isEmpty,sy,jJ,decide_true,if_true];have e:(#[none]++((#[]:Array MapEntry)++ #[]).map some:Array (aq MapEntry)).size=1:=by simp
   have o:((#[none]++((#[]:Array MapEntry)++ #[]).map some:Array (aq MapEntry)))[0]? =some none:=by simp
   simp only[e,Sem.run_bind,hc,Result.andThen,o,Sem.run_pure,Sem.run_pure]
  .rcases c with rfl|rfl
   .exact .refl _ _
   .exact ad.drew (.refl _ _)
  .rcases c with rfl|rfl<;>rfl
 |cons y l=>
  right;rw[←b];have v:1<=(gv L seen).length:=by rw[b];simp
  obtain⟨i,w1,hi,hc,c⟩:=CL P (n:=(gv L seen).length) v w;have p:w1.heap=w.heap:=by rcases c with rfl|rfl<;>rfl
  obtain⟨x,hx⟩:∃x,x=(gv L seen)[i]:=⟨_,rfl⟩;have s:x∈gv L seen:=by rw[hx];exact cF _
  have A:x∈L:=(hK.1 s).1;have B:w1.heap[r]? =some (.mapIter (some m) a seen.toArray a):=by rw[p];exact h1
  have H:r<w1.heap.size:=(lU.1 B).1;have t:(iF w1 r (.mapIter (some m) a (seen.toArray.push x.2.2) a)).heap[r]? =some (.mapIter (some m) a (seen++ [x.2.2]).toArray a):=by
   rw[s8 H];simp
  have u:(iF w1 r (.mapIter (some m) a (seen.toArray.push x.2.2) a)).heap[m]? =some (.map (L.map (dW enc)).toArray a):=by
   have C:w1.heap[m]? =some (.map (L.map (dW enc)).toArray a):=by rw[p];exact h2
   rw[(q5 w1 r _).block m (lU.1 C).1 (λe=>E e.symm)];exact C
  refine⟨x,s,iF w1 r (.mapIter (some m) a (seen.toArray.push x.2.2) a),?_,⟨⟨a,t,u,d⟩,j⟩,?_,?_,?_⟩
  .simp only[Instr.next,Sem.run_bind,yL h1,Result.andThen,l5 h2,k,fS,if_false,f,hold,g]
   have I:((gv L seen).map (dW enc)).toArray.isEmpty=false:=by rw[b];rfl
   have e:((#[]:Array (aq MapEntry))++(((gv L seen).map (dW enc)).toArray++ #[]).map some).size=(gv L seen).length:=by simp
   have o:((#[]:Array (aq MapEntry))++(((gv L seen).map (dW enc)).toArray++ #[]).map some)[i]? =some (some (dW enc x)):=by
    simp[hi,hx]
   simp only[I,fS,if_false,e,Sem.run_bind,hc,Result.andThen,o,HN B,Sem.run_pure,dW]
  .have J:ad (λq=>q=r) w w1:=by
    rcases c with rfl|rfl
    .exact .refl _ _
    .exact ad.drew (.refl _ _)
   exact J.trans (q5 _ _ _)
  .rw[s7,p]
  .have K:(seen++ [x.2.2]).toArray.back? =some x.2.2:=by simp
   have hf:((L.map (dW enc)).toArray.find? λe=>e.born==x.2.2)=some (dW enc x):=by
    rw[List.find?_toArray,List.find?_map];have:L.find? ((λe:MapEntry=>e.born==x.2.2)∘dW enc)=some x:=by
     clear b v hi hc s hx t u f hold g aK k h2 d
     induction L with
     |nil=>cases A
     |cons z L M=>
      rw[jm]at j;obtain⟨bW,bC⟩:=List.nodup_cons.1 j;rw[List.find?_cons];rcases cU.1 A with rfl|D
      .simp[dW]
      .have N:z.2.2≠x.2.2:=λe=>bW (by rw[e];exact eC.2 ⟨x,D,rfl⟩)
       have:((λe:MapEntry=>e.born==x.2.2)∘dW enc) z=false:=by simp[dW,N]
       rw[this];exact M bC D
    rw[this];rfl
   have O:(a !=a)=false:=by simp
   simp only[Instr.entry,Sem.run_bind,yL t,Result.andThen,K,l5 u,O,fS,if_false,hf,Sem.run_pure,dW]
theorem eD.clear{M:O (α×aa)}(h:eD w m enc M){o:TypeId}(b:P.underlying T=some (.map hO fD)):∃w1,(Builtin.clear_ #[T] o #[.map (some m)]).run P w=.ok (.tuple #[]) w1/\eD w1 m enc ([]:O (α×aa))/\ad (λq=>q=m) w w1/\w1.heap.size=w.heap.size:=by
 have aK:=h.lt;obtain⟨L,a,h1,h2,c,d,e⟩:=h;refine⟨iF w m (.map #[] a),?_,⟨[],a,s8 aK _,by simp,by simp,by simp,by simp⟩,q5 _ _ _,s7 _ _ _⟩;unfold Builtin.clear_;simp only[qy,ln,Sem.run_bind,dr b,Result.andThen,l5 h1,w4 h1,Sem.run_pure]
end
end Go.Proofs.YtkdhdlfonmgheaaGreat
