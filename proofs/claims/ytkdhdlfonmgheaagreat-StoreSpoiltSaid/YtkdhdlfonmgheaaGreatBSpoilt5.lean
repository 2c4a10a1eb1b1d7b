/- Contracts of the functions that the statement reaches, and the plain laws over them; each theorem stands with its conditions. -/
import Derived.Shelf.SlIterI.Nil
import Derived.Shelf.SortM.Plain
import Derived.Shelf.SortM.SortNone
import Derived.Test.YtkdhdlfonmgheaaGreatProg
import Derived.Test.YtkdhdlfonmgheaaGreatBSpoilt4
namespace Go.Proofs.YtkdhdlfonmgheaaGreat
open Go a_ Go.Proofs.Tryz
theorem Ck{l:O aJ}{k:Key}(h:(en l k).length=l.length):∀p∈l,p.1≠k:=by
 intro p a;unfold en at h;have:=(jW (p:=λp:aJ=>decide (p.1≠k))).1 (List.Sublist.eq_of_length List.filter_sublist h);exact b2 (this p a)
theorem Cl{L A B M:O aJ}{k:Key}(b:L=A++(M++B))(hu:en L k=A++(en M k++B)):ei L k=ei M k:=by
 have h1:(en A k).length<=A.length:=l2 _ _;have g:(en B k).length<=B.length:=l2 _ _;have c:=congrArg List.length hu;rw[b,p5,p5]at c;simp only[cx]at c;have ar:=Ck (l:=A) (k:=k) I;have d:=Ck (l:=B) (k:=k) I;have e:A.find? (λp=>decide (p.1=k))=none:=ig.2 λp a=>by simpa using ar p a
 have f:B.find? (λp=>decide (p.1=k))=none:=ig.2 λp a=>by simpa using d p a
 unfold ei;rw[b,List.find?_append,List.find?_append,e,f];simp
theorem Cm{n:aB}{k:Key}(h:gP n):ei n.dJ k=if g9 n.keys k then n.vals[cN n.keys k]? else none:=by
 have s:=p8 n.keys k;have w:=h.e_;have t:∀ (j:Nat) (f:j<n.keys.length),j<cN n.keys k->bH n.keys[j] k:=λj f h1=>oz h1 f;have u:n.keys[cN n.keys k]? ≠some k->∀ (j:Nat) (f:j<n.keys.length),cN n.keys k<=j->bH k n.keys[j]:=λhe j f h1=>Ch w h1 f he;have l:n.dJ=n.keys.zip n.vals:=rfl;unfold g9;rw[l];generalize cN n.keys k=i at s t u⊢;obtain⟨a,b,c,d,g,v,z,A,B,H,J,K,L⟩:=yF h s;have C:n.keys.zip n.vals=a.zip c++b.zip d:=by rw[g,v];exact oy I
 have D:(a.zip c).find? (λp:aJ=>decide (p.1=k))=none:=ig.2 λp l=>by
  have q:=(qO l).1;obtain⟨j,f,r⟩:=eY q;have h1:=t j (by rw[g,cx];omega) I;simp only[g,l0 f,r]at h1;simpa using kB h1
 unfold ei;rw[C,List.find?_append,D];by_cases he:n.keys[i]? =some k
 .rw[if_pos (by simpa using he)]
  have E:∃m,b=k::m:=by
   cases b with
   |nil=>rw[g,ko I]at he;simp at he
   |cons y m=>
    rw[g,ko I,z,lW]at he;simp at he;exact⟨m,by rw[he]⟩
  obtain⟨m,rfl⟩:=E;obtain⟨x,o,rfl⟩:∃x o,d=x::o:=by
   cases d with
   |nil=>simp at B
   |cons x o=>exact⟨x,o,rfl⟩
  rw[v,ko I,A,lW];simp
 .rw[if_neg (by simpa using he)]
  have F:=u he;have G:(b.zip d).find? (λp:aJ=>decide (p.1=k))=none:=ig.2 λp l=>by
   have q:=(qO l).1;obtain⟨j,f,r⟩:=eY q;have h1:=F (i+j) (by rw[g,cx];omega) I;have e:(a++b)[i+j]'(by rw[cx];omega)=b[j]:=by
    rw[nH I];congr 1;omega
   simp only[g,e,r]at h1;have:=kB h1;simpa using λh=>this h.symm
  rw[G];rfl
def yH(T:aM)(L:O aJ)(key:Key)(w:J)(v:aa)(w':J):Prop:=
 ∃aE:b1,bM w' (T.bk aE T.P)/\bO T (T.bk aE T.P) w w' 30/\(∀j,aE.view j=T.C.view j)/\
  ((v=.tuple #[(),false,(0:Int)]/\(cB key->ei L key=none))\/
   (∃ (t:U) (x:Key),v=.tuple #[t,true,(0:Int)]/\cB key/\ei L key=some x/\a7 (λq=>¬(T.bk aE T.P).M q) w' t x)\/
   (v=.tuple #[(),false,(3:Int)]/\cB key/\¬T.C.D.calm 30))
theorem yI{w:J}{T:aM}{pages:O Nat}{L:O aJ}{tk:U}{key:Key}(h:bM w T)(W:gj T pages L)(aT:T.C.D.aN<=800000000)(l:Src 1 w tk (aF key))(v:∀q,az tk q->q<w.heap.size/\¬T.M q):
 aP ai 80 #[.pointer (some T.aY),tk] w (yH T L key w):=by
 have X:=len8 l;have aU:=h.num.2.1;have aV:T.bk T.C T.P=T:=rfl;refine okF (af.uj (some T.aY) tk) ay.uj func80 ?_;(delta af.uj ak aK b8 av bc ag cp Y gX aI;dsimp only);refine cm (λb w'=>b= !(decide (cB key))/\w=w') (λq m=>⟨λh=>(by cases h),λ_=>(m5 w tk).use ?_⟩) ?_
 .rintro _ _ ⟨rfl,rfl⟩
  refine⟨_,rfl,m _ _ ⟨?_,rfl⟩⟩;unfold cB;rw[X]
 rintro _ _ ⟨rfl,rfl⟩;refine⟨λf=>⟨λh=>(by cases h),λ_=>?_⟩,λf=>?_⟩
 .have:¬cB key:=by simpa using f
  exact⟨T.C,h,(bO.refl T w).mono I,λ_=>rfl,.inl ⟨rfl,λhx=>absurd hx this⟩⟩
 have hg:cB key:=by simpa using f
 obtain⟨steps,x,y⟩:=yG (k:=key) h W;refine(yr h I l v x).use ?_;rintro _ Z ⟨aE,n,g,j,aa⟩;rcases aa with ⟨s,a,rfl,d,z⟩|⟨rfl,ab⟩
 rotate_left
 .exact⟨⟨none,0,0⟩,3,rfl,λ_=>⟨aE,n,g.mono I,j,.inr (.inr ⟨rfl,hg,λhc=>ab (ga hc I)⟩)⟩,λhx=>(by simp at hx)⟩
 have aX:s.len=a.length:=by
  have:=z.own.1;rw[gn _ (nu a)]at this;omega
 have aZ:a.length=T.aG:=by
  have:=x.length;rw[←d,dL]at this;exact this
 refine⟨s,0,rfl,λhx=>⟨aE,n,g.mono I,j,.inl ⟨rfl,λ_=>?_⟩⟩,λhx=>?_⟩
 .have ac:a.length=0:=by
   have:(s.len:Int)=0:=by simpa using hx
   omega
  rcases y with ⟨_,_,_,ae⟩|⟨ah,bp,fa,dK,aj,al,am,an,bX,_⟩
  .rw[ae];rfl
  .rw[bX]at d
   obtain⟨au,_⟩:=qt d;omega
 have ac:0<a.length:=by
  have:¬(s.len:Int)=0:=by simpa using hx
  omega
 have e:IntKind.wrap .i64 ((s.len:Int)-1)=((a.length-1:Nat):Int):=by rw[bu I I];omega
 obtain⟨A,ar,_,_,_,hu⟩:=z.at (i:=a.length-1) I;rcases y with ⟨h1,_⟩|⟨ah,bp,fa,dK,aj,al,am,an,bX,ag,bw,bc,a0,a1,a2,a3,a4,ao,ap⟩
 .rw[h1]at d
  have:=congrArg List.length d;simp at this;omega
 have B:=d;rw[bX]at B;obtain⟨au,E⟩:=qt B;rw[e,c8];generalize a5:(a[a.length-1]'I)=u at hu E;obtain⟨a6,un,a8,K,V,D⟩:=u;obtain rfl:un=bp:=E;refine⟨A,ar,⟨I,I⟩,_,hu.aA,K,hu.aR,V,hu.aK,D,hu.de,bh (vs:=[false,(),(),()]) rfl λa9 F aq a_=>⟨F.cc rfl fC,rfl,cy F (us:=dQ un K V D) rfl rfl λo G aw ba=>?_⟩⟩;have p:Ext Z o:=Ext.cu aq aw (bo _);obtain⟨d0,d1,d2,d3⟩:=bC G;have bb:=(cF.eQ (.inl bc) (by have:=h.nw _ _ bw;omega));have ax:Src 1 o tk (aF key):=(l.ad g.ad λq m aB=>(v q m).2 (aM.gh aB)).ext p;have H:bz (λq=>w.heap.size<=q/\¬(T.bk aE T.P).M q) o un K V D:=hu.bm.ext p;refine⟨_,d0,K,d1,V,d2,D,d3,(pP H ax bc.e_ I).use ?_⟩;rintro _ aC ⟨rfl,r⟩;have N:=p.trans r;have Q:=n.ext N;have R:bO T (T.bk aE T.P) w aC 30:=(g.trans (bO.ext _ N)).mono I;have t:ei L key=ei un.dJ key:=Cl ao (ap (λL=>en L key) (xz key));rw[Cm bc]at t;refine⟨_,_,rfl,λc=>⟨aE,Q,R,j,.inl ⟨rfl,λ_=>?_⟩⟩,λc=>?_⟩
 .have c:g9 un.keys key=false:=by simpa using c
  rw[t,if_neg (by rw[c];simp)]
 .have c:g9 un.keys key=true:=by simpa using c
  have aD:cN un.keys key<un.keys.length:=(ib.1 (b2 c)).1;have S:cN un.keys key<un.vals.length:=by rw[bc.len];exact aD
  obtain⟨f0,f1,f2,f3⟩:=bC (G.ext r);obtain⟨aH,dg,aL,aO,aQ,aS,_⟩:=bl.at (H.ext r).vals S;refine⟨V,f2,aH,aL,aO,dg,aQ,aE,Q,R,j,.inr (.inl ⟨dg,un.vals[cN un.keys key],rfl,hg,?_,a7.aW aS λq _ f=>f.2⟩)⟩;rw[t,if_pos c,c_ S]
theorem Hg{n:aB}{k:Key}(h:gP n)(w:g9 n.keys k=true):gP (lL n k)/\(lL n k).dJ=en n.dJ k/\bI (lL n k)<=bI n/\n.keys.length=(lL n k).keys.length+1/\(∀s∈(lL n k).keys,s∈n.keys):=by
 have o:=p8 n.keys k;have A:=h.e_;have l:n.dJ=n.keys.zip n.vals:=rfl;have he:n.keys[cN n.keys k]? =some k:=b2 w;rw[l];unfold lL;generalize cN n.keys k=i at o he⊢;obtain⟨a,b,c,d,j,m,q,B,r,C,K,D,L⟩:=yF h o;have g:n.keys.zip n.vals=a.zip c++b.zip d:=by rw[j,m];exact oy I
 have E:∃e,b=k::e:=by
  cases b with
  |nil=>rw[j,ko I]at he;simp at he
  |cons y e=>
   rw[j,ko I,q,lW]at he;simp at he;exact⟨e,by rw[he]⟩
 obtain⟨e,rfl⟩:=E;obtain⟨x,f,rfl⟩:∃x f,d=x::f:=by
  cases d with
  |nil=>simp at r
  |cons x f=>exact⟨x,f,rfl⟩
 have au:n.keys.drop (i+1)=e:=by rw[j,show a++k::e=(a++ [k])++e by simp];exact drop_left' (by simp[q])
 have F:n.vals.drop (i+1)=f:=by rw[m,show c++x::f=(c++ [x])++f by simp];exact drop_left' (by simp[B])
 rw[C,D,au,F];have G:(a++k::e).Pairwise bH:=by rw[←j];exact A
 obtain⟨fJ,H,t⟩:=mL.1 G;have u:=jD.1 H;have v:∀z,z∈a++e->z∈n.keys:=λz g=>by
  rw[j];simp only[cR,cU]at g⊢;rcases g with h1|h1
  .exact .inl h1
  .exact .inr (.inr h1)
 refine⟨⟨⟨λz g=>h.ok z (v z g),mL.2 ⟨fJ,u.2,λy J z g=>t y J z (jV _ g)⟩⟩,h.leaf,?_,h.kids,λz g=>h.vals z ?_⟩,?_,?_,?_,v⟩
 .show(c++f).length=(a++e).length
  simp only[cx,eU]at r⊢;omega
 .rw[m]
  have g:z∈c++f:=g;simp only[cR,cU]at g⊢;rcases g with h1|h1
  .exact .inl h1
  .exact .inr (.inr h1)
 .show(a++e).zip (c++f)=_
  rw[g,oy I,p5,List.zip_cons_cons];have f1:en (a.zip c) k=a.zip c:=ox λp l=>kB (t _ (qO l).1 k List.mem_cons_self);have f2:en ((k,x)::e.zip f) k=e.zip f:=by
   have:en ((k,x)::e.zip f) k=en (e.zip f) k:=by unfold en;simp
   rw[this];exact ox λp l=>(kB (u.1 _ (qO l).1)).symm
  rw[f1,f2]
 .rw[qs h.leaf,qs (n:={n with keys:=a++e,vals:=c++f}) h.leaf]
  show 1+(List.zipWith kf (a++e) (c++f)).sum<=_;rw[j,m,o9 I,o9 I,lr,lr,List.zipWith_cons_cons,qQ];omega
 .show n.keys.length=(a++e).length+1
  rw[j];simp only[cx,eU];omega
structure jg(T ao:aM):Prop where
 root:ao.root=T.root
 aG:ao.aG=T.aG
 f:ao.f=T.f
 eG:∀no,(T.f no||T.g no)=true->ao.P no=T.P no/\ao.C.view no=T.C.view no
theorem jg.refl(T:aM):jg T T:=⟨rfl,rfl,rfl,λ_ _=>⟨rfl,rfl⟩⟩
theorem jg.bk{T:aM}{aE:b1}(a:∀j,aE.view j=T.C.view j):jg T (T.bk aE T.P):=⟨rfl,rfl,rfl,λno _=>⟨rfl,a no⟩⟩
theorem jg.trans{T ao b:aM}(h1:jg T ao)(a:jg ao b)(hg:ao.g=T.g):jg T b:=
 ⟨a.root.trans h1.root,a.aG.trans h1.aG,a.f.trans h1.f,λno h=>by
  have c:=h1.eG no h
  have d:=a.eG no (by rw[h1.f,hg];exact h)
  exact⟨d.1.trans c.1,d.2.trans c.2⟩⟩
structure Cn(T ao:aM)(aL:O Nat)(dY:O aJ):Prop where
 ok:∃pages,cg T<=cg ao+(2*T.aG+3)/\gj ao pages dY/\pages.Nodup/\(∀no∈pages,no∈aL\/(T.f no||T.g no)=false)/\∀no,ao.f no=true↔(no∈pages\/(T.f no=true/\no∉aL))
 eG:∀no,T.g no=true->ao.P no=T.P no/\ao.C.view no=T.C.view no
theorem jg.ok{T ao:aM}{pages:O Nat}{L:O aJ}(h:jg T ao)(a:gj T pages L)(hf:∀x∈pages,T.f x=true):gj ao pages L:=by
 unfold gj at a⊢;rw[h.root,h.aG];rcases a with a|b
 .exact .inl a
 .exact .inr (d_.agree b λx hx=>(h.eG x (by rw[hf x hx];rfl)).1.symm).1
def Hh(T:aM)(aL:O Nat)(L:O aJ)(key:Key)(w:J)(v:aa)(w':J):Prop:=
 ∃ao:aM,bM w' ao/\bO T ao w w' 100/\ao.E=T.E/\ao.G=T.G/\
  ((v=.tuple #[false,(1:Int)]/\¬cB key/\jg T ao)\/
   (v=.tuple #[false,(0:Int)]/\cB key/\ei L key=none/\jg T ao)\/
   (v=.tuple #[false,(2:Int)]/\cB key/\ei L key≠none/\cg T<2*T.aG+3/\jg T ao)\/
   (v=.tuple #[true,(0:Int)]/\cB key/\ei L key≠none/\2*T.aG+3<=cg T/\Cn T ao aL (en L key))\/
   (v=.tuple #[false,(3:Int)]/\cB key/\¬T.C.D.calm 100/\jg T ao))
theorem Hi{w:J}{T:aM}{pages:O Nat}{L:O aJ}{tk:U}{key:Key}(h:bM w T)(aL:¬T.C.D.ro)(ac:gj T pages L)(aO:L.length<4096)(c6:pages.Nodup)(hf:∀x∈pages,T.f x=true)(bj:T.C.D.aN<=800000000)
 (Q:Src 1 w tk (aF key)) (ae:∀q,az tk q->q<w.heap.size/\¬T.M q):
 aP ai 83 #[.pointer (some T.aY),tk] w (Hh T pages L key w):=by
 have aQ:=len8 Q;have bl:=h.num.2.1;refine okF (af.uo (some T.aY) tk) ay.uo func83 ?_;(delta af.uo ak aK b8 av bc ag iG cp Y aA;dsimp only);refine cm (λb w'=>b= !(decide (cB key))/\w=w') (λq m=>⟨λh=>(by cases h),λ_=>(m5 w tk).use ?_⟩) ?_
 .rintro _ _ ⟨rfl,rfl⟩
  refine⟨_,rfl,m _ _ ⟨?_,rfl⟩⟩;unfold cB;rw[aQ]
 rintro _ _ ⟨rfl,rfl⟩;refine⟨λR=>⟨T,h,(bO.refl T w).mono I,rfl,rfl,.inl ⟨rfl,by simpa using R,.refl T⟩⟩,λR=>?_⟩;have hg:cB key:=by simpa using R
 obtain⟨steps,ah,aj⟩:=yG (k:=key) h ac;refine(yr h I Q ae ah).use ?_;rintro _ aS ⟨aE,r,c,o,g⟩;rcases g with ⟨s,a,rfl,j,S⟩|⟨rfl,aT⟩
 rotate_left
 .exact⟨⟨none,0,0⟩,3,rfl,λ_=>⟨_,r,c.mono I,rfl,rfl,.inr (.inr (.inr (.inr ⟨rfl,hg,λhc=>aT (ga hc I),.bk o⟩)))⟩,λhx=>(by simp at hx)⟩
 have bn:s.len=a.length:=by
  have:=S.own.1;rw[gn _ (nu a)]at this;omega
 have bq:a.length=T.aG:=by
  have:=ah.length;rw[←j,dL]at this;exact this
 refine⟨s,0,rfl,λhx=>⟨_,r,c.mono I,rfl,rfl,.inr (.inl ⟨rfl,hg,?_,.bk o⟩)⟩,λhx=>?_⟩
 .have aU:a.length=0:=by
   have:(s.len:Int)=0:=by simpa using hx
   omega
  rcases aj with ⟨_,_,_,t⟩|⟨al,bp,fa,dK,am,an,ap,aq,bX,_⟩
  .rw[t];rfl
  .rw[bX]at j
   obtain⟨au,_⟩:=qt j;omega
 have aU:0<a.length:=by
  have:¬(s.len:Int)=0:=by simpa using hx
  omega
 have e:IntKind.wrap .i64 ((s.len:Int)-1)=((a.length-1:Nat):Int):=by rw[bu I I];omega
 obtain⟨A,ar,_,_,_,hu⟩:=S.at (i:=a.length-1) I;rcases aj with ⟨h1,_⟩|⟨al,bp,fa,dK,am,an,ap,aq,bX,ag,bw,bc,aV,bs,aX,bv,aZ,a0,aw⟩
 .rw[h1]at j
  have:=congrArg List.length j;simp at this;omega
 have F:=j;rw[bX]at F;obtain⟨au,ax⟩:=qt F;rw[e,c8];generalize bx:(a[a.length-1]'I)=u at hu ax;obtain⟨bA,un,bB,K,V,D⟩:=u;obtain rfl:un=bp:=ax;have bD:=(cF.eQ (.inl bc) (by have:=h.nw _ _ bw;omega));have a1:Src 1 aS tk (aF key):=Q.ad c.ad λq m a2=>(ae q m).2 (aM.gh a2);have W:ei L key=ei un.dJ key:=Cl a0 (aw (λL=>en L key) (xz key));rw[Cm bc]at W;refine⟨A,ar,⟨I,I⟩,_,hu.aA,K,hu.aR,V,hu.aK,D,hu.de,(pQ (n:=un) hu.bm bc I a1).use ?_⟩;intro v aB g;unfold qh at g;by_cases d:g9 un.keys key=true
 rotate_left
 .have d:g9 un.keys key=false:=by simpa using d
  rw[d,if_neg (by simp)]at g;obtain⟨rfl,G⟩:=g;refine⟨_,bg,bg,bg,false,rfl,bh (vs:=[false,(),(),()]) rfl λa3 y X a4=>⟨y.cc rfl (fC (b:=g8.leaf) (K:=bg) (V:=bg) (D:=bg)),rfl,cy y (us:=dQ g8 bg bg bg) rfl rfl λH aC Z a5=>⟨λ_=>?_,λhx=>(by cases hx)⟩⟩⟩;have N:Ext aB H:=Ext.cu X Z (bo _);have p:=G.trans N;refine⟨_,r.ext p,(c.trans (bO.ext _ p)).mono I,rfl,rfl,.inr (.inl ⟨rfl,hg,?_,.bk o⟩)⟩;rw[W,if_neg (by rw[d];simp)]
 rw[if_pos d]at g;obtain⟨cG,cO,cq,rfl,a6,G⟩:=g;refine⟨_,cG,cO,cq,true,rfl,bh (vs:=[false,(),(),()]) rfl λa3 y X a4=>⟨y.cc rfl fC,rfl,cy y (us:=dQ (lL un key) cG cO cq) rfl rfl λH aC Z a5=>⟨λhx=>(by cases hx),λ_=>?_⟩⟩⟩;have N:Ext aB H:=Ext.cu X Z (bo _);have p:=G.trans N;obtain⟨d0,d1,d2,d3⟩:=bC aC;obtain⟨br,bt,bE,aD,a7⟩:=Hg bc d;have a8:cN un.keys key<un.keys.length:=(ib.1 (b2 d)).1;have a9:cN un.keys key<un.vals.length:=by rw[bc.len];exact a8
 have aH:ei L key≠none:=by
  rw[W,if_pos d,c_ a9];simp
 have a_:aE.D.aN<=900000000:=by
  have:aE.D.aN<=T.C.D.aN+2*T.aG:=c.aN;omega
 have bF:=G.size;have ba:bz (λq=>¬(T.bk aE T.P).M q) H (lL un key) cG cO cq:=(a6.ext N).aW λq _ m F=>by have:=r.lt F;omega
 have bb:=Cj (dY:=en L key) (k:=key) (steps:=steps) (bS:=un) (r.ext p) (λe=>aL λi=>c.bK.1▸e i) ac aO c6 hf a_ j (S.ext' p λq m=>m.2) ba br (.inr ⟨al,fa,dK,am,an,ap,aq,bX,ag,λs hs=>aV s (a7 s hs),λhs e=>by
  have z:=aX hs;rw[e]at aD;simp at aD;omega,aZ,by rw[bt];exact aw (λL=>en L key) (xz key),by have:=h.nw _ _ bw;omega⟩)
 refine⟨_,d0,cG,d1,cO,d2,cq,d3,bb.use ?_⟩;rintro v w' ⟨ao,h1,bd,aa,t,be⟩;have ab:=((c.trans (bO.ext (T.bk aE T.P) p)).trans bd).mono (l:=100) I;have bG:cg (T.bk aE T.P)=cg T:=rfl;have bH:(T.bk aE T.P).aG=T.aG:=rfl;rcases be with ⟨rfl,B,E⟩|⟨rfl,B,E,z⟩|⟨rfl,B,E,z,bf,bi⟩
 .subst E
  exact⟨2,rfl,_,h1,ab,aa,t,.inr (.inr (.inl ⟨rfl,hg,aH,B,.bk o⟩))⟩
 .exact⟨0,rfl,_,h1,ab,aa,t,.inr (.inr (.inr (.inl ⟨rfl,hg,aH,B,E,λno aI=>⟨(z no aI).1,(z no aI).2.trans (o no)⟩⟩)))⟩
 .exact⟨3,rfl,_,h1,ab,aa,t,.inr (.inr (.inr (.inr ⟨rfl,hg,λhc=>B (c.calm 60 (ga hc I)),(jg.bk o).trans ⟨E,z,bf,bi⟩ rfl⟩)))⟩
def lh(fr to:Key)(p:aJ):aj:=decide (ek fr p.1)&&(to.isEmpty||decide (bH p.1 to))
theorem se(l:O aJ)(fr to:Key):eP l fr to=l.filter (lh fr to):=rfl
theorem sf(a b:O aJ)(fr to:Key):eP (a++b) fr to=eP a fr to++eP b fr to:=kV ..
def kL(fr to:Key)(most:Nat):O aJ->O aJ->aj×O aJ
 |acc,[]=>(true,acc)
 |acc,p::ps=>
  if to≠ []/\¬bH p.1 to then (false,acc)
  else
   let a:=if ek fr p.1 then acc++ [p] else acc
   if a.length=most then (false,a) else kL fr to most a ps
def h_(fr to:Key)(most:Nat)(acc L:O aJ)(on:aj)(a:O aJ):Prop:=
 (on=true/\a=acc++eP L fr to/\a.length<most)\/(on=false/\∀R,gJ (L++R)->a=(acc++eP (L++R) fr to).take most)
variable {fr to:Key}{most:Nat}
theorem h_.nil{acc:O aJ}(h:acc.length<most):h_ fr to most acc [] true acc:=.inl ⟨rfl,by simp[eP],h⟩
theorem h_.app{acc mC jf bf bB:O aJ}{on:aj}(h1:h_ fr to most acc bf true mC)(d:h_ fr to most mC bB on jf):h_ fr to most acc (bf++bB) on jf:=by
 rcases h1 with ⟨_,h1,_⟩|⟨h,_⟩
 rotate_left
 .cases h
 subst h1;rcases d with ⟨a,b,e⟩|⟨a,b⟩
 .exact .inl ⟨a,by rw[b,sf,cD],e⟩
 .refine .inr ⟨a,λR c=>?_⟩
  rw[cD]at c;rw[b R (p6.1 c).2.1,cD bf bB R,sf bf,cD]
theorem h_.stop{acc mC bf bB:O aJ}(h1:h_ fr to most acc bf false mC):h_ fr to most acc (bf++bB) false mC:=by
 rcases h1 with ⟨h,_⟩|⟨_,h⟩
 .cases h
 .refine .inr ⟨rfl,λR a=>?_⟩
  rw[cD]at a⊢;exact h _ a
theorem h_.skip{acc jf bf bB:O aJ}{on:aj}(hs:eP bf fr to=[])(d:h_ fr to most acc bB on jf):h_ fr to most acc (bf++bB) on jf:=by
 rcases d with ⟨a,b,e⟩|⟨a,b⟩
 .exact .inl ⟨a,by rw[b,sf,hs];rfl,e⟩
 .refine .inr ⟨a,λR c=>?_⟩
  rw[cD]at c⊢;rw[b R (p6.1 c).2.1,sf bf,hs];rfl
theorem h_.all{L acc:O aJ}{on:aj}(h:h_ fr to most [] L on acc)(b:gJ L):acc=(eP L fr to).take most:=by
 rcases h with ⟨_,h1,a⟩|⟨_,h1⟩
 .rw[h1]at a⊢
  rw[iR]at a⊢;rw[dI I]
 .have:=h1 [] (by simpa using b)
  simpa using this
theorem Co:∀ {ps acc:O aJ},gJ ps->acc.length<most->h_ fr to most acc ps (kL fr to most acc ps).1 (kL fr to most acc ps).2
 | [],acc,_,h=>.nil h
 |p::ps,acc,j,h=>by
  unfold kL
  by_cases h1:to≠ []/\¬bH p.1 to
  .rw[if_pos h1]
   refine .inr ⟨rfl,λR b=>?_⟩
   have:eP (p::ps++R) fr to=[]:=by
    rw[se];refine lY.2 λq d=>?_;have k:ek p.1 q.1:=by
     rw[nC]at d b;rcases cU.1 d with rfl|d
     .exact AJ _
     .exact iH ((jD.1 b).1 q d)
    have c:¬bH q.1 to:=λa=>h1.2 (j5 k a);unfold lh;have f:to.isEmpty=false:=by simpa using h1.1
    simp[f,c]
   rw[this,fQ,dI I]
  .rw[if_neg h1]
   have m:lh fr to p=decide (ek fr p.1):=by
    unfold lh;by_cases c:to=[]
    .simp[c]
    .have:bH p.1 to:=pb λa=>h1 ⟨c,a⟩
     simp[this]
   have e:∀l,eP (p::l) fr to=(if ek fr p.1 then [p] else [])++eP l fr to:=λl=>by
    rw[se,pe,m,se];by_cases c:ek fr p.1<;>simp[c]
   have n:(if ek fr p.1 then acc++ [p] else acc)=acc++(if ek fr p.1 then [p] else []):=by split<;>simp
   simp only[n];generalize hx:(if ek fr p.1 then [p] else [])=x at e;have r:x.length<=1:=by rw[←hx];split<;>simp
   by_cases a:(acc++x).length=most
   .rw[if_pos a]
    refine .inr ⟨rfl,λR b=>?_⟩;rw[nC,e,←cD,←a,List.take_left]
   .rw[if_neg a]
    have f:(acc++x).length<most:=by rw[cx]at a⊢;omega
    have:=Co (ps:=ps) (acc:=acc++x) (jD.1 j).2 f;rcases this with ⟨g,i,o⟩|⟨g,i⟩
    .exact .inl ⟨g,by rw[i,e,cD],o⟩
    .refine .inr ⟨g,λR b=>?_⟩
     rw[nC]at b⊢;rw[i R (jD.1 b).2,e,cD]
def eD(p:U×U):O aa:=[p.1,p.2]
theorem oT(l:O (U×U)):∀x∈l,(eD x).length=2:=λ_ _=>rfl
theorem qu(p:U×U):∀v∈eD p,Plain v:=by
 intro v a;unfold eD at a;simp only[cU,eV,eZ]at a;rcases a with rfl|rfl<;>trivial
def eT(B:Nat->Prop)(w:J)(ps:O (U×U))(L:O aJ):Prop:=ps.length=L.length/\∀i (h1:i<ps.length) (a:i<L.length),a7 B w ps[i].1 L[i].1/\a7 B w ps[i].2 L[i].2
def kM(B:Nat->Prop)(w:J)(s:U)(L:O aJ):Prop:=∃ps,a8 2 167 w s (bE eD ps)/\eT B w ps L
def fU(B:Nat->Prop)(w:J)(s:U)(L:O aJ):Prop:=∃ps,Src 2 w s (bE eD ps)/\s.len<=s.cap/\In B w s/\eT B w ps L
section
variable {B C W:Nat->Prop}{w w':J}{s:U}{ps:O (U×U)}{L:O aJ}
theorem eT.ad(h:eT B w ps L)(hc:ab W w w')(d:∀k,B k->k<w.heap.size->¬W k):eT B w' ps L:=
 ⟨h.1,λi h1 e=>by
  obtain⟨a,b⟩:=h.2 i h1 e
  exact⟨a7.iL a hc λk c=>d k (a.2.2 k c).1 (a.2.2 k c).2,a7.iL b hc λk c=>d k (b.2.2 k c).1 (b.2.2 k c).2⟩⟩
theorem eT.aW(h:eT B w ps L)(a:∀k,k<w.heap.size->B k->C k):eT C w ps L:=⟨h.1,λi h1 b=>⟨a7.aW (h.2 i h1 b).1 a,a7.aW (h.2 i h1 b).2 a⟩⟩
theorem eT.push{p:U×U}{gb:aJ}(h:eT B w ps L)(h1:a7 B w p.1 gb.1)(a:a7 B w p.2 gb.2):eT B w (ps++ [p]) (L++ [gb]):=by
 refine⟨by simp[h.1],λi au b=>?_⟩;rcases dH i ps.length with g|g
 .have g':i<L.length:=by have:=h.1;omega
  simp only[l0 g,l0 g'];exact h.2 i g g'
 .have e:i=ps.length:=by simp at au;omega
  subst e;have c:(ps++ [p])[ps.length]'au=p:=by simp
  have d:(L++ [gb])[ps.length]'b=gb:=by rw[nH (by rw[h.1];exact bo _)];simp
  rw[c,d];exact⟨h1,a⟩
theorem kM.len(h:kM B w s L):s.len=L.length:=by
 obtain⟨ps,h1,a⟩:=h;have:=h1.1;rw[gn _ (oT ps)]at this;have:=a.1;omega
theorem kM.aW(h:kM B w s L)(a:∀k,k<w.heap.size->B k->C k):kM C w s L:=by
 obtain⟨ps,h1,b⟩:=h;exact⟨ps,h1,b.aW a⟩
theorem kM.none(B:Nat->Prop)(w:J):kM B w ⟨.none,0,0⟩ []:=⟨[],a8.none _ _ _,rfl,λi h=>by simp at h⟩
theorem kM.r(h:kM B w s L)(hs:∀k,az s k->B k):fU B w s L:=by
 obtain⟨ps,h1,b⟩:=h;exact⟨ps,h1.src,h1.2.1,λk a=>⟨hs k a,h1.lt k a⟩,b⟩
theorem fU.len(h:fU B w s L):s.len=L.length:=by
 obtain⟨ps,h1,_,_,a⟩:=h;have:=h1.len;rw[gn _ (oT ps)]at this;have:=a.1;omega
theorem fU.ad(h:fU B w s L)(hc:ab W w w')(b:∀k,B k->k<w.heap.size->¬W k):fU B w' s L:=by
 obtain⟨ps,h1,d,a,e⟩:=h;exact⟨ps,h1.ad hc λk c=>b k (a k c).1 (a k c).2,d,In.ad a hc,e.ad hc b⟩
theorem fU.ext(h:fU B w s L)(hc:Ext w w'):fU B w' s L:=h.ad hc λ_ _ _ h=>h
theorem fU.aW(h:fU B w s L)(a:∀k,k<w.heap.size->B k->C k):fU C w s L:=by
 obtain⟨ps,h1,b,c,d⟩:=h;exact⟨ps,h1,b,In.aW c a,d.aW a⟩
theorem fU.at(h:fU B w s L){i:Nat}(hi:i<L.length):∃ (A:ae) (tk dg:U),s.a=some A/\B A.block/\((0:Int)<=(i:Int)/\(i:Int)<(s.len:Int))/\w.cell? (A.add (i*2))=some (.slice tk.a tk.len tk.cap)/\w.cell? ((A.add (i*2)).add 1)=some (.slice dg.a dg.len dg.cap)/\
 a7 B w tk L[i].1/\a7 B w dg L[i].2:=by
 have o:=h.len;obtain⟨ps,h1,p,k,c⟩:=h;have d:i<ps.length:=by have:=c.1;omega
 cases b:s.a with
 |none=>
  have:=h1.nil b;have e:=gn ps (oT ps);rw[this]at e;simp at e;omega
 |some A=>
  have l:=h1.rd A b;have hg:∀j v,(eD ps[i])[j]? =some v->w.cell? (A.add (i*2+j))=some v:=λj v f=>by
   have m:j<2:=(ib.1 f).1;have g:=pB l (j:=i*2+j) (v:=v) (by rw[oL (oT ps) d m];exact f);rw[cA]at g;exact g
  obtain⟨t1,t2⟩:=c.2 i d hi;have n:(A.add (i*2)).add 1=A.add (i*2+1):=add_add A _ _;refine⟨A,ps[i].1,ps[i].2,rfl,(k A.block ⟨A,b,rfl⟩).1,⟨I,I⟩,?_,?_,t1,t2⟩
  .exact hg 0 _ rfl
  .rw[n]
   exact hg 1 _ rfl
end
theorem qv:hM ai 86 167 2 48:=⟨by kernel_rfl⟩
theorem wb(w:J)(cs:Array aa)(h:cs.size=2):Sem.run ai (Instr.buildSlice 86 1 #[(0,.agg cs)]) w=.ok (.slice (some w.heap.size) 1 1) (w.alloc (.cells cs 167)):=by
 have h0:((Tryz.prog.info? 167).bind (·.zero)).isSome=true:=by kernel_rfl
 obtain⟨z,a⟩:=mH.1 h0;obtain⟨i,hi,b⟩:=qk a;have h1:(Tryz.prog.underlying 167).isSome=true:=by kernel_rfl
 obtain⟨d,hd⟩:=mH.1 h1;exact x_ (sz:=2) w (by kernel_rfl) hd (by kernel_rfl) hi b h (by decide) (by decide)
structure c0(T ao:aM)(w w':J)(k:Nat):Prop where
 to:bO T ao w w' k
 E:ao.E=T.E
 G:∀q,T.G q->ao.G q
 root:ao.root=T.root
 aG:ao.aG=T.aG
 f:ao.f=T.f
 P:ao.P=T.P
 view:∀j,ao.C.view j=T.C.view j
theorem c0.refl(T:aM)(w:J):c0 T T w w 0:=⟨.refl _ _,rfl,λ_ h=>h,rfl,rfl,rfl,rfl,λ_=>rfl⟩
theorem c0.ext{w w':J}(T:aM)(h:Ext w w'):c0 T T w w' 0:=⟨.ext T h,rfl,λ_ h=>h,rfl,rfl,rfl,rfl,λ_=>rfl⟩
theorem c0.trans{T ao b:aM}{w w' c:J}{k l:Nat}(h1:c0 T ao w w' k)(a:c0 ao b w' c l):c0 T b w c (k+l):=
 ⟨h1.to.trans a.to,a.E.trans h1.E,λq h=>a.G q (h1.G q h),a.root.trans h1.root,a.aG.trans h1.aG,a.f.trans h1.f,a.P.trans h1.P,λj=>(a.view j).trans (h1.view j)⟩
theorem c0.mono{T ao:aM}{w w':J}{k l:Nat}(h:c0 T ao w w' k)(a:k<=l):c0 T ao w w' l:=⟨h.to.mono a,h.E,h.G,h.root,h.aG,h.f,h.P,h.view⟩
theorem c0.bk{T:aM}{aE:b1}{w w':J}{k:Nat}(h:bO T (T.bk aE T.P) w w' k)(a:∀j,aE.view j=T.C.view j):c0 T (T.bk aE T.P) w w' k:=⟨h,rfl,λ_ h=>h,rfl,rfl,rfl,rfl,a⟩
theorem bO.out{T ao:aM}{w w':J}{k q:Nat}(h:bO T ao w w' k)(b:q<w.heap.size)(c:¬T.M q):¬ao.M q/\q<w'.heap.size:=by
 refine⟨λh1=>?_,fO b h.ad.size⟩;rcases h.c4 q h1 with a|a
 .exact c a
 .omega
theorem bO.Cp{T ao:aM}{w w':J}{k:Nat}{ps:O (U×U)}{L:O aJ}(h:bO T ao w w' k)(c:eT (λq=>¬T.M q) w ps L):eT (λq=>¬ao.M q) w' ps L:=by
 have h1:eT (λq=>q<w.heap.size/\¬T.M q) w ps L:=c.aW λq b a=>⟨b,a⟩;exact(h1.ad h.ad λq b _ d=>b.2 (aM.gh d)).aW λq _ a=>(h.out a.1 a.2).1
structure iP(lo:Nat)(w:J)(T:aM)(aD:Nat)(s:U)(L:O aJ):Prop where
 t:bM w T
 v:Var w aD [s] 86
 own:kM (λq=>¬T.M q) w s L
 go:T.G aD
 gs:∀q,az s q->T.G q/\q≠aD/\lo<=q
section
variable {w w':J}{T ao:aM}{lo aD:Nat}{s:U}{L:O aJ}
theorem iP.of{k:Nat}(h:iP lo w T aD s L)(d:bM w' ao)(ht:bO T ao w w' k)(b:∀q,T.G q->ao.G q){W:Nat->Prop}(c:ab W w w')(cd:∀q,T.G q->¬W q):iP lo w' ao aD s L:=by
 obtain⟨ps,h1,e⟩:=h.own;exact⟨d,h.v.ad c (cd _ h.go),⟨ps,h1.ad c λq a=>cd q (h.gs q a).1,ht.Cp e⟩,b _ h.go,λq a=>⟨b q (h.gs q a).1,(h.gs q a).2⟩⟩
theorem iP.ext(h:iP lo w T aD s L)(hx:Ext w w'):iP lo w' T aD s L:=h.of (h.t.ext hx) (bO.ext T hx) (λ_ h=>h) hx λ_ _ h=>h
theorem Hj{k v:Key}{tk dg:U}(h:iP lo w T aD s L)(C:lo<=w.heap.size)(r:a7 (λq=>¬T.M q) w tk k)(x:a7 (λq=>¬T.M q) w dg v)(D:L.length<=100000):
 ∃ (b:U) (ah:J),Sem.run ai (Builtin.append_ #[86,86] 86 #[s,.slice (some w.heap.size) 1 1]) (w.alloc (.cells (eD (tk,dg)).toArray 167))=.ok b ah/\
  (∃u:aa,ah.cell? aD=some u)/\ah.frozen? aD=false/\
  ∀d,d=ah.setCell aD b->iP lo d (T.cf T.E λq=>T.G q\/az b q) aD b (L++ [(k,v)])/\c0 T (T.cf T.E λq=>T.G q\/az b q) w d 0:=by
 have F:=h.own.len;obtain⟨ps,y,z⟩:=h.own;obtain⟨b,ah,au,j,H,f,c⟩:=qv.push (cH:=86) (w:=w) (s:=s) (xs:=eD (tk,dg)) rfl y (qu _) I;have cd:∀q,az s q->T.G q:=λq a=>(h.gs q a).1;have K:=f.size;have l:=h.v.ad f λa=>(h.gs _ a).2.1 rfl;obtain⟨bx,bG⟩:=dF l (i:=0) (by simp);refine⟨b,ah,au,bx,bG,?_⟩;rintro _ rfl;have g:=dp ah aD 0 b;have A:=dM l (i:=0) b;have m:ab T.G w (ah.setCell aD b):=ct (f.mono λq _ a=>cd q a) g λq _ e=>by rw[e];exact h.go
 have aH:∀q,az b q->q<ah.heap.size:=λq a=>a8.lt j q a;have n:∀q,az b q->T.G q\/(w.heap.size<=q/\q<(ah.setCell aD b).heap.size):=λq a=>by
  rcases c q a with h1|h1
  .exact .inl (cd q h1)
  .exact .inr ⟨h1,by have:=aH q a;have:=g.size;omega⟩
 have o:∀q,az b q->q≠aD:=λq a e=>by
  rcases c q a with h1|h1
  .exact(h.gs q h1).2.1 e
  .have:=h.v.lt;omega
 have B:=h.t.grow (E:=T.E) (G:=λq=>T.G q\/az b q) m (λq a _=>.inr a) (λq a=>.inl a) (λq a=>by
  rcases a with a|a
  .exact .inr (.inl a)
  .exact .inr (n q a)) λq a hg=>by
  rcases hg with hg|hg
  .exact(h.t.c7 q a).2.2 hg
  .rcases c q hg with h1|h1
   .exact(h.t.c7 q a).2.2 (cd q h1)
   .have:=h.t.lt (q:=q) (.inr (.inr (.inr (.inl a))));omega
 have p:bO T (T.cf T.E λq=>T.G q\/az b q) w (ah.setCell aD b) 0:=by
  have h0:bO T T w w 0:=.refl _ _;exact h0.step m (λq a _=>.inr (.inr (.inr a))) (λq a=>.inl a) λq a=>by
   rcases a with a|a
   .exact .inl a
   .exact(n q a).imp id λe=>e.1
 refine⟨⟨B,A,⟨ps++ [(tk,dg)],?_,p.Cp (z.push (gb:=(k,v)) r x)⟩,.inl h.go,λq a=>⟨.inr a,o q a,?_⟩⟩,p,rfl,λ_ h=>.inl h,rfl,rfl,rfl,rfl,λ_=>rfl⟩
 .have e:bE eD (ps++ [(tk,dg)])=bE eD ps++eD (tk,dg):=by rw[lM];simp[bE]
  rw[e];exact j.ad g λq a e=>o q a e
 .rcases c q a with h1|h1
  .exact(h.gs q h1).2.2
  .omega
end
structure qw(w:J)(T:aM)(aY aU aT:Nat)(fy fD:U)(to fr:Key)(most:Int):Prop where
 wc:Var w aY [fy] 48
 we:Var w aU [fD] 48
 jo:Var w aT [most] 3
 Cq:¬T.M aY
 Cr:¬T.M aU
 Cs:¬T.M aT
 st:Src 1 w fy (aF to)
 yJ:Src 1 w fD (aF fr)
 sg:∀q,az fy q->q<w.heap.size/\¬T.M q
 sh:∀q,az fD q->q<w.heap.size/\¬T.M q
 lt:to.length<=9000000000000000000
section
variable {w w':J}{T ao:aM}{aY aU aT:Nat}{fy fD:U}{to fr:Key}{most:Int}
theorem qw.go{k:Nat}(h:qw w T aY aU aT fy fD to fr most)(ht:bO T ao w w' k):qw w' ao aY aU aT fy fD to fr most:=by
 have b:∀q,¬T.M q->¬T.N q:=λq a b=>a (aM.gh b);exact⟨h.wc.ad ht.ad (b _ h.Cq),h.we.ad ht.ad (b _ h.Cr),h.jo.ad ht.ad (b _ h.Cs),(ht.out h.wc.lt h.Cq).1,(ht.out h.we.lt h.Cr).1,(ht.out h.jo.lt h.Cs).1,
  h.st.ad ht.ad λq a=>b _ (h.sg q a).2,h.yJ.ad ht.ad λq a=>b _ (h.sh q a).2,λq a=>⟨(ht.out (h.sg q a).1 (h.sg q a).2).2,(ht.out (h.sg q a).1 (h.sg q a).2).1⟩,λq a=>⟨(ht.out (h.sh q a).1 (h.sh q a).2).2,(ht.out (h.sh q a).1 (h.sh q a).2).1⟩,h.lt⟩
end
def jQ(fr to:Key)(most:Nat)(n:aB)(acc ps:O aJ):aj×O aJ:=if n.leaf then kL fr to most acc ps else (true,acc)
def Hk(lo aD:Nat)(T:aM)(a:aj×O aJ)(w:J)(v:aa)(w':J):Prop:=
 ∃ (ao:aM) (b:U),v=a.1/\iP lo w' ao aD b a.2/\c0 T ao w w' 0
theorem bO.g8{T ao:aM}{w w':J}{k:Nat}(h:bO T ao w w' k){n:aB}{K V D:U}(b:bz (λq=>¬T.M q) w n K V D):bz (λq=>¬ao.M q) w' n K V D:=
 (h.bm (lo:=0) (b.aW λ_ _ a=>⟨cE _,a⟩)).aW λ_ _ a=>a.2
theorem Ct{a b:Key}:(decide ((ew a b:Int)>=0))=decide (ek b a):=by
 unfold ek;by_cases h:ew a b<0
 .have h1:¬ew a b>=0:=by omega
  simp[h,h1]
 .have h1:ew a b>=0:=by omega
  simp[h,h1]
theorem Hl{w:J}{T:aM}{lo aD aY aU aT:Nat}{s fy fD:U}{L:O aJ}{to fr:Key}{most:Int}{n:aB}{K V D:U}(no:Int)(h:iP lo w T aD s L)(a_:lo<=w.heap.size)(hf:qw w T aY aU aT fy fD to fr most)
 (X:bz (λq=>¬T.M q) w n K V D) (hs:cF n) (ba:n.keys.length<=1000) (aC:(L.length:Int)<most) (bb:L.length<=50000):
 aP ai 175 #[no,cX n K V D,.pointer (some aY),.pointer (some aU),.pointer (some aD),.pointer (some aT)] w (Hk lo aD T (jQ fr to most.toNat n L n.dJ) w):=by
 have bd:=bl.len X.keys;refine okF (af.uR no n.leaf K V D aY aU aD aT) ay.uR func175 ?_;(delta af.uR ag Y ak aI aA bc r1 av;dsimp only);refine bh (vs:=dQ n K V D) rfl λw1 P o be=>?_;obtain⟨nb,aE⟩:∃nb,nb=w.heap.size:=⟨_,rfl⟩;rw[←aE]at P⊢;have h1:=h.ext o;have aF:=hf.go (bO.ext T o);have aG:=X.ext o;have Z:¬T.M nb:=λQ=>by have:=h.t.lt Q;omega
 obtain⟨bU,aA,aR,aK⟩:=bC P;refine⟨K,aA,λi f=>∃ (E:Nat) (ao:aM) (z:U) (acc:O aJ),i=(E:Int)/\E<=n.keys.length/\iP lo f ao aD z acc/\c0 T ao w1 f 0/\(acc.length:Int)<most/\acc.length<=L.length+E/\jQ fr to most.toNat n acc (n.dJ.drop E)=jQ fr to most.toNat n L n.dJ,
  λi _=>((n.keys.length:Int)-i).toNat,⟨0,T,s,L,rfl,cE _,h1,.refl _ _,aC,I,by rw[lu]⟩,?_⟩
 rintro _ f ⟨i,ao,z,acc,rfl,hi,F,l,bf,bg,g⟩;have bi:=o.size;have bj:=l.to.ad.size;have p:=aF.go l.to;have aa:=l.to.g8 aG;have ab:=P.ad l.to.ad λQ=>Z (aM.gh Q);have bk:=(l.to.out I Z).1;refine⟨λaH=>?_,λaL=>?_⟩
 rotate_left
 .have ac:i=n.keys.length:=by
   have:¬(i:Int)<(K.len:Int):=cr aL;omega
  have hd:n.dJ.drop i=[]:=by
   refine sM ?_;unfold aB.dJ;rw[mM];omega
  rw[hd]at g;have e:jQ fr to most.toNat n acc []=(true,acc):=by unfold jQ kL;split<;>rfl
  rw[e]at g;exact⟨ao,z,by rw[←g],by rw[←g];exact F,((c0.ext T o).trans l)⟩
 .have ac:i<n.keys.length:=by
   have:(i:Int)<(K.len:Int):=b2 aH;omega
  obtain⟨A,tk,ar,aN,hc,G,_⟩:=bl.at aa.keys ac;have R:IntKind.wrap .i64 ((i:Int)+1)=((i+1:Nat):Int):=by rw[bu I I];omega
  have aO:∀w':J,((n.keys.length:Int)-IntKind.wrap .i64 ((i:Int)+1)).toNat<((n.keys.length:Int)-(i:Int)).toNat:=λ_=>by rw[R];omega
  obtain⟨key,ae⟩:∃key,key=n.keys[i]:=⟨_,rfl⟩;rw[←ae]at G;have ah:=len8 p.st;refine⟨A,ar,aN,tk,hc,fy,p.wc.cell,cm (λb w'=>b=decide (to≠ []/\¬bH key to)/\f=w') (λq m=>⟨λc=>⟨fy,p.wc.cell,(kA G.1 p.st).use ?_⟩,λc=>m _ _ ⟨?_,rfl⟩⟩) ?_⟩
  .rintro _ _ ⟨rfl,rfl⟩
   refine⟨_,rfl,m _ _ ⟨?_,rfl⟩⟩;have d:to≠ []:=λe=>by
    rw[e]at ah;have:(fy.len:Int)>0:=b2 c;simp at ah;omega
   rw[Ct];simp only[d,ne_eq,not_false_eq_true,true_and];rfl
  .have d:to=[]:=by
    have:¬(fy.len:Int)>0:=cr c;exact kl.1 I
   simp[d]
  rintro aQ _ ⟨aj,rfl⟩;have d0:f.cell? nb=some (.bool n.leaf):=(bC ab).1;refine cm (λb w'=>b=(aQ&&n.leaf)/\f=w') (λq m=>⟨λc=>⟨_,d0,m _ _ ⟨by rw[c];rfl,rfl⟩⟩,λc=>m _ _ ⟨by rw[c];rfl,rfl⟩⟩) ?_;rintro bm _ ⟨al,rfl⟩;have H:n.leaf=true->∃x:Key,(∃k:i<n.vals.length,x=n.vals[i])/\n.dJ.drop i=(key,x)::n.dJ.drop (i+1):=λa=>by
   have bn:n.vals.length=n.keys.length:=by
    rcases hs with d|d
    .exact d.len
    .have:=d.inner;rw[a]at this;cases this
   have k:i<n.vals.length:=by omega
   refine⟨n.vals[i],⟨k,rfl⟩,?_⟩;have aV:i<n.dJ.length:=by unfold aB.dJ;rw[mM];omega
   rw[iQ aV];have e:n.dJ[i]=(key,n.vals[i]):=by
    rw[ae];exact sD
   rw[e]
  refine⟨λc=>?_,λc=>?_⟩
  .
   rw[al,ed]at c;obtain⟨x,_,B⟩:=H c.2;have aW:to≠ []/\¬bH key to:=by
    rw[aj]at c;exact b2 c.1
   have e:jQ fr to most.toNat n acc (n.dJ.drop i)=(false,acc):=by
    unfold jQ;rw[if_pos c.2,B];unfold kL;rw[if_pos aW]
   rw[e]at g;exact⟨ao,z,by rw[←g],by rw[←g];exact F,((c0.ext T o).trans l)⟩
  .have am:n.leaf=true->¬(to≠ []/\¬bH key to):=λa d=>by
    rw[al,aj,a,dw d]at c
    cases c
   refine hL (λN=>∃ (bZ:aM) (s2:U) (jf:O aJ),jf=(if n.leaf=true/\ek fr key then acc++ [(key,n.vals.getD i [])] else acc)/\iP lo N bZ aD s2 jf/\c0 ao bZ f N 0) (λq m=>⟨n.leaf,d0,?_⟩) ?_
   .refine cm (λb w'=>b=decide (n.leaf=true/\ek fr key)/\f=w') (λr an=>⟨λa=>⟨fD,p.we.cell,(kA G.1 p.yJ).use ?_⟩,λa=>an _ _ ⟨by simp[a],rfl⟩⟩) ?_
    .rintro _ _ ⟨rfl,rfl⟩
     refine⟨_,rfl,an _ _ ⟨?_,rfl⟩⟩;rw[Ct,a];simp
    .rintro bo _ ⟨ap,rfl⟩
     refine⟨λj=>aS ?_,λj=>?_⟩
     .rw[ap]at j
      have j:=b2 j;obtain⟨x,⟨k,hx⟩,B⟩:=H j.1;have C:Ext f f.drew:=b6 _;have u:=F.ext C;obtain⟨aX,dg,aZ,a0,a1,aq,bp⟩:=bl.at (aa.ext C).vals k;rw[←hx]at aq;have a2:=a7.ext G C;have bq:=C.size;obtain⟨aw,a3,au,a4,a5,a6⟩:=Hj u I a2 aq I;refine⟨λ_=>False,id,z,u.v.cell,id,V,(bC (ab.ext C)).2.2.1,aX,aZ,a0,id,dg,a1,(eD (tk,dg)).toArray,λbr=>?_,⟨some f.drew.heap.size,1,1⟩,_,wb _ _ rfl,eB _ _,aw,a3,au,a4,a5,aS (m _ ?_)⟩
      .kernel_rfl
      .obtain⟨bx,bG⟩:=a6 _ rfl
       refine⟨_,aw,_,?_,bx,((c0.ext ao C).trans bG)⟩;rw[if_pos j,eX,c_ k,←hx];rfl
     .rw[ap]at j
      have j:=cr j;exact m _ ⟨ao,z,acc,by rw[if_neg j],F,.refl _ _⟩
   .rintro N ⟨bZ,s2,jf,y,u,ax⟩
    have a8:=p.go ax.to;have a9:=u.own.len;have az:=l.trans ax;have bs:jf.length<=acc.length+1:=by rw[y];split<;>simp
    have bt:(0:Int)<=most:=by omega
    refine⟨s2,u.v.cell,most,a8.jo.cell,λc=>?_,λc=>?_⟩
    .have he:(s2.len:Int)=most:=by simpa using c
     by_cases a:n.leaf=true
     .obtain⟨x,⟨k,hx⟩,B⟩:=H a
      have S:n.vals.getD i []=x:=by rw[eX,c_ k,hx];rfl
      have e:jQ fr to most.toNat n acc (n.dJ.drop i)=(false,jf):=by
       unfold jQ;rw[if_pos a,B];unfold kL;rw[if_neg (am a)];have W:(if ek fr key then acc++ [(key,x)] else acc)=jf:=by rw[y,S];simp[a]
       simp only[W];rw[if_pos I]
      rw[e]at g;exact⟨bZ,s2,by rw[←g],by rw[←g];exact u,((c0.ext T o).trans az)⟩
     .exfalso
      rw[if_neg (λd=>a d.1)]at y;rw[y]at a9;omega
    .have he:¬(s2.len:Int)=most:=by simpa using c
     rw[R];refine⟨⟨i+1,bZ,s2,jf,rfl,I,u,az,I,I,?_⟩,?_⟩
     .rw[←g]
      unfold jQ;by_cases a:n.leaf=true
      .obtain⟨x,⟨k,hx⟩,B⟩:=H a
       have S:n.vals.getD i []=x:=by rw[eX,c_ k,hx];rfl
       rw[if_pos a,if_pos a,B]
       conv=>rhs;unfold kL
       rw[if_neg (am a)];have W:(if ek fr key then acc++ [(key,x)] else acc)=jf:=by rw[y,S];simp[a]
       simp only[W];rw[if_neg I]
      .rw[if_neg a,if_neg a]
       rw[if_neg (λd=>a d.1)]at y;rw[y]
     .have:=aO N
      rw[R]at this;exact this
inductive Kids (W:Below):O Nat->O Nat->O aJ->Prop
 |nil:Kids W [] [] []
 |cons {lo hi:aq Key}{k:Nat}{kids br bt:O Nat}{bf bB:O aJ} (h:W lo hi k br bf) (t:Kids W kids bt bB):Kids W (k::kids) (br++bt) (bf++bB)
theorem dE.kids{W:Below}{lo hi:aq Key}{ks:O Key}{kids p:O Nat}{L:O aJ}(h:dE W lo hi ks kids p L):Kids W kids p L:=by
 induction h with
 |one h=>
  have:=Kids.cons h .nil;rwa[fQ,fQ]at this
 |cons h _ a=>exact .cons h a
theorem Hm(s:Key)(ks:O Key)(k:Key):dn (s::ks) k=if bH k s then 0 else dn ks k+1:=by
 unfold dn;rw[List.findIdx_cons];by_cases h:bH k s<;>simp[h]
theorem dE.from{W:Below}(cd:∀lo hi k p L,W lo hi k p L->∀q∈L,fk lo hi q.1){lo hi:aq Key}{ks:O Key}{kids p:O Nat}{L:O aJ}(h:dE W lo hi ks kids p L)(k:Key):
 ∃ (br bt:O Nat) (bf bB:O aJ),p=br++bt/\L=bf++bB/\(∀q∈bf,bH q.1 k)/\Kids W (kids.drop (dn ks k)) bt bB:=by
 induction h with
 |one h=>exact⟨[],_,[],_,rfl,rfl,λ_ h=>(by cases h),(dE.one h).kids⟩
 | @cons lo hi s f br bt bf bB ks kids h t c=>
  rw[Hm];by_cases b:bH k s
  .rw[if_pos b]
   exact⟨[],_,[],_,rfl,rfl,λ_ h=>(by cases h),(dE.cons h t).kids⟩
  .rw[if_neg b,List.drop_succ_cons]
   obtain⟨a1,a2,b9,bQ,rfl,rfl,d,e⟩:=c;refine⟨br++a1,a2,bf++b9,bQ,by rw[cD],by rw[cD],λq a=>?_,e⟩;rcases cR.1 a with a|a
   .exact m_ ((cd _ _ _ _ _ h q a).2 s rfl) b
   .exact d q a
theorem Cu{L:O aJ}{fr to:Key}(h:∀q∈L,bH q.1 fr):eP L fr to=[]:=by
 rw[se];refine lY.2 λq a=>?_;unfold lh;have:¬ek fr q.1:=λb=>b (h q a);simp[this]
def kg(T:aM)(no:Nat):Prop:=(no<T.n/\2<=no)/\∃e,da (no:Int) (T.C.view no)=.error e
theorem Cv{w:J}{T:aM}{no:Nat}{o:aB}(h:bM w T)(s:T.C.D.aN<=999999999)(d:T.P no=some o\/kg T no):
 aP ai 196 #[.pointer (some T.aY),no,o.leaf] w (λv w'=>∃aE:b1,c0 T (T.bk aE T.P) w w' 2/\bM w' (T.bk aE T.P)/\ab (λq=>T.N q/\¬T.G q) w w'/\
  ((∃ (K V D:U),v=.tuple #[cX o K V D,(0:Int)]/\T.P no=some o/\bz (λq=>w.heap.size<=q/\¬(T.bk aE T.P).M q) w' o K V D)\/(∃e:Int,v=.tuple #[cX g8 bg bg bg,e]/\e≠0/\((e=3/\¬T.C.D.calm 2)\/kg T no)))):=by
 have f:no<T.n:=d.elim (λh1=>(h.ep no o h1).1) λh1=>h1.1.1;have g:2<=no:=d.elim (λh1=>(h.ep no o h1).2.two) λh1=>h1.1.2;obtain⟨bV,i⟩:∃bV,bV=λq=>T.E q\/T.G q:=⟨_,rfl⟩;have c:∀q,T.E q\/T.G q->bV q:=λq a=>by rw[i];exact a
 have j:∀q,bV q->T.E q\/T.G q:=λq a=>by rw[i]at a;exact a
 have k:bM w (T.cf bV λ_=>False):=h.grow (W:=λ_=>False) (ab.refl _ _) (λ_ h=>h.elim) (λq a=>(j q a).imp id .inl) (λ_ h=>h.elim) λ_ _ h=>h;have t:∀q,(T.cf bV λ_=>False).N q->T.N q/\¬T.G q:=λq a=>⟨by
  rcases a with a|a|a|a
  .exact .inl a
  .exact .inr (.inl a)
  .exact .inr (.inr (.inl a))
  .exact a.elim,λhg=>k.jd (c q (.inr hg)) a⟩
 refine(yp k s f g o.leaf).mono ?_;rintro v w' ⟨aE,u,ht,x,y⟩;have z:bO T (T.bk aE T.P) w w' 2:=bO.read (E:=bV) ht c λq a=>(j q a).imp id .inl;have A:ab (λq=>T.N q/\¬T.G q) w w':=ht.ad.mono λq _ a=>t q a;refine⟨aE,.bk z x,?_,A,?_⟩
 .exact u.grow (E:=T.E) (G:=T.G) (W:=λ_=>False) (ab.refl _ _) (λ_ h=>h.elim) (λq a=>.inl (c q (.inl a))) (λq a=>.inl (c q (.inr a))) λq a=>(h.c7 q a).2.2
 .rcases y with ⟨bp,K,V,D,rfl,l,c6⟩|⟨e,rfl,B,F⟩
  .have m:T.P no=some o:=d.resolve_right λ⟨_,e,h1⟩=>by
    obtain⟨p,au,_⟩:=l;have h1:da (no:Int) (T.C.view no)=.error e:=h1;have au:da (no:Int) (T.C.view no)=.ok p:=au;rw[h1]at au;cases au
   obtain rfl:=gK.uniq (h.ep no o m).2 l;refine .inl ⟨K,V,D,rfl,m,c6.aW λq a r=>⟨r.1,λb=>r.2 ?_⟩⟩;rcases b with b|b|b|b|b
   .exact .inl b
   .exact .inr (.inl b)
   .exact .inr (.inr (.inl b))
   .exact .inr (.inr (.inr (.inl (c q (.inl b)))))
   .exact .inr (.inr (.inr (.inl (c q (.inr b)))))
  .refine .inr ⟨e,rfl,F,?_⟩
   rcases B with h1|h1|⟨_,_,h1⟩
   .exact .inl h1
   .exact .inr ⟨⟨f,g⟩,e,h1⟩
   .exact d.elim (λH=>absurd (h.ep no o H).2 (h1 o)) .inr
theorem Hn{w:J}{T:aM}{no:Nat}{o:aB}(h:bM w T)(g:T.C.D.aN<=999999999)(c:T.P no=some o):
 aP ai 196 #[.pointer (some T.aY),no,o.leaf] w (λv w'=>∃aE:b1,c0 T (T.bk aE T.P) w w' 2/\bM w' (T.bk aE T.P)/\ab (λq=>T.N q/\¬T.G q) w w'/\
  ((∃ (K V D:U),v=.tuple #[cX o K V D,(0:Int)]/\bz (λq=>w.heap.size<=q/\¬(T.bk aE T.P).M q) w' o K V D)\/(v=.tuple #[cX g8 bg bg bg,(3:Int)]/\¬T.C.D.calm 2))):=by
 refine(Cv h g (.inl c)).mono ?_;rintro v w' ⟨aE,h1,d,f,⟨K,V,D,b,_,a⟩|⟨e,b,_,⟨rfl,a⟩|⟨_,i,a⟩⟩⟩
 .exact⟨aE,h1,d,f,.inl ⟨K,V,D,b,a⟩⟩
 .exact⟨aE,h1,d,f,.inr ⟨b,a⟩⟩
 .obtain⟨p,au,_⟩:=(h.ep no o c).2
  rw[a]at au;cases au
def Ho(lo aD:Nat)(T:aM)(fr to:Key)(most:Int)(acc L:O aJ)(a:Nat)(w:J)(v:aa)(w':J):Prop:=
 ∃ (ao:aM) (c:U) (b:O aJ),c0 T ao w w' (2*a)/\iP lo w' ao aD c b/\
  ((∃on:aj,v=.tuple #[on,(0:Int)]/\h_ fr to most.toNat acc L on b)\/(v=.tuple #[false,(3:Int)]/\¬T.C.D.calm (2*a)))
theorem Hp:iD ai 175:=⟨Tryz.f175,func175,by kernel_rfl,by kernel_rfl⟩
theorem d_.top{P:Nat->aq aB}{h:Nat}{lo hi:aq Key}{no:Nat}{p:O Nat}{L:O aJ}(c:d_ P (h+1) lo hi no p L):∃ (n:aB) (b:O Nat),P no=some n/\n.leaf=decide (h=0)/\cF n/\p=no::b/\
 ((h=0/\gP n/\b=[]/\L=n.dJ)\/(∃g,h=g+1/\vu n/\Kids (λlo hi k p L=>d_ P h lo hi k p L) n.kids b L/\∀k:Key,∃ (br bt:O Nat) (bf bB:O aJ),b=br++bt/\L=bf++bB/\(∀q∈bf,bH q.1 k)/\Kids (λlo hi k p L=>d_ P h lo hi k p L) (n.kids.drop (dn n.keys k)) bt bB)):=by
 match h,c with
 |0,⟨n,h1,a,i,f,e,d⟩=>exact⟨n,[],h1,a.leaf,.inl a,e,.inl ⟨rfl,a,rfl,d⟩⟩
 |h+1,⟨n,b,h1,a,i,f,e⟩=>
  have d:=e.mono (V:=λlo hi k p L=>d_ P (h+1) lo hi k p L) λ_ _ _ _ _ _ c=>c.1;refine⟨n,b,h1,by rw[a.inner];simp,.inr a,f,.inr ⟨h,rfl,a,d.kids,λk=>d.from (λ_ _ _ _ _ c=>(d_.e_ c).2) k⟩⟩
theorem h_.len{fr to:Key}{most:Nat}{acc L a:O aJ}{on:aj}(h:h_ fr to most acc L on a)(b:gJ L):a.length<=acc.length+L.length:=by
 have c:(eP L fr to).length<=L.length:=l2 _ _;rcases h with ⟨_,h1,_⟩|⟨_,h1⟩
 .rw[h1,cx];omega
 .have:=h1 [] (by simpa using b)
  rw[this,fQ,cv,cx];omega
theorem Hq{A:ae}{i c:Nat}(h:i<c):aO (some A) 1 i c=some (A.add i):=by
 unfold aO;rw[fz];split
 .rename_i a;omega
 .rfl
theorem Hr(h:Nat):∀ {w:J}{T:aM}{lo aD aY aU aT:Nat}{s fy fD:U}{acc L:O aJ}{to fr:Key}{most:Int}{fa dK:aq Key}{no:Nat}{p:O Nat},iP lo w T aD s acc->lo<=w.heap.size->qw w T aY aU aT fy fD to fr most->h<=12->d_ T.P h fa dK no p L->(acc.length:Int)<most->acc.length+L.length<=40000->T.C.D.aN+2*p.length<=999999999->
 aP ai 174 #[.pointer (some T.aY),no,h,fD,.func (.func 175) #[] #[.pointer (some aY),.pointer (some aU),.pointer (some aD),.pointer (some aT)]] w (Ho lo aD T fr to most acc L p.length w):=by
 induction h with
 |zero=>intro w T lo aD aY aU aT s fy fD acc L to fr most fa dK no p _ _ _ _ z;exact z.elim
 |succ h bd=>
  intro w T lo aD aY aU aT s fy fD acc L to fr most fa dK no p ax b_ hf ca z be bi bj;obtain⟨n,cb,az,bl,aB,rfl,bm⟩:=z.top;have bn:=z.e_.1;have aC:=ax.t;have cd:=cF.eQ aB (by have:=aC.nw _ _ az;omega);refine okF (af.uQ (some T.aY) (no:Nat) ((h+1:Nat):Int) fD ⟨175,#[],#[.pointer (some aY),.pointer (some aU),.pointer (some aD),.pointer (some aT)]⟩) ay.uQ func174 ?_;(delta af.uQ g6 cp Y ak bc ag aA r1 k2 av;dsimp only);rw[yq bl];refine(Hn aC I az).use ?_;rintro _ w1 ⟨aE,B,aF,aG,bp⟩;have ce:=aG.size;have aI:iP lo w1 (T.bk aE T.P) aD s acc:=ax.of aF B.to (λ_ h=>h) aG λq bq br=>br.2 bq;have bs:=hf.go B.to;rcases bp with ⟨K,V,D,rfl,c6⟩|⟨rfl,W⟩
  rotate_left
  .refine⟨_,bg,bg,bg,3,rfl,bh (vs:=[false,(),(),()]) rfl λbt v X bv=>⟨v.cc rfl (fC (b:=g8.leaf) (K:=bg) (V:=bg) (D:=bg)),rfl,cy v (us:=dQ g8 bg bg bg) rfl rfl λE F Z bw=>⟨λ_=>?_,λhx=>(by simp at hx)⟩⟩⟩
   have f:Ext w1 E:=Ext.cu X Z (bo _);refine⟨_,s,acc,((B.trans (c0.ext _ f)).mono (by simp only[eU];omega)),aI.ext f,.inr ⟨rfl,λhc=>W (ga hc (by simp only[eU];omega))⟩⟩
  refine⟨_,K,V,D,0,rfl,bh (vs:=[false,(),(),()]) rfl λbt v X bv=>⟨v.cc rfl fC,rfl,cy v (us:=dQ n K V D) rfl rfl λE F Z bw=>⟨λhx=>(by cases hx),λ_=>?_⟩⟩⟩;have f:Ext w1 E:=Ext.cu X Z (bo _);obtain⟨nb,bx⟩:∃nb,nb=w1.heap.size:=⟨_,rfl⟩;rw[←bx]at F⊢;have aL:¬(T.bk aE T.P).M nb:=λaa=>by have:=aF.lt aa;omega
  have bA:=aI.ext f;have aO:=bs.go (bO.ext _ f);have aQ:bz (λq=>¬(T.bk aE T.P).M q) E n K V D:=(c6.ext f).aW λq _ c=>c.2;have cf:=f.size;obtain⟨bU,aA,aR,aK⟩:=bC F;refine⟨_,bU,K,aA,V,aR,D,aK,Hp,?_⟩;refine(Hl (no:Nat) bA I aO aQ aB I be I).use ?_;rintro _ G ⟨bZ,s2,rfl,x,l⟩;have ab:=(B.trans (c0.ext _ f)).trans l;have aV:=aO.go l.to;have cg:=l.to.ad.size;have aX:acc.length<most.toNat:=by omega
  rcases bm with ⟨rfl,aZ,rfl,rfl⟩|⟨g,rfl,ac,_,bD⟩
  .
   have y:n.leaf=true:=aZ.leaf;have e:jQ fr to most.toNat n acc n.dJ=kL fr to most.toNat acc n.dJ:=by unfold jQ;rw[if_pos y]
   have d:=Co (fr:=fr) (to:=to) aZ.dJ.1 aX;rw[e]at x⊢;refine⟨_,rfl,λc=>?_,λc=>⟨λ_=>?_,λhx=>?_⟩⟩
   .have c:(kL fr to most.toNat acc n.dJ).1=false:=by simpa using c
    refine⟨bZ,s2,_,ab.mono (by simp),x,.inl ⟨false,rfl,?_⟩⟩;rw[c]at d;exact d
   .have c:(kL fr to most.toNat acc n.dJ).1=true:=by simpa using c
    refine⟨bZ,s2,_,ab.mono (by simp),x,.inl ⟨true,rfl,?_⟩⟩;rw[c]at d;exact d
   .rw[y]at hx;cases hx
  .
   have y:n.leaf=false:=ac.inner;have e:jQ fr to most.toNat n acc n.dJ=(true,acc):=by unfold jQ;rw[y];rfl
   rw[e]at x⊢;refine⟨true,rfl,λc=>(by cases c),λ_=>⟨λc=>(by rw[y]at c;cases c),λ_=>aS ?_⟩⟩;have ae:Ext G G.drew:=b6 _;have a0:Var G.drew nb (dQ n K V D) 202:=(F.ad l.to.ad λaa=>aL (aM.gh aa)).drew;have ch:=(l.to.out (q:=nb) I aL).1;have ah:bz (λq=>¬bZ.M q) G.drew n K V D:=(l.to.g8 aQ).ext ae;have bE:=aV.go (bO.ext bZ ae);obtain⟨d0,d1,d2,d3⟩:=bC a0;refine⟨λ_=>False,id,D,d3,id,_,d0,K,d1,V,d2,D,d3,(od ah bE.yJ ac.e_ I).use ?_⟩;rintro _ bF ⟨rfl,H⟩;have ci:=vv n.keys fr;have cj:=ah.kids.len;have ck:=ac.len;obtain⟨fJ,a1,bf,bB,rfl,rfl,a2,bG⟩:=bD fr;have N:=ae.trans H;have bH:=ab.trans (c0.ext bZ N);have bI:=x.ext N;have bJ:=aV.go (bO.ext bZ N);have aj:=ah.ext H;have cl:=a0.ext H;have cm:=N.size;have cn:n.kids.length<=100000:=by omega
   have co:dn n.keys fr<D.len:=by omega
   obtain⟨A,ar,cq⟩:∃A,D.a=some A/\D.len<=D.cap:=by
    obtain⟨A,ar,_⟩:=cI.at aj.kids (i:=0) I;exact⟨A,ar,aj.kids.2.1⟩
   refine⟨_,rfl,H,⟨I,I⟩,λi w'=>∃ (j:Nat) (c9:aM) (Q:U) (mD:O aJ) (m qr:O Nat) (o al:O aJ),i=(j:Int)/\j<=D.len-dn n.keys fr/\iP lo w' c9 aD Q mD/\c0 T c9 w w' (2+2*m.length)/\c0 bZ c9 bF w' (2*m.length)/\Kids (λlo hi k p L=>d_ T.P (g+1) lo hi k p L) (n.kids.drop (dn n.keys fr+j)) qr al/\a1=m++qr/\bB=o++al/\h_ fr to most.toNat acc o true mD,
    λi _=>((D.len:Int)-i).toNat,⟨0,bZ,s2,acc,[],a1,[],bB,rfl,cE _,bI,bH.mono (by simp),.refl _ _,bG,rfl,rfl,.nil aX⟩,?_⟩
   rintro _ a3 ⟨j,c9,Q,mD,m,qr,o,al,rfl,cs,a4,r,R,S,rfl,rfl,d⟩;have bK:(((dn n.keys fr:Nat):Int)).toNat=dn n.keys fr:=c8 _;rw[bK];refine⟨λaH=>?_,λbL=>?_⟩
   rotate_left
   .
    have bM:j=D.len-dn n.keys fr:=by
     have:¬(j:Int)<((D.len-dn n.keys fr:Nat):Int):=cr bL;omega
    have hd:n.kids.drop (dn n.keys fr+j)=[]:=sM I;rw[hd]at S
    cases S;refine⟨c9,Q,mD,r.mono (by simp only[cx,eU,jE];omega),a4,.inl ⟨true,rfl,.skip (Cu a2) ?_⟩⟩;rw[fQ];exact d
   .have bM:j<D.len-dn n.keys fr:=by
     have:(j:Int)<((D.len-dn n.keys fr:Nat):Int):=b2 aH;omega
    have a5:dn n.keys fr+j<n.kids.length:=by omega
    have bN:=R.to.g8 aj;have bP:=bJ.go R.to;have ct:=R.to.ad.size;obtain⟨cv,a6,c,am⟩:=cI.at bN.kids a5;rw[ar]at a6
    cases a6;obtain⟨u,a7⟩:∃u,u=n.kids[dn n.keys fr+j]:=⟨_,rfl⟩;rw[←a7]at am;have bQ:n.kids.drop (dn n.keys fr+j)=u::n.kids.drop (dn n.keys fr+j+1):=by rw[iQ a5,a7]
    rw[bQ]at S
    cases S with
    | @cons bR bS _ _ an bT a8 bV bW bX=>
    have bY:c9.P=T.P:=r.P;have b0:a3.cell? ((A.add (dn n.keys fr)).add (Int.toNat (j:Int)*1))=some (.int .i64 (u:Int)):=by
     rw[c8,fz,add_add];rw[c8,fz]at am;exact am
    have b1:IntKind.wrap .i64 (((g+1+1:Nat):Int)-1)=((g+1:Nat):Int):=by rw[bu I I];omega
    have b3:IntKind.wrap .i64 ((j:Int)+1)=((j+1:Nat):Int):=by rw[bu I I];omega
    have b4:c9.aY=T.aY:=r.to.aY;simp only[eU,cx]at bj bi;have b5:(mD.length:Int)<most/\mD.length<=acc.length+o.length:=by
     have b7:gJ o:=(p6.1 (p6.1 bn).2.1).1;refine⟨?_,d.len b7⟩;rcases d with ⟨_,_,a9⟩|⟨a9,_⟩
     .omega
     .cases a9
    have cw:=r.to.aN;have a_:=bd (w:=a3) (T:=c9) (lo:=lo) (aD:=aD) (aY:=aY) (aU:=aU) (aT:=aT) (s:=Q) (fy:=fy) (fD:=fD) (acc:=mD) (L:=a8) (to:=to) (fr:=fr) (most:=most) (fa:=bR) (dK:=bS) (no:=u) (p:=an) a4 I bP I (by rw[bY];exact bW) b5.1 I I;rw[b4]at a_;refine⟨A.add (dn n.keys fr),by rw[ar];exact Hq I,⟨I,I⟩,u,b0,?_⟩;rw[b1,b3];refine a_.use ?_;rintro _ b8 ⟨jJ,ao,ap,ba,au,b9⟩;have aw:c0 T jJ w b8 (2+2*(m.length+an.length)):=(r.trans ba).mono I;rcases b9 with ⟨on,rfl,bb⟩|⟨rfl,W⟩
    .refine⟨on,0,rfl,λc=>?_,λc=>?_⟩
     .have c:on=false:=by simpa using c
      subst c;refine⟨jJ,ao,ap,aw.mono (by simp only[cx,eU];omega),au,.inl ⟨false,rfl,.skip (Cu a2) ?_⟩⟩;rw[←cD];exact(d.app bb).stop
     .have c:on=true:=by simpa using c
      subst c;refine⟨⟨j+1,jJ,ao,ap,m++an,bT,o++a8,bV,rfl,I,au,?_,?_,?_,by rw[cD],by rw[cD],d.app bb⟩,?_⟩
      .rw[cx];exact aw
      .rw[cx];exact(R.trans ba).mono I
      .rw[←qK];exact bX
      .show((D.len:Int)-((j+1:Nat):Int)).toNat<((D.len:Int)-(j:Int)).toNat
       omega
    .refine⟨false,3,rfl,λ_=>?_,λc=>(by simp at c)⟩
     refine⟨jJ,ao,ap,aw.mono (by simp only[cx,eU];omega),au,.inr ⟨rfl,λhc=>W (r.to.calm _ (ga hc (by simp only[cx,eU];omega)))⟩⟩
def Hs(T:aM)(L:O aJ)(fr to:Key)(most:Int)(a:Nat)(w:J)(v:aa)(w':J):Prop:=
 ∃ao:aM,bM w' ao/\c0 T ao w w' (2*a)/\ao.G=T.G/\
  ((∃s:U,v=.tuple #[s,(0:Int)]/\fU (λq=>¬ao.M q) w' s ((eP L fr to).take most.toNat))\/(v=.tuple #[(),(3:Int)]/\¬T.C.D.calm (2*a)))
theorem fU.none(B:Nat->Prop)(w:J):fU B w ⟨.none,0,0⟩ []:=(kM.none B w).r λq a=>(gg q a).elim
theorem c0.back{T ao:aM}{w w':J}{k:Nat}(ht:bM w T)(h:c0 T ao w w' k)(b:bM w' ao):bM w' (ao.cf T.E T.G)/\c0 T (ao.cf T.E T.G) w w' k:=
 ⟨b.grow (W:=λ_=>False) (ab.refl _ _) (λ_ h=>h.elim) (λq a=>.inl (by rw[h.E];exact a)) (λq a=>.inr (.inl (h.G q a))) λq a=>(ht.c7 q a).2.2,
  h.to.step (W:=λ_=>False) (ab.refl _ _) (λ_ h=>h.elim) (λq a=>.inl (by rw[h.E];exact a)) (λq a=>.inl (h.G q a)),rfl,λ_ h=>h,h.root,h.aG,h.f,h.P,h.view⟩
theorem Ht{w:J}{T:aM}{pages:O Nat}{L:O aJ}{fD fy:U}{fr to:Key}{most:Int}(h:bM w T)(H:gj T pages L)(aV:L.length<=30000)(ap:T.C.D.aN+2*pages.length<=999999999)
 (hf:Src 1 w fD (aF fr)) (u:∀q,az fD q->q<w.heap.size/\¬T.M q) (ht:Src 1 w fy (aF to)) (x:∀q,az fy q->q<w.heap.size/\¬T.M q) (aX:to.length<=1000000):
 aP ai 111 #[.pointer (some T.aY),fD,fy,most] w (Hs T L fr to most pages.length w):=by
 have aq:=h.num.2.1;refine okF (af.uy (some T.aY) fD fy most) ay.uy func111 ?_;(delta af.uy ak r1 Y ag k2;dsimp only);refine bh (vs:=[fD]) rfl λw1 K N aZ=>bh (vs:=[fy]) rfl λah Q y a0=>bh (vs:=[most]) rfl λR z o a1=>⟨λh=>(by cases h),λ_=>?_⟩;have A:=(N.trans y).trans o;have S:=h.ext A;refine⟨_,rfl,_,S.cells.2.2.2.2,cm (λb w'=>b=decide (T.aG=0\/most<1)/\R=w') (λq c=>⟨λd=>c _ _ ⟨?_,rfl⟩,λd=>⟨_,z.cell,c _ _ ⟨?_,rfl⟩⟩⟩) ?_⟩
 .have:T.aG=0:=by simpa using d
  simp[this]
 .have:T.aG≠0:=by simpa using d
  simp[this]
 rintro _ _ ⟨rfl,rfl⟩;refine⟨λd=>?_,λd=>?_⟩
 .have d:=b2 d
  have e:(eP L fr to).take most.toNat=[]:=by
   rcases d with d|d
   .rcases H with ⟨_,_,_,ar⟩|g
    .rw[ar];simp[eP]
    .rw[d]at g;exact g.elim
   .have:most.toNat=0:=by omega
    rw[this,List.take_zero]
  refine⟨T,S,(c0.ext T A).mono I,rfl,.inl ⟨⟨none,0,0⟩,rfl,?_⟩⟩;rw[e];exact fU.none _ _
 have d:=cr d;have g:d_ T.P T.aG none none T.root pages L:=by
  rcases H with ⟨av,_⟩|g
  .exact absurd (.inl av) d
  .exact g
 refine bh (vs:=[()]) rfl λB V l a2=>aS ?_;have i:Ext B B.drew:=b6 _;obtain⟨k,aw⟩:∃k,k=B.drew:=⟨_,rfl⟩;rw[←aw]at i⊢;obtain⟨aD,X⟩:∃aD,aD=R.heap.size:=⟨_,rfl⟩;obtain⟨aU,Z⟩:∃aU,aU=w.heap.size:=⟨_,rfl⟩;obtain⟨aY,aa⟩:∃aY,aY=w1.heap.size:=⟨_,rfl⟩;obtain⟨aT,ac⟩:∃aT,aT=ah.heap.size:=⟨_,rfl⟩;rw[←X]at V;rw[←Z]at K;rw[←aa]at Q;rw[←ac]at z;rw[←X,←Z,←aa,←ac];have m:=(A.trans l).trans i;have a3:=N.size;have a4:=y.size;have a5:=o.size;have a6:=l.size;have a7:=i.size;have ad:=V.ext i;have a8:=ad.lt;have F:∀q,w.heap.size<=q->¬T.M q:=λq c a=>by have:=h.lt a;omega
 obtain⟨bL,j⟩:∃bL,bL=T.cf T.E λq=>T.G q\/q=aD:=⟨_,rfl⟩;have ax:bM k bL:=by
  rw[j];refine h.grow (W:=λ_=>False) m (λ_ h=>h.elim) (λq c=>.inl c) (λq c=>.inr (c.imp id λe=>⟨I,I⟩)) λq c hg=>?_;rcases hg with hg|hg
  .exact(h.c7 q c).2.2 hg
  .have:=h.lt (q:=q) (.inr (.inr (.inr (.inl c))));omega
 have aA:c0 T bL w k 0:=by
  rw[j];exact⟨(bO.refl T w).step (W:=λ_=>False) m (λ_ h=>h.elim) (λq c=>.inl c) λq c=>c.imp id λe=>I,rfl,λ_ h=>.inl h,rfl,rfl,rfl,rfl,λ_=>rfl⟩
 have n:∀q,¬T.M q->q≠aD->¬bL.M q:=λq c aB a=>by
  rw[j]at a;rcases a with a|a|a|a|a
  .exact c (.inl a)
  .exact c (.inr (.inl a))
  .exact c (.inr (.inr (.inl a)))
  .exact c (.inr (.inr (.inr (.inl a))))
  .rcases a with a|a
   .exact c (.inr (.inr (.inr (.inr a))))
   .exact aB a
 have aC:bL.aY=T.aY:=by rw[j];rfl
 have ae:bL.C=T.C:=by rw[j];rfl
 have aE:bL.P=T.P:=by rw[j];rfl
 have aH:iP w.heap.size k bL aD ⟨none,0,0⟩ []:=⟨ax,ad,kM.none _ _,by rw[j];exact .inr rfl,λq c=>(gg q c).elim⟩;have aj:qw k bL aY aU aT fy fD to fr most:=⟨(((Q.ext o).ext l).ext i),((((K.ext y).ext o).ext l).ext i),((z.ext l).ext i),n _ (F _ I) I,n _ (F _ I) I,n _ (F _ I) I,
  ht.ext m,hf.ext m,λq c=>⟨by have:=(x q c).1;omega,n q (x q c).2 (by have:=(x q c).1;omega)⟩,λq c=>⟨by have:=(u q c).1;omega,n q (u q c).2 (by have:=(u q c).1;omega)⟩,I⟩
 have al:=Hr T.aG (acc:=[]) (no:=T.root) (L:=L) (p:=pages) (fa:=none) (dK:=none) aH I aj aq (by rw[aE];exact g) (by show(((([]:O aJ).length:Nat)):Int)<most;simp only[jE];omega) (by simp only[jE];omega) (by rw[ae];exact ap);rw[aC]at al;have am:=h.ext m;refine⟨λ_=>False,_,rfl,id,_,am.cells.2.2.2.1,_,rfl,id,_,am.cells.2.2.2.2,id,_,aj.we.cell,ab.refl _ _,al.use ?_⟩;rintro _ aI ⟨ao,an,a9,aK,f,aL⟩;have s:c0 T ao w aI (2*pages.length):=(aA.trans aK).mono I;obtain⟨b9,bQ⟩:=s.back h f.t;rcases aL with ⟨on,rfl,aO⟩|⟨rfl,aQ⟩
 .refine⟨on,0,rfl,λhx=>(by cases hx),λ_=>⟨an,f.v.cell,_,b9,bQ,rfl,.inl ⟨an,rfl,?_⟩⟩⟩
  have he:=aO.all g.e_.1;rw[←he];have aR:∀q,¬ao.M q->¬(ao.cf T.E T.G).M q:=λq c a=>c (by
   rcases a with a|a|a|a|a
   .exact .inl a
   .exact .inr (.inl a)
   .exact .inr (.inr (.inl a))
   .exact .inr (.inr (.inr (.inl (by rw[s.E];exact a))))
   .exact .inr (.inr (.inr (.inr (s.G q a)))))
  refine(f.own.aW λq _ c=>aR q c).r λq c a=>?_;obtain⟨au,a_,ba⟩:=f.gs q c;rcases a with a|a|a|a|a
  .exact f.t.r_ au a
  .exact(f.t.h5 q au).1 a
  .exact(f.t.h5 q au).2 a
  .exact(f.t.c7 q (by rw[s.E];exact a)).2.2 au
  .have:=h.lt (q:=q) (.inr (.inr (.inr (.inr a))));omega
 .exact⟨false,3,rfl,λ_=>⟨_,b9,bQ,rfl,.inr ⟨rfl,by rw[←ae];exact aQ⟩⟩,λhx=>(by simp at hx)⟩
theorem Cw{w:J}{T:aM}(h:bM w T):aP ai 147 #[.pointer (some T.aY)] w (λv w'=>v=.tuple #[T.root,T.aG]/\Ext w w'):=by
 refine okF (af.uL (some T.aY)) ay.uL func147 ?_;(delta af.uL ak r1;dsimp only);have hd:=h.ext (b6 w);exact⟨λh=>(by cases h),λ_=>aS ⟨_,rfl,id,_,hd.cells.2.2.2.1,_,rfl,id,_,hd.cells.2.2.2.2,rfl,b6 w⟩⟩
end Go.Proofs.YtkdhdlfonmgheaaGreat
namespace Go.Proofs.YtkdhdlfonmgheaaGreat
open Go Go.Proofs Go.Shelf
def Cx:Go.Shelf.Ren:=⟨λ |7=>178|10=>232|n=>n,λ |23=>137|26=>3|3=>136|28=>264|0=>0|27=>263|33=>180|4=>4|n=>n,λ |n=>n⟩
theorem Hu:Go.Proofs.SlLaysZI.n7 Tryz.prog Cx:={
 mixed:=by kernel_rfl
 f7:=⟨Tryz.f178.name,by decide,Tryz.func178.trans (congrArg some (by kernel_rfl))⟩
 f10:=⟨Tryz.f232.name,by decide,Tryz.func232.trans (congrArg some (by kernel_rfl))⟩
 t0:=Tryz.underlying0
 a0:=Tryz.isAgg0
 z0:=Tryz.sizeOf0
 v0:=Tryz.zeroValue0
 t4:=Tryz.underlying4
 a4:=Tryz.isAgg4
 z4:=Tryz.sizeOf4
 v4:=Tryz.zeroValue4
 t23:=Tryz.underlying137
 a23:=Tryz.isAgg137
 z23:=Tryz.sizeOf137
 v23:=Tryz.zeroValue137
 t26:=Tryz.underlying3
 a26:=Tryz.isAgg3
 z26:=Tryz.sizeOf3
 v26:=Tryz.zeroValue3
 t27:=Tryz.underlying263
 a27:=Tryz.isAgg263
 z27:=Tryz.sizeOf263
 v27:=Tryz.zeroValue263
 t28:=Tryz.underlying264
 a28:=Tryz.isAgg264
 z28:=Tryz.sizeOf264
 v28:=Tryz.zeroValue264
 t33:=Tryz.underlying180
 a33:=Tryz.isAgg180
 z33:=Tryz.sizeOf180
 v33:=Tryz.zeroValue180}
def Cy:Go.Shelf.Ren:=⟨λ |6=>177|8=>231|9=>153|11=>271|13=>213|12=>212|23=>264|24=>265|14=>255|15=>256|16=>257|17=>258|18=>259|19=>260|20=>261|21=>262|22=>263|25=>286|26=>287|27=>288|28=>289|29=>290|30=>291|31=>297|n=>n,λ |26=>3|28=>264|24=>58|0=>0|3=>3|37=>101|48=>219|50=>27|4=>4|40=>340|39=>339|45=>175|5=>5|9=>9|51=>364|55=>367|57=>371|58=>234|33=>180|n=>n,λ |n=>n⟩
theorem Hv:Go.Proofs.SlLaysZI.n6 Tryz.prog Cy:={
 mixed:=by kernel_rfl
 f6:=⟨Tryz.f177.name,by decide,Tryz.func177.trans (congrArg some (by kernel_rfl))⟩
 f8:=⟨Tryz.f231.name,by decide,Tryz.func231.trans (congrArg some (by kernel_rfl))⟩
 f11:=⟨Tryz.f271.name,by decide,Tryz.func271.trans (congrArg some (by kernel_rfl))⟩
 t0:=Tryz.underlying0
 a0:=Tryz.isAgg0
 z0:=Tryz.sizeOf0
 v0:=Tryz.zeroValue0
 t24:=Tryz.underlying58
 a24:=Tryz.isAgg58
 z24:=Tryz.sizeOf58
 v24:=Tryz.zeroValue58
 t26:=Tryz.underlying3
 a26:=Tryz.isAgg3
 z26:=Tryz.sizeOf3
 v26:=Tryz.zeroValue3
 t28:=Tryz.underlying264
 a28:=Tryz.isAgg264
 z28:=Tryz.sizeOf264
 v28:=Tryz.zeroValue264
 i26:=by kernel_rfl}
def Hw:Go.Shelf.Ren:=⟨λ |5=>153|8=>213|7=>212|19=>264|20=>265|10=>255|11=>256|12=>257|13=>258|14=>259|15=>260|16=>261|17=>262|18=>263|30=>286|31=>287|32=>288|33=>289|34=>290|35=>291|40=>297|n=>n,λ |23=>58|25=>3|3=>3|32=>101|22=>58|0=>0|44=>219|46=>27|4=>4|36=>340|35=>339|41=>175|5=>5|9=>9|53=>364|57=>367|63=>371|64=>234|n=>n,λ |n=>n⟩
theorem wg:Go.Proofs.SlLaysM.n5 Tryz.prog Hw:={
 mixed:=by kernel_rfl
 f5:=⟨Tryz.f153.name,by decide,Tryz.func153.trans (congrArg some (by kernel_rfl))⟩
 f7:=⟨Tryz.f212.name,by decide,Tryz.func212.trans (congrArg some (by kernel_rfl))⟩
 f8:=Tryz.func213.trans (congrArg some (by kernel_rfl))
 f10:=⟨Tryz.f255.name,by decide,Tryz.func255.trans (congrArg some (by kernel_rfl))⟩
 f11:=⟨Tryz.f256.name,by decide,Tryz.func256.trans (congrArg some (by kernel_rfl))⟩
 f12:=⟨Tryz.f257.name,by decide,Tryz.func257.trans (congrArg some (by kernel_rfl))⟩
 f13:=⟨Tryz.f258.name,by decide,Tryz.func258.trans (congrArg some (by kernel_rfl))⟩
 f14:=⟨Tryz.f259.name,by decide,Tryz.func259.trans (congrArg some (by kernel_rfl))⟩
 f15:=⟨Tryz.f260.name,by decide,Tryz.func260.trans (congrArg some (by kernel_rfl))⟩
 f16:=⟨Tryz.f261.name,by decide,Tryz.func261.trans (congrArg some (by kernel_rfl))⟩
 f17:=⟨Tryz.f262.name,by decide,Tryz.func262.trans (congrArg some (by kernel_rfl))⟩
 f18:=⟨Tryz.f263.name,by decide,Tryz.func263.trans (congrArg some (by kernel_rfl))⟩
 f19:=Tryz.func264.trans (congrArg some (by kernel_rfl))
 f20:=Tryz.func265.trans (congrArg some (by kernel_rfl))
 f30:=⟨Tryz.f286.name,by decide,Tryz.func286.trans (congrArg some (by kernel_rfl))⟩
 f31:=Tryz.func287.trans (congrArg some (by kernel_rfl))
 f32:=Tryz.func288.trans (congrArg some (by kernel_rfl))
 f33:=⟨Tryz.f289.name,by decide,Tryz.func289.trans (congrArg some (by kernel_rfl))⟩
 f34:=⟨Tryz.f290.name,by decide,Tryz.func290.trans (congrArg some (by kernel_rfl))⟩
 f35:=⟨Tryz.f291.name,by decide,Tryz.func291.trans (congrArg some (by kernel_rfl))⟩
 f40:=⟨Tryz.f297.name,by decide,Tryz.func297.trans (congrArg some (by kernel_rfl))⟩
 t0:=Tryz.underlying0
 a0:=Tryz.isAgg0
 z0:=Tryz.sizeOf0
 v0:=Tryz.zeroValue0
 t3:=Tryz.underlying3
 a3:=Tryz.isAgg3
 z3:=Tryz.sizeOf3
 v3:=Tryz.zeroValue3
 t4:=Tryz.underlying4
 a4:=Tryz.isAgg4
 z4:=Tryz.sizeOf4
 v4:=Tryz.zeroValue4
 t5:=Tryz.underlying5
 a5:=Tryz.isAgg5
 z5:=Tryz.sizeOf5
 v5:=Tryz.zeroValue5
 t9:=Tryz.underlying9
 a9:=Tryz.isAgg9
 z9:=Tryz.sizeOf9
 v9:=Tryz.zeroValue9
 t22:=Tryz.underlying58
 a22:=Tryz.isAgg58
 z22:=Tryz.sizeOf58
 v22:=Tryz.zeroValue58
 t23:=Tryz.underlying58
 a23:=Tryz.isAgg58
 z23:=Tryz.sizeOf58
 v23:=Tryz.zeroValue58
 t25:=Tryz.underlying3
 a25:=Tryz.isAgg3
 z25:=Tryz.sizeOf3
 v25:=Tryz.zeroValue3
 t32:=Tryz.underlying101
 a32:=Tryz.isAgg101
 z32:=Tryz.sizeOf101
 v32:=Tryz.zeroValue101
 t35:=Tryz.underlying339
 a35:=Tryz.isAgg339
 z35:=Tryz.sizeOf339
 v35:=Tryz.zeroValue339
 t36:=Tryz.underlying340
 a36:=Tryz.isAgg340
 z36:=Tryz.sizeOf340
 v36:=Tryz.zeroValue340
 t41:=Tryz.underlying175
 a41:=Tryz.isAgg175
 z41:=Tryz.sizeOf175
 v41:=Tryz.zeroValue175
 t44:=Tryz.underlying219
 a44:=Tryz.isAgg219
 z44:=Tryz.sizeOf219
 v44:=Tryz.zeroValue219
 t46:=Tryz.underlying27
 a46:=Tryz.isAgg27
 z46:=Tryz.sizeOf27
 v46:=Tryz.zeroValue27
 t53:=Tryz.underlying364
 a53:=Tryz.isAgg364
 z53:=Tryz.sizeOf364
 v53:=Tryz.zeroValue364
 t57:=Tryz.underlying367
 a57:=Tryz.isAgg367
 z57:=Tryz.sizeOf367
 v57:=Tryz.zeroValue367
 t63:=Tryz.underlying371
 a63:=Tryz.isAgg371
 z63:=Tryz.sizeOf371
 v63:=Tryz.zeroValue371
 t64:=Tryz.underlying234
 a64:=Tryz.isAgg234
 z64:=Tryz.sizeOf234
 v64:=Tryz.zeroValue234}
end Go.Proofs.YtkdhdlfonmgheaaGreat
namespace Go.Proofs.YtkdhdlfonmgheaaGreat
open Go a_ Go.Proofs.Tryz
theorem Hx{w:J}{b n:Nat}{c:Array aa}{T:TypeId}{os:Array Obj}{zs:O Int}(h:bq w b c T)(g:zs.length<=c.size):
 ∃c':Array aa,bq (Go.Sort.grow (Go.Sort.putRow (Value.int .i64) (Go.Sort.ahead w n) b 0 zs.toArray) os) b c' T/\c'.size=c.size/\c'.toList.take zs.length=zs.map encZ/\ab (λq=>q=b) w (Go.Sort.grow (Go.Sort.putRow (Value.int .i64) (Go.Sort.ahead w n) b 0 zs.toArray) os):=by
 have aH:=h.lt;have d:∀k,k<w.heap.size->(Go.Sort.grow (Go.Sort.putRow (Value.int .i64) (Go.Sort.ahead w n) b 0 zs.toArray) os).heap[k]? =(w.heap.modify b (Go.Sort.onCells (Go.Sort.putCells (Value.int .i64) 0 zs.toArray)))[k]? :=λk a=>by
  show((w.heap.modify b _)++os)[k]? =_;rw[Array.getElem?_append_left (by simpa using a)]
 refine⟨Go.Sort.putCells (Value.int .i64) 0 zs.toArray c,?_,by simp[Go.Sort.putCells],?_,rfl,rfl,rfl,?_,λk a f=>?_⟩
 .unfold bq at h⊢
  rw[d b aH,sA,if_pos rfl,h];rfl
 .apply List.ext_getElem?
  intro i;rw[qM];split
  .rename_i hi
   rw[Array.getElem?_toList,Go.Sort.putCells,Array.getElem?_mapIdx,Array.getElem?_eq_getElem I,lq,if_pos ⟨cE _,by simpa using hi⟩,kn,c_ hi];simp[hi]
  .rename_i hi
   rw[iU (by simpa using hi)]
 .show w.heap.size<=((w.heap.modify b _)++os).size
  simp
 .rw[d k a,sA,if_neg (λe=>f e.symm)]
theorem yK(ds:O Nat):dW ds=(ds.map λd=>((d:Nat):Int)).map encZ:=by simp[dW]
theorem Cz{w:J}{s:U}{zs:O Int}(h:a8 1 3 w s (zs.map encZ))(H:zs.length<=1000000):
 aP ai 153 #[s] w (λv w'=>v=.tuple #[]/\ab (az s) w w'/\∃d:O Int,a8 1 3 w' s (d.map encZ)/\d.Perm zs/\d.Pairwise λa b=>a<=b):=by
 have K:s.len=zs.length:=by have:=h.1;rw[dL]at this;omega
 rcases nJ zs.length with h0|h0
 .have hd:zs=[]:=kl.1 h0
  have e:s.len=0:=by omega
  rw[e];refine Calls.mono (AnyM.slices_Sort_int_none wg s.a s.cap w) ?_;rintro _ _ ⟨rfl,rfl⟩;exact⟨_,rfl,rfl,.refl _ _,[],by rw[hd]at h;exact h,by rw[hd],List.Pairwise.nil⟩
 obtain⟨h1,m,z,A⟩:=h;rcases A with ⟨_,g⟩|⟨b,c,i,f,B,C⟩
 .omega
 have D:Go.Sort.Holds (Value.int .i64) w b 0 zs.toArray:=λj E=>by
  have o:j<zs.length:=by simpa using E
  refine⟨?_,bq.frozen f _ rfl⟩;rw[f.cell,cA];have e:=congrArg (λl=>l[j]?) C;simp only[qM,kn,c_ o,lq]at e;rw[if_pos I,Array.getElem?_toList]at e;rw[e];simp[o]
 have F:=AnyM.slices_Sort_int wg b 0 s.cap zs w D f.lt I;rw[i];have e:s.len=zs.length:=by omega
 rw[e];refine Calls.mono F ?_;rintro _ w' ⟨rfl,n,os,rfl⟩;obtain⟨c',au,p,r,t⟩:=Hx (n:=n) (os:=os) (zs:=zs.mergeSort λx y=>decide (x<=y)) f (by rw[List.length_mergeSort];omega);have k:=List.mergeSort_perm zs λx y=>decide (x<=y);have u:(zs.mergeSort λx y=>decide (x<=y)).Pairwise λa b=>decide (a<=b)=true:=List.pairwise_mergeSort (λa b c h1 m=>by simp only[cS]at*;omega) (λa b=>by simp only[jl,cS];omega) zs;generalize (zs.mergeSort λx y=>decide (x<=y))=d at au p r t k u;refine⟨_,rfl,rfl,t.mono λq _ e=>⟨b,i,e.symm⟩,d,?_,k,u.imp λh=>b2 h⟩;have G:=k.length_eq;have g:=a8.mk' (sz:=1) (n:=s.len) (cap:=s.cap) au (vs:=d.map encZ) (by rw[dL];omega) m z (by rw[p];exact B) (by rw[fz,e,←G];exact r);rw[←i]at g;exact g
theorem CA{w:J}{s:U}{ds:O Nat}(h:a8 1 3 w s (dW ds))(i:ds.length<=1000000):
 aP ai 153 #[.slice s.a s.len s.cap] w (λv w'=>v=.tuple #[]/\ab (az s) w w'/\∃es:O Nat,a8 1 3 w' s (dW es)/\es.Perm ds/\es.Pairwise λa b=>a<=b):=by
 rw[yK]at h;refine(Cz h (by rw[dL];exact i)).mono ?_;rintro v w' ⟨rfl,hc,c,j,f,k⟩;have g:∀y∈c,0<=y:=λy e=>by
  obtain⟨d,_,rfl⟩:=dv.1 (f.mem_iff.1 e);omega
 have l:(c.map Int.toNat).map (λd=>((d:Nat):Int))=c:=by
  rw[ic]
  conv=>rhs;rw[←List.map_id c]
  refine qU λy e=>?_;have:=g y e;show((y.toNat:Nat):Int)=y;omega
 refine⟨rfl,hc,c.map Int.toNat,by rw[yK,l];exact j,?_,?_⟩
 .have:=f.map Int.toNat
  rw[ic]at this;have m:(Int.toNat∘ λd:Nat=>((d:Nat):Int))=id:=by funext d;simp
  rw[m,List.map_id]at this;exact this
 .rw[List.pairwise_map]
  exact k.imp_of_mem λn o p=>by
   have:=g _ n;omega
theorem Hy{B:Nat->Prop}{w:J}{s:U}{ds:O Nat}(h:cI B w s ds)(no:Nat)(k:ds.length<=1000000):
 aP ai 184 #[s,no] w (λv w'=>∃n:Int,v=n/\(0<=n↔no∈ds)/\w=w'):=by
 have l:=h.len;refine okF (af.tN s (no:Nat)) ay.tN func184 ?_;(delta af.tN ak aI r1 av;dsimp only);refine⟨λn w'=>∃i:Nat,n=(i:Int)/\i<=ds.length/\no∉ds.take i/\w=w',λn _=>((ds.length:Int)-n).toNat,⟨0,rfl,cE _,by simp,rfl⟩,?_⟩;rintro _ _ ⟨i,rfl,hi,d,rfl⟩;refine⟨λaH=>?_,λf=>?_⟩
 .have b:i<ds.length:=by
   have:(i:Int)<(s.len:Int):=b2 aH;omega
  obtain⟨A,ar,g,hc⟩:=cI.at h b;refine⟨A,ar,g,_,hc,λhe=>?_,λc=>?_⟩
  .have he:no=ds[i]:=by
    have:(no:Int)=((ds[i]:Nat):Int):=by simpa using he
    omega
   exact⟨_,rfl,⟨λ_=>by rw[he];exact cw _,λ_=>I⟩,rfl⟩
  .have c:no≠ds[i]:=λe=>by rw[e]at c;simp at c
   have j:IntKind.wrap .i64 ((i:Int)+1)=((i+1:Nat):Int):=by rw[bu I I];omega
   rw[j];refine⟨⟨i+1,rfl,I,?_,rfl⟩,by show((ds.length:Int)-((i+1:Nat):Int)).toNat<((ds.length:Int)-(i:Int)).toNat;omega⟩;rw[iy b];intro a;rcases cR.1 a with a|a
   .exact d a
   .exact c (fi.1 a)
 .have b:i=ds.length:=by
   have:¬(i:Int)<(s.len:Int):=cr f;omega
  rw[b,iz]at d;exact⟨-1,rfl,⟨λh=>I,λh=>absurd h d⟩,rfl⟩
theorem Hz{B:Nat->Prop}{w:J}{s:U}{ds:O Nat}(h:cI B w s ds)(no:Nat)(a:ds.length<=1000000):
 aP ai 118 #[s,no] w (λv w'=>v=.bool (decide (no∈ds))/\w=w'):=by
 refine okF (af.tJ s (no:Nat)) ay.tJ func118 ?_;(delta af.tJ aA;dsimp only);refine(Hy h no a).use ?_;rintro _ _ ⟨n,rfl,b,rfl⟩;refine⟨n,rfl,?_,rfl⟩
 congr 1
 exact decide_eq_decide.2 b
def iq(B:Nat->Prop)(w:J)(t:U):aq Key->Prop
 |none=>t.a=none
 |some k=>k≠ []/\a7 B w t k
theorem iq.ad{B W:Nat->Prop}{w w':J}{t:U}{o:aq Key}(h:iq B w t o)(hc:ab W w w')(b:∀q,B q->q<w.heap.size->¬W q):iq B w' t o:=by
 cases o with
 |none=>exact h
 |some k=>exact⟨h.1,a7.iL h.2 hc λq a=>b q (h.2.2.2 q a).1 (h.2.2.2 q a).2⟩
theorem iq.aW{B C:Nat->Prop}{w:J}{t:U}{o:aq Key}(h:iq B w t o)(a:∀q,q<w.heap.size->B q->C q):iq C w t o:=by
 cases o with
 |none=>exact h
 |some k=>exact⟨h.1,a7.aW h.2 a⟩
theorem iq.nil{B:Nat->Prop}{w:J}{t:U}{o:aq Key}(h:iq B w t o):(!(Option.isNone t.a))=o.isSome:=by
 cases o with
 |none=>rw[show t.a=none from h];rfl
 |some k=>
  obtain⟨A,ar⟩:=a7.some h.2 h.1;rw[ar];rfl
theorem p1{B C D:Nat->Prop}{w:J}{n:aB}{K V m lQ lR:U}{lo hi:aq Key}(E:bz B w n K V m)(T:n.keys.length<=100000)(M:iq C w lQ lo)(N:iq D w lR hi):
 aP ai 254 #[cX n K V m,lQ,lR] w (λv w'=>∃b:aj,v=b/\(b=true↔n.within lo hi)/\Ext w w'):=by
 have X:=bl.len E.keys;refine okF (af.p1 n.leaf K V m lQ lR) ay.p1 func254 ?_;(delta af.p1 ag Y ak aI aA av;dsimp only);refine bh (vs:=dQ n K V m) rfl λw1 O g Z=>?_;obtain⟨bU,aA,aR,aK⟩:=bC O;have P:=E.ext g;have p:=M.ad (W:=λ_=>False) g λ_ _ _ h=>h;have s:=N.ad (W:=λ_=>False) g λ_ _ _ h=>h;refine⟨K,aA,λi w'=>∃t:Nat,i=(t:Int)/\t<=n.keys.length/\(∀k∈n.keys.take t,fk lo hi k)/\w1=w',λi _=>((n.keys.length:Int)-i).toNat,⟨0,rfl,cE _,by simp,rfl⟩,?_⟩;rintro _ _ ⟨i,rfl,aa,u,rfl⟩;refine⟨λaH=>?_,λQ=>?_⟩
 rotate_left
 .have o:i=n.keys.length:=by
   have:¬(i:Int)<(K.len:Int):=cr Q;omega
  rw[o,iz]at u;exact⟨true,rfl,⟨λ_=>u,λ_=>rfl⟩,g⟩
 have o:i<n.keys.length:=by
  have:(i:Int)<(K.len:Int):=b2 aH;omega
 obtain⟨A,tk,ar,j,hc,x,_⟩:=bl.at P.keys o;obtain⟨key,y⟩:∃key,key=n.keys[i]:=⟨_,rfl⟩;rw[←y]at x;refine⟨A,ar,j,tk,hc,cm (λb w'=>(b=true↔¬∀a,lo=some a->ek a key)/\w1=w') (λq l=>⟨λc=>?_,λc=>?_⟩) ?_⟩
 .rw[p.nil]at c
  cases lo with
  |none=>cases c
  |some a=>
   refine(kA x.1 p.2.1).use ?_;rintro _ _ ⟨rfl,rfl⟩;refine⟨_,rfl,l _ _ ⟨?_,rfl⟩⟩;rw[cS];constructor
   .exact λh d=>d a rfl h
   .exact λh=>pb λd=>h λb j=>by cases j;exact d
 .rw[p.nil]at c
  cases lo with
  |none=>exact l _ _ ⟨⟨λh=>(by cases h),λh=>absurd (λa e=>(by cases e)) h⟩,rfl⟩
  |some a=>cases c
 rintro ab _ ⟨F,rfl⟩;refine cm (λb w'=>(b=true↔¬fk lo hi key)/\w1=w') (λq l=>⟨λc=>l _ _ ⟨⟨λ_ h=>(F.1 c) h.1,λ_=>rfl⟩,rfl⟩,λc=>?_⟩) ?_
 .have R:∀a,lo=some a->ek a key:=Classical.byContradiction λd=>by rw[F.2 d]at c;cases c
  refine cm (λb w'=>(b=true↔¬∀a,hi=some a->bH key a)/\w1=w') (λr G=>⟨λd=>?_,λd=>?_⟩) ?_
  .rw[s.nil]at d
   cases hi with
   |none=>cases d
   |some a=>
    refine(kA x.1 s.2.1).use ?_;rintro _ _ ⟨rfl,rfl⟩;refine⟨_,rfl,G _ _ ⟨?_,rfl⟩⟩;rw[cS];constructor
    .exact λh d=>by
      have:ew key a<0:=d a rfl;omega
    .exact λh=>pb λd=>h λb j=>by cases j;show ew key a<0;omega
  .rw[s.nil]at d
   cases hi with
   |none=>exact G _ _ ⟨⟨λh=>(by cases h),λh=>absurd (λa e=>(by cases e)) h⟩,rfl⟩
   |some a=>cases d
  .rintro ac _ ⟨H,rfl⟩
   exact l _ _ ⟨⟨λh z=>H.1 h z.2,λh=>H.2 λz=>h ⟨R,z⟩⟩,rfl⟩
 .rintro ae _ ⟨L,rfl⟩
  have S:IntKind.wrap .i64 ((i:Int)+1)=((i+1:Nat):Int):=by rw[bu I I];omega
  refine⟨λc=>⟨false,rfl,⟨λh=>(by cases h),λh=>absurd (h key (by rw[y];exact cw _)) (L.1 c)⟩,g⟩,λc=>?_⟩;rw[S];refine⟨⟨i+1,rfl,I,λk f=>?_,rfl⟩,by show((n.keys.length:Int)-((i+1:Nat):Int)).toNat<((n.keys.length:Int)-(i:Int)).toNat;omega⟩;rw[iy o]at f;rcases cR.1 f with f|f
  .exact u k f
  .rw[fi.1 f,←y]
   exact Classical.byContradiction λh=>by rw[L.2 h]at c;cases c
theorem dE.each{W:Below}{lo hi:aq Key}{ks:O Key}{kids p:O Nat}{L:O aJ}(h:dE W lo hi ks kids p L):
 ∃ (ps:O (O Nat)) (a:O (O aJ)),ps.length=kids.length/\a.length=kids.length/\p=ps.flatten/\L=a.flatten/\
  ∀ (i:Nat) (h1:i<kids.length) (b:i<ps.length) (c:i<a.length),W (if i=0 then lo else ks[i-1]?) (if i<ks.length then ks[i]? else hi) kids[i] ps[i] a[i]:=by
 induction h with
 | @one lo hi k p L h=>
  refine⟨[p],[L],rfl,rfl,by simp,by simp,λi h1 b c=>?_⟩;have:i=0:=by simpa using h1
  subst this;exact h
 | @cons lo hi s k br bt bf bB ks kids h t d=>
  obtain⟨ps,a,au,e,rfl,rfl,f⟩:=d;have g:=t.len;refine⟨br::ps,bf::a,by simp[au],by simp[e],by simp,by simp,λi h1 b c=>?_⟩
  cases i with
  |zero=>simpa using h
  |succ i=>
   have:=f i (by simpa using h1) (by simpa using b) (by simpa using c);simp only[List.getElem_cons_succ,eU,Nat.add_lt_add_iff_right,wD,Nat.add_one_ne_zero,if_false,Nat.add_sub_cancel]
   cases i with
   |zero=>simpa using this
   |succ i=>simpa using this
structure ia(w:J)(T:aM)(dN:Nat)(s:U)(ps:O Nat)(k:Nat):Prop where
 t:bM w T
 v:Var w dN [.pointer (some T.aY),s,k] 303
 own:a8 1 3 w s (dW ps)
 qx:T.G dN
 gs:∀q,az s q->T.G q/\q≠dN
section
variable {w w':J}{T ao:aM}{dN k:Nat}{s:U}{ps:O Nat}
theorem ia.of{W:Nat->Prop}(h:ia w T dN s ps k)(d:bM w' ao)(e:ao.aY=T.aY)(b:∀q,T.G q->ao.G q)(c:ab W w w')(cd:∀q,T.G q->¬W q):ia w' ao dN s ps k:=
 ⟨d,by rw[e];exact h.v.ad c (cd _ h.qx),h.own.ad c λq a=>cd q (h.gs q a).1,b _ h.qx,λq a=>⟨b q (h.gs q a).1,(h.gs q a).2⟩⟩
theorem ia.ext(h:ia w T dN s ps k)(hx:Ext w w'):ia w' T dN s ps k:=h.of (h.t.ext hx) rfl (λ_ h=>h) hx λ_ _ h=>h
theorem ia.cells(h:ia w T dN s ps k):w.cell? dN=some (.pointer (some T.aY))/\w.cell? (Addr.add dN 1)=some (.slice s.a s.len s.cap)/\w.cell? (Addr.add dN 2)=some (.int .i64 (k:Nat)):=by
 rw[aw,aw];exact⟨h.v.cell,h.v.cell,h.v.cell⟩
theorem HA(h:ia w T dN s ps k)(no:Nat)(x:ps.length<=100000):
 ∃ (b:U) (ah:J),Sem.run ai (Builtin.append_ #[58,58] 58 #[s,.slice (some w.heap.size) 1 1]) (w.alloc (.cells #[no] 3))=.ok b ah/\
  (∃u:aa,ah.cell? ⟨dN,1,none⟩=some u)/\ah.frozen? ⟨dN,1,none⟩=false/\
  ∀c,c=ah.setCell ⟨dN,1,none⟩ b->ia c (T.cf T.E λq=>T.G q\/az b q) dN b (ps++ [no]) k/\c0 T (T.cf T.E λq=>T.G q\/az b q) w c 0:=by
 obtain⟨b,ah,au,j,d,f,y⟩:=yt no h.own I;have cd:∀q,az s q->T.G q:=λq a=>(h.gs q a).1;have z:=d.size;have l:=h.v.ad d λa=>(h.gs _ a).2 rfl;obtain⟨bx,bG⟩:=dF l (i:=1) (by simp);refine⟨b,ah,au,bx,bG,?_⟩;rintro _ rfl;have g:=dp ah dN 1 b;have p:=dM l (i:=1) b;have m:ab T.G w (ah.setCell ⟨dN,1,none⟩ b):=ct (d.mono λq _ a=>cd q a) g λq _ e=>by rw[e];exact h.qx
 have n:∀q,az b q->T.G q\/(w.heap.size<=q/\q<(ah.setCell ⟨dN,1,none⟩ b).heap.size):=λq a=>by
  rcases f q a with h1|h1
  .exact .inl (cd q h1)
  .exact .inr ⟨h1,by have:=a8.lt j q a;have:=g.size;omega⟩
 have o:∀q,az b q->q≠dN:=λq a e=>by
  rcases f q a with h1|h1
  .exact(h.gs q h1).2 e
  .have:=h.v.lt;omega
 have r:=h.t.grow (E:=T.E) (G:=λq=>T.G q\/az b q) m (λq a _=>.inr a) (λq a=>.inl a) (λq a=>by
  rcases a with a|a
  .exact .inr (.inl a)
  .exact .inr (n q a)) λq a hg=>by
  rcases hg with hg|hg
  .exact(h.t.c7 q a).2.2 hg
  .rcases f q hg with h1|h1
   .exact(h.t.c7 q a).2.2 (cd q h1)
   .have:=h.t.lt (q:=q) (.inr (.inr (.inr (.inl a))));omega
 refine⟨⟨r,p,j.ad g λq a e=>o q a e,.inl h.qx,λq a=>⟨.inr a,o q a⟩⟩,?_,rfl,λ_ h=>.inl h,rfl,rfl,rfl,rfl,λ_=>rfl⟩;exact(bO.refl T w).step m (λq a _=>.inr (.inr (.inr a))) (λq a=>.inl a) λq a=>by
  rcases a with a|a
  .exact .inl a
  .exact(n q a).imp id λe=>e.1
theorem HB(h:ia w T dN s ps k)(m:Nat):(∃u:aa,w.cell? (Addr.add dN 2)=some u)/\w.frozen? (Addr.add dN 2)=false/\
 ia (w.setCell (Addr.add dN 2) m) T dN s ps m/\c0 T T w (w.setCell (Addr.add dN 2) m) 0:=by
 rw[aw];obtain⟨bx,bG⟩:=dF h.v (i:=2) (by simp);have b:=dp w dN 2 m;have hc:ab T.G w (w.setCell ⟨dN,2,none⟩ m):=b.mono λq _ e=>by rw[e];exact h.qx
 refine⟨bx,bG,⟨?_,dM h.v (i:=2) _,h.own.ad b λq a e=>(h.gs q a).2 e,h.qx,h.gs⟩,?_,rfl,λ_ h=>h,rfl,rfl,rfl,rfl,λ_=>rfl⟩
 .exact h.t.grow (E:=T.E) (G:=T.G) hc (λq a _=>.inr a) (λq a=>.inl a) (λq a=>.inr (.inl a)) λq a=>(h.t.c7 q a).2.2
 .exact(bO.refl T w).step (E:=T.E) (G:=T.G) hc (λq a _=>.inr (.inr (.inr a))) (λq a=>.inl a) λq a=>.inl a
end
theorem bO.aI{T ao:aM}{w w':J}{k:Nat}{t:U}{o:aq Key}(h:bO T ao w w' k)(a:iq (λq=>¬T.M q) w t o):iq (λq=>¬ao.M q) w' t o:=by
 have h1:iq (λq=>q<w.heap.size/\¬T.M q) w t o:=a.aW λq b a=>⟨b,a⟩;exact(h1.ad h.ad λq b _ c=>b.2 (aM.gh c)).aW λq _ a=>(h.out a.1 a.2).1
theorem c0.bad{T ao:aM}{w w':J}{k x:Nat}(h:c0 T ao w w' k)(a:kg ao x):kg T x:=by
 obtain⟨h1,e,b⟩:=a;exact⟨by rw[←h.to.n];exact h1,e,by rw[←h.view];exact b⟩
theorem c0.HC{T ao:aM}{w w':J}{k x:Nat}(h:c0 T ao w w' k)(a:kg T x):kg ao x:=by
 obtain⟨h1,e,b⟩:=a;exact⟨by rw[h.to.n];exact h1,e,by rw[h.view];exact b⟩
theorem d_.CB{P:Nat->aq aB}{h:Nat}{lo hi:aq Key}{no:Nat}{p:O Nat}{L:O aJ}(e:d_ P (h+1) lo hi no p L):∃ (n:aB) (b:O Nat),P no=some n/\n.leaf=decide (h=0)/\cF n/\p=no::b/\n.within lo hi/\
 ((h=0/\gP n/\b=[]/\L.length=n.keys.length)\/(vu n/\∃ (ps:O (O Nat)) (c:O (O aJ)),ps.length=n.kids.length/\c.length=n.kids.length/\b=ps.flatten/\L=c.flatten/\
   ∀ (i:Nat) (h1:i<n.kids.length) (a:i<ps.length) (d:i<c.length),d_ P h (if i=0 then lo else n.keys[i-1]?) (if i<n.keys.length then n.keys[i]? else hi) n.kids[i] ps[i] c[i])):=by
 match h,e with
 |0,⟨n,h1,a,d,j,f,g⟩=>
  refine⟨n,[],h1,a.leaf,.inl a,f,d,.inl ⟨rfl,a,rfl,?_⟩⟩;rw[g];unfold aB.dJ;rw[mM,a.len,Nat.min_self]
 |h+1,⟨n,b,h1,a,d,j,f⟩=>
  have g:=f.mono (V:=λlo hi k p L=>d_ P (h+1) lo hi k p L) λ_ _ _ _ _ _ e=>e.1;exact⟨n,b,h1,by rw[a.inner];simp,.inr a,j,d,.inr ⟨a,g.each⟩⟩
def HD(T:aM)(dN:Nat)(ps:O Nat)(keys:Nat)(gd:Nat->aq aB)(p:O Nat)(b:Nat)(w:J)(v:aa)(w':J):Prop:=
 ∃ao:aM,c0 T ao w w' (2*p.length)/\
  ((v=.int .i64 0/\(∃a,ia w' ao dN a (ps++p) (keys+b))/\∀x∈p,T.P x=gd x)\/
   (∃e:Int,v=e/\e≠0/\(∃ (a:U) (c:O Nat) (d:Nat),ia w' ao dN a c d)/\((e=3/\¬T.C.D.calm (2*p.length))\/∃x∈p,kg T x)))
theorem si{α:Type}{l:O (O α)}{i:Nat}(h:i<l.length):(l.take (i+1)).flatten=(l.take i).flatten++l[i]:=by
 rw[iy h,sF];simp
theorem yL{α:Type}{l:O (O α)}{i:Nat}(h:i<l.length):l.flatten=(l.take i).flatten++(l[i]++(l.drop (i+1)).flatten):=by
 conv=>lhs;rw[←hF i l,iQ h]
 rw[sF,sG]
theorem CC{α:Type}{l:O (O α)}{i:Nat}(h:i<l.length):(l.take i).flatten.length+l[i].length<=l.flatten.length:=by
 have:=congrArg List.length (yL h);rw[cx,cx]at this;omega
theorem HE(h:Nat):∀ {w:J}{T:aM}{dN keys:Nat}{s lQ lR:U}{ps p:O Nat}{gd:Nat->aq aB}{L:O aJ}{lo hi:aq Key}{no:Nat},ia w T dN s ps keys->h<=12->d_ gd h lo hi no p L->(∀x∈p,T.f x=true/\x<T.n)->(∀x∈p,∀bm,gd x=some bm->T.P x=some bm\/kg T x)->(ps++p).Nodup->
   iq (λq=>¬T.M q) w lQ lo->iq (λq=>¬T.M q) w lR hi->ps.length+p.length<=10000->keys+L.length<=100000->T.C.D.aN+2*p.length<=999999999->
   aP ai 211 #[.pointer (some dN),no,h,lQ,lR] w (HD T dN ps keys gd p L.length w):=by
 induction h with
 |zero=>intro w T dN keys s lQ lR ps p gd L lo hi no _ _ al;exact al.elim
 |succ h bp=>
   intro w T dN keys s lQ lR ps p gd L lo hi no am cz al a1 a2 c6 a3 a4 bq cB br
   obtain⟨n,cC,an,bs,bt,rfl,bv,bw⟩:=al.CB
   have a5:=am.t
   have bA:=a2 no (by simp) n an
   have bB:=a1 no (by simp)
   simp only[eU]at bq br
   refine okF (af.uY (some dN) (no:Nat) ((h+1:Nat):Int) lQ lR) ay.uY func211 ?_
   (delta af.uY g6 cp Y ak ag aK bc st r1 av aI aA;dsimp only)
   rw[yq bs]
   refine⟨_,rfl,_,am.cells.1,(Cv a5 I bA).use ?_⟩
   rintro _ W ⟨aE,X,a6,bD,ao⟩
   have a7:ia W (T.bk aE T.P) dN s ps keys:=am.of a6 rfl (λ_ h=>h) bD λq g bE=>bE.2 g
   rcases ao with ⟨K,V,D,rfl,ap,bF⟩|⟨e,rfl,F,ax⟩
   rotate_left
   · refine⟨_,bg,bg,bg,e,rfl,bh (vs:=[false,(),(),()]) rfl λbH H aC bI=>⟨H.cc rfl (fC (b:=g8.leaf) (K:=bg) (V:=bg) (D:=bg)),rfl,cy H (us:=dQ g8 bg bg bg) rfl rfl λbJ cD bK cG=>⟨λ_=>?_,λhx=>(by simp at hx;exact absurd hx F)⟩⟩⟩
     have a8:Ext W bJ:=Ext.cu aC bK (bo _)
     refine⟨_,(X.trans (c0.ext _ a8)).mono (by simp only[eU];omega),.inr ⟨e,rfl,F,⟨s,ps,keys,a7.ext a8⟩,?_⟩⟩
     rcases ax with ⟨rfl,bL⟩|bM
     · exact .inl ⟨rfl,λhc=>bL (ga hc (by simp only[eU];omega))⟩
     · exact .inr ⟨no,by simp,bM⟩
   have cH:=cF.eQ bt (by have:=a5.nw _ _ ap;omega)
   refine⟨_,K,V,D,0,rfl,bh (vs:=[false,(),(),()]) rfl λbH H aC bI=>⟨H.cc rfl fC,rfl,cy H (us:=dQ n K V D) rfl rfl λZ aa bN cJ=>⟨λhx=>(by cases hx),λ_=>?_⟩⟩⟩
   have v:Ext W Z:=Ext.cu aC bN (bo _)
   obtain⟨nb,bP⟩:∃nb,nb=W.heap.size:=⟨_,rfl⟩
   rw[←bP]at aa⊢
   have a9:¬(T.bk aE T.P).M nb:=λo=>by have:=a6.lt o;omega
   have l:=a7.ext v
   have ab:bz (λq=>¬(T.bk aE T.P).M q) Z n K V D:=(bF.ext v).aW λq _ c=>c.2
   have cK:=v.size
   have bQ:=bl.len ab.keys
   have cL:=cI.len ab.kids
   obtain⟨d0,d1,d2,d3⟩:=bC aa
   have bR:no∉ps:=λo=>by
     rw[o6]at c6
     exact c6.2.2 no o no (by simp) rfl
   refine⟨_,rfl,s,l.cells.2.1,(Hz (B:=λ_=>True) ⟨l.own.src,l.own.2.1,λq g=>⟨trivial,l.own.lt q g⟩⟩ no I).use ?_⟩
   rintro _ _ ⟨rfl,rfl⟩
   refine⟨_,rfl,cm (λb w'=>b=false/\Z=w') (λq g=>⟨λc=>absurd (b2 c) bR,λ_=>⟨_,rfl,_,l.cells.1,_,rfl,_,l.t.cells.2.1,(Gv l.t.s (no:Nat)).use ?_⟩⟩) ?_⟩
   · rintro _ _ ⟨rfl,rfl⟩
     refine⟨_,rfl,g _ _ ⟨?_,rfl⟩⟩
     have a_:(T.bk aE T.P).f=T.f:=rfl
     have ba:(T.bk aE T.P).n=T.n:=rfl
     rw[a_,ba,c8,bB.1]
     have:(0:Int)<=(no:Int)/\(no:Int)<(T.n:Int):=⟨I,I⟩
     simp[this.2]
   rintro _ _ ⟨rfl,rfl⟩
   have bS:=(X.to.trans (bO.ext _ v)).aI a3
   have bT:=(X.to.trans (bO.ext _ v)).aI a4
   refine cm (λb w'=>b=false/\Ext Z w') (λq g=>⟨λc=>(by cases c),λ_=>⟨_,d0,K,d1,V,d2,D,d3,(p1 ab I bS bT).use ?_⟩⟩) ?_
   · rintro _ cM ⟨b,rfl,c,bU⟩
     exact⟨b,rfl,g _ _ ⟨by rw[c.2 bv];rfl,bU⟩⟩
   rintro _ cN ⟨rfl,N⟩
   refine⟨λc=>(by cases c),λ_=>?_⟩
   have bb:=l.ext N
   obtain⟨Q,bd,au,bV,bW,bX⟩:=HA bb no I
   refine⟨_,rfl,s,bb.cells.2.1,aS ⟨Q,bd,au,_,rfl,?_⟩⟩
   rw[aw,cA]
   refine⟨bV,bW,aS ?_⟩
   obtain⟨ac,r⟩:=bX _ rfl
   generalize cO:bd.setCell ⟨dN,1,none⟩ Q=y at ac r⊢
   obtain⟨iY,bY⟩:∃iY,iY=(T.bk aE T.P).cf (T.bk aE T.P).E λq=>(T.bk aE T.P).G q\/az Q q:=⟨_,rfl⟩
   rw[←bY]at ac r
   have aD:c0 T iY w y 2:=((X.trans (c0.ext _ (v.trans N))).trans r).mono I
   have cP:=aa.lt
   have cQ:=N.size
   have aF:=(aa.ext N).ad r.to.ad λo=>a9 (aM.gh o)
   have bZ:=r.to.out (q:=nb) I a9
   have b0:=r.to.g8 (ab.ext N)
   have cS:=r.to.ad.size
   have cT:=aD.to.ad.size
   rcases bw with ⟨rfl,b1,rfl,b3⟩|⟨aG,d,aL,a_,ba,rfl,rfl,b4⟩
   ·
     have aO:n.leaf=true:=b1.leaf
     refine⟨λ_=>aS ?_,λhx=>(by rw[aO]at hx;cases hx)⟩
     have be:=ac.ext (b6 y)
     have b5:=aF.ext (b6 y)
     have b7:IntKind.wrap .i64 ((keys:Int)+(K.len:Int))=((keys+K.len:Nat):Int):=by rw[bu I I];omega
     obtain⟨bx,bG,b8,b9⟩:=HB be (keys+K.len)
     refine⟨_,rfl,id,_,be.cells.2.2,id,K,(bC b5).2.1,_,rfl,bx,bG,?_⟩
     rw[b7]
     refine aS ⟨iY,((aD.trans (c0.ext iY (b6 y))).trans b9).mono (by simp),.inl ⟨rfl,⟨Q,?_⟩,λx hx=>?_⟩⟩
     · rw[b3,←bQ];exact b8
     · rw[fi.1 hx,ap,an]
   · have aO:n.leaf=false:=aG.inner
     refine⟨λhx=>(by rw[aO]at hx;cases hx),λ_=>?_⟩
     have cV:=aG.len
     refine⟨D,(bC aF).2.2.2,λaQ w'=>∃ (i:Nat) (iZ:aM) (aR:U),aQ=(i:Int)/\i<=n.kids.length/\ia w' iZ dN aR (ps++no::(d.take i).flatten) (keys+(aL.take i).flatten.length)/\c0 T iZ w w' (2+2*(d.take i).flatten.length)/\c0 iY iZ y w' (2*(d.take i).flatten.length)/\∀x∈(d.take i).flatten,T.P x=gd x,
       λaQ _=>((n.kids.length:Int)-aQ).toNat,⟨0,iY,Q,rfl,cE _,by simpa using ac,by simpa using aD,by simpa using c0.refl iY y,by simp⟩,?_⟩
     rintro _ z ⟨i,iZ,aR,rfl,cW,ah,k,aT,aU⟩
     refine⟨λaH=>?_,λb_=>?_⟩
     rotate_left
     · have aV:i=n.kids.length:=by
         have:¬(i:Int)<(D.len:Int):=cr b_
         omega
       rw[dI I]at ah k aU
       rw[dI I]at ah
       refine⟨iZ,k.mono (by simp only[eU];omega),.inl ⟨rfl,⟨aR,ah⟩,λx hx=>?_⟩⟩
       rcases cU.1 hx with rfl|hx
       · rw[ap,an]
       · exact aU x hx
     have aV:i<n.kids.length:=by
       have:(i:Int)<(D.len:Int):=b2 aH
       omega
     have m:i<d.length:=by omega
     have aX:i<aL.length:=by omega
     have bf:=aT.to.g8 b0
     have aZ:=aF.ad aT.to.ad λo=>bZ.1 (aM.gh o)
     have ca:=k.to.aI a3
     have cb:=k.to.aI a4
     obtain⟨A,ar,cd,ce⟩:=cI.at bf.kids aV
     have cX:=CC m
     have cY:=CC aX
     have bi:∀ (j:Nat) (aj:j<n.keys.length),∃ (a:ae) (t:U),K.a=some a/\((0:Int)<=(j:Int)/\(j:Int)<(K.len:Int))/\z.cell? (a.add (Int.toNat (j:Int)*1))=some (.slice t.a t.len t.cap)/\iq (λq=>¬iZ.M q) z t n.keys[j]? :=λj aj=>by
       obtain⟨a,t,h1,u,R,S,_⟩:=bl.at bf.keys aj
       refine⟨a,t,h1,u,R,?_⟩
       rw[c_ aj]
       refine⟨λe=>?_,S⟩
       have:=(aG.ok _ (cw aj)).1
       rw[e]at this;simp at this
     refine⟨A,ar,cd,_,ce,cm (λt w'=>iq (λq=>¬iZ.M q) z t (if i=0 then lo else n.keys[i-1]?)/\z=w') (λq g=>⟨λc=>?_,λc=>?_⟩) ?_⟩
     · have c:0<i:=by
         have:(i:Int)>0:=b2 c
         omega
       have cg:IntKind.wrap .i64 ((i:Int)-1)=((i-1:Nat):Int):=by rw[bu I I];omega
       obtain⟨a,t,h1,u,R,S⟩:=bi (i-1) I
       rw[cg]
       refine⟨K,(bC aZ).2.1,a,h1,u,t,R,g _ _ ⟨?_,rfl⟩⟩
       rw[if_neg I];exact S
     · have c:i=0:=by
         have:¬(i:Int)>0:=cr c
         omega
       refine g _ _ ⟨?_,rfl⟩
       rw[if_pos c];exact ca
     rintro cZ _ ⟨ch,rfl⟩
     refine cm (λt w'=>iq (λq=>¬iZ.M q) z t (if i<n.keys.length then n.keys[i]? else hi)/\z=w') (λq g=>⟨K,(bC aZ).2.1,λc=>?_,λc=>?_⟩) ?_
     · have c:i<n.keys.length:=by
         have:(i:Int)<(K.len:Int):=b2 c
         omega
       obtain⟨a,t,h1,u,R,S⟩:=bi i c
       refine⟨K,(bC aZ).2.1,a,h1,u,t,R,g _ _ ⟨?_,rfl⟩⟩
       rw[if_pos c];exact S
     · have c:¬i<n.keys.length:=by
         have:¬(i:Int)<(K.len:Int):=cr c
         omega
       refine g _ _ ⟨?_,rfl⟩
       rw[if_neg c];exact cb
     rintro aY _ ⟨ci,rfl⟩
     have cj:IntKind.wrap .i64 (((h+1:Nat):Int)-1)=(h:Int):=by rw[bu I I];omega
     have ck:IntKind.wrap .i64 ((i:Int)+1)=((i+1:Nat):Int):=by rw[bu I I];omega
     have cl:iZ.n=T.n:=k.to.n
     have c1:=k.to.aN
     have a0:∀x∈d[i],x∈no::d.flatten:=λx hx=>by
       rw[yL m]
       exact jV _ (ie _ (jC _ hx))
     have cn:=bp (p:=d[i]) (gd:=gd) (L:=aL[i]) (no:=n.kids[i]) ah I (b4 i aV m aX) (λx hx=>by rw[k.f,cl];exact a1 x (a0 x hx)) (λx hx bm h1=>by
       rw[k.P]
       exact(a2 x (a0 x hx) bm h1).imp id k.HC) (by
       rw[yL m]at c6
       have e:ps++no::((d.take i).flatten++(d[i]++(d.drop (i+1)).flatten))=((ps++no::(d.take i).flatten)++d[i])++(d.drop (i+1)).flatten:=by simp
       rw[e]at c6
       exact(o6.1 c6).1) ch ci (by simp only[cx,eU];omega) I I
     rw[cj,ck]
     refine cn.use ?_
     rintro _ co ⟨gI,bj,ao⟩
     have bn:c0 T gI w co (2+2*((d.take i).flatten.length+d[i].length)):=(k.trans bj).mono I
     rcases ao with ⟨rfl,⟨cq,cs⟩,ct⟩|⟨e,rfl,F,cv,ax⟩
     · refine⟨0,rfl,λhx=>(by cases hx),λ_=>⟨⟨i+1,gI,cq,rfl,I,?_,?_,?_,?_⟩,?_⟩⟩
       · rw[si m,si aX,cx,←qK]
         have e:ps++no::((d.take i).flatten++d[i])=(ps++no::(d.take i).flatten)++d[i]:=by simp
         rw[e];exact cs
       · rw[si m,cx];exact bn
       · rw[si m,cx];exact(aT.trans bj).mono I
       · intro x hx
         rw[si m]at hx
         rcases cR.1 hx with hx|hx
         · exact aU x hx
         · rw[←k.P];exact ct x hx
       · show((n.kids.length:Int)-((i+1:Nat):Int)).toNat<((n.kids.length:Int)-(i:Int)).toNat
         omega
     · refine⟨e,rfl,λ_=>⟨gI,bn.mono (by simp only[eU];omega),.inr ⟨e,rfl,F,cv,?_⟩⟩,λhx=>(by simp at hx;exact absurd hx F)⟩
       rcases ax with ⟨h1,u⟩|⟨x,hx,c⟩
       · exact .inl ⟨h1,λhc=>u (k.to.calm _ (ga hc (by simp only[eU];omega)))⟩
       · exact .inr ⟨x,a0 x hx,k.bad c⟩
def HF(T:aM)(gd:Nat->aq aB)(pages:O Nat)(c:Nat)(w:J)(v:aa)(w':J):Prop:=
 ∃ao:aM,bM w' ao/\c0 T ao w w' (2*pages.length)/\ao.G=T.G/\
  ((∃ (s:U) (es:O Nat),v=.tuple #[s,c,(0:Int)]/\a8 1 3 w' s (dW es)/\es.Perm pages/\(es.Pairwise λa b=>a<=b)/\(∀q,az s q->(T.N q\/w.heap.size<=q)/\¬ao.M q)/\(∀x∈pages,T.P x=gd x)/\bM w' (ao.cf T.E λq=>T.G q\/az s q))\/
   (∃e:Int,v=.tuple #[(),(0:Int),e]/\e≠0/\((e=3/\¬T.C.D.calm (2*pages.length))\/∃x∈pages,kg T x)))
theorem HG{w:J}{T:aM}{gd:Nat->aq aB}{pages:O Nat}{L:O aJ}(h:bM w T)(ah:gj (T.bk T.C gd) pages L)(aC:∀x∈pages,T.f x=true/\x<T.n)(aD:∀x∈pages,∀bm,gd x=some bm->T.P x=some bm\/kg T x)(c6:pages.Nodup)(a6:L.length<=9000)(a7:pages.length<=9000)(aE:T.C.D.aN+2*pages.length<=999999999):
 aP ai 152 #[.pointer (some T.aY)] w (HF T gd pages L.length w):=by
 have aF:=h.num.2.1;refine okF (af.uM (some T.aY)) ay.uM func152 ?_;(delta af.uM ak r1 aA Y ag aR;dsimp only);refine⟨λh=>(by cases h),λ_=>bh (vs:=[.pointer (some T.aY),(),(0:Int)]) rfl λw1 S aj a9=>?_⟩;obtain⟨dN,aH⟩:∃dN,dN=w.heap.size:=⟨_,rfl⟩;rw[←aH]at S⊢;obtain⟨bV,al⟩:∃bV,bV=λq=>T.E q\/T.G q:=⟨_,rfl⟩;have B:∀q,T.E q\/T.G q->bV q:=λq a=>by rw[al];exact a
 have V:∀q,bV q->T.E q\/T.G q:=λq a=>by rw[al]at a;exact a
 have a_:=S.lt;have h1:bM w1 (T.cf bV λq=>q=dN):=h.grow (W:=λ_=>False) aj (λ_ h=>h.elim) (λq a=>(V q a).imp id .inl) (λq e=>.inr (.inr ⟨I,I⟩)) λq a e=>by
  rcases V q a with u|u
  .have:=h.lt (q:=q) (.inr (.inr (.inr (.inl u))));omega
  .have:=h.lt (q:=q) (.inr (.inr (.inr (.inr u))));omega
 obtain⟨bL,k⟩:∃bL,bL=T.cf bV λq=>q=dN:=⟨_,rfl⟩;rw[←k]at h1;have X:bL.aY=T.aY:=by rw[k];rfl
 have am:bL.E=bV:=by rw[k];rfl
 have M:bL.C=T.C:=by rw[k];rfl
 have Z:bL.P=T.P:=by rw[k];rfl
 have an:ia w1 bL dN ⟨none,0,0⟩ [] 0:=⟨h1,by rw[X];exact S,a8.none _ _ _,by rw[k];rfl,λq a=>(gg q a).elim⟩;have i:bO T bL w w1 0:=by
  rw[k];exact(bO.refl T w).step (W:=λ_=>False) aj (λ_ h=>h.elim) (λq a=>(V q a).imp id .inl) λq e=>.inr I
 have fin:∀ (w':J) (ao:aM),bM w' ao->c0 bL ao w1 w' (2*pages.length)->bM w' (ao.cf T.E T.G)/\c0 T (ao.cf T.E T.G) w w' (2*pages.length):=λw' ao aI b=>by
  have y:ao.E=bV:=b.E.trans am;refine⟨aI.grow (E:=T.E) (G:=T.G) (W:=λ_=>False) (ab.refl _ _) (λ_ h=>h.elim) (λq a=>.inl (by rw[y];exact B q (.inl a))) (λq a=>.inl (by rw[y];exact B q (.inr a))) λq a=>(h.c7 q a).2.2,?_,rfl,λ_ h=>h,?_,?_,?_,?_,λj=>?_⟩
  .refine⟨b.to.aY.trans i.aY,b.to.sb.trans i.sb,b.to.n.trans i.n,b.to.g.trans i.g,b.to.s1.trans i.s1,b.to.s2.trans i.s2,b.to.c.trans i.c,b.to.d.trans i.d,b.to.aZ.trans i.aZ,b.to.gen.trans i.gen,by have:=b.to.aN;rw[M]at this;exact this,λm o=>b.to.calm m (by rw[M];exact o),?_,λq a=>?_,λq a=>?_⟩
   .exact(ct i.ad b.to.ad λq a aK=>by
     rcases i.fn q aK with u|u
     .exact u
     .omega)
   .rcases a with a|a|a|a|a
    .exact((i.trans b.to).c4 q (.inl a))
    .exact((i.trans b.to).c4 q (.inr (.inl a)))
    .exact((i.trans b.to).c4 q (.inr (.inr (.inl a))))
    .exact .inl (.inr (.inr (.inr (.inl a))))
    .exact .inl (.inr (.inr (.inr (.inr a))))
   .rcases a with a|a|a|a
    .exact((i.trans b.to).fn q (.inl a))
    .exact((i.trans b.to).fn q (.inr (.inl a)))
    .exact((i.trans b.to).fn q (.inr (.inr (.inl a))))
    .exact .inl (.inr (.inr (.inr a)))
  .show ao.root=T.root;rw[b.root,k];rfl
  .show ao.aG=T.aG;rw[b.aG,k];rfl
  .show ao.f=T.f;rw[b.f,k];rfl
  .show ao.P=T.P;rw[b.P,Z]
  .show ao.C.view j=T.C.view j;rw[b.view,M]
 refine hL (λN=>∃ (ao:aM) (s:U) (ps:O Nat),ia N ao dN s ps L.length/\ps=pages/\c0 bL ao w1 N (2*pages.length)/\∀x∈pages,T.P x=gd x) (λq a=>⟨_,rfl,_,by have:=h1.cells.2.2.2.2;rw[X]at this;exact this,λz=>aS ?_,λz=>?_⟩) ?_
 .have F:=an.ext (b6 w1)
  have ap:bL.aG=T.aG:=by rw[k];rfl
  have aL:bL.root=T.root:=by rw[k];rfl
  have z:T.aG≠0:=by
   rw[ap]at z;have:(T.aG:Int)>0:=b2 z;omega
  have H:d_ gd T.aG none none T.root pages L:=by
   rcases ah with ⟨aO,_⟩|H
   .exact absurd aO z
   .exact H
  have de:=F.t.cells.2.2.2.1;have ba:=F.t.cells.2.2.2.2;rw[X]at de ba;rw[ap]at ba;rw[aL]at de;have aQ:=HE T.aG (lQ:=bg) (lR:=bg) (gd:=gd) (L:=L) (p:=pages) (lo:=none) (hi:=none) (no:=T.root) F aF H (λx hx=>by rw[k];exact aC x hx) (λx hx bm u=>by
   rw[Z];refine(aD x hx bm u).imp id λK=>?_;rw[k];exact K) (by simpa using c6) rfl rfl (by simp only[jE];omega) I (by rw[M];exact aE)
  refine⟨_,rfl,id,_,de,_,rfl,id,_,ba,aQ.use ?_⟩;rintro _ ar ⟨ao,aa,aT⟩;have av:c0 bL ao w1 ar (2*pages.length):=((c0.ext bL (b6 w1)).trans aa).mono I;rcases aT with ⟨rfl,⟨s,r⟩,ac⟩|⟨e,rfl,ax,⟨s,bb,bc,r⟩,aU⟩
  .refine⟨0,rfl,λhx=>(by cases hx),λ_=>a _ ⟨ao,s,pages,?_,rfl,av,λx hx=>by rw[←Z];exact ac x hx⟩⟩
   rw[iR,cA]at r;exact r
  .obtain⟨f1,f2⟩:=fin ar ao r.t av
   refine⟨e,rfl,λ_=>⟨_,f1,f2,rfl,.inr ⟨e,rfl,ax,?_⟩⟩,λhx=>(by simp at hx;exact absurd hx ax)⟩;rcases aU with ⟨u,K⟩|⟨x,hx,K⟩
   .exact .inl ⟨u,by rw[←M];exact K⟩
   .refine .inr ⟨x,hx,?_⟩
    rw[k]at K;exact K
 .have z:T.aG=0:=by
   have:¬(bL.aG:Int)>0:=cr z;rw[k]at this;have:¬(T.aG:Int)>0:=this;omega
  rcases ah with ⟨_,_,aV,aW⟩|H
  .subst aV aW
   exact a _ ⟨bL,⟨none,0,0⟩,[],an,rfl,c0.refl _ _,λx hx=>(by cases hx)⟩
  .have e:(T.bk T.C gd).aG=T.aG:=rfl
   rw[e,z]at H;exact H.elim
 rintro N ⟨ao,s,ps,r,aX,aa,ac⟩;rw[aX]at r;refine⟨_,rfl,s,r.cells.2.1,(CA r.own I).use ?_⟩;rintro _ Q ⟨rfl,ae,es,a0,a1,a2⟩;have cd:∀q,az s q->ao.G q:=λq a=>(r.gs q a).1;have a3:=r.v.ad ae λa=>(r.gs _ a).2 rfl;have A:bM Q ao:=by
  have:=r.t.grow (E:=ao.E) (G:=ao.G) ae (λq a _=>.inr (cd q a)) (λq a=>.inl a) (λq a=>.inr (.inl a)) λq a=>(r.t.c7 q a).2.2;exact this
 have a4:c0 ao ao N Q 0:=⟨(bO.refl ao N).step (E:=ao.E) (G:=ao.G) ae (λq a _=>.inr (.inr (.inr (cd q a)))) (λq a=>.inl a) λq a=>.inl a,rfl,λ_ h=>h,rfl,rfl,rfl,rfl,λ_=>rfl⟩;have R:=b6 Q;have b:=((aa.trans a4).trans (c0.ext ao R)).mono (l:=2*pages.length) I;obtain⟨f1,f2⟩:=fin Q.drew ao (A.ext R) b;have F:=a3.ext R;have y:ao.E=bV:=b.E.trans am;have a5:bM Q.drew (ao.cf T.E λq=>T.G q\/az s q):=(A.ext R).grow (E:=T.E) (G:=λq=>T.G q\/az s q) (W:=λ_=>False) (ab.refl _ _) (λ_ h=>h.elim) (λq a=>.inl (by rw[y];exact B q (.inl a))) (λq a=>a.elim (λa=>.inl (by rw[y];exact B q (.inr a))) λa=>.inr (.inl (cd q a))) λq a hg=>by
  rcases hg with hg|hg
  .exact(h.c7 q a).2.2 hg
  .exact(A.c7 q (by rw[y];exact B q (.inl a))).2.2 (cd q hg)
 refine⟨rfl,aS ⟨_,rfl,id,s,by rw[aw];exact F.cell,_,rfl,id,_,by rw[aw];exact F.cell,_,f1,f2,rfl,.inl ⟨s,es,rfl,a0.ext R,a1,a2,λq a=>⟨?_,λo=>?_⟩,ac,a5⟩⟩⟩
 .exact(i.trans b.to).fn q (.inr (.inr (.inr (cd q a))))
 .have au:=cd q a
  rcases o with o|o|o|o|o
  .exact A.r_ au o
  .exact(A.h5 q au).1 o
  .exact(A.h5 q au).2 o
  .exact(A.c7 q (by rw[y];exact B q (.inl o))).2.2 au
  .exact(A.c7 q (by rw[y];exact B q (.inr o))).2.2 au
variable {w w':J}
theorem Src.cut{sz:Nat}{s:U}{vs:O aa}{lo hi:Nat}(h:Src sz w s vs)(hc:s.len<=s.cap)(h1:lo<=hi)(d:hi<=s.len):
 Src sz w ⟨aO s.a sz lo s.cap,hi-lo,s.cap-lo⟩ ((vs.drop (lo*sz)).take ((hi-lo)*sz)):=by
 have g:=h.len;have i:hi*sz<=s.len*sz:=lX _ d;have j:lo*sz+(hi-lo)*sz=hi*sz:=by rw[←km,Nat.add_sub_cancel' h1]
 refine⟨by simp;omega,λc=>?_,λa b=>?_⟩
 .have f:s.a=none:=by
   unfold aO at c;split at c
   .exact c
   .simpa using c
  simp[h.nil f]
 .show cL w a 0 ((hi-lo)*sz)=_
  by_cases e:hi=lo
  .rw[show hi-lo=0 from I];simp[cL]
  .have ar:∃A,s.a=some A/\a=A.add (lo*sz):=by
    unfold aO at b;rw[if_neg I]at b
    cases hs:s.a with
    |none=>rw[hs]at b;cases b
    |some A=>rw[hs]at b;exact⟨A,rfl,by simpa using b.symm⟩
   obtain⟨A,ar,rfl⟩:=ar;exact Aw (h.rd A ar) I
theorem CD{s:U}{sz n:Nat}{q:Nat}:az ⟨aO s.a sz 0 s.cap,n-0,s.cap-0⟩ q↔az s q:=by
 rw[xg];exact Iff.rfl
section
variable {P:Program}{cM e cH:TypeId}{sz bytes:Nat}
structure gp(sz:Nat)(e:TypeId)(w0 w:J)(s:U)(l:O aa):Prop where
 o:a8 sz e w s l
 x:Ext w0 w
 f:∀q,az s q->w0.heap.size<=q
theorem Ext.new{a:Nat->Prop}{w0 w1 ah:J}(hx:Ext w0 w1)(h:ab a w1 ah)(cd:∀q,a q->w0.heap.size<=q):Ext w0 ah/\ab (λq=>w0.heap.size<=q) w1 ah:=
 ⟨Ext.dd hx h cd,h.mono λq _ b=>cd q b⟩
theorem gp.app(h:hM P cM e sz bytes){w0 w1:J}{s x:U}{l xs:O aa}(hs:gp sz e w0 w1 s l)(hx:Src sz w1 x xs)(d:∀v∈xs,Plain v)(g:(2*(s.len+x.len)+1000)*bytes<=281474976710656):
 ∃ (a:U) (ah:J),Sem.run P (Builtin.append_ #[cM,cM] cH #[s,x]) w1=.ok a ah/\ab (λq=>w0.heap.size<=q) w1 ah/\gp sz e w0 ah a (l++xs)/\
  a.len=s.len+x.len/\ab (az s) w1 ah/\∀q,az a q->az s q\/w1.heap.size<=q:=by
 obtain⟨a,ah,au,i,j,b,c⟩:=h.append (cH:=cH) hx hs.o d g;obtain⟨bx,bG⟩:=Ext.new hs.x b hs.f;exact⟨a,ah,au,bG,⟨i,bx,λq k=>(c q k).elim (hs.f q) λh=>ey hs.x.size h⟩,j,b,c⟩
theorem size_le{a b c:Nat}(h:(2*b+1000)*c<=281474976710656)(d:a<=b):(2*a+1000)*c<=281474976710656:=ey (lX _ I) h
theorem CE(h:hM P cM e sz bytes){x y M:O aa}{s1 s2:U}{w0:J}
 (W:∀w:J,Sem.run P (Instr.buildSlice cM 0 #[]) w=.ok (.slice (some w.heap.size) 0 0) (w.alloc (.cells #[] e)))
 (b9:∀w:J,Sem.run P (Instr.buildSlice cM 1 #[(0,.agg x.toArray)]) w=.ok (.slice (some w.heap.size) 1 1) (w.alloc (.cells x.toArray e)))
 (hx:x.length=sz) (h1:Src sz w0 s1 y) (an:Src sz w0 s2 M) (aL:∀v∈x,Plain v) (br:∀v∈y,Plain v) (bt:∀v∈M,Plain v)
 (z:(2*(s1.len+s2.len+1)+1000)*bytes<=281474976710656) {K:U->J->Prop} (ao:∀X w',gp sz e w0 w' X (y++x++M)->K X w'):
 (∃N:U,∃t:J,Sem.run P (Instr.buildSlice cM 0 #[]) w0=.ok N t/\ab (λq=>w0.heap.size<=q) w0 t/\(
   (∃d:U,∃g:J,Sem.run P (Builtin.append_ #[cM,cM] cH #[N,s1]) t=.ok d g/\ab (λq=>w0.heap.size<=q) t g/\
     ∃m:U,∃B:J,Sem.run P (Instr.buildSlice cM 1 #[(0,.agg x.toArray)]) g=.ok m B/\ab (λq=>w0.heap.size<=q) g B/\
     ∃i:U,∃c:J,Sem.run P (Builtin.append_ #[cM,cM] cH #[d,m]) B=.ok i c/\ab (λq=>w0.heap.size<=q) B c/\
     ∃n:U,∃k:J,Sem.run P (Builtin.append_ #[cM,cM] cH #[i,s2]) c=.ok n k/\ab (λq=>w0.heap.size<=q) c k/\K n k)/\
   (∃Y:U,∃C:J,Sem.run P (Instr.buildSlice cM 1 #[(0,.agg x.toArray)]) t=.ok Y C/\ab (λq=>w0.heap.size<=q) t C/\
     ∃Z:U,∃D:J,Sem.run P (Builtin.append_ #[cM,cM] cH #[N,s1]) C=.ok Z D/\ab (λq=>w0.heap.size<=q) C D/\
     ∃ac:U,∃E:J,Sem.run P (Builtin.append_ #[cM,cM] cH #[Z,Y]) D=.ok ac E/\ab (λq=>w0.heap.size<=q) D E/\
     ∃ae:U,∃Q:J,Sem.run P (Builtin.append_ #[cM,cM] cH #[ac,s2]) E=.ok ae Q/\ab (λq=>w0.heap.size<=q) E Q/\K ae Q)))/\
 (∃af:U,∃F:J,Sem.run P (Instr.buildSlice cM 1 #[(0,.agg x.toArray)]) w0=.ok af F/\ab (λq=>w0.heap.size<=q) w0 F/\
   ∃ag:U,∃G:J,Sem.run P (Instr.buildSlice cM 0 #[]) F=.ok ag G/\ab (λq=>w0.heap.size<=q) F G/\
   ∃ai:U,∃H:J,Sem.run P (Builtin.append_ #[cM,cM] cH #[ag,s1]) G=.ok ai H/\ab (λq=>w0.heap.size<=q) G H/\
   ∃aj:U,∃L:J,Sem.run P (Builtin.append_ #[cM,cM] cH #[ai,af]) H=.ok aj L/\ab (λq=>w0.heap.size<=q) H L/\
   ∃ak:U,∃R:J,Sem.run P (Builtin.append_ #[cM,cM] cH #[aj,s2]) L=.ok ak R/\ab (λq=>w0.heap.size<=q) L R/\K ak R):=by
 have lE:∀ (w:J) (o:Obj),Ext w (w.alloc o):=λw o=>ab.alloc (.refl _ _) o;have dC:∀w:J,Ext w0 w->gp sz e w0 (w.alloc (.cells #[] e)) ⟨some w.heap.size,0,0⟩ []:=λw al=>
  ⟨a8.new (T:=e) w [] 0 (by simp) (by decide),Ext.trans al (lE w _),λq l=>by rw[ky]at l;have:=al.size;simp at l;omega⟩
 have S:∀w:J,Src sz (w.alloc (.cells x.toArray e)) ⟨some w.heap.size,1,1⟩ x:=λw=>Src.new w x 1 (by simpa using hx);have mE:∀ {w ah:J},Ext w ah->ab (λq=>w0.heap.size<=q) w ah:=λh=>ab.cK h;have ap:∀ {s:U}{a b:J},gp sz e w0 a s []->Ext a b->gp sz e w0 b s []:=λh hx=>⟨h.o.ext hx,Ext.trans h.x hx,h.f⟩
 have tail:∀ {w1 ah:J}{d m:U},gp sz e w0 w1 d y->d.len=s1.len->Ext w1 ah->Src sz ah m x->m.len=1->
  ∃i:U,∃c:J,Sem.run P (Builtin.append_ #[cM,cM] cH #[d,m]) ah=.ok i c/\ab (λq=>w0.heap.size<=q) ah c/\
   ∃n:U,∃k:J,Sem.run P (Builtin.append_ #[cM,cM] cH #[i,s2]) c=.ok n k/\ab (λq=>w0.heap.size<=q) c k/\K n k:=by
  intro w1 ah d m hf aw am aq ax;have ar:gp sz e w0 ah d y:=⟨hf.o.ext am,Ext.trans hf.x am,hf.f⟩;obtain⟨i,c,au,p,j,u,_,_⟩:=gp.app (cH:=cH) h ar aq aL (size_le z I);obtain⟨n,k,bx,bG,av,_,_,_⟩:=gp.app (cH:=cH) h j (an.ext j.x) bt (size_le z I);exact⟨i,c,au,p,n,k,bx,bG,ao _ _ av⟩
 refine⟨⟨⟨some w0.heap.size,0,0⟩,_,W w0,mE (lE _ _),?_,?_⟩,?_⟩
 .have f0:=dC w0 (.refl _ _)
  obtain⟨d,g,au,p,j,u,_,_⟩:=gp.app (cH:=cH) h f0 (h1.ext f0.x) br (size_le z (by simp;omega));rw[iR]at j;obtain⟨i,c,r⟩:=tail j (by simpa using u) (lE g (.cells x.toArray e)) (S g) rfl;exact⟨d,g,au,p,⟨some g.heap.size,1,1⟩,_,b9 g,mE (lE _ _),i,c,r⟩
 .have f0:=ap (dC w0 (.refl _ _)) (lE _ (.cells x.toArray e))
  obtain⟨d,g,au,p,j,u,V,_⟩:=gp.app (cH:=cH) h f0 (h1.ext f0.x) br (size_le z (by simp;omega));rw[iR]at j;have hs:=(S (w0.alloc (.cells #[] e))).ad V λq l A=>by
   rw[ky]at l A;simp at l A;omega
  obtain⟨i,c,r⟩:=tail j (by simpa using u) (.refl _ _) hs rfl;exact⟨⟨some ⟨(w0.alloc (.cells #[] e)).heap.size,0,none⟩,1,1⟩,_,b9 _,mE (lE _ _),d,g,au,p,i,c,r⟩
 .have f0:=dC (w0.alloc (.cells x.toArray e)) (lE _ _)
  obtain⟨d,g,au,p,j,u,V,_⟩:=gp.app (cH:=cH) h f0 (h1.ext f0.x) br (size_le z (by simp;omega));rw[iR]at j;have hs:=((S w0).alloc (.cells #[] e)).ad V λq l A=>by
   rw[ky]at l A;simp at l A;omega
  obtain⟨i,c,r⟩:=tail j (by simpa using u) (.refl _ _) hs rfl;exact⟨⟨some w0.heap.size,1,1⟩,_,b9 _,mE (lE _ _),⟨some ⟨(w0.alloc (.cells x.toArray e)).heap.size,0,none⟩,0,0⟩,_,W _,mE (lE _ _),d,g,au,p,i,c,r⟩
end
structure qy(L:O aJ)(k:Key)(i:Nat):Prop where
 le:i<=L.length
 lo:∀p∈L.take i,bH p.1 k
 hi:∀p,L[i]? =some p->¬bH p.1 k
def ir(L:O aJ)(k:Key)(i:Nat):aj:=decide ((L[i]?).map Prod.fst=some k)
theorem qy.wh{L:O aJ}{k:Key}{i:Nat}(h:qy L k i)(o:gJ L)(v:Key):
 eO L k v=L.take i++(k,v)::L.drop (if ir L k i then i+1 else i)/\en L k=L.take i++L.drop (if ir L k i then i+1 else i)/\ei L k=if ir L k i then (L[i]?).map Prod.snd else none:=by
 obtain⟨t,d,l⟩:=h;unfold ir;obtain⟨A,ar⟩:∃A,A=L.take i:=⟨_,rfl⟩;obtain⟨B,m⟩:∃B,B=L.drop i:=⟨_,rfl⟩;have e:L=A++B:=by rw[ar,m,hF]
 have E:A.length=i:=by rw[ar,cv,jn t]
 have hg:L[i]? =B[0]? :=by rw[m,nE,kk]
 have hd:∀j,L.drop (i+j)=B.drop j:=λj=>by rw[m,qR]
 have r:=hd 0;rw[kk]at r;have u:∀c:aj,L.drop (if c then i+1 else i)=B.drop (if c then 1 else 0):=λc=>by cases c<;>simp[hd,r]
 rw[u,←ar,hg];rw[←ar]at d;rw[hg]at l;rw[e]at o;obtain⟨F,s,G⟩:=p6.1 o;have w:∀v,eO L k v=A++eO B k v:=λv=>by rw[e];exact AM d
 have x:en L k=A++en B k:=by
  rw[e,p5,ox λp n=>kB (d p n)]
 have y:A.find? (λp=>decide (p.1=k))=none:=ig.2 λp n=>by simpa using kB (d p n)
 have z:ei L k=ei B k:=by
  unfold ei;rw[e,List.find?_append,y];rfl
 rw[w,x,z]
 cases C:B with
 |nil=>simp[eO,en,ei]
 |cons p f=>
  rw[C]at l s;obtain⟨au,H⟩:=jD.1 s;have D:ek k p.1:=l p rfl;by_cases he:p.1=k
  .have b:∀q∈f,bH k q.1:=λq a=>by rw[←he];exact au q a
   have g:∀q∈f,q.1≠k:=λq a=>(kB (b q a)).symm;simp only[lp,lq,he,decide_true,if_true,List.drop_succ_cons,lu];refine⟨?_,?_,?_⟩
   .unfold eO
    rw[lY.2 (λq a=>?_),List.filter_cons_of_neg (by simpa[he] using ml k),jW.2 λq a=>dw (b q a),iR];rcases cU.1 a with rfl|a
    .simpa[he] using ml k
    .simpa using j4 (b q a)
   .unfold en
    rw[List.filter_cons_of_neg (by simp[he]),jW.2 λq a=>dw (g q a)]
   .unfold ei
    rw[List.find?_cons_of_pos (by simp[he])];rfl
  .have aH:bH k p.1:=by
    rcases vr p.1 k with h|h|h
    .exact absurd h D
    .exact absurd h he
    .exact h
   have b:∀q∈p::f,bH k q.1:=λq a=>by
    rcases cU.1 a with rfl|a
    .exact aH
    .exact lH aH (au q a)
   have g:∀q∈p::f,q.1≠k:=λq a=>(kB (b q a)).symm;have hf:¬some p.1=some k:=λh=>he (Option.some.inj h);simp only[lp,lq,hf,decide_false,fM,if_false,lu];refine⟨?_,?_,?_⟩
   .unfold eO
    rw[lY.2 (λq a=>by simpa using j4 (b q a)),jW.2 λq a=>dw (b q a),iR]
   .exact congrArg (A++ ·) (ox g)
   .unfold ei
    rw[ig.2 λq a=>by simpa using g q a];rfl
theorem wi{w:J}{s:U}{l:O UInt8}(h:Src 1 w s (aF l)){i:Nat}(hi:i<l.length):∃A:ae,s.a=some A/\((0:Int)<=(i:Int)/\(i:Int)<(s.len:Int))/\w.cell? (A.add (Int.toNat (i:Int)*1))=some (.int .u8 ((l[i].toNat:Nat):Int)):=by
 obtain⟨A,ar,b,hc⟩:=h.at (i:=i) (v:=.int .u8 ((l[i].toNat:Nat):Int)) (by simp[aF,hi]);exact⟨A,ar,b,hc⟩
theorem m9{w:J}{s t:U}{a b:Key}(hs:Src 1 w s (aF a))(ht:Src 1 w t (aF b))(M:a.length<=1000000)(N:b.length<=1000000):
 aP ai 113 #[s,t] w (λv w'=>∃n:Int,v=n/\(n<0↔bH a b)/\Ext w w'):=by
 have h1:=len8 hs;have O:=len8 ht;refine okF (af.m9 s t) ay.m9 func113 ?_;(delta af.m9 ak aI bX av;dsimp only);refine⟨λn w'=>∃i:Nat,n=(i:Int)/\i<=a.length/\i<=b.length/\ew a b=ew (a.drop i) (b.drop i)/\Ext w w',λn _=>((a.length:Int)-n).toNat,⟨0,rfl,cE _,cE _,rfl,.refl _ _⟩,?_⟩;rintro _ l ⟨i,rfl,P,Q,hc,hx⟩;refine⟨λaH=>?_,λm=>?_⟩
 .rw[ed,cS,cS]at aH
  have d:i<a.length:=by omega
  have f:i<b.length:=by omega
  have c:=Ext.trans hx (b6 l);obtain⟨A,ar,o,p⟩:=wi (hs.ext c) d;obtain⟨B,q,r,u⟩:=wi (ht.ext c) f;rw[iQ d,iQ f]at hc;have R:=lZ a[i];have S:=lZ b[i];refine aS ⟨A,ar,o,id,_,p,B,q,r,id,_,u,λg=>?_,λx=>?_⟩
  .have g:a[i].toNat≠b[i].toNat:=λe=>by rw[e]at g;simp at g
   have j:=Ext.trans c (b6 _);obtain⟨y,z,C,D⟩:=wi (hs.ext j) d;obtain⟨E,F,G,H⟩:=wi (ht.ext j) f;refine aS ⟨y,z,C,id,_,D,E,F,G,id,_,H,_,rfl,?_,j⟩;rw[bu (n:=((a[i].toNat:Nat):Int)) I I,bu (n:=((b[i].toNat:Nat):Int)) I I,bu I I];unfold bH;rw[hc];unfold ew;rcases dH a[i].toNat b[i].toNat with h|h
   .rw[if_pos h]
    exact⟨λ_=>by decide,λ_=>I⟩
   .rw[if_neg I,if_pos I]
    exact⟨λ_=>I,λh=>absurd h (by decide)⟩
  .have he:a[i]=b[i]:=by
    have:((a[i].toNat:Nat):Int)=((b[i].toNat:Nat):Int):=by simpa using x
    exact o7.1 I
   have K:IntKind.wrap .i64 ((i:Int)+1)=((i+1:Nat):Int):=by rw[bu I I];omega
   rw[K];refine⟨⟨i+1,rfl,I,I,?_,c⟩,by show((a.length:Int)-((i+1:Nat):Int)).toNat<((a.length:Int)-(i:Int)).toNat;omega⟩;rw[hc]
   conv=>lhs;unfold ew
   rw[he,if_neg (by simp),if_neg (by simp)]
 .have T:a.length=i\/b.length=i:=by
   rw[Bool.and_eq_false_iff,jA,jA]at m;omega
  rw[bu I I];refine⟨_,rfl,?_,hx⟩;unfold bH;rw[hc];rcases dH i a.length with h|h
  .rw[iQ h,sM (show b.length<=i from I)]
   exact⟨λL=>by exfalso;omega,λh=>absurd h (show¬((1:Int)<0) by decide)⟩
  .rw[sM (show a.length<=i from I)]
   rcases dH i b.length with k|k
   .rw[iQ k]
    exact⟨λ_=>show((-1:Int)<0) by decide,λ_=>I⟩
   .rw[sM (show b.length<=i from I)]
    exact⟨λL=>by exfalso;omega,λh=>absurd h (show¬((0:Int)<0) by decide)⟩
theorem yM{α:Type}{c:α->O aa}{sz:Nat}:∀ (l:O α) (i:Nat),(∀x∈l,(c x).length=sz)->(bE c l).take (i*sz)=bE c (l.take i)/\(bE c l).drop (i*sz)=bE c (l.drop i)
 |l,0,_=>by simp[bE]
 | [],i+1,_=>by simp[bE]
 |x::l,i+1,h=>by
  obtain⟨h1,a⟩:=yM l i λy b=>h y (by simp[b])
  have hx:=h x (by simp)
  have e:(i+1)*sz=(c x).length+i*sz:=by rw[km,hx];omega
  rw[qj,e,List.take_length_add_append,List.drop_length_add_append,h1,a]
  exact⟨rfl,rfl⟩
theorem qz{l:O (U×U)}:∀v∈bE eD l,Plain v:=by
 intro v a;obtain⟨x,hx,a⟩:=List.mem_flatten.1 a;obtain⟨p,_,rfl⟩:=dv.1 hx;exact qu p v a
theorem CF(l:O (U×U)):(bE eD l).length=l.length*2:=gn _ (oT l)
section
variable {B C W:Nat->Prop}{w w':J}{s:U}{ps iu:O (U×U)}{L M:O aJ}
theorem eT.app(h:eT B w ps L)(a:eT B w iu M):eT B w (ps++iu) (L++M):=by
 refine⟨by simp[h.1,a.1],λi au b=>?_⟩;rcases dH i ps.length with g|g
 .have g':i<L.length:=by have:=h.1;omega
  simp only[l0 g,l0 g'];exact h.2 i g g'
 .have g':L.length<=i:=by have:=h.1;omega
  rw[cx]at au b;simp only[nH g,nH g',h.1];exact a.2 _ (by have:=h.1;omega) I
theorem eT.drop(h:eT B w ps L)(i:Nat):eT B w (ps.drop i) (L.drop i):=by
 refine⟨by simp[h.1],λj au a=>?_⟩;simp only[nF];exact h.2 _ (by rw[c5]at au;omega) (by rw[c5]at a;omega)
theorem eT.take(h:eT B w ps L)(i:Nat):eT B w (ps.take i) (L.take i):=by
 refine⟨by simp[h.1],λj au a=>?_⟩;simp only[mO];exact h.2 _ (by rw[cv]at au;omega) (by rw[cv]at a;omega)
theorem eT.one{p:U×U}{gb:aJ}(h1:a7 B w p.1 gb.1)(a:a7 B w p.2 gb.2):eT B w [p] [gb]:=
 eT.push (ps:=[]) (L:=[]) ⟨rfl,λi h=>by simp at h⟩ h1 a
structure gR(gZ:O aa)(g0:TypeId)(B:Nat->Prop)(w:J)(aT:Nat)(s:U)(L:O aJ):Prop where
 v:Var w aT (s::gZ) g0
 p:fU B w s L
 nb:¬B aT
 ok:∀p∈L,p.1.length<=1000/\p.2.length<=1000
 eQ:L.length<=10000
variable {gZ:O aa}{g0:TypeId}{aT:Nat}{key val:Key}{tk dg:U}
theorem gR.ad(h:gR gZ g0 B w aT s L)(hc:ab W w w')(a:¬W aT)(b:∀k,B k->k<w.heap.size->¬W k):gR gZ g0 B w' aT s L:=⟨h.v.ad hc a,h.p.ad hc b,h.nb,h.ok,h.eQ⟩
theorem gR.ext(h:gR gZ g0 B w aT s L)(hc:Ext w w'):gR gZ g0 B w' aT s L:=h.ad hc id λ_ _ _ h=>h
theorem gR.aW(h:gR gZ g0 B w aT s L)(a:∀k,k<w.heap.size->B k->C k)(b:¬C aT):gR gZ g0 C w aT s L:=⟨h.v,h.p.aW a,b,h.ok,h.eQ⟩
theorem oU(h:fU B w s L){i:Nat}(hi:i<L.length):∃ (A:ae) (tk dg:U),s.a=some A/\((0:Int)<=(i:Int)/\(i:Int)<(s.len:Int))/\w.cell? (A.add (Int.toNat (i:Int)*2))=some (.slice tk.a tk.len tk.cap)/\w.cell? ((A.add (Int.toNat (i:Int)*2)).add 1)=some (.slice dg.a dg.len dg.cap)/\
 a7 B w tk L[i].1/\a7 B w dg L[i].2:=by
 obtain⟨A,tk,dg,h1,_,b,c,d,e,f⟩:=h.at hi;rw[c8];exact⟨A,tk,dg,h1,b,c,d,e,f⟩
theorem yN(h:gR gZ g0 B w aT s L)(o:Src 1 w tk (aF key))(J:key.length<=1000):
 aP ai 103 #[.pointer (some aT),tk] w (λv w'=>∃i:Nat,v=.tuple #[i,.bool (ir L key i)]/\qy L key i/\Ext w w'):=by
 have K:=h.p.len;have M:=h.eQ;refine okF (af.vk (some aT) tk) ay.vk func103 ?_;(delta af.vk ag ak aI aA av;dsimp only);refine⟨λn w'=>∃i:Nat,n=(i:Int)/\i<=L.length/\(∀p∈L.take i,bH p.1 key)/\Ext w w',λn _=>((L.length:Int)-n).toNat,⟨0,rfl,cE _,by simp,.refl _ _⟩,?_⟩;rintro _ N ⟨i,rfl,hi,r,hx⟩;have g:=h.ext hx;refine⟨_,rfl,s,g.v.cell,cm (λb w'=>(b=true↔∃p,L[i]? =some p/\bH p.1 key)/\Ext w w') (λq a=>⟨λaH=>?_,λj=>a _ _ ⟨⟨λh=>(by cases h),λ⟨p,h1,_⟩=>?_⟩,hx⟩⟩) ?_⟩
 .have c:i<L.length:=by
   have:(i:Int)<(s.len:Int):=b2 aH;omega
  obtain⟨A,t1,t2,ar,d,aA,aR,k,x⟩:=oU g.p c;refine⟨_,rfl,s,g.v.cell,A,ar,d,t1,aA,(m9 k.1 (o.ext hx) (by have:=(h.ok _ (cw c)).1;omega) I).use ?_⟩;rintro _ O ⟨n,rfl,y,z⟩;refine⟨n,rfl,a _ _ ⟨?_,Ext.trans hx z⟩⟩;rw[cS,y,c_ c];exact⟨λh=>⟨_,rfl,h⟩,λ⟨p,h1,C⟩=>by cases h1;exact C⟩
 .have:=(ib.1 h1).1
  have:¬(i:Int)<(s.len:Int):=cr j;omega
 rintro P D ⟨d,t⟩;refine⟨λht=>?_,λhf=>?_⟩
 .obtain⟨p,l,aH⟩:=d.1 ht
  obtain⟨c,E⟩:=ib.1 l;have F:IntKind.wrap .i64 ((i:Int)+1)=((i+1:Nat):Int):=by rw[bu I I];omega
  rw[F];refine⟨⟨i+1,rfl,I,λq a=>?_,t⟩,by show((L.length:Int)-((i+1:Nat):Int)).toNat<((L.length:Int)-(i:Int)).toNat;omega⟩;rw[iy c]at a;rcases cR.1 a with a|a
  .exact r q a
  .rw[fi.1 a,E];exact aH
 .have f:=Ext.trans t (b6 D)
  have m:=h.ext f;have u:qy L key i:=⟨hi,r,λp l aH=>by rw[d.2 ⟨p,l,aH⟩]at hf;cases hf⟩;refine aS ⟨_,rfl,id,s,m.v.cell,λaH=>?_,λj=>⟨i,?_,u,f⟩⟩
  .have c:i<L.length:=by
    have:(i:Int)<(s.len:Int):=b2 aH;omega
   obtain⟨A,t1,t2,ar,d,aA,aR,k,x⟩:=oU m.p c;refine⟨_,rfl,id,s,m.v.cell,A,ar,d,id,t1,aA,_,λQ G=>k9 (k.1.ext G),_,λR H=>k9 ((o.ext f).ext H),i,?_,u,f⟩;rw[nX];unfold ir;rw[c_ c];have e:(L[i].1==key)=decide ((some L[i]).map Prod.fst=some key):=by rw[fW];simp
   rw[e]
  .have:¬i<L.length:=by
    have:¬(i:Int)<(s.len:Int):=cr j;omega
   unfold ir;rw[iU I];rfl
theorem wj(w:J):Sem.run ai (Instr.buildSlice 86 0 #[]) w=.ok (.slice (some w.heap.size) 0 0) (w.alloc (.cells #[] 167)):=by kernel_rfl
theorem Src.qA(h:Src 2 w s (bE eD ps))(hc:s.len<=s.cap){lo hi:Nat}(h1:lo<=hi)(c:hi<=ps.length):Src 2 w ⟨aO s.a 2 lo s.cap,hi-lo,s.cap-lo⟩ (bE eD ((ps.drop lo).take (hi-lo))):=by
 have b:=h.len;rw[CF]at b;have:=Src.cut h hc h1 (hi:=hi) I;rw[(yM ps lo (oT ps)).2,(yM (ps.drop lo) (hi-lo) (oT _)).1]at this;exact this
theorem CG(h:Var w aT (s::gZ) g0){a:U}{b:J}(hf:gp 2 167 w b a (bE eD ps))(l:eT B w ps M)(m:∀q,w.heap.size<=q->B q)(d:¬B aT)(n:∀p∈M,p.1.length<=1000/\p.2.length<=1000)(r:M.length<=10000):
 (∃u:aa,b.cell? aT=some u)/\b.frozen? aT=false/\gR gZ g0 B (b.setCell aT a) aT a M/\ab (λq=>q=aT) w (b.setCell aT a):=by
 have j:=h.ext hf.x;obtain⟨bx,bG⟩:=dF j (i:=0) (by simp);have g:=dp b aT 0 a;have aH:=h.lt;have k:∀q,az a q->B q:=λq c=>m q (hf.f q c);have hc:=ct (W:=λq=>q=aT) (ab.cK hf.x) g λq _ e=>e;refine⟨bx,bG,⟨dM j (i:=0) _,⟨ps,?_,hf.o.2.1,λq c=>⟨k q c,?_⟩,l.ad hc λq t _ e=>d (e▸t)⟩,d,n,r⟩,hc⟩
 .exact(hf.o.ad g λq c e=>d (e▸k q c)).src
 .exact fO (hf.o.lt q c) g.size
theorem HH(h:gR gZ g0 B w aT s L)(ao:gJ L)(z:Src 1 w tk (aF key))(R:key.length<=1000)(S:Src 1 w dg (aF val))(ap:val.length<=1000)(A:∀q,w.heap.size<=q->B q)(aI:L.length<=9999):
 aP ai 107 #[.pointer (some aT),tk,dg] w (λv w'=>v=.tuple #[]/\ab (λq=>q=aT) w w'/\∃a,gR gZ g0 B w' aT a (eO L key val)):=by
 have aJ:=h.p.len;have aK:=len8 z;have aL:=len8 S;refine okF (af.vo (some aT) tk dg) ay.vo func107 ?_;(delta af.vo gX Y ak ag av tF fZ;dsimp only);refine(yN h z R).use ?_;rintro _ w1 ⟨i,rfl,T,C⟩;obtain⟨m,_,_⟩:=T.wh ao val;have aq:=T.le;obtain⟨c,V,au,D,aM,W,ar,_⟩:=oC.clone (cH:=48) (z.ext C) (k8 _) I;have X:=Ext.trans C W;obtain⟨sv,n,bx,bG,aN,E,aw,_⟩:=oC.clone (cH:=48) (S.ext X) (k8 _) I;have ax:=Ext.trans X E;refine⟨_,_,rfl,aS ⟨c,V,au,aS ⟨sv,n,bx,bh (vs:=[(),()]) rfl λaO Z az aQ=>⟨Z.cc rfl (qu (c,sv)),rfl,cy Z (us:=eD (c,sv)) rfl rfl λac aA aB aR=>?_⟩⟩⟩⟩;have F:Ext n ac:=Ext.cu az aB (bo _);obtain⟨d,l⟩:∃d,d=ac.drew:=⟨_,rfl⟩;have G:Ext w d:=by rw[l];exact Ext.trans (Ext.trans ax F) (b6 _)
 have o:Var d n.heap.size (eD (c,sv)) 167:=by rw[l];exact aA.drew
 have k:=h.ext G;have aU:=C.size;have aV:=W.size;have aW:=E.size;have aC:∀q,w1.heap.size<=q->B q:=λq g=>A q I;have ad:Ext V d:=by rw[l];exact Ext.trans (Ext.trans E F) (b6 _)
 have ah:Ext n d:=by rw[l];exact Ext.trans F (b6 _)
 have aD:a7 B d c key:=⟨(D.ext ad).src,D.2.1,λq g=>⟨aC q (ar q g),(D.ext ad).lt q g⟩⟩;have ev:a7 B d sv val:=⟨(bG.ext ah).src,bG.2.1,λq g=>⟨A q (by have:=aw q g;omega),(bG.ext ah).lt q g⟩⟩;obtain⟨ps,fJ,t,aX,H⟩:=k.p;have aY:ps.length=L.length:=H.1;have aj:∀ (j:Nat),i<=j->j<=L.length->∀ (a:U) (b:J),gp 2 167 d b a (bE eD ((ps.drop 0).take (i-0))++eD (c,sv)++bE eD ((ps.drop j).take (ps.length-j)))->eO L key val=L.take i++(key,val)::L.drop j->
  (∃u:aa,b.cell? aT=some u)/\b.frozen? aT=false/\al (b.setCell aT a) λw'=>(.tuple #[]:aa)=.tuple #[]/\ab (λq=>q=aT) w w'/\∃a,gR gZ g0 B w' aT a (eO L key val):=by
  intro j aZ a0 a b hf am;have e:bE eD ((ps.drop 0).take (i-0))++eD (c,sv)++bE eD ((ps.drop j).take (ps.length-j))=bE eD (ps.take i++ [(c,sv)]++ps.drop j):=by
   rw[dI (show(ps.drop j).length<=ps.length-j by simp),lM,lM];simp[bE]
  rw[e]at hf;have aE:eT B d (ps.take i++ [(c,sv)]++ps.drop j) (eO L key val):=by
   rw[am,cD];exact(H.take i).app (eT.app (M:=L.drop j) (L:=[(key,val)]) (eT.one aD ev) (H.drop j))
  obtain⟨a1,a2,a3,a4⟩:=CG k.v hf aE (λq g=>A q (ey G.size g)) h.nb (λp N=>by
   rcases AN.1 N with rfl|⟨N,_⟩
   .exact⟨R,ap⟩
   .exact h.ok p N) (by
   rw[am];simp only[cx,cv,eU,c5];omega)
  exact⟨a1,a2,aS ⟨rfl,ct (ab.cK G) a4 λq _ e=>e,a,a3⟩⟩
 have a5:i<=s.cap:=by omega
 have y:¬d.heap.size<=aT:=by have:=k.v.lt;omega
 have an:¬d.heap.size<=n.heap.size:=by have:=o.lt;omega
 have aG:IntKind.wrap .i64 ((i:Int)+1)=((i+1:Nat):Int):=by have:=h.eQ;rw[bu I I];omega
 refine⟨λO=>?_,λO=>?_⟩
 .have r:ir L key i=true:=O
  rw[r,if_pos rfl]at m;have aH:i+1<=L.length:=by
   unfold ir at r;have h1:=b2 r;rcases dH i L.length with P|P
   .exact P
   .rw[iU P]at h1;cases h1
  rw[aG,←l];refine aS ⟨λq=>d.heap.size<=q,_,rfl,y,s,k.v.cell,⟨I,I⟩,an,c,o.cell,sv,o.cell,_,rfl,y,s,k.v.cell,⟨I,I⟩,?_⟩;rw[c8,c8];have Q:s.len-(i+1)=ps.length-(i+1):=by omega
  rw[Q];exact CE (x:=[c,sv]) qv wj (λw=>wb w _ rfl) rfl (Src.qA fJ t (cE _) I) (Src.qA fJ t I (bo _)) (qu (c,sv)) qz qz (by show(2*((i-0)+(ps.length-(i+1))+1)+1000)*48<=_;omega) (K:=λa b=>∃f:ae,some (aT:ae)=some f/\(∃u:aa,b.cell? f=some u)/\b.frozen? f=false/\al (b.setCell f a) λw'=>(.tuple #[]:aa)=.tuple #[]/\ab (λq=>q=aT) w w'/\∃a,gR gZ g0 B w' aT a (eO L key val))
   λa b hf=>⟨_,rfl,aj (i+1) I aH a b hf m⟩
 .have r:ir L key i=false:=O
  rw[r]at m;simp only[fM,if_false]at m;rw[←l];refine aS ⟨λq=>d.heap.size<=q,_,rfl,y,s,k.v.cell,⟨I,I⟩,an,c,o.cell,sv,o.cell,_,rfl,y,s,k.v.cell,⟨I,I⟩,?_⟩;rw[c8];have Q:s.len-i=ps.length-i:=by omega
  rw[Q];exact CE (x:=[c,sv]) qv wj (λw=>wb w _ rfl) rfl (Src.qA fJ t (cE _) I) (Src.qA fJ t I (bo _)) (qu (c,sv)) qz qz (by show(2*((i-0)+(ps.length-i)+1)+1000)*48<=_;omega) (K:=λa b=>∃f:ae,some (aT:ae)=some f/\(∃u:aa,b.cell? f=some u)/\b.frozen? f=false/\al (b.setCell f a) λw'=>(.tuple #[]:aa)=.tuple #[]/\ab (λq=>q=aT) w w'/\∃a,gR gZ g0 B w' aT a (eO L key val))
   λa b hf=>⟨_,rfl,aj i (bo _) aq a b hf m⟩
end
section
variable {gZ:O aa}{g0:TypeId}{B C W:Nat->Prop}{w w':J}{s t:U}{L M:O aJ}{aT:Nat}{key fr to:Key}{tk yO tt:U}
theorem yP{i:Nat}(h:ir L key i=true):i<L.length:=by
 unfold ir at h;have h1:=b2 h;rcases dH i L.length with a|a
 .exact a
 .rw[iU a]at h1;cases h1
theorem qy.get{i:Nat}(h:qy L key i)(b:gJ L):ir L key i=(ei L key).isSome:=by
 rw[(h.wh b []).2.2];by_cases a:ir L key i=true
 .rw[a,if_pos rfl,c_ (yP a)];rfl
 .have:ir L key i=false:=by simpa using a
  rw[this];rfl
theorem HI(h:gR gZ g0 B w aT s L)(m:gJ L)(z:Src 1 w tk (aF key))(A:key.length<=1000)(C:∀q,w.heap.size<=q->B q):
 aP ai 104 #[.pointer (some aT),tk] w (λv w'=>v=.bool (ei L key).isSome/\ab (λq=>q=aT) w w'/\∃g,gR gZ g0 B w' aT g (en L key)):=by
 have Q:=h.p.len;have D:=h.eQ;refine okF (af.vl (some aT) tk) ay.vl func104 ?_;(delta af.vl gX ak ag av;dsimp only);refine(yN h z A).use ?_;rintro _ w1 ⟨i,rfl,n,j⟩;obtain⟨_,d,_⟩:=n.wh m [];refine⟨_,_,rfl,hL (λw'=>ab (λq=>q=aT) w w'/\∃g,gR gZ g0 B w' aT g (en L key)) (λq b=>⟨λc=>?_,λc=>?_⟩) ?_⟩
 rotate_left
 .have c:ir L key i=false:=c
  rw[c]at d;simp only[fM,if_false,hF]at d;rw[d]at b;exact b _ ⟨ab.cK j,s,h.ext j⟩
 .rintro R ⟨h1,E⟩
  exact⟨by rw[n.get m],h1,E⟩
 have c:ir L key i=true:=c;have S:=yP c;rw[c,if_pos rfl]at d;obtain⟨a,o⟩:∃a,a=w1.drew:=⟨_,rfl⟩;rw[←o];have k:Ext w a:=by rw[o];exact Ext.trans j (b6 _)
 have f:=h.ext k;obtain⟨ps,fJ,r,U,l⟩:=f.p;have V:ps.length=L.length:=l.1;have t:¬a.heap.size<=aT:=by have:=f.v.lt;omega
 have F:IntKind.wrap .i64 ((i:Int)+1)=((i+1:Nat):Int):=by rw[bu I I];omega
 have f0:gp 2 167 a (a.alloc (.cells #[] 167)) ⟨some a.heap.size,0,0⟩ []:=⟨a8.new (T:=167) a [] 0 (by simp) (by decide),eB _ _,λq b=>by rw[ky]at b;simp at b;omega⟩;obtain⟨G,H,au,J,u,K,_,_⟩:=gp.app (cH:=86) qv f0 ((Src.qA fJ r (cE i) I).ext f0.x) qz (by show(2*(0+(i-0))+1000)*48<=_;omega);obtain⟨M,N,bx,bG,y,W,_,_⟩:=gp.app (cH:=86) qv u ((Src.qA fJ r (show i+1<=ps.length from I) (bo _)).ext u.x) qz (by rw[K];show(2*((0+(i-0))+(ps.length-(i+1)))+1000)*48<=_;omega);rw[F];refine aS ⟨λq=>a.heap.size<=q,_,rfl,t,s,f.v.cell,⟨I,I⟩,_,rfl,t,s,f.v.cell,⟨I,I⟩,⟨some a.heap.size,0,0⟩,_,wj a,ab.cK f0.x,?_⟩;rw[c8,c8,show s.len-(i+1)=ps.length-(i+1) from I];have e: []++bE eD ((ps.drop 0).take (i-0))++bE eD ((ps.drop (i+1)).take (ps.length-(i+1)))=bE eD (ps.take i++ps.drop (i+1)):=by
  rw[dI (show(ps.drop (i+1)).length<=ps.length-(i+1) by simp),lM];simp
 rw[e]at y;have O:eT B a (ps.take i++ps.drop (i+1)) (en L key):=by
  rw[d];exact(l.take i).app (l.drop (i+1))
 have hlen:(en L key).length<=10000:=ey (l2 _ _) D;obtain⟨a1,a2,a3,a4⟩:=CG f.v y O (λq b=>C q (ey k.size b)) h.nb (λp P=>h.ok p (hE.1 P).1) hlen;exact⟨G,H,au,J,M,N,bx,bG,_,rfl,a1,a2,aS (b _ ⟨ct (ab.cK k) a4 λq _ e=>e,_,a3⟩)⟩
theorem CH{L:O aJ}{i m:Nat}(hi:i<L.length):(eP (L.take (i+1)) fr to).take m=(if lh fr to L[i]=true/\(eP (L.take i) fr to).length<m then (eP (L.take i) fr to).take m++ [L[i]] else (eP (L.take i) fr to).take m):=by
 rw[iy hi,sf,se [L[i]],pe,List.filter_nil];by_cases h1:lh fr to L[i]=true
 .rw[if_pos h1]
  by_cases a:(eP (L.take i) fr to).length<m
  .rw[if_pos ⟨h1,a⟩,dI (l:=eP (L.take i) fr to) I,dI (by rw[cx,iS];omega)]
  .rw[if_neg (λh=>a h.2),nI I]
 .rw[if_neg h1,if_neg (λh=>h1 h.1),fQ]
theorem HJ(h:gR gZ g0 B w aT s L)(hf:Src 1 w yO (aF fr))(aK:fr.length<=1000)(ht:Src 1 w tt (aF to))(aL:to.length<=1000)(most:Int)(Z:∀q,w.heap.size<=q->B q):
 aP ai 52 #[.pointer (some ⟨aT,0,none⟩),.slice yO.a yO.len yO.cap,.slice tt.a tt.len tt.cap,.int .i64 most] w (λv w'=>∃C,v=.slice C.a C.len C.cap/\fU B w' C ((eP L fr to).take most.toNat)/\Ext w w'):=by
 have aM:=h.p.len;have aN:=h.eQ;have R:=len8 ht;refine okF (af.vj (some ⟨aT,0,none⟩) yO tt most) ay.vj func52 ?_;(delta af.vj ag ak aI aA av;dsimp only);have f0:gp 2 167 w (w.alloc (.cells #[] 167)) ⟨some ⟨w.heap.size,0,none⟩,0,0⟩ (bE eD []):=⟨a8.new (T:=167) w [] 0 (by simp) (by decide),eB _ _,λq d=>by rw[ky]at d;simp at d;omega⟩;have aa:fU (λq=>B q/\q<w.heap.size) w s L:=h.p.aW λq d c=>⟨c,d⟩;have ac:∀w',eT (λq=>B q/\q<w.heap.size) w' [] ((eP (L.take 0) fr to).take most.toNat):=λw'=>by
  rw[List.take_zero];have e:(eP [] fr to).take most.toNat=[]:=by simp[eP]
  rw[e];exact⟨rfl,λi h=>by simp at h⟩
 refine⟨⟨some ⟨w.heap.size,0,none⟩,0,0⟩,_,wj w,λj n t=>∃ (i:Nat) (iu:O (U×U)),n=(i:Int)/\i<=L.length/\gp 2 167 w t j (bE eD iu)/\eT (λq=>B q/\q<w.heap.size) t iu ((eP (L.take i) fr to).take most.toNat),λ_ n _=>((L.length:Int)-n).toNat,⟨0,[],rfl,cE _,f0,ac _⟩,?_⟩;rintro j _ t ⟨i,iu,rfl,hi,g,D⟩;have F:=h.ext g.x;have aO:j.len=iu.length:=by
  have:=g.o.1;rw[CF]at this;omega
 have G:=D.1;rw[cv]at G;have aQ:(eP (L.take i) fr to).length<=i:=ey (l2 _ _) (by rw[cv];omega);refine⟨_,rfl,s,F.v.cell,λaH=>?_,λH=>?_⟩
 rotate_left
 .have ae:i=L.length:=by
   have:¬((i:Nat):Int)<((s.len:Nat):Int):=cr H;omega
  rw[ae,iz]at D;exact⟨j,rfl,⟨iu,g.o.src,g.o.2.1,λq d=>⟨Z q (g.f q d),g.o.lt q d⟩,D.aW λq _ c=>c.1⟩,g.x⟩
 have u:i<L.length:=by
  have:((i:Nat):Int)<((s.len:Nat):Int):=b2 aH;omega
 obtain⟨A,t1,t2,ar,c,aA,aR,E,S⟩:=oU F.p u;have ah:IntKind.wrap .i64 (((i:Nat):Int)+1)=((i+1:Nat):Int):=by rw[bu I I];omega
 have aS:=h.ok _ (cw u);refine cm (λj w'=>∃iu:O (U×U),gp 2 167 w w' j (bE eD iu)/\eT (λq=>B q/\q<w.heap.size) w' iu ((eP (L.take (i+1)) fr to).take most.toNat)) (λq d=>⟨_,rfl,s,F.v.cell,A,ar,c,t1,aA,(m9 E.1 (hf.ext g.x) I I).use ?_⟩) ?_
 rotate_left
 .rintro aU aV ⟨aj,al,am⟩
  rw[ah];exact⟨⟨i+1,aj,rfl,I,al,am⟩,by show((L.length:Int)-((i+1:Nat):Int)).toNat<((L.length:Int)-((i:Nat):Int)).toNat;omega⟩
 rintro _ aX ⟨n,rfl,V,y⟩;refine⟨n,rfl,cm (λb w'=>b=lh fr to L[i]/\Ext t w') (λr z=>⟨λH=>?_,λaH=>?_⟩) ?_⟩
 .have J:ek fr L[i].1:=λK=>by
   have:=V.2 K;have:n>=0:=b2 H;omega
  refine cm (λb w'=>b=(to.isEmpty||decide (bH L[i].1 to))/\Ext t w') (λr z=>⟨λh0=>z _ _ ⟨?_,y⟩,λh0=>?_⟩) ?_
  .have:to=[]:=kl.1 (by
    have:((tt.len:Nat):Int)=0:=by simpa using h0
    omega)
   rw[this];rfl
  .refine(m9 (E.1.ext y) (ht.ext (Ext.trans g.x y)) I I).use ?_
   rintro _ aY ⟨m,rfl,an,ao⟩;refine⟨m,rfl,z _ _ ⟨?_,Ext.trans y ao⟩⟩;have:to.isEmpty=false:=by
    cases ap:to with
    |nil=>
     rw[ap]at R;have h0:¬((tt.len:Nat):Int)=0:=by simpa using h0
     simp at R;omega
    |cons _ _=>rfl
   rw[this,kT];exact decide_eq_decide.2 an
  .rintro aZ a0 ⟨rfl,aq⟩
   refine z _ _ ⟨?_,aq⟩;unfold lh;rw[dw J,jz]
 .refine z _ _ ⟨?_,y⟩
  have J:¬ek fr L[i].1:=λK=>by
   have:¬n>=0:=cr aH;exact K (V.1 I)
  unfold lh;rw[hG J,l1]
 rintro a1 k ⟨rfl,M⟩;have l:gp 2 167 w k j (bE eD iu):=⟨g.o.ext M,Ext.trans g.x M,g.f⟩;have X:eT (λq=>B q/\q<w.heap.size) k iu ((eP (L.take i) fr to).take most.toNat):=D.ad M λ_ _ _ h=>h;refine⟨λc=>?_,λc=>d _ _ ⟨iu,l,?_⟩⟩
 .rw[ed,cS]at c
  have aw:lh fr to L[i]=true/\(eP (L.take i) fr to).length<most.toNat:=⟨c.1,by
   rcases dH (eP (L.take i) fr to).length most.toNat with h|h
   .exact h
   .rw[jn h]at G;omega⟩
  have ax:=h.ext l.x;obtain⟨A,t1,t2,ar,aB,aA,aR,E,S⟩:=oU (aa.ext l.x) u;have N:Ext k (k.alloc (.cells (eD (t1,t2)).toArray 167)):=eB _ _;have aC:gp 2 167 w (k.alloc (.cells (eD (t1,t2)).toArray 167)) j (bE eD iu):=⟨l.o.ext N,Ext.trans l.x N,l.f⟩;obtain⟨aD,Y,au,a2,aE,a3,aG,_⟩:=gp.app (cH:=86) qv aC (Src.new (T:=167) k (eD (t1,t2)) 1 rfl) (qu _) (by show(2*(j.len+1)+1000)*48<=_;omega);have P:ab (az j) k Y:=ct (W:=az j) (ab.cK N) aG λq _ h=>h;have Q:∀q,B q/\q<w.heap.size->¬az j q:=λq d aJ=>by have:=g.f q aJ;omega
  refine⟨_,rfl,s,ax.v.cell,A,ar,aB,t1,aA,t2,aR,⟨some ⟨k.heap.size,0,none⟩,1,1⟩,_,wb k _ rfl,aD,Y,au,d _ _ ⟨iu++ [(t1,t2)],?_,?_⟩⟩
  .have e:bE eD (iu++ [(t1,t2)])=bE eD iu++eD (t1,t2):=by rw[lM];simp[bE]
   rw[e];exact aE
  .rw[CH u,if_pos aw]
   exact(X.ad P λq d _=>Q q d).app (eT.one (a7.ad E P Q) (a7.ad S P Q))
 .rw[CH u]
  rw[Bool.and_eq_false_iff,jA]at c;rw[if_neg]
  .exact X
  .rintro⟨h1,a4⟩
   rcases c with c|c
   .rw[h1]at c;cases c
   .rw[Nat.min_eq_right I]at G
    omega
end
def qB(n:Nat)(root aG:Int):Prop:=0<=aG/\aG<=12/\0<=root/\root<n/\(root=0↔aG=0)
theorem oc{w:J}{C:b1}(hc:fm w C)(sb:Nat)(gen root aG:Int):
 aP ai 140 #[.pointer (some C.c),.pointer (some sb),.int .u64 gen,root,aG] w (λv w'=>
  (qB C.D.n root aG/\v=.tuple #[.pointer (some w.heap.size),(0:Int)]/\Ext w w'/\Var w' w.heap.size [.pointer (some C.c),.pointer (some sb),.int .u64 gen,root,aG] 239/\w'.heap.size=w.heap.size+1)\/
  (¬qB C.D.n root aG/\v=.tuple #[.pointer none,(1:Int)]/\w=w')):=by
 refine okF (af.oc (some C.c) (some sb) gen root aG) ay.oc func140 ?_;(delta af.oc ak aA Y;dsimp only);refine cm (λb w'=>(b=false↔(0<=aG/\aG<=12/\0<=root/\root<C.D.n))/\w=w') (λq i=>⟨λh1=>i _ _ ⟨?_,rfl⟩,λh1=>⟨_,rfl,_,hc.cells.1,(ql hc.dev).use ?_⟩⟩) ?_
 .simp only[Option.isNone_some,kT,jl,cS]at h1
  exact⟨λh=>(by cases h),λh=>I⟩
 .rintro _ _ ⟨rfl,rfl⟩
  simp only[Option.isNone_some,kT,nD,jA]at h1;refine⟨_,rfl,i _ _ ⟨?_,rfl⟩⟩;rw[jA];omega
 rintro b _ ⟨j,rfl⟩;refine⟨λh1=>.inr ⟨λhg=>?_,rfl,rfl⟩,λh1=>?_⟩
 .have a:=j.2 ⟨hg.1,hg.2.1,hg.2.2.1,hg.2.2.2.1⟩
  rw[a,kT]at h1;have f:=hg.2.2.2.2;by_cases d:root=0
  .rw[d,f.1 d]at h1;simp at h1
  .have g:aG≠0:=λe=>d (f.2 e)
   have k:(root==0)=false:=by simpa using d
   have l:(aG==0)=false:=by simpa using g
   rw[k,l]at h1
   cases h1
 .rw[nD]at h1
  have a:=j.1 h1.1;have f:root=0↔aG=0:=by
   have d:=h1.2;by_cases g:root=0<;>by_cases m:aG=0<;>simp[g,m]at d⊢
  refine bh (vs:=[.pointer (some C.c),.pointer (some sb),.int .u64 gen,root,aG]) rfl λp o hx hs=>.inl ⟨⟨a.1,a.2.1,a.2.2.1,a.2.2.2,f⟩,rfl,hx,o,hs⟩
theorem CI{w:J}{s:U}{l:O UInt8}(hs:Src 1 w s (aF l))(hc:s.len<=s.cap)(most:Nat)(j:most<=100000):aP ai 24 #[s,most] w (λv w'=>∃a:U,v=a/\a8 1 5 w' a (aF (l.take most))/\Ext w w'/\∀q,az a q->w.heap.size<=q):=by
 have hlen:=len8 hs;refine okF (af.vq s (most:Nat)) ay.vq func24 ?_;delta af.vq ak Y;refine cm (λs2 w'=>w=w'/\Src 1 w s2 (aF (l.take most))/\s2.len<=most) (λq b=>⟨λh=>?_,λh=>?_⟩) ?_
 .have h:most<l.length:=by have:=b2 h;omega
  refine⟨⟨I,I⟩,b _ _ ⟨rfl,?_,by simp⟩⟩;have:=nj hs hc (lo:=0) (hi:=most) I I;simpa using this
 .have h:l.length<=most:=by have:=cr h;omega
  rw[dI h]at b;exact b _ _ ⟨rfl,hs,I⟩
 rintro s2 _ ⟨rfl,d,k⟩;obtain⟨c,e,au,f,m,g,i,_⟩:=oC.clone (cH:=48) d (k8 _) I;exact aS ⟨c,e,au,c,rfl,f,g,i⟩
instance (n:Nat) (root aG:Int):Decidable (qB n root aG):=by unfold qB;infer_instance
theorem ou{B C:Nat->Prop}{w:J}{s t:U}{L M:O aJ}(hs:fU B w s L)(ht:fU C w t M)(P:L.length<=1000000):
 aP ai 43 #[s,t] w (λv w'=>∃r:aj,v=r/\(r=true↔L=M)/\Ext w w'):=by
 have h1:=hs.len;have e:=ht.len;refine okF (af.ou s t) ay.ou func43 ?_;(delta af.ou ak aI ag av;dsimp only);refine⟨λa=>⟨false,rfl,⟨λh=>(by cases h),λh=>?_⟩,.refl _ _⟩,λb=>?_⟩
 .rw[h1,e,h]at a;simp at a
 have m:L.length=M.length:=by
  have:(s.len:Int)=(t.len:Int):=by simpa using b
  omega
 refine⟨λn w'=>∃i:Nat,n=(i:Int)/\i<=L.length/\L.take i=M.take i/\Ext w w',λn _=>((L.length:Int)-n).toNat,⟨0,rfl,cE _,by simp,.refl _ _⟩,?_⟩;rintro _ o ⟨i,rfl,hi,he,hx⟩;refine⟨λaH=>?_,λp=>?_⟩
 rotate_left
 .have d:i=L.length:=by
   have:¬(i:Int)<(s.len:Int):=cr p;omega
  refine⟨true,rfl,⟨λ_=>?_,λ_=>rfl⟩,hx⟩;rw[d,iz,m,iz]at he;exact he
 have d:i<L.length:=by
  have:(i:Int)<(s.len:Int):=b2 aH;omega
 have f:i<M.length:=by omega
 have c:=Ext.trans hx (b6 o);obtain⟨A,a1,a2,ar,g,aA,aR,q,u⟩:=oU (hs.ext c) d;obtain⟨D,b9,bQ,j,k,d1,d2,x,y⟩:=oU (ht.ext c) f;have z:IntKind.wrap .i64 ((i:Int)+1)=((i+1:Nat):Int):=by rw[bu I I];omega
 have l:∀ {r:Prop},L[i]≠M[i]->L=M->r:=λh e=>absurd (by subst e;rfl) h;refine aS ⟨A,ar,g,id,a1,aA,_,λQ E=>k9 (q.1.ext E),D,j,k,id,b9,d1,_,λR F=>k9 (x.1.ext F),λa=>⟨λ_=>⟨false,rfl,⟨λh=>(by cases h),l λh=>?_⟩,c⟩,λh=>(by cases h)⟩,λb=>?_⟩
 .rw[nX,h]at a;simp at a
 rw[nX]at b;have G:L[i].1=M[i].1:=by simpa using b
 refine⟨A,ar,g,id,a2,aR,_,λS H=>k9 (u.1.ext H),D,j,k,id,bQ,d2,_,λT K=>k9 (y.1.ext K),λa=>⟨false,rfl,⟨λh=>(by cases h),l λh=>?_⟩,c⟩,λb=>?_⟩
 .rw[nX,h]at a;simp at a
 rw[nX]at b;have N:L[i].2=M[i].2:=by simpa using b
 rw[z];refine⟨⟨i+1,rfl,I,?_,c⟩,by show((L.length:Int)-((i+1:Nat):Int)).toNat<((L.length:Int)-(i:Int)).toNat;omega⟩;rw[iy d,iy f,he,Prod.ext G N]
theorem lG{w:J}{s:U}{k:Key}(h:Src 1 w s (aF k)):aP ai 50 #[s] w (λv w'=>v=.bool (decide (cB k))/\w=w'):=by
 have a:=len8 h;refine okF (af.lG s) ay.lG func50 ?_;unfold af.lG;refine⟨?_,rfl⟩;have e:(decide ((s.len:Int)>0)&&decide ((s.len:Int)<=24))=decide (cB k):=by
  rw[fW,ed,cS,cS,cS];unfold cB;omega
 rw[e]
structure dO where
 now:O aJ
 sure:O aJ
 gi:U
 ss:U
 du:Nat
 clock:Nat
 first:Nat
 cC:Nat
 oV:Nat
def dO.rest(m:dO):O aa:=[m.ss,m.du,.int .u64 (m.clock:Nat),.int .u64 (m.first:Nat),.int .u64 (m.cC:Nat),.int .u64 (m.oV:Nat)]
def dO.c(m:dO):O aa:=m.gi::m.rest
def dO.nz(m:dO):dO:={m with sure:=m.now,ss:=m.gi,du:=0,cC:=m.cC+1,oV:=m.clock}
def dO.sj(m:dO):dO:={m with first:=if m.du=0 then m.clock else m.first,du:=m.du+1}
def dO.more(m:dO)(batch:Nat):dO:=if batch<=m.du+1 then m.sj.nz else m.sj
def dO.kN(m:dO)(n:Nat):dO:={m with clock:=max m.clock n}
def dO.tick(m:dO)(n ef:Nat):dO:=if m.du≠0/\ef<=max m.clock n-m.first then (m.kN n).nz else m.kN n
structure eL(B:Nat->Prop)(w:J)(aT:Nat)(m:dO):Prop where
 now:gR m.rest 90 B w aT m.gi m.now
 sure:fU B w m.ss m.sure
 num:m.clock<18446744073709551616/\(m.du≠0->m.first<=m.clock)
section
variable {B C W:Nat->Prop}{w w':J}{aT:Nat}{m:dO}
theorem eL.ad(h:eL B w aT m)(hc:ab W w w')(b:¬W aT)(a:∀k,B k->k<w.heap.size->¬W k):eL B w' aT m:=⟨h.now.ad hc b a,h.sure.ad hc a,h.num⟩
theorem eL.ext(h:eL B w aT m)(hx:Ext w w'):eL B w' aT m:=h.ad hx id λ_ _ _ h=>h
theorem eL.aW(h:eL B w aT m)(a:∀k,k<w.heap.size->B k->C k)(b:¬C aT):eL C w aT m:=⟨h.now.aW a b,h.sure.aW a,h.num⟩
theorem eL.v(h:eL B w aT m):Var w aT m.c 90:=h.now.v
theorem eL.set(h:eL B w aT m){i:Nat}{x:aa}(a:dO)(hi:i<7)(hc:m.c.set i x=a.c)(hs:a.gi=m.gi)(b:a.now=m.now)(j:fU B w a.ss a.sure)(k:a.clock<18446744073709551616/\(a.du≠0->a.first<=a.clock)):
 (∃u:aa,w.cell? ⟨aT,i,none⟩=some u)/\w.frozen? ⟨aT,i,none⟩=false/\eL B (w.setCell ⟨aT,i,none⟩ x) aT a/\ab (λq=>q=aT) w (w.setCell ⟨aT,i,none⟩ x):=by
 obtain⟨bx,bG⟩:=dF h.v (i:=i) (by show i<7;exact hi);have d:=dp w aT i x;have f:=dM h.v (i:=i) x;rw[hc]at f;have g:∀q,B q->q<w.heap.size->¬q=aT:=λq l _ e=>h.now.nb (e▸l);exact⟨bx,bG,⟨⟨f,by rw[hs,b];exact h.now.p.ad d g,h.now.nb,by rw[b];exact h.now.ok,by rw[b];exact h.now.eQ⟩,j.ad d g,k⟩,d⟩
theorem fc(d i k:Nat):Addr.add ⟨d,i,none⟩ k=⟨d,i+k,none⟩:=by
 rw[aw]
theorem wk (h:eL B w aT m) (hg:m.cC<1000000000000):aP ai 39 #[.pointer (some aT)] w (fun v w'=>v= .tuple #[]∧ab (fun q=>q=aT) w w'∧eL B w' aT m.nz):=by
 refine okF (af.vi (some aT)) ay.vi func39 ?_
 (delta af.vi ag st bw;dsimp only)
 refine⟨_,rfl,m.gi,h.v.cell,_,rfl,?_⟩
 rw[fc,cA]
 obtain⟨a1,a2,c,de⟩:=h.set (i:=1) (x:=m.gi) {m with sure:=m.now,ss:=m.gi} (by decide) rfl rfl rfl h.now.p h.num
 refine⟨a1,a2,aS ⟨_,rfl,?_⟩⟩
 rw[fc,cA]
 obtain⟨b9,bQ,a,b8⟩:=c.set (i:=2) (x:= .int .i64 0) {m with sure:=m.now,ss:=m.gi,du:=0} (by decide) rfl rfl rfl c.sure ⟨h.num.1,fun h=>absurd rfl h⟩
 refine⟨b9,bQ,aS ⟨_,rfl,_,by rw[fc];exact a.v.cell,_,rfl,?_⟩⟩
 rw[fc,cA,gN (n:=(m.cC:Nat)+1) (by omega) (by omega)]
 obtain⟨d1,d2,b,gl⟩:=a.set (i:=5) (x:= .int .u64 ((m.cC:Nat)+1)) {m with sure:=m.now,ss:=m.gi,du:=0,cC:=m.cC+1} (by decide) rfl rfl rfl a.sure a.num
 refine⟨d1,d2,aS ⟨_,rfl,_,by rw[fc];exact b.v.cell,_,rfl,?_⟩⟩
 rw[fc,cA]
 obtain⟨d,e,f,iG⟩:=b.set (i:=6) (x:= .int .u64 (m.clock:Nat)) m.nz (by decide) rfl rfl rfl b.sure b.num
 exact⟨d,e,aS ⟨rfl,((de.trans b8).trans gl).trans iG,f⟩⟩
theorem CJ (h:eL B w aT m) (hg:m.cC<1000000000000) (l:m.du<1000000) {batch:Nat}:aP ai 105 #[.pointer (some aT),batch] w (fun v w'=>v= .tuple #[]∧ab (fun q=>q=aT) w w'∧eL B w' aT (m.more batch)):=by
 refine okF (af.vm (some aT) (batch:Nat)) ay.vm func105 ?_
 (delta af.vm r1 ak bw st av aR;dsimp only)
 refine hL (fun b=>ab (fun q=>q=aT) w b∧eL B b aT {m with first:=if m.du=0 then m.clock else m.first}) (fun q f=>⟨_,rfl,_,by rw[fc];exact h.v.cell,fun a=>⟨_,rfl,_,by rw[fc];exact h.v.cell,_,rfl,?_⟩,fun a=>f _ ⟨.refl _ _,?_⟩⟩) ?_
 · have e:m.du=0:=by simp at a;omega
   rw[fc,cA]
   obtain⟨a1,a2,g,de⟩:=h.set (i:=4) (x:= .int .u64 (m.clock:Nat)) {m with first:=if m.du=0 then m.clock else m.first} (by decide) (by rw[if_pos e];rfl) rfl rfl h.sure ⟨h.num.1,fun h0=>absurd e h0⟩
   exact⟨a1,a2,aS (f _ ⟨de,g⟩)⟩
 · have e:¬m.du=0:=by simp at a;omega
   have j:({m with first:=if m.du=0 then m.clock else m.first}:dO)=m:=by rw[if_neg e]
   rw[j];exact h
 rintro b ⟨k2,c⟩
 refine⟨_,rfl,_,by rw[fc];exact c.v.cell,_,rfl,?_⟩
 rw[fc,cA,bu (n:=(m.du:Nat)+1) (by omega) (by omega)]
 obtain⟨b9,bQ,d,gX⟩:=c.set (i:=2) (x:= .int .i64 ((m.du:Nat)+1)) m.sj (by decide) rfl rfl rfl c.sure ⟨h.num.1,fun _=>by show(if m.du=0 then m.clock else m.first)≤m.clock;split;exact bo _;exact h.num.2 (by assumption)⟩
 refine⟨b9,bQ,aS ⟨_,rfl,((m.du+1:Nat):Int),by rw[fc];exact d.v.cell,fun a=>(wk d hg).use ?_,fun a=>?_⟩⟩
 · rintro _ o ⟨rfl,pE,k⟩
   have a:((m.du+1:Nat):Int)≥(batch:Nat):=b2 a
   refine⟨rfl,rfl,(k2.trans gX).trans pE,?_⟩
   unfold dO.more
   rw[if_pos (by omega)];exact k
 · have a:¬((m.du+1:Nat):Int)≥(batch:Nat):=cr a
   refine⟨rfl,k2.trans gX,?_⟩
   unfold dO.more
   rw[if_neg (by omega)];exact d
theorem HK(h:eL B w aT m)(l:∀q,w.heap.size<=q->B q)(hg:m.cC<1000000000000){n ef:Nat}(o:n<18446744073709551616):aP ai 106 #[.pointer (some aT),.int .u64 (n:Nat),.int .u64 (ef:Nat)] w (λv w'=>v=.tuple #[]/\ab (λq=>q=aT) w w'/\eL B w' aT (m.tick n ef)):=by
 have d:=h.num;refine okF (af.vn (some aT) (n:Nat) (ef:Nat)) ay.vn func106 ?_;(delta af.vn bw ak st r1 aR;dsimp only);refine hL (λb=>ab (λq=>q=aT) w b/\eL B b aT (m.kN n)) (λq f=>⟨_,rfl,_,by rw[fc];exact h.v.cell,λa=>⟨_,rfl,?_⟩,λa=>f _ ⟨.refl _ _,?_⟩⟩) ?_
 .have a:(n:Int)>(m.clock:Nat):=b2 a
  rw[fc,cA];obtain⟨a1,a2,g,de⟩:=h.set (i:=3) (x:=.int .u64 (n:Nat)) (m.kN n) (by decide) (by unfold dO.kN;rw[Nat.max_eq_right I];rfl) rfl rfl h.sure ⟨by show max m.clock n<_;omega,λh0=>by have:=d.2 h0;show m.first<=max m.clock n;omega⟩;exact⟨a1,a2,aS (f _ ⟨de,g⟩)⟩
 .have a:¬(n:Int)>(m.clock:Nat):=cr a
  unfold dO.kN;rw[Nat.max_eq_left I];exact h
 rintro b ⟨b8,j⟩;have c:=j.ext (b6 b);have jI:=b8.trans (ab.cK (b6 b):ab (λq=>q=aT) b b.drew);refine aS ⟨_,rfl,id,_,by rw[fc];exact c.v.cell,λa=>⟨_,rfl,id,_,by rw[fc];exact c.v.cell,_,rfl,id,_,by rw[fc];exact c.v.cell,?_⟩,λa=>⟨λh=>(by cases h),λ_=>⟨rfl,jI,?_⟩⟩⟩
 .have a:(m.du:Int)>0:=b2 a
  have p:=c.num;have e:IntKind.wrap .u64 (((m.kN n).clock:Nat)-((m.kN n).first:Nat))=((max m.clock n-m.first:Nat):Int):=by
   have h1:m.first<=max m.clock n:=by have:=d.2 I;omega
   have r:max m.clock n<18446744073709551616:=by omega
   show IntKind.wrap .u64 (((max m.clock n:Nat):Int)-(m.first:Int))=_;rw[gN I I];omega
  have s:∀x:Prop,(decide (IntKind.wrap .u64 (((m.kN n).clock:Nat)-((m.kN n).first:Nat))>=(ef:Int))=true->x)->(ef<=max m.clock n-m.first->x):=λx hx hd=>hx (dw (by rw[e];omega));refine⟨λhc=>(wk c hg).use ?_,λhc=>⟨rfl,jI,?_⟩⟩
  .rintro _ t ⟨rfl,pE,k⟩
   have hc:=b2 hc;rw[e]at hc;refine⟨rfl,rfl,jI.trans pE,?_⟩;unfold dO.tick;rw[if_pos ⟨I,I⟩];exact k
  .have hc:=cr hc
   rw[e]at hc;unfold dO.tick;rw[if_neg I];exact c
 .have a:¬(m.du:Int)>0:=cr a
  unfold dO.tick;rw[if_neg I];exact c
end
structure cW where
 root:Nat
 aG:Nat
 map:Nat
 clock:Nat
 cC:Nat
 keys:Nat
 deriving DecidableEq
def gD:cW:=⟨0,0,0,0,0,0⟩
def cW.c(u:cW):O aa:=[u.root,u.aG,u.map,.int .u64 (u.clock:Nat),.int .u64 (u.cC:Nat),u.keys]
structure nA(u:cW):Prop where
 root:u.root<4294967296
 aG:u.aG<256
 map:u.map<4294967296
 clock:u.clock<18446744073709551616
 cC:u.cC<18446744073709551616
 keys:u.keys<4294967296
def g1(u:cW)(n:Nat):O UInt8:=[]++b4 u.root 4++b4 u.aG 1++b4 u.map 4++b4 n 4++b4 u.clock 8++b4 u.cC 8++b4 u.keys 4
def oW(b:O UInt8):cW:=⟨cZ b 0 4,cZ b 4 1,cZ b 5 4,cZ b 13 8,cZ b 21 8,cZ b 29 4⟩
def kh(u:cW)(n:Nat):Prop:=(u.root=0↔u.aG=0)/\u.aG<=12/\u.root<n/\u.map<n/\2<=u.map/\n<=1600
instance Jl(u:cW)(n:Nat):Decidable (kh u n):=by unfold kh;infer_instance
def gS(no:Int)(l:O UInt8):Except Int (cW×Nat×Nat):=match da no l with
 | .error e=>.error e
 | .ok p=>if p.kind≠3\/p.body.length≠33 then .error 4 else if kh (oW p.body) (cZ p.body 9 4) then .ok (oW p.body,cZ p.body 9 4,p.gen) else .error 4
theorem CK(u:cW)(n:Nat):(g1 u n).length=33:=by simp[g1,e2]
theorem HL{u:cW}{n:Nat}(h:nA u)(c:n<4294967296):oW (g1 u n)=u/\cZ (g1 u n) 9 4=n:=by
 have e:∀ {k x m:Nat} (a b:O UInt8),g1 u n=a++(b4 x k++b)->a.length=m->x<256^k->cZ (g1 u n) m k=x:=λa b he d hx=>by rw[he];exact rY d hx
 have f:=h.keys;refine⟨?_,e (b4 u.root 4++b4 u.aG 1++b4 u.map 4) (b4 u.clock 8++(b4 u.cC 8++b4 u.keys 4)) (by simp[g1]) (by simp[e2]) c⟩;unfold oW;rw[e (m:=0) [] (b4 u.aG 1++(b4 u.map 4++(b4 n 4++(b4 u.clock 8++(b4 u.cC 8++b4 u.keys 4))))) (by simp[g1]) rfl h.root,
  e (b4 u.root 4) (b4 u.map 4++(b4 n 4++(b4 u.clock 8++(b4 u.cC 8++b4 u.keys 4)))) (by simp[g1]) (by simp[e2]) h.aG,
  e (b4 u.root 4++b4 u.aG 1) (b4 n 4++(b4 u.clock 8++(b4 u.cC 8++b4 u.keys 4))) (by simp[g1]) (by simp[e2]) h.map,
  e (b4 u.root 4++b4 u.aG 1++b4 u.map 4++b4 n 4) (b4 u.cC 8++b4 u.keys 4) (by simp[g1]) (by simp[e2]) h.clock,
  e (b4 u.root 4++b4 u.aG 1++b4 u.map 4++b4 n 4++b4 u.clock 8) (b4 u.keys 4) (by simp[g1]) (by simp[e2]) h.cC,
  e (b4 u.root 4++b4 u.aG 1++b4 u.map 4++b4 n 4++b4 u.clock 8++b4 u.cC 8) [] (by simp[g1]) (by simp[e2]) f]
def jh(u:cW)(n gen:Nat):hX:=⟨3,gen,g1 u n⟩
theorem yQ{u:cW}{n gen:Nat}(hg:gen<18446744073709551616):nh (jh u n gen):=⟨(by decide:1<=3),(by decide:3<=4),hg,by show(g1 u n).length<=232;rw[CK];decide⟩
theorem CL{u:cW}{n gen no:Nat}(h:nA u)(hu:kh u n)(hg:gen<18446744073709551616)(a:no<1600):gS no (eA no (jh u n gen))=.ok (u,n,gen):=by
 unfold gS;rw[vF a (yQ hg)];have b:n<4294967296:=by have:=hu.2.2.2.2.2;omega
 obtain⟨h1,c⟩:=HL h b;show(if (3:Nat)≠3\/(g1 u n).length≠33 then _ else if kh (oW (g1 u n)) (cZ (g1 u n) 9 4) then Except.ok (oW (g1 u n),cZ (g1 u n) 9 4,gen) else _)=_;rw[h1,c,if_neg (by rw[CK];simp),if_pos hu]
section
variable {w w':J}{h:Nat}{vs:O aa}{u:cW}
theorem cW.plain(u:cW):∀v∈u.c,Plain v:=by
 intro v a;simp only[cW.c,cU,eV,eZ]at a;rcases a with rfl|rfl|rfl|rfl|rfl|rfl<;>trivial
theorem gT(a:Var w h u.c 104){K:Int->Int->Int->Int->Int->Int->Prop}(e:K (u.root:Nat) (u.aG:Nat) (u.map:Nat) (u.clock:Nat) (u.cC:Nat) (u.keys:Nat)):
 ∃bS:Int,w.cell? h=some (.int .i64 bS)/\∃bp:Int,w.cell? (Addr.add h 1)=some (.int .i64 bp)/\∃b:Int,w.cell? (Addr.add h 2)=some (.int .i64 b)/\
  ∃d:Int,w.cell? (Addr.add h 3)=some (.int .u64 d)/\∃n5:Int,w.cell? (Addr.add h 4)=some (.int .u64 n5)/\∃n6:Int,w.cell? (Addr.add h 5)=some (.int .i64 n6)/\K bS bp b d n5 n6:=
 ⟨_,a.cell,_,by rw[aw];exact a.cell,_,by rw[aw];exact a.cell,_,by rw[aw];exact a.cell,_,by rw[aw];exact a.cell,_,by rw[aw];exact a.cell,e⟩
theorem jR(a:Var w h vs 104)(b:vs.length=6)(u:cW){K:J->Prop}(d:∀ah,Var ah h u.c 104->ab (λq=>q=h) w ah->ah.heap.size=w.heap.size->K ah):
 bA w h [u.root,u.aG,u.map,.int .u64 (u.clock:Nat),.int .u64 (u.cC:Nat),u.keys]/\(6:Nat)=6/\
  al (setCells w h 0 [u.root,u.aG,u.map,.int .u64 (u.clock:Nat),.int .u64 (u.cC:Nat),u.keys]) K:=
 ⟨a.cc (by rw[b];rfl) u.plain,rfl,cy a (us:=u.c) (by rw[b];rfl) rfl λah e hc f=>d ah e hc f⟩
end
theorem pN{w:J}{u:cW}(h:nA u){n:Nat}(y:n<4294967296):aP ai 138 #[.agg u.c.toArray,n] w (λv w'=>∃s:U,v=s/\a8 1 5 w' s (aF (g1 u n))/\Ext w w'/\gQ w s):=by
 have h1:=h.root;have W:=h.aG;have z:=h.map;have X:=h.clock;have Z:=h.cC;have A:=h.keys;have a:∀ {x:Nat},x<4294967296->IntKind.wrap .u64 (x:Int)=(x:Int):=λ{x} hx=>gN I I;refine okF (af.pN (u.root:Nat) (u.aG:Nat) (u.map:Nat) (u.clock:Nat) (u.cC:Nat) (u.keys:Nat) (n:Nat)) ay.pN func138 ?_;(delta af.pN r1 Y ba bw;dsimp only);refine bh (vs:=u.c) rfl λw1 b B aa=>⟨_,b.cell,?_⟩;rw[a h1];refine(ik (s:=⟨none,0,0⟩) (l:=[]) (a8.none 1 5 w1).src (cE _) (n:=u.root) I (by decide)).use ?_;rintro _ ah ⟨s2,rfl,C,d,ab⟩;have e:=b.ext d;refine⟨s2,rfl,_,by rw[aw];exact e.cell,?_⟩;rw[a (x:=u.aG) I];refine(ik C.src (by simp[e2]) (n:=u.aG) I (by decide)).use ?_;rintro _ ac ⟨D,rfl,E,f,ad⟩;have g:=e.ext f;refine⟨D,rfl,_,by rw[aw];exact g.cell,?_⟩;rw[a z];refine(ik E.src (by simp[e2]) (n:=u.map) I (by decide)).use ?_;rintro _ ae ⟨F,rfl,G,i,ag⟩;have H:=g.ext i;refine⟨F,rfl,?_⟩;rw[a y];refine(ik G.src (by simp[e2]) (n:=n) I (by decide)).use ?_;rintro _ aj ⟨K,rfl,L,j,ak⟩;have k:=H.ext j;refine⟨K,rfl,_,by rw[aw];exact k.cell,?_⟩;refine(ik L.src (by simp[e2]) (n:=u.clock) I (by decide)).use ?_;rintro _ al ⟨M,rfl,N,m,am⟩;have o:=k.ext m;refine⟨M,rfl,_,by rw[aw];exact o.cell,?_⟩;refine(ik N.src (by simp[e2]) (n:=u.cC) I (by decide)).use ?_;rintro _ an ⟨O,rfl,P,p,ao⟩;have Q:=o.ext p;refine⟨O,rfl,_,by rw[aw];exact Q.cell,?_⟩;rw[a A];refine(ik P.src (by simp[e2]) (n:=u.keys) I (by decide)).use ?_;rintro _ ap ⟨r,rfl,R,S,T⟩;have t:=Ext.trans (Ext.trans (Ext.trans (Ext.trans (Ext.trans (Ext.trans B d) f) i) j) m) p;refine⟨r,rfl,r,rfl,R,Ext.trans t S,λq V=>?_⟩;have:=T q V;have:=t.size;omega
theorem HM{w:J}{b:U}{l:O UInt8}{aU a k:Nat}(f:Var w aU [b,a] 316)(hs:Src 1 w b (aF l))(hc:b.len<=b.cap)(g:1<=k/\k<=8)(j:a+k<=l.length)(m:l.length<=1000):
 aP ai 226 #[.pointer (some aU),k] w (λv w'=>v=.int .u64 (cZ l a k:Nat)/\Var w' aU [b,.int .i64 ((a+k:Nat):Int)] 316/\ab (λq=>q=aU) w w'):=by
 refine af.EP _ (k:Nat) w _ ?_;(delta af.rS ag r1 k3 st av;dsimp only);have d:=b6 w;have c:=f.ext d;refine aS ⟨λ_=>False,_,rfl,id,b,c.cell,_,rfl,id,_,by rw[aw];exact c.cell,(k4 (hs.ext d) hc g j I).use ?_⟩;rintro _ _ ⟨rfl,rfl⟩;obtain⟨bx,bG⟩:=dF c (i:=1) (by simp);refine⟨_,true,rfl,_,rfl,_,by rw[aw];exact c.cell,_,rfl,by rw[aw];exact bx,by rw[aw];exact bG,aS ⟨rfl,?_,?_⟩⟩
 .rw[aw]
  have h1:=dM c (i:=1) (.int .i64 (IntKind.wrap .i64 ((a:Nat)+(k:Nat))));have e:IntKind.wrap .i64 ((a:Int)+(k:Int))=((a+k:Nat):Int):=by rw[bu I I];omega
  rw[e]at h1⊢;exact h1
 .rw[aw]
  exact ct (d.mono λ_ _ h=>h.elim) (dp _ _ _ _) λq _ e=>e
def CM:Except Int (cW×Nat×Nat)->aa
 | .ok (u,n,g)=>.tuple #[.agg u.c.toArray,n,.int .u64 (g:Nat),(0:Int)]
 | .error e=>.tuple #[.agg gD.c.toArray,(0:Int),.int .u64 0,e]
theorem yR{no:Int}{l:O UInt8}{e:Int}(h:da no l=.error e):e≠0:=by
 unfold da at h
 repeat' split at h
 all_goals first|(cases h;decide)|cases h
theorem pS{s:U}{l:O UInt8}{w:J}(hs:Src 1 w s (aF l))(hc:s.len<=s.cap)(aQ:l.length<=1000)(no:Int):
 aP ai 171 #[.int .i64 no,.slice s.a s.len s.cap] w (λv w'=>v=CM (gS no l)/\Ext w w'):=by
 refine okF (af.pS no s) ay.pS func171 ?_;(delta af.pS g7 lF z3 Y ak r1 bw ag xn gw st av;dsimp only);refine bh (vs:=gD.c) rfl λw1 am H bH=>(m6 (hs.ext H) hc aQ no).use ?_;rintro _ ah ⟨r,W⟩;obtain⟨d,aR⟩:∃d,d=w.heap.size:=⟨_,rfl⟩;rw[←aR]at am⊢;have L:=am.ext W
 cases B:da no l with
 |error e=>
  rw[B]at r;have X:=yR B;have hd:gS no l=.error e:=by unfold gS;rw[B]
  rw[hd];obtain rfl:_=_:=r;refine⟨0,0,⟨none,0,0⟩,e,rfl,bh (vs:=[.int .i64 0,.int .u64 0,.slice none 0 0]) rfl λaT M an aV=>⟨M.cc rfl (λv N=>?_),rfl,cy M (us:=[.int .i64 0,.int .u64 0,.slice none 0 0]) rfl rfl λC t ao aW=>⟨λ_=>?_,λh=>?_⟩⟩⟩
  .simp only[cU,eV,eZ]at N
   rcases N with rfl|rfl|rfl<;>trivial
  .have y:Ext ah C:=Ext.cu an ao (bo _)
   have m:=L.ext y;refine gT (u:=gD) m (jR m rfl gD λD ap aX bI=>gT (u:=gD) ap ⟨rfl,?_⟩);exact Ext.cu (Ext.trans (Ext.trans H W) y) aX I
  .simp at h;exact absurd h X
 |ok p=>
  rw[B]at r;obtain⟨sb,rfl,Z,aY⟩:=r;refine⟨_,_,sb,0,rfl,bh (vs:=[.int .i64 0,.int .u64 0,.slice none 0 0]) rfl λaT M an aV=>⟨M.cc rfl (λv N=>?_),rfl,cy M (us:=[.int .i64 (p.kind:Nat),.int .u64 (p.gen:Nat),.slice sb.a sb.len sb.cap]) rfl rfl λC t ao aW=>⟨λh=>(by simp at h),λ_=>⟨_,t.cell,?_⟩⟩⟩⟩
  .simp only[cU,eV,eZ]at N
   rcases N with rfl|rfl|rfl<;>trivial
  have y:Ext ah C:=Ext.cu an ao (bo _);have aq:=Ext.trans (Ext.trans H W) y;obtain⟨P,aZ⟩:∃P,P=ah.heap.size:=⟨_,rfl⟩;rw[←aZ]at t⊢;have m:=L.ext y;have a0:sb.len=p.body.length:=by have:=Z.1;rw[dV]at this;omega
  have bJ:=(Ext.trans H W).size;have a1:p.kind≠3\/p.body.length≠33->gS no l=.error 4:=λh=>by
   unfold gS;rw[B];exact if_pos h
  refine cm (λb w'=>b=decide (p.kind≠3\/p.body.length≠33)/\C=w') (λq f=>⟨λh=>f _ _ ⟨?_,rfl⟩,λh=>⟨sb,by rw[aw];exact t.cell,f _ _ ⟨?_,rfl⟩⟩⟩) ?_
  .have:p.kind≠3:=λe=>by rw[e]at h;simp at h
   rw[dw (.inl this)]
  .have a2:p.kind=3:=by
    have:((p.kind:Nat):Int)=3:=by simpa using h
    omega
   rw[a0,fW,cS];constructor
   .intro Q
    refine .inr λe=>?_;rw[e]at Q;simp at Q
   .rintro(Q|Q)
    .exact absurd a2 Q
    .rw[bne_iff_ne];omega
  rintro _ _ ⟨rfl,rfl⟩;have aH:∀ {D:J}{vs:O aa},Var D d vs 104->vs.length=6->Ext w D->(gS no l=.error 4)->bA D ⟨d,0,none⟩ [.int .i64 0,.int .i64 0,.int .i64 0,.int .u64 0,.int .u64 0,.int .i64 0]/\(6:Nat)=6/\al (setCells D ⟨d,0,none⟩ 0 [.int .i64 0,.int .i64 0,.int .i64 0,.int .u64 0,.int .u64 0,.int .i64 0]) λo=>
   ∃bS:Int,o.cell? ⟨d,0,none⟩=some (.int .i64 bS)/\∃bp:Int,o.cell? (Addr.add ⟨d,0,none⟩ 1)=some (.int .i64 bp)/\∃aI:Int,o.cell? (Addr.add ⟨d,0,none⟩ 2)=some (.int .i64 aI)/\
   ∃aJ:Int,o.cell? (Addr.add ⟨d,0,none⟩ 3)=some (.int .u64 aJ)/\∃n5:Int,o.cell? (Addr.add ⟨d,0,none⟩ 4)=some (.int .u64 n5)/\∃n6:Int,o.cell? (Addr.add ⟨d,0,none⟩ 5)=some (.int .i64 n6)/\
   (Value.tuple #[.agg #[.int .i64 bS,.int .i64 bp,.int .i64 aI,.int .u64 aJ,.int .u64 n5,.int .i64 n6],.int .i64 0,.int .u64 0,.int .i64 4]=CM (gS no l)/\Ext w o):=by
   intro D vs ap a3 a4 hd;rw[hd];exact jR ap a3 gD λo a5 a6 bK=>gT (u:=gD) a5 ⟨rfl,Ext.cu a4 a6 I⟩
  refine⟨λh=>?_,λh=>?_⟩
  .exact gT (u:=gD) m (aH m rfl aq (a1 (b2 h)))
  have ar:=cr h;have bL:p.kind=3:=pb λh=>ar (.inl h);have bM:p.body.length=33:=pb λh=>ar (.inr h);have a7:=(Z.ext y).src;have a8:sb.len<=sb.cap:=Z.2.1;have aK:∀q,az sb q->q<C.heap.size:=(Z.ext y).lt;refine⟨sb,by rw[aw];exact t.cell,bh (vs:=[.slice sb.a sb.len sb.cap,.int .i64 ((0:Nat):Int)]) rfl λa9 aL ab bN=>?_⟩;obtain⟨aU,a_⟩:∃aU,aU=C.heap.size:=⟨_,rfl⟩;rw[←a_]at aL aK⊢;have X:aU≠d:=by have:=m.lt;omega
  have ba:aU≠P:=by have:=t.lt;omega
  have bb:=a7.ext ab;have bc:=m.ext ab;have bd:=t.ext ab;have be:=Ext.trans aq ab;have bf:w.heap.size<=aU:=by have:=aq.size;omega
  obtain⟨cn,E⟩:∃cn:J->O aa->Nat->Prop,cn=λw' vs a=>Var w' aU [.slice sb.a sb.len sb.cap,.int .i64 ((a:Nat):Int)] 316/\Src 1 w' sb (aF p.body)/\Var w' d vs 104/\Var w' P [.int .i64 (p.kind:Nat),.int .u64 (p.gen:Nat),.slice sb.a sb.len sb.cap] 150/\Ext w w':=⟨_,rfl⟩;have bg:∀q,az sb q->q≠d:=λq f e=>by
   have:=aY q f;have:=L.lt;have:=H.size;have:=am.lt;omega
  have z:∀ {w':J}{vs:O aa}{a k:Nat}{R:Ending->J->Prop},cn w' vs a->1<=k/\k<=8->a+k<=33->(∀g,cn g vs (a+k)->R (.returned (.int .u64 (cZ p.body a k:Nat))) g)->Calls ai 226 #[.pointer (some ⟨aU,0,none⟩),.int .i64 (k:Nat)] w' R:=by
   intro w' vs a k R A ax bO bi;rw[E]at A;obtain⟨bx,bG,S,aA,aB⟩:=A;refine(HM bx bG a8 ax I I).use ?_;rintro _ g ⟨rfl,au,ac⟩;refine bi g ?_;rw[E];exact⟨au,bG.ad ac λq f e=>by have:=aK q f;omega,S.ad ac (λe=>X e.symm),aA.ad ac (λe=>ba e.symm),Ext.cu aB ac bf⟩
  have j2:∀ {w':J}{vs:O aa}{a:Nat} (j:Nat) (v:aa) {K:J->Prop},cn w' vs a->j<vs.length->(∀g,cn g (vs.set j v) a->K g)->(∃u:aa,w'.cell? ⟨d,j,none⟩=some u)/\w'.frozen? ⟨d,j,none⟩=false/\al (w'.setCell ⟨d,j,none⟩ v) K:=by
   intro w' vs a j v K A ae aC;rw[E]at A;obtain⟨bx,bG,S,aA,aB⟩:=A;have hc:=dp w' d j v;refine⟨(dF S ae).1,(dF S ae).2,aS (aC _ ?_)⟩;rw[E];exact⟨bx.ad hc X,bG.ad hc bg,dM S v,aA.ad hc (λe=>by have:=m.lt;have:=L.lt;omega),Ext.cu aB hc I⟩
  have T:∀ {w':J}{vs:O aa}{a:Nat} (j:Nat) (v:aa) {K:J->Prop},cn w' vs a->j<vs.length->(∀g,cn g (vs.set j v) a->K g)->(∃u:aa,w'.cell? (Addr.add ⟨d,0,none⟩ j)=some u)/\w'.frozen? (Addr.add ⟨d,0,none⟩ j)=false/\al (w'.setCell (Addr.add ⟨d,0,none⟩ j) v) K:=by
   intro w' vs a j v K A ae aC;rw[aw,cA];exact j2 j v A ae aC
  have bj:cn a9 gD.c 0:=by rw[E];exact⟨aL,bb,bc,bd,be⟩
  have aj:∀a,a+4<=33->cZ p.body a 4<4294967296:=λa bk=>nc 4 _ (by rw[cv,c5];omega);have bl:cZ p.body 4 1<256:=nc 1 _ (by rw[cv,c5];omega);have bP:∀a,a+8<=33->cZ p.body a 8<18446744073709551616:=λa bk=>nc 8 _ (by rw[cv,c5];omega);have V:∀ {x:Nat},x<4294967296->IntKind.wrap .i64 ((x:Nat):Int)=((x:Nat):Int):=λhx=>bu I I;refine z (k:=4) bj (by decide) (by decide) λbR t43=>⟨_,rfl,z (k:=1) t43 (by decide) (by decide) λbT t46=>⟨_,rfl,z (k:=4) t46 (by decide) (by decide) λbU t49=>⟨_,rfl,?_⟩⟩⟩;rw[V (aj 0 (by decide)),V (x:=cZ p.body (0+4) 1) (by have:=bl;show cZ p.body 4 1<_;omega),V (aj (0+4+1) (by decide))];refine j2 0 _ t49 (by simp[gD,cW.c]) λbV t52=>T 1 _ t52 (by simp[gD,cW.c]) λbW t53=>T 2 _ t53 (by simp[gD,cW.c]) λbX t54=>?_;refine(z (k:=4) t54 (by decide) (by decide) λbY t55=>⟨_,rfl,z (k:=8) t55 (by decide) (by decide) λbZ t58=>⟨_,rfl,z (k:=8) t58 (by decide) (by decide) λb0 t61=>⟨_,rfl,z (k:=4) t61 (by decide) (by decide) λb1 t64=>⟨_,rfl,?_⟩⟩⟩⟩);rw[V (aj (0+4+1+4) (by decide)),V (aj (0+4+1+4+4+8+8) (by decide))];refine T 3 _ t64 (by simp[gD,cW.c]) λb3 t67=>T 4 _ t67 (by simp[gD,cW.c]) λb4 t68=>T 5 _ t68 (by simp[gD,cW.c]) λF t69=>?_;obtain⟨u,hu⟩:∃u,u=oW p.body:=⟨_,rfl⟩;obtain⟨n,aM⟩:∃n,n=cZ p.body 9 4:=⟨_,rfl⟩;rw[E]at t69;obtain⟨_,_,i,bm,aN⟩:=t69;have i:Var F d u.c 104:=by rw[hu];exact i
  have r:gS no l=if kh u n then .ok (u,n,p.gen) else .error 4:=by
   unfold gS;rw[B,hu,aM];exact if_neg ar
  rw[show cZ p.body (0+4+1+4) 4=n from aM.symm];refine⟨(u.root:Nat),i.cell,(u.aG:Nat),by rw[aw];exact i.cell,cm (λb w'=>b=(!((((u.root:Nat):Int)==0)==(((u.aG:Nat):Int)==0))||decide (((u.aG:Nat):Int)>12))/\F=w') (λq f=>⟨λh=>f _ _ ⟨by rw[h,Bool.true_or],rfl⟩,λh=>⟨_,by rw[aw];exact i.cell,f _ _ ⟨by rw[h,kT],rfl⟩⟩⟩) ?_⟩;rintro b9 _ ⟨bn,rfl⟩;refine cm (λb w'=>b=(b9||decide (((u.root:Nat):Int)>=(n:Nat)))/\F=w') (λq f=>⟨λh=>f _ _ ⟨by rw[h,Bool.true_or],rfl⟩,λh=>⟨_,i.cell,f _ _ ⟨by rw[h,kT],rfl⟩⟩⟩) ?_;rintro bQ _ ⟨bq,rfl⟩;refine cm (λb w'=>b=(bQ||decide (((u.map:Nat):Int)>=(n:Nat)))/\F=w') (λq f=>⟨λh=>f _ _ ⟨by rw[h,Bool.true_or],rfl⟩,λh=>⟨_,by rw[aw];exact i.cell,f _ _ ⟨by rw[h,kT],rfl⟩⟩⟩) ?_;rintro br _ ⟨bs,rfl⟩;refine cm (λb w'=>b=(br||decide (((u.map:Nat):Int)<2))/\F=w') (λq f=>⟨λh=>f _ _ ⟨by rw[h,Bool.true_or],rfl⟩,λh=>⟨_,by rw[aw];exact i.cell,f _ _ ⟨by rw[h,kT],rfl⟩⟩⟩) ?_;rintro bt _ ⟨bv,rfl⟩;have bz:(bt||decide (((n:Nat):Int)>1600))= !decide (kh u n):=by
   have bB:(((u.root:Nat):Int)==0)=decide (u.root=0):=by rw[fW];simp
   have bC:(((u.aG:Nat):Int)==0)=decide (u.aG=0):=by rw[fW];simp
   rw[bv,bs,bq,bn,bB,bC,fW];unfold kh;by_cases h1:u.root=0<;>by_cases bD:u.aG=0<;>simp[h1,bD]<;>omega
  rw[bz];refine⟨λh=>?_,λh=>?_⟩
  .have bE:¬kh u n:=λhg=>by rw[dw hg]at h;cases h
   exact aH i rfl aN (by rw[r,if_neg bE])
  .have hg:kh u n:=pb λhg=>by rw[hG hg]at h;cases h
   rw[r,if_pos hg];have aD:=b6 F;have aE:=i.ext aD;have bF:=bm.ext aD;have b5:d≠P:=by have:=m.lt;have:=L.lt;omega
   refine aS ⟨λ_=>False,id,gT aE ⟨id,_,by rw[aw];exact bF.cell,jR aE rfl u λb7 aO G b8=>⟨?_,gT aO ⟨rfl,Ext.cu (Ext.trans aN aD) G I⟩⟩⟩⟩;refine⟨G.os,G.tape,G.output,G.size,λk ax _=>?_⟩;by_cases e:k=d
   .rw[e];exact aO.trans aE.symm
   .exact G.block k ax e
section
variable {α:Type}{P:Program}{w w':J}{hO ft T:TypeId}{enc:α->aa}{r m:Nat}{L:O (α×aa×Nat)}{seen:O Nat}
structure kO(w:J)(r m:Nat)(enc:α->aa)(L:O (α×aa×Nat))(seen:O Nat):Prop where
 it:∃a:Nat,w.heap[r]? =some (.mapIter (some m) a seen.toArray a)/\w.heap[m]? =some (.map (L.map (dP enc)).toArray a)/\∀x∈L,x.2.2<a
 bm:(L.map (·.2.2)).Nodup
def gq(L:O (α×aa×Nat))(seen:O Nat):O (α×aa×Nat):=L.filter λx=> !seen.contains x.2.2
theorem CN(P:Program){n:Nat}(b:1<=n)(w:J):∃ (i:Nat) (w':J),i<n/\(choose (.mapNext n)).run P w=.ok i w'/\(w'=w\/w'=w.drew):=by
 by_cases h:n<=1
 .refine⟨0,w,I,?_,.inl rfl⟩
  show Sem.run P (.choose (.mapNext n) .pure) w=_;have a:(Question.mapNext n).forced=true:=by simp[Question.forced,h]
  simp only[Sem.run,a,if_true]
 .refine⟨(Question.mapNext n).cut (w.tape w.drawn (.mapNext n)),w.drew,g4 _ I,?_,.inr rfl⟩
  show Sem.run P (.choose (.mapNext n) .pure) w=_;have a:(Question.mapNext n).forced=false:=by simp[Question.forced,h]
  simp only[Sem.run,a,fM,if_false];rfl
theorem yS{a:aq Nat}{b d:Nat}{c:Array Nat}(h:w.heap[r]? =some (.mapIter a b c d)):(getObj r).run P w=.ok (.mapIter a b c d) w:=by simp[getObj,Sem.run,h]
theorem HN{a:aq Nat}{b d:Nat}{c:Array Nat}(h:w.heap[r]? =some (.mapIter a b c d))(e:Obj):(setObj r e).run P w=.ok () (iF w r e):=by simp[setObj,Sem.run,h,iF]
theorem kO.begin{M:O (α×aa)}(h:eo w m enc M){T:TypeId}{hO ft:TypeId}(b:P.underlying T=some (.map hO ft)):∃ (L:O (α×aa×Nat)) (w1:J),(L.map lC).Perm M/\(Instr.range T (.map (some m))).run P w=.ok (.pointer (some w.heap.size)) w1/\kO w1 w.heap.size m enc L []/\Ext w w1/\w1.heap.size=w.heap.size+1:=by
 have aH:=h.lt;obtain⟨L,a,h1,c,f,d,e⟩:=h;refine⟨L,w.alloc (.mapIter (some m) a #[] a),c,?_,⟨⟨a,?_,?_,e⟩,d⟩,ab.alloc (.refl _ _) _,by simp⟩
 .simp only[Instr.range,Sem.run_bind,dm b,Result.andThen,mc h1,Sem.run_pure,newObj,Sem.run]
  rfl
 .show(w.heap.push _)[w.heap.size]? =_
  simp
 .show(w.heap.push _)[m]? =_
  rw[Array.getElem?_push_lt aH];exact(Array.getElem?_eq_getElem aH).symm.trans h1
theorem kO.next(h:kO w r m enc L seen)(F:r≠m)(T:TypeId):
 (gq L seen=[]/\∃w1,(Instr.next (.pointer (some r)) false T).run P w=.ok (.tuple #[false]) w1/\Ext w w1/\w1.heap=w.heap)\/
 (∃x∈gq L seen,∃w1,(Instr.next (.pointer (some r)) false T).run P w=.ok (.tuple #[true,enc x.1,x.2.1]) w1/\kO w1 r m enc L (seen++ [x.2.2])/\ab (λq=>q=r) w w1/\w1.heap.size=w.heap.size/\(Instr.entry (.pointer (some r))).run P w1=.ok (.tuple #[enc x.1,x.2.1]) w1):=by
 obtain⟨⟨a,h1,d,f⟩,k⟩:=h;have o:(!seen.toArray.isEmpty&& !((L.map (dP enc)).toArray).isEmpty&&((L.map (dP enc)).toArray).all λe=>decide (e.born>=a))=false:=by
  cases L with
  |nil=>simp
  |cons x L=>
   have:¬a<=x.2.2:=by have:=f x (by simp);omega
   simp[dP,this]
 have g:((L.map (dP enc)).toArray.filter λe=> !seen.toArray.contains e.born)=((gq L seen).map (dP enc)).toArray:=by
  rw[List.filter_toArray,List.filter_map]
  congr 1
  unfold gq
  congr 1
  apply List.filter_congr;intro x _;simp only[Function.comp,dP,List.contains_toArray]
 have aH:∀x∈gq L seen,x.2.2<a:=λx hx=>f x (hE.1 hx).1;have hold:(((gq L seen).map (dP enc)).toArray.filter λe=>decide (e.born<a))=((gq L seen).map (dP enc)).toArray:=by
  rw[List.filter_toArray,jW.2];intro e he;obtain⟨x,hx,rfl⟩:=dv.1 he;exact dw (aH x hx)
 have j:(((gq L seen).map (dP enc)).toArray.filter λe=>decide (e.born>=a))= #[]:=by
  rw[List.filter_toArray,lY.2];intro e he;obtain⟨x,hx,rfl⟩:=dv.1 he;have:=aH x hx;have G:¬a<=x.2.2:=by omega
  simp[dP,G]
 cases b:gq L seen with
 |nil=>
  rw[b]at g hold j;obtain⟨i,w1,hi,hc,c⟩:=CN P (n:=1) (bo _) w;have H:i=0:=by omega
  subst H;refine .inl ⟨rfl,w1,?_,?_,?_⟩
  .simp only[Instr.next,Sem.run_bind,yS h1,Result.andThen,mc d,o,fM,if_false,g,hold,j]
   simp only[List.map_nil,Array.isEmpty,sK,jE,decide_true,if_true];have e:(#[none]++((#[]:Array MapEntry)++ #[]).map some:Array (aq MapEntry)).size=1:=by simp
   have p:((#[none]++((#[]:Array MapEntry)++ #[]).map some:Array (aq MapEntry)))[0]? =some none:=by simp
   simp only[e,Sem.run_bind,hc,Result.andThen,p,Sem.run_pure,Sem.run_pure]
  .rcases c with rfl|rfl
   .exact .refl _ _
   .exact ab.drew (.refl _ _)
  .rcases c with rfl|rfl<;>rfl
 |cons y l=>
  right;rw[←b];have A:1<=(gq L seen).length:=by rw[b];simp
  obtain⟨i,w1,hi,hc,c⟩:=CN P (n:=(gq L seen).length) A w;have s:w1.heap=w.heap:=by rcases c with rfl|rfl<;>rfl
  obtain⟨x,hx⟩:∃x,x=(gq L seen)[i]:=⟨_,rfl⟩;have t:x∈gq L seen:=by rw[hx];exact cw _
  have B:x∈L:=(hE.1 t).1;have C:w1.heap[r]? =some (.mapIter (some m) a seen.toArray a):=by rw[s];exact h1
  have I:r<w1.heap.size:=(lV.1 C).1;have u:(iF w1 r (.mapIter (some m) a (seen.toArray.push x.2.2) a)).heap[r]? =some (.mapIter (some m) a (seen++ [x.2.2]).toArray a):=by
   rw[ti I];simp
  have v:(iF w1 r (.mapIter (some m) a (seen.toArray.push x.2.2) a)).heap[m]? =some (.map (L.map (dP enc)).toArray a):=by
   have D:w1.heap[m]? =some (.map (L.map (dP enc)).toArray a):=by rw[s];exact d
   rw[(rn w1 r _).block m (lV.1 D).1 (λe=>F e.symm)];exact D
  refine⟨x,t,iF w1 r (.mapIter (some m) a (seen.toArray.push x.2.2) a),?_,⟨⟨a,u,v,f⟩,k⟩,?_,?_,?_⟩
  .simp only[Instr.next,Sem.run_bind,yS h1,Result.andThen,mc d,o,fM,if_false,g,hold,j]
   have J:((gq L seen).map (dP enc)).toArray.isEmpty=false:=by rw[b];rfl
   have e:((#[]:Array (aq MapEntry))++(((gq L seen).map (dP enc)).toArray++ #[]).map some).size=(gq L seen).length:=by simp
   have p:((#[]:Array (aq MapEntry))++(((gq L seen).map (dP enc)).toArray++ #[]).map some)[i]? =some (some (dP enc x)):=by
    simp[hi,hx]
   simp only[J,fM,if_false,e,Sem.run_bind,hc,Result.andThen,p,HN C,Sem.run_pure,dP]
  .have K:ab (λq=>q=r) w w1:=by
    rcases c with rfl|rfl
    .exact .refl _ _
    .exact ab.drew (.refl _ _)
   exact K.trans (rn _ _ _)
  .rw[th,s]
  .have M:(seen++ [x.2.2]).toArray.back? =some x.2.2:=by simp
   have hf:((L.map (dP enc)).toArray.find? λe=>e.born==x.2.2)=some (dP enc x):=by
    rw[List.find?_toArray,List.find?_map];have:L.find? ((λe:MapEntry=>e.born==x.2.2)∘dP enc)=some x:=by
     clear b A hi hc t hx u v g hold j aH o d f
     induction L with
     |nil=>cases B
     |cons z L N=>
      rw[jm]at k;obtain⟨bS,bp⟩:=List.nodup_cons.1 k;rw[List.find?_cons];rcases cU.1 B with rfl|E
      .simp[dP]
      .have O:z.2.2≠x.2.2:=λe=>bS (by rw[e];exact dv.2 ⟨x,E,rfl⟩)
       have:((λe:MapEntry=>e.born==x.2.2)∘dP enc) z=false:=by simp[dP,O]
       rw[this];exact N bp E
    rw[this];rfl
   have Q:(a !=a)=false:=by simp
   simp only[Instr.entry,Sem.run_bind,yS u,Result.andThen,M,mc v,Q,fM,if_false,hf,Sem.run_pure,dP]
theorem eo.clear{M:O (α×aa)}(h:eo w m enc M){o:TypeId}(b:P.underlying T=some (.map hO ft)):∃w1,(Builtin.clear_ #[T] o #[.map (some m)]).run P w=.ok (.tuple #[]) w1/\eo w1 m enc ([]:O (α×aa))/\ab (λq=>q=m) w w1/\w1.heap.size=w.heap.size:=by
 have aH:=h.lt;obtain⟨L,a,h1,c,d,e,f⟩:=h;refine⟨iF w m (.map #[] a),?_,⟨[],a,ti aH _,by simp,by simp,by simp,by simp⟩,rn _ _ _,th _ _ _⟩;unfold Builtin.clear_;simp only[qL,lp,Sem.run_bind,dm b,Result.andThen,mc h1,xe h1,Sem.run_pure]
end
end Go.Proofs.YtkdhdlfonmgheaaGreat
