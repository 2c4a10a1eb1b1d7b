/- Contracts of the functions that the statement reaches, and the plain laws over them; each theorem stands with its conditions. -/
import Derived.Test.YtkdhdlfonmgheaaGreatBCrash5
namespace Go.Proofs.YtkdhdlfonmgheaaGreat
open Go a8 Go.Proofs.Tryz
theorem CM{w:J}{lb:Nat}{ls:O cX}{T:TypeId}(h:bz w lb (bV aJ ls).toArray T)(hs:∀x∈ls,x.length=256){i:Nat}(hi:i<ls.length){x:cX}(hx:x.length=256):
 bx w ⟨lb,i*256,none⟩ (aJ x)/\bz (setCells w ⟨lb,i*256,none⟩ 0 (aJ x)) lb (bV aJ (ls.set i x)).toArray T/\ad (λq=>q=lb) w (setCells w ⟨lb,i*256,none⟩ 0 (aJ x)):=by
 have a:∀x∈ls,(aJ x).length=256:=λx hx=>by rw[ey];exact hs x hx
 have f:=gM (c:=aJ) ls a;have b:(aJ x).length=256:=by rw[ey];exact hx
 have d:i*256+(aJ x).length<=(bV aJ ls).toArray.size:=by
  rw[sy,f,b];omega
 refine⟨bz.b9 h _ _ d (k6 _),?_,ad.kY (.refl _ _) _ 0⟩;have h0:=bz.j4 (o:=i*256) h (aJ x);have h1:=lF (aJ x) (bV aJ ls).toArray (i*256) d;have h2:=Bn a hi x;rw[b]at h1;have g:(gH (bV aJ ls).toArray (i*256) (aJ x)).toList=bV aJ (ls.set i x):=h1.trans h2;have e:gH (bV aJ ls).toArray (i*256) (aJ x)=(bV aJ (ls.set i x)).toArray:=by rw[←g]
 rw[e]at h0;exact h0
theorem HO{α:Type}{L:O (α×aa×Nat)}{seen:O Nat}{x:α×aa×Nat}(h:x∈gv L seen):(gv L (seen++ [x.2.2])).length<(gv L seen).length:=by
 have e:gv L (seen++ [x.2.2])=(gv L seen).filter λy=> !(y.2.2==x.2.2):=by
  unfold gv;rw[List.filter_filter];apply List.filter_congr;intro y _;rw[fY];simp only[lk,er,List.contains_eq_mem,jY,cT,ff,beq_eq_false_iff_ne];constructor
  .exact λh=>⟨λh2=>h (.inr h2),λh2=>h (.inl h2)⟩
  .rintro⟨h1,h2⟩ (a|a)
   .exact h2 a
   .exact h1 a
 rw[e];exact List.length_filter_lt_length_iff_exists.2 ⟨x,h,by simp⟩
def yM{α:Type}(L:O (α×aa×Nat))(r:Nat)(w:J):Nat:=match w.heap[r]? with
 |some (.mapIter _ _ seen _)=>(gv L seen.toList).length
 |_=>0
theorem kL.left{α:Type}{w:J}{r m:Nat}{enc:α->aa}{L:O (α×aa×Nat)}{seen:O Nat}(h:kL w r m enc L seen):yM L r w=(gv L seen).length:=by
 obtain⟨⟨a,h1,_⟩,_⟩:=h;unfold yM;rw[h1]
theorem kL.ab{α:Type}{W:Nat->Prop}{w w':J}{r m:Nat}{enc:α->aa}{L:O (α×aa×Nat)}{seen:O Nat}(h:kL w r m enc L seen)(hc:ad W w w')(a:¬W r)(b:¬W m):kL w' r m enc L seen:=by
 obtain⟨⟨c,h1,h2,d⟩,e⟩:=h;exact⟨⟨c,by rw[hc.block r (lU.1 h1).1 a];exact h1,by rw[hc.block m (lU.1 h2).1 b];exact h2,d⟩,e⟩
def a6.jk(D:a6):a6:={D with bg:=(List.range D.n).map D.now,waits:=[]}
theorem r6(D:a6):D.jk.n=D.n:=by simp[a6.jk,a6.n]
theorem yN(D:a6){i:Nat}(hi:i<D.n):D.jk.now i=D.now i:=by
 show((List.range D.n).map D.now).getD i []=_;rw[fm (by simp;exact hi)];simp
def HP(D:a6)(w:J)(v:aa)(w':J):Prop:=
 (D.fV 3=true/\v=.int .i64 3/\cx w' (D.cC 3)/\ad (λq=>q=D.d) w w')\/
 (D.fV 3=false/\v=.int .i64 0/\cx w' (D.cC 3).jk/\ad (bY D) w w')
theorem yO{w:J}{D:a6}(h:cx w D)(bs:D.aQ<=1000000000):aR aj 76 #[.pointer (some ⟨D.d,0,none⟩)] w (HP D w):=by
 refine okF (af.tX (some ⟨D.d,0,none⟩)) aA.tX func76 ?_;(delta af.tX ak aO xa ag tg gy aL xg;dsimp only);refine⟨λh1=>(by cases h1),λ_=>⟨_,rfl,(xX h (k:=3) (by decide)).use ?_⟩⟩;rintro _ ah ⟨rfl,f,ae,bu⟩;obtain⟨bt,p⟩:∃bt,bt=D.cC 3:=⟨_,rfl⟩;have aG:bt.d=D.d:=by rw[p];rfl
 have bv:bt.lb=D.lb:=by rw[p];rfl
 have aH:bt.mr=D.mr:=by rw[p];rfl
 have aI:bt.n=D.n:=by rw[p];rfl
 have aK:bY bt=bY D:=by rw[p];rfl
 have bw:bt.aQ=D.aQ:=by rw[p];rfl
 rw[←p]at f;refine⟨_,rfl,λB=>.inl ⟨B,rfl,by rw[←p];exact f,ae⟩,λB=>?_⟩;rw[←aG];have ai:=f.bC;obtain⟨L,al,am,an,ao,ap,bx⟩:=kL.begin (P:=aj) f.m lM;obtain⟨r,aM⟩:∃r,r=ah.heap.size:=⟨_,rfl⟩;rw[←aM]at an ao;have aN:r≠bt.mr:=by have:=f.m.lt;omega
 have aq:∀q,bY bt q->q≠r:=λq C e=>by have:=f.lt C;omega
 have aP:∀x∈L,∃y∈bt.waits,x.1=(y.i:Int):=λx hx=>by
  have:=am.mem_iff.1 (eC.2 ⟨x,hx,rfl⟩);obtain⟨y,t,e⟩:=eC.1 this;refine⟨y,t,?_⟩;have:=congrArg Prod.fst e;exact this.symm
 have aS:∀y∈bt.waits,∃x∈L,x.1=(y.i:Int):=λy t=>by
  have:y.e∈L.map lE:=am.mem_iff.2 (eC.2 ⟨y,t,rfl⟩);obtain⟨x,hx,e⟩:=eC.1 this;exact⟨x,hx,congrArg Prod.fst e⟩
 refine⟨_,rfl,some bt.mr,f.ba,_,al,an,λw'=>∃ (seen:O Nat) (ls:O cX),kL w' r bt.mr encZ L seen/\cx w' {bt with bg:=ls}/\ls.length=bt.n/\(∀ (j:Nat) (F:j<ls.length),ls[j]=if ∃x∈L,x.2.2∈seen/\x.1=(j:Int) then bt.now j else bt.bg.getD j [])/\ad (λq=>bY bt q) ah w'/\al.heap.size<=w'.heap.size,
  yM L r,⟨[],bt.bg,ao,f.ext ap,rfl,λj F=>?_,ad.cJ ap,bl _⟩,?_⟩
 .rw[if_neg (by rintro⟨x,_,h1,_⟩;cases h1),fm F]
 rintro au ⟨seen,ls,Q,E,u,ik,H,bA⟩;have R:∀s∈ls,s.length=256:=E.sl;have bB:r<au.heap.size:=by omega
 have aT:bt.lb≠r:=aq _ (.inr (.inl rfl));rcases Q.next (P:=aj) aN 0 with ⟨aU,aV,S,av,bD⟩|⟨x,hx,I,S,aX,ax,bE,aY⟩
 .
  refine .inr ⟨aV,S,λh=>(by cases h),λ_=>?_⟩;have K:=E.ext av;obtain⟨aZ,a0,a4,T,bF⟩:=eD.clear (P:=aj) (o:=0) K.m lM;refine⟨_,rfl,some bt.mr,K.ba,_,aZ,a0,.inr ⟨B,rfl,?_,?_⟩⟩
  .have a5:∀x∈L,x.2.2∈seen:=λx hx=>by
    have:=lV.1 aU x hx;simpa using this
   have a7:ls=(List.range D.n).map D.now:=by
    refine List.ext_getElem (by simp[u,aI]) λj h1 h2=>?_;rw[ik j h1,List.getElem_map,List.getElem_range];have U:D.now j=bt.now j:=by rw[p];rfl
    rw[U];split
    .rfl
    .rename_i a8
     unfold a6.now
     cases hf:bt.waits.find? λx=>x.i==j with
     |some y=>
      exfalso;have t:=jH hf;have a9:y.i=j:=by simpa using ko hf
      obtain⟨x,hx,e⟩:=aS y t;exact a8 ⟨x,hx,a5 x hx,by rw[e,a9]⟩
     |none=>rfl
   have V:bt.d≠bt.mr:=f.a1.2.1;have a_:bt.lb≠bt.mr:=f.a1.2.2;have e:(D.cC 3).jk={bt with bg:=ls,waits:=[]}:=by
    rw[a7,p];rfl
   rw[e];refine⟨K.v.ab T V,bz.ab K.l T a_,a4,λx hx=>(by cases hx),λx hx=>(by cases hx),R,λx hx=>(by cases hx),?_,?_,E.f4,E.fr,E.a1,λx hx=>(by cases hx),λx hx=>(by cases hx)⟩
   .show 16<=ls.length;rw[u];exact f.bW
   .show ls.length<=1600;rw[u];exact ai
  .have bb:bY D D.d:=.inl rfl
   have hc:ad (λq=>bY D q) w ah:=ae.mono λq _ e=>by rw[e];exact bb
   have H:ad (λq=>bY D q) ah au:=by rw[←aK];exact H
   have bc:=cu hc H λq _ h=>h;have bd:=cu bc av λq _ h=>h.elim;exact cu bd T λq _ be=>by rw[be,aH];exact .inr (.inr (.inl rfl))
 .
  have W:x∈L:=(hK.1 hx).1;have bH:x.2.2∉seen:=by
   have:=(hK.1 hx).2;simpa using this
  obtain⟨y,t,X⟩:=aP x W;have bf:=E.ab ax λq C=>aq q C;have hi:y.i<bt.n:=(f.wn y t).2.1;have bh:y.i<ls.length:=by omega
  refine .inl ⟨_,_,I,S,λ_=>⟨(y.i:Int),x.2.1,I,?_,?_⟩,λh=>(by cases h)⟩
  .rw[aY]
   have e:encZ x.1=.int .i64 ((y.i:Nat):Int):=by rw[X]
   rw[e]
  have ay:=cf I;have Y:=bf.ext ay;have bi:({bt with bg:=ls}:a6).n=bt.n:=u;refine aW ⟨λ_=>False,_,rfl,id,⟨some ⟨bt.lb,0,none⟩,ls.length,ls.length⟩,Y.dg,(Bq (i:=y.i) Y (by rw[bi];exact hi) (by show bt.aQ<=_;omega)).use ?_⟩;rintro _ M ⟨rfl,Z⟩;have g:=Y.ext Z;have U:({bt with bg:=ls}:a6).now y.i=bt.now y.i:=by
   unfold a6.now
   cases hf:bt.waits.find? λx=>x.i==y.i with
   |some z=>rfl
   |none=>
    have:=jo.1 hf y t;simp at this
  have aa:(bt.now y.i).length=256:=f.oB hi;rw[U];have ar:Addr.add ⟨bt.lb,0,none⟩ (Int.toNat ((y.i:Nat):Int)*256)=⟨bt.lb,y.i*256,none⟩:=by rw[dd,aw,cy]
  obtain⟨bG,bI,bk⟩:=CM g.l R bh aa;refine⟨_,rfl,Z,_,rfl,⟨by omega,by show((y.i:Nat):Int)<((ls.length:Nat):Int);omega⟩,by rw[ar];exact bG,by simp[ey,aa],?_⟩;rw[ar];refine aW ?_;show _/\_;have az:bz (setCells M ⟨bt.lb,y.i*256,none⟩ 0 (aJ (bt.now y.i)).toArray.toList) bt.lb (bV aJ (ls.set y.i (bt.now y.i))).toArray 182:=bI;have A:ad (λq=>q=bt.lb) M (setCells M ⟨bt.lb,y.i*256,none⟩ 0 (aJ (bt.now y.i)).toArray.toList):=bk;generalize setCells M ⟨bt.lb,y.i*256,none⟩ 0 (aJ (bt.now y.i)).toArray.toList=aB at az A;have ac:=Ext.trans ay Z;have aC:=(aX.ab ac id id).ab A (λe=>aT e.symm) λe=>f.a1.2.2 e.symm;have bm:ad (λq=>bY bt q) ah aB:=by
   have h1:ad (λq=>bY bt q) ah I:=cu H ax λq C e=>by omega
   have h2:=cu h1 ac λq _ h=>h.elim;exact cu h2 A λq _ e=>by rw[e];exact .inr (.inl rfl)
  have bJ:=ac.size;have bK:=A.size;have bn:cx aB {bt with bg:=ls.set y.i (bt.now y.i)}:=by
   have V:bt.d≠bt.lb:=f.a1.1;refine⟨?_,az,g.m.ab A λe=>f.a1.2.2 e.symm,λx hx=>(g.ws x hx).ab A λq C e=>(g.a2 x hx).2.1 (by rw[←e];exact C),?_,λs hs=>?_,g.j_,?_,?_,g.f4,g.fr,g.a1,g.a2,g.a3⟩
   .have h1:=g.v.ab A V
    have e:({bt with bg:=ls.set y.i (bt.now y.i)}:a6).c=({bt with bg:=ls}:a6).c:=by unfold a6.c;simp
    rw[e];exact h1
   .intro z bo
    have:=g.wn z bo;refine⟨this.1,?_,this.2.2⟩;show z.i<(ls.set y.i (bt.now y.i)).length;rw[df];exact this.2.1
   .rcases ly hs with h1|rfl
    .exact R s h1
    .exact aa
   .show 16<=(ls.set y.i (bt.now y.i)).length;rw[df,u];exact f.bW
   .show(ls.set y.i (bt.now y.i)).length<=1600;rw[df,u];exact ai
  refine⟨⟨seen++ [x.2.2],_,aC,bn,by rw[df];exact u,λj F=>?_,bm,by omega⟩,?_⟩
  .rw[df]at F
   rw[sx];split
   .rename_i e
    subst e;rw[if_pos ⟨x,W,by simp,X⟩]
   .rename_i bp
    rw[ik j F];have:(∃G∈L,G.2.2∈seen/\G.1=(j:Int))↔∃G∈L,G.2.2∈seen++ [x.2.2]/\G.1=(j:Int):=by
     constructor
     .rintro⟨z,h1,h2,N⟩
      exact⟨z,h1,jE _ h2,N⟩
     .rintro⟨z,h1,h2,N⟩
      rcases cT.1 h2 with h2|h2
      .exact⟨z,h1,h2,N⟩
      .have bq:z=x:=by
        have aD:=Q.bj;obtain⟨a,aE,rfl⟩:=fi h1;obtain⟨b,B,rfl⟩:=fi W;have aF:=ff.1 h2;have br:a=b:=by
         rcases Nat.lt_trichotomy a b with h|h|h
         .have:=mK.1 aD a b (by simpa using aE) (by simpa using B) h
          simp at this;exact absurd aF this
         .exact h
         .have:=mK.1 aD b a (by simpa using B) (by simpa using aE) h
          simp at this;exact absurd aF.symm this
        subst br;rfl
       rw[bq,X]at N;exact absurd (by omega) bp
    simp only[this]
  .rw[aC.left,Q.left]
   exact HO hx
structure fB where
 an:Nat
 batch:Nat
 dY:Nat
def fB.c(l:fB):O aa:=[l.an,l.batch,.int .u64 (l.dY:Nat)]
def kM(f b d:Int):Prop:=8<=f/\f<=64/\1<=b/\b<=1000/\1<=d/\d<=1048576
instance I9(f b d:Int):Decidable (kM f b d):=by unfold kM;infer_instance
section
variable {w w':J}{D:a6}
theorem nW(w:J)(p:aq ae)(f b d:Int):aR aj 70 #[.pointer p,.agg #[f,b,.int .u64 d]] w (λv w'=>v=.bool (!(Option.isNone p)&&decide (kM f b d))/\Ext w w'):=by
 refine okF (af.nW p f b d) aA.nW func70 ?_;(delta af.nW ak r1 U br;dsimp only);refine bh (vs:=[f,b,.int .u64 d]) rfl λw1 c hx hs=>?_;refine cq (λx w'=>x=(!(Option.isNone p)&&decide (8<=f))/\w1=w') (λq a=>⟨λh=>⟨f,c.cell,a _ _ ⟨by rw[h,jX],rfl⟩⟩,λh=>a _ _ ⟨by rw[h,mL],rfl⟩⟩) ?_;rintro e _ ⟨h1,rfl⟩;refine cq (λx w'=>x=(e&&decide (f<=64))/\w1=w') (λq a=>⟨λh=>⟨f,c.cell,a _ _ ⟨by rw[h,jX],rfl⟩⟩,λh=>a _ _ ⟨by rw[h,mL],rfl⟩⟩) ?_;rintro g _ ⟨h2,rfl⟩;refine cq (λx w'=>x=(g&&decide (1<=b))/\w1=w') (λq a=>⟨λh=>⟨b,by rw[aw];exact c.cell,a _ _ ⟨by rw[h,jX],rfl⟩⟩,λh=>a _ _ ⟨by rw[h,mL],rfl⟩⟩) ?_;rintro i _ ⟨j,rfl⟩;refine cq (λx w'=>x=(i&&decide (b<=1000))/\w1=w') (λq a=>⟨λh=>⟨b,by rw[aw];exact c.cell,a _ _ ⟨by rw[h,jX],rfl⟩⟩,λh=>a _ _ ⟨by rw[h,mL],rfl⟩⟩) ?_;rintro k _ ⟨l,rfl⟩;refine cq (λx w'=>x=(k&&decide (1<=d))/\w1=w') (λq a=>⟨λh=>⟨d,by rw[aw];exact c.cell,a _ _ ⟨by rw[h,jX],rfl⟩⟩,λh=>a _ _ ⟨by rw[h,mL],rfl⟩⟩) ?_;rintro m _ ⟨n,rfl⟩;refine cq (λx w'=>x=(m&&decide (d<=1048576))/\w1=w') (λq a=>⟨λh=>⟨d,by rw[aw];exact c.cell,a _ _ ⟨by rw[h,jX],rfl⟩⟩,λh=>a _ _ ⟨by rw[h,mL],rfl⟩⟩) ?_;rintro r _ ⟨o,rfl⟩;refine⟨?_,hx⟩;rw[o,n,l,j,h2,h1,Value.bool.injEq,fY];simp only[er,cS,and_assoc];exact Iff.rfl
theorem vZ{D:a6}{no:Nat}{s:Y}{l:cX}{N:Nat}(a:∀q,aB s q->bY D q\/N<=q):∀q,bY (D.put no s l) q->bY D q\/N<=q:=by
 rintro q (e|e|e|⟨x,hx,e⟩)
 .exact .inl (.inl e)
 .exact .inl (.inr (.inl e))
 .exact .inl (.inr (.inr (.inl e)))
 .rcases cU.1 hx with rfl|hx
  .exact a q e
  .exact .inl (.inr (.inr (.inr ⟨x,(hK.1 hx).1,e⟩)))
def HQ(D:a6)(u:cZ)(gen:Nat)(w:J)(v:aa)(w':J):Prop:=
 ad (bY D) w w'/\((D.fV 2=true/\v=.int .i64 3/\cx w' (D.cC 2))\/
 (D.fV 2=false/\∃s:Y,(∀q,aB s q->bY D q\/w.heap.size<=q)/\∃bt:a6,bt=D.put (gen%2) s (eH (gen%2) (ji u D.n gen))/\
   ((bt.fV 3=true/\v=.int .i64 3/\cx w' (bt.cC 3))\/(bt.fV 3=false/\v=.int .i64 0/\cx w' (bt.cC 3).jk))))
theorem mW(h:cx w D)(P:D.aQ<=999999999){u:cZ}(hu:nt u){gen:Nat}(hg:gen<18446744073709551616):
 aR aj 77 #[.pointer (some D.d),.agg u.c.toArray,.int .u64 (gen:Nat)] w (HQ D u gen w):=by
 have Q:=h.bW;have R:=h.bC;refine af.Eu _ (u.root:Nat) (u.aI:Nat) (u.map:Nat) (u.clock:Nat) (u.bw:Nat) (u.keys:Nat) (gen:Nat) w _ ?_;(delta af.mW U r1 br aC ba lG cc av ak;dsimp only);have A:IntKind.wrap .i64 (Int.tmod (gen:Int) 2)=((gen%2:Nat):Int):=by
  rw[oX I,bA I I];omega
 refine bh (vs:=u.c) rfl λw1 B j S=>⟨by decide,?_⟩;have a:=cf w1;have C:=B.ext a;have E:=h.ext (j.trans a);refine aW ⟨λ_=>False,id,gO C ((qb E).use ?_)⟩;rintro _ _ ⟨rfl,rfl⟩;refine⟨_,rfl,ad.refl _ _,(pD hu (n:=D.n) I).use ?_⟩;rintro _ F ⟨k,rfl,G,t,T⟩;rw[A];refine⟨k,rfl,λ_=>False,#[(3:Int),.int .u64 (gen:Nat),k],λV=>by kernel_rfl,(vz (s:=k) (p:=ji u D.n gen) G.src I (yJ hg)).use ?_⟩;rintro _ W ⟨H,rfl,J,v,K⟩;have b:=(j.trans a).trans (Ext.trans t v);have L:=h.ext b;have X:=b.size;have M:(eH (gen%2) (ji u D.n gen)).length=256:=rH _ (yJ hg);have Y:w.heap.size<=F.heap.size:=by have:=(j.trans a).size;have:=t.size;omega
 refine⟨H,0,rfl,v,λh=>(by cases h),λ_=>(vH L (i:=gen%2) I I J.src M λq f hf=>by have:=K q f;have:=h.lt hf;omega).use ?_⟩;rintro _ N (⟨g,rfl,hd,hc⟩|⟨g,rfl,s,hd,hc,x⟩)
 .exact⟨3,rfl,λ_=>⟨cu (b.mono λ_ _ h=>h.elim) hc λq _ e=>by rw[e];exact .inl rfl,.inl ⟨g,rfl,hd⟩⟩,λh=>(by cases h)⟩
 .have y:ad (bY D) w N:=cu (b.mono λ_ _ h=>h.elim) hc λq _ e=>e
  have O:=vZ (no:=gen%2) (l:=eH (gen%2) (ji u D.n gen)) x;refine⟨0,rfl,λh=>(by cases h),λ_=>(yO hd (by show D.aQ+1<=_;omega)).use ?_⟩;have z:∀q,aB s q->bY D q\/w.heap.size<=q:=λq f=>(x q f).imp id λh=>by omega
  rintro _ Z (⟨m,rfl,o,r⟩|⟨m,rfl,o,r⟩)
  .exact⟨3,rfl,cu y r λq _ e=>by rw[e];exact .inl rfl,.inr ⟨g,s,z,_,rfl,.inl ⟨m,rfl,o⟩⟩⟩
  .exact⟨0,rfl,cu y r λq f e=>(O q e).resolve_right I,.inr ⟨g,s,z,_,rfl,.inr ⟨m,rfl,o⟩⟩⟩
end
def bitsOf(ns:O Int)(i:Nat):ai:=((ns.getD (i/8) 0).toNat).testBit (i%8)
theorem CN(ns:O Int)(i:Nat)(h:8*ns.length<=i):bitsOf ns i=false:=by
 unfold bitsOf;have:ns.length<=i/8:=by omega
 simp[List.getD,kp this]
theorem HR(ns:O Int)(h:∀n∈ns,0<=n/\n<=255):ns.map (Value.int .u8)=eZ (bitsOf ns) ns.length:=by
 apply List.ext_getElem
 .simp[eZ]
 .intro i h1 h2
  have hi:i<ns.length:=by simpa using h1
  simp only[eZ,List.getElem_map,List.getElem_range]
  congr 1
  obtain⟨mi,au⟩:=h ns[i] (cF hi);have:=vK (bitsOf ns) i ns[i].toNat I (λj c=>by
   unfold bitsOf;have a:(8*i+j)/8=i:=by omega
   have b:(8*i+j)%8=j:=by omega
   rw[a,b];simp[List.getD,hi])
  rw[←this];omega
theorem HS:∀x:Nat,x<256->∀j:Nat,j<8->decide (Int.fdiv (x:Int) (2^(min (Int.toNat (j:Int)) 8))>0)=(List.range 8).any (λk=>decide (j<=k)&&x.testBit k):=by decide+kernel
section
variable {w w':J}{b n:Nat}{f g:Nat->ai}{s1 s2:Y}
def oL(ns:O Int)(n:Nat):Prop:=ns.length=(n+7)/8/\∀i,n<=i->bitsOf ns i=false
theorem HT{ns:O Int}{n:Nat}(l:ns.length=(n+7)/8)(m:0<n%8){x:Nat}(hx:x<256)(a:ns[ns.length-1]? =some (x:Int)):
 decide (Int.fdiv (x:Int) (2^(min (Int.toNat ((n%8:Nat):Int)) 8))>0)=false↔∀i,n<=i->bitsOf ns i=false:=by
 rw[HS x hx _ (g7 _ I)];have f:ns.length-1=n/8:=by omega
 rw[f]at a;rw[oO];constructor
 .intro h i hi
  rcases dO i (8*ns.length) with c|c
  .have e:i/8=n/8:=by omega
   unfold bitsOf;rw[e];simp only[List.getD,a,qz,dd];have:=h (i%8) (jC.2 (g7 _ I));have b:n%8<=i%8:=by omega
   simpa[b] using this
  .exact CN ns i c
 .intro h k d
  have d:=jC.1 d;by_cases b:n%8<=k
  .have:=h (8*(n/8)+k) I
   unfold bitsOf at this;have g:(8*(n/8)+k)/8=n/8:=by omega
   have j:(8*(n/8)+k)%8=k:=by omega
   rw[g,j]at this;simp only[List.getD,a,qz,dd]at this;simp[this]
  .simp[b]
theorem pJ{s:Y}{ns:O Int}(hs:Src 1 w s (ns.map (.int .u8)))(m:∀n∈ns,(0:Int)<=n/\n<=255)(P:ns.length<=1000000)(n:Int):
 aR aj 173 #[.slice s.a s.len s.cap,.int .i64 n] w (λv w'=>Ext w w'/\((¬(1<=n/\n<=1600)/\v=.tuple #[.pointer none,.int .i64 1])\/
  (1<=n/\n<=1600/\¬oL ns n.toNat/\v=.tuple #[.pointer none,.int .i64 4])\/
  (1<=n/\n<=1600/\oL ns n.toNat/\∃b s1 s2,v=.tuple #[.pointer (some ⟨b,0,none⟩),.int .i64 0]/\eX w' b n.toNat (bitsOf ns) (bitsOf ns) s1 s2/\∀k,fy b s1 s2 k->w.heap.size<=k))):=by
 have hlen:s.len=ns.length:=by have:=hs.len;simp at this;omega
 refine okF (af.pJ s n) aA.pJ func173 ?_;(delta af.pJ al aO ak aC av b3 ba aU U;dsimp only);refine(BX w n).use ?_;rintro _ _ ⟨rfl,rfl⟩;refine⟨_,rfl,λh=>⟨.refl _ _,.inl ⟨by simp at h;omega,rfl⟩⟩,λh=>?_⟩;have h:1<=n/\n<=1600:=by simpa using h
 obtain⟨n,rfl⟩:=qI (by omega:0<=n);simp only[dd];refine(BY w n I).use ?_;rintro _ _ ⟨rfl,rfl⟩;refine⟨_,rfl,cq (λc w'=>(c=true↔¬oL ns n)/\w=w') (λq u=>⟨λf=>u _ _ ⟨?_,rfl⟩,λg=>⟨by decide,?_⟩⟩) ?_⟩
 .have f:¬ns.length=(n+7)/8:=by
   intro h;rw[hlen,h]at f;simp at f
  exact⟨λ_ hg=>f hg.1,λ_=>rfl⟩
 .have g:ns.length=(n+7)/8:=by
   simp only[bne_eq_false_iff_eq]at g;omega
  refine cq (λc w'=>(c=true↔¬oL ns n)/\w=w') (λQ y=>⟨λj=>?_,λj=>y _ _ ⟨?_,rfl⟩⟩) ?_
  .rw[rV]at j⊢
   have z:0<n%8:=by
    have:((n%8:Nat):Int)>0:=by simpa using j
    omega
   have o:ns.length-1<ns.length:=by omega
   obtain⟨x,F⟩:∃x:Nat,ns[ns.length-1]=(x:Int):=⟨ns[ns.length-1].toNat,by have:=m _ (cF o);omega⟩;have G:x<256:=by have:=m _ (cF o);omega
   have B:ns[ns.length-1]? =some (x:Int):=by rw[dE o,F]
   obtain⟨A,ar,C,hc⟩:=hs.at (i:=ns.length-1) (v:=.int .u8 x) (by rw[lu,B];rfl);rw[hlen,bA I I,show(((ns.length:Nat):Int)-1)=((ns.length-1:Nat):Int) from I];rw[hlen]at C;refine⟨A,ar,C,x,hc,by decide,I,y _ _ ⟨?_,rfl⟩⟩;have D:=HT g z G B;constructor
   .intro ht hg
    have:=D.2 hg.2;rw[ht]at this;cases this
   .intro p
    cases hd:decide (Int.fdiv (x:Int) (2^(min (Int.toNat ((n%8:Nat):Int)) 8))>0) with
    |true=>rfl
    |false=>exact(p ⟨g,D.1 hd⟩).elim
  .rw[rV]at j
   have z:n%8=0:=by
    have:¬((n%8:Nat):Int)>0:=by simpa using j
    omega
   constructor
   .intro h;cases h
   .intro p
    exact(p ⟨g,λi hi=>CN ns i I⟩).elim
  .rintro c _ ⟨hc,rfl⟩
   exact u _ _ ⟨hc,rfl⟩
 .rintro c _ ⟨hc,rfl⟩
  refine⟨λht=>⟨.refl _ _,.inr (.inl ⟨h.1,h.2,hc.1 ht,trivial⟩)⟩,λhf=>?_⟩;have hg:oL ns n:=by
   rcases Classical.em (oL ns n) with h|h
   .exact h
   .rw[hc.2 h]at hf;cases hf
  refine(BS hs (D7 _ _) I).use ?_;rintro _ ah ⟨t,rfl,l,hx,H⟩;rw[HR ns m,hg.1]at l;have J:=bz.new ah #[.int .i64 (n:Int),.slice t.a t.len t.cap,.slice none 0 0] 218;have E:Ext ah (ah.alloc (.cells #[.int .i64 (n:Int),.slice t.a t.len t.cap,.slice none 0 0] 218)):=ad.alloc (.refl _ _) _;have f:∀k,aB t k->k≠ah.heap.size:=λk d e=>by have:=l.lt k d;omega
  refine⟨t,rfl,(yd J (l.ext E) f I).use ?_⟩;rintro _ R ⟨rfl,K,h1,h2,L,M,r⟩;have S:=hx.size;refine⟨rfl,?_,.inr (.inr ⟨h.1,h.2,hg,ah.heap.size,t,K,rfl,⟨h1,h2,L,λk d=>⟨f k d,λN=>?_⟩,λk d e=>?_,I,I,hg.2,hg.2⟩,?_⟩)⟩
  .exact((ad.cJ (hx.trans E)).trans M).mono λk d e=>by omega
  .have:=r k N
   have:=l.lt k d;simp at*;omega
  .have:=r k d
   simp at this;omega
  .rintro k (rfl|d|d)
   .omega
   .exact H k d
   .have:=r k d
    simp at this;omega
end
section
variable {w w':J}{C:b5}{X:Nat->Prop}
def Fr.gW(f:Fr):ai:=f.full&&f.fW
theorem HU:iC aj 200:=⟨Tryz.f200,func200,by kernel_rfl,by kernel_rfl⟩
theorem HV(f:Fr)(w:J):aR aj 200 #[.agg #[f.full,f.fW,f.used,f.no,f.pins,f.b]] w (λv w'=>v=f.gW/\Ext w w'):=by
 refine okF (af.uK f.full f.fW f.used f.no f.pins f.b) aA.uK func200 ?_;(delta af.uK bc U ak;dsimp only);refine bh (vs:=f.c) rfl λw1 a hx hs=>⟨f.full,a.cell,cq (λb w'=>b=f.gW/\w1=w') (λq d=>⟨λh=>⟨f.fW,by rw[aw];exact a.cell,d _ _ ⟨by unfold Fr.gW;rw[h];rfl,rfl⟩⟩,λh=>d _ _ ⟨by unfold Fr.gW;rw[h];rfl,rfl⟩⟩) ?_⟩;rintro _ _ ⟨rfl,rfl⟩;exact⟨rfl,hx⟩
def jz(fs:O Fr):O Int:=(fs.filter Fr.gW).map Fr.no
theorem CO(h:fx w C):aR aj 145 #[.pointer (some C.c)] w (λv w'=>∃ (s:Y) (zs:O Int),v=s/\bd 1 3 w' s (zs.map encZ)/\zs.Perm (jz C.an)/\Ext w w'/\∀q,aB s q->w.heap.size<=q):=by
 obtain⟨bX,aC,aU⟩:=h.cells
 have X:=h.bI
 refine okF (af.uy (some C.c)) aA.uy func145 ?_
 (delta af.uy ba;dsimp only)
 refine Calls.mono (af.EH (some C.c) ⟨200,#[],#[]⟩ w (λv w'=>∃ (s:Y) (zs:O Int),v=s/\bd 1 3 w' s (zs.map encZ)/\zs.Perm (jz C.an)/\Ext w w'/\∀q,aB s q->w.heap.size<=q) ?_) ?_
 · (delta af.rA ak ag aL bc r1 U tr av aU;dsimp only)
   refine⟨λh=>(by cases h),λ_=>⟨_,rfl,⟨some C.aV,C.an.length,C.an.length⟩,aC,λs n w'=>∃i:Nat,n=(i:Int)/\i<=C.an.length/\bd 1 3 w' s ((jz (C.an.take i)).map encZ)/\Ext w w'/\∀q,aB s q->w.heap.size<=q,λ_ n _=>((C.an.length:Int)-n).toNat,⟨0,rfl,cL _,by simpa[jz] using bd.none 1 3 w,.refl _ _,λq e=>(gk q e).elim⟩,?_⟩⟩
   rintro s _ p ⟨i,rfl,hi,a,hx,g⟩
   have A:=h.ext hx
   refine⟨λaK=>?_,λB=>?_⟩
   · have r:i<C.an.length:=by
       have:(i:Int)<(C.an.length:Int):=b8 aK
       omega
     obtain⟨f,hf⟩:∃f,f=C.an[i]:=⟨_,rfl⟩
     have Z:(jz (C.an.take i)).length<=64:=by
       unfold jz
       rw[dU]
       have:=nA Fr.gW (C.an.take i)
       rw[cG]at this;omega
     have t:jz (C.an.take (i+1))=jz (C.an.take i)++(if f.gW then [f.no] else []):=by
       unfold jz
       rw[iU r,kQ,fZ,←hf,qJ,List.filter_nil]
       congr 1
       split<;>rfl
     refine cq (λs w'=>bd 1 3 w' s ((jz (C.an.take (i+1))).map encZ)/\Ext w w'/\∀q,aB s q->w.heap.size<=q) (λq e=>?_) ?_
     · have hc:∀j,j<6->p.cell? ⟨C.aV,i*6+j,none⟩=(f.c)[j]? :=λj D=>by rw[hf];exact kf A.f r D
       refine⟨_,rfl,⟨I,by show(i:Int)<(C.an.length:Int);omega⟩,?_⟩
       rw[rQ]
       refine⟨f.full,hc 0 (by decide),f.fW,by rw[aw];exact hc 1 (by decide),f.used,by rw[aw];exact hc 2 (by decide),f.no,by rw[aw];exact hc 3 (by decide),f.pins,by rw[aw];exact hc 4 (by decide),f.b,by rw[aw];exact hc 5 (by decide),?_⟩
       refine bh (vs:=[false,false,false,(0:Int),(0:Int),()]) rfl λaa u E ab=>⟨u.b9 rfl (λv l=>?_),rfl,cr u (us:=f.c) rfl rfl λy d F ac=>?_⟩
       · simp only[cU,eL,eO]at l
         rcases l with rfl|rfl|rfl|rfl|rfl|rfl<;>trivial
       have G:Ext p y:=Ext.cn E F (bl _)
       refine⟨f.full,d.cell,f.fW,by rw[aw];exact d.cell,f.used,by rw[aw];exact d.cell,f.no,by rw[aw];exact d.cell,f.pins,by rw[aw];exact d.cell,f.b,by rw[aw];exact d.cell,HU,(HV f y).use ?_⟩
       rintro _ m ⟨rfl,z⟩
       have k:=Ext.trans G z
       have H:=d.ext z
       refine⟨_,rfl,λhd=>⟨f.no,by rw[aw];exact H.cell,aW ?_⟩,λhd=>e _ _ ⟨?_,Ext.trans hx k,g⟩⟩
       · have o:Ext m (m.alloc (.cells #[encZ f.no] 3)):=eS _ _
         obtain⟨J,K,au,ay,_,L,M⟩:=p6.append (cM:=58) (x:=⟨some m.heap.size,1,1⟩) (Src.new (T:=3) m [encZ f.no] 1 rfl) ((a.ext k).ext o) (λv l=>by rw[ff.1 l];trivial) (by
           have:s.len=(jz (C.an.take i)).length:=by
             have:=a.1
             rw[dU]at this;omega
           show(2*(s.len+1)+1000)*8<=_;omega)
         refine⟨J,K,au,e _ _ ⟨?_,?_,λq e=>?_⟩⟩
         · rw[t,hd,if_pos rfl,fZ];exact ay
         · exact Ext.dy (Ext.trans (Ext.trans hx k) o) L g
         · rcases M q e with h1|h1
           · exact g q h1
           · have:=(Ext.trans hx k).size
             have:=o.size;omega
       · rw[t,hd]
         simp only[fS,if_false,f_]
         exact a.ext k
     · rintro ad ae ⟨h1,h2,N⟩
       have P:IntKind.wrap .i64 ((i:Int)+1)=((i+1:Nat):Int):=by rw[bA I I];omega
       rw[P]
       exact⟨⟨i+1,rfl,I,h1,h2,N⟩,by show((C.an.length:Int)-((i+1:Nat):Int)).toNat<((C.an.length:Int)-(i:Int)).toNat;omega⟩
   · have Q:i=C.an.length:=by
       have:¬(i:Int)<(C.an.length:Int):=cv B
       omega
     rw[Q,iV]at a
     refine(Cx a (by
       unfold jz
       rw[dU]
       have:=nA Fr.gW C.an;omega)).use ?_
     rintro _ ah ⟨rfl,R,zs,S,V⟩
     exact⟨rfl,s,zs,rfl,S,V.1,Ext.dy hx R g,g⟩
 · rintro _ w1 ⟨_,rfl,s,zs,rfl,a,W,hx,hf⟩
   exact⟨s,rfl,s,zs,rfl,a,W,hx,hf⟩
end
section
variable {w w':J}{C:b5}{X:Nat->Prop}
theorem HW{D:a6}{no:Nat}{s:Y}{l:cX}{N:Nat}(a:∀q,aB s q->bY D q\/N<=q):∀q,bY (D.put no s l) q->bY D q\/N<=q:=by
 rintro q (e|e|e|⟨x,hx,e⟩)
 .exact .inl (.inl e)
 .exact .inl (.inr (.inl e))
 .exact .inl (.inr (.inr (.inl e)))
 .rcases cU.1 hx with rfl|hx
  .exact a q e
  .exact .inl (.inr (.inr (.inr ⟨x,(hK.1 hx).1,e⟩)))
theorem fx.p2{az:a6}(h:fx w C)(hd:cx w' az)(e:az.d=C.D.d)(hc:ad (bY C.D) w w')(hf:∀q,bY az q->bY C.D q\/w.heap.size<=q):fx w' {C with D:=az}:=by
 have h1:=h.v.ab hc h.a1.2.1;rw[←e]at h1;have a:C.c<w.heap.size:=h.v.lt;have b:C.aV<w.heap.size:=bz.lt h.f;refine⟨h1,bz.ab h.f hc h.a1.2.2,hd,h.bG,h.bI,h.hd,h.a1.1,λg=>?_,λg=>?_⟩
 .rcases hf _ g with g|g
  .exact h.a1.2.1 g
  .have g:w.heap.size<=C.c:=g
   omega
 .rcases hf _ g with g|g
  .exact h.a1.2.2 g
  .have g:w.heap.size<=C.aV:=g
   omega
def b5.wrote(C:b5)(i no:Nat)(hi:i<C.an.length)(s:Y):b5:={C with an:=C.an.set i {C.an[i] with fW:=false},D:=C.D.put no s (C.an[i]).l}
theorem HX(h:ek X w C){i no:Nat}(hi:i<C.an.length)(hf:(C.an[i]).full=true)(t:(C.an[i]).no=no){s:Y}(H:¬C.D.bL no=true)(hd:cx w' (C.D.put no s (C.an[i]).l))(hc:ad (bY C.D) w w')(T:∀q,aB s q->bY C.D q\/w.heap.size<=q):
 (∃u:aa,w'.cell? ⟨C.aV,i*6+1,none⟩=some u)/\w'.frozen? ⟨C.aV,i*6+1,none⟩=false/\ek X (w'.setCell ⟨C.aV,i*6+1,none⟩ false) (C.wrote i no hi s)/\
   eI C (C.wrote i no hi s) w (w'.setCell ⟨C.aV,i*6+1,none⟩ false) 1/\∀j,(C.wrote i no hi s).view j=C.view j:=by
 have z:=HW (no:=no) (l:=(C.an[i]).l) T;obtain⟨az,x⟩:∃az,az=C.D.put no s (C.an[i]).l:=⟨_,rfl⟩;have B:∀j,az.now j=if j=no then (C.an[i]).l else C.D.now j:=by rw[x];exact oC _ _ _ _
 have J:az.d=C.D.d:=by rw[x];rfl
 have U:az.n=C.D.n:=by rw[x];rfl
 have W:az.key=C.D.key:=by rw[x];exact BB C.D H
 have K:kH az C.D:=by rw[x];exact BA h.inv H
 have al:az.aQ=C.D.aQ+1:=by rw[x];rfl
 have Z:∀m,C.D.calm (m+1)->az.calm m:=λm ab=>by rw[x];exact(jO (.inr rfl) h.raw.dev.f4 ab).1
 unfold b5.wrote;rw[←x]at hd z⊢;have L:=h.raw.p2 hd J hc z;obtain⟨a1,a2,a3,a4⟩:=nf L.f hi (j:=1) (by decide) (v:=false) {C.an[i] with fW:=false} rfl;obtain⟨g,o⟩:∃g:Fr,g={C.an[i] with fW:=false}:=⟨_,rfl⟩;rw[←o]at a3⊢;refine⟨a1,a2,?_⟩;generalize w'.setCell ⟨C.aV,i*6+1,none⟩ false=E at a3 a4;have G:ad (c4 C) w E:=cu (hc.mono λq _ e=>.inr (.inr e)) a4 λq _ e=>.inr (.inl e);obtain⟨y,au,ay,ac,ae,am,ao,af⟩:=h.inv.ok _ (cF hi) hf;have ag:y=no:=by rw[t]at au;omega
 subst ag;obtain⟨a,r⟩:∃a:b5,a={C with an:=C.an.set i dC,D:=az}:=⟨_,rfl⟩;have h1:gC X E a:=by
  rw[r];exact x4 (V:=c4 C) hi h.inv G (λ_ _ h=>h) K (λj A=>by rw[B,if_neg λe=>A hf (by rw[t,e])]) z dC rfl rfl
 have v1:∀j,a.view j=C.view j:=λj=>by
  rw[r];exact Bz hi h.inv (λ_ j A=>by rw[B,if_pos (by rw[t]at A;omega)]) (λj A=>by rw[B,if_neg λe=>A hf (by rw[t,e])]) dC rfl j
 have F:a.an=C.an.set i dC:=by rw[r]
 have dM:i<a.an.length:=by rw[F,df];exact hi
 have M:∀ (k:Nat) (ah:k<a.an.length),k≠i->(a.an[k]).full=true->(a.an[k]).no≠y:=λk ah N h2 O=>by
  simp only[F,fH (Ne.symm N)]at h2 O;exact N (h.inv.un k i _ hi h2 hf (by rw[O,t]))
 have P:C.an.set i g=a.an.set i g:=by rw[F,set_set]
 have Q:({C with an:=C.an.set i g,D:=az}:b5)={a with an:=a.an.set i g,D:=az}:=by rw[P,r]
 have ai:a_ (λq=>¬c4 {C with an:=C.an.set i g,D:=az} q/\¬X q) E g.b g.l:=by
  rw[o];refine a_.re ac G (λq _ R=>R.1) λq R S=>⟨λp=>S.1 ?_,S.2⟩;rcases p with p|p|p
  .exact .inl p
  .exact .inr (.inl p)
  .exact .inr (.inr ((z q p).resolve_right I))
 have h2:gC X E {C with an:=C.an.set i g,D:=az}:=by
  rw[Q];refine x5 (C:=a) (no:=y) (V:=λ_=>False) dM h1 (.refl _ _) (λ_ _ h=>h.elim) (by rw[r];exact⟨rfl,λ_ h=>h,K.2.2⟩) (λj=>by rw[r]) (λq=>by rw[r]) g (by rw[o];exact hf) (by rw[o];exact h.inv.pins (C.an[i]) (cF hi)) ⟨by rw[o];exact t,by show y<az.n;rw[U];exact ay,by rw[←Q];exact ai,by rw[o];exact ae,λ_=>?_,λ_=>by rw[o],af⟩ M;show g.l=az.now y;rw[B,if_pos rfl,o]
 have aj:∀j,({C with an:=C.an.set i g,D:=az}:b5).view j=C.view j:=λj=>by
  have ak:({C with an:=C.an.set i g,D:=az}:b5)=b5.mk a.c a.aV (a.an.set i g) C.hand az:=by rw[P,r]
  rw[ak,x6 (C:=a) (hd:=C.hand) (az:=az) (no:=y) dM h1.un (λj=>by rw[r]) g (by rw[o];exact hf) (by rw[o];exact t) (λp=>by simp only[F,ig]at p;cases p) M j,v1];split
  .rename_i e
   subst e;have:=ml (fs:=C.an) (D:=C.D) (c:=C.c) (aV:=C.aV) (hd:=C.hand) h.inv.un hi hf t;rw[o];exact this.symm
  .rfl
 refine⟨⟨?_,h2⟩,⟨rfl,J,by show(C.an.set i _).length=_;rw[df],W,by show az.aQ<=_;omega,Z,G,?_⟩,aj⟩
 .refine x7 (C:={C with D:=az}) L a4 a3
 .rintro q (e|e|e)
  .exact .inl (.inl e)
  .exact .inl (.inr (.inl e))
  .exact(z q e).imp (λh=>.inr (.inr h)) id
theorem yP{az:a6}(h:ek X w C)(hd:cx w' az)(e:az.d=C.D.d)(b:kH az C.D)(a:∀i,az.now i=C.D.now i)(hc:ad (bY C.D) w w')(hf:∀q,bY az q->bY C.D q\/w.heap.size<=q):ek X w' {C with D:=az}/\∀j,({C with D:=az}:b5).view j=C.view j:=
 ⟨⟨h.raw.p2 hd e hc hf,rS (C:=C) (hd:=C.hand) h.inv (hZ.refl _) (hc.mono λq _ e=>.inr (.inr e)) (λ_ _ h=>h) b a hf⟩,λj=>rT (C:=C) (hd:=C.hand) h.inv (hZ.refl _) a j⟩
theorem HY(h:ek X w C)(hc:∀f∈C.an,f.gW=false)(j:Nat):C.view j=C.D.now j:=by
 unfold b5.view
 cases b:C.an.find? λf=>f.full&&f.no==(j:Int) with
 |none=>rfl
 |some f=>
  have c:=jH b;have a:=ko b;simp only[er,kn]at a;obtain⟨no,au,ay,g,i,d⟩:=h.inv.ok f c a.1;have h1:=hc f c;unfold Fr.gW at h1;rw[a.1,jX]at h1;have e:no=j:=by rw[a.2]at au;omega
  rw[←e];exact d h1
theorem CP{D:a6}(h:cx w D)(i:Nat):D.jk.now i=D.now i:=by
 by_cases hi:i<D.n
 .exact yN D hi
 .have h1:D.now i=[]:=by
   unfold a6.now
   cases hf:D.waits.find? λx=>x.i==i with
   |some x=>
    have hx:=jH hf;have he:x.i=i:=by simpa using ko hf
    have:=(h.wn x hx).2.1;omega
   |none=>
    have:¬i<D.bg.length:=hi;show D.bg.getD i []=[];rw[fC,kp I];rfl
  rw[h1];show((List.range D.n).map D.now).getD i []=[];rw[fC,kp (by simp;omega)];rfl
theorem r7(D:a6){m:Nat}(h:D.calm m):(D.cC 3).calm m:=by
 unfold a6.calm a6.cC at*;simpa[fC] using h
structure HZ(X:Nat->Prop)(C aF:b5)(w:J)(v:aa)(w':J):Prop where
 at_:ek X w' aF
 c:aF.c=C.c
 d:aF.D.d=C.D.d
 len:aF.an.length=C.an.length
 n:aF.D.n=C.D.n
 bL:aF.D.bL=C.D.bL/\aF.D.dH=C.D.dH
 aQ:aF.D.aQ<=C.D.aQ+64
 calm:∀m,C.D.calm (m+64)->aF.D.calm m
 ab:ad (c4 C) w w'
 c7:∀q,c4 aF q->c4 C q\/w.heap.size<=q
 view:∀j,aF.view j=C.view j
 im:(v=.int .i64 0/\aF.D.waits=[]/\(∀f∈aF.an,f.gW=false)/\aF.D.cg.getD 3 0=(gA (C.D.cg.getD 3 0)).2)\/(v=.int .i64 3/\aF.D.bg=C.D.bg/\(¬C.D.calm 64\/C.D.fV 3=true))
theorem H0(h:ek X w C)(a1:C.D.aQ<=999999900)(ao:∀j,C.D.bL j=true->C.D.dH j=[]):aR aj 163 #[.pointer (some C.c)] w (λv w'=>∃aF,HZ X C aF w v w'):=by
 have a2:=h.raw.bI;refine okF (af.uD (some C.c)) aA.uD func163 ?_;(delta af.uD ak ba aL r1 k0 ag aC st av;dsimp only);refine⟨λh=>(by cases h),λ_=>(CO h.raw).use ?_⟩;rintro _ w1 ⟨s,zs,rfl,hs,M,V,ap⟩;have hlen:s.len=zs.length:=by have:=hs.1;rw[dU]at this;omega
 have a3:zs.length<=64:=by
  rw[M.length_eq];unfold jz;rw[dU];have:=nA Fr.gW C.an;omega
 have h1:=h.ext V;have aq:∀z∈zs,∀no:Nat,(no:Int)=z->¬C.D.bL no=true:=λz t no a4 hs=>by
  obtain⟨f,hf,e⟩:=eC.1 (M.mem_iff.1 t);obtain⟨h2,u⟩:=hK.1 hf;unfold Fr.gW at u;rw[er]at u;obtain⟨m,bG,_,_,_,_,W,ar⟩:=h.inv.ok f h2 u.1;have:m=no:=by rw[e]at bG;omega
  subst this;rw[W hs]at u
  cases u.2
 refine⟨s,rfl,λn w'=>∃ (i:Nat) (g:b5),n=(i:Int)/\i<=zs.length/\ek X w' g/\eI C g w w' i/\(∀j,g.view j=C.view j)/\bd 1 3 w' s (zs.map encZ)/\(∀f∈g.an,f.gW=true->f.no∈zs.drop i)/\(∀z∈zs,∃f∈g.an,f.full=true/\f.no=z)/\∀q,c4 g q->¬aB s q,
  λn _=>((zs.length:Int)-n).toNat,⟨0,C,rfl,cL _,h1,eI.ext C V,λ_=>rfl,hs,λf hf hd=>?_,λz t=>?_,λq o N=>?_⟩,?_⟩
 .exact M.mem_iff.2 (eC.2 ⟨f,hK.2 ⟨hf,hd⟩,rfl⟩)
 .obtain⟨f,hf,e⟩:=eC.1 (M.mem_iff.1 t)
  obtain⟨h2,u⟩:=hK.1 hf;unfold Fr.gW at u;rw[er]at u;exact⟨f,h2,u.1,e⟩
 .have:=ap q N;have:=h.raw.lt o;omega
 rintro _ Q ⟨i,g,rfl,hi,p,l,O,R,Y,hex,Z⟩;have a5:=l.aQ;refine⟨λaK=>?_,λax=>?_⟩
 .have G:i<zs.length:=by
   have:(i:Int)<(s.len:Int):=b8 aK;omega
  obtain⟨a,az,aD⟩:∃a:ae,s.a=some a/\Q.cell? (a.add (Int.toNat (i:Int)*1))=some (.int .i64 zs[i]):=by
   obtain⟨b,c,y,_,_,_,_,S,_⟩:=R.cell (i:=i) (v:=encZ zs[i]) (by rw[lu,dE G];rfl);exact⟨_,y,by rw[dd,aw,cy,fG];exact S⟩
  refine⟨a,az,⟨I,by show(i:Int)<(s.len:Int);omega⟩,zs[i],aD,?_⟩;rw[←l.c];refine(vJ p.raw _).use ?_;rintro _ _ ⟨aE,rfl⟩;obtain⟨f,aG,aH,aI⟩:=hex zs[i] (cF G);rcases aE with ⟨k,H,rfl,au,ay⟩|⟨_,aJ⟩
  rotate_left
  .exact absurd aI (aJ f aG aH)
  have J:=cf Q;have B:=p.ext J;obtain⟨no,bG,bI,aa,aM,a7,W,ar⟩:=B.inv.ok _ (cF H) au;have t:zs[i]=(no:Int):=by rw[←ay,bG]
  have aN:=kf B.raw.f H (j:=5) (by decide);refine⟨_,rfl,aW ⟨_,rfl,id,_,B.raw.cells.1,_,rfl,id,(g.an[k]).b,by rw[aw];exact aN,?_⟩⟩;rw[t];refine(vH B.raw.dev (i:=no) bI I aa.1 aM λq o hf=>(aa.2.2 q o).1.1 (.inr (.inr hf))).use ?_;rintro v2 ah aO;have aP:=l.ab.size;have a8:=J.size;rcases aO with ⟨y,rfl,E,r⟩|⟨y,rfl,s2,E,r,aS⟩
  .obtain⟨fN,dG⟩:=yP B E rfl (B.inv.cC 2) (λj=>rR g.D 2 j) (r.mono λq _ e=>.inl e) λq o=>.inl o
   refine⟨3,rfl,λ_=>⟨{g with D:=g.D.cC 2},fN,l.c,l.d,l.len,l.n,l.ng,by show g.D.aQ<=_;omega,λm K=>?_,?_,?_,λj=>(dG j).trans (O j),.inr ⟨rfl,?_,.inl λaT=>?_⟩⟩,λh=>(by cases h)⟩
   .exact(jO (.inr rfl) p.raw.dev.f4 (l.calm (m+1) (gg K I))).1
   .refine cu (l.ab.trans (ad.cJ J)) r λq o e=>?_
    exact(l.c7 q (.inr (.inr (.inl e)))).resolve_right I
   .exact l.c7
   .exact congrArg (λk=>k.1.1) l.bg
   .have:=(jO (k:=2) (m:=0) (.inr rfl) p.raw.dev.f4 (l.calm 1 (gg aT I))).2
    rw[y]at this;cases this
  .obtain⟨bn,bp,ac,P,aU⟩:=HX B H au (by rw[ay,t]) (λhs=>aq _ (cF G) _ t.symm (by rw[←l.bL];exact hs)) E r aS
   refine⟨0,rfl,λh=>(by cases h),λ_=>⟨_,rfl,by rw[aw];exact bn,by rw[aw];exact bp,?_⟩⟩;rw[aw];refine aW ?_;generalize ah.setCell ⟨g.aV,k*6+1,none⟩ false=a9 at ac P;have aX:IntKind.wrap .i64 ((i:Int)+1)=((i+1:Nat):Int):=by rw[bA I I];omega
   rw[aX];have aY:=(l.trans (eI.ext g J)).trans P;have aZ:zs.drop i=zs[i]::zs.drop (i+1):=jD G;refine⟨⟨i+1,_,rfl,I,ac,aY,λj=>(aU j).trans (O j),(R.ext J).ab P.ab λq o hf=>Z q hf o,λf hf A=>?_,λz t=>?_,λq o N=>?_⟩,by show((zs.length:Int)-((i+1:Nat):Int)).toNat<((zs.length:Int)-(i:Int)).toNat;omega⟩
   .have hf:f∈g.an.set k {g.an[k] with fW:=false}:=hf
    obtain⟨b,T,rfl⟩:=fi hf;have ai:b<g.an.length:=by simpa using T
    by_cases e:k=b
    .subst e
     simp[Fr.gW]at A
    .simp only[fH e]at A⊢
     have F:=Y _ (cF ai) A;rw[aZ]at F;rcases cU.1 F with U|U
     .unfold Fr.gW at A
      rw[er]at A;exact absurd (p.inv.un k b H ai au A.1 (by rw[ay,U])) e
     .exact U
   .obtain⟨f,f1,f2,f3⟩:=hex z t
    obtain⟨b,T,rfl⟩:=fi f1;by_cases e:k=b
    .subst e
     exact⟨{g.an[k] with fW:=false},List.mem_set H _,f2,f3⟩
    .exact⟨g.an[b],List.mem_iff_getElem.2 ⟨b,by show b<(g.an.set k _).length;rw[df];exact T,by show(g.an.set k _)[b]'_=_;rw[fH e]⟩,f2,f3⟩
   .rcases P.c7 q o with F|F
    .exact Z q F N
    .have:=R.lt q N;omega
 .have G:i=zs.length:=by
   have:¬(i:Int)<(s.len:Int):=cv ax;omega
  have S:∀f∈g.an,f.gW=false:=λf hf=>by
   cases A:f.gW with
   |false=>rfl
   |true=>
    have:=Y f hf A;rw[G,List.drop_length]at this
    cases this
  have al:g.D.cg.getD 3 0=C.D.cg.getD 3 0:=congrArg Prod.snd l.bg;rw[←l.c];refine⟨_,rfl,_,p.raw.cells.1,(yO p.raw.dev I).use ?_⟩;have aP:=l.ab.size;rintro v2 ah (⟨y,rfl,E,r⟩|⟨y,rfl,E,r⟩)
  .obtain⟨fN,dG⟩:=yP p E rfl (p.inv.cC 3) (λj=>rR g.D 3 j) (r.mono λq _ e=>.inl e) λq o=>.inl o
   refine⟨3,rfl,{g with D:=g.D.cC 3},fN,l.c,l.d,l.len,l.n,l.ng,by show g.D.aQ<=_;omega,λm K=>r7 _ (l.calm m (gg K I)),cu l.ab r λq o e=>(l.c7 q (.inr (.inr (.inl e)))).resolve_right I,l.c7,λj=>(dG j).trans (O j),.inr ⟨rfl,congrArg (λk=>k.1.1) l.bg,.inr ?_⟩⟩;unfold a6.fV at y⊢;rw[←al];exact y
  .have am:∀q,bY (g.D.cC 3).jk q->bY g.D q\/Q.heap.size<=q:=by
    rintro q (e|e|e|⟨x,hx,e⟩)
    .exact .inl (.inl e)
    .exact .inl (.inr (.inl e))
    .exact .inl (.inr (.inr (.inl e)))
    .cases hx
   have a0:∀j,(g.D.cC 3).jk.now j=g.D.now j:=λj=>by
    by_cases L:j<g.D.n
    .exact(yN (g.D.cC 3) L).trans (rR g.D 3 j)
    .have F:g.D.jk.now j=g.D.now j:=CP p.raw.dev j
     exact F
   obtain⟨fN,dG⟩:=yP p E rfl ⟨r6 (g.D.cC 3),λ_ h=>h,λj L=>by
    have L:g.D.bL j=true:=L;have e:g.D.dH j=[]:=by rw[l.ng.2];exact ao j (by rw[←l.ng.1];exact L)
    exact e.symm⟩ a0 r am
   refine⟨0,rfl,{g with D:=(g.D.cC 3).jk},fN,l.c,l.d,l.len,(r6 (g.D.cC 3)).trans l.n,l.ng,by show g.D.aQ<=_;omega,λm K=>r7 g.D (l.calm m (gg K I)),cu l.ab r λq o e=>(l.c7 q (.inr (.inr e))).resolve_right I,λq o=>?_,λj=>(dG j).trans (O j),.inl ⟨rfl,rfl,S,?_⟩⟩
   .rcases o with e|e|e
    .exact l.c7 q (.inl e)
    .exact l.c7 q (.inr (.inl e))
    .rcases am q e with e|e
     .exact l.c7 q (.inr (.inr e))
     .exact .inr I
   .show(g.D.cg.set 3 _).getD 3 0=_
    have a_:=p.raw.dev.f4;rw[fm (by rw[df];omega),ig,al]
end
def g6(aZ d c sb:Nat)(l:fB)(u:cZ)(gen now first pending keys:Nat)(failed:ai):O aa:=
 [.pointer (some aZ),.pointer (some d),.pointer (some c),.pointer (some sb),l.an,l.batch,.int .u64 (l.dY:Nat),
  u.root,u.aI,u.map,.int .u64 (u.clock:Nat),.int .u64 (u.bw:Nat),u.keys,
  .int .u64 (gen:Nat),.int .u64 (now:Nat),.int .u64 (first:Nat),pending,keys,failed]
section
variable {w w':J}{D:a6}
structure CQ(D:a6)(l:fB)(u:cZ)(gen sb:Nat)(w:J)(v:aa)(w':J)(c aV aZ st:Nat):Prop where
 val:v=.tuple #[.pointer (some st),(0:Int)]
 ca:ek (λ_=>False) w' (iO c aV l.an D)
 dm:Var w' aZ [.pointer (some c),.pointer (some sb),.int .u64 ((gen+1:Nat):Int),u.root,u.aI] 239
 sv:Var w' st (g6 aZ D.d c sb l u gen u.clock 0 0 u.keys false) 158
 x:Ext w w'
 hc:w.heap.size<=c/\c<aZ
 hf:w.heap.size<=aV/\aV<aZ
 ht:aZ<st
def a6.gn(D:a6)(s:Nat->ai)(z:Nat->O cX):a6:={D with bL:=s,dH:=z}
theorem cx.gn(h:cx w D)(s:Nat->ai)(z:Nat->O cX):cx w (D.gn s z):=⟨h.v,h.l,h.m,h.ws,h.wn,h.sl,h.j_,h.bW,h.bC,h.f4,h.fr,h.a1,h.a2,h.a3⟩
theorem mX(h:cx w D){l:fB}(q:8<=l.an/\l.an<=64){u:cZ}(hu:qo D.n (u.root:Nat) (u.aI:Nat)){gen:Nat}(hg:gen+1<18446744073709551616)(s:∀j,D.bL j=true->D.dB j=D.dH j)(sb:Nat):
 aR aj 78 #[.pointer (some D.d),.agg l.c.toArray,.agg u.c.toArray,.int .u64 (gen:Nat),.pointer (some sb)] w (λv w'=>∃c aV aZ st,CQ D l u gen sb w v w' c aV aZ st):=by
 refine af.Ev _ (l.an:Nat) (l.batch:Nat) (l.dY:Nat) (u.root:Nat) (u.aI:Nat) (u.map:Nat) (u.clock:Nat) (u.bw:Nat) (u.keys:Nat) (gen:Nat) (some sb) w _ ?_;(delta af.mX r1 U dg ak br nQ;dsimp only);refine bh (vs:=l.c) rfl λw1 t i H=>bh (vs:=u.c) rfl λah x b J=>?_;have r:=t.ext b;have y:=h.ext (i.trans b);refine⟨_,r.cell,(pE y q.1 q.2 s).use ?_⟩;rintro _ a ⟨c,aV,rfl,e,f,K,L⟩;have k:=x.ext f;have z:IntKind.wrap .u64 ((gen:Int)+1)=((gen+1:Nat):Int):=by rw[gR I I];omega
 rw[z];have M:(iO c aV l.an D).D=D:=rfl;refine⟨_,0,rfl,λh=>(by cases h),λ_=>⟨_,k.cell,_,by rw[aw];exact k.cell,(nY e.raw sb ((gen+1:Nat):Int) (u.root:Nat) (u.aI:Nat)).use ?_⟩⟩;rintro _ A (⟨_,rfl,g,B,N⟩|⟨C,_⟩)
 rotate_left
 .exact absurd hu C
 have m:=k.ext g;have o:=(r.ext f).ext g;have O:=(i.trans b).size;have P:=f.size;have E:c<a.heap.size:=e.raw.lt (.inl rfl);have F:aV<a.heap.size:=e.raw.lt (.inr (.inl rfl));refine⟨_,0,rfl,λh=>(by cases h),λ_=>⟨_,o.cell,_,by rw[aw];exact o.cell,_,by rw[aw];exact o.cell,gO m ⟨_,by rw[aw];exact m.cell,_,by rw[aw];exact m.cell,(g6 a.heap.size D.d c sb l u gen u.clock 0 0 u.keys false).toArray,by kernel_rfl,bh (vs:=g6 a.heap.size D.d c sb l u gen u.clock 0 0 u.keys false) rfl λQ G p R=>?_⟩⟩⟩;exact⟨c,aV,a.heap.size,A.heap.size,rfl,(e.ext g).ext p,B.ext p,G,Ext.trans (Ext.trans (i.trans b) f) (Ext.trans g p),⟨I,E⟩,⟨I,F⟩,I⟩
def fR(f:Nat->ai)(k:Nat):O UInt8:=(List.range k).map λi=>UInt8.ofNat (byteOf f i)
theorem CR(f:Nat->ai)(k:Nat):aJ (fR f k)=eZ f k:=by
 unfold aJ fR eZ;rw[iz];refine List.map_congr_left λi _=>?_;have:=kg f i;show Value.int .u8 (((UInt8.ofNat (byteOf f i)).toNat:Nat):Int)=_;rw[UInt8.toNat_ofNat',jI this]
theorem oM(f:Nat->ai)(k:Nat):(fR f k).length=k:=by simp[fR]
def kl:cZ:=⟨0,0,2,0,0,0⟩
structure CS(D az:a6):Prop where
 d:az.d=D.d
 n:az.n=D.n
 now:∀j,az.now j=if j=1 then eH 1 (ji kl D.n 1) else if j=2 then eH 2 ⟨4,1,fR (λi=>decide (i<3)) ((D.n+7)/8)⟩ else if j=0 then gB else D.now j
 waits:az.waits=[]
 aQ:az.aQ=D.aQ+4
 calm:∀k,az.calm k
 cg:az.cg.getD 3 0= -1
 bL:az.bL=λi=>decide (i<3)
 dH:az.dH=λ_=> []
structure H2(D:a6)(l:fB)(w:J)(v:aa)(w':J)(az:a6)(sb:Nat)(s1 s2:Y)(c aV aZ st:Nat)(kc:J):Prop where
 CT:CQ az l kl 1 sb kc v w' c aV aZ st
 sp:eX w' sb D.n (λi=>decide (i<3)) (λi=>decide (i<3)) s1 s2
 p2:CS D az
 ab:ad (bY D) w kc
 r8:∀q,fy sb s1 s2 q->w.heap.size<=q/\q<kc.heap.size
 dq:∀q,bY az q->bY D q\/(w.heap.size<=q/\q<kc.heap.size)
 H3:∀q,fy sb s1 s2 q->¬bY az q
theorem nU(h:cx w D){l:fB}(ap:kM (l.an:Nat) (l.batch:Nat) (l.dY:Nat))(bk:∀k,D.calm k)(p8:D.cg.getD 3 0= -1)(b1:D.aQ<=999999000):
 aR aj 19 #[.pointer (some ⟨D.d,0,none⟩),.agg l.c.toArray] w (λv w'=>∃az sb s1 s2 c aV aZ st kc,H2 D l w v w' az sb s1 s2 c aV aZ st kc):=by
 have b2:=h.bW;have b3:=h.bC;refine af.Es _ (l.an:Nat) (l.batch:Nat) (l.dY:Nat) w _ ?_;(delta af.nU r1 U br aO ak aC dg ba cc ky ju av ft;dsimp only);refine bh (vs:=l.c) rfl λw1 Q J b4=>⟨_,Q.cell,_,by rw[aw];exact Q.cell,_,by rw[aw];exact Q.cell,(nW w1 _ _ _ _).use ?_⟩;rintro _ bm ⟨rfl,C⟩;have bn:=h.ext (J.trans C);refine⟨_,rfl,λg=>?_,λ_=>(qb bn).use ?_⟩
 .rw[dP ap]at g;cases g
 rintro _ _ ⟨rfl,rfl⟩;refine⟨_,rfl,(pz bm (D.n:Nat) 3).use ?_⟩;rintro _ b5 (⟨bo,_⟩|⟨_,_,_,_,sb,s1,s2,rfl,hs,aa,ac⟩)
 .exact absurd ⟨I,I,I,I⟩ bo
 rw[dd]at hs;have ae:Int.toNat 3=3:=rfl;rw[ae]at hs;refine⟨_,0,rfl,λh=>(by cases h),λ_=>(BW hs).use ?_⟩;rintro _ bp ⟨aM,rfl,aN,K,b6⟩;rw[←CR]at aN;obtain⟨mp,R⟩:∃mp:ir,mp=⟨4,1,fR (λi=>decide (i<3)) ((D.n+7)/8)⟩:=⟨_,rfl⟩;have aP:m9 mp:=by rw[R];exact⟨(by decide:1<=4),(by decide:4<=4),(by decide:1<18446744073709551616),by show(fR _ _).length<=232;rw[oM];omega⟩
 have aS:=vz (s:=aM) (p:=mp) (no:=2) (w:=bp) (by rw[R];exact aN.src) (by decide) aP;rw[R]at aS;refine⟨aM,rfl,aS.use ?_⟩;rw[←R];rintro _ bq ⟨E,rfl,aT,N,bs⟩;have aU:=Ext.trans (Ext.trans (J.trans C) aa) (Ext.trans K N);have b7:=aU.size;refine⟨E,0,rfl,λh=>(by cases h),λ_=>⟨⟨I,I,I,I⟩,?_⟩⟩;rw[xL];have bt:Int.toNat 256=256:=rfl;rw[bt];have aq:gB.length=256:=mM;refine bh (vs:=aJ gB) rfl λz S F b9=>?_;obtain⟨t,bu⟩:∃t,t=bq.heap.size:=⟨_,rfl⟩;rw[←bu]at S⊢;have ag:=Ext.trans aU F;have aW:Src 1 z ⟨some ⟨t,0,none⟩,256,256⟩ (aJ gB):=S.AR (o:=0) (n:=256) (c:=256) (l:=gB) (by rw[ey,aq];exact bl _) (by rw[lv,dV (by rw[ey,aq];exact bl _)]);refine⟨#[.slice (some ⟨t,0,none⟩) 256 256,.slice (some ⟨t,0,none⟩) 256 256,.slice E.a E.len E.cap],by kernel_rfl,?_⟩;have bv:(eH 2 mp).length=256:=rH _ aP;obtain⟨vals,au⟩:∃vals:Nat->cX,vals=λj=>if j=2 then eH 2 mp else gB:=⟨_,rfl⟩
 have bw:∀j,(vals j).length=256:=λj=>by
  rw[au];show(if j=2 then _ else _:cX).length=256;split
  .exact bv
  .exact aq
 have bx:∀k,k<3->∃G:Y,cellAt #[.slice (some ⟨t,0,none⟩) 256 256,.slice (some ⟨t,0,none⟩) 256 256,.slice E.a E.len E.cap] (Int.toNat ((k:Nat):Int)*1)=some (.slice G.a G.len G.cap)/\Src 1 z G (aJ (vals k))/\∀q,aB G q->w.heap.size<=q/\q<z.heap.size:=by
  intro k aX;have bz:=S.lt;have b_:=F.size;rw[au];have hi:∀q,aB (⟨some ⟨t,0,none⟩,256,256⟩:Y) q->w.heap.size<=q/\q<z.heap.size:=λq b=>by
   obtain⟨A,ar,rfl⟩:=b
   cases ar;show w.heap.size<=t/\t<_;exact⟨I,bz⟩
  have ca:=(Ext.trans (Ext.trans (J.trans C) aa) K).size
  match k,aX with
  |0,_=>exact⟨⟨some ⟨t,0,none⟩,256,256⟩,rfl,aW,hi⟩
  |1,_=>exact⟨⟨some ⟨t,0,none⟩,256,256⟩,rfl,aW,hi⟩
  |2,_=>exact⟨E,rfl,aT.src.ext F,λq b=>by have:=bs q b;have:=aT.lt q b;omega⟩
 have bB:=h.ext ag;refine⟨λn w'=>∃ (k:Nat) (r:a6),n=(k:Int)/\k<=3/\cx w' r/\r.d=D.d/\r.n=D.n/\(∀j,r.now j=if j<k then vals j else D.now j)/\r.aQ=D.aQ+k/\(∀m,r.calm m)/\r.cg.getD 3 0= -1/\ad (bY D) z w'/\(∀q,bY r q->bY D q\/z.heap.size<=q),
  λn _=>((3:Int)-n).toNat,⟨0,D,rfl,cL _,bB,rfl,rfl,λj=>rfl,rfl,bk,p8,.refl _ _,λq b=>.inl b⟩,?_⟩
 rintro _ cb ⟨k,r,rfl,aX,O,ah,aY,a0,bD,ax,ay,ai,L⟩;have cd:=ai.size;refine⟨λaK=>?_,λbE=>?_⟩
 .have aA:k<3:=by
   have:((k:Nat):Int)<3:=b8 aK;omega
  obtain⟨G,bF,bG,a1⟩:=bx k aA;have c9:∀q,aB G q->¬bY D q:=λq b hf=>by have:=(a1 q b).1;have:=h.lt hf;omega
  have a2:=vH O (i:=k) I I (bG.ab ai c9) (bw k) λq b hf=>by
   rcases L q hf with h1|h1
   .exact c9 q b h1
   .have:=(a1 q b).2;omega
  rw[ah]at a2;refine⟨⟨I,I⟩,G,bF,a2.use ?_⟩;rintro _ ce (⟨g,_⟩|⟨g,rfl,s,bH,bI,bJ⟩)
  .have:=(jO (k:=2) (m:=0) (.inr rfl) O.f4 (ax 1)).2
   rw[g]at this;cases this
  refine⟨0,rfl,λh=>(by cases h),λ_=>?_⟩;have bK:IntKind.wrap .i64 (((k:Nat):Int)+1)=((k+1:Nat):Int):=by rw[bA I I];omega
  rw[bK];refine⟨⟨k+1,_,rfl,I,bH,ah,aY,λj=>?_,by show r.aQ+1=_;omega,λm=>(jO (.inr rfl) O.f4 (ax _)).1,(congrArg Prod.snd (qc r (.inr rfl))).trans ay,cu ai bI λq b hf=>(L q hf).resolve_right I,λq b=>?_⟩,by show((3:Int)-((k+1:Nat):Int)).toNat<((3:Int)-((k:Nat):Int)).toNat;omega⟩
  .rw[oC,a0]
   by_cases e:j=k
   .rw[if_pos e,if_pos I,e]
   .rw[if_neg e]
    by_cases T:j<k
    .rw[if_pos T,if_pos I]
    .rw[if_neg T,if_neg I]
  .rcases vZ bJ q b with h1|h1
   .exact L q h1
   .exact .inr I
 have aA:k=3:=by
  have:¬((k:Nat):Int)<3:=cv bE;omega
 subst aA;have hf:=yO O I;rw[ah]at hf;refine hf.use ?_;rintro _ a3 (⟨g,_⟩|⟨_,rfl,aD,bL⟩)
 .unfold a6.fV at g
  rw[ay]at g;cases g
 obtain⟨ct,H⟩:∃ct,ct=(r.cC 3).jk:=⟨_,rfl⟩;rw[←H]at aD;have a4:ct.d=D.d:=by rw[H];exact ah
 have a5:ct.n=D.n:=by rw[H];exact(r6 _).trans aY
 have bM:∀j,ct.now j=if j<3 then vals j else D.now j:=λj=>by
  rw[←a0,H];have aE:r.jk.now j=r.now j:=CP O j;exact aE
 have cf:ct.aQ=D.aQ+3:=by rw[H];exact bD
 have a7:∀m,ct.calm m:=λm=>by rw[H];exact r7 _ (ax m)
 have a8:ct.cg.getD 3 0= -1:=by
  rw[H];show(r.cg.set 3 _).getD 3 0=_;have bN:=O.f4;rw[fm (by rw[df];omega),ig,ay];rfl
 have al:∀q,bY ct q->bY D q\/z.heap.size<=q:=λq b=>by
  rw[H]at b;rcases b with e|e|e|⟨x,hx,e⟩
  .exact L q (.inl e)
  .exact L q (.inr (.inl e))
  .exact L q (.inr (.inr (.inl e)))
  .cases hx
 have am:ad (bY D) z a3:=cu ai bL λq b hf=>(L q hf).resolve_right I;have V:∀q,w.heap.size<=q->¬bY D q:=λq b hf=>by have:=h.lt hf;omega
 have bO:=((Q.ext (C.trans (Ext.trans aa (Ext.trans K (Ext.trans N F))))).ab am (V _ (bl _)));have bP:=(hs.ext (Ext.trans K (Ext.trans N F))).ab am λq b=>V q (by have:=ac q b;have:=(J.trans C).size;omega);refine⟨0,rfl,λh=>(by cases h),λ_=>bh (vs:=gm.c) rfl λch bQ bR ci=>jj bQ rfl kl λbS a9 bT cj=>gO a9 ?_⟩;have W:Ext a3 bS:=Ext.cn bR bT (bl _);have X:=aD.ext W;have a_:=mW X I (u:=kl) ⟨(by decide:0<4294967296),(by decide:0<256),(by decide:2<4294967296),(by decide:0<18446744073709551616),(by decide:0<18446744073709551616),(by decide:0<4294967296)⟩ (gen:=1) (by decide);rw[a4]at a_;refine a_.use ?_;have ck:=W.size;have cl:=am.size;rintro _ bb ⟨ao,⟨g,_⟩|⟨_,s,bU,f,B,⟨g,_⟩|⟨_,rfl,Z⟩⟩⟩
 .have:=(jO (k:=2) (m:=0) (.inr rfl) X.f4 (a7 1)).2
  rw[g]at this;cases this
 .have aF:f.cg.getD 3 0= -1:=by rw[B];exact(congrArg Prod.snd (qc ct (.inr rfl))).trans a8
  unfold a6.fV at g;rw[aF]at g;cases g
 have aF:f.cg.getD 3 0= -1:=by rw[B];exact(congrArg Prod.snd (qc ct (.inr rfl))).trans a8
 obtain⟨M,y⟩:∃M,M=((f.cC 3).jk).gn (λi=>decide (i<3)) (λ_=> []):=⟨_,rfl⟩;have Z:=Z.gn (λi=>decide (i<3)) (λ_=> []);rw[←y]at Z;have bV:∀x∈f.waits,x.i<f.n:=λx hx=>by
  rw[B]at hx⊢;rcases cU.1 hx with rfl|hx
  .show 1%2<ct.n;omega
  .exact(X.wn x (hK.1 hx).1).2.1
 have bX:∀j,M.now j=if j=1 then eH 1 (ji kl D.n 1) else if j<3 then vals j else D.now j:=λj=>by
  have aE:M.now j=f.now j:=by
   rw[y];by_cases bc:j<f.n
   .exact(yN (f.cC 3) bc).trans (rR f 3 j)
   .have P:f.now j=[]:=by
     unfold a6.now
     cases hf:f.waits.find? λx=>x.i==j with
     |some x=>
      have hx:=jH hf;have he:x.i=j:=by simpa using ko hf
      have:=bV x hx;omega
     |none=>
      have:¬j<f.bg.length:=bc;show f.bg.getD j []=[];rw[fC,kp I];rfl
    rw[P];show((List.range (f.cC 3).n).map (f.cC 3).now).getD j []=[];rw[fC,kp (by simp;show f.n<=j;omega)];rfl
  rw[aE,B,oC,bM,a5]
 have aG:CS D M:=by
  refine⟨by rw[y,B];exact a4,by rw[y];exact(r6 (f.cC 3)).trans (by rw[B];exact a5),λj=>?_,by rw[y];rfl,by rw[y,B];show ct.aQ+1=_;omega,λm=>by rw[y,B];exact r7 (ct.put (1%2) s (eH (1%2) (ji kl ct.n 1))) (jO (.inr rfl) X.f4 (a7 _)).1,?_,by rw[y];rfl,by rw[y];rfl⟩
  .rw[bX,au,←R]
   by_cases P:j=1
   .rw[if_pos P,if_pos P]
   .rw[if_neg P,if_neg P]
    by_cases T:j=2
    .subst T;rfl
    .by_cases ae:j=0
     .subst ae;rfl
     .rw[if_neg I,if_neg T,if_neg ae]
  .rw[y]
   show(f.cg.set 3 _).getD 3 0=_;have bN:f.cg.length=4:=by rw[B];show(ct.cg.set 2 _).length=4;rw[df];exact X.f4
   rw[fm (by rw[df];omega),ig,aF];rfl
 have bd:∀q,bY M q->bY D q\/z.heap.size<=q:=λq b=>by
  rw[y]at b;have h1:bY f q:=by
   rcases b with e|e|e|⟨x,hx,e⟩
   .exact .inl e
   .exact .inr (.inl e)
   .exact .inr (.inr (.inl e))
   .cases hx
  rw[B]at h1;rcases vZ bU q h1 with h2|h2
  .exact al q h2
  .exact .inr I
 have be:ad (bY D) z bb:=cu (cu am W λq _ h=>h.elim) ao λq b hf=>(al q hf).resolve_right I;have aH:=(bO.ext W).ab ao λhf=>by
  rcases al _ hf with h1|h1
  .exact V _ (bl _) h1
  .have:=ag.size;have:=S.lt;have:=Q.lt;have:=C.size;have:=aa.size;have:=K.size;have:=N.size;have:=F.size;omega
 have bZ:=a9.ab ao λhf=>by
  have:=aD.lt hf;omega
 have bf:=(bP.ext W).ab ao λq b hf=>by
  have bi:=ac q b;have aI:=(hs.ext (Ext.trans K (Ext.trans N (ad.refl _ _)))).lt q b;rcases al _ hf with h1|h1
  .exact V q (by have:=(J.trans C).size;omega) h1
  .have:=F.size;omega
 have cm:=be.size;have S:=ag.size;have bj:=mX Z (l:=l) (u:=kl) (gen:=1) ⟨by have:=ap.1;omega,by have:=ap.2.1;omega⟩ ⟨by decide,by decide,by decide,by rw[aG.n];show(0:Int)<_;omega,by decide⟩ (by decide) (λj _=>by rw[y];rfl) sb;rw[aG.d]at bj;refine⟨0,rfl,λh=>(by cases h),λ_=>⟨_,aH.cell,_,by rw[aw];exact aH.cell,_,by rw[aw];exact aH.cell,gO bZ (bj.use ?_)⟩⟩;rintro _ co ⟨c,aV,aZ,st,aL⟩;have b0:=aL.val;subst b0;refine⟨_,0,rfl,M,sb,s1,s2,c,aV,aZ,st,bb,aL,bf.ext aL.x,aG,cu (ag.mono λ_ _ h=>h.elim) be λq _ h=>h,λq b=>?_,λq b=>?_,λq b hf=>?_⟩
 .have bi:=ac q b
  have aI:=bf.lt q b;have:=(J.trans C).size;exact⟨I,aI⟩
 .rcases bd q b with h1|h1
  .exact .inl h1
  .exact .inr ⟨I,Z.lt b⟩
 .have bi:=ac q b
  have aI:=(hs.ext (Ext.trans K (Ext.trans N (ad.refl _ _)))).lt q b;rcases bd _ hf with h1|h1
  .exact V q (by have:=(J.trans C).size;omega) h1
  .have:=F.size;omega
end
theorem gh.rising{T:aN}{pages:O Nat}{L:O aH}(h:gh T pages L):gK L:=by
 rcases h with ⟨_,_,_,a⟩|b
 .rw[a];exact List.Pairwise.nil
 .exact b.fb.1
section
variable {w0 w w':J}{v7 aS:Nat}{T ao:aN}{r h k:Nat}{pages:O Nat}{L cW:O aH}{ms:Y}
theorem bJ.jA{iQ:Nat}(ht:bJ w T)(a:T.E iQ)(hc:ad (λq=>q=iQ) w w'):bJ w' T:=
 ht.grow (E:=T.E) (G:=T.G) hc (λq e _=>.inl (by rw[e];exact a)) (λq a=>.inl a) (λq a=>.inr (.inl a)) λq a=>(ht.c8 q a).2.2
end
def aN.v8(T:aN)(f g:Nat->ai)(s1 s2:Y):aN:={T with f:=f,g:=g,s1:=s1,s2:=s2}
def aN.b1(T:aN)(aZ gen root aI:Nat)(E:Nat->Prop):aN:={T with aZ:=aZ,gen:=gen,root:=root,aI:=aI,E:=E}
section
variable {w0 w w':J}{v7 aS:Nat}{T ao:aN}{r h k:Nat}{pages:O Nat}{L cW:O aH}{ms:Y}
theorem bJ.space{f g:Nat->ai}{s1 s2:Y}(ht:bJ w T)(hs:eX w' T.sb T.n f g s1 s2)(hc:ad (fy T.sb T.s1 T.s2) w w')(hf:∀k,fy T.sb s1 s2 k->fy T.sb T.s1 T.s2 k\/w.heap.size<=k)(d:∀j,T.C.D.bL j=true->g j=true\/T.C.D.ro)(e:g 0=true/\g 1=true):
 bJ w' (T.v8 f g s1 s2)/\∀q,(T.v8 f g s1 s2).M q->T.M q\/w.heap.size<=q:=by
 have c:∀q,T.X q->¬fy T.sb T.s1 T.s2 q->¬fy T.sb s1 s2 q:=λq hx a h2=>by
  rcases hf q h2 with b|b
  .exact a b
  .have:=ht.lt (q:=q) (.inr hx);omega
 refine⟨⟨ht.t.ab hc ht.jx,hs,ht.ca.grow hc (λq a _=>.inr (.inl a)) λq a=>?_,c _ (.inl rfl) ht.jx,λq a=>⟨(ht.c8 q a).1,c q (.inr (.inr (.inl a))) (ht.c8 q a).2.1,(ht.c8 q a).2.2⟩,λq a=>⟨(ht.hD q a).1,c q (.inr (.inr (.inr a))) (ht.hD q a).2⟩,ht.n,ht.num,ht.eo,d,e⟩,λq a=>?_⟩
 .rcases a with a|a|a|a
  .exact .inl (.inl a)
  .rcases hf q a with b|b
   .exact .inl (.inr (.inl b))
   .exact .inr ⟨b,hs.lt q a⟩
  .exact .inl (.inr (.inr (.inl a)))
  .exact .inl (.inr (.inr (.inr a)))
 .rcases a with a|a|a|a|a
  .exact .inl (.inl a)
  .exact .inl (.inr (.inl a))
  .exact(hf q a).imp (λh=>.inr (.inr (.inl h))) id
  .exact .inl (.inr (.inr (.inr (.inl a))))
  .exact .inl (.inr (.inr (.inr (.inr a))))
theorem bJ.tree{aZ gen root aI:Nat}{E:Nat->Prop}(ht:bJ w T)(hx:Ext w w')(g:Var w' aZ (k_ (T.b1 aZ gen root aI E)) 239)(c:T.E aZ\/w.heap.size<=aZ)(d:∀q,E q->q≠aZ/\(T.E q\/q=T.aZ\/(w.heap.size<=q/\q<w'.heap.size)))
 (i:root<T.n/\aI<=12/\gen<18446744073709551616) (j:∀no bj,T.P no=some bj->no<T.n/\gN gen bj.leaf no (T.C.view no) bj):bJ w' (T.b1 aZ gen root aI E):=by
 have l:=g.lt;have h1:¬fy T.sb T.s1 T.s2 aZ:=λh=>by
  rcases c with h2|h2
  .exact(ht.c8 _ h2).2.1 h
  .have:=ht.lt (q:=aZ) (.inr (.inr (.inl h)));omega
 have h2:∀q,T.G q->q≠aZ:=λq a e=>by
  rcases c with h2|h2
  .rw[e]at a;exact(ht.c8 _ h2).2.2 a
  .have:=ht.lt (q:=q) (.inr (.inr (.inr (.inr a))));omega
 have k:∀q,E q->¬fy T.sb T.s1 T.s2 q/\¬T.G q:=λq a=>by
  rcases(d q a).2 with b|b|b
  .exact(ht.c8 q b).2
  .rw[b]
   exact⟨ht.jx,λhg=>(ht.hD _ hg).1 rfl⟩
  .exact⟨λf=>by have:=ht.lt (q:=q) (.inr (.inr (.inl f)));omega,λf=>by have:=ht.lt (q:=q) (.inr (.inr (.inr (.inr f))));omega⟩
 refine⟨g,ht.s.ext hx,ht.ca.grow (W:=λ_=>False) hx (λ_ h=>h.elim) λq a=>?_,h1,λq a=>⟨(d q a).1,k q a⟩,λq a=>⟨h2 q a,(ht.hD q a).2⟩,ht.n,i,j,ht.bL,ht.low⟩;rcases a with a|a|a|a
 .have a:q=aZ:=a
  rcases c with b|b
  .exact .inl (.inr (.inr (.inl (by rw[a];exact b))))
  .exact .inr ⟨I,I⟩
 .exact .inl (.inr (.inl a))
 .rcases(d q a).2 with b|b|b
  .exact .inl (.inr (.inr (.inl b)))
  .exact .inl (.inl b)
  .exact .inr b
 .exact .inl (.inr (.inr (.inr a)))
theorem gh.agree{p:O Nat}(a:gh T p L)(b:ao.root=T.root)(c:ao.aI=T.aI)(d:∀x∈p,T.P x=ao.P x):gh ao p L:=by
 unfold gh at a⊢;rw[b,c];exact a.imp id λe=>(e.agree d).1
end
theorem ej.node{P:Nat->aq aD}:∀ (h:Nat) {lo hi:aq Key}{no:Nat}{p:O Nat}{L:O aH},ej P h lo hi no p L->∀x∈p,∃bj,P x=some bj
 |0,_,_,_,_,_,a=>a.elim
 |h+1,_,_,no,p,_,a=>by
  obtain⟨n,d,h1,_,_,rfl,_,hc⟩:=a.Cz
  intro x hx
  rcases cU.1 hx with rfl|hx
  .exact⟨n,h1⟩
  .rcases hc with ⟨_,_,rfl,_⟩|⟨_,ps,e,f,g,rfl,_,he⟩
   .cases hx
   .obtain⟨l,b,c⟩:=List.mem_flatten.1 hx
    obtain⟨i,hi,rfl⟩:=fi b
    exact ej.node h (he i I hi I) x c
theorem bJ.H4{w:J}{T:aN}{pages:O Nat}{L:O aH}(ht:bJ w T)(b:gh T pages L){x:Nat}(hx:x∈pages):¬jT T x:=by
 rintro⟨_,e,h2⟩;rcases b with ⟨_,_,a,_⟩|c
 .rw[a]at hx;cases hx
 .obtain⟨bj,a⟩:=c.node _ x hx
  obtain⟨_,p,au,_⟩:=ht.eo x bj a;rw[h2]at au;cases au
theorem yQ(f:Nat->ai):∀ (n:Nat) (x:Int),x∈jP f n↔∃k:Nat,x=(k:Int)/\k<n/\f k=true
 |0,x=>by simp[jP]
 |n+1,x=>by
  rw[jP,cT,yQ f n x]
  constructor
  .rintro(⟨k,h1,h2,a⟩|h)
   .exact⟨k,h1,I,a⟩
   .split at h
    .exact⟨n,ff.1 h,I,by assumption⟩
    .cases h
  .rintro⟨k,h1,h2,a⟩
   rcases dO k n with b|b
   .exact .inl ⟨k,h1,b,a⟩
   .have:k=n:=by omega
    subst this
    right
    rw[if_pos a,h1];simp
theorem yR(f:Nat->ai):∀n,(jP f n).Pairwise λa b=>a<b
 |0=>List.Pairwise.nil
 |n+1=>by
  rw[jP]
  refine mH.2 ⟨yR f n,by split<;>simp,λa d b c=>?_⟩
  obtain⟨k,h1,h2,_⟩:=(yQ f n a).1 d
  split at c
  .have:=ff.1 c;omega
  .cases c
theorem H5{f:Nat->ai}{n:Nat}{es:O Nat}(h1:es.Pairwise λa b=>a<b)(h2:∀x,x∈es↔x<n/\f x=true):ee es=mo f n:=by
 have e:(es.map λd=>((d:Nat):Int)).Perm (jP f n):=by
  refine(List.perm_ext_iff_of_nodup ?_ ?_).2 λx=>?_
  .exact List.Pairwise.map _ (λa b g=>by show((a:Nat):Int)≠((b:Nat):Int);omega) h1
  .exact(yR f n).imp λh=>by omega
  .rw[yQ,eC]
   constructor
   .rintro⟨k,c,rfl⟩
    exact⟨k,rfl,(h2 k).1 c⟩
   .rintro⟨k,rfl,c⟩
    exact⟨k,(h2 k).2 c,rfl⟩
 have he:(es.map λd=>((d:Nat):Int))=jP f n:=by
  refine e.eq_of_pairwise (le:=λx y=>x<=y) (λx y _ _ h1 h2=>I) ?_ ((yR f n).imp λh=>I);exact List.Pairwise.map _ (λa b g=>by show((a:Nat):Int)<=((b:Nat):Int);omega) h1
 rw[yC,he];rfl
section
variable {w0 w w':J}{v7 aS:Nat}{T ao:aN}{r h k:Nat}{pages:O Nat}{L cW:O aH}{ms:Y}
theorem CU{s:Y}(h:mU aj w 5 s):∃l:O UInt8,Src 1 w s (aJ l):=by
 obtain⟨l,h1,_,_⟩:=h.src (c:=λc:UInt8=> [Value.int .u8 (c.toNat:Int)]) (sz:=1) (by kernel_rfl) (λ_=>True) λfuel us b=>by
  obtain⟨n,rfl,h2,d⟩:=q2 b (k:=.u8) (by kernel_rfl);have g:=wU h2 d;refine⟨UInt8.ofNat n.toNat,?_,trivial⟩;simp only[UInt8.toNat_ofNat']
  congr 2
  omega
 have e:∀l:O UInt8,(l.map λc:UInt8=> [Value.int .u8 (c.toNat:Int)]).flatten=aJ l:=λl=>by
  unfold aJ
  induction l with
  |nil=>rfl
  |cons a l f=>rw[jm,su,f];rfl
 rw[e]at h1;exact⟨l,h1⟩
end
structure gP(V:Nat->cX)(n gen:Nat)(u:cZ)(g:Nat->ai)(P:Nat->aq aD)(p:O Nat)(L:O aH):Prop where
 fr:∃j,j<n/\g j=false
 v_:gV ((gen%2:Nat):Int) (V (gen%2))=.ok (u,n,gen)
 yS:V (1-gen%2)=gB\/∃a g',gV ((1-gen%2:Nat):Int) (V (1-gen%2))=.ok (a,n,g')/\g'<gen
 mp:∃fz,fz<=gen/\dQ (u.map:Int) (V u.map)=.ok ⟨4,fz,fR g ((n+7)/8)⟩
 g:∀no,g no=true↔no∈p\/no<2\/no=u.map
 bj:p.Nodup
 two:∀x∈p,2<=x/\x≠u.map/\x<n
 ok:(u.aI=0/\u.root=0/\p=[]/\L=[])\/ej P u.aI none none u.root p L
 eo:∀x∈p,∀bj,P x=some bj->gN gen bj.leaf x (V x) bj
 keys:u.keys=L.length
 fQ:∀q∈L,cw q.1/\q.2.length<=24
 yT:nt u
 qp:kk u n
 CV:u.bw+1<=gen
theorem gP.agree{V a:Nat->cX}{n gen:Nat}{u:cZ}{g:Nat->ai}{P P':Nat->aq aD}{p:O Nat}{L:O aH}(h:gP V n gen u g P p L)(dR:∀j,g j=true->a j=V j)(b:∀x∈p,P x=P' x):gP a n gen u g P' p L:=by
 have h0:a (gen%2)=V (gen%2):=dR _ ((h.g _).2 (.inr (.inl I)));have h1:a (1-gen%2)=V (1-gen%2):=dR _ ((h.g _).2 (.inr (.inl I)));refine⟨h.fr,by rw[h0];exact h.v_,by rw[h1];exact h.yS,by rw[dR _ ((h.g _).2 (.inr (.inr rfl)))];exact h.mp,h.g,h.bj,h.two,h.ok.imp id λc=>(c.agree b).1,λx hx bj d=>?_,h.keys,h.fQ,h.yT,h.qp,h.CV⟩;rw[dR _ ((h.g _).2 (.inl hx))];exact h.eo x hx bj (by rw[b x hx];exact d)
structure bZ where
 st:Nat
 T:aN
 l:fB
 u:cZ
 gen:Nat
 now:Nat
 first:Nat
 pending:Nat
 keys:Nat
 failed:ai
def bZ.V(S:bZ)(j:Nat):cX:=S.T.C.D.bg.getD j []
def bZ.cells(S:bZ):O aa:=g6 S.T.aZ S.T.C.D.d S.T.C.c S.T.sb S.l S.u S.gen S.now S.first S.pending S.keys S.failed
structure gi(w:J)(S:bZ)(aG:O Nat)(aM:O aH):Prop where
 v:Var w S.st S.cells 158
 t:bJ w S.T
 es:S.T.E S.st
 fo:gP S.V S.T.n S.gen S.u S.T.g S.T.P aG aM
 gen:S.T.gen=S.gen+1
 num:S.now<18446744073709551616/\S.first<=S.now/\S.u.bw+1<=S.gen/\S.gen+2<18446744073709551616/\S.l.batch<=1000/\S.l.dY<=1048576/\1<=S.l.batch
 bL:∀j,S.T.g j=true->S.T.C.D.bL j=true
structure c_(w:J)(S:bZ)(pages:O Nat)(L:O aH)(aG:O Nat)(aM:O aH):Prop extends gi w S aG aM where
 ok:gh S.T pages L
 bj:pages.Nodup
 f:∀no,S.T.f no=true↔no∈pages\/no<2\/no=S.u.map
 two:∀x∈pages,2<=x/\x≠S.u.map
 fQ:∀p∈L,cw p.1/\p.2.length<=24
 keys:S.keys=L.length
 c0:S.pending<=1000
 live:S.failed=false->¬S.T.C.D.ro/\S.T.C.D.dH=(λ_=> [])/\1<=cl S.T
 dead:S.failed=true->S.T.C.D.ro/\L=aM/\pages=aG/\S.pending=0
def a6.quiet(D:a6):Prop:=(∀k,D.calm k)/\D.cg.getD 3 0= -1
def bZ.W(S:bZ)(q:Nat):Prop:=S.T.M q/\(S.T.E q->q=S.st)
structure c6(k:Nat)(S ax:bZ)(w w':J):Prop where
 st:ax.st=S.st
 d:ax.T.C.D.d=S.T.C.D.d
 n:ax.T.n=S.T.n
 l:ax.l=S.l
 aQ:ax.T.C.D.aQ<=S.T.C.D.aQ+k
 q:S.T.C.D.quiet->ax.T.C.D.quiet
 ab:ad S.W w w'
 c7:∀q,ax.T.M q->S.T.M q\/w.heap.size<=q
 E:ax.T.E=S.T.E
 G:ax.T.G=S.T.G
section
variable {w w':J}{C:b5}{X:Nat->Prop}{T:aN}{S ax:bZ}{pages aG:O Nat}{L aM:O aH}
theorem gi.lS(h:gi w S aG aM){q:Nat}(a:S.T.N q):S.W q:=⟨aN.gl a,λhe=>absurd a (h.t.jf he)⟩
theorem gi.wa(h:gi w S aG aM):S.W S.st:=⟨.inr (.inr (.inr (.inl h.es))),λ_=>rfl⟩
theorem c6.back{k q:Nat}(h:c6 k S ax w w')(b:q<w.heap.size)(a:ax.W q):S.W q:=⟨(h.c7 q a.1).resolve_right I,λhe=>(a.2 (by rw[h.E];exact he)).trans h.st⟩
theorem ek.gn(h:ek X w C){s:Nat->ai}{z:Nat->O cX}(hc:∀f∈C.an,∀j:Nat,f.full=true->f.no=j->s j=true->f.fW=false)(b:∀j,s j=true->C.D.dB j=z j):
 ek X w {C with D:=C.D.gn s z}:=
 ⟨⟨h.raw.v,h.raw.f,h.raw.dev.gn s z,h.raw.bG,h.raw.bI,h.raw.hd,h.raw.a1⟩,h.inv.pins,λf hf a=>by
  obtain⟨no,au,ay,c,d,e,i,g⟩:=h.inv.ok f hf a
  exact⟨no,au,ay,c,d,e,λhs=>hc f hf no a au hs,g⟩,h.inv.un,h.inv.e6,b⟩
theorem bJ.gn(h:bJ w T){s:Nat->ai}{z:Nat->O cX}(hc:∀f∈T.C.an,∀j:Nat,f.full=true->f.no=j->s j=true->f.fW=false)(a:∀j,s j=true->T.C.D.dB j=z j)(hs:∀j,s j=true->T.g j=true\/∀i,s i=true):
 bJ w (T.bm {T.C with D:=T.C.D.gn s z} T.P):=⟨h.t,h.s,h.ca.gn hc a,h.jx,h.c8,h.hD,h.n,h.num,h.eo,hs,h.low⟩
theorem H6(h:ek X w C){j:Nat}(hs:C.D.bL j=true):C.view j=C.D.now j:=by
 unfold b5.view
 cases hf:C.an.find? λf=>f.full&&f.no==(j:Int) with
 |none=>rfl
 |some f=>
  have h1:=ko hf;have h2:=jH hf;simp only[er,kn]at h1;obtain⟨no,au,ay,c,d,a,b,e⟩:=h.inv.ok f h2 h1.1;have:no=j:=by omega
  subst this;exact a (b hs)
theorem H7(h:ek X w C){j:Nat}(hs:C.D.bL j=true)(a:C.D.dH j=[]):C.view j=C.D.bg.getD j []:=by
 rw[H6 h hs,vG _ (λx hx=>(h.raw.dev.wn x hx).1),if_pos (by rw[h.inv.ke j hs,a])]
theorem c_.view(h:c_ w S pages L aG aM)(a:S.failed=false){j:Nat}(b:S.T.g j=true):S.T.C.view j=S.V j:=
 H7 h.t.ca (h.bL j b) (by rw[(h.live a).2.1])
theorem gi.H8(h:gi w S aG aM):qo S.T.C.D.n (S.u.root:Nat) (S.u.aI:Nat):=by
 obtain⟨h1,h2,a,_⟩:=h.fo.qp;rw[h.t.n];exact⟨I,I,I,I,I⟩
theorem gi.set(h:gi w S aG aM){i:Nat}{x:aa}(hi:i<19):(∃u:aa,w.cell? ⟨S.st,i,none⟩=some u)/\w.frozen? ⟨S.st,i,none⟩=false/\
 Var (w.setCell ⟨S.st,i,none⟩ x) S.st (S.cells.set i x) 158/\bJ (w.setCell ⟨S.st,i,none⟩ x) S.T/\ad (λq=>q=S.st) w (w.setCell ⟨S.st,i,none⟩ x):=by
 obtain⟨au,ay⟩:=dI h.v (i:=i) (by exact hi);exact⟨au,ay,dN h.v (i:=i) x,h.t.jA h.es (dk w S.st i x),dk w S.st i x⟩
end
structure H9(S ax:bZ):Prop where
 u:ax.u=S.u
 gen:ax.gen=S.gen
 now:ax.now=S.now
 failed:ax.failed=true
 V:ax.T.C.D.bg=S.T.C.D.bg
 sa:∀j,ax.T.C.D.dH j=S.T.C.D.dB j
 aQ:ax.T.C.D.aQ=S.T.C.D.aQ
section
variable {w w':J}{C:b5}{X:Nat->Prop}{T:aN}{S ax:bZ}{pages aG:O Nat}{L aM:O aH}
theorem CW(h:gi w S aG aM)(e:Int)(cE:S.T.C.D.aQ<=900000000):
 aR aj 81 #[.pointer (some S.st),e] w (λv w'=>v=e/\∃ax,c_ w' ax aG aM aG aM/\c6 0 S ax w w'/\H9 S ax):=by
 refine okF (af.tZ (some S.st) e) aA.tZ func81 ?_;(delta af.tZ st aU ba ak aL r1 aO av br dg;dsimp only);have aP:=h.H8;obtain⟨au,ay,a4,cG,bz⟩:=h.set (i:=18) (x:=true) (by decide);refine⟨_,rfl,by rw[aw];exact au,by rw[aw];exact ay,aW ?_⟩;rw[aw,cy];obtain⟨bB,bC⟩:=dI a4 (i:=16) (by simp[bZ.cells,g6]);have aS:=dN a4 (i:=16) (0:Int);have ac:=bz.trans (dk _ S.st 16 (0:Int));refine⟨_,rfl,by rw[aw];exact bB,by rw[aw];exact bC,aW ?_⟩;rw[aw,cy];generalize cH:(w.setCell ⟨S.st,18,none⟩ true).setCell ⟨S.st,16,none⟩ (0:Int)=bD at aS ac⊢;have ag:=h.t.jA h.es ac;have cI:=ac.size;refine⟨_,rfl,_,by rw[aw];exact aS.cell,(GC ag.s).use ?_⟩;rintro _ bE ⟨rfl,s1,bF,ah,bH⟩;have cJ:=ah.size;obtain⟨ai,a5⟩:=ag.space bF ah bH ag.bL ag.low;have a7:=aS.ab ah (h.t.c8 _ h.es).2.1;obtain⟨gJ,B⟩:∃gJ,gJ=S.T.v8 S.T.g S.T.g s1 S.T.s2:=⟨_,rfl⟩;rw[←B]at ai a5;have aT:gJ.C=S.T.C:=by rw[B];rfl
 have bK:gJ.E=S.T.E:=by rw[B];rfl
 have bM:gJ.g=S.T.g:=by rw[B];rfl
 have bN:gJ.P=S.T.P:=by rw[B];rfl
 have bO:gJ.n=S.T.n:=by rw[B];rfl
 have bP:gJ.sb=S.T.sb:=by rw[B];rfl
 have bQ:gJ.G=S.T.G:=by rw[B];rfl
 have bR:gJ.gen=S.T.gen:=by rw[B];rfl
 have bS:gJ.f=S.T.g:=by rw[B];rfl
 have bT:∀q,gJ.M q->S.T.M q\/w.heap.size<=q:=λq k=>(a5 q k).imp id λh=>by omega
 have cK:∀ (w':J),Var w' S.st ((S.cells.set 18 true).set 16 (0:Int)) 158->w'.cell? ⟨S.st,2,none⟩=some (.pointer (some S.T.C.c)):=λw' aV=>aV.cell;refine⟨rfl,_,rfl,_,by rw[aw];exact a7.cell,?_⟩;have a8:=CO ai.ca.raw;rw[aT]at a8;refine a8.use ?_;rintro _ al ⟨s,zs,rfl,bU,aX,am,bV⟩;have cM:=am.size
 have bW:∀z∈zs,∃no:Nat,z=(no:Int)/\S.T.g no=false:=λz K=>by
  have:=aX.mem_iff.1 K;unfold jz at this;obtain⟨f,hf,rfl⟩:=eC.1 this;obtain⟨bX,a9⟩:=hK.1 hf;have a_:f.full=true/\f.fW=true:=by unfold Fr.gW at a9;simpa using a9
  obtain⟨no,bG,bI,ao,ap,bb,bY⟩:=h.t.ca.inv.ok f bX a_.1;refine⟨no,bG,?_⟩
  cases hg:S.T.g no with
  |false=>rfl
  |true=>
   have:=bY (h.bL no hg);rw[a_.2]at this;cases this
 have cN:zs.length<=64:=by
  rw[aX.length_eq];unfold jz;rw[dU];exact eK (nA _ _) h.t.ca.raw.bI
 have aY:=ai.ext am;obtain⟨P',a0⟩:∃P':Nat->aq aD,P'=λno=>if S.T.g no=true then S.T.P no else none:=⟨_,rfl⟩
 obtain⟨b0,_⟩:=aY.qf (P:=P') aY.ca (eI.refl gJ.C al) (λno bj p=>by
  rw[a0]at p;dsimp only at p;by_cases hg:S.T.g no=true
  .rw[if_pos hg]at p
   exact aY.eo no bj (by rw[bN];exact p)
  .rw[if_neg hg]at p;cases p)
 have b2:∀q,aB s q->¬c4 S.T.C q:=λq k hf=>by
  have:=bV q k;have:=ai.lt (q:=q) (.inl (by rw[aT];exact hf));omega
 refine⟨s,rfl,λn16 m=>∃ (i:Nat) (aF:b5),n16=(i:Nat)/\i<=zs.length/\bJ m (gJ.bm aF P')/\eI S.T.C aF al m 0/\aF.D=S.T.C.D/\(∀j,S.T.g j=true->aF.view j=S.T.C.view j)/\(∀f∈aF.an,f.full=true->f∈S.T.C.an/\∀z∈zs.take i,f.no≠z)/\bd 1 3 m s (zs.map encZ)/\(∀q,aB s q->¬c4 aF q),
  λn16 _=>((zs.length:Int)-n16).toNat,⟨0,S.T.C,rfl,cL _,by rw[←aT];exact b0,.refl _ _,rfl,λ_ _=>rfl,λf hf _=>⟨hf,λz K=>(by simp at K)⟩,bU,b2⟩,?_⟩
 rintro _ m ⟨i,aF,rfl,hi,U,N,F,b3,bc,az,be⟩;have cO:s.len=zs.length:=by have:=az.1;rw[dU]at this;omega
 have b4:∀ (w':J),ad (c4 S.T.C) al w'->Var w' S.st ((S.cells.set 18 true).set 16 (0:Int)) 158:=λw' hc=>(a7.ext am).ab hc λhf=>(h.t.ca.inv.e6 _ (.inr (.inr (.inl h.es)))).2 hf;have bf:=b4 _ N.ab;refine⟨λL=>?_,λL=>?_⟩
 .have L:(i:Int)<(s.len:Int):=b8 L
  have aC:i<zs.length:=by omega
  obtain⟨A,ar,b6⟩:∃a:ae,s.a=some a/\m.cell? (a.add (Int.toNat (i:Int)*1))=some (.int .i64 zs[i]):=by
   obtain⟨b,c,L,_,_,_,_,b7,_⟩:=az.cell (i:=i) (v:=encZ zs[i]) (by rw[lu,dE aC];rfl);exact⟨_,L,by rw[dd,aw,cy,fG];exact b7⟩
  obtain⟨no,bh,b9⟩:=bW _ (cF aC);refine⟨A,ar,⟨I,L⟩,zs[i],b6,_,rfl,_,by rw[aw];exact bf.cell,?_⟩;have bi:=BH U.ca no;rw[bh];have X:aF.c=S.T.C.c:=N.c;have b_:(gJ.bm aF P').C.c=S.T.C.c:=X;rw[b_]at bi;refine bi.use ?_;rintro _ cP ⟨⟨b,rfl⟩,bk,cb,aE,aV,cc,cd⟩;have bo:∀j,S.T.g j=true->bk.view j=aF.view j:=λj Y=>aV j λe=>by rw[e,b9]at Y;cases Y
  obtain⟨ce,_⟩:=U.qf (P:=P') cb aE (λj bj p=>by
   obtain⟨bn,bp⟩:=U.eo j bj p;have cg:S.T.g j=true:=by
    cases hg:S.T.g j with
    |true=>rfl
    |false=>rw[a0]at p;simp[hg]at p
   rw[bo j cg];exact⟨bn,bp⟩)
  have ch:((zs.length:Int)-((i+1:Nat):Int)).toNat<((zs.length:Int)-(i:Int)).toNat:=by omega
  have bq:IntKind.wrap .i64 ((i:Int)+1)=((i+1:Nat):Int):=by rw[bA I I];omega
  have ci:=az.ab aE.ab λq k hf=>be q k hf;refine⟨b,rfl,⟨i+1,bk,bq,aC,ce,(N.trans aE).mono (bl _),cc.trans F,λj Y=>(bo j Y).trans (b3 j Y),λf hf O=>?_,ci,λq k hf=>?_⟩,by rw[bq];exact ch⟩
  .obtain⟨bG,bI⟩:=cd f hf O
   obtain⟨ao,ap⟩:=bc f bG O;refine⟨ao,λz K=>?_⟩;rw[iU aC,cT,ff]at K;rcases K with K|rfl
   .exact ap z K
   .rw[bh];exact bI
  .rcases aE.c7 q hf with h1|h1
   .exact be q k h1
   .have:=bd.lt az q k;omega
 have L:¬(i:Int)<(s.len:Int):=cv L;obtain rfl:i=zs.length:=by omega
 have cj:∀f∈aF.an,f.full=true->f.fW=false:=λf hf O=>by
  obtain⟨bG,bI⟩:=bc f hf O
  cases hd:f.fW with
  |false=>rfl
  |true=>
   refine absurd rfl (bI f.no ?_);rw[iV];refine aX.mem_iff.2 (eC.2 ⟨f,hK.2 ⟨bG,?_⟩,rfl⟩);unfold Fr.gW;rw[O,hd];rfl
 have X:aF.c=S.T.C.c:=N.c;obtain⟨fk,y⟩:∃fk,fk=gJ.bm aF P':=⟨_,rfl⟩;rw[←y]at U;have f1:fk.C=aF:=by rw[y];rfl
 have f2:fk.E=S.T.E:=by rw[y];exact bK
 have f3:fk.g=S.T.g:=by rw[y];exact bM
 have f4:fk.P=P':=by rw[y];rfl
 have f5:fk.n=S.T.n:=by rw[y];exact bO
 have f6:fk.sb=S.T.sb:=by rw[y];exact bP
 have f7:fk.G=S.T.G:=by rw[y];exact bQ
 have f8:fk.gen=S.T.gen:=by rw[y];exact bR
 have f9:fk.f=S.T.g:=by rw[y];exact bS
 have a1:∀q,fk.M q->S.T.M q\/w.heap.size<=q:=λq k=>by
  rw[y]at k;rcases k with k|k
  .rcases N.c7 q k with h1|h1
   .exact .inl (.inl h1)
   .exact .inr I
  .exact bT q (.inr k)
 have cQ:=N.ab.size;refine iE (λaH=>∃aZ,gi aH {S with T:=(fk.b1 aZ S.T.gen S.u.root S.u.aI S.T.E).bm {aF with D:=aF.D.gn (λ_=>true) aF.D.dB} P',pending:=0,failed:=true} aG aM/\m.heap.size<=aZ/\ad (λq=>q=S.st) m aH) (λcR ck=>aW ?_) ?_
 .have aJ:Ext m m.drew:=cf _
  have R:=bf.ext aJ;have aK:=U.ext aJ;have bs:=aK.ca.raw;rw[f1]at bs;have bt:=nY bs S.T.sb (S.T.gen:Int) (S.u.root:Int) (S.u.aI:Int);rw[X]at bt;refine⟨λ_=>False,_,rfl,id,_,by rw[aw];exact R.cell,_,rfl,id,_,by rw[aw];exact R.cell,_,rfl,id,_,by rw[aw];exact R.cell,_,rfl,id,_,by rw[aw];exact R.cell,_,rfl,id,_,by rw[aw,aw];exact R.cell,?_⟩;have cl:IntKind.wrap .u64 ((S.gen:Int)+1)=(S.T.gen:Int):=by rw[gR I (by have:=h.num;omega)];have:=h.gen;omega
  rw[cl];refine bt.use ?_;rintro _ a2 (⟨_,rfl,Z,cm,cS⟩|⟨cn,_⟩)
  rotate_left
  .exact absurd (by rw[F];exact aP) cn
  have cU:=Z.size;refine⟨_,0,rfl,Z,λ_=>?_,λhx=>(by cases hx)⟩;have bu:=R.ext Z;obtain⟨bG,bI⟩:=dI bu (i:=0) (by simp[bZ.cells,g6]);have co:=dN bu (i:=0) (.pointer (some m.drew.heap.size));have bv:=dk a2 S.st 0 (.pointer (some m.drew.heap.size));have cp:bJ a2 (fk.b1 m.drew.heap.size S.T.gen S.u.root S.u.aI S.T.E):=by
   refine aK.tree Z (by show Var _ _ [.pointer (some fk.C.c),.pointer (some fk.sb),_,_,_] _;rw[f1,X,f6];exact cm) (.inr (bl _)) (λq k=>?_) ⟨?_,?_,?_⟩ λno bj p=>?_
   .have h1:=aK.lt (q:=q) (.inr (.inr (.inr (.inl (by rw[f2];exact k)))))
    exact⟨I,.inl (by rw[f2];exact k)⟩
   .rw[f5,←h.t.n];have:=aP.2.2.2.1;omega
   .have:=aP.2.1;omega
   .exact h.t.num.2.2
   .rw[←f8];exact aK.eo no bj p
  have cq:=cp.gn (s:=λ_=>true) (z:=fk.C.D.dB) (λf hf j O _ _=>cj f (by rw[←f1];exact hf) O) (λ_ _=>rfl) λ_ _=>.inr λ_=>rfl;have bw:bJ a2 ((fk.b1 m.drew.heap.size S.T.gen S.u.root S.u.aI S.T.E).bm {fk.C with D:=fk.C.D.gn (λ_=>true) fk.C.D.dB} fk.P):=cq;rw[f1,f4]at bw;refine⟨_,rfl,bG,bI,aW (ck _ ⟨m.drew.heap.size,⟨?_,bw.jA h.es bv,h.es,?_,h.gen,h.num,λ_ _=>rfl⟩,aJ.size,((Ext.trans aJ Z).mono λ_ _ h=>h.elim).trans bv⟩)⟩
  .show Var _ _ (g6 _ aF.D.d aF.c fk.sb _ _ _ _ _ _ _ _) _
   rw[F,X,f6];exact co
  .show gP (λj=>aF.D.bg.getD j []) fk.n _ _ fk.g P' _ _
   rw[F,f5,f3];exact h.fo.agree (λ_ _=>rfl) λx hx=>by
    rw[a0];dsimp only;rw[if_pos ((h.fo.g x).2 (.inl hx))]
 .rintro aH ⟨aZ,H,cV,cr⟩
  obtain⟨l,r⟩:∃l:bZ,l={S with T:=(fk.b1 aZ S.T.gen S.u.root S.u.aI S.T.E).bm {aF with D:=aF.D.gn (λ_=>true) aF.D.dB} P',pending:=0,failed:=true}:=⟨_,rfl⟩;rw[←r]at H;have Q:l.st=S.st:=by rw[r]
  obtain⟨bG,bI,ao,ap,bb⟩:=H.set (i:=17) (x:=S.u.keys) (by decide);have cs:∃z:aa,l.cells[12]? =some z/\z=S.u.keys:=⟨_,by rw[r];rfl,rfl⟩;obtain⟨z,ct,rfl⟩:=cs;have cw:({l with keys:=S.u.keys}:bZ).cells=l.cells.set 17 S.u.keys:=by rw[r];rfl
  have o:l.T=(fk.b1 aZ S.T.gen S.u.root S.u.aI S.T.E).bm {aF with D:=aF.D.gn (λ_=>true) aF.D.dB} P':=by rw[r]
  have fN:l.T.n=S.T.n:=by rw[o];exact f5
  have dG:l.T.C.D.bg=S.T.C.D.bg:=by rw[o];show aF.D.bg=_;rw[F]
  have aN:l.u=S.u:=by rw[r]
  have cx:l.gen=S.gen:=by rw[r]
  have cz:l.T.f=S.T.g:=by rw[o];exact f9
  have cA:l.T.C.D.ro:=by rw[o];exact λ_=>rfl
  have bx:l.failed=true:=by rw[r]
  refine⟨_,rfl,_,by rw[aw,aw,←Q];exact H.v.cell.trans ct,_,rfl,by rw[aw,←Q];exact bG,by rw[aw,←Q];exact bI,aW ⟨rfl,{l with keys:=S.u.keys},⟨⟨?_,?_,H.es,H.fo,H.gen,H.num,H.bL⟩,?_,h.fo.bj,λno=>?_,λx hx=>?_,h.fo.fQ,h.fo.keys,?_,λhf=>?_,λ_=>⟨cA,rfl,rfl,by rw[r]⟩⟩,?_,⟨aN,cx,by rw[r],bx,dG,λj=>?_,by rw[show({l with keys:=S.u.keys}:bZ).T=l.T from rfl,o];show aF.D.aQ=_;rw[F]⟩⟩⟩
  .rw[cw,aw,cy,←Q];exact ao
  .rw[aw,cy,←Q];exact ap
  .show gh l.T aG aM
   rw[o];have:=H.fo.ok;rw[o,aN]at this;exact this
  .show l.T.f no=true↔no∈aG\/no<2\/no=l.u.map
   rw[cz,aN];exact h.fo.g no
  .rw[show({l with keys:=S.u.keys}:bZ).u=S.u from aN]
   exact⟨(h.fo.two x hx).1,(h.fo.two x hx).2.1⟩
  .show l.pending<=1000
   rw[r];exact cL _
  .rw[show({l with keys:=S.u.keys}:bZ).failed=true from bx]at hf;cases hf
  .refine⟨Q,?_,fN,by rw[r],?_,λk=>?_,?_,λq k=>?_,?_,?_⟩
   .show l.T.C.D.d=_
    rw[o];show aF.D.d=_;rw[F]
   .show l.T.C.D.aQ<=_
    rw[o];show aF.D.aQ<=_;rw[F];omega
   .show l.T.C.D.quiet
    rw[o];show a6.quiet (aF.D.gn _ _);rw[F];exact k
   .rw[aw,cy]
    have a3:∀q,q=S.st->S.W q:=λq e=>by rw[e];exact h.wa
    have h1:ad S.W w bD:=ac.mono λq _ e=>a3 q e;have h2:ad S.W w bE:=cu h1 ah λq _ k=>h.lS (.inr (.inr (.inl k)));have cB:ad S.W w al:=cu h2 am λq _ k=>k.elim;have cC:ad S.W w m:=cu cB N.ab λq _ k=>h.lS (.inl k);have cD:ad S.W w aH:=cu cC cr λq _ k=>a3 q k;exact cu cD (V:=λq=>q=S.st) (by rw[←Q];exact bb) λq _ k=>a3 q k
   .have k:l.T.M q:=k
    rw[o]at k;rcases k with k|k|k|k|k
    .exact a1 q (.inl (by rw[f1];exact k))
    .have k:q=aZ:=k
     exact .inr I
    .exact a1 q (.inr (.inr (.inl k)))
    .exact .inl (.inr (.inr (.inr (.inl k))))
    .exact a1 q (.inr (.inr (.inr (.inr k))))
   .show l.T.E=_
    rw[o];rfl
   .show l.T.G=_
    rw[o];exact f7
  .show l.T.C.D.dH j=_
   rw[o];show aF.D.dB j=_;rw[F]
end
theorem gN.mono{gen a no:Nat}{leaf:ai}{l:cX}{n:aD}(h:gN gen leaf no l n)(hg:gen<=a):gN a leaf no l n:=by
 obtain⟨p,h1,h2,b⟩:=h;exact⟨p,h1,eK h2 hg,b⟩
section
variable {w w':J}{C:b5}{X:Nat->Prop}{T:aN}{S ax:bZ}{pages aG:O Nat}{L aM:O aH}
theorem H_{az:a6}(h:ek X w C)(hd:cx w' az)(e:az.d=C.D.d)(g:kH az C.D)(k:∀i,2<=i->az.now i=C.D.now i)(hc:ad (bY C.D) w w')(hf:∀q,bY az q->bY C.D q\/w.heap.size<=q):
 ek X w' {C with D:=az}/\∀j,2<=j->({C with D:=az}:b5).view j=C.view j:=by
 have o:=hc.size;have l:∀q,q<w.heap.size->c4 {C with D:=az} q->c4 C q:=λq a b=>by
  rcases b with h1|h1|h1
  .exact .inl h1
  .exact .inr (.inl h1)
  .exact .inr (.inr ((hf q h1).resolve_right I))
 refine⟨⟨h.raw.p2 hd e hc hf,h.inv.pins,λf p r=>?_,h.inv.un,λq a=>⟨fU (h.inv.e6 q a).1 o,λb=>(h.inv.e6 q a).2 (l q (h.inv.e6 q a).1 b)⟩,g.2.2⟩,λj s=>?_⟩
 .obtain⟨no,au,ay,t,u,v,x,m⟩:=h.inv.ok f p r
  exact⟨no,au,by rw[show({C with D:=az}:b5).D.n=az.n from rfl,g.1];exact ay,a_.re t hc (λq _ c y=>c.1 (.inr (.inr y))) λq a c=>⟨λb=>c.1 (l q a b),c.2⟩,u,λhd=>by show _=az.now no;rw[k no m];exact v hd,λhs=>x (g.2.1 _ hs),m⟩
 .unfold b5.view
  dsimp only
  cases C.an.find? λf=>f.full&&f.no==(j:Int) with
  |some f=>rfl
  |none=>exact k j s
theorem bJ.CX{aF:b5}{P:Nat->aq aD}(h:bJ w T)(a:ek T.X w' aF)(hc:ad (c4 T.C) w w')(e:aF.c=T.C.c)(b:aF.D.n=T.C.D.n)(d:∀no bj,P no=some bj->no<T.n/\gN T.gen bj.leaf no (aF.view no) bj)(f:∀j,aF.D.bL j=true->T.g j=true\/aF.D.ro):
 bJ w' (T.bm aF P):=by
 have hx:=h.ca.inv.e6;refine⟨?_,h.s.ab hc λq i hf=>(hx q (.inr (.inl i))).2 hf,a,h.jx,h.c8,h.hD,b.trans h.n,h.num,d,f,h.low⟩;have:=h.t.ab hc λhf=>(hx T.aZ (.inl rfl)).2 hf;unfold k_ at this⊢;rw[←e]at this;exact this
def aN.my(T:aN)(gen:Nat):aN:={T with gen:=gen}
theorem bJ.Ia{gen:Nat}(h:bJ w T)(b:Var w' T.aZ (k_ (T.my gen)) 239)(hc:ad (λq=>q=T.aZ) w w')(h1:T.gen<=gen)(h2:gen<18446744073709551616):bJ w' (T.my gen):=
 ⟨b,h.s.ab hc λq c e=>h.jx (e▸c),h.ca.ab hc λq e=>.inl e,h.jx,h.c8,h.hD,h.n,⟨h.num.1,h.num.2.1,h2⟩,λno bj a=>⟨(h.eo no bj a).1,(h.eo no bj a).2.mono h1⟩,h.bL,h.low⟩
theorem Ib(h:bJ w T){gen:Nat}(h1:T.gen<=gen)(h2:gen<18446744073709551616):
 aR aj 164 #[.pointer (some T.aZ),.int .u64 (gen:Nat)] w (λv w'=>v=.tuple #[]/\bJ w' (T.my gen)/\ad (λq=>q=T.aZ) w w'):=by
 refine af.EE _ _ w _ ?_;(delta af.ry ak st;dsimp only);obtain⟨au,ay⟩:=dI h.t (i:=2) (by simp[k_]);have a:=dN h.t (i:=2) (.int .u64 (gen:Nat));have hc:=dk w T.aZ 2 (.int .u64 (gen:Nat));refine⟨λ_=>⟨_,rfl,by rw[aw];exact au,by rw[aw];exact ay,aW ?_⟩,λb=>(by cases b)⟩;rw[aw,cy];exact⟨rfl,h.Ia a hc h1 h2,hc⟩
def r9(ax:bZ)(gen:Nat)(g:Nat->ai)(pages:O Nat)(L:O aH)(clock bw:Nat):Prop:=
 (∀j,g j=true->ax.T.C.D.dH j=[])\/
 ∃ (a:cZ) (au:Nat->ai) (c:Nat->aq aD) (b:cX),(∀j,ax.T.C.D.dH j=if j=(gen+1)%2 then [b] else [])/\gP (λj=>if j=(gen+1)%2 then b else ax.V j) ax.T.n (gen+1) a au c pages L/\a.clock=clock/\a.bw=bw
def qq(S:bZ)(pages:O Nat)(L:O aH)(aG:O Nat)(aM:O aH)(w:J)(v:aa)(w':J):Prop:=
 ∃ax,c6 100 S ax w w'/\ax.now=S.now/\
  ((v=.int .i64 0/\c_ w' ax pages L pages L/\ax.failed=false/\ax.gen=S.gen+1/\ax.u.clock=S.now/\ax.u.bw=S.u.bw+1/\ax.pending=0)\/
   (v=.int .i64 3/\¬S.T.C.D.quiet/\c_ w' ax aG aM aG aM/\ax.failed=true/\ax.u=S.u/\ax.gen=S.gen/\(∀j,S.T.g j=true->ax.V j=S.V j)/\r9 ax S.gen S.T.g pages L S.now (S.u.bw+1)))
end
section
variable {w w' w1:J}{C:b5}{X:Nat->Prop}{T:aN}{S ax eF:bZ}{pages aG:O Nat}{L aM:O aH}{f2:Nat->ai}{aF:b5}{P':Nat->aq aD}
def bZ.at(S:bZ)(f2:Nat->ai)(aF:b5)(P':Nat->aq aD):bZ:={S with T:=(S.T.iP f2).bm aF P'}
theorem gi.wb(h:gi w S aG aM)(ht:bJ w' ((S.T.iP f2).bm aF P'))(a:Var w' S.st S.cells 158)(b:aF.D.d=S.T.C.D.d)(e:aF.c=S.T.C.c)(dR:∀j,S.T.g j=true->aF.D.bg.getD j []=S.V j)(f:∀x∈aG,S.T.P x=P' x)(i:∀j,S.T.g j=true->aF.D.bL j=true):
 gi w' (S.at f2 aF P') aG aM:=by
 refine⟨?_,ht,h.es,h.fo.agree dR f,h.gen,h.num,i⟩;show Var w' S.st (g6 _ aF.D.d aF.c _ _ _ _ _ _ _ _ _) _;rw[b,e];exact a
theorem c6.at{k:Nat}(hc:ad S.W w w')(b:aF.D.d=S.T.C.D.d)(c:aF.D.aQ<=S.T.C.D.aQ+k)(a:S.T.C.D.quiet->aF.D.quiet)(hf:∀q,c4 aF q->c4 S.T.C q\/w.heap.size<=q):c6 k S (S.at f2 aF P') w w':=
 ⟨rfl,b,rfl,rfl,c,a,hc,λq a=>by
  rcases a with a|a
  .exact(hf q a).imp .inl id
  .exact .inl (.inr a),rfl,rfl⟩
theorem wc(p:gi w1 eF aG aM)(a:c6 100 S eF w w1)(r:eF.u=S.u)(s:eF.gen=S.gen)(t:eF.now=S.now)(m:¬S.T.C.D.quiet)(dR:∀j,S.T.g j=true->eF.V j=S.V j)(x:eF.T.C.D.aQ<=900000000)
 (y:(∀j,S.T.g j=true->eF.T.C.D.dB j=[])\/∃ (e:cZ) (au:Nat->ai) (f:Nat->aq aD) (b:cX),(∀j,eF.T.C.D.dB j=if j=(S.gen+1)%2 then [b] else [])/\gP (λj=>if j=(S.gen+1)%2 then b else eF.V j) eF.T.n (S.gen+1) e au f pages L/\e.clock=S.now/\e.bw=S.u.bw+1):
 aR aj 81 #[.pointer (some S.st),(3:Int)] w1 (qq S pages L aG aM w):=by
 have hf:=CW p 3 x;rw[a.st]at hf;refine hf.mono ?_;rintro v w' ⟨rfl,ax,hs,hd,c⟩;have o:∀j,ax.V j=eF.V j:=λj=>by unfold bZ.V;rw[c.V]
 refine⟨ax,⟨hd.st.trans a.st,hd.d.trans a.d,hd.n.trans a.n,hd.l.trans a.l,by rw[c.aQ];exact a.aQ,λh=>absurd h m,cu a.ab hd.ab λq z i=>a.back z i,λq i=>?_,hd.E.trans a.E,hd.G.trans a.G⟩,c.now.trans t,.inr ⟨rfl,m,hs,c.failed,c.u.trans r,c.gen.trans s,λj k=>(o j).trans (dR j k),?_⟩⟩
 .have:=a.ab.size
  rcases hd.c7 q i with h1|h1
  .exact a.c7 q h1
  .exact .inr I
 .rcases y with h1|⟨e,au,f,b,h1,h2,A,B⟩
  .exact .inl λj k=>(c.sa j).trans (h1 j k)
  .exact .inr ⟨e,au,f,b,λj=>(c.sa j).trans (h1 j),by rw[hd.n];exact h2.agree (λj _=>by rw[o]) λ_ _=>rfl,A,B⟩
theorem Ic{V:Nat->cX}{no:Nat}{i:Nat->aq aD}(h:c_ w S pages L aG aM)(k:f2=dn (dn S.T.f no true) S.u.map false)(K:(S.T.f no||S.T.g no)=false)(A:2<=no)(B:no<S.T.n)(M:L.length<4096)(l:∀x∈pages,i x=S.T.P x)
 (D:V ((S.gen+1)%2)=eH ((S.gen+1)%2) (ji ⟨S.T.root,S.T.aI,no,S.now,S.u.bw+1,L.length⟩ S.T.n (S.gen+1))) (dR:∀j,j≠(S.gen+1)%2->V j=if j=no then eH no ⟨4,S.gen+1,fR f2 ((S.T.n+7)/8)⟩ else if S.T.g j=true then S.V j else S.T.C.view j)
 (hg:∀j,S.T.g j=true->S.V j=S.T.C.view j):gP V S.T.n (S.gen+1) ⟨S.T.root,S.T.aI,no,S.now,S.u.bw+1,L.length⟩ f2 i pages L:=by
 have E:=h.t.s.bC;have F:=h.num;have m:=h.t.num;have o:=h.fo.qp;have N:=o.2.2.2.2.1;have p:S.T.f S.u.map=true:=(h.f _).2 (.inr (.inr rfl));have q:S.T.f no=false:=by cases O:S.T.f no<;>simp_all
 have r:∀x∈pages,x≠no:=λx hx e=>by
  have:=(h.f x).2 (.inl hx);rw[e,q]at this;cases this
 have G:∀x∈pages,x<S.T.n:=λx hx=>Nat.lt_of_not_le λe=>by
  have:=h.t.s.pf x e;rw[(h.f x).2 (.inl hx)]at this;cases this
 have H:∀j,j≠(S.gen+1)%2->j≠no->V j=S.T.C.view j:=λj h1 h2=>by
  rw[dR j h1,if_neg h2];by_cases e:S.T.g j=true
  .rw[if_pos e,hg j e]
  .rw[if_neg e]
 have v:kk ⟨S.T.root,S.T.aI,no,S.now,S.u.bw+1,L.length⟩ S.T.n:=by
  refine⟨?_,m.2.1,m.1,B,A,E⟩;rcases h.ok with ⟨a1,a2,_⟩|b
  .exact⟨λ_=>a1,λ_=>a2⟩
  .obtain⟨bj,Q,_,a2,_,_⟩:=b.kE
   have:=(h.two S.T.root (by rw[a2];simp)).1;constructor
   .intro e;have e:S.T.root=0:=e;omega
   .intro e
    have e:S.T.aI=0:=e;rw[e]at b;exact b.elim
 have y:nt ⟨S.T.root,S.T.aI,no,S.now,S.u.bw+1,L.length⟩:=⟨by show S.T.root<_;omega,by show S.T.aI<_;omega,by show no<_;omega,F.1,by show S.u.bw+1<_;omega,by show L.length<_;omega⟩;refine⟨⟨S.u.map,o.2.2.2.1,by rw[k];unfold dn;rw[if_pos rfl]⟩,?_,.inr ⟨S.u,S.gen,?_,I⟩,⟨S.gen+1,bl _,?_⟩,λj=>?_,h.bj,λx hx=>⟨(h.two x hx).1,r x hx,G x hx⟩,?_,λx hx bj z=>?_,rfl,h.fQ,y,v,by show S.u.bw+1+1<=S.gen+1;omega⟩
 .rw[D]
  exact CJ y v I I
 .have e:1-(S.gen+1)%2=S.gen%2:=by omega
  have J:S.T.g (S.gen%2)=true:=(h.fo.g _).2 (.inr (.inl I));rw[e,dR _ I,if_neg I,if_pos J];exact h.fo.v_
 .show dQ (no:Int) (V no)=_
  rw[dR _ I,if_pos rfl];exact vu I ⟨(by decide:1<=4),(by decide:4<=4),by show S.gen+1<_;omega,by show(fR _ _).length<=232;rw[oM];omega⟩
 .rw[k]
  show dn (dn S.T.f no true) S.u.map false j=true↔j∈pages\/j<2\/j=no;unfold dn;by_cases c:j=S.u.map
  .rw[if_pos c]
   refine⟨λh=>(by cases h),λa=>?_⟩;rcases a with a|a|a
   .exact absurd c (h.two j a).2
   .omega
   .rw[←c,a,q]at p;cases p
  .rw[if_neg c]
   by_cases d:j=no
   .rw[if_pos d];exact⟨λ_=>.inr (.inr d),λ_=>rfl⟩
   .rw[if_neg d,h.f j]
    constructor
    .rintro(a|a|a)
     .exact .inl a
     .exact .inr (.inl a)
     .exact absurd a c
    .rintro(a|a|a)
     .exact .inl a
     .exact .inr (.inl a)
     .exact absurd a d
 .rcases h.ok with ⟨a1,a2,a3,a4⟩|b
  .exact .inl ⟨a1,a2,a3,a4⟩
  .exact .inr (b.agree λx hx=>(l x hx).symm).1
 .rw[l x hx]at z
  rw[H x (by have:=(h.two x hx).1;omega) (r x hx),←h.gen];exact(h.t.eo x bj z).2
end
section
variable {w w' w1:J}{C:b5}{X:Nat->Prop}{T:aN}{S ax eF:bZ}{pages aG:O Nat}{L aM:O aH}{f2:Nat->ai}{aF:b5}{P':Nat->aq aD}
theorem Ie{f:Nat->ai}{n k:Nat}(h:k<n):ni f n (k:Int)=dn f k false:=by
 unfold ni;rw[if_pos ⟨I,I⟩,dd]
theorem Ig{aZ d c sb gen now first pending keys st:Nat}{l:fB}{u:cZ}{failed:ai}(b:Var w st (g6 aZ d c sb l u gen now first pending keys failed) 158)(a:cZ){K:J->Prop}(e:∀ah,Var ah st (g6 aZ d c sb l a gen now first pending keys failed) 158->ad (λq=>q=st) w ah->K ah):
 bx w ⟨st,7,none⟩ [a.root,a.aI,a.map,.int .u64 (a.clock:Nat),.int .u64 (a.bw:Nat),a.keys]/\(6:Nat)=6/\
  al (setCells w ⟨st,7,none⟩ 0 [a.root,a.aI,a.map,.int .u64 (a.clock:Nat),.int .u64 (a.bw:Nat),a.keys]) K:=
 ⟨bz.b9 b _ _ (by simp[g6]) λv f=>cZ.plain a v f,rfl,aW (e _ (bz.j4 (o:=7) b _) (ad.kY (.refl _ _) _ 0))⟩
theorem yU(h:c_ w S pages L aG aM)(am:S.failed=false)(dt:L.length<4096)(eR:S.T.C.D.aQ<=800000000)(eS:S.gen<=1000000000):
 aR aj 94 #[.pointer (some S.st)] w (qq S pages L aG aM w):=by
 refine okF (af.ug (some S.st)) aA.ug func94 ?_;(delta af.ug eP ak aC r1 br ba pr cc ft U aU st;dsimp only);obtain⟨bx,bz,du⟩:=h.live am;obtain⟨no,cm⟩:=B3 du;obtain⟨co,dv,_⟩:=BN cm;have eT:=h.t.s.bC;have aY:=h.num;have dw:=h.gen;have cp:=h.fo.qp;have cq:S.T.f no=false:=by cases dx:S.T.f no<;>simp_all
 have an:S.T.g no=false:=by cases dx:S.T.g no<;>simp_all
 have cr:2<=no:=Nat.le_of_not_lt λe=>by
  have:=(h.fo.g no).2 (.inr (.inl e));rw[an]at this;cases this
 have eU:S.T.M S.st:=.inr (.inr (.inr (.inl h.es)));refine⟨_,rfl,_,by rw[aw];exact h.v.cell,(BP h.t.s).use ?_⟩;rintro _ cs ⟨rfl,ct,a0⟩;rw[cm]at ct⊢;refine⟨(no:Nat),0,rfl,λhx=>(by cases hx),λ_=>aW ?_⟩;have dy:=(h.t.vN (f:=dn S.T.f no true) ct a0).1;have dz:=h.v.ab a0 (h.t.c8 _ h.es).2.1;have a1:Ext cs cs.drew:=cf _;have bA:=dz.ext a1;have cv:=dy.ext a1;refine⟨_,rfl,id,_,by rw[aw];exact bA.cell,_,rfl,id,_,by rw[aw,aw];exact bA.cell,(BQ cv.s (S.u.map:Nat)).use ?_⟩;rintro _ a2 ⟨rfl,cw,a3⟩;rw[Ie (by exact cp.2.2.2.1)]at cw;obtain⟨f2,bB⟩:∃f2,f2=dn (dn S.T.f no true) S.u.map false:=⟨_,rfl⟩;have cz:eX a2 S.T.sb S.T.n f2 S.T.g S.T.s1 S.T.s2:=by rw[bB];exact cw
 have bD:bJ a2 (S.T.iP f2):=(cv.vN (f:=f2) cz a3).1;have cA:=bA.ab a3 (h.t.c8 _ h.es).2.1;refine⟨_,rfl,aW ?_⟩;have a4:Ext a2 a2.drew:=cf _;have cB:=cA.ext a4;have dA:=bD.ext a4;have bE:IntKind.wrap .u64 ((S.gen:Int)+1)=((S.gen+1:Nat):Int):=by rw[gR I I];omega
 refine⟨λ_=>False,_,rfl,id,_,by rw[aw];exact cB.cell,_,rfl,id,_,by rw[aw];exact cB.cell,(BW dA.s).use ?_⟩;rintro _ dC ⟨a5,rfl,dD,bF,eV⟩;have dE:bd 1 5 dC a5 (aJ (fR f2 ((S.T.n+7)/8))):=by rw[CR];exact dD
 have cD:m9 ⟨4,S.gen+1,fR f2 ((S.T.n+7)/8)⟩:=⟨(by decide:1<=4),(by decide:4<=4),by show S.gen+1<_;omega,by show(fR _ _).length<=232;rw[oM];omega⟩;rw[bE];refine⟨a5,rfl,bF,#[(4:Int),.int .u64 ((S.gen+1:Nat):Int),a5],λeW=>by kernel_rfl,(vz (s:=a5) (p:=⟨4,S.gen+1,fR f2 ((S.T.n+7)/8)⟩) (no:=no) dE.src I cD).use ?_⟩;rintro _ cE ⟨dF,rfl,cF,cG,dJ⟩;have bH:=a4.trans (Ext.trans bF cG);have a7:=bD.ext bH;have cH:=cA.ext bH;have eZ:=a0.size;have e0:=a3.size;have e1:=a1.size;have e2:=a4.size;have e3:=bF.size;have a8:ad S.W w cE:=cu (cu (cu (cu (ad.refl _ _) a0 λq _ a=>h.lS (.inr (.inr (.inl a)))) a1 λq _ a=>a.elim) a3 λq _ a=>h.lS (.inr (.inr (.inl a)))) bH λq _ a=>a.elim;have dK:(eH no ⟨4,S.gen+1,fR f2 ((S.T.n+7)/8)⟩).length=256:=rH _ cD;refine⟨dF,0,rfl,cG,λhx=>(by cases hx),λ_=>⟨_,rfl,_,by rw[aw];exact cH.cell,(BG a7.ca (by show S.T.C.D.aQ<=_;omega) (no:=no) (by rw[a7.n];exact co) cr (λhs=>?_) cF.src dK λq a=>⟨bd.lt cF q a,λhf=>?_⟩).use ?_⟩⟩
 .rcases a7.bL no hs with h1|h1
  .rw[show(S.T.iP f2).g no=S.T.g no from rfl,an]at h1;cases h1
  .exact bx h1
 .have h1:=dJ q a
  have h2:=bD.lt (q:=q) (.inl hf);omega
 rintro _ a9 ⟨F,cI,cJ,a_⟩;have r:eI S.T.C F cE a9 1:=cJ;have cK:∀j,j≠no->F.view j=S.T.C.view j:=λj b=>by
  rcases a_ with ⟨_,bK⟩|⟨_,_,bK⟩
  .rw[bK,if_neg b];rfl
  .rw[bK];rfl
 obtain⟨y,bM⟩:∃y:Nat->aq aD,y=λj=>if j=no then none else S.T.P j:=⟨_,rfl⟩
 have aB:∀j,j≠no->y j=S.T.P j:=λj b=>by rw[bM];exact if_neg b
 obtain⟨aE,_⟩:=a7.qf (P:=y) cI cJ λj bj ai=>by
  have b:j≠no:=λe=>by rw[bM]at ai;simp[e]at ai
  rw[cK j b];exact h.t.eo j bj (by rw[←aB j b];exact ai)
 have dL:¬c4 S.T.C S.st:=(h.t.ca.inv.e6 _ (.inr (.inr (.inl h.es)))).2;have bN:=cH.ab r.ab dL;have bO:ad S.W w a9:=cu a8 r.ab λq _ a=>h.lS (.inl a);have bb:∀x∈aG,S.T.P x=y x:=λx hx=>(aB x λe=>by
  have:=(h.fo.g x).2 (.inl hx);rw[e,an]at this;cases this).symm
 have bP:F.D.bg=S.T.C.D.bg:=congrArg (λp=>p.1.1) r.bg;have bQ:F.D.cg.getD 3 0=S.T.C.D.cg.getD 3 0:=congrArg Prod.snd r.bg;have dM:gi a9 (S.at f2 F y) aG aM:=h.togi.wb aE bN r.d r.c (λj b=>by rw[bP];rfl) bb λj b=>by rw[r.bL];exact h.bL j b
 have dO:c6 100 S (S.at f2 F y) w a9:=c6.at bO r.d (by have:=r.aQ;omega) (λa=>⟨λk=>r.calm k (a.1 _),bQ.trans a.2⟩) λq a=>(r.c7 q a).imp id λe=>by have:=a8.size;omega
 have dP:∀j,S.T.g j=true->F.D.dB j=[]:=λj b=>by
  rw[cI.inv.ke j (by rw[r.bL];exact h.bL j b),r.ng.2,bz]
 rcases a_ with ⟨rfl,a_⟩|⟨rfl,dQ,_⟩
 rotate_left
 .exact⟨3,rfl,λ_=>(wc dM dO rfl rfl rfl (λa=>dQ (a.1 1)) (λj b=>by unfold bZ.V;show F.D.bg.getD j []=_;rw[bP]) (by show F.D.aQ<=_;have:=r.aQ;omega) (.inl dP)).use λv w' bR=>by
   obtain⟨ax,r1,b3,ag⟩:=bR;rcases ag with ⟨rfl,br⟩|⟨rfl,br⟩
   .exact⟨0,rfl,ax,r1,b3,.inl ⟨rfl,br⟩⟩
   .exact⟨3,rfl,ax,r1,b3,.inr ⟨rfl,br⟩⟩,λhx=>(by cases hx)⟩
 refine⟨0,rfl,λhx=>(by cases hx),λ_=>⟨_,rfl,_,by rw[aw];exact bN.cell,?_⟩⟩;have cM:=H0 aE.ca (by show F.D.aQ<=_;have:=r.aQ;omega) λj b=>by show F.D.dH j=_;rw[r.ng.2,bz]
 rw[show((S.T.iP f2).bm F y).C.c=S.T.C.c from r.c]at cM;refine cM.use ?_;rintro _ ao ⟨o,R⟩;have dS:¬c4 F S.st:=(aE.ca.inv.e6 _ (.inr (.inr (.inl h.es)))).2;have bc:=bN.ab R.ab dS;have Y:o.D.d=S.T.C.D.d:=R.d.trans r.d;have be:o.c=S.T.C.c:=R.c.trans r.c;have aF:∀q,c4 o q->c4 S.T.C q\/w.heap.size<=q:=λq a=>by
  have:=bO.size;have:=a8.size;rcases R.c7 q a with h1|h1
  .exact(r.c7 q h1).imp id λe=>by omega
  .exact .inr I
 have bS:ad S.W w ao:=cu bO R.ab λq am a=>by
  have:=a8.size;exact h.lS (.inl ((r.c7 q a).resolve_right I))
 have cN:∀ (bT:b5),(∀j,2<=j->bT.view j=F.view j)->∀j bj,y j=some bj->j<S.T.n/\gN S.T.gen bj.leaf j (bT.view j) bj:=λbT dT j bj ai=>by
  have b:j≠no:=λe=>by rw[bM]at ai;simp[e]at ai
  have h1:=h.t.eo j bj (by rw[←aB j b];exact ai);rw[dT j h1.2.two,cK j b];exact h1
 have bf:bJ ao ((S.T.iP f2).bm o y):=aE.CX R.at_ R.ab R.c R.n (cN o λj _=>R.view j) λj b=>by
  rw[R.bL.1]at b;rcases aE.bL j b with h1|h1
  .exact .inl h1
  .exact .inr λi=>by rw[R.bL.1];exact h1 i
 have ap:o.D.bL=S.T.C.D.bL:=R.bL.1.trans r.bL;have dU:o.D.dH=λ_=> []:=R.bL.2.trans (r.ng.2.trans bz);have e4:o.D.aQ<=S.T.C.D.aQ+70:=by have h1:o.D.aQ<=F.D.aQ+64:=R.aQ;have:=r.aQ;omega
 have fin:∀ (w1:J) (Z:aa->J->Prop),aR aj 81 #[.pointer (some S.st),(3:Int)] w1 (qq S pages L aG aM w)->(∀v w',qq S pages L aG aM w v w'->Z v w')->Calls aj 81 #[.pointer (some S.st),(3:Int)] w1 (λe ah=>∃n:Int,e=.returned n/\Z n ah):=λw1 Z bR cO=>bR.use λv w' hc=>by
  have dV:=hc;obtain⟨ax,r1,b3,ag⟩:=dV;rcases ag with ⟨rfl,br⟩|⟨rfl,br⟩
  .exact⟨0,rfl,cO _ _ hc⟩
  .exact⟨3,rfl,cO _ _ hc⟩
 rcases R.im with ⟨rfl,dW,cP,dX⟩|⟨rfl,dY,dZ⟩
 rotate_left
 .have cQ:o.D.bg=S.T.C.D.bg:=dY.trans bP
  have d0:gi ao (S.at f2 o y) aG aM:=h.togi.wb bf bc Y be (λj b=>by rw[cQ];rfl) bb λj b=>by rw[ap];exact h.bL j b
  have ac:¬S.T.C.D.quiet:=λa=>by
   rcases dZ with h1|h1
   .exact h1 (r.calm 64 (a.1 _))
   .unfold a6.fV at h1
    rw[show((S.T.iP f2).bm F y).C.D.cg.getD 3 0=S.T.C.D.cg.getD 3 0 from bQ,a.2]at h1
    cases h1
  have d1:c6 100 S (S.at f2 o y) w ao:=c6.at bS Y I (λa=>absurd a ac) aF;exact⟨3,rfl,λ_=>fin _ _ (wc d0 d1 rfl rfl rfl ac (λj b=>by unfold bZ.V;show o.D.bg.getD j []=_;rw[cQ]) (by show o.D.aQ<=_;omega) (.inl λj b=>by
   show o.D.dB j=[];rw[R.at_.inv.ke j (by rw[ap];exact h.bL j b),dU])) λ_ _ h=>h,λhx=>(by cases hx)⟩
 have aH:∀j,o.D.dB j=[]:=λj=>by unfold a6.dB;rw[dW];rfl
 have bi:∀j,o.D.bg.getD j []=if j=no then eH no ⟨4,S.gen+1,fR f2 ((S.T.n+7)/8)⟩ else S.T.C.view j:=λj=>by
  have h1:=HY R.at_ cP j;rw[vG _ (λx hx=>(R.at_.raw.dev.wn x hx).1),if_pos (aH j)]at h1;rw[←h1,R.view];exact a_ j
 have aK:∀j,S.T.g j=true->S.V j=S.T.C.view j:=λj b=>(h.view am b).symm;refine⟨0,rfl,λhx=>(by cases hx),λ_=>⟨_,rfl,_,bc.cell,?_⟩⟩;have cR:=Cu bf;rw[show((S.T.iP f2).bm o y).aZ=S.T.aZ from rfl]at cR;refine cR.use ?_;rintro _ bU ⟨rfl,bV⟩;have bX:Ext bU bU.drew:=cf _;have b0:=(bc.ext bV).ext bX;have d2:IntKind.wrap .u64 ((S.u.bw:Int)+1)=((S.u.bw+1:Nat):Int):=by rw[gR I I];omega
 refine⟨_,_,rfl,aW ⟨λ_=>False,_,rfl,id,_,by rw[aw];exact b0.cell,_,rfl,id,_,by rw[aw,aw];exact b0.cell,_,rfl,id,_,by rw[aw];exact b0.cell,?_⟩⟩;rw[d2];obtain⟨G,ae⟩:∃G:cZ,G=⟨S.T.root,S.T.aI,no,S.now,S.u.bw+1,S.keys⟩:=⟨_,rfl⟩;refine⟨G.c.toArray,λe5=>by rw[ae];kernel_rfl,bh (vs:=gm.c) rfl λe7 cS cT e8=>⟨cT,?_⟩⟩;obtain⟨aL,d3⟩:∃aL,aL=bU.drew.heap.size:=⟨_,rfl⟩;rw[←d3]at cS⊢;refine jj cS rfl G λaO d4 d5 e9=>aW ?_;have e_:=bV.size;have fa:=bX.size;have d6:Ext ao aO:=Ext.cn (Ext.trans bV (bX.trans cT)) d5 I;have cU:Ext aO aO.drew:=cf _;have aP:Ext ao aO.drew:=Ext.trans d6 cU;have b1:=d4.ext cU;have bk:=bc.ext aP;have b2:=bf.ext aP;generalize fb:aO.drew=bn at b1 bk b2 aP⊢;refine⟨_,rfl,id,_,by rw[aw];exact bk.cell,id,gO b1 ⟨_,rfl,id,_,by rw[aw];exact bk.cell,?_⟩⟩;rw[bE];have d7:nt G:=by
  have h1:=h.t.num;have h2:=h.keys;rw[ae];exact⟨by show S.T.root<_;omega,by show S.T.aI<_;omega,by show no<_;omega,aY.1,by show S.u.bw+1<_;omega,by show S.keys<_;omega⟩
 have b4:o.D.n=S.T.n:=R.n.trans (r.n.trans h.t.n);have Q:ek S.T.X bn o:=b2.ca;have cV:=mW Q.raw.dev I d7 (gen:=S.gen+1) I;rw[Y]at cV;refine cV.use ?_;rintro v aS ⟨ar,b6⟩;have fc:=aP.size;have d8:∀q,c4 o q->q<aL:=λq a=>by have:=R.at_.raw.lt a;omega
 have d9:=b1.ab ar λhf=>by have:=d8 aL (.inr (.inr hf));omega
 have d_:¬c4 o S.st:=(bf.ca.inv.e6 _ (.inr (.inr (.inl h.es)))).2;have bo:=bk.ab ar λhf=>d_ (.inr (.inr hf));have ea:ad S.W w bn:=cu bS aP λq _ a=>a.elim;have fd:=bS.size;have b7:ad S.W w aS:=cu ea ar λq am a=>h.lS<| .inl ((aF q (.inr (.inr a))).resolve_right I)
 have main:∀ (A:a6),cx aS A->A.d=o.D.d->kH A o.D->(∀i,2<=i->A.now i=o.D.now i)->(∀q,bY A q->bY o.D q\/bn.heap.size<=q)->(∀j,A.bL j=true->S.T.g j=true)->
  bJ aS ((S.T.iP f2).bm {o with D:=A} y)/\∀q,c4 {o with D:=A} q->c4 S.T.C q\/w.heap.size<=q:=λA al eb cW ec cY b8=>by
  obtain⟨fN,dG⟩:=H_ Q al eb cW ec ar cY;refine⟨b2.CX fN (ar.mono λq _ a=>.inr (.inr a)) rfl cW.1 (cN _ λj b=>(dG j b).trans (R.view j)) λj b=>.inl (b8 j b),λq a=>?_⟩;rcases a with a|a|a
  .exact aF q (.inl a)
  .exact aF q (.inr (.inl a))
  .rcases cY q a with h1|h1
   .exact aF q (.inr (.inr h1))
   .exact .inr I
 have fe:¬o.D.ro:=λe=>bx λi=>by rw[←ap];exact e i
 have ed:∀j,o.D.bL j=true->S.T.g j=true:=λj b=>by
  rw[ap]at b;exact(h.t.bL j b).resolve_right bx
 have c0:S.T.C.D.quiet->∀k,o.D.calm k:=λa k=>R.calm k (r.calm _ (a.1 _));rcases b6 with ⟨b9,rfl,al⟩|⟨b9,s,ee,bt,O,b6⟩
 .obtain⟨av,aT⟩:=main (o.D.cC 2) al rfl (Q.inv.cC 2) (λi _=>rR o.D 2 i) (λq a=>.inl a) λj b=>ed j b
  have b_:gi aS (S.at f2 {o with D:=o.D.cC 2} y) aG aM:=h.togi.wb av bo Y be (λj b=>by
   show o.D.bg.getD j []=_;rw[bi j,if_neg (λe=>by rw[e,an]at b;cases b),aK j b]) bb λj b=>by show o.D.bL j=true;rw[ap];exact h.bL j b
  have ac:¬S.T.C.D.quiet:=λa=>by
   have:=(jO (k:=2) (m:=0) (.inr rfl) Q.raw.dev.f4 (c0 a 1)).2;rw[this]at b9;cases b9
  exact⟨3,rfl,λ_=>fin _ _ (wc b_ (c6.at b7 Y (by show o.D.aQ<=_;omega) (λa=>absurd a ac) aT) rfl rfl rfl ac (λj b=>by
   show o.D.bg.getD j []=_;rw[bi j,if_neg (λe=>by rw[e,an]at b;cases b),aK j b]) (by show o.D.aQ<=_;omega) (.inl λj _=>aH j)) λ_ _ h=>h,λhx=>(by cases hx)⟩
 have c1:∀j,bt.dB j=if j=(S.gen+1)%2 then [eH ((S.gen+1)%2) (ji G o.D.n (S.gen+1))] else []:=λj=>by
  rw[O,Bu,aH,aH];rfl
 have c2:G=⟨S.T.root,S.T.aI,no,S.now,S.u.bw+1,L.length⟩:=by rw[ae,h.keys]
 have c3:∀V:Nat->cX,(∀j,V j=if j=(S.gen+1)%2 then eH ((S.gen+1)%2) (ji G o.D.n (S.gen+1)) else o.D.bg.getD j [])->gP V S.T.n (S.gen+1) G f2 y pages L:=λV dR=>by
  rw[c2];refine Ic h bB dv cr co dt (λx hx=>aB x λe=>by
   have:=(h.f x).2 (.inl hx);rw[e,cq]at this;cases this) (by rw[dR,if_pos rfl,c2,b4]) (λj b=>?_) aK
  rw[dR,if_neg b,bi];by_cases e:j=no
  .rw[if_pos e,if_pos e]
  .rw[if_neg e,if_neg e]
   by_cases cb:S.T.g j=true
   .rw[if_pos cb,aK j cb]
   .rw[if_neg cb]
 have bp:∀q,bY bt q->bY o.D q\/bn.heap.size<=q:=by rw[O];exact vZ ee
 have ef:∀i,2<=i->bt.now i=o.D.now i:=λi hi=>by rw[O,oC,if_neg I]
 have cd:bt.n=o.D.n:=by rw[O];rfl
 have ce:bt.d=o.D.d:=by rw[O];rfl
 have eg:bt.bg=o.D.bg:=by rw[O];rfl
 have eh:bt.aQ=o.D.aQ+1:=by rw[O];rfl
 have c5:S.T.C.D.quiet->bt.cg.getD 3 0= -1:=λa=>by
  rw[O];show(o.D.cg.set 2 _).getD 3 0=_;have bq:=Q.raw.dev.f4;rw[fm (by rw[df];omega),fH (by decide),←fm (d:=0),dX];rw[show((S.T.iP f2).bm F y).C.D.cg.getD 3 0=S.T.C.D.cg.getD 3 0 from bQ,a.2];rfl
 rcases b6 with ⟨bs,rfl,al⟩|⟨bs,rfl,al⟩
 .obtain⟨A,K⟩:∃A,A=(bt.cC 3).gn S.T.g λj=>if j=(S.gen+1)%2 then [eH ((S.gen+1)%2) (ji G o.D.n (S.gen+1))] else []:=⟨_,rfl⟩
  obtain⟨av,aT⟩:=main A (by rw[K];exact al.gn _ _) (by rw[K];exact ce) ⟨by rw[K];exact cd,λj b=>by rw[ap];exact h.bL j (by rw[K]at b;exact b),λj _=>by rw[K];exact c1 j⟩ (λi hi=>by rw[K];exact ef i hi) (λq a=>by rw[K]at a;exact bp q a) λj b=>by rw[K]at b;exact b
  have c9:A.bg=o.D.bg:=by rw[K];exact eg
  have ff:A.aQ=o.D.aQ+1:=by rw[K];exact eh
  have da:A.d=S.T.C.D.d:=by rw[K];exact ce.trans Y
  have b8:∀j,A.dB j=if j=(S.gen+1)%2 then [eH ((S.gen+1)%2) (ji G o.D.n (S.gen+1))] else []:=λj=>by rw[K];exact c1 j
  have db:∀j,S.T.g j=true->A.bg.getD j []=S.V j:=λj b=>by rw[c9,bi j,if_neg (λe=>by rw[e,an]at b;cases b),aK j b]
  have b_:gi aS (S.at f2 {o with D:=A} y) aG aM:=h.togi.wb av bo da be db bb λj b=>by rw[K];exact b
  have ac:¬S.T.C.D.quiet:=λa=>by
   unfold a6.fV at bs;rw[c5 a]at bs;cases bs
  exact⟨3,rfl,λ_=>fin _ _ (wc b_ (c6.at b7 da (by show A.aQ<=_;omega) (λa=>absurd a ac) aT) rfl rfl rfl ac db (by show A.aQ<=_;omega) (.inr ⟨G,f2,y,_,b8,c3 _ λj=>by show(if _ then _ else A.bg.getD j [])=_;rw[c9],by rw[ae],by rw[ae]⟩)) λ_ _ h=>h,λhx=>(by cases hx)⟩
 have ei:∀j,S.T.n<=j->o.D.bg.getD j []=[]:=λj b=>by
  rw[fC,kp (by have:o.D.bg.length=S.T.n:=b4;omega)];rfl
 have dc:∀j,o.D.now j=o.D.bg.getD j []:=λj=>by rw[vG _ (λx hx=>(Q.raw.dev.wn x hx).1),if_pos (aH j)]
 have fg:bt.n=S.T.n:=cd.trans b4;have ej:∀j,(bt.cC 3).jk.bg.getD j []=if j=(S.gen+1)%2 then eH ((S.gen+1)%2) (ji G o.D.n (S.gen+1)) else o.D.bg.getD j []:=λj=>by
  show((List.range bt.n).map bt.now).getD j []=_;have fh:16<=bt.n:=by have:16<=o.D.n:=Q.raw.dev.bW;omega
  by_cases b:j<bt.n
  .rw[fm (by simp;exact b),List.getElem_map,List.getElem_range,O,oC,dc]
  .rw[fC,kp (by simp;omega),if_neg I,ei j I];rfl
 obtain⟨H,N⟩:∃H,H=(bt.cC 3).jk.gn (λ_=>false) λ_=> []:=⟨_,rfl⟩;have el:∀j,H.dB j=[]:=λj=>by rw[N];rfl
 have dd:∀j,H.bg.getD j []=if j=(S.gen+1)%2 then eH ((S.gen+1)%2) (ji G o.D.n (S.gen+1)) else o.D.bg.getD j []:=λj=>by rw[N];exact ej j
 have em:H.n=o.D.n:=by rw[N];exact(r6 (bt.cC 3)).trans cd
 have ch:H.d=S.T.C.D.d:=by rw[N];exact ce.trans Y
 obtain⟨av,aT⟩:=main H (by rw[N];exact al.gn _ _) (ch.trans Y.symm) ⟨em,λj b=>(by rw[N]at b;cases b),λj b=>(by rw[N]at b;cases b)⟩ (λi hi=>by
  have h1:H.now i=H.bg.getD i []:=by rw[N];rfl
  rw[h1,dd,if_neg I,dc]) (λq a=>by
   rw[N]at a;rcases a with e|e|e|⟨x,hx,e⟩
   .exact bp q (.inl e)
   .exact bp q (.inr (.inl e))
   .exact bp q (.inr (.inr (.inl e)))
   .cases hx) λj b=>(by rw[N]at b;cases b)
 refine⟨0,rfl,λhx=>(by cases hx),λ_=>⟨_,rfl,_,by rw[aw];exact bo.cell,(GB av.s).use ?_⟩⟩;rintro _ aV ⟨rfl,s2,en,aX,de⟩;have az:=c3 (λj=>H.bg.getD j []) dd;have ep:f2 0=true/\f2 1=true:=⟨(az.g 0).2 (.inr (.inl (by decide))),(az.g 1).2 (.inr (.inl (by decide)))⟩;obtain⟨eq,fi⟩:=av.space en aX de (λj b=>by
  have b:H.bL j=true:=b;rw[N]at b;cases b) ep
 have fj:=aX.size;have er:=bo.ab aX (h.t.c8 _ h.es).2.1;have et:=d9.ab aX λhf=>by
  have h1:=h.t.lt (q:=aL) (.inr (.inr (.inl hf)));omega
 have eu:=eq.gn (s:=f2) (z:=λ_=> []) (λf hf j ev _ _=>by
  have h1:=cP f hf;unfold Fr.gW at h1;rw[ev]at h1;simpa using h1) (λj _=>el j) λj b=>.inl b
 obtain⟨gd,B⟩:∃gd:aN,gd=(((S.T.iP f2).bm {o with D:=H} y).v8 f2 f2 S.T.s1 s2).bm {o with D:=H.gn f2 λ_=> []} y:=⟨_,rfl⟩;have ew:bJ aV gd:=by rw[B];exact eu
 have bu:Ext aV aV.drew:=cf _;have dg:Var aV.drew S.st (g6 S.T.aZ S.T.C.D.d S.T.C.c S.T.sb S.l S.u S.gen S.now S.first S.pending S.keys S.failed) 158:=er.ext bu;have ex:=et.ext bu;have ey:=ew.ext bu;have bv:gd.E=S.T.E:=by rw[B];rfl
 refine⟨rfl,aW ⟨λ_=>False,id,gO ex ⟨_,rfl,id,_,by rw[aw];exact dg.cell,_,rfl,?_⟩⟩⟩;rw[aw,cy,bE];refine Ig dg G λdh di dj=>?_;have ez:=ey.jA (by rw[bv];exact h.es) dj;obtain⟨bG,bI⟩:=dI di (i:=13) (by simp[g6]);have dl:=dN di (i:=13) (.int .u64 ((S.gen+1:Nat):Int));have eA:=dk dh S.st 13 (.int .u64 ((S.gen+1:Nat):Int));refine⟨_,rfl,by rw[aw];exact bG,by rw[aw];exact bI,aW ?_⟩;rw[aw,cy];obtain⟨eB,eC⟩:=dI dl (i:=16) (by simp[g6]);have dm:=dN dl (i:=16) (0:Int);have ci:=eA.trans (dk _ S.st 16 (0:Int));refine⟨_,rfl,by rw[aw];exact eB,by rw[aw];exact eC,aW ?_⟩;rw[aw,cy];generalize (dh.setCell ⟨S.st,13,none⟩ (.int .u64 ((S.gen+1:Nat):Int))).setCell ⟨S.st,16,none⟩ (0:Int)=dp at dm ci⊢;have eD:=ez.jA (by rw[bv];exact h.es) ci;have cj:Ext dp dp.drew:=cf _;have ck:=dm.ext cj;have eE:=eD.ext cj;refine aW ⟨_,rfl,id,_,ck.cell,_,rfl,id,_,by rw[aw];exact ck.cell,?_⟩;have eF:IntKind.wrap .u64 (((S.gen+1:Nat):Int)+1)=((S.gen+2:Nat):Int):=by rw[gR I I];omega
 rw[eF];have fk:gd.gen=S.gen+1:=by rw[B];exact dw
 have dq:gd.aZ=S.T.aZ:=by rw[B];rfl
 have dr:=Ib eE (gen:=S.gen+2) I I;rw[dq]at dr;refine dr.use ?_;rintro _ eG ⟨rfl,eJ,ds⟩;have eK:=ck.ab ds (h.t.c8 _ h.es).1;have eL:∀q,(gd.my (S.gen+2)).M q->S.T.M q\/w.heap.size<=q:=λq a=>by
  rw[B]at a;rcases a with a|a|a|a
  .exact(aT q a).imp .inl id
  .exact .inl (.inr (.inl a))
  .rcases de q a with h1|h1
   .exact .inl (.inr (.inr (.inl h1)))
   .have:=ar.size;exact .inr I
  .exact .inl (.inr (.inr (.inr a)))
 refine⟨rfl,⟨S.st,gd.my (S.gen+2),S.l,G,S.gen+1,S.now,S.first,0,S.keys,S.failed⟩,⟨rfl,?_,by rw[B];rfl,rfl,?_,λa=>?_,?_,eL,bv,by rw[B];rfl⟩,rfl,.inl ⟨rfl,⟨⟨?_,eJ,?_,?_,rfl,?_,?_⟩,?_,h.bj,?_,?_,h.fQ,h.keys,cL _,λ_=>⟨?_,?_,?_⟩,λhf=>?_⟩,am,rfl,by rw[ae],by rw[ae],rfl⟩⟩
 .rw[B];exact ch
 .rw[B];show H.aQ<=_;rw[N];show bt.aQ<=_;omega
 .rw[B]
  show a6.quiet (H.gn _ _);rw[N];refine⟨λk=>r7 bt ?_,?_⟩
  .have bq:=(jO (k:=2) (m:=k) (.inr rfl) Q.raw.dev.f4 (c0 a (k+1))).1
   rw[O];exact bq
  .show(bt.cg.set 3 (gA (bt.cg.getD 3 0)).2).getD 3 0= -1
   have bq:=Q.raw.dev.f4;have fl:bt.cg.length=4:=by rw[O];show(o.D.cg.set 2 _).length=4;rw[df];exact bq
   rw[c5 a,fm (by rw[df];omega),ig];rfl
 .have hs:∀q,q=S.st->S.W q:=λq e=>by rw[e];exact h.wa
  have au:ad S.W w aV:=cu b7 aX λq _ a=>h.lS (.inr (.inr (.inl a)));have ay:=cu au bu λq _ a=>a.elim;have eM:=cu ay dj λq _ a=>hs q a;have eN:=cu eM ci λq _ a=>hs q a;have eO:=cu eN cj λq _ a=>a.elim;exact cu eO ds λq _ a=>h.lS (.inr (.inl a))
 .show Var eG S.st (g6 gd.aZ gd.C.D.d gd.C.c gd.sb _ _ _ _ _ _ _ _) _
  rw[dq,show gd.C.D.d=S.T.C.D.d by rw[B];exact ch,show gd.C.c=S.T.C.c by rw[B];exact be,show gd.sb=S.T.sb by rw[B];rfl];exact eK
 .show gd.E S.st
  rw[bv];exact h.es
 .rw[B];exact az
 .refine⟨aY.1,aY.2.1,?_,by show S.gen+1+2<_;omega,aY.2.2.2.2⟩
  show G.bw+1<=S.gen+1;rw[ae];show S.u.bw+1+1<=_;omega
 .intro j b
  have b:gd.g j=true:=b;show gd.C.D.bL j=true;rw[B]at b⊢;exact b
 .refine h.ok.agree (by rw[B];rfl) (by rw[B];rfl) λx hx=>?_
  rw[B];exact(aB x λe=>by
   have:=(h.f x).2 (.inl hx);rw[e,cq]at this;cases this).symm
 .intro j
  have:(gd.my (S.gen+2)).f j=f2 j:=by rw[B];rfl
  rw[this];exact az.g j
 .intro x hx
  exact⟨(az.two x hx).1,(az.two x hx).2.1⟩
 .intro e
  have h1:=e S.T.n;have h2:(gd.my (S.gen+2)).C.D.bL S.T.n=f2 S.T.n:=by rw[B];rfl
  rw[h2,cz.pf S.T.n (bl _)]at h1;cases h1
 .rw[B];rfl
 .have eQ:f2 S.u.map=false:=by rw[bB];unfold dn;rw[if_pos rfl]
  have h1:=rY (s:=λi=>f2 i||f2 i) (t:=dn (λi=>f2 i||f2 i) S.u.map true) (k:=S.u.map) (by simp[eQ]) (by simp[dn]) (λi hi=>by simp[dn,hi]) (n:=S.T.n) cp.2.2.2.1;have h2:=mn (dn (λi=>f2 i||f2 i) S.u.map true) S.T.n;have fn:cl (gd.my (S.gen+2))=S.T.n-eY (λi=>f2 i||f2 i) S.T.n:=by rw[B];rfl
  show 1<=cl (gd.my (S.gen+2));omega
 .have hf:S.failed=true:=hf
  rw[am]at hf;cases hf
end
theorem CY(a b:Int)(w:J)(T:TypeId)(k:IntKind):Sem.run aj (Builtin.max_ #[T,T] T #[.int k a,.int k b]) w=.ok (.int k (max a b)) w:=by
 simp only[Builtin.max_];unfold Builtin.max2;simp;split<;>omega
theorem c6.trans{S ax b:bZ}{w w' c:J}{k l:Nat}(h1:c6 k S ax w w')(h2:c6 l ax b w' c):c6 (k+l) S b w c:=
 ⟨h2.st.trans h1.st,h2.d.trans h1.d,h2.n.trans h1.n,h2.l.trans h1.l,by have:=h1.aQ;have:=h2.aQ;omega,λh=>h2.q (h1.q h),cu h1.ab h2.ab λq f a=>h1.back f a,λq a=>by
  have:=h1.ab.size
  rcases h2.c7 q a with e|e
  .exact h1.c7 q e
  .exact .inr I,h2.E.trans h1.E,h2.G.trans h1.G⟩
theorem c6.mono{S ax:bZ}{w w':J}{k l:Nat}(h:c6 k S ax w w')(a:k<=l):c6 l S ax w w':={h with aQ:=by have:=h.aQ;omega}
theorem c6.ext{w w':J}(S:bZ)(h:Ext w w'):c6 0 S S w w':=⟨rfl,rfl,rfl,rfl,bl _,λh=>h,h.mono λ_ _ h=>h.elim,λq a=>.inl a,rfl,rfl⟩
section
variable {w w' w1:J}{T:aN}{S ax eF:bZ}{pages aG:O Nat}{L aM:O aH}
theorem gi.ext(h:gi w S aG aM)(hx:Ext w w'):gi w' S aG aM:=⟨h.v.ext hx,h.t.ext hx,h.es,h.fo,h.gen,h.num,h.bL⟩
theorem c_.ext(h:c_ w S pages L aG aM)(hx:Ext w w'):c_ w' S pages L aG aM:=⟨h.togi.ext hx,h.ok,h.bj,h.f,h.two,h.fQ,h.keys,h.c0,h.live,h.dead⟩
theorem c_.jA{iQ:Nat}(h:c_ w S pages L aG aM)(a:S.T.E iQ)(hs:iQ≠S.st)(hc:ad (λq=>q=iQ) w w'):c_ w' S pages L aG aM:=
 ⟨⟨h.v.ab hc λe=>hs e.symm,h.t.jA a hc,h.es,h.fo,h.gen,h.num,h.bL⟩,h.ok,h.bj,h.f,h.two,h.fQ,h.keys,h.c0,h.live,h.dead⟩
theorem Ih(h:c_ w S pages L aG aM):aR aj 48 #[.pointer (some S.st)] w (λv w'=>v=S.failed/\w=w'):=by
 refine okF (af.xm (some S.st)) aA.xm func48 ?_;exact⟨λ_=>⟨_,rfl,_,by rw[aw];exact h.v.cell,rfl,rfl⟩,λa=>(by cases a)⟩
theorem Ii(h:c_ w S pages L aG aM):aR aj 46 #[.pointer (some S.st)] w (λv w'=>v=.agg S.u.c.toArray/\Ext w w'):=by
 refine okF (af.tQ (some S.st)) aA.tQ func46 ?_;(delta af.tQ ft ak U xd r1 br;dsimp only);refine bh (vs:=gm.c) rfl λw1 b a g=>⟨λd=>(by cases d),λ_=>?_⟩;have hs:=h.v.ext a;refine⟨_,rfl,_,by rw[aw];exact hs.cell,_,by rw[aw,aw];exact hs.cell,_,by rw[aw,aw];exact hs.cell,_,by rw[aw,aw];exact hs.cell,_,by rw[aw,aw];exact hs.cell,_,by rw[aw,aw];exact hs.cell,jj b rfl S.u λah e f i=>gO e ⟨rfl,Ext.cn a f (bl _)⟩⟩
def fp(S:bZ):Nat:=cl S.T-2*S.T.aI-4
theorem yV(h:c_ w S pages L aG aM):aR aj 82 #[.pointer (some S.st)] w (λv w'=>v=.int .i64 (fp S:Nat)/\Ext w w'):=by
 refine okF (af.t_ (some S.st)) aA.t_ func82 ?_;(delta af.t_ eP aC av;dsimp only);refine⟨_,rfl,_,h.v.cell,(Cu h.t).use ?_⟩;rintro _ e ⟨rfl,a⟩;refine⟨_,_,rfl,_,rfl,_,by rw[aw];exact(h.v.ext a).cell,(ye (h.t.ext a).s).use ?_⟩;rintro _ b ⟨rfl,c⟩;have j:=h.t.s.bC;have k:=h.t.num.2.1;have l:=mn (λi=>S.T.f i||S.T.g i) S.T.n;have d:(S.T.n:Int)-eY (λi=>S.T.f i||S.T.g i) S.T.n=((cl S.T:Nat):Int):=by unfold cl;omega
 have m:cl S.T<=S.T.n:=Nat.sub_le _ _;rw[d,bA (n:=2*(S.T.aI:Int)) I I];refine⟨_,rfl,_,b,CY _ _ b _ _,?_,Ext.trans a c⟩;rw[bA (n:=((cl S.T:Nat):Int)-2*(S.T.aI:Int)) I I,bA I I];unfold fp
 congr 1
 omega
theorem Ij(h:c_ w S pages L aG aM):aR aj 58 #[.pointer (some S.st)] w (λv w'=>v=.int .i64 (fp S:Nat)/\Ext w w'):=by
 refine okF (af.xn (some S.st)) aA.xn func58 ?_;refine⟨λa=>(by cases a),λ_=>(yV h).use ?_⟩;rintro _ w1 ⟨rfl,hx⟩;exact⟨_,rfl,rfl,hx⟩
end
def ia(c:Prop)(S ax:bZ)(pages:O Nat)(L:O aH)(aG:O Nat)(aM:O aH)(v:aa)(w':J):Prop:=
 (v=.int .i64 0/\c/\c_ w' ax pages L pages L/\ax.failed=false/\ax.gen=S.gen+1/\ax.u.clock=S.now/\ax.u.bw=S.u.bw+1/\ax.pending=0)\/
 (v=.int .i64 3/\¬S.T.C.D.quiet/\c_ w' ax aG aM aG aM/\ax.failed=true/\ax.u=S.u/\ax.gen=S.gen/\(∀j,S.T.g j=true->ax.V j=S.V j)/\((∀j,S.T.g j=true->ax.T.C.D.dH j=[])\/(c/\r9 ax S.gen S.T.g pages L S.now (S.u.bw+1))))
theorem qq.x{c:Prop}{S:bZ}{pages aG:O Nat}{L aM:O aH}{w w':J}{v:aa}(h:qq S pages L aG aM w v w')(hc:c):∃ax,c6 100 S ax w w'/\ax.now=S.now/\ia c S ax pages L aG aM v w':=by
 obtain⟨ax,h1,h2,a⟩:=h;refine⟨ax,h1,h2,?_⟩;rcases a with ⟨a1,a2,a3⟩|⟨a1,a2,a3,a4,a5,c3,dw,dh⟩
 .exact .inl ⟨a1,hc,a2,a3⟩
 .exact .inr ⟨a1,a2,a3,a4,a5,c3,dw,.inr ⟨hc,dh⟩⟩
theorem ia.val{c:Prop}{S ax:bZ}{pages aG:O Nat}{L aM:O aH}{w':J}{v:aa}(h:ia c S ax pages L aG aM v w'):∃n:Int,v=n:=by
 rcases h with ⟨a,_⟩|⟨a,_⟩<;>exact⟨_,a⟩
def mz(S ax:bZ)(pages:O Nat)(L:O aH)(aG:O Nat)(aM:O aH)(v:aa)(w':J):Prop:=
 (v=.int .i64 0/\S.pending+1<S.l.batch/\c_ w' ax pages L aG aM/\ax.failed=false/\ax.gen=S.gen/\ax.u=S.u/\ax.pending=S.pending+1/\ax.first=(if S.pending=0 then S.now else S.first)/\∀j,S.T.g j=true->ax.V j=S.V j)\/
 ia (S.l.batch<=S.pending+1) S ax pages L aG aM v w'
section
variable {w w' w1:J}{T:aN}{S ax eF:bZ}{pages aG:O Nat}{L aM:O aH}
theorem Ik{d:Int}(b:gi w S aG aM)(y:S.failed=false)(ok:gh S.T pages L)(bj:pages.Nodup)(f:∀no,S.T.f no=true↔no∈pages\/no<2\/no=S.u.map)(two:∀x∈pages,2<=x/\x≠S.u.map)(fQ:∀p∈L,cw p.1/\p.2.length<=24)
 (Y:¬S.T.C.D.ro/\S.T.C.D.dH=(λ_=> [])/\1<=cl S.T) (Z:(S.keys:Int)+d=L.length) (ar:S.pending<1000) (aa:L.length<4096) (az:S.keys<100000) (ab:S.T.C.D.aQ<=800000000) (ac:S.gen<=1000000000):
 aR aj 84 #[.pointer (some S.st),d] w (λv w'=>∃ax,c6 100 S ax w w'/\ax.now=S.now/\mz S ax pages L aG aM v w'):=by
 refine okF (af.uc (some S.st) d) aA.uc func84 ?_;(delta af.uc r1 st av ak br aC;dsimp only);have O:=b.num;have aB:S.T.M S.st:=.inr (.inr (.inr (.inl b.es)));obtain⟨au,ay,g,z,A⟩:=b.set (i:=17) (x:=L.length) (by decide);refine⟨_,rfl,_,by rw[aw];exact b.v.cell,_,rfl,by rw[aw];exact au,by rw[aw];exact ay,aW ?_⟩;rw[aw,cy,Z,bA (n:=(L.length:Int)) I I];generalize aD:w.setCell ⟨S.st,17,none⟩ L.length=ae at g z A⊢;obtain⟨o,t⟩:∃o,o=if S.pending=0 then S.now else S.first:=⟨_,rfl⟩
 refine iE (λk=>Var k S.st (g6 S.T.aZ S.T.C.D.d S.T.C.c S.T.sb S.l S.u S.gen S.now o S.pending L.length S.failed) 158/\bJ k S.T/\ad (λq=>q=S.st) w k) (λaE P=>?_) ?_
 .refine⟨_,rfl,_,by rw[aw];exact g.cell,λB=>?_,λB=>P _ ⟨?_,z,A⟩⟩
  .have h0:S.pending=0:=by
    have:(S.pending:Int)=0:=by simpa using B
    omega
   obtain⟨E,F⟩:=dI g (i:=15) (by simp[bZ.cells,g6]);have ah:=dN g (i:=15) (.int .u64 (S.now:Int));have Q:=dk ae S.st 15 (.int .u64 (S.now:Int));refine⟨_,rfl,_,by rw[aw];exact g.cell,_,rfl,by rw[aw];exact E,by rw[aw];exact F,aW (P _ ⟨?_,?_,?_⟩)⟩
   .rw[aw,cy,t,if_pos h0];exact ah
   .rw[aw,cy];exact z.jA b.es Q
   .rw[aw,cy];exact A.trans Q
  .have h0:¬S.pending=0:=by
    have:¬(S.pending:Int)=0:=by simpa using B
    omega
   rw[t,if_neg h0];exact g
 rintro k ⟨G,ai,al⟩;obtain⟨E,F⟩:=dI G (i:=16) (by simp[g6]);have R:=dN G (i:=16) (.int .i64 ((S.pending+1:Nat):Int));have H:=dk k S.st 16 (.int .i64 ((S.pending+1:Nat):Int));have am:IntKind.wrap .i64 ((S.pending:Int)+1)=((S.pending+1:Nat):Int):=by rw[bA I I];omega
 refine⟨_,rfl,_,by rw[aw];exact G.cell,_,rfl,by rw[aw];exact E,by rw[aw];exact F,aW ?_⟩;rw[aw,cy,am];have U:=ai.jA b.es H;generalize aF:k.setCell ⟨S.st,16,none⟩ (.int .i64 ((S.pending+1:Nat):Int))=r at R H U⊢;have J:Ext r r.drew:=cf _;have K:=R.ext J;have an:=U.ext J;have ao:ad (λq=>q=S.st) w r.drew:=cu (al.trans H) J λq _ N=>N.elim;obtain⟨m,a⟩:∃m:bZ,m={S with first:=o,pending:=S.pending+1,keys:=L.length}:=⟨_,rfl⟩;have ap:o<=S.now:=by rw[t];split<;>omega
 have V:c_ r.drew m pages L aG aM:=by
  rw[a];exact⟨⟨K,an,b.es,b.fo,b.gen,⟨O.1,ap,O.2.2⟩,b.bL⟩,ok,bj,f,two,fQ,rfl,by show S.pending+1<=1000;omega,λ_=>Y,λhf=>by have hf:S.failed=true:=hf;rw[y]at hf;cases hf⟩
 have W:c6 0 S m w r.drew:=by
  rw[a];exact⟨rfl,rfl,rfl,rfl,bl _,λh=>h,ao.mono λq _ e=>by rw[e];exact b.wa,λq N=>.inl N,rfl,rfl⟩
 refine aW ⟨_,rfl,id,_,by rw[aw];exact K.cell,_,rfl,id,_,by rw[aw,aw];exact K.cell,λs=>?_,λs=>?_⟩
 .have s:((S.pending+1:Nat):Int)>=(S.l.batch:Int):=b8 s
  have X:=yU V (by rw[a];exact y) aa (by rw[a];exact ab) (by rw[a];exact ac);rw[show m.st=S.st by rw[a]]at X;refine X.use ?_;intro v aH aq;obtain⟨ax,r1,b3,ag⟩:=aq.x (c:=S.l.batch<=S.pending+1) I;obtain⟨n,rfl⟩:=ag.val;refine⟨n,rfl,ax,(W.trans r1).mono I,by rw[b3,a],.inr ?_⟩;rw[a]at ag;exact ag
 .have s:¬((S.pending+1:Nat):Int)>=(S.l.batch:Int):=cv s
  exact⟨m,W.mono I,by rw[a],.inl ⟨rfl,I,V,by rw[a];exact y,by rw[a],by rw[a],by rw[a],by rw[a];exact t,λj _=>by rw[a];rfl⟩⟩
theorem CZ(h:c_ w S pages L aG aM)(a:L.length<4096)(b:S.T.C.D.aQ<=800000000)(d:S.gen<=1000000000):
 aR aj 34 #[.pointer (some S.st)] w (λv w'=>(S.failed=true/\v=.int .i64 8/\w=w')\/(S.failed=false/\∃ax,c6 100 S ax w w'/\ax.now=S.now/\ia True S ax pages L aG aM v w')):=by
 refine okF (af.tN (some S.st)) aA.tN func34 ?_;(delta af.tN ak bc aC;dsimp only);refine⟨λe=>(by cases e),λ_=>⟨_,rfl,S.failed,by rw[aw];exact h.v.cell,λhf=>.inl ⟨hf,rfl,rfl⟩,λhf=>(yU h hf a b d).use ?_⟩⟩;intro v w' f;obtain⟨ax,r1,b3,ag⟩:=f.x (c:=True) trivial;obtain⟨n,rfl⟩:=ag.val;exact⟨n,rfl,.inr ⟨hf,ax,r1,b3,ag⟩⟩
end
section
variable {w w' w1:J}{T ao:aN}{S ax eF:bZ}{pages aG:O Nat}{L aM:O aH}{k:Nat}
def bZ.b1(S:bZ)(ao:aN):bZ:={S with T:=ao}
theorem gi.to(h:gi w S aG aM)(ht:bJ w' ao)(a:bQ S.T ao w w' k)(f:ao.E=S.T.E)(l:ao.G=S.T.G)(o:∀no,S.T.g no=true->ao.P no=S.T.P no):
 gi w' (S.b1 ao) aG aM/\c6 k S (S.b1 ao) w w'/\(S.b1 ao).V=S.V:=by
 have r:ao.C.D.bg=S.T.C.D.bg:=congrArg (λp=>p.1.1) a.bg;have s:ao.C.D.cg.getD 3 0=S.T.C.D.cg.getD 3 0:=congrArg Prod.snd a.bg;have i:(S.b1 ao).V=S.V:=by
  funext j;show ao.C.D.bg.getD j []=S.T.C.D.bg.getD j [];rw[r]
 refine⟨⟨?_,ht,by show ao.E S.st;rw[f];exact h.es,?_,a.gen.trans h.gen,h.num,λj b=>?_⟩,⟨rfl,a.d,a.n,rfl,a.aQ,λe=>⟨λm=>a.calm m (e.1 _),s.trans e.2⟩,a.ab.mono λq _ e=>h.lS e,a.c7,f,l⟩,i⟩
 .show Var w' S.st (g6 ao.aZ ao.C.D.d ao.C.c ao.sb _ _ _ _ _ _ _ _) _
  rw[a.aZ,a.d,a.c,a.sb];exact h.v.ab a.ab (h.t.jf h.es)
 .show gP _ ao.n _ _ ao.g ao.P _ _
  rw[i,a.n,a.g];exact h.fo.agree (λ_ _=>rfl) λx hx=>(o x ((h.fo.g x).2 (.inl hx))).symm
 .have b:ao.g j=true:=b
  rw[a.g]at b;show ao.C.D.bL j=true;rw[a.bL.1];exact h.bL j b
theorem bQ.ro(h:bQ T ao w w' k):ao.C.D.ro↔T.C.D.ro:=by unfold a6.ro;rw[h.bL.1]
theorem c_.to(h:c_ w S pages L aG aM)(ht:bJ w' ao)(a:bQ S.T ao w w' k)(c:ao.E=S.T.E)(d:ao.G=S.T.G)(b:jh S.T ao):
 c_ w' (S.b1 ao) pages L aG aM/\c6 k S (S.b1 ao) w w'/\(S.b1 ao).V=S.V:=by
 obtain⟨h1,h2,i⟩:=h.togi.to ht a c d λno j=>(b.eN no (by rw[j,Bool.or_true])).1;have l:cl ao=cl S.T:=by unfold cl;rw[a.n,b.f,a.g]
 refine⟨⟨h1,b.ok h.ok λx hx=>(h.f x).2 (.inl hx),h.bj,λno=>by show ao.f no=true↔_;rw[b.f];exact h.f no,h.two,h.fQ,h.keys,h.c0,λhf=>?_,λhf=>?_⟩,h2,i⟩
 .obtain⟨a1,a2,a3⟩:=h.live hf
  exact⟨λe=>a1 (a.ro.1 e),a.bL.2.trans a2,by show 1<=cl ao;rw[l];exact a3⟩
 .obtain⟨a1,a2⟩:=h.dead hf
  exact⟨a.ro.2 a1,a2⟩
theorem Il{n:Nat}(h:c_ w S pages L aG aM)(O:n<18446744073709551616)(B:L.length<4096)(E:S.T.C.D.aQ<=800000000)(F:S.gen<=1000000000):
 aR aj 51 #[.pointer (some S.st),.int .u64 (n:Nat)] w (λv w'=>∃ax,c6 100 S ax w w'/\ax.now=max S.now n/\
  ((v=.int .i64 0/\(S.pending=0\/max S.now n-S.first<S.l.dY)/\c_ w' ax pages L aG aM/\ax={S with now:=max S.now n})\/
   (S.failed=false/\ia (S.pending≠0/\S.l.dY<=max S.now n-S.first) {S with now:=max S.now n} ax pages L aG aM v w'))):=by
 refine okF (af.tR (some S.st) (n:Nat)) aA.tR func51 ?_;(delta af.tR ak br st r1 aC;dsimp only);have G:=h.num;have P:S.T.M S.st:=.inr (.inr (.inr (.inl h.es)));have H:max (S.now:Int) (n:Int)=((max S.now n:Nat):Int):=by omega
 obtain⟨au,ay,t,u,y⟩:=h.set (i:=14) (x:=.int .u64 ((max S.now n:Nat):Int)) (by decide);refine⟨λa=>(by cases a),λ_=>⟨_,rfl,_,by rw[aw];exact h.v.cell,_,w,CY _ _ w _ _,_,rfl,by rw[aw];exact au,by rw[aw];exact ay,aW ?_⟩⟩;rw[aw,cy,H];generalize w.setCell ⟨S.st,14,none⟩ (.int .u64 ((max S.now n:Nat):Int))=g at t u y⊢;have k:Ext g g.drew:=cf _;have j:=t.ext k;have J:ad (λq=>q=S.st) w g.drew:=cu y k λq _ m=>m.elim;obtain⟨b,d⟩:∃b:bZ,b={S with now:=max S.now n}:=⟨_,rfl⟩;rw[←d];have o:c_ g.drew b pages L aG aM:=by
  rw[d];exact⟨⟨j,u.ext k,h.es,h.fo,h.gen,⟨by show max S.now n<_;omega,by show S.first<=max S.now n;omega,G.2.2⟩,h.bL⟩,h.ok,h.bj,h.f,h.two,h.fQ,h.keys,h.c0,h.live,h.dead⟩
 have p:c6 0 S b w g.drew:=by
  rw[d];exact⟨rfl,rfl,rfl,rfl,bl _,λh=>h,J.mono λq _ e=>by rw[e];exact h.wa,λq m=>.inl m,rfl,rfl⟩
 have r:b.now=max S.now n:=by rw[d]
 refine aW ⟨_,rfl,id,_,by rw[aw];exact j.cell,λs=>⟨λ_=>?_,λa=>(by cases a)⟩,λs=>?_⟩
 .have h0:S.pending=0:=by
   have:(S.pending:Int)=0:=by simpa using s
   omega
  exact⟨b,p.mono I,r,.inl ⟨rfl,.inl h0,o,rfl⟩⟩
 .have h0:¬S.pending=0:=by
   have:¬(S.pending:Int)=0:=by simpa using s
   omega
  have z:S.failed=false:=by
   cases hf:S.failed with
   |false=>rfl
   |true=>exact absurd (h.dead hf).2.2.2 h0
  have K:IntKind.wrap .u64 (((max S.now n:Nat):Int)-(S.first:Int))=((max S.now n-S.first:Nat):Int):=by rw[gR I I];omega
  refine⟨_,rfl,id,_,by rw[aw];exact j.cell,_,rfl,id,_,by rw[aw];exact j.cell,_,rfl,id,_,by rw[aw,aw];exact j.cell,?_⟩;rw[K];refine⟨λa=>?_,λa=>?_⟩
  .have a:((max S.now n-S.first:Nat):Int)<(S.l.dY:Int):=b8 a
   exact⟨b,p.mono I,r,.inl ⟨rfl,.inr I,o,rfl⟩⟩
  .have a:¬((max S.now n-S.first:Nat):Int)<(S.l.dY:Int):=cv a
   have A:=yU o (by rw[d];exact z) B (by rw[d];exact E) (by rw[d];exact F);rw[show b.st=S.st by rw[d]]at A;refine A.use ?_;intro v Q N;obtain⟨ax,r1,b3,ag⟩:=N.x (c:=S.pending≠0/\S.l.dY<=max S.now n-S.first) ⟨h0,I⟩;obtain⟨n,rfl⟩:=ag.val;exact⟨n,rfl,ax,(p.trans r1).mono I,b3.trans r,.inr ⟨z,ag⟩⟩
theorem Im{tk:Y}{key:Key}(h:c_ w S pages L aG aM)(b:S.T.C.D.aQ<=800000000)(c:Src 1 w tk (aJ key))(d:∀q,aB tk q->q<w.heap.size/\¬S.T.M q):
 aR aj 55 #[.pointer (some S.st),tk] w (λv w'=>∃aF,c_ w' (S.b1 (S.T.bm aF S.T.P)) pages L aG aM/\c6 30 S (S.b1 (S.T.bm aF S.T.P)) w w'/\yy S.T L key w v w'):=by
 refine okF (af.tS (some S.st) tk) aA.tS func55 ?_;(delta af.tS ak kA;dsimp only);refine⟨λe=>(by cases e),λ_=>⟨_,rfl,_,h.v.cell,(yz h.t h.ok b c d).use ?_⟩⟩;intro v w' a;have f:=a;obtain⟨aF,h1,h2,g,i⟩:=a;obtain⟨a1,a2,_⟩:=h.to h1 h2 rfl rfl (.bm g);have fin:(λv w'=>∃aF,c_ w' (S.b1 (S.T.bm aF S.T.P)) pages L aG aM/\c6 30 S (S.b1 (S.T.bm aF S.T.P)) w w'/\yy S.T L key w v w') v w':=⟨aF,a1,a2,f⟩;rcases i with ⟨rfl,_⟩|⟨t,x,rfl,_⟩|⟨rfl,_⟩
 .exact⟨⟨none,0,0⟩,_,_,rfl,fin⟩
 .exact⟨t,_,_,rfl,fin⟩
 .exact⟨⟨none,0,0⟩,_,_,rfl,fin⟩
end
theorem yW(k v:Key):∀L:O aH,(e3 L k v).length=(ec L k).length+1
 | []=>rfl
 |p::L=>by
  have b:=yW k v L
  unfold e3 ec at b⊢
  simp only[cz,e8,qJ]at b⊢
  by_cases h1:bK p.1 k
  .have h2:¬bK k p.1:=j6 h1
   have a:p.1≠k:=λe=>by rw[e]at h1;exact j6 h1 h1
   rw[if_pos (dP h1),if_neg (by simpa using h2),if_pos (dP a)]
   simp only[e8];omega
  .by_cases h2:bK k p.1
   .have a:p.1≠k:=λe=>h1 (by rw[e]at h2;exact absurd h2 (λh=>j6 h h))
    rw[if_neg (by simpa using h1),if_pos (dP h2),if_pos (dP a)]
    simp only[e8];omega
   .have a:p.1=k:=by
     rcases vf p.1 k with h|h|h
     .exact absurd h h1
     .exact h
     .exact absurd h h2
    rw[if_neg (by simpa using h1),if_neg (by simpa using h2),if_neg (by simpa using a)];omega
theorem we{k:Key}:∀ {L:O aH},gK L->L.length=(ec L k).length+(if eA L k=none then 0 else 1)
 | [],_=>rfl
 |p::L,h=>by
  have h0:=jF.1 h
  have d:=we (k:=k) h0.2
  by_cases e:p.1=k
  .have h1:∀q∈L,q.1≠k:=λq b c=>by
    have:=h0.1 q b
    rw[e,c]at this
    exact j6 this this
   have h2:ec (p::L) k=L:=by
    have:ec (p::L) k=ec L k:=by unfold ec;rw[qJ];simp[e]
    rw[this,oe h1]
   have a:eA (p::L) k≠none:=by unfold eA;simp[e]
   rw[h2,if_neg a];rfl
  .have h2:(ec (p::L) k).length=(ec L k).length+1:=by unfold ec;rw[qJ];simp[e]
   have a:eA (p::L) k=eA L k:=by unfold eA;simp[e]
   rw[h2,a,e8];omega
section
variable {w w' w1:J}{T ao:aN}{S ax cB:bZ}{pages aG:O Nat}{L aM:O aH}{k:Nat}
structure jU(S cB:bZ):Prop where
 u:cB.u=S.u
 gen:cB.gen=S.gen
 now:cB.now=S.now
 first:cB.first=S.first
 pending:cB.pending=S.pending
 l:cB.l=S.l
 g:cB.T.g=S.T.g
 V:cB.V=S.V
theorem ia.back{c:Prop}{v:aa}(h:ia c cB ax pages L aG aM v w')(e:jU S cB)(d:c6 k S cB w w1):ia c S ax pages L aG aM v w':=by
 unfold ia at h⊢;rw[e.u,e.gen,e.now,e.g,e.V]at h;exact h.imp id λ⟨a,b,c⟩=>⟨a,λf=>b (d.q f),c⟩
theorem mz.back{v:aa}(h:mz cB ax pages L aG aM v w')(e:jU S cB)(a:c6 k S cB w w1):mz S ax pages L aG aM v w':=by
 unfold mz at h⊢;have:=λh=>ia.back (pages:=pages) (L:=L) (aG:=aG) (aM:=aM) (c:=S.l.batch<=S.pending+1) (v:=v) (ax:=ax) (w':=w') h e a;rw[e.pending,e.l,e.gen,e.u,e.now,e.first,e.g,e.V]at h;exact h.imp id this
theorem r_(b:gi w1 cB aG aM)(d:c6 k S cB w w1)(e:jU S cB)(h:¬S.T.C.D.quiet)(i:cB.T.C.D.dH=λ_=> [])(l:cB.T.C.D.aQ<=900000000):
 aR aj 81 #[.pointer (some S.st),(3:Int)] w1 (λv w'=>v=.int .i64 3/\∃ax,c6 k S ax w w'/\ax.now=S.now/\∀c pages L,ia c S ax pages L aG aM v w'):=by
 have hf:=CW b 3 l;rw[d.st]at hf;refine hf.mono ?_;rintro v w' ⟨rfl,ax,hs,hd,a⟩;refine⟨rfl,ax,d.trans hd,a.now.trans e.now,λc pages L=>.inr ⟨rfl,h,hs,a.failed,a.u.trans e.u,a.gen.trans e.gen,λj f=>?_,.inl λj f=>?_⟩⟩
 .rw[←e.V];unfold bZ.V;rw[a.V]
 .rw[a.sa j,b.t.ca.inv.ke j (b.bL j (by rw[e.g];exact f)),i]
theorem c_.C0{b4:aN}{ef:O aH}{d:Int}(h:c_ w S pages L aG aM)(hf:S.failed=false)(m:bJ w' b4)(b:bQ S.T b4 w w' k)(o:b4.E=S.T.E)(q:b4.G=S.T.G)(r:Cl S.T b4 pages ef)(W:2*S.T.aI+5<=cl S.T)(s:∀p∈ef,cw p.1/\p.2.length<=24)(hd:(S.keys:Int)+d=ef.length)(t:ef.length<4096)(X:S.keys<4096)(y:S.pending<1000)(Y:S.T.C.D.aQ+k<=800000000)(z:S.gen<=1000000000):
 aR aj 84 #[.pointer (some S.st),d] w' (λv i=>(∃n:Int,v=n)/\∃ax dT,c6 (k+100) S ax w i/\ax.now=S.now/\mz S ax dT ef aG aM v i):=by
 obtain⟨⟨dT,Z,A,c9,B,F⟩,H⟩:=r;obtain⟨I,l,J⟩:=h.togi.to m b o q λno K=>(H no K).1;have M:jU S (S.b1 b4):=⟨rfl,rfl,rfl,rfl,rfl,rfl,b.g,J⟩;obtain⟨N,P,_⟩:=h.live hf;have Q:∀j,j<2\/j=S.u.map->j∉pages:=λj c R=>by
  have:=h.two j R;rcases c with c|c
  .omega
  .exact this.2 c
 refine(Ik (d:=d) I hf A c9 (λno=>(F no).trans ?_) (λx hx=>?_) s ⟨λe=>N (b.ro.1 e),b.bL.2.trans P,by show 1<=cl b4;omega⟩ hd y t (by show S.keys<_;omega) (by have:=b.aQ;show b4.C.D.aQ<=_;omega) z).mono ?_
 .rw[h.f no]
  constructor
  .rintro(h1|⟨h1|h1,h2⟩)
   .exact .inl h1
   .exact absurd h1 h2
   .exact .inr h1
  .rintro(h1|h1)
   .exact .inl h1
   .exact .inr ⟨.inr h1,Q no h1⟩
 .rcases B x hx with h1|h1
  .exact h.two x h1
  .have h2:S.T.f x=false:=by cases aa:S.T.f x<;>simp_all
   refine⟨Nat.le_of_not_lt λU=>?_,λV=>?_⟩
   .rw[(h.f x).2 (.inr (.inl U))]at h2;cases h2
   .rw[(h.f x).2 (.inr (.inr V))]at h2;cases h2
 .rintro v i ⟨ax,r1,b3,ag⟩
  refine⟨?_,ax,dT,l.trans r1,b3,ag.back M l⟩;rcases ag with ⟨a,_⟩|a
  .exact⟨0,a⟩
  .exact a.val
theorem pA(w:J)(s:Y):aR aj 79 #[s] w (λv w'=>v=.bool (decide (1<=s.len/\s.len<=24))/\w=w'):=by
 refine okF (af.pA s) aA.pA func79 ?_;refine⟨?_,rfl⟩
 congr 1
 rw[fY,er,cS,cS,cS];omega
theorem C1{tk dm:Y}{key val:Key}(h:c_ w S pages L aG aM)(a5:L.length<4000)(F:S.pending<1000)(a6:S.T.C.D.aQ<=700000000)(am:S.gen<=1000000000)
 (G:Src 1 w tk (aJ key)) (z:∀q,aB tk q->q<w.heap.size/\¬S.T.M q) (U:Src 1 w dm (aJ val)) (V:∀q,aB dm q->q<w.heap.size/\¬S.T.M q):
 aR aj 23 #[.pointer (some S.st),tk,dm] w (λv w'=>(v=.int .i64 1/\¬(cw key/\val.length<=24)/\w=w')\/((cw key/\val.length<=24)/\
  ((S.failed=true/\v=.int .i64 8/\w=w')\/(S.failed=false/\∃ax,c6 300 S ax w w'/\ax.now=S.now/\
    ((v=.int .i64 2/\fp S=0/\c_ w' S pages L aG aM/\ax=S)\/(fp S≠0/\∃dT,mz S ax dT (e3 L key val) aG aM v w')))))):=by
 have an:tk.len=key.length:=by have:=G.len;rw[ey]at this;omega
 have a7:dm.len=val.length:=by have:=U.len;rw[ey]at this;omega
 have a8:=h.t.s.bC;refine okF (af.tL (some S.st) tk dm) aA.tL func23 ?_;(delta af.tL ak aO bc aC kA;dsimp only);refine cq (λb w'=>(b=false↔cw key)/\w=w') (λq a=>⟨λA=>(by cases A),λ_=>(pA w tk).use ?_⟩) ?_
 .rintro _ _ ⟨rfl,rfl⟩
  refine⟨_,rfl,a _ _ ⟨?_,rfl⟩⟩;unfold cw;rw[an,sw,cS]
 rintro b _ ⟨A,rfl⟩;refine⟨λh1=>.inl ⟨rfl,λhg=>?_,rfl⟩,λh1=>?_⟩
 .rcases Bool.or_eq_true_iff.1 h1 with h2|h2
  .rw[A.2 hg.1]at h2;cases h2
  .have:=b8 h2;have:=hg.2;omega
 have hg:cw key/\val.length<=24:=by
  have h2:=nv.1 h1;have W:=cv h2.2;exact⟨A.1 h2.1,I⟩
 refine⟨_,rfl,S.failed,by rw[aw];exact h.v.cell,λhf=>.inr ⟨hg,.inl ⟨hf,rfl,rfl⟩⟩,λhf=>(yV h).use ?_⟩;rintro _ a9 ⟨rfl,l⟩;have r:=h.ext l;obtain⟨ao,ap,_⟩:=h.live hf;refine⟨_,rfl,λH=>.inr ⟨hg,.inr ⟨hf,S,(c6.ext S l).mono I,rfl,.inl ⟨rfl,?_,r,rfl⟩⟩⟩,λH=>?_⟩
 .have:((fp S:Nat):Int)=0:=by simpa using H
  omega
 have B:fp S≠0:=by
  have:¬((fp S:Nat):Int)=0:=by simpa using H
  omega
 refine⟨_,rfl,_,r.v.cell,(yz r.t r.ok I (G.ext l) λq a=>⟨by have:=(z q a).1;have:=l.size;omega,(z q a).2⟩).use ?_⟩;rintro v J ⟨i,X,m,aq,E⟩;obtain⟨o,Z,aa⟩:=r.to X m rfl rfl (.bm aq);have u:c6 30 S (S.b1 (S.T.bm i S.T.P)) w J:=((c6.ext S l).trans Z).mono I;have K:jU S (S.b1 (S.T.bm i S.T.P)):=⟨rfl,rfl,rfl,rfl,rfl,rfl,rfl,aa⟩;have N:(S.b1 (S.T.bm i S.T.P)).T.C.D.dH=λ_=> []:=m.bL.2.trans ap;have a_:i.D.aQ<=S.T.C.D.aQ+30:=m.aQ;have ar:∀n:Int,v=.tuple #[(),false,(3:Int)]->¬S.T.C.D.quiet->aR aj 81 #[.pointer (some S.st),(3:Int)] J (λv w'=>v=.int .i64 3/\∃ax,c6 30 S ax w w'/\ax.now=S.now/\∀c pages L,ia c S ax pages L aG aM v w'):=λ_ _ a=>r_ o.togi u K a N (by show i.D.aQ<=_;omega);have au:∃ (t:Y) (e:ai) (n:Int),v=.tuple #[t,e,n]/\((n=0/\(e=true↔eA L key≠none))\/(n=3/\¬S.T.C.D.quiet)):=by
  rcases E with ⟨rfl,j⟩|⟨t,x,rfl,_,hs,_⟩|⟨rfl,_,O⟩
  .exact⟨⟨none,0,0⟩,false,0,rfl,.inl ⟨rfl,λh=>(by cases h),λh=>absurd (j hg.1) h⟩⟩
  .exact⟨t,true,0,rfl,.inl ⟨rfl,λ_=>by rw[hs];simp,λ_=>rfl⟩⟩
  .exact⟨⟨none,0,0⟩,false,3,rfl,.inr ⟨rfl,λa=>O (a.1 30)⟩⟩
 clear ar E;obtain⟨t,e,n,rfl,av⟩:=au;rcases av with ⟨rfl,he⟩|⟨rfl,Q⟩
 rotate_left
 .refine⟨t,e,3,rfl,λ_=>(r_ o.togi u K Q N (by show i.D.aQ<=_;omega)).use ?_,λh=>(by cases h)⟩
  rintro _ ay ⟨rfl,ax,r1,b3,ag⟩;exact⟨3,rfl,.inr ⟨hg,.inr ⟨hf,ax,r1.mono I,b3,.inr ⟨B,[],.inr (ag _ _ _)⟩⟩⟩⟩
 have ba:=l.size;have bb:=m.ab.size;have ac:∀s:Y,(∀q,aB s q->q<w.heap.size/\¬S.T.M q)->∀q,aB s q->q<J.heap.size/\¬(S.T.bm i S.T.P).M q:=λs hs q a=>⟨by have:=(hs q a).1;omega,λaz=>by
  rcases m.c7 q az with h2|h2
  .exact(hs q a).2 h2
  .have:=(hs q a).1;omega⟩
 have aD:=(G.ext l).ab m.ab λq a j=>(z q a).2 (aN.gl j);have aE:=(U.ext l).ab m.ab λq a j=>(V q a).2 (aN.gl j);have aF:¬(S.T.bm i S.T.P).C.D.ro:=λe=>ao (m.ro.1 e);refine⟨t,e,0,rfl,λh=>(by cases h),λ_=>⟨_,rfl,_,o.v.cell,?_⟩⟩;refine(Hf X aF o.ok I o.bj (λx hx=>(o.f x).2 (.inl hx)) (by show i.D.aQ<=_;omega) aD (ac tk z) aE (ac dm V)).use ?_;rintro v aH (⟨_,aK,_⟩|⟨_,_,b4,ad,y,ae,ah,E⟩)
 .exact absurd hg aK
 have aL:cl (S.T.bm i S.T.P)=cl S.T:=rfl;have aP:(S.T.bm i S.T.P).aI=S.T.aI:=rfl;have aS:2*S.T.aI+5<=cl S.T:=by unfold fp at B;omega
 rcases E with ⟨_,aT,_⟩|⟨rfl,_,⟨dT,aU,aV,c9,aW,aX⟩,R⟩|⟨rfl,O,bd,be,bf,R⟩
 .rw[aL,aP]at aT;omega
 .have hlen:(S.keys:Int)+(if e=true then 0 else 1)=(e3 L key val).length:=by
   have h1:=yW key val L;have h2:=we (k:=key) h.ok.rising;have W:=h.keys;by_cases j:eA L key=none
   .have:¬e=true:=λh=>he.1 h j
    rw[if_pos j]at h2;rw[if_neg this];omega
   .rw[if_neg j]at h2
    rw[if_pos (he.2 j)];omega
  have W:=h.keys;have aY:(e3 L key val).length<4096:=by split at hlen<;>omega
  have al:=λd hd=>o.C0 (d:=d) hf ad y ae ah ⟨⟨dT,aU,aV,c9,aW,aX⟩,R⟩ aS (λp F=>by
   rcases AJ.1 F with rfl|⟨h1,_⟩
   .exact hg
   .exact h.fQ p h1) hd aY (by show S.keys<_;omega) F (by show i.D.aQ+100<=_;omega) am
  refine⟨0,rfl,λh=>(by cases h),λ_=>⟨λht=>(al 0 (by rw[←hlen,if_pos ht];rfl)).use ?_,λht=>(al 1 (by rw[←hlen,if_neg (by rw[ht];decide)];rfl)).use ?_⟩⟩
  all_goals
   rintro v w' ⟨⟨n,rfl⟩,ax,dT,r1,b3,ag⟩;exact⟨n,rfl,.inr ⟨hg,.inr ⟨hf,ax,(u.trans r1).mono I,b3,.inr ⟨B,dT,ag.back K u⟩⟩⟩⟩
 .obtain⟨aZ,a0,a1⟩:=o.togi.to ad y ae ah λno a2=>(R no (by show(S.T.f no||S.T.g no)=true;rw[show S.T.g no=true from a2,Bool.or_true])).1
  have a3:c6 130 S (S.b1 b4) w aH:=(u.trans a0).mono I;have a4:jU S (S.b1 b4):=⟨rfl,rfl,rfl,rfl,rfl,rfl,y.g,a1.trans aa⟩;have Q:¬S.T.C.D.quiet:=λa=>O ((Z.q a).1 100);refine⟨3,rfl,λ_=>(r_ aZ a3 a4 Q (y.bL.2.trans N) (by have:=y.aQ;show b4.C.D.aQ<=_;have e:(S.T.bm i S.T.P).C.D.aQ=i.D.aQ:=rfl;omega)).use ?_,λh=>(by cases h)⟩;rintro _ ay ⟨rfl,ax,r1,b3,ag⟩;exact⟨3,rfl,.inr ⟨hg,.inr ⟨hf,ax,r1.mono I,b3,.inr ⟨B,[],.inr (ag _ _ _)⟩⟩⟩⟩
end
section
variable {w w' w1:J}{T ao:aN}{S ax cB:bZ}{pages aG:O Nat}{L aM:O aH}{k:Nat}
theorem Io{tk:Y}{key:Key}(h:c_ w S pages L aG aM)(aW:L.length<4000)(H:S.pending<1000)(aX:S.T.C.D.aQ<=700000000)(ad:S.gen<=1000000000)
 (J:Src 1 w tk (aJ key)) (o:∀q,aB tk q->q<w.heap.size/\¬S.T.M q):
 aR aj 22 #[.pointer (some S.st),tk] w (λv w'=>(v=.tuple #[false,(1:Int)]/\¬cw key/\w=w')\/(cw key/\
  ((S.failed=true/\v=.tuple #[false,(8:Int)]/\w=w')\/(S.failed=false/\∃ax,c6 300 S ax w w'/\ax.now=S.now/\
    ((v=.tuple #[false,(0:Int)]/\eA L key=none/\c_ w' ax pages L aG aM/\jU S ax/\ax.failed=false)\/
     (v=.tuple #[false,(2:Int)]/\eA L key≠none/\fp S=0/\c_ w' ax pages L aG aM/\jU S ax/\ax.failed=false)\/
     (∃n:Int,v=.tuple #[.bool (n==0),n]/\eA L key≠none/\fp S≠0/\∃dT,mz S ax dT (ec L key) aG aM n w')\/
     (v=.tuple #[false,(3:Int)]/\∀c pages L,ia c S ax pages L aG aM (3:Int) w')))))):=by
 have ae:tk.len=key.length:=by have:=J.len;rw[ey]at this;omega
 have aY:=h.t.s.bC;refine okF (af.tK (some S.st) tk) aA.tK func22 ?_;(delta af.tK ak aO bc kA aC kZ;dsimp only);refine cq (λb w'=>(b=false↔cw key)/\w=w') (λq i=>⟨λu=>(by cases u),λ_=>(pA w tk).use ?_⟩) ?_
 .rintro _ _ ⟨rfl,rfl⟩
  refine⟨_,rfl,i _ _ ⟨?_,rfl⟩⟩;unfold cw;rw[ae,sw,cS]
 rintro b _ ⟨u,rfl⟩;refine⟨λh1=>.inl ⟨rfl,λhg=>?_,rfl⟩,λh1=>?_⟩
 .rw[u.2 hg]at h1;cases h1
 have hg:cw key:=u.1 h1;refine⟨_,rfl,S.failed,by rw[aw];exact h.v.cell,λhf=>.inr ⟨hg,.inl ⟨hf,rfl,rfl⟩⟩,λhf=>?_⟩;obtain⟨ah,al,_⟩:=h.live hf;refine⟨_,rfl,_,h.v.cell,(yz h.t h.ok I J o).use ?_⟩;rintro v aZ ⟨a,am,m,an,y⟩;obtain⟨z,A,V⟩:=h.to am m rfl rfl (.bm an);have B:jU S (S.b1 (S.T.bm a S.T.P)):=⟨rfl,rfl,rfl,rfl,rfl,rfl,rfl,V⟩;have W:(S.b1 (S.T.bm a S.T.P)).T.C.D.dH=λ_=> []:=m.bL.2.trans al;have a0:a.D.aQ<=S.T.C.D.aQ+30:=m.aQ;have ao:∃ (t:Y) (e:ai) (n:Int),v=.tuple #[t,e,n]/\((n=0/\(e=true↔eA L key≠none))\/(n=3/\¬S.T.C.D.quiet)):=by
  rcases y with ⟨rfl,j⟩|⟨t,x,rfl,_,hs,_⟩|⟨rfl,_,K⟩
  .exact⟨⟨none,0,0⟩,false,0,rfl,.inl ⟨rfl,λh=>(by cases h),λh=>absurd (j hg) h⟩⟩
  .exact⟨t,true,0,rfl,.inl ⟨rfl,λ_=>by rw[hs];simp,λ_=>rfl⟩⟩
  .exact⟨⟨none,0,0⟩,false,3,rfl,.inr ⟨rfl,λi=>K (i.1 30)⟩⟩
 clear y;obtain⟨t,e,n,rfl,ap⟩:=ao;rcases ap with ⟨rfl,he⟩|⟨rfl,N⟩
 rotate_left
 .refine⟨t,e,3,rfl,λ_=>(r_ z.togi A B N W (by show a.D.aQ<=_;omega)).use ?_,λh=>(by cases h)⟩
  rintro _ E ⟨rfl,ax,r1,b3,ag⟩;exact⟨3,rfl,.inr ⟨hg,.inr ⟨hf,ax,r1.mono I,b3,.inr (.inr (.inr ⟨rfl,ag⟩))⟩⟩⟩
 refine⟨t,e,0,rfl,λh=>(by cases h),λ_=>⟨λO=>?_,λO=>(yV z).use ?_⟩⟩
 .have j:eA L key=none:=by
   cases aq:eA L key with
   |none=>rfl
   |some x=>
    have:e=true:=he.2 (by rw[aq];simp);rw[this]at O;cases O
  exact .inr ⟨hg,.inr ⟨hf,_,A.mono I,rfl,.inl ⟨rfl,j,z,B,hf⟩⟩⟩
 have j:eA L key≠none:=he.1 (by cases e<;>simp_all);rintro _ E ⟨rfl,F⟩;have l:=z.ext F;have G:c6 30 S (S.b1 (S.T.bm a S.T.P)) w E:=(A.trans (c6.ext _ F)).mono I;have ar:fp (S.b1 (S.T.bm a S.T.P))=fp S:=rfl;rw[ar];refine⟨_,rfl,λQ=>.inr ⟨hg,.inr ⟨hf,_,G.mono I,rfl,.inr (.inl ⟨rfl,j,?_,l,B,hf⟩)⟩⟩,λQ=>?_⟩
 .have:((fp S:Nat):Int)=0:=by simpa using Q
  omega
 have X:fp S≠0:=by
  have:¬((fp S:Nat):Int)=0:=by simpa using Q
  omega
 have a1:=m.ab.size;have a2:=F.size;have au:∀q,aB tk q->q<E.heap.size/\¬(S.T.bm a S.T.P).M q:=λq i=>⟨by have:=(o q i).1;omega,λav=>by
  rcases m.c7 q av with h2|h2
  .exact(o q i).2 h2
  .have:=(o q i).1;omega⟩
 have ay:=(J.ab m.ab λq i j=>(o q i).2 (aN.gl j)).ext F;have az:¬(S.T.bm a S.T.P).C.D.ro:=λe=>ah (m.ro.1 e);refine⟨_,rfl,_,l.v.cell,?_⟩;refine(Hi l.t az l.ok I l.bj (λx hx=>(l.f x).2 (.inl hx)) (by show a.D.aQ<=_;omega) ay au).use ?_;rintro v aD ⟨b4,Z,r,aa,ac,y⟩;have aE:cl (S.T.bm a S.T.P)=cl S.T:=rfl;have aF:(S.T.bm a S.T.P).aI=S.T.aI:=rfl;have aH:2*S.T.aI+5<=cl S.T:=by unfold fp at X;omega
 rcases y with ⟨_,R,_⟩|⟨_,_,R,_⟩|⟨_,_,_,U,_⟩|⟨rfl,_,_,_,aK⟩|⟨rfl,_,K,aL⟩
 .exact absurd hg R
 .exact absurd R j
 .have U:cl (S.T.bm a S.T.P)<2*(S.T.bm a S.T.P).aI+3:=U
  rw[aE,aF]at U;omega
 .have h2:=we (k:=key) h.ok.rising
  rw[if_neg j]at h2;have a3:=h.keys;refine⟨true,0,rfl,λh=>(by cases h),λ_=>(l.C0 (d:= -1) hf Z r aa ac aK aH (λp H=>h.fQ p (hK.1 H).1) (by show(S.keys:Int)+ -1=_;omega) I (by show S.keys<_;omega) H (by show a.D.aQ+100<=_;omega) ad).use ?_⟩;rintro v w' ⟨⟨n,rfl⟩,ax,dT,r1,b3,ag⟩;exact⟨n,rfl,.inr ⟨hg,.inr ⟨hf,ax,(G.trans r1).mono I,b3,.inr (.inr (.inl ⟨n,rfl,j,X,dT,ag.back B G⟩))⟩⟩⟩
 .obtain⟨aP,aS,aT⟩:=l.to Z r aa ac aL
  have aU:c6 130 S (S.b1 b4) w aD:=(G.trans aS).mono I;have aV:jU S (S.b1 b4):=⟨rfl,rfl,rfl,rfl,rfl,rfl,r.g,aT.trans V⟩;have N:¬S.T.C.D.quiet:=λi=>K ((A.q i).1 100);refine⟨false,3,rfl,λ_=>(r_ aP.togi aU aV N (r.bL.2.trans W) (by have a4:b4.C.D.aQ<=a.D.aQ+100:=r.aQ;show b4.C.D.aQ<=_;omega)).use ?_,λh=>(by cases h)⟩;rintro _ E ⟨rfl,ax,r1,b3,ag⟩;exact⟨3,rfl,.inr ⟨hg,.inr ⟨hf,ax,r1.mono I,b3,.inr (.inr (.inr ⟨rfl,ag⟩))⟩⟩⟩
theorem Ip{fL fF:Y}{fr to:Key}{most:Int}(h:c_ w S pages L aG aM)(o:L.length<=4000)(p:S.T.C.D.aQ<=800000000)(r:pages.length<=4000)
 (hf:Src 1 w fL (aJ fr)) (b:∀q,aB fL q->q<w.heap.size/\¬S.T.M q) (ht:Src 1 w fF (aJ to)) (c:∀q,aB fF q->q<w.heap.size/\¬S.T.M q) (d:to.length<=1000000):
 aR aj 42 #[.pointer (some S.st),fL,fF,most] w (λv w'=>∃ao,c_ w' (S.b1 ao) pages L aG aM/\c6 (2*pages.length) S (S.b1 ao) w w'/\jU S (S.b1 ao)/\
  ((∃s:Y,v=.tuple #[s,(0:Int)]/\e7 (λq=>¬ao.M q) w' s ((g9 L fr to).take most.toNat))\/(v=.tuple #[(),(3:Int)]/\¬S.T.C.D.quiet))):=by
 refine okF (af.tO (some S.st) fL fF most) aA.tO func42 ?_;(delta af.tO ak cc;dsimp only);refine⟨λe=>(by cases e),λ_=>⟨_,rfl,_,h.v.cell,(Ht h.t h.ok I I hf b ht c d).use ?_⟩⟩;rintro v w' ⟨ao,i,a,j,k⟩;obtain⟨a1,a2,a3⟩:=h.to i a.to a.E j ⟨a.root,a.aI,a.f,λno _=>⟨congrFun a.P no,a.view no⟩⟩;have hs:jU S (S.b1 ao):=⟨rfl,rfl,rfl,rfl,rfl,rfl,a.to.g,a3⟩;rcases k with ⟨s,rfl,l⟩|⟨rfl,m⟩
 .exact⟨s,0,rfl,ao,a1,a2,hs,.inl ⟨s,rfl,l⟩⟩
 .exact⟨⟨none,0,0⟩,3,rfl,ao,a1,a2,hs,.inr ⟨rfl,λn=>m (n.1 _)⟩⟩
end
theorem ints_at{w:J}{s:Y}{l:O Nat}(h:Src 1 w s (ee l)){i:Nat}(hi:i<l.length):∃A:ae,s.a=some A/\((0:Int)<=(i:Int)/\(i:Int)<(s.len:Int))/\w.cell? (A.add (Int.toNat (i:Int)*1))=some (.int .i64 ((l[i]:Nat):Int)):=by
 obtain⟨A,ar,b,hc⟩:=h.at (i:=i) (v:=.int .i64 ((l[i]:Nat):Int)) (by simp[ee,hi]);exact⟨A,ar,b,hc⟩
theorem Iq{w:J}{t u:Y}{l m:O Nat}(c:Src 1 w t (ee l))(d:Src 1 w u (ee m))(K:l.length<=100000):aR aj 154 #[t,u] w (λv w'=>v=.bool (decide (l=m))/\Ext w w'):=by
 refine okF (af.tw t u) aA.tw func154 ?_;(delta af.tw ak aL r1 av;dsimp only);have o:=c.len;have p:=d.len;rw[nc]at o p;refine⟨λa=>⟨?_,.refl _ _⟩,λq=>?_⟩
 .simp only[bne_iff_ne]at a
  have:l≠m:=λe=>a (by subst e;omega);rw[jq this]
 simp only[bne_eq_false_iff_eq]at q;have r:l.length=m.length:=by omega
 refine⟨λn w'=>∃i:Nat,n=i/\i<=l.length/\Ext w w'/\∀ (j:Nat) (h1:j<l.length) (h2:j<m.length),j<i->l[j]=m[j],λn _=>((l.length:Int)-n).toNat,⟨0,rfl,cL _,.refl _ _,λj _ _ h=>I⟩,?_⟩;rintro _ s ⟨i,rfl,hi,f,g⟩;refine⟨λaK=>aW ?_,λx=>⟨?_,f⟩⟩
 .have aK:i<l.length:=by have:=b8 aK;omega
  have y:i<m.length:=by omega
  have b:Ext w s.drew:=ad.drew f;obtain⟨A,ar,z,C⟩:=ints_at (c.ext b) aK;obtain⟨B,D,E,F⟩:=ints_at (d.ext b) y;have G:IntKind.wrap .i64 ((i:Int)+1)=((i+1:Nat):Int):=by rw[bA I I];rfl
  have H:((l.length:Int)-((i+1:Nat):Int)).toNat<((l.length:Int)-(i:Int)).toNat:=by omega
  rw[G];refine⟨A,ar,z,id,_,C,B,D,E,id,_,F,λa=>⟨?_,b⟩,λhe=>⟨⟨i+1,rfl,aK,b,λj h1 h2 L=>?_⟩,H⟩⟩
  .have a:l[i]≠m[i]:=λe=>by rw[e]at a;simp at a
   have:l≠m:=λe=>a (by subst e;rfl);rw[jq this]
  .rcases dO j i with k|k
   .exact g j h1 h2 k
   .obtain rfl:j=i:=by omega
    have he:((l[j]:Nat):Int)=((m[j]:Nat):Int):=by simpa using he
    omega
 .have hi:i=l.length:=by have:=cv x;omega
  rw[dP (List.ext_getElem r λj h1 h2=>g j h1 h2 I)]
theorem C2:∀ {a b:O Nat},ee a=ee b->a=b
 | [],[],_=>rfl
 | [],_::_,h=>by cases h
 |_::_,[],h=>by cases h
 |x::a,y::b,h=>by
  have h1:=List.cons.inj h
  have h2:Value.int .i64 (x:Int)=Value.int .i64 (y:Int):=h1.1
  injection h2 with _ h2
  rw[C2 (a:=a) (b:=b) h1.2,show x=y from I]
def yX(f:Nat->ai)(n:Nat):O Nat:=(List.range n).filter f
theorem yY(f:Nat->ai):∀n,mo f n=ee (yX f n)
 |0=>rfl
 |n+1=>by
  have a:=yY f n
  unfold mo ee yX at a⊢
  rw[List.range_succ,kQ,fZ,←a]
  show(jP f n++(if f n then [(n:Int)] else [])).map _=_
  rw[fZ]
  cases hf:f n<;>simp[hf]
section
variable {w w' w1:J}{S ax cB:bZ}{pages aG:O Nat}{L aM:O aH}{k:Nat}
theorem C3{fX:Nat->aq aD}{m:Int}(Q:Var w S.st S.cells 158)(ht:bJ w S.T)(es:S.T.E S.st)(ap:gh (S.T.bm S.T.C fX) pages L)(ar:∀x∈pages,∀bj,fX x=some bj->S.T.P x=some bj\/jT S.T x)(c9:pages.Nodup)
 (hf:∀no,S.T.f no=true↔no∈pages\/no<2\/no=S.u.map) (two:∀x∈pages,2<=x/\x≠S.u.map) (a7:2<=S.u.map/\S.u.map<S.T.n) (a8:L.length<=4000) (av:pages.length<=4000) (a9:S.T.C.D.aQ<=900000000):
 aR aj 86 #[.pointer (some ⟨S.st,0,none⟩),.int .i64 m] w (λv w'=>∃ao,bJ w' ao/\c5 S.T ao w w' (2*pages.length)/\ao.G=S.T.G/\
  ((v=.int .i64 0/\m=L.length/\∀x∈pages,S.T.P x=fX x)\/(∃e:Int,v=.int .i64 e/\e≠0/\(¬S.T.C.D.calm (2*pages.length)\/(∃x∈pages,jT S.T x)\/m≠L.length)))):=by
 refine okF (af.ue (some ⟨S.st,0,none⟩) m) aA.ue func86 ?_;(delta af.ue pn ak r1 U aU ba aO;dsimp only);have R:∀x∈pages,S.T.f x=true/\x<S.T.n:=λx hx=>⟨(hf x).2 (.inl hx),Nat.lt_of_not_le λe=>by
  have:=ht.s.pf x e;rw[(hf x).2 (.inl hx)]at this;cases this⟩
 refine⟨_,rfl,_,Q.cell,(HG ht ap R ar c9 I I I).use ?_⟩;rintro v j ⟨ao,X,g,p,ax⟩;have az:∃ (s:Y) (es:O Nat) (n e:Int),v=.tuple #[.slice s.a s.len s.cap,.int .i64 n,.int .i64 e]/\bd 1 3 j s (ee es)/\es.length<=4000/\(∀q,aB s q->S.T.N q\/w.heap.size<=q)/\bJ j (ao.ck S.T.E λq=>S.T.G q\/aB s q)/\
  ((n=L.length/\e=0/\es.Perm pages/\∀x∈pages,S.T.P x=fX x)\/(e≠0/\(¬S.T.C.D.calm (2*pages.length)\/∃x∈pages,jT S.T x))):=by
  rcases ax with ⟨s,es,rfl,t,z,_,aC,aE,aF⟩|⟨e,rfl,aG,aH⟩
  .exact⟨s,es,_,0,rfl,t,by rw[z.length_eq];exact av,λq c=>(aC q c).1,aF,.inl ⟨rfl,rfl,z,aE⟩⟩
  .refine⟨bk,[],0,e,rfl,bd.none _ _ _,by simp,λq c=>(gk q c).elim,X.grow (W:=λ_=>False) (ad.refl _ _) (λ_ h=>h.elim) (λq c=>.inl (by rw[g.E];exact c)) (λq c=>.inr (.inl (by rw[p];exact c.resolve_right λh=>gk q h))) (λq c hg=>(ht.c8 q c).2.2 (hg.resolve_right λh=>gk q h)),.inr ⟨aG,aH.imp And.right id⟩⟩
 obtain⟨s,es,n,e,rfl,t,a_,aI,Z,A⟩:=az;refine⟨s,n,e,rfl,λd=>?_,λd=>?_⟩
 .have d:e=3:=by simpa using d
  refine⟨ao,X,g,p,.inr ⟨e,rfl,I,?_⟩⟩;rcases A with ⟨_,B,_⟩|⟨_,B⟩
  .omega
  .exact B.imp id .inl
 have aa:=Q.ab g.to.ab (ht.jf (by assumption));refine⟨_,rfl,_,by rw[aw,aw];exact aa.cell,aW ?_⟩;have H:Ext j (j.alloc (.cells #[.int .i64 0,.int .i64 1,.int .i64 ((S.u.map:Nat):Int)] 3)):=eS _ _;have bb:s.len=es.length:=by have:=t.1;rw[nc]at this;omega
 obtain⟨ac,ae,au,ay,bc,aJ,aK⟩:=p6.append (cM:=58) (x:=⟨some ⟨j.heap.size,0,none⟩,3,3⟩) (Src.new (T:=3) j [.int .i64 0,.int .i64 1,.int .i64 ((S.u.map:Nat):Int)] 3 rfl) (t.ext H) (xM [0,1,S.u.map]) (by show(2*(s.len+3)+1000)*8<=_;omega);have aL:bd 1 3 ae ac (ee (es++ [0,1,S.u.map])):=by
  have e:ee (es++ [0,1,S.u.map])=ee es++ [.int .i64 0,.int .i64 1,.int .i64 ((S.u.map:Nat):Int)]:=by unfold ee;rw[fZ];rfl
  rw[e];exact ay
 refine⟨ac,ae,au,(Cy aL (by simp;omega)).use ?_⟩;rintro _ F ⟨rfl,aM,r,aN,ag,aP⟩;have J:ad (aB s) j F:=cu (cu (ad.refl _ _) (H.mono λ_ _ h=>h.elim) (V:=aB s) (λq _ h=>h)|>.trans aJ) aM λq aS c=>(aK q c).resolve_right (by have:=H.size;omega);have be:=g.to.ab.size;have fD:ao.ck S.T.E S.T.G=ao:=by rw[←g.E,←p];rfl
 have K:bJ F ao:=by
  have:=Z.grow (E:=S.T.E) (G:=S.T.G) J (λq c _=>.inr (.inr c)) (λq c=>.inl c) (λq c=>.inr (.inl (.inl c))) λq c=>(ht.c8 q c).2.2;rw[←fD];exact this
 have aT:c5 S.T ao w F (2*pages.length):={g with to:=g.to.step (E:=ao.E) (G:=ao.G) J (λq c aS=>(aI q c).resolve_right I) (λq c=>.inl c) λq c=>.inl c};have aV:¬aB s S.st:=λc=>(Z.c8 S.st (by assumption)).2.2 (.inr c);have aX:=aa.ab J aV;refine⟨rfl,cq (λb w'=>((b=true->e≠0\/n≠m)/\(b=false->e=0/\n=m))/\Ext F w') (λq c=>⟨λk=>c _ _ ⟨⟨λ_=>?_,λh=>(by cases h)⟩,.refl _ _⟩,λk=>?_⟩) ?_⟩
 .rcases Bool.or_eq_true_iff.1 k with h1|h1
  .exact .inl (by simpa using h1)
  .exact .inr (by simpa using h1)
 .obtain⟨h1,h2⟩:=nv.1 k
  have h1:e=0:=by simpa using h1
  have h2:n=m:=by simpa using h2
  have hu:=GI K.s;rw[g.to.sb,g.to.n,g.f]at hu;refine⟨_,rfl,_,by rw[aw];exact aX.cell,hu.use ?_⟩;rintro _ bf ⟨aY,rfl,ah,ai,_⟩;have aZ:r.length<=100000:=by rw[ag.length_eq];simp;omega
  rw[yY]at ah;refine⟨aY,rfl,(Iq (aN.ext ai).src ah.src aZ).use ?_⟩;rintro _ bg ⟨rfl,a0⟩;have a1:r=yX S.T.f S.T.n:=by
   rcases A with ⟨_,_,z,_⟩|⟨d,_⟩
   rotate_left
   .exact absurd h1 d
   have al:r.Perm (pages++ [0,1,S.u.map]):=ag.trans (z.append_right _);have a2:(pages++ [0,1,S.u.map]).Nodup:=by
    refine oQ.2 ⟨c9,by simp;omega,λx hx y o e=>?_⟩;have:=two x hx;subst e;simp only[cU,eL,eO]at o;rcases o with o|o|o
    .omega
    .omega
    .exact this.2 o
   have a3:r.Nodup:=al.nodup_iff.2 a2;have a4:r.Pairwise λa b=>a<b:=(aP.and a3).imp λh=>by have:=h.1;have:=h.2;omega
   have am:=H5 (f:=S.T.f) (n:=S.T.n) a4 λx=>by
    rw[al.mem_iff,cT,hf x];simp only[cU,eL,eO];constructor
    .rintro(i|i|i|i)
     .exact⟨(R x i).2,.inl i⟩
     .exact⟨I,.inr (.inl I)⟩
     .exact⟨I,.inr (.inl I)⟩
     .exact⟨I,.inr (.inr i)⟩
    .rintro⟨_,i|i|i⟩
     .exact .inl i
     .exact .inr I
     .exact .inr I
   rw[yY]at am;exact C2 am
  exact⟨_,rfl,c _ _ ⟨⟨λh=>(by rw[dP a1]at h;cases h),λ_=>⟨h1,h2⟩⟩,Ext.trans ai a0⟩⟩
 .rintro b bh ⟨⟨a5,a6⟩,M⟩
  have an:=(aT.trans (c5.ext ao M)).mono (l:=2*pages.length) I;refine⟨λk=>⟨ao,K.ext M,an,p,.inr ⟨4,rfl,by decide,?_⟩⟩,λk=>⟨ao,K.ext M,an,p,.inl ⟨rfl,?_⟩⟩⟩
  .rcases A with ⟨h1,h2,_⟩|⟨_,h2⟩
   .rcases a5 k with d|d
    .exact absurd h2 d
    .exact .inr (.inr (by rw[←h1];exact λe=>d e.symm))
   .exact h2.imp id .inl
  .obtain⟨h1,h2⟩:=a6 k
   rcases A with ⟨d,_,_,B⟩|⟨d,_⟩
   .exact⟨by rw[←h2];exact d,B⟩
   .exact absurd h1 d
end
section
variable {w w' w1:J}{S ax cB:bZ}{pages aG:O Nat}{L aM:O aH}{k:Nat}
theorem Ir(h:c_ w S pages L aG aM)(c:S.T.C.D.quiet)(d:L.length<=4000)(i:pages.length<=4000)(j:S.T.C.D.aQ<=900000000):
 aR aj 25 #[.pointer (some S.st)] w (λv w'=>v=.int .i64 0/\∃ao,c_ w' (S.b1 ao) pages L aG aM/\c6 (2*pages.length) S (S.b1 ao) w w'/\jU S (S.b1 ao)):=by
 refine okF (af.tM (some S.st)) aA.tM func25 ?_;(delta af.tM ak r1 aC;dsimp only);have b:=h.fo.qp;refine⟨λk=>(by cases k),λ_=>⟨_,rfl,_,by rw[aw];exact h.v.cell,(C3 (fX:=S.T.P) h.v h.t h.es h.ok (λ_ _ _ h=>.inl h) h.bj h.f h.two ⟨b.2.2.2.2.1,b.2.2.2.1⟩ d i j).use ?_⟩⟩;rintro v w' ⟨ao,l,a,m,n⟩;obtain⟨a1,a2,a3⟩:=h.to l a.to a.E m ⟨a.root,a.aI,a.f,λno _=>⟨congrFun a.P no,a.view no⟩⟩;rcases n with ⟨rfl,_⟩|⟨e,_,_,h1|⟨x,hx,h1⟩|h1⟩
 .exact⟨0,rfl,rfl,ao,a1,a2,rfl,rfl,rfl,rfl,rfl,rfl,a.to.g,a3⟩
 .exact absurd (c.1 _) h1
 .exact absurd h1 (h.t.H4 h.ok hx)
 .exact absurd (by rw[h.keys]) h1
end
variable {w w':J}
theorem Ext.Is(h:Go.RowKit.Below w.heap.size w w'):Ext w w':=⟨h.os,h.tape,h.output,h.size,λk a _=>h.block k a⟩
theorem bd.It{sz:Nat}{T:TypeId}{base:Nat}{v:aa}{n:Nat}{xs:O aa}(h:w.ownsRow base T sz v n xs):∃s:Y,v=s/\bd sz T w s xs/\s.len=n/\∀q,aB s q->base<=q:=by
 obtain⟨h1,⟨rfl,rfl⟩|⟨g,cap,f,rfl,b,hg,h2,c,d,e⟩⟩:=h
 .have:xs=[]:=lp.1 I
  subst this;exact⟨⟨none,0,0⟩,rfl,bd.none _ _ _,rfl,λq a=>(gk q a).elim⟩
 .refine⟨⟨some g,n,cap⟩,rfl,bd.mk' hg h1 h2 c d e,rfl,λq a=>?_⟩
  rw[←kX.1 a];exact b
def sd:aa->aq (DataW Unit×O MemPlace):=λ_=>some (.lit (.bool true),[])
theorem Iu{q:Nat}{M:O (Int×aa)}(h:eD w q encZ M)(u:M.length<=1000000)(j:∀x∈M, -9223372036854775808<=x.1/\x.1<=9223372036854775807):
 ∃D:DataW Unit,w.ownsMap aj 3 sd q M.length D/\(intKeys D).Perm (M.map (·.1))/\Maps.size D=M.length:=by
 obtain⟨L,f,l,h1,h2,m,n⟩:=h;have c:L.length=M.length:=by rw[←h1.length_eq,dU]
 have o:∀x∈L, -9223372036854775808<=x.1/\x.1<=9223372036854775807:=λx hx=>j (lE x) (h1.mem_iff.1 (eC.2 ⟨x,hx,rfl⟩));have g:∀x∈L,Go.WideElems.rd aj 3 sd (dW encZ x)=some (.int .i64 x.1,.lit (.bool true)):=λx hx=>by
  have r:(Lit.int .i64 x.1).wf=true:=by
   have:=o x hx;simp[Lit.wf,IntKind.min,IntKind.max,IntKind.signed,IntKind.bits];omega
  exact Go.WideElems.rd_mk (R:=sd) (yv:=(.lit (.bool true),[])) (Maps.keyOf_int_mk (k:=3) (by kernel_rfl) r) rfl
 have i:((L.map (dW encZ)).map (Go.WideElems.rg aj 3 sd))=L.map λx=>(Lit.int .i64 x.1,DataW.lit (.bool true)):=by
  rw[iz];refine List.map_congr_left λx hx=>?_;have:=Go.WideElems.rg_of (g x hx);simp only[Function.comp_apply];exact this
 have s:Go.WideElems.Fit aj 3 sd (L.map (dW encZ)).toArray f:=by
  refine⟨by simp[c];unfold maxLen;omega,⟨λx hx=>?_,?_,?_⟩,λx hx=>?_⟩
  .obtain⟨y,d,rfl⟩:=eC.1 (by simpa using hx:x∈L.map (dW encZ))
   exact n y d
  .simp only[iz]
   exact m
  .simp only[iz]
   have:((λe:MapEntry=>e.key)∘dW encZ)=λx:Int×aa×Nat=>encZ x.1:=rfl;show(L.map ((λe:MapEntry=>e.key)∘dW encZ)).Nodup;rw[this];have e:(L.map λx:Int×aa×Nat=>encZ x.1)=(L.map (·.1)).map encZ:=by rw[iz];rfl
   rw[e];exact List.Pairwise.map encZ (λa b t he=>t (by cases he;rfl)) h2
  .obtain⟨y,d,rfl⟩:=eC.1 (by simpa using hx:x∈L.map (dW encZ))
   exact⟨_,g y d⟩
 have gj:=Go.WideShapes.sorted_perm (L.map λx=>(Lit.int .i64 x.1,(DataW.lit (.bool true):DataW Unit)));refine⟨_,⟨_,f,l,s,by simp[c],rfl⟩,?_,?_⟩
 .simp only[i]
  show(List.map (λp:Lit×DataW Unit=>Go.intOf p.1) _).Perm _;refine(gj.map _).trans ?_;rw[iz];have:=h1.map (·.1);rw[iz]at this;exact this
 .simp only[i]
  show List.length _=_;rw[gj.length_eq,dU,c]
theorem Iv(m:Nat):AnyZI.SortsIn aj Cw Fence.wide m:=
 ⟨λbS off cap ss W a b c=>callsIn_wide.2 (AnyM.slices_Sort_int vW bS off cap ss W a b c),λp cap W=>callsIn_wide.2 (AnyM.slices_Sort_int_none vW p cap W)⟩
theorem Iw{q:Nat}{M:O (Int×aa)}(h:eD w q encZ M)(g:M.length<=1000000)(i:∀x∈M, -9223372036854775808<=x.1/\x.1<=9223372036854775807):
 aR aj 177 #[.func (.func 232) #[] #[.pointer (some w.heap.size)]] (w.alloc (.cells #[.map (some q)] 137))
  (λv w'=>∃ (s:Y) (ids:O Int),v=s/\bd 1 3 w' s (ids.map encZ)/\s.len=ids.length/\ids.Perm (M.map (·.1))/\ids.Pairwise (λa b=>decide (a<=b)=true)/\Ext w w'/\∀k,aB s k->w.heap.size<=k):=by
 have d:Ext w (w.alloc (.cells #[.map (some q)] 137)):=ad.alloc (.refl _ _) _;have C:(w.alloc (.cells #[.map (some q)] 137)).heap.size=w.heap.size+1:=by simp
 obtain⟨D,j,l,f⟩:=Iu (h.ext d) g i;have m:=AnyZI.keys_gives (ρ:=Cv) {Hu with} Fence.wide 2 trivial rfl I w.heap.size q M.length D (w.alloc (.cells #[.map (some q)] 137)) I (by simp) j;have n:=AnyZI.sorted_in Hv Fence.wide 5 trivial trivial trivial trivial rfl I (Iv _) (enters_of func153 (by kernel_rfl) rfl) 232 #[.pointer (some w.heap.size)] trivial (enters_of func232 (by kernel_rfl) rfl) _ _ (by rw[f];unfold maxLen;omega) (by rw[f];omega) _ m;have o:=callsIn_wide.1 (n.mono (R':=λe w'=>∃v,e=.returned v/\∃ (s:Y) (ids:O Int),v=s/\bd 1 3 w' s (ids.map encZ)/\s.len=ids.length/\ids.Perm (M.map (·.1))/\ids.Pairwise (λa b=>decide (a<=b)=true)/\Ext w w'/\∀k,aB s k->w.heap.size<=k) ?_)
 .exact o
 .rintro e ah ⟨v,ss,rfl,p,r,_,t⟩
  obtain⟨s,rfl,u,z,A⟩:=bd.It r;refine⟨_,rfl,s,ss.mergeSort (λx y=>decide (x<=y)),rfl,u,by rw[z,List.length_mergeSort],?_,?_,Ext.trans d (Ext.Is t),λk B=>by have:=A k B;omega⟩
  .exact(List.mergeSort_perm _ _).trans (p.trans l)
  .exact List.pairwise_mergeSort (λa b c h1 h2=>by simp only[cS]at*;omega) (λa b=>by simp only[iT,cS];omega) ss
theorem yZ:∀ (n:Nat) {l:O Nat},l.Nodup->(∀x∈l,x<n)->l.length<=n
 |0,l,_,h=>by
  cases l with
  |nil=>exact bl _
  |cons x l=>exact absurd (h x (by simp)) (Nat.not_lt_zero _)
 |n+1,l,a,h=>by
  by_cases b:n∈l
  .have h1:=yZ n (l:=l.erase n) (a.erase n) λx hx=>by
    have h2:=(a.mem_erase_iff).1 hx
    have:=h x h2.2
    have:=h2.1
    omega
   rw[List.length_erase_of_mem b]at h1
   omega
  .have:=yZ n a λx hx=>by
    have h1:=h x hx
    have h2:x≠n:=λe=>b (e▸hx)
    omega
   omega
section
variable {D:a6}
theorem cx.C4(h:cx w D):(D.waits.map g3.i).Nodup:=by
 have h1:=h.m.keys;rw[iz]at h1;refine(List.pairwise_map.1 h1:D.waits.Pairwise _).imp (λa e=>a ?_)|>List.pairwise_map.2;exact congrArg (λn:Nat=>(n:Int)) e
theorem cx.C5(h:cx w D):D.waits.length<=1600:=by
 have h1:=yZ D.n h.C4 λx hx=>by
  obtain⟨y,a,rfl⟩:=eC.1 hx;exact(h.wn y a).2.1
 have:=h.bC;rw[dU]at h1;omega
theorem Ix(h:cx w D):aR aj 112 #[.pointer (some D.d)] w
 (λv w'=>∃ (s:Y) (ids:O Int),v=s/\bd 1 3 w' s (ids.map encZ)/\ids.Perm (D.waits.map λx=>(x.i:Int))/\Ext w w'/\∀k,aB s k->w.heap.size<=k):=by
 refine okF (af.uj (some D.d)) aA.uj func112 ?_;(delta af.uj po ba;dsimp only);refine⟨_,rfl,_,h.ba,?_⟩;refine Calls.mono (af.En (some D.mr) w (λv w'=>v=.func (.func 232) #[] #[.pointer (some w.heap.size)]/\w.alloc (.cells #[.map (some D.mr)] 137)=w') ⟨rfl,rfl⟩) ?_;rintro _ _ ⟨_,rfl,rfl,rfl⟩;have c9:D.waits.length<=1000000:=by have:=h.C5;omega
 refine⟨⟨232,#[],#[.pointer (some w.heap.size)]⟩,rfl,(Iw h.m (by rw[dU];exact c9) (λx hx=>?_)).use ?_⟩
 .obtain⟨y,a,rfl⟩:=eC.1 hx
  have:=(h.wn y a).2.1;have:=h.bC;show _<=(y.i:Int)/\(y.i:Int)<=_;omega
 .rintro _ e ⟨s,ids,rfl,h1,_,h2,_,b,c⟩
  refine⟨s,rfl,s,ids,rfl,h1,?_,b,c⟩;rw[iz]at h2;exact h2
end
variable {w w':J}{D:a6}
theorem Iy(a b:Int)(w:J)(T:TypeId)(k:IntKind):Sem.run aj (Builtin.min_ #[T,T] T #[.int k a,.int k b]) w=.ok (.int k (min a b)) w:=by
 simp only[Builtin.min_];unfold Builtin.min2;simp;split<;>omega
theorem cx.Iz(h:cx w D){i:Nat}(hi:i<D.n){x:cX}(hx:x.length=256):bx w ⟨D.lb,i*256,none⟩ (aJ x)/\cx (setCells w ⟨D.lb,i*256,none⟩ 0 (aJ x)) {D with bg:=D.bg.set i x}/\ad (λq=>q=D.lb) w (setCells w ⟨D.lb,i*256,none⟩ 0 (aJ x)):=by
 obtain⟨bG,bI,a⟩:=CM h.l h.sl hi hx;refine⟨bG,?_,a⟩;generalize setCells w ⟨D.lb,i*256,none⟩ 0 (aJ x)=j at bI a;have b:D.d≠D.lb:=h.a1.1;refine⟨?_,bI,h.m.ab a λe=>h.a1.2.2 e.symm,λx hx=>(h.ws x hx).ab a λq f e=>(h.a2 x hx).2.1 (by rw[←e];exact f),?_,λs hs=>?_,h.j_,?_,?_,h.f4,h.fr,h.a1,h.a2,h.a3⟩
 .have h1:=h.v.ab a b
  have e:({D with bg:=D.bg.set i x}:a6).c=D.c:=by unfold a6.c;simp
  rw[e];exact h1
 .intro z g
  have:=h.wn z g;refine⟨this.1,?_,this.2.2⟩;show z.i<(D.bg.set i x).length;rw[df];exact this.2.1
 .rcases ly hs with h1|rfl
  .exact h.sl s h1
  .exact hx
 .show 16<=(D.bg.set i x).length;rw[df];exact h.bW
 .show(D.bg.set i x).length<=1600;rw[df];exact h.bC
theorem Src.mx{sz:Nat}{s:Y}{vs:O aa}{W:Nat->Prop}(h:Src sz w s vs)(hc:ad W w w')(d:∀k,aB s k->W k->vs=[]):Src sz w' s vs:=⟨h.len,h.nil,λa b=>by
 by_cases c:vs=[]
 .have h0:=h.len
  rw[c]at h0⊢
  rw[←h0];rfl
 .exact hc.cA (λe=>c (d _ ⟨a,b,rfl⟩ e)) _ _ _ (h.rd a b)⟩
structure wg(D az:a6):Prop where
 d:az.d=D.d
 waits:az.waits=[]
 n:az.n=D.n
 q:az.quiet
 aQ:az.aQ=D.aQ
 bg:∀j,az.bg.getD j []=D.bg.getD j []\/az.bg.getD j []∈D.dB j
 c7:∀q,bY az q->bY D q
theorem IA(h:cx w D){y:g3}(c:y∈D.waits):D.dB y.i=y.gu:=by
 unfold a6.dB
 cases hf:D.waits.find? λx=>x.i==y.i with
 |none=>
  have:=jo.1 hf y c;simp at this
 |some z=>
  have d:=jH hf;have e:z.i=y.i:=by simpa using ko hf
  have h1:=h.C4;obtain⟨a,f,rfl⟩:=fi d;obtain⟨b,g,rfl⟩:=fi c;have h2:=(List.getElem_inj (i:=a) (j:=b) (h₀:=by simpa using f) (h₁:=by simpa using g) h1).1 (by simpa using e);subst h2;rfl
theorem C6{l:Y}{zs:O Int}(h:cx w D)(R:Src 1 w l (zs.map encZ))(al:∀q,aB l q->bY D q->zs=[])(bf:zs.length<=1000000)(bh:∀z∈zs,z<=9223372036854775807)(bi:D.aQ<=1000000000):
 aR aj 45 #[.pointer (some D.d),l] w (λv w'=>v=.tuple #[]/\∃az,cx w' az/\wg D az/\ad (bY D) w w'):=by
 refine okF (af.tP (some D.d) l) aA.tP func45 ?_;(delta af.tP ak ba aL r1 ag av aU;dsimp only);refine⟨λh1=>(by cases h1),λ_=>(Ix h).use ?_⟩;rintro _ w1 ⟨s,ids,rfl,S,T,E,am⟩;have an:=h.bC;have ao:=R.len;rw[dU]at ao;have bj:s.len=ids.length:=by have:=S.1;rw[dU]at this;omega
 have bk:ids.length<=1600:=by rw[T.length_eq,dU];exact h.C5
 have ap:∀q,aB s q->¬bY D q:=λq a hf=>by have:=am q a;have:=h.lt hf;omega
 have F:bY D D.lb:=.inr (.inl rfl);refine⟨s,rfl,λn6 f=>∃ (i:Nat) (ls:O cX),n6=(i:Nat)/\i<=ids.length/\cx f {D with bg:=ls}/\ls.length=D.n/\(∀j,ls.getD j []=D.bg.getD j []\/ls.getD j []∈D.dB j)/\ad (λq=>q=D.lb) w1 f,λn6 _=>((ids.length:Int)-n6).toNat,⟨0,D.bg,rfl,cL _,h.ext E,rfl,λj=>.inl rfl,ad.refl _ _⟩,?_⟩;rintro _ f ⟨i,ls,rfl,hi,g,r,ik,u⟩;have aq:=S.ab u λq a e=>ap q a (by rw[e];exact F);have G:=Src.mx (R.ext E) u λq a e=>by rw[al q a (by rw[e];exact F)];rfl
 refine⟨λH=>?_,λH=>?_⟩
 .have H:(i:Int)<(s.len:Int):=b8 H
  have J:i<ids.length:=by omega
  obtain⟨y,p,U⟩:=eC.1 (T.mem_iff.1 (cF J));have ax:IntKind.wrap .i64 ((i:Int)+1)=((i+1:Nat):Int):=by rw[bA I I];omega
  have aC:((ids.length:Int)-((i+1:Nat):Int)).toNat<((ids.length:Int)-(i:Int)).toNat:=by omega
  obtain⟨A,ar,aD,K⟩:=aq.src.at (i:=i) (v:=encZ ids[i]) (by simp[J]);refine iE (λL=>∃ls:O cX,cx L {D with bg:=ls}/\ls.length=D.n/\(∀j,ls.getD j []=D.bg.getD j []\/ls.getD j []∈D.dB j)/\ad (λq=>q=D.lb) w1 L) (λbl V=>⟨A,ar,aD,ids[i],K,?_⟩) ?_
  .refine cq (λb w'=>(b=false->∃t:i<zs.length,0<zs[i])/\f=w') (λq a=>⟨λ_=>a _ _ ⟨λh=>(by cases h),rfl⟩,λW=>?_⟩) ?_
   .have W:¬(i:Int)>=(l.len:Int):=cv W
    have t:i<zs.length:=by omega
    obtain⟨B,X,Z,aa⟩:=G.at (i:=i) (v:=encZ zs[i]) (by simp[t]);exact⟨B,X,Z,zs[i],aa,a _ _ ⟨λaE=>⟨t,by have:=cv aE;omega⟩,rfl⟩⟩
   .rintro b _ ⟨aF,rfl⟩
    refine⟨λ_=>V _ ⟨ls,g,r,ik,u⟩,λaG=>?_⟩;obtain⟨t,bm⟩:=aF aG;obtain⟨B,X,Z,aa⟩:=G.at (i:=i) (v:=encZ zs[i]) (by simp[t]);have aH:=g.m.w5 oA lM (k:=(y.i:Int)) (v:=y.s) (eC.2 ⟨y,p,rfl⟩) false;have M:=g.ext (cf f);have aI:=G.ext (cf f);obtain⟨aK,aM,aN,aO⟩:=aI.at (i:=i) (v:=encZ zs[i]) (by simp[t]);have bn:=(h.wn y p).2.2;have bo:0<y.gu.length:=sm.2 (h.wn y p).1;obtain⟨k,aP⟩:∃k:Nat,min zs[i] (y.gu.length:Int)=((k+1:Nat):Int):=⟨(min zs[i] (y.gu.length:Int)-1).toNat,I⟩;have C:k<y.gu.length:=by omega
    obtain⟨aS,aT,aV,aX⟩:=xY (M.ws y p).src (λs hs=>by rw[ey];exact h.j_ y p s hs) (by decide) (i:=k) C;have aY:y.i<D.n:=(h.wn y p).2.1;have aZ:({D with bg:=ls}:a6).n=D.n:=r;obtain⟨bG,bI,a0⟩:=M.Iz (i:=y.i) (by rw[aZ];exact aY) (h.j_ y p y.gu[k] (cF C));have ac:Addr.add D.lb (Int.toNat (y.i:Int)*256)=⟨D.lb,y.i*256,none⟩:=by rw[dd,aw,cy]
    refine⟨_,rfl,some D.mr,g.ba,y.s,f,by rw[←U];exact aH,aW ⟨λ_=>False,_,rfl,id,⟨some D.lb,ls.length,ls.length⟩,M.dg,aK,aM,aN,id,zs[i],aO,_,f.drew,Iy _ _ _ _ _,ad.refl _ _,aT,aV,?_⟩⟩;rw[aS,aP,bA (n:=(((k+1:Nat):Nat):Int)-1) I I];have a2:Int.toNat (((k+1:Nat):Int)-1)=k:=by omega
    rw[a2,←U];refine⟨⟨I,I⟩,id,_,aX,_,rfl,⟨I,by show(y.i:Int)<(ls.length:Int);omega⟩,by rw[ac];exact bG,by simp[ey,h.j_ y p y.gu[k] (cF C)],?_⟩;rw[ac];refine aW (V _ ⟨ls.set y.i y.gu[k],bI,by rw[df];exact r,λj=>?_,u.trans ((cf f).mono (λ_ _ h=>h.elim)|>.trans a0)⟩);by_cases ae:y.i=j
    .subst ae
     right;rw[fm (by rw[df];omega),ig,IA h p];exact cF C
    .rw[fC,List.getElem?_set_ne ae,←fC]
     exact ik j
  .rintro L ⟨a3,au,ay,a4,a5⟩
   rw[ax];exact⟨⟨i+1,a3,rfl,J,au,ay,a4,a5⟩,aC⟩
 .obtain⟨ah,K,a7,N,bp⟩:=eD.clear (P:=aj) (o:=0) g.m lM
  have a8:D.d≠D.mr:=h.a1.2.1;have a9:=g.v.ab N a8;refine⟨_,rfl,some D.mr,g.ba,_,ah,K,_,rfl,(Bw a9 (by rw[show(a6.c {D with bg:=ls}).length=7 from g.rO];decide)).use ?_⟩;rintro _ ai ⟨rfl,a_,Q,bq⟩;have bb:=h.f4;have bc:cx ai {D with bg:=ls,waits:=[],cg:=[-1, -1, -1, -1]}:=by
   have bd:bz ah D.lb (bV aJ ls).toArray 182:=bz.ab g.l N h.a1.2.2;have be:bz ai D.lb (bV aJ ls).toArray 182:=bz.ab bd Q λe=>h.a1.1 e.symm;refine⟨?_,be,a7.ab Q λe=>h.a1.2.1 e.symm,λx hx=>(by cases hx),λx hx=>(by cases hx),g.sl,λx hx=>(by cases hx),?_,?_,rfl,λx hx=>?_,h.a1,λx hx=>(by cases hx),λx hx=>(by cases hx)⟩
   .have e:({D with bg:=ls,waits:=[],cg:=[-1, -1, -1, -1]}:a6).c=List.replicate 4 (.int .i64 (-1))++(a6.c {D with bg:=ls}).drop 4:=by
     unfold a6.c;dsimp only;rw[List.drop_left' (by rw[dU];exact bb)];rfl
    rw[e];exact a_
   .show 16<=ls.length;rw[r];exact h.bW
   .show ls.length<=1600;rw[r];exact an
   .have hx:x∈ [(-1:Int), -1, -1, -1]:=hx
    simp only[cU,eL,eO,or_self]at hx;omega
  refine⟨rfl,rfl,_,bc,⟨rfl,rfl,r,⟨λk=>⟨.inl rfl,.inl rfl⟩,rfl⟩,rfl,ik,λq a=>?_⟩,?_⟩
  .rcases a with e|e|e|⟨x,hx,e⟩
   .exact .inl e
   .exact .inr (.inl e)
   .exact .inr (.inr (.inl e))
   .cases hx
  .have h1:ad (bY D) w f:=cu (E.mono λ_ _ h=>h.elim) u λq _ e=>by rw[e];exact F
   have h2:=cu h1 N λq _ e=>by rw[e];exact .inr (.inr (.inl rfl))
   exact cu h2 Q λq _ e=>by rw[e];exact .inl rfl
end Go.Proofs.YtkdhdlfonmgheaaGreat
