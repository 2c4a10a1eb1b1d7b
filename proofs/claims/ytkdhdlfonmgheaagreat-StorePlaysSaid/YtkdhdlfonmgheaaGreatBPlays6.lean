/- Contracts of the functions that the statement reaches, and the plain laws over them; each theorem stands with its conditions. -/
import Derived.Test.YtkdhdlfonmgheaaGreatBPlays5
namespace Go.Proofs.YtkdhdlfonmgheaaGreat
open Go a6 Go.Proofs.Tryz
theorem CF{w:J}{lb:Nat}{ls:O cT}{T:TypeId}(h:bt w lb (bH aG ls).toArray T)(hs:∀x∈ls,x.length=256){i:Nat}(hi:i<ls.length){x:cT}(hx:x.length=256):
 bx w ⟨lb,i*256,none⟩ (aG x)/\bt (setCells w ⟨lb,i*256,none⟩ 0 (aG x)) lb (bH aG (ls.set i x)).toArray T/\ad (λq=>q=lb) w (setCells w ⟨lb,i*256,none⟩ 0 (aG x)):=by
 have a:∀x∈ls,(aG x).length=256:=λx hx=>by rw[ej];exact hs x hx
 have f:=gK (c:=aG) ls a;have b:(aG x).length=256:=by rw[ej];exact hx
 have d:i*256+(aG x).length<=(bH aG ls).toArray.size:=by
  rw[sw,f,b];omega
 refine⟨bt.b9 h _ _ d (kZ _),?_,ad.kR (.refl _ _) _ 0⟩;have h0:=bt.jV (o:=i*256) h (aG x);have h1:=lu (aG x) (bH aG ls).toArray (i*256) d;have h2:=Bg a hi x;rw[b]at h1;have g:(gE (bH aG ls).toArray (i*256) (aG x)).toList=bH aG (ls.set i x):=h1.trans h2;have e:gE (bH aG ls).toArray (i*256) (aG x)=(bH aG (ls.set i x)).toArray:=by rw[←g]
 rw[e]at h0;exact h0
theorem HE{α:Type}{L:O (α×aa×Nat)}{seen:O Nat}{x:α×aa×Nat}(h:x∈gp L seen):(gp L (seen++ [x.2.2])).length<(gp L seen).length:=by
 have e:gp L (seen++ [x.2.2])=(gp L seen).filter λy=> !(y.2.2==x.2.2):=by
  unfold gp;rw[List.filter_filter];apply List.filter_congr;intro y _;rw[fU];simp only[k9,dX,List.contains_eq_mem,jP,cP,fh,beq_eq_false_iff_ne];constructor
  .exact λh=>⟨λh2=>h (.inr h2),λh2=>h (.inl h2)⟩
  .rintro⟨h1,h2⟩ (a|a)
   .exact h2 a
   .exact h1 a
 rw[e];exact List.length_filter_lt_length_iff_exists.2 ⟨x,h,by simp⟩
def yJ{α:Type}(L:O (α×aa×Nat))(r:Nat)(w:J):Nat:=match w.heap[r]? with
 |some (.mapIter _ _ seen _)=>(gp L seen.toList).length
 |_=>0
theorem kC.left{α:Type}{w:J}{r m:Nat}{enc:α->aa}{L:O (α×aa×Nat)}{seen:O Nat}(h:kC w r m enc L seen):yJ L r w=(gp L seen).length:=by
 obtain⟨⟨a,h1,_⟩,_⟩:=h;unfold yJ;rw[h1]
theorem kC.ae{α:Type}{W:Nat->Prop}{w w':J}{r m:Nat}{enc:α->aa}{L:O (α×aa×Nat)}{seen:O Nat}(h:kC w r m enc L seen)(hc:ad W w w')(a:¬W r)(b:¬W m):kC w' r m enc L seen:=by
 obtain⟨⟨c,h1,h2,d⟩,e⟩:=h;exact⟨⟨c,by rw[hc.block r (lQ.1 h1).1 a];exact h1,by rw[hc.block m (lQ.1 h2).1 b];exact h2,d⟩,e⟩
def a_.ja(D:a_):a_:={D with bh:=(List.range D.n).map D.now,waits:=[]}
theorem r0(D:a_):D.ja.n=D.n:=by simp[a_.ja,a_.n]
theorem yK(D:a_){i:Nat}(hi:i<D.n):D.ja.now i=D.now i:=by
 show((List.range D.n).map D.now).getD i []=_;rw[ff (by simp;exact hi)];simp
def HF(D:a_)(w:J)(v:aa)(w':J):Prop:=
 (D.fP 3=true/\v=.int .i64 3/\cB w' (D.cw 3)/\ad (λq=>q=D.d) w w')\/
 (D.fP 3=false/\v=.int .i64 0/\cB w' (D.cw 3).ja/\ad (bT D) w w')
theorem yL{w:J}{D:a_}(h:cB w D)(bs:D.aO<=1000000000):aN aj 76 #[.pointer (some ⟨D.d,0,none⟩)] w (HF D w):=by
 refine okF (I7.tU (some ⟨D.d,0,none⟩)) I6.tU func76 ?_;(delta I7.tU ai aF fw af td gg aK xc;dsimp only);refine⟨λh1=>(by cases h1),λ_=>⟨_,rfl,(xV h (k:=3) (by decide)).use ?_⟩⟩;rintro _ ag ⟨rfl,f,ac,bu⟩;obtain⟨bm,p⟩:∃bm,bm=D.cw 3:=⟨_,rfl⟩;have aE:bm.d=D.d:=by rw[p];rfl
 have bv:bm.lb=D.lb:=by rw[p];rfl
 have aH:bm.mr=D.mr:=by rw[p];rfl
 have aI:bm.n=D.n:=by rw[p];rfl
 have aJ:bT bm=bT D:=by rw[p];rfl
 have bw:bm.aO=D.aO:=by rw[p];rfl
 rw[←p]at f;refine⟨_,rfl,λB=>.inl ⟨B,rfl,by rw[←p];exact f,ac⟩,λB=>?_⟩;rw[←aE];have ah:=f.bq;obtain⟨L,ak,al,am,an,ao,bx⟩:=kC.begin (P:=aj) f.m lG;obtain⟨r,aL⟩:∃r,r=ag.heap.size:=⟨_,rfl⟩;rw[←aL]at am an;have aM:r≠bm.mr:=by have:=f.m.lt;omega
 have ap:∀q,bT bm q->q≠r:=λq C e=>by have:=f.lt C;omega
 have aP:∀x∈L,∃y∈bm.waits,x.1=(y.i:Int):=λx hx=>by
  have:=al.mem_iff.1 (ep.2 ⟨x,hx,rfl⟩);obtain⟨y,t,e⟩:=ep.1 this;refine⟨y,t,?_⟩;have:=congrArg Prod.fst e;exact this.symm
 have aQ:∀y∈bm.waits,∃x∈L,x.1=(y.i:Int):=λy t=>by
  have:y.e∈L.map lr:=al.mem_iff.2 (ep.2 ⟨y,t,rfl⟩);obtain⟨x,hx,e⟩:=ep.1 this;exact⟨x,hx,congrArg Prod.fst e⟩
 refine⟨_,rfl,some bm.mr,f.aZ,_,ak,am,λw'=>∃ (seen:O Nat) (ls:O cT),kC w' r bm.mr encZ L seen/\cB w' {bm with bh:=ls}/\ls.length=bm.n/\(∀ (j:Nat) (F:j<ls.length),ls[j]=if ∃x∈L,x.2.2∈seen/\x.1=(j:Int) then bm.now j else bm.bh.getD j [])/\ad (λq=>bT bm q) ag w'/\ak.heap.size<=w'.heap.size,
  yJ L r,⟨[],bm.bh,an,f.ext ao,rfl,λj F=>?_,ad.cF ao,bn _⟩,?_⟩
 .rw[if_neg (by rintro⟨x,_,h1,_⟩;cases h1),ff F]
 rintro ar ⟨seen,ls,Q,E,u,ia,H,bz⟩;have R:∀s∈ls,s.length=256:=E.sl;have bB:r<ar.heap.size:=by omega
 have aR:bm.lb≠r:=ap _ (.inr (.inl rfl));rcases Q.next (P:=aj) aM 0 with ⟨aT,aU,S,au,bC⟩|⟨x,hx,I,S,aV,aw,bD,aW⟩
 .
  refine .inr ⟨aU,S,λh=>(by cases h),λ_=>?_⟩;have K:=E.ext au;obtain⟨aX,aY,a0,T,bE⟩:=er.clear (P:=aj) (o:=0) K.m lG;refine⟨_,rfl,some bm.mr,K.aZ,_,aX,aY,.inr ⟨B,rfl,?_,?_⟩⟩
  .have a4:∀x∈L,x.2.2∈seen:=λx hx=>by
    have:=lR.1 aT x hx;simpa using this
   have a5:ls=(List.range D.n).map D.now:=by
    refine List.ext_getElem (by simp[u,aI]) λj h1 h2=>?_;rw[ia j h1,List.getElem_map,List.getElem_range];have U:D.now j=bm.now j:=by rw[p];rfl
    rw[U];split
    .rfl
    .rename_i a6
     unfold a_.now
     cases hf:bm.waits.find? λx=>x.i==j with
     |some y=>
      exfalso;have t:=ju hf;have a7:y.i=j:=by simpa using kc hf
      obtain⟨x,hx,e⟩:=aQ y t;exact a6 ⟨x,hx,a4 x hx,by rw[e,a7]⟩
     |none=>rfl
   have V:bm.d≠bm.mr:=f.a1.2.1;have a8:bm.lb≠bm.mr:=f.a1.2.2;have e:(D.cw 3).ja={bm with bh:=ls,waits:=[]}:=by
    rw[a5,p];rfl
   rw[e];refine⟨K.v.ae T V,bt.ae K.l T a8,a0,λx hx=>(by cases hx),λx hx=>(by cases hx),R,λx hx=>(by cases hx),?_,?_,E.f4,E.fr,E.a1,λx hx=>(by cases hx),λx hx=>(by cases hx)⟩
   .show 16<=ls.length;rw[u];exact f.bR
   .show ls.length<=1600;rw[u];exact ah
  .have a9:bT D D.d:=.inl rfl
   have hc:ad (λq=>bT D q) w ag:=ac.mono λq _ e=>by rw[e];exact a9
   have H:ad (λq=>bT D q) ag ar:=by rw[←aJ];exact H
   have ba:=cr hc H λq _ h=>h;have bb:=cr ba au λq _ h=>h.elim;exact cr bb T λq _ bc=>by rw[bc,aH];exact .inr (.inr (.inl rfl))
 .
  have W:x∈L:=(hC.1 hx).1;have bF:x.2.2∉seen:=by
   have:=(hC.1 hx).2;simpa using this
  obtain⟨y,t,X⟩:=aP x W;have bd:=E.ae aw λq C=>ap q C;have hi:y.i<bm.n:=(f.wn y t).2.1;have be:y.i<ls.length:=by omega
  refine .inl ⟨_,_,I,S,λ_=>⟨(y.i:Int),x.2.1,I,?_,?_⟩,λh=>(by cases h)⟩
  .rw[aW]
   have e:encZ x.1=.int .i64 ((y.i:Nat):Int):=by rw[X]
   rw[e]
  have ax:=b4 I;have Y:=bd.ext ax;have bf:({bm with bh:=ls}:a_).n=bm.n:=u;refine aS ⟨λ_=>False,_,rfl,id,⟨some ⟨bm.lb,0,none⟩,ls.length,ls.length⟩,Y.c9,(Bj (i:=y.i) Y (by rw[bf];exact hi) (by show bm.aO<=_;omega)).use ?_⟩;rintro _ M ⟨rfl,Z⟩;have g:=Y.ext Z;have U:({bm with bh:=ls}:a_).now y.i=bm.now y.i:=by
   unfold a_.now
   cases hf:bm.waits.find? λx=>x.i==y.i with
   |some z=>rfl
   |none=>
    have:=iO.1 hf y t;simp at this
  have aa:(bm.now y.i).length=256:=f.oy hi;rw[U];have aq:Addr.add ⟨bm.lb,0,none⟩ (Int.toNat ((y.i:Nat):Int)*256)=⟨bm.lb,y.i*256,none⟩:=by rw[c8,av,cx]
  obtain⟨bA,bO,bg⟩:=CF g.l R be aa;refine⟨_,rfl,Z,_,rfl,⟨by omega,by show((y.i:Nat):Int)<((ls.length:Nat):Int);omega⟩,by rw[aq];exact bA,by simp[ej,aa],?_⟩;rw[aq];refine aS ?_;show _/\_;have ay:bt (setCells M ⟨bm.lb,y.i*256,none⟩ 0 (aG (bm.now y.i)).toArray.toList) bm.lb (bH aG (ls.set y.i (bm.now y.i))).toArray 182:=bO;have A:ad (λq=>q=bm.lb) M (setCells M ⟨bm.lb,y.i*256,none⟩ 0 (aG (bm.now y.i)).toArray.toList):=bg;generalize setCells M ⟨bm.lb,y.i*256,none⟩ 0 (aG (bm.now y.i)).toArray.toList=az at ay A;have ab:=Ext.trans ax Z;have aA:=(aV.ae ab id id).ae A (λe=>aR e.symm) λe=>f.a1.2.2 e.symm;have bi:ad (λq=>bT bm q) ag az:=by
   have h1:ad (λq=>bT bm q) ag I:=cr H aw λq C e=>by omega
   have h2:=cr h1 ab λq _ h=>h.elim;exact cr h2 A λq _ e=>by rw[e];exact .inr (.inl rfl)
  have bG:=ab.size;have bI:=A.size;have bj:cB az {bm with bh:=ls.set y.i (bm.now y.i)}:=by
   have V:bm.d≠bm.lb:=f.a1.1;refine⟨?_,ay,g.m.ae A λe=>f.a1.2.2 e.symm,λx hx=>(g.ws x hx).ae A λq C e=>(g.a2 x hx).2.1 (by rw[←e];exact C),?_,λs hs=>?_,g.ku,?_,?_,g.f4,g.fr,g.a1,g.a2,g.a3⟩
   .have h1:=g.v.ae A V
    have e:({bm with bh:=ls.set y.i (bm.now y.i)}:a_).c=({bm with bh:=ls}:a_).c:=by unfold a_.c;simp
    rw[e];exact h1
   .intro z bl
    have:=g.wn z bl;refine⟨this.1,?_,this.2.2⟩;show z.i<(ls.set y.i (bm.now y.i)).length;rw[dc];exact this.2.1
   .rcases lU hs with h1|rfl
    .exact R s h1
    .exact aa
   .show 16<=(ls.set y.i (bm.now y.i)).length;rw[dc,u];exact f.bR
   .show(ls.set y.i (bm.now y.i)).length<=1600;rw[dc,u];exact ah
  refine⟨⟨seen++ [x.2.2],_,aA,bj,by rw[dc];exact u,λj F=>?_,bi,by omega⟩,?_⟩
  .rw[dc]at F
   rw[su];split
   .rename_i e
    subst e;rw[if_pos ⟨x,W,by simp,X⟩]
   .rename_i bo
    rw[ia j F];have:(∃G∈L,G.2.2∈seen/\G.1=(j:Int))↔∃G∈L,G.2.2∈seen++ [x.2.2]/\G.1=(j:Int):=by
     constructor
     .rintro⟨z,h1,h2,N⟩
      exact⟨z,h1,js _ h2,N⟩
     .rintro⟨z,h1,h2,N⟩
      rcases cP.1 h2 with h2|h2
      .exact⟨z,h1,h2,N⟩
      .have bp:z=x:=by
        have aB:=Q.bk;obtain⟨a,aC,rfl⟩:=fb h1;obtain⟨b,B,rfl⟩:=fb W;have aD:=fh.1 h2;have br:a=b:=by
         rcases Nat.lt_trichotomy a b with h|h|h
         .have:=mI.1 aB a b (by simpa using aC) (by simpa using B) h
          simp at this;exact absurd aD this
         .exact h
         .have:=mI.1 aB b a (by simpa using B) (by simpa using aC) h
          simp at this;exact absurd aD.symm this
        subst br;rfl
       rw[bp,X]at N;exact absurd (by omega) bo
    simp only[this]
  .rw[aA.left,Q.left]
   exact HE hx
structure fI where
 al:Nat
 batch:Nat
 d_:Nat
def fI.c(l:fI):O aa:=[l.al,l.batch,.int .u64 (l.d_:Nat)]
def kD(f b d:Int):Prop:=8<=f/\f<=64/\1<=b/\b<=1000/\1<=d/\d<=1048576
instance I0(f b d:Int):Decidable (kD f b d):=by unfold kD;infer_instance
section
variable {w w':J}{D:a_}
theorem nS(w:J)(p:ao ab)(f b d:Int):aN aj 70 #[.pointer p,.agg #[f,b,.int .u64 d]] w (λv w'=>v=.bool (!(Option.isNone p)&&decide (kD f b d))/\Ext w w'):=by
 refine okF (I7.nS p f b d) I6.nS func70 ?_;(delta I7.nS ai r1 U bl;dsimp only);refine bd (vs:=[f,b,.int .u64 d]) rfl λw1 c hx hs=>?_;refine cj (λx w'=>x=(!(Option.isNone p)&&decide (8<=f))/\w1=w') (λq a=>⟨λh=>⟨f,c.cell,a _ _ ⟨by rw[h,jo],rfl⟩⟩,λh=>a _ _ ⟨by rw[h,lT],rfl⟩⟩) ?_;rintro e _ ⟨h1,rfl⟩;refine cj (λx w'=>x=(e&&decide (f<=64))/\w1=w') (λq a=>⟨λh=>⟨f,c.cell,a _ _ ⟨by rw[h,jo],rfl⟩⟩,λh=>a _ _ ⟨by rw[h,lT],rfl⟩⟩) ?_;rintro g _ ⟨h2,rfl⟩;refine cj (λx w'=>x=(g&&decide (1<=b))/\w1=w') (λq a=>⟨λh=>⟨b,by rw[av];exact c.cell,a _ _ ⟨by rw[h,jo],rfl⟩⟩,λh=>a _ _ ⟨by rw[h,lT],rfl⟩⟩) ?_;rintro i _ ⟨j,rfl⟩;refine cj (λx w'=>x=(i&&decide (b<=1000))/\w1=w') (λq a=>⟨λh=>⟨b,by rw[av];exact c.cell,a _ _ ⟨by rw[h,jo],rfl⟩⟩,λh=>a _ _ ⟨by rw[h,lT],rfl⟩⟩) ?_;rintro k _ ⟨l,rfl⟩;refine cj (λx w'=>x=(k&&decide (1<=d))/\w1=w') (λq a=>⟨λh=>⟨d,by rw[av];exact c.cell,a _ _ ⟨by rw[h,jo],rfl⟩⟩,λh=>a _ _ ⟨by rw[h,lT],rfl⟩⟩) ?_;rintro m _ ⟨n,rfl⟩;refine cj (λx w'=>x=(m&&decide (d<=1048576))/\w1=w') (λq a=>⟨λh=>⟨d,by rw[av];exact c.cell,a _ _ ⟨by rw[h,jo],rfl⟩⟩,λh=>a _ _ ⟨by rw[h,lT],rfl⟩⟩) ?_;rintro r _ ⟨o,rfl⟩;refine⟨?_,hx⟩;rw[o,n,l,j,h2,h1,Value.bool.injEq,fU];simp only[dX,cQ,and_assoc];exact Iff.rfl
theorem vY{D:a_}{no:Nat}{s:Y}{l:cT}{N:Nat}(a:∀q,az s q->bT D q\/N<=q):∀q,bT (D.put no s l) q->bT D q\/N<=q:=by
 rintro q (e|e|e|⟨x,hx,e⟩)
 .exact .inl (.inl e)
 .exact .inl (.inr (.inl e))
 .exact .inl (.inr (.inr (.inl e)))
 .rcases cS.1 hx with rfl|hx
  .exact a q e
  .exact .inl (.inr (.inr (.inr ⟨x,(hC.1 hx).1,e⟩)))
def HG(D:a_)(u:cU)(gen:Nat)(w:J)(v:aa)(w':J):Prop:=
 ad (bT D) w w'/\((D.fP 2=true/\v=.int .i64 3/\cB w' (D.cw 2))\/
 (D.fP 2=false/\∃s:Y,(∀q,az s q->bT D q\/w.heap.size<=q)/\∃bm:a_,bm=D.put (gen%2) s (ez (gen%2) (iZ u D.n gen))/\
   ((bm.fP 3=true/\v=.int .i64 3/\cB w' (bm.cw 3))\/(bm.fP 3=false/\v=.int .i64 0/\cB w' (bm.cw 3).ja))))
theorem mT(h:cB w D)(P:D.aO<=999999999){u:cU}(hu:nq u){gen:Nat}(hg:gen<18446744073709551616):
 aN aj 77 #[.pointer (some D.d),.agg u.c.toArray,.int .u64 (gen:Nat)] w (HG D u gen w):=by
 have Q:=h.bR;have R:=h.bq;refine I7.Ei _ (u.root:Nat) (u.aE:Nat) (u.map:Nat) (u.clock:Nat) (u.cv:Nat) (u.keys:Nat) (gen:Nat) w _ ?_;(delta I7.mT U r1 bl ay aZ ly b6 ar ai;dsimp only);have A:IntKind.wrap .i64 (Int.tmod (gen:Int) 2)=((gen%2:Nat):Int):=by
  rw[qF I,bu I I];omega
 refine bd (vs:=u.c) rfl λw1 B j S=>⟨by decide,?_⟩;have a:=b4 w1;have C:=B.ext a;have E:=h.ext (j.trans a);refine aS ⟨λ_=>False,id,gM C ((p7 E).use ?_)⟩;rintro _ _ ⟨rfl,rfl⟩;refine⟨_,rfl,ad.refl _ _,(pA hu (n:=D.n) I).use ?_⟩;rintro _ F ⟨k,rfl,G,t,T⟩;rw[A];refine⟨k,rfl,λ_=>False,#[(3:Int),.int .u64 (gen:Nat),k],λV=>by kernel_rfl,(vx (s:=k) (p:=iZ u D.n gen) G.src I (yG hg)).use ?_⟩;rintro _ W ⟨H,rfl,J,v,K⟩;have b:=(j.trans a).trans (Ext.trans t v);have L:=h.ext b;have X:=b.size;have M:(ez (gen%2) (iZ u D.n gen)).length=256:=rE _ (yG hg);have Y:w.heap.size<=F.heap.size:=by have:=(j.trans a).size;have:=t.size;omega
 refine⟨H,0,rfl,v,λh=>(by cases h),λ_=>(vG L (i:=gen%2) I I J.src M λq f hf=>by have:=K q f;have:=h.lt hf;omega).use ?_⟩;rintro _ N (⟨g,rfl,hd,hc⟩|⟨g,rfl,s,hd,hc,x⟩)
 .exact⟨3,rfl,λ_=>⟨cr (b.mono λ_ _ h=>h.elim) hc λq _ e=>by rw[e];exact .inl rfl,.inl ⟨g,rfl,hd⟩⟩,λh=>(by cases h)⟩
 .have y:ad (bT D) w N:=cr (b.mono λ_ _ h=>h.elim) hc λq _ e=>e
  have O:=vY (no:=gen%2) (l:=ez (gen%2) (iZ u D.n gen)) x;refine⟨0,rfl,λh=>(by cases h),λ_=>(yL hd (by show D.aO+1<=_;omega)).use ?_⟩;have z:∀q,az s q->bT D q\/w.heap.size<=q:=λq f=>(x q f).imp id λh=>by omega
  rintro _ Z (⟨m,rfl,o,r⟩|⟨m,rfl,o,r⟩)
  .exact⟨3,rfl,cr y r λq _ e=>by rw[e];exact .inl rfl,.inr ⟨g,s,z,_,rfl,.inl ⟨m,rfl,o⟩⟩⟩
  .exact⟨0,rfl,cr y r λq f e=>(O q e).resolve_right I,.inr ⟨g,s,z,_,rfl,.inr ⟨m,rfl,o⟩⟩⟩
end
def bitsOf(ns:O Int)(i:Nat):ah:=((ns.getD (i/8) 0).toNat).testBit (i%8)
theorem CG(ns:O Int)(i:Nat)(h:8*ns.length<=i):bitsOf ns i=false:=by
 unfold bitsOf;have:ns.length<=i/8:=by omega
 simp[List.getD,ke this]
theorem HH(ns:O Int)(h:∀n∈ns,0<=n/\n<=255):ns.map (Value.int .u8)=eT (bitsOf ns) ns.length:=by
 apply List.ext_getElem
 .simp[eT]
 .intro i h1 h2
  have hi:i<ns.length:=by simpa using h1
  simp only[eT,List.getElem_map,List.getElem_range]
  congr 1
  obtain⟨mg,au⟩:=h ns[i] (cA hi);have:=vJ (bitsOf ns) i ns[i].toNat I (λj c=>by
   unfold bitsOf;have a:(8*i+j)/8=i:=by omega
   have b:(8*i+j)%8=j:=by omega
   rw[a,b];simp[List.getD,hi])
  rw[←this];omega
theorem HI:∀x:Nat,x<256->∀j:Nat,j<8->decide (Int.fdiv (x:Int) (2^(min (Int.toNat (j:Int)) 8))>0)=(List.range 8).any (λk=>decide (j<=k)&&x.testBit k):=by decide+kernel
section
variable {w w':J}{b n:Nat}{f g:Nat->ah}{s1 s2:Y}
def oI(ns:O Int)(n:Nat):Prop:=ns.length=(n+7)/8/\∀i,n<=i->bitsOf ns i=false
theorem HJ{ns:O Int}{n:Nat}(l:ns.length=(n+7)/8)(m:0<n%8){x:Nat}(hx:x<256)(a:ns[ns.length-1]? =some (x:Int)):
 decide (Int.fdiv (x:Int) (2^(min (Int.toNat ((n%8:Nat):Int)) 8))>0)=false↔∀i,n<=i->bitsOf ns i=false:=by
 rw[HI x hx _ (g6 _ I)];have f:ns.length-1=n/8:=by omega
 rw[f]at a;rw[oN];constructor
 .intro h i hi
  rcases dC i (8*ns.length) with c|c
  .have e:i/8=n/8:=by omega
   unfold bitsOf;rw[e];simp only[List.getD,a,qw,c8];have:=h (i%8) (jq.2 (g6 _ I));have b:n%8<=i%8:=by omega
   simpa[b] using this
  .exact CG ns i c
 .intro h k d
  have d:=jq.1 d;by_cases b:n%8<=k
  .have:=h (8*(n/8)+k) I
   unfold bitsOf at this;have g:(8*(n/8)+k)/8=n/8:=by omega
   have j:(8*(n/8)+k)%8=k:=by omega
   rw[g,j]at this;simp only[List.getD,a,qw,c8]at this;simp[this]
  .simp[b]
theorem pG{s:Y}{ns:O Int}(hs:Src 1 w s (ns.map (.int .u8)))(m:∀n∈ns,(0:Int)<=n/\n<=255)(P:ns.length<=1000000)(n:Int):
 aN aj 173 #[.slice s.a s.len s.cap,.int .i64 n] w (λv w'=>Ext w w'/\((¬(1<=n/\n<=1600)/\v=.tuple #[.pointer none,.int .i64 1])\/
  (1<=n/\n<=1600/\¬oI ns n.toNat/\v=.tuple #[.pointer none,.int .i64 4])\/
  (1<=n/\n<=1600/\oI ns n.toNat/\∃b s1 s2,v=.tuple #[.pointer (some ⟨b,0,none⟩),.int .i64 0]/\eP w' b n.toNat (bitsOf ns) (bitsOf ns) s1 s2/\∀k,fm b s1 s2 k->w.heap.size<=k))):=by
 have hlen:s.len=ns.length:=by have:=hs.len;simp at this;omega
 refine okF (I7.pG s n) I6.pG func173 ?_;(delta I7.pG ak aF ai ay ar bY aZ aR U;dsimp only);refine(BQ w n).use ?_;rintro _ _ ⟨rfl,rfl⟩;refine⟨_,rfl,λh=>⟨.refl _ _,.inl ⟨by simp at h;omega,rfl⟩⟩,λh=>?_⟩;have h:1<=n/\n<=1600:=by simpa using h
 obtain⟨n,rfl⟩:=qG (by omega:0<=n);simp only[c8];refine(BR w n I).use ?_;rintro _ _ ⟨rfl,rfl⟩;refine⟨_,rfl,cj (λc w'=>(c=true↔¬oI ns n)/\w=w') (λq u=>⟨λf=>u _ _ ⟨?_,rfl⟩,λg=>⟨by decide,?_⟩⟩) ?_⟩
 .have f:¬ns.length=(n+7)/8:=by
   intro h;rw[hlen,h]at f;simp at f
  exact⟨λ_ hg=>f hg.1,λ_=>rfl⟩
 .have g:ns.length=(n+7)/8:=by
   simp only[bne_eq_false_iff_eq]at g;omega
  refine cj (λc w'=>(c=true↔¬oI ns n)/\w=w') (λQ y=>⟨λj=>?_,λj=>y _ _ ⟨?_,rfl⟩⟩) ?_
  .rw[rQ]at j⊢
   have z:0<n%8:=by
    have:((n%8:Nat):Int)>0:=by simpa using j
    omega
   have o:ns.length-1<ns.length:=by omega
   obtain⟨x,F⟩:∃x:Nat,ns[ns.length-1]=(x:Int):=⟨ns[ns.length-1].toNat,by have:=m _ (cA o);omega⟩;have G:x<256:=by have:=m _ (cA o);omega
   have B:ns[ns.length-1]? =some (x:Int):=by rw[du o,F]
   obtain⟨A,aq,C,hc⟩:=hs.at (i:=ns.length-1) (v:=.int .u8 x) (by rw[lg,B];rfl);rw[hlen,bu I I,show(((ns.length:Nat):Int)-1)=((ns.length-1:Nat):Int) from I];rw[hlen]at C;refine⟨A,aq,C,x,hc,by decide,I,y _ _ ⟨?_,rfl⟩⟩;have D:=HJ g z G B;constructor
   .intro ht hg
    have:=D.2 hg.2;rw[ht]at this;cases this
   .intro p
    cases hd:decide (Int.fdiv (x:Int) (2^(min (Int.toNat ((n%8:Nat):Int)) 8))>0) with
    |true=>rfl
    |false=>exact(p ⟨g,D.1 hd⟩).elim
  .rw[rQ]at j
   have z:n%8=0:=by
    have:¬((n%8:Nat):Int)>0:=by simpa using j
    omega
   constructor
   .intro h;cases h
   .intro p
    exact(p ⟨g,λi hi=>CG ns i I⟩).elim
  .rintro c _ ⟨hc,rfl⟩
   exact u _ _ ⟨hc,rfl⟩
 .rintro c _ ⟨hc,rfl⟩
  refine⟨λht=>⟨.refl _ _,.inr (.inl ⟨h.1,h.2,hc.1 ht,trivial⟩)⟩,λhf=>?_⟩;have hg:oI ns n:=by
   rcases Classical.em (oI ns n) with h|h
   .exact h
   .rw[hc.2 h]at hf;cases hf
  refine(BL hs (DU _ _) I).use ?_;rintro _ ag ⟨t,rfl,l,hx,H⟩;rw[HH ns m,hg.1]at l;have J:=bt.new ag #[.int .i64 (n:Int),.slice t.a t.len t.cap,.slice none 0 0] 218;have E:Ext ag (ag.alloc (.cells #[.int .i64 (n:Int),.slice t.a t.len t.cap,.slice none 0 0] 218)):=ad.alloc (.refl _ _) _;have f:∀k,az t k->k≠ag.heap.size:=λk d e=>by have:=l.lt k d;omega
  refine⟨t,rfl,(yb J (l.ext E) f I).use ?_⟩;rintro _ R ⟨rfl,K,h1,h2,L,M,r⟩;have S:=hx.size;refine⟨rfl,?_,.inr (.inr ⟨h.1,h.2,hg,ag.heap.size,t,K,rfl,⟨h1,h2,L,λk d=>⟨f k d,λN=>?_⟩,λk d e=>?_,I,I,hg.2,hg.2⟩,?_⟩)⟩
  .exact((ad.cF (hx.trans E)).trans M).mono λk d e=>by omega
  .have:=r k N
   have:=l.lt k d;simp at*;omega
  .have:=r k d
   simp at this;omega
  .rintro k (rfl|d|d)
   .omega
   .exact H k d
   .have:=r k d
    simp at this;omega
end
section
variable {w w':J}{C:bZ}{X:Nat->Prop}
def Fr.gU(f:Fr):ah:=f.full&&f.fQ
theorem HK:ix aj 200:=⟨Tryz.f200,func200,by kernel_rfl,by kernel_rfl⟩
theorem HL(f:Fr)(w:J):aN aj 200 #[.agg #[f.full,f.fQ,f.used,f.no,f.pins,f.b]] w (λv w'=>v=f.gU/\Ext w w'):=by
 refine okF (I7.uH f.full f.fQ f.used f.no f.pins f.b) I6.uH func200 ?_;(delta I7.uH a7 U ai;dsimp only);refine bd (vs:=f.c) rfl λw1 a hx hs=>⟨f.full,a.cell,cj (λb w'=>b=f.gU/\w1=w') (λq d=>⟨λh=>⟨f.fQ,by rw[av];exact a.cell,d _ _ ⟨by unfold Fr.gU;rw[h];rfl,rfl⟩⟩,λh=>d _ _ ⟨by unfold Fr.gU;rw[h];rfl,rfl⟩⟩) ?_⟩;rintro _ _ ⟨rfl,rfl⟩;exact⟨rfl,hx⟩
def jl(fs:O Fr):O Int:=(fs.filter Fr.gU).map Fr.no
theorem CH(h:fl w C):aN aj 145 #[.pointer (some C.c)] w (λv w'=>∃ (s:Y) (zs:O Int),v=s/\a8 1 3 w' s (zs.map encZ)/\zs.Perm (jl C.al)/\Ext w w'/\∀q,az s q->w.heap.size<=q):=by
 obtain⟨bS,ay,aR⟩:=h.cells
 have X:=h.bO
 refine okF (I7.uv (some C.c)) I6.uv func145 ?_
 (delta I7.uv aZ;dsimp only)
 refine Calls.mono (I7.Ew (some C.c) ⟨200,#[],#[]⟩ w (λv w'=>∃ (s:Y) (zs:O Int),v=s/\a8 1 3 w' s (zs.map encZ)/\zs.Perm (jl C.al)/\Ext w w'/\∀q,az s q->w.heap.size<=q) ?_) ?_
 · (delta I7.rv ai af aK a7 r1 U tn ar aR;dsimp only)
   refine⟨λh=>(by cases h),λ_=>⟨_,rfl,⟨some C.aU,C.al.length,C.al.length⟩,ay,λs n w'=>∃i:Nat,n=(i:Int)/\i<=C.al.length/\a8 1 3 w' s ((jl (C.al.take i)).map encZ)/\Ext w w'/\∀q,az s q->w.heap.size<=q,λ_ n _=>((C.al.length:Int)-n).toNat,⟨0,rfl,cE _,by simpa[jl] using a8.none 1 3 w,.refl _ _,λq e=>(gf q e).elim⟩,?_⟩⟩
   rintro s _ p ⟨i,rfl,hi,a,hx,g⟩
   have A:=h.ext hx
   refine⟨λaJ=>?_,λB=>?_⟩
   · have r:i<C.al.length:=by
       have:(i:Int)<(C.al.length:Int):=b1 aJ
       omega
     obtain⟨f,hf⟩:∃f,f=C.al[i]:=⟨_,rfl⟩
     have Z:(jl (C.al.take i)).length<=64:=by
       unfold jl
       rw[dN]
       have:=lV Fr.gU (C.al.take i)
       rw[cy]at this;omega
     have t:jl (C.al.take (i+1))=jl (C.al.take i)++(if f.gU then [f.no] else []):=by
       unfold jl
       rw[iq r,kK,fV,←hf,oY,List.filter_nil]
       congr 1
       split<;>rfl
     refine cj (λs w'=>a8 1 3 w' s ((jl (C.al.take (i+1))).map encZ)/\Ext w w'/\∀q,az s q->w.heap.size<=q) (λq e=>?_) ?_
     · have hc:∀j,j<6->p.cell? ⟨C.aU,i*6+j,none⟩=(f.c)[j]? :=λj D=>by rw[hf];exact j3 A.f r D
       refine⟨_,rfl,⟨I,by show(i:Int)<(C.al.length:Int);omega⟩,?_⟩
       rw[rL]
       refine⟨f.full,hc 0 (by decide),f.fQ,by rw[av];exact hc 1 (by decide),f.used,by rw[av];exact hc 2 (by decide),f.no,by rw[av];exact hc 3 (by decide),f.pins,by rw[av];exact hc 4 (by decide),f.b,by rw[av];exact hc 5 (by decide),?_⟩
       refine bd (vs:=[false,false,false,(0:Int),(0:Int),()]) rfl λaa u E ab=>⟨u.b9 rfl (λv l=>?_),rfl,cu u (us:=f.c) rfl rfl λy d F ac=>?_⟩
       · simp only[cS,eS,eW]at l
         rcases l with rfl|rfl|rfl|rfl|rfl|rfl<;>trivial
       have G:Ext p y:=Ext.cm E F (bn _)
       refine⟨f.full,d.cell,f.fQ,by rw[av];exact d.cell,f.used,by rw[av];exact d.cell,f.no,by rw[av];exact d.cell,f.pins,by rw[av];exact d.cell,f.b,by rw[av];exact d.cell,HK,(HL f y).use ?_⟩
       rintro _ m ⟨rfl,z⟩
       have k:=Ext.trans G z
       have H:=d.ext z
       refine⟨_,rfl,λhd=>⟨f.no,by rw[av];exact H.cell,aS ?_⟩,λhd=>e _ _ ⟨?_,Ext.trans hx k,g⟩⟩
       · have o:Ext m (m.alloc (.cells #[encZ f.no] 3)):=eA _ _
         obtain⟨J,K,au,aw,_,L,M⟩:=p1.append (cG:=58) (x:=⟨some m.heap.size,1,1⟩) (Src.new (T:=3) m [encZ f.no] 1 rfl) ((a.ext k).ext o) (λv l=>by rw[fh.1 l];trivial) (by
           have:s.len=(jl (C.al.take i)).length:=by
             have:=a.1
             rw[dN]at this;omega
           show(2*(s.len+1)+1000)*8<=_;omega)
         refine⟨J,K,au,e _ _ ⟨?_,?_,λq e=>?_⟩⟩
         · rw[t,hd,if_pos rfl,fV];exact aw
         · exact Ext.dr (Ext.trans (Ext.trans hx k) o) L g
         · rcases M q e with h1|h1
           · exact g q h1
           · have:=(Ext.trans hx k).size
             have:=o.size;omega
       · rw[t,hd]
         simp only[fL,if_false,fO]
         exact a.ext k
     · rintro ad ae ⟨h1,h2,N⟩
       have P:IntKind.wrap .i64 ((i:Int)+1)=((i+1:Nat):Int):=by rw[bu I I];omega
       rw[P]
       exact⟨⟨i+1,rfl,I,h1,h2,N⟩,by show((C.al.length:Int)-((i+1:Nat):Int)).toNat<((C.al.length:Int)-(i:Int)).toNat;omega⟩
   · have Q:i=C.al.length:=by
       have:¬(i:Int)<(C.al.length:Int):=cp B
       omega
     rw[Q,ir]at a
     refine(Cq a (by
       unfold jl
       rw[dN]
       have:=lV Fr.gU C.al;omega)).use ?_
     rintro _ ag ⟨rfl,R,zs,S,V⟩
     exact⟨rfl,s,zs,rfl,S,V.1,Ext.dr hx R g,g⟩
 · rintro _ w1 ⟨_,rfl,s,zs,rfl,a,W,hx,hf⟩
   exact⟨s,rfl,s,zs,rfl,a,W,hx,hf⟩
end
section
variable {w w':J}{C:bZ}{X:Nat->Prop}
theorem HM{D:a_}{no:Nat}{s:Y}{l:cT}{N:Nat}(a:∀q,az s q->bT D q\/N<=q):∀q,bT (D.put no s l) q->bT D q\/N<=q:=by
 rintro q (e|e|e|⟨x,hx,e⟩)
 .exact .inl (.inl e)
 .exact .inl (.inr (.inl e))
 .exact .inl (.inr (.inr (.inl e)))
 .rcases cS.1 hx with rfl|hx
  .exact a q e
  .exact .inl (.inr (.inr (.inr ⟨x,(hC.1 hx).1,e⟩)))
theorem fl.pX{ax:a_}(h:fl w C)(hd:cB w' ax)(e:ax.d=C.D.d)(hc:ad (bT C.D) w w')(hf:∀q,bT ax q->bT C.D q\/w.heap.size<=q):fl w' {C with D:=ax}:=by
 have h1:=h.v.ae hc h.a1.2.1;rw[←e]at h1;have a:C.c<w.heap.size:=h.v.lt;have b:C.aU<w.heap.size:=bt.lt h.f;refine⟨h1,bt.ae h.f hc h.a1.2.2,hd,h.bA,h.bO,h.hd,h.a1.1,λg=>?_,λg=>?_⟩
 .rcases hf _ g with g|g
  .exact h.a1.2.1 g
  .have g:w.heap.size<=C.c:=g
   omega
 .rcases hf _ g with g|g
  .exact h.a1.2.2 g
  .have g:w.heap.size<=C.aU:=g
   omega
def bZ.wrote(C:bZ)(i no:Nat)(hi:i<C.al.length)(s:Y):bZ:={C with al:=C.al.set i {C.al[i] with fQ:=false},D:=C.D.put no s (C.al[i]).l}
theorem HN(h:dW X w C){i no:Nat}(hi:i<C.al.length)(hf:(C.al[i]).full=true)(t:(C.al[i]).no=no){s:Y}(H:¬C.D.bI no=true)(hd:cB w' (C.D.put no s (C.al[i]).l))(hc:ad (bT C.D) w w')(T:∀q,az s q->bT C.D q\/w.heap.size<=q):
 (∃u:aa,w'.cell? ⟨C.aU,i*6+1,none⟩=some u)/\w'.frozen? ⟨C.aU,i*6+1,none⟩=false/\dW X (w'.setCell ⟨C.aU,i*6+1,none⟩ false) (C.wrote i no hi s)/\
   eB C (C.wrote i no hi s) w (w'.setCell ⟨C.aU,i*6+1,none⟩ false) 1/\∀j,(C.wrote i no hi s).view j=C.view j:=by
 have z:=HM (no:=no) (l:=(C.al[i]).l) T;obtain⟨ax,x⟩:∃ax,ax=C.D.put no s (C.al[i]).l:=⟨_,rfl⟩;have B:∀j,ax.now j=if j=no then (C.al[i]).l else C.D.now j:=by rw[x];exact oz _ _ _ _
 have J:ax.d=C.D.d:=by rw[x];rfl
 have U:ax.n=C.D.n:=by rw[x];rfl
 have W:ax.key=C.D.key:=by rw[x];exact Bu C.D H
 have K:kv ax C.D:=by rw[x];exact Bt h.inv H
 have am:ax.aO=C.D.aO+1:=by rw[x];rfl
 have Z:∀m,C.D.calm (m+1)->ax.calm m:=λm ab=>by rw[x];exact(jD (.inr rfl) h.raw.dev.f4 ab).1
 unfold bZ.wrote;rw[←x]at hd z⊢;have L:=h.raw.pX hd J hc z;obtain⟨a1,a2,a3,a4⟩:=nc L.f hi (j:=1) (by decide) (v:=false) {C.al[i] with fQ:=false} rfl;obtain⟨g,o⟩:∃g:Fr,g={C.al[i] with fQ:=false}:=⟨_,rfl⟩;rw[←o]at a3⊢;refine⟨a1,a2,?_⟩;generalize w'.setCell ⟨C.aU,i*6+1,none⟩ false=E at a3 a4;have G:ad (cY C) w E:=cr (hc.mono λq _ e=>.inr (.inr e)) a4 λq _ e=>.inr (.inl e);obtain⟨y,au,aw,ac,ae,an,ao,af⟩:=h.inv.ok _ (cA hi) hf;have ag:y=no:=by rw[t]at au;omega
 subst ag;obtain⟨a,r⟩:∃a:bZ,a={C with al:=C.al.set i dw,D:=ax}:=⟨_,rfl⟩;have h1:gz X E a:=by
  rw[r];exact x2 (V:=cY C) hi h.inv G (λ_ _ h=>h) K (λj A=>by rw[B,if_neg λe=>A hf (by rw[t,e])]) z dw rfl rfl
 have v1:∀j,a.view j=C.view j:=λj=>by
  rw[r];exact Bs hi h.inv (λ_ j A=>by rw[B,if_pos (by rw[t]at A;omega)]) (λj A=>by rw[B,if_neg λe=>A hf (by rw[t,e])]) dw rfl j
 have F:a.al=C.al.set i dw:=by rw[r]
 have dG:i<a.al.length:=by rw[F,dc];exact hi
 have M:∀ (k:Nat) (ah:k<a.al.length),k≠i->(a.al[k]).full=true->(a.al[k]).no≠y:=λk ah N h2 O=>by
  simp only[F,fA (Ne.symm N)]at h2 O;exact N (h.inv.un k i _ hi h2 hf (by rw[O,t]))
 have P:C.al.set i g=a.al.set i g:=by rw[F,set_set]
 have Q:({C with al:=C.al.set i g,D:=ax}:bZ)={a with al:=a.al.set i g,D:=ax}:=by rw[P,r]
 have ai:aY (λq=>¬cY {C with al:=C.al.set i g,D:=ax} q/\¬X q) E g.b g.l:=by
  rw[o];refine aY.re ac G (λq _ R=>R.1) λq R S=>⟨λp=>S.1 ?_,S.2⟩;rcases p with p|p|p
  .exact .inl p
  .exact .inr (.inl p)
  .exact .inr (.inr ((z q p).resolve_right I))
 have h2:gz X E {C with al:=C.al.set i g,D:=ax}:=by
  rw[Q];refine x3 (C:=a) (no:=y) (V:=λ_=>False) dG h1 (.refl _ _) (λ_ _ h=>h.elim) (by rw[r];exact⟨rfl,λ_ h=>h,K.2.2⟩) (λj=>by rw[r]) (λq=>by rw[r]) g (by rw[o];exact hf) (by rw[o];exact h.inv.pins (C.al[i]) (cA hi)) ⟨by rw[o];exact t,by show y<ax.n;rw[U];exact aw,by rw[←Q];exact ai,by rw[o];exact ae,λ_=>?_,λ_=>by rw[o],af⟩ M;show g.l=ax.now y;rw[B,if_pos rfl,o]
 have aj:∀j,({C with al:=C.al.set i g,D:=ax}:bZ).view j=C.view j:=λj=>by
  have ak:({C with al:=C.al.set i g,D:=ax}:bZ)=bZ.mk a.c a.aU (a.al.set i g) C.hand ax:=by rw[P,r]
  rw[ak,x4 (C:=a) (hd:=C.hand) (ax:=ax) (no:=y) dG h1.un (λj=>by rw[r]) g (by rw[o];exact hf) (by rw[o];exact t) (λp=>by simp only[F,h5]at p;cases p) M j,v1];split
  .rename_i e
   subst e;have:=mh (fs:=C.al) (D:=C.D) (c:=C.c) (aU:=C.aU) (hd:=C.hand) h.inv.un hi hf t;rw[o];exact this.symm
  .rfl
 refine⟨⟨?_,h2⟩,⟨rfl,J,by show(C.al.set i _).length=_;rw[dc],W,by show ax.aO<=_;omega,Z,G,?_⟩,aj⟩
 .refine x5 (C:={C with D:=ax}) L a4 a3
 .rintro q (e|e|e)
  .exact .inl (.inl e)
  .exact .inl (.inr (.inl e))
  .exact(z q e).imp (λh=>.inr (.inr h)) id
theorem yM{ax:a_}(h:dW X w C)(hd:cB w' ax)(e:ax.d=C.D.d)(b:kv ax C.D)(a:∀i,ax.now i=C.D.now i)(hc:ad (bT C.D) w w')(hf:∀q,bT ax q->bT C.D q\/w.heap.size<=q):dW X w' {C with D:=ax}/\∀j,({C with D:=ax}:bZ).view j=C.view j:=
 ⟨⟨h.raw.pX hd e hc hf,rN (C:=C) (hd:=C.hand) h.inv (hU.refl _) (hc.mono λq _ e=>.inr (.inr e)) (λ_ _ h=>h) b a hf⟩,λj=>rO (C:=C) (hd:=C.hand) h.inv (hU.refl _) a j⟩
theorem HO(h:dW X w C)(hc:∀f∈C.al,f.gU=false)(j:Nat):C.view j=C.D.now j:=by
 unfold bZ.view
 cases b:C.al.find? λf=>f.full&&f.no==(j:Int) with
 |none=>rfl
 |some f=>
  have c:=ju b;have a:=kc b;simp only[dX,kJ]at a;obtain⟨no,au,aw,g,i,d⟩:=h.inv.ok f c a.1;have h1:=hc f c;unfold Fr.gU at h1;rw[a.1,jo]at h1;have e:no=j:=by rw[a.2]at au;omega
  rw[←e];exact d h1
theorem CI{D:a_}(h:cB w D)(i:Nat):D.ja.now i=D.now i:=by
 by_cases hi:i<D.n
 .exact yK D hi
 .have h1:D.now i=[]:=by
   unfold a_.now
   cases hf:D.waits.find? λx=>x.i==i with
   |some x=>
    have hx:=ju hf;have he:x.i=i:=by simpa using kc hf
    have:=(h.wn x hx).2.1;omega
   |none=>
    have:¬i<D.bh.length:=hi;show D.bh.getD i []=[];rw[ft,ke I];rfl
  rw[h1];show((List.range D.n).map D.now).getD i []=[];rw[ft,ke (by simp;omega)];rfl
theorem r2(D:a_){m:Nat}(h:D.calm m):(D.cw 3).calm m:=by
 unfold a_.calm a_.cw at*;simpa[ft] using h
structure HP(X:Nat->Prop)(C aD:bZ)(w:J)(v:aa)(w':J):Prop where
 at_:dW X w' aD
 c:aD.c=C.c
 d:aD.D.d=C.D.d
 len:aD.al.length=C.al.length
 n:aD.D.n=C.D.n
 bI:aD.D.bI=C.D.bI/\aD.D.eo=C.D.eo
 aO:aD.D.aO<=C.D.aO+64
 calm:∀m,C.D.calm (m+64)->aD.D.calm m
 ae:ad (cY C) w w'
 cZ:∀q,cY aD q->cY C q\/w.heap.size<=q
 view:∀j,aD.view j=C.view j
 ic:(v=.int .i64 0/\aD.D.waits=[]/\(∀f∈aD.al,f.gU=false)/\aD.D.cg.getD 3 0=(gx (C.D.cg.getD 3 0)).2)\/(v=.int .i64 3/\aD.D.bh=C.D.bh/\(¬C.D.calm 64\/C.D.fP 3=true))
theorem HQ(h:dW X w C)(a0:C.D.aO<=999999900)(an:∀j,C.D.bI j=true->C.D.eo j=[]):aN aj 163 #[.pointer (some C.c)] w (λv w'=>∃aD,HP X C aD w v w'):=by
 have a1:=h.raw.bO;refine okF (I7.uA (some C.c)) I6.uA func163 ?_;(delta I7.uA ai aZ aK r1 kT af ay st ar;dsimp only);refine⟨λh=>(by cases h),λ_=>(CH h.raw).use ?_⟩;rintro _ w1 ⟨s,zs,rfl,hs,M,V,ao⟩;have hlen:s.len=zs.length:=by have:=hs.1;rw[dN]at this;omega
 have a2:zs.length<=64:=by
  rw[M.length_eq];unfold jl;rw[dN];have:=lV Fr.gU C.al;omega
 have h1:=h.ext V;have ap:∀z∈zs,∀no:Nat,(no:Int)=z->¬C.D.bI no=true:=λz t no a3 hs=>by
  obtain⟨f,hf,e⟩:=ep.1 (M.mem_iff.1 t);obtain⟨h2,u⟩:=hC.1 hf;unfold Fr.gU at u;rw[dX]at u;obtain⟨m,bA,_,_,_,_,W,aq⟩:=h.inv.ok f h2 u.1;have:m=no:=by rw[e]at bA;omega
  subst this;rw[W hs]at u
  cases u.2
 refine⟨s,rfl,λn w'=>∃ (i:Nat) (g:bZ),n=(i:Int)/\i<=zs.length/\dW X w' g/\eB C g w w' i/\(∀j,g.view j=C.view j)/\a8 1 3 w' s (zs.map encZ)/\(∀f∈g.al,f.gU=true->f.no∈zs.drop i)/\(∀z∈zs,∃f∈g.al,f.full=true/\f.no=z)/\∀q,cY g q->¬az s q,
  λn _=>((zs.length:Int)-n).toNat,⟨0,C,rfl,cE _,h1,eB.ext C V,λ_=>rfl,hs,λf hf hd=>?_,λz t=>?_,λq o N=>?_⟩,?_⟩
 .exact M.mem_iff.2 (ep.2 ⟨f,hC.2 ⟨hf,hd⟩,rfl⟩)
 .obtain⟨f,hf,e⟩:=ep.1 (M.mem_iff.1 t)
  obtain⟨h2,u⟩:=hC.1 hf;unfold Fr.gU at u;rw[dX]at u;exact⟨f,h2,u.1,e⟩
 .have:=ao q N;have:=h.raw.lt o;omega
 rintro _ Q ⟨i,g,rfl,hi,p,l,O,R,Y,hex,Z⟩;have a4:=l.aO;refine⟨λaJ=>?_,λax=>?_⟩
 .have G:i<zs.length:=by
   have:(i:Int)<(s.len:Int):=b1 aJ;omega
  obtain⟨a,aA,aB⟩:∃a:ab,s.a=some a/\Q.cell? (a.add (Int.toNat (i:Int)*1))=some (.int .i64 zs[i]):=by
   obtain⟨b,c,y,_,_,_,_,S,_⟩:=R.cell (i:=i) (v:=encZ zs[i]) (by rw[lg,du G];rfl);exact⟨_,y,by rw[c8,av,cx,fF];exact S⟩
  refine⟨a,aA,⟨I,by show(i:Int)<(s.len:Int);omega⟩,zs[i],aB,?_⟩;rw[←l.c];refine(vI p.raw _).use ?_;rintro _ _ ⟨aC,rfl⟩;obtain⟨f,aE,aF,aG⟩:=hex zs[i] (cA G);rcases aC with ⟨k,H,rfl,au,aw⟩|⟨_,aH⟩
  rotate_left
  .exact absurd aG (aH f aE aF)
  have J:=b4 Q;have B:=p.ext J;obtain⟨no,bA,bO,aa,aI,a5,W,aq⟩:=B.inv.ok _ (cA H) au;have t:zs[i]=(no:Int):=by rw[←aw,bA]
  have aL:=j3 B.raw.f H (j:=5) (by decide);refine⟨_,rfl,aS ⟨_,rfl,id,_,B.raw.cells.1,_,rfl,id,(g.al[k]).b,by rw[av];exact aL,?_⟩⟩;rw[t];refine(vG B.raw.dev (i:=no) bO I aa.1 aI λq o hf=>(aa.2.2 q o).1.1 (.inr (.inr hf))).use ?_;rintro v2 ag aM;have aP:=l.ae.size;have a6:=J.size;rcases aM with ⟨y,rfl,E,r⟩|⟨y,rfl,s2,E,r,aQ⟩
  .obtain⟨fH,dA⟩:=yM B E rfl (B.inv.cw 2) (λj=>rM g.D 2 j) (r.mono λq _ e=>.inl e) λq o=>.inl o
   refine⟨3,rfl,λ_=>⟨{g with D:=g.D.cw 2},fH,l.c,l.d,l.len,l.n,l.nd,by show g.D.aO<=_;omega,λm K=>?_,?_,?_,λj=>(dA j).trans (O j),.inr ⟨rfl,?_,.inl λaR=>?_⟩⟩,λh=>(by cases h)⟩
   .exact(jD (.inr rfl) p.raw.dev.f4 (l.calm (m+1) (f_ K I))).1
   .refine cr (l.ae.trans (ad.cF J)) r λq o e=>?_
    exact(l.cZ q (.inr (.inr (.inl e)))).resolve_right I
   .exact l.cZ
   .exact congrArg (λk=>k.1.1) l.bh
   .have:=(jD (k:=2) (m:=0) (.inr rfl) p.raw.dev.f4 (l.calm 1 (f_ aR I))).2
    rw[y]at this;cases this
  .obtain⟨bw,br,ac,P,aT⟩:=HN B H au (by rw[aw,t]) (λhs=>ap _ (cA G) _ t.symm (by rw[←l.bI];exact hs)) E r aQ
   refine⟨0,rfl,λh=>(by cases h),λ_=>⟨_,rfl,by rw[av];exact bw,by rw[av];exact br,?_⟩⟩;rw[av];refine aS ?_;generalize ag.setCell ⟨g.aU,k*6+1,none⟩ false=a7 at ac P;have aV:IntKind.wrap .i64 ((i:Int)+1)=((i+1:Nat):Int):=by rw[bu I I];omega
   rw[aV];have aW:=(l.trans (eB.ext g J)).trans P;have aX:zs.drop i=zs[i]::zs.drop (i+1):=jr G;refine⟨⟨i+1,_,rfl,I,ac,aW,λj=>(aT j).trans (O j),(R.ext J).ae P.ae λq o hf=>Z q hf o,λf hf A=>?_,λz t=>?_,λq o N=>?_⟩,by show((zs.length:Int)-((i+1:Nat):Int)).toNat<((zs.length:Int)-(i:Int)).toNat;omega⟩
   .have hf:f∈g.al.set k {g.al[k] with fQ:=false}:=hf
    obtain⟨b,T,rfl⟩:=fb hf;have ah:b<g.al.length:=by simpa using T
    by_cases e:k=b
    .subst e
     simp[Fr.gU]at A
    .simp only[fA e]at A⊢
     have F:=Y _ (cA ah) A;rw[aX]at F;rcases cS.1 F with U|U
     .unfold Fr.gU at A
      rw[dX]at A;exact absurd (p.inv.un k b H ah au A.1 (by rw[aw,U])) e
     .exact U
   .obtain⟨f,f1,f2,f3⟩:=hex z t
    obtain⟨b,T,rfl⟩:=fb f1;by_cases e:k=b
    .subst e
     exact⟨{g.al[k] with fQ:=false},List.mem_set H _,f2,f3⟩
    .exact⟨g.al[b],List.mem_iff_getElem.2 ⟨b,by show b<(g.al.set k _).length;rw[dc];exact T,by show(g.al.set k _)[b]'_=_;rw[fA e]⟩,f2,f3⟩
   .rcases P.cZ q o with F|F
    .exact Z q F N
    .have:=R.lt q N;omega
 .have G:i=zs.length:=by
   have:¬(i:Int)<(s.len:Int):=cp ax;omega
  have S:∀f∈g.al,f.gU=false:=λf hf=>by
   cases A:f.gU with
   |false=>rfl
   |true=>
    have:=Y f hf A;rw[G,List.drop_length]at this
    cases this
  have ak:g.D.cg.getD 3 0=C.D.cg.getD 3 0:=congrArg Prod.snd l.bh;rw[←l.c];refine⟨_,rfl,_,p.raw.cells.1,(yL p.raw.dev I).use ?_⟩;have aP:=l.ae.size;rintro v2 ag (⟨y,rfl,E,r⟩|⟨y,rfl,E,r⟩)
  .obtain⟨fH,dA⟩:=yM p E rfl (p.inv.cw 3) (λj=>rM g.D 3 j) (r.mono λq _ e=>.inl e) λq o=>.inl o
   refine⟨3,rfl,{g with D:=g.D.cw 3},fH,l.c,l.d,l.len,l.n,l.nd,by show g.D.aO<=_;omega,λm K=>r2 _ (l.calm m (f_ K I)),cr l.ae r λq o e=>(l.cZ q (.inr (.inr (.inl e)))).resolve_right I,l.cZ,λj=>(dA j).trans (O j),.inr ⟨rfl,congrArg (λk=>k.1.1) l.bh,.inr ?_⟩⟩;unfold a_.fP at y⊢;rw[←ak];exact y
  .have am:∀q,bT (g.D.cw 3).ja q->bT g.D q\/Q.heap.size<=q:=by
    rintro q (e|e|e|⟨x,hx,e⟩)
    .exact .inl (.inl e)
    .exact .inl (.inr (.inl e))
    .exact .inl (.inr (.inr (.inl e)))
    .cases hx
   have aY:∀j,(g.D.cw 3).ja.now j=g.D.now j:=λj=>by
    by_cases L:j<g.D.n
    .exact(yK (g.D.cw 3) L).trans (rM g.D 3 j)
    .have F:g.D.ja.now j=g.D.now j:=CI p.raw.dev j
     exact F
   obtain⟨fH,dA⟩:=yM p E rfl ⟨r0 (g.D.cw 3),λ_ h=>h,λj L=>by
    have L:g.D.bI j=true:=L;have e:g.D.eo j=[]:=by rw[l.nd.2];exact an j (by rw[←l.nd.1];exact L)
    exact e.symm⟩ aY r am
   refine⟨0,rfl,{g with D:=(g.D.cw 3).ja},fH,l.c,l.d,l.len,(r0 (g.D.cw 3)).trans l.n,l.nd,by show g.D.aO<=_;omega,λm K=>r2 g.D (l.calm m (f_ K I)),cr l.ae r λq o e=>(l.cZ q (.inr (.inr e))).resolve_right I,λq o=>?_,λj=>(dA j).trans (O j),.inl ⟨rfl,rfl,S,?_⟩⟩
   .rcases o with e|e|e
    .exact l.cZ q (.inl e)
    .exact l.cZ q (.inr (.inl e))
    .rcases am q e with e|e
     .exact l.cZ q (.inr (.inr e))
     .exact .inr I
   .show(g.D.cg.set 3 _).getD 3 0=_
    have a9:=p.raw.dev.f4;rw[ff (by rw[dc];omega),h5,ak]
end
def g4(aX d c sb:Nat)(l:fI)(u:cU)(gen now first pending keys:Nat)(failed:ah):O aa:=
 [.pointer (some aX),.pointer (some d),.pointer (some c),.pointer (some sb),l.al,l.batch,.int .u64 (l.d_:Nat),
  u.root,u.aE,u.map,.int .u64 (u.clock:Nat),.int .u64 (u.cv:Nat),u.keys,
  .int .u64 (gen:Nat),.int .u64 (now:Nat),.int .u64 (first:Nat),pending,keys,failed]
section
variable {w w':J}{D:a_}
structure CJ(D:a_)(l:fI)(u:cU)(gen sb:Nat)(w:J)(v:aa)(w':J)(c aU aX st:Nat):Prop where
 val:v=.tuple #[.pointer (some st),(0:Int)]
 ca:dW (λ_=>False) w' (iI c aU l.al D)
 de:Var w' aX [.pointer (some c),.pointer (some sb),.int .u64 ((gen+1:Nat):Int),u.root,u.aE] 239
 sv:Var w' st (g4 aX D.d c sb l u gen u.clock 0 0 u.keys false) 158
 x:Ext w w'
 hc:w.heap.size<=c/\c<aX
 hf:w.heap.size<=aU/\aU<aX
 ht:aX<st
def a_.gj(D:a_)(s:Nat->ah)(z:Nat->O cT):a_:={D with bI:=s,eo:=z}
theorem cB.gj(h:cB w D)(s:Nat->ah)(z:Nat->O cT):cB w (D.gj s z):=⟨h.v,h.l,h.m,h.ws,h.wn,h.sl,h.ku,h.bR,h.bq,h.f4,h.fr,h.a1,h.a2,h.a3⟩
theorem mU(h:cB w D){l:fI}(q:8<=l.al/\l.al<=64){u:cU}(hu:ql D.n (u.root:Nat) (u.aE:Nat)){gen:Nat}(hg:gen+1<18446744073709551616)(s:∀j,D.bI j=true->D.dv j=D.eo j)(sb:Nat):
 aN aj 78 #[.pointer (some D.d),.agg l.c.toArray,.agg u.c.toArray,.int .u64 (gen:Nat),.pointer (some sb)] w (λv w'=>∃c aU aX st,CJ D l u gen sb w v w' c aU aX st):=by
 refine I7.Ej _ (l.al:Nat) (l.batch:Nat) (l.d_:Nat) (u.root:Nat) (u.aE:Nat) (u.map:Nat) (u.clock:Nat) (u.cv:Nat) (u.keys:Nat) (gen:Nat) (some sb) w _ ?_;(delta I7.mU r1 U c9 ai bl nN;dsimp only);refine bd (vs:=l.c) rfl λw1 t i H=>bd (vs:=u.c) rfl λag x b J=>?_;have r:=t.ext b;have y:=h.ext (i.trans b);refine⟨_,r.cell,(pB y q.1 q.2 s).use ?_⟩;rintro _ a ⟨c,aU,rfl,e,f,K,L⟩;have k:=x.ext f;have z:IntKind.wrap .u64 ((gen:Int)+1)=((gen+1:Nat):Int):=by rw[gO I I];omega
 rw[z];have M:(iI c aU l.al D).D=D:=rfl;refine⟨_,0,rfl,λh=>(by cases h),λ_=>⟨_,k.cell,_,by rw[av];exact k.cell,(nU e.raw sb ((gen+1:Nat):Int) (u.root:Nat) (u.aE:Nat)).use ?_⟩⟩;rintro _ A (⟨_,rfl,g,B,N⟩|⟨C,_⟩)
 rotate_left
 .exact absurd hu C
 have m:=k.ext g;have o:=(r.ext f).ext g;have O:=(i.trans b).size;have P:=f.size;have E:c<a.heap.size:=e.raw.lt (.inl rfl);have F:aU<a.heap.size:=e.raw.lt (.inr (.inl rfl));refine⟨_,0,rfl,λh=>(by cases h),λ_=>⟨_,o.cell,_,by rw[av];exact o.cell,_,by rw[av];exact o.cell,gM m ⟨_,by rw[av];exact m.cell,_,by rw[av];exact m.cell,(g4 a.heap.size D.d c sb l u gen u.clock 0 0 u.keys false).toArray,by kernel_rfl,bd (vs:=g4 a.heap.size D.d c sb l u gen u.clock 0 0 u.keys false) rfl λQ G p R=>?_⟩⟩⟩;exact⟨c,aU,a.heap.size,A.heap.size,rfl,(e.ext g).ext p,B.ext p,G,Ext.trans (Ext.trans (i.trans b) f) (Ext.trans g p),⟨I,E⟩,⟨I,F⟩,I⟩
def fJ(f:Nat->ah)(k:Nat):O UInt8:=(List.range k).map λi=>UInt8.ofNat (byteOf f i)
theorem CK(f:Nat->ah)(k:Nat):aG (fJ f k)=eT f k:=by
 unfold aG fJ eT;rw[iu];refine List.map_congr_left λi _=>?_;have:=j4 f i;show Value.int .u8 (((UInt8.ofNat (byteOf f i)).toNat:Nat):Int)=_;rw[UInt8.toNat_ofNat',jv this]
theorem oJ(f:Nat->ah)(k:Nat):(fJ f k).length=k:=by simp[fJ]
def j9:cU:=⟨0,0,2,0,0,0⟩
structure CL(D ax:a_):Prop where
 d:ax.d=D.d
 n:ax.n=D.n
 now:∀j,ax.now j=if j=1 then ez 1 (iZ j9 D.n 1) else if j=2 then ez 2 ⟨4,1,fJ (λi=>decide (i<3)) ((D.n+7)/8)⟩ else if j=0 then gy else D.now j
 waits:ax.waits=[]
 aO:ax.aO=D.aO+4
 calm:∀k,ax.calm k
 cg:ax.cg.getD 3 0= -1
 bI:ax.bI=λi=>decide (i<3)
 eo:ax.eo=λ_=> []
structure HR(D:a_)(l:fI)(w:J)(v:aa)(w':J)(ax:a_)(sb:Nat)(s1 s2:Y)(c aU aX st:Nat)(j2:J):Prop where
 CM:CJ ax l j9 1 sb j2 v w' c aU aX st
 sp:eP w' sb D.n (λi=>decide (i<3)) (λi=>decide (i<3)) s1 s2
 pX:CL D ax
 ae:ad (bT D) w j2
 r3:∀q,fm sb s1 s2 q->w.heap.size<=q/\q<j2.heap.size
 dq:∀q,bT ax q->bT D q\/(w.heap.size<=q/\q<j2.heap.size)
 HS:∀q,fm sb s1 s2 q->¬bT ax q
theorem nR(h:cB w D){l:fI}(ao:kD (l.al:Nat) (l.batch:Nat) (l.d_:Nat))(bj:∀k,D.calm k)(p3:D.cg.getD 3 0= -1)(b0:D.aO<=999999000):
 aN aj 19 #[.pointer (some ⟨D.d,0,none⟩),.agg l.c.toArray] w (λv w'=>∃ax sb s1 s2 c aU aX st j2,HR D l w v w' ax sb s1 s2 c aU aX st j2):=by
 have b2:=h.bR;have b3:=h.bq;refine I7.Eg _ (l.al:Nat) (l.batch:Nat) (l.d_:Nat) w _ ?_;(delta I7.nR r1 U bl aF ai ay c9 aZ b6 km ji ar gv;dsimp only);refine bd (vs:=l.c) rfl λw1 Q J b4=>⟨_,Q.cell,_,by rw[av];exact Q.cell,_,by rw[av];exact Q.cell,(nS w1 _ _ _ _).use ?_⟩;rintro _ bk ⟨rfl,C⟩;have bm:=h.ext (J.trans C);refine⟨_,rfl,λg=>?_,λ_=>(p7 bm).use ?_⟩
 .rw[dm ao]at g;cases g
 rintro _ _ ⟨rfl,rfl⟩;refine⟨_,rfl,(pw bk (D.n:Nat) 3).use ?_⟩;rintro _ b5 (⟨bo,_⟩|⟨_,_,_,_,sb,s1,s2,rfl,hs,aa,ab⟩)
 .exact absurd ⟨I,I,I,I⟩ bo
 rw[c8]at hs;have ac:Int.toNat 3=3:=rfl;rw[ac]at hs;refine⟨_,0,rfl,λh=>(by cases h),λ_=>(BP hs).use ?_⟩;rintro _ bp ⟨aM,rfl,aP,K,b7⟩;rw[←CK]at aP;obtain⟨mp,R⟩:∃mp:ig,mp=⟨4,1,fJ (λi=>decide (i<3)) ((D.n+7)/8)⟩:=⟨_,rfl⟩;have aQ:m7 mp:=by rw[R];exact⟨(by decide:1<=4),(by decide:4<=4),(by decide:1<18446744073709551616),by show(fJ _ _).length<=232;rw[oJ];omega⟩
 have aR:=vx (s:=aM) (p:=mp) (no:=2) (w:=bp) (by rw[R];exact aP.src) (by decide) aQ;rw[R]at aR;refine⟨aM,rfl,aR.use ?_⟩;rw[←R];rintro _ br ⟨E,rfl,aS,N,bs⟩;have aT:=Ext.trans (Ext.trans (J.trans C) aa) (Ext.trans K N);have b8:=aT.size;refine⟨E,0,rfl,λh=>(by cases h),λ_=>⟨⟨I,I,I,I⟩,?_⟩⟩;rw[xJ];have bt:Int.toNat 256=256:=rfl;rw[bt];have ap:gy.length=256:=mJ;refine bd (vs:=aG gy) rfl λz S F b9=>?_;obtain⟨t,bv⟩:∃t,t=br.heap.size:=⟨_,rfl⟩;rw[←bv]at S⊢;have af:=Ext.trans aT F;have aV:Src 1 z ⟨some ⟨t,0,none⟩,256,256⟩ (aG gy):=S.AK (o:=0) (n:=256) (c:=256) (l:=gy) (by rw[ej,ap];exact bn _) (by rw[lh,dD (by rw[ej,ap];exact bn _)]);refine⟨#[.slice (some ⟨t,0,none⟩) 256 256,.slice (some ⟨t,0,none⟩) 256 256,.slice E.a E.len E.cap],by kernel_rfl,?_⟩;have bw:(ez 2 mp).length=256:=rE _ aQ;obtain⟨vals,au⟩:∃vals:Nat->cT,vals=λj=>if j=2 then ez 2 mp else gy:=⟨_,rfl⟩
 have bx:∀j,(vals j).length=256:=λj=>by
  rw[au];show(if j=2 then _ else _:cT).length=256;split
  .exact bw
  .exact ap
 have bz:∀k,k<3->∃G:Y,cellAt #[.slice (some ⟨t,0,none⟩) 256 256,.slice (some ⟨t,0,none⟩) 256 256,.slice E.a E.len E.cap] (Int.toNat ((k:Nat):Int)*1)=some (.slice G.a G.len G.cap)/\Src 1 z G (aG (vals k))/\∀q,az G q->w.heap.size<=q/\q<z.heap.size:=by
  intro k aW;have bA:=S.lt;have b_:=F.size;rw[au];have hi:∀q,az (⟨some ⟨t,0,none⟩,256,256⟩:Y) q->w.heap.size<=q/\q<z.heap.size:=λq b=>by
   obtain⟨A,aq,rfl⟩:=b
   cases aq;show w.heap.size<=t/\t<_;exact⟨I,bA⟩
  have ca:=(Ext.trans (Ext.trans (J.trans C) aa) K).size
  match k,aW with
  |0,_=>exact⟨⟨some ⟨t,0,none⟩,256,256⟩,rfl,aV,hi⟩
  |1,_=>exact⟨⟨some ⟨t,0,none⟩,256,256⟩,rfl,aV,hi⟩
  |2,_=>exact⟨E,rfl,aS.src.ext F,λq b=>by have:=bs q b;have:=aS.lt q b;omega⟩
 have bB:=h.ext af;refine⟨λn w'=>∃ (k:Nat) (r:a_),n=(k:Int)/\k<=3/\cB w' r/\r.d=D.d/\r.n=D.n/\(∀j,r.now j=if j<k then vals j else D.now j)/\r.aO=D.aO+k/\(∀m,r.calm m)/\r.cg.getD 3 0= -1/\ad (bT D) z w'/\(∀q,bT r q->bT D q\/z.heap.size<=q),
  λn _=>((3:Int)-n).toNat,⟨0,D,rfl,cE _,bB,rfl,rfl,λj=>rfl,rfl,bj,p3,.refl _ _,λq b=>.inl b⟩,?_⟩
 rintro _ cb ⟨k,r,rfl,aW,O,ag,aY,a0,bC,aw,aA,ah,L⟩;have cc:=ah.size;refine⟨λaJ=>?_,λbD=>?_⟩
 .have aB:k<3:=by
   have:((k:Nat):Int)<3:=b1 aJ;omega
  obtain⟨G,bE,bF,a1⟩:=bz k aB;have c1:∀q,az G q->¬bT D q:=λq b hf=>by have:=(a1 q b).1;have:=h.lt hf;omega
  have a2:=vG O (i:=k) I I (bF.ae ah c1) (bx k) λq b hf=>by
   rcases L q hf with h1|h1
   .exact c1 q b h1
   .have:=(a1 q b).2;omega
  rw[ag]at a2;refine⟨⟨I,I⟩,G,bE,a2.use ?_⟩;rintro _ cd (⟨g,_⟩|⟨g,rfl,s,bG,bH,bI⟩)
  .have:=(jD (k:=2) (m:=0) (.inr rfl) O.f4 (aw 1)).2
   rw[g]at this;cases this
  refine⟨0,rfl,λh=>(by cases h),λ_=>?_⟩;have bJ:IntKind.wrap .i64 (((k:Nat):Int)+1)=((k+1:Nat):Int):=by rw[bu I I];omega
  rw[bJ];refine⟨⟨k+1,_,rfl,I,bG,ag,aY,λj=>?_,by show r.aO+1=_;omega,λm=>(jD (.inr rfl) O.f4 (aw _)).1,(congrArg Prod.snd (p8 r (.inr rfl))).trans aA,cr ah bH λq b hf=>(L q hf).resolve_right I,λq b=>?_⟩,by show((3:Int)-((k+1:Nat):Int)).toNat<((3:Int)-((k:Nat):Int)).toNat;omega⟩
  .rw[oz,a0]
   by_cases e:j=k
   .rw[if_pos e,if_pos I,e]
   .rw[if_neg e]
    by_cases T:j<k
    .rw[if_pos T,if_pos I]
    .rw[if_neg T,if_neg I]
  .rcases vY bI q b with h1|h1
   .exact L q h1
   .exact .inr I
 have aB:k=3:=by
  have:¬((k:Nat):Int)<3:=cp bD;omega
 subst aB;have hf:=yL O I;rw[ag]at hf;refine hf.use ?_;rintro _ a3 (⟨g,_⟩|⟨_,rfl,aC,bK⟩)
 .unfold a_.fP at g
  rw[aA]at g;cases g
 obtain⟨cn,H⟩:∃cn,cn=(r.cw 3).ja:=⟨_,rfl⟩;rw[←H]at aC;have a4:cn.d=D.d:=by rw[H];exact ag
 have a5:cn.n=D.n:=by rw[H];exact(r0 _).trans aY
 have bL:∀j,cn.now j=if j<3 then vals j else D.now j:=λj=>by
  rw[←a0,H];have aD:r.ja.now j=r.now j:=CI O j;exact aD
 have ce:cn.aO=D.aO+3:=by rw[H];exact bC
 have a6:∀m,cn.calm m:=λm=>by rw[H];exact r2 _ (aw m)
 have a7:cn.cg.getD 3 0= -1:=by
  rw[H];show(r.cg.set 3 _).getD 3 0=_;have bM:=O.f4;rw[ff (by rw[dc];omega),h5,aA];rfl
 have ak:∀q,bT cn q->bT D q\/z.heap.size<=q:=λq b=>by
  rw[H]at b;rcases b with e|e|e|⟨x,hx,e⟩
  .exact L q (.inl e)
  .exact L q (.inr (.inl e))
  .exact L q (.inr (.inr (.inl e)))
  .cases hx
 have am:ad (bT D) z a3:=cr ah bK λq b hf=>(L q hf).resolve_right I;have V:∀q,w.heap.size<=q->¬bT D q:=λq b hf=>by have:=h.lt hf;omega
 have bN:=((Q.ext (C.trans (Ext.trans aa (Ext.trans K (Ext.trans N F))))).ae am (V _ (bn _)));have bO:=(hs.ext (Ext.trans K (Ext.trans N F))).ae am λq b=>V q (by have:=ab q b;have:=(J.trans C).size;omega);refine⟨0,rfl,λh=>(by cases h),λ_=>bd (vs:=gi.c) rfl λcf bP bQ ch=>i_ bP rfl j9 λbS a8 bU ci=>gM a8 ?_⟩;have W:Ext a3 bS:=Ext.cm bQ bU (bn _);have X:=aC.ext W;have a9:=mT X I (u:=j9) ⟨(by decide:0<4294967296),(by decide:0<256),(by decide:2<4294967296),(by decide:0<18446744073709551616),(by decide:0<18446744073709551616),(by decide:0<4294967296)⟩ (gen:=1) (by decide);rw[a4]at a9;refine a9.use ?_;have cj:=W.size;have ck:=am.size;rintro _ ba ⟨an,⟨g,_⟩|⟨_,s,bV,f,B,⟨g,_⟩|⟨_,rfl,Z⟩⟩⟩
 .have:=(jD (k:=2) (m:=0) (.inr rfl) X.f4 (a6 1)).2
  rw[g]at this;cases this
 .have aE:f.cg.getD 3 0= -1:=by rw[B];exact(congrArg Prod.snd (p8 cn (.inr rfl))).trans a7
  unfold a_.fP at g;rw[aE]at g;cases g
 have aE:f.cg.getD 3 0= -1:=by rw[B];exact(congrArg Prod.snd (p8 cn (.inr rfl))).trans a7
 obtain⟨M,y⟩:∃M,M=((f.cw 3).ja).gj (λi=>decide (i<3)) (λ_=> []):=⟨_,rfl⟩;have Z:=Z.gj (λi=>decide (i<3)) (λ_=> []);rw[←y]at Z;have bW:∀x∈f.waits,x.i<f.n:=λx hx=>by
  rw[B]at hx⊢;rcases cS.1 hx with rfl|hx
  .show 1%2<cn.n;omega
  .exact(X.wn x (hC.1 hx).1).2.1
 have bX:∀j,M.now j=if j=1 then ez 1 (iZ j9 D.n 1) else if j<3 then vals j else D.now j:=λj=>by
  have aD:M.now j=f.now j:=by
   rw[y];by_cases bb:j<f.n
   .exact(yK (f.cw 3) bb).trans (rM f 3 j)
   .have P:f.now j=[]:=by
     unfold a_.now
     cases hf:f.waits.find? λx=>x.i==j with
     |some x=>
      have hx:=ju hf;have he:x.i=j:=by simpa using kc hf
      have:=bW x hx;omega
     |none=>
      have:¬j<f.bh.length:=bb;show f.bh.getD j []=[];rw[ft,ke I];rfl
    rw[P];show((List.range (f.cw 3).n).map (f.cw 3).now).getD j []=[];rw[ft,ke (by simp;show f.n<=j;omega)];rfl
  rw[aD,B,oz,bL,a5]
 have aH:CL D M:=by
  refine⟨by rw[y,B];exact a4,by rw[y];exact(r0 (f.cw 3)).trans (by rw[B];exact a5),λj=>?_,by rw[y];rfl,by rw[y,B];show cn.aO+1=_;omega,λm=>by rw[y,B];exact r2 (cn.put (1%2) s (ez (1%2) (iZ j9 cn.n 1))) (jD (.inr rfl) X.f4 (a6 _)).1,?_,by rw[y];rfl,by rw[y];rfl⟩
  .rw[bX,au,←R]
   by_cases P:j=1
   .rw[if_pos P,if_pos P]
   .rw[if_neg P,if_neg P]
    by_cases T:j=2
    .subst T;rfl
    .by_cases ac:j=0
     .subst ac;rfl
     .rw[if_neg I,if_neg T,if_neg ac]
  .rw[y]
   show(f.cg.set 3 _).getD 3 0=_;have bM:f.cg.length=4:=by rw[B];show(cn.cg.set 2 _).length=4;rw[dc];exact X.f4
   rw[ff (by rw[dc];omega),h5,aE];rfl
 have bc:∀q,bT M q->bT D q\/z.heap.size<=q:=λq b=>by
  rw[y]at b;have h1:bT f q:=by
   rcases b with e|e|e|⟨x,hx,e⟩
   .exact .inl e
   .exact .inr (.inl e)
   .exact .inr (.inr (.inl e))
   .cases hx
  rw[B]at h1;rcases vY bV q h1 with h2|h2
  .exact ak q h2
  .exact .inr I
 have be:ad (bT D) z ba:=cr (cr am W λq _ h=>h.elim) an λq b hf=>(ak q hf).resolve_right I;have aI:=(bN.ext W).ae an λhf=>by
  rcases ak _ hf with h1|h1
  .exact V _ (bn _) h1
  .have:=af.size;have:=S.lt;have:=Q.lt;have:=C.size;have:=aa.size;have:=K.size;have:=N.size;have:=F.size;omega
 have bY:=a8.ae an λhf=>by
  have:=aC.lt hf;omega
 have bf:=(bO.ext W).ae an λq b hf=>by
  have bg:=ab q b;have aK:=(hs.ext (Ext.trans K (Ext.trans N (ad.refl _ _)))).lt q b;rcases ak _ hf with h1|h1
  .exact V q (by have:=(J.trans C).size;omega) h1
  .have:=F.size;omega
 have cl:=be.size;have S:=af.size;have bi:=mU Z (l:=l) (u:=j9) (gen:=1) ⟨by have:=ao.1;omega,by have:=ao.2.1;omega⟩ ⟨by decide,by decide,by decide,by rw[aH.n];show(0:Int)<_;omega,by decide⟩ (by decide) (λj _=>by rw[y];rfl) sb;rw[aH.d]at bi;refine⟨0,rfl,λh=>(by cases h),λ_=>⟨_,aI.cell,_,by rw[av];exact aI.cell,_,by rw[av];exact aI.cell,gM bY (bi.use ?_)⟩⟩;rintro _ co ⟨c,aU,aX,st,aL⟩;have bZ:=aL.val;subst bZ;refine⟨_,0,rfl,M,sb,s1,s2,c,aU,aX,st,ba,aL,bf.ext aL.x,aH,cr (af.mono λ_ _ h=>h.elim) be λq _ h=>h,λq b=>?_,λq b=>?_,λq b hf=>?_⟩
 .have bg:=ab q b
  have aK:=bf.lt q b;have:=(J.trans C).size;exact⟨I,aK⟩
 .rcases bc q b with h1|h1
  .exact .inl h1
  .exact .inr ⟨I,Z.lt b⟩
 .have bg:=ab q b
  have aK:=(hs.ext (Ext.trans K (Ext.trans N (ad.refl _ _)))).lt q b;rcases bc _ hf with h1|h1
  .exact V q (by have:=(J.trans C).size;omega) h1
  .have:=F.size;omega
end
theorem ga.rising{T:aL}{pages:O Nat}{L:O aH}(h:ga T pages L):gI L:=by
 rcases h with ⟨_,_,_,a⟩|b
 .rw[a];exact List.Pairwise.nil
 .exact b.e4.1
section
variable {w0 w w':J}{vZ aP:Nat}{T an:aL}{r h k:Nat}{pages:O Nat}{L e7:O aH}{ms:Y}
theorem bJ.jL{ky:Nat}(ht:bJ w T)(a:T.E ky)(hc:ad (λq=>q=ky) w w'):bJ w' T:=
 ht.grow (E:=T.E) (G:=T.G) hc (λq e _=>.inl (by rw[e];exact a)) (λq a=>.inl a) (λq a=>.inr (.inl a)) λq a=>(ht.c2 q a).2.2
end
theorem HT{L:O aH}{key:Key}(h:∀p∈L,cz p.1)(a:¬cz key):ec L key=none:=by
 unfold ec;rw[iO.2 λp b=>by
  have h1:=h p b;simp only[cQ];intro e;rw[e]at h1;exact a h1]
 rfl
def aL.v7(T:aL)(f g:Nat->ah)(s1 s2:Y):aL:={T with f:=f,g:=g,s1:=s1,s2:=s2}
def aL.bV(T:aL)(aX gen root aE:Nat)(E:Nat->Prop):aL:={T with aX:=aX,gen:=gen,root:=root,aE:=aE,E:=E}
section
variable {w0 w w':J}{vZ aP:Nat}{T an:aL}{r h k:Nat}{pages:O Nat}{L e7:O aH}{ms:Y}
theorem bJ.space{f g:Nat->ah}{s1 s2:Y}(ht:bJ w T)(hs:eP w' T.sb T.n f g s1 s2)(hc:ad (fm T.sb T.s1 T.s2) w w')(hf:∀k,fm T.sb s1 s2 k->fm T.sb T.s1 T.s2 k\/w.heap.size<=k)(d:∀j,T.C.D.bI j=true->g j=true\/T.C.D.ro)(e:g 0=true/\g 1=true):
 bJ w' (T.v7 f g s1 s2)/\∀q,(T.v7 f g s1 s2).M q->T.M q\/w.heap.size<=q:=by
 have c:∀q,T.X q->¬fm T.sb T.s1 T.s2 q->¬fm T.sb s1 s2 q:=λq hx a h2=>by
  rcases hf q h2 with b|b
  .exact a b
  .have:=ht.lt (q:=q) (.inr hx);omega
 refine⟨⟨ht.t.ae hc ht.jF,hs,ht.ca.grow hc (λq a _=>.inr (.inl a)) λq a=>?_,c _ (.inl rfl) ht.jF,λq a=>⟨(ht.c2 q a).1,c q (.inr (.inr (.inl a))) (ht.c2 q a).2.1,(ht.c2 q a).2.2⟩,λq a=>⟨(ht.hV q a).1,c q (.inr (.inr (.inr a))) (ht.hV q a).2⟩,ht.n,ht.num,ht.ek,d,e⟩,λq a=>?_⟩
 .rcases a with a|a|a|a
  .exact .inl (.inl a)
  .rcases hf q a with b|b
   .exact .inl (.inr (.inl b))
   .exact .inr ⟨b,hs.lt q a⟩
  .exact .inl (.inr (.inr (.inl a)))
  .exact .inl (.inr (.inr (.inr a)))
 .rcases a with a|a|a|a|a
  .exact .inl (.inl a)
  .exact .inl (.inr (.inl a))
  .exact(hf q a).imp (λh=>.inr (.inr (.inl h))) id
  .exact .inl (.inr (.inr (.inr (.inl a))))
  .exact .inl (.inr (.inr (.inr (.inr a))))
theorem bJ.tree{aX gen root aE:Nat}{E:Nat->Prop}(ht:bJ w T)(hx:Ext w w')(g:Var w' aX (k5 (T.bV aX gen root aE E)) 239)(c:T.E aX\/w.heap.size<=aX)(d:∀q,E q->q≠aX/\(T.E q\/q=T.aX\/(w.heap.size<=q/\q<w'.heap.size)))
 (i:root<T.n/\aE<=12/\gen<18446744073709551616) (j:∀no bk,T.P no=some bk->no<T.n/\gL gen bk.leaf no (T.C.view no) bk):bJ w' (T.bV aX gen root aE E):=by
 have l:=g.lt;have h1:¬fm T.sb T.s1 T.s2 aX:=λh=>by
  rcases c with h2|h2
  .exact(ht.c2 _ h2).2.1 h
  .have:=ht.lt (q:=aX) (.inr (.inr (.inl h)));omega
 have h2:∀q,T.G q->q≠aX:=λq a e=>by
  rcases c with h2|h2
  .rw[e]at a;exact(ht.c2 _ h2).2.2 a
  .have:=ht.lt (q:=q) (.inr (.inr (.inr (.inr a))));omega
 have k:∀q,E q->¬fm T.sb T.s1 T.s2 q/\¬T.G q:=λq a=>by
  rcases(d q a).2 with b|b|b
  .exact(ht.c2 q b).2
  .rw[b]
   exact⟨ht.jF,λhg=>(ht.hV _ hg).1 rfl⟩
  .exact⟨λf=>by have:=ht.lt (q:=q) (.inr (.inr (.inl f)));omega,λf=>by have:=ht.lt (q:=q) (.inr (.inr (.inr (.inr f))));omega⟩
 refine⟨g,ht.s.ext hx,ht.ca.grow (W:=λ_=>False) hx (λ_ h=>h.elim) λq a=>?_,h1,λq a=>⟨(d q a).1,k q a⟩,λq a=>⟨h2 q a,(ht.hV q a).2⟩,ht.n,i,j,ht.bI,ht.low⟩;rcases a with a|a|a|a
 .have a:q=aX:=a
  rcases c with b|b
  .exact .inl (.inr (.inr (.inl (by rw[a];exact b))))
  .exact .inr ⟨I,I⟩
 .exact .inl (.inr (.inl a))
 .rcases(d q a).2 with b|b|b
  .exact .inl (.inr (.inr (.inl b)))
  .exact .inl (.inl b)
  .exact .inr b
 .exact .inl (.inr (.inr (.inr a)))
theorem ga.agree{p:O Nat}(a:ga T p L)(b:an.root=T.root)(c:an.aE=T.aE)(d:∀x∈p,T.P x=an.P x):ga an p L:=by
 unfold ga at a⊢;rw[b,c];exact a.imp id λe=>(e.agree d).1
end
theorem dV.node{P:Nat->ao aB}:∀ (h:Nat) {lo hi:ao Key}{no:Nat}{p:O Nat}{L:O aH},dV P h lo hi no p L->∀x∈p,∃bk,P x=some bk
 |0,_,_,_,_,_,a=>a.elim
 |h+1,_,_,no,p,_,a=>by
  obtain⟨n,d,h1,_,_,rfl,_,hc⟩:=a.Cs
  intro x hx
  rcases cS.1 hx with rfl|hx
  .exact⟨n,h1⟩
  .rcases hc with ⟨_,_,rfl,_⟩|⟨_,ps,e,f,g,rfl,_,he⟩
   .cases hx
   .obtain⟨l,b,c⟩:=List.mem_flatten.1 hx
    obtain⟨i,hi,rfl⟩:=fb b
    exact dV.node h (he i I hi I) x c
theorem bJ.HU{w:J}{T:aL}{pages:O Nat}{L:O aH}(ht:bJ w T)(b:ga T pages L){x:Nat}(hx:x∈pages):¬jJ T x:=by
 rintro⟨_,e,h2⟩;rcases b with ⟨_,_,a,_⟩|c
 .rw[a]at hx;cases hx
 .obtain⟨bk,a⟩:=c.node _ x hx
  obtain⟨_,p,au,_⟩:=ht.ek x bk a;rw[h2]at au;cases au
theorem yN(f:Nat->ah):∀ (n:Nat) (x:Int),x∈jE f n↔∃k:Nat,x=(k:Int)/\k<n/\f k=true
 |0,x=>by simp[jE]
 |n+1,x=>by
  rw[jE,cP,yN f n x]
  constructor
  .rintro(⟨k,h1,h2,a⟩|h)
   .exact⟨k,h1,I,a⟩
   .split at h
    .exact⟨n,fh.1 h,I,by assumption⟩
    .cases h
  .rintro⟨k,h1,h2,a⟩
   rcases dC k n with b|b
   .exact .inl ⟨k,h1,b,a⟩
   .have:k=n:=by omega
    subst this
    right
    rw[if_pos a,h1];simp
theorem yO(f:Nat->ah):∀n,(jE f n).Pairwise λa b=>a<b
 |0=>List.Pairwise.nil
 |n+1=>by
  rw[jE]
  refine mF.2 ⟨yO f n,by split<;>simp,λa d b c=>?_⟩
  obtain⟨k,h1,h2,_⟩:=(yN f n a).1 d
  split at c
  .have:=fh.1 c;omega
  .cases c
theorem HV{f:Nat->ah}{n:Nat}{es:O Nat}(h1:es.Pairwise λa b=>a<b)(h2:∀x,x∈es↔x<n/\f x=true):dR es=ml f n:=by
 have e:(es.map λd=>((d:Nat):Int)).Perm (jE f n):=by
  refine(List.perm_ext_iff_of_nodup ?_ ?_).2 λx=>?_
  .exact List.Pairwise.map _ (λa b g=>by show((a:Nat):Int)≠((b:Nat):Int);omega) h1
  .exact(yO f n).imp λh=>by omega
  .rw[yN,ep]
   constructor
   .rintro⟨k,c,rfl⟩
    exact⟨k,rfl,(h2 k).1 c⟩
   .rintro⟨k,rfl,c⟩
    exact⟨k,(h2 k).2 c,rfl⟩
 have he:(es.map λd=>((d:Nat):Int))=jE f n:=by
  refine e.eq_of_pairwise (le:=λx y=>x<=y) (λx y _ _ h1 h2=>I) ?_ ((yO f n).imp λh=>I);exact List.Pairwise.map _ (λa b g=>by show((a:Nat):Int)<=((b:Nat):Int);omega) h1
 rw[yz,he];rfl
section
variable {w0 w w':J}{vZ aP:Nat}{T an:aL}{r h k:Nat}{pages:O Nat}{L e7:O aH}{ms:Y}
theorem CN{s:Y}(h:mR aj w 5 s):∃l:O UInt8,Src 1 w s (aG l):=by
 obtain⟨l,h1,_,_⟩:=h.src (c:=λc:UInt8=> [Value.int .u8 (c.toNat:Int)]) (sz:=1) (by kernel_rfl) (λ_=>True) λfuel us b=>by
  obtain⟨n,rfl,h2,d⟩:=qZ b (k:=.u8) (by kernel_rfl);have g:=wQ h2 d;refine⟨UInt8.ofNat n.toNat,?_,trivial⟩;simp only[UInt8.toNat_ofNat']
  congr 2
  omega
 have e:∀l:O UInt8,(l.map λc:UInt8=> [Value.int .u8 (c.toNat:Int)]).flatten=aG l:=λl=>by
  unfold aG
  induction l with
  |nil=>rfl
  |cons a l f=>rw[jd,sq,f];rfl
 rw[e]at h1;exact⟨l,h1⟩
end
structure g5(V:Nat->cT)(n gen:Nat)(u:cU)(g:Nat->ah)(P:Nat->ao aB)(p:O Nat)(L:O aH):Prop where
 fr:∃j,j<n/\g j=false
 v8:gT ((gen%2:Nat):Int) (V (gen%2))=.ok (u,n,gen)
 yP:V (1-gen%2)=gy\/∃a g',gT ((1-gen%2:Nat):Int) (V (1-gen%2))=.ok (a,n,g')/\g'<gen
 mp:∃fo,fo<=gen/\dI (u.map:Int) (V u.map)=.ok ⟨4,fo,fJ g ((n+7)/8)⟩
 g:∀no,g no=true↔no∈p\/no<2\/no=u.map
 bk:p.Nodup
 two:∀x∈p,2<=x/\x≠u.map/\x<n
 ok:(u.aE=0/\u.root=0/\p=[]/\L=[])\/dV P u.aE none none u.root p L
 ek:∀x∈p,∀bk,P x=some bk->gL gen bk.leaf x (V x) bk
 keys:u.keys=L.length
 fS:∀q∈L,cz q.1/\q.2.length<=24
 yQ:nq u
 qm:j8 u n
 CO:u.cv+1<=gen
theorem g5.agree{V a:Nat->cT}{n gen:Nat}{u:cU}{g:Nat->ah}{P P':Nat->ao aB}{p:O Nat}{L:O aH}(h:g5 V n gen u g P p L)(ed:∀j,g j=true->a j=V j)(b:∀x∈p,P x=P' x):g5 a n gen u g P' p L:=by
 have h0:a (gen%2)=V (gen%2):=ed _ ((h.g _).2 (.inr (.inl I)));have h1:a (1-gen%2)=V (1-gen%2):=ed _ ((h.g _).2 (.inr (.inl I)));refine⟨h.fr,by rw[h0];exact h.v8,by rw[h1];exact h.yP,by rw[ed _ ((h.g _).2 (.inr (.inr rfl)))];exact h.mp,h.g,h.bk,h.two,h.ok.imp id λc=>(c.agree b).1,λx hx bk d=>?_,h.keys,h.fS,h.yQ,h.qm,h.CO⟩;rw[ed _ ((h.g _).2 (.inl hx))];exact h.ek x hx bk (by rw[b x hx];exact d)
structure ck where
 st:Nat
 T:aL
 l:fI
 u:cU
 gen:Nat
 now:Nat
 first:Nat
 pending:Nat
 keys:Nat
 failed:ah
def ck.V(S:ck)(j:Nat):cT:=S.T.C.D.bh.getD j []
def ck.cells(S:ck):O aa:=g4 S.T.aX S.T.C.D.d S.T.C.c S.T.sb S.l S.u S.gen S.now S.first S.pending S.keys S.failed
structure gb(w:J)(S:ck)(aI:O Nat)(aT:O aH):Prop where
 v:Var w S.st S.cells 158
 t:bJ w S.T
 es:S.T.E S.st
 fz:g5 S.V S.T.n S.gen S.u S.T.g S.T.P aI aT
 gen:S.T.gen=S.gen+1
 num:S.now<18446744073709551616/\S.first<=S.now/\S.u.cv+1<=S.gen/\S.gen+2<18446744073709551616/\S.l.batch<=1000/\S.l.d_<=1048576/\1<=S.l.batch
 bI:∀j,S.T.g j=true->S.T.C.D.bI j=true
structure c0(w:J)(S:ck)(pages:O Nat)(L:O aH)(aI:O Nat)(aT:O aH):Prop extends gb w S aI aT where
 ok:ga S.T pages L
 bk:pages.Nodup
 f:∀no,S.T.f no=true↔no∈pages\/no<2\/no=S.u.map
 two:∀x∈pages,2<=x/\x≠S.u.map
 fS:∀p∈L,cz p.1/\p.2.length<=24
 keys:S.keys=L.length
 da:S.pending<=1000
 live:S.failed=false->¬S.T.C.D.ro/\S.T.C.D.eo=(λ_=> [])/\1<=cc S.T
 dead:S.failed=true->S.T.C.D.ro/\L=aT/\pages=aI/\S.pending=0
def a_.quiet(D:a_):Prop:=(∀k,D.calm k)/\D.cg.getD 3 0= -1
def ck.W(S:ck)(q:Nat):Prop:=S.T.M q/\(S.T.E q->q=S.st)
structure db(k:Nat)(S aA:ck)(w w':J):Prop where
 st:aA.st=S.st
 d:aA.T.C.D.d=S.T.C.D.d
 n:aA.T.n=S.T.n
 l:aA.l=S.l
 aO:aA.T.C.D.aO<=S.T.C.D.aO+k
 q:S.T.C.D.quiet->aA.T.C.D.quiet
 ae:ad S.W w w'
 cZ:∀q,aA.T.M q->S.T.M q\/w.heap.size<=q
 E:aA.T.E=S.T.E
 G:aA.T.G=S.T.G
section
variable {w w':J}{C:bZ}{X:Nat->Prop}{T:aL}{S aA:ck}{pages aI:O Nat}{L aT:O aH}
theorem gb.lM(h:gb w S aI aT){q:Nat}(a:S.T.N q):S.W q:=⟨aL.gh a,λhe=>absurd a (h.t.jC he)⟩
theorem gb.v_(h:gb w S aI aT):S.W S.st:=⟨.inr (.inr (.inr (.inl h.es))),λ_=>rfl⟩
theorem db.back{k q:Nat}(h:db k S aA w w')(b:q<w.heap.size)(a:aA.W q):S.W q:=⟨(h.cZ q a.1).resolve_right I,λhe=>(a.2 (by rw[h.E];exact he)).trans h.st⟩
theorem dW.gj(h:dW X w C){s:Nat->ah}{z:Nat->O cT}(hc:∀f∈C.al,∀j:Nat,f.full=true->f.no=j->s j=true->f.fQ=false)(b:∀j,s j=true->C.D.dv j=z j):
 dW X w {C with D:=C.D.gj s z}:=
 ⟨⟨h.raw.v,h.raw.f,h.raw.dev.gj s z,h.raw.bA,h.raw.bO,h.raw.hd,h.raw.a1⟩,h.inv.pins,λf hf a=>by
  obtain⟨no,au,aw,c,d,e,i,g⟩:=h.inv.ok f hf a
  exact⟨no,au,aw,c,d,e,λhs=>hc f hf no a au hs,g⟩,h.inv.un,h.inv.fg,b⟩
theorem bJ.gj(h:bJ w T){s:Nat->ah}{z:Nat->O cT}(hc:∀f∈T.C.al,∀j:Nat,f.full=true->f.no=j->s j=true->f.fQ=false)(a:∀j,s j=true->T.C.D.dv j=z j)(hs:∀j,s j=true->T.g j=true\/∀i,s i=true):
 bJ w (T.bg {T.C with D:=T.C.D.gj s z} T.P):=⟨h.t,h.s,h.ca.gj hc a,h.jF,h.c2,h.hV,h.n,h.num,h.ek,hs,h.low⟩
theorem HW(h:dW X w C){j:Nat}(hs:C.D.bI j=true):C.view j=C.D.now j:=by
 unfold bZ.view
 cases hf:C.al.find? λf=>f.full&&f.no==(j:Int) with
 |none=>rfl
 |some f=>
  have h1:=kc hf;have h2:=ju hf;simp only[dX,kJ]at h1;obtain⟨no,au,aw,c,d,a,b,e⟩:=h.inv.ok f h2 h1.1;have:no=j:=by omega
  subst this;exact a (b hs)
theorem HX(h:dW X w C){j:Nat}(hs:C.D.bI j=true)(a:C.D.eo j=[]):C.view j=C.D.bh.getD j []:=by
 rw[HW h hs,vF _ (λx hx=>(h.raw.dev.wn x hx).1),if_pos (by rw[h.inv.k3 j hs,a])]
theorem c0.view(h:c0 w S pages L aI aT)(a:S.failed=false){j:Nat}(b:S.T.g j=true):S.T.C.view j=S.V j:=
 HX h.t.ca (h.bI j b) (by rw[(h.live a).2.1])
theorem gb.lN(h:gb w S aI aT):ql S.T.C.D.n (S.u.root:Nat) (S.u.aE:Nat):=by
 obtain⟨h1,h2,a,_⟩:=h.fz.qm;rw[h.t.n];exact⟨I,I,I,I,I⟩
theorem gb.set(h:gb w S aI aT){i:Nat}{x:aa}(hi:i<19):(∃u:aa,w.cell? ⟨S.st,i,none⟩=some u)/\w.frozen? ⟨S.st,i,none⟩=false/\
 Var (w.setCell ⟨S.st,i,none⟩ x) S.st (S.cells.set i x) 158/\bJ (w.setCell ⟨S.st,i,none⟩ x) S.T/\ad (λq=>q=S.st) w (w.setCell ⟨S.st,i,none⟩ x):=by
 obtain⟨au,aw⟩:=dH h.v (i:=i) (by exact hi);exact⟨au,aw,dJ h.v (i:=i) x,h.t.jL h.es (dn w S.st i x),dn w S.st i x⟩
end
structure HY(S aA:ck):Prop where
 u:aA.u=S.u
 gen:aA.gen=S.gen
 now:aA.now=S.now
 failed:aA.failed=true
 V:aA.T.C.D.bh=S.T.C.D.bh
 sa:∀j,aA.T.C.D.eo j=S.T.C.D.dv j
 aO:aA.T.C.D.aO=S.T.C.D.aO
section
variable {w w':J}{C:bZ}{X:Nat->Prop}{T:aL}{S aA:ck}{pages aI:O Nat}{L aT:O aH}
theorem CP(h:gb w S aI aT)(e:Int)(cD:S.T.C.D.aO<=900000000):
 aN aj 81 #[.pointer (some S.st),e] w (λv w'=>v=e/\∃aA,c0 w' aA aI aT aI aT/\db 0 S aA w w'/\HY S aA):=by
 refine okF (I7.tW (some S.st) e) I6.tW func81 ?_;(delta I7.tW st aR aZ ai aK r1 aF ar bl c9;dsimp only);have aM:=h.lN;obtain⟨au,aw,a3,cF,bx⟩:=h.set (i:=18) (x:=true) (by decide);refine⟨_,rfl,by rw[av];exact au,by rw[av];exact aw,aS ?_⟩;rw[av,cx];obtain⟨bz,bB⟩:=dH a3 (i:=16) (by simp[ck.cells,g4]);have aP:=dJ a3 (i:=16) (0:Int);have ac:=bx.trans (dn _ S.st 16 (0:Int));refine⟨_,rfl,by rw[av];exact bz,by rw[av];exact bB,aS ?_⟩;rw[av,cx];generalize cG:(w.setCell ⟨S.st,18,none⟩ true).setCell ⟨S.st,16,none⟩ (0:Int)=bC at aP ac⊢;have af:=h.t.jL h.es ac;have cH:=ac.size;refine⟨_,rfl,_,by rw[av];exact aP.cell,(Gs af.s).use ?_⟩;rintro _ bD ⟨rfl,s1,bE,ag,bF⟩;have cI:=ag.size;obtain⟨ah,a4⟩:=af.space bE ag bF af.bI af.low;have a5:=aP.ae ag (h.t.c2 _ h.es).2.1;obtain⟨gH,B⟩:∃gH,gH=S.T.v7 S.T.g S.T.g s1 S.T.s2:=⟨_,rfl⟩;rw[←B]at ah a4;have aQ:gH.C=S.T.C:=by rw[B];rfl
 have bG:gH.E=S.T.E:=by rw[B];rfl
 have bH:gH.g=S.T.g:=by rw[B];rfl
 have bK:gH.P=S.T.P:=by rw[B];rfl
 have bL:gH.n=S.T.n:=by rw[B];rfl
 have bM:gH.sb=S.T.sb:=by rw[B];rfl
 have bN:gH.G=S.T.G:=by rw[B];rfl
 have bP:gH.gen=S.T.gen:=by rw[B];rfl
 have bQ:gH.f=S.T.g:=by rw[B];rfl
 have bR:∀q,gH.M q->S.T.M q\/w.heap.size<=q:=λq k=>(a4 q k).imp id λh=>by omega
 have cJ:∀ (w':J),Var w' S.st ((S.cells.set 18 true).set 16 (0:Int)) 158->w'.cell? ⟨S.st,2,none⟩=some (.pointer (some S.T.C.c)):=λw' aU=>aU.cell;refine⟨rfl,_,rfl,_,by rw[av];exact a5.cell,?_⟩;have a6:=CH ah.ca.raw;rw[aQ]at a6;refine a6.use ?_;rintro _ ak ⟨s,zs,rfl,bS,aV,am,bT⟩;have cK:=am.size
 have bU:∀z∈zs,∃no:Nat,z=(no:Int)/\S.T.g no=false:=λz K=>by
  have:=aV.mem_iff.1 K;unfold jl at this;obtain⟨f,hf,rfl⟩:=ep.1 this;obtain⟨bW,a7⟩:=hC.1 hf;have a9:f.full=true/\f.fQ=true:=by unfold Fr.gU at a7;simpa using a7
  obtain⟨no,bA,bO,an,ap,ba,bX⟩:=h.t.ca.inv.ok f bW a9.1;refine⟨no,bA,?_⟩
  cases hg:S.T.g no with
  |false=>rfl
  |true=>
   have:=bX (h.bI no hg);rw[a9.2]at this;cases this
 have cL:zs.length<=64:=by
  rw[aV.length_eq];unfold jl;rw[dN];exact ew (lV _ _) h.t.ca.raw.bO
 have aW:=ah.ext am;obtain⟨P',aY⟩:∃P':Nat->ao aB,P'=λno=>if S.T.g no=true then S.T.P no else none:=⟨_,rfl⟩
 obtain⟨bY,_⟩:=aW.qa (P:=P') aW.ca (eB.refl gH.C ak) (λno bk p=>by
  rw[aY]at p;dsimp only at p;by_cases hg:S.T.g no=true
  .rw[if_pos hg]at p
   exact aW.ek no bk (by rw[bK];exact p)
  .rw[if_neg hg]at p;cases p)
 have b0:∀q,az s q->¬cY S.T.C q:=λq k hf=>by
  have:=bT q k;have:=ah.lt (q:=q) (.inl (by rw[aQ];exact hf));omega
 refine⟨s,rfl,λn16 m=>∃ (i:Nat) (aD:bZ),n16=(i:Nat)/\i<=zs.length/\bJ m (gH.bg aD P')/\eB S.T.C aD ak m 0/\aD.D=S.T.C.D/\(∀j,S.T.g j=true->aD.view j=S.T.C.view j)/\(∀f∈aD.al,f.full=true->f∈S.T.C.al/\∀z∈zs.take i,f.no≠z)/\a8 1 3 m s (zs.map encZ)/\(∀q,az s q->¬cY aD q),
  λn16 _=>((zs.length:Int)-n16).toNat,⟨0,S.T.C,rfl,cE _,by rw[←aQ];exact bY,.refl _ _,rfl,λ_ _=>rfl,λf hf _=>⟨hf,λz K=>(by simp at K)⟩,bS,b0⟩,?_⟩
 rintro _ m ⟨i,aD,rfl,hi,U,N,F,b2,bb,ax,bc⟩;have cM:s.len=zs.length:=by have:=ax.1;rw[dN]at this;omega
 have b3:∀ (w':J),ad (cY S.T.C) ak w'->Var w' S.st ((S.cells.set 18 true).set 16 (0:Int)) 158:=λw' hc=>(a5.ext am).ae hc λhf=>(h.t.ca.inv.fg _ (.inr (.inr (.inl h.es)))).2 hf;have bd:=b3 _ N.ae;refine⟨λL=>?_,λL=>?_⟩
 .have L:(i:Int)<(s.len:Int):=b1 L
  have ay:i<zs.length:=by omega
  obtain⟨A,aq,b5⟩:∃a:ab,s.a=some a/\m.cell? (a.add (Int.toNat (i:Int)*1))=some (.int .i64 zs[i]):=by
   obtain⟨b,c,L,_,_,_,_,b6,_⟩:=ax.cell (i:=i) (v:=encZ zs[i]) (by rw[lg,du ay];rfl);exact⟨_,L,by rw[c8,av,cx,fF];exact b6⟩
  obtain⟨no,be,b7⟩:=bU _ (cA ay);refine⟨A,aq,⟨I,L⟩,zs[i],b5,_,rfl,_,by rw[av];exact bd.cell,?_⟩;have bf:=BA U.ca no;rw[be];have X:aD.c=S.T.C.c:=N.c;have b8:(gH.bg aD P').C.c=S.T.C.c:=X;rw[b8]at bf;refine bf.use ?_;rintro _ cN ⟨⟨b,rfl⟩,bi,b9,aC,aU,b_,cb⟩;have bj:∀j,S.T.g j=true->bi.view j=aD.view j:=λj Y=>aU j λe=>by rw[e,b7]at Y;cases Y
  obtain⟨cc,_⟩:=U.qa (P:=P') b9 aC (λj bk p=>by
   obtain⟨bw,br⟩:=U.ek j bk p;have cd:S.T.g j=true:=by
    cases hg:S.T.g j with
    |true=>rfl
    |false=>rw[aY]at p;simp[hg]at p
   rw[bj j cd];exact⟨bw,br⟩)
  have ce:((zs.length:Int)-((i+1:Nat):Int)).toNat<((zs.length:Int)-(i:Int)).toNat:=by omega
  have bm:IntKind.wrap .i64 ((i:Int)+1)=((i+1:Nat):Int):=by rw[bu I I];omega
  have cf:=ax.ae aC.ae λq k hf=>bc q k hf;refine⟨b,rfl,⟨i+1,bi,bm,ay,cc,(N.trans aC).mono (bn _),b_.trans F,λj Y=>(bj j Y).trans (b2 j Y),λf hf O=>?_,cf,λq k hf=>?_⟩,by rw[bm];exact ce⟩
  .obtain⟨bA,bO⟩:=cb f hf O
   obtain⟨an,ap⟩:=bb f bA O;refine⟨an,λz K=>?_⟩;rw[iq ay,cP,fh]at K;rcases K with K|rfl
   .exact ap z K
   .rw[be];exact bO
  .rcases aC.cZ q hf with h1|h1
   .exact bc q k h1
   .have:=a8.lt ax q k;omega
 have L:¬(i:Int)<(s.len:Int):=cp L;obtain rfl:i=zs.length:=by omega
 have cg:∀f∈aD.al,f.full=true->f.fQ=false:=λf hf O=>by
  obtain⟨bA,bO⟩:=bb f hf O
  cases hd:f.fQ with
  |false=>rfl
  |true=>
   refine absurd rfl (bO f.no ?_);rw[ir];refine aV.mem_iff.2 (ep.2 ⟨f,hC.2 ⟨bA,?_⟩,rfl⟩);unfold Fr.gU;rw[O,hd];rfl
 have X:aD.c=S.T.C.c:=N.c;obtain⟨fw,y⟩:∃fw,fw=gH.bg aD P':=⟨_,rfl⟩;rw[←y]at U;have f1:fw.C=aD:=by rw[y];rfl
 have f2:fw.E=S.T.E:=by rw[y];exact bG
 have f3:fw.g=S.T.g:=by rw[y];exact bH
 have f4:fw.P=P':=by rw[y];rfl
 have f5:fw.n=S.T.n:=by rw[y];exact bL
 have f6:fw.sb=S.T.sb:=by rw[y];exact bM
 have f7:fw.G=S.T.G:=by rw[y];exact bN
 have f8:fw.gen=S.T.gen:=by rw[y];exact bP
 have f9:fw.f=S.T.g:=by rw[y];exact bQ
 have a0:∀q,fw.M q->S.T.M q\/w.heap.size<=q:=λq k=>by
  rw[y]at k;rcases k with k|k
  .rcases N.cZ q k with h1|h1
   .exact .inl (.inl h1)
   .exact .inr I
  .exact bR q (.inr k)
 have cO:=N.ae.size;refine hF (λaG=>∃aX,gb aG {S with T:=(fw.bV aX S.T.gen S.u.root S.u.aE S.T.E).bg {aD with D:=aD.D.gj (λ_=>true) aD.D.dv} P',pending:=0,failed:=true} aI aT/\m.heap.size<=aX/\ad (λq=>q=S.st) m aG) (λcQ ch=>aS ?_) ?_
 .have aH:Ext m m.drew:=b4 _
  have R:=bd.ext aH;have aJ:=U.ext aH;have bo:=aJ.ca.raw;rw[f1]at bo;have bp:=nU bo S.T.sb (S.T.gen:Int) (S.u.root:Int) (S.u.aE:Int);rw[X]at bp;refine⟨λ_=>False,_,rfl,id,_,by rw[av];exact R.cell,_,rfl,id,_,by rw[av];exact R.cell,_,rfl,id,_,by rw[av];exact R.cell,_,rfl,id,_,by rw[av];exact R.cell,_,rfl,id,_,by rw[av,av];exact R.cell,?_⟩;have ci:IntKind.wrap .u64 ((S.gen:Int)+1)=(S.T.gen:Int):=by rw[gO I (by have:=h.num;omega)];have:=h.gen;omega
  rw[ci];refine bp.use ?_;rintro _ a1 (⟨_,rfl,Z,cj,cR⟩|⟨cl,_⟩)
  rotate_left
  .exact absurd (by rw[F];exact aM) cl
  have cS:=Z.size;refine⟨_,0,rfl,Z,λ_=>?_,λhx=>(by cases hx)⟩;have bq:=R.ext Z;obtain⟨bA,bO⟩:=dH bq (i:=0) (by simp[ck.cells,g4]);have cm:=dJ bq (i:=0) (.pointer (some m.drew.heap.size));have bs:=dn a1 S.st 0 (.pointer (some m.drew.heap.size));have cn:bJ a1 (fw.bV m.drew.heap.size S.T.gen S.u.root S.u.aE S.T.E):=by
   refine aJ.tree Z (by show Var _ _ [.pointer (some fw.C.c),.pointer (some fw.sb),_,_,_] _;rw[f1,X,f6];exact cj) (.inr (bn _)) (λq k=>?_) ⟨?_,?_,?_⟩ λno bk p=>?_
   .have h1:=aJ.lt (q:=q) (.inr (.inr (.inr (.inl (by rw[f2];exact k)))))
    exact⟨I,.inl (by rw[f2];exact k)⟩
   .rw[f5,←h.t.n];have:=aM.2.2.2.1;omega
   .have:=aM.2.1;omega
   .exact h.t.num.2.2
   .rw[←f8];exact aJ.ek no bk p
  have co:=cn.gj (s:=λ_=>true) (z:=fw.C.D.dv) (λf hf j O _ _=>cg f (by rw[←f1];exact hf) O) (λ_ _=>rfl) λ_ _=>.inr λ_=>rfl;have bt:bJ a1 ((fw.bV m.drew.heap.size S.T.gen S.u.root S.u.aE S.T.E).bg {fw.C with D:=fw.C.D.gj (λ_=>true) fw.C.D.dv} fw.P):=co;rw[f1,f4]at bt;refine⟨_,rfl,bA,bO,aS (ch _ ⟨m.drew.heap.size,⟨?_,bt.jL h.es bs,h.es,?_,h.gen,h.num,λ_ _=>rfl⟩,aH.size,((Ext.trans aH Z).mono λ_ _ h=>h.elim).trans bs⟩)⟩
  .show Var _ _ (g4 _ aD.D.d aD.c fw.sb _ _ _ _ _ _ _ _) _
   rw[F,X,f6];exact cm
  .show g5 (λj=>aD.D.bh.getD j []) fw.n _ _ fw.g P' _ _
   rw[F,f5,f3];exact h.fz.agree (λ_ _=>rfl) λx hx=>by
    rw[aY];dsimp only;rw[if_pos ((h.fz.g x).2 (.inl hx))]
 .rintro aG ⟨aX,H,cT,cq⟩
  obtain⟨l,r⟩:∃l:ck,l={S with T:=(fw.bV aX S.T.gen S.u.root S.u.aE S.T.E).bg {aD with D:=aD.D.gj (λ_=>true) aD.D.dv} P',pending:=0,failed:=true}:=⟨_,rfl⟩;rw[←r]at H;have Q:l.st=S.st:=by rw[r]
  obtain⟨bA,bO,an,ap,ba⟩:=H.set (i:=17) (x:=S.u.keys) (by decide);have cs:∃z:aa,l.cells[12]? =some z/\z=S.u.keys:=⟨_,by rw[r];rfl,rfl⟩;obtain⟨z,ct,rfl⟩:=cs;have cu:({l with keys:=S.u.keys}:ck).cells=l.cells.set 17 S.u.keys:=by rw[r];rfl
  have o:l.T=(fw.bV aX S.T.gen S.u.root S.u.aE S.T.E).bg {aD with D:=aD.D.gj (λ_=>true) aD.D.dv} P':=by rw[r]
  have fH:l.T.n=S.T.n:=by rw[o];exact f5
  have dA:l.T.C.D.bh=S.T.C.D.bh:=by rw[o];show aD.D.bh=_;rw[F]
  have aL:l.u=S.u:=by rw[r]
  have cv:l.gen=S.gen:=by rw[r]
  have cw:l.T.f=S.T.g:=by rw[o];exact f9
  have cy:l.T.C.D.ro:=by rw[o];exact λ_=>rfl
  have bv:l.failed=true:=by rw[r]
  refine⟨_,rfl,_,by rw[av,av,←Q];exact H.v.cell.trans ct,_,rfl,by rw[av,←Q];exact bA,by rw[av,←Q];exact bO,aS ⟨rfl,{l with keys:=S.u.keys},⟨⟨?_,?_,H.es,H.fz,H.gen,H.num,H.bI⟩,?_,h.fz.bk,λno=>?_,λx hx=>?_,h.fz.fS,h.fz.keys,?_,λhf=>?_,λ_=>⟨cy,rfl,rfl,by rw[r]⟩⟩,?_,⟨aL,cv,by rw[r],bv,dA,λj=>?_,by rw[show({l with keys:=S.u.keys}:ck).T=l.T from rfl,o];show aD.D.aO=_;rw[F]⟩⟩⟩
  .rw[cu,av,cx,←Q];exact an
  .rw[av,cx,←Q];exact ap
  .show ga l.T aI aT
   rw[o];have:=H.fz.ok;rw[o,aL]at this;exact this
  .show l.T.f no=true↔no∈aI\/no<2\/no=l.u.map
   rw[cw,aL];exact h.fz.g no
  .rw[show({l with keys:=S.u.keys}:ck).u=S.u from aL]
   exact⟨(h.fz.two x hx).1,(h.fz.two x hx).2.1⟩
  .show l.pending<=1000
   rw[r];exact cE _
  .rw[show({l with keys:=S.u.keys}:ck).failed=true from bv]at hf;cases hf
  .refine⟨Q,?_,fH,by rw[r],?_,λk=>?_,?_,λq k=>?_,?_,?_⟩
   .show l.T.C.D.d=_
    rw[o];show aD.D.d=_;rw[F]
   .show l.T.C.D.aO<=_
    rw[o];show aD.D.aO<=_;rw[F];omega
   .show l.T.C.D.quiet
    rw[o];show a_.quiet (aD.D.gj _ _);rw[F];exact k
   .rw[av,cx]
    have a2:∀q,q=S.st->S.W q:=λq e=>by rw[e];exact h.v_
    have h1:ad S.W w bC:=ac.mono λq _ e=>a2 q e;have h2:ad S.W w bD:=cr h1 ag λq _ k=>h.lM (.inr (.inr (.inl k)));have cz:ad S.W w ak:=cr h2 am λq _ k=>k.elim;have cB:ad S.W w m:=cr cz N.ae λq _ k=>h.lM (.inl k);have cC:ad S.W w aG:=cr cB cq λq _ k=>a2 q k;exact cr cC (V:=λq=>q=S.st) (by rw[←Q];exact ba) λq _ k=>a2 q k
   .have k:l.T.M q:=k
    rw[o]at k;rcases k with k|k|k|k|k
    .exact a0 q (.inl (by rw[f1];exact k))
    .have k:q=aX:=k
     exact .inr I
    .exact a0 q (.inr (.inr (.inl k)))
    .exact .inl (.inr (.inr (.inr (.inl k))))
    .exact a0 q (.inr (.inr (.inr (.inr k))))
   .show l.T.E=_
    rw[o];rfl
   .show l.T.G=_
    rw[o];exact f7
  .show l.T.C.D.eo j=_
   rw[o];show aD.D.dv j=_;rw[F]
end
theorem gL.mono{gen a no:Nat}{leaf:ah}{l:cT}{n:aB}(h:gL gen leaf no l n)(hg:gen<=a):gL a leaf no l n:=by
 obtain⟨p,h1,h2,b⟩:=h;exact⟨p,h1,ew h2 hg,b⟩
section
variable {w w':J}{C:bZ}{X:Nat->Prop}{T:aL}{S aA:ck}{pages aI:O Nat}{L aT:O aH}
theorem HZ{ax:a_}(h:dW X w C)(hd:cB w' ax)(e:ax.d=C.D.d)(g:kv ax C.D)(k:∀i,2<=i->ax.now i=C.D.now i)(hc:ad (bT C.D) w w')(hf:∀q,bT ax q->bT C.D q\/w.heap.size<=q):
 dW X w' {C with D:=ax}/\∀j,2<=j->({C with D:=ax}:bZ).view j=C.view j:=by
 have o:=hc.size;have l:∀q,q<w.heap.size->cY {C with D:=ax} q->cY C q:=λq a b=>by
  rcases b with h1|h1|h1
  .exact .inl h1
  .exact .inr (.inl h1)
  .exact .inr (.inr ((hf q h1).resolve_right I))
 refine⟨⟨h.raw.pX hd e hc hf,h.inv.pins,λf p r=>?_,h.inv.un,λq a=>⟨fN (h.inv.fg q a).1 o,λb=>(h.inv.fg q a).2 (l q (h.inv.fg q a).1 b)⟩,g.2.2⟩,λj s=>?_⟩
 .obtain⟨no,au,aw,t,u,v,x,m⟩:=h.inv.ok f p r
  exact⟨no,au,by rw[show({C with D:=ax}:bZ).D.n=ax.n from rfl,g.1];exact aw,aY.re t hc (λq _ c y=>c.1 (.inr (.inr y))) λq a c=>⟨λb=>c.1 (l q a b),c.2⟩,u,λhd=>by show _=ax.now no;rw[k no m];exact v hd,λhs=>x (g.2.1 _ hs),m⟩
 .unfold bZ.view
  dsimp only
  cases C.al.find? λf=>f.full&&f.no==(j:Int) with
  |some f=>rfl
  |none=>exact k j s
theorem bJ.CQ{aD:bZ}{P:Nat->ao aB}(h:bJ w T)(a:dW T.X w' aD)(hc:ad (cY T.C) w w')(e:aD.c=T.C.c)(b:aD.D.n=T.C.D.n)(d:∀no bk,P no=some bk->no<T.n/\gL T.gen bk.leaf no (aD.view no) bk)(f:∀j,aD.D.bI j=true->T.g j=true\/aD.D.ro):
 bJ w' (T.bg aD P):=by
 have hx:=h.ca.inv.fg;refine⟨?_,h.s.ae hc λq i hf=>(hx q (.inr (.inl i))).2 hf,a,h.jF,h.c2,h.hV,b.trans h.n,h.num,d,f,h.low⟩;have:=h.t.ae hc λhf=>(hx T.aX (.inl rfl)).2 hf;unfold k5 at this⊢;rw[←e]at this;exact this
def aL.mv(T:aL)(gen:Nat):aL:={T with gen:=gen}
theorem bJ.H0{gen:Nat}(h:bJ w T)(b:Var w' T.aX (k5 (T.mv gen)) 239)(hc:ad (λq=>q=T.aX) w w')(h1:T.gen<=gen)(h2:gen<18446744073709551616):bJ w' (T.mv gen):=
 ⟨b,h.s.ae hc λq c e=>h.jF (e▸c),h.ca.ae hc λq e=>.inl e,h.jF,h.c2,h.hV,h.n,⟨h.num.1,h.num.2.1,h2⟩,λno bk a=>⟨(h.ek no bk a).1,(h.ek no bk a).2.mono h1⟩,h.bI,h.low⟩
theorem H2(h:bJ w T){gen:Nat}(h1:T.gen<=gen)(h2:gen<18446744073709551616):
 aN aj 164 #[.pointer (some T.aX),.int .u64 (gen:Nat)] w (λv w'=>v=.tuple #[]/\bJ w' (T.mv gen)/\ad (λq=>q=T.aX) w w'):=by
 refine I7.Et _ _ w _ ?_;(delta I7.rq ai st;dsimp only);obtain⟨au,aw⟩:=dH h.t (i:=2) (by simp[k5]);have a:=dJ h.t (i:=2) (.int .u64 (gen:Nat));have hc:=dn w T.aX 2 (.int .u64 (gen:Nat));refine⟨λ_=>⟨_,rfl,by rw[av];exact au,by rw[av];exact aw,aS ?_⟩,λb=>(by cases b)⟩;rw[av,cx];exact⟨rfl,h.H0 a hc h1 h2,hc⟩
def CR(aA:ck)(gen:Nat)(g:Nat->ah)(pages:O Nat)(L:O aH)(clock cv:Nat):Prop:=
 (∀j,g j=true->aA.T.C.D.eo j=[])\/
 ∃ (a:cU) (au:Nat->ah) (c:Nat->ao aB) (b:cT),(∀j,aA.T.C.D.eo j=if j=(gen+1)%2 then [b] else [])/\g5 (λj=>if j=(gen+1)%2 then b else aA.V j) aA.T.n (gen+1) a au c pages L/\a.clock=clock/\a.cv=cv
def qn(S:ck)(pages:O Nat)(L:O aH)(aI:O Nat)(aT:O aH)(w:J)(v:aa)(w':J):Prop:=
 ∃aA,db 100 S aA w w'/\aA.now=S.now/\
  ((v=.int .i64 0/\c0 w' aA pages L pages L/\aA.failed=false/\aA.gen=S.gen+1/\aA.u.clock=S.now/\aA.u.cv=S.u.cv+1/\aA.pending=0)\/
   (v=.int .i64 3/\¬S.T.C.D.quiet/\c0 w' aA aI aT aI aT/\aA.failed=true/\aA.u=S.u/\aA.gen=S.gen/\(∀j,S.T.g j=true->aA.V j=S.V j)/\CR aA S.gen S.T.g pages L S.now (S.u.cv+1)))
end
section
variable {w w' w1:J}{C:bZ}{X:Nat->Prop}{T:aL}{S aA fC:ck}{pages aI:O Nat}{L aT:O aH}{f2:Nat->ah}{aD:bZ}{P':Nat->ao aB}
def ck.at(S:ck)(f2:Nat->ah)(aD:bZ)(P':Nat->ao aB):ck:={S with T:=(S.T.iJ f2).bg aD P'}
theorem gb.wa(h:gb w S aI aT)(ht:bJ w' ((S.T.iJ f2).bg aD P'))(a:Var w' S.st S.cells 158)(b:aD.D.d=S.T.C.D.d)(e:aD.c=S.T.C.c)(ed:∀j,S.T.g j=true->aD.D.bh.getD j []=S.V j)(f:∀x∈aI,S.T.P x=P' x)(i:∀j,S.T.g j=true->aD.D.bI j=true):
 gb w' (S.at f2 aD P') aI aT:=by
 refine⟨?_,ht,h.es,h.fz.agree ed f,h.gen,h.num,i⟩;show Var w' S.st (g4 _ aD.D.d aD.c _ _ _ _ _ _ _ _ _) _;rw[b,e];exact a
theorem db.at{k:Nat}(hc:ad S.W w w')(b:aD.D.d=S.T.C.D.d)(c:aD.D.aO<=S.T.C.D.aO+k)(a:S.T.C.D.quiet->aD.D.quiet)(hf:∀q,cY aD q->cY S.T.C q\/w.heap.size<=q):db k S (S.at f2 aD P') w w':=
 ⟨rfl,b,rfl,rfl,c,a,hc,λq a=>by
  rcases a with a|a
  .exact(hf q a).imp .inl id
  .exact .inl (.inr a),rfl,rfl⟩
theorem wb(p:gb w1 fC aI aT)(a:db 100 S fC w w1)(r:fC.u=S.u)(s:fC.gen=S.gen)(t:fC.now=S.now)(m:¬S.T.C.D.quiet)(ed:∀j,S.T.g j=true->fC.V j=S.V j)(x:fC.T.C.D.aO<=900000000)
 (y:(∀j,S.T.g j=true->fC.T.C.D.dv j=[])\/∃ (e:cU) (au:Nat->ah) (f:Nat->ao aB) (b:cT),(∀j,fC.T.C.D.dv j=if j=(S.gen+1)%2 then [b] else [])/\g5 (λj=>if j=(S.gen+1)%2 then b else fC.V j) fC.T.n (S.gen+1) e au f pages L/\e.clock=S.now/\e.cv=S.u.cv+1):
 aN aj 81 #[.pointer (some S.st),(3:Int)] w1 (qn S pages L aI aT w):=by
 have hf:=CP p 3 x;rw[a.st]at hf;refine hf.mono ?_;rintro v w' ⟨rfl,aA,hs,hd,c⟩;have o:∀j,aA.V j=fC.V j:=λj=>by unfold ck.V;rw[c.V]
 refine⟨aA,⟨hd.st.trans a.st,hd.d.trans a.d,hd.n.trans a.n,hd.l.trans a.l,by rw[c.aO];exact a.aO,λh=>absurd h m,cr a.ae hd.ae λq z i=>a.back z i,λq i=>?_,hd.E.trans a.E,hd.G.trans a.G⟩,c.now.trans t,.inr ⟨rfl,m,hs,c.failed,c.u.trans r,c.gen.trans s,λj k=>(o j).trans (ed j k),?_⟩⟩
 .have:=a.ae.size
  rcases hd.cZ q i with h1|h1
  .exact a.cZ q h1
  .exact .inr I
 .rcases y with h1|⟨e,au,f,b,h1,h2,A,B⟩
  .exact .inl λj k=>(c.sa j).trans (h1 j k)
  .exact .inr ⟨e,au,f,b,λj=>(c.sa j).trans (h1 j),by rw[hd.n];exact h2.agree (λj _=>by rw[o]) λ_ _=>rfl,A,B⟩
theorem H3{V:Nat->cT}{no:Nat}{i:Nat->ao aB}(h:c0 w S pages L aI aT)(k:f2=df (df S.T.f no true) S.u.map false)(K:(S.T.f no||S.T.g no)=false)(A:2<=no)(B:no<S.T.n)(M:L.length<4096)(l:∀x∈pages,i x=S.T.P x)
 (D:V ((S.gen+1)%2)=ez ((S.gen+1)%2) (iZ ⟨S.T.root,S.T.aE,no,S.now,S.u.cv+1,L.length⟩ S.T.n (S.gen+1))) (ed:∀j,j≠(S.gen+1)%2->V j=if j=no then ez no ⟨4,S.gen+1,fJ f2 ((S.T.n+7)/8)⟩ else if S.T.g j=true then S.V j else S.T.C.view j)
 (hg:∀j,S.T.g j=true->S.V j=S.T.C.view j):g5 V S.T.n (S.gen+1) ⟨S.T.root,S.T.aE,no,S.now,S.u.cv+1,L.length⟩ f2 i pages L:=by
 have E:=h.t.s.bq;have F:=h.num;have m:=h.t.num;have o:=h.fz.qm;have N:=o.2.2.2.2.1;have p:S.T.f S.u.map=true:=(h.f _).2 (.inr (.inr rfl));have q:S.T.f no=false:=by cases O:S.T.f no<;>simp_all
 have r:∀x∈pages,x≠no:=λx hx e=>by
  have:=(h.f x).2 (.inl hx);rw[e,q]at this;cases this
 have G:∀x∈pages,x<S.T.n:=λx hx=>Nat.lt_of_not_le λe=>by
  have:=h.t.s.pf x e;rw[(h.f x).2 (.inl hx)]at this;cases this
 have H:∀j,j≠(S.gen+1)%2->j≠no->V j=S.T.C.view j:=λj h1 h2=>by
  rw[ed j h1,if_neg h2];by_cases e:S.T.g j=true
  .rw[if_pos e,hg j e]
  .rw[if_neg e]
 have v:j8 ⟨S.T.root,S.T.aE,no,S.now,S.u.cv+1,L.length⟩ S.T.n:=by
  refine⟨?_,m.2.1,m.1,B,A,E⟩;rcases h.ok with ⟨a1,a2,_⟩|b
  .exact⟨λ_=>a1,λ_=>a2⟩
  .obtain⟨bk,Q,_,a2,_,_⟩:=b.kq
   have:=(h.two S.T.root (by rw[a2];simp)).1;constructor
   .intro e;have e:S.T.root=0:=e;omega
   .intro e
    have e:S.T.aE=0:=e;rw[e]at b;exact b.elim
 have y:nq ⟨S.T.root,S.T.aE,no,S.now,S.u.cv+1,L.length⟩:=⟨by show S.T.root<_;omega,by show S.T.aE<_;omega,by show no<_;omega,F.1,by show S.u.cv+1<_;omega,by show L.length<_;omega⟩;refine⟨⟨S.u.map,o.2.2.2.1,by rw[k];unfold df;rw[if_pos rfl]⟩,?_,.inr ⟨S.u,S.gen,?_,I⟩,⟨S.gen+1,bn _,?_⟩,λj=>?_,h.bk,λx hx=>⟨(h.two x hx).1,r x hx,G x hx⟩,?_,λx hx bk z=>?_,rfl,h.fS,y,v,by show S.u.cv+1+1<=S.gen+1;omega⟩
 .rw[D]
  exact CC y v I I
 .have e:1-(S.gen+1)%2=S.gen%2:=by omega
  have J:S.T.g (S.gen%2)=true:=(h.fz.g _).2 (.inr (.inl I));rw[e,ed _ I,if_neg I,if_pos J];exact h.fz.v8
 .show dI (no:Int) (V no)=_
  rw[ed _ I,if_pos rfl];exact vr I ⟨(by decide:1<=4),(by decide:4<=4),by show S.gen+1<_;omega,by show(fJ _ _).length<=232;rw[oJ];omega⟩
 .rw[k]
  show df (df S.T.f no true) S.u.map false j=true↔j∈pages\/j<2\/j=no;unfold df;by_cases c:j=S.u.map
  .rw[if_pos c]
   refine⟨λh=>(by cases h),λa=>?_⟩;rcases a with a|a|a
   .exact absurd c (h.two j a).2
   .omega
   .rw[←c,a,q]at p;cases p
  .rw[if_neg c]
   by_cases d:j=no
   .rw[if_pos d];exact⟨λ_=>.inr (.inr d),λ_=>rfl⟩
   .rw[if_neg d,h.f j]
    constructor
    .rintro(a|a|a)
     .exact .inl a
     .exact .inr (.inl a)
     .exact absurd a c
    .rintro(a|a|a)
     .exact .inl a
     .exact .inr (.inl a)
     .exact absurd a d
 .rcases h.ok with ⟨a1,a2,a3,a4⟩|b
  .exact .inl ⟨a1,a2,a3,a4⟩
  .exact .inr (b.agree λx hx=>(l x hx).symm).1
 .rw[l x hx]at z
  rw[H x (by have:=(h.two x hx).1;omega) (r x hx),←h.gen];exact(h.t.ek x bk z).2
end
section
variable {w w' w1:J}{C:bZ}{X:Nat->Prop}{T:aL}{S aA fC:ck}{pages aI:O Nat}{L aT:O aH}{f2:Nat->ah}{aD:bZ}{P':Nat->ao aB}
theorem H4{f:Nat->ah}{n k:Nat}(h:k<n):ng f n (k:Int)=df f k false:=by
 unfold ng;rw[if_pos ⟨I,I⟩,c8]
theorem H5{aX d c sb gen now first pending keys st:Nat}{l:fI}{u:cU}{failed:ah}(b:Var w st (g4 aX d c sb l u gen now first pending keys failed) 158)(a:cU){K:J->Prop}(e:∀ag,Var ag st (g4 aX d c sb l a gen now first pending keys failed) 158->ad (λq=>q=st) w ag->K ag):
 bx w ⟨st,7,none⟩ [a.root,a.aE,a.map,.int .u64 (a.clock:Nat),.int .u64 (a.cv:Nat),a.keys]/\(6:Nat)=6/\
  ak (setCells w ⟨st,7,none⟩ 0 [a.root,a.aE,a.map,.int .u64 (a.clock:Nat),.int .u64 (a.cv:Nat),a.keys]) K:=
 ⟨bt.b9 b _ _ (by simp[g4]) λv f=>cU.plain a v f,rfl,aS (e _ (bt.jV (o:=7) b _) (ad.kR (.refl _ _) _ 0))⟩
theorem yR(h:c0 w S pages L aI aT)(al:S.failed=false)(dr:L.length<4096)(eR:S.T.C.D.aO<=800000000)(eS:S.gen<=1000000000):
 aN aj 94 #[.pointer (some S.st)] w (qn S pages L aI aT w):=by
 refine okF (I7.ud (some S.st)) I6.ud func94 ?_;(delta I7.ud eH ai ay r1 bl aZ pq b6 gv U aR st;dsimp only);obtain⟨bv,bw,ds⟩:=h.live al;obtain⟨no,ci⟩:=BW ds;obtain⟨cj,dt,_⟩:=BG ci;have eT:=h.t.s.bq;have aW:=h.num;have du:=h.gen;have cl:=h.fz.qm;have cn:S.T.f no=false:=by cases dw:S.T.f no<;>simp_all
 have am:S.T.g no=false:=by cases dw:S.T.g no<;>simp_all
 have co:2<=no:=Nat.le_of_not_lt λe=>by
  have:=(h.fz.g no).2 (.inr (.inl e));rw[am]at this;cases this
 have eU:S.T.M S.st:=.inr (.inr (.inr (.inl h.es)));refine⟨_,rfl,_,by rw[av];exact h.v.cell,(BI h.t.s).use ?_⟩;rintro _ cp ⟨rfl,cq,aY⟩;rw[ci]at cq⊢;refine⟨(no:Nat),0,rfl,λhx=>(by cases hx),λ_=>aS ?_⟩;have dx:=(h.t.vM (f:=df S.T.f no true) cq aY).1;have dy:=h.v.ae aY (h.t.c2 _ h.es).2.1;have a0:Ext cp cp.drew:=b4 _;have bx:=dy.ext a0;have cs:=dx.ext a0;refine⟨_,rfl,id,_,by rw[av];exact bx.cell,_,rfl,id,_,by rw[av,av];exact bx.cell,(BJ cs.s (S.u.map:Nat)).use ?_⟩;rintro _ a1 ⟨rfl,ct,a2⟩;rw[H4 (by exact cl.2.2.2.1)]at ct;obtain⟨f2,bz⟩:∃f2,f2=df (df S.T.f no true) S.u.map false:=⟨_,rfl⟩;have cu:eP a1 S.T.sb S.T.n f2 S.T.g S.T.s1 S.T.s2:=by rw[bz];exact ct
 have bB:bJ a1 (S.T.iJ f2):=(cs.vM (f:=f2) cu a2).1;have cy:=bx.ae a2 (h.t.c2 _ h.es).2.1;refine⟨_,rfl,aS ?_⟩;have a3:Ext a1 a1.drew:=b4 _;have cz:=cy.ext a3;have dz:=bB.ext a3;have bC:IntKind.wrap .u64 ((S.gen:Int)+1)=((S.gen+1:Nat):Int):=by rw[gO I I];omega
 refine⟨λ_=>False,_,rfl,id,_,by rw[av];exact cz.cell,_,rfl,id,_,by rw[av];exact cz.cell,(BP dz.s).use ?_⟩;rintro _ dB ⟨a4,rfl,dC,bD,eV⟩;have dD:a8 1 5 dB a4 (aG (fJ f2 ((S.T.n+7)/8))):=by rw[CK];exact dC
 have cA:m7 ⟨4,S.gen+1,fJ f2 ((S.T.n+7)/8)⟩:=⟨(by decide:1<=4),(by decide:4<=4),by show S.gen+1<_;omega,by show(fJ _ _).length<=232;rw[oJ];omega⟩;rw[bC];refine⟨a4,rfl,bD,#[(4:Int),.int .u64 ((S.gen+1:Nat):Int),a4],λeW=>by kernel_rfl,(vx (s:=a4) (p:=⟨4,S.gen+1,fJ f2 ((S.T.n+7)/8)⟩) (no:=no) dD.src I cA).use ?_⟩;rintro _ cC ⟨dE,rfl,cD,cF,dF⟩;have bE:=a3.trans (Ext.trans bD cF);have a5:=bB.ext bE;have cG:=cy.ext bE;have eX:=aY.size;have eY:=a2.size;have eZ:=a0.size;have e0:=a3.size;have e1:=bD.size;have a6:ad S.W w cC:=cr (cr (cr (cr (ad.refl _ _) aY λq _ a=>h.lM (.inr (.inr (.inl a)))) a0 λq _ a=>a.elim) a2 λq _ a=>h.lM (.inr (.inr (.inl a)))) bE λq _ a=>a.elim;have dG:(ez no ⟨4,S.gen+1,fJ f2 ((S.T.n+7)/8)⟩).length=256:=rE _ cA;refine⟨dE,0,rfl,cF,λhx=>(by cases hx),λ_=>⟨_,rfl,_,by rw[av];exact cG.cell,(Bz a5.ca (by show S.T.C.D.aO<=_;omega) (no:=no) (by rw[a5.n];exact cj) co (λhs=>?_) cD.src dG λq a=>⟨a8.lt cD q a,λhf=>?_⟩).use ?_⟩⟩
 .rcases a5.bI no hs with h1|h1
  .rw[show(S.T.iJ f2).g no=S.T.g no from rfl,am]at h1;cases h1
  .exact bv h1
 .have h1:=dF q a
  have h2:=bB.lt (q:=q) (.inl hf);omega
 rintro _ a7 ⟨F,cH,cI,a9⟩;have r:eB S.T.C F cC a7 1:=cI;have cJ:∀j,j≠no->F.view j=S.T.C.view j:=λj b=>by
  rcases a9 with ⟨_,bF⟩|⟨_,_,bF⟩
  .rw[bF,if_neg b];rfl
  .rw[bF];rfl
 obtain⟨y,bG⟩:∃y:Nat->ao aB,y=λj=>if j=no then none else S.T.P j:=⟨_,rfl⟩
 have az:∀j,j≠no->y j=S.T.P j:=λj b=>by rw[bG];exact if_neg b
 obtain⟨aC,_⟩:=a5.qa (P:=y) cH cI λj bk ah=>by
  have b:j≠no:=λe=>by rw[bG]at ah;simp[e]at ah
  rw[cJ j b];exact h.t.ek j bk (by rw[←az j b];exact ah)
 have dI:¬cY S.T.C S.st:=(h.t.ca.inv.fg _ (.inr (.inr (.inl h.es)))).2;have bH:=cG.ae r.ae dI;have bK:ad S.W w a7:=cr a6 r.ae λq _ a=>h.lM (.inl a);have ba:∀x∈aI,S.T.P x=y x:=λx hx=>(az x λe=>by
  have:=(h.fz.g x).2 (.inl hx);rw[e,am]at this;cases this).symm
 have bL:F.D.bh=S.T.C.D.bh:=congrArg (λp=>p.1.1) r.bh;have bM:F.D.cg.getD 3 0=S.T.C.D.cg.getD 3 0:=congrArg Prod.snd r.bh;have dK:gb a7 (S.at f2 F y) aI aT:=h.togb.wa aC bH r.d r.c (λj b=>by rw[bL];rfl) ba λj b=>by rw[r.bI];exact h.bI j b
 have dL:db 100 S (S.at f2 F y) w a7:=db.at bK r.d (by have:=r.aO;omega) (λa=>⟨λk=>r.calm k (a.1 _),bM.trans a.2⟩) λq a=>(r.cZ q a).imp id λe=>by have:=a6.size;omega
 have dM:∀j,S.T.g j=true->F.D.dv j=[]:=λj b=>by
  rw[cH.inv.k3 j (by rw[r.bI];exact h.bI j b),r.nd.2,bw]
 rcases a9 with ⟨rfl,a9⟩|⟨rfl,dN,_⟩
 rotate_left
 .exact⟨3,rfl,λ_=>(wb dK dL rfl rfl rfl (λa=>dN (a.1 1)) (λj b=>by unfold ck.V;show F.D.bh.getD j []=_;rw[bL]) (by show F.D.aO<=_;have:=r.aO;omega) (.inl dM)).use λv w' bN=>by
   obtain⟨aA,r1,bY,af⟩:=bN;rcases af with ⟨rfl,bl⟩|⟨rfl,bl⟩
   .exact⟨0,rfl,aA,r1,bY,.inl ⟨rfl,bl⟩⟩
   .exact⟨3,rfl,aA,r1,bY,.inr ⟨rfl,bl⟩⟩,λhx=>(by cases hx)⟩
 refine⟨0,rfl,λhx=>(by cases hx),λ_=>⟨_,rfl,_,by rw[av];exact bH.cell,?_⟩⟩;have cK:=HQ aC.ca (by show F.D.aO<=_;have:=r.aO;omega) λj b=>by show F.D.eo j=_;rw[r.nd.2,bw]
 rw[show((S.T.iJ f2).bg F y).C.c=S.T.C.c from r.c]at cK;refine cK.use ?_;rintro _ an ⟨o,R⟩;have dO:¬cY F S.st:=(aC.ca.inv.fg _ (.inr (.inr (.inl h.es)))).2;have bb:=bH.ae R.ae dO;have Y:o.D.d=S.T.C.D.d:=R.d.trans r.d;have bc:o.c=S.T.C.c:=R.c.trans r.c;have aD:∀q,cY o q->cY S.T.C q\/w.heap.size<=q:=λq a=>by
  have:=bK.size;have:=a6.size;rcases R.cZ q a with h1|h1
  .exact(r.cZ q h1).imp id λe=>by omega
  .exact .inr I
 have bP:ad S.W w an:=cr bK R.ae λq al a=>by
  have:=a6.size;exact h.lM (.inl ((r.cZ q a).resolve_right I))
 have cL:∀ (bQ:bZ),(∀j,2<=j->bQ.view j=F.view j)->∀j bk,y j=some bk->j<S.T.n/\gL S.T.gen bk.leaf j (bQ.view j) bk:=λbQ dP j bk ah=>by
  have b:j≠no:=λe=>by rw[bG]at ah;simp[e]at ah
  have h1:=h.t.ek j bk (by rw[←az j b];exact ah);rw[dP j h1.2.two,cJ j b];exact h1
 have be:bJ an ((S.T.iJ f2).bg o y):=aC.CQ R.at_ R.ae R.c R.n (cL o λj _=>R.view j) λj b=>by
  rw[R.bI.1]at b;rcases aC.bI j b with h1|h1
  .exact .inl h1
  .exact .inr λi=>by rw[R.bI.1];exact h1 i
 have ap:o.D.bI=S.T.C.D.bI:=R.bI.1.trans r.bI;have dQ:o.D.eo=λ_=> []:=R.bI.2.trans (r.nd.2.trans bw);have e2:o.D.aO<=S.T.C.D.aO+70:=by have h1:o.D.aO<=F.D.aO+64:=R.aO;have:=r.aO;omega
 have fin:∀ (w1:J) (Z:aa->J->Prop),aN aj 81 #[.pointer (some S.st),(3:Int)] w1 (qn S pages L aI aT w)->(∀v w',qn S pages L aI aT w v w'->Z v w')->Calls aj 81 #[.pointer (some S.st),(3:Int)] w1 (λe ag=>∃n:Int,e=.returned n/\Z n ag):=λw1 Z bN cM=>bN.use λv w' hc=>by
  have dR:=hc;obtain⟨aA,r1,bY,af⟩:=dR;rcases af with ⟨rfl,bl⟩|⟨rfl,bl⟩
  .exact⟨0,rfl,cM _ _ hc⟩
  .exact⟨3,rfl,cM _ _ hc⟩
 rcases R.ic with ⟨rfl,dS,cN,dT⟩|⟨rfl,dU,dV⟩
 rotate_left
 .have cO:o.D.bh=S.T.C.D.bh:=dU.trans bL
  have dX:gb an (S.at f2 o y) aI aT:=h.togb.wa be bb Y bc (λj b=>by rw[cO];rfl) ba λj b=>by rw[ap];exact h.bI j b
  have ab:¬S.T.C.D.quiet:=λa=>by
   rcases dV with h1|h1
   .exact h1 (r.calm 64 (a.1 _))
   .unfold a_.fP at h1
    rw[show((S.T.iJ f2).bg F y).C.D.cg.getD 3 0=S.T.C.D.cg.getD 3 0 from bM,a.2]at h1
    cases h1
  have dY:db 100 S (S.at f2 o y) w an:=db.at bP Y I (λa=>absurd a ab) aD;exact⟨3,rfl,λ_=>fin _ _ (wb dX dY rfl rfl rfl ab (λj b=>by unfold ck.V;show o.D.bh.getD j []=_;rw[cO]) (by show o.D.aO<=_;omega) (.inl λj b=>by
   show o.D.dv j=[];rw[R.at_.inv.k3 j (by rw[ap];exact h.bI j b),dQ])) λ_ _ h=>h,λhx=>(by cases hx)⟩
 have aF:∀j,o.D.dv j=[]:=λj=>by unfold a_.dv;rw[dS];rfl
 have bf:∀j,o.D.bh.getD j []=if j=no then ez no ⟨4,S.gen+1,fJ f2 ((S.T.n+7)/8)⟩ else S.T.C.view j:=λj=>by
  have h1:=HO R.at_ cN j;rw[vF _ (λx hx=>(R.at_.raw.dev.wn x hx).1),if_pos (aF j)]at h1;rw[←h1,R.view];exact a9 j
 have aH:∀j,S.T.g j=true->S.V j=S.T.C.view j:=λj b=>(h.view al b).symm;refine⟨0,rfl,λhx=>(by cases hx),λ_=>⟨_,rfl,_,bb.cell,?_⟩⟩;have cP:=Cn be;rw[show((S.T.iJ f2).bg o y).aX=S.T.aX from rfl]at cP;refine cP.use ?_;rintro _ bS ⟨rfl,bU⟩;have bV:Ext bS bS.drew:=b4 _;have bW:=(bb.ext bU).ext bV;have dZ:IntKind.wrap .u64 ((S.u.cv:Int)+1)=((S.u.cv+1:Nat):Int):=by rw[gO I I];omega
 refine⟨_,_,rfl,aS ⟨λ_=>False,_,rfl,id,_,by rw[av];exact bW.cell,_,rfl,id,_,by rw[av,av];exact bW.cell,_,rfl,id,_,by rw[av];exact bW.cell,?_⟩⟩;rw[dZ];obtain⟨G,ac⟩:∃G:cU,G=⟨S.T.root,S.T.aE,no,S.now,S.u.cv+1,S.keys⟩:=⟨_,rfl⟩;refine⟨G.c.toArray,λe3=>by rw[ac];kernel_rfl,bd (vs:=gi.c) rfl λe4 cQ cR e5=>⟨cR,?_⟩⟩;obtain⟨aJ,d0⟩:∃aJ,aJ=bS.drew.heap.size:=⟨_,rfl⟩;rw[←d0]at cQ⊢;refine i_ cQ rfl G λaK d1 d2 e6=>aS ?_;have e7:=bU.size;have e8:=bV.size;have d3:Ext an aK:=Ext.cm (Ext.trans bU (bV.trans cR)) d2 I;have cS:Ext aK aK.drew:=b4 _;have aM:Ext an aK.drew:=Ext.trans d3 cS;have bX:=d1.ext cS;have bi:=bb.ext aM;have b0:=be.ext aM;generalize e9:aK.drew=bj at bX bi b0 aM⊢;refine⟨_,rfl,id,_,by rw[av];exact bi.cell,id,gM bX ⟨_,rfl,id,_,by rw[av];exact bi.cell,?_⟩⟩;rw[bC];have d4:nq G:=by
  have h1:=h.t.num;have h2:=h.keys;rw[ac];exact⟨by show S.T.root<_;omega,by show S.T.aE<_;omega,by show no<_;omega,aW.1,by show S.u.cv+1<_;omega,by show S.keys<_;omega⟩
 have b1:o.D.n=S.T.n:=R.n.trans (r.n.trans h.t.n);have Q:dW S.T.X bj o:=b0.ca;have cV:=mT Q.raw.dev I d4 (gen:=S.gen+1) I;rw[Y]at cV;refine cV.use ?_;rintro v aP ⟨aq,b2⟩;have e_:=aM.size;have d5:∀q,cY o q->q<aJ:=λq a=>by have:=R.at_.raw.lt a;omega
 have d6:=bX.ae aq λhf=>by have:=d5 aJ (.inr (.inr hf));omega
 have d7:¬cY o S.st:=(be.ca.inv.fg _ (.inr (.inr (.inl h.es)))).2;have bo:=bi.ae aq λhf=>d7 (.inr (.inr hf));have d8:ad S.W w bj:=cr bP aM λq _ a=>a.elim;have fa:=bP.size;have b3:ad S.W w aP:=cr d8 aq λq al a=>h.lM<| .inl ((aD q (.inr (.inr a))).resolve_right I)
 have main:∀ (A:a_),cB aP A->A.d=o.D.d->kv A o.D->(∀i,2<=i->A.now i=o.D.now i)->(∀q,bT A q->bT o.D q\/bj.heap.size<=q)->(∀j,A.bI j=true->S.T.g j=true)->
  bJ aP ((S.T.iJ f2).bg {o with D:=A} y)/\∀q,cY {o with D:=A} q->cY S.T.C q\/w.heap.size<=q:=λA ak d9 cW d_ cX b5=>by
  obtain⟨fH,dA⟩:=HZ Q ak d9 cW d_ aq cX;refine⟨b0.CQ fH (aq.mono λq _ a=>.inr (.inr a)) rfl cW.1 (cL _ λj b=>(dA j b).trans (R.view j)) λj b=>.inl (b5 j b),λq a=>?_⟩;rcases a with a|a|a
  .exact aD q (.inl a)
  .exact aD q (.inr (.inl a))
  .rcases cX q a with h1|h1
   .exact aD q (.inr (.inr h1))
   .exact .inr I
 have fb:¬o.D.ro:=λe=>bv λi=>by rw[←ap];exact e i
 have ea:∀j,o.D.bI j=true->S.T.g j=true:=λj b=>by
  rw[ap]at b;exact(h.t.bI j b).resolve_right bv
 have c1:S.T.C.D.quiet->∀k,o.D.calm k:=λa k=>R.calm k (r.calm _ (a.1 _));rcases b2 with ⟨b7,rfl,ak⟩|⟨b7,s,eb,bm,O,b2⟩
 .obtain⟨ar,aQ⟩:=main (o.D.cw 2) ak rfl (Q.inv.cw 2) (λi _=>rM o.D 2 i) (λq a=>.inl a) λj b=>ea j b
  have b8:gb aP (S.at f2 {o with D:=o.D.cw 2} y) aI aT:=h.togb.wa ar bo Y bc (λj b=>by
   show o.D.bh.getD j []=_;rw[bf j,if_neg (λe=>by rw[e,am]at b;cases b),aH j b]) ba λj b=>by show o.D.bI j=true;rw[ap];exact h.bI j b
  have ab:¬S.T.C.D.quiet:=λa=>by
   have:=(jD (k:=2) (m:=0) (.inr rfl) Q.raw.dev.f4 (c1 a 1)).2;rw[this]at b7;cases b7
  exact⟨3,rfl,λ_=>fin _ _ (wb b8 (db.at b3 Y (by show o.D.aO<=_;omega) (λa=>absurd a ab) aQ) rfl rfl rfl ab (λj b=>by
   show o.D.bh.getD j []=_;rw[bf j,if_neg (λe=>by rw[e,am]at b;cases b),aH j b]) (by show o.D.aO<=_;omega) (.inl λj _=>aF j)) λ_ _ h=>h,λhx=>(by cases hx)⟩
 have c3:∀j,bm.dv j=if j=(S.gen+1)%2 then [ez ((S.gen+1)%2) (iZ G o.D.n (S.gen+1))] else []:=λj=>by
  rw[O,Bn,aF,aF];rfl
 have c4:G=⟨S.T.root,S.T.aE,no,S.now,S.u.cv+1,L.length⟩:=by rw[ac,h.keys]
 have c5:∀V:Nat->cT,(∀j,V j=if j=(S.gen+1)%2 then ez ((S.gen+1)%2) (iZ G o.D.n (S.gen+1)) else o.D.bh.getD j [])->g5 V S.T.n (S.gen+1) G f2 y pages L:=λV ed=>by
  rw[c4];refine H3 h bz dt co cj dr (λx hx=>az x λe=>by
   have:=(h.f x).2 (.inl hx);rw[e,cn]at this;cases this) (by rw[ed,if_pos rfl,c4,b1]) (λj b=>?_) aH
  rw[ed,if_neg b,bf];by_cases e:j=no
  .rw[if_pos e,if_pos e]
  .rw[if_neg e,if_neg e]
   by_cases b9:S.T.g j=true
   .rw[if_pos b9,aH j b9]
   .rw[if_neg b9]
 have bp:∀q,bT bm q->bT o.D q\/bj.heap.size<=q:=by rw[O];exact vY eb
 have ec:∀i,2<=i->bm.now i=o.D.now i:=λi hi=>by rw[O,oz,if_neg I]
 have b_:bm.n=o.D.n:=by rw[O];rfl
 have cb:bm.d=o.D.d:=by rw[O];rfl
 have ee:bm.bh=o.D.bh:=by rw[O];rfl
 have ef:bm.aO=o.D.aO+1:=by rw[O];rfl
 have c6:S.T.C.D.quiet->bm.cg.getD 3 0= -1:=λa=>by
  rw[O];show(o.D.cg.set 2 _).getD 3 0=_;have br:=Q.raw.dev.f4;rw[ff (by rw[dc];omega),fA (by decide),←ff (d:=0),dT];rw[show((S.T.iJ f2).bg F y).C.D.cg.getD 3 0=S.T.C.D.cg.getD 3 0 from bM,a.2];rfl
 rcases b2 with ⟨bs,rfl,ak⟩|⟨bs,rfl,ak⟩
 .obtain⟨A,K⟩:∃A,A=(bm.cw 3).gj S.T.g λj=>if j=(S.gen+1)%2 then [ez ((S.gen+1)%2) (iZ G o.D.n (S.gen+1))] else []:=⟨_,rfl⟩
  obtain⟨ar,aQ⟩:=main A (by rw[K];exact ak.gj _ _) (by rw[K];exact cb) ⟨by rw[K];exact b_,λj b=>by rw[ap];exact h.bI j (by rw[K]at b;exact b),λj _=>by rw[K];exact c3 j⟩ (λi hi=>by rw[K];exact ec i hi) (λq a=>by rw[K]at a;exact bp q a) λj b=>by rw[K]at b;exact b
  have c7:A.bh=o.D.bh:=by rw[K];exact ee
  have fc:A.aO=o.D.aO+1:=by rw[K];exact ef
  have c8:A.d=S.T.C.D.d:=by rw[K];exact cb.trans Y
  have b5:∀j,A.dv j=if j=(S.gen+1)%2 then [ez ((S.gen+1)%2) (iZ G o.D.n (S.gen+1))] else []:=λj=>by rw[K];exact c3 j
  have c9:∀j,S.T.g j=true->A.bh.getD j []=S.V j:=λj b=>by rw[c7,bf j,if_neg (λe=>by rw[e,am]at b;cases b),aH j b]
  have b8:gb aP (S.at f2 {o with D:=A} y) aI aT:=h.togb.wa ar bo c8 bc c9 ba λj b=>by rw[K];exact b
  have ab:¬S.T.C.D.quiet:=λa=>by
   unfold a_.fP at bs;rw[c6 a]at bs;cases bs
  exact⟨3,rfl,λ_=>fin _ _ (wb b8 (db.at b3 c8 (by show A.aO<=_;omega) (λa=>absurd a ab) aQ) rfl rfl rfl ab c9 (by show A.aO<=_;omega) (.inr ⟨G,f2,y,_,b5,c5 _ λj=>by show(if _ then _ else A.bh.getD j [])=_;rw[c7],by rw[ac],by rw[ac]⟩)) λ_ _ h=>h,λhx=>(by cases hx)⟩
 have eg:∀j,S.T.n<=j->o.D.bh.getD j []=[]:=λj b=>by
  rw[ft,ke (by have:o.D.bh.length=S.T.n:=b1;omega)];rfl
 have c_:∀j,o.D.now j=o.D.bh.getD j []:=λj=>by rw[vF _ (λx hx=>(Q.raw.dev.wn x hx).1),if_pos (aF j)]
 have fd:bm.n=S.T.n:=b_.trans b1;have eh:∀j,(bm.cw 3).ja.bh.getD j []=if j=(S.gen+1)%2 then ez ((S.gen+1)%2) (iZ G o.D.n (S.gen+1)) else o.D.bh.getD j []:=λj=>by
  show((List.range bm.n).map bm.now).getD j []=_;have fe:16<=bm.n:=by have:16<=o.D.n:=Q.raw.dev.bR;omega
  by_cases b:j<bm.n
  .rw[ff (by simp;exact b),List.getElem_map,List.getElem_range,O,oz,c_]
  .rw[ft,ke (by simp;omega),if_neg I,eg j I];rfl
 obtain⟨H,N⟩:∃H,H=(bm.cw 3).ja.gj (λ_=>false) λ_=> []:=⟨_,rfl⟩;have ei:∀j,H.dv j=[]:=λj=>by rw[N];rfl
 have da:∀j,H.bh.getD j []=if j=(S.gen+1)%2 then ez ((S.gen+1)%2) (iZ G o.D.n (S.gen+1)) else o.D.bh.getD j []:=λj=>by rw[N];exact eh j
 have ej:H.n=o.D.n:=by rw[N];exact(r0 (bm.cw 3)).trans b_
 have cd:H.d=S.T.C.D.d:=by rw[N];exact cb.trans Y
 obtain⟨ar,aQ⟩:=main H (by rw[N];exact ak.gj _ _) (cd.trans Y.symm) ⟨ej,λj b=>(by rw[N]at b;cases b),λj b=>(by rw[N]at b;cases b)⟩ (λi hi=>by
  have h1:H.now i=H.bh.getD i []:=by rw[N];rfl
  rw[h1,da,if_neg I,c_]) (λq a=>by
   rw[N]at a;rcases a with e|e|e|⟨x,hx,e⟩
   .exact bp q (.inl e)
   .exact bp q (.inr (.inl e))
   .exact bp q (.inr (.inr (.inl e)))
   .cases hx) λj b=>(by rw[N]at b;cases b)
 refine⟨0,rfl,λhx=>(by cases hx),λ_=>⟨_,rfl,_,by rw[av];exact bo.cell,(Gr ar.s).use ?_⟩⟩;rintro _ aU ⟨rfl,s2,el,aV,dd⟩;have ax:=c5 (λj=>H.bh.getD j []) da;have em:f2 0=true/\f2 1=true:=⟨(ax.g 0).2 (.inr (.inl (by decide))),(ax.g 1).2 (.inr (.inl (by decide)))⟩;obtain⟨en,fh⟩:=ar.space el aV dd (λj b=>by
  have b:H.bI j=true:=b;rw[N]at b;cases b) em
 have fi:=aV.size;have ep:=bo.ae aV (h.t.c2 _ h.es).2.1;have eq:=d6.ae aV λhf=>by
  have h1:=h.t.lt (q:=aJ) (.inr (.inr (.inl hf)));omega
 have er:=en.gj (s:=f2) (z:=λ_=> []) (λf hf j et _ _=>by
  have h1:=cN f hf;unfold Fr.gU at h1;rw[et]at h1;simpa using h1) (λj _=>ei j) λj b=>.inl b
 obtain⟨fY,B⟩:∃fY:aL,fY=(((S.T.iJ f2).bg {o with D:=H} y).v7 f2 f2 S.T.s1 s2).bg {o with D:=H.gj f2 λ_=> []} y:=⟨_,rfl⟩;have eu:bJ aU fY:=by rw[B];exact er
 have bt:Ext aU aU.drew:=b4 _;have de:Var aU.drew S.st (g4 S.T.aX S.T.C.D.d S.T.C.c S.T.sb S.l S.u S.gen S.now S.first S.pending S.keys S.failed) 158:=ep.ext bt;have ev:=eq.ext bt;have ew:=eu.ext bt;have bu:fY.E=S.T.E:=by rw[B];rfl
 refine⟨rfl,aS ⟨λ_=>False,id,gM ev ⟨_,rfl,id,_,by rw[av];exact de.cell,_,rfl,?_⟩⟩⟩;rw[av,cx,bC];refine H5 de G λdg dh di=>?_;have ex:=ew.jL (by rw[bu];exact h.es) di;obtain⟨bA,bO⟩:=dH dh (i:=13) (by simp[g4]);have dj:=dJ dh (i:=13) (.int .u64 ((S.gen+1:Nat):Int));have ey:=dn dg S.st 13 (.int .u64 ((S.gen+1:Nat):Int));refine⟨_,rfl,by rw[av];exact bA,by rw[av];exact bO,aS ?_⟩;rw[av,cx];obtain⟨eA,eC⟩:=dH dj (i:=16) (by simp[g4]);have dk:=dJ dj (i:=16) (0:Int);have ce:=ey.trans (dn _ S.st 16 (0:Int));refine⟨_,rfl,by rw[av];exact eA,by rw[av];exact eC,aS ?_⟩;rw[av,cx];generalize (dg.setCell ⟨S.st,13,none⟩ (.int .u64 ((S.gen+1:Nat):Int))).setCell ⟨S.st,16,none⟩ (0:Int)=dl at dk ce⊢;have eD:=ex.jL (by rw[bu];exact h.es) ce;have cf:Ext dl dl.drew:=b4 _;have ch:=dk.ext cf;have eE:=eD.ext cf;refine aS ⟨_,rfl,id,_,ch.cell,_,rfl,id,_,by rw[av];exact ch.cell,?_⟩;have eF:IntKind.wrap .u64 (((S.gen+1:Nat):Int)+1)=((S.gen+2:Nat):Int):=by rw[gO I I];omega
 rw[eF];have fj:fY.gen=S.gen+1:=by rw[B];exact du
 have dm:fY.aX=S.T.aX:=by rw[B];rfl
 have dp:=H2 eE (gen:=S.gen+2) I I;rw[dm]at dp;refine dp.use ?_;rintro _ eG ⟨rfl,eI,dq⟩;have eJ:=ch.ae dq (h.t.c2 _ h.es).1;have eK:∀q,(fY.mv (S.gen+2)).M q->S.T.M q\/w.heap.size<=q:=λq a=>by
  rw[B]at a;rcases a with a|a|a|a
  .exact(aQ q a).imp .inl id
  .exact .inl (.inr (.inl a))
  .rcases dd q a with h1|h1
   .exact .inl (.inr (.inr (.inl h1)))
   .have:=aq.size;exact .inr I
  .exact .inl (.inr (.inr (.inr a)))
 refine⟨rfl,⟨S.st,fY.mv (S.gen+2),S.l,G,S.gen+1,S.now,S.first,0,S.keys,S.failed⟩,⟨rfl,?_,by rw[B];rfl,rfl,?_,λa=>?_,?_,eK,bu,by rw[B];rfl⟩,rfl,.inl ⟨rfl,⟨⟨?_,eI,?_,?_,rfl,?_,?_⟩,?_,h.bk,?_,?_,h.fS,h.keys,cE _,λ_=>⟨?_,?_,?_⟩,λhf=>?_⟩,al,rfl,by rw[ac],by rw[ac],rfl⟩⟩
 .rw[B];exact cd
 .rw[B];show H.aO<=_;rw[N];show bm.aO<=_;omega
 .rw[B]
  show a_.quiet (H.gj _ _);rw[N];refine⟨λk=>r2 bm ?_,?_⟩
  .have br:=(jD (k:=2) (m:=k) (.inr rfl) Q.raw.dev.f4 (c1 a (k+1))).1
   rw[O];exact br
  .show(bm.cg.set 3 (gx (bm.cg.getD 3 0)).2).getD 3 0= -1
   have br:=Q.raw.dev.f4;have fk:bm.cg.length=4:=by rw[O];show(o.D.cg.set 2 _).length=4;rw[dc];exact br
   rw[c6 a,ff (by rw[dc];omega),h5];rfl
 .have hs:∀q,q=S.st->S.W q:=λq e=>by rw[e];exact h.v_
  have au:ad S.W w aU:=cr b3 aV λq _ a=>h.lM (.inr (.inr (.inl a)));have aw:=cr au bt λq _ a=>a.elim;have eL:=cr aw di λq _ a=>hs q a;have eM:=cr eL ce λq _ a=>hs q a;have eN:=cr eM cf λq _ a=>a.elim;exact cr eN dq λq _ a=>h.lM (.inr (.inl a))
 .show Var eG S.st (g4 fY.aX fY.C.D.d fY.C.c fY.sb _ _ _ _ _ _ _ _) _
  rw[dm,show fY.C.D.d=S.T.C.D.d by rw[B];exact cd,show fY.C.c=S.T.C.c by rw[B];exact bc,show fY.sb=S.T.sb by rw[B];rfl];exact eJ
 .show fY.E S.st
  rw[bu];exact h.es
 .rw[B];exact ax
 .refine⟨aW.1,aW.2.1,?_,by show S.gen+1+2<_;omega,aW.2.2.2.2⟩
  show G.cv+1<=S.gen+1;rw[ac];show S.u.cv+1+1<=_;omega
 .intro j b
  have b:fY.g j=true:=b;show fY.C.D.bI j=true;rw[B]at b⊢;exact b
 .refine h.ok.agree (by rw[B];rfl) (by rw[B];rfl) λx hx=>?_
  rw[B];exact(az x λe=>by
   have:=(h.f x).2 (.inl hx);rw[e,cn]at this;cases this).symm
 .intro j
  have:(fY.mv (S.gen+2)).f j=f2 j:=by rw[B];rfl
  rw[this];exact ax.g j
 .intro x hx
  exact⟨(ax.two x hx).1,(ax.two x hx).2.1⟩
 .intro e
  have h1:=e S.T.n;have h2:(fY.mv (S.gen+2)).C.D.bI S.T.n=f2 S.T.n:=by rw[B];rfl
  rw[h2,cu.pf S.T.n (bn _)]at h1;cases h1
 .rw[B];rfl
 .have eO:f2 S.u.map=false:=by rw[bz];unfold df;rw[if_pos rfl]
  have h1:=rT (s:=λi=>f2 i||f2 i) (t:=df (λi=>f2 i||f2 i) S.u.map true) (k:=S.u.map) (by simp[eO]) (by simp[df]) (λi hi=>by simp[df,hi]) (n:=S.T.n) cl.2.2.2.1;have h2:=mj (df (λi=>f2 i||f2 i) S.u.map true) S.T.n;have fl:cc (fY.mv (S.gen+2))=S.T.n-eQ (λi=>f2 i||f2 i) S.T.n:=by rw[B];rfl
  show 1<=cc (fY.mv (S.gen+2));omega
 .have hf:S.failed=true:=hf
  rw[al]at hf;cases hf
end
theorem CS(a b:Int)(w:J)(T:TypeId)(k:IntKind):Sem.run aj (Builtin.max_ #[T,T] T #[.int k a,.int k b]) w=.ok (.int k (max a b)) w:=by
 simp only[Builtin.max_];unfold Builtin.max2;simp;split<;>omega
theorem db.trans{S aA b:ck}{w w' c:J}{k l:Nat}(h1:db k S aA w w')(h2:db l aA b w' c):db (k+l) S b w c:=
 ⟨h2.st.trans h1.st,h2.d.trans h1.d,h2.n.trans h1.n,h2.l.trans h1.l,by have:=h1.aO;have:=h2.aO;omega,λh=>h2.q (h1.q h),cr h1.ae h2.ae λq f a=>h1.back f a,λq a=>by
  have:=h1.ae.size
  rcases h2.cZ q a with e|e
  .exact h1.cZ q e
  .exact .inr I,h2.E.trans h1.E,h2.G.trans h1.G⟩
theorem db.mono{S aA:ck}{w w':J}{k l:Nat}(h:db k S aA w w')(a:k<=l):db l S aA w w':={h with aO:=by have:=h.aO;omega}
theorem db.ext{w w':J}(S:ck)(h:Ext w w'):db 0 S S w w':=⟨rfl,rfl,rfl,rfl,bn _,λh=>h,h.mono λ_ _ h=>h.elim,λq a=>.inl a,rfl,rfl⟩
section
variable {w w' w1:J}{T:aL}{S aA fC:ck}{pages aI:O Nat}{L aT:O aH}
theorem gb.ext(h:gb w S aI aT)(hx:Ext w w'):gb w' S aI aT:=⟨h.v.ext hx,h.t.ext hx,h.es,h.fz,h.gen,h.num,h.bI⟩
theorem c0.ext(h:c0 w S pages L aI aT)(hx:Ext w w'):c0 w' S pages L aI aT:=⟨h.togb.ext hx,h.ok,h.bk,h.f,h.two,h.fS,h.keys,h.da,h.live,h.dead⟩
theorem c0.jL{ky:Nat}(h:c0 w S pages L aI aT)(a:S.T.E ky)(hs:ky≠S.st)(hc:ad (λq=>q=ky) w w'):c0 w' S pages L aI aT:=
 ⟨⟨h.v.ae hc λe=>hs e.symm,h.t.jL a hc,h.es,h.fz,h.gen,h.num,h.bI⟩,h.ok,h.bk,h.f,h.two,h.fS,h.keys,h.da,h.live,h.dead⟩
theorem H6(h:c0 w S pages L aI aT):aN aj 53 #[.pointer (some S.st)] w (λv w'=>v=S.pending/\w=w'):=by
 refine okF (I7.xi (some S.st)) I6.xi func53 ?_;exact⟨λa=>(by cases a),λ_=>⟨_,rfl,_,by rw[av];exact h.v.cell,rfl,rfl⟩⟩
theorem H7(h:c0 w S pages L aI aT):aN aj 56 #[.pointer (some S.st)] w (λv w'=>v=S.keys/\w=w'):=by
 refine okF (I7.xj (some S.st)) I6.xj func56 ?_;exact⟨λa=>(by cases a),λ_=>⟨_,rfl,_,by rw[av];exact h.v.cell,rfl,rfl⟩⟩
theorem H8(h:c0 w S pages L aI aT):aN aj 57 #[.pointer (some S.st)] w (λv w'=>v=.int .u64 (S.now:Nat)/\w=w'):=by
 refine okF (I7.xk (some S.st)) I6.xk func57 ?_;exact⟨λa=>(by cases a),λ_=>⟨_,rfl,_,by rw[av];exact h.v.cell,rfl,rfl⟩⟩
theorem H9(h:c0 w S pages L aI aT):aN aj 48 #[.pointer (some S.st)] w (λv w'=>v=S.failed/\w=w'):=by
 refine okF (I7.xh (some S.st)) I6.xh func48 ?_;exact⟨λ_=>⟨_,rfl,_,by rw[av];exact h.v.cell,rfl,rfl⟩,λa=>(by cases a)⟩
theorem H_(h:c0 w S pages L aI aT):aN aj 46 #[.pointer (some S.st)] w (λv w'=>v=.agg S.u.c.toArray/\Ext w w'):=by
 refine okF (I7.tN (some S.st)) I6.tN func46 ?_;(delta I7.tN gv ai U w_ r1 bl;dsimp only);refine bd (vs:=gi.c) rfl λw1 b a g=>⟨λd=>(by cases d),λ_=>?_⟩;have hs:=h.v.ext a;refine⟨_,rfl,_,by rw[av];exact hs.cell,_,by rw[av,av];exact hs.cell,_,by rw[av,av];exact hs.cell,_,by rw[av,av];exact hs.cell,_,by rw[av,av];exact hs.cell,_,by rw[av,av];exact hs.cell,i_ b rfl S.u λag e f i=>gM e ⟨rfl,Ext.cm a f (bn _)⟩⟩
def gB(S:ck):Nat:=cc S.T-2*S.T.aE-4
theorem yS(h:c0 w S pages L aI aT):aN aj 82 #[.pointer (some S.st)] w (λv w'=>v=.int .i64 (gB S:Nat)/\Ext w w'):=by
 refine okF (I7.tX (some S.st)) I6.tX func82 ?_;(delta I7.tX eH ay ar;dsimp only);refine⟨_,rfl,_,h.v.cell,(Cn h.t).use ?_⟩;rintro _ e ⟨rfl,a⟩;refine⟨_,_,rfl,_,rfl,_,by rw[av];exact(h.v.ext a).cell,(yc (h.t.ext a).s).use ?_⟩;rintro _ b ⟨rfl,c⟩;have j:=h.t.s.bq;have k:=h.t.num.2.1;have l:=mj (λi=>S.T.f i||S.T.g i) S.T.n;have d:(S.T.n:Int)-eQ (λi=>S.T.f i||S.T.g i) S.T.n=((cc S.T:Nat):Int):=by unfold cc;omega
 have m:cc S.T<=S.T.n:=Nat.sub_le _ _;rw[d,bu (n:=2*(S.T.aE:Int)) I I];refine⟨_,rfl,_,b,CS _ _ b _ _,?_,Ext.trans a c⟩;rw[bu (n:=((cc S.T:Nat):Int)-2*(S.T.aE:Int)) I I,bu I I];unfold gB
 congr 1
 omega
theorem Ia(h:c0 w S pages L aI aT):aN aj 58 #[.pointer (some S.st)] w (λv w'=>v=.int .i64 (gB S:Nat)/\Ext w w'):=by
 refine okF (I7.xl (some S.st)) I6.xl func58 ?_;refine⟨λa=>(by cases a),λ_=>(yS h).use ?_⟩;rintro _ w1 ⟨rfl,hx⟩;exact⟨_,rfl,rfl,hx⟩
end
def jb(c:Prop)(S aA:ck)(pages:O Nat)(L:O aH)(aI:O Nat)(aT:O aH)(v:aa)(w':J):Prop:=
 (v=.int .i64 0/\c/\c0 w' aA pages L pages L/\aA.failed=false/\aA.gen=S.gen+1/\aA.u.clock=S.now/\aA.u.cv=S.u.cv+1/\aA.pending=0)\/
 (v=.int .i64 3/\¬S.T.C.D.quiet/\c0 w' aA aI aT aI aT/\aA.failed=true/\aA.u=S.u/\aA.gen=S.gen/\(∀j,S.T.g j=true->aA.V j=S.V j)/\((∀j,S.T.g j=true->aA.T.C.D.eo j=[])\/(c/\CR aA S.gen S.T.g pages L S.now (S.u.cv+1))))
theorem qn.x{c:Prop}{S:ck}{pages aI:O Nat}{L aT:O aH}{w w':J}{v:aa}(h:qn S pages L aI aT w v w')(hc:c):∃aA,db 100 S aA w w'/\aA.now=S.now/\jb c S aA pages L aI aT v w':=by
 obtain⟨aA,h1,h2,a⟩:=h;refine⟨aA,h1,h2,?_⟩;rcases a with ⟨a1,a2,a3⟩|⟨a1,a2,a3,a4,a5,c3,dE,c4⟩
 .exact .inl ⟨a1,hc,a2,a3⟩
 .exact .inr ⟨a1,a2,a3,a4,a5,c3,dE,.inr ⟨hc,c4⟩⟩
theorem jb.val{c:Prop}{S aA:ck}{pages aI:O Nat}{L aT:O aH}{w':J}{v:aa}(h:jb c S aA pages L aI aT v w'):∃n:Int,v=n:=by
 rcases h with ⟨a,_⟩|⟨a,_⟩<;>exact⟨_,a⟩
def mw(S aA:ck)(pages:O Nat)(L:O aH)(aI:O Nat)(aT:O aH)(v:aa)(w':J):Prop:=
 (v=.int .i64 0/\S.pending+1<S.l.batch/\c0 w' aA pages L aI aT/\aA.failed=false/\aA.gen=S.gen/\aA.u=S.u/\aA.pending=S.pending+1/\aA.first=(if S.pending=0 then S.now else S.first)/\∀j,S.T.g j=true->aA.V j=S.V j)\/
 jb (S.l.batch<=S.pending+1) S aA pages L aI aT v w'
section
variable {w w' w1:J}{T:aL}{S aA fC:ck}{pages aI:O Nat}{L aT:O aH}
theorem Ib{d:Int}(b:gb w S aI aT)(y:S.failed=false)(ok:ga S.T pages L)(bk:pages.Nodup)(f:∀no,S.T.f no=true↔no∈pages\/no<2\/no=S.u.map)(two:∀x∈pages,2<=x/\x≠S.u.map)(fS:∀p∈L,cz p.1/\p.2.length<=24)
 (Y:¬S.T.C.D.ro/\S.T.C.D.eo=(λ_=> [])/\1<=cc S.T) (Z:(S.keys:Int)+d=L.length) (aq:S.pending<1000) (aa:L.length<4096) (ax:S.keys<100000) (ab:S.T.C.D.aO<=800000000) (ac:S.gen<=1000000000):
 aN aj 84 #[.pointer (some S.st),d] w (λv w'=>∃aA,db 100 S aA w w'/\aA.now=S.now/\mw S aA pages L aI aT v w'):=by
 refine okF (I7.tZ (some S.st) d) I6.tZ func84 ?_;(delta I7.tZ r1 st ar ai bl ay;dsimp only);have O:=b.num;have az:S.T.M S.st:=.inr (.inr (.inr (.inl b.es)));obtain⟨au,aw,g,z,A⟩:=b.set (i:=17) (x:=L.length) (by decide);refine⟨_,rfl,_,by rw[av];exact b.v.cell,_,rfl,by rw[av];exact au,by rw[av];exact aw,aS ?_⟩;rw[av,cx,Z,bu (n:=(L.length:Int)) I I];generalize aB:w.setCell ⟨S.st,17,none⟩ L.length=ae at g z A⊢;obtain⟨o,t⟩:∃o,o=if S.pending=0 then S.now else S.first:=⟨_,rfl⟩
 refine hF (λk=>Var k S.st (g4 S.T.aX S.T.C.D.d S.T.C.c S.T.sb S.l S.u S.gen S.now o S.pending L.length S.failed) 158/\bJ k S.T/\ad (λq=>q=S.st) w k) (λaC P=>?_) ?_
 .refine⟨_,rfl,_,by rw[av];exact g.cell,λB=>?_,λB=>P _ ⟨?_,z,A⟩⟩
  .have h0:S.pending=0:=by
    have:(S.pending:Int)=0:=by simpa using B
    omega
   obtain⟨E,F⟩:=dH g (i:=15) (by simp[ck.cells,g4]);have ag:=dJ g (i:=15) (.int .u64 (S.now:Int));have Q:=dn ae S.st 15 (.int .u64 (S.now:Int));refine⟨_,rfl,_,by rw[av];exact g.cell,_,rfl,by rw[av];exact E,by rw[av];exact F,aS (P _ ⟨?_,?_,?_⟩)⟩
   .rw[av,cx,t,if_pos h0];exact ag
   .rw[av,cx];exact z.jL b.es Q
   .rw[av,cx];exact A.trans Q
  .have h0:¬S.pending=0:=by
    have:¬(S.pending:Int)=0:=by simpa using B
    omega
   rw[t,if_neg h0];exact g
 rintro k ⟨G,ah,ak⟩;obtain⟨E,F⟩:=dH G (i:=16) (by simp[g4]);have R:=dJ G (i:=16) (.int .i64 ((S.pending+1:Nat):Int));have H:=dn k S.st 16 (.int .i64 ((S.pending+1:Nat):Int));have al:IntKind.wrap .i64 ((S.pending:Int)+1)=((S.pending+1:Nat):Int):=by rw[bu I I];omega
 refine⟨_,rfl,_,by rw[av];exact G.cell,_,rfl,by rw[av];exact E,by rw[av];exact F,aS ?_⟩;rw[av,cx,al];have U:=ah.jL b.es H;generalize aD:k.setCell ⟨S.st,16,none⟩ (.int .i64 ((S.pending+1:Nat):Int))=r at R H U⊢;have J:Ext r r.drew:=b4 _;have K:=R.ext J;have am:=U.ext J;have an:ad (λq=>q=S.st) w r.drew:=cr (ak.trans H) J λq _ N=>N.elim;obtain⟨m,a⟩:∃m:ck,m={S with first:=o,pending:=S.pending+1,keys:=L.length}:=⟨_,rfl⟩;have ao:o<=S.now:=by rw[t];split<;>omega
 have V:c0 r.drew m pages L aI aT:=by
  rw[a];exact⟨⟨K,am,b.es,b.fz,b.gen,⟨O.1,ao,O.2.2⟩,b.bI⟩,ok,bk,f,two,fS,rfl,by show S.pending+1<=1000;omega,λ_=>Y,λhf=>by have hf:S.failed=true:=hf;rw[y]at hf;cases hf⟩
 have W:db 0 S m w r.drew:=by
  rw[a];exact⟨rfl,rfl,rfl,rfl,bn _,λh=>h,an.mono λq _ e=>by rw[e];exact b.v_,λq N=>.inl N,rfl,rfl⟩
 refine aS ⟨_,rfl,id,_,by rw[av];exact K.cell,_,rfl,id,_,by rw[av,av];exact K.cell,λs=>?_,λs=>?_⟩
 .have s:((S.pending+1:Nat):Int)>=(S.l.batch:Int):=b1 s
  have X:=yR V (by rw[a];exact y) aa (by rw[a];exact ab) (by rw[a];exact ac);rw[show m.st=S.st by rw[a]]at X;refine X.use ?_;intro v aE ap;obtain⟨aA,r1,bY,af⟩:=ap.x (c:=S.l.batch<=S.pending+1) I;obtain⟨n,rfl⟩:=af.val;refine⟨n,rfl,aA,(W.trans r1).mono I,by rw[bY,a],.inr ?_⟩;rw[a]at af;exact af
 .have s:¬((S.pending+1:Nat):Int)>=(S.l.batch:Int):=cp s
  exact⟨m,W.mono I,by rw[a],.inl ⟨rfl,I,V,by rw[a];exact y,by rw[a],by rw[a],by rw[a],by rw[a];exact t,λj _=>by rw[a];rfl⟩⟩
theorem CT(h:c0 w S pages L aI aT)(a:L.length<4096)(b:S.T.C.D.aO<=800000000)(d:S.gen<=1000000000):
 aN aj 34 #[.pointer (some S.st)] w (λv w'=>(S.failed=true/\v=.int .i64 8/\w=w')\/(S.failed=false/\∃aA,db 100 S aA w w'/\aA.now=S.now/\jb True S aA pages L aI aT v w')):=by
 refine okF (I7.tK (some S.st)) I6.tK func34 ?_;(delta I7.tK ai a7 ay;dsimp only);refine⟨λe=>(by cases e),λ_=>⟨_,rfl,S.failed,by rw[av];exact h.v.cell,λhf=>.inl ⟨hf,rfl,rfl⟩,λhf=>(yR h hf a b d).use ?_⟩⟩;intro v w' f;obtain⟨aA,r1,bY,af⟩:=f.x (c:=True) trivial;obtain⟨n,rfl⟩:=af.val;exact⟨n,rfl,.inr ⟨hf,aA,r1,bY,af⟩⟩
end
section
variable {w w' w1:J}{T an:aL}{S aA fC:ck}{pages aI:O Nat}{L aT:O aH}{k:Nat}
def ck.bV(S:ck)(an:aL):ck:={S with T:=an}
theorem gb.to(h:gb w S aI aT)(ht:bJ w' an)(a:bL S.T an w w' k)(f:an.E=S.T.E)(l:an.G=S.T.G)(o:∀no,S.T.g no=true->an.P no=S.T.P no):
 gb w' (S.bV an) aI aT/\db k S (S.bV an) w w'/\(S.bV an).V=S.V:=by
 have r:an.C.D.bh=S.T.C.D.bh:=congrArg (λp=>p.1.1) a.bh;have s:an.C.D.cg.getD 3 0=S.T.C.D.cg.getD 3 0:=congrArg Prod.snd a.bh;have i:(S.bV an).V=S.V:=by
  funext j;show an.C.D.bh.getD j []=S.T.C.D.bh.getD j [];rw[r]
 refine⟨⟨?_,ht,by show an.E S.st;rw[f];exact h.es,?_,a.gen.trans h.gen,h.num,λj b=>?_⟩,⟨rfl,a.d,a.n,rfl,a.aO,λe=>⟨λm=>a.calm m (e.1 _),s.trans e.2⟩,a.ae.mono λq _ e=>h.lM e,a.cZ,f,l⟩,i⟩
 .show Var w' S.st (g4 an.aX an.C.D.d an.C.c an.sb _ _ _ _ _ _ _ _) _
  rw[a.aX,a.d,a.c,a.sb];exact h.v.ae a.ae (h.t.jC h.es)
 .show g5 _ an.n _ _ an.g an.P _ _
  rw[i,a.n,a.g];exact h.fz.agree (λ_ _=>rfl) λx hx=>(o x ((h.fz.g x).2 (.inl hx))).symm
 .have b:an.g j=true:=b
  rw[a.g]at b;show an.C.D.bI j=true;rw[a.bI.1];exact h.bI j b
theorem bL.ro(h:bL T an w w' k):an.C.D.ro↔T.C.D.ro:=by unfold a_.ro;rw[h.bI.1]
theorem c0.to(h:c0 w S pages L aI aT)(ht:bJ w' an)(a:bL S.T an w w' k)(c:an.E=S.T.E)(d:an.G=S.T.G)(b:iY S.T an):
 c0 w' (S.bV an) pages L aI aT/\db k S (S.bV an) w w'/\(S.bV an).V=S.V:=by
 obtain⟨h1,h2,i⟩:=h.togb.to ht a c d λno j=>(b.eF no (by rw[j,Bool.or_true])).1;have l:cc an=cc S.T:=by unfold cc;rw[a.n,b.f,a.g]
 refine⟨⟨h1,b.ok h.ok λx hx=>(h.f x).2 (.inl hx),h.bk,λno=>by show an.f no=true↔_;rw[b.f];exact h.f no,h.two,h.fS,h.keys,h.da,λhf=>?_,λhf=>?_⟩,h2,i⟩
 .obtain⟨a1,a2,a3⟩:=h.live hf
  exact⟨λe=>a1 (a.ro.1 e),a.bI.2.trans a2,by show 1<=cc an;rw[l];exact a3⟩
 .obtain⟨a1,a2⟩:=h.dead hf
  exact⟨a.ro.2 a1,a2⟩
theorem Ic{n:Nat}(h:c0 w S pages L aI aT)(O:n<18446744073709551616)(B:L.length<4096)(E:S.T.C.D.aO<=800000000)(F:S.gen<=1000000000):
 aN aj 51 #[.pointer (some S.st),.int .u64 (n:Nat)] w (λv w'=>∃aA,db 100 S aA w w'/\aA.now=max S.now n/\
  ((v=.int .i64 0/\(S.pending=0\/max S.now n-S.first<S.l.d_)/\c0 w' aA pages L aI aT/\aA={S with now:=max S.now n})\/
   (S.failed=false/\jb (S.pending≠0/\S.l.d_<=max S.now n-S.first) {S with now:=max S.now n} aA pages L aI aT v w'))):=by
 refine okF (I7.tO (some S.st) (n:Nat)) I6.tO func51 ?_;(delta I7.tO ai bl st r1 ay;dsimp only);have G:=h.num;have P:S.T.M S.st:=.inr (.inr (.inr (.inl h.es)));have H:max (S.now:Int) (n:Int)=((max S.now n:Nat):Int):=by omega
 obtain⟨au,aw,t,u,y⟩:=h.set (i:=14) (x:=.int .u64 ((max S.now n:Nat):Int)) (by decide);refine⟨λa=>(by cases a),λ_=>⟨_,rfl,_,by rw[av];exact h.v.cell,_,w,CS _ _ w _ _,_,rfl,by rw[av];exact au,by rw[av];exact aw,aS ?_⟩⟩;rw[av,cx,H];generalize w.setCell ⟨S.st,14,none⟩ (.int .u64 ((max S.now n:Nat):Int))=g at t u y⊢;have k:Ext g g.drew:=b4 _;have j:=t.ext k;have J:ad (λq=>q=S.st) w g.drew:=cr y k λq _ m=>m.elim;obtain⟨b,d⟩:∃b:ck,b={S with now:=max S.now n}:=⟨_,rfl⟩;rw[←d];have o:c0 g.drew b pages L aI aT:=by
  rw[d];exact⟨⟨j,u.ext k,h.es,h.fz,h.gen,⟨by show max S.now n<_;omega,by show S.first<=max S.now n;omega,G.2.2⟩,h.bI⟩,h.ok,h.bk,h.f,h.two,h.fS,h.keys,h.da,h.live,h.dead⟩
 have p:db 0 S b w g.drew:=by
  rw[d];exact⟨rfl,rfl,rfl,rfl,bn _,λh=>h,J.mono λq _ e=>by rw[e];exact h.v_,λq m=>.inl m,rfl,rfl⟩
 have r:b.now=max S.now n:=by rw[d]
 refine aS ⟨_,rfl,id,_,by rw[av];exact j.cell,λs=>⟨λ_=>?_,λa=>(by cases a)⟩,λs=>?_⟩
 .have h0:S.pending=0:=by
   have:(S.pending:Int)=0:=by simpa using s
   omega
  exact⟨b,p.mono I,r,.inl ⟨rfl,.inl h0,o,rfl⟩⟩
 .have h0:¬S.pending=0:=by
   have:¬(S.pending:Int)=0:=by simpa using s
   omega
  have z:S.failed=false:=by
   cases hf:S.failed with
   |false=>rfl
   |true=>exact absurd (h.dead hf).2.2.2 h0
  have K:IntKind.wrap .u64 (((max S.now n:Nat):Int)-(S.first:Int))=((max S.now n-S.first:Nat):Int):=by rw[gO I I];omega
  refine⟨_,rfl,id,_,by rw[av];exact j.cell,_,rfl,id,_,by rw[av];exact j.cell,_,rfl,id,_,by rw[av,av];exact j.cell,?_⟩;rw[K];refine⟨λa=>?_,λa=>?_⟩
  .have a:((max S.now n-S.first:Nat):Int)<(S.l.d_:Int):=b1 a
   exact⟨b,p.mono I,r,.inl ⟨rfl,.inr I,o,rfl⟩⟩
  .have a:¬((max S.now n-S.first:Nat):Int)<(S.l.d_:Int):=cp a
   have A:=yR o (by rw[d];exact z) B (by rw[d];exact E) (by rw[d];exact F);rw[show b.st=S.st by rw[d]]at A;refine A.use ?_;intro v Q N;obtain⟨aA,r1,bY,af⟩:=N.x (c:=S.pending≠0/\S.l.d_<=max S.now n-S.first) ⟨h0,I⟩;obtain⟨n,rfl⟩:=af.val;exact⟨n,rfl,aA,(p.trans r1).mono I,bY.trans r,.inr ⟨z,af⟩⟩
theorem CU{tk:Y}{key:Key}(h:c0 w S pages L aI aT)(b:S.T.C.D.aO<=800000000)(c:Src 1 w tk (aG key))(d:∀q,az tk q->q<w.heap.size/\¬S.T.M q):
 aN aj 55 #[.pointer (some S.st),tk] w (λv w'=>∃aD,c0 w' (S.bV (S.T.bg aD S.T.P)) pages L aI aT/\db 30 S (S.bV (S.T.bg aD S.T.P)) w w'/\yw S.T L key w v w'):=by
 refine okF (I7.tP (some S.st) tk) I6.tP func55 ?_;(delta I7.tP ai jA;dsimp only);refine⟨λe=>(by cases e),λ_=>⟨_,rfl,_,h.v.cell,(yx h.t h.ok b c d).use ?_⟩⟩;intro v w' a;have f:=a;obtain⟨aD,h1,h2,g,i⟩:=a;obtain⟨a1,a2,_⟩:=h.to h1 h2 rfl rfl (.bg g);have fin:(λv w'=>∃aD,c0 w' (S.bV (S.T.bg aD S.T.P)) pages L aI aT/\db 30 S (S.bV (S.T.bg aD S.T.P)) w w'/\yw S.T L key w v w') v w':=⟨aD,a1,a2,f⟩;rcases i with ⟨rfl,_⟩|⟨t,x,rfl,_⟩|⟨rfl,_⟩
 .exact⟨⟨none,0,0⟩,_,_,rfl,fin⟩
 .exact⟨t,_,_,rfl,fin⟩
 .exact⟨⟨none,0,0⟩,_,_,rfl,fin⟩
end
theorem yT(k v:Key):∀L:O aH,(eN L k v).length=(ei L k).length+1
 | []=>rfl
 |p::L=>by
  have b:=yT k v L
  unfold eN ei at b⊢
  simp only[ct,e1,oY]at b⊢
  by_cases h1:bD p.1 k
  .have h2:¬bD k p.1:=jY h1
   have a:p.1≠k:=λe=>by rw[e]at h1;exact jY h1 h1
   rw[if_pos (dm h1),if_neg (by simpa using h2),if_pos (dm a)]
   simp only[e1];omega
  .by_cases h2:bD k p.1
   .have a:p.1≠k:=λe=>h1 (by rw[e]at h2;exact absurd h2 (λh=>jY h h))
    rw[if_neg (by simpa using h1),if_pos (dm h2),if_pos (dm a)]
    simp only[e1];omega
   .have a:p.1=k:=by
     rcases vd p.1 k with h|h|h
     .exact absurd h h1
     .exact h
     .exact absurd h h2
    rw[if_neg (by simpa using h1),if_neg (by simpa using h2),if_neg (by simpa using a)];omega
theorem r4{k:Key}:∀ {L:O aH},gI L->L.length=(ei L k).length+(if ec L k=none then 0 else 1)
 | [],_=>rfl
 |p::L,h=>by
  have h0:=jt.1 h
  have d:=r4 (k:=k) h0.2
  by_cases e:p.1=k
  .have h1:∀q∈L,q.1≠k:=λq b c=>by
    have:=h0.1 q b
    rw[e,c]at this
    exact jY this this
   have h2:ei (p::L) k=L:=by
    have:ei (p::L) k=ei L k:=by unfold ei;rw[oY];simp[e]
    rw[this,ob h1]
   have a:ec (p::L) k≠none:=by unfold ec;simp[e]
   rw[h2,if_neg a];rfl
  .have h2:(ei (p::L) k).length=(ei L k).length+1:=by unfold ei;rw[oY];simp[e]
   have a:ec (p::L) k=ec L k:=by unfold ec;simp[e]
   rw[h2,a,e1];omega
section
variable {w w' w1:J}{T an:aL}{S aA cq:ck}{pages aI:O Nat}{L aT:O aH}{k:Nat}
structure jM(S cq:ck):Prop where
 u:cq.u=S.u
 gen:cq.gen=S.gen
 now:cq.now=S.now
 first:cq.first=S.first
 pending:cq.pending=S.pending
 l:cq.l=S.l
 g:cq.T.g=S.T.g
 V:cq.V=S.V
theorem jb.back{c:Prop}{v:aa}(h:jb c cq aA pages L aI aT v w')(e:jM S cq)(d:db k S cq w w1):jb c S aA pages L aI aT v w':=by
 unfold jb at h⊢;rw[e.u,e.gen,e.now,e.g,e.V]at h;exact h.imp id λ⟨a,b,c⟩=>⟨a,λf=>b (d.q f),c⟩
theorem mw.back{v:aa}(h:mw cq aA pages L aI aT v w')(e:jM S cq)(a:db k S cq w w1):mw S aA pages L aI aT v w':=by
 unfold mw at h⊢;have:=λh=>jb.back (pages:=pages) (L:=L) (aI:=aI) (aT:=aT) (c:=S.l.batch<=S.pending+1) (v:=v) (aA:=aA) (w':=w') h e a;rw[e.pending,e.l,e.gen,e.u,e.now,e.first,e.g,e.V]at h;exact h.imp id this
theorem r5(b:gb w1 cq aI aT)(d:db k S cq w w1)(e:jM S cq)(h:¬S.T.C.D.quiet)(i:cq.T.C.D.eo=λ_=> [])(l:cq.T.C.D.aO<=900000000):
 aN aj 81 #[.pointer (some S.st),(3:Int)] w1 (λv w'=>v=.int .i64 3/\∃aA,db k S aA w w'/\aA.now=S.now/\∀c pages L,jb c S aA pages L aI aT v w'):=by
 have hf:=CP b 3 l;rw[d.st]at hf;refine hf.mono ?_;rintro v w' ⟨rfl,aA,hs,hd,a⟩;refine⟨rfl,aA,d.trans hd,a.now.trans e.now,λc pages L=>.inr ⟨rfl,h,hs,a.failed,a.u.trans e.u,a.gen.trans e.gen,λj f=>?_,.inl λj f=>?_⟩⟩
 .rw[←e.V];unfold ck.V;rw[a.V]
 .rw[a.sa j,b.t.ca.inv.k3 j (b.bI j (by rw[e.g];exact f)),i]
theorem c0.CV{bX:aL}{dT:O aH}{d:Int}(h:c0 w S pages L aI aT)(hf:S.failed=false)(m:bJ w' bX)(b:bL S.T bX w w' k)(o:bX.E=S.T.E)(q:bX.G=S.T.G)(r:Ce S.T bX pages dT)(W:2*S.T.aE+5<=cc S.T)(s:∀p∈dT,cz p.1/\p.2.length<=24)(hd:(S.keys:Int)+d=dT.length)(t:dT.length<4096)(X:S.keys<4096)(y:S.pending<1000)(Y:S.T.C.D.aO+k<=800000000)(z:S.gen<=1000000000):
 aN aj 84 #[.pointer (some S.st),d] w' (λv i=>(∃n:Int,v=n)/\∃aA en,db (k+100) S aA w i/\aA.now=S.now/\mw S aA en dT aI aT v i):=by
 obtain⟨⟨en,Z,A,c1,B,F⟩,H⟩:=r;obtain⟨I,l,J⟩:=h.togb.to m b o q λno K=>(H no K).1;have M:jM S (S.bV bX):=⟨rfl,rfl,rfl,rfl,rfl,rfl,b.g,J⟩;obtain⟨N,P,_⟩:=h.live hf;have Q:∀j,j<2\/j=S.u.map->j∉pages:=λj c R=>by
  have:=h.two j R;rcases c with c|c
  .omega
  .exact this.2 c
 refine(Ib (d:=d) I hf A c1 (λno=>(F no).trans ?_) (λx hx=>?_) s ⟨λe=>N (b.ro.1 e),b.bI.2.trans P,by show 1<=cc bX;omega⟩ hd y t (by show S.keys<_;omega) (by have:=b.aO;show bX.C.D.aO<=_;omega) z).mono ?_
 .rw[h.f no]
  constructor
  .rintro(h1|⟨h1|h1,h2⟩)
   .exact .inl h1
   .exact absurd h1 h2
   .exact .inr h1
  .rintro(h1|h1)
   .exact .inl h1
   .exact .inr ⟨.inr h1,Q no h1⟩
 .rcases B x hx with h1|h1
  .exact h.two x h1
  .have h2:S.T.f x=false:=by cases aa:S.T.f x<;>simp_all
   refine⟨Nat.le_of_not_lt λU=>?_,λV=>?_⟩
   .rw[(h.f x).2 (.inr (.inl U))]at h2;cases h2
   .rw[(h.f x).2 (.inr (.inr V))]at h2;cases h2
 .rintro v i ⟨aA,r1,bY,af⟩
  refine⟨?_,aA,en,l.trans r1,bY,af.back M l⟩;rcases af with ⟨a,_⟩|a
  .exact⟨0,a⟩
  .exact a.val
theorem px(w:J)(s:Y):aN aj 79 #[s] w (λv w'=>v=.bool (decide (1<=s.len/\s.len<=24))/\w=w'):=by
 refine okF (I7.px s) I6.px func79 ?_;refine⟨?_,rfl⟩
 congr 1
 rw[fU,dX,cQ,cQ,cQ];omega
theorem CW{tk de:Y}{key val:Key}(h:c0 w S pages L aI aT)(a3:L.length<4000)(F:S.pending<1000)(a4:S.T.C.D.aO<=700000000)(al:S.gen<=1000000000)
 (G:Src 1 w tk (aG key)) (z:∀q,az tk q->q<w.heap.size/\¬S.T.M q) (U:Src 1 w de (aG val)) (V:∀q,az de q->q<w.heap.size/\¬S.T.M q):
 aN aj 23 #[.pointer (some S.st),tk,de] w (λv w'=>(v=.int .i64 1/\¬(cz key/\val.length<=24)/\w=w')\/((cz key/\val.length<=24)/\
  ((S.failed=true/\v=.int .i64 8/\w=w')\/(S.failed=false/\∃aA,db 300 S aA w w'/\aA.now=S.now/\
    ((v=.int .i64 2/\gB S=0/\c0 w' S pages L aI aT/\aA=S)\/(gB S≠0/\∃en,mw S aA en (eN L key val) aI aT v w')))))):=by
 have am:tk.len=key.length:=by have:=G.len;rw[ej]at this;omega
 have a5:de.len=val.length:=by have:=U.len;rw[ej]at this;omega
 have a6:=h.t.s.bq;refine okF (I7.tI (some S.st) tk de) I6.tI func23 ?_;(delta I7.tI ai aF a7 ay jA;dsimp only);refine cj (λb w'=>(b=false↔cz key)/\w=w') (λq a=>⟨λA=>(by cases A),λ_=>(px w tk).use ?_⟩) ?_
 .rintro _ _ ⟨rfl,rfl⟩
  refine⟨_,rfl,a _ _ ⟨?_,rfl⟩⟩;unfold cz;rw[am,sr,cQ]
 rintro b _ ⟨A,rfl⟩;refine⟨λh1=>.inl ⟨rfl,λhg=>?_,rfl⟩,λh1=>?_⟩
 .rcases Bool.or_eq_true_iff.1 h1 with h2|h2
  .rw[A.2 hg.1]at h2;cases h2
  .have:=b1 h2;have:=hg.2;omega
 have hg:cz key/\val.length<=24:=by
  have h2:=oO.1 h1;have W:=cp h2.2;exact⟨A.1 h2.1,I⟩
 refine⟨_,rfl,S.failed,by rw[av];exact h.v.cell,λhf=>.inr ⟨hg,.inl ⟨hf,rfl,rfl⟩⟩,λhf=>(yS h).use ?_⟩;rintro _ a8 ⟨rfl,l⟩;have r:=h.ext l;obtain⟨an,ao,_⟩:=h.live hf;refine⟨_,rfl,λH=>.inr ⟨hg,.inr ⟨hf,S,(db.ext S l).mono I,rfl,.inl ⟨rfl,?_,r,rfl⟩⟩⟩,λH=>?_⟩
 .have:((gB S:Nat):Int)=0:=by simpa using H
  omega
 have B:gB S≠0:=by
  have:¬((gB S:Nat):Int)=0:=by simpa using H
  omega
 refine⟨_,rfl,_,r.v.cell,(yx r.t r.ok I (G.ext l) λq a=>⟨by have:=(z q a).1;have:=l.size;omega,(z q a).2⟩).use ?_⟩;rintro v J ⟨i,X,m,ap,E⟩;obtain⟨o,Z,aa⟩:=r.to X m rfl rfl (.bg ap);have u:db 30 S (S.bV (S.T.bg i S.T.P)) w J:=((db.ext S l).trans Z).mono I;have K:jM S (S.bV (S.T.bg i S.T.P)):=⟨rfl,rfl,rfl,rfl,rfl,rfl,rfl,aa⟩;have N:(S.bV (S.T.bg i S.T.P)).T.C.D.eo=λ_=> []:=m.bI.2.trans ao;have a9:i.D.aO<=S.T.C.D.aO+30:=m.aO;have aq:∀n:Int,v=.tuple #[(),false,(3:Int)]->¬S.T.C.D.quiet->aN aj 81 #[.pointer (some S.st),(3:Int)] J (λv w'=>v=.int .i64 3/\∃aA,db 30 S aA w w'/\aA.now=S.now/\∀c pages L,jb c S aA pages L aI aT v w'):=λ_ _ a=>r5 o.togb u K a N (by show i.D.aO<=_;omega);have ar:∃ (t:Y) (e:ah) (n:Int),v=.tuple #[t,e,n]/\((n=0/\(e=true↔ec L key≠none))\/(n=3/\¬S.T.C.D.quiet)):=by
  rcases E with ⟨rfl,j⟩|⟨t,x,rfl,_,hs,_⟩|⟨rfl,_,O⟩
  .exact⟨⟨none,0,0⟩,false,0,rfl,.inl ⟨rfl,λh=>(by cases h),λh=>absurd (j hg.1) h⟩⟩
  .exact⟨t,true,0,rfl,.inl ⟨rfl,λ_=>by rw[hs];simp,λ_=>rfl⟩⟩
  .exact⟨⟨none,0,0⟩,false,3,rfl,.inr ⟨rfl,λa=>O (a.1 30)⟩⟩
 clear aq E;obtain⟨t,e,n,rfl,au⟩:=ar;rcases au with ⟨rfl,he⟩|⟨rfl,Q⟩
 rotate_left
 .refine⟨t,e,3,rfl,λ_=>(r5 o.togb u K Q N (by show i.D.aO<=_;omega)).use ?_,λh=>(by cases h)⟩
  rintro _ aw ⟨rfl,aA,r1,bY,af⟩;exact⟨3,rfl,.inr ⟨hg,.inr ⟨hf,aA,r1.mono I,bY,.inr ⟨B,[],.inr (af _ _ _)⟩⟩⟩⟩
 have a_:=l.size;have ba:=m.ae.size;have ab:∀s:Y,(∀q,az s q->q<w.heap.size/\¬S.T.M q)->∀q,az s q->q<J.heap.size/\¬(S.T.bg i S.T.P).M q:=λs hs q a=>⟨by have:=(hs q a).1;omega,λax=>by
  rcases m.cZ q ax with h2|h2
  .exact(hs q a).2 h2
  .have:=(hs q a).1;omega⟩
 have aB:=(G.ext l).ae m.ae λq a j=>(z q a).2 (aL.gh j);have aC:=(U.ext l).ae m.ae λq a j=>(V q a).2 (aL.gh j);have aD:¬(S.T.bg i S.T.P).C.D.ro:=λe=>an (m.ro.1 e);refine⟨t,e,0,rfl,λh=>(by cases h),λ_=>⟨_,rfl,_,o.v.cell,?_⟩⟩;refine(G6 X aD o.ok I o.bk (λx hx=>(o.f x).2 (.inl hx)) (by show i.D.aO<=_;omega) aB (ab tk z) aC (ab de V)).use ?_;rintro v aH (⟨_,aJ,_⟩|⟨_,_,bX,ac,y,ad,ag,E⟩)
 .exact absurd hg aJ
 have aK:cc (S.T.bg i S.T.P)=cc S.T:=rfl;have aM:(S.T.bg i S.T.P).aE=S.T.aE:=rfl;have aP:2*S.T.aE+5<=cc S.T:=by unfold gB at B;omega
 rcases E with ⟨_,aQ,_⟩|⟨rfl,_,⟨en,aR,aS,c1,aU,aV⟩,R⟩|⟨rfl,O,bb,bc,bd,R⟩
 .rw[aK,aM]at aQ;omega
 .have hlen:(S.keys:Int)+(if e=true then 0 else 1)=(eN L key val).length:=by
   have h1:=yT key val L;have h2:=r4 (k:=key) h.ok.rising;have W:=h.keys;by_cases j:ec L key=none
   .have:¬e=true:=λh=>he.1 h j
    rw[if_pos j]at h2;rw[if_neg this];omega
   .rw[if_neg j]at h2
    rw[if_pos (he.2 j)];omega
  have W:=h.keys;have aW:(eN L key val).length<4096:=by split at hlen<;>omega
  have ak:=λd hd=>o.CV (d:=d) hf ac y ad ag ⟨⟨en,aR,aS,c1,aU,aV⟩,R⟩ aP (λp F=>by
   rcases AB.1 F with rfl|⟨h1,_⟩
   .exact hg
   .exact h.fS p h1) hd aW (by show S.keys<_;omega) F (by show i.D.aO+100<=_;omega) al
  refine⟨0,rfl,λh=>(by cases h),λ_=>⟨λht=>(ak 0 (by rw[←hlen,if_pos ht];rfl)).use ?_,λht=>(ak 1 (by rw[←hlen,if_neg (by rw[ht];decide)];rfl)).use ?_⟩⟩
  all_goals
   rintro v w' ⟨⟨n,rfl⟩,aA,en,r1,bY,af⟩;exact⟨n,rfl,.inr ⟨hg,.inr ⟨hf,aA,(u.trans r1).mono I,bY,.inr ⟨B,en,af.back K u⟩⟩⟩⟩
 .obtain⟨aX,aY,aZ⟩:=o.togb.to ac y ad ag λno a0=>(R no (by show(S.T.f no||S.T.g no)=true;rw[show S.T.g no=true from a0,Bool.or_true])).1
  have a1:db 130 S (S.bV bX) w aH:=(u.trans aY).mono I;have a2:jM S (S.bV bX):=⟨rfl,rfl,rfl,rfl,rfl,rfl,y.g,aZ.trans aa⟩;have Q:¬S.T.C.D.quiet:=λa=>O ((Z.q a).1 100);refine⟨3,rfl,λ_=>(r5 aX a1 a2 Q (y.bI.2.trans N) (by have:=y.aO;show bX.C.D.aO<=_;have e:(S.T.bg i S.T.P).C.D.aO=i.D.aO:=rfl;omega)).use ?_,λh=>(by cases h)⟩;rintro _ aw ⟨rfl,aA,r1,bY,af⟩;exact⟨3,rfl,.inr ⟨hg,.inr ⟨hf,aA,r1.mono I,bY,.inr ⟨B,[],.inr (af _ _ _)⟩⟩⟩⟩
end
section
variable {w w' w1:J}{T an:aL}{S aA cq:ck}{pages aI:O Nat}{L aT:O aH}{k:Nat}
theorem Ie{tk:Y}{key:Key}(h:c0 w S pages L aI aT)(aU:L.length<4000)(H:S.pending<1000)(aV:S.T.C.D.aO<=700000000)(ac:S.gen<=1000000000)
 (J:Src 1 w tk (aG key)) (o:∀q,az tk q->q<w.heap.size/\¬S.T.M q):
 aN aj 22 #[.pointer (some S.st),tk] w (λv w'=>(v=.tuple #[false,(1:Int)]/\¬cz key/\w=w')\/(cz key/\
  ((S.failed=true/\v=.tuple #[false,(8:Int)]/\w=w')\/(S.failed=false/\∃aA,db 300 S aA w w'/\aA.now=S.now/\
    ((v=.tuple #[false,(0:Int)]/\ec L key=none/\c0 w' aA pages L aI aT/\jM S aA/\aA.failed=false)\/
     (v=.tuple #[false,(2:Int)]/\ec L key≠none/\gB S=0/\c0 w' aA pages L aI aT/\jM S aA/\aA.failed=false)\/
     (∃n:Int,v=.tuple #[.bool (n==0),n]/\ec L key≠none/\gB S≠0/\∃en,mw S aA en (ei L key) aI aT n w')\/
     (v=.tuple #[false,(3:Int)]/\∀c pages L,jb c S aA pages L aI aT (3:Int) w')))))):=by
 have ad:tk.len=key.length:=by have:=J.len;rw[ej]at this;omega
 have aW:=h.t.s.bq;refine okF (I7.tH (some S.st) tk) I6.tH func22 ?_;(delta I7.tH ai aF a7 jA ay kS;dsimp only);refine cj (λb w'=>(b=false↔cz key)/\w=w') (λq i=>⟨λu=>(by cases u),λ_=>(px w tk).use ?_⟩) ?_
 .rintro _ _ ⟨rfl,rfl⟩
  refine⟨_,rfl,i _ _ ⟨?_,rfl⟩⟩;unfold cz;rw[ad,sr,cQ]
 rintro b _ ⟨u,rfl⟩;refine⟨λh1=>.inl ⟨rfl,λhg=>?_,rfl⟩,λh1=>?_⟩
 .rw[u.2 hg]at h1;cases h1
 have hg:cz key:=u.1 h1;refine⟨_,rfl,S.failed,by rw[av];exact h.v.cell,λhf=>.inr ⟨hg,.inl ⟨hf,rfl,rfl⟩⟩,λhf=>?_⟩;obtain⟨ag,ak,_⟩:=h.live hf;refine⟨_,rfl,_,h.v.cell,(yx h.t h.ok I J o).use ?_⟩;rintro v aX ⟨a,al,m,am,y⟩;obtain⟨z,A,V⟩:=h.to al m rfl rfl (.bg am);have B:jM S (S.bV (S.T.bg a S.T.P)):=⟨rfl,rfl,rfl,rfl,rfl,rfl,rfl,V⟩;have W:(S.bV (S.T.bg a S.T.P)).T.C.D.eo=λ_=> []:=m.bI.2.trans ak;have aY:a.D.aO<=S.T.C.D.aO+30:=m.aO;have an:∃ (t:Y) (e:ah) (n:Int),v=.tuple #[t,e,n]/\((n=0/\(e=true↔ec L key≠none))\/(n=3/\¬S.T.C.D.quiet)):=by
  rcases y with ⟨rfl,j⟩|⟨t,x,rfl,_,hs,_⟩|⟨rfl,_,K⟩
  .exact⟨⟨none,0,0⟩,false,0,rfl,.inl ⟨rfl,λh=>(by cases h),λh=>absurd (j hg) h⟩⟩
  .exact⟨t,true,0,rfl,.inl ⟨rfl,λ_=>by rw[hs];simp,λ_=>rfl⟩⟩
  .exact⟨⟨none,0,0⟩,false,3,rfl,.inr ⟨rfl,λi=>K (i.1 30)⟩⟩
 clear y;obtain⟨t,e,n,rfl,ao⟩:=an;rcases ao with ⟨rfl,he⟩|⟨rfl,N⟩
 rotate_left
 .refine⟨t,e,3,rfl,λ_=>(r5 z.togb A B N W (by show a.D.aO<=_;omega)).use ?_,λh=>(by cases h)⟩
  rintro _ E ⟨rfl,aA,r1,bY,af⟩;exact⟨3,rfl,.inr ⟨hg,.inr ⟨hf,aA,r1.mono I,bY,.inr (.inr (.inr ⟨rfl,af⟩))⟩⟩⟩
 refine⟨t,e,0,rfl,λh=>(by cases h),λ_=>⟨λO=>?_,λO=>(yS z).use ?_⟩⟩
 .have j:ec L key=none:=by
   cases ap:ec L key with
   |none=>rfl
   |some x=>
    have:e=true:=he.2 (by rw[ap];simp);rw[this]at O;cases O
  exact .inr ⟨hg,.inr ⟨hf,_,A.mono I,rfl,.inl ⟨rfl,j,z,B,hf⟩⟩⟩
 have j:ec L key≠none:=he.1 (by cases e<;>simp_all);rintro _ E ⟨rfl,F⟩;have l:=z.ext F;have G:db 30 S (S.bV (S.T.bg a S.T.P)) w E:=(A.trans (db.ext _ F)).mono I;have aq:gB (S.bV (S.T.bg a S.T.P))=gB S:=rfl;rw[aq];refine⟨_,rfl,λQ=>.inr ⟨hg,.inr ⟨hf,_,G.mono I,rfl,.inr (.inl ⟨rfl,j,?_,l,B,hf⟩)⟩⟩,λQ=>?_⟩
 .have:((gB S:Nat):Int)=0:=by simpa using Q
  omega
 have X:gB S≠0:=by
  have:¬((gB S:Nat):Int)=0:=by simpa using Q
  omega
 have aZ:=m.ae.size;have a0:=F.size;have ar:∀q,az tk q->q<E.heap.size/\¬(S.T.bg a S.T.P).M q:=λq i=>⟨by have:=(o q i).1;omega,λau=>by
  rcases m.cZ q au with h2|h2
  .exact(o q i).2 h2
  .have:=(o q i).1;omega⟩
 have aw:=(J.ae m.ae λq i j=>(o q i).2 (aL.gh j)).ext F;have ax:¬(S.T.bg a S.T.P).C.D.ro:=λe=>ag (m.ro.1 e);refine⟨_,rfl,_,l.v.cell,?_⟩;refine(G9 l.t ax l.ok I l.bk (λx hx=>(l.f x).2 (.inl hx)) (by show a.D.aO<=_;omega) aw ar).use ?_;rintro v aB ⟨bX,Z,r,aa,ab,y⟩;have aC:cc (S.T.bg a S.T.P)=cc S.T:=rfl;have aD:(S.T.bg a S.T.P).aE=S.T.aE:=rfl;have aH:2*S.T.aE+5<=cc S.T:=by unfold gB at X;omega
 rcases y with ⟨_,R,_⟩|⟨_,_,R,_⟩|⟨_,_,_,U,_⟩|⟨rfl,_,_,_,aJ⟩|⟨rfl,_,K,aK⟩
 .exact absurd hg R
 .exact absurd R j
 .have U:cc (S.T.bg a S.T.P)<2*(S.T.bg a S.T.P).aE+3:=U
  rw[aC,aD]at U;omega
 .have h2:=r4 (k:=key) h.ok.rising
  rw[if_neg j]at h2;have a1:=h.keys;refine⟨true,0,rfl,λh=>(by cases h),λ_=>(l.CV (d:= -1) hf Z r aa ab aJ aH (λp H=>h.fS p (hC.1 H).1) (by show(S.keys:Int)+ -1=_;omega) I (by show S.keys<_;omega) H (by show a.D.aO+100<=_;omega) ac).use ?_⟩;rintro v w' ⟨⟨n,rfl⟩,aA,en,r1,bY,af⟩;exact⟨n,rfl,.inr ⟨hg,.inr ⟨hf,aA,(G.trans r1).mono I,bY,.inr (.inr (.inl ⟨n,rfl,j,X,en,af.back B G⟩))⟩⟩⟩
 .obtain⟨aM,aP,aQ⟩:=l.to Z r aa ab aK
  have aR:db 130 S (S.bV bX) w aB:=(G.trans aP).mono I;have aS:jM S (S.bV bX):=⟨rfl,rfl,rfl,rfl,rfl,rfl,r.g,aQ.trans V⟩;have N:¬S.T.C.D.quiet:=λi=>K ((A.q i).1 100);refine⟨false,3,rfl,λ_=>(r5 aM.togb aR aS N (r.bI.2.trans W) (by have a2:bX.C.D.aO<=a.D.aO+100:=r.aO;show bX.C.D.aO<=_;omega)).use ?_,λh=>(by cases h)⟩;rintro _ E ⟨rfl,aA,r1,bY,af⟩;exact⟨3,rfl,.inr ⟨hg,.inr ⟨hf,aA,r1.mono I,bY,.inr (.inr (.inr ⟨rfl,af⟩))⟩⟩⟩
theorem CX{fE fy:Y}{fr to:Key}{most:Int}(h:c0 w S pages L aI aT)(o:L.length<=4000)(p:S.T.C.D.aO<=800000000)(r:pages.length<=4000)
 (hf:Src 1 w fE (aG fr)) (b:∀q,az fE q->q<w.heap.size/\¬S.T.M q) (ht:Src 1 w fy (aG to)) (c:∀q,az fy q->q<w.heap.size/\¬S.T.M q) (d:to.length<=1000000):
 aN aj 42 #[.pointer (some S.st),fE,fy,most] w (λv w'=>∃an,c0 w' (S.bV an) pages L aI aT/\db (2*pages.length) S (S.bV an) w w'/\jM S (S.bV an)/\
  ((∃s:Y,v=.tuple #[s,(0:Int)]/\fR (λq=>¬an.M q) w' s ((eO L fr to).take most.toNat))\/(v=.tuple #[(),(3:Int)]/\¬S.T.C.D.quiet))):=by
 refine okF (I7.tL (some S.st) fE fy most) I6.tL func42 ?_;(delta I7.tL ai b6;dsimp only);refine⟨λe=>(by cases e),λ_=>⟨_,rfl,_,h.v.cell,(Hj h.t h.ok I I hf b ht c d).use ?_⟩⟩;rintro v w' ⟨an,i,a,j,k⟩;obtain⟨a1,a2,a3⟩:=h.to i a.to a.E j ⟨a.root,a.aE,a.f,λno _=>⟨congrFun a.P no,a.view no⟩⟩;have hs:jM S (S.bV an):=⟨rfl,rfl,rfl,rfl,rfl,rfl,a.to.g,a3⟩;rcases k with ⟨s,rfl,l⟩|⟨rfl,m⟩
 .exact⟨s,0,rfl,an,a1,a2,hs,.inl ⟨s,rfl,l⟩⟩
 .exact⟨⟨none,0,0⟩,3,rfl,an,a1,a2,hs,.inr ⟨rfl,λn=>m (n.1 _)⟩⟩
end
theorem ints_at{w:J}{s:Y}{l:O Nat}(h:Src 1 w s (dR l)){i:Nat}(hi:i<l.length):∃A:ab,s.a=some A/\((0:Int)<=(i:Int)/\(i:Int)<(s.len:Int))/\w.cell? (A.add (Int.toNat (i:Int)*1))=some (.int .i64 ((l[i]:Nat):Int)):=by
 obtain⟨A,aq,b,hc⟩:=h.at (i:=i) (v:=.int .i64 ((l[i]:Nat):Int)) (by simp[dR,hi]);exact⟨A,aq,b,hc⟩
theorem Ig{w:J}{t u:Y}{l m:O Nat}(c:Src 1 w t (dR l))(d:Src 1 w u (dR m))(K:l.length<=100000):aN aj 154 #[t,u] w (λv w'=>v=.bool (decide (l=m))/\Ext w w'):=by
 refine okF (I7.tr t u) I6.tr func154 ?_;(delta I7.tr ai aK r1 ar;dsimp only);have o:=c.len;have p:=d.len;rw[m_]at o p;refine⟨λa=>⟨?_,.refl _ _⟩,λq=>?_⟩
 .simp only[bne_iff_ne]at a
  have:l≠m:=λe=>a (by subst e;omega);rw[hD this]
 simp only[bne_eq_false_iff_eq]at q;have r:l.length=m.length:=by omega
 refine⟨λn w'=>∃i:Nat,n=i/\i<=l.length/\Ext w w'/\∀ (j:Nat) (h1:j<l.length) (h2:j<m.length),j<i->l[j]=m[j],λn _=>((l.length:Int)-n).toNat,⟨0,rfl,cE _,.refl _ _,λj _ _ h=>I⟩,?_⟩;rintro _ s ⟨i,rfl,hi,f,g⟩;refine⟨λaJ=>aS ?_,λx=>⟨?_,f⟩⟩
 .have aJ:i<l.length:=by have:=b1 aJ;omega
  have y:i<m.length:=by omega
  have b:Ext w s.drew:=ad.drew f;obtain⟨A,aq,z,C⟩:=ints_at (c.ext b) aJ;obtain⟨B,D,E,F⟩:=ints_at (d.ext b) y;have G:IntKind.wrap .i64 ((i:Int)+1)=((i+1:Nat):Int):=by rw[bu I I];rfl
  have H:((l.length:Int)-((i+1:Nat):Int)).toNat<((l.length:Int)-(i:Int)).toNat:=by omega
  rw[G];refine⟨A,aq,z,id,_,C,B,D,E,id,_,F,λa=>⟨?_,b⟩,λhe=>⟨⟨i+1,rfl,aJ,b,λj h1 h2 L=>?_⟩,H⟩⟩
  .have a:l[i]≠m[i]:=λe=>by rw[e]at a;simp at a
   have:l≠m:=λe=>a (by subst e;rfl);rw[hD this]
  .rcases dC j i with k|k
   .exact g j h1 h2 k
   .obtain rfl:j=i:=by omega
    have he:((l[j]:Nat):Int)=((m[j]:Nat):Int):=by simpa using he
    omega
 .have hi:i=l.length:=by have:=cp x;omega
  rw[dm (List.ext_getElem r λj h1 h2=>g j h1 h2 I)]
theorem CY:∀ {a b:O Nat},dR a=dR b->a=b
 | [],[],_=>rfl
 | [],_::_,h=>by cases h
 |_::_,[],h=>by cases h
 |x::a,y::b,h=>by
  have h1:=List.cons.inj h
  have h2:Value.int .i64 (x:Int)=Value.int .i64 (y:Int):=h1.1
  injection h2 with _ h2
  rw[CY (a:=a) (b:=b) h1.2,show x=y from I]
def yU(f:Nat->ah)(n:Nat):O Nat:=(List.range n).filter f
theorem yV(f:Nat->ah):∀n,ml f n=dR (yU f n)
 |0=>rfl
 |n+1=>by
  have a:=yV f n
  unfold ml dR yU at a⊢
  rw[List.range_succ,kK,fV,←a]
  show(jE f n++(if f n then [(n:Int)] else [])).map _=_
  rw[fV]
  cases hf:f n<;>simp[hf]
section
variable {w w' w1:J}{S aA cq:ck}{pages aI:O Nat}{L aT:O aH}{k:Nat}
theorem CZ{fT:Nat->ao aB}{m:Int}(Q:Var w S.st S.cells 158)(ht:bJ w S.T)(es:S.T.E S.st)(ap:ga (S.T.bg S.T.C fT) pages L)(aq:∀x∈pages,∀bk,fT x=some bk->S.T.P x=some bk\/jJ S.T x)(c1:pages.Nodup)
 (hf:∀no,S.T.f no=true↔no∈pages\/no<2\/no=S.u.map) (two:∀x∈pages,2<=x/\x≠S.u.map) (a6:2<=S.u.map/\S.u.map<S.T.n) (a7:L.length<=4000) (ar:pages.length<=4000) (a9:S.T.C.D.aO<=900000000):
 aN aj 86 #[.pointer (some ⟨S.st,0,none⟩),.int .i64 m] w (λv w'=>∃an,bJ w' an/\cX S.T an w w' (2*pages.length)/\an.G=S.T.G/\
  ((v=.int .i64 0/\m=L.length/\∀x∈pages,S.T.P x=fT x)\/(∃e:Int,v=.int .i64 e/\e≠0/\(¬S.T.C.D.calm (2*pages.length)\/(∃x∈pages,jJ S.T x)\/m≠L.length)))):=by
 refine okF (I7.ua (some ⟨S.st,0,none⟩) m) I6.ua func86 ?_;(delta I7.ua pk ai r1 U aR aZ aF;dsimp only);have R:∀x∈pages,S.T.f x=true/\x<S.T.n:=λx hx=>⟨(hf x).2 (.inl hx),Nat.lt_of_not_le λe=>by
  have:=ht.s.pf x e;rw[(hf x).2 (.inl hx)]at this;cases this⟩
 refine⟨_,rfl,_,Q.cell,(Hw ht ap R aq c1 I I I).use ?_⟩;rintro v j ⟨an,X,g,p,ax⟩;have ay:∃ (s:Y) (es:O Nat) (n e:Int),v=.tuple #[.slice s.a s.len s.cap,.int .i64 n,.int .i64 e]/\a8 1 3 j s (dR es)/\es.length<=4000/\(∀q,az s q->S.T.N q\/w.heap.size<=q)/\bJ j (an.b_ S.T.E λq=>S.T.G q\/az s q)/\
  ((n=L.length/\e=0/\es.Perm pages/\∀x∈pages,S.T.P x=fT x)\/(e≠0/\(¬S.T.C.D.calm (2*pages.length)\/∃x∈pages,jJ S.T x))):=by
  rcases ax with ⟨s,es,rfl,t,z,_,aA,aC,aD⟩|⟨e,rfl,aE,aG⟩
  .exact⟨s,es,_,0,rfl,t,by rw[z.length_eq];exact ar,λq c=>(aA q c).1,aD,.inl ⟨rfl,rfl,z,aC⟩⟩
  .refine⟨bc,[],0,e,rfl,a8.none _ _ _,by simp,λq c=>(gf q c).elim,X.grow (W:=λ_=>False) (ad.refl _ _) (λ_ h=>h.elim) (λq c=>.inl (by rw[g.E];exact c)) (λq c=>.inr (.inl (by rw[p];exact c.resolve_right λh=>gf q h))) (λq c hg=>(ht.c2 q c).2.2 (hg.resolve_right λh=>gf q h)),.inr ⟨aE,aG.imp And.right id⟩⟩
 obtain⟨s,es,n,e,rfl,t,a_,aH,Z,A⟩:=ay;refine⟨s,n,e,rfl,λd=>?_,λd=>?_⟩
 .have d:e=3:=by simpa using d
  refine⟨an,X,g,p,.inr ⟨e,rfl,I,?_⟩⟩;rcases A with ⟨_,B,_⟩|⟨_,B⟩
  .omega
  .exact B.imp id .inl
 have aa:=Q.ae g.to.ae (ht.jC (by assumption));refine⟨_,rfl,_,by rw[av,av];exact aa.cell,aS ?_⟩;have H:Ext j (j.alloc (.cells #[.int .i64 0,.int .i64 1,.int .i64 ((S.u.map:Nat):Int)] 3)):=eA _ _;have ba:s.len=es.length:=by have:=t.1;rw[m_]at this;omega
 obtain⟨ab,ac,au,aw,bb,aI,aJ⟩:=p1.append (cG:=58) (x:=⟨some ⟨j.heap.size,0,none⟩,3,3⟩) (Src.new (T:=3) j [.int .i64 0,.int .i64 1,.int .i64 ((S.u.map:Nat):Int)] 3 rfl) (t.ext H) (xK [0,1,S.u.map]) (by show(2*(s.len+3)+1000)*8<=_;omega);have aK:a8 1 3 ac ab (dR (es++ [0,1,S.u.map])):=by
  have e:dR (es++ [0,1,S.u.map])=dR es++ [.int .i64 0,.int .i64 1,.int .i64 ((S.u.map:Nat):Int)]:=by unfold dR;rw[fV];rfl
  rw[e];exact aw
 refine⟨ab,ac,au,(Cr aK (by simp;omega)).use ?_⟩;rintro _ F ⟨rfl,aL,r,aM,af,aP⟩;have J:ad (az s) j F:=cr (cr (ad.refl _ _) (H.mono λ_ _ h=>h.elim) (V:=az s) (λq _ h=>h)|>.trans aI) aL λq aQ c=>(aJ q c).resolve_right (by have:=H.size;omega);have bd:=g.to.ae.size;have fu:an.b_ S.T.E S.T.G=an:=by rw[←g.E,←p];rfl
 have K:bJ F an:=by
  have:=Z.grow (E:=S.T.E) (G:=S.T.G) J (λq c _=>.inr (.inr c)) (λq c=>.inl c) (λq c=>.inr (.inl (.inl c))) λq c=>(ht.c2 q c).2.2;rw[←fu];exact this
 have aT:cX S.T an w F (2*pages.length):={g with to:=g.to.step (E:=an.E) (G:=an.G) J (λq c aQ=>(aH q c).resolve_right I) (λq c=>.inl c) λq c=>.inl c};have aU:¬az s S.st:=λc=>(Z.c2 S.st (by assumption)).2.2 (.inr c);have aV:=aa.ae J aU;refine⟨rfl,cj (λb w'=>((b=true->e≠0\/n≠m)/\(b=false->e=0/\n=m))/\Ext F w') (λq c=>⟨λk=>c _ _ ⟨⟨λ_=>?_,λh=>(by cases h)⟩,.refl _ _⟩,λk=>?_⟩) ?_⟩
 .rcases Bool.or_eq_true_iff.1 k with h1|h1
  .exact .inl (by simpa using h1)
  .exact .inr (by simpa using h1)
 .obtain⟨h1,h2⟩:=oO.1 k
  have h1:e=0:=by simpa using h1
  have h2:n=m:=by simpa using h2
  have hu:=Gx K.s;rw[g.to.sb,g.to.n,g.f]at hu;refine⟨_,rfl,_,by rw[av];exact aV.cell,hu.use ?_⟩;rintro _ be ⟨aW,rfl,ag,ah,_⟩;have aX:r.length<=100000:=by rw[af.length_eq];simp;omega
  rw[yV]at ag;refine⟨aW,rfl,(Ig (aM.ext ah).src ag.src aX).use ?_⟩;rintro _ bf ⟨rfl,aY⟩;have a0:r=yU S.T.f S.T.n:=by
   rcases A with ⟨_,_,z,_⟩|⟨d,_⟩
   rotate_left
   .exact absurd h1 d
   have ak:r.Perm (pages++ [0,1,S.u.map]):=af.trans (z.append_right _);have a1:(pages++ [0,1,S.u.map]).Nodup:=by
    refine oQ.2 ⟨c1,by simp;omega,λx hx y o e=>?_⟩;have:=two x hx;subst e;simp only[cS,eS,eW]at o;rcases o with o|o|o
    .omega
    .omega
    .exact this.2 o
   have a2:r.Nodup:=ak.nodup_iff.2 a1;have a3:r.Pairwise λa b=>a<b:=(aP.and a2).imp λh=>by have:=h.1;have:=h.2;omega
   have al:=HV (f:=S.T.f) (n:=S.T.n) a3 λx=>by
    rw[ak.mem_iff,cP,hf x];simp only[cS,eS,eW];constructor
    .rintro(i|i|i|i)
     .exact⟨(R x i).2,.inl i⟩
     .exact⟨I,.inr (.inl I)⟩
     .exact⟨I,.inr (.inl I)⟩
     .exact⟨I,.inr (.inr i)⟩
    .rintro⟨_,i|i|i⟩
     .exact .inl i
     .exact .inr I
     .exact .inr I
   rw[yV]at al;exact CY al
  exact⟨_,rfl,c _ _ ⟨⟨λh=>(by rw[dm a0]at h;cases h),λ_=>⟨h1,h2⟩⟩,Ext.trans ah aY⟩⟩
 .rintro b bh ⟨⟨a4,a5⟩,M⟩
  have am:=(aT.trans (cX.ext an M)).mono (l:=2*pages.length) I;refine⟨λk=>⟨an,K.ext M,am,p,.inr ⟨4,rfl,by decide,?_⟩⟩,λk=>⟨an,K.ext M,am,p,.inl ⟨rfl,?_⟩⟩⟩
  .rcases A with ⟨h1,h2,_⟩|⟨_,h2⟩
   .rcases a4 k with d|d
    .exact absurd h2 d
    .exact .inr (.inr (by rw[←h1];exact λe=>d e.symm))
   .exact h2.imp id .inl
  .obtain⟨h1,h2⟩:=a5 k
   rcases A with ⟨d,_,_,B⟩|⟨d,_⟩
   .exact⟨by rw[←h2];exact d,B⟩
   .exact absurd h1 d
end
section
variable {w w' w1:J}{S aA cq:ck}{pages aI:O Nat}{L aT:O aH}{k:Nat}
theorem Ih(h:c0 w S pages L aI aT)(c:S.T.C.D.quiet)(d:L.length<=4000)(i:pages.length<=4000)(j:S.T.C.D.aO<=900000000):
 aN aj 25 #[.pointer (some S.st)] w (λv w'=>v=.int .i64 0/\∃an,c0 w' (S.bV an) pages L aI aT/\db (2*pages.length) S (S.bV an) w w'/\jM S (S.bV an)):=by
 refine okF (I7.tJ (some S.st)) I6.tJ func25 ?_;(delta I7.tJ ai r1 ay;dsimp only);have b:=h.fz.qm;refine⟨λk=>(by cases k),λ_=>⟨_,rfl,_,by rw[av];exact h.v.cell,(CZ (fT:=S.T.P) h.v h.t h.es h.ok (λ_ _ _ h=>.inl h) h.bk h.f h.two ⟨b.2.2.2.2.1,b.2.2.2.1⟩ d i j).use ?_⟩⟩;rintro v w' ⟨an,l,a,m,n⟩;obtain⟨a1,a2,a3⟩:=h.to l a.to a.E m ⟨a.root,a.aE,a.f,λno _=>⟨congrFun a.P no,a.view no⟩⟩;rcases n with ⟨rfl,_⟩|⟨e,_,_,h1|⟨x,hx,h1⟩|h1⟩
 .exact⟨0,rfl,rfl,an,a1,a2,rfl,rfl,rfl,rfl,rfl,rfl,a.to.g,a3⟩
 .exact absurd (c.1 _) h1
 .exact absurd h1 (h.t.HU h.ok hx)
 .exact absurd (by rw[h.keys]) h1
end
variable {w w':J}
theorem Ext.Ii(h:Go.RowKit.Below w.heap.size w w'):Ext w w':=⟨h.os,h.tape,h.output,h.size,λk a _=>h.block k a⟩
theorem a8.Ij{sz:Nat}{T:TypeId}{base:Nat}{v:aa}{n:Nat}{xs:O aa}(h:w.ownsRow base T sz v n xs):∃s:Y,v=s/\a8 sz T w s xs/\s.len=n/\∀q,az s q->base<=q:=by
 obtain⟨h1,⟨rfl,rfl⟩|⟨g,cap,f,rfl,b,hg,h2,c,d,e⟩⟩:=h
 .have:xs=[]:=kH.1 I
  subst this;exact⟨⟨none,0,0⟩,rfl,a8.none _ _ _,rfl,λq a=>(gf q a).elim⟩
 .refine⟨⟨some g,n,cap⟩,rfl,a8.mk' hg h1 h2 c d e,rfl,λq a=>?_⟩
  rw[←kl.1 a];exact b
def r6:aa->ao (DataW Unit×O MemPlace):=λ_=>some (.lit (.bool true),[])
theorem Ik{q:Nat}{M:O (Int×aa)}(h:er w q encZ M)(u:M.length<=1000000)(j:∀x∈M, -9223372036854775808<=x.1/\x.1<=9223372036854775807):
 ∃D:DataW Unit,w.ownsMap aj 3 r6 q M.length D/\(intKeys D).Perm (M.map (·.1))/\Maps.size D=M.length:=by
 obtain⟨L,f,l,h1,h2,m,n⟩:=h;have c:L.length=M.length:=by rw[←h1.length_eq,dN]
 have o:∀x∈L, -9223372036854775808<=x.1/\x.1<=9223372036854775807:=λx hx=>j (lr x) (h1.mem_iff.1 (ep.2 ⟨x,hx,rfl⟩));have g:∀x∈L,Go.WideElems.rd aj 3 r6 (dL encZ x)=some (.int .i64 x.1,.lit (.bool true)):=λx hx=>by
  have r:(Lit.int .i64 x.1).wf=true:=by
   have:=o x hx;simp[Lit.wf,IntKind.min,IntKind.max,IntKind.signed,IntKind.bits];omega
  exact Go.WideElems.rd_mk (R:=r6) (yv:=(.lit (.bool true),[])) (Maps.keyOf_int_mk (k:=3) (by kernel_rfl) r) rfl
 have i:((L.map (dL encZ)).map (Go.WideElems.rg aj 3 r6))=L.map λx=>(Lit.int .i64 x.1,DataW.lit (.bool true)):=by
  rw[iu];refine List.map_congr_left λx hx=>?_;have:=Go.WideElems.rg_of (g x hx);simp only[Function.comp_apply];exact this
 have s:Go.WideElems.Fit aj 3 r6 (L.map (dL encZ)).toArray f:=by
  refine⟨by simp[c];unfold maxLen;omega,⟨λx hx=>?_,?_,?_⟩,λx hx=>?_⟩
  .obtain⟨y,d,rfl⟩:=ep.1 (by simpa using hx:x∈L.map (dL encZ))
   exact n y d
  .simp only[iu]
   exact m
  .simp only[iu]
   have:((λe:MapEntry=>e.key)∘dL encZ)=λx:Int×aa×Nat=>encZ x.1:=rfl;show(L.map ((λe:MapEntry=>e.key)∘dL encZ)).Nodup;rw[this];have e:(L.map λx:Int×aa×Nat=>encZ x.1)=(L.map (·.1)).map encZ:=by rw[iu];rfl
   rw[e];exact List.Pairwise.map encZ (λa b t he=>t (by cases he;rfl)) h2
  .obtain⟨y,d,rfl⟩:=ep.1 (by simpa using hx:x∈L.map (dL encZ))
   exact⟨_,g y d⟩
 have gd:=Go.WideShapes.sorted_perm (L.map λx=>(Lit.int .i64 x.1,(DataW.lit (.bool true):DataW Unit)));refine⟨_,⟨_,f,l,s,by simp[c],rfl⟩,?_,?_⟩
 .simp only[i]
  show(List.map (λp:Lit×DataW Unit=>Go.intOf p.1) _).Perm _;refine(gd.map _).trans ?_;rw[iu];have:=h1.map (·.1);rw[iu]at this;exact this
 .simp only[i]
  show List.length _=_;rw[gd.length_eq,dN,c]
theorem Il(m:Nat):AnyZI.SortsIn aj Cp Fence.wide m:=
 ⟨λbN off cap ss W a b c=>callsIn_wide.2 (AnyM.slices_Sort_int vU bN off cap ss W a b c),λp cap W=>callsIn_wide.2 (AnyM.slices_Sort_int_none vU p cap W)⟩
theorem Im{q:Nat}{M:O (Int×aa)}(h:er w q encZ M)(g:M.length<=1000000)(i:∀x∈M, -9223372036854775808<=x.1/\x.1<=9223372036854775807):
 aN aj 177 #[.func (.func 232) #[] #[.pointer (some w.heap.size)]] (w.alloc (.cells #[.map (some q)] 137))
  (λv w'=>∃ (s:Y) (ids:O Int),v=s/\a8 1 3 w' s (ids.map encZ)/\s.len=ids.length/\ids.Perm (M.map (·.1))/\ids.Pairwise (λa b=>decide (a<=b)=true)/\Ext w w'/\∀k,az s k->w.heap.size<=k):=by
 have d:Ext w (w.alloc (.cells #[.map (some q)] 137)):=ad.alloc (.refl _ _) _;have C:(w.alloc (.cells #[.map (some q)] 137)).heap.size=w.heap.size+1:=by simp
 obtain⟨D,j,l,f⟩:=Ik (h.ext d) g i;have m:=AnyZI.keys_gives (ρ:=Co) {Hk with} Fence.wide 2 trivial rfl I w.heap.size q M.length D (w.alloc (.cells #[.map (some q)] 137)) I (by simp) j;have n:=AnyZI.sorted_in Hl Fence.wide 5 trivial trivial trivial trivial rfl I (Il _) (enters_of func153 (by kernel_rfl) rfl) 232 #[.pointer (some w.heap.size)] trivial (enters_of func232 (by kernel_rfl) rfl) _ _ (by rw[f];unfold maxLen;omega) (by rw[f];omega) _ m;have o:=callsIn_wide.1 (n.mono (R':=λe w'=>∃v,e=.returned v/\∃ (s:Y) (ids:O Int),v=s/\a8 1 3 w' s (ids.map encZ)/\s.len=ids.length/\ids.Perm (M.map (·.1))/\ids.Pairwise (λa b=>decide (a<=b)=true)/\Ext w w'/\∀k,az s k->w.heap.size<=k) ?_)
 .exact o
 .rintro e ag ⟨v,ss,rfl,p,r,_,t⟩
  obtain⟨s,rfl,u,z,A⟩:=a8.Ij r;refine⟨_,rfl,s,ss.mergeSort (λx y=>decide (x<=y)),rfl,u,by rw[z,List.length_mergeSort],?_,?_,Ext.trans d (Ext.Ii t),λk B=>by have:=A k B;omega⟩
  .exact(List.mergeSort_perm _ _).trans (p.trans l)
  .exact List.pairwise_mergeSort (λa b c h1 h2=>by simp only[cQ]at*;omega) (λa b=>by simp only[jc,cQ];omega) ss
theorem yW:∀ (n:Nat) {l:O Nat},l.Nodup->(∀x∈l,x<n)->l.length<=n
 |0,l,_,h=>by
  cases l with
  |nil=>exact bn _
  |cons x l=>exact absurd (h x (by simp)) (Nat.not_lt_zero _)
 |n+1,l,a,h=>by
  by_cases b:n∈l
  .have h1:=yW n (l:=l.erase n) (a.erase n) λx hx=>by
    have h2:=(a.mem_erase_iff).1 hx
    have:=h x h2.2
    have:=h2.1
    omega
   rw[List.length_erase_of_mem b]at h1
   omega
  .have:=yW n a λx hx=>by
    have h1:=h x hx
    have h2:x≠n:=λe=>b (e▸hx)
    omega
   omega
section
variable {D:a_}
theorem cB.C0(h:cB w D):(D.waits.map g0.i).Nodup:=by
 have h1:=h.m.keys;rw[iu]at h1;refine(List.pairwise_map.1 h1:D.waits.Pairwise _).imp (λa e=>a ?_)|>List.pairwise_map.2;exact congrArg (λn:Nat=>(n:Int)) e
theorem cB.C1(h:cB w D):D.waits.length<=1600:=by
 have h1:=yW D.n h.C0 λx hx=>by
  obtain⟨y,a,rfl⟩:=ep.1 hx;exact(h.wn y a).2.1
 have:=h.bq;rw[dN]at h1;omega
theorem Io(h:cB w D):aN aj 112 #[.pointer (some D.d)] w
 (λv w'=>∃ (s:Y) (ids:O Int),v=s/\a8 1 3 w' s (ids.map encZ)/\ids.Perm (D.waits.map λx=>(x.i:Int))/\Ext w w'/\∀k,az s k->w.heap.size<=k):=by
 refine okF (I7.ug (some D.d)) I6.ug func112 ?_;(delta I7.ug pn aZ;dsimp only);refine⟨_,rfl,_,h.aZ,?_⟩;refine Calls.mono (I7.Ec (some D.mr) w (λv w'=>v=.func (.func 232) #[] #[.pointer (some w.heap.size)]/\w.alloc (.cells #[.map (some D.mr)] 137)=w') ⟨rfl,rfl⟩) ?_;rintro _ _ ⟨_,rfl,rfl,rfl⟩;have c1:D.waits.length<=1000000:=by have:=h.C1;omega
 refine⟨⟨232,#[],#[.pointer (some w.heap.size)]⟩,rfl,(Im h.m (by rw[dN];exact c1) (λx hx=>?_)).use ?_⟩
 .obtain⟨y,a,rfl⟩:=ep.1 hx
  have:=(h.wn y a).2.1;have:=h.bq;show _<=(y.i:Int)/\(y.i:Int)<=_;omega
 .rintro _ e ⟨s,ids,rfl,h1,_,h2,_,b,c⟩
  refine⟨s,rfl,s,ids,rfl,h1,?_,b,c⟩;rw[iu]at h2;exact h2
end
variable {w w':J}{D:a_}
theorem Ip(a b:Int)(w:J)(T:TypeId)(k:IntKind):Sem.run aj (Builtin.min_ #[T,T] T #[.int k a,.int k b]) w=.ok (.int k (min a b)) w:=by
 simp only[Builtin.min_];unfold Builtin.min2;simp;split<;>omega
theorem cB.Iq(h:cB w D){i:Nat}(hi:i<D.n){x:cT}(hx:x.length=256):bx w ⟨D.lb,i*256,none⟩ (aG x)/\cB (setCells w ⟨D.lb,i*256,none⟩ 0 (aG x)) {D with bh:=D.bh.set i x}/\ad (λq=>q=D.lb) w (setCells w ⟨D.lb,i*256,none⟩ 0 (aG x)):=by
 obtain⟨bA,bO,a⟩:=CF h.l h.sl hi hx;refine⟨bA,?_,a⟩;generalize setCells w ⟨D.lb,i*256,none⟩ 0 (aG x)=j at bO a;have b:D.d≠D.lb:=h.a1.1;refine⟨?_,bO,h.m.ae a λe=>h.a1.2.2 e.symm,λx hx=>(h.ws x hx).ae a λq f e=>(h.a2 x hx).2.1 (by rw[←e];exact f),?_,λs hs=>?_,h.ku,?_,?_,h.f4,h.fr,h.a1,h.a2,h.a3⟩
 .have h1:=h.v.ae a b
  have e:({D with bh:=D.bh.set i x}:a_).c=D.c:=by unfold a_.c;simp
  rw[e];exact h1
 .intro z g
  have:=h.wn z g;refine⟨this.1,?_,this.2.2⟩;show z.i<(D.bh.set i x).length;rw[dc];exact this.2.1
 .rcases lU hs with h1|rfl
  .exact h.sl s h1
  .exact hx
 .show 16<=(D.bh.set i x).length;rw[dc];exact h.bR
 .show(D.bh.set i x).length<=1600;rw[dc];exact h.bq
theorem Src.mu{sz:Nat}{s:Y}{vs:O aa}{W:Nat->Prop}(h:Src sz w s vs)(hc:ad W w w')(d:∀k,az s k->W k->vs=[]):Src sz w' s vs:=⟨h.len,h.nil,λa b=>by
 by_cases c:vs=[]
 .have h0:=h.len
  rw[c]at h0⊢
  rw[←h0];rfl
 .exact hc.cJ (λe=>c (d _ ⟨a,b,rfl⟩ e)) _ _ _ (h.rd a b)⟩
structure yX(D ax:a_):Prop where
 d:ax.d=D.d
 waits:ax.waits=[]
 n:ax.n=D.n
 q:ax.quiet
 aO:ax.aO=D.aO
 bh:∀j,ax.bh.getD j []=D.bh.getD j []\/ax.bh.getD j []∈D.dv j
 cZ:∀q,bT ax q->bT D q
theorem Ir(h:cB w D){y:g0}(c:y∈D.waits):D.dv y.i=y.gm:=by
 unfold a_.dv
 cases hf:D.waits.find? λx=>x.i==y.i with
 |none=>
  have:=iO.1 hf y c;simp at this
 |some z=>
  have d:=ju hf;have e:z.i=y.i:=by simpa using kc hf
  have h1:=h.C0;obtain⟨a,f,rfl⟩:=fb d;obtain⟨b,g,rfl⟩:=fb c;have h2:=(List.getElem_inj (i:=a) (j:=b) (h₀:=by simpa using f) (h₁:=by simpa using g) h1).1 (by simpa using e);subst h2;rfl
theorem C2{l:Y}{zs:O Int}(h:cB w D)(R:Src 1 w l (zs.map encZ))(ak:∀q,az l q->bT D q->zs=[])(bd:zs.length<=1000000)(be:∀z∈zs,z<=9223372036854775807)(bf:D.aO<=1000000000):
 aN aj 45 #[.pointer (some D.d),l] w (λv w'=>v=.tuple #[]/\∃ax,cB w' ax/\yX D ax/\ad (bT D) w w'):=by
 refine okF (I7.tM (some D.d) l) I6.tM func45 ?_;(delta I7.tM ai aZ aK r1 af ar aR;dsimp only);refine⟨λh1=>(by cases h1),λ_=>(Io h).use ?_⟩;rintro _ w1 ⟨s,ids,rfl,S,T,E,al⟩;have am:=h.bq;have an:=R.len;rw[dN]at an;have bg:s.len=ids.length:=by have:=S.1;rw[dN]at this;omega
 have bi:ids.length<=1600:=by rw[T.length_eq,dN];exact h.C1
 have ao:∀q,az s q->¬bT D q:=λq a hf=>by have:=al q a;have:=h.lt hf;omega
 have F:bT D D.lb:=.inr (.inl rfl);refine⟨s,rfl,λn6 f=>∃ (i:Nat) (ls:O cT),n6=(i:Nat)/\i<=ids.length/\cB f {D with bh:=ls}/\ls.length=D.n/\(∀j,ls.getD j []=D.bh.getD j []\/ls.getD j []∈D.dv j)/\ad (λq=>q=D.lb) w1 f,λn6 _=>((ids.length:Int)-n6).toNat,⟨0,D.bh,rfl,cE _,h.ext E,rfl,λj=>.inl rfl,ad.refl _ _⟩,?_⟩;rintro _ f ⟨i,ls,rfl,hi,g,r,ia,u⟩;have ap:=S.ae u λq a e=>ao q a (by rw[e];exact F);have G:=Src.mu (R.ext E) u λq a e=>by rw[ak q a (by rw[e];exact F)];rfl
 refine⟨λH=>?_,λH=>?_⟩
 .have H:(i:Int)<(s.len:Int):=b1 H
  have J:i<ids.length:=by omega
  obtain⟨y,p,U⟩:=ep.1 (T.mem_iff.1 (cA J));have ay:IntKind.wrap .i64 ((i:Int)+1)=((i+1:Nat):Int):=by rw[bu I I];omega
  have aA:((ids.length:Int)-((i+1:Nat):Int)).toNat<((ids.length:Int)-(i:Int)).toNat:=by omega
  obtain⟨A,aq,aB,K⟩:=ap.src.at (i:=i) (v:=encZ ids[i]) (by simp[J]);refine hF (λL=>∃ls:O cT,cB L {D with bh:=ls}/\ls.length=D.n/\(∀j,ls.getD j []=D.bh.getD j []\/ls.getD j []∈D.dv j)/\ad (λq=>q=D.lb) w1 L) (λbj V=>⟨A,aq,aB,ids[i],K,?_⟩) ?_
  .refine cj (λb w'=>(b=false->∃t:i<zs.length,0<zs[i])/\f=w') (λq a=>⟨λ_=>a _ _ ⟨λh=>(by cases h),rfl⟩,λW=>?_⟩) ?_
   .have W:¬(i:Int)>=(l.len:Int):=cp W
    have t:i<zs.length:=by omega
    obtain⟨B,X,Z,aa⟩:=G.at (i:=i) (v:=encZ zs[i]) (by simp[t]);exact⟨B,X,Z,zs[i],aa,a _ _ ⟨λaC=>⟨t,by have:=cp aC;omega⟩,rfl⟩⟩
   .rintro b _ ⟨aD,rfl⟩
    refine⟨λ_=>V _ ⟨ls,g,r,ia,u⟩,λaE=>?_⟩;obtain⟨t,bk⟩:=aD aE;obtain⟨B,X,Z,aa⟩:=G.at (i:=i) (v:=encZ zs[i]) (by simp[t]);have aF:=g.m.wZ ox lG (k:=(y.i:Int)) (v:=y.s) (ep.2 ⟨y,p,rfl⟩) false;have M:=g.ext (b4 f);have aH:=G.ext (b4 f);obtain⟨aI,aJ,aL,aM⟩:=aH.at (i:=i) (v:=encZ zs[i]) (by simp[t]);have bl:=(h.wn y p).2.2;have bm:0<y.gm.length:=sj.2 (h.wn y p).1;obtain⟨k,aP⟩:∃k:Nat,min zs[i] (y.gm.length:Int)=((k+1:Nat):Int):=⟨(min zs[i] (y.gm.length:Int)-1).toNat,I⟩;have C:k<y.gm.length:=by omega
    obtain⟨aQ,aT,aU,aV⟩:=xW (M.ws y p).src (λs hs=>by rw[ej];exact h.ku y p s hs) (by decide) (i:=k) C;have aW:y.i<D.n:=(h.wn y p).2.1;have aX:({D with bh:=ls}:a_).n=D.n:=r;obtain⟨bA,bO,aY⟩:=M.Iq (i:=y.i) (by rw[aX];exact aW) (h.ku y p y.gm[k] (cA C));have ab:Addr.add D.lb (Int.toNat (y.i:Int)*256)=⟨D.lb,y.i*256,none⟩:=by rw[c8,av,cx]
    refine⟨_,rfl,some D.mr,g.aZ,y.s,f,by rw[←U];exact aF,aS ⟨λ_=>False,_,rfl,id,⟨some D.lb,ls.length,ls.length⟩,M.c9,aI,aJ,aL,id,zs[i],aM,_,f.drew,Ip _ _ _ _ _,ad.refl _ _,aT,aU,?_⟩⟩;rw[aQ,aP,bu (n:=(((k+1:Nat):Nat):Int)-1) I I];have a0:Int.toNat (((k+1:Nat):Int)-1)=k:=by omega
    rw[a0,←U];refine⟨⟨I,I⟩,id,_,aV,_,rfl,⟨I,by show(y.i:Int)<(ls.length:Int);omega⟩,by rw[ab];exact bA,by simp[ej,h.ku y p y.gm[k] (cA C)],?_⟩;rw[ab];refine aS (V _ ⟨ls.set y.i y.gm[k],bO,by rw[dc];exact r,λj=>?_,u.trans ((b4 f).mono (λ_ _ h=>h.elim)|>.trans aY)⟩);by_cases ac:y.i=j
    .subst ac
     right;rw[ff (by rw[dc];omega),h5,Ir h p];exact cA C
    .rw[ft,List.getElem?_set_ne ac,←ft]
     exact ia j
  .rintro L ⟨a2,au,aw,a3,a4⟩
   rw[ay];exact⟨⟨i+1,a2,rfl,J,au,aw,a3,a4⟩,aA⟩
 .obtain⟨ag,K,a5,N,bn⟩:=er.clear (P:=aj) (o:=0) g.m lG
  have a6:D.d≠D.mr:=h.a1.2.1;have a7:=g.v.ae N a6;refine⟨_,rfl,some D.mr,g.aZ,_,ag,K,_,rfl,(Bp a7 (by rw[show(a_.c {D with bh:=ls}).length=7 from g.vE];decide)).use ?_⟩;rintro _ ah ⟨rfl,a8,Q,bo⟩;have a9:=h.f4;have ba:cB ah {D with bh:=ls,waits:=[],cg:=[-1, -1, -1, -1]}:=by
   have bb:bt ag D.lb (bH aG ls).toArray 182:=bt.ae g.l N h.a1.2.2;have bc:bt ah D.lb (bH aG ls).toArray 182:=bt.ae bb Q λe=>h.a1.1 e.symm;refine⟨?_,bc,a5.ae Q λe=>h.a1.2.1 e.symm,λx hx=>(by cases hx),λx hx=>(by cases hx),g.sl,λx hx=>(by cases hx),?_,?_,rfl,λx hx=>?_,h.a1,λx hx=>(by cases hx),λx hx=>(by cases hx)⟩
   .have e:({D with bh:=ls,waits:=[],cg:=[-1, -1, -1, -1]}:a_).c=List.replicate 4 (.int .i64 (-1))++(a_.c {D with bh:=ls}).drop 4:=by
     unfold a_.c;dsimp only;rw[List.drop_left' (by rw[dN];exact a9)];rfl
    rw[e];exact a8
   .show 16<=ls.length;rw[r];exact h.bR
   .show ls.length<=1600;rw[r];exact am
   .have hx:x∈ [(-1:Int), -1, -1, -1]:=hx
    simp only[cS,eS,eW,or_self]at hx;omega
  refine⟨rfl,rfl,_,ba,⟨rfl,rfl,r,⟨λk=>⟨.inl rfl,.inl rfl⟩,rfl⟩,rfl,ia,λq a=>?_⟩,?_⟩
  .rcases a with e|e|e|⟨x,hx,e⟩
   .exact .inl e
   .exact .inr (.inl e)
   .exact .inr (.inr (.inl e))
   .cases hx
  .have h1:ad (bT D) w f:=cr (E.mono λ_ _ h=>h.elim) u λq _ e=>by rw[e];exact F
   have h2:=cr h1 N λq _ e=>by rw[e];exact .inr (.inr (.inl rfl))
   exact cr h2 Q λq _ e=>by rw[e];exact .inl rfl
end Go.Proofs.YtkdhdlfonmgheaaGreat
