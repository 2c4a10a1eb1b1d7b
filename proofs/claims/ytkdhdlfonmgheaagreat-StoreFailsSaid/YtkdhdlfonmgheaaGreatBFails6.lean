/- Contracts of the functions that the statement reaches, and the plain laws over them; each theorem stands with its conditions. -/
import Derived.Test.YtkdhdlfonmgheaaGreatBFails5
namespace Go.Proofs.YtkdhdlfonmgheaaGreat
open Go a7 Go.Proofs.Tryz
theorem CI{w:J}{lb:Nat}{ls:O cW}{T:TypeId}(h:bu w lb (bM aJ ls).toArray T)(hs:∀x∈ls,x.length=256){i:Nat}(hi:i<ls.length){x:cW}(hx:x.length=256):
 bA w ⟨lb,i*256,none⟩ (aJ x)/\bu (setCells w ⟨lb,i*256,none⟩ 0 (aJ x)) lb (bM aJ (ls.set i x)).toArray T/\ad (λq=>q=lb) w (setCells w ⟨lb,i*256,none⟩ 0 (aJ x)):=by
 have a:∀x∈ls,(aJ x).length=256:=λx hx=>by rw[ez];exact hs x hx
 have f:=gL (c:=aJ) ls a;have b:(aJ x).length=256:=by rw[ez];exact hx
 have d:i*256+(aJ x).length<=(bM aJ ls).toArray.size:=by
  rw[sx,f,b];omega
 refine⟨bu.cc h _ _ d (k3 _),?_,ad.kW (.refl _ _) _ 0⟩;have h0:=bu.jY (o:=i*256) h (aJ x);have h1:=lA (aJ x) (bM aJ ls).toArray (i*256) d;have h2:=Bh a hi x;rw[b]at h1;have g:(gF (bM aJ ls).toArray (i*256) (aJ x)).toList=bM aJ (ls.set i x):=h1.trans h2;have e:gF (bM aJ ls).toArray (i*256) (aJ x)=(bM aJ (ls.set i x)).toArray:=by rw[←g]
 rw[e]at h0;exact h0
theorem HO{α:Type}{L:O (α×aa×Nat)}{seen:O Nat}{x:α×aa×Nat}(h:x∈gq L seen):(gq L (seen++ [x.2.2])).length<(gq L seen).length:=by
 have e:gq L (seen++ [x.2.2])=(gq L seen).filter λy=> !(y.2.2==x.2.2):=by
  unfold gq;rw[List.filter_filter];apply List.filter_congr;intro y _;rw[fV];simp only[lf,dZ,List.contains_eq_mem,jw,cT,fo,beq_eq_false_iff_ne];constructor
  .exact λh=>⟨λh2=>h (.inr h2),λh2=>h (.inl h2)⟩
  .rintro⟨h1,h2⟩ (a|a)
   .exact h2 a
   .exact h1 a
 rw[e];exact List.length_filter_lt_length_iff_exists.2 ⟨x,h,by simp⟩
def yI{α:Type}(L:O (α×aa×Nat))(r:Nat)(w:J):Nat:=match w.heap[r]? with
 |some (.mapIter _ _ seen _)=>(gq L seen.toList).length
 |_=>0
theorem kJ.left{α:Type}{w:J}{r m:Nat}{enc:α->aa}{L:O (α×aa×Nat)}{seen:O Nat}(h:kJ w r m enc L seen):yI L r w=(gq L seen).length:=by
 obtain⟨⟨a,h1,_⟩,_⟩:=h;unfold yI;rw[h1]
theorem kJ.ab{α:Type}{W:Nat->Prop}{w w':J}{r m:Nat}{enc:α->aa}{L:O (α×aa×Nat)}{seen:O Nat}(h:kJ w r m enc L seen)(hc:ad W w w')(a:¬W r)(b:¬W m):kJ w' r m enc L seen:=by
 obtain⟨⟨c,h1,h2,d⟩,e⟩:=h;exact⟨⟨c,by rw[hc.block r (lS.1 h1).1 a];exact h1,by rw[hc.block m (lS.1 h2).1 b];exact h2,d⟩,e⟩
def aZ.jg(D:aZ):aZ:={D with bh:=(List.range D.n).map D.now,waits:=[]}
theorem r4(D:aZ):D.jg.n=D.n:=by simp[aZ.jg,aZ.n]
theorem yJ(D:aZ){i:Nat}(hi:i<D.n):D.jg.now i=D.now i:=by
 show((List.range D.n).map D.now).getD i []=_;rw[fl (by simp;exact hi)];simp
def HP(D:aZ)(w:J)(v:aa)(w':J):Prop:=
 (D.fR 3=true/\v=.int .i64 3/\cx w' (D.cA 3)/\ad (λq=>q=D.d) w w')\/
 (D.fR 3=false/\v=.int .i64 0/\cx w' (D.cA 3).jg/\ad (bX D) w w')
theorem yK{w:J}{D:aZ}(h:cx w D)(bt:D.aR<=1000000000):aQ aj 76 #[.pointer (some ⟨D.d,0,none⟩)] w (HP D w):=by
 refine okF (af.tT (some ⟨D.d,0,none⟩)) aA.tT func76 ?_;(delta af.tT ak aM fD ag tf gw aL xb;dsimp only);refine⟨λh1=>(by cases h1),λ_=>⟨_,rfl,(xU h (k:=3) (by decide)).use ?_⟩⟩;rintro _ ah ⟨rfl,f,ae,bv⟩;obtain⟨bm,p⟩:∃bm,bm=D.cA 3:=⟨_,rfl⟩;have aG:bm.d=D.d:=by rw[p];rfl
 have bx:bm.lb=D.lb:=by rw[p];rfl
 have aH:bm.mr=D.mr:=by rw[p];rfl
 have aI:bm.n=D.n:=by rw[p];rfl
 have aK:bX bm=bX D:=by rw[p];rfl
 have bz:bm.aR=D.aR:=by rw[p];rfl
 rw[←p]at f;refine⟨_,rfl,λC=>.inl ⟨C,rfl,by rw[←p];exact f,ae⟩,λC=>?_⟩;rw[←aG];have ai:=f.bw;obtain⟨L,al,am,an,ao,ap,bA⟩:=kJ.begin (P:=aj) f.m lI;obtain⟨r,aN⟩:∃r,r=ah.heap.size:=⟨_,rfl⟩;rw[←aN]at an ao;have aO:r≠bm.mr:=by have:=f.m.lt;omega
 have aq:∀q,bX bm q->q≠r:=λq E e=>by have:=f.lt E;omega
 have aP:∀x∈L,∃y∈bm.waits,x.1=(y.i:Int):=λx hx=>by
  have:=am.mem_iff.1 (eE.2 ⟨x,hx,rfl⟩);obtain⟨y,t,e⟩:=eE.1 this;refine⟨y,t,?_⟩;have:=congrArg Prod.fst e;exact this.symm
 have aS:∀y∈bm.waits,∃x∈L,x.1=(y.i:Int):=λy t=>by
  have:y.e∈L.map lz:=am.mem_iff.2 (eE.2 ⟨y,t,rfl⟩);obtain⟨x,hx,e⟩:=eE.1 this;exact⟨x,hx,congrArg Prod.fst e⟩
 refine⟨_,rfl,some bm.mr,f.bc,_,al,an,λw'=>∃ (seen:O Nat) (ls:O cW),kJ w' r bm.mr encZ L seen/\cx w' {bm with bh:=ls}/\ls.length=bm.n/\(∀ (j:Nat) (F:j<ls.length),ls[j]=if ∃x∈L,x.2.2∈seen/\x.1=(j:Int) then bm.now j else bm.bh.getD j [])/\ad (λq=>bX bm q) ah w'/\al.heap.size<=w'.heap.size,
  yI L r,⟨[],bm.bh,ao,f.ext ap,rfl,λj F=>?_,ad.cF ap,bp _⟩,?_⟩
 .rw[if_neg (by rintro⟨x,_,h1,_⟩;cases h1),fl F]
 rintro au ⟨seen,ls,Q,u,A,hL,H,bB⟩;have R:∀s∈ls,s.length=256:=u.sl;have bC:r<au.heap.size:=by omega
 have aT:bm.lb≠r:=aq _ (.inr (.inl rfl));rcases Q.next (P:=aj) aO 0 with ⟨aU,aV,S,av,bD⟩|⟨x,hx,I,S,aX,ax,bF,aY⟩
 .
  refine .inr ⟨aV,S,λh=>(by cases h),λ_=>?_⟩;have K:=u.ext av;obtain⟨a0,a4,a5,T,bH⟩:=eG.clear (P:=aj) (o:=0) K.m lI;refine⟨_,rfl,some bm.mr,K.bc,_,a0,a4,.inr ⟨C,rfl,?_,?_⟩⟩
  .have a6:∀x∈L,x.2.2∈seen:=λx hx=>by
    have:=lT.1 aU x hx;simpa using this
   have a7:ls=(List.range D.n).map D.now:=by
    refine List.ext_getElem (by simp[A,aI]) λj h1 h2=>?_;rw[hL j h1,List.getElem_map,List.getElem_range];have U:D.now j=bm.now j:=by rw[p];rfl
    rw[U];split
    .rfl
    .rename_i a8
     unfold aZ.now
     cases hf:bm.waits.find? λx=>x.i==j with
     |some y=>
      exfalso;have t:=jB hf;have a9:y.i=j:=by simpa using kj hf
      obtain⟨x,hx,e⟩:=aS y t;exact a8 ⟨x,hx,a6 x hx,by rw[e,a9]⟩
     |none=>rfl
   have V:bm.d≠bm.mr:=f.a1.2.1;have a_:bm.lb≠bm.mr:=f.a1.2.2;have e:(D.cA 3).jg={bm with bh:=ls,waits:=[]}:=by
    rw[a7,p];rfl
   rw[e];refine⟨K.v.ab T V,bu.ab K.l T a_,a5,λx hx=>(by cases hx),λx hx=>(by cases hx),R,λx hx=>(by cases hx),?_,?_,u.f4,u.fr,u.a1,λx hx=>(by cases hx),λx hx=>(by cases hx),u.r⟩
   .show 16<=ls.length;rw[A];exact f.bW
   .show ls.length<=1600;rw[A];exact ai
  .have ba:bX D D.d:=.inl rfl
   have hc:ad (λq=>bX D q) w ah:=ae.mono λq _ e=>by rw[e];exact ba
   have H:ad (λq=>bX D q) ah au:=by rw[←aK];exact H
   have bb:=cy hc H λq _ h=>h;have bd:=cy bb av λq _ h=>h.elim;exact cy bd T λq _ be=>by rw[be,aH];exact .inr (.inr (.inl rfl))
 .
  have W:x∈L:=(hJ.1 hx).1;have bI:x.2.2∉seen:=by
   have:=(hJ.1 hx).2;simpa using this
  obtain⟨y,t,X⟩:=aP x W;have bf:=u.ab ax λq E=>aq q E;have hi:y.i<bm.n:=(f.wn y t).2.1;have bg:y.i<ls.length:=by omega
  refine .inl ⟨_,_,I,S,λ_=>⟨(y.i:Int),x.2.1,I,?_,?_⟩,λh=>(by cases h)⟩
  .rw[aY]
   have e:encZ x.1=.int .i64 ((y.i:Nat):Int):=by rw[X]
   rw[e]
  have ay:=cj I;have Y:=bf.ext ay;have bi:({bm with bh:=ls}:aZ).n=bm.n:=A;refine aW ⟨λ_=>False,_,rfl,id,⟨some ⟨bm.lb,0,none⟩,ls.length,ls.length⟩,Y.du,(Bl (i:=y.i) Y (by rw[bi];exact hi) (by show bm.aR<=_;omega)).use ?_⟩;rintro _ M ⟨rfl,Z⟩;have g:=Y.ext Z;have U:({bm with bh:=ls}:aZ).now y.i=bm.now y.i:=by
   unfold aZ.now
   cases hf:bm.waits.find? λx=>x.i==y.i with
   |some z=>rfl
   |none=>
    have:=jk.1 hf y t;simp at this
  have aa:(bm.now y.i).length=256:=f.oC hi;rw[U];have ar:Addr.add ⟨bm.lb,0,none⟩ (Int.toNat ((y.i:Nat):Int)*256)=⟨bm.lb,y.i*256,none⟩:=by rw[dc,aw,cB]
  obtain⟨bE,bG,bj⟩:=CI g.l R bg aa;refine⟨_,rfl,Z,_,rfl,⟨by omega,by show((y.i:Nat):Int)<((ls.length:Nat):Int);omega⟩,by rw[ar];exact bE,by simp[ez,aa],?_⟩;rw[ar];refine aW ?_;show _/\_;have az:bu (setCells M ⟨bm.lb,y.i*256,none⟩ 0 (aJ (bm.now y.i)).toArray.toList) bm.lb (bM aJ (ls.set y.i (bm.now y.i))).toArray 182:=bG;have B:ad (λq=>q=bm.lb) M (setCells M ⟨bm.lb,y.i*256,none⟩ 0 (aJ (bm.now y.i)).toArray.toList):=bj;generalize setCells M ⟨bm.lb,y.i*256,none⟩ 0 (aJ (bm.now y.i)).toArray.toList=aB at az B;have ac:=Ext.trans ay Z;have aC:=(aX.ab ac id id).ab B (λe=>aT e.symm) λe=>f.a1.2.2 e.symm;have bk:ad (λq=>bX bm q) ah aB:=by
   have h1:ad (λq=>bX bm q) ah I:=cy H ax λq E e=>by omega
   have h2:=cy h1 ac λq _ h=>h.elim;exact cy h2 B λq _ e=>by rw[e];exact .inr (.inl rfl)
  have bJ:=ac.size;have bK:=B.size;have bl:cx aB {bm with bh:=ls.set y.i (bm.now y.i)}:=by
   have V:bm.d≠bm.lb:=f.a1.1;refine⟨?_,az,g.m.ab B λe=>f.a1.2.2 e.symm,λx hx=>(g.ws x hx).ab B λq E e=>(g.a2 x hx).2.1 (by rw[←e];exact E),?_,λs hs=>?_,g.j6,?_,?_,g.f4,g.fr,g.a1,g.a2,g.a3,g.r⟩
   .have h1:=g.v.ab B V
    have e:({bm with bh:=ls.set y.i (bm.now y.i)}:aZ).c=({bm with bh:=ls}:aZ).c:=by unfold aZ.c;simp
    rw[e];exact h1
   .intro z bo
    have:=g.wn z bo;refine⟨this.1,?_,this.2.2⟩;show z.i<(ls.set y.i (bm.now y.i)).length;rw[df];exact this.2.1
   .rcases lp hs with h1|rfl
    .exact R s h1
    .exact aa
   .show 16<=(ls.set y.i (bm.now y.i)).length;rw[df,A];exact f.bW
   .show(ls.set y.i (bm.now y.i)).length<=1600;rw[df,A];exact ai
  refine⟨⟨seen++ [x.2.2],_,aC,bl,by rw[df];exact A,λj F=>?_,bk,by omega⟩,?_⟩
  .rw[df]at F
   rw[sw];split
   .rename_i e
    subst e;rw[if_pos ⟨x,W,by simp,X⟩]
   .rename_i bq
    rw[hL j F];have:(∃G∈L,G.2.2∈seen/\G.1=(j:Int))↔∃G∈L,G.2.2∈seen++ [x.2.2]/\G.1=(j:Int):=by
     constructor
     .rintro⟨z,h1,h2,N⟩
      exact⟨z,h1,jz _ h2,N⟩
     .rintro⟨z,h1,h2,N⟩
      rcases cT.1 h2 with h2|h2
      .exact⟨z,h1,h2,N⟩
      .have br:z=x:=by
        have aD:=Q.bn;obtain⟨a,aE,rfl⟩:=fh h1;obtain⟨b,C,rfl⟩:=fh W;have aF:=fo.1 h2;have bs:a=b:=by
         rcases Nat.lt_trichotomy a b with h|h|h
         .have:=mK.1 aD a b (by simpa using aE) (by simpa using C) h
          simp at this;exact absurd aF this
         .exact h
         .have:=mK.1 aD b a (by simpa using C) (by simpa using aE) h
          simp at this;exact absurd aF.symm this
        subst bs;rfl
       rw[br,X]at N;exact absurd (by omega) bq
    simp only[this]
  .rw[aC.left,Q.left]
   exact HO hx
structure fC where
 an:Nat
 batch:Nat
 dX:Nat
def fC.c(l:fC):O aa:=[l.an,l.batch,.int .u64 (l.dX:Nat)]
def kK(f b d:Int):Prop:=8<=f/\f<=64/\1<=b/\b<=1000/\1<=d/\d<=1048576
instance I0(f b d:Int):Decidable (kK f b d):=by unfold kK;infer_instance
section
variable {w w':J}{D:aZ}
theorem nX(w:J)(p:aq ae)(f b d:Int):aQ aj 70 #[.pointer p,.agg #[f,b,.int .u64 d]] w (λv w'=>v=.bool (!(Option.isNone p)&&decide (kK f b d))/\Ext w w'):=by
 refine okF (af.nX p f b d) aA.nX func70 ?_;(delta af.nX ak r1 U bD;dsimp only);refine bj (vs:=[f,b,.int .u64 d]) rfl λw1 c hx hs=>?_;refine cd (λx w'=>x=(!(Option.isNone p)&&decide (8<=f))/\w1=w') (λq a=>⟨λh=>⟨f,c.cell,a _ _ ⟨by rw[h,jh],rfl⟩⟩,λh=>a _ _ ⟨by rw[h,lV],rfl⟩⟩) ?_;rintro e _ ⟨h1,rfl⟩;refine cd (λx w'=>x=(e&&decide (f<=64))/\w1=w') (λq a=>⟨λh=>⟨f,c.cell,a _ _ ⟨by rw[h,jh],rfl⟩⟩,λh=>a _ _ ⟨by rw[h,lV],rfl⟩⟩) ?_;rintro g _ ⟨h2,rfl⟩;refine cd (λx w'=>x=(g&&decide (1<=b))/\w1=w') (λq a=>⟨λh=>⟨b,by rw[aw];exact c.cell,a _ _ ⟨by rw[h,jh],rfl⟩⟩,λh=>a _ _ ⟨by rw[h,lV],rfl⟩⟩) ?_;rintro i _ ⟨j,rfl⟩;refine cd (λx w'=>x=(i&&decide (b<=1000))/\w1=w') (λq a=>⟨λh=>⟨b,by rw[aw];exact c.cell,a _ _ ⟨by rw[h,jh],rfl⟩⟩,λh=>a _ _ ⟨by rw[h,lV],rfl⟩⟩) ?_;rintro k _ ⟨l,rfl⟩;refine cd (λx w'=>x=(k&&decide (1<=d))/\w1=w') (λq a=>⟨λh=>⟨d,by rw[aw];exact c.cell,a _ _ ⟨by rw[h,jh],rfl⟩⟩,λh=>a _ _ ⟨by rw[h,lV],rfl⟩⟩) ?_;rintro m _ ⟨n,rfl⟩;refine cd (λx w'=>x=(m&&decide (d<=1048576))/\w1=w') (λq a=>⟨λh=>⟨d,by rw[aw];exact c.cell,a _ _ ⟨by rw[h,jh],rfl⟩⟩,λh=>a _ _ ⟨by rw[h,lV],rfl⟩⟩) ?_;rintro r _ ⟨o,rfl⟩;refine⟨?_,hx⟩;rw[o,n,l,j,h2,h1,Value.bool.injEq,fV];simp only[dZ,cQ,and_assoc];exact Iff.rfl
theorem vV{D:aZ}{no:Nat}{s:Y}{l:cW}{N:Nat}(a:∀q,aB s q->bX D q\/N<=q):∀q,bX (D.put no s l) q->bX D q\/N<=q:=by
 rintro q (e|e|e|⟨x,hx,e⟩)
 .exact .inl (.inl e)
 .exact .inl (.inr (.inl e))
 .exact .inl (.inr (.inr (.inl e)))
 .rcases cU.1 hx with rfl|hx
  .exact a q e
  .exact .inl (.inr (.inr (.inr ⟨x,(hJ.1 hx).1,e⟩)))
def HQ(D:aZ)(u:cZ)(gen:Nat)(w:J)(v:aa)(w':J):Prop:=
 ad (bX D) w w'/\((D.fR 2=true/\v=.int .i64 3/\cx w' (D.cA 2))\/
 (D.fR 2=false/\∃s:Y,(∀q,aB s q->bX D q\/w.heap.size<=q)/\∃bm:aZ,bm=D.put (gen%2) s (eI (gen%2) (jf u D.n gen))/\
   ((bm.fR 3=true/\v=.int .i64 3/\cx w' (bm.cA 3))\/(bm.fR 3=false/\v=.int .i64 0/\cx w' (bm.cA 3).jg))))
theorem mV(h:cx w D)(P:D.aR<=999999999){u:cZ}(hu:nt u){gen:Nat}(hg:gen<18446744073709551616):
 aQ aj 77 #[.pointer (some D.d),.agg u.c.toArray,.int .u64 (gen:Nat)] w (HQ D u gen w):=by
 have Q:=h.bW;have R:=h.bw;refine af.Eu _ (u.root:Nat) (u.aH:Nat) (u.map:Nat) (u.clock:Nat) (u.bY:Nat) (u.keys:Nat) (gen:Nat) w _ ?_;(delta af.mV U r1 bD aC bc lB b_ au ak;dsimp only);have A:IntKind.wrap .i64 (Int.tmod (gen:Int) 2)=((gen%2:Nat):Int):=by
  rw[qG I,bx I I];omega
 refine bj (vs:=u.c) rfl λw1 B j S=>⟨by decide,?_⟩;have a:=cj w1;have C:=B.ext a;have E:=h.ext (j.trans a);refine aW ⟨λ_=>False,id,gW C ((p9 E).use ?_)⟩;rintro _ _ ⟨rfl,rfl⟩;refine⟨_,rfl,ad.refl _ _,(pC hu (n:=D.n) I).use ?_⟩;rintro _ F ⟨k,rfl,G,t,T⟩;rw[A];refine⟨k,rfl,λ_=>False,#[(3:Int),.int .u64 (gen:Nat),k],λV=>by kernel_rfl,(vw (s:=k) (p:=jf u D.n gen) G.src I (yF hg)).use ?_⟩;rintro _ W ⟨H,rfl,J,v,K⟩;have b:=(j.trans a).trans (Ext.trans t v);have L:=h.ext b;have X:=b.size;have M:(eI (gen%2) (jf u D.n gen)).length=256:=rH _ (yF hg);have Y:w.heap.size<=F.heap.size:=by have:=(j.trans a).size;have:=t.size;omega
 refine⟨H,0,rfl,v,λh=>(by cases h),λ_=>(vE L (i:=gen%2) I I J.src M λq f hf=>by have:=K q f;have:=h.lt hf;omega).use ?_⟩;rintro _ N (⟨g,rfl,hd,hc⟩|⟨g,rfl,s,hd,hc,x⟩)
 .exact⟨3,rfl,λ_=>⟨cy (b.mono λ_ _ h=>h.elim) hc λq _ e=>by rw[e];exact .inl rfl,.inl ⟨g,rfl,hd⟩⟩,λh=>(by cases h)⟩
 .have y:ad (bX D) w N:=cy (b.mono λ_ _ h=>h.elim) hc λq _ e=>e
  have O:=vV (no:=gen%2) (l:=eI (gen%2) (jf u D.n gen)) x;refine⟨0,rfl,λh=>(by cases h),λ_=>(yK hd (by show D.aR+1<=_;omega)).use ?_⟩;have z:∀q,aB s q->bX D q\/w.heap.size<=q:=λq f=>(x q f).imp id λh=>by omega
  rintro _ Z (⟨m,rfl,o,r⟩|⟨m,rfl,o,r⟩)
  .exact⟨3,rfl,cy y r λq _ e=>by rw[e];exact .inl rfl,.inr ⟨g,s,z,_,rfl,.inl ⟨m,rfl,o⟩⟩⟩
  .exact⟨0,rfl,cy y r λq f e=>(O q e).resolve_right I,.inr ⟨g,s,z,_,rfl,.inr ⟨m,rfl,o⟩⟩⟩
end
def bitsOf(ns:O Int)(i:Nat):ai:=((ns.getD (i/8) 0).toNat).testBit (i%8)
theorem CJ(ns:O Int)(i:Nat)(h:8*ns.length<=i):bitsOf ns i=false:=by
 unfold bitsOf;have:ns.length<=i/8:=by omega
 simp[List.getD,kk this]
theorem HR(ns:O Int)(h:∀n∈ns,0<=n/\n<=255):ns.map (Value.int .u8)=e2 (bitsOf ns) ns.length:=by
 apply List.ext_getElem
 .simp[e2]
 .intro i h1 h2
  have hi:i<ns.length:=by simpa using h1
  simp only[e2,List.getElem_map,List.getElem_range]
  congr 1
  obtain⟨mj,av⟩:=h ns[i] (cE hi);have:=vH (bitsOf ns) i ns[i].toNat I (λj c=>by
   unfold bitsOf;have a:(8*i+j)/8=i:=by omega
   have b:(8*i+j)%8=j:=by omega
   rw[a,b];simp[List.getD,hi])
  rw[←this];omega
theorem HS:∀x:Nat,x<256->∀j:Nat,j<8->decide (Int.fdiv (x:Int) (2^(min (Int.toNat (j:Int)) 8))>0)=(List.range 8).any (λk=>decide (j<=k)&&x.testBit k):=by decide+kernel
section
variable {w w':J}{b n:Nat}{f g:Nat->ai}{s1 s2:Y}
def oM(ns:O Int)(n:Nat):Prop:=ns.length=(n+7)/8/\∀i,n<=i->bitsOf ns i=false
theorem HT{ns:O Int}{n:Nat}(l:ns.length=(n+7)/8)(m:0<n%8){x:Nat}(hx:x<256)(a:ns[ns.length-1]? =some (x:Int)):
 decide (Int.fdiv (x:Int) (2^(min (Int.toNat ((n%8:Nat):Int)) 8))>0)=false↔∀i,n<=i->bitsOf ns i=false:=by
 rw[HS x hx _ (g6 _ I)];have f:ns.length-1=n/8:=by omega
 rw[f]at a;rw[oQ];constructor
 .intro h i hi
  rcases dJ i (8*ns.length) with c|c
  .have e:i/8=n/8:=by omega
   unfold bitsOf;rw[e];simp only[List.getD,a,qx,dc];have:=h (i%8) (jx.2 (g6 _ I));have b:n%8<=i%8:=by omega
   simpa[b] using this
  .exact CJ ns i c
 .intro h k d
  have d:=jx.1 d;by_cases b:n%8<=k
  .have:=h (8*(n/8)+k) I
   unfold bitsOf at this;have g:(8*(n/8)+k)/8=n/8:=by omega
   have j:(8*(n/8)+k)%8=k:=by omega
   rw[g,j]at this;simp only[List.getD,a,qx,dc]at this;simp[this]
  .simp[b]
theorem pI{s:Y}{ns:O Int}(hs:Src 1 w s (ns.map (.int .u8)))(m:∀n∈ns,(0:Int)<=n/\n<=255)(P:ns.length<=1000000)(n:Int):
 aQ aj 173 #[.slice s.a s.len s.cap,.int .i64 n] w (λv w'=>Ext w w'/\((¬(1<=n/\n<=1600)/\v=.tuple #[.pointer none,.int .i64 1])\/
  (1<=n/\n<=1600/\¬oM ns n.toNat/\v=.tuple #[.pointer none,.int .i64 4])\/
  (1<=n/\n<=1600/\oM ns n.toNat/\∃b s1 s2,v=.tuple #[.pointer (some ⟨b,0,none⟩),.int .i64 0]/\eZ w' b n.toNat (bitsOf ns) (bitsOf ns) s1 s2/\∀k,fz b s1 s2 k->w.heap.size<=k))):=by
 have hlen:s.len=ns.length:=by have:=hs.len;simp at this;omega
 refine okF (af.pI s n) aA.pI func173 ?_;(delta af.pI al aM ak aC au b5 bc aU U;dsimp only);refine(BS w n).use ?_;rintro _ _ ⟨rfl,rfl⟩;refine⟨_,rfl,λh=>⟨.refl _ _,.inl ⟨by simp at h;omega,rfl⟩⟩,λh=>?_⟩;have h:1<=n/\n<=1600:=by simpa using h
 obtain⟨n,rfl⟩:=qH (by omega:0<=n);simp only[dc];refine(BT w n I).use ?_;rintro _ _ ⟨rfl,rfl⟩;refine⟨_,rfl,cd (λc w'=>(c=true↔¬oM ns n)/\w=w') (λq u=>⟨λf=>u _ _ ⟨?_,rfl⟩,λg=>⟨by decide,?_⟩⟩) ?_⟩
 .have f:¬ns.length=(n+7)/8:=by
   intro h;rw[hlen,h]at f;simp at f
  exact⟨λ_ hg=>f hg.1,λ_=>rfl⟩
 .have g:ns.length=(n+7)/8:=by
   simp only[bne_eq_false_iff_eq]at g;omega
  refine cd (λc w'=>(c=true↔¬oM ns n)/\w=w') (λQ y=>⟨λj=>?_,λj=>y _ _ ⟨?_,rfl⟩⟩) ?_
  .rw[rU]at j⊢
   have z:0<n%8:=by
    have:((n%8:Nat):Int)>0:=by simpa using j
    omega
   have o:ns.length-1<ns.length:=by omega
   obtain⟨x,F⟩:∃x:Nat,ns[ns.length-1]=(x:Int):=⟨ns[ns.length-1].toNat,by have:=m _ (cE o);omega⟩;have G:x<256:=by have:=m _ (cE o);omega
   have B:ns[ns.length-1]? =some (x:Int):=by rw[dE o,F]
   obtain⟨A,ar,C,hc⟩:=hs.at (i:=ns.length-1) (v:=.int .u8 x) (by rw[lk,B];rfl);rw[hlen,bx I I,show(((ns.length:Nat):Int)-1)=((ns.length-1:Nat):Int) from I];rw[hlen]at C;refine⟨A,ar,C,x,hc,by decide,I,y _ _ ⟨?_,rfl⟩⟩;have D:=HT g z G B;constructor
   .intro ht hg
    have:=D.2 hg.2;rw[ht]at this;cases this
   .intro p
    cases hd:decide (Int.fdiv (x:Int) (2^(min (Int.toNat ((n%8:Nat):Int)) 8))>0) with
    |true=>rfl
    |false=>exact(p ⟨g,D.1 hd⟩).elim
  .rw[rU]at j
   have z:n%8=0:=by
    have:¬((n%8:Nat):Int)>0:=by simpa using j
    omega
   constructor
   .intro h;cases h
   .intro p
    exact(p ⟨g,λi hi=>CJ ns i I⟩).elim
  .rintro c _ ⟨hc,rfl⟩
   exact u _ _ ⟨hc,rfl⟩
 .rintro c _ ⟨hc,rfl⟩
  refine⟨λht=>⟨.refl _ _,.inr (.inl ⟨h.1,h.2,hc.1 ht,trivial⟩)⟩,λhf=>?_⟩;have hg:oM ns n:=by
   rcases Classical.em (oM ns n) with h|h
   .exact h
   .rw[hc.2 h]at hf;cases hf
  refine(BN hs (D7 _ _) I).use ?_;rintro _ ah ⟨t,rfl,l,hx,H⟩;rw[HR ns m,hg.1]at l;have J:=bu.new ah #[.int .i64 (n:Int),.slice t.a t.len t.cap,.slice none 0 0] 218;have E:Ext ah (ah.alloc (.cells #[.int .i64 (n:Int),.slice t.a t.len t.cap,.slice none 0 0] 218)):=ad.alloc (.refl _ _) _;have f:∀k,aB t k->k≠ah.heap.size:=λk d e=>by have:=l.lt k d;omega
  refine⟨t,rfl,(ya J (l.ext E) f I).use ?_⟩;rintro _ R ⟨rfl,K,h1,h2,L,M,r⟩;have S:=hx.size;refine⟨rfl,?_,.inr (.inr ⟨h.1,h.2,hg,ah.heap.size,t,K,rfl,⟨h1,h2,L,λk d=>⟨f k d,λN=>?_⟩,λk d e=>?_,I,I,hg.2,hg.2⟩,?_⟩)⟩
  .exact((ad.cF (hx.trans E)).trans M).mono λk d e=>by omega
  .have:=r k N
   have:=l.lt k d;simp at*;omega
  .have:=r k d
   simp at this;omega
  .rintro k (rfl|d|d)
   .omega
   .exact H k d
   .have:=r k d
    simp at this;omega
end
section
variable {w w':J}{C:b4}{X:Nat->Prop}
def Fr.gX(f:Fr):ai:=f.full&&f.fS
theorem HU:iD aj 200:=⟨Tryz.f200,func200,by kernel_rfl,by kernel_rfl⟩
theorem HV(f:Fr)(w:J):aQ aj 200 #[.agg #[f.full,f.fS,f.used,f.no,f.pins,f.b]] w (λv w'=>v=f.gX/\Ext w w'):=by
 refine okF (af.uG f.full f.fS f.used f.no f.pins f.b) aA.uG func200 ?_;(delta af.uG a_ U ak;dsimp only);refine bj (vs:=f.c) rfl λw1 a hx hs=>⟨f.full,a.cell,cd (λb w'=>b=f.gX/\w1=w') (λq d=>⟨λh=>⟨f.fS,by rw[aw];exact a.cell,d _ _ ⟨by unfold Fr.gX;rw[h];rfl,rfl⟩⟩,λh=>d _ _ ⟨by unfold Fr.gX;rw[h];rfl,rfl⟩⟩) ?_⟩;rintro _ _ ⟨rfl,rfl⟩;exact⟨rfl,hx⟩
def ju(fs:O Fr):O Int:=(fs.filter Fr.gX).map Fr.no
theorem CK(h:fy w C):aQ aj 145 #[.pointer (some C.c)] w (λv w'=>∃ (s:Y) (zs:O Int),v=s/\ba 1 3 w' s (zs.map encZ)/\zs.Perm (ju C.an)/\Ext w w'/\∀q,aB s q->w.heap.size<=q):=by
 obtain⟨bT,aC,aU⟩:=h.cells
 have X:=h.bG
 refine okF (af.uu (some C.c)) aA.uu func145 ?_
 (delta af.uu bc;dsimp only)
 refine Calls.mono (af.EH (some C.c) ⟨200,#[],#[]⟩ w (λv w'=>∃ (s:Y) (zs:O Int),v=s/\ba 1 3 w' s (zs.map encZ)/\zs.Perm (ju C.an)/\Ext w w'/\∀q,aB s q->w.heap.size<=q) ?_) ?_
 · (delta af.rA ak ag aL a_ r1 U tp au aU;dsimp only)
   refine⟨λh=>(by cases h),λ_=>⟨_,rfl,⟨some C.aT,C.an.length,C.an.length⟩,aC,λs n w'=>∃i:Nat,n=(i:Int)/\i<=C.an.length/\ba 1 3 w' s ((ju (C.an.take i)).map encZ)/\Ext w w'/\∀q,aB s q->w.heap.size<=q,λ_ n _=>((C.an.length:Int)-n).toNat,⟨0,rfl,cG _,by simpa[ju] using ba.none 1 3 w,.refl _ _,λq e=>(fZ q e).elim⟩,?_⟩⟩
   rintro s _ p ⟨i,rfl,hi,a,hx,g⟩
   have A:=h.ext hx
   refine⟨λaK=>?_,λB=>?_⟩
   · have r:i<C.an.length:=by
       have:(i:Int)<(C.an.length:Int):=b1 aK
       omega
     obtain⟨f,hf⟩:∃f,f=C.an[i]:=⟨_,rfl⟩
     have Z:(ju (C.an.take i)).length<=64:=by
       unfold ju
       rw[dL]
       have:=lW Fr.gX (C.an.take i)
       rw[cC]at this;omega
     have t:ju (C.an.take (i+1))=ju (C.an.take i)++(if f.gX then [f.no] else []):=by
       unfold ju
       rw[iy r,kQ,fW,←hf,o0,List.filter_nil]
       congr 1
       split<;>rfl
     refine cd (λs w'=>ba 1 3 w' s ((ju (C.an.take (i+1))).map encZ)/\Ext w w'/\∀q,aB s q->w.heap.size<=q) (λq e=>?_) ?_
     · have hc:∀j,j<6->p.cell? ⟨C.aT,i*6+j,none⟩=(f.c)[j]? :=λj D=>by rw[hf];exact j7 A.f r D
       refine⟨_,rfl,⟨I,by show(i:Int)<(C.an.length:Int);omega⟩,?_⟩
       rw[rP]
       refine⟨f.full,hc 0 (by decide),f.fS,by rw[aw];exact hc 1 (by decide),f.used,by rw[aw];exact hc 2 (by decide),f.no,by rw[aw];exact hc 3 (by decide),f.pins,by rw[aw];exact hc 4 (by decide),f.b,by rw[aw];exact hc 5 (by decide),?_⟩
       refine bj (vs:=[false,false,false,(0:Int),(0:Int),()]) rfl λaa u E ab=>⟨u.cc rfl (λv l=>?_),rfl,cw u (us:=f.c) rfl rfl λy d F ac=>?_⟩
       · simp only[cU,eL,eO]at l
         rcases l with rfl|rfl|rfl|rfl|rfl|rfl<;>trivial
       have G:Ext p y:=Ext.cn E F (bp _)
       refine⟨f.full,d.cell,f.fS,by rw[aw];exact d.cell,f.used,by rw[aw];exact d.cell,f.no,by rw[aw];exact d.cell,f.pins,by rw[aw];exact d.cell,f.b,by rw[aw];exact d.cell,HU,(HV f y).use ?_⟩
       rintro _ m ⟨rfl,z⟩
       have k:=Ext.trans G z
       have H:=d.ext z
       refine⟨_,rfl,λhd=>⟨f.no,by rw[aw];exact H.cell,aW ?_⟩,λhd=>e _ _ ⟨?_,Ext.trans hx k,g⟩⟩
       · have o:Ext m (m.alloc (.cells #[encZ f.no] 3)):=eJ _ _
         obtain⟨J,K,av,ax,_,L,M⟩:=p3.append (cK:=58) (x:=⟨some m.heap.size,1,1⟩) (Src.new (T:=3) m [encZ f.no] 1 rfl) ((a.ext k).ext o) (λv l=>by rw[fo.1 l];trivial) (by
           have:s.len=(ju (C.an.take i)).length:=by
             have:=a.1
             rw[dL]at this;omega
           show(2*(s.len+1)+1000)*8<=_;omega)
         refine⟨J,K,av,e _ _ ⟨?_,?_,λq e=>?_⟩⟩
         · rw[t,hd,if_pos rfl,fW];exact ax
         · exact Ext.dy (Ext.trans (Ext.trans hx k) o) L g
         · rcases M q e with h1|h1
           · exact g q h1
           · have:=(Ext.trans hx k).size
             have:=o.size;omega
       · rw[t,hd]
         simp only[fN,if_false,fQ]
         exact a.ext k
     · rintro ad ae ⟨h1,h2,N⟩
       have P:IntKind.wrap .i64 ((i:Int)+1)=((i+1:Nat):Int):=by rw[bx I I];omega
       rw[P]
       exact⟨⟨i+1,rfl,I,h1,h2,N⟩,by show((C.an.length:Int)-((i+1:Nat):Int)).toNat<((C.an.length:Int)-(i:Int)).toNat;omega⟩
   · have Q:i=C.an.length:=by
       have:¬(i:Int)<(C.an.length:Int):=cu B
       omega
     rw[Q,iz]at a
     refine(Cs a (by
       unfold ju
       rw[dL]
       have:=lW Fr.gX C.an;omega)).use ?_
     rintro _ ah ⟨rfl,R,zs,S,V⟩
     exact⟨rfl,s,zs,rfl,S,V.1,Ext.dy hx R g,g⟩
 · rintro _ w1 ⟨_,rfl,s,zs,rfl,a,W,hx,hf⟩
   exact⟨s,rfl,s,zs,rfl,a,W,hx,hf⟩
end
section
variable {w w':J}{C:b4}{X:Nat->Prop}
theorem HW{D:aZ}{no:Nat}{s:Y}{l:cW}{N:Nat}(a:∀q,aB s q->bX D q\/N<=q):∀q,bX (D.put no s l) q->bX D q\/N<=q:=by
 rintro q (e|e|e|⟨x,hx,e⟩)
 .exact .inl (.inl e)
 .exact .inl (.inr (.inl e))
 .exact .inl (.inr (.inr (.inl e)))
 .rcases cU.1 hx with rfl|hx
  .exact a q e
  .exact .inl (.inr (.inr (.inr ⟨x,(hJ.1 hx).1,e⟩)))
theorem fy.pZ{az:aZ}(h:fy w C)(hd:cx w' az)(e:az.d=C.D.d)(hc:ad (bX C.D) w w')(hf:∀q,bX az q->bX C.D q\/w.heap.size<=q):fy w' {C with D:=az}:=by
 have h1:=h.v.ab hc h.a1.2.1;rw[←e]at h1;have a:C.c<w.heap.size:=h.v.lt;have b:C.aT<w.heap.size:=bu.lt h.f;refine⟨h1,bu.ab h.f hc h.a1.2.2,hd,h.bE,h.bG,h.hd,h.a1.1,λg=>?_,λg=>?_⟩
 .rcases hf _ g with g|g
  .exact h.a1.2.1 g
  .have g:w.heap.size<=C.c:=g
   omega
 .rcases hf _ g with g|g
  .exact h.a1.2.2 g
  .have g:w.heap.size<=C.aT:=g
   omega
def b4.wrote(C:b4)(i no:Nat)(hi:i<C.an.length)(s:Y):b4:={C with an:=C.an.set i {C.an[i] with fS:=false},D:=C.D.put no s (C.an[i]).l}
theorem HX(h:er X w C){i no:Nat}(hi:i<C.an.length)(hf:(C.an[i]).full=true)(t:(C.an[i]).no=no){s:Y}(H:¬C.D.bI no=true)(hd:cx w' (C.D.put no s (C.an[i]).l))(hc:ad (bX C.D) w w')(T:∀q,aB s q->bX C.D q\/w.heap.size<=q):
 (∃u:aa,w'.cell? ⟨C.aT,i*6+1,none⟩=some u)/\w'.frozen? ⟨C.aT,i*6+1,none⟩=false/\er X (w'.setCell ⟨C.aT,i*6+1,none⟩ false) (C.wrote i no hi s)/\
   eC C (C.wrote i no hi s) w (w'.setCell ⟨C.aT,i*6+1,none⟩ false) 1/\∀j,(C.wrote i no hi s).view j=C.view j:=by
 have z:=HW (no:=no) (l:=(C.an[i]).l) T;obtain⟨az,x⟩:∃az,az=C.D.put no s (C.an[i]).l:=⟨_,rfl⟩;have B:∀j,az.now j=if j=no then (C.an[i]).l else C.D.now j:=by rw[x];exact oD _ _ _ _
 have J:az.d=C.D.d:=by rw[x];rfl
 have U:az.n=C.D.n:=by rw[x];rfl
 have W:az.key=C.D.key:=by rw[x];exact Bw C.D H
 have K:kF az C.D:=by rw[x];exact Bv h.inv H
 have al:az.aR=C.D.aR+1:=by rw[x];rfl
 have Z:∀m,C.D.calm (m+1)->az.calm m:=λm ab=>by rw[x];exact(jI (.inr rfl) h.raw.dev.f4 ab).1
 unfold b4.wrote;rw[←x]at hd z⊢;have L:=h.raw.pZ hd J hc z;obtain⟨a1,a2,a3,a4⟩:=nf L.f hi (j:=1) (by decide) (v:=false) {C.an[i] with fS:=false} rfl;obtain⟨g,o⟩:∃g:Fr,g={C.an[i] with fS:=false}:=⟨_,rfl⟩;rw[←o]at a3⊢;refine⟨a1,a2,?_⟩;generalize w'.setCell ⟨C.aT,i*6+1,none⟩ false=E at a3 a4;have G:ad (c3 C) w E:=cy (hc.mono λq _ e=>.inr (.inr e)) a4 λq _ e=>.inr (.inl e);obtain⟨y,av,ax,ac,ae,am,ao,af⟩:=h.inv.ok _ (cE hi) hf;have ag:y=no:=by rw[t]at av;omega
 subst ag;obtain⟨a,r⟩:∃a:b4,a={C with an:=C.an.set i dC,D:=az}:=⟨_,rfl⟩;have h1:gA X E a:=by
  rw[r];exact x1 (V:=c3 C) hi h.inv G (λ_ _ h=>h) K (λj A=>by rw[B,if_neg λe=>A hf (by rw[t,e])]) z dC rfl rfl
 have v1:∀j,a.view j=C.view j:=λj=>by
  rw[r];exact Bu hi h.inv (λ_ j A=>by rw[B,if_pos (by rw[t]at A;omega)]) (λj A=>by rw[B,if_neg λe=>A hf (by rw[t,e])]) dC rfl j
 have F:a.an=C.an.set i dC:=by rw[r]
 have dO:i<a.an.length:=by rw[F,df];exact hi
 have M:∀ (k:Nat) (ah:k<a.an.length),k≠i->(a.an[k]).full=true->(a.an[k]).no≠y:=λk ah N h2 O=>by
  simp only[F,fG (Ne.symm N)]at h2 O;exact N (h.inv.un k i _ hi h2 hf (by rw[O,t]))
 have P:C.an.set i g=a.an.set i g:=by rw[F,set_set]
 have Q:({C with an:=C.an.set i g,D:=az}:b4)={a with an:=a.an.set i g,D:=az}:=by rw[P,r]
 have ai:a6 (λq=>¬c3 {C with an:=C.an.set i g,D:=az} q/\¬X q) E g.b g.l:=by
  rw[o];refine a6.re ac G (λq _ R=>R.1) λq R S=>⟨λp=>S.1 ?_,S.2⟩;rcases p with p|p|p
  .exact .inl p
  .exact .inr (.inl p)
  .exact .inr (.inr ((z q p).resolve_right I))
 have h2:gA X E {C with an:=C.an.set i g,D:=az}:=by
  rw[Q];refine x2 (C:=a) (no:=y) (V:=λ_=>False) dO h1 (.refl _ _) (λ_ _ h=>h.elim) (by rw[r];exact⟨rfl,λ_ h=>h,K.2.2⟩) (λj=>by rw[r]) (λq=>by rw[r]) g (by rw[o];exact hf) (by rw[o];exact h.inv.pins (C.an[i]) (cE hi)) ⟨by rw[o];exact t,by show y<az.n;rw[U];exact ax,by rw[←Q];exact ai,by rw[o];exact ae,λ_=>?_,λ_=>by rw[o],af⟩ M;show g.l=az.now y;rw[B,if_pos rfl,o]
 have aj:∀j,({C with an:=C.an.set i g,D:=az}:b4).view j=C.view j:=λj=>by
  have ak:({C with an:=C.an.set i g,D:=az}:b4)=b4.mk a.c a.aT (a.an.set i g) C.hand az:=by rw[P,r]
  rw[ak,x3 (C:=a) (hd:=C.hand) (az:=az) (no:=y) dO h1.un (λj=>by rw[r]) g (by rw[o];exact hf) (by rw[o];exact t) (λp=>by simp only[F,ie]at p;cases p) M j,v1];split
  .rename_i e
   subst e;have:=ml (fs:=C.an) (D:=C.D) (c:=C.c) (aT:=C.aT) (hd:=C.hand) h.inv.un hi hf t;rw[o];exact this.symm
  .rfl
 refine⟨⟨?_,h2⟩,⟨rfl,J,by show(C.an.set i _).length=_;rw[df],W,by show az.aR<=_;omega,Z,G,?_⟩,aj⟩
 .refine x4 (C:={C with D:=az}) L a4 a3
 .rintro q (e|e|e)
  .exact .inl (.inl e)
  .exact .inl (.inr (.inl e))
  .exact(z q e).imp (λh=>.inr (.inr h)) id
theorem yL{az:aZ}(h:er X w C)(hd:cx w' az)(e:az.d=C.D.d)(b:kF az C.D)(a:∀i,az.now i=C.D.now i)(hc:ad (bX C.D) w w')(hf:∀q,bX az q->bX C.D q\/w.heap.size<=q):er X w' {C with D:=az}/\∀j,({C with D:=az}:b4).view j=C.view j:=
 ⟨⟨h.raw.pZ hd e hc hf,rR (C:=C) (hd:=C.hand) h.inv (hZ.refl _) (hc.mono λq _ e=>.inr (.inr e)) (λ_ _ h=>h) b a hf⟩,λj=>rS (C:=C) (hd:=C.hand) h.inv (hZ.refl _) a j⟩
theorem HY(h:er X w C)(hc:∀f∈C.an,f.gX=false)(j:Nat):C.view j=C.D.now j:=by
 unfold b4.view
 cases b:C.an.find? λf=>f.full&&f.no==(j:Int) with
 |none=>rfl
 |some f=>
  have c:=jB b;have a:=kj b;simp only[dZ,ki]at a;obtain⟨no,av,ax,g,i,d⟩:=h.inv.ok f c a.1;have h1:=hc f c;unfold Fr.gX at h1;rw[a.1,jh]at h1;have e:no=j:=by rw[a.2]at av;omega
  rw[←e];exact d h1
theorem CL{D:aZ}(h:cx w D)(i:Nat):D.jg.now i=D.now i:=by
 by_cases hi:i<D.n
 .exact yJ D hi
 .have h1:D.now i=[]:=by
   unfold aZ.now
   cases hf:D.waits.find? λx=>x.i==i with
   |some x=>
    have hx:=jB hf;have he:x.i=i:=by simpa using kj hf
    have:=(h.wn x hx).2.1;omega
   |none=>
    have:¬i<D.bh.length:=hi;show D.bh.getD i []=[];rw[fq,kk I];rfl
  rw[h1];show((List.range D.n).map D.now).getD i []=[];rw[fq,kk (by simp;omega)];rfl
theorem r5(D:aZ){m:Nat}(h:D.calm m):(D.cA 3).calm m:=by
 unfold aZ.calm aZ.cA at*;simpa[fq] using h
theorem eC.r1{C aE:b4}{w w':J}{k:Nat}(h:eC C aE w w' k):aE.D.r1=C.D.r1:=congrArg (λk:(O cW×(Nat->ai)×(Nat->O cW)×(Int->Prop)×ai)×Int=>k.1.2.2.2.2) h.bh
structure HZ(X:Nat->Prop)(C aE:b4)(w:J)(v:aa)(w':J):Prop where
 at_:er X w' aE
 c:aE.c=C.c
 d:aE.D.d=C.D.d
 len:aE.an.length=C.an.length
 n:aE.D.n=C.D.n
 bI:aE.D.bI=C.D.bI/\aE.D.ep=C.D.ep
 r:aE.D.r1=C.D.r1
 aR:aE.D.aR<=C.D.aR+64
 calm:∀m,C.D.calm (m+64)->aE.D.calm m
 ab:ad (c3 C) w w'
 c5:∀q,c3 aE q->c3 C q\/w.heap.size<=q
 view:∀j,aE.view j=C.view j
 il:(v=.int .i64 0/\aE.D.waits=[]/\(∀f∈aE.an,f.gX=false)/\aE.D.b3.getD 3 0=(gy (C.D.b3.getD 3 0)).2)\/(v=.int .i64 3/\aE.D.bh=C.D.bh/\(¬C.D.calm 64\/C.D.fR 3=true))
theorem H0(h:er X w C)(a2:C.D.aR<=999999900)(ao:∀j,C.D.bI j=true->C.D.ep j=[]):aQ aj 163 #[.pointer (some C.c)] w (λv w'=>∃aE,HZ X C aE w v w'):=by
 have a3:=h.raw.bG;refine okF (af.uz (some C.c)) aA.uz func163 ?_;(delta af.uz ak bc aL r1 kX ag aC st au;dsimp only);refine⟨λh=>(by cases h),λ_=>(CK h.raw).use ?_⟩;rintro _ w1 ⟨s,zs,rfl,hs,M,V,ap⟩;have hlen:s.len=zs.length:=by have:=hs.1;rw[dL]at this;omega
 have a4:zs.length<=64:=by
  rw[M.length_eq];unfold ju;rw[dL];have:=lW Fr.gX C.an;omega
 have h1:=h.ext V;have aq:∀z∈zs,∀no:Nat,(no:Int)=z->¬C.D.bI no=true:=λz t no a5 hs=>by
  obtain⟨f,hf,e⟩:=eE.1 (M.mem_iff.1 t);obtain⟨h2,u⟩:=hJ.1 hf;unfold Fr.gX at u;rw[dZ]at u;obtain⟨m,bE,_,_,_,_,W,ar⟩:=h.inv.ok f h2 u.1;have:m=no:=by rw[e]at bE;omega
  subst this;rw[W hs]at u
  cases u.2
 refine⟨s,rfl,λn w'=>∃ (i:Nat) (g:b4),n=(i:Int)/\i<=zs.length/\er X w' g/\eC C g w w' i/\(∀j,g.view j=C.view j)/\ba 1 3 w' s (zs.map encZ)/\(∀f∈g.an,f.gX=true->f.no∈zs.drop i)/\(∀z∈zs,∃f∈g.an,f.full=true/\f.no=z)/\∀q,c3 g q->¬aB s q,
  λn _=>((zs.length:Int)-n).toNat,⟨0,C,rfl,cG _,h1,eC.ext C V,λ_=>rfl,hs,λf hf hd=>?_,λz t=>?_,λq o N=>?_⟩,?_⟩
 .exact M.mem_iff.2 (eE.2 ⟨f,hJ.2 ⟨hf,hd⟩,rfl⟩)
 .obtain⟨f,hf,e⟩:=eE.1 (M.mem_iff.1 t)
  obtain⟨h2,u⟩:=hJ.1 hf;unfold Fr.gX at u;rw[dZ]at u;exact⟨f,h2,u.1,e⟩
 .have:=ap q N;have:=h.raw.lt o;omega
 rintro _ Q ⟨i,g,rfl,hi,p,l,O,R,Y,hex,Z⟩;have a6:=l.aR;refine⟨λaK=>?_,λay=>?_⟩
 .have G:i<zs.length:=by
   have:(i:Int)<(s.len:Int):=b1 aK;omega
  obtain⟨a,az,aD⟩:∃a:ae,s.a=some a/\Q.cell? (a.add (Int.toNat (i:Int)*1))=some (.int .i64 zs[i]):=by
   obtain⟨b,c,y,_,_,_,_,S,_⟩:=R.cell (i:=i) (v:=encZ zs[i]) (by rw[lk,dE G];rfl);exact⟨_,y,by rw[dc,aw,cB,fF];exact S⟩
  refine⟨a,az,⟨I,by show(i:Int)<(s.len:Int);omega⟩,zs[i],aD,?_⟩;rw[←l.c];refine(vG p.raw _).use ?_;rintro _ _ ⟨aF,rfl⟩;obtain⟨f,aG,aH,aI⟩:=hex zs[i] (cE G);rcases aF with ⟨k,H,rfl,av,ax⟩|⟨_,aJ⟩
  rotate_left
  .exact absurd aI (aJ f aG aH)
  have J:=cj Q;have B:=p.ext J;obtain⟨no,bE,bG,aa,aM,a7,W,ar⟩:=B.inv.ok _ (cE H) av;have t:zs[i]=(no:Int):=by rw[←ax,bE]
  have aN:=j7 B.raw.f H (j:=5) (by decide);refine⟨_,rfl,aW ⟨_,rfl,id,_,B.raw.cells.1,_,rfl,id,(g.an[k]).b,by rw[aw];exact aN,?_⟩⟩;rw[t];refine(vE B.raw.dev (i:=no) bG I aa.1 aM λq o hf=>(aa.2.2 q o).1.1 (.inr (.inr hf))).use ?_;rintro v2 ah aO;have aP:=l.ab.size;have a8:=J.size;rcases aO with ⟨y,rfl,E,r⟩|⟨y,rfl,s2,E,r,aS⟩
  .obtain⟨fL,dH⟩:=yL B E rfl (B.inv.cA 2) (λj=>rQ g.D 2 j) (r.mono λq _ e=>.inl e) λq o=>.inl o
   refine⟨3,rfl,λ_=>⟨{g with D:=g.D.cA 2},fL,l.c,l.d,l.len,l.n,l.ng,l.r1,by show g.D.aR<=_;omega,λm K=>?_,?_,?_,λj=>(dH j).trans (O j),.inr ⟨rfl,?_,.inl λaU=>?_⟩⟩,λh=>(by cases h)⟩
   .exact(jI (.inr rfl) p.raw.dev.f4 (l.calm (m+1) (fH K I))).1
   .refine cy (l.ab.trans (ad.cF J)) r λq o e=>?_
    exact(l.c5 q (.inr (.inr (.inl e)))).resolve_right I
   .exact l.c5
   .exact congrArg (λk=>k.1.1) l.bh
   .have:=(jI (k:=2) (m:=0) (.inr rfl) p.raw.dev.f4 (l.calm 1 (fH aU I))).2
    rw[y]at this;cases this
  .obtain⟨bB,bq,ac,P,aV⟩:=HX B H av (by rw[ax,t]) (λhs=>aq _ (cE G) _ t.symm (by rw[←l.bI];exact hs)) E r aS
   refine⟨0,rfl,λh=>(by cases h),λ_=>⟨_,rfl,by rw[aw];exact bB,by rw[aw];exact bq,?_⟩⟩;rw[aw];refine aW ?_;generalize ah.setCell ⟨g.aT,k*6+1,none⟩ false=a9 at ac P;have aX:IntKind.wrap .i64 ((i:Int)+1)=((i+1:Nat):Int):=by rw[bx I I];omega
   rw[aX];have aY:=(l.trans (eC.ext g J)).trans P;have a0:zs.drop i=zs[i]::zs.drop (i+1):=jy G;refine⟨⟨i+1,_,rfl,I,ac,aY,λj=>(aV j).trans (O j),(R.ext J).ab P.ab λq o hf=>Z q hf o,λf hf A=>?_,λz t=>?_,λq o N=>?_⟩,by show((zs.length:Int)-((i+1:Nat):Int)).toNat<((zs.length:Int)-(i:Int)).toNat;omega⟩
   .have hf:f∈g.an.set k {g.an[k] with fS:=false}:=hf
    obtain⟨b,T,rfl⟩:=fh hf;have ai:b<g.an.length:=by simpa using T
    by_cases e:k=b
    .subst e
     simp[Fr.gX]at A
    .simp only[fG e]at A⊢
     have F:=Y _ (cE ai) A;rw[a0]at F;rcases cU.1 F with U|U
     .unfold Fr.gX at A
      rw[dZ]at A;exact absurd (p.inv.un k b H ai av A.1 (by rw[ax,U])) e
     .exact U
   .obtain⟨f,f1,f2,f3⟩:=hex z t
    obtain⟨b,T,rfl⟩:=fh f1;by_cases e:k=b
    .subst e
     exact⟨{g.an[k] with fS:=false},List.mem_set H _,f2,f3⟩
    .exact⟨g.an[b],List.mem_iff_getElem.2 ⟨b,by show b<(g.an.set k _).length;rw[df];exact T,by show(g.an.set k _)[b]'_=_;rw[fG e]⟩,f2,f3⟩
   .rcases P.c5 q o with F|F
    .exact Z q F N
    .have:=R.lt q N;omega
 .have G:i=zs.length:=by
   have:¬(i:Int)<(s.len:Int):=cu ay;omega
  have S:∀f∈g.an,f.gX=false:=λf hf=>by
   cases A:f.gX with
   |false=>rfl
   |true=>
    have:=Y f hf A;rw[G,List.drop_length]at this
    cases this
  have al:g.D.b3.getD 3 0=C.D.b3.getD 3 0:=congrArg Prod.snd l.bh;rw[←l.c];refine⟨_,rfl,_,p.raw.cells.1,(yK p.raw.dev I).use ?_⟩;have aP:=l.ab.size;rintro v2 ah (⟨y,rfl,E,r⟩|⟨y,rfl,E,r⟩)
  .obtain⟨fL,dH⟩:=yL p E rfl (p.inv.cA 3) (λj=>rQ g.D 3 j) (r.mono λq _ e=>.inl e) λq o=>.inl o
   refine⟨3,rfl,{g with D:=g.D.cA 3},fL,l.c,l.d,l.len,l.n,l.ng,l.r1,by show g.D.aR<=_;omega,λm K=>r5 _ (l.calm m (fH K I)),cy l.ab r λq o e=>(l.c5 q (.inr (.inr (.inl e)))).resolve_right I,l.c5,λj=>(dH j).trans (O j),.inr ⟨rfl,congrArg (λk=>k.1.1) l.bh,.inr ?_⟩⟩;unfold aZ.fR at y⊢;rw[←al];exact y
  .have am:∀q,bX (g.D.cA 3).jg q->bX g.D q\/Q.heap.size<=q:=by
    rintro q (e|e|e|⟨x,hx,e⟩)
    .exact .inl (.inl e)
    .exact .inl (.inr (.inl e))
    .exact .inl (.inr (.inr (.inl e)))
    .cases hx
   have a1:∀j,(g.D.cA 3).jg.now j=g.D.now j:=λj=>by
    by_cases L:j<g.D.n
    .exact(yJ (g.D.cA 3) L).trans (rQ g.D 3 j)
    .have F:g.D.jg.now j=g.D.now j:=CL p.raw.dev j
     exact F
   obtain⟨fL,dH⟩:=yL p E rfl ⟨r4 (g.D.cA 3),λ_ h=>h,λj L=>by
    have L:g.D.bI j=true:=L;have e:g.D.ep j=[]:=by rw[l.ng.2];exact ao j (by rw[←l.ng.1];exact L)
    exact e.symm⟩ a1 r am
   refine⟨0,rfl,{g with D:=(g.D.cA 3).jg},fL,l.c,l.d,l.len,(r4 (g.D.cA 3)).trans l.n,l.ng,l.r1,by show g.D.aR<=_;omega,λm K=>r5 g.D (l.calm m (fH K I)),cy l.ab r λq o e=>(l.c5 q (.inr (.inr e))).resolve_right I,λq o=>?_,λj=>(dH j).trans (O j),.inl ⟨rfl,rfl,S,?_⟩⟩
   .rcases o with e|e|e
    .exact l.c5 q (.inl e)
    .exact l.c5 q (.inr (.inl e))
    .rcases am q e with e|e
     .exact l.c5 q (.inr (.inr e))
     .exact .inr I
   .show(g.D.b3.set 3 _).getD 3 0=_
    have a_:=p.raw.dev.f4;rw[fl (by rw[df];omega),ie,al]
end
def g4(aY d c sb:Nat)(l:fC)(u:cZ)(gen now first pending keys:Nat)(failed:ai):O aa:=
 [.pointer (some aY),.pointer (some d),.pointer (some c),.pointer (some sb),l.an,l.batch,.int .u64 (l.dX:Nat),
  u.root,u.aH,u.map,.int .u64 (u.clock:Nat),.int .u64 (u.bY:Nat),u.keys,
  .int .u64 (gen:Nat),.int .u64 (now:Nat),.int .u64 (first:Nat),pending,keys,failed]
section
variable {w w':J}{D:aZ}
structure CM(D:aZ)(l:fC)(u:cZ)(gen sb:Nat)(w:J)(v:aa)(w':J)(c aT aY st:Nat):Prop where
 val:v=.tuple #[.pointer (some st),(0:Int)]
 ca:er (λ_=>False) w' (iO c aT l.an D)
 di:Var w' aY [.pointer (some c),.pointer (some sb),.int .u64 ((gen+1:Nat):Int),u.root,u.aH] 239
 sv:Var w' st (g4 aY D.d c sb l u gen u.clock 0 0 u.keys false) 158
 x:Ext w w'
 hc:w.heap.size<=c/\c<aY
 hf:w.heap.size<=aT/\aT<aY
 ht:aY<st
def aZ.gk(D:aZ)(s:Nat->ai)(z:Nat->O cW):aZ:={D with bI:=s,ep:=z}
theorem cx.gk(h:cx w D)(s:Nat->ai)(z:Nat->O cW):cx w (D.gk s z):=⟨h.v,h.l,h.m,h.ws,h.wn,h.sl,h.j6,h.bW,h.bw,h.f4,h.fr,h.a1,h.a2,h.a3,h.r⟩
theorem mW(h:cx w D){l:fC}(q:8<=l.an/\l.an<=64){u:cZ}(hu:qo D.n (u.root:Nat) (u.aH:Nat)){gen:Nat}(hg:gen+1<18446744073709551616)(s:∀j,D.bI j=true->D.dB j=D.ep j)(sb:Nat):
 aQ aj 78 #[.pointer (some D.d),.agg l.c.toArray,.agg u.c.toArray,.int .u64 (gen:Nat),.pointer (some sb)] w (λv w'=>∃c aT aY st,CM D l u gen sb w v w' c aT aY st):=by
 refine af.Ev _ (l.an:Nat) (l.batch:Nat) (l.dX:Nat) (u.root:Nat) (u.aH:Nat) (u.map:Nat) (u.clock:Nat) (u.bY:Nat) (u.keys:Nat) (gen:Nat) (some sb) w _ ?_;(delta af.mW r1 U du ak bD nR;dsimp only);refine bj (vs:=l.c) rfl λw1 t i H=>bj (vs:=u.c) rfl λah x b J=>?_;have r:=t.ext b;have y:=h.ext (i.trans b);refine⟨_,r.cell,(pD y q.1 q.2 s).use ?_⟩;rintro _ a ⟨c,aT,rfl,e,f,K,L⟩;have k:=x.ext f;have z:IntKind.wrap .u64 ((gen:Int)+1)=((gen+1:Nat):Int):=by rw[gQ I I];omega
 rw[z];have M:(iO c aT l.an D).D=D:=rfl;refine⟨_,0,rfl,λh=>(by cases h),λ_=>⟨_,k.cell,_,by rw[aw];exact k.cell,(nZ e.raw sb ((gen+1:Nat):Int) (u.root:Nat) (u.aH:Nat)).use ?_⟩⟩;rintro _ A (⟨_,rfl,g,B,N⟩|⟨C,_⟩)
 rotate_left
 .exact absurd hu C
 have m:=k.ext g;have o:=(r.ext f).ext g;have O:=(i.trans b).size;have P:=f.size;have E:c<a.heap.size:=e.raw.lt (.inl rfl);have F:aT<a.heap.size:=e.raw.lt (.inr (.inl rfl));refine⟨_,0,rfl,λh=>(by cases h),λ_=>⟨_,o.cell,_,by rw[aw];exact o.cell,_,by rw[aw];exact o.cell,gW m ⟨_,by rw[aw];exact m.cell,_,by rw[aw];exact m.cell,(g4 a.heap.size D.d c sb l u gen u.clock 0 0 u.keys false).toArray,by kernel_rfl,bj (vs:=g4 a.heap.size D.d c sb l u gen u.clock 0 0 u.keys false) rfl λQ G p R=>?_⟩⟩⟩;exact⟨c,aT,a.heap.size,A.heap.size,rfl,(e.ext g).ext p,B.ext p,G,Ext.trans (Ext.trans (i.trans b) f) (Ext.trans g p),⟨I,E⟩,⟨I,F⟩,I⟩
def fM(f:Nat->ai)(k:Nat):O UInt8:=(List.range k).map λi=>UInt8.ofNat (byteOf f i)
theorem CN(f:Nat->ai)(k:Nat):aJ (fM f k)=e2 f k:=by
 unfold aJ fM e2;rw[iA];refine List.map_congr_left λi _=>?_;have:=j8 f i;show Value.int .u8 (((UInt8.ofNat (byteOf f i)).toNat:Nat):Int)=_;rw[UInt8.toNat_ofNat',jC this]
theorem oN(f:Nat->ai)(k:Nat):(fM f k).length=k:=by simp[fM]
def kg:cZ:=⟨0,0,2,0,0,0⟩
structure CO(D az:aZ):Prop where
 d:az.d=D.d
 n:az.n=D.n
 now:∀j,az.now j=if j=1 then eI 1 (jf kg D.n 1) else if j=2 then eI 2 ⟨4,1,fM (λi=>decide (i<3)) ((D.n+7)/8)⟩ else if j=0 then gz else D.now j
 waits:az.waits=[]
 aR:az.aR=D.aR+4
 calm:∀k,az.calm k
 b3:az.b3.getD 3 0= -1
 bI:az.bI=λi=>decide (i<3)
 ep:az.ep=λ_=> []
 r:az.r1=D.r1
structure H2(D:aZ)(l:fC)(w:J)(v:aa)(w':J)(az:aZ)(sb:Nat)(s1 s2:Y)(c aT aY st:Nat)(jc:J):Prop where
 CP:CM az l kg 1 sb jc v w' c aT aY st
 sp:eZ w' sb D.n (λi=>decide (i<3)) (λi=>decide (i<3)) s1 s2
 pZ:CO D az
 ab:ad (bX D) w jc
 r6:∀q,fz sb s1 s2 q->w.heap.size<=q/\q<jc.heap.size
 dq:∀q,bX az q->bX D q\/(w.heap.size<=q/\q<jc.heap.size)
 H3:∀q,fz sb s1 s2 q->¬bX az q
theorem nV(h:cx w D){l:fC}(ap:kK (l.an:Nat) (l.batch:Nat) (l.dX:Nat))(bl:∀k,D.calm k)(nd:D.b3.getD 3 0= -1)(b5:D.aR<=999999000):
 aQ aj 19 #[.pointer (some ⟨D.d,0,none⟩),.agg l.c.toArray] w (λv w'=>∃az sb s1 s2 c aT aY st jc,H2 D l w v w' az sb s1 s2 c aT aY st jc):=by
 have b6:=h.bW;have b7:=h.bw;refine af.Es _ (l.an:Nat) (l.batch:Nat) (l.dX:Nat) w _ ?_;(delta af.nV r1 U bD aM ak aC du bc b_ ku jo au g8;dsimp only);refine bj (vs:=l.c) rfl λw1 Q J b8=>⟨_,Q.cell,_,by rw[aw];exact Q.cell,_,by rw[aw];exact Q.cell,(nX w1 _ _ _ _).use ?_⟩;rintro _ bm ⟨rfl,C⟩;have bn:=h.ext (J.trans C);refine⟨_,rfl,λr=>?_,λ_=>(p9 bn).use ?_⟩
 .rw[dK ap]at r;cases r
 rintro _ _ ⟨rfl,rfl⟩;refine⟨_,rfl,(py bm (D.n:Nat) 3).use ?_⟩;rintro _ b9 (⟨bo,_⟩|⟨_,_,_,_,sb,s1,s2,rfl,hs,aa,ac⟩)
 .exact absurd ⟨I,I,I,I⟩ bo
 rw[dc]at hs;have ae:Int.toNat 3=3:=rfl;rw[ae]at hs;refine⟨_,0,rfl,λh=>(by cases h),λ_=>(BR hs).use ?_⟩;rintro _ bq ⟨aN,rfl,aO,K,ca⟩;rw[←CN]at aO;obtain⟨mp,R⟩:∃mp:iq,mp=⟨4,1,fM (λi=>decide (i<3)) ((D.n+7)/8)⟩:=⟨_,rfl⟩;have aP:m9 mp:=by rw[R];exact⟨(by decide:1<=4),(by decide:4<=4),(by decide:1<18446744073709551616),by show(fM _ _).length<=232;rw[oN];omega⟩
 have aS:=vw (s:=aN) (p:=mp) (no:=2) (w:=bq) (by rw[R];exact aO.src) (by decide) aP;rw[R]at aS;refine⟨aN,rfl,aS.use ?_⟩;rw[←R];rintro _ br ⟨F,rfl,aU,N,bs⟩;have aV:=Ext.trans (Ext.trans (J.trans C) aa) (Ext.trans K N);have cb:=aV.size;refine⟨F,0,rfl,λh=>(by cases h),λ_=>⟨⟨I,I,I,I⟩,?_⟩⟩;rw[xI];have bt:Int.toNat 256=256:=rfl;rw[bt];have aq:gz.length=256:=mL;refine bj (vs:=aJ gz) rfl λB S G cc=>?_;obtain⟨y,bu⟩:∃y,y=br.heap.size:=⟨_,rfl⟩;rw[←bu]at S⊢;have ag:=Ext.trans aV G;have aW:Src 1 B ⟨some ⟨y,0,none⟩,256,256⟩ (aJ gz):=S.AL (o:=0) (n:=256) (c:=256) (l:=gz) (by rw[ez,aq];exact bp _) (by rw[ln,dM (by rw[ez,aq];exact bp _)]);refine⟨#[.slice (some ⟨y,0,none⟩) 256 256,.slice (some ⟨y,0,none⟩) 256 256,.slice F.a F.len F.cap],by kernel_rfl,?_⟩;have bv:(eI 2 mp).length=256:=rH _ aP;obtain⟨vals,av⟩:∃vals:Nat->cW,vals=λj=>if j=2 then eI 2 mp else gz:=⟨_,rfl⟩
 have bz:∀j,(vals j).length=256:=λj=>by
  rw[av];show(if j=2 then _ else _:cW).length=256;split
  .exact bv
  .exact aq
 have bA:∀k,k<3->∃H:Y,cellAt #[.slice (some ⟨y,0,none⟩) 256 256,.slice (some ⟨y,0,none⟩) 256 256,.slice F.a F.len F.cap] (Int.toNat ((k:Nat):Int)*1)=some (.slice H.a H.len H.cap)/\Src 1 B H (aJ (vals k))/\∀q,aB H q->w.heap.size<=q/\q<B.heap.size:=by
  intro k aX;have bB:=S.lt;have cd:=G.size;rw[av];have hi:∀q,aB (⟨some ⟨y,0,none⟩,256,256⟩:Y) q->w.heap.size<=q/\q<B.heap.size:=λq b=>by
   obtain⟨A,ar,rfl⟩:=b
   cases ar;show w.heap.size<=y/\y<_;exact⟨I,bB⟩
  have ce:=(Ext.trans (Ext.trans (J.trans C) aa) K).size
  match k,aX with
  |0,_=>exact⟨⟨some ⟨y,0,none⟩,256,256⟩,rfl,aW,hi⟩
  |1,_=>exact⟨⟨some ⟨y,0,none⟩,256,256⟩,rfl,aW,hi⟩
  |2,_=>exact⟨F,rfl,aU.src.ext G,λq b=>by have:=bs q b;have:=aU.lt q b;omega⟩
 have bC:=h.ext ag;refine⟨λn w'=>∃ (k:Nat) (g:aZ),n=(k:Int)/\k<=3/\cx w' g/\g.d=D.d/\g.n=D.n/\(∀j,g.now j=if j<k then vals j else D.now j)/\g.aR=D.aR+k/\(∀m,g.calm m)/\(g.b3.getD 3 0= -1/\g.r1=D.r1)/\ad (bX D) B w'/\(∀q,bX g q->bX D q\/B.heap.size<=q),
  λn _=>((3:Int)-n).toNat,⟨0,D,rfl,cG _,bC,rfl,rfl,λj=>rfl,rfl,bl,⟨nd,rfl⟩,.refl _ _,λq b=>.inl b⟩,?_⟩
 rintro _ cf ⟨k,g,rfl,aX,O,ah,a0,a1,bE,ax,⟨ay,a2⟩,ai,L⟩;have cg:=ai.size;refine⟨λaK=>?_,λbF=>?_⟩
 .have aA:k<3:=by
   have:((k:Nat):Int)<3:=b1 aK;omega
  obtain⟨H,bG,bH,a3⟩:=bA k aA;have c7:∀q,aB H q->¬bX D q:=λq b hf=>by have:=(a3 q b).1;have:=h.lt hf;omega
  have a4:=vE O (i:=k) I I (bH.ab ai c7) (bz k) λq b hf=>by
   rcases L q hf with h1|h1
   .exact c7 q b h1
   .have:=(a3 q b).2;omega
  rw[ah]at a4;refine⟨⟨I,I⟩,H,bG,a4.use ?_⟩;rintro _ ch (⟨r,_⟩|⟨r,rfl,s,bI,bJ,bK⟩)
  .have:=(jI (k:=2) (m:=0) (.inr rfl) O.f4 (ax 1)).2
   rw[r]at this;cases this
  refine⟨0,rfl,λh=>(by cases h),λ_=>?_⟩;have bL:IntKind.wrap .i64 (((k:Nat):Int)+1)=((k+1:Nat):Int):=by rw[bx I I];omega
  rw[bL];refine⟨⟨k+1,_,rfl,I,bI,ah,a0,λj=>?_,by show g.aR+1=_;omega,λm=>(jI (.inr rfl) O.f4 (ax _)).1,⟨(congrArg Prod.snd (p_ g (.inr rfl))).trans ay,a2⟩,cy ai bJ λq b hf=>(L q hf).resolve_right I,λq b=>?_⟩,by show((3:Int)-((k+1:Nat):Int)).toNat<((3:Int)-((k:Nat):Int)).toNat;omega⟩
  .rw[oD,a1]
   by_cases e:j=k
   .rw[if_pos e,if_pos I,e]
   .rw[if_neg e]
    by_cases T:j<k
    .rw[if_pos T,if_pos I]
    .rw[if_neg T,if_neg I]
  .rcases vV bK q b with h1|h1
   .exact L q h1
   .exact .inr I
 have aA:k=3:=by
  have:¬((k:Nat):Int)<3:=cu bF;omega
 subst aA;have hf:=yK O I;rw[ah]at hf;refine hf.use ?_;rintro _ a5 (⟨r,_⟩|⟨_,rfl,aD,bM⟩)
 .unfold aZ.fR at r
  rw[ay]at r;cases r
 obtain⟨cq,E⟩:∃cq,cq=(g.cA 3).jg:=⟨_,rfl⟩;rw[←E]at aD;have a6:cq.d=D.d:=by rw[E];exact ah
 have a7:cq.n=D.n:=by rw[E];exact(r4 _).trans a0
 have bN:cq.r1=D.r1:=by rw[E];exact a2
 have bO:∀j,cq.now j=if j<3 then vals j else D.now j:=λj=>by
  rw[←a1,E];have aE:g.jg.now j=g.now j:=CL O j;exact aE
 have ci:cq.aR=D.aR+3:=by rw[E];exact bE
 have a8:∀m,cq.calm m:=λm=>by rw[E];exact r5 _ (ax m)
 have a9:cq.b3.getD 3 0= -1:=by
  rw[E];show(g.b3.set 3 _).getD 3 0=_;have bP:=O.f4;rw[fl (by rw[df];omega),ie,ay];rfl
 have al:∀q,bX cq q->bX D q\/B.heap.size<=q:=λq b=>by
  rw[E]at b;rcases b with e|e|e|⟨x,hx,e⟩
  .exact L q (.inl e)
  .exact L q (.inr (.inl e))
  .exact L q (.inr (.inr (.inl e)))
  .cases hx
 have am:ad (bX D) B a5:=cy ai bM λq b hf=>(L q hf).resolve_right I;have V:∀q,w.heap.size<=q->¬bX D q:=λq b hf=>by have:=h.lt hf;omega
 have bQ:=((Q.ext (C.trans (Ext.trans aa (Ext.trans K (Ext.trans N G))))).ab am (V _ (bp _)));have bR:=(hs.ext (Ext.trans K (Ext.trans N G))).ab am λq b=>V q (by have:=ac q b;have:=(J.trans C).size;omega);refine⟨0,rfl,λh=>(by cases h),λ_=>bj (vs:=gC.c) rfl λcj bS bT ck=>jN bS rfl kg λbU a_ bV cl=>gW a_ ?_⟩;have W:Ext a5 bU:=Ext.cn bT bV (bp _);have X:=aD.ext W;have ba:=mV X I (u:=kg) ⟨(by decide:0<4294967296),(by decide:0<256),(by decide:2<4294967296),(by decide:0<18446744073709551616),(by decide:0<18446744073709551616),(by decide:0<4294967296)⟩ (gen:=1) (by decide);rw[a6]at ba;refine ba.use ?_;have cm:=W.size;have co:=am.size;rintro _ bb ⟨ao,⟨r,_⟩|⟨_,s,bY,f,z,⟨r,_⟩|⟨_,rfl,Z⟩⟩⟩
 .have:=(jI (k:=2) (m:=0) (.inr rfl) X.f4 (a8 1)).2
  rw[r]at this;cases this
 .have aF:f.b3.getD 3 0= -1:=by rw[z];exact(congrArg Prod.snd (p_ cq (.inr rfl))).trans a9
  unfold aZ.fR at r;rw[aF]at r;cases r
 have aF:f.b3.getD 3 0= -1:=by rw[z];exact(congrArg Prod.snd (p_ cq (.inr rfl))).trans a9
 obtain⟨M,t⟩:∃M,M=((f.cA 3).jg).gk (λi=>decide (i<3)) (λ_=> []):=⟨_,rfl⟩;have Z:=Z.gk (λi=>decide (i<3)) (λ_=> []);rw[←t]at Z;have bZ:∀x∈f.waits,x.i<f.n:=λx hx=>by
  rw[z]at hx⊢;rcases cU.1 hx with rfl|hx
  .show 1%2<cq.n;omega
  .exact(X.wn x (hJ.1 hx).1).2.1
 have b0:∀j,M.now j=if j=1 then eI 1 (jf kg D.n 1) else if j<3 then vals j else D.now j:=λj=>by
  have aE:M.now j=f.now j:=by
   rw[t];by_cases bd:j<f.n
   .exact(yJ (f.cA 3) bd).trans (rQ f 3 j)
   .have P:f.now j=[]:=by
     unfold aZ.now
     cases hf:f.waits.find? λx=>x.i==j with
     |some x=>
      have hx:=jB hf;have he:x.i=j:=by simpa using kj hf
      have:=bZ x hx;omega
     |none=>
      have:¬j<f.bh.length:=bd;show f.bh.getD j []=[];rw[fq,kk I];rfl
    rw[P];show((List.range (f.cA 3).n).map (f.cA 3).now).getD j []=[];rw[fq,kk (by simp;show f.n<=j;omega)];rfl
  rw[aE,z,oD,bO,a7]
 have aG:CO D M:=by
  refine⟨by rw[t,z];exact a6,by rw[t];exact(r4 (f.cA 3)).trans (by rw[z];exact a7),λj=>?_,by rw[t];rfl,by rw[t,z];show cq.aR+1=_;omega,λm=>by rw[t,z];exact r5 (cq.put (1%2) s (eI (1%2) (jf kg cq.n 1))) (jI (.inr rfl) X.f4 (a8 _)).1,?_,by rw[t];rfl,by rw[t];rfl,by rw[t,z];exact bN⟩
  .rw[b0,av,←R]
   by_cases P:j=1
   .rw[if_pos P,if_pos P]
   .rw[if_neg P,if_neg P]
    by_cases T:j=2
    .subst T;rfl
    .by_cases ae:j=0
     .subst ae;rfl
     .rw[if_neg I,if_neg T,if_neg ae]
  .rw[t]
   show(f.b3.set 3 _).getD 3 0=_;have bP:f.b3.length=4:=by rw[z];show(cq.b3.set 2 _).length=4;rw[df];exact X.f4
   rw[fl (by rw[df];omega),ie,aF];rfl
 have be:∀q,bX M q->bX D q\/B.heap.size<=q:=λq b=>by
  rw[t]at b;have h1:bX f q:=by
   rcases b with e|e|e|⟨x,hx,e⟩
   .exact .inl e
   .exact .inr (.inl e)
   .exact .inr (.inr (.inl e))
   .cases hx
  rw[z]at h1;rcases vV bY q h1 with h2|h2
  .exact al q h2
  .exact .inr I
 have bf:ad (bX D) B bb:=cy (cy am W λq _ h=>h.elim) ao λq b hf=>(al q hf).resolve_right I;have aH:=(bQ.ext W).ab ao λhf=>by
  rcases al _ hf with h1|h1
  .exact V _ (bp _) h1
  .have:=ag.size;have:=S.lt;have:=Q.lt;have:=C.size;have:=aa.size;have:=K.size;have:=N.size;have:=G.size;omega
 have b2:=a_.ab ao λhf=>by
  have:=aD.lt hf;omega
 have bg:=(bR.ext W).ab ao λq b hf=>by
  have bi:=ac q b;have aI:=(hs.ext (Ext.trans K (Ext.trans N (ad.refl _ _)))).lt q b;rcases al _ hf with h1|h1
  .exact V q (by have:=(J.trans C).size;omega) h1
  .have:=G.size;omega
 have cp:=bf.size;have S:=ag.size;have bk:=mW Z (l:=l) (u:=kg) (gen:=1) ⟨by have:=ap.1;omega,by have:=ap.2.1;omega⟩ ⟨by decide,by decide,by decide,by rw[aG.n];show(0:Int)<_;omega,by decide⟩ (by decide) (λj _=>by rw[t];rfl) sb;rw[aG.d]at bk;refine⟨0,rfl,λh=>(by cases h),λ_=>⟨_,aH.cell,_,by rw[aw];exact aH.cell,_,by rw[aw];exact aH.cell,gW b2 (bk.use ?_)⟩⟩;rintro _ cr ⟨c,aT,aY,st,aL⟩;have b4:=aL.val;subst b4;refine⟨_,0,rfl,M,sb,s1,s2,c,aT,aY,st,bb,aL,bg.ext aL.x,aG,cy (ag.mono λ_ _ h=>h.elim) bf λq _ h=>h,λq b=>?_,λq b=>?_,λq b hf=>?_⟩
 .have bi:=ac q b
  have aI:=bg.lt q b;have:=(J.trans C).size;exact⟨I,aI⟩
 .rcases be q b with h1|h1
  .exact .inl h1
  .exact .inr ⟨I,Z.lt b⟩
 .have bi:=ac q b
  have aI:=(hs.ext (Ext.trans K (Ext.trans N (ad.refl _ _)))).lt q b;rcases be _ hf with h1|h1
  .exact V q (by have:=(J.trans C).size;omega) h1
  .have:=G.size;omega
end
theorem gj.rising{T:aN}{pages:O Nat}{L:O aI}(h:gj T pages L):gJ L:=by
 rcases h with ⟨_,_,_,a⟩|b
 .rw[a];exact List.Pairwise.nil
 .exact b.fb.1
section
variable {w0 w w':J}{vW a8:Nat}{T ao:aN}{r h k:Nat}{pages:O Nat}{L cV:O aI}{ms:Y}
theorem bL.kh{iQ:Nat}(ht:bL w T)(a:T.E iQ)(hc:ad (λq=>q=iQ) w w'):bL w' T:=
 ht.grow (E:=T.E) (G:=T.G) hc (λq e _=>.inl (by rw[e];exact a)) (λq a=>.inl a) (λq a=>.inr (.inl a)) λq a=>(ht.c6 q a).2.2
end
def aN.vX(T:aN)(f g:Nat->ai)(s1 s2:Y):aN:={T with f:=f,g:=g,s1:=s1,s2:=s2}
def aN.b7(T:aN)(aY gen root aH:Nat)(E:Nat->Prop):aN:={T with aY:=aY,gen:=gen,root:=root,aH:=aH,E:=E}
section
variable {w0 w w':J}{vW a8:Nat}{T ao:aN}{r h k:Nat}{pages:O Nat}{L cV:O aI}{ms:Y}
theorem bL.space{f g:Nat->ai}{s1 s2:Y}(ht:bL w T)(hs:eZ w' T.sb T.n f g s1 s2)(hc:ad (fz T.sb T.s1 T.s2) w w')(hf:∀k,fz T.sb s1 s2 k->fz T.sb T.s1 T.s2 k\/w.heap.size<=k)(d:∀j,T.C.D.bI j=true->g j=true\/T.C.D.ro)(e:g 0=true/\g 1=true):
 bL w' (T.vX f g s1 s2)/\∀q,(T.vX f g s1 s2).M q->T.M q\/w.heap.size<=q:=by
 have c:∀q,T.X q->¬fz T.sb T.s1 T.s2 q->¬fz T.sb s1 s2 q:=λq hx a h2=>by
  rcases hf q h2 with b|b
  .exact a b
  .have:=ht.lt (q:=q) (.inr hx);omega
 refine⟨⟨ht.t.ab hc ht.js,hs,ht.ca.grow hc (λq a _=>.inr (.inl a)) λq a=>?_,c _ (.inl rfl) ht.js,λq a=>⟨(ht.c6 q a).1,c q (.inr (.inr (.inl a))) (ht.c6 q a).2.1,(ht.c6 q a).2.2⟩,λq a=>⟨(ht.hD q a).1,c q (.inr (.inr (.inr a))) (ht.hD q a).2⟩,ht.n,ht.num,ht.eA,d,e⟩,λq a=>?_⟩
 .rcases a with a|a|a|a
  .exact .inl (.inl a)
  .rcases hf q a with b|b
   .exact .inl (.inr (.inl b))
   .exact .inr ⟨b,hs.lt q a⟩
  .exact .inl (.inr (.inr (.inl a)))
  .exact .inl (.inr (.inr (.inr a)))
 .rcases a with a|a|a|a|a
  .exact .inl (.inl a)
  .exact .inl (.inr (.inl a))
  .exact(hf q a).imp (λh=>.inr (.inr (.inl h))) id
  .exact .inl (.inr (.inr (.inr (.inl a))))
  .exact .inl (.inr (.inr (.inr (.inr a))))
theorem bL.tree{aY gen root aH:Nat}{E:Nat->Prop}(ht:bL w T)(hx:Ext w w')(g:Var w' aY (k7 (T.b7 aY gen root aH E)) 239)(c:T.E aY\/w.heap.size<=aY)(d:∀q,E q->q≠aY/\(T.E q\/q=T.aY\/(w.heap.size<=q/\q<w'.heap.size)))
 (i:root<T.n/\aH<=12/\gen<18446744073709551616) (j:∀no bn,T.P no=some bn->no<T.n/\gM gen bn.leaf no (T.C.view no) bn):bL w' (T.b7 aY gen root aH E):=by
 have l:=g.lt;have h1:¬fz T.sb T.s1 T.s2 aY:=λh=>by
  rcases c with h2|h2
  .exact(ht.c6 _ h2).2.1 h
  .have:=ht.lt (q:=aY) (.inr (.inr (.inl h)));omega
 have h2:∀q,T.G q->q≠aY:=λq a e=>by
  rcases c with h2|h2
  .rw[e]at a;exact(ht.c6 _ h2).2.2 a
  .have:=ht.lt (q:=q) (.inr (.inr (.inr (.inr a))));omega
 have k:∀q,E q->¬fz T.sb T.s1 T.s2 q/\¬T.G q:=λq a=>by
  rcases(d q a).2 with b|b|b
  .exact(ht.c6 q b).2
  .rw[b]
   exact⟨ht.js,λhg=>(ht.hD _ hg).1 rfl⟩
  .exact⟨λf=>by have:=ht.lt (q:=q) (.inr (.inr (.inl f)));omega,λf=>by have:=ht.lt (q:=q) (.inr (.inr (.inr (.inr f))));omega⟩
 refine⟨g,ht.s.ext hx,ht.ca.grow (W:=λ_=>False) hx (λ_ h=>h.elim) λq a=>?_,h1,λq a=>⟨(d q a).1,k q a⟩,λq a=>⟨h2 q a,(ht.hD q a).2⟩,ht.n,i,j,ht.bI,ht.low⟩;rcases a with a|a|a|a
 .have a:q=aY:=a
  rcases c with b|b
  .exact .inl (.inr (.inr (.inl (by rw[a];exact b))))
  .exact .inr ⟨I,I⟩
 .exact .inl (.inr (.inl a))
 .rcases(d q a).2 with b|b|b
  .exact .inl (.inr (.inr (.inl b)))
  .exact .inl (.inl b)
  .exact .inr b
 .exact .inl (.inr (.inr (.inr a)))
theorem gj.agree{p:O Nat}(a:gj T p L)(b:ao.root=T.root)(c:ao.aH=T.aH)(d:∀x∈p,T.P x=ao.P x):gj ao p L:=by
 unfold gj at a⊢;rw[b,c];exact a.imp id λe=>(e.agree d).1
end
theorem eo.node{P:Nat->aq aD}:∀ (h:Nat) {lo hi:aq Key}{no:Nat}{p:O Nat}{L:O aI},eo P h lo hi no p L->∀x∈p,∃bn,P x=some bn
 |0,_,_,_,_,_,a=>a.elim
 |h+1,_,_,no,p,_,a=>by
  obtain⟨n,d,h1,_,_,rfl,_,hc⟩:=a.Cu
  intro x hx
  rcases cU.1 hx with rfl|hx
  .exact⟨n,h1⟩
  .rcases hc with ⟨_,_,rfl,_⟩|⟨_,ps,e,f,g,rfl,_,he⟩
   .cases hx
   .obtain⟨l,b,c⟩:=List.mem_flatten.1 hx
    obtain⟨i,hi,rfl⟩:=fh b
    exact eo.node h (he i I hi I) x c
theorem yM(f:Nat->ai):∀ (n:Nat) (x:Int),x∈jJ f n↔∃k:Nat,x=(k:Int)/\k<n/\f k=true
 |0,x=>by simp[jJ]
 |n+1,x=>by
  rw[jJ,cT,yM f n x]
  constructor
  .rintro(⟨k,h1,h2,a⟩|h)
   .exact⟨k,h1,I,a⟩
   .split at h
    .exact⟨n,fo.1 h,I,by assumption⟩
    .cases h
  .rintro⟨k,h1,h2,a⟩
   rcases dJ k n with b|b
   .exact .inl ⟨k,h1,b,a⟩
   .have:k=n:=by omega
    subst this
    right
    rw[if_pos a,h1];simp
theorem yN(f:Nat->ai):∀n,(jJ f n).Pairwise λa b=>a<b
 |0=>List.Pairwise.nil
 |n+1=>by
  rw[jJ]
  refine mH.2 ⟨yN f n,by split<;>simp,λa d b c=>?_⟩
  obtain⟨k,h1,h2,_⟩:=(yM f n a).1 d
  split at c
  .have:=fo.1 c;omega
  .cases c
theorem H4{f:Nat->ai}{n:Nat}{es:O Nat}(h1:es.Pairwise λa b=>a<b)(h2:∀x,x∈es↔x<n/\f x=true):ef es=mo f n:=by
 have e:(es.map λd=>((d:Nat):Int)).Perm (jJ f n):=by
  refine(List.perm_ext_iff_of_nodup ?_ ?_).2 λx=>?_
  .exact List.Pairwise.map _ (λa b g=>by show((a:Nat):Int)≠((b:Nat):Int);omega) h1
  .exact(yN f n).imp λh=>by omega
  .rw[yM,eE]
   constructor
   .rintro⟨k,c,rfl⟩
    exact⟨k,rfl,(h2 k).1 c⟩
   .rintro⟨k,rfl,c⟩
    exact⟨k,(h2 k).2 c,rfl⟩
 have he:(es.map λd=>((d:Nat):Int))=jJ f n:=by
  refine e.eq_of_pairwise (le:=λx y=>x<=y) (λx y _ _ h1 h2=>I) ?_ ((yN f n).imp λh=>I);exact List.Pairwise.map _ (λa b g=>by show((a:Nat):Int)<=((b:Nat):Int);omega) h1
 rw[yy,he];rfl
section
variable {w0 w w':J}{vW a8:Nat}{T ao:aN}{r h k:Nat}{pages:O Nat}{L cV:O aI}{ms:Y}
theorem CQ{s:Y}(h:mT aj w 5 s):∃l:O UInt8,Src 1 w s (aJ l):=by
 obtain⟨l,h1,_,_⟩:=h.src (c:=λc:UInt8=> [Value.int .u8 (c.toNat:Int)]) (sz:=1) (by kernel_rfl) (λ_=>True) λfuel us b=>by
  obtain⟨n,rfl,h2,d⟩:=q0 b (k:=.u8) (by kernel_rfl);have g:=z2 h2 d;refine⟨UInt8.ofNat n.toNat,?_,trivial⟩;simp only[UInt8.toNat_ofNat']
  congr 2
  omega
 have e:∀l:O UInt8,(l.map λc:UInt8=> [Value.int .u8 (c.toNat:Int)]).flatten=aJ l:=λl=>by
  unfold aJ
  induction l with
  |nil=>rfl
  |cons a l f=>rw[ji,sr,f];rfl
 rw[e]at h1;exact⟨l,h1⟩
end
structure g5(V:Nat->cW)(n gen:Nat)(u:cZ)(g:Nat->ai)(P:Nat->aq aD)(p:O Nat)(L:O aI):Prop where
 fr:∃j,j<n/\g j=false
 vY:gV ((gen%2:Nat):Int) (V (gen%2))=.ok (u,n,gen)
 yO:V (1-gen%2)=gz\/∃a g',gV ((1-gen%2:Nat):Int) (V (1-gen%2))=.ok (a,n,g')/\g'<gen
 mp:∃fA,fA<=gen/\dS (u.map:Int) (V u.map)=.ok ⟨4,fA,fM g ((n+7)/8)⟩
 g:∀no,g no=true↔no∈p\/no<2\/no=u.map
 bn:p.Nodup
 two:∀x∈p,2<=x/\x≠u.map/\x<n
 ok:(u.aH=0/\u.root=0/\p=[]/\L=[])\/eo P u.aH none none u.root p L
 eA:∀x∈p,∀bn,P x=some bn->gM gen bn.leaf x (V x) bn
 keys:u.keys=L.length
 fT:∀q∈L,cv q.1/\q.2.length<=24
 CR:nt u
 r7:kf u n
 CS:u.bY+1<=gen
theorem g5.agree{V a:Nat->cW}{n gen:Nat}{u:cZ}{g:Nat->ai}{P P':Nat->aq aD}{p:O Nat}{L:O aI}(h:g5 V n gen u g P p L)(ei:∀j,g j=true->a j=V j)(b:∀x∈p,P x=P' x):g5 a n gen u g P' p L:=by
 have h0:a (gen%2)=V (gen%2):=ei _ ((h.g _).2 (.inr (.inl I)));have h1:a (1-gen%2)=V (1-gen%2):=ei _ ((h.g _).2 (.inr (.inl I)));refine⟨h.fr,by rw[h0];exact h.vY,by rw[h1];exact h.yO,by rw[ei _ ((h.g _).2 (.inr (.inr rfl)))];exact h.mp,h.g,h.bn,h.two,h.ok.imp id λc=>(c.agree b).1,λx hx bn d=>?_,h.keys,h.fT,h.CR,h.r7,h.CS⟩;rw[ei _ ((h.g _).2 (.inl hx))];exact h.eA x hx bn (by rw[b x hx];exact d)
structure bZ where
 st:Nat
 T:aN
 l:fC
 u:cZ
 gen:Nat
 now:Nat
 first:Nat
 pending:Nat
 keys:Nat
 failed:ai
def bZ.V(S:bZ)(j:Nat):cW:=S.T.C.D.bh.getD j []
def bZ.cells(S:bZ):O aa:=g4 S.T.aY S.T.C.D.d S.T.C.c S.T.sb S.l S.u S.gen S.now S.first S.pending S.keys S.failed
structure gd(w:J)(S:bZ)(aG:O Nat)(aP:O aI):Prop where
 v:Var w S.st S.cells 158
 t:bL w S.T
 es:S.T.E S.st
 fU:g5 S.V S.T.n S.gen S.u S.T.g S.T.P aG aP
 gen:S.T.gen=S.gen+1
 num:S.now<18446744073709551616/\S.first<=S.now/\S.u.bY+1<=S.gen/\S.gen+2<18446744073709551616/\S.l.batch<=1000/\S.l.dX<=1048576/\1<=S.l.batch
 bI:∀j,S.T.g j=true->S.T.C.D.bI j=true
structure de(w:J)(S:bZ)(pages:O Nat)(L:O aI)(aG:O Nat)(aP:O aI):Prop extends gd w S aG aP where
 ok:gj S.T pages L
 bn:pages.Nodup
 f:∀no,S.T.f no=true↔no∈pages\/no<2\/no=S.u.map
 two:∀x∈pages,2<=x/\x≠S.u.map
 fT:∀p∈L,cv p.1/\p.2.length<=24
 keys:S.keys=L.length
 c1:S.pending<=1000
 live:S.failed=false->¬S.T.C.D.ro/\S.T.C.D.ep=(λ_=> [])/\1<=cl S.T
 dead:S.failed=true->S.T.C.D.ro/\L=aP/\pages=aG/\S.pending=0
def aZ.quiet(D:aZ):Prop:=(∀k,D.calm k)/\D.b3.getD 3 0= -1
def bZ.W(S:bZ)(q:Nat):Prop:=S.T.M q/\(S.T.E q->q=S.st)
structure c2(k:Nat)(S ay:bZ)(w w':J):Prop where
 st:ay.st=S.st
 d:ay.T.C.D.d=S.T.C.D.d
 n:ay.T.n=S.T.n
 l:ay.l=S.l
 aR:ay.T.C.D.aR<=S.T.C.D.aR+k
 q:S.T.C.D.quiet->ay.T.C.D.quiet
 ab:ad S.W w w'
 c5:∀q,ay.T.M q->S.T.M q\/w.heap.size<=q
 E:ay.T.E=S.T.E
 G:ay.T.G=S.T.G
 r:ay.T.C.D.r1=S.T.C.D.r1
section
variable {w w':J}{C:b4}{X:Nat->Prop}{T:aN}{S ay:bZ}{pages aG:O Nat}{L aP:O aI}
theorem gd.lP(h:gd w S aG aP){q:Nat}(a:S.T.N q):S.W q:=⟨aN.gh a,λhe=>absurd a (h.t.iN he)⟩
theorem gd.vZ(h:gd w S aG aP):S.W S.st:=⟨.inr (.inr (.inr (.inl h.es))),λ_=>rfl⟩
theorem c2.back{k q:Nat}(h:c2 k S ay w w')(b:q<w.heap.size)(a:ay.W q):S.W q:=⟨(h.c5 q a.1).resolve_right I,λhe=>(a.2 (by rw[h.E];exact he)).trans h.st⟩
theorem er.gk(h:er X w C){s:Nat->ai}{z:Nat->O cW}(hc:∀f∈C.an,∀j:Nat,f.full=true->f.no=j->s j=true->f.fS=false)(b:∀j,s j=true->C.D.dB j=z j):
 er X w {C with D:=C.D.gk s z}:=
 ⟨⟨h.raw.v,h.raw.f,h.raw.dev.gk s z,h.raw.bE,h.raw.bG,h.raw.hd,h.raw.a1⟩,h.inv.pins,λf hf a=>by
  obtain⟨no,av,ax,c,d,e,i,g⟩:=h.inv.ok f hf a
  exact⟨no,av,ax,c,d,e,λhs=>hc f hf no a av hs,g⟩,h.inv.un,h.inv.e7,b⟩
theorem bL.gk(h:bL w T){s:Nat->ai}{z:Nat->O cW}(hc:∀f∈T.C.an,∀j:Nat,f.full=true->f.no=j->s j=true->f.fS=false)(a:∀j,s j=true->T.C.D.dB j=z j)(hs:∀j,s j=true->T.g j=true\/∀i,s i=true):
 bL w (T.bk {T.C with D:=T.C.D.gk s z} T.P):=⟨h.t,h.s,h.ca.gk hc a,h.js,h.c6,h.hD,h.n,h.num,h.eA,hs,h.low⟩
theorem H5(h:er X w C){j:Nat}(hs:C.D.bI j=true):C.view j=C.D.now j:=by
 unfold b4.view
 cases hf:C.an.find? λf=>f.full&&f.no==(j:Int) with
 |none=>rfl
 |some f=>
  have h1:=kj hf;have h2:=jB hf;simp only[dZ,ki]at h1;obtain⟨no,av,ax,c,d,a,b,e⟩:=h.inv.ok f h2 h1.1;have:no=j:=by omega
  subst this;exact a (b hs)
theorem H6(h:er X w C){j:Nat}(hs:C.D.bI j=true)(a:C.D.ep j=[]):C.view j=C.D.bh.getD j []:=by
 rw[H5 h hs,vD _ (λx hx=>(h.raw.dev.wn x hx).1),if_pos (by rw[h.inv.kE j hs,a])]
theorem de.view(h:de w S pages L aG aP)(a:S.failed=false){j:Nat}(b:S.T.g j=true):S.T.C.view j=S.V j:=
 H6 h.t.ca (h.bI j b) (by rw[(h.live a).2.1])
theorem gd.H7(h:gd w S aG aP):qo S.T.C.D.n (S.u.root:Nat) (S.u.aH:Nat):=by
 obtain⟨h1,h2,a,_⟩:=h.fU.r7;rw[h.t.n];exact⟨I,I,I,I,I⟩
theorem gd.set(h:gd w S aG aP){i:Nat}{x:aa}(hi:i<19):(∃u:aa,w.cell? ⟨S.st,i,none⟩=some u)/\w.frozen? ⟨S.st,i,none⟩=false/\
 Var (w.setCell ⟨S.st,i,none⟩ x) S.st (S.cells.set i x) 158/\bL (w.setCell ⟨S.st,i,none⟩ x) S.T/\ad (λq=>q=S.st) w (w.setCell ⟨S.st,i,none⟩ x):=by
 obtain⟨av,ax⟩:=dP h.v (i:=i) (by exact hi);exact⟨av,ax,dT h.v (i:=i) x,h.t.kh h.es (dp w S.st i x),dp w S.st i x⟩
end
structure H8(S ay:bZ):Prop where
 u:ay.u=S.u
 gen:ay.gen=S.gen
 now:ay.now=S.now
 failed:ay.failed=true
 V:ay.T.C.D.bh=S.T.C.D.bh
 sa:∀j,ay.T.C.D.ep j=S.T.C.D.dB j
 aR:ay.T.C.D.aR=S.T.C.D.aR
section
variable {w w':J}{C:b4}{X:Nat->Prop}{T:aN}{S ay:bZ}{pages aG:O Nat}{L aP:O aI}
theorem CT(h:gd w S aG aP)(e:Int)(cF:S.T.C.D.aR<=900000000):
 aQ aj 81 #[.pointer (some S.st),e] w (λv w'=>v=e/\∃ay,de w' ay aG aP aG aP/\c2 0 S ay w w'/\H8 S ay):=by
 refine okF (af.tV (some S.st) e) aA.tV func81 ?_;(delta af.tV st aU bc ak aL r1 aM au bD du;dsimp only);have aO:=h.H7;obtain⟨av,ax,a5,cH,bw⟩:=h.set (i:=18) (x:=true) (by decide);refine⟨_,rfl,by rw[aw];exact av,by rw[aw];exact ax,aW ?_⟩;rw[aw,cB];obtain⟨bz,bA⟩:=dP a5 (i:=16) (by simp[bZ.cells,g4]);have aS:=dT a5 (i:=16) (0:Int);have ac:=bw.trans (dp _ S.st 16 (0:Int));refine⟨_,rfl,by rw[aw];exact bz,by rw[aw];exact bA,aW ?_⟩;rw[aw,cB];generalize cI:(w.setCell ⟨S.st,18,none⟩ true).setCell ⟨S.st,16,none⟩ (0:Int)=bC at aS ac⊢;have ag:=h.t.kh h.es ac;have cJ:=ac.size;refine⟨_,rfl,_,by rw[aw];exact aS.cell,(GC ag.s).use ?_⟩;rintro _ bF ⟨rfl,s1,bH,ah,bJ⟩;have cK:=ah.size;obtain⟨ai,a6⟩:=ag.space bH ah bJ ag.bI ag.low;have a7:=aS.ab ah (h.t.c6 _ h.es).2.1;obtain⟨gI,F⟩:∃gI,gI=S.T.vX S.T.g S.T.g s1 S.T.s2:=⟨_,rfl⟩;rw[←F]at ai a6;have aT:gI.C=S.T.C:=by rw[F];rfl
 have bK:gI.E=S.T.E:=by rw[F];rfl
 have bM:gI.g=S.T.g:=by rw[F];rfl
 have bN:gI.P=S.T.P:=by rw[F];rfl
 have bO:gI.n=S.T.n:=by rw[F];rfl
 have bP:gI.sb=S.T.sb:=by rw[F];rfl
 have bQ:gI.G=S.T.G:=by rw[F];rfl
 have bR:gI.gen=S.T.gen:=by rw[F];rfl
 have bS:gI.f=S.T.g:=by rw[F];rfl
 have bT:∀q,gI.M q->S.T.M q\/w.heap.size<=q:=λq k=>(a6 q k).imp id λh=>by omega
 have cL:∀ (w':J),Var w' S.st ((S.cells.set 18 true).set 16 (0:Int)) 158->w'.cell? ⟨S.st,2,none⟩=some (.pointer (some S.T.C.c)):=λw' aV=>aV.cell;refine⟨rfl,_,rfl,_,by rw[aw];exact a7.cell,?_⟩;have a8:=CK ai.ca.raw;rw[aT]at a8;refine a8.use ?_;rintro _ al ⟨s,zs,rfl,bU,aX,am,bV⟩;have cM:=am.size
 have bW:∀z∈zs,∃no:Nat,z=(no:Int)/\S.T.g no=false:=λz K=>by
  have:=aX.mem_iff.1 K;unfold ju at this;obtain⟨f,hf,rfl⟩:=eE.1 this;obtain⟨bX,a9⟩:=hJ.1 hf;have a_:f.full=true/\f.fS=true:=by unfold Fr.gX at a9;simpa using a9
  obtain⟨no,bE,bG,ao,ap,bb,bY⟩:=h.t.ca.inv.ok f bX a_.1;refine⟨no,bE,?_⟩
  cases hg:S.T.g no with
  |false=>rfl
  |true=>
   have:=bY (h.bI no hg);rw[a_.2]at this;cases this
 have cN:zs.length<=64:=by
  rw[aX.length_eq];unfold ju;rw[dL];exact eD (lW _ _) h.t.ca.raw.bG
 have a0:=ai.ext am;obtain⟨P',a1⟩:∃P':Nat->aq aD,P'=λno=>if S.T.g no=true then S.T.P no else none:=⟨_,rfl⟩
 obtain⟨b0,_⟩:=a0.qc (P:=P') a0.ca (eC.refl gI.C al) (λno bn p=>by
  rw[a1]at p;dsimp only at p;by_cases hg:S.T.g no=true
  .rw[if_pos hg]at p
   exact a0.eA no bn (by rw[bN];exact p)
  .rw[if_neg hg]at p;cases p)
 have b2:∀q,aB s q->¬c3 S.T.C q:=λq k hf=>by
  have:=bV q k;have:=ai.lt (q:=q) (.inl (by rw[aT];exact hf));omega
 refine⟨s,rfl,λn16 m=>∃ (i:Nat) (aE:b4),n16=(i:Nat)/\i<=zs.length/\bL m (gI.bk aE P')/\eC S.T.C aE al m 0/\aE.D=S.T.C.D/\(∀j,S.T.g j=true->aE.view j=S.T.C.view j)/\(∀f∈aE.an,f.full=true->f∈S.T.C.an/\∀z∈zs.take i,f.no≠z)/\ba 1 3 m s (zs.map encZ)/\(∀q,aB s q->¬c3 aE q),
  λn16 _=>((zs.length:Int)-n16).toNat,⟨0,S.T.C,rfl,cG _,by rw[←aT];exact b0,.refl _ _,rfl,λ_ _=>rfl,λf hf _=>⟨hf,λz K=>(by simp at K)⟩,bU,b2⟩,?_⟩
 rintro _ m ⟨i,aE,rfl,hi,U,N,y,b3,bd,az,be⟩;have cO:s.len=zs.length:=by have:=az.1;rw[dL]at this;omega
 have b5:∀ (w':J),ad (c3 S.T.C) al w'->Var w' S.st ((S.cells.set 18 true).set 16 (0:Int)) 158:=λw' hc=>(a7.ext am).ab hc λhf=>(h.t.ca.inv.e7 _ (.inr (.inr (.inl h.es)))).2 hf;have bf:=b5 _ N.ab;refine⟨λL=>?_,λL=>?_⟩
 .have L:(i:Int)<(s.len:Int):=b1 L
  have aC:i<zs.length:=by omega
  obtain⟨A,ar,b6⟩:∃a:ae,s.a=some a/\m.cell? (a.add (Int.toNat (i:Int)*1))=some (.int .i64 zs[i]):=by
   obtain⟨b,c,L,_,_,_,_,b8,_⟩:=az.cell (i:=i) (v:=encZ zs[i]) (by rw[lk,dE aC];rfl);exact⟨_,L,by rw[dc,aw,cB,fF];exact b8⟩
  obtain⟨no,bg,b9⟩:=bW _ (cE aC);refine⟨A,ar,⟨I,L⟩,zs[i],b6,_,rfl,_,by rw[aw];exact bf.cell,?_⟩;have bi:=BC U.ca no;rw[bg];have X:aE.c=S.T.C.c:=N.c;have b_:(gI.bk aE P').C.c=S.T.C.c:=X;rw[b_]at bi;refine bi.use ?_;rintro _ cP ⟨⟨b,rfl⟩,bj,cb,aF,aV,cc,cd⟩;have bl:∀j,S.T.g j=true->bj.view j=aE.view j:=λj Y=>aV j λe=>by rw[e,b9]at Y;cases Y
  obtain⟨ce,_⟩:=U.qc (P:=P') cb aF (λj bn p=>by
   obtain⟨bB,bq⟩:=U.eA j bn p;have cf:S.T.g j=true:=by
    cases hg:S.T.g j with
    |true=>rfl
    |false=>rw[a1]at p;simp[hg]at p
   rw[bl j cf];exact⟨bB,bq⟩)
  have cg:((zs.length:Int)-((i+1:Nat):Int)).toNat<((zs.length:Int)-(i:Int)).toNat:=by omega
  have bm:IntKind.wrap .i64 ((i:Int)+1)=((i+1:Nat):Int):=by rw[bx I I];omega
  have ch:=az.ab aF.ab λq k hf=>be q k hf;refine⟨b,rfl,⟨i+1,bj,bm,aC,ce,(N.trans aF).mono (bp _),cc.trans y,λj Y=>(bl j Y).trans (b3 j Y),λf hf O=>?_,ch,λq k hf=>?_⟩,by rw[bm];exact cg⟩
  .obtain⟨bE,bG⟩:=cd f hf O
   obtain⟨ao,ap⟩:=bd f bE O;refine⟨ao,λz K=>?_⟩;rw[iy aC,cT,fo]at K;rcases K with K|rfl
   .exact ap z K
   .rw[bg];exact bG
  .rcases aF.c5 q hf with h1|h1
   .exact be q k h1
   .have:=ba.lt az q k;omega
 have L:¬(i:Int)<(s.len:Int):=cu L;obtain rfl:i=zs.length:=by omega
 have ci:∀f∈aE.an,f.full=true->f.fS=false:=λf hf O=>by
  obtain⟨bE,bG⟩:=bd f hf O
  cases hd:f.fS with
  |false=>rfl
  |true=>
   refine absurd rfl (bG f.no ?_);rw[iz];refine aX.mem_iff.2 (eE.2 ⟨f,hJ.2 ⟨bE,?_⟩,rfl⟩);unfold Fr.gX;rw[O,hd];rfl
 have X:aE.c=S.T.C.c:=N.c;obtain⟨fD,B⟩:∃fD,fD=gI.bk aE P':=⟨_,rfl⟩;rw[←B]at U;have f1:fD.C=aE:=by rw[B];rfl
 have f2:fD.E=S.T.E:=by rw[B];exact bK
 have f3:fD.g=S.T.g:=by rw[B];exact bM
 have f4:fD.P=P':=by rw[B];rfl
 have f5:fD.n=S.T.n:=by rw[B];exact bO
 have f6:fD.sb=S.T.sb:=by rw[B];exact bP
 have f7:fD.G=S.T.G:=by rw[B];exact bQ
 have f8:fD.gen=S.T.gen:=by rw[B];exact bR
 have f9:fD.f=S.T.g:=by rw[B];exact bS
 have a2:∀q,fD.M q->S.T.M q\/w.heap.size<=q:=λq k=>by
  rw[B]at k;rcases k with k|k
  .rcases N.c5 q k with h1|h1
   .exact .inl (.inl h1)
   .exact .inr I
  .exact bT q (.inr k)
 have cQ:=N.ab.size;refine ij (λaI=>∃aY,gd aI {S with T:=(fD.b7 aY S.T.gen S.u.root S.u.aH S.T.E).bk {aE with D:=aE.D.gk (λ_=>true) aE.D.dB} P',pending:=0,failed:=true} aG aP/\m.heap.size<=aY/\ad (λq=>q=S.st) m aI) (λcR ck=>aW ?_) ?_
 .have aJ:Ext m m.drew:=cj _
  have R:=bf.ext aJ;have aK:=U.ext aJ;have bo:=aK.ca.raw;rw[f1]at bo;have br:=nZ bo S.T.sb (S.T.gen:Int) (S.u.root:Int) (S.u.aH:Int);rw[X]at br;refine⟨λ_=>False,_,rfl,id,_,by rw[aw];exact R.cell,_,rfl,id,_,by rw[aw];exact R.cell,_,rfl,id,_,by rw[aw];exact R.cell,_,rfl,id,_,by rw[aw];exact R.cell,_,rfl,id,_,by rw[aw,aw];exact R.cell,?_⟩;have cl:IntKind.wrap .u64 ((S.gen:Int)+1)=(S.T.gen:Int):=by rw[gQ I (by have:=h.num;omega)];have:=h.gen;omega
  rw[cl];refine br.use ?_;rintro _ a3 (⟨_,rfl,Z,cm,cS⟩|⟨cn,_⟩)
  rotate_left
  .exact absurd (by rw[y];exact aO) cn
  have cU:=Z.size;refine⟨_,0,rfl,Z,λ_=>?_,λhx=>(by cases hx)⟩;have bs:=R.ext Z;obtain⟨bE,bG⟩:=dP bs (i:=0) (by simp[bZ.cells,g4]);have co:=dT bs (i:=0) (.pointer (some m.drew.heap.size));have bt:=dp a3 S.st 0 (.pointer (some m.drew.heap.size));have cp:bL a3 (fD.b7 m.drew.heap.size S.T.gen S.u.root S.u.aH S.T.E):=by
   refine aK.tree Z (by show Var _ _ [.pointer (some fD.C.c),.pointer (some fD.sb),_,_,_] _;rw[f1,X,f6];exact cm) (.inr (bp _)) (λq k=>?_) ⟨?_,?_,?_⟩ λno bn p=>?_
   .have h1:=aK.lt (q:=q) (.inr (.inr (.inr (.inl (by rw[f2];exact k)))))
    exact⟨I,.inl (by rw[f2];exact k)⟩
   .rw[f5,←h.t.n];have:=aO.2.2.2.1;omega
   .have:=aO.2.1;omega
   .exact h.t.num.2.2
   .rw[←f8];exact aK.eA no bn p
  have cq:=cp.gk (s:=λ_=>true) (z:=fD.C.D.dB) (λf hf j O _ _=>ci f (by rw[←f1];exact hf) O) (λ_ _=>rfl) λ_ _=>.inr λ_=>rfl;have bu:bL a3 ((fD.b7 m.drew.heap.size S.T.gen S.u.root S.u.aH S.T.E).bk {fD.C with D:=fD.C.D.gk (λ_=>true) fD.C.D.dB} fD.P):=cq;rw[f1,f4]at bu;refine⟨_,rfl,bE,bG,aW (ck _ ⟨m.drew.heap.size,⟨?_,bu.kh h.es bt,h.es,?_,h.gen,h.num,λ_ _=>rfl⟩,aJ.size,((Ext.trans aJ Z).mono λ_ _ h=>h.elim).trans bt⟩)⟩
  .show Var _ _ (g4 _ aE.D.d aE.c fD.sb _ _ _ _ _ _ _ _) _
   rw[y,X,f6];exact co
  .show g5 (λj=>aE.D.bh.getD j []) fD.n _ _ fD.g P' _ _
   rw[y,f5,f3];exact h.fU.agree (λ_ _=>rfl) λx hx=>by
    rw[a1];dsimp only;rw[if_pos ((h.fU.g x).2 (.inl hx))]
 .rintro aI ⟨aY,H,cV,cr⟩
  obtain⟨l,r⟩:∃l:bZ,l={S with T:=(fD.b7 aY S.T.gen S.u.root S.u.aH S.T.E).bk {aE with D:=aE.D.gk (λ_=>true) aE.D.dB} P',pending:=0,failed:=true}:=⟨_,rfl⟩;rw[←r]at H;have Q:l.st=S.st:=by rw[r]
  obtain⟨bE,bG,ao,ap,bb⟩:=H.set (i:=17) (x:=S.u.keys) (by decide);have cs:∃z:aa,l.cells[12]? =some z/\z=S.u.keys:=⟨_,by rw[r];rfl,rfl⟩;obtain⟨z,ct,rfl⟩:=cs;have cv:({l with keys:=S.u.keys}:bZ).cells=l.cells.set 17 S.u.keys:=by rw[r];rfl
  have o:l.T=(fD.b7 aY S.T.gen S.u.root S.u.aH S.T.E).bk {aE with D:=aE.D.gk (λ_=>true) aE.D.dB} P':=by rw[r]
  have fL:l.T.n=S.T.n:=by rw[o];exact f5
  have dH:l.T.C.D.bh=S.T.C.D.bh:=by rw[o];show aE.D.bh=_;rw[y]
  have aN:l.u=S.u:=by rw[r]
  have cw:l.gen=S.gen:=by rw[r]
  have cx:l.T.f=S.T.g:=by rw[o];exact f9
  have cz:l.T.C.D.ro:=by rw[o];exact λ_=>rfl
  have bv:l.failed=true:=by rw[r]
  refine⟨_,rfl,_,by rw[aw,aw,←Q];exact H.v.cell.trans ct,_,rfl,by rw[aw,←Q];exact bE,by rw[aw,←Q];exact bG,aW ⟨rfl,{l with keys:=S.u.keys},⟨⟨?_,?_,H.es,H.fU,H.gen,H.num,H.bI⟩,?_,h.fU.bn,λno=>?_,λx hx=>?_,h.fU.fT,h.fU.keys,?_,λhf=>?_,λ_=>⟨cz,rfl,rfl,by rw[r]⟩⟩,?_,⟨aN,cw,by rw[r],bv,dH,λj=>?_,by rw[show({l with keys:=S.u.keys}:bZ).T=l.T from rfl,o];show aE.D.aR=_;rw[y]⟩⟩⟩
  .rw[cv,aw,cB,←Q];exact ao
  .rw[aw,cB,←Q];exact ap
  .show gj l.T aG aP
   rw[o];have:=H.fU.ok;rw[o,aN]at this;exact this
  .show l.T.f no=true↔no∈aG\/no<2\/no=l.u.map
   rw[cx,aN];exact h.fU.g no
  .rw[show({l with keys:=S.u.keys}:bZ).u=S.u from aN]
   exact⟨(h.fU.two x hx).1,(h.fU.two x hx).2.1⟩
  .show l.pending<=1000
   rw[r];exact cG _
  .rw[show({l with keys:=S.u.keys}:bZ).failed=true from bv]at hf;cases hf
  .refine⟨Q,?_,fL,by rw[r],?_,λk=>?_,?_,λq k=>?_,?_,?_,?_⟩
   .show l.T.C.D.d=_
    rw[o];show aE.D.d=_;rw[y]
   .show l.T.C.D.aR<=_
    rw[o];show aE.D.aR<=_;rw[y];omega
   .show l.T.C.D.quiet
    rw[o];show aZ.quiet (aE.D.gk _ _);rw[y];exact k
   .rw[aw,cB]
    have a4:∀q,q=S.st->S.W q:=λq e=>by rw[e];exact h.vZ
    have h1:ad S.W w bC:=ac.mono λq _ e=>a4 q e;have h2:ad S.W w bF:=cy h1 ah λq _ k=>h.lP (.inr (.inr (.inl k)));have cA:ad S.W w al:=cy h2 am λq _ k=>k.elim;have cC:ad S.W w m:=cy cA N.ab λq _ k=>h.lP (.inl k);have cD:ad S.W w aI:=cy cC cr λq _ k=>a4 q k;exact cy cD (V:=λq=>q=S.st) (by rw[←Q];exact bb) λq _ k=>a4 q k
   .have k:l.T.M q:=k
    rw[o]at k;rcases k with k|k|k|k|k
    .exact a2 q (.inl (by rw[f1];exact k))
    .have k:q=aY:=k
     exact .inr I
    .exact a2 q (.inr (.inr (.inl k)))
    .exact .inl (.inr (.inr (.inr (.inl k))))
    .exact a2 q (.inr (.inr (.inr (.inr k))))
   .show l.T.E=_
    rw[o];rfl
   .show l.T.G=_
    rw[o];exact f7
   .show l.T.C.D.r1=_
    rw[o];show aE.D.r1=_;rw[y]
  .show l.T.C.D.ep j=_
   rw[o];show aE.D.dB j=_;rw[y]
end
theorem gM.mono{gen a no:Nat}{leaf:ai}{l:cW}{n:aD}(h:gM gen leaf no l n)(hg:gen<=a):gM a leaf no l n:=by
 obtain⟨p,h1,h2,b⟩:=h;exact⟨p,h1,eD h2 hg,b⟩
section
variable {w w':J}{C:b4}{X:Nat->Prop}{T:aN}{S ay:bZ}{pages aG:O Nat}{L aP:O aI}
theorem H9{az:aZ}(h:er X w C)(hd:cx w' az)(e:az.d=C.D.d)(g:kF az C.D)(k:∀i,2<=i->az.now i=C.D.now i)(hc:ad (bX C.D) w w')(hf:∀q,bX az q->bX C.D q\/w.heap.size<=q):
 er X w' {C with D:=az}/\∀j,2<=j->({C with D:=az}:b4).view j=C.view j:=by
 have o:=hc.size;have l:∀q,q<w.heap.size->c3 {C with D:=az} q->c3 C q:=λq a b=>by
  rcases b with h1|h1|h1
  .exact .inl h1
  .exact .inr (.inl h1)
  .exact .inr (.inr ((hf q h1).resolve_right I))
 refine⟨⟨h.raw.pZ hd e hc hf,h.inv.pins,λf p r=>?_,h.inv.un,λq a=>⟨fP (h.inv.e7 q a).1 o,λb=>(h.inv.e7 q a).2 (l q (h.inv.e7 q a).1 b)⟩,g.2.2⟩,λj s=>?_⟩
 .obtain⟨no,av,ax,t,u,v,x,m⟩:=h.inv.ok f p r
  exact⟨no,av,by rw[show({C with D:=az}:b4).D.n=az.n from rfl,g.1];exact ax,a6.re t hc (λq _ c y=>c.1 (.inr (.inr y))) λq a c=>⟨λb=>c.1 (l q a b),c.2⟩,u,λhd=>by show _=az.now no;rw[k no m];exact v hd,λhs=>x (g.2.1 _ hs),m⟩
 .unfold b4.view
  dsimp only
  cases C.an.find? λf=>f.full&&f.no==(j:Int) with
  |some f=>rfl
  |none=>exact k j s
theorem bL.CU{aE:b4}{P:Nat->aq aD}(h:bL w T)(a:er T.X w' aE)(hc:ad (c3 T.C) w w')(e:aE.c=T.C.c)(b:aE.D.n=T.C.D.n)(d:∀no bn,P no=some bn->no<T.n/\gM T.gen bn.leaf no (aE.view no) bn)(f:∀j,aE.D.bI j=true->T.g j=true\/aE.D.ro):
 bL w' (T.bk aE P):=by
 have hx:=h.ca.inv.e7;refine⟨?_,h.s.ab hc λq i hf=>(hx q (.inr (.inl i))).2 hf,a,h.js,h.c6,h.hD,b.trans h.n,h.num,d,f,h.low⟩;have:=h.t.ab hc λhf=>(hx T.aY (.inl rfl)).2 hf;unfold k7 at this⊢;rw[←e]at this;exact this
def aN.my(T:aN)(gen:Nat):aN:={T with gen:=gen}
theorem bL.H_{gen:Nat}(h:bL w T)(b:Var w' T.aY (k7 (T.my gen)) 239)(hc:ad (λq=>q=T.aY) w w')(h1:T.gen<=gen)(h2:gen<18446744073709551616):bL w' (T.my gen):=
 ⟨b,h.s.ab hc λq c e=>h.js (e▸c),h.ca.ab hc λq e=>.inl e,h.js,h.c6,h.hD,h.n,⟨h.num.1,h.num.2.1,h2⟩,λno bn a=>⟨(h.eA no bn a).1,(h.eA no bn a).2.mono h1⟩,h.bI,h.low⟩
theorem Ia(h:bL w T){gen:Nat}(h1:T.gen<=gen)(h2:gen<18446744073709551616):
 aQ aj 164 #[.pointer (some T.aY),.int .u64 (gen:Nat)] w (λv w'=>v=.tuple #[]/\bL w' (T.my gen)/\ad (λq=>q=T.aY) w w'):=by
 refine af.EE _ _ w _ ?_;(delta af.ry ak st;dsimp only);obtain⟨av,ax⟩:=dP h.t (i:=2) (by simp[k7]);have a:=dT h.t (i:=2) (.int .u64 (gen:Nat));have hc:=dp w T.aY 2 (.int .u64 (gen:Nat));refine⟨λ_=>⟨_,rfl,by rw[aw];exact av,by rw[aw];exact ax,aW ?_⟩,λb=>(by cases b)⟩;rw[aw,cB];exact⟨rfl,h.H_ a hc h1 h2,hc⟩
def yP(ay:bZ)(gen:Nat)(g:Nat->ai)(pages:O Nat)(L:O aI)(clock bY:Nat):Prop:=
 (∀j,g j=true->ay.T.C.D.ep j=[])\/
 ∃ (a:cZ) (av:Nat->ai) (c:Nat->aq aD) (b:cW),(∀j,ay.T.C.D.ep j=if j=(gen+1)%2 then [b] else [])/\g5 (λj=>if j=(gen+1)%2 then b else ay.V j) ay.T.n (gen+1) a av c pages L/\a.clock=clock/\a.bY=bY
def qp(S:bZ)(pages:O Nat)(L:O aI)(aG:O Nat)(aP:O aI)(w:J)(v:aa)(w':J):Prop:=
 ∃ay,c2 100 S ay w w'/\ay.now=S.now/\
  ((v=.int .i64 0/\de w' ay pages L pages L/\ay.failed=false/\ay.gen=S.gen+1/\ay.u.clock=S.now/\ay.u.bY=S.u.bY+1/\ay.pending=0)\/
   (v=.int .i64 3/\¬S.T.C.D.quiet/\de w' ay aG aP aG aP/\ay.failed=true/\ay.u=S.u/\ay.gen=S.gen/\(∀j,S.T.g j=true->ay.V j=S.V j)/\yP ay S.gen S.T.g pages L S.now (S.u.bY+1)))
end
section
variable {w w' w1:J}{C:b4}{X:Nat->Prop}{T:aN}{S ay eT:bZ}{pages aG:O Nat}{L aP:O aI}{f2:Nat->ai}{aE:b4}{P':Nat->aq aD}
def bZ.at(S:bZ)(f2:Nat->ai)(aE:b4)(P':Nat->aq aD):bZ:={S with T:=(S.T.iP f2).bk aE P'}
theorem gd.v7(h:gd w S aG aP)(ht:bL w' ((S.T.iP f2).bk aE P'))(a:Var w' S.st S.cells 158)(b:aE.D.d=S.T.C.D.d)(e:aE.c=S.T.C.c)(ei:∀j,S.T.g j=true->aE.D.bh.getD j []=S.V j)(f:∀x∈aG,S.T.P x=P' x)(i:∀j,S.T.g j=true->aE.D.bI j=true):
 gd w' (S.at f2 aE P') aG aP:=by
 refine⟨?_,ht,h.es,h.fU.agree ei f,h.gen,h.num,i⟩;show Var w' S.st (g4 _ aE.D.d aE.c _ _ _ _ _ _ _ _ _) _;rw[b,e];exact a
theorem c2.at{k:Nat}(hc:ad S.W w w')(b:aE.D.d=S.T.C.D.d)(c:aE.D.aR<=S.T.C.D.aR+k)(a:S.T.C.D.quiet->aE.D.quiet)(e:aE.D.r1=S.T.C.D.r1)(hf:∀q,c3 aE q->c3 S.T.C q\/w.heap.size<=q):c2 k S (S.at f2 aE P') w w':=
 ⟨rfl,b,rfl,rfl,c,a,hc,λq a=>by
  rcases a with a|a
  .exact(hf q a).imp .inl id
  .exact .inl (.inr a),rfl,rfl,e⟩
theorem v8(p:gd w1 eT aG aP)(a:c2 100 S eT w w1)(s:eT.u=S.u)(t:eT.gen=S.gen)(x:eT.now=S.now)(m:¬S.T.C.D.quiet)(ei:∀j,S.T.g j=true->eT.V j=S.V j)(y:eT.T.C.D.aR<=900000000)
 (z:(∀j,S.T.g j=true->eT.T.C.D.dB j=[])\/∃ (e:cZ) (av:Nat->ai) (f:Nat->aq aD) (b:cW),(∀j,eT.T.C.D.dB j=if j=(S.gen+1)%2 then [b] else [])/\g5 (λj=>if j=(S.gen+1)%2 then b else eT.V j) eT.T.n (S.gen+1) e av f pages L/\e.clock=S.now/\e.bY=S.u.bY+1):
 aQ aj 81 #[.pointer (some S.st),(3:Int)] w1 (qp S pages L aG aP w):=by
 have hf:=CT p 3 y;rw[a.st]at hf;refine hf.mono ?_;rintro v w' ⟨rfl,ay,hs,hd,c⟩;have o:∀j,ay.V j=eT.V j:=λj=>by unfold bZ.V;rw[c.V]
 refine⟨ay,⟨hd.st.trans a.st,hd.d.trans a.d,hd.n.trans a.n,hd.l.trans a.l,by rw[c.aR];exact a.aR,λh=>absurd h m,cy a.ab hd.ab λq A i=>a.back A i,λq i=>?_,hd.E.trans a.E,hd.G.trans a.G,hd.r.trans a.r⟩,c.now.trans x,.inr ⟨rfl,m,hs,c.failed,c.u.trans s,c.gen.trans t,λj k=>(o j).trans (ei j k),?_⟩⟩
 .have:=a.ab.size
  rcases hd.c5 q i with h1|h1
  .exact a.c5 q h1
  .exact .inr I
 .rcases z with h1|⟨e,av,f,b,h1,h2,B,F⟩
  .exact .inl λj k=>(c.sa j).trans (h1 j k)
  .exact .inr ⟨e,av,f,b,λj=>(c.sa j).trans (h1 j),by rw[hd.n];exact h2.agree (λj _=>by rw[o]) λ_ _=>rfl,B,F⟩
theorem Ib{V:Nat->cW}{no:Nat}{i:Nat->aq aD}(h:de w S pages L aG aP)(k:f2=dj (dj S.T.f no true) S.u.map false)(K:(S.T.f no||S.T.g no)=false)(A:2<=no)(B:no<S.T.n)(M:L.length<4096)(l:∀x∈pages,i x=S.T.P x)
 (D:V ((S.gen+1)%2)=eI ((S.gen+1)%2) (jf ⟨S.T.root,S.T.aH,no,S.now,S.u.bY+1,L.length⟩ S.T.n (S.gen+1))) (ei:∀j,j≠(S.gen+1)%2->V j=if j=no then eI no ⟨4,S.gen+1,fM f2 ((S.T.n+7)/8)⟩ else if S.T.g j=true then S.V j else S.T.C.view j)
 (hg:∀j,S.T.g j=true->S.V j=S.T.C.view j):g5 V S.T.n (S.gen+1) ⟨S.T.root,S.T.aH,no,S.now,S.u.bY+1,L.length⟩ f2 i pages L:=by
 have E:=h.t.s.bw;have F:=h.num;have m:=h.t.num;have o:=h.fU.r7;have N:=o.2.2.2.2.1;have p:S.T.f S.u.map=true:=(h.f _).2 (.inr (.inr rfl));have q:S.T.f no=false:=by cases O:S.T.f no<;>simp_all
 have r:∀x∈pages,x≠no:=λx hx e=>by
  have:=(h.f x).2 (.inl hx);rw[e,q]at this;cases this
 have G:∀x∈pages,x<S.T.n:=λx hx=>Nat.lt_of_not_le λe=>by
  have:=h.t.s.pf x e;rw[(h.f x).2 (.inl hx)]at this;cases this
 have H:∀j,j≠(S.gen+1)%2->j≠no->V j=S.T.C.view j:=λj h1 h2=>by
  rw[ei j h1,if_neg h2];by_cases e:S.T.g j=true
  .rw[if_pos e,hg j e]
  .rw[if_neg e]
 have v:kf ⟨S.T.root,S.T.aH,no,S.now,S.u.bY+1,L.length⟩ S.T.n:=by
  refine⟨?_,m.2.1,m.1,B,A,E⟩;rcases h.ok with ⟨a1,a2,_⟩|b
  .exact⟨λ_=>a1,λ_=>a2⟩
  .obtain⟨bn,Q,_,a2,_,_⟩:=b.kB
   have:=(h.two S.T.root (by rw[a2];simp)).1;constructor
   .intro e;have e:S.T.root=0:=e;omega
   .intro e
    have e:S.T.aH=0:=e;rw[e]at b;exact b.elim
 have y:nt ⟨S.T.root,S.T.aH,no,S.now,S.u.bY+1,L.length⟩:=⟨by show S.T.root<_;omega,by show S.T.aH<_;omega,by show no<_;omega,F.1,by show S.u.bY+1<_;omega,by show L.length<_;omega⟩;refine⟨⟨S.u.map,o.2.2.2.1,by rw[k];unfold dj;rw[if_pos rfl]⟩,?_,.inr ⟨S.u,S.gen,?_,I⟩,⟨S.gen+1,bp _,?_⟩,λj=>?_,h.bn,λx hx=>⟨(h.two x hx).1,r x hx,G x hx⟩,?_,λx hx bn z=>?_,rfl,h.fT,y,v,by show S.u.bY+1+1<=S.gen+1;omega⟩
 .rw[D]
  exact CF y v I I
 .have e:1-(S.gen+1)%2=S.gen%2:=by omega
  have J:S.T.g (S.gen%2)=true:=(h.fU.g _).2 (.inr (.inl I));rw[e,ei _ I,if_neg I,if_pos J];exact h.fU.vY
 .show dS (no:Int) (V no)=_
  rw[ei _ I,if_pos rfl];exact vq I ⟨(by decide:1<=4),(by decide:4<=4),by show S.gen+1<_;omega,by show(fM _ _).length<=232;rw[oN];omega⟩
 .rw[k]
  show dj (dj S.T.f no true) S.u.map false j=true↔j∈pages\/j<2\/j=no;unfold dj;by_cases c:j=S.u.map
  .rw[if_pos c]
   refine⟨λh=>(by cases h),λa=>?_⟩;rcases a with a|a|a
   .exact absurd c (h.two j a).2
   .omega
   .rw[←c,a,q]at p;cases p
  .rw[if_neg c]
   by_cases d:j=no
   .rw[if_pos d];exact⟨λ_=>.inr (.inr d),λ_=>rfl⟩
   .rw[if_neg d,h.f j]
    constructor
    .rintro(a|a|a)
     .exact .inl a
     .exact .inr (.inl a)
     .exact absurd a c
    .rintro(a|a|a)
     .exact .inl a
     .exact .inr (.inl a)
     .exact absurd a d
 .rcases h.ok with ⟨a1,a2,a3,a4⟩|b
  .exact .inl ⟨a1,a2,a3,a4⟩
  .exact .inr (b.agree λx hx=>(l x hx).symm).1
 .rw[l x hx]at z
  rw[H x (by have:=(h.two x hx).1;omega) (r x hx),←h.gen];exact(h.t.eA x bn z).2
end
section
variable {w w' w1:J}{C:b4}{X:Nat->Prop}{T:aN}{S ay eT:bZ}{pages aG:O Nat}{L aP:O aI}{f2:Nat->ai}{aE:b4}{P':Nat->aq aD}
theorem Ic{f:Nat->ai}{n k:Nat}(h:k<n):ni f n (k:Int)=dj f k false:=by
 unfold ni;rw[if_pos ⟨I,I⟩,dc]
theorem Ie{aY d c sb gen now first pending keys st:Nat}{l:fC}{u:cZ}{failed:ai}(b:Var w st (g4 aY d c sb l u gen now first pending keys failed) 158)(a:cZ){K:J->Prop}(e:∀ah,Var ah st (g4 aY d c sb l a gen now first pending keys failed) 158->ad (λq=>q=st) w ah->K ah):
 bA w ⟨st,7,none⟩ [a.root,a.aH,a.map,.int .u64 (a.clock:Nat),.int .u64 (a.bY:Nat),a.keys]/\(6:Nat)=6/\
  al (setCells w ⟨st,7,none⟩ 0 [a.root,a.aH,a.map,.int .u64 (a.clock:Nat),.int .u64 (a.bY:Nat),a.keys]) K:=
 ⟨bu.cc b _ _ (by simp[g4]) λv f=>cZ.plain a v f,rfl,aW (e _ (bu.jY (o:=7) b _) (ad.kW (.refl _ _) _ 0))⟩
theorem yQ(h:de w S pages L aG aP)(an:S.failed=false)(dv:L.length<4096)(eU:S.T.C.D.aR<=800000000)(eV:S.gen<=1000000000):
 aQ aj 94 #[.pointer (some S.st)] w (qp S pages L aG aP w):=by
 refine okF (af.uc (some S.st)) aA.uc func94 ?_;(delta af.uc eP ak aC r1 bD bc pt b_ g8 U aU st;dsimp only);obtain⟨bz,bA,dw⟩:=h.live an;obtain⟨no,cp⟩:=BY dw;obtain⟨cq,dx,_⟩:=BI cp;have eW:=h.t.s.bw;have a1:=h.num;have dy:=h.gen;have cr:=h.fU.r7;have cs:S.T.f no=false:=by cases dz:S.T.f no<;>simp_all
 have ao:S.T.g no=false:=by cases dz:S.T.g no<;>simp_all
 have ct:2<=no:=Nat.le_of_not_lt λe=>by
  have:=(h.fU.g no).2 (.inr (.inl e));rw[ao]at this;cases this
 have eX:S.T.M S.st:=.inr (.inr (.inr (.inl h.es)));refine⟨_,rfl,_,by rw[aw];exact h.v.cell,(BK h.t.s).use ?_⟩;rintro _ cu ⟨rfl,cv,a2⟩;rw[cp]at cv⊢;refine⟨(no:Nat),0,rfl,λhx=>(by cases hx),λ_=>aW ?_⟩;have dA:=(h.t.vK (f:=dj S.T.f no true) cv a2).1;have dC:=h.v.ab a2 (h.t.c6 _ h.es).2.1;have a3:Ext cu cu.drew:=cj _;have bB:=dC.ext a3;have cw:=dA.ext a3;refine⟨_,rfl,id,_,by rw[aw];exact bB.cell,_,rfl,id,_,by rw[aw,aw];exact bB.cell,(BL cw.s (S.u.map:Nat)).use ?_⟩;rintro _ a4 ⟨rfl,cz,a5⟩;rw[Ic (by exact cr.2.2.2.1)]at cz;obtain⟨f2,bC⟩:∃f2,f2=dj (dj S.T.f no true) S.u.map false:=⟨_,rfl⟩;have cC:eZ a4 S.T.sb S.T.n f2 S.T.g S.T.s1 S.T.s2:=by rw[bC];exact cz
 have bF:bL a4 (S.T.iP f2):=(cw.vK (f:=f2) cC a5).1;have cD:=bB.ab a5 (h.t.c6 _ h.es).2.1;refine⟨_,rfl,aW ?_⟩;have a6:Ext a4 a4.drew:=cj _;have cE:=cD.ext a6;have dD:=bF.ext a6;have bH:IntKind.wrap .u64 ((S.gen:Int)+1)=((S.gen+1:Nat):Int):=by rw[gQ I I];omega
 refine⟨λ_=>False,_,rfl,id,_,by rw[aw];exact cE.cell,_,rfl,id,_,by rw[aw];exact cE.cell,(BR dD.s).use ?_⟩;rintro _ dE ⟨a7,rfl,dF,bJ,eY⟩;have dG:ba 1 5 dE a7 (aJ (fM f2 ((S.T.n+7)/8))):=by rw[CN];exact dF
 have cF:m9 ⟨4,S.gen+1,fM f2 ((S.T.n+7)/8)⟩:=⟨(by decide:1<=4),(by decide:4<=4),by show S.gen+1<_;omega,by show(fM _ _).length<=232;rw[oN];omega⟩;rw[bH];refine⟨a7,rfl,bJ,#[(4:Int),.int .u64 ((S.gen+1:Nat):Int),a7],λe1=>by kernel_rfl,(vw (s:=a7) (p:=⟨4,S.gen+1,fM f2 ((S.T.n+7)/8)⟩) (no:=no) dG.src I cF).use ?_⟩;rintro _ cH ⟨dI,rfl,cI,cJ,dJ⟩;have bK:=a6.trans (Ext.trans bJ cJ);have a8:=bF.ext bK;have cK:=cD.ext bK;have e2:=a2.size;have e3:=a5.size;have e4:=a3.size;have e5:=a6.size;have e6:=bJ.size;have a9:ad S.W w cH:=cy (cy (cy (cy (ad.refl _ _) a2 λq _ a=>h.lP (.inr (.inr (.inl a)))) a3 λq _ a=>a.elim) a5 λq _ a=>h.lP (.inr (.inr (.inl a)))) bK λq _ a=>a.elim;have dK:(eI no ⟨4,S.gen+1,fM f2 ((S.T.n+7)/8)⟩).length=256:=rH _ cF;refine⟨dI,0,rfl,cJ,λhx=>(by cases hx),λ_=>⟨_,rfl,_,by rw[aw];exact cK.cell,(BB a8.ca (by show S.T.C.D.aR<=_;omega) (no:=no) (by rw[a8.n];exact cq) ct (λhs=>?_) cI.src dK λq a=>⟨ba.lt cI q a,λhf=>?_⟩).use ?_⟩⟩
 .rcases a8.bI no hs with h1|h1
  .rw[show(S.T.iP f2).g no=S.T.g no from rfl,ao]at h1;cases h1
  .exact bz h1
 .have h1:=dJ q a
  have h2:=bF.lt (q:=q) (.inl hf);omega
 rintro _ a_ ⟨G,cL,cM,bb⟩;have y:eC S.T.C G cH a_ 1:=cM;have cN:∀j,j≠no->G.view j=S.T.C.view j:=λj b=>by
  rcases bb with ⟨_,bM⟩|⟨_,_,bM⟩
  .rw[bM,if_neg b];rfl
  .rw[bM];rfl
 obtain⟨F,bN⟩:∃F:Nat->aq aD,F=λj=>if j=no then none else S.T.P j:=⟨_,rfl⟩
 have aE:∀j,j≠no->F j=S.T.P j:=λj b=>by rw[bN];exact if_neg b
 obtain⟨aF,_⟩:=a8.qc (P:=F) cL cM λj bn al=>by
  have b:j≠no:=λe=>by rw[bN]at al;simp[e]at al
  rw[cN j b];exact h.t.eA j bn (by rw[←aE j b];exact al)
 have dL:¬c3 S.T.C S.st:=(h.t.ca.inv.e7 _ (.inr (.inr (.inl h.es)))).2;have bO:=cK.ab y.ab dL;have bP:ad S.W w a_:=cy a9 y.ab λq _ a=>h.lP (.inl a);have bd:∀x∈aG,S.T.P x=F x:=λx hx=>(aE x λe=>by
  have:=(h.fU.g x).2 (.inl hx);rw[e,ao]at this;cases this).symm
 have bQ:G.D.bh=S.T.C.D.bh:=congrArg (λp=>p.1.1) y.bh;have bR:G.D.b3.getD 3 0=S.T.C.D.b3.getD 3 0:=congrArg Prod.snd y.bh;have dM:gd a_ (S.at f2 G F) aG aP:=h.togd.v7 aF bO y.d y.c (λj b=>by rw[bQ];rfl) bd λj b=>by rw[y.bI];exact h.bI j b
 have dN:c2 100 S (S.at f2 G F) w a_:=c2.at bP y.d (by have:=y.aR;omega) (λa=>⟨λk=>y.calm k (a.1 _),bR.trans a.2⟩) (congrArg (λp=>p.1.2.2.2.2) y.bh) λq a=>(y.c5 q a).imp id λe=>by have:=a9.size;omega
 have dO:∀j,S.T.g j=true->G.D.dB j=[]:=λj b=>by
  rw[cL.inv.kE j (by rw[y.bI];exact h.bI j b),y.ng.2,bA]
 rcases bb with ⟨rfl,bb⟩|⟨rfl,dQ,_⟩
 rotate_left
 .exact⟨3,rfl,λ_=>(v8 dM dN rfl rfl rfl (λa=>dQ (a.1 1)) (λj b=>by unfold bZ.V;show G.D.bh.getD j []=_;rw[bQ]) (by show G.D.aR<=_;have:=y.aR;omega) (.inl dO)).use λv w' bS=>by
   obtain⟨ay,r1,b5,ag⟩:=bS;rcases ag with ⟨rfl,bD⟩|⟨rfl,bD⟩
   .exact⟨0,rfl,ay,r1,b5,.inl ⟨rfl,bD⟩⟩
   .exact⟨3,rfl,ay,r1,b5,.inr ⟨rfl,bD⟩⟩,λhx=>(by cases hx)⟩
 refine⟨0,rfl,λhx=>(by cases hx),λ_=>⟨_,rfl,_,by rw[aw];exact bO.cell,?_⟩⟩;have cO:=H0 aF.ca (by show G.D.aR<=_;have:=y.aR;omega) λj b=>by show G.D.ep j=_;rw[y.ng.2,bA]
 rw[show((S.T.iP f2).bk G F).C.c=S.T.C.c from y.c]at cO;refine cO.use ?_;rintro _ ap ⟨o,R⟩;have dR:¬c3 G S.st:=(aF.ca.inv.e7 _ (.inr (.inr (.inl h.es)))).2;have be:=bO.ab R.ab dR;have ac:o.D.d=S.T.C.D.d:=R.d.trans y.d;have bf:o.c=S.T.C.c:=R.c.trans y.c;have bg:o.D.r1=S.T.C.D.r1:=R.r.trans (congrArg (λp=>p.1.2.2.2.2) y.bh);have aI:∀q,c3 o q->c3 S.T.C q\/w.heap.size<=q:=λq a=>by
  have:=bP.size;have:=a9.size;rcases R.c5 q a with h1|h1
  .exact(y.c5 q h1).imp id λe=>by omega
  .exact .inr I
 have bT:ad S.W w ap:=cy bP R.ab λq an a=>by
  have:=a9.size;exact h.lP (.inl ((y.c5 q a).resolve_right I))
 have cP:∀ (bU:b4),(∀j,2<=j->bU.view j=G.view j)->∀j bn,F j=some bn->j<S.T.n/\gM S.T.gen bn.leaf j (bU.view j) bn:=λbU dS j bn al=>by
  have b:j≠no:=λe=>by rw[bN]at al;simp[e]at al
  have h1:=h.t.eA j bn (by rw[←aE j b];exact al);rw[dS j h1.2.two,cN j b];exact h1
 have bi:bL ap ((S.T.iP f2).bk o F):=aF.CU R.at_ R.ab R.c R.n (cP o λj _=>R.view j) λj b=>by
  rw[R.bI.1]at b;rcases aF.bI j b with h1|h1
  .exact .inl h1
  .exact .inr λi=>by rw[R.bI.1];exact h1 i
 have ar:o.D.bI=S.T.C.D.bI:=R.bI.1.trans y.bI;have dU:o.D.ep=λ_=> []:=R.bI.2.trans (y.ng.2.trans bA);have e8:o.D.aR<=S.T.C.D.aR+70:=by have h1:o.D.aR<=G.D.aR+64:=R.aR;have:=y.aR;omega
 have fin:∀ (w1:J) (Z:aa->J->Prop),aQ aj 81 #[.pointer (some S.st),(3:Int)] w1 (qp S pages L aG aP w)->(∀v w',qp S pages L aG aP w v w'->Z v w')->Calls aj 81 #[.pointer (some S.st),(3:Int)] w1 (λe ah=>∃n:Int,e=.returned n/\Z n ah):=λw1 Z bS cQ=>bS.use λv w' hc=>by
  have dV:=hc;obtain⟨ay,r1,b5,ag⟩:=dV;rcases ag with ⟨rfl,bD⟩|⟨rfl,bD⟩
  .exact⟨0,rfl,cQ _ _ hc⟩
  .exact⟨3,rfl,cQ _ _ hc⟩
 rcases R.il with ⟨rfl,dW,cR,dX⟩|⟨rfl,dY,dZ⟩
 rotate_left
 .have cS:o.D.bh=S.T.C.D.bh:=dY.trans bQ
  have d0:gd ap (S.at f2 o F) aG aP:=h.togd.v7 bi be ac bf (λj b=>by rw[cS];rfl) bd λj b=>by rw[ar];exact h.bI j b
  have ae:¬S.T.C.D.quiet:=λa=>by
   rcases dZ with h1|h1
   .exact h1 (y.calm 64 (a.1 _))
   .unfold aZ.fR at h1
    rw[show((S.T.iP f2).bk G F).C.D.b3.getD 3 0=S.T.C.D.b3.getD 3 0 from bR,a.2]at h1
    cases h1
  have d1:c2 100 S (S.at f2 o F) w ap:=c2.at bT ac I (λa=>absurd a ae) bg aI;exact⟨3,rfl,λ_=>fin _ _ (v8 d0 d1 rfl rfl rfl ae (λj b=>by unfold bZ.V;show o.D.bh.getD j []=_;rw[cS]) (by show o.D.aR<=_;omega) (.inl λj b=>by
   show o.D.dB j=[];rw[R.at_.inv.kE j (by rw[ar];exact h.bI j b),dU])) λ_ _ h=>h,λhx=>(by cases hx)⟩
 have aK:∀j,o.D.dB j=[]:=λj=>by unfold aZ.dB;rw[dW];rfl
 have bl:∀j,o.D.bh.getD j []=if j=no then eI no ⟨4,S.gen+1,fM f2 ((S.T.n+7)/8)⟩ else S.T.C.view j:=λj=>by
  have h1:=HY R.at_ cR j;rw[vD _ (λx hx=>(R.at_.raw.dev.wn x hx).1),if_pos (aK j)]at h1;rw[←h1,R.view];exact bb j
 have aL:∀j,S.T.g j=true->S.V j=S.T.C.view j:=λj b=>(h.view an b).symm;refine⟨0,rfl,λhx=>(by cases hx),λ_=>⟨_,rfl,_,be.cell,?_⟩⟩;have cT:=Cp bi;rw[show((S.T.iP f2).bk o F).aY=S.T.aY from rfl]at cT;refine cT.use ?_;rintro _ bV ⟨rfl,b0⟩;have b1:Ext bV bV.drew:=cj _;have b2:=(be.ext b0).ext b1;have d2:IntKind.wrap .u64 ((S.u.bY:Int)+1)=((S.u.bY+1:Nat):Int):=by rw[gQ I I];omega
 refine⟨_,_,rfl,aW ⟨λ_=>False,_,rfl,id,_,by rw[aw];exact b2.cell,_,rfl,id,_,by rw[aw,aw];exact b2.cell,_,rfl,id,_,by rw[aw];exact b2.cell,?_⟩⟩;rw[d2];obtain⟨H,ai⟩:∃H:cZ,H=⟨S.T.root,S.T.aH,no,S.now,S.u.bY+1,S.keys⟩:=⟨_,rfl⟩;refine⟨H.c.toArray,λe9=>by rw[ai];kernel_rfl,bj (vs:=gC.c) rfl λe_ cU cV fa=>⟨cV,?_⟩⟩;obtain⟨aM,d3⟩:∃aM,aM=bV.drew.heap.size:=⟨_,rfl⟩;rw[←d3]at cU⊢;refine jN cU rfl H λaO d4 d5 fb=>aW ?_;have fc:=b0.size;have fd:=b1.size;have d6:Ext ap aO:=Ext.cn (Ext.trans b0 (b1.trans cV)) d5 I;have cX:Ext aO aO.drew:=cj _;have aS:Ext ap aO.drew:=Ext.trans d6 cX;have b6:=d4.ext cX;have bo:=be.ext aS;have b7:=bi.ext aS;generalize fe:aO.drew=bq at b6 bo b7 aS⊢;refine⟨_,rfl,id,_,by rw[aw];exact bo.cell,id,gW b6 ⟨_,rfl,id,_,by rw[aw];exact bo.cell,?_⟩⟩;rw[bH];have d7:nt H:=by
  have h1:=h.t.num;have h2:=h.keys;rw[ai];exact⟨by show S.T.root<_;omega,by show S.T.aH<_;omega,by show no<_;omega,a1.1,by show S.u.bY+1<_;omega,by show S.keys<_;omega⟩
 have b8:o.D.n=S.T.n:=R.n.trans (y.n.trans h.t.n);have Y:er S.T.X bq o:=b7.ca;have cY:=mV Y.raw.dev I d7 (gen:=S.gen+1) I;rw[ac]at cY;refine cY.use ?_;rintro v aT ⟨au,b9⟩;have ff:=aS.size;have d8:∀q,c3 o q->q<aM:=λq a=>by have:=R.at_.raw.lt a;omega
 have d9:=b6.ab au λhf=>by have:=d8 aM (.inr (.inr hf));omega
 have d_:¬c3 o S.st:=(bi.ca.inv.e7 _ (.inr (.inr (.inl h.es)))).2;have br:=bo.ab au λhf=>d_ (.inr (.inr hf));have ea:ad S.W w bq:=cy bT aS λq _ a=>a.elim;have fg:=bT.size;have cb:ad S.W w aT:=cy ea au λq an a=>h.lP<| .inl ((aI q (.inr (.inr a))).resolve_right I)
 have main:∀ (A:aZ),cx aT A->A.d=o.D.d->kF A o.D->(∀i,2<=i->A.now i=o.D.now i)->(∀q,bX A q->bX o.D q\/bq.heap.size<=q)->(∀j,A.bI j=true->S.T.g j=true)->
  bL aT ((S.T.iP f2).bk {o with D:=A} F)/\∀q,c3 {o with D:=A} q->c3 S.T.C q\/w.heap.size<=q:=λA am eb c0 ec c1 cc=>by
  obtain⟨fL,dH⟩:=H9 Y am eb c0 ec au c1;refine⟨b7.CU fL (au.mono λq _ a=>.inr (.inr a)) rfl c0.1 (cP _ λj b=>(dH j b).trans (R.view j)) λj b=>.inl (cc j b),λq a=>?_⟩;rcases a with a|a|a
  .exact aI q (.inl a)
  .exact aI q (.inr (.inl a))
  .rcases c1 q a with h1|h1
   .exact aI q (.inr (.inr h1))
   .exact .inr I
 have fh:¬o.D.ro:=λe=>bz λi=>by rw[←ar];exact e i
 have ed:∀j,o.D.bI j=true->S.T.g j=true:=λj b=>by
  rw[ar]at b;exact(h.t.bI j b).resolve_right bz
 have c4:S.T.C.D.quiet->∀k,o.D.calm k:=λa k=>R.calm k (y.calm _ (a.1 _));rcases b9 with ⟨cd,rfl,am⟩|⟨cd,s,ee,bm,Q,b9⟩
 .obtain⟨az,aV⟩:=main (o.D.cA 2) am rfl (Y.inv.cA 2) (λi _=>rQ o.D 2 i) (λq a=>.inl a) λj b=>ed j b
  have ce:gd aT (S.at f2 {o with D:=o.D.cA 2} F) aG aP:=h.togd.v7 az br ac bf (λj b=>by
   show o.D.bh.getD j []=_;rw[bl j,if_neg (λe=>by rw[e,ao]at b;cases b),aL j b]) bd λj b=>by show o.D.bI j=true;rw[ar];exact h.bI j b
  have ae:¬S.T.C.D.quiet:=λa=>by
   have:=(jI (k:=2) (m:=0) (.inr rfl) Y.raw.dev.f4 (c4 a 1)).2;rw[this]at cd;cases cd
  exact⟨3,rfl,λ_=>fin _ _ (v8 ce (c2.at cb ac (by show o.D.aR<=_;omega) (λa=>absurd a ae) bg aV) rfl rfl rfl ae (λj b=>by
   show o.D.bh.getD j []=_;rw[bl j,if_neg (λe=>by rw[e,ao]at b;cases b),aL j b]) (by show o.D.aR<=_;omega) (.inl λj _=>aK j)) λ_ _ h=>h,λhx=>(by cases hx)⟩
 have c7:∀j,bm.dB j=if j=(S.gen+1)%2 then [eI ((S.gen+1)%2) (jf H o.D.n (S.gen+1))] else []:=λj=>by
  rw[Q,Bp,aK,aK];rfl
 have c8:H=⟨S.T.root,S.T.aH,no,S.now,S.u.bY+1,L.length⟩:=by rw[ai,h.keys]
 have c9:∀V:Nat->cW,(∀j,V j=if j=(S.gen+1)%2 then eI ((S.gen+1)%2) (jf H o.D.n (S.gen+1)) else o.D.bh.getD j [])->g5 V S.T.n (S.gen+1) H f2 F pages L:=λV ei=>by
  rw[c8];refine Ib h bC dx ct cq dv (λx hx=>aE x λe=>by
   have:=(h.f x).2 (.inl hx);rw[e,cs]at this;cases this) (by rw[ei,if_pos rfl,c8,b8]) (λj b=>?_) aL
  rw[ei,if_neg b,bl];by_cases e:j=no
  .rw[if_pos e,if_pos e]
  .rw[if_neg e,if_neg e]
   by_cases cf:S.T.g j=true
   .rw[if_pos cf,aL j cf]
   .rw[if_neg cf]
 have bs:∀q,bX bm q->bX o.D q\/bq.heap.size<=q:=by rw[Q];exact vV ee
 have ef:∀i,2<=i->bm.now i=o.D.now i:=λi hi=>by rw[Q,oD,if_neg I]
 have cg:bm.n=o.D.n:=by rw[Q];rfl
 have ch:bm.d=o.D.d:=by rw[Q];rfl
 have eg:bm.bh=o.D.bh:=by rw[Q];rfl
 have eh:bm.aR=o.D.aR+1:=by rw[Q];rfl
 have c_:S.T.C.D.quiet->bm.b3.getD 3 0= -1:=λa=>by
  rw[Q];show(o.D.b3.set 2 _).getD 3 0=_;have bt:=Y.raw.dev.f4;rw[fl (by rw[df];omega),fG (by decide),←fl (d:=0),dX];rw[show((S.T.iP f2).bk G F).C.D.b3.getD 3 0=S.T.C.D.b3.getD 3 0 from bR,a.2];rfl
 rcases b9 with ⟨bu,rfl,am⟩|⟨bu,rfl,am⟩
 .obtain⟨A,N⟩:∃A,A=(bm.cA 3).gk S.T.g λj=>if j=(S.gen+1)%2 then [eI ((S.gen+1)%2) (jf H o.D.n (S.gen+1))] else []:=⟨_,rfl⟩
  obtain⟨az,aV⟩:=main A (by rw[N];exact am.gk _ _) (by rw[N];exact ch) ⟨by rw[N];exact cg,λj b=>by rw[ar];exact h.bI j (by rw[N]at b;exact b),λj _=>by rw[N];exact c7 j⟩ (λi hi=>by rw[N];exact ef i hi) (λq a=>by rw[N]at a;exact bs q a) λj b=>by rw[N]at b;exact b
  have da:A.bh=o.D.bh:=by rw[N];exact eg
  have fi:A.aR=o.D.aR+1:=by rw[N];exact eh
  have db:A.d=S.T.C.D.d:=by rw[N];exact ch.trans ac
  have ej:A.r1=S.T.C.D.r1:=by rw[N];exact(show bm.r1=o.D.r1 by rw[Q];rfl).trans bg
  have cc:∀j,A.dB j=if j=(S.gen+1)%2 then [eI ((S.gen+1)%2) (jf H o.D.n (S.gen+1))] else []:=λj=>by rw[N];exact c7 j
  have dc:∀j,S.T.g j=true->A.bh.getD j []=S.V j:=λj b=>by rw[da,bl j,if_neg (λe=>by rw[e,ao]at b;cases b),aL j b]
  have ce:gd aT (S.at f2 {o with D:=A} F) aG aP:=h.togd.v7 az br db bf dc bd λj b=>by rw[N];exact b
  have ae:¬S.T.C.D.quiet:=λa=>by
   unfold aZ.fR at bu;rw[c_ a]at bu;cases bu
  exact⟨3,rfl,λ_=>fin _ _ (v8 ce (c2.at cb db (by show A.aR<=_;omega) (λa=>absurd a ae) ej aV) rfl rfl rfl ae dc (by show A.aR<=_;omega) (.inr ⟨H,f2,F,_,cc,c9 _ λj=>by show(if _ then _ else A.bh.getD j [])=_;rw[da],by rw[ai],by rw[ai]⟩)) λ_ _ h=>h,λhx=>(by cases hx)⟩
 have ek:∀j,S.T.n<=j->o.D.bh.getD j []=[]:=λj b=>by
  rw[fq,kk (by have:o.D.bh.length=S.T.n:=b8;omega)];rfl
 have dd:∀j,o.D.now j=o.D.bh.getD j []:=λj=>by rw[vD _ (λx hx=>(Y.raw.dev.wn x hx).1),if_pos (aK j)]
 have fj:bm.n=S.T.n:=cg.trans b8;have el:∀j,(bm.cA 3).jg.bh.getD j []=if j=(S.gen+1)%2 then eI ((S.gen+1)%2) (jf H o.D.n (S.gen+1)) else o.D.bh.getD j []:=λj=>by
  show((List.range bm.n).map bm.now).getD j []=_;have fk:16<=bm.n:=by have:16<=o.D.n:=Y.raw.dev.bW;omega
  by_cases b:j<bm.n
  .rw[fl (by simp;exact b),List.getElem_map,List.getElem_range,Q,oD,dd]
  .rw[fq,kk (by simp;omega),if_neg I,ek j I];rfl
 obtain⟨K,O⟩:∃K,K=(bm.cA 3).jg.gk (λ_=>false) λ_=> []:=⟨_,rfl⟩;have em:∀j,K.dB j=[]:=λj=>by rw[O];rfl
 have dg:∀j,K.bh.getD j []=if j=(S.gen+1)%2 then eI ((S.gen+1)%2) (jf H o.D.n (S.gen+1)) else o.D.bh.getD j []:=λj=>by rw[O];exact el j
 have en:K.n=o.D.n:=by rw[O];exact(r4 (bm.cA 3)).trans cg
 have ci:K.d=S.T.C.D.d:=by rw[O];exact ch.trans ac
 obtain⟨az,aV⟩:=main K (by rw[O];exact am.gk _ _) (ci.trans ac.symm) ⟨en,λj b=>(by rw[O]at b;cases b),λj b=>(by rw[O]at b;cases b)⟩ (λi hi=>by
  have h1:K.now i=K.bh.getD i []:=by rw[O];rfl
  rw[h1,dg,if_neg I,dd]) (λq a=>by
   rw[O]at a;rcases a with e|e|e|⟨x,hx,e⟩
   .exact bs q (.inl e)
   .exact bs q (.inr (.inl e))
   .exact bs q (.inr (.inr (.inl e)))
   .cases hx) λj b=>(by rw[O]at b;cases b)
 refine⟨0,rfl,λhx=>(by cases hx),λ_=>⟨_,rfl,_,by rw[aw];exact br.cell,(GB az.s).use ?_⟩⟩;rintro _ aX ⟨rfl,s2,eo,a0,dh⟩;have aB:=c9 (λj=>K.bh.getD j []) dg;have eq:f2 0=true/\f2 1=true:=⟨(aB.g 0).2 (.inr (.inl (by decide))),(aB.g 1).2 (.inr (.inl (by decide)))⟩;obtain⟨et,fm⟩:=az.space eo a0 dh (λj b=>by
  have b:K.bI j=true:=b;rw[O]at b;cases b) eq
 have fn:=a0.size;have eu:=br.ab a0 (h.t.c6 _ h.es).2.1;have ev:=d9.ab a0 λhf=>by
  have h1:=h.t.lt (q:=aM) (.inr (.inr (.inl hf)));omega
 have ew:=et.gk (s:=f2) (z:=λ_=> []) (λf hf j ex _ _=>by
  have h1:=cR f hf;unfold Fr.gX at h1;rw[ex]at h1;simpa using h1) (λj _=>em j) λj b=>.inl b
 obtain⟨f_,B⟩:∃f_:aN,f_=(((S.T.iP f2).bk {o with D:=K} F).vX f2 f2 S.T.s1 s2).bk {o with D:=K.gk f2 λ_=> []} F:=⟨_,rfl⟩;have ey:bL aX f_:=by rw[B];exact ew
 have bv:Ext aX aX.drew:=cj _;have di:Var aX.drew S.st (g4 S.T.aY S.T.C.D.d S.T.C.c S.T.sb S.l S.u S.gen S.now S.first S.pending S.keys S.failed) 158:=eu.ext bv;have ez:=ev.ext bv;have eB:=ey.ext bv;have bx:f_.E=S.T.E:=by rw[B];rfl
 refine⟨rfl,aW ⟨λ_=>False,id,gW ez ⟨_,rfl,id,_,by rw[aw];exact di.cell,_,rfl,?_⟩⟩⟩;rw[aw,cB,bH];refine Ie di H λdk dl dm=>?_;have eD:=eB.kh (by rw[bx];exact h.es) dm;obtain⟨bE,bG⟩:=dP dl (i:=13) (by simp[g4]);have dn:=dT dl (i:=13) (.int .u64 ((S.gen+1:Nat):Int));have eE:=dp dk S.st 13 (.int .u64 ((S.gen+1:Nat):Int));refine⟨_,rfl,by rw[aw];exact bE,by rw[aw];exact bG,aW ?_⟩;rw[aw,cB];obtain⟨eF,eG⟩:=dP dn (i:=16) (by simp[g4]);have dq:=dT dn (i:=16) (0:Int);have ck:=eE.trans (dp _ S.st 16 (0:Int));refine⟨_,rfl,by rw[aw];exact eF,by rw[aw];exact eG,aW ?_⟩;rw[aw,cB];generalize (dk.setCell ⟨S.st,13,none⟩ (.int .u64 ((S.gen+1:Nat):Int))).setCell ⟨S.st,16,none⟩ (0:Int)=dr at dq ck⊢;have eH:=eD.kh (by rw[bx];exact h.es) ck;have cm:Ext dr dr.drew:=cj _;have co:=dq.ext cm;have eJ:=eH.ext cm;refine aW ⟨_,rfl,id,_,co.cell,_,rfl,id,_,by rw[aw];exact co.cell,?_⟩;have eK:IntKind.wrap .u64 (((S.gen+1:Nat):Int)+1)=((S.gen+2:Nat):Int):=by rw[gQ I I];omega
 rw[eK];have fo:f_.gen=S.gen+1:=by rw[B];exact dy
 have ds:f_.aY=S.T.aY:=by rw[B];rfl
 have dt:=Ia eJ (gen:=S.gen+2) I I;rw[ds]at dt;refine dt.use ?_;rintro _ eL ⟨rfl,eM,du⟩;have eN:=co.ab du (h.t.c6 _ h.es).1;have eO:∀q,(f_.my (S.gen+2)).M q->S.T.M q\/w.heap.size<=q:=λq a=>by
  rw[B]at a;rcases a with a|a|a|a
  .exact(aV q a).imp .inl id
  .exact .inl (.inr (.inl a))
  .rcases dh q a with h1|h1
   .exact .inl (.inr (.inr (.inl h1)))
   .have:=au.size;exact .inr I
  .exact .inl (.inr (.inr (.inr a)))
 refine⟨rfl,⟨S.st,f_.my (S.gen+2),S.l,H,S.gen+1,S.now,S.first,0,S.keys,S.failed⟩,⟨rfl,?_,by rw[B];rfl,rfl,?_,λa=>?_,?_,eO,bx,by rw[B];rfl,by rw[B];exact(show K.r1=bm.r1 by rw[O];rfl).trans ((show bm.r1=o.D.r1 by rw[Q];rfl).trans bg)⟩,rfl,.inl ⟨rfl,⟨⟨?_,eM,?_,?_,rfl,?_,?_⟩,?_,h.bn,?_,?_,h.fT,h.keys,cG _,λ_=>⟨?_,?_,?_⟩,λhf=>?_⟩,an,rfl,by rw[ai],by rw[ai],rfl⟩⟩
 .rw[B];exact ci
 .rw[B];show K.aR<=_;rw[O];show bm.aR<=_;omega
 .rw[B]
  show aZ.quiet (K.gk _ _);rw[O];refine⟨λk=>r5 bm ?_,?_⟩
  .have bt:=(jI (k:=2) (m:=k) (.inr rfl) Y.raw.dev.f4 (c4 a (k+1))).1
   rw[Q];exact bt
  .show(bm.b3.set 3 (gy (bm.b3.getD 3 0)).2).getD 3 0= -1
   have bt:=Y.raw.dev.f4;have fp:bm.b3.length=4:=by rw[Q];show(o.D.b3.set 2 _).length=4;rw[df];exact bt
   rw[c_ a,fl (by rw[df];omega),ie];rfl
 .have hs:∀q,q=S.st->S.W q:=λq e=>by rw[e];exact h.vZ
  have av:ad S.W w aX:=cy cb a0 λq _ a=>h.lP (.inr (.inr (.inl a)));have ax:=cy av bv λq _ a=>a.elim;have eQ:=cy ax dm λq _ a=>hs q a;have eR:=cy eQ ck λq _ a=>hs q a;have eS:=cy eR cm λq _ a=>a.elim;exact cy eS du λq _ a=>h.lP (.inr (.inl a))
 .show Var eL S.st (g4 f_.aY f_.C.D.d f_.C.c f_.sb _ _ _ _ _ _ _ _) _
  rw[ds,show f_.C.D.d=S.T.C.D.d by rw[B];exact ci,show f_.C.c=S.T.C.c by rw[B];exact bf,show f_.sb=S.T.sb by rw[B];rfl];exact eN
 .show f_.E S.st
  rw[bx];exact h.es
 .rw[B];exact aB
 .refine⟨a1.1,a1.2.1,?_,by show S.gen+1+2<_;omega,a1.2.2.2.2⟩
  show H.bY+1<=S.gen+1;rw[ai];show S.u.bY+1+1<=_;omega
 .intro j b
  have b:f_.g j=true:=b;show f_.C.D.bI j=true;rw[B]at b⊢;exact b
 .refine h.ok.agree (by rw[B];rfl) (by rw[B];rfl) λx hx=>?_
  rw[B];exact(aE x λe=>by
   have:=(h.f x).2 (.inl hx);rw[e,cs]at this;cases this).symm
 .intro j
  have:(f_.my (S.gen+2)).f j=f2 j:=by rw[B];rfl
  rw[this];exact aB.g j
 .intro x hx
  exact⟨(aB.two x hx).1,(aB.two x hx).2.1⟩
 .intro e
  have h1:=e S.T.n;have h2:(f_.my (S.gen+2)).C.D.bI S.T.n=f2 S.T.n:=by rw[B];rfl
  rw[h2,cC.pf S.T.n (bp _)]at h1;cases h1
 .rw[B];rfl
 .have eT:f2 S.u.map=false:=by rw[bC];unfold dj;rw[if_pos rfl]
  have h1:=rX (s:=λi=>f2 i||f2 i) (t:=dj (λi=>f2 i||f2 i) S.u.map true) (k:=S.u.map) (by simp[eT]) (by simp[dj]) (λi hi=>by simp[dj,hi]) (n:=S.T.n) cr.2.2.2.1;have h2:=mn (dj (λi=>f2 i||f2 i) S.u.map true) S.T.n;have fr:cl (f_.my (S.gen+2))=S.T.n-e0 (λi=>f2 i||f2 i) S.T.n:=by rw[B];rfl
  show 1<=cl (f_.my (S.gen+2));omega
 .have hf:S.failed=true:=hf
  rw[an]at hf;cases hf
end
theorem CV(a b:Int)(w:J)(T:TypeId)(k:IntKind):Sem.run aj (Builtin.max_ #[T,T] T #[.int k a,.int k b]) w=.ok (.int k (max a b)) w:=by
 simp only[Builtin.max_];unfold Builtin.max2;simp;split<;>omega
theorem c2.trans{S ay b:bZ}{w w' c:J}{k l:Nat}(h1:c2 k S ay w w')(h2:c2 l ay b w' c):c2 (k+l) S b w c:=
 ⟨h2.st.trans h1.st,h2.d.trans h1.d,h2.n.trans h1.n,h2.l.trans h1.l,by have:=h1.aR;have:=h2.aR;omega,λh=>h2.q (h1.q h),cy h1.ab h2.ab λq f a=>h1.back f a,λq a=>by
  have:=h1.ab.size
  rcases h2.c5 q a with e|e
  .exact h1.c5 q e
  .exact .inr I,h2.E.trans h1.E,h2.G.trans h1.G,h2.r.trans h1.r⟩
theorem c2.mono{S ay:bZ}{w w':J}{k l:Nat}(h:c2 k S ay w w')(a:k<=l):c2 l S ay w w':={h with aR:=by have:=h.aR;omega}
theorem c2.ext{w w':J}(S:bZ)(h:Ext w w'):c2 0 S S w w':=⟨rfl,rfl,rfl,rfl,bp _,λh=>h,h.mono λ_ _ h=>h.elim,λq a=>.inl a,rfl,rfl,rfl⟩
section
variable {w w' w1:J}{T:aN}{S ay eT:bZ}{pages aG:O Nat}{L aP:O aI}
theorem gd.ext(h:gd w S aG aP)(hx:Ext w w'):gd w' S aG aP:=⟨h.v.ext hx,h.t.ext hx,h.es,h.fU,h.gen,h.num,h.bI⟩
theorem de.ext(h:de w S pages L aG aP)(hx:Ext w w'):de w' S pages L aG aP:=⟨h.togd.ext hx,h.ok,h.bn,h.f,h.two,h.fT,h.keys,h.c1,h.live,h.dead⟩
theorem de.kh{iQ:Nat}(h:de w S pages L aG aP)(a:S.T.E iQ)(hs:iQ≠S.st)(hc:ad (λq=>q=iQ) w w'):de w' S pages L aG aP:=
 ⟨⟨h.v.ab hc λe=>hs e.symm,h.t.kh a hc,h.es,h.fU,h.gen,h.num,h.bI⟩,h.ok,h.bn,h.f,h.two,h.fT,h.keys,h.c1,h.live,h.dead⟩
theorem Ig(h:de w S pages L aG aP):aQ aj 53 #[.pointer (some S.st)] w (λv w'=>v=S.pending/\w=w'):=by
 refine okF (af.xj (some S.st)) aA.xj func53 ?_;exact⟨λa=>(by cases a),λ_=>⟨_,rfl,_,by rw[aw];exact h.v.cell,rfl,rfl⟩⟩
theorem CW(h:de w S pages L aG aP):aQ aj 48 #[.pointer (some S.st)] w (λv w'=>v=S.failed/\w=w'):=by
 refine okF (af.xh (some S.st)) aA.xh func48 ?_;exact⟨λ_=>⟨_,rfl,_,by rw[aw];exact h.v.cell,rfl,rfl⟩,λa=>(by cases a)⟩
def fm(S:bZ):Nat:=cl S.T-2*S.T.aH-4
theorem yR(h:de w S pages L aG aP):aQ aj 82 #[.pointer (some S.st)] w (λv w'=>v=.int .i64 (fm S:Nat)/\Ext w w'):=by
 refine okF (af.tW (some S.st)) aA.tW func82 ?_;(delta af.tW eP aC au;dsimp only);refine⟨_,rfl,_,h.v.cell,(Cp h.t).use ?_⟩;rintro _ e ⟨rfl,a⟩;refine⟨_,_,rfl,_,rfl,_,by rw[aw];exact(h.v.ext a).cell,(yb (h.t.ext a).s).use ?_⟩;rintro _ b ⟨rfl,c⟩;have j:=h.t.s.bw;have k:=h.t.num.2.1;have l:=mn (λi=>S.T.f i||S.T.g i) S.T.n;have d:(S.T.n:Int)-e0 (λi=>S.T.f i||S.T.g i) S.T.n=((cl S.T:Nat):Int):=by unfold cl;omega
 have m:cl S.T<=S.T.n:=Nat.sub_le _ _;rw[d,bx (n:=2*(S.T.aH:Int)) I I];refine⟨_,rfl,_,b,CV _ _ b _ _,?_,Ext.trans a c⟩;rw[bx (n:=((cl S.T:Nat):Int)-2*(S.T.aH:Int)) I I,bx I I];unfold fm
 congr 1
 omega
theorem Ih(h:de w S pages L aG aP):aQ aj 58 #[.pointer (some S.st)] w (λv w'=>v=.int .i64 (fm S:Nat)/\Ext w w'):=by
 refine okF (af.xk (some S.st)) aA.xk func58 ?_;refine⟨λa=>(by cases a),λ_=>(yR h).use ?_⟩;rintro _ w1 ⟨rfl,hx⟩;exact⟨_,rfl,rfl,hx⟩
end
def h_(c:Prop)(S ay:bZ)(pages:O Nat)(L:O aI)(aG:O Nat)(aP:O aI)(v:aa)(w':J):Prop:=
 (v=.int .i64 0/\c/\de w' ay pages L pages L/\ay.failed=false/\ay.gen=S.gen+1/\ay.u.clock=S.now/\ay.u.bY=S.u.bY+1/\ay.pending=0)\/
 (v=.int .i64 3/\¬S.T.C.D.quiet/\de w' ay aG aP aG aP/\ay.failed=true/\ay.u=S.u/\ay.gen=S.gen/\(∀j,S.T.g j=true->ay.V j=S.V j)/\((∀j,S.T.g j=true->ay.T.C.D.ep j=[])\/(c/\yP ay S.gen S.T.g pages L S.now (S.u.bY+1))))
theorem qp.x{c:Prop}{S:bZ}{pages aG:O Nat}{L aP:O aI}{w w':J}{v:aa}(h:qp S pages L aG aP w v w')(hc:c):∃ay,c2 100 S ay w w'/\ay.now=S.now/\h_ c S ay pages L aG aP v w':=by
 obtain⟨ay,h1,h2,a⟩:=h;refine⟨ay,h1,h2,?_⟩;rcases a with ⟨a1,a2,a3⟩|⟨a1,a2,a3,a4,a5,c8,dF,c9⟩
 .exact .inl ⟨a1,hc,a2,a3⟩
 .exact .inr ⟨a1,a2,a3,a4,a5,c8,dF,.inr ⟨hc,c9⟩⟩
theorem h_.val{c:Prop}{S ay:bZ}{pages aG:O Nat}{L aP:O aI}{w':J}{v:aa}(h:h_ c S ay pages L aG aP v w'):∃n:Int,v=n:=by
 rcases h with ⟨a,_⟩|⟨a,_⟩<;>exact⟨_,a⟩
def mz(S ay:bZ)(pages:O Nat)(L:O aI)(aG:O Nat)(aP:O aI)(v:aa)(w':J):Prop:=
 (v=.int .i64 0/\S.pending+1<S.l.batch/\de w' ay pages L aG aP/\ay.failed=false/\ay.gen=S.gen/\ay.u=S.u/\ay.pending=S.pending+1/\ay.first=(if S.pending=0 then S.now else S.first)/\∀j,S.T.g j=true->ay.V j=S.V j)\/
 h_ (S.l.batch<=S.pending+1) S ay pages L aG aP v w'
section
variable {w w' w1:J}{T:aN}{S ay eT:bZ}{pages aG:O Nat}{L aP:O aI}
theorem Ii{d:Int}(b:gd w S aG aP)(y:S.failed=false)(ok:gj S.T pages L)(bn:pages.Nodup)(f:∀no,S.T.f no=true↔no∈pages\/no<2\/no=S.u.map)(two:∀x∈pages,2<=x/\x≠S.u.map)(fT:∀p∈L,cv p.1/\p.2.length<=24)
 (Y:¬S.T.C.D.ro/\S.T.C.D.ep=(λ_=> [])/\1<=cl S.T) (Z:(S.keys:Int)+d=L.length) (ar:S.pending<1000) (aa:L.length<4096) (az:S.keys<100000) (ab:S.T.C.D.aR<=800000000) (ac:S.gen<=1000000000):
 aQ aj 84 #[.pointer (some S.st),d] w (λv w'=>∃ay,c2 100 S ay w w'/\ay.now=S.now/\mz S ay pages L aG aP v w'):=by
 refine okF (af.tY (some S.st) d) aA.tY func84 ?_;(delta af.tY r1 st au ak bD aC;dsimp only);have O:=b.num;have aB:S.T.M S.st:=.inr (.inr (.inr (.inl b.es)));obtain⟨av,ax,g,z,A⟩:=b.set (i:=17) (x:=L.length) (by decide);refine⟨_,rfl,_,by rw[aw];exact b.v.cell,_,rfl,by rw[aw];exact av,by rw[aw];exact ax,aW ?_⟩;rw[aw,cB,Z,bx (n:=(L.length:Int)) I I];generalize aD:w.setCell ⟨S.st,17,none⟩ L.length=ae at g z A⊢;obtain⟨o,t⟩:∃o,o=if S.pending=0 then S.now else S.first:=⟨_,rfl⟩
 refine ij (λk=>Var k S.st (g4 S.T.aY S.T.C.D.d S.T.C.c S.T.sb S.l S.u S.gen S.now o S.pending L.length S.failed) 158/\bL k S.T/\ad (λq=>q=S.st) w k) (λaE P=>?_) ?_
 .refine⟨_,rfl,_,by rw[aw];exact g.cell,λB=>?_,λB=>P _ ⟨?_,z,A⟩⟩
  .have h0:S.pending=0:=by
    have:(S.pending:Int)=0:=by simpa using B
    omega
   obtain⟨E,F⟩:=dP g (i:=15) (by simp[bZ.cells,g4]);have ah:=dT g (i:=15) (.int .u64 (S.now:Int));have Q:=dp ae S.st 15 (.int .u64 (S.now:Int));refine⟨_,rfl,_,by rw[aw];exact g.cell,_,rfl,by rw[aw];exact E,by rw[aw];exact F,aW (P _ ⟨?_,?_,?_⟩)⟩
   .rw[aw,cB,t,if_pos h0];exact ah
   .rw[aw,cB];exact z.kh b.es Q
   .rw[aw,cB];exact A.trans Q
  .have h0:¬S.pending=0:=by
    have:¬(S.pending:Int)=0:=by simpa using B
    omega
   rw[t,if_neg h0];exact g
 rintro k ⟨G,ai,al⟩;obtain⟨E,F⟩:=dP G (i:=16) (by simp[g4]);have R:=dT G (i:=16) (.int .i64 ((S.pending+1:Nat):Int));have H:=dp k S.st 16 (.int .i64 ((S.pending+1:Nat):Int));have am:IntKind.wrap .i64 ((S.pending:Int)+1)=((S.pending+1:Nat):Int):=by rw[bx I I];omega
 refine⟨_,rfl,_,by rw[aw];exact G.cell,_,rfl,by rw[aw];exact E,by rw[aw];exact F,aW ?_⟩;rw[aw,cB,am];have U:=ai.kh b.es H;generalize aF:k.setCell ⟨S.st,16,none⟩ (.int .i64 ((S.pending+1:Nat):Int))=r at R H U⊢;have J:Ext r r.drew:=cj _;have K:=R.ext J;have an:=U.ext J;have ao:ad (λq=>q=S.st) w r.drew:=cy (al.trans H) J λq _ N=>N.elim;obtain⟨m,a⟩:∃m:bZ,m={S with first:=o,pending:=S.pending+1,keys:=L.length}:=⟨_,rfl⟩;have ap:o<=S.now:=by rw[t];split<;>omega
 have V:de r.drew m pages L aG aP:=by
  rw[a];exact⟨⟨K,an,b.es,b.fU,b.gen,⟨O.1,ap,O.2.2⟩,b.bI⟩,ok,bn,f,two,fT,rfl,by show S.pending+1<=1000;omega,λ_=>Y,λhf=>by have hf:S.failed=true:=hf;rw[y]at hf;cases hf⟩
 have W:c2 0 S m w r.drew:=by
  rw[a];exact⟨rfl,rfl,rfl,rfl,bp _,λh=>h,ao.mono λq _ e=>by rw[e];exact b.vZ,λq N=>.inl N,rfl,rfl,rfl⟩
 refine aW ⟨_,rfl,id,_,by rw[aw];exact K.cell,_,rfl,id,_,by rw[aw,aw];exact K.cell,λs=>?_,λs=>?_⟩
 .have s:((S.pending+1:Nat):Int)>=(S.l.batch:Int):=b1 s
  have X:=yQ V (by rw[a];exact y) aa (by rw[a];exact ab) (by rw[a];exact ac);rw[show m.st=S.st by rw[a]]at X;refine X.use ?_;intro v aH aq;obtain⟨ay,r1,b5,ag⟩:=aq.x (c:=S.l.batch<=S.pending+1) I;obtain⟨n,rfl⟩:=ag.val;refine⟨n,rfl,ay,(W.trans r1).mono I,by rw[b5,a],.inr ?_⟩;rw[a]at ag;exact ag
 .have s:¬((S.pending+1:Nat):Int)>=(S.l.batch:Int):=cu s
  exact⟨m,W.mono I,by rw[a],.inl ⟨rfl,I,V,by rw[a];exact y,by rw[a],by rw[a],by rw[a],by rw[a];exact t,λj _=>by rw[a];rfl⟩⟩
theorem yS(h:de w S pages L aG aP)(a:L.length<4096)(b:S.T.C.D.aR<=800000000)(d:S.gen<=1000000000):
 aQ aj 34 #[.pointer (some S.st)] w (λv w'=>(S.failed=true/\v=.int .i64 8/\w=w')\/(S.failed=false/\∃ay,c2 100 S ay w w'/\ay.now=S.now/\h_ True S ay pages L aG aP v w')):=by
 refine okF (af.tK (some S.st)) aA.tK func34 ?_;(delta af.tK ak a_ aC;dsimp only);refine⟨λe=>(by cases e),λ_=>⟨_,rfl,S.failed,by rw[aw];exact h.v.cell,λhf=>.inl ⟨hf,rfl,rfl⟩,λhf=>(yQ h hf a b d).use ?_⟩⟩;intro v w' f;obtain⟨ay,r1,b5,ag⟩:=f.x (c:=True) trivial;obtain⟨n,rfl⟩:=ag.val;exact⟨n,rfl,.inr ⟨hf,ay,r1,b5,ag⟩⟩
end
section
variable {w w' w1:J}{T ao:aN}{S ay eT:bZ}{pages aG:O Nat}{L aP:O aI}{k:Nat}
def bZ.b7(S:bZ)(ao:aN):bZ:={S with T:=ao}
theorem gd.to(h:gd w S aG aP)(ht:bL w' ao)(a:bN S.T ao w w' k)(f:ao.E=S.T.E)(l:ao.G=S.T.G)(o:∀no,S.T.g no=true->ao.P no=S.T.P no):
 gd w' (S.b7 ao) aG aP/\c2 k S (S.b7 ao) w w'/\(S.b7 ao).V=S.V:=by
 have r:ao.C.D.bh=S.T.C.D.bh:=congrArg (λp=>p.1.1) a.bh;have s:ao.C.D.b3.getD 3 0=S.T.C.D.b3.getD 3 0:=congrArg Prod.snd a.bh;have i:(S.b7 ao).V=S.V:=by
  funext j;show ao.C.D.bh.getD j []=S.T.C.D.bh.getD j [];rw[r]
 refine⟨⟨?_,ht,by show ao.E S.st;rw[f];exact h.es,?_,a.gen.trans h.gen,h.num,λj b=>?_⟩,⟨rfl,a.d,a.n,rfl,a.aR,λe=>⟨λm=>a.calm m (e.1 _),s.trans e.2⟩,a.ab.mono λq _ e=>h.lP e,a.c5,f,l,congrArg (λp=>p.1.2.2.2.2) a.bh⟩,i⟩
 .show Var w' S.st (g4 ao.aY ao.C.D.d ao.C.c ao.sb _ _ _ _ _ _ _ _) _
  rw[a.aY,a.d,a.c,a.sb];exact h.v.ab a.ab (h.t.iN h.es)
 .show g5 _ ao.n _ _ ao.g ao.P _ _
  rw[i,a.n,a.g];exact h.fU.agree (λ_ _=>rfl) λx hx=>(o x ((h.fU.g x).2 (.inl hx))).symm
 .have b:ao.g j=true:=b
  rw[a.g]at b;show ao.C.D.bI j=true;rw[a.bI.1];exact h.bI j b
theorem bN.ro(h:bN T ao w w' k):ao.C.D.ro↔T.C.D.ro:=by unfold aZ.ro;rw[h.bI.1]
theorem de.to(h:de w S pages L aG aP)(ht:bL w' ao)(a:bN S.T ao w w' k)(c:ao.E=S.T.E)(d:ao.G=S.T.G)(b:je S.T ao):
 de w' (S.b7 ao) pages L aG aP/\c2 k S (S.b7 ao) w w'/\(S.b7 ao).V=S.V:=by
 obtain⟨h1,h2,i⟩:=h.togd.to ht a c d λno j=>(b.eN no (by rw[j,Bool.or_true])).1;have l:cl ao=cl S.T:=by unfold cl;rw[a.n,b.f,a.g]
 refine⟨⟨h1,b.ok h.ok λx hx=>(h.f x).2 (.inl hx),h.bn,λno=>by show ao.f no=true↔_;rw[b.f];exact h.f no,h.two,h.fT,h.keys,h.c1,λhf=>?_,λhf=>?_⟩,h2,i⟩
 .obtain⟨a1,a2,a3⟩:=h.live hf
  exact⟨λe=>a1 (a.ro.1 e),a.bI.2.trans a2,by show 1<=cl ao;rw[l];exact a3⟩
 .obtain⟨a1,a2⟩:=h.dead hf
  exact⟨a.ro.2 a1,a2⟩
theorem CX{n:Nat}(h:de w S pages L aG aP)(O:n<18446744073709551616)(B:L.length<4096)(E:S.T.C.D.aR<=800000000)(F:S.gen<=1000000000):
 aQ aj 51 #[.pointer (some S.st),.int .u64 (n:Nat)] w (λv w'=>∃ay,c2 100 S ay w w'/\ay.now=max S.now n/\
  ((v=.int .i64 0/\(S.pending=0\/max S.now n-S.first<S.l.dX)/\de w' ay pages L aG aP/\ay={S with now:=max S.now n})\/
   (S.failed=false/\h_ (S.pending≠0/\S.l.dX<=max S.now n-S.first) {S with now:=max S.now n} ay pages L aG aP v w'))):=by
 refine okF (af.tN (some S.st) (n:Nat)) aA.tN func51 ?_;(delta af.tN ak bD st r1 aC;dsimp only);have G:=h.num;have P:S.T.M S.st:=.inr (.inr (.inr (.inl h.es)));have H:max (S.now:Int) (n:Int)=((max S.now n:Nat):Int):=by omega
 obtain⟨av,ax,t,u,y⟩:=h.set (i:=14) (x:=.int .u64 ((max S.now n:Nat):Int)) (by decide);refine⟨λa=>(by cases a),λ_=>⟨_,rfl,_,by rw[aw];exact h.v.cell,_,w,CV _ _ w _ _,_,rfl,by rw[aw];exact av,by rw[aw];exact ax,aW ?_⟩⟩;rw[aw,cB,H];generalize w.setCell ⟨S.st,14,none⟩ (.int .u64 ((max S.now n:Nat):Int))=g at t u y⊢;have k:Ext g g.drew:=cj _;have j:=t.ext k;have J:ad (λq=>q=S.st) w g.drew:=cy y k λq _ m=>m.elim;obtain⟨b,d⟩:∃b:bZ,b={S with now:=max S.now n}:=⟨_,rfl⟩;rw[←d];have o:de g.drew b pages L aG aP:=by
  rw[d];exact⟨⟨j,u.ext k,h.es,h.fU,h.gen,⟨by show max S.now n<_;omega,by show S.first<=max S.now n;omega,G.2.2⟩,h.bI⟩,h.ok,h.bn,h.f,h.two,h.fT,h.keys,h.c1,h.live,h.dead⟩
 have p:c2 0 S b w g.drew:=by
  rw[d];exact⟨rfl,rfl,rfl,rfl,bp _,λh=>h,J.mono λq _ e=>by rw[e];exact h.vZ,λq m=>.inl m,rfl,rfl,rfl⟩
 have r:b.now=max S.now n:=by rw[d]
 refine aW ⟨_,rfl,id,_,by rw[aw];exact j.cell,λs=>⟨λ_=>?_,λa=>(by cases a)⟩,λs=>?_⟩
 .have h0:S.pending=0:=by
   have:(S.pending:Int)=0:=by simpa using s
   omega
  exact⟨b,p.mono I,r,.inl ⟨rfl,.inl h0,o,rfl⟩⟩
 .have h0:¬S.pending=0:=by
   have:¬(S.pending:Int)=0:=by simpa using s
   omega
  have z:S.failed=false:=by
   cases hf:S.failed with
   |false=>rfl
   |true=>exact absurd (h.dead hf).2.2.2 h0
  have K:IntKind.wrap .u64 (((max S.now n:Nat):Int)-(S.first:Int))=((max S.now n-S.first:Nat):Int):=by rw[gQ I I];omega
  refine⟨_,rfl,id,_,by rw[aw];exact j.cell,_,rfl,id,_,by rw[aw];exact j.cell,_,rfl,id,_,by rw[aw,aw];exact j.cell,?_⟩;rw[K];refine⟨λa=>?_,λa=>?_⟩
  .have a:((max S.now n-S.first:Nat):Int)<(S.l.dX:Int):=b1 a
   exact⟨b,p.mono I,r,.inl ⟨rfl,.inr I,o,rfl⟩⟩
  .have a:¬((max S.now n-S.first:Nat):Int)<(S.l.dX:Int):=cu a
   have A:=yQ o (by rw[d];exact z) B (by rw[d];exact E) (by rw[d];exact F);rw[show b.st=S.st by rw[d]]at A;refine A.use ?_;intro v Q N;obtain⟨ay,r1,b5,ag⟩:=N.x (c:=S.pending≠0/\S.l.dX<=max S.now n-S.first) ⟨h0,I⟩;obtain⟨n,rfl⟩:=ag.val;exact⟨n,rfl,ay,(p.trans r1).mono I,b5.trans r,.inr ⟨z,ag⟩⟩
theorem Ij{tk:Y}{key:Key}(h:de w S pages L aG aP)(b:S.T.C.D.aR<=800000000)(c:Src 1 w tk (aJ key))(d:∀q,aB tk q->q<w.heap.size/\¬S.T.M q):
 aQ aj 55 #[.pointer (some S.st),tk] w (λv w'=>∃aE,de w' (S.b7 (S.T.bk aE S.T.P)) pages L aG aP/\c2 30 S (S.b7 (S.T.bk aE S.T.P)) w w'/\yu S.T L key w v w'):=by
 refine okF (af.tO (some S.st) tk) aA.tO func55 ?_;(delta af.tO ak kx;dsimp only);refine⟨λe=>(by cases e),λ_=>⟨_,rfl,_,h.v.cell,(yw h.t h.ok b c d).use ?_⟩⟩;intro v w' a;have f:=a;obtain⟨aE,h1,h2,g,i⟩:=a;obtain⟨a1,a2,_⟩:=h.to h1 h2 rfl rfl (.bk g);have fin:(λv w'=>∃aE,de w' (S.b7 (S.T.bk aE S.T.P)) pages L aG aP/\c2 30 S (S.b7 (S.T.bk aE S.T.P)) w w'/\yu S.T L key w v w') v w':=⟨aE,a1,a2,f⟩;rcases i with ⟨rfl,_⟩|⟨t,x,rfl,_⟩|⟨rfl,_⟩
 .exact⟨⟨none,0,0⟩,_,_,rfl,fin⟩
 .exact⟨t,_,_,rfl,fin⟩
 .exact⟨⟨none,0,0⟩,_,_,rfl,fin⟩
end
theorem yT(k v:Key):∀L:O aI,(e4 L k v).length=(ed L k).length+1
 | []=>rfl
 |p::L=>by
  have b:=yT k v L
  unfold e4 ed at b⊢
  simp only[cz,e8,o0]at b⊢
  by_cases h1:bH p.1 k
  .have h2:¬bH k p.1:=j2 h1
   have a:p.1≠k:=λe=>by rw[e]at h1;exact j2 h1 h1
   rw[if_pos (dK h1),if_neg (by simpa using h2),if_pos (dK a)]
   simp only[e8];omega
  .by_cases h2:bH k p.1
   .have a:p.1≠k:=λe=>h1 (by rw[e]at h2;exact absurd h2 (λh=>j2 h h))
    rw[if_neg (by simpa using h1),if_pos (dK h2),if_pos (dK a)]
    simp only[e8];omega
   .have a:p.1=k:=by
     rcases vc p.1 k with h|h|h
     .exact absurd h h1
     .exact h
     .exact absurd h h2
    rw[if_neg (by simpa using h1),if_neg (by simpa using h2),if_neg (by simpa using a)];omega
theorem v_{k:Key}:∀ {L:O aI},gJ L->L.length=(ed L k).length+(if eB L k=none then 0 else 1)
 | [],_=>rfl
 |p::L,h=>by
  have h0:=jA.1 h
  have d:=v_ (k:=k) h0.2
  by_cases e:p.1=k
  .have h1:∀q∈L,q.1≠k:=λq b c=>by
    have:=h0.1 q b
    rw[e,c]at this
    exact j2 this this
   have h2:ed (p::L) k=L:=by
    have:ed (p::L) k=ed L k:=by unfold ed;rw[o0];simp[e]
    rw[this,og h1]
   have a:eB (p::L) k≠none:=by unfold eB;simp[e]
   rw[h2,if_neg a];rfl
  .have h2:(ed (p::L) k).length=(ed L k).length+1:=by unfold ed;rw[o0];simp[e]
   have a:eB (p::L) k=eB L k:=by unfold eB;simp[e]
   rw[h2,a,e8];omega
section
variable {w w' w1:J}{T ao:aN}{S ay cp:bZ}{pages aG:O Nat}{L aP:O aI}{k:Nat}
structure kL(S cp:bZ):Prop where
 u:cp.u=S.u
 gen:cp.gen=S.gen
 now:cp.now=S.now
 first:cp.first=S.first
 pending:cp.pending=S.pending
 l:cp.l=S.l
 g:cp.T.g=S.T.g
 V:cp.V=S.V
theorem h_.back{c:Prop}{v:aa}(h:h_ c cp ay pages L aG aP v w')(e:kL S cp)(d:c2 k S cp w w1):h_ c S ay pages L aG aP v w':=by
 unfold h_ at h⊢;rw[e.u,e.gen,e.now,e.g,e.V]at h;exact h.imp id λ⟨a,b,c⟩=>⟨a,λf=>b (d.q f),c⟩
theorem mz.back{v:aa}(h:mz cp ay pages L aG aP v w')(e:kL S cp)(a:c2 k S cp w w1):mz S ay pages L aG aP v w':=by
 unfold mz at h⊢;have:=λh=>h_.back (pages:=pages) (L:=L) (aG:=aG) (aP:=aP) (c:=S.l.batch<=S.pending+1) (v:=v) (ay:=ay) (w':=w') h e a;rw[e.pending,e.l,e.gen,e.u,e.now,e.first,e.g,e.V]at h;exact h.imp id this
theorem r8(b:gd w1 cp aG aP)(d:c2 k S cp w w1)(e:kL S cp)(h:¬S.T.C.D.quiet)(i:cp.T.C.D.ep=λ_=> [])(l:cp.T.C.D.aR<=900000000):
 aQ aj 81 #[.pointer (some S.st),(3:Int)] w1 (λv w'=>v=.int .i64 3/\∃ay,c2 k S ay w w'/\ay.now=S.now/\∀c pages L,h_ c S ay pages L aG aP v w'):=by
 have hf:=CT b 3 l;rw[d.st]at hf;refine hf.mono ?_;rintro v w' ⟨rfl,ay,hs,hd,a⟩;refine⟨rfl,ay,d.trans hd,a.now.trans e.now,λc pages L=>.inr ⟨rfl,h,hs,a.failed,a.u.trans e.u,a.gen.trans e.gen,λj f=>?_,.inl λj f=>?_⟩⟩
 .rw[←e.V];unfold bZ.V;rw[a.V]
 .rw[a.sa j,b.t.ca.inv.kE j (b.bI j (by rw[e.g];exact f)),i]
theorem de.CY{b6:aN}{ej:O aI}{d:Int}(h:de w S pages L aG aP)(hf:S.failed=false)(m:bL w' b6)(b:bN S.T b6 w w' k)(o:b6.E=S.T.E)(q:b6.G=S.T.G)(r:Cg S.T b6 pages ej)(W:2*S.T.aH+5<=cl S.T)(s:∀p∈ej,cv p.1/\p.2.length<=24)(hd:(S.keys:Int)+d=ej.length)(t:ej.length<4096)(X:S.keys<4096)(y:S.pending<1000)(Y:S.T.C.D.aR+k<=800000000)(z:S.gen<=1000000000):
 aQ aj 84 #[.pointer (some S.st),d] w' (λv i=>(∃n:Int,v=n)/\∃ay ek,c2 (k+100) S ay w i/\ay.now=S.now/\mz S ay ek ej aG aP v i):=by
 obtain⟨⟨ek,Z,A,c7,B,F⟩,H⟩:=r;obtain⟨I,l,J⟩:=h.togd.to m b o q λno K=>(H no K).1;have M:kL S (S.b7 b6):=⟨rfl,rfl,rfl,rfl,rfl,rfl,b.g,J⟩;obtain⟨N,P,_⟩:=h.live hf;have Q:∀j,j<2\/j=S.u.map->j∉pages:=λj c R=>by
  have:=h.two j R;rcases c with c|c
  .omega
  .exact this.2 c
 refine(Ii (d:=d) I hf A c7 (λno=>(F no).trans ?_) (λx hx=>?_) s ⟨λe=>N (b.ro.1 e),b.bI.2.trans P,by show 1<=cl b6;omega⟩ hd y t (by show S.keys<_;omega) (by have:=b.aR;show b6.C.D.aR<=_;omega) z).mono ?_
 .rw[h.f no]
  constructor
  .rintro(h1|⟨h1|h1,h2⟩)
   .exact .inl h1
   .exact absurd h1 h2
   .exact .inr h1
  .rintro(h1|h1)
   .exact .inl h1
   .exact .inr ⟨.inr h1,Q no h1⟩
 .rcases B x hx with h1|h1
  .exact h.two x h1
  .have h2:S.T.f x=false:=by cases aa:S.T.f x<;>simp_all
   refine⟨Nat.le_of_not_lt λU=>?_,λV=>?_⟩
   .rw[(h.f x).2 (.inr (.inl U))]at h2;cases h2
   .rw[(h.f x).2 (.inr (.inr V))]at h2;cases h2
 .rintro v i ⟨ay,r1,b5,ag⟩
  refine⟨?_,ay,ek,l.trans r1,b5,ag.back M l⟩;rcases ag with ⟨a,_⟩|a
  .exact⟨0,a⟩
  .exact a.val
theorem pz(w:J)(s:Y):aQ aj 79 #[s] w (λv w'=>v=.bool (decide (1<=s.len/\s.len<=24))/\w=w'):=by
 refine okF (af.pz s) aA.pz func79 ?_;refine⟨?_,rfl⟩
 congr 1
 rw[fV,dZ,cQ,cQ,cQ];omega
theorem yU{tk di:Y}{key val:Key}(h:de w S pages L aG aP)(a5:L.length<4000)(F:S.pending<1000)(a6:S.T.C.D.aR<=700000000)(am:S.gen<=1000000000)
 (G:Src 1 w tk (aJ key)) (z:∀q,aB tk q->q<w.heap.size/\¬S.T.M q) (U:Src 1 w di (aJ val)) (V:∀q,aB di q->q<w.heap.size/\¬S.T.M q):
 aQ aj 23 #[.pointer (some S.st),tk,di] w (λv w'=>(v=.int .i64 1/\¬(cv key/\val.length<=24)/\w=w')\/((cv key/\val.length<=24)/\
  ((S.failed=true/\v=.int .i64 8/\w=w')\/(S.failed=false/\∃ay,c2 300 S ay w w'/\ay.now=S.now/\
    ((v=.int .i64 2/\fm S=0/\de w' S pages L aG aP/\ay=S)\/(fm S≠0/\∃ek,mz S ay ek (e4 L key val) aG aP v w')))))):=by
 have an:tk.len=key.length:=by have:=G.len;rw[ez]at this;omega
 have a7:di.len=val.length:=by have:=U.len;rw[ez]at this;omega
 have a8:=h.t.s.bw;refine okF (af.tJ (some S.st) tk di) aA.tJ func23 ?_;(delta af.tJ ak aM a_ aC kx;dsimp only);refine cd (λb w'=>(b=false↔cv key)/\w=w') (λq a=>⟨λA=>(by cases A),λ_=>(pz w tk).use ?_⟩) ?_
 .rintro _ _ ⟨rfl,rfl⟩
  refine⟨_,rfl,a _ _ ⟨?_,rfl⟩⟩;unfold cv;rw[an,su,cQ]
 rintro b _ ⟨A,rfl⟩;refine⟨λh1=>.inl ⟨rfl,λhg=>?_,rfl⟩,λh1=>?_⟩
 .rcases Bool.or_eq_true_iff.1 h1 with h2|h2
  .rw[A.2 hg.1]at h2;cases h2
  .have:=b1 h2;have:=hg.2;omega
 have hg:cv key/\val.length<=24:=by
  have h2:=nw.1 h1;have W:=cu h2.2;exact⟨A.1 h2.1,I⟩
 refine⟨_,rfl,S.failed,by rw[aw];exact h.v.cell,λhf=>.inr ⟨hg,.inl ⟨hf,rfl,rfl⟩⟩,λhf=>(yR h).use ?_⟩;rintro _ a9 ⟨rfl,l⟩;have r:=h.ext l;obtain⟨ao,ap,_⟩:=h.live hf;refine⟨_,rfl,λH=>.inr ⟨hg,.inr ⟨hf,S,(c2.ext S l).mono I,rfl,.inl ⟨rfl,?_,r,rfl⟩⟩⟩,λH=>?_⟩
 .have:((fm S:Nat):Int)=0:=by simpa using H
  omega
 have B:fm S≠0:=by
  have:¬((fm S:Nat):Int)=0:=by simpa using H
  omega
 refine⟨_,rfl,_,r.v.cell,(yw r.t r.ok I (G.ext l) λq a=>⟨by have:=(z q a).1;have:=l.size;omega,(z q a).2⟩).use ?_⟩;rintro v J ⟨i,X,m,aq,E⟩;obtain⟨o,Z,aa⟩:=r.to X m rfl rfl (.bk aq);have u:c2 30 S (S.b7 (S.T.bk i S.T.P)) w J:=((c2.ext S l).trans Z).mono I;have K:kL S (S.b7 (S.T.bk i S.T.P)):=⟨rfl,rfl,rfl,rfl,rfl,rfl,rfl,aa⟩;have N:(S.b7 (S.T.bk i S.T.P)).T.C.D.ep=λ_=> []:=m.bI.2.trans ap;have ba:i.D.aR<=S.T.C.D.aR+30:=m.aR;have ar:∀n:Int,v=.tuple #[(),false,(3:Int)]->¬S.T.C.D.quiet->aQ aj 81 #[.pointer (some S.st),(3:Int)] J (λv w'=>v=.int .i64 3/\∃ay,c2 30 S ay w w'/\ay.now=S.now/\∀c pages L,h_ c S ay pages L aG aP v w'):=λ_ _ a=>r8 o.togd u K a N (by show i.D.aR<=_;omega);have au:∃ (t:Y) (e:ai) (n:Int),v=.tuple #[t,e,n]/\((n=0/\(e=true↔eB L key≠none))\/(n=3/\¬S.T.C.D.quiet)):=by
  rcases E with ⟨rfl,j⟩|⟨t,x,rfl,_,hs,_⟩|⟨rfl,_,O⟩
  .exact⟨⟨none,0,0⟩,false,0,rfl,.inl ⟨rfl,λh=>(by cases h),λh=>absurd (j hg.1) h⟩⟩
  .exact⟨t,true,0,rfl,.inl ⟨rfl,λ_=>by rw[hs];simp,λ_=>rfl⟩⟩
  .exact⟨⟨none,0,0⟩,false,3,rfl,.inr ⟨rfl,λa=>O (a.1 30)⟩⟩
 clear ar E;obtain⟨t,e,n,rfl,av⟩:=au;rcases av with ⟨rfl,he⟩|⟨rfl,Q⟩
 rotate_left
 .refine⟨t,e,3,rfl,λ_=>(r8 o.togd u K Q N (by show i.D.aR<=_;omega)).use ?_,λh=>(by cases h)⟩
  rintro _ ax ⟨rfl,ay,r1,b5,ag⟩;exact⟨3,rfl,.inr ⟨hg,.inr ⟨hf,ay,r1.mono I,b5,.inr ⟨B,[],.inr (ag _ _ _)⟩⟩⟩⟩
 have bb:=l.size;have bc:=m.ab.size;have ac:∀s:Y,(∀q,aB s q->q<w.heap.size/\¬S.T.M q)->∀q,aB s q->q<J.heap.size/\¬(S.T.bk i S.T.P).M q:=λs hs q a=>⟨by have:=(hs q a).1;omega,λaz=>by
  rcases m.c5 q az with h2|h2
  .exact(hs q a).2 h2
  .have:=(hs q a).1;omega⟩
 have aD:=(G.ext l).ab m.ab λq a j=>(z q a).2 (aN.gh j);have aE:=(U.ext l).ab m.ab λq a j=>(V q a).2 (aN.gh j);have aF:¬(S.T.bk i S.T.P).C.D.ro:=λe=>ao (m.ro.1 e);refine⟨t,e,0,rfl,λh=>(by cases h),λ_=>⟨_,rfl,_,o.v.cell,?_⟩⟩;refine(Hf X aF o.ok I o.bn (λx hx=>(o.f x).2 (.inl hx)) (by show i.D.aR<=_;omega) aD (ac tk z) aE (ac di V)).use ?_;rintro v aI (⟨_,aK,_⟩|⟨_,_,b6,ad,y,ae,ah,E⟩)
 .exact absurd hg aK
 have aL:cl (S.T.bk i S.T.P)=cl S.T:=rfl;have aO:(S.T.bk i S.T.P).aH=S.T.aH:=rfl;have aS:2*S.T.aH+5<=cl S.T:=by unfold fm at B;omega
 rcases E with ⟨_,aT,_⟩|⟨rfl,_,⟨ek,aU,aV,c7,aW,aX⟩,R⟩|⟨rfl,O,bd,be,bf,R⟩
 .rw[aL,aO]at aT;omega
 .have hlen:(S.keys:Int)+(if e=true then 0 else 1)=(e4 L key val).length:=by
   have h1:=yT key val L;have h2:=v_ (k:=key) h.ok.rising;have W:=h.keys;by_cases j:eB L key=none
   .have:¬e=true:=λh=>he.1 h j
    rw[if_pos j]at h2;rw[if_neg this];omega
   .rw[if_neg j]at h2
    rw[if_pos (he.2 j)];omega
  have W:=h.keys;have aY:(e4 L key val).length<4096:=by split at hlen<;>omega
  have al:=λd hd=>o.CY (d:=d) hf ad y ae ah ⟨⟨ek,aU,aV,c7,aW,aX⟩,R⟩ aS (λp F=>by
   rcases AD.1 F with rfl|⟨h1,_⟩
   .exact hg
   .exact h.fT p h1) hd aY (by show S.keys<_;omega) F (by show i.D.aR+100<=_;omega) am
  refine⟨0,rfl,λh=>(by cases h),λ_=>⟨λht=>(al 0 (by rw[←hlen,if_pos ht];rfl)).use ?_,λht=>(al 1 (by rw[←hlen,if_neg (by rw[ht];decide)];rfl)).use ?_⟩⟩
  all_goals
   rintro v w' ⟨⟨n,rfl⟩,ay,ek,r1,b5,ag⟩;exact⟨n,rfl,.inr ⟨hg,.inr ⟨hf,ay,(u.trans r1).mono I,b5,.inr ⟨B,ek,ag.back K u⟩⟩⟩⟩
 .obtain⟨aZ,a0,a1⟩:=o.togd.to ad y ae ah λno a2=>(R no (by show(S.T.f no||S.T.g no)=true;rw[show S.T.g no=true from a2,Bool.or_true])).1
  have a3:c2 130 S (S.b7 b6) w aI:=(u.trans a0).mono I;have a4:kL S (S.b7 b6):=⟨rfl,rfl,rfl,rfl,rfl,rfl,y.g,a1.trans aa⟩;have Q:¬S.T.C.D.quiet:=λa=>O ((Z.q a).1 100);refine⟨3,rfl,λ_=>(r8 aZ a3 a4 Q (y.bI.2.trans N) (by have:=y.aR;show b6.C.D.aR<=_;have e:(S.T.bk i S.T.P).C.D.aR=i.D.aR:=rfl;omega)).use ?_,λh=>(by cases h)⟩;rintro _ ax ⟨rfl,ay,r1,b5,ag⟩;exact⟨3,rfl,.inr ⟨hg,.inr ⟨hf,ay,r1.mono I,b5,.inr ⟨B,[],.inr (ag _ _ _)⟩⟩⟩⟩
end
section
variable {w w' w1:J}{T ao:aN}{S ay cp:bZ}{pages aG:O Nat}{L aP:O aI}{k:Nat}
theorem CZ{tk:Y}{key:Key}(h:de w S pages L aG aP)(aW:L.length<4000)(H:S.pending<1000)(aX:S.T.C.D.aR<=700000000)(ad:S.gen<=1000000000)
 (J:Src 1 w tk (aJ key)) (o:∀q,aB tk q->q<w.heap.size/\¬S.T.M q):
 aQ aj 22 #[.pointer (some S.st),tk] w (λv w'=>(v=.tuple #[false,(1:Int)]/\¬cv key/\w=w')\/(cv key/\
  ((S.failed=true/\v=.tuple #[false,(8:Int)]/\w=w')\/(S.failed=false/\∃ay,c2 300 S ay w w'/\ay.now=S.now/\
    ((v=.tuple #[false,(0:Int)]/\eB L key=none/\de w' ay pages L aG aP/\kL S ay/\ay.failed=false)\/
     (v=.tuple #[false,(2:Int)]/\eB L key≠none/\fm S=0/\de w' ay pages L aG aP/\kL S ay/\ay.failed=false)\/
     (∃n:Int,v=.tuple #[.bool (n==0),n]/\eB L key≠none/\fm S≠0/\∃ek,mz S ay ek (ed L key) aG aP n w')\/
     (v=.tuple #[false,(3:Int)]/\∀c pages L,h_ c S ay pages L aG aP (3:Int) w')))))):=by
 have ae:tk.len=key.length:=by have:=J.len;rw[ez]at this;omega
 have aY:=h.t.s.bw;refine okF (af.tI (some S.st) tk) aA.tI func22 ?_;(delta af.tI ak aM a_ kx aC jZ;dsimp only);refine cd (λb w'=>(b=false↔cv key)/\w=w') (λq i=>⟨λu=>(by cases u),λ_=>(pz w tk).use ?_⟩) ?_
 .rintro _ _ ⟨rfl,rfl⟩
  refine⟨_,rfl,i _ _ ⟨?_,rfl⟩⟩;unfold cv;rw[ae,su,cQ]
 rintro b _ ⟨u,rfl⟩;refine⟨λh1=>.inl ⟨rfl,λhg=>?_,rfl⟩,λh1=>?_⟩
 .rw[u.2 hg]at h1;cases h1
 have hg:cv key:=u.1 h1;refine⟨_,rfl,S.failed,by rw[aw];exact h.v.cell,λhf=>.inr ⟨hg,.inl ⟨hf,rfl,rfl⟩⟩,λhf=>?_⟩;obtain⟨ah,al,_⟩:=h.live hf;refine⟨_,rfl,_,h.v.cell,(yw h.t h.ok I J o).use ?_⟩;rintro v aZ ⟨a,am,m,an,y⟩;obtain⟨z,A,V⟩:=h.to am m rfl rfl (.bk an);have B:kL S (S.b7 (S.T.bk a S.T.P)):=⟨rfl,rfl,rfl,rfl,rfl,rfl,rfl,V⟩;have W:(S.b7 (S.T.bk a S.T.P)).T.C.D.ep=λ_=> []:=m.bI.2.trans al;have a0:a.D.aR<=S.T.C.D.aR+30:=m.aR;have ao:∃ (t:Y) (e:ai) (n:Int),v=.tuple #[t,e,n]/\((n=0/\(e=true↔eB L key≠none))\/(n=3/\¬S.T.C.D.quiet)):=by
  rcases y with ⟨rfl,j⟩|⟨t,x,rfl,_,hs,_⟩|⟨rfl,_,K⟩
  .exact⟨⟨none,0,0⟩,false,0,rfl,.inl ⟨rfl,λh=>(by cases h),λh=>absurd (j hg) h⟩⟩
  .exact⟨t,true,0,rfl,.inl ⟨rfl,λ_=>by rw[hs];simp,λ_=>rfl⟩⟩
  .exact⟨⟨none,0,0⟩,false,3,rfl,.inr ⟨rfl,λi=>K (i.1 30)⟩⟩
 clear y;obtain⟨t,e,n,rfl,ap⟩:=ao;rcases ap with ⟨rfl,he⟩|⟨rfl,N⟩
 rotate_left
 .refine⟨t,e,3,rfl,λ_=>(r8 z.togd A B N W (by show a.D.aR<=_;omega)).use ?_,λh=>(by cases h)⟩
  rintro _ E ⟨rfl,ay,r1,b5,ag⟩;exact⟨3,rfl,.inr ⟨hg,.inr ⟨hf,ay,r1.mono I,b5,.inr (.inr (.inr ⟨rfl,ag⟩))⟩⟩⟩
 refine⟨t,e,0,rfl,λh=>(by cases h),λ_=>⟨λO=>?_,λO=>(yR z).use ?_⟩⟩
 .have j:eB L key=none:=by
   cases aq:eB L key with
   |none=>rfl
   |some x=>
    have:e=true:=he.2 (by rw[aq];simp);rw[this]at O;cases O
  exact .inr ⟨hg,.inr ⟨hf,_,A.mono I,rfl,.inl ⟨rfl,j,z,B,hf⟩⟩⟩
 have j:eB L key≠none:=he.1 (by cases e<;>simp_all);rintro _ E ⟨rfl,F⟩;have l:=z.ext F;have G:c2 30 S (S.b7 (S.T.bk a S.T.P)) w E:=(A.trans (c2.ext _ F)).mono I;have ar:fm (S.b7 (S.T.bk a S.T.P))=fm S:=rfl;rw[ar];refine⟨_,rfl,λQ=>.inr ⟨hg,.inr ⟨hf,_,G.mono I,rfl,.inr (.inl ⟨rfl,j,?_,l,B,hf⟩)⟩⟩,λQ=>?_⟩
 .have:((fm S:Nat):Int)=0:=by simpa using Q
  omega
 have X:fm S≠0:=by
  have:¬((fm S:Nat):Int)=0:=by simpa using Q
  omega
 have a1:=m.ab.size;have a2:=F.size;have au:∀q,aB tk q->q<E.heap.size/\¬(S.T.bk a S.T.P).M q:=λq i=>⟨by have:=(o q i).1;omega,λav=>by
  rcases m.c5 q av with h2|h2
  .exact(o q i).2 h2
  .have:=(o q i).1;omega⟩
 have ax:=(J.ab m.ab λq i j=>(o q i).2 (aN.gh j)).ext F;have az:¬(S.T.bk a S.T.P).C.D.ro:=λe=>ah (m.ro.1 e);refine⟨_,rfl,_,l.v.cell,?_⟩;refine(Hi l.t az l.ok I l.bn (λx hx=>(l.f x).2 (.inl hx)) (by show a.D.aR<=_;omega) ax au).use ?_;rintro v aD ⟨b6,Z,r,aa,ac,y⟩;have aE:cl (S.T.bk a S.T.P)=cl S.T:=rfl;have aF:(S.T.bk a S.T.P).aH=S.T.aH:=rfl;have aI:2*S.T.aH+5<=cl S.T:=by unfold fm at X;omega
 rcases y with ⟨_,R,_⟩|⟨_,_,R,_⟩|⟨_,_,_,U,_⟩|⟨rfl,_,_,_,aK⟩|⟨rfl,_,K,aL⟩
 .exact absurd hg R
 .exact absurd R j
 .have U:cl (S.T.bk a S.T.P)<2*(S.T.bk a S.T.P).aH+3:=U
  rw[aE,aF]at U;omega
 .have h2:=v_ (k:=key) h.ok.rising
  rw[if_neg j]at h2;have a3:=h.keys;refine⟨true,0,rfl,λh=>(by cases h),λ_=>(l.CY (d:= -1) hf Z r aa ac aK aI (λp H=>h.fT p (hJ.1 H).1) (by show(S.keys:Int)+ -1=_;omega) I (by show S.keys<_;omega) H (by show a.D.aR+100<=_;omega) ad).use ?_⟩;rintro v w' ⟨⟨n,rfl⟩,ay,ek,r1,b5,ag⟩;exact⟨n,rfl,.inr ⟨hg,.inr ⟨hf,ay,(G.trans r1).mono I,b5,.inr (.inr (.inl ⟨n,rfl,j,X,ek,ag.back B G⟩))⟩⟩⟩
 .obtain⟨aO,aS,aT⟩:=l.to Z r aa ac aL
  have aU:c2 130 S (S.b7 b6) w aD:=(G.trans aS).mono I;have aV:kL S (S.b7 b6):=⟨rfl,rfl,rfl,rfl,rfl,rfl,r.g,aT.trans V⟩;have N:¬S.T.C.D.quiet:=λi=>K ((A.q i).1 100);refine⟨false,3,rfl,λ_=>(r8 aO.togd aU aV N (r.bI.2.trans W) (by have a4:b6.C.D.aR<=a.D.aR+100:=r.aR;show b6.C.D.aR<=_;omega)).use ?_,λh=>(by cases h)⟩;rintro _ E ⟨rfl,ay,r1,b5,ag⟩;exact⟨3,rfl,.inr ⟨hg,.inr ⟨hf,ay,r1.mono I,b5,.inr (.inr (.inr ⟨rfl,ag⟩))⟩⟩⟩
theorem C0{fJ fB:Y}{fr to:Key}{most:Int}(h:de w S pages L aG aP)(n:L.length<=4000)(o:S.T.C.D.aR<=800000000)(p:pages.length<=4000)
 (hf:Src 1 w fJ (aJ fr)) (b:∀q,aB fJ q->q<w.heap.size/\¬S.T.M q) (ht:Src 1 w fB (aJ to)) (c:∀q,aB fB q->q<w.heap.size/\¬S.T.M q) (d:to.length<=1000000):
 aQ aj 42 #[.pointer (some S.st),fJ,fB,most] w (λv w'=>∃ao,de w' (S.b7 ao) pages L aG aP/\c2 (2*pages.length) S (S.b7 ao) w w'/\kL S (S.b7 ao)/\bN S.T ao w w' (2*pages.length)/\
  ((∃s:Y,v=.tuple #[s,(0:Int)]/\eV (λq=>¬ao.M q) w' s ((eY L fr to).take most.toNat))\/(v=.tuple #[(),(3:Int)]/\¬S.T.C.D.calm (2*pages.length)))):=by
 refine okF (af.tL (some S.st) fJ fB most) aA.tL func42 ?_;(delta af.tL ak b_;dsimp only);refine⟨λe=>(by cases e),λ_=>⟨_,rfl,_,h.v.cell,(Ht h.t h.ok I I hf b ht c d).use ?_⟩⟩;rintro v w' ⟨ao,i,a,j,k⟩;obtain⟨a1,a2,a3⟩:=h.to i a.to a.E j ⟨a.root,a.aH,a.f,λno _=>⟨congrFun a.P no,a.view no⟩⟩;have hs:kL S (S.b7 ao):=⟨rfl,rfl,rfl,rfl,rfl,rfl,a.to.g,a3⟩;rcases k with ⟨s,rfl,l⟩|⟨rfl,m⟩
 .exact⟨s,0,rfl,ao,a1,a2,hs,a.to,.inl ⟨s,rfl,l⟩⟩
 .exact⟨⟨none,0,0⟩,3,rfl,ao,a1,a2,hs,a.to,.inr ⟨rfl,m⟩⟩
end
theorem ints_at{w:J}{s:Y}{l:O Nat}(h:Src 1 w s (ef l)){i:Nat}(hi:i<l.length):∃A:ae,s.a=some A/\((0:Int)<=(i:Int)/\(i:Int)<(s.len:Int))/\w.cell? (A.add (Int.toNat (i:Int)*1))=some (.int .i64 ((l[i]:Nat):Int)):=by
 obtain⟨A,ar,b,hc⟩:=h.at (i:=i) (v:=.int .i64 ((l[i]:Nat):Int)) (by simp[ef,hi]);exact⟨A,ar,b,hc⟩
theorem Ik{w:J}{t u:Y}{l m:O Nat}(c:Src 1 w t (ef l))(d:Src 1 w u (ef m))(H:l.length<=100000):aQ aj 154 #[t,u] w (λv w'=>v=.bool (decide (l=m))/\Ext w w'):=by
 refine okF (af.tu t u) aA.tu func154 ?_;(delta af.tu ak aL r1 au;dsimp only);have o:=c.len;have p:=d.len;rw[nc]at o p;refine⟨λa=>⟨?_,.refl _ _⟩,λq=>?_⟩
 .simp only[bne_iff_ne]at a
  have:l≠m:=λe=>a (by subst e;omega);rw[iV this]
 simp only[bne_eq_false_iff_eq]at q;have r:l.length=m.length:=by omega
 refine⟨λn w'=>∃i:Nat,n=i/\i<=l.length/\Ext w w'/\∀ (j:Nat) (h1:j<l.length) (h2:j<m.length),j<i->l[j]=m[j],λn _=>((l.length:Int)-n).toNat,⟨0,rfl,cG _,.refl _ _,λj _ _ h=>I⟩,?_⟩;rintro _ s ⟨i,rfl,hi,f,g⟩;refine⟨λaK=>aW ?_,λx=>⟨?_,f⟩⟩
 .have aK:i<l.length:=by have:=b1 aK;omega
  have y:i<m.length:=by omega
  have b:Ext w s.drew:=ad.drew f;obtain⟨A,ar,z,C⟩:=ints_at (c.ext b) aK;obtain⟨B,hB,D,E⟩:=ints_at (d.ext b) y;have F:IntKind.wrap .i64 ((i:Int)+1)=((i+1:Nat):Int):=by rw[bx I I];rfl
  have G:((l.length:Int)-((i+1:Nat):Int)).toNat<((l.length:Int)-(i:Int)).toNat:=by omega
  rw[F];refine⟨A,ar,z,id,_,C,B,hB,D,id,_,E,λa=>⟨?_,b⟩,λhe=>⟨⟨i+1,rfl,aK,b,λj h1 h2 K=>?_⟩,G⟩⟩
  .have a:l[i]≠m[i]:=λe=>by rw[e]at a;simp at a
   have:l≠m:=λe=>a (by subst e;rfl);rw[iV this]
  .rcases dJ j i with k|k
   .exact g j h1 h2 k
   .obtain rfl:j=i:=by omega
    have he:((l[j]:Nat):Int)=((m[j]:Nat):Int):=by simpa using he
    omega
 .have hi:i=l.length:=by have:=cu x;omega
  rw[dK (List.ext_getElem r λj h1 h2=>g j h1 h2 I)]
theorem C1:∀ {a b:O Nat},ef a=ef b->a=b
 | [],[],_=>rfl
 | [],_::_,h=>by cases h
 |_::_,[],h=>by cases h
 |x::a,y::b,h=>by
  have h1:=List.cons.inj h
  have h2:Value.int .i64 (x:Int)=Value.int .i64 (y:Int):=h1.1
  injection h2 with _ h2
  rw[C1 (a:=a) (b:=b) h1.2,show x=y from I]
def yV(f:Nat->ai)(n:Nat):O Nat:=(List.range n).filter f
theorem yW(f:Nat->ai):∀n,mo f n=ef (yV f n)
 |0=>rfl
 |n+1=>by
  have a:=yW f n
  unfold mo ef yV at a⊢
  rw[List.range_succ,kQ,fW,←a]
  show(jJ f n++(if f n then [(n:Int)] else [])).map _=_
  rw[fW]
  cases hf:f n<;>simp[hf]
section
variable {w w' w1:J}{S ay cp:bZ}{pages aG:O Nat}{L aP:O aI}{k:Nat}
theorem Il{gb:Nat->aq aD}{m:Int}(Q:Var w S.st S.cells 158)(ht:bL w S.T)(es:S.T.E S.st)(ap:gj (S.T.bk S.T.C gb) pages L)(ar:∀x∈pages,∀bn,gb x=some bn->S.T.P x=some bn\/ke S.T x)(c7:pages.Nodup)
 (hf:∀no,S.T.f no=true↔no∈pages\/no<2\/no=S.u.map) (two:∀x∈pages,2<=x/\x≠S.u.map) (a7:2<=S.u.map/\S.u.map<S.T.n) (a8:L.length<=4000) (au:pages.length<=4000) (a9:S.T.C.D.aR<=900000000):
 aQ aj 86 #[.pointer (some ⟨S.st,0,none⟩),.int .i64 m] w (λv w'=>∃ao,bL w' ao/\c4 S.T ao w w' (2*pages.length)/\ao.G=S.T.G/\
  ((v=.int .i64 0/\m=L.length/\∀x∈pages,S.T.P x=gb x)\/(∃e:Int,v=.int .i64 e/\e≠0/\(¬S.T.C.D.calm (2*pages.length)\/(∃x∈pages,ke S.T x)\/m≠L.length)))):=by
 refine okF (af.t_ (some ⟨S.st,0,none⟩) m) aA.t_ func86 ?_;(delta af.t_ po ak r1 U aU bc aM;dsimp only);have R:∀x∈pages,S.T.f x=true/\x<S.T.n:=λx hx=>⟨(hf x).2 (.inl hx),Nat.lt_of_not_le λe=>by
  have:=ht.s.pf x e;rw[(hf x).2 (.inl hx)]at this;cases this⟩
 refine⟨_,rfl,_,Q.cell,(HG ht ap R ar c7 I I I).use ?_⟩;rintro v j ⟨ao,X,g,p,ay⟩;have az:∃ (s:Y) (es:O Nat) (n e:Int),v=.tuple #[.slice s.a s.len s.cap,.int .i64 n,.int .i64 e]/\ba 1 3 j s (ef es)/\es.length<=4000/\(∀q,aB s q->S.T.N q\/w.heap.size<=q)/\bL j (ao.ck S.T.E λq=>S.T.G q\/aB s q)/\
  ((n=L.length/\e=0/\es.Perm pages/\∀x∈pages,S.T.P x=gb x)\/(e≠0/\(¬S.T.C.D.calm (2*pages.length)\/∃x∈pages,ke S.T x))):=by
  rcases ay with ⟨s,es,rfl,t,z,_,aC,aE,aF⟩|⟨e,rfl,aG,aH⟩
  .exact⟨s,es,_,0,rfl,t,by rw[z.length_eq];exact au,λq c=>(aC q c).1,aF,.inl ⟨rfl,rfl,z,aE⟩⟩
  .refine⟨bg,[],0,e,rfl,ba.none _ _ _,by simp,λq c=>(fZ q c).elim,X.grow (W:=λ_=>False) (ad.refl _ _) (λ_ h=>h.elim) (λq c=>.inl (by rw[g.E];exact c)) (λq c=>.inr (.inl (by rw[p];exact c.resolve_right λh=>fZ q h))) (λq c hg=>(ht.c6 q c).2.2 (hg.resolve_right λh=>fZ q h)),.inr ⟨aG,aH.imp And.right id⟩⟩
 obtain⟨s,es,n,e,rfl,t,a_,aI,Z,A⟩:=az;refine⟨s,n,e,rfl,λd=>?_,λd=>?_⟩
 .have d:e=3:=by simpa using d
  refine⟨ao,X,g,p,.inr ⟨e,rfl,I,?_⟩⟩;rcases A with ⟨_,B,_⟩|⟨_,B⟩
  .omega
  .exact B.imp id .inl
 have aa:=Q.ab g.to.ab (ht.iN (by assumption));refine⟨_,rfl,_,by rw[aw,aw];exact aa.cell,aW ?_⟩;have H:Ext j (j.alloc (.cells #[.int .i64 0,.int .i64 1,.int .i64 ((S.u.map:Nat):Int)] 3)):=eJ _ _;have bb:s.len=es.length:=by have:=t.1;rw[nc]at this;omega
 obtain⟨ac,ae,av,ax,bd,aJ,aK⟩:=p3.append (cK:=58) (x:=⟨some ⟨j.heap.size,0,none⟩,3,3⟩) (Src.new (T:=3) j [.int .i64 0,.int .i64 1,.int .i64 ((S.u.map:Nat):Int)] 3 rfl) (t.ext H) (xJ [0,1,S.u.map]) (by show(2*(s.len+3)+1000)*8<=_;omega);have aL:ba 1 3 ae ac (ef (es++ [0,1,S.u.map])):=by
  have e:ef (es++ [0,1,S.u.map])=ef es++ [.int .i64 0,.int .i64 1,.int .i64 ((S.u.map:Nat):Int)]:=by unfold ef;rw[fW];rfl
  rw[e];exact ax
 refine⟨ac,ae,av,(Ct aL (by simp;omega)).use ?_⟩;rintro _ F ⟨rfl,aN,r,aO,ag,aP⟩;have J:ad (aB s) j F:=cy (cy (ad.refl _ _) (H.mono λ_ _ h=>h.elim) (V:=aB s) (λq _ h=>h)|>.trans aJ) aN λq aS c=>(aK q c).resolve_right (by have:=H.size;omega);have be:=g.to.ab.size;have fu:ao.ck S.T.E S.T.G=ao:=by rw[←g.E,←p];rfl
 have K:bL F ao:=by
  have:=Z.grow (E:=S.T.E) (G:=S.T.G) J (λq c _=>.inr (.inr c)) (λq c=>.inl c) (λq c=>.inr (.inl (.inl c))) λq c=>(ht.c6 q c).2.2;rw[←fu];exact this
 have aT:c4 S.T ao w F (2*pages.length):={g with to:=g.to.step (E:=ao.E) (G:=ao.G) J (λq c aS=>(aI q c).resolve_right I) (λq c=>.inl c) λq c=>.inl c};have aV:¬aB s S.st:=λc=>(Z.c6 S.st (by assumption)).2.2 (.inr c);have aX:=aa.ab J aV;refine⟨rfl,cd (λb w'=>((b=true->e≠0\/n≠m)/\(b=false->e=0/\n=m))/\Ext F w') (λq c=>⟨λk=>c _ _ ⟨⟨λ_=>?_,λh=>(by cases h)⟩,.refl _ _⟩,λk=>?_⟩) ?_⟩
 .rcases Bool.or_eq_true_iff.1 k with h1|h1
  .exact .inl (by simpa using h1)
  .exact .inr (by simpa using h1)
 .obtain⟨h1,h2⟩:=nw.1 k
  have h1:e=0:=by simpa using h1
  have h2:n=m:=by simpa using h2
  have hu:=GI K.s;rw[g.to.sb,g.to.n,g.f]at hu;refine⟨_,rfl,_,by rw[aw];exact aX.cell,hu.use ?_⟩;rintro _ bf ⟨aY,rfl,ah,ai,_⟩;have aZ:r.length<=100000:=by rw[ag.length_eq];simp;omega
  rw[yW]at ah;refine⟨aY,rfl,(Ik (aO.ext ai).src ah.src aZ).use ?_⟩;rintro _ bh ⟨rfl,a0⟩;have a1:r=yV S.T.f S.T.n:=by
   rcases A with ⟨_,_,z,_⟩|⟨d,_⟩
   rotate_left
   .exact absurd h1 d
   have al:r.Perm (pages++ [0,1,S.u.map]):=ag.trans (z.append_right _);have a2:(pages++ [0,1,S.u.map]).Nodup:=by
    refine oS.2 ⟨c7,by simp;omega,λx hx y o e=>?_⟩;have:=two x hx;subst e;simp only[cU,eL,eO]at o;rcases o with o|o|o
    .omega
    .omega
    .exact this.2 o
   have a3:r.Nodup:=al.nodup_iff.2 a2;have a4:r.Pairwise λa b=>a<b:=(aP.and a3).imp λh=>by have:=h.1;have:=h.2;omega
   have am:=H4 (f:=S.T.f) (n:=S.T.n) a4 λx=>by
    rw[al.mem_iff,cT,hf x];simp only[cU,eL,eO];constructor
    .rintro(i|i|i|i)
     .exact⟨(R x i).2,.inl i⟩
     .exact⟨I,.inr (.inl I)⟩
     .exact⟨I,.inr (.inl I)⟩
     .exact⟨I,.inr (.inr i)⟩
    .rintro⟨_,i|i|i⟩
     .exact .inl i
     .exact .inr I
     .exact .inr I
   rw[yW]at am;exact C1 am
  exact⟨_,rfl,c _ _ ⟨⟨λh=>(by rw[dK a1]at h;cases h),λ_=>⟨h1,h2⟩⟩,Ext.trans ai a0⟩⟩
 .rintro b bi ⟨⟨a5,a6⟩,M⟩
  have an:=(aT.trans (c4.ext ao M)).mono (l:=2*pages.length) I;refine⟨λk=>⟨ao,K.ext M,an,p,.inr ⟨4,rfl,by decide,?_⟩⟩,λk=>⟨ao,K.ext M,an,p,.inl ⟨rfl,?_⟩⟩⟩
  .rcases A with ⟨h1,h2,_⟩|⟨_,h2⟩
   .rcases a5 k with d|d
    .exact absurd h2 d
    .exact .inr (.inr (by rw[←h1];exact λe=>d e.symm))
   .exact h2.imp id .inl
  .obtain⟨h1,h2⟩:=a6 k
   rcases A with ⟨d,_,_,B⟩|⟨d,_⟩
   .exact⟨by rw[←h2];exact d,B⟩
   .exact absurd h1 d
end
section
variable {w w' w1:J}{S ay cp:bZ}{pages aG:O Nat}{L aP:O aI}{k:Nat}
theorem C2{D:aZ}(h:cx w D):aQ aj 49 #[.pointer (some D.d)] w (λv w'=>v=D.writes/\w=w'):=by
 refine okF (af.xi (some D.d)) aA.xi func49 ?_;exact⟨λa=>(by cases a),λ_=>⟨_,rfl,_,h.b_,rfl,rfl⟩⟩
theorem c2.writes{ao:aN}{c:Nat}(h:de w S pages L aG aP)(hf:S.failed=true)(a:bN S.T ao w w' c):ao.C.D.writes=S.T.C.D.writes:=by
 have h1:ao.C.D.jc=S.T.C.D.jc:=congrArg (λp=>p.1.2.2.2.1) a.bh;have h2:=congrFun h1 S.T.C.D.writes;exact(show ao.C.D.jc S.T.C.D.writes by rw[h2];exact λ_=>rfl) (a.ro.2 (h.dead hf).1)
end
variable {w w':J}
theorem Ext.Im(h:Go.RowKit.Below w.heap.size w w'):Ext w w':=⟨h.os,h.tape,h.output,h.size,λk a _=>h.block k a⟩
theorem ba.Io{sz:Nat}{T:TypeId}{base:Nat}{v:aa}{n:Nat}{xs:O aa}(h:w.ownsRow base T sz v n xs):∃s:Y,v=s/\ba sz T w s xs/\s.len=n/\∀q,aB s q->base<=q:=by
 obtain⟨h1,⟨rfl,rfl⟩|⟨g,cap,f,rfl,b,hg,h2,c,d,e⟩⟩:=h
 .have:xs=[]:=kO.1 I
  subst this;exact⟨⟨none,0,0⟩,rfl,ba.none _ _ _,rfl,λq a=>(fZ q a).elim⟩
 .refine⟨⟨some g,n,cap⟩,rfl,ba.mk' hg h1 h2 c d e,rfl,λq a=>?_⟩
  rw[←kt.1 a];exact b
def r9:aa->aq (DataW Unit×O MemPlace):=λ_=>some (.lit (.bool true),[])
theorem Ip{q:Nat}{M:O (Int×aa)}(h:eG w q encZ M)(u:M.length<=1000000)(j:∀x∈M, -9223372036854775808<=x.1/\x.1<=9223372036854775807):
 ∃D:DataW Unit,w.ownsMap aj 3 r9 q M.length D/\(intKeys D).Perm (M.map (·.1))/\Maps.size D=M.length:=by
 obtain⟨L,f,l,h1,h2,m,n⟩:=h;have c:L.length=M.length:=by rw[←h1.length_eq,dL]
 have o:∀x∈L, -9223372036854775808<=x.1/\x.1<=9223372036854775807:=λx hx=>j (lz x) (h1.mem_iff.1 (eE.2 ⟨x,hx,rfl⟩));have g:∀x∈L,Go.WideElems.rd aj 3 r9 (dV encZ x)=some (.int .i64 x.1,.lit (.bool true)):=λx hx=>by
  have r:(Lit.int .i64 x.1).wf=true:=by
   have:=o x hx;simp[Lit.wf,IntKind.min,IntKind.max,IntKind.signed,IntKind.bits];omega
  exact Go.WideElems.rd_mk (R:=r9) (yv:=(.lit (.bool true),[])) (Maps.keyOf_int_mk (k:=3) (by kernel_rfl) r) rfl
 have i:((L.map (dV encZ)).map (Go.WideElems.rg aj 3 r9))=L.map λx=>(Lit.int .i64 x.1,DataW.lit (.bool true)):=by
  rw[iA];refine List.map_congr_left λx hx=>?_;have:=Go.WideElems.rg_of (g x hx);simp only[Function.comp_apply];exact this
 have s:Go.WideElems.Fit aj 3 r9 (L.map (dV encZ)).toArray f:=by
  refine⟨by simp[c];unfold maxLen;omega,⟨λx hx=>?_,?_,?_⟩,λx hx=>?_⟩
  .obtain⟨y,d,rfl⟩:=eE.1 (by simpa using hx:x∈L.map (dV encZ))
   exact n y d
  .simp only[iA]
   exact m
  .simp only[iA]
   have:((λe:MapEntry=>e.key)∘dV encZ)=λx:Int×aa×Nat=>encZ x.1:=rfl;show(L.map ((λe:MapEntry=>e.key)∘dV encZ)).Nodup;rw[this];have e:(L.map λx:Int×aa×Nat=>encZ x.1)=(L.map (·.1)).map encZ:=by rw[iA];rfl
   rw[e];exact List.Pairwise.map encZ (λa b t he=>t (by cases he;rfl)) h2
  .obtain⟨y,d,rfl⟩:=eE.1 (by simpa using hx:x∈L.map (dV encZ))
   exact⟨_,g y d⟩
 have gf:=Go.WideShapes.sorted_perm (L.map λx=>(Lit.int .i64 x.1,(DataW.lit (.bool true):DataW Unit)));refine⟨_,⟨_,f,l,s,by simp[c],rfl⟩,?_,?_⟩
 .simp only[i]
  show(List.map (λp:Lit×DataW Unit=>Go.intOf p.1) _).Perm _;refine(gf.map _).trans ?_;rw[iA];have:=h1.map (·.1);rw[iA]at this;exact this
 .simp only[i]
  show List.length _=_;rw[gf.length_eq,dL,c]
theorem Iq(m:Nat):AnyZI.SortsIn aj Cr Fence.wide m:=
 ⟨λbP off cap ss W a b c=>callsIn_wide.2 (AnyM.slices_Sort_int vS bP off cap ss W a b c),λp cap W=>callsIn_wide.2 (AnyM.slices_Sort_int_none vS p cap W)⟩
theorem Ir{q:Nat}{M:O (Int×aa)}(h:eG w q encZ M)(g:M.length<=1000000)(i:∀x∈M, -9223372036854775808<=x.1/\x.1<=9223372036854775807):
 aQ aj 177 #[.func (.func 232) #[] #[.pointer (some w.heap.size)]] (w.alloc (.cells #[.map (some q)] 137))
  (λv w'=>∃ (s:Y) (ids:O Int),v=s/\ba 1 3 w' s (ids.map encZ)/\s.len=ids.length/\ids.Perm (M.map (·.1))/\ids.Pairwise (λa b=>decide (a<=b)=true)/\Ext w w'/\∀k,aB s k->w.heap.size<=k):=by
 have d:Ext w (w.alloc (.cells #[.map (some q)] 137)):=ad.alloc (.refl _ _) _;have C:(w.alloc (.cells #[.map (some q)] 137)).heap.size=w.heap.size+1:=by simp
 obtain⟨D,j,l,f⟩:=Ip (h.ext d) g i;have m:=AnyZI.keys_gives (ρ:=Cq) {Hu with} Fence.wide 2 trivial rfl I w.heap.size q M.length D (w.alloc (.cells #[.map (some q)] 137)) I (by simp) j;have n:=AnyZI.sorted_in Hv Fence.wide 5 trivial trivial trivial trivial rfl I (Iq _) (enters_of func153 (by kernel_rfl) rfl) 232 #[.pointer (some w.heap.size)] trivial (enters_of func232 (by kernel_rfl) rfl) _ _ (by rw[f];unfold maxLen;omega) (by rw[f];omega) _ m;have o:=callsIn_wide.1 (n.mono (R':=λe w'=>∃v,e=.returned v/\∃ (s:Y) (ids:O Int),v=s/\ba 1 3 w' s (ids.map encZ)/\s.len=ids.length/\ids.Perm (M.map (·.1))/\ids.Pairwise (λa b=>decide (a<=b)=true)/\Ext w w'/\∀k,aB s k->w.heap.size<=k) ?_)
 .exact o
 .rintro e ah ⟨v,ss,rfl,p,r,_,t⟩
  obtain⟨s,rfl,u,z,A⟩:=ba.Io r;refine⟨_,rfl,s,ss.mergeSort (λx y=>decide (x<=y)),rfl,u,by rw[z,List.length_mergeSort],?_,?_,Ext.trans d (Ext.Im t),λk B=>by have:=A k B;omega⟩
  .exact(List.mergeSort_perm _ _).trans (p.trans l)
  .exact List.pairwise_mergeSort (λa b c h1 h2=>by simp only[cQ]at*;omega) (λa b=>by simp only[iS,cQ];omega) ss
theorem yX:∀ (n:Nat) {l:O Nat},l.Nodup->(∀x∈l,x<n)->l.length<=n
 |0,l,_,h=>by
  cases l with
  |nil=>exact bp _
  |cons x l=>exact absurd (h x (by simp)) (Nat.not_lt_zero _)
 |n+1,l,a,h=>by
  by_cases b:n∈l
  .have h1:=yX n (l:=l.erase n) (a.erase n) λx hx=>by
    have h2:=(a.mem_erase_iff).1 hx
    have:=h x h2.2
    have:=h2.1
    omega
   rw[List.length_erase_of_mem b]at h1
   omega
  .have:=yX n a λx hx=>by
    have h1:=h x hx
    have h2:x≠n:=λe=>b (e▸hx)
    omega
   omega
section
variable {D:aZ}
theorem cx.C3(h:cx w D):(D.waits.map g1.i).Nodup:=by
 have h1:=h.m.keys;rw[iA]at h1;refine(List.pairwise_map.1 h1:D.waits.Pairwise _).imp (λa e=>a ?_)|>List.pairwise_map.2;exact congrArg (λn:Nat=>(n:Int)) e
theorem cx.C4(h:cx w D):D.waits.length<=1600:=by
 have h1:=yX D.n h.C3 λx hx=>by
  obtain⟨y,a,rfl⟩:=eE.1 hx;exact(h.wn y a).2.1
 have:=h.bw;rw[dL]at h1;omega
theorem Is(h:cx w D):aQ aj 112 #[.pointer (some D.d)] w
 (λv w'=>∃ (s:Y) (ids:O Int),v=s/\ba 1 3 w' s (ids.map encZ)/\ids.Perm (D.waits.map λx=>(x.i:Int))/\Ext w w'/\∀k,aB s k->w.heap.size<=k):=by
 refine okF (af.uf (some D.d)) aA.uf func112 ?_;(delta af.uf pq bc;dsimp only);refine⟨_,rfl,_,h.bc,?_⟩;refine Calls.mono (af.En (some D.mr) w (λv w'=>v=.func (.func 232) #[] #[.pointer (some w.heap.size)]/\w.alloc (.cells #[.map (some D.mr)] 137)=w') ⟨rfl,rfl⟩) ?_;rintro _ _ ⟨_,rfl,rfl,rfl⟩;have c7:D.waits.length<=1000000:=by have:=h.C4;omega
 refine⟨⟨232,#[],#[.pointer (some w.heap.size)]⟩,rfl,(Ir h.m (by rw[dL];exact c7) (λx hx=>?_)).use ?_⟩
 .obtain⟨y,a,rfl⟩:=eE.1 hx
  have:=(h.wn y a).2.1;have:=h.bw;show _<=(y.i:Int)/\(y.i:Int)<=_;omega
 .rintro _ e ⟨s,ids,rfl,h1,_,h2,_,b,c⟩
  refine⟨s,rfl,s,ids,rfl,h1,?_,b,c⟩;rw[iA]at h2;exact h2
end
variable {w w':J}{D:aZ}
theorem It(a b:Int)(w:J)(T:TypeId)(k:IntKind):Sem.run aj (Builtin.min_ #[T,T] T #[.int k a,.int k b]) w=.ok (.int k (min a b)) w:=by
 simp only[Builtin.min_];unfold Builtin.min2;simp;split<;>omega
theorem cx.Iu(h:cx w D){i:Nat}(hi:i<D.n){x:cW}(hx:x.length=256):bA w ⟨D.lb,i*256,none⟩ (aJ x)/\cx (setCells w ⟨D.lb,i*256,none⟩ 0 (aJ x)) {D with bh:=D.bh.set i x}/\ad (λq=>q=D.lb) w (setCells w ⟨D.lb,i*256,none⟩ 0 (aJ x)):=by
 obtain⟨bE,bG,a⟩:=CI h.l h.sl hi hx;refine⟨bE,?_,a⟩;generalize setCells w ⟨D.lb,i*256,none⟩ 0 (aJ x)=j at bG a;have b:D.d≠D.lb:=h.a1.1;refine⟨?_,bG,h.m.ab a λe=>h.a1.2.2 e.symm,λx hx=>(h.ws x hx).ab a λq f e=>(h.a2 x hx).2.1 (by rw[←e];exact f),?_,λs hs=>?_,h.j6,?_,?_,h.f4,h.fr,h.a1,h.a2,h.a3,h.r⟩
 .have h1:=h.v.ab a b
  have e:({D with bh:=D.bh.set i x}:aZ).c=D.c:=by unfold aZ.c;simp
  rw[e];exact h1
 .intro z g
  have:=h.wn z g;refine⟨this.1,?_,this.2.2⟩;show z.i<(D.bh.set i x).length;rw[df];exact this.2.1
 .rcases lp hs with h1|rfl
  .exact h.sl s h1
  .exact hx
 .show 16<=(D.bh.set i x).length;rw[df];exact h.bW
 .show(D.bh.set i x).length<=1600;rw[df];exact h.bw
theorem Src.mx{sz:Nat}{s:Y}{vs:O aa}{W:Nat->Prop}(h:Src sz w s vs)(hc:ad W w w')(d:∀k,aB s k->W k->vs=[]):Src sz w' s vs:=⟨h.len,h.nil,λa b=>by
 by_cases c:vs=[]
 .have h0:=h.len
  rw[c]at h0⊢
  rw[←h0];rfl
 .exact hc.cD (λe=>c (d _ ⟨a,b,rfl⟩ e)) _ _ _ (h.rd a b)⟩
structure yY(D az:aZ):Prop where
 d:az.d=D.d
 waits:az.waits=[]
 n:az.n=D.n
 q:az.quiet
 aR:az.aR=D.aR
 bh:∀j,az.bh.getD j []=D.bh.getD j []\/az.bh.getD j []∈D.dB j
 c5:∀q,bX az q->bX D q
 r:az.r1=true
theorem Iv(h:cx w D){y:g1}(c:y∈D.waits):D.dB y.i=y.gn:=by
 unfold aZ.dB
 cases hf:D.waits.find? λx=>x.i==y.i with
 |none=>
  have:=jk.1 hf y c;simp at this
 |some z=>
  have d:=jB hf;have e:z.i=y.i:=by simpa using kj hf
  have h1:=h.C3;obtain⟨a,f,rfl⟩:=fh d;obtain⟨b,g,rfl⟩:=fh c;have h2:=(List.getElem_inj (i:=a) (j:=b) (h₀:=by simpa using f) (h₁:=by simpa using g) h1).1 (by simpa using e);subst h2;rfl
theorem Iw{l:Y}{zs:O Int}(h:cx w D)(R:Src 1 w l (zs.map encZ))(ai:∀q,aB l q->bX D q->zs=[])(be:zs.length<=1000000)(bf:∀z∈zs,z<=9223372036854775807)(bg:D.aR<=1000000000):
 aQ aj 45 #[.pointer (some D.d),l] w (λv w'=>v=.tuple #[]/\∃az,cx w' az/\yY D az/\ad (bX D) w w'):=by
 refine okF (af.tM (some D.d) l) aA.tM func45 ?_;(delta af.tM ak bc aL r1 ag au aU;dsimp only);refine⟨λh1=>(by cases h1),λ_=>(Is h).use ?_⟩;rintro _ w1 ⟨s,ids,rfl,S,T,E,al⟩;have am:=h.bw;have an:=R.len;rw[dL]at an;have bi:s.len=ids.length:=by have:=S.1;rw[dL]at this;omega
 have bj:ids.length<=1600:=by rw[T.length_eq,dL];exact h.C4
 have ao:∀q,aB s q->¬bX D q:=λq a hf=>by have:=al q a;have:=h.lt hf;omega
 have F:bX D D.lb:=.inr (.inl rfl);refine⟨s,rfl,λn6 f=>∃ (i:Nat) (ls:O cW),n6=(i:Nat)/\i<=ids.length/\cx f {D with bh:=ls}/\ls.length=D.n/\(∀j,ls.getD j []=D.bh.getD j []\/ls.getD j []∈D.dB j)/\ad (λq=>q=D.lb) w1 f,λn6 _=>((ids.length:Int)-n6).toNat,⟨0,D.bh,rfl,cG _,h.ext E,rfl,λj=>.inl rfl,ad.refl _ _⟩,?_⟩;rintro _ f ⟨i,ls,rfl,hi,g,r,hL,u⟩;have ap:=S.ab u λq a e=>ao q a (by rw[e];exact F);have G:=Src.mx (R.ext E) u λq a e=>by rw[ai q a (by rw[e];exact F)];rfl
 refine⟨λH=>?_,λH=>?_⟩
 .have H:(i:Int)<(s.len:Int):=b1 H
  have J:i<ids.length:=by omega
  obtain⟨y,p,U⟩:=eE.1 (T.mem_iff.1 (cE J));have aq:IntKind.wrap .i64 ((i:Int)+1)=((i+1:Nat):Int):=by rw[bx I I];omega
  have ay:((ids.length:Int)-((i+1:Nat):Int)).toNat<((ids.length:Int)-(i:Int)).toNat:=by omega
  obtain⟨A,ar,aC,K⟩:=ap.src.at (i:=i) (v:=encZ ids[i]) (by simp[J]);refine ij (λL=>∃ls:O cW,cx L {D with bh:=ls}/\ls.length=D.n/\(∀j,ls.getD j []=D.bh.getD j []\/ls.getD j []∈D.dB j)/\ad (λq=>q=D.lb) w1 L) (λbk V=>⟨A,ar,aC,ids[i],K,?_⟩) ?_
  .refine cd (λb w'=>(b=false->∃t:i<zs.length,0<zs[i])/\f=w') (λq a=>⟨λ_=>a _ _ ⟨λh=>(by cases h),rfl⟩,λW=>?_⟩) ?_
   .have W:¬(i:Int)>=(l.len:Int):=cu W
    have t:i<zs.length:=by omega
    obtain⟨B,hB,X,Z⟩:=G.at (i:=i) (v:=encZ zs[i]) (by simp[t]);exact⟨B,hB,X,zs[i],Z,a _ _ ⟨λaD=>⟨t,by have:=cu aD;omega⟩,rfl⟩⟩
   .rintro b _ ⟨aE,rfl⟩
    refine⟨λ_=>V _ ⟨ls,g,r,hL,u⟩,λaF=>?_⟩;obtain⟨t,bl⟩:=aE aF;obtain⟨B,hB,X,Z⟩:=G.at (i:=i) (v:=encZ zs[i]) (by simp[t]);have aG:=g.m.wZ oB lI (k:=(y.i:Int)) (v:=y.s) (eE.2 ⟨y,p,rfl⟩) false;have M:=g.ext (cj f);have aH:=G.ext (cj f);obtain⟨aI,aK,aM,aN⟩:=aH.at (i:=i) (v:=encZ zs[i]) (by simp[t]);have bm:=(h.wn y p).2.2;have bn:0<y.gn.length:=sk.2 (h.wn y p).1;obtain⟨k,aO⟩:∃k:Nat,min zs[i] (y.gn.length:Int)=((k+1:Nat):Int):=⟨(min zs[i] (y.gn.length:Int)-1).toNat,I⟩;have C:k<y.gn.length:=by omega
    obtain⟨aP,aS,aT,aV⟩:=xV (M.ws y p).src (λs hs=>by rw[ez];exact h.j6 y p s hs) (by decide) (i:=k) C;have aX:y.i<D.n:=(h.wn y p).2.1;have aY:({D with bh:=ls}:aZ).n=D.n:=r;obtain⟨bE,bG,a0⟩:=M.Iu (i:=y.i) (by rw[aY];exact aX) (h.j6 y p y.gn[k] (cE C));have aa:Addr.add D.lb (Int.toNat (y.i:Int)*256)=⟨D.lb,y.i*256,none⟩:=by rw[dc,aw,cB]
    refine⟨_,rfl,some D.mr,g.bc,y.s,f,by rw[←U];exact aG,aW ⟨λ_=>False,_,rfl,id,⟨some D.lb,ls.length,ls.length⟩,M.du,aI,aK,aM,id,zs[i],aN,_,f.drew,It _ _ _ _ _,ad.refl _ _,aS,aT,?_⟩⟩;rw[aP,aO,bx (n:=(((k+1:Nat):Nat):Int)-1) I I];have a2:Int.toNat (((k+1:Nat):Int)-1)=k:=by omega
    rw[a2,←U];refine⟨⟨I,I⟩,id,_,aV,_,rfl,⟨I,by show(y.i:Int)<(ls.length:Int);omega⟩,by rw[aa];exact bE,by simp[ez,h.j6 y p y.gn[k] (cE C)],?_⟩;rw[aa];refine aW (V _ ⟨ls.set y.i y.gn[k],bG,by rw[df];exact r,λj=>?_,u.trans ((cj f).mono (λ_ _ h=>h.elim)|>.trans a0)⟩);by_cases ac:y.i=j
    .subst ac
     right;rw[fl (by rw[df];omega),ie,Iv h p];exact cE C
    .rw[fq,List.getElem?_set_ne ac,←fq]
     exact hL j
  .rintro L ⟨a3,av,ax,a4,a5⟩
   rw[aq];exact⟨⟨i+1,a3,rfl,J,av,ax,a4,a5⟩,ay⟩
 .obtain⟨ae,K,a6,N,bo⟩:=eG.clear (P:=aj) (o:=0) g.m lI
  have a7:D.d≠D.mr:=h.a1.2.1;have a8:=g.v.ab N a7;refine⟨_,rfl,some D.mr,g.bc,_,ae,K,_,rfl,(Br a8 (by rw[show(aZ.c {D with bh:=ls}).length=7 from g.rN];decide)).use ?_⟩;rintro _ ah ⟨rfl,a9,Q,bp⟩;have a_:=h.f4;have ba:cx ah {D with bh:=ls,waits:=[],b3:=[-1, -1, -1, -1],r1:=true}:=by
   have bb:bu ae D.lb (bM aJ ls).toArray 182:=bu.ab g.l N h.a1.2.2;have bd:bu ah D.lb (bM aJ ls).toArray 182:=bu.ab bb Q λe=>h.a1.1 e.symm;refine⟨?_,bd,a6.ab Q λe=>h.a1.2.1 e.symm,λx hx=>(by cases hx),λx hx=>(by cases hx),g.sl,λx hx=>(by cases hx),?_,?_,rfl,λx hx=>?_,h.a1,λx hx=>(by cases hx),λx hx=>(by cases hx),λ_=>rfl⟩
   .have e:({D with bh:=ls,waits:=[],b3:=[-1, -1, -1, -1],r1:=true}:aZ).c=List.replicate 4 (.int .i64 (-1))++(aZ.c {D with bh:=ls}).drop 4:=by
     unfold aZ.c;dsimp only;rw[List.drop_left' (by rw[dL];exact a_)];rfl
    rw[e];exact a9
   .show 16<=ls.length;rw[r];exact h.bW
   .show ls.length<=1600;rw[r];exact am
   .have hx:x∈ [(-1:Int), -1, -1, -1]:=hx
    simp only[cU,eL,eO,or_self]at hx;omega
  refine⟨rfl,rfl,_,ba,⟨rfl,rfl,r,⟨λk=>⟨.inl rfl,.inl rfl⟩,rfl⟩,rfl,hL,λq a=>?_,rfl⟩,?_⟩
  .rcases a with e|e|e|⟨x,hx,e⟩
   .exact .inl e
   .exact .inr (.inl e)
   .exact .inr (.inr (.inl e))
   .cases hx
  .have h1:ad (bX D) w f:=cy (E.mono λ_ _ h=>h.elim) u λq _ e=>by rw[e];exact F
   have h2:=cy h1 N λq _ e=>by rw[e];exact .inr (.inr (.inl rfl))
   exact cy h2 Q λq _ e=>by rw[e];exact .inl rfl
end Go.Proofs.YtkdhdlfonmgheaaGreat
