/- Contracts of the functions that the statement reaches, and the plain laws over them; each theorem stands with its conditions. -/
import Derived.Test.YtkdhdlfonmgheaaGreatBSpoilt5
namespace Go.Proofs.YtkdhdlfonmgheaaGreat
open Go a_ Go.Proofs.Tryz
theorem CO{w:J}{lb:Nat}{ls:O cJ}{T:TypeId}(h:bq w lb (bE aF ls).toArray T)(hs:∀x∈ls,x.length=256){i:Nat}(hi:i<ls.length){x:cJ}(hx:x.length=256):
 bA w ⟨lb,i*256,none⟩ (aF x)/\bq (setCells w ⟨lb,i*256,none⟩ 0 (aF x)) lb (bE aF (ls.set i x)).toArray T/\ab (λq=>q=lb) w (setCells w ⟨lb,i*256,none⟩ 0 (aF x)):=by
 have a:∀x∈ls,(aF x).length=256:=λx hx=>by rw[dV];exact hs x hx
 have f:=gn (c:=aF) ls a;have b:(aF x).length=256:=by rw[dV];exact hx
 have d:i*256+(aF x).length<=(bE aF ls).toArray.size:=by
  rw[sK,f,b];omega
 refine⟨bq.cc h _ _ d (k8 _),?_,ab.k1 (.refl _ _) _ 0⟩;have h0:=bq.j2 (o:=i*256) h (aF x);have h1:=lD (aF x) (bE aF ls).toArray (i*256) d;have g:=Br a hi x;rw[b]at h1;have j:(gH (bE aF ls).toArray (i*256) (aF x)).toList=bE aF (ls.set i x):=h1.trans g;have e:gH (bE aF ls).toArray (i*256) (aF x)=(bE aF (ls.set i x)).toArray:=by rw[←j]
 rw[e]at h0;exact h0
theorem HO{α:Type}{L:O (α×aa×Nat)}{seen:O Nat}{x:α×aa×Nat}(h:x∈gq L seen):(gq L (seen++ [x.2.2])).length<(gq L seen).length:=by
 have e:gq L (seen++ [x.2.2])=(gq L seen).filter λy=> !(y.2.2==x.2.2):=by
  unfold gq;rw[List.filter_filter];apply List.filter_congr;intro y _;rw[fW];simp only[ln,ed,List.contains_eq_mem,jA,cR,fi,beq_eq_false_iff_ne];constructor
  .exact λh=>⟨λa=>h (.inr a),λa=>h (.inl a)⟩
  .rintro⟨h1,a⟩ (b|b)
   .exact a b
   .exact h1 b
 rw[e];exact List.length_filter_lt_length_iff_exists.2 ⟨x,h,by simp⟩
def yT{α:Type}(L:O (α×aa×Nat))(r:Nat)(w:J):Nat:=match w.heap[r]? with
 |some (.mapIter _ _ seen _)=>(gq L seen.toList).length
 |_=>0
theorem kO.left{α:Type}{w:J}{r m:Nat}{enc:α->aa}{L:O (α×aa×Nat)}{seen:O Nat}(h:kO w r m enc L seen):yT L r w=(gq L seen).length:=by
 obtain⟨⟨a,h1,_⟩,_⟩:=h;unfold yT;rw[h1]
theorem kO.ad{α:Type}{W:Nat->Prop}{w w':J}{r m:Nat}{enc:α->aa}{L:O (α×aa×Nat)}{seen:O Nat}(h:kO w r m enc L seen)(hc:ab W w w')(b:¬W r)(c:¬W m):kO w' r m enc L seen:=by
 obtain⟨⟨d,h1,a,e⟩,f⟩:=h;exact⟨⟨d,by rw[hc.block r (lV.1 h1).1 b];exact h1,by rw[hc.block m (lV.1 a).1 c];exact a,e⟩,f⟩
def a6.ji(D:a6):a6:={D with aZ:=(List.range D.n).map D.now,waits:=[]}
theorem sk(D:a6):D.ji.n=D.n:=by simp[a6.ji,a6.n]
theorem yU(D:a6){i:Nat}(hi:i<D.n):D.ji.now i=D.now i:=by
 show((List.range D.n).map D.now).getD i []=_;rw[eu (by simp;exact hi)];simp
def HP(D:a6)(w:J)(v:aa)(w':J):Prop:=
 (D.fS 3=true/\v=.int .i64 3/\b_ w' (D.cz 3)/\ab (λq=>q=D.d) w w')\/
 (D.fS 3=false/\v=.int .i64 0/\b_ w' (D.cz 3).ji/\ab (bD D) w w')
theorem yV{w:J}{D:a6}(h:b_ w D)(bz:D.aN<=1000000000):aP ai 76 #[.pointer (some D.d)] w (HP D w):=by
 refine okF (af.ui (some D.d)) ay.ui func76 ?_;(delta af.ui ak aK fu ag tx gw aI xq;dsimp only);refine⟨λh1=>(by cases h1),λ_=>⟨_,rfl,(x6 h (k:=3) (by decide)).use ?_⟩⟩;rintro _ ah ⟨rfl,f,al,bA⟩;obtain⟨bd,p⟩:∃bd,bd=D.cz 3:=⟨_,rfl⟩;have aL:bd.d=D.d:=by rw[p];rfl
 have bB:bd.lb=D.lb:=by rw[p];rfl
 have aM:bd.mr=D.mr:=by rw[p];rfl
 have aO:bd.n=D.n:=by rw[p];rfl
 have aQ:bD bd=bD D:=by rw[p];rfl
 have bC:bd.aN=D.aN:=by rw[p];rfl
 rw[←p]at f;refine⟨_,rfl,λC=>.inl ⟨C,rfl,by rw[←p];exact f,al⟩,λC=>?_⟩;rw[←aL];have am:=f.bp;obtain⟨L,an,ao,ap,aq,au,bF⟩:=kO.begin (P:=ai) f.m kG;obtain⟨r,aR⟩:∃r,r=ah.heap.size:=⟨_,rfl⟩;rw[←aR]at ap aq;have aT:r≠bd.mr:=by have:=f.m.lt;omega
 have av:∀q,bD bd q->q≠r:=λq E e=>by have:=f.lt E;omega
 have aU:∀x∈L,∃y∈bd.waits,x.1=(y.i:Int):=λx hx=>by
  have:=ao.mem_iff.1 (dv.2 ⟨x,hx,rfl⟩);obtain⟨y,u,e⟩:=dv.1 this;refine⟨y,u,?_⟩;have:=congrArg Prod.fst e;exact this.symm
 have aV:∀y∈bd.waits,∃x∈L,x.1=(y.i:Int):=λy u=>by
  have:y.e∈L.map lC:=ao.mem_iff.2 (dv.2 ⟨y,u,rfl⟩);obtain⟨x,hx,e⟩:=dv.1 this;exact⟨x,hx,congrArg Prod.fst e⟩
 refine⟨_,rfl,some bd.mr,f.ba,_,an,ap,λw'=>∃ (seen:O Nat) (ls:O cJ),kO w' r bd.mr encZ L seen/\b_ w' {bd with aZ:=ls}/\ls.length=bd.n/\(∀ (j:Nat) (G:j<ls.length),ls[j]=if ∃x∈L,x.2.2∈seen/\x.1=(j:Int) then bd.now j else bd.aZ.getD j [])/\ab (λq=>bD bd q) ah w'/\an.heap.size<=w'.heap.size,
  yT L r,⟨[],bd.aZ,aq,f.ext au,rfl,λj G=>?_,ab.cK au,bo _⟩,?_⟩
 .rw[if_neg (by rintro⟨x,_,h1,_⟩;cases h1),eu G]
 rintro ax ⟨seen,ls,S,F,A,iE,K,bH⟩;have T:∀s∈ls,s.length=256:=F.sl;have bI:r<ax.heap.size:=by omega
 have aW:bd.lb≠r:=av _ (.inr (.inl rfl));rcases S.next (P:=ai) aT 0 with ⟨aX,aY,U,az,bJ⟩|⟨x,hx,M,U,a0,aA,bK,a4⟩
 .
  refine .inr ⟨aY,U,λh=>(by cases h),λ_=>?_⟩;have N:=F.ext az;obtain⟨a5,a7,a8,V,bL⟩:=eo.clear (P:=ai) (o:=0) N.m kG;refine⟨_,rfl,some bd.mr,N.ba,_,a5,a7,.inr ⟨C,rfl,?_,?_⟩⟩
  .have a9:∀x∈L,x.2.2∈seen:=λx hx=>by
    have:=lY.1 aX x hx;simpa using this
   have a_:ls=(List.range D.n).map D.now:=by
    refine List.ext_getElem (by simp[A,aO]) λj h1 t=>?_;rw[iE j h1,List.getElem_map,List.getElem_range];have W:D.now j=bd.now j:=by rw[p];rfl
    rw[W];split
    .rfl
    .rename_i bb
     unfold a6.now
     cases hf:bd.waits.find? λx=>x.i==j with
     |some y=>
      exfalso;have u:=iA hf;have bc:y.i=j:=by simpa using jX hf
      obtain⟨x,hx,e⟩:=aV y u;exact bb ⟨x,hx,a9 x hx,by rw[e,bc]⟩
     |none=>rfl
   have X:bd.d≠bd.mr:=f.a1.2.1;have be:bd.lb≠bd.mr:=f.a1.2.2;have e:(D.cz 3).ji={bd with aZ:=ls,waits:=[]}:=by
    rw[a_,p];rfl
   rw[e];refine⟨N.v.ad V X,bq.ad N.l V be,a8,λx hx=>(by cases hx),λx hx=>(by cases hx),T,λx hx=>(by cases hx),?_,?_,F.f4,F.fr,F.a1,λx hx=>(by cases hx),λx hx=>(by cases hx)⟩
   .show 16<=ls.length;rw[A];exact f.bS
   .show ls.length<=1600;rw[A];exact am
  .have bf:bD D D.d:=.inl rfl
   have hc:ab (λq=>bD D q) w ah:=al.mono λq _ e=>by rw[e];exact bf
   have K:ab (λq=>bD D q) ah ax:=by rw[←aQ];exact K
   have bg:=ct hc K λq _ h=>h;have bh:=ct bg az λq _ h=>h.elim;exact ct bh V λq _ bi=>by rw[bi,aM];exact .inr (.inr (.inl rfl))
 .
  have Y:x∈L:=(hE.1 hx).1;have bM:x.2.2∉seen:=by
   have:=(hE.1 hx).2;simpa using this
  obtain⟨y,u,Z⟩:=aU x Y;have bj:=F.ad aA λq E=>av q E;have hi:y.i<bd.n:=(f.wn y u).2.1;have bk:y.i<ls.length:=by omega
  refine .inl ⟨_,_,M,U,λ_=>⟨(y.i:Int),x.2.1,M,?_,?_⟩,λh=>(by cases h)⟩
  .rw[a4]
   have e:encZ x.1=y.i:=by rw[Z]
   rw[e]
  have aB:=b6 M;have aa:=bj.ext aB;have bl:({bd with aZ:=ls}:a6).n=bd.n:=A;refine aS ⟨λ_=>False,_,rfl,id,⟨some bd.lb,ls.length,ls.length⟩,aa.de,(Bs (i:=y.i) aa (by rw[bl];exact hi) (by show bd.aN<=_;omega)).use ?_⟩;rintro _ Q ⟨rfl,ac⟩;have g:=aa.ext ac;have W:({bd with aZ:=ls}:a6).now y.i=bd.now y.i:=by
   unfold a6.now
   cases hf:bd.waits.find? λx=>x.i==y.i with
   |some z=>rfl
   |none=>
    have:=ig.1 hf y u;simp at this
  have ae:(bd.now y.i).length=256:=f.oM hi;rw[W];have ar:Addr.add bd.lb (Int.toNat (y.i:Int)*256)=⟨bd.lb,y.i*256,none⟩:=by rw[c8,aw,cA]
  obtain⟨bx,bG,bn⟩:=CO g.l T bk ae;refine⟨_,rfl,ac,_,rfl,⟨I,by show(y.i:Int)<(ls.length:Int);omega⟩,by rw[ar];exact bx,by simp[dV,ae],?_⟩;rw[ar];refine aS ?_;show _/\_;have aC:bq (setCells Q ⟨bd.lb,y.i*256,none⟩ 0 (aF (bd.now y.i)).toArray.toList) bd.lb (bE aF (ls.set y.i (bd.now y.i))).toArray 182:=bG;have B:ab (λq=>q=bd.lb) Q (setCells Q ⟨bd.lb,y.i*256,none⟩ 0 (aF (bd.now y.i)).toArray.toList):=bn;generalize setCells Q ⟨bd.lb,y.i*256,none⟩ 0 (aF (bd.now y.i)).toArray.toList=aD at aC B;have aj:=Ext.trans aB ac;have aE:=(a0.ad aj id id).ad B (λe=>aW e.symm) λe=>f.a1.2.2 e.symm;have br:ab (λq=>bD bd q) ah aD:=by
   have h1:ab (λq=>bD bd q) ah M:=ct K aA λq E e=>by omega
   have t:=ct h1 aj λq _ h=>h.elim;exact ct t B λq _ e=>by rw[e];exact .inr (.inl rfl)
  have bN:=aj.size;have bO:=B.size;have bs:b_ aD {bd with aZ:=ls.set y.i (bd.now y.i)}:=by
   have X:bd.d≠bd.lb:=f.a1.1;refine⟨?_,aC,g.m.ad B λe=>f.a1.2.2 e.symm,λx hx=>(g.ws x hx).ad B λq E e=>(g.a2 x hx).2.1 (by rw[←e];exact E),?_,λs hs=>?_,g.je,?_,?_,g.f4,g.fr,g.a1,g.a2,g.a3⟩
   .have h1:=g.v.ad B X
    have e:({bd with aZ:=ls.set y.i (bd.now y.i)}:a6).c=({bd with aZ:=ls}:a6).c:=by unfold a6.c;simp
    rw[e];exact h1
   .intro z bt
    have:=g.wn z bt;refine⟨this.1,?_,this.2.2⟩;show z.i<(ls.set y.i (bd.now y.i)).length;rw[cY];exact this.2.1
   .rcases lv hs with h1|rfl
    .exact T s h1
    .exact ae
   .show 16<=(ls.set y.i (bd.now y.i)).length;rw[cY,A];exact f.bS
   .show(ls.set y.i (bd.now y.i)).length<=1600;rw[cY,A];exact am
  refine⟨⟨seen++ [x.2.2],_,aE,bs,by rw[cY];exact A,λj G=>?_,br,I⟩,?_⟩
  .rw[cY]at G
   rw[sI];split
   .rename_i e
    subst e;rw[if_pos ⟨x,Y,by simp,Z⟩]
   .rename_i bu
    rw[iE j G];have:(∃H∈L,H.2.2∈seen/\H.1=(j:Int))↔∃H∈L,H.2.2∈seen++ [x.2.2]/\H.1=(j:Int):=by
     constructor
     .rintro⟨z,h1,t,R⟩
      exact⟨z,h1,jC _ t,R⟩
     .rintro⟨z,h1,t,R⟩
      rcases cR.1 t with t|t
      .exact⟨z,h1,t,R⟩
      .have bv:z=x:=by
        have aG:=S.bm;obtain⟨a,aH,rfl⟩:=eY h1;obtain⟨b,C,rfl⟩:=eY Y;have aJ:=fi.1 t;have bw:a=b:=by
         rcases Nat.lt_trichotomy a b with h|h|h
         .have:=mP.1 aG a b (by simpa using aH) (by simpa using C) h
          simp at this;exact absurd aJ this
         .exact h
         .have:=mP.1 aG b a (by simpa using C) (by simpa using aH) h
          simp at this;exact absurd aJ.symm this
        subst bw;rfl
       rw[bv,Z]at R;exact absurd I bu
    simp only[this]
  .rw[aE.left,S.left]
   exact HO hx
structure fE where
 an:Nat
 batch:Nat
 ef:Nat
def fE.c(l:fE):O aa:=[l.an,l.batch,.int .u64 (l.ef:Nat)]
def kP(f b d:Int):Prop:=8<=f/\f<=64/\1<=b/\b<=1000/\1<=d/\d<=1048576
instance Jm(f b d:Int):Decidable (kP f b d):=by unfold kP;infer_instance
section
variable {w w':J}{D:a6}
theorem oa(w:J)(p:aq ae)(f b d:Int):aP ai 70 #[.pointer p,.agg #[f,b,.int .u64 d]] w (λv w'=>v=.bool (!(Option.isNone p)&&decide (kP f b d))/\Ext w w'):=by
 refine okF (af.oa p f b d) ay.oa func70 ?_;(delta af.oa ak r1 Y bw;dsimp only);refine bh (vs:=[f,b,.int .u64 d]) rfl λw1 c hx hs=>?_;refine cm (λx w'=>x=(!(Option.isNone p)&&decide (8<=f))/\w1=w') (λq a=>⟨λh=>⟨f,c.cell,a _ _ ⟨by rw[h,jz],rfl⟩⟩,λh=>a _ _ ⟨by rw[h,l1],rfl⟩⟩) ?_;rintro e _ ⟨h1,rfl⟩;refine cm (λx w'=>x=(e&&decide (f<=64))/\w1=w') (λq a=>⟨λh=>⟨f,c.cell,a _ _ ⟨by rw[h,jz],rfl⟩⟩,λh=>a _ _ ⟨by rw[h,l1],rfl⟩⟩) ?_;rintro g _ ⟨i,rfl⟩;refine cm (λx w'=>x=(g&&decide (1<=b))/\w1=w') (λq a=>⟨λh=>⟨b,by rw[aw];exact c.cell,a _ _ ⟨by rw[h,jz],rfl⟩⟩,λh=>a _ _ ⟨by rw[h,l1],rfl⟩⟩) ?_;rintro j _ ⟨k,rfl⟩;refine cm (λx w'=>x=(j&&decide (b<=1000))/\w1=w') (λq a=>⟨λh=>⟨b,by rw[aw];exact c.cell,a _ _ ⟨by rw[h,jz],rfl⟩⟩,λh=>a _ _ ⟨by rw[h,l1],rfl⟩⟩) ?_;rintro l _ ⟨m,rfl⟩;refine cm (λx w'=>x=(l&&decide (1<=d))/\w1=w') (λq a=>⟨λh=>⟨d,by rw[aw];exact c.cell,a _ _ ⟨by rw[h,jz],rfl⟩⟩,λh=>a _ _ ⟨by rw[h,l1],rfl⟩⟩) ?_;rintro n _ ⟨o,rfl⟩;refine cm (λx w'=>x=(n&&decide (d<=1048576))/\w1=w') (λq a=>⟨λh=>⟨d,by rw[aw];exact c.cell,a _ _ ⟨by rw[h,jz],rfl⟩⟩,λh=>a _ _ ⟨by rw[h,l1],rfl⟩⟩) ?_;rintro s _ ⟨r,rfl⟩;refine⟨?_,hx⟩;rw[r,o,m,k,i,h1,Value.bool.injEq,fW];simp only[ed,cS,and_assoc];exact Iff.rfl
theorem wm{D:a6}{no:Nat}{s:U}{l:cJ}{N:Nat}(a:∀q,az s q->bD D q\/N<=q):∀q,bD (D.put no s l) q->bD D q\/N<=q:=by
 rintro q (e|e|e|⟨x,hx,e⟩)
 .exact .inl (.inl e)
 .exact .inl (.inr (.inl e))
 .exact .inl (.inr (.inr (.inl e)))
 .rcases cU.1 hx with rfl|hx
  .exact a q e
  .exact .inl (.inr (.inr (.inr ⟨x,(hE.1 hx).1,e⟩)))
def HQ(D:a6)(u:cW)(gen:Nat)(w:J)(v:aa)(w':J):Prop:=
 ab (bD D) w w'/\((D.fS 2=true/\v=.int .i64 3/\b_ w' (D.cz 2))\/
 (D.fS 2=false/\∃s:U,(∀q,az s q->bD D q\/w.heap.size<=q)/\∃bd:a6,bd=D.put (gen%2) s (eA (gen%2) (jh u D.n gen))/\
   ((bd.fS 3=true/\v=.int .i64 3/\b_ w' (bd.cz 3))\/(bd.fS 3=false/\v=.int .i64 0/\b_ w' (bd.cz 3).ji))))
theorem m3(h:b_ w D)(P:D.aN<=999999999){u:cW}(hu:nA u){gen:Nat}(hg:gen<18446744073709551616):
 aP ai 77 #[.pointer (some D.d),.agg u.c.toArray,.int .u64 (gen:Nat)] w (HQ D u gen w):=by
 have Q:=h.bS;have R:=h.bp;refine af.Ex _ (u.root:Nat) (u.aG:Nat) (u.map:Nat) (u.clock:Nat) (u.cC:Nat) (u.keys:Nat) (gen:Nat) w _ ?_;(delta af.m3 Y r1 bw aA ba lF b8 av ak;dsimp only);have A:IntKind.wrap .i64 (Int.tmod (gen:Int) 2)=((gen%2:Nat):Int):=by
  rw[sL I,bu I I];omega
 refine bh (vs:=u.c) rfl λw1 B j S=>⟨by decide,?_⟩;have a:=b6 w1;have C:=B.ext a;have E:=h.ext (j.trans a);refine aS ⟨λ_=>False,id,gT C ((ql E).use ?_)⟩;rintro _ _ ⟨rfl,rfl⟩;refine⟨_,rfl,ab.refl _ _,(pN hu (n:=D.n) I).use ?_⟩;rintro _ F ⟨k,rfl,G,t,T⟩;rw[A];refine⟨k,rfl,λ_=>False,#[(3:Int),.int .u64 (gen:Nat),k],λU=>by kernel_rfl,(vK (s:=k) (p:=jh u D.n gen) G.src I (yQ hg)).use ?_⟩;rintro _ V ⟨H,rfl,J,v,K⟩;have b:=(j.trans a).trans (Ext.trans t v);have L:=h.ext b;have W:=b.size;have M:(eA (gen%2) (jh u D.n gen)).length=256:=rX _ (yQ hg);have X:w.heap.size<=F.heap.size:=by have:=(j.trans a).size;have:=t.size;omega
 refine⟨H,0,rfl,v,λh=>(by cases h),λ_=>(vT L (i:=gen%2) I I J.src M λq f hf=>by have:=K q f;have:=h.lt hf;omega).use ?_⟩;rintro _ N (⟨g,rfl,hd,hc⟩|⟨g,rfl,s,hd,hc,x⟩)
 .exact⟨3,rfl,λ_=>⟨ct (b.mono λ_ _ h=>h.elim) hc λq _ e=>by rw[e];exact .inl rfl,.inl ⟨g,rfl,hd⟩⟩,λh=>(by cases h)⟩
 .have y:ab (bD D) w N:=ct (b.mono λ_ _ h=>h.elim) hc λq _ e=>e
  have O:=wm (no:=gen%2) (l:=eA (gen%2) (jh u D.n gen)) x;refine⟨0,rfl,λh=>(by cases h),λ_=>(yV hd (by show D.aN+1<=_;omega)).use ?_⟩;have z:∀q,az s q->bD D q\/w.heap.size<=q:=λq f=>(x q f).imp id λh=>by omega
  rintro _ Z (⟨m,rfl,o,r⟩|⟨m,rfl,o,r⟩)
  .exact⟨3,rfl,ct y r λq _ e=>by rw[e];exact .inl rfl,.inr ⟨g,s,z,_,rfl,.inl ⟨m,rfl,o⟩⟩⟩
  .exact⟨0,rfl,ct y r λq f e=>(O q e).resolve_right I,.inr ⟨g,s,z,_,rfl,.inr ⟨m,rfl,o⟩⟩⟩
end
def bitsOf(ns:O Int)(i:Nat):aj:=((ns.getD (i/8) 0).toNat).testBit (i%8)
theorem CP(ns:O Int)(i:Nat)(h:8*ns.length<=i):bitsOf ns i=false:=by
 unfold bitsOf;have:ns.length<=i/8:=by omega
 simp[List.getD,iU this]
theorem HR(ns:O Int)(h:∀n∈ns,0<=n/\n<=255):ns.map (Value.int .u8)=eW (bitsOf ns) ns.length:=by
 apply List.ext_getElem
 .simp[eW]
 .intro i h1 c
  have hi:i<ns.length:=by simpa using h1
  simp only[eW,List.getElem_map,List.getElem_range]
  congr 1
  obtain⟨jc,au⟩:=h ns[i] (cw hi);have:=vW (bitsOf ns) i ns[i].toNat I (λj d=>by
   unfold bitsOf;have a:(8*i+j)/8=i:=by omega
   have b:(8*i+j)%8=j:=by omega
   rw[a,b];simp[List.getD,hi])
  rw[←this];omega
theorem HS:∀x:Nat,x<256->∀j:Nat,j<8->decide (Int.fdiv (x:Int) (2^(min (Int.toNat (j:Int)) 8))>0)=(List.range 8).any (λk=>decide (j<=k)&&x.testBit k):=by decide+kernel
section
variable {w w':J}{b n:Nat}{f g:Nat->aj}{s1 s2:U}
def oX(ns:O Int)(n:Nat):Prop:=ns.length=(n+7)/8/\∀i,n<=i->bitsOf ns i=false
theorem HT{ns:O Int}{n:Nat}(l:ns.length=(n+7)/8)(m:0<n%8){x:Nat}(hx:x<256)(a:ns[ns.length-1]? =some (x:Int)):
 decide (Int.fdiv (x:Int) (2^(min (Int.toNat ((n%8:Nat):Int)) 8))>0)=false↔∀i,n<=i->bitsOf ns i=false:=by
 rw[HS x hx _ (g4 _ I)];have f:ns.length-1=n/8:=by omega
 rw[f]at a;rw[o3];constructor
 .intro h i hi
  rcases dH i (8*ns.length) with c|c
  .have e:i/8=n/8:=by omega
   unfold bitsOf;rw[e];simp only[List.getD,a,qN,c8];have:=h (i%8) (jB.2 (g4 _ I));have b:n%8<=i%8:=by omega
   simpa[b] using this
  .exact CP ns i c
 .intro h k d
  have d:=jB.1 d;by_cases b:n%8<=k
  .have:=h (8*(n/8)+k) I
   unfold bitsOf at this;have g:(8*(n/8)+k)/8=n/8:=by omega
   have j:(8*(n/8)+k)%8=k:=by omega
   rw[g,j]at this;simp only[List.getD,a,qN,c8]at this;simp[this]
  .simp[b]
theorem pT{s:U}{ns:O Int}(hs:Src 1 w s (ns.map (.int .u8)))(m:∀n∈ns,(0:Int)<=n/\n<=255)(Q:ns.length<=1000000)(n:Int):
 aP ai 173 #[.slice s.a s.len s.cap,.int .i64 n] w (λv w'=>Ext w w'/\((¬(1<=n/\n<=1600)/\v=.tuple #[.pointer none,.int .i64 1])\/
  (1<=n/\n<=1600/\¬oX ns n.toNat/\v=.tuple #[.pointer none,.int .i64 4])\/
  (1<=n/\n<=1600/\oX ns n.toNat/\∃b s1 s2,v=.tuple #[.pointer (some ⟨b,0,none⟩),.int .i64 0]/\eR w' b n.toNat (bitsOf ns) (bitsOf ns) s1 s2/\∀k,fo b s1 s2 k->w.heap.size<=k))):=by
 have hlen:s.len=ns.length:=by have:=hs.len;simp at this;omega
 refine okF (af.pT s n) ay.pT func173 ?_;(delta af.pT al aK ak aA av bX ba aR Y;dsimp only);refine(BZ w n).use ?_;rintro _ _ ⟨rfl,rfl⟩;refine⟨_,rfl,λh=>⟨.refl _ _,.inl ⟨by simp at h;omega,rfl⟩⟩,λh=>?_⟩;have h:1<=n/\n<=1600:=by simpa using h
 obtain⟨n,rfl⟩:=qY (by omega:0<=n);simp only[c8];refine(B0 w n I).use ?_;rintro _ _ ⟨rfl,rfl⟩;refine⟨_,rfl,cm (λc w'=>(c=true↔¬oX ns n)/\w=w') (λq u=>⟨λf=>u _ _ ⟨?_,rfl⟩,λg=>⟨by decide,?_⟩⟩) ?_⟩
 .have f:¬ns.length=(n+7)/8:=by
   intro h;rw[hlen,h]at f;simp at f
  exact⟨λ_ hg=>f hg.1,λ_=>rfl⟩
 .have g:ns.length=(n+7)/8:=by
   simp only[bne_eq_false_iff_eq]at g;omega
  refine cm (λc w'=>(c=true↔¬oX ns n)/\w=w') (λR y=>⟨λj=>?_,λj=>y _ _ ⟨?_,rfl⟩⟩) ?_
  .rw[r8]at j⊢
   have z:0<n%8:=by
    have:((n%8:Nat):Int)>0:=by simpa using j
    omega
   have o:ns.length-1<ns.length:=by omega
   obtain⟨x,F⟩:∃x:Nat,ns[ns.length-1]=(x:Int):=⟨ns[ns.length-1].toNat,by have:=m _ (cw o);omega⟩;have G:x<256:=by have:=m _ (cw o);omega
   have B:ns[ns.length-1]? =some (x:Int):=by rw[c_ o,F]
   obtain⟨A,ar,C,hc⟩:=hs.at (i:=ns.length-1) (v:=.int .u8 x) (by rw[kn,B];rfl);rw[hlen,bu I I,show(((ns.length:Nat):Int)-1)=((ns.length-1:Nat):Int) from I];rw[hlen]at C;refine⟨A,ar,C,x,hc,by decide,I,y _ _ ⟨?_,rfl⟩⟩;have D:=HT g z G B;constructor
   .intro ht hg
    have:=D.2 hg.2;rw[ht]at this;cases this
   .intro p
    cases hd:decide (Int.fdiv (x:Int) (2^(min (Int.toNat ((n%8:Nat):Int)) 8))>0) with
    |true=>rfl
    |false=>exact(p ⟨g,D.1 hd⟩).elim
  .rw[r8]at j
   have z:n%8=0:=by
    have:¬((n%8:Nat):Int)>0:=by simpa using j
    omega
   constructor
   .intro h;cases h
   .intro p
    exact(p ⟨g,λi hi=>CP ns i I⟩).elim
  .rintro c _ ⟨hc,rfl⟩
   exact u _ _ ⟨hc,rfl⟩
 .rintro c _ ⟨hc,rfl⟩
  refine⟨λht=>⟨.refl _ _,.inr (.inl ⟨h.1,h.2,hc.1 ht,trivial⟩)⟩,λhf=>?_⟩;have hg:oX ns n:=by
   rcases Classical.em (oX ns n) with h|h
   .exact h
   .rw[hc.2 h]at hf;cases hf
  refine(BU hs (D8 _ _) I).use ?_;rintro _ ah ⟨t,rfl,l,hx,H⟩;rw[HR ns m,hg.1]at l;have J:=bq.new ah #[.int .i64 (n:Int),.slice t.a t.len t.cap,.slice none 0 0] 218;have E:Ext ah (ah.alloc (.cells #[.int .i64 (n:Int),.slice t.a t.len t.cap,.slice none 0 0] 218)):=ab.alloc (.refl _ _) _;have f:∀k,az t k->k≠ah.heap.size:=λk d e=>by have:=l.lt k d;omega
  refine⟨t,rfl,(ym J (l.ext E) f I).use ?_⟩;rintro _ S ⟨rfl,K,h1,L,M,N,r⟩;have T:=hx.size;refine⟨rfl,?_,.inr (.inr ⟨h.1,h.2,hg,ah.heap.size,t,K,rfl,⟨h1,L,M,λk d=>⟨f k d,λP=>?_⟩,λk d e=>?_,I,I,hg.2,hg.2⟩,?_⟩)⟩
  .exact((ab.cK (hx.trans E)).trans N).mono λk d e=>by omega
  .have:=r k P
   have:=l.lt k d;simp at*;omega
  .have:=r k d
   simp at this;omega
  .rintro k (rfl|d|d)
   .omega
   .exact H k d
   .have:=r k d
    simp at this;omega
end
section
variable {w w':J}{C:b1}{X:Nat->Prop}
def Fr.gU(f:Fr):aj:=f.full&&f.fT
theorem HU:iD ai 200:=⟨Tryz.f200,func200,by kernel_rfl,by kernel_rfl⟩
theorem HV(f:Fr)(w:J):aP ai 200 #[.agg #[f.full,f.fT,f.used,f.no,f.pins,f.b]] w (λv w'=>v=f.gU/\Ext w w'):=by
 refine okF (af.uV f.full f.fT f.used f.no f.pins f.b) ay.uV func200 ?_;(delta af.uV bc Y ak;dsimp only);refine bh (vs:=f.c) rfl λw1 a hx hs=>⟨f.full,a.cell,cm (λb w'=>b=f.gU/\w1=w') (λq d=>⟨λh=>⟨f.fT,by rw[aw];exact a.cell,d _ _ ⟨by unfold Fr.gU;rw[h];rfl,rfl⟩⟩,λh=>d _ _ ⟨by unfold Fr.gU;rw[h];rfl,rfl⟩⟩) ?_⟩;rintro _ _ ⟨rfl,rfl⟩;exact⟨rfl,hx⟩
def jw(fs:O Fr):O Int:=(fs.filter Fr.gU).map Fr.no
theorem CQ(h:fm w C):aP ai 145 #[.pointer (some C.c)] w (λv w'=>∃ (s:U) (zs:O Int),v=s/\a8 1 3 w' s (zs.map encZ)/\zs.Perm (jw C.an)/\Ext w w'/\∀q,az s q->w.heap.size<=q):=by
 obtain⟨bU,aA,aR⟩:=h.cells
 have aa:=h.bG
 refine okF (af.uJ (some C.c)) ay.uJ func145 ?_
 (delta af.uJ ba;dsimp only)
 refine Calls.mono (af.EK (some C.c) ⟨200,#[],#[]⟩ w (λv w'=>∃ (s:U) (zs:O Int),v=s/\a8 1 3 w' s (zs.map encZ)/\zs.Perm (jw C.an)/\Ext w w'/\∀q,az s q->w.heap.size<=q) ?_) ?_
 · (delta af.rP ak ag aI bc r1 Y tH av aR;dsimp only)
   refine⟨λh=>(by cases h),λ_=>⟨_,rfl,⟨some C.aU,C.an.length,C.an.length⟩,aA,λs n w'=>∃i:Nat,n=(i:Int)/\i<=C.an.length/\a8 1 3 w' s ((jw (C.an.take i)).map encZ)/\Ext w w'/\∀q,az s q->w.heap.size<=q,λ_ n _=>((C.an.length:Int)-n).toNat,⟨0,rfl,cE _,by simpa[jw] using a8.none 1 3 w,.refl _ _,λq e=>(gg q e).elim⟩,?_⟩⟩
   rintro s _ p ⟨i,rfl,hi,a,hx,g⟩
   have A:=h.ext hx
   refine⟨λaH=>?_,λB=>?_⟩
   · have r:i<C.an.length:=by
       have:(i:Int)<(C.an.length:Int):=b2 aH
       omega
     obtain⟨f,hf⟩:∃f,f=C.an[i]:=⟨_,rfl⟩
     have ab:(jw (C.an.take i)).length<=64:=by
       unfold jw
       rw[dL]
       have:=l2 Fr.gU (C.an.take i)
       rw[cv]at this;omega
     have t:jw (C.an.take (i+1))=jw (C.an.take i)++(if f.gU then [f.no] else []):=by
       unfold jw
       rw[iy r,kV,fP,←hf,pe,List.filter_nil]
       congr 1
       split<;>rfl
     refine cm (λs w'=>a8 1 3 w' s ((jw (C.an.take (i+1))).map encZ)/\Ext w w'/\∀q,az s q->w.heap.size<=q) (λq e=>?_) ?_
     · have hc:∀j,j<6->p.cell? ⟨C.aU,i*6+j,none⟩=(f.c)[j]? :=λj D=>by rw[hf];exact j9 A.f r D
       refine⟨_,rfl,⟨I,by show(i:Int)<(C.an.length:Int);omega⟩,?_⟩
       rw[r3]
       refine⟨f.full,hc 0 (by decide),f.fT,by rw[aw];exact hc 1 (by decide),f.used,by rw[aw];exact hc 2 (by decide),f.no,by rw[aw];exact hc 3 (by decide),f.pins,by rw[aw];exact hc 4 (by decide),f.b,by rw[aw];exact hc 5 (by decide),?_⟩
       refine bh (vs:=[false,false,false,(0:Int),(0:Int),()]) rfl λac u E ad=>⟨u.cc rfl (λv l=>?_),rfl,cy u (us:=f.c) rfl rfl λy d F ae=>?_⟩
       · simp only[cU,eV,eZ]at l
         rcases l with rfl|rfl|rfl|rfl|rfl|rfl<;>trivial
       have G:Ext p y:=Ext.cu E F (bo _)
       refine⟨f.full,d.cell,f.fT,by rw[aw];exact d.cell,f.used,by rw[aw];exact d.cell,f.no,by rw[aw];exact d.cell,f.pins,by rw[aw];exact d.cell,f.b,by rw[aw];exact d.cell,HU,(HV f y).use ?_⟩
       rintro _ m ⟨rfl,z⟩
       have k:=Ext.trans G z
       have H:=d.ext z
       refine⟨_,rfl,λhd=>⟨f.no,by rw[aw];exact H.cell,aS ?_⟩,λhd=>e _ _ ⟨?_,Ext.trans hx k,g⟩⟩
       · have o:Ext m (m.alloc (.cells #[encZ f.no] 3)):=eB _ _
         obtain⟨J,K,au,L,_,M,N⟩:=qe.append (cH:=58) (x:=⟨some m.heap.size,1,1⟩) (Src.new (T:=3) m [encZ f.no] 1 rfl) ((a.ext k).ext o) (λv l=>by rw[fi.1 l];trivial) (by
           have:s.len=(jw (C.an.take i)).length:=by
             have:=a.1
             rw[dL]at this;omega
           show(2*(s.len+1)+1000)*8<=_;omega)
         refine⟨J,K,au,e _ _ ⟨?_,?_,λq e=>?_⟩⟩
         · rw[t,hd,if_pos rfl,fP];exact L
         · exact Ext.dd (Ext.trans (Ext.trans hx k) o) M g
         · rcases N q e with h1|h1
           · exact g q h1
           · have:=(Ext.trans hx k).size
             have:=o.size;omega
       · rw[t,hd]
         simp only[fM,if_false,fQ]
         exact a.ext k
     · rintro ah aj ⟨h1,P,Q⟩
       have R:IntKind.wrap .i64 ((i:Int)+1)=((i+1:Nat):Int):=by rw[bu I I];omega
       rw[R]
       exact⟨⟨i+1,rfl,I,h1,P,Q⟩,by show((C.an.length:Int)-((i+1:Nat):Int)).toNat<((C.an.length:Int)-(i:Int)).toNat;omega⟩
   · have S:i=C.an.length:=by
       have:¬(i:Int)<(C.an.length:Int):=cr B
       omega
     rw[S,iz]at a
     refine(Cz a (by
       unfold jw
       rw[dL]
       have:=l2 Fr.gU C.an;omega)).use ?_
     rintro _ al ⟨rfl,V,zs,W,X⟩
     exact⟨rfl,s,zs,rfl,W,X.1,Ext.dd hx V g,g⟩
 · rintro _ w1 ⟨_,rfl,s,zs,rfl,a,Z,hx,hf⟩
   exact⟨s,rfl,s,zs,rfl,a,Z,hx,hf⟩
end
section
variable {w w':J}{C:b1}{X:Nat->Prop}
theorem HW{D:a6}{no:Nat}{s:U}{l:cJ}{N:Nat}(a:∀q,az s q->bD D q\/N<=q):∀q,bD (D.put no s l) q->bD D q\/N<=q:=by
 rintro q (e|e|e|⟨x,hx,e⟩)
 .exact .inl (.inl e)
 .exact .inl (.inr (.inl e))
 .exact .inl (.inr (.inr (.inl e)))
 .rcases cU.1 hx with rfl|hx
  .exact a q e
  .exact .inl (.inr (.inr (.inr ⟨x,(hE.1 hx).1,e⟩)))
theorem fm.p_{ax:a6}(h:fm w C)(hd:b_ w' ax)(e:ax.d=C.D.d)(hc:ab (bD C.D) w w')(hf:∀q,bD ax q->bD C.D q\/w.heap.size<=q):fm w' {C with D:=ax}:=by
 have h1:=h.v.ad hc h.a1.2.1;rw[←e]at h1;have a:C.c<w.heap.size:=h.v.lt;have b:C.aU<w.heap.size:=bq.lt h.f;refine⟨h1,bq.ad h.f hc h.a1.2.2,hd,h.bx,h.bG,h.hd,h.a1.1,λg=>?_,λg=>?_⟩
 .rcases hf _ g with g|g
  .exact h.a1.2.1 g
  .have g:w.heap.size<=C.c:=g
   omega
 .rcases hf _ g with g|g
  .exact h.a1.2.2 g
  .have g:w.heap.size<=C.aU:=g
   omega
def b1.wrote(C:b1)(i no:Nat)(hi:i<C.an.length)(s:U):b1:={C with an:=C.an.set i {C.an[i] with fT:=false},D:=C.D.put no s (C.an[i]).l}
theorem HX(h:ec X w C){i no:Nat}(hi:i<C.an.length)(hf:(C.an[i]).full=true)(t:(C.an[i]).no=no){s:U}(J:¬C.D.bK no=true)(hd:b_ w' (C.D.put no s (C.an[i]).l))(hc:ab (bD C.D) w w')(W:∀q,az s q->bD C.D q\/w.heap.size<=q):
 (∃u:aa,w'.cell? ⟨C.aU,i*6+1,none⟩=some u)/\w'.frozen? ⟨C.aU,i*6+1,none⟩=false/\ec X (w'.setCell ⟨C.aU,i*6+1,none⟩ false) (C.wrote i no hi s)/\
   eC C (C.wrote i no hi s) w (w'.setCell ⟨C.aU,i*6+1,none⟩ false) 1/\∀j,(C.wrote i no hi s).view j=C.view j:=by
 have z:=HW (no:=no) (l:=(C.an[i]).l) W;obtain⟨ax,x⟩:∃ax,ax=C.D.put no s (C.an[i]).l:=⟨_,rfl⟩;have B:∀j,ax.now j=if j=no then (C.an[i]).l else C.D.now j:=by rw[x];exact oN _ _ _ _
 have K:ax.d=C.D.d:=by rw[x];rfl
 have Y:ax.n=C.D.n:=by rw[x];rfl
 have Z:ax.key=C.D.key:=by rw[x];exact BD C.D J
 have L:kI ax C.D:=by rw[x];exact BC h.inv J
 have ao:ax.aN=C.D.aN+1:=by rw[x];rfl
 have ac:∀m,C.D.calm (m+1)->ax.calm m:=λm ad=>by rw[x];exact(jL (.inr rfl) h.raw.dev.f4 ad).1
 unfold b1.wrote;rw[←x]at hd z⊢;have M:=h.raw.p_ hd K hc z;obtain⟨a1,a2,a3,a4⟩:=np M.f hi (j:=1) (by decide) (v:=false) {C.an[i] with fT:=false} rfl;obtain⟨g,o⟩:∃g:Fr,g={C.an[i] with fT:=false}:=⟨_,rfl⟩;rw[←o]at a3⊢;refine⟨a1,a2,?_⟩;generalize w'.setCell ⟨C.aU,i*6+1,none⟩ false=E at a3 a4;have H:ab (c3 C) w E:=ct (hc.mono λq _ e=>.inr (.inr e)) a4 λq _ e=>.inr (.inl e);obtain⟨y,au,ae,af,ag,ap,aq,ah⟩:=h.inv.ok _ (cw hi) hf;have ai:y=no:=by rw[t]at au;omega
 subst ai;obtain⟨a,r⟩:∃a:b1,a={C with an:=C.an.set i dC,D:=ax}:=⟨_,rfl⟩;have h1:gB X E a:=by
  rw[r];exact yc (V:=c3 C) hi h.inv H (λ_ _ h=>h) L (λj A=>by rw[B,if_neg λe=>A hf (by rw[t,e])]) z dC rfl rfl
 have v1:∀j,a.view j=C.view j:=λj=>by
  rw[r];exact BB hi h.inv (λ_ j A=>by rw[B,if_pos (by rw[t]at A;omega)]) (λj A=>by rw[B,if_neg λe=>A hf (by rw[t,e])]) dC rfl j
 have F:a.an=C.an.set i dC:=by rw[r]
 have dK:i<a.an.length:=by rw[F,cY];exact hi
 have N:∀ (k:Nat) (aj:k<a.an.length),k≠i->(a.an[k]).full=true->(a.an[k]).no≠y:=λk aj O G P=>by
  simp only[F,fA (Ne.symm O)]at G P;exact O (h.inv.un k i _ hi G hf (by rw[P,t]))
 have Q:C.an.set i g=a.an.set i g:=by rw[F,set_set]
 have R:({C with an:=C.an.set i g,D:=ax}:b1)={a with an:=a.an.set i g,D:=ax}:=by rw[Q,r]
 have ak:a7 (λq=>¬c3 {C with an:=C.an.set i g,D:=ax} q/\¬X q) E g.b g.l:=by
  rw[o];refine a7.re af H (λq _ S=>S.1) λq S T=>⟨λp=>T.1 ?_,T.2⟩;rcases p with p|p|p
  .exact .inl p
  .exact .inr (.inl p)
  .exact .inr (.inr ((z q p).resolve_right I))
 have G:gB X E {C with an:=C.an.set i g,D:=ax}:=by
  rw[R];refine yd (C:=a) (no:=y) (V:=λ_=>False) dK h1 (.refl _ _) (λ_ _ h=>h.elim) (by rw[r];exact⟨rfl,λ_ h=>h,L.2.2⟩) (λj=>by rw[r]) (λq=>by rw[r]) g (by rw[o];exact hf) (by rw[o];exact h.inv.pins (C.an[i]) (cw hi)) ⟨by rw[o];exact t,by show y<ax.n;rw[Y];exact ae,by rw[←R];exact ak,by rw[o];exact ag,λ_=>?_,λ_=>by rw[o],ah⟩ N;show g.l=ax.now y;rw[B,if_pos rfl,o]
 have al:∀j,({C with an:=C.an.set i g,D:=ax}:b1).view j=C.view j:=λj=>by
  have am:({C with an:=C.an.set i g,D:=ax}:b1)=b1.mk a.c a.aU (a.an.set i g) C.hand ax:=by rw[Q,r]
  rw[am,ye (C:=a) (hd:=C.hand) (ax:=ax) (no:=y) dK h1.un (λj=>by rw[r]) g (by rw[o];exact hf) (by rw[o];exact t) (λp=>by simp only[F,hJ]at p;cases p) N j,v1];split
  .rename_i e
   subst e;have:=mw (fs:=C.an) (D:=C.D) (c:=C.c) (aU:=C.aU) (hd:=C.hand) h.inv.un hi hf t;rw[o];exact this.symm
  .rfl
 refine⟨⟨?_,G⟩,⟨rfl,K,by show(C.an.set i _).length=_;rw[cY],Z,by show ax.aN<=_;omega,ac,H,?_⟩,al⟩
 .refine yf (C:={C with D:=ax}) M a4 a3
 .rintro q (e|e|e)
  .exact .inl (.inl e)
  .exact .inl (.inr (.inl e))
  .exact(z q e).imp (λh=>.inr (.inr h)) id
theorem yW{ax:a6}(h:ec X w C)(hd:b_ w' ax)(e:ax.d=C.D.d)(b:kI ax C.D)(a:∀i,ax.now i=C.D.now i)(hc:ab (bD C.D) w w')(hf:∀q,bD ax q->bD C.D q\/w.heap.size<=q):ec X w' {C with D:=ax}/\∀j,({C with D:=ax}:b1).view j=C.view j:=
 ⟨⟨h.raw.p_ hd e hc hf,r5 (C:=C) (hd:=C.hand) h.inv (h4.refl _) (hc.mono λq _ e=>.inr (.inr e)) (λ_ _ h=>h) b a hf⟩,λj=>r6 (C:=C) (hd:=C.hand) h.inv (h4.refl _) a j⟩
theorem HY(h:ec X w C)(hc:∀f∈C.an,f.gU=false)(j:Nat):C.view j=C.D.now j:=by
 unfold b1.view
 cases b:C.an.find? λf=>f.full&&f.no==(j:Int) with
 |none=>rfl
 |some f=>
  have c:=iA b;have a:=jX b;simp only[ed,kU]at a;obtain⟨no,au,g,i,k,d⟩:=h.inv.ok f c a.1;have h1:=hc f c;unfold Fr.gU at h1;rw[a.1,jz]at h1;have e:no=j:=by rw[a.2]at au;omega
  rw[←e];exact d h1
theorem CR{D:a6}(h:b_ w D)(i:Nat):D.ji.now i=D.now i:=by
 by_cases hi:i<D.n
 .exact yU D hi
 .have h1:D.now i=[]:=by
   unfold a6.now
   cases hf:D.waits.find? λx=>x.i==i with
   |some x=>
    have hx:=iA hf;have he:x.i=i:=by simpa using jX hf
    have:=(h.wn x hx).2.1;omega
   |none=>
    have:¬i<D.aZ.length:=hi;show D.aZ.getD i []=[];rw[eX,iU I];rfl
  rw[h1];show((List.range D.n).map D.now).getD i []=[];rw[eX,iU (by simp;omega)];rfl
theorem sm(D:a6){m:Nat}(h:D.calm m):(D.cz 3).calm m:=by
 unfold a6.calm a6.cz at*;simpa[eX] using h
structure HZ(X:Nat->Prop)(C aE:b1)(w:J)(v:aa)(w':J):Prop where
 at_:ec X w' aE
 c:aE.c=C.c
 d:aE.D.d=C.D.d
 len:aE.an.length=C.an.length
 n:aE.D.n=C.D.n
 bK:aE.D.bK=C.D.bK/\aE.D.er=C.D.er
 aN:aE.D.aN<=C.D.aN+64
 calm:∀m,C.D.calm (m+64)->aE.D.calm m
 ad:ab (c3 C) w w'
 c4:∀q,c3 aE q->c3 C q\/w.heap.size<=q
 view:∀j,aE.view j=C.view j
 il:(v=.int .i64 0/\aE.D.waits=[]/\(∀f∈aE.an,f.gU=false)/\aE.D.cl.getD 3 0=(gA (C.D.cl.getD 3 0)).2)\/(v=.int .i64 3/\aE.D.aZ=C.D.aZ/\(¬C.D.calm 64\/C.D.fS 3=true))
theorem H0(h:ec X w C)(a5:C.D.aN<=999999900)(ar:∀j,C.D.bK j=true->C.D.er j=[]):aP ai 163 #[.pointer (some C.c)] w (λv w'=>∃aE,HZ X C aE w v w'):=by
 have a7:=h.raw.bG;refine okF (af.uO (some C.c)) ay.uO func163 ?_;(delta af.uO ak ba aI r1 js ag aA st av;dsimp only);refine⟨λh=>(by cases h),λ_=>(CQ h.raw).use ?_⟩;rintro _ w1 ⟨s,zs,rfl,hs,N,Z,ax⟩;have hlen:s.len=zs.length:=by have:=hs.1;rw[dL]at this;omega
 have a9:zs.length<=64:=by
  rw[N.length_eq];unfold jw;rw[dL];have:=l2 Fr.gU C.an;omega
 have h1:=h.ext Z;have aB:∀z∈zs,∀no:Nat,(no:Int)=z->¬C.D.bK no=true:=λz t no a_ hs=>by
  obtain⟨f,hf,e⟩:=dv.1 (N.mem_iff.1 t);obtain⟨R,u⟩:=hE.1 hf;unfold Fr.gU at u;rw[ed]at u;obtain⟨m,bx,_,_,_,_,aa,aC⟩:=h.inv.ok f R u.1;have:m=no:=by rw[e]at bx;omega
  subst this;rw[aa hs]at u
  cases u.2
 refine⟨s,rfl,λn w'=>∃ (i:Nat) (g:b1),n=(i:Int)/\i<=zs.length/\ec X w' g/\eC C g w w' i/\(∀j,g.view j=C.view j)/\a8 1 3 w' s (zs.map encZ)/\(∀f∈g.an,f.gU=true->f.no∈zs.drop i)/\(∀z∈zs,∃f∈g.an,f.full=true/\f.no=z)/\∀q,c3 g q->¬az s q,
  λn _=>((zs.length:Int)-n).toNat,⟨0,C,rfl,cE _,h1,eC.ext C Z,λ_=>rfl,hs,λf hf hd=>?_,λz t=>?_,λq o O=>?_⟩,?_⟩
 .exact N.mem_iff.2 (dv.2 ⟨f,hE.2 ⟨hf,hd⟩,rfl⟩)
 .obtain⟨f,hf,e⟩:=dv.1 (N.mem_iff.1 t)
  obtain⟨R,u⟩:=hE.1 hf;unfold Fr.gU at u;rw[ed]at u;exact⟨f,R,u.1,e⟩
 .have:=ax q O;have:=h.raw.lt o;omega
 rintro _ S ⟨i,g,rfl,hi,p,l,P,T,ac,hex,aj⟩;have bb:=l.aN;refine⟨λaH=>?_,λaD=>?_⟩
 .have G:i<zs.length:=by
   have:(i:Int)<(s.len:Int):=b2 aH;omega
  obtain⟨a,aF,aG⟩:∃a:ae,s.a=some a/\S.cell? (a.add (Int.toNat (i:Int)*1))=some (.int .i64 zs[i]):=by
   obtain⟨b,c,y,_,_,_,_,U,_⟩:=T.cell (i:=i) (v:=encZ zs[i]) (by rw[kn,c_ G];rfl);exact⟨_,y,by rw[c8,aw,cA,fz];exact U⟩
  refine⟨a,aF,⟨I,by show(i:Int)<(s.len:Int);omega⟩,zs[i],aG,?_⟩;rw[←l.c];refine(vV p.raw _).use ?_;rintro _ _ ⟨aJ,rfl⟩;obtain⟨f,aK,aL,aM⟩:=hex zs[i] (cw G);rcases aJ with ⟨k,H,rfl,au,V⟩|⟨_,aO⟩
  rotate_left
  .exact absurd aM (aO f aK aL)
  have J:=b6 S;have B:=p.ext J;obtain⟨no,bx,bG,al,aQ,bc,aa,aC⟩:=B.inv.ok _ (cw H) au;have t:zs[i]=(no:Int):=by rw[←V,bx]
  have aR:=j9 B.raw.f H (j:=5) (by decide);refine⟨_,rfl,aS ⟨_,rfl,id,_,B.raw.cells.1,_,rfl,id,(g.an[k]).b,by rw[aw];exact aR,?_⟩⟩;rw[t];refine(vT B.raw.dev (i:=no) bG I al.1 aQ λq o hf=>(al.2.2 q o).1.1 (.inr (.inr hf))).use ?_;rintro aT ah aV;have aW:=l.ad.size;have bd:=J.size;rcases aV with ⟨y,rfl,E,r⟩|⟨y,rfl,s2,E,r,aX⟩
  .obtain⟨fJ,K⟩:=yW B E rfl (B.inv.cz 2) (λj=>r4 g.D 2 j) (r.mono λq _ e=>.inl e) λq o=>.inl o
   refine⟨3,rfl,λ_=>⟨{g with D:=g.D.cz 2},fJ,l.c,l.d,l.len,l.n,l.nq,by show g.D.aN<=_;omega,λm L=>?_,?_,?_,λj=>(K j).trans (P j),.inr ⟨rfl,?_,.inl λaY=>?_⟩⟩,λh=>(by cases h)⟩
   .exact(jL (.inr rfl) p.raw.dev.f4 (l.calm (m+1) (ga L I))).1
   .refine ct (l.ad.trans (ab.cK J)) r λq o e=>?_
    exact(l.c4 q (.inr (.inr (.inl e)))).resolve_right I
   .exact l.c4
   .exact congrArg (λk=>k.1.1) l.aZ
   .have:=(jL (k:=2) (m:=0) (.inr rfl) p.raw.dev.f4 (l.calm 1 (ga aY I))).2
    rw[y]at this;cases this
  .obtain⟨br,bt,am,Q,a0⟩:=HX B H au (by rw[V,t]) (λhs=>aB _ (cw G) _ t.symm (by rw[←l.bK];exact hs)) E r aX
   refine⟨0,rfl,λh=>(by cases h),λ_=>⟨_,rfl,by rw[aw];exact br,by rw[aw];exact bt,?_⟩⟩;rw[aw];refine aS ?_;generalize ah.setCell ⟨g.aU,k*6+1,none⟩ false=be at am Q;have a1:IntKind.wrap .i64 ((i:Int)+1)=((i+1:Nat):Int):=by rw[bu I I];omega
   rw[a1];have a2:=(l.trans (eC.ext g J)).trans Q;have a3:zs.drop i=zs[i]::zs.drop (i+1):=iQ G;refine⟨⟨i+1,_,rfl,I,am,a2,λj=>(a0 j).trans (P j),(T.ext J).ad Q.ad λq o hf=>aj q hf o,λf hf A=>?_,λz t=>?_,λq o O=>?_⟩,by show((zs.length:Int)-((i+1:Nat):Int)).toNat<((zs.length:Int)-(i:Int)).toNat;omega⟩
   .have hf:f∈g.an.set k {g.an[k] with fT:=false}:=hf
    obtain⟨b,W,rfl⟩:=eY hf;have ao:b<g.an.length:=by simpa using W
    by_cases e:k=b
    .subst e
     simp[Fr.gU]at A
    .simp only[fA e]at A⊢
     have F:=ac _ (cw ao) A;rw[a3]at F;rcases cU.1 F with Y|Y
     .unfold Fr.gU at A
      rw[ed]at A;exact absurd (p.inv.un k b H ao au A.1 (by rw[V,Y])) e
     .exact Y
   .obtain⟨f,f1,f2,f3⟩:=hex z t
    obtain⟨b,W,rfl⟩:=eY f1;by_cases e:k=b
    .subst e
     exact⟨{g.an[k] with fT:=false},List.mem_set H _,f2,f3⟩
    .exact⟨g.an[b],List.mem_iff_getElem.2 ⟨b,by show b<(g.an.set k _).length;rw[cY];exact W,by show(g.an.set k _)[b]'_=_;rw[fA e]⟩,f2,f3⟩
   .rcases Q.c4 q o with F|F
    .exact aj q F O
    .have:=T.lt q O;omega
 .have G:i=zs.length:=by
   have:¬(i:Int)<(s.len:Int):=cr aD;omega
  have U:∀f∈g.an,f.gU=false:=λf hf=>by
   cases A:f.gU with
   |false=>rfl
   |true=>
    have:=ac f hf A;rw[G,List.drop_length]at this
    cases this
  have ap:g.D.cl.getD 3 0=C.D.cl.getD 3 0:=congrArg Prod.snd l.aZ;rw[←l.c];refine⟨_,rfl,_,p.raw.cells.1,(yV p.raw.dev I).use ?_⟩;have aW:=l.ad.size;rintro aT ah (⟨y,rfl,E,r⟩|⟨y,rfl,E,r⟩)
  .obtain⟨fJ,K⟩:=yW p E rfl (p.inv.cz 3) (λj=>r4 g.D 3 j) (r.mono λq _ e=>.inl e) λq o=>.inl o
   refine⟨3,rfl,{g with D:=g.D.cz 3},fJ,l.c,l.d,l.len,l.n,l.nq,by show g.D.aN<=_;omega,λm L=>sm _ (l.calm m (ga L I)),ct l.ad r λq o e=>(l.c4 q (.inr (.inr (.inl e)))).resolve_right I,l.c4,λj=>(K j).trans (P j),.inr ⟨rfl,congrArg (λk=>k.1.1) l.aZ,.inr ?_⟩⟩;unfold a6.fS at y⊢;rw[←ap];exact y
  .have aq:∀q,bD (g.D.cz 3).ji q->bD g.D q\/S.heap.size<=q:=by
    rintro q (e|e|e|⟨x,hx,e⟩)
    .exact .inl (.inl e)
    .exact .inl (.inr (.inl e))
    .exact .inl (.inr (.inr (.inl e)))
    .cases hx
   have a4:∀j,(g.D.cz 3).ji.now j=g.D.now j:=λj=>by
    by_cases M:j<g.D.n
    .exact(yU (g.D.cz 3) M).trans (r4 g.D 3 j)
    .have F:g.D.ji.now j=g.D.now j:=CR p.raw.dev j
     exact F
   obtain⟨fJ,K⟩:=yW p E rfl ⟨sk (g.D.cz 3),λ_ h=>h,λj M=>by
    have M:g.D.bK j=true:=M;have e:g.D.er j=[]:=by rw[l.nq.2];exact ar j (by rw[←l.nq.1];exact M)
    exact e.symm⟩ a4 r aq
   refine⟨0,rfl,{g with D:=(g.D.cz 3).ji},fJ,l.c,l.d,l.len,(sk (g.D.cz 3)).trans l.n,l.nq,by show g.D.aN<=_;omega,λm L=>sm g.D (l.calm m (ga L I)),ct l.ad r λq o e=>(l.c4 q (.inr (.inr e))).resolve_right I,λq o=>?_,λj=>(K j).trans (P j),.inl ⟨rfl,rfl,U,?_⟩⟩
   .rcases o with e|e|e
    .exact l.c4 q (.inl e)
    .exact l.c4 q (.inr (.inl e))
    .rcases aq q e with e|e
     .exact l.c4 q (.inr (.inr e))
     .exact .inr I
   .show(g.D.cl.set 3 _).getD 3 0=_
    have bf:=p.raw.dev.f4;rw[eu (by rw[cY];omega),hJ,ap]
end
def g2(aY d c sb:Nat)(l:fE)(u:cW)(gen now first pending keys:Nat)(failed:aj):O aa:=
 [.pointer (some aY),.pointer (some d),.pointer (some c),.pointer (some sb),l.an,l.batch,.int .u64 (l.ef:Nat),
  u.root,u.aG,u.map,.int .u64 (u.clock:Nat),.int .u64 (u.cC:Nat),u.keys,
  .int .u64 (gen:Nat),.int .u64 (now:Nat),.int .u64 (first:Nat),pending,keys,failed]
section
variable {w w':J}{D:a6}
structure CS(D:a6)(l:fE)(u:cW)(gen sb:Nat)(w:J)(v:aa)(w':J)(c aU aY st:Nat):Prop where
 val:v=.tuple #[.pointer (some st),(0:Int)]
 ca:ec (λ_=>False) w' (iN c aU l.an D)
 dg:Var w' aY [.pointer (some c),.pointer (some sb),.int .u64 ((gen+1:Nat):Int),u.root,u.aG] 239
 sv:Var w' st (g2 aY D.d c sb l u gen u.clock 0 0 u.keys false) 158
 x:Ext w w'
 hc:w.heap.size<=c/\c<aY
 hf:w.heap.size<=aU/\aU<aY
 ht:aY<st
def a6.fF(D:a6)(s:Nat->aj)(z:Nat->O cJ):a6:={D with bK:=s,er:=z}
theorem b_.fF(h:b_ w D)(s:Nat->aj)(z:Nat->O cJ):b_ w (D.fF s z):=⟨h.v,h.l,h.m,h.ws,h.wn,h.sl,h.je,h.bS,h.bp,h.f4,h.fr,h.a1,h.a2,h.a3⟩
theorem m4(h:b_ w D){l:fE}(q:8<=l.an/\l.an<=64){u:cW}(hu:qB D.n (u.root:Nat) (u.aG:Nat)){gen:Nat}(hg:gen+1<18446744073709551616)(s:∀j,D.bK j=true->D.dc j=D.er j)(sb:Nat):
 aP ai 78 #[.pointer (some D.d),.agg l.c.toArray,.agg u.c.toArray,.int .u64 (gen:Nat),.pointer (some sb)] w (λv w'=>∃c aU aY st,CS D l u gen sb w v w' c aU aY st):=by
 refine af.Ey _ (l.an:Nat) (l.batch:Nat) (l.ef:Nat) (u.root:Nat) (u.aG:Nat) (u.map:Nat) (u.clock:Nat) (u.cC:Nat) (u.keys:Nat) (gen:Nat) (some sb) w _ ?_;(delta af.m4 r1 Y de ak bw n0;dsimp only);refine bh (vs:=l.c) rfl λw1 t i H=>bh (vs:=u.c) rfl λah x b J=>?_;have r:=t.ext b;have y:=h.ext (i.trans b);refine⟨_,r.cell,(pO y q.1 q.2 s).use ?_⟩;rintro _ a ⟨c,aU,rfl,e,f,K,L⟩;have k:=x.ext f;have z:IntKind.wrap .u64 ((gen:Int)+1)=((gen+1:Nat):Int):=by rw[gN I I];omega
 rw[z];have M:(iN c aU l.an D).D=D:=rfl;refine⟨_,0,rfl,λh=>(by cases h),λ_=>⟨_,k.cell,_,by rw[aw];exact k.cell,(oc e.raw sb ((gen+1:Nat):Int) (u.root:Nat) (u.aG:Nat)).use ?_⟩⟩;rintro _ A (⟨_,rfl,g,B,N⟩|⟨C,_⟩)
 rotate_left
 .exact absurd hu C
 have m:=k.ext g;have o:=(r.ext f).ext g;have O:=(i.trans b).size;have P:=f.size;have E:c<a.heap.size:=e.raw.lt (.inl rfl);have F:aU<a.heap.size:=e.raw.lt (.inr (.inl rfl));refine⟨_,0,rfl,λh=>(by cases h),λ_=>⟨_,o.cell,_,by rw[aw];exact o.cell,_,by rw[aw];exact o.cell,gT m ⟨_,by rw[aw];exact m.cell,_,by rw[aw];exact m.cell,(g2 a.heap.size D.d c sb l u gen u.clock 0 0 u.keys false).toArray,by kernel_rfl,bh (vs:=g2 a.heap.size D.d c sb l u gen u.clock 0 0 u.keys false) rfl λQ G p R=>?_⟩⟩⟩;exact⟨c,aU,a.heap.size,A.heap.size,rfl,(e.ext g).ext p,B.ext p,G,Ext.trans (Ext.trans (i.trans b) f) (Ext.trans g p),⟨I,E⟩,⟨I,F⟩,I⟩
def fK(f:Nat->aj)(k:Nat):O UInt8:=(List.range k).map λi=>UInt8.ofNat (byteOf f i)
theorem CT(f:Nat->aj)(k:Nat):aF (fK f k)=eW f k:=by
 unfold aF fK eW;rw[ic];refine qU λi _=>?_;have:=j_ f i;show Value.int .u8 (((UInt8.ofNat (byteOf f i)).toNat:Nat):Int)=_;rw[UInt8.toNat_ofNat',iT this]
theorem oY(f:Nat->aj)(k:Nat):(fK f k).length=k:=by simp[fK]
def ki:cW:=⟨0,0,2,0,0,0⟩
structure CU(D ax:a6):Prop where
 d:ax.d=D.d
 n:ax.n=D.n
 now:∀j,ax.now j=if j=1 then eA 1 (jh ki D.n 1) else if j=2 then eA 2 ⟨4,1,fK (λi=>decide (i<3)) ((D.n+7)/8)⟩ else if j=0 then e4 else D.now j
 waits:ax.waits=[]
 aN:ax.aN=D.aN+4
 calm:∀k,ax.calm k
 cl:ax.cl.getD 3 0= -1
 bK:ax.bK=λi=>decide (i<3)
 er:ax.er=λ_=> []
structure H2(D:a6)(l:fE)(w:J)(v:aa)(w':J)(ax:a6)(sb:Nat)(s1 s2:U)(c aU aY st:Nat)(j8:J):Prop where
 CV:CS ax l ki 1 sb j8 v w' c aU aY st
 sp:eR w' sb D.n (λi=>decide (i<3)) (λi=>decide (i<3)) s1 s2
 p_:CU D ax
 ad:ab (bD D) w j8
 sn:∀q,fo sb s1 s2 q->w.heap.size<=q/\q<j8.heap.size
 dq:∀q,bD ax q->bD D q\/(w.heap.size<=q/\q<j8.heap.size)
 H3:∀q,fo sb s1 s2 q->¬bD ax q
theorem n4(h:b_ w D){l:fE}(ap:kP (l.an:Nat) (l.batch:Nat) (l.ef:Nat))(bl:∀k,D.calm k)(qg:D.cl.getD 3 0= -1)(b3:D.aN<=999999000):
 aP ai 19 #[.pointer (some ⟨D.d,0,none⟩),.agg l.c.toArray] w (λv w'=>∃ax sb s1 s2 c aU aY st j8,H2 D l w v w' ax sb s1 s2 c aU aY st j8):=by
 have b4:=h.bS;have b5:=h.bp;refine af.Eu _ (l.an:Nat) (l.batch:Nat) (l.ef:Nat) w _ ?_;(delta af.n4 r1 Y bw aK ak aA de ba b8 kz jt av g7;dsimp only);refine bh (vs:=l.c) rfl λw1 Q J b6=>⟨_,Q.cell,_,by rw[aw];exact Q.cell,_,by rw[aw];exact Q.cell,(oa w1 _ _ _ _).use ?_⟩;rintro _ bm ⟨rfl,C⟩;have bn:=h.ext (J.trans C);refine⟨_,rfl,λg=>?_,λ_=>(ql bn).use ?_⟩
 .rw[dw ap]at g;cases g
 rintro _ _ ⟨rfl,rfl⟩;refine⟨_,rfl,(pJ bm (D.n:Nat) 3).use ?_⟩;rintro _ b7 (⟨bq,_⟩|⟨_,_,_,_,sb,s1,s2,rfl,hs,aa,ac⟩)
 .exact absurd ⟨I,I,I,I⟩ bq
 rw[c8]at hs;have ae:Int.toNat 3=3:=rfl;rw[ae]at hs;refine⟨_,0,rfl,λh=>(by cases h),λ_=>(BY hs).use ?_⟩;rintro _ br ⟨aO,rfl,aQ,K,b9⟩;rw[←CT]at aQ;obtain⟨mp,R⟩:∃mp:hX,mp=⟨4,1,fK (λi=>decide (i<3)) ((D.n+7)/8)⟩:=⟨_,rfl⟩;have aR:nh mp:=by rw[R];exact⟨(by decide:1<=4),(by decide:4<=4),(by decide:1<18446744073709551616),by show(fK _ _).length<=232;rw[oY];omega⟩
 have aS:=vK (s:=aO) (p:=mp) (no:=2) (w:=br) (by rw[R];exact aQ.src) (by decide) aR;rw[R]at aS;refine⟨aO,rfl,aS.use ?_⟩;rw[←R];rintro _ bs ⟨E,rfl,aT,N,bt⟩;have aV:=Ext.trans (Ext.trans (J.trans C) aa) (Ext.trans K N);have ca:=aV.size;refine⟨E,0,rfl,λh=>(by cases h),λ_=>⟨⟨I,I,I,I⟩,?_⟩⟩;rw[xS];have bv:Int.toNat 256=256:=rfl;rw[bv];have aq:e4.length=256:=mQ;refine bh (vs:=aF e4) rfl λz S F cb=>?_;obtain⟨t,bx⟩:∃t,t=bs.heap.size:=⟨_,rfl⟩;rw[←bx]at S⊢;have ag:=Ext.trans aV F;have aW:Src 1 z ⟨some ⟨t,0,none⟩,256,256⟩ (aF e4):=S.AV (o:=0) (n:=256) (c:=256) (l:=e4) (by rw[dV,aq];exact bo _) (by rw[lu,dI (by rw[dV,aq];exact bo _)]);refine⟨#[.slice (some ⟨t,0,none⟩) 256 256,.slice (some ⟨t,0,none⟩) 256 256,.slice E.a E.len E.cap],by kernel_rfl,?_⟩;have bz:(eA 2 mp).length=256:=rX _ aR;obtain⟨vals,au⟩:∃vals:Nat->cJ,vals=λj=>if j=2 then eA 2 mp else e4:=⟨_,rfl⟩
 have bA:∀j,(vals j).length=256:=λj=>by
  rw[au];show(if j=2 then _ else _:cJ).length=256;split
  .exact bz
  .exact aq
 have bB:∀k,k<3->∃G:U,cellAt #[.slice (some ⟨t,0,none⟩) 256 256,.slice (some ⟨t,0,none⟩) 256 256,.slice E.a E.len E.cap] (Int.toNat ((k:Nat):Int)*1)=some (.slice G.a G.len G.cap)/\Src 1 z G (aF (vals k))/\∀q,az G q->w.heap.size<=q/\q<z.heap.size:=by
  intro k aX;have bC:=S.lt;have cc:=F.size;rw[au];have hi:∀q,az (⟨some ⟨t,0,none⟩,256,256⟩:U) q->w.heap.size<=q/\q<z.heap.size:=λq b=>by
   obtain⟨A,ar,rfl⟩:=b
   cases ar;show w.heap.size<=t/\t<_;exact⟨I,bC⟩
  have cd:=(Ext.trans (Ext.trans (J.trans C) aa) K).size
  match k,aX with
  |0,_=>exact⟨⟨some ⟨t,0,none⟩,256,256⟩,rfl,aW,hi⟩
  |1,_=>exact⟨⟨some ⟨t,0,none⟩,256,256⟩,rfl,aW,hi⟩
  |2,_=>exact⟨E,rfl,aT.src.ext F,λq b=>by have:=bt q b;have:=aT.lt q b;omega⟩
 have bE:=h.ext ag;refine⟨λn w'=>∃ (k:Nat) (r:a6),n=(k:Int)/\k<=3/\b_ w' r/\r.d=D.d/\r.n=D.n/\(∀j,r.now j=if j<k then vals j else D.now j)/\r.aN=D.aN+k/\(∀m,r.calm m)/\r.cl.getD 3 0= -1/\ab (bD D) z w'/\(∀q,bD r q->bD D q\/z.heap.size<=q),
  λn _=>((3:Int)-n).toNat,⟨0,D,rfl,cE _,bE,rfl,rfl,λj=>rfl,rfl,bl,qg,.refl _ _,λq b=>.inl b⟩,?_⟩
 rintro _ ce ⟨k,r,rfl,aX,O,ah,a0,a1,bF,ay,aB,aj,L⟩;have cf:=aj.size;refine⟨λaH=>?_,λbG=>?_⟩
 .have aC:k<3:=by
   have:((k:Nat):Int)<3:=b2 aH;omega
  obtain⟨G,bH,bI,a2⟩:=bB k aC;have c6:∀q,az G q->¬bD D q:=λq b hf=>by have:=(a2 q b).1;have:=h.lt hf;omega
  have a3:=vT O (i:=k) I I (bI.ad aj c6) (bA k) λq b hf=>by
   rcases L q hf with h1|h1
   .exact c6 q b h1
   .have:=(a2 q b).2;omega
  rw[ah]at a3;refine⟨⟨I,I⟩,G,bH,a3.use ?_⟩;rintro _ cg (⟨g,_⟩|⟨g,rfl,s,bJ,bK,bL⟩)
  .have:=(jL (k:=2) (m:=0) (.inr rfl) O.f4 (ay 1)).2
   rw[g]at this;cases this
  refine⟨0,rfl,λh=>(by cases h),λ_=>?_⟩;have bM:IntKind.wrap .i64 (((k:Nat):Int)+1)=((k+1:Nat):Int):=by rw[bu I I];omega
  rw[bM];refine⟨⟨k+1,_,rfl,I,bJ,ah,a0,λj=>?_,by show r.aN+1=_;omega,λm=>(jL (.inr rfl) O.f4 (ay _)).1,(congrArg Prod.snd (qm r (.inr rfl))).trans aB,ct aj bK λq b hf=>(L q hf).resolve_right I,λq b=>?_⟩,by show((3:Int)-((k+1:Nat):Int)).toNat<((3:Int)-((k:Nat):Int)).toNat;omega⟩
  .rw[oN,a1]
   by_cases e:j=k
   .rw[if_pos e,if_pos I,e]
   .rw[if_neg e]
    by_cases T:j<k
    .rw[if_pos T,if_pos I]
    .rw[if_neg T,if_neg I]
  .rcases wm bL q b with h1|h1
   .exact L q h1
   .exact .inr I
 have aC:k=3:=by
  have:¬((k:Nat):Int)<3:=cr bG;omega
 subst aC;have hf:=yV O I;rw[ah]at hf;refine hf.use ?_;rintro _ a4 (⟨g,_⟩|⟨_,rfl,aD,bN⟩)
 .unfold a6.fS at g
  rw[aB]at g;cases g
 obtain⟨cq,H⟩:∃cq,cq=(r.cz 3).ji:=⟨_,rfl⟩;rw[←H]at aD;have a5:cq.d=D.d:=by rw[H];exact ah
 have a7:cq.n=D.n:=by rw[H];exact(sk _).trans a0
 have bO:∀j,cq.now j=if j<3 then vals j else D.now j:=λj=>by
  rw[←a1,H];have aE:r.ji.now j=r.now j:=CR O j;exact aE
 have ch:cq.aN=D.aN+3:=by rw[H];exact bF
 have a8:∀m,cq.calm m:=λm=>by rw[H];exact sm _ (ay m)
 have a9:cq.cl.getD 3 0= -1:=by
  rw[H];show(r.cl.set 3 _).getD 3 0=_;have bP:=O.f4;rw[eu (by rw[cY];omega),hJ,aB];rfl
 have al:∀q,bD cq q->bD D q\/z.heap.size<=q:=λq b=>by
  rw[H]at b;rcases b with e|e|e|⟨x,hx,e⟩
  .exact L q (.inl e)
  .exact L q (.inr (.inl e))
  .exact L q (.inr (.inr (.inl e)))
  .cases hx
 have am:ab (bD D) z a4:=ct aj bN λq b hf=>(L q hf).resolve_right I;have V:∀q,w.heap.size<=q->¬bD D q:=λq b hf=>by have:=h.lt hf;omega
 have bQ:=((Q.ext (C.trans (Ext.trans aa (Ext.trans K (Ext.trans N F))))).ad am (V _ (bo _)));have bR:=(hs.ext (Ext.trans K (Ext.trans N F))).ad am λq b=>V q (by have:=ac q b;have:=(J.trans C).size;omega);refine⟨0,rfl,λh=>(by cases h),λ_=>bh (vs:=gD.c) rfl λci bT bU cj=>jR bT rfl ki λbV a_ bW ck=>gT a_ ?_⟩;have W:Ext a4 bV:=Ext.cu bU bW (bo _);have X:=aD.ext W;have bb:=m3 X I (u:=ki) ⟨(by decide:0<4294967296),(by decide:0<256),(by decide:2<4294967296),(by decide:0<18446744073709551616),(by decide:0<18446744073709551616),(by decide:0<4294967296)⟩ (gen:=1) (by decide);rw[a5]at bb;refine bb.use ?_;have cm:=W.size;have cn:=am.size;rintro _ bc ⟨ao,⟨g,_⟩|⟨_,s,bX,f,B,⟨g,_⟩|⟨_,rfl,Z⟩⟩⟩
 .have:=(jL (k:=2) (m:=0) (.inr rfl) X.f4 (a8 1)).2
  rw[g]at this;cases this
 .have aG:f.cl.getD 3 0= -1:=by rw[B];exact(congrArg Prod.snd (qm cq (.inr rfl))).trans a9
  unfold a6.fS at g;rw[aG]at g;cases g
 have aG:f.cl.getD 3 0= -1:=by rw[B];exact(congrArg Prod.snd (qm cq (.inr rfl))).trans a9
 obtain⟨M,y⟩:∃M,M=((f.cz 3).ji).fF (λi=>decide (i<3)) (λ_=> []):=⟨_,rfl⟩;have Z:=Z.fF (λi=>decide (i<3)) (λ_=> []);rw[←y]at Z;have bY:∀x∈f.waits,x.i<f.n:=λx hx=>by
  rw[B]at hx⊢;rcases cU.1 hx with rfl|hx
  .show 1%2<cq.n;omega
  .exact(X.wn x (hE.1 hx).1).2.1
 have bZ:∀j,M.now j=if j=1 then eA 1 (jh ki D.n 1) else if j<3 then vals j else D.now j:=λj=>by
  have aE:M.now j=f.now j:=by
   rw[y];by_cases bd:j<f.n
   .exact(yU (f.cz 3) bd).trans (r4 f 3 j)
   .have P:f.now j=[]:=by
     unfold a6.now
     cases hf:f.waits.find? λx=>x.i==j with
     |some x=>
      have hx:=iA hf;have he:x.i=j:=by simpa using jX hf
      have:=bY x hx;omega
     |none=>
      have:¬j<f.aZ.length:=bd;show f.aZ.getD j []=[];rw[eX,iU I];rfl
    rw[P];show((List.range (f.cz 3).n).map (f.cz 3).now).getD j []=[];rw[eX,iU (by simp;show f.n<=j;omega)];rfl
  rw[aE,B,oN,bO,a7]
 have aI:CU D M:=by
  refine⟨by rw[y,B];exact a5,by rw[y];exact(sk (f.cz 3)).trans (by rw[B];exact a7),λj=>?_,by rw[y];rfl,by rw[y,B];show cq.aN+1=_;omega,λm=>by rw[y,B];exact sm (cq.put (1%2) s (eA (1%2) (jh ki cq.n 1))) (jL (.inr rfl) X.f4 (a8 _)).1,?_,by rw[y];rfl,by rw[y];rfl⟩
  .rw[bZ,au,←R]
   by_cases P:j=1
   .rw[if_pos P,if_pos P]
   .rw[if_neg P,if_neg P]
    by_cases T:j=2
    .subst T;rfl
    .by_cases ae:j=0
     .subst ae;rfl
     .rw[if_neg I,if_neg T,if_neg ae]
  .rw[y]
   show(f.cl.set 3 _).getD 3 0=_;have bP:f.cl.length=4:=by rw[B];show(cq.cl.set 2 _).length=4;rw[cY];exact X.f4
   rw[eu (by rw[cY];omega),hJ,aG];rfl
 have be:∀q,bD M q->bD D q\/z.heap.size<=q:=λq b=>by
  rw[y]at b;have h1:bD f q:=by
   rcases b with e|e|e|⟨x,hx,e⟩
   .exact .inl e
   .exact .inr (.inl e)
   .exact .inr (.inr (.inl e))
   .cases hx
  rw[B]at h1;rcases wm bX q h1 with bf|bf
  .exact al q bf
  .exact .inr I
 have bg:ab (bD D) z bc:=ct (ct am W λq _ h=>h.elim) ao λq b hf=>(al q hf).resolve_right I;have aJ:=(bQ.ext W).ad ao λhf=>by
  rcases al _ hf with h1|h1
  .exact V _ (bo _) h1
  .have:=ag.size;have:=S.lt;have:=Q.lt;have:=C.size;have:=aa.size;have:=K.size;have:=N.size;have:=F.size;omega
 have b0:=a_.ad ao λhf=>by
  have:=aD.lt hf;omega
 have bi:=(bR.ext W).ad ao λq b hf=>by
  have bj:=ac q b;have aL:=(hs.ext (Ext.trans K (Ext.trans N (ab.refl _ _)))).lt q b;rcases al _ hf with h1|h1
  .exact V q (by have:=(J.trans C).size;omega) h1
  .have:=F.size;omega
 have co:=bg.size;have S:=ag.size;have bk:=m4 Z (l:=l) (u:=ki) (gen:=1) ⟨by have:=ap.1;omega,by have:=ap.2.1;omega⟩ ⟨by decide,by decide,by decide,by rw[aI.n];show(0:Int)<_;omega,by decide⟩ (by decide) (λj _=>by rw[y];rfl) sb;rw[aI.d]at bk;refine⟨0,rfl,λh=>(by cases h),λ_=>⟨_,aJ.cell,_,by rw[aw];exact aJ.cell,_,by rw[aw];exact aJ.cell,gT b0 (bk.use ?_)⟩⟩;rintro _ cp ⟨c,aU,aY,st,aM⟩;have b1:=aM.val;subst b1;refine⟨_,0,rfl,M,sb,s1,s2,c,aU,aY,st,bc,aM,bi.ext aM.x,aI,ct (ag.mono λ_ _ h=>h.elim) bg λq _ h=>h,λq b=>?_,λq b=>?_,λq b hf=>?_⟩
 .have bj:=ac q b
  have aL:=bi.lt q b;have:=(J.trans C).size;exact⟨I,aL⟩
 .rcases be q b with h1|h1
  .exact .inl h1
  .exact .inr ⟨I,Z.lt b⟩
 .have bj:=ac q b
  have aL:=(hs.ext (Ext.trans K (Ext.trans N (ab.refl _ _)))).lt q b;rcases be _ hf with h1|h1
  .exact V q (by have:=(J.trans C).size;omega) h1
  .have:=F.size;omega
end
theorem gj.rising{T:aM}{pages:O Nat}{L:O aJ}(h:gj T pages L):gJ L:=by
 rcases h with ⟨_,_,_,a⟩|b
 .rw[a];exact List.Pairwise.nil
 .exact b.e_.1
section
variable {w0 w w':J}{wo aT:Nat}{T ao:aM}{r h k:Nat}{pages:O Nat}{L fG:O aJ}{ms:U}
theorem bM.jS{kK:Nat}(ht:bM w T)(a:T.E kK)(hc:ab (λq=>q=kK) w w'):bM w' T:=
 ht.grow (E:=T.E) (G:=T.G) hc (λq e _=>.inl (by rw[e];exact a)) (λq a=>.inl a) (λq a=>.inr (.inl a)) λq a=>(ht.c7 q a).2.2
end
theorem H4{L:O aJ}{key:Key}(h:∀p∈L,cB p.1)(a:¬cB key):ei L key=none:=by
 unfold ei;rw[ig.2 λp b=>by
  have h1:=h p b;simp only[cS];intro e;rw[e]at h1;exact a h1]
 rfl
def aM.wq(T:aM)(f g:Nat->aj)(s1 s2:U):aM:={T with f:=f,g:=g,s1:=s1,s2:=s2}
def aM.b5(T:aM)(aY gen root aG:Nat)(E:Nat->Prop):aM:={T with aY:=aY,gen:=gen,root:=root,aG:=aG,E:=E}
section
variable {w0 w w':J}{wo aT:Nat}{T ao:aM}{r h k:Nat}{pages:O Nat}{L fG:O aJ}{ms:U}
theorem bM.space{f g:Nat->aj}{s1 s2:U}(ht:bM w T)(hs:eR w' T.sb T.n f g s1 s2)(hc:ab (fo T.sb T.s1 T.s2) w w')(hf:∀k,fo T.sb s1 s2 k->fo T.sb T.s1 T.s2 k\/w.heap.size<=k)(d:∀j,T.C.D.bK j=true->g j=true\/T.C.D.ro)(e:g 0=true/\g 1=true):
 bM w' (T.wq f g s1 s2)/\∀q,(T.wq f g s1 s2).M q->T.M q\/w.heap.size<=q:=by
 have c:∀q,T.X q->¬fo T.sb T.s1 T.s2 q->¬fo T.sb s1 s2 q:=λq hx a i=>by
  rcases hf q i with b|b
  .exact a b
  .have:=ht.lt (q:=q) (.inr hx);omega
 refine⟨⟨ht.t.ad hc ht.jN,hs,ht.ca.grow hc (λq a _=>.inr (.inl a)) λq a=>?_,c _ (.inl rfl) ht.jN,λq a=>⟨(ht.c7 q a).1,c q (.inr (.inr (.inl a))) (ht.c7 q a).2.1,(ht.c7 q a).2.2⟩,λq a=>⟨(ht.h5 q a).1,c q (.inr (.inr (.inr a))) (ht.h5 q a).2⟩,ht.n,ht.num,ht.ep,d,e⟩,λq a=>?_⟩
 .rcases a with a|a|a|a
  .exact .inl (.inl a)
  .rcases hf q a with b|b
   .exact .inl (.inr (.inl b))
   .exact .inr ⟨b,hs.lt q a⟩
  .exact .inl (.inr (.inr (.inl a)))
  .exact .inl (.inr (.inr (.inr a)))
 .rcases a with a|a|a|a|a
  .exact .inl (.inl a)
  .exact .inl (.inr (.inl a))
  .exact(hf q a).imp (λh=>.inr (.inr (.inl h))) id
  .exact .inl (.inr (.inr (.inr (.inl a))))
  .exact .inl (.inr (.inr (.inr (.inr a))))
theorem bM.tree{aY gen root aG:Nat}{E:Nat->Prop}(ht:bM w T)(hx:Ext w w')(i:Var w' aY (lf (T.b5 aY gen root aG E)) 239)(d:T.E aY\/w.heap.size<=aY)(f:∀q,E q->q≠aY/\(T.E q\/q=T.aY\/(w.heap.size<=q/\q<w'.heap.size)))
 (j:root<T.n/\aG<=12/\gen<18446744073709551616) (k:∀no bm,T.P no=some bm->no<T.n/\gK gen bm.leaf no (T.C.view no) bm):bM w' (T.b5 aY gen root aG E):=by
 have m:=i.lt;have h1:¬fo T.sb T.s1 T.s2 aY:=λh=>by
  rcases d with c|c
  .exact(ht.c7 _ c).2.1 h
  .have:=ht.lt (q:=aY) (.inr (.inr (.inl h)));omega
 have c:∀q,T.G q->q≠aY:=λq a e=>by
  rcases d with c|c
  .rw[e]at a;exact(ht.c7 _ c).2.2 a
  .have:=ht.lt (q:=q) (.inr (.inr (.inr (.inr a))));omega
 have l:∀q,E q->¬fo T.sb T.s1 T.s2 q/\¬T.G q:=λq a=>by
  rcases(f q a).2 with b|b|b
  .exact(ht.c7 q b).2
  .rw[b]
   exact⟨ht.jN,λhg=>(ht.h5 _ hg).1 rfl⟩
  .exact⟨λg=>by have:=ht.lt (q:=q) (.inr (.inr (.inl g)));omega,λg=>by have:=ht.lt (q:=q) (.inr (.inr (.inr (.inr g))));omega⟩
 refine⟨i,ht.s.ext hx,ht.ca.grow (W:=λ_=>False) hx (λ_ h=>h.elim) λq a=>?_,h1,λq a=>⟨(f q a).1,l q a⟩,λq a=>⟨c q a,(ht.h5 q a).2⟩,ht.n,j,k,ht.bK,ht.low⟩;rcases a with a|a|a|a
 .have a:q=aY:=a
  rcases d with b|b
  .exact .inl (.inr (.inr (.inl (by rw[a];exact b))))
  .exact .inr ⟨I,I⟩
 .exact .inl (.inr (.inl a))
 .rcases(f q a).2 with b|b|b
  .exact .inl (.inr (.inr (.inl b)))
  .exact .inl (.inl b)
  .exact .inr b
 .exact .inl (.inr (.inr (.inr a)))
theorem gj.agree{p:O Nat}(a:gj T p L)(b:ao.root=T.root)(c:ao.aG=T.aG)(d:∀x∈p,T.P x=ao.P x):gj ao p L:=by
 unfold gj at a⊢;rw[b,c];exact a.imp id λe=>(e.agree d).1
end
theorem d_.node{P:Nat->aq aB}:∀ (h:Nat) {lo hi:aq Key}{no:Nat}{p:O Nat}{L:O aJ},d_ P h lo hi no p L->∀x∈p,∃bm,P x=some bm
 |0,_,_,_,_,_,a=>a.elim
 |h+1,_,_,no,p,_,a=>by
  obtain⟨n,d,h1,_,_,rfl,_,hc⟩:=a.CB
  intro x hx
  rcases cU.1 hx with rfl|hx
  .exact⟨n,h1⟩
  .rcases hc with ⟨_,_,rfl,_⟩|⟨_,ps,e,f,g,rfl,_,he⟩
   .cases hx
   .obtain⟨l,b,c⟩:=List.mem_flatten.1 hx
    obtain⟨i,hi,rfl⟩:=eY b
    exact d_.node h (he i I hi I) x c
theorem yX(f:Nat->aj):∀ (n:Nat) (x:Int),x∈jM f n↔∃k:Nat,x=(k:Int)/\k<n/\f k=true
 |0,x=>by simp[jM]
 |n+1,x=>by
  rw[jM,cR,yX f n x]
  constructor
  .rintro(⟨k,h1,c,a⟩|h)
   .exact⟨k,h1,I,a⟩
   .split at h
    .exact⟨n,fi.1 h,I,by assumption⟩
    .cases h
  .rintro⟨k,h1,c,a⟩
   rcases dH k n with b|b
   .exact .inl ⟨k,h1,b,a⟩
   .have:k=n:=by omega
    subst this
    right
    rw[if_pos a,h1];simp
theorem yY(f:Nat->aj):∀n,(jM f n).Pairwise λa b=>a<b
 |0=>List.Pairwise.nil
 |n+1=>by
  rw[jM]
  refine mL.2 ⟨yY f n,by split<;>simp,λa d b c=>?_⟩
  obtain⟨k,h1,e,_⟩:=(yX f n a).1 d
  split at c
  .have:=fi.1 c;omega
  .cases c
theorem H5{f:Nat->aj}{n:Nat}{es:O Nat}(h1:es.Pairwise λa b=>a<b)(c:∀x,x∈es↔x<n/\f x=true):dW es=mz f n:=by
 have g:(es.map λd=>((d:Nat):Int)).Perm (jM f n):=by
  refine(List.perm_ext_iff_of_nodup ?_ ?_).2 λx=>?_
  .exact List.Pairwise.map _ (λa b i=>by show((a:Nat):Int)≠((b:Nat):Int);omega) h1
  .exact(yY f n).imp λh=>by omega
  .rw[yX,dv]
   constructor
   .rintro⟨k,e,rfl⟩
    exact⟨k,rfl,(c k).1 e⟩
   .rintro⟨k,rfl,e⟩
    exact⟨k,(c k).2 e,rfl⟩
 have he:(es.map λd=>((d:Nat):Int))=jM f n:=by
  refine g.eq_of_pairwise (le:=λx y=>x<=y) (λx y _ _ h1 c=>I) ?_ ((yY f n).imp λh=>I);exact List.Pairwise.map _ (λa b i=>by show((a:Nat):Int)<=((b:Nat):Int);omega) h1
 rw[yK,he];rfl
section
variable {w0 w w':J}{wo aT:Nat}{T ao:aM}{r h k:Nat}{pages:O Nat}{L fG:O aJ}{ms:U}
theorem CW{s:U}(h:mY ai w 5 s):∃l:O UInt8,Src 1 w s (aF l):=by
 obtain⟨l,h1,_,_⟩:=h.src (c:=λc:UInt8=> [Value.int .u8 (c.toNat:Int)]) (sz:=1) (by kernel_rfl) (λ_=>True) λfuel us b=>by
  obtain⟨n,rfl,d,f⟩:=mZ b (k:=.u8) (by kernel_rfl);have i:=D6 d f;refine⟨UInt8.ofNat n.toNat,?_,trivial⟩;simp only[UInt8.toNat_ofNat']
  congr 2
  omega
 have e:∀l:O UInt8,(l.map λc:UInt8=> [Value.int .u8 (c.toNat:Int)]).flatten=aF l:=λl=>by
  unfold aF
  induction l with
  |nil=>rfl
  |cons a l g=>rw[jm,sG,g];rfl
 rw[e]at h1;exact⟨l,h1⟩
end
structure g3(V:Nat->cJ)(n gen:Nat)(u:cW)(g:Nat->aj)(P:Nat->aq aB)(p:O Nat)(L:O aJ):Prop where
 fr:∃j,j<n/\g j=false
 wu:gS ((gen%2:Nat):Int) (V (gen%2))=.ok (u,n,gen)
 yZ:V (1-gen%2)=e4\/∃a g',gS ((1-gen%2:Nat):Int) (V (1-gen%2))=.ok (a,n,g')/\g'<gen
 mp:∃fp,fp<=gen/\da (u.map:Int) (V u.map)=.ok ⟨4,fp,fK g ((n+7)/8)⟩
 g:∀no,g no=true↔no∈p\/no<2\/no=u.map
 bm:p.Nodup
 two:∀x∈p,2<=x/\x≠u.map/\x<n
 ok:(u.aG=0/\u.root=0/\p=[]/\L=[])\/d_ P u.aG none none u.root p L
 ep:∀x∈p,∀bm,P x=some bm->gK gen bm.leaf x (V x) bm
 keys:u.keys=L.length
 gb:∀q∈L,cB q.1/\q.2.length<=24
 CX:nA u
 so:kh u n
 CY:u.cC+1<=gen
theorem g3.agree{V a:Nat->cJ}{n gen:Nat}{u:cW}{g:Nat->aj}{P P':Nat->aq aB}{p:O Nat}{L:O aJ}(h:g3 V n gen u g P p L)(dR:∀j,g j=true->a j=V j)(b:∀x∈p,P x=P' x):g3 a n gen u g P' p L:=by
 have h0:a (gen%2)=V (gen%2):=dR _ ((h.g _).2 (.inr (.inl I)));have h1:a (1-gen%2)=V (1-gen%2):=dR _ ((h.g _).2 (.inr (.inl I)));refine⟨h.fr,by rw[h0];exact h.wu,by rw[h1];exact h.yZ,by rw[dR _ ((h.g _).2 (.inr (.inr rfl)))];exact h.mp,h.g,h.bm,h.two,h.ok.imp id λc=>(c.agree b).1,λx hx bm d=>?_,h.keys,h.gb,h.CX,h.so,h.CY⟩;rw[dR _ ((h.g _).2 (.inl hx))];exact h.ep x hx bm (by rw[b x hx];exact d)
structure cn where
 st:Nat
 T:aM
 l:fE
 u:cW
 gen:Nat
 now:Nat
 first:Nat
 pending:Nat
 keys:Nat
 failed:aj
def cn.V(S:cn)(j:Nat):cJ:=S.T.C.D.aZ.getD j []
def cn.cells(S:cn):O aa:=g2 S.T.aY S.T.C.D.d S.T.C.c S.T.sb S.l S.u S.gen S.now S.first S.pending S.keys S.failed
structure gf(w:J)(S:cn)(aL:O Nat)(aX:O aJ):Prop where
 v:Var w S.st S.cells 158
 t:bM w S.T
 es:S.T.E S.st
 fL:g3 S.V S.T.n S.gen S.u S.T.g S.T.P aL aX
 gen:S.T.gen=S.gen+1
 num:S.now<18446744073709551616/\S.first<=S.now/\S.u.cC+1<=S.gen/\S.gen+2<18446744073709551616/\S.l.batch<=1000/\S.l.ef<=1048576/\1<=S.l.batch
 bK:∀j,S.T.g j=true->S.T.C.D.bK j=true
structure di(w:J)(S:cn)(pages:O Nat)(L:O aJ)(aL:O Nat)(aX:O aJ):Prop extends gf w S aL aX where
 ok:gj S.T pages L
 bm:pages.Nodup
 f:∀no,S.T.f no=true↔no∈pages\/no<2\/no=S.u.map
 two:∀x∈pages,2<=x/\x≠S.u.map
 gb:∀p∈L,cB p.1/\p.2.length<=24
 keys:S.keys=L.length
 du:S.pending<=1000
 live:S.failed=false->¬S.T.C.D.ro/\S.T.C.D.er=(λ_=> [])/\1<=cg S.T
 dead:S.failed=true->S.T.C.D.ro/\L=aX/\pages=aL/\S.pending=0
def a6.quiet(D:a6):Prop:=(∀k,D.calm k)/\D.cl.getD 3 0= -1
def cn.W(S:cn)(q:Nat):Prop:=S.T.M q/\(S.T.E q->q=S.st)
structure dj(k:Nat)(S aC:cn)(w w':J):Prop where
 st:aC.st=S.st
 d:aC.T.C.D.d=S.T.C.D.d
 n:aC.T.n=S.T.n
 l:aC.l=S.l
 aN:aC.T.C.D.aN<=S.T.C.D.aN+k
 q:S.T.C.D.quiet->aC.T.C.D.quiet
 ad:ab S.W w w'
 c4:∀q,aC.T.M q->S.T.M q\/w.heap.size<=q
 E:aC.T.E=S.T.E
 G:aC.T.G=S.T.G
section
variable {w w':J}{C:b1}{X:Nat->Prop}{T:aM}{S aC:cn}{pages aL:O Nat}{L aX:O aJ}
theorem gf.lS(h:gf w S aL aX){q:Nat}(a:S.T.N q):S.W q:=⟨aM.gh a,λhe=>absurd a (h.t.jd he)⟩
theorem gf.wv(h:gf w S aL aX):S.W S.st:=⟨.inr (.inr (.inr (.inl h.es))),λ_=>rfl⟩
theorem dj.back{k q:Nat}(h:dj k S aC w w')(b:q<w.heap.size)(a:aC.W q):S.W q:=⟨(h.c4 q a.1).resolve_right I,λhe=>(a.2 (by rw[h.E];exact he)).trans h.st⟩
theorem ec.fF(h:ec X w C){s:Nat->aj}{z:Nat->O cJ}(hc:∀f∈C.an,∀j:Nat,f.full=true->f.no=j->s j=true->f.fT=false)(b:∀j,s j=true->C.D.dc j=z j):
 ec X w {C with D:=C.D.fF s z}:=
 ⟨⟨h.raw.v,h.raw.f,h.raw.dev.fF s z,h.raw.bx,h.raw.bG,h.raw.hd,h.raw.a1⟩,h.inv.pins,λf hf a=>by
  obtain⟨no,au,c,d,e,g,k,i⟩:=h.inv.ok f hf a
  exact⟨no,au,c,d,e,g,λhs=>hc f hf no a au hs,i⟩,h.inv.un,h.inv.fh,b⟩
theorem bM.fF(h:bM w T){s:Nat->aj}{z:Nat->O cJ}(hc:∀f∈T.C.an,∀j:Nat,f.full=true->f.no=j->s j=true->f.fT=false)(a:∀j,s j=true->T.C.D.dc j=z j)(hs:∀j,s j=true->T.g j=true\/∀i,s i=true):
 bM w (T.bk {T.C with D:=T.C.D.fF s z} T.P):=⟨h.t,h.s,h.ca.fF hc a,h.jN,h.c7,h.h5,h.n,h.num,h.ep,hs,h.low⟩
theorem H6(h:ec X w C){j:Nat}(hs:C.D.bK j=true):C.view j=C.D.now j:=by
 unfold b1.view
 cases hf:C.an.find? λf=>f.full&&f.no==(j:Int) with
 |none=>rfl
 |some f=>
  have h1:=jX hf;have a:=iA hf;simp only[ed,kU]at h1;obtain⟨no,au,d,e,g,b,c,i⟩:=h.inv.ok f a h1.1;have:no=j:=by omega
  subst this;exact b (c hs)
theorem H7(h:ec X w C){j:Nat}(hs:C.D.bK j=true)(a:C.D.er j=[]):C.view j=C.D.aZ.getD j []:=by
 rw[H6 h hs,vS _ (λx hx=>(h.raw.dev.wn x hx).1),if_pos (by rw[h.inv.kH j hs,a])]
theorem di.view(h:di w S pages L aL aX)(a:S.failed=false){j:Nat}(b:S.T.g j=true):S.T.C.view j=S.V j:=
 H7 h.t.ca (h.bK j b) (by rw[(h.live a).2.1])
theorem gf.lT(h:gf w S aL aX):qB S.T.C.D.n (S.u.root:Nat) (S.u.aG:Nat):=by
 obtain⟨h1,a,b,_⟩:=h.fL.so;rw[h.t.n];exact⟨I,I,I,I,I⟩
theorem gf.set(h:gf w S aL aX){i:Nat}{x:aa}(hi:i<19):(∃u:aa,w.cell? ⟨S.st,i,none⟩=some u)/\w.frozen? ⟨S.st,i,none⟩=false/\
 Var (w.setCell ⟨S.st,i,none⟩ x) S.st (S.cells.set i x) 158/\bM (w.setCell ⟨S.st,i,none⟩ x) S.T/\ab (λq=>q=S.st) w (w.setCell ⟨S.st,i,none⟩ x):=by
 obtain⟨au,a⟩:=dF h.v (i:=i) (by exact hi);exact⟨au,a,dM h.v (i:=i) x,h.t.jS h.es (dp w S.st i x),dp w S.st i x⟩
end
structure H8(S aC:cn):Prop where
 u:aC.u=S.u
 gen:aC.gen=S.gen
 now:aC.now=S.now
 failed:aC.failed=true
 V:aC.T.C.D.aZ=S.T.C.D.aZ
 sa:∀j,aC.T.C.D.er j=S.T.C.D.dc j
 aN:aC.T.C.D.aN=S.T.C.D.aN
section
variable {w w':J}{C:b1}{X:Nat->Prop}{T:aM}{S aC:cn}{pages aL:O Nat}{L aX:O aJ}
theorem CZ(h:gf w S aL aX)(e:Int)(cI:S.T.C.D.aN<=900000000):
 aP ai 81 #[.pointer (some S.st),e] w (λv w'=>v=e/\∃aC,di w' aC aL aX aL aX/\dj 0 S aC w w'/\H8 S aC):=by
 refine okF (af.uk (some S.st) e) ay.uk func81 ?_;(delta af.uk st aR ba ak aI r1 aK av bw de;dsimp only);have aO:=h.lT;obtain⟨au,bA,a4,cJ,bB⟩:=h.set (i:=18) (x:=true) (by decide);refine⟨_,rfl,by rw[aw];exact au,by rw[aw];exact bA,aS ?_⟩;rw[aw,cA];obtain⟨bC,bD⟩:=dF a4 (i:=16) (by simp[cn.cells,g2]);have aQ:=dM a4 (i:=16) (0:Int);have ac:=bB.trans (dp _ S.st 16 (0:Int));refine⟨_,rfl,by rw[aw];exact bC,by rw[aw];exact bD,aS ?_⟩;rw[aw,cA];generalize cK:(w.setCell ⟨S.st,18,none⟩ true).setCell ⟨S.st,16,none⟩ (0:Int)=bE at aQ ac⊢;have ag:=h.t.jS h.es ac;have cL:=ac.size;refine⟨_,rfl,_,by rw[aw];exact aQ.cell,(GC ag.s).use ?_⟩;rintro _ bF ⟨rfl,s1,bH,ah,bI⟩;have cM:=ah.size;obtain⟨aj,a5⟩:=ag.space bH ah bI ag.bK ag.low;have a7:=aQ.ad ah (h.t.c7 _ h.es).2.1;obtain⟨gI,B⟩:∃gI,gI=S.T.wq S.T.g S.T.g s1 S.T.s2:=⟨_,rfl⟩;rw[←B]at aj a5;have aT:gI.C=S.T.C:=by rw[B];rfl
 have bJ:gI.E=S.T.E:=by rw[B];rfl
 have bL:gI.g=S.T.g:=by rw[B];rfl
 have bN:gI.P=S.T.P:=by rw[B];rfl
 have bO:gI.n=S.T.n:=by rw[B];rfl
 have bP:gI.sb=S.T.sb:=by rw[B];rfl
 have bQ:gI.G=S.T.G:=by rw[B];rfl
 have bR:gI.gen=S.T.gen:=by rw[B];rfl
 have bS:gI.f=S.T.g:=by rw[B];rfl
 have bT:∀q,gI.M q->S.T.M q\/w.heap.size<=q:=λq k=>(a5 q k).imp id λh=>by omega
 have cN:∀ (w':J),Var w' S.st ((S.cells.set 18 true).set 16 (0:Int)) 158->w'.cell? ⟨S.st,2,none⟩=some (.pointer (some S.T.C.c)):=λw' aU=>aU.cell;refine⟨rfl,_,rfl,_,by rw[aw];exact a7.cell,?_⟩;have a9:=CQ aj.ca.raw;rw[aT]at a9;refine a9.use ?_;rintro _ al ⟨s,zs,rfl,bU,aV,am,bV⟩;have cO:=am.size
 have bW:∀z∈zs,∃no:Nat,z=(no:Int)/\S.T.g no=false:=λz K=>by
  have:=aV.mem_iff.1 K;unfold jw at this;obtain⟨f,hf,rfl⟩:=dv.1 this;obtain⟨bX,a_⟩:=hE.1 hf;have bb:f.full=true/\f.fT=true:=by unfold Fr.gU at a_;simpa using a_
  obtain⟨no,bx,bG,ao,ap,bc,bY⟩:=h.t.ca.inv.ok f bX bb.1;refine⟨no,bx,?_⟩
  cases hg:S.T.g no with
  |false=>rfl
  |true=>
   have:=bY (h.bK no hg);rw[bb.2]at this;cases this
 have cP:zs.length<=64:=by
  rw[aV.length_eq];unfold jw;rw[dL];exact ey (l2 _ _) h.t.ca.raw.bG
 have aW:=aj.ext am;obtain⟨P',a0⟩:∃P':Nat->aq aB,P'=λno=>if S.T.g no=true then S.T.P no else none:=⟨_,rfl⟩
 obtain⟨bZ,_⟩:=aW.qp (P:=P') aW.ca (eC.refl gI.C al) (λno bm p=>by
  rw[a0]at p;dsimp only at p;by_cases hg:S.T.g no=true
  .rw[if_pos hg]at p
   exact aW.ep no bm (by rw[bN];exact p)
  .rw[if_neg hg]at p;cases p)
 have b0:∀q,az s q->¬c3 S.T.C q:=λq k hf=>by
  have:=bV q k;have:=aj.lt (q:=q) (.inl (by rw[aT];exact hf));omega
 refine⟨s,rfl,λn16 m=>∃ (i:Nat) (aE:b1),n16=(i:Nat)/\i<=zs.length/\bM m (gI.bk aE P')/\eC S.T.C aE al m 0/\aE.D=S.T.C.D/\(∀j,S.T.g j=true->aE.view j=S.T.C.view j)/\(∀f∈aE.an,f.full=true->f∈S.T.C.an/\∀z∈zs.take i,f.no≠z)/\a8 1 3 m s (zs.map encZ)/\(∀q,az s q->¬c3 aE q),
  λn16 _=>((zs.length:Int)-n16).toNat,⟨0,S.T.C,rfl,cE _,by rw[←aT];exact bZ,.refl _ _,rfl,λ_ _=>rfl,λf hf _=>⟨hf,λz K=>(by simp at K)⟩,bU,b0⟩,?_⟩
 rintro _ m ⟨i,aE,rfl,hi,U,N,F,b3,bd,ax,be⟩;have cQ:s.len=zs.length:=by have:=ax.1;rw[dL]at this;omega
 have b4:∀ (w':J),ab (c3 S.T.C) al w'->Var w' S.st ((S.cells.set 18 true).set 16 (0:Int)) 158:=λw' hc=>(a7.ext am).ad hc λhf=>(h.t.ca.inv.fh _ (.inr (.inr (.inl h.es)))).2 hf;have bf:=b4 _ N.ad;refine⟨λL=>?_,λL=>?_⟩
 .have L:(i:Int)<(s.len:Int):=b2 L
  have aA:i<zs.length:=by omega
  obtain⟨A,ar,b7⟩:∃a:ae,s.a=some a/\m.cell? (a.add (Int.toNat (i:Int)*1))=some (.int .i64 zs[i]):=by
   obtain⟨b,c,L,_,_,_,_,b8,_⟩:=ax.cell (i:=i) (v:=encZ zs[i]) (by rw[kn,c_ aA];rfl);exact⟨_,L,by rw[c8,aw,cA,fz];exact b8⟩
  obtain⟨no,bg,b9⟩:=bW _ (cw aA);refine⟨A,ar,⟨I,L⟩,zs[i],b7,_,rfl,_,by rw[aw];exact bf.cell,?_⟩;have bh:=BJ U.ca no;rw[bg];have X:aE.c=S.T.C.c:=N.c;have b_:(gI.bk aE P').C.c=S.T.C.c:=X;rw[b_]at bh;refine bh.use ?_;rintro _ cS ⟨⟨b,rfl⟩,bi,cb,aD,aU,cc,cd⟩;have bj:∀j,S.T.g j=true->bi.view j=aE.view j:=λj Y=>aU j λe=>by rw[e,b9]at Y;cases Y
  obtain⟨ce,_⟩:=U.qp (P:=P') cb aD (λj bm p=>by
   obtain⟨br,bt⟩:=U.ep j bm p;have cf:S.T.g j=true:=by
    cases hg:S.T.g j with
    |true=>rfl
    |false=>rw[a0]at p;simp[hg]at p
   rw[bj j cf];exact⟨br,bt⟩)
  have cg:((zs.length:Int)-((i+1:Nat):Int)).toNat<((zs.length:Int)-(i:Int)).toNat:=by omega
  have bl:IntKind.wrap .i64 ((i:Int)+1)=((i+1:Nat):Int):=by rw[bu I I];omega
  have ch:=ax.ad aD.ad λq k hf=>be q k hf;refine⟨b,rfl,⟨i+1,bi,bl,aA,ce,(N.trans aD).mono (bo _),cc.trans F,λj Y=>(bj j Y).trans (b3 j Y),λf hf O=>?_,ch,λq k hf=>?_⟩,by rw[bl];exact cg⟩
  .obtain⟨bx,bG⟩:=cd f hf O
   obtain⟨ao,ap⟩:=bd f bx O;refine⟨ao,λz K=>?_⟩;rw[iy aA,cR,fi]at K;rcases K with K|rfl
   .exact ap z K
   .rw[bg];exact bG
  .rcases aD.c4 q hf with h1|h1
   .exact be q k h1
   .have:=a8.lt ax q k;omega
 have L:¬(i:Int)<(s.len:Int):=cr L;obtain rfl:i=zs.length:=by omega
 have ci:∀f∈aE.an,f.full=true->f.fT=false:=λf hf O=>by
  obtain⟨bx,bG⟩:=bd f hf O
  cases hd:f.fT with
  |false=>rfl
  |true=>
   refine absurd rfl (bG f.no ?_);rw[iz];refine aV.mem_iff.2 (dv.2 ⟨f,hE.2 ⟨bx,?_⟩,rfl⟩);unfold Fr.gU;rw[O,hd];rfl
 have X:aE.c=S.T.C.c:=N.c;obtain⟨fu,y⟩:∃fu,fu=gI.bk aE P':=⟨_,rfl⟩;rw[←y]at U;have f1:fu.C=aE:=by rw[y];rfl
 have f2:fu.E=S.T.E:=by rw[y];exact bJ
 have f3:fu.g=S.T.g:=by rw[y];exact bL
 have f4:fu.P=P':=by rw[y];rfl
 have f5:fu.n=S.T.n:=by rw[y];exact bO
 have f6:fu.sb=S.T.sb:=by rw[y];exact bP
 have f7:fu.G=S.T.G:=by rw[y];exact bQ
 have f8:fu.gen=S.T.gen:=by rw[y];exact bR
 have f9:fu.f=S.T.g:=by rw[y];exact bS
 have a1:∀q,fu.M q->S.T.M q\/w.heap.size<=q:=λq k=>by
  rw[y]at k;rcases k with k|k
  .rcases N.c4 q k with h1|h1
   .exact .inl (.inl h1)
   .exact .inr I
  .exact bT q (.inr k)
 have cT:=N.ad.size;refine hL (λaF=>∃aY,gf aF {S with T:=(fu.b5 aY S.T.gen S.u.root S.u.aG S.T.E).bk {aE with D:=aE.D.fF (λ_=>true) aE.D.dc} P',pending:=0,failed:=true} aL aX/\m.heap.size<=aY/\ab (λq=>q=S.st) m aF) (λcU cj=>aS ?_) ?_
 .have aH:Ext m m.drew:=b6 _
  have R:=bf.ext aH;have aJ:=U.ext aH;have bn:=aJ.ca.raw;rw[f1]at bn;have bp:=oc bn S.T.sb (S.T.gen:Int) (S.u.root:Int) (S.u.aG:Int);rw[X]at bp;refine⟨λ_=>False,_,rfl,id,_,by rw[aw];exact R.cell,_,rfl,id,_,by rw[aw];exact R.cell,_,rfl,id,_,by rw[aw];exact R.cell,_,rfl,id,_,by rw[aw];exact R.cell,_,rfl,id,_,by rw[aw,aw];exact R.cell,?_⟩;have ck:IntKind.wrap .u64 ((S.gen:Int)+1)=(S.T.gen:Int):=by rw[gN I (by have:=h.num;omega)];have:=h.gen;omega
  rw[ck];refine bp.use ?_;rintro _ a2 (⟨_,rfl,Z,cl,cV⟩|⟨cm,_⟩)
  rotate_left
  .exact absurd (by rw[F];exact aO) cm
  have cW:=Z.size;refine⟨_,0,rfl,Z,λ_=>?_,λhx=>(by cases hx)⟩;have bq:=R.ext Z;obtain⟨bx,bG⟩:=dF bq (i:=0) (by simp[cn.cells,g2]);have co:=dM bq (i:=0) (.pointer (some m.drew.heap.size));have bs:=dp a2 S.st 0 (.pointer (some m.drew.heap.size));have cp:bM a2 (fu.b5 m.drew.heap.size S.T.gen S.u.root S.u.aG S.T.E):=by
   refine aJ.tree Z (by show Var _ _ [.pointer (some fu.C.c),.pointer (some fu.sb),_,_,_] _;rw[f1,X,f6];exact cl) (.inr (bo _)) (λq k=>?_) ⟨?_,?_,?_⟩ λno bm p=>?_
   .have h1:=aJ.lt (q:=q) (.inr (.inr (.inr (.inl (by rw[f2];exact k)))))
    exact⟨I,.inl (by rw[f2];exact k)⟩
   .rw[f5,←h.t.n];have:=aO.2.2.2.1;omega
   .have:=aO.2.1;omega
   .exact h.t.num.2.2
   .rw[←f8];exact aJ.ep no bm p
  have cq:=cp.fF (s:=λ_=>true) (z:=fu.C.D.dc) (λf hf j O _ _=>ci f (by rw[←f1];exact hf) O) (λ_ _=>rfl) λ_ _=>.inr λ_=>rfl;have bv:bM a2 ((fu.b5 m.drew.heap.size S.T.gen S.u.root S.u.aG S.T.E).bk {fu.C with D:=fu.C.D.fF (λ_=>true) fu.C.D.dc} fu.P):=cq;rw[f1,f4]at bv;refine⟨_,rfl,bx,bG,aS (cj _ ⟨m.drew.heap.size,⟨?_,bv.jS h.es bs,h.es,?_,h.gen,h.num,λ_ _=>rfl⟩,aH.size,((Ext.trans aH Z).mono λ_ _ h=>h.elim).trans bs⟩)⟩
  .show Var _ _ (g2 _ aE.D.d aE.c fu.sb _ _ _ _ _ _ _ _) _
   rw[F,X,f6];exact co
  .show g3 (λj=>aE.D.aZ.getD j []) fu.n _ _ fu.g P' _ _
   rw[F,f5,f3];exact h.fL.agree (λ_ _=>rfl) λx hx=>by
    rw[a0];dsimp only;rw[if_pos ((h.fL.g x).2 (.inl hx))]
 .rintro aF ⟨aY,H,cX,cs⟩
  obtain⟨l,r⟩:∃l:cn,l={S with T:=(fu.b5 aY S.T.gen S.u.root S.u.aG S.T.E).bk {aE with D:=aE.D.fF (λ_=>true) aE.D.dc} P',pending:=0,failed:=true}:=⟨_,rfl⟩;rw[←r]at H;have Q:l.st=S.st:=by rw[r]
  obtain⟨bx,bG,ao,ap,bc⟩:=H.set (i:=17) (x:=S.u.keys) (by decide);have cu:∃z:aa,l.cells[12]? =some z/\z=S.u.keys:=⟨_,by rw[r];rfl,rfl⟩;obtain⟨z,cv,rfl⟩:=cu;have cx:({l with keys:=S.u.keys}:cn).cells=l.cells.set 17 S.u.keys:=by rw[r];rfl
  have o:l.T=(fu.b5 aY S.T.gen S.u.root S.u.aG S.T.E).bk {aE with D:=aE.D.fF (λ_=>true) aE.D.dc} P':=by rw[r]
  have fJ:l.T.n=S.T.n:=by rw[o];exact f5
  have cy:l.T.C.D.aZ=S.T.C.D.aZ:=by rw[o];show aE.D.aZ=_;rw[F]
  have aM:l.u=S.u:=by rw[r]
  have cz:l.gen=S.gen:=by rw[r]
  have cB:l.T.f=S.T.g:=by rw[o];exact f9
  have cC:l.T.C.D.ro:=by rw[o];exact λ_=>rfl
  have bz:l.failed=true:=by rw[r]
  refine⟨_,rfl,_,by rw[aw,aw,←Q];exact H.v.cell.trans cv,_,rfl,by rw[aw,←Q];exact bx,by rw[aw,←Q];exact bG,aS ⟨rfl,{l with keys:=S.u.keys},⟨⟨?_,?_,H.es,H.fL,H.gen,H.num,H.bK⟩,?_,h.fL.bm,λno=>?_,λx hx=>?_,h.fL.gb,h.fL.keys,?_,λhf=>?_,λ_=>⟨cC,rfl,rfl,by rw[r]⟩⟩,?_,⟨aM,cz,by rw[r],bz,cy,λj=>?_,by rw[show({l with keys:=S.u.keys}:cn).T=l.T from rfl,o];show aE.D.aN=_;rw[F]⟩⟩⟩
  .rw[cx,aw,cA,←Q];exact ao
  .rw[aw,cA,←Q];exact ap
  .show gj l.T aL aX
   rw[o];have:=H.fL.ok;rw[o,aM]at this;exact this
  .show l.T.f no=true↔no∈aL\/no<2\/no=l.u.map
   rw[cB,aM];exact h.fL.g no
  .rw[show({l with keys:=S.u.keys}:cn).u=S.u from aM]
   exact⟨(h.fL.two x hx).1,(h.fL.two x hx).2.1⟩
  .show l.pending<=1000
   rw[r];exact cE _
  .rw[show({l with keys:=S.u.keys}:cn).failed=true from bz]at hf;cases hf
  .refine⟨Q,?_,fJ,by rw[r],?_,λk=>?_,?_,λq k=>?_,?_,?_⟩
   .show l.T.C.D.d=_
    rw[o];show aE.D.d=_;rw[F]
   .show l.T.C.D.aN<=_
    rw[o];show aE.D.aN<=_;rw[F];omega
   .show l.T.C.D.quiet
    rw[o];show a6.quiet (aE.D.fF _ _);rw[F];exact k
   .rw[aw,cA]
    have a3:∀q,q=S.st->S.W q:=λq e=>by rw[e];exact h.wv
    have h1:ab S.W w bE:=ac.mono λq _ e=>a3 q e;have cD:ab S.W w bF:=ct h1 ah λq _ k=>h.lS (.inr (.inr (.inl k)));have cF:ab S.W w al:=ct cD am λq _ k=>k.elim;have cG:ab S.W w m:=ct cF N.ad λq _ k=>h.lS (.inl k);have cH:ab S.W w aF:=ct cG cs λq _ k=>a3 q k;exact ct cH (V:=λq=>q=S.st) (by rw[←Q];exact bc) λq _ k=>a3 q k
   .have k:l.T.M q:=k
    rw[o]at k;rcases k with k|k|k|k|k
    .exact a1 q (.inl (by rw[f1];exact k))
    .have k:q=aY:=k
     exact .inr I
    .exact a1 q (.inr (.inr (.inl k)))
    .exact .inl (.inr (.inr (.inr (.inl k))))
    .exact a1 q (.inr (.inr (.inr (.inr k))))
   .show l.T.E=_
    rw[o];rfl
   .show l.T.G=_
    rw[o];exact f7
  .show l.T.C.D.er j=_
   rw[o];show aE.D.dc j=_;rw[F]
end
theorem gK.mono{gen a no:Nat}{leaf:aj}{l:cJ}{n:aB}(h:gK gen leaf no l n)(hg:gen<=a):gK a leaf no l n:=by
 obtain⟨p,h1,b,c⟩:=h;exact⟨p,h1,ey b hg,c⟩
section
variable {w w':J}{C:b1}{X:Nat->Prop}{T:aM}{S aC:cn}{pages aL:O Nat}{L aX:O aJ}
theorem H9{ax:a6}(h:ec X w C)(hd:b_ w' ax)(e:ax.d=C.D.d)(g:kI ax C.D)(k:∀i,2<=i->ax.now i=C.D.now i)(hc:ab (bD C.D) w w')(hf:∀q,bD ax q->bD C.D q\/w.heap.size<=q):
 ec X w' {C with D:=ax}/\∀j,2<=j->({C with D:=ax}:b1).view j=C.view j:=by
 have o:=hc.size;have l:∀q,q<w.heap.size->c3 {C with D:=ax} q->c3 C q:=λq a b=>by
  rcases b with h1|h1|h1
  .exact .inl h1
  .exact .inr (.inl h1)
  .exact .inr (.inr ((hf q h1).resolve_right I))
 refine⟨⟨h.raw.p_ hd e hc hf,h.inv.pins,λf p r=>?_,h.inv.un,λq a=>⟨fO (h.inv.fh q a).1 o,λb=>(h.inv.fh q a).2 (l q (h.inv.fh q a).1 b)⟩,g.2.2⟩,λj s=>?_⟩
 .obtain⟨no,au,t,u,v,x,y,m⟩:=h.inv.ok f p r
  exact⟨no,au,by rw[show({C with D:=ax}:b1).D.n=ax.n from rfl,g.1];exact t,a7.re u hc (λq _ c z=>c.1 (.inr (.inr z))) λq a c=>⟨λb=>c.1 (l q a b),c.2⟩,v,λhd=>by show _=ax.now no;rw[k no m];exact x hd,λhs=>y (g.2.1 _ hs),m⟩
 .unfold b1.view
  dsimp only
  cases C.an.find? λf=>f.full&&f.no==(j:Int) with
  |some f=>rfl
  |none=>exact k j s
theorem bM.C0{aE:b1}{P:Nat->aq aB}(h:bM w T)(a:ec T.X w' aE)(hc:ab (c3 T.C) w w')(e:aE.c=T.C.c)(b:aE.D.n=T.C.D.n)(d:∀no bm,P no=some bm->no<T.n/\gK T.gen bm.leaf no (aE.view no) bm)(f:∀j,aE.D.bK j=true->T.g j=true\/aE.D.ro):
 bM w' (T.bk aE P):=by
 have hx:=h.ca.inv.fh;refine⟨?_,h.s.ad hc λq i hf=>(hx q (.inr (.inl i))).2 hf,a,h.jN,h.c7,h.h5,b.trans h.n,h.num,d,f,h.low⟩;have:=h.t.ad hc λhf=>(hx T.aY (.inl rfl)).2 hf;unfold lf at this⊢;rw[←e]at this;exact this
def aM.mF(T:aM)(gen:Nat):aM:={T with gen:=gen}
theorem bM.H_{gen:Nat}(h:bM w T)(b:Var w' T.aY (lf (T.mF gen)) 239)(hc:ab (λq=>q=T.aY) w w')(h1:T.gen<=gen)(c:gen<18446744073709551616):bM w' (T.mF gen):=
 ⟨b,h.s.ad hc λq d e=>h.jN (e▸d),h.ca.ad hc λq e=>.inl e,h.jN,h.c7,h.h5,h.n,⟨h.num.1,h.num.2.1,c⟩,λno bm a=>⟨(h.ep no bm a).1,(h.ep no bm a).2.mono h1⟩,h.bK,h.low⟩
theorem Ia(h:bM w T){gen:Nat}(h1:T.gen<=gen)(a:gen<18446744073709551616):
 aP ai 164 #[.pointer (some T.aY),.int .u64 (gen:Nat)] w (λv w'=>v=.tuple #[]/\bM w' (T.mF gen)/\ab (λq=>q=T.aY) w w'):=by
 refine af.EH _ _ w _ ?_;(delta af.rN ak st;dsimp only);obtain⟨au,b⟩:=dF h.t (i:=2) (by simp[lf]);have c:=dM h.t (i:=2) (.int .u64 (gen:Nat));have hc:=dp w T.aY 2 (.int .u64 (gen:Nat));refine⟨λ_=>⟨_,rfl,by rw[aw];exact au,by rw[aw];exact b,aS ?_⟩,λd=>(by cases d)⟩;rw[aw,cA];exact⟨rfl,h.H_ c hc h1 a,hc⟩
def C1(aC:cn)(gen:Nat)(g:Nat->aj)(pages:O Nat)(L:O aJ)(clock cC:Nat):Prop:=
 (∀j,g j=true->aC.T.C.D.er j=[])\/
 ∃ (a:cW) (au:Nat->aj) (c:Nat->aq aB) (b:cJ),(∀j,aC.T.C.D.er j=if j=(gen+1)%2 then [b] else [])/\g3 (λj=>if j=(gen+1)%2 then b else aC.V j) aC.T.n (gen+1) a au c pages L/\a.clock=clock/\a.cC=cC
def qC(S:cn)(pages:O Nat)(L:O aJ)(aL:O Nat)(aX:O aJ)(w:J)(v:aa)(w':J):Prop:=
 ∃aC,dj 100 S aC w w'/\aC.now=S.now/\
  ((v=.int .i64 0/\di w' aC pages L pages L/\aC.failed=false/\aC.gen=S.gen+1/\aC.u.clock=S.now/\aC.u.cC=S.u.cC+1/\aC.pending=0)\/
   (v=.int .i64 3/\¬S.T.C.D.quiet/\di w' aC aL aX aL aX/\aC.failed=true/\aC.u=S.u/\aC.gen=S.gen/\(∀j,S.T.g j=true->aC.V j=S.V j)/\C1 aC S.gen S.T.g pages L S.now (S.u.cC+1)))
end
section
variable {w w' w1:J}{C:b1}{X:Nat->Prop}{T:aM}{S aC fx:cn}{pages aL:O Nat}{L aX:O aJ}{f2:Nat->aj}{aE:b1}{P':Nat->aq aB}
def cn.at(S:cn)(f2:Nat->aj)(aE:b1)(P':Nat->aq aB):cn:={S with T:=(S.T.iO f2).bk aE P'}
theorem gf.wx(h:gf w S aL aX)(ht:bM w' ((S.T.iO f2).bk aE P'))(a:Var w' S.st S.cells 158)(b:aE.D.d=S.T.C.D.d)(e:aE.c=S.T.C.c)(dR:∀j,S.T.g j=true->aE.D.aZ.getD j []=S.V j)(f:∀x∈aL,S.T.P x=P' x)(i:∀j,S.T.g j=true->aE.D.bK j=true):
 gf w' (S.at f2 aE P') aL aX:=by
 refine⟨?_,ht,h.es,h.fL.agree dR f,h.gen,h.num,i⟩;show Var w' S.st (g2 _ aE.D.d aE.c _ _ _ _ _ _ _ _ _) _;rw[b,e];exact a
theorem dj.at{k:Nat}(hc:ab S.W w w')(b:aE.D.d=S.T.C.D.d)(c:aE.D.aN<=S.T.C.D.aN+k)(a:S.T.C.D.quiet->aE.D.quiet)(hf:∀q,c3 aE q->c3 S.T.C q\/w.heap.size<=q):dj k S (S.at f2 aE P') w w':=
 ⟨rfl,b,rfl,rfl,c,a,hc,λq a=>by
  rcases a with a|a
  .exact(hf q a).imp .inl id
  .exact .inl (.inr a),rfl,rfl⟩
theorem wy(p:gf w1 fx aL aX)(a:dj 100 S fx w w1)(r:fx.u=S.u)(s:fx.gen=S.gen)(t:fx.now=S.now)(m:¬S.T.C.D.quiet)(dR:∀j,S.T.g j=true->fx.V j=S.V j)(x:fx.T.C.D.aN<=900000000)
 (y:(∀j,S.T.g j=true->fx.T.C.D.dc j=[])\/∃ (e:cW) (au:Nat->aj) (f:Nat->aq aB) (b:cJ),(∀j,fx.T.C.D.dc j=if j=(S.gen+1)%2 then [b] else [])/\g3 (λj=>if j=(S.gen+1)%2 then b else fx.V j) fx.T.n (S.gen+1) e au f pages L/\e.clock=S.now/\e.cC=S.u.cC+1):
 aP ai 81 #[.pointer (some S.st),(3:Int)] w1 (qC S pages L aL aX w):=by
 have hf:=CZ p 3 x;rw[a.st]at hf;refine hf.mono ?_;rintro v w' ⟨rfl,aC,hs,hd,c⟩;have o:∀j,aC.V j=fx.V j:=λj=>by unfold cn.V;rw[c.V]
 refine⟨aC,⟨hd.st.trans a.st,hd.d.trans a.d,hd.n.trans a.n,hd.l.trans a.l,by rw[c.aN];exact a.aN,λh=>absurd h m,ct a.ad hd.ad λq z i=>a.back z i,λq i=>?_,hd.E.trans a.E,hd.G.trans a.G⟩,c.now.trans t,.inr ⟨rfl,m,hs,c.failed,c.u.trans r,c.gen.trans s,λj k=>(o j).trans (dR j k),?_⟩⟩
 .have:=a.ad.size
  rcases hd.c4 q i with h1|h1
  .exact a.c4 q h1
  .exact .inr I
 .rcases y with h1|⟨e,au,f,b,h1,A,B,F⟩
  .exact .inl λj k=>(c.sa j).trans (h1 j k)
  .exact .inr ⟨e,au,f,b,λj=>(c.sa j).trans (h1 j),by rw[hd.n];exact A.agree (λj _=>by rw[o]) λ_ _=>rfl,B,F⟩
theorem Ib{V:Nat->cJ}{no:Nat}{i:Nat->aq aB}(h:di w S pages L aL aX)(k:f2=dh (dh S.T.f no true) S.u.map false)(M:(S.T.f no||S.T.g no)=false)(A:2<=no)(B:no<S.T.n)(N:L.length<4096)(l:∀x∈pages,i x=S.T.P x)
 (D:V ((S.gen+1)%2)=eA ((S.gen+1)%2) (jh ⟨S.T.root,S.T.aG,no,S.now,S.u.cC+1,L.length⟩ S.T.n (S.gen+1))) (dR:∀j,j≠(S.gen+1)%2->V j=if j=no then eA no ⟨4,S.gen+1,fK f2 ((S.T.n+7)/8)⟩ else if S.T.g j=true then S.V j else S.T.C.view j)
 (hg:∀j,S.T.g j=true->S.V j=S.T.C.view j):g3 V S.T.n (S.gen+1) ⟨S.T.root,S.T.aG,no,S.now,S.u.cC+1,L.length⟩ f2 i pages L:=by
 have E:=h.t.s.bp;have F:=h.num;have m:=h.t.num;have o:=h.fL.so;have O:=o.2.2.2.2.1;have p:S.T.f S.u.map=true:=(h.f _).2 (.inr (.inr rfl));have q:S.T.f no=false:=by cases Q:S.T.f no<;>simp_all
 have r:∀x∈pages,x≠no:=λx hx e=>by
  have:=(h.f x).2 (.inl hx);rw[e,q]at this;cases this
 have G:∀x∈pages,x<S.T.n:=λx hx=>Nat.lt_of_not_le λe=>by
  have:=h.t.s.pf x e;rw[(h.f x).2 (.inl hx)]at this;cases this
 have H:∀j,j≠(S.gen+1)%2->j≠no->V j=S.T.C.view j:=λj h1 J=>by
  rw[dR j h1,if_neg J];by_cases e:S.T.g j=true
  .rw[if_pos e,hg j e]
  .rw[if_neg e]
 have v:kh ⟨S.T.root,S.T.aG,no,S.now,S.u.cC+1,L.length⟩ S.T.n:=by
  refine⟨?_,m.2.1,m.1,B,A,E⟩;rcases h.ok with ⟨a1,a2,_⟩|b
  .exact⟨λ_=>a1,λ_=>a2⟩
  .obtain⟨bm,R,_,a2,_,_⟩:=b.kD
   have:=(h.two S.T.root (by rw[a2];simp)).1;constructor
   .intro e;have e:S.T.root=0:=e;omega
   .intro e
    have e:S.T.aG=0:=e;rw[e]at b;exact b.elim
 have y:nA ⟨S.T.root,S.T.aG,no,S.now,S.u.cC+1,L.length⟩:=⟨by show S.T.root<_;omega,by show S.T.aG<_;omega,by show no<_;omega,F.1,by show S.u.cC+1<_;omega,by show L.length<_;omega⟩;refine⟨⟨S.u.map,o.2.2.2.1,by rw[k];unfold dh;rw[if_pos rfl]⟩,?_,.inr ⟨S.u,S.gen,?_,I⟩,⟨S.gen+1,bo _,?_⟩,λj=>?_,h.bm,λx hx=>⟨(h.two x hx).1,r x hx,G x hx⟩,?_,λx hx bm z=>?_,rfl,h.gb,y,v,by show S.u.cC+1+1<=S.gen+1;omega⟩
 .rw[D]
  exact CL y v I I
 .have e:1-(S.gen+1)%2=S.gen%2:=by omega
  have K:S.T.g (S.gen%2)=true:=(h.fL.g _).2 (.inr (.inl I));rw[e,dR _ I,if_neg I,if_pos K];exact h.fL.wu
 .show da (no:Int) (V no)=_
  rw[dR _ I,if_pos rfl];exact vF I ⟨(by decide:1<=4),(by decide:4<=4),by show S.gen+1<_;omega,by show(fK _ _).length<=232;rw[oY];omega⟩
 .rw[k]
  show dh (dh S.T.f no true) S.u.map false j=true↔j∈pages\/j<2\/j=no;unfold dh;by_cases c:j=S.u.map
  .rw[if_pos c]
   refine⟨λh=>(by cases h),λa=>?_⟩;rcases a with a|a|a
   .exact absurd c (h.two j a).2
   .omega
   .rw[←c,a,q]at p;cases p
  .rw[if_neg c]
   by_cases d:j=no
   .rw[if_pos d];exact⟨λ_=>.inr (.inr d),λ_=>rfl⟩
   .rw[if_neg d,h.f j]
    constructor
    .rintro(a|a|a)
     .exact .inl a
     .exact .inr (.inl a)
     .exact absurd a c
    .rintro(a|a|a)
     .exact .inl a
     .exact .inr (.inl a)
     .exact absurd a d
 .rcases h.ok with ⟨a1,a2,a3,a4⟩|b
  .exact .inl ⟨a1,a2,a3,a4⟩
  .exact .inr (b.agree λx hx=>(l x hx).symm).1
 .rw[l x hx]at z
  rw[H x (by have:=(h.two x hx).1;omega) (r x hx),←h.gen];exact(h.t.ep x bm z).2
end
section
variable {w w' w1:J}{C:b1}{X:Nat->Prop}{T:aM}{S aC fx:cn}{pages aL:O Nat}{L aX:O aJ}{f2:Nat->aj}{aE:b1}{P':Nat->aq aB}
theorem Ic{f:Nat->aj}{n k:Nat}(h:k<n):nt f n (k:Int)=dh f k false:=by
 unfold nt;rw[if_pos ⟨I,I⟩,c8]
theorem Ie{aY d c sb gen now first pending keys st:Nat}{l:fE}{u:cW}{failed:aj}(b:Var w st (g2 aY d c sb l u gen now first pending keys failed) 158)(a:cW){K:J->Prop}(e:∀ah,Var ah st (g2 aY d c sb l a gen now first pending keys failed) 158->ab (λq=>q=st) w ah->K ah):
 bA w ⟨st,7,none⟩ [a.root,a.aG,a.map,.int .u64 (a.clock:Nat),.int .u64 (a.cC:Nat),a.keys]/\(6:Nat)=6/\
  al (setCells w ⟨st,7,none⟩ 0 [a.root,a.aG,a.map,.int .u64 (a.clock:Nat),.int .u64 (a.cC:Nat),a.keys]) K:=
 ⟨bq.cc b _ _ (by simp[g2]) λv f=>cW.plain a v f,rfl,aS (e _ (bq.j2 (o:=7) b _) (ab.k1 (.refl _ _) _ 0))⟩
theorem y0(h:di w S pages L aL aX)(am:S.failed=false)(du:L.length<4096)(eV:S.T.C.D.aN<=800000000)(eW:S.gen<=1000000000):
 aP ai 94 #[.pointer (some S.st)] w (qC S pages L aL aX w):=by
 refine okF (af.uw (some S.st)) ay.uw func94 ?_;(delta af.uw eI ak aA r1 bw ba pG b8 g7 Y aR st;dsimp only);obtain⟨bz,bA,dv⟩:=h.live am;obtain⟨no,ck⟩:=B5 dv;obtain⟨cm,dw,_⟩:=BP ck;have eY:=h.t.s.bp;have aW:=h.num;have dx:=h.gen;have co:=h.fL.so;have cp:S.T.f no=false:=by cases dy:S.T.f no<;>simp_all
 have an:S.T.g no=false:=by cases dy:S.T.g no<;>simp_all
 have cq:2<=no:=Nat.le_of_not_lt λe=>by
  have:=(h.fL.g no).2 (.inr (.inl e));rw[an]at this;cases this
 have eZ:S.T.M S.st:=.inr (.inr (.inr (.inl h.es)));refine⟨_,rfl,_,by rw[aw];exact h.v.cell,(BR h.t.s).use ?_⟩;rintro _ cr ⟨rfl,cs,a0⟩;rw[ck]at cs⊢;refine⟨(no:Nat),0,rfl,λhx=>(by cases hx),λ_=>aS ?_⟩;have dz:=(h.t.vZ (f:=dh S.T.f no true) cs a0).1;have dA:=h.v.ad a0 (h.t.c7 _ h.es).2.1;have a1:Ext cr cr.drew:=b6 _;have bB:=dA.ext a1;have cv:=dz.ext a1;refine⟨_,rfl,id,_,by rw[aw];exact bB.cell,_,rfl,id,_,by rw[aw,aw];exact bB.cell,(BS cv.s (S.u.map:Nat)).use ?_⟩;rintro _ a2 ⟨rfl,cw,a3⟩;rw[Ic (by exact co.2.2.2.1)]at cw;obtain⟨f2,bC⟩:∃f2,f2=dh (dh S.T.f no true) S.u.map false:=⟨_,rfl⟩;have cx:eR a2 S.T.sb S.T.n f2 S.T.g S.T.s1 S.T.s2:=by rw[bC];exact cw
 have bE:bM a2 (S.T.iO f2):=(cv.vZ (f:=f2) cx a3).1;have cy:=bB.ad a3 (h.t.c7 _ h.es).2.1;refine⟨_,rfl,aS ?_⟩;have a4:Ext a2 a2.drew:=b6 _;have cB:=cy.ext a4;have dB:=bE.ext a4;have bF:IntKind.wrap .u64 ((S.gen:Int)+1)=((S.gen+1:Nat):Int):=by rw[gN I I];omega
 refine⟨λ_=>False,_,rfl,id,_,by rw[aw];exact cB.cell,_,rfl,id,_,by rw[aw];exact cB.cell,(BY dB.s).use ?_⟩;rintro _ dC ⟨a5,rfl,dD,bH,e0⟩;have dE:a8 1 5 dC a5 (aF (fK f2 ((S.T.n+7)/8))):=by rw[CT];exact dD
 have cD:nh ⟨4,S.gen+1,fK f2 ((S.T.n+7)/8)⟩:=⟨(by decide:1<=4),(by decide:4<=4),by show S.gen+1<_;omega,by show(fK _ _).length<=232;rw[oY];omega⟩;rw[bF];refine⟨a5,rfl,bH,#[(4:Int),.int .u64 ((S.gen+1:Nat):Int),a5],λe1=>by kernel_rfl,(vK (s:=a5) (p:=⟨4,S.gen+1,fK f2 ((S.T.n+7)/8)⟩) (no:=no) dE.src I cD).use ?_⟩;rintro _ cF ⟨dG,rfl,cG,cH,dH⟩;have bI:=a4.trans (Ext.trans bH cH);have a7:=bE.ext bI;have cI:=cy.ext bI;have e2:=a0.size;have e3:=a3.size;have e4:=a1.size;have e5:=a4.size;have e6:=bH.size;have a9:ab S.W w cF:=ct (ct (ct (ct (ab.refl _ _) a0 λq _ a=>h.lS (.inr (.inr (.inl a)))) a1 λq _ a=>a.elim) a3 λq _ a=>h.lS (.inr (.inr (.inl a)))) bI λq _ a=>a.elim;have dI:(eA no ⟨4,S.gen+1,fK f2 ((S.T.n+7)/8)⟩).length=256:=rX _ cD;refine⟨dG,0,rfl,cH,λhx=>(by cases hx),λ_=>⟨_,rfl,_,by rw[aw];exact cI.cell,(BI a7.ca (by show S.T.C.D.aN<=_;omega) (no:=no) (by rw[a7.n];exact cm) cq (λhs=>?_) cG.src dI λq a=>⟨a8.lt cG q a,λhf=>?_⟩).use ?_⟩⟩
 .rcases a7.bK no hs with h1|h1
  .rw[show(S.T.iO f2).g no=S.T.g no from rfl,an]at h1;cases h1
  .exact bz h1
 .have h1:=dH q a
  have a_:=bE.lt (q:=q) (.inl hf);omega
 rintro _ bb ⟨F,cK,cL,bc⟩;have r:eC S.T.C F cF bb 1:=cL;have cM:∀j,j≠no->F.view j=S.T.C.view j:=λj b=>by
  rcases bc with ⟨_,bJ⟩|⟨_,_,bJ⟩
  .rw[bJ,if_neg b];rfl
  .rw[bJ];rfl
 obtain⟨y,bL⟩:∃y:Nat->aq aB,y=λj=>if j=no then none else S.T.P j:=⟨_,rfl⟩
 have az:∀j,j≠no->y j=S.T.P j:=λj b=>by rw[bL];exact if_neg b
 obtain⟨aD,_⟩:=a7.qp (P:=y) cK cL λj bm aj=>by
  have b:j≠no:=λe=>by rw[bL]at aj;simp[e]at aj
  rw[cM j b];exact h.t.ep j bm (by rw[←az j b];exact aj)
 have dJ:¬c3 S.T.C S.st:=(h.t.ca.inv.fh _ (.inr (.inr (.inl h.es)))).2;have bN:=cI.ad r.ad dJ;have bO:ab S.W w bb:=ct a9 r.ad λq _ a=>h.lS (.inl a);have be:∀x∈aL,S.T.P x=y x:=λx hx=>(az x λe=>by
  have:=(h.fL.g x).2 (.inl hx);rw[e,an]at this;cases this).symm
 have bP:F.D.aZ=S.T.C.D.aZ:=congrArg (λp=>p.1.1) r.aZ;have bQ:F.D.cl.getD 3 0=S.T.C.D.cl.getD 3 0:=congrArg Prod.snd r.aZ;have dK:gf bb (S.at f2 F y) aL aX:=h.togf.wx aD bN r.d r.c (λj b=>by rw[bP];rfl) be λj b=>by rw[r.bK];exact h.bK j b
 have dL:dj 100 S (S.at f2 F y) w bb:=dj.at bO r.d (by have:=r.aN;omega) (λa=>⟨λk=>r.calm k (a.1 _),bQ.trans a.2⟩) λq a=>(r.c4 q a).imp id λe=>by have:=a9.size;omega
 have dN:∀j,S.T.g j=true->F.D.dc j=[]:=λj b=>by
  rw[cK.inv.kH j (by rw[r.bK];exact h.bK j b),r.nq.2,bA]
 rcases bc with ⟨rfl,bc⟩|⟨rfl,dO,_⟩
 rotate_left
 .exact⟨3,rfl,λ_=>(wy dK dL rfl rfl rfl (λa=>dO (a.1 1)) (λj b=>by unfold cn.V;show F.D.aZ.getD j []=_;rw[bP]) (by show F.D.aN<=_;have:=r.aN;omega) (.inl dN)).use λv w' bR=>by
   obtain⟨aC,r1,bX,ag⟩:=bR;rcases ag with ⟨rfl,bw⟩|⟨rfl,bw⟩
   .exact⟨0,rfl,aC,r1,bX,.inl ⟨rfl,bw⟩⟩
   .exact⟨3,rfl,aC,r1,bX,.inr ⟨rfl,bw⟩⟩,λhx=>(by cases hx)⟩
 refine⟨0,rfl,λhx=>(by cases hx),λ_=>⟨_,rfl,_,by rw[aw];exact bN.cell,?_⟩⟩;have cN:=H0 aD.ca (by show F.D.aN<=_;have:=r.aN;omega) λj b=>by show F.D.er j=_;rw[r.nq.2,bA]
 rw[show((S.T.iO f2).bk F y).C.c=S.T.C.c from r.c]at cN;refine cN.use ?_;rintro _ ao ⟨o,R⟩;have dP:¬c3 F S.st:=(aD.ca.inv.fh _ (.inr (.inr (.inl h.es)))).2;have bf:=bN.ad R.ad dP;have U:o.D.d=S.T.C.D.d:=R.d.trans r.d;have bg:o.c=S.T.C.c:=R.c.trans r.c;have aE:∀q,c3 o q->c3 S.T.C q\/w.heap.size<=q:=λq a=>by
  have:=bO.size;have:=a9.size;rcases R.c4 q a with h1|h1
  .exact(r.c4 q h1).imp id λe=>by omega
  .exact .inr I
 have bT:ab S.W w ao:=ct bO R.ad λq am a=>by
  have:=a9.size;exact h.lS (.inl ((r.c4 q a).resolve_right I))
 have cO:∀ (bU:b1),(∀j,2<=j->bU.view j=F.view j)->∀j bm,y j=some bm->j<S.T.n/\gK S.T.gen bm.leaf j (bU.view j) bm:=λbU dQ j bm aj=>by
  have b:j≠no:=λe=>by rw[bL]at aj;simp[e]at aj
  have h1:=h.t.ep j bm (by rw[←az j b];exact aj);rw[dQ j h1.2.two,cM j b];exact h1
 have bi:bM ao ((S.T.iO f2).bk o y):=aD.C0 R.at_ R.ad R.c R.n (cO o λj _=>R.view j) λj b=>by
  rw[R.bK.1]at b;rcases aD.bK j b with h1|h1
  .exact .inl h1
  .exact .inr λi=>by rw[R.bK.1];exact h1 i
 have ap:o.D.bK=S.T.C.D.bK:=R.bK.1.trans r.bK;have dS:o.D.er=λ_=> []:=R.bK.2.trans (r.nq.2.trans bA);have e7:o.D.aN<=S.T.C.D.aN+70:=by have h1:o.D.aN<=F.D.aN+64:=R.aN;have:=r.aN;omega
 have fin:∀ (w1:J) (Z:aa->J->Prop),aP ai 81 #[.pointer (some S.st),(3:Int)] w1 (qC S pages L aL aX w)->(∀v w',qC S pages L aL aX w v w'->Z v w')->Calls ai 81 #[.pointer (some S.st),(3:Int)] w1 (λe ah=>∃n:Int,e=.returned n/\Z n ah):=λw1 Z bR cP=>bR.use λv w' hc=>by
  have dT:=hc;obtain⟨aC,r1,bX,ag⟩:=dT;rcases ag with ⟨rfl,bw⟩|⟨rfl,bw⟩
  .exact⟨0,rfl,cP _ _ hc⟩
  .exact⟨3,rfl,cP _ _ hc⟩
 rcases R.il with ⟨rfl,dU,cQ,dV⟩|⟨rfl,dW,dX⟩
 rotate_left
 .have cR:o.D.aZ=S.T.C.D.aZ:=dW.trans bP
  have dY:gf ao (S.at f2 o y) aL aX:=h.togf.wx bi bf U bg (λj b=>by rw[cR];rfl) be λj b=>by rw[ap];exact h.bK j b
  have ac:¬S.T.C.D.quiet:=λa=>by
   rcases dX with h1|h1
   .exact h1 (r.calm 64 (a.1 _))
   .unfold a6.fS at h1
    rw[show((S.T.iO f2).bk F y).C.D.cl.getD 3 0=S.T.C.D.cl.getD 3 0 from bQ,a.2]at h1
    cases h1
  have dZ:dj 100 S (S.at f2 o y) w ao:=dj.at bT U I (λa=>absurd a ac) aE;exact⟨3,rfl,λ_=>fin _ _ (wy dY dZ rfl rfl rfl ac (λj b=>by unfold cn.V;show o.D.aZ.getD j []=_;rw[cR]) (by show o.D.aN<=_;omega) (.inl λj b=>by
   show o.D.dc j=[];rw[R.at_.inv.kH j (by rw[ap];exact h.bK j b),dS])) λ_ _ h=>h,λhx=>(by cases hx)⟩
 have aH:∀j,o.D.dc j=[]:=λj=>by unfold a6.dc;rw[dU];rfl
 have bj:∀j,o.D.aZ.getD j []=if j=no then eA no ⟨4,S.gen+1,fK f2 ((S.T.n+7)/8)⟩ else S.T.C.view j:=λj=>by
  have h1:=HY R.at_ cQ j;rw[vS _ (λx hx=>(R.at_.raw.dev.wn x hx).1),if_pos (aH j)]at h1;rw[←h1,R.view];exact bc j
 have aI:∀j,S.T.g j=true->S.V j=S.T.C.view j:=λj b=>(h.view am b).symm;refine⟨0,rfl,λhx=>(by cases hx),λ_=>⟨_,rfl,_,bf.cell,?_⟩⟩;have cS:=Cw bi;rw[show((S.T.iO f2).bk o y).aY=S.T.aY from rfl]at cS;refine cS.use ?_;rintro _ bV ⟨rfl,bW⟩;have bY:Ext bV bV.drew:=b6 _;have bZ:=(bf.ext bW).ext bY;have d0:IntKind.wrap .u64 ((S.u.cC:Int)+1)=((S.u.cC+1:Nat):Int):=by rw[gN I I];omega
 refine⟨_,_,rfl,aS ⟨λ_=>False,_,rfl,id,_,by rw[aw];exact bZ.cell,_,rfl,id,_,by rw[aw,aw];exact bZ.cell,_,rfl,id,_,by rw[aw];exact bZ.cell,?_⟩⟩;rw[d0];obtain⟨G,ae⟩:∃G:cW,G=⟨S.T.root,S.T.aG,no,S.now,S.u.cC+1,S.keys⟩:=⟨_,rfl⟩;refine⟨G.c.toArray,λe8=>by rw[ae];kernel_rfl,bh (vs:=gD.c) rfl λe9 cT cU e_=>⟨cU,?_⟩⟩;obtain⟨aJ,d1⟩:∃aJ,aJ=bV.drew.heap.size:=⟨_,rfl⟩;rw[←d1]at cT⊢;refine jR cT rfl G λaK d2 d3 fa=>aS ?_;have fb:=bW.size;have fc:=bY.size;have d4:Ext ao aK:=Ext.cu (Ext.trans bW (bY.trans cU)) d3 I;have cV:Ext aK aK.drew:=b6 _;have aO:Ext ao aK.drew:=Ext.trans d4 cV;have b0:=d2.ext cV;have bl:=bf.ext aO;have b2:=bi.ext aO;generalize fd:aK.drew=bn at b0 bl b2 aO⊢;refine⟨_,rfl,id,_,by rw[aw];exact bl.cell,id,gT b0 ⟨_,rfl,id,_,by rw[aw];exact bl.cell,?_⟩⟩;rw[bF];have d5:nA G:=by
  have h1:=h.t.num;have a_:=h.keys;rw[ae];exact⟨by show S.T.root<_;omega,by show S.T.aG<_;omega,by show no<_;omega,aW.1,by show S.u.cC+1<_;omega,by show S.keys<_;omega⟩
 have b3:o.D.n=S.T.n:=R.n.trans (r.n.trans h.t.n);have Q:ec S.T.X bn o:=b2.ca;have cX:=m3 Q.raw.dev I d5 (gen:=S.gen+1) I;rw[U]at cX;refine cX.use ?_;rintro v aQ ⟨ar,b4⟩;have fe:=aO.size;have d6:∀q,c3 o q->q<aJ:=λq a=>by have:=R.at_.raw.lt a;omega
 have d7:=b0.ad ar λhf=>by have:=d6 aJ (.inr (.inr hf));omega
 have d8:¬c3 o S.st:=(bi.ca.inv.fh _ (.inr (.inr (.inl h.es)))).2;have bq:=bl.ad ar λhf=>d8 (.inr (.inr hf));have d9:ab S.W w bn:=ct bT aO λq _ a=>a.elim;have ff:=bT.size;have b5:ab S.W w aQ:=ct d9 ar λq am a=>h.lS<| .inl ((aE q (.inr (.inr a))).resolve_right I)
 have main:∀ (A:a6),b_ aQ A->A.d=o.D.d->kI A o.D->(∀i,2<=i->A.now i=o.D.now i)->(∀q,bD A q->bD o.D q\/bn.heap.size<=q)->(∀j,A.bK j=true->S.T.g j=true)->
  bM aQ ((S.T.iO f2).bk {o with D:=A} y)/\∀q,c3 {o with D:=A} q->c3 S.T.C q\/w.heap.size<=q:=λA al d_ cZ ea c0 b7=>by
  obtain⟨fJ,eb⟩:=H9 Q al d_ cZ ea ar c0;refine⟨b2.C0 fJ (ar.mono λq _ a=>.inr (.inr a)) rfl cZ.1 (cO _ λj b=>(eb j b).trans (R.view j)) λj b=>.inl (b7 j b),λq a=>?_⟩;rcases a with a|a|a
  .exact aE q (.inl a)
  .exact aE q (.inr (.inl a))
  .rcases c0 q a with h1|h1
   .exact aE q (.inr (.inr h1))
   .exact .inr I
 have fg:¬o.D.ro:=λe=>bz λi=>by rw[←ap];exact e i
 have ed:∀j,o.D.bK j=true->S.T.g j=true:=λj b=>by
  rw[ap]at b;exact(h.t.bK j b).resolve_right bz
 have c1:S.T.C.D.quiet->∀k,o.D.calm k:=λa k=>R.calm k (r.calm _ (a.1 _));rcases b4 with ⟨b9,rfl,al⟩|⟨b9,s,ee,bd,O,b4⟩
 .obtain⟨av,aT⟩:=main (o.D.cz 2) al rfl (Q.inv.cz 2) (λi _=>r4 o.D 2 i) (λq a=>.inl a) λj b=>ed j b
  have cb:gf aQ (S.at f2 {o with D:=o.D.cz 2} y) aL aX:=h.togf.wx av bq U bg (λj b=>by
   show o.D.aZ.getD j []=_;rw[bj j,if_neg (λe=>by rw[e,an]at b;cases b),aI j b]) be λj b=>by show o.D.bK j=true;rw[ap];exact h.bK j b
  have ac:¬S.T.C.D.quiet:=λa=>by
   have:=(jL (k:=2) (m:=0) (.inr rfl) Q.raw.dev.f4 (c1 a 1)).2;rw[this]at b9;cases b9
  exact⟨3,rfl,λ_=>fin _ _ (wy cb (dj.at b5 U (by show o.D.aN<=_;omega) (λa=>absurd a ac) aT) rfl rfl rfl ac (λj b=>by
   show o.D.aZ.getD j []=_;rw[bj j,if_neg (λe=>by rw[e,an]at b;cases b),aI j b]) (by show o.D.aN<=_;omega) (.inl λj _=>aH j)) λ_ _ h=>h,λhx=>(by cases hx)⟩
 have c2:∀j,bd.dc j=if j=(S.gen+1)%2 then [eA ((S.gen+1)%2) (jh G o.D.n (S.gen+1))] else []:=λj=>by
  rw[O,Bw,aH,aH];rfl
 have c5:G=⟨S.T.root,S.T.aG,no,S.now,S.u.cC+1,L.length⟩:=by rw[ae,h.keys]
 have c6:∀V:Nat->cJ,(∀j,V j=if j=(S.gen+1)%2 then eA ((S.gen+1)%2) (jh G o.D.n (S.gen+1)) else o.D.aZ.getD j [])->g3 V S.T.n (S.gen+1) G f2 y pages L:=λV dR=>by
  rw[c5];refine Ib h bC dw cq cm du (λx hx=>az x λe=>by
   have:=(h.f x).2 (.inl hx);rw[e,cp]at this;cases this) (by rw[dR,if_pos rfl,c5,b3]) (λj b=>?_) aI
  rw[dR,if_neg b,bj];by_cases e:j=no
  .rw[if_pos e,if_pos e]
  .rw[if_neg e,if_neg e]
   by_cases cc:S.T.g j=true
   .rw[if_pos cc,aI j cc]
   .rw[if_neg cc]
 have br:∀q,bD bd q->bD o.D q\/bn.heap.size<=q:=by rw[O];exact wm ee
 have ef:∀i,2<=i->bd.now i=o.D.now i:=λi hi=>by rw[O,oN,if_neg I]
 have cd:bd.n=o.D.n:=by rw[O];rfl
 have ce:bd.d=o.D.d:=by rw[O];rfl
 have eg:bd.aZ=o.D.aZ:=by rw[O];rfl
 have eh:bd.aN=o.D.aN+1:=by rw[O];rfl
 have c8:S.T.C.D.quiet->bd.cl.getD 3 0= -1:=λa=>by
  rw[O];show(o.D.cl.set 2 _).getD 3 0=_;have bs:=Q.raw.dev.f4;rw[eu (by rw[cY];omega),fA (by decide),←eu (d:=0),dV];rw[show((S.T.iO f2).bk F y).C.D.cl.getD 3 0=S.T.C.D.cl.getD 3 0 from bQ,a.2];rfl
 rcases b4 with ⟨bt,rfl,al⟩|⟨bt,rfl,al⟩
 .obtain⟨A,K⟩:∃A,A=(bd.cz 3).fF S.T.g λj=>if j=(S.gen+1)%2 then [eA ((S.gen+1)%2) (jh G o.D.n (S.gen+1))] else []:=⟨_,rfl⟩
  obtain⟨av,aT⟩:=main A (by rw[K];exact al.fF _ _) (by rw[K];exact ce) ⟨by rw[K];exact cd,λj b=>by rw[ap];exact h.bK j (by rw[K]at b;exact b),λj _=>by rw[K];exact c2 j⟩ (λi hi=>by rw[K];exact ef i hi) (λq a=>by rw[K]at a;exact br q a) λj b=>by rw[K]at b;exact b
  have c9:A.aZ=o.D.aZ:=by rw[K];exact eg
  have fi:A.aN=o.D.aN+1:=by rw[K];exact eh
  have c_:A.d=S.T.C.D.d:=by rw[K];exact ce.trans U
  have b7:∀j,A.dc j=if j=(S.gen+1)%2 then [eA ((S.gen+1)%2) (jh G o.D.n (S.gen+1))] else []:=λj=>by rw[K];exact c2 j
  have da:∀j,S.T.g j=true->A.aZ.getD j []=S.V j:=λj b=>by rw[c9,bj j,if_neg (λe=>by rw[e,an]at b;cases b),aI j b]
  have cb:gf aQ (S.at f2 {o with D:=A} y) aL aX:=h.togf.wx av bq c_ bg da be λj b=>by rw[K];exact b
  have ac:¬S.T.C.D.quiet:=λa=>by
   unfold a6.fS at bt;rw[c8 a]at bt;cases bt
  exact⟨3,rfl,λ_=>fin _ _ (wy cb (dj.at b5 c_ (by show A.aN<=_;omega) (λa=>absurd a ac) aT) rfl rfl rfl ac da (by show A.aN<=_;omega) (.inr ⟨G,f2,y,_,b7,c6 _ λj=>by show(if _ then _ else A.aZ.getD j [])=_;rw[c9],by rw[ae],by rw[ae]⟩)) λ_ _ h=>h,λhx=>(by cases hx)⟩
 have ei:∀j,S.T.n<=j->o.D.aZ.getD j []=[]:=λj b=>by
  rw[eX,iU (by have:o.D.aZ.length=S.T.n:=b3;omega)];rfl
 have db:∀j,o.D.now j=o.D.aZ.getD j []:=λj=>by rw[vS _ (λx hx=>(Q.raw.dev.wn x hx).1),if_pos (aH j)]
 have fj:bd.n=S.T.n:=cd.trans b3;have ej:∀j,(bd.cz 3).ji.aZ.getD j []=if j=(S.gen+1)%2 then eA ((S.gen+1)%2) (jh G o.D.n (S.gen+1)) else o.D.aZ.getD j []:=λj=>by
  show((List.range bd.n).map bd.now).getD j []=_;have fk:16<=bd.n:=by have:16<=o.D.n:=Q.raw.dev.bS;omega
  by_cases b:j<bd.n
  .rw[eu (by simp;exact b),List.getElem_map,List.getElem_range,O,oN,db]
  .rw[eX,iU (by simp;omega),if_neg I,ei j I];rfl
 obtain⟨H,N⟩:∃H,H=(bd.cz 3).ji.fF (λ_=>false) λ_=> []:=⟨_,rfl⟩;have ek:∀j,H.dc j=[]:=λj=>by rw[N];rfl
 have dd:∀j,H.aZ.getD j []=if j=(S.gen+1)%2 then eA ((S.gen+1)%2) (jh G o.D.n (S.gen+1)) else o.D.aZ.getD j []:=λj=>by rw[N];exact ej j
 have el:H.n=o.D.n:=by rw[N];exact(sk (bd.cz 3)).trans cd
 have cf:H.d=S.T.C.D.d:=by rw[N];exact ce.trans U
 obtain⟨av,aT⟩:=main H (by rw[N];exact al.fF _ _) (cf.trans U.symm) ⟨el,λj b=>(by rw[N]at b;cases b),λj b=>(by rw[N]at b;cases b)⟩ (λi hi=>by
  have h1:H.now i=H.aZ.getD i []:=by rw[N];rfl
  rw[h1,dd,if_neg I,db]) (λq a=>by
   rw[N]at a;rcases a with e|e|e|⟨x,hx,e⟩
   .exact br q (.inl e)
   .exact br q (.inr (.inl e))
   .exact br q (.inr (.inr (.inl e)))
   .cases hx) λj b=>(by rw[N]at b;cases b)
 refine⟨0,rfl,λhx=>(by cases hx),λ_=>⟨_,rfl,_,by rw[aw];exact bq.cell,(GB av.s).use ?_⟩⟩;rintro _ aU ⟨rfl,s2,em,aV,de⟩;have ax:=c6 (λj=>H.aZ.getD j []) dd;have en:f2 0=true/\f2 1=true:=⟨(ax.g 0).2 (.inr (.inl (by decide))),(ax.g 1).2 (.inr (.inl (by decide)))⟩;obtain⟨eo,fl⟩:=av.space em aV de (λj b=>by
  have b:H.bK j=true:=b;rw[N]at b;cases b) en
 have fm:=aV.size;have eq:=bq.ad aV (h.t.c7 _ h.es).2.1;have et:=d7.ad aV λhf=>by
  have h1:=h.t.lt (q:=aJ) (.inr (.inr (.inl hf)));omega
 have ev:=eo.fF (s:=f2) (z:=λ_=> []) (λf hf j ew _ _=>by
  have h1:=cQ f hf;unfold Fr.gU at h1;rw[ew]at h1;simpa using h1) (λj _=>ek j) λj b=>.inl b
 obtain⟨fZ,B⟩:∃fZ:aM,fZ=(((S.T.iO f2).bk {o with D:=H} y).wq f2 f2 S.T.s1 s2).bk {o with D:=H.fF f2 λ_=> []} y:=⟨_,rfl⟩;have ex:bM aU fZ:=by rw[B];exact ev
 have bu:Ext aU aU.drew:=b6 _;have df:Var aU.drew S.st (g2 S.T.aY S.T.C.D.d S.T.C.c S.T.sb S.l S.u S.gen S.now S.first S.pending S.keys S.failed) 158:=eq.ext bu;have ey:=et.ext bu;have ez:=ex.ext bu;have bv:fZ.E=S.T.E:=by rw[B];rfl
 refine⟨rfl,aS ⟨λ_=>False,id,gT ey ⟨_,rfl,id,_,by rw[aw];exact df.cell,_,rfl,?_⟩⟩⟩;rw[aw,cA,bF];refine Ie df G λdg dk dl=>?_;have eB:=ez.jS (by rw[bv];exact h.es) dl;obtain⟨bx,bG⟩:=dF dk (i:=13) (by simp[g2]);have dm:=dM dk (i:=13) (.int .u64 ((S.gen+1:Nat):Int));have eD:=dp dg S.st 13 (.int .u64 ((S.gen+1:Nat):Int));refine⟨_,rfl,by rw[aw];exact bx,by rw[aw];exact bG,aS ?_⟩;rw[aw,cA];obtain⟨eE,eF⟩:=dF dm (i:=16) (by simp[g2]);have dn:=dM dm (i:=16) (0:Int);have ch:=eD.trans (dp _ S.st 16 (0:Int));refine⟨_,rfl,by rw[aw];exact eE,by rw[aw];exact eF,aS ?_⟩;rw[aw,cA];generalize (dg.setCell ⟨S.st,13,none⟩ (.int .u64 ((S.gen+1:Nat):Int))).setCell ⟨S.st,16,none⟩ (0:Int)=dq at dn ch⊢;have eG:=eB.jS (by rw[bv];exact h.es) ch;have ci:Ext dq dq.drew:=b6 _;have cj:=dn.ext ci;have eH:=eG.ext ci;refine aS ⟨_,rfl,id,_,cj.cell,_,rfl,id,_,by rw[aw];exact cj.cell,?_⟩;have eJ:IntKind.wrap .u64 (((S.gen+1:Nat):Int)+1)=((S.gen+2:Nat):Int):=by rw[gN I I];omega
 rw[eJ];have fn:fZ.gen=S.gen+1:=by rw[B];exact dx
 have dr:fZ.aY=S.T.aY:=by rw[B];rfl
 have ds:=Ia eH (gen:=S.gen+2) I I;rw[dr]at ds;refine ds.use ?_;rintro _ eK ⟨rfl,eL,dt⟩;have eM:=cj.ad dt (h.t.c7 _ h.es).1;have eN:∀q,(fZ.mF (S.gen+2)).M q->S.T.M q\/w.heap.size<=q:=λq a=>by
  rw[B]at a;rcases a with a|a|a|a
  .exact(aT q a).imp .inl id
  .exact .inl (.inr (.inl a))
  .rcases de q a with h1|h1
   .exact .inl (.inr (.inr (.inl h1)))
   .have:=ar.size;exact .inr I
  .exact .inl (.inr (.inr (.inr a)))
 refine⟨rfl,⟨S.st,fZ.mF (S.gen+2),S.l,G,S.gen+1,S.now,S.first,0,S.keys,S.failed⟩,⟨rfl,?_,by rw[B];rfl,rfl,?_,λa=>?_,?_,eN,bv,by rw[B];rfl⟩,rfl,.inl ⟨rfl,⟨⟨?_,eL,?_,?_,rfl,?_,?_⟩,?_,h.bm,?_,?_,h.gb,h.keys,cE _,λ_=>⟨?_,?_,?_⟩,λhf=>?_⟩,am,rfl,by rw[ae],by rw[ae],rfl⟩⟩
 .rw[B];exact cf
 .rw[B];show H.aN<=_;rw[N];show bd.aN<=_;omega
 .rw[B]
  show a6.quiet (H.fF _ _);rw[N];refine⟨λk=>sm bd ?_,?_⟩
  .have bs:=(jL (k:=2) (m:=k) (.inr rfl) Q.raw.dev.f4 (c1 a (k+1))).1
   rw[O];exact bs
  .show(bd.cl.set 3 (gA (bd.cl.getD 3 0)).2).getD 3 0= -1
   have bs:=Q.raw.dev.f4;have fo:bd.cl.length=4:=by rw[O];show(o.D.cl.set 2 _).length=4;rw[cY];exact bs
   rw[c8 a,eu (by rw[cY];omega),hJ];rfl
 .have hs:∀q,q=S.st->S.W q:=λq e=>by rw[e];exact h.wv
  have au:ab S.W w aU:=ct b5 aV λq _ a=>h.lS (.inr (.inr (.inl a)));have eO:=ct au bu λq _ a=>a.elim;have eP:=ct eO dl λq _ a=>hs q a;have eQ:=ct eP ch λq _ a=>hs q a;have eT:=ct eQ ci λq _ a=>a.elim;exact ct eT dt λq _ a=>h.lS (.inr (.inl a))
 .show Var eK S.st (g2 fZ.aY fZ.C.D.d fZ.C.c fZ.sb _ _ _ _ _ _ _ _) _
  rw[dr,show fZ.C.D.d=S.T.C.D.d by rw[B];exact cf,show fZ.C.c=S.T.C.c by rw[B];exact bg,show fZ.sb=S.T.sb by rw[B];rfl];exact eM
 .show fZ.E S.st
  rw[bv];exact h.es
 .rw[B];exact ax
 .refine⟨aW.1,aW.2.1,?_,by show S.gen+1+2<_;omega,aW.2.2.2.2⟩
  show G.cC+1<=S.gen+1;rw[ae];show S.u.cC+1+1<=_;omega
 .intro j b
  have b:fZ.g j=true:=b;show fZ.C.D.bK j=true;rw[B]at b⊢;exact b
 .refine h.ok.agree (by rw[B];rfl) (by rw[B];rfl) λx hx=>?_
  rw[B];exact(az x λe=>by
   have:=(h.f x).2 (.inl hx);rw[e,cp]at this;cases this).symm
 .intro j
  have:(fZ.mF (S.gen+2)).f j=f2 j:=by rw[B];rfl
  rw[this];exact ax.g j
 .intro x hx
  exact⟨(ax.two x hx).1,(ax.two x hx).2.1⟩
 .intro e
  have h1:=e S.T.n;have a_:(fZ.mF (S.gen+2)).C.D.bK S.T.n=f2 S.T.n:=by rw[B];rfl
  rw[a_,cx.pf S.T.n (bo _)]at h1;cases h1
 .rw[B];rfl
 .have eU:f2 S.u.map=false:=by rw[bC];unfold dh;rw[if_pos rfl]
  have h1:=sd (s:=λi=>f2 i||f2 i) (t:=dh (λi=>f2 i||f2 i) S.u.map true) (k:=S.u.map) (by simp[eU]) (by simp[dh]) (λi hi=>by simp[dh,hi]) (n:=S.T.n) co.2.2.2.1;have a_:=my (dh (λi=>f2 i||f2 i) S.u.map true) S.T.n;have fp:cg (fZ.mF (S.gen+2))=S.T.n-eS (λi=>f2 i||f2 i) S.T.n:=by rw[B];rfl
  show 1<=cg (fZ.mF (S.gen+2));omega
 .have hf:S.failed=true:=hf
  rw[am]at hf;cases hf
end
theorem C2(a b:Int)(w:J)(T:TypeId)(k:IntKind):Sem.run ai (Builtin.max_ #[T,T] T #[.int k a,.int k b]) w=.ok (.int k (max a b)) w:=by
 simp only[Builtin.max_];unfold Builtin.max2;simp;split<;>omega
theorem dj.trans{S aC c:cn}{w w' e:J}{k l:Nat}(h1:dj k S aC w w')(a:dj l aC c w' e):dj (k+l) S c w e:=
 ⟨a.st.trans h1.st,a.d.trans h1.d,a.n.trans h1.n,a.l.trans h1.l,by have:=h1.aN;have:=a.aN;omega,λh=>a.q (h1.q h),ct h1.ad a.ad λq g b=>h1.back g b,λq b=>by
  have:=h1.ad.size
  rcases a.c4 q b with f|f
  .exact h1.c4 q f
  .exact .inr I,a.E.trans h1.E,a.G.trans h1.G⟩
theorem dj.mono{S aC:cn}{w w':J}{k l:Nat}(h:dj k S aC w w')(a:k<=l):dj l S aC w w':={h with aN:=by have:=h.aN;omega}
theorem dj.ext{w w':J}(S:cn)(h:Ext w w'):dj 0 S S w w':=⟨rfl,rfl,rfl,rfl,bo _,λh=>h,h.mono λ_ _ h=>h.elim,λq a=>.inl a,rfl,rfl⟩
section
variable {w w' w1:J}{T:aM}{S aC fx:cn}{pages aL:O Nat}{L aX:O aJ}
theorem gf.ext(h:gf w S aL aX)(hx:Ext w w'):gf w' S aL aX:=⟨h.v.ext hx,h.t.ext hx,h.es,h.fL,h.gen,h.num,h.bK⟩
theorem di.ext(h:di w S pages L aL aX)(hx:Ext w w'):di w' S pages L aL aX:=⟨h.togf.ext hx,h.ok,h.bm,h.f,h.two,h.gb,h.keys,h.du,h.live,h.dead⟩
theorem di.jS{kK:Nat}(h:di w S pages L aL aX)(a:S.T.E kK)(hs:kK≠S.st)(hc:ab (λq=>q=kK) w w'):di w' S pages L aL aX:=
 ⟨⟨h.v.ad hc λe=>hs e.symm,h.t.jS a hc,h.es,h.fL,h.gen,h.num,h.bK⟩,h.ok,h.bm,h.f,h.two,h.gb,h.keys,h.du,h.live,h.dead⟩
def gE(S:cn):Nat:=cg S.T-2*S.T.aG-4
theorem y1(h:di w S pages L aL aX):aP ai 82 #[.pointer (some S.st)] w (λv w'=>v=.int .i64 (gE S:Nat)/\Ext w w'):=by
 refine okF (af.um (some S.st)) ay.um func82 ?_;(delta af.um eI aA av;dsimp only);refine⟨_,rfl,_,h.v.cell,(Cw h.t).use ?_⟩;rintro _ e ⟨rfl,a⟩;refine⟨_,_,rfl,_,rfl,_,by rw[aw];exact(h.v.ext a).cell,(yn (h.t.ext a).s).use ?_⟩;rintro _ b ⟨rfl,c⟩;have j:=h.t.s.bp;have k:=h.t.num.2.1;have l:=my (λi=>S.T.f i||S.T.g i) S.T.n;have d:(S.T.n:Int)-eS (λi=>S.T.f i||S.T.g i) S.T.n=((cg S.T:Nat):Int):=by unfold cg;omega
 have m:cg S.T<=S.T.n:=Nat.sub_le _ _;rw[d,bu (n:=2*(S.T.aG:Int)) I I];refine⟨_,rfl,_,b,C2 _ _ b _ _,?_,Ext.trans a c⟩;rw[bu (n:=((cg S.T:Nat):Int)-2*(S.T.aG:Int)) I I,bu I I];unfold gE
 congr 1
 omega
theorem Ig(h:di w S pages L aL aX):aP ai 58 #[.pointer (some S.st)] w (λv w'=>v=.int .i64 (gE S:Nat)/\Ext w w'):=by
 refine okF (af.xw (some S.st)) ay.xw func58 ?_;refine⟨λa=>(by cases a),λ_=>(y1 h).use ?_⟩;rintro _ w1 ⟨rfl,hx⟩;exact⟨_,rfl,rfl,hx⟩
end
def jj(c:Prop)(S aC:cn)(pages:O Nat)(L:O aJ)(aL:O Nat)(aX:O aJ)(v:aa)(w':J):Prop:=
 (v=.int .i64 0/\c/\di w' aC pages L pages L/\aC.failed=false/\aC.gen=S.gen+1/\aC.u.clock=S.now/\aC.u.cC=S.u.cC+1/\aC.pending=0)\/
 (v=.int .i64 3/\¬S.T.C.D.quiet/\di w' aC aL aX aL aX/\aC.failed=true/\aC.u=S.u/\aC.gen=S.gen/\(∀j,S.T.g j=true->aC.V j=S.V j)/\((∀j,S.T.g j=true->aC.T.C.D.er j=[])\/(c/\C1 aC S.gen S.T.g pages L S.now (S.u.cC+1))))
theorem qC.x{c:Prop}{S:cn}{pages aL:O Nat}{L aX:O aJ}{w w':J}{v:aa}(h:qC S pages L aL aX w v w')(hc:c):∃aC,dj 100 S aC w w'/\aC.now=S.now/\jj c S aC pages L aL aX v w':=by
 obtain⟨aC,h1,a,b⟩:=h;refine⟨aC,h1,a,?_⟩;rcases b with ⟨a1,a2,a3⟩|⟨a1,a2,a3,a4,a5,c1,dx,c2⟩
 .exact .inl ⟨a1,hc,a2,a3⟩
 .exact .inr ⟨a1,a2,a3,a4,a5,c1,dx,.inr ⟨hc,c2⟩⟩
theorem jj.val{c:Prop}{S aC:cn}{pages aL:O Nat}{L aX:O aJ}{w':J}{v:aa}(h:jj c S aC pages L aL aX v w'):∃n:Int,v=n:=by
 rcases h with ⟨a,_⟩|⟨a,_⟩<;>exact⟨_,a⟩
def mG(S aC:cn)(pages:O Nat)(L:O aJ)(aL:O Nat)(aX:O aJ)(v:aa)(w':J):Prop:=
 (v=.int .i64 0/\S.pending+1<S.l.batch/\di w' aC pages L aL aX/\aC.failed=false/\aC.gen=S.gen/\aC.u=S.u/\aC.pending=S.pending+1/\aC.first=(if S.pending=0 then S.now else S.first)/\∀j,S.T.g j=true->aC.V j=S.V j)\/
 jj (S.l.batch<=S.pending+1) S aC pages L aL aX v w'
section
variable {w w' w1:J}{T:aM}{S aC fx:cn}{pages aL:O Nat}{L aX:O aJ}
theorem Ih{d:Int}(b:gf w S aL aX)(y:S.failed=false)(ok:gj S.T pages L)(bm:pages.Nodup)(f:∀no,S.T.f no=true↔no∈pages\/no<2\/no=S.u.map)(two:∀x∈pages,2<=x/\x≠S.u.map)(gb:∀p∈L,cB p.1/\p.2.length<=24)
 (Y:¬S.T.C.D.ro/\S.T.C.D.er=(λ_=> [])/\1<=cg S.T) (Z:(S.keys:Int)+d=L.length) (ax:S.pending<1000) (aa:L.length<4096) (az:S.keys<100000) (ac:S.T.C.D.aN<=800000000) (ad:S.gen<=1000000000):
 aP ai 84 #[.pointer (some S.st),d] w (λv w'=>∃aC,dj 100 S aC w w'/\aC.now=S.now/\mG S aC pages L aL aX v w'):=by
 refine okF (af.uq (some S.st) d) ay.uq func84 ?_;(delta af.uq r1 st av ak bw aA;dsimp only);have O:=b.num;have aB:S.T.M S.st:=.inr (.inr (.inr (.inl b.es)));obtain⟨au,ae,g,z,A⟩:=b.set (i:=17) (x:=L.length) (by decide);refine⟨_,rfl,_,by rw[aw];exact b.v.cell,_,rfl,by rw[aw];exact au,by rw[aw];exact ae,aS ?_⟩;rw[aw,cA,Z,bu (n:=(L.length:Int)) I I];generalize aD:w.setCell ⟨S.st,17,none⟩ L.length=ah at g z A⊢;obtain⟨o,t⟩:∃o,o=if S.pending=0 then S.now else S.first:=⟨_,rfl⟩
 refine hL (λk=>Var k S.st (g2 S.T.aY S.T.C.D.d S.T.C.c S.T.sb S.l S.u S.gen S.now o S.pending L.length S.failed) 158/\bM k S.T/\ab (λq=>q=S.st) w k) (λaE P=>?_) ?_
 .refine⟨_,rfl,_,by rw[aw];exact g.cell,λB=>?_,λB=>P _ ⟨?_,z,A⟩⟩
  .have h0:S.pending=0:=by
    have:(S.pending:Int)=0:=by simpa using B
    omega
   obtain⟨E,F⟩:=dF g (i:=15) (by simp[cn.cells,g2]);have aj:=dM g (i:=15) (.int .u64 (S.now:Int));have Q:=dp ah S.st 15 (.int .u64 (S.now:Int));refine⟨_,rfl,_,by rw[aw];exact g.cell,_,rfl,by rw[aw];exact E,by rw[aw];exact F,aS (P _ ⟨?_,?_,?_⟩)⟩
   .rw[aw,cA,t,if_pos h0];exact aj
   .rw[aw,cA];exact z.jS b.es Q
   .rw[aw,cA];exact A.trans Q
  .have h0:¬S.pending=0:=by
    have:¬(S.pending:Int)=0:=by simpa using B
    omega
   rw[t,if_neg h0];exact g
 rintro k ⟨G,al,am⟩;obtain⟨E,F⟩:=dF G (i:=16) (by simp[g2]);have R:=dM G (i:=16) (.int .i64 ((S.pending+1:Nat):Int));have H:=dp k S.st 16 (.int .i64 ((S.pending+1:Nat):Int));have an:IntKind.wrap .i64 ((S.pending:Int)+1)=((S.pending+1:Nat):Int):=by rw[bu I I];omega
 refine⟨_,rfl,_,by rw[aw];exact G.cell,_,rfl,by rw[aw];exact E,by rw[aw];exact F,aS ?_⟩;rw[aw,cA,an];have U:=al.jS b.es H;generalize aF:k.setCell ⟨S.st,16,none⟩ (.int .i64 ((S.pending+1:Nat):Int))=r at R H U⊢;have J:Ext r r.drew:=b6 _;have K:=R.ext J;have ao:=U.ext J;have ap:ab (λq=>q=S.st) w r.drew:=ct (am.trans H) J λq _ N=>N.elim;obtain⟨m,a⟩:∃m:cn,m={S with first:=o,pending:=S.pending+1,keys:=L.length}:=⟨_,rfl⟩;have aq:o<=S.now:=by rw[t];split<;>omega
 have V:di r.drew m pages L aL aX:=by
  rw[a];exact⟨⟨K,ao,b.es,b.fL,b.gen,⟨O.1,aq,O.2.2⟩,b.bK⟩,ok,bm,f,two,gb,rfl,by show S.pending+1<=1000;omega,λ_=>Y,λhf=>by have hf:S.failed=true:=hf;rw[y]at hf;cases hf⟩
 have W:dj 0 S m w r.drew:=by
  rw[a];exact⟨rfl,rfl,rfl,rfl,bo _,λh=>h,ap.mono λq _ e=>by rw[e];exact b.wv,λq N=>.inl N,rfl,rfl⟩
 refine aS ⟨_,rfl,id,_,by rw[aw];exact K.cell,_,rfl,id,_,by rw[aw,aw];exact K.cell,λs=>?_,λs=>?_⟩
 .have s:((S.pending+1:Nat):Int)>=(S.l.batch:Int):=b2 s
  have X:=y0 V (by rw[a];exact y) aa (by rw[a];exact ac) (by rw[a];exact ad);rw[show m.st=S.st by rw[a]]at X;refine X.use ?_;intro v aG ar;obtain⟨aC,r1,bX,ag⟩:=ar.x (c:=S.l.batch<=S.pending+1) I;obtain⟨n,rfl⟩:=ag.val;refine⟨n,rfl,aC,(W.trans r1).mono I,by rw[bX,a],.inr ?_⟩;rw[a]at ag;exact ag
 .have s:¬((S.pending+1:Nat):Int)>=(S.l.batch:Int):=cr s
  exact⟨m,W.mono I,by rw[a],.inl ⟨rfl,I,V,by rw[a];exact y,by rw[a],by rw[a],by rw[a],by rw[a];exact t,λj _=>by rw[a];rfl⟩⟩
theorem y2(h:di w S pages L aL aX)(a:L.length<4096)(b:S.T.C.D.aN<=800000000)(d:S.gen<=1000000000):
 aP ai 34 #[.pointer (some S.st)] w (λv w'=>(S.failed=true/\v=.int .i64 8/\w=w')\/(S.failed=false/\∃aC,dj 100 S aC w w'/\aC.now=S.now/\jj True S aC pages L aL aX v w')):=by
 refine okF (af.tZ (some S.st)) ay.tZ func34 ?_;(delta af.tZ ak bc aA;dsimp only);refine⟨λe=>(by cases e),λ_=>⟨_,rfl,S.failed,by rw[aw];exact h.v.cell,λhf=>.inl ⟨hf,rfl,rfl⟩,λhf=>(y0 h hf a b d).use ?_⟩⟩;intro v w' f;obtain⟨aC,r1,bX,ag⟩:=f.x (c:=True) trivial;obtain⟨n,rfl⟩:=ag.val;exact⟨n,rfl,.inr ⟨hf,aC,r1,bX,ag⟩⟩
end
section
variable {w w' w1:J}{T ao:aM}{S aC fx:cn}{pages aL:O Nat}{L aX:O aJ}{k:Nat}
def cn.b5(S:cn)(ao:aM):cn:={S with T:=ao}
theorem gf.to(h:gf w S aL aX)(ht:bM w' ao)(a:bO S.T ao w w' k)(f:ao.E=S.T.E)(l:ao.G=S.T.G)(o:∀no,S.T.g no=true->ao.P no=S.T.P no):
 gf w' (S.b5 ao) aL aX/\dj k S (S.b5 ao) w w'/\(S.b5 ao).V=S.V:=by
 have r:ao.C.D.aZ=S.T.C.D.aZ:=congrArg (λp=>p.1.1) a.aZ;have s:ao.C.D.cl.getD 3 0=S.T.C.D.cl.getD 3 0:=congrArg Prod.snd a.aZ;have i:(S.b5 ao).V=S.V:=by
  funext j;show ao.C.D.aZ.getD j []=S.T.C.D.aZ.getD j [];rw[r]
 refine⟨⟨?_,ht,by show ao.E S.st;rw[f];exact h.es,?_,a.gen.trans h.gen,h.num,λj b=>?_⟩,⟨rfl,a.d,a.n,rfl,a.aN,λe=>⟨λm=>a.calm m (e.1 _),s.trans e.2⟩,a.ad.mono λq _ e=>h.lS e,a.c4,f,l⟩,i⟩
 .show Var w' S.st (g2 ao.aY ao.C.D.d ao.C.c ao.sb _ _ _ _ _ _ _ _) _
  rw[a.aY,a.d,a.c,a.sb];exact h.v.ad a.ad (h.t.jd h.es)
 .show g3 _ ao.n _ _ ao.g ao.P _ _
  rw[i,a.n,a.g];exact h.fL.agree (λ_ _=>rfl) λx hx=>(o x ((h.fL.g x).2 (.inl hx))).symm
 .have b:ao.g j=true:=b
  rw[a.g]at b;show ao.C.D.bK j=true;rw[a.bK.1];exact h.bK j b
theorem bO.ro(h:bO T ao w w' k):ao.C.D.ro↔T.C.D.ro:=by unfold a6.ro;rw[h.bK.1]
theorem di.to(h:di w S pages L aL aX)(ht:bM w' ao)(a:bO S.T ao w w' k)(c:ao.E=S.T.E)(d:ao.G=S.T.G)(b:jg S.T ao):
 di w' (S.b5 ao) pages L aL aX/\dj k S (S.b5 ao) w w'/\(S.b5 ao).V=S.V:=by
 obtain⟨h1,i,j⟩:=h.togf.to ht a c d λno l=>(b.eG no (by rw[l,Bool.or_true])).1;have m:cg ao=cg S.T:=by unfold cg;rw[a.n,b.f,a.g]
 refine⟨⟨h1,b.ok h.ok λx hx=>(h.f x).2 (.inl hx),h.bm,λno=>by show ao.f no=true↔_;rw[b.f];exact h.f no,h.two,h.gb,h.keys,h.du,λhf=>?_,λhf=>?_⟩,i,j⟩
 .obtain⟨a1,a2,a3⟩:=h.live hf
  exact⟨λe=>a1 (a.ro.1 e),a.bK.2.trans a2,by show 1<=cg ao;rw[m];exact a3⟩
 .obtain⟨a1,a2⟩:=h.dead hf
  exact⟨a.ro.2 a1,a2⟩
theorem Ii{n:Nat}(h:di w S pages L aL aX)(P:n<18446744073709551616)(B:L.length<4096)(E:S.T.C.D.aN<=800000000)(F:S.gen<=1000000000):
 aP ai 51 #[.pointer (some S.st),.int .u64 (n:Nat)] w (λv w'=>∃aC,dj 100 S aC w w'/\aC.now=max S.now n/\
  ((v=.int .i64 0/\(S.pending=0\/max S.now n-S.first<S.l.ef)/\di w' aC pages L aL aX/\aC={S with now:=max S.now n})\/
   (S.failed=false/\jj (S.pending≠0/\S.l.ef<=max S.now n-S.first) {S with now:=max S.now n} aC pages L aL aX v w'))):=by
 refine okF (af.uc (some S.st) (n:Nat)) ay.uc func51 ?_;(delta af.uc ak bw st r1 aA;dsimp only);have G:=h.num;have Q:S.T.M S.st:=.inr (.inr (.inr (.inl h.es)));have H:max (S.now:Int) (n:Int)=((max S.now n:Nat):Int):=by omega
 obtain⟨au,J,t,u,y⟩:=h.set (i:=14) (x:=.int .u64 ((max S.now n:Nat):Int)) (by decide);refine⟨λa=>(by cases a),λ_=>⟨_,rfl,_,by rw[aw];exact h.v.cell,_,w,C2 _ _ w _ _,_,rfl,by rw[aw];exact au,by rw[aw];exact J,aS ?_⟩⟩;rw[aw,cA,H];generalize w.setCell ⟨S.st,14,none⟩ (.int .u64 ((max S.now n:Nat):Int))=g at t u y⊢;have k:Ext g g.drew:=b6 _;have j:=t.ext k;have K:ab (λq=>q=S.st) w g.drew:=ct y k λq _ m=>m.elim;obtain⟨b,d⟩:∃b:cn,b={S with now:=max S.now n}:=⟨_,rfl⟩;rw[←d];have o:di g.drew b pages L aL aX:=by
  rw[d];exact⟨⟨j,u.ext k,h.es,h.fL,h.gen,⟨by show max S.now n<_;omega,by show S.first<=max S.now n;omega,G.2.2⟩,h.bK⟩,h.ok,h.bm,h.f,h.two,h.gb,h.keys,h.du,h.live,h.dead⟩
 have p:dj 0 S b w g.drew:=by
  rw[d];exact⟨rfl,rfl,rfl,rfl,bo _,λh=>h,K.mono λq _ e=>by rw[e];exact h.wv,λq m=>.inl m,rfl,rfl⟩
 have r:b.now=max S.now n:=by rw[d]
 refine aS ⟨_,rfl,id,_,by rw[aw];exact j.cell,λs=>⟨λ_=>?_,λa=>(by cases a)⟩,λs=>?_⟩
 .have h0:S.pending=0:=by
   have:(S.pending:Int)=0:=by simpa using s
   omega
  exact⟨b,p.mono I,r,.inl ⟨rfl,.inl h0,o,rfl⟩⟩
 .have h0:¬S.pending=0:=by
   have:¬(S.pending:Int)=0:=by simpa using s
   omega
  have z:S.failed=false:=by
   cases hf:S.failed with
   |false=>rfl
   |true=>exact absurd (h.dead hf).2.2.2 h0
  have N:IntKind.wrap .u64 (((max S.now n:Nat):Int)-(S.first:Int))=((max S.now n-S.first:Nat):Int):=by rw[gN I I];omega
  refine⟨_,rfl,id,_,by rw[aw];exact j.cell,_,rfl,id,_,by rw[aw];exact j.cell,_,rfl,id,_,by rw[aw,aw];exact j.cell,?_⟩;rw[N];refine⟨λa=>?_,λa=>?_⟩
  .have a:((max S.now n-S.first:Nat):Int)<(S.l.ef:Int):=b2 a
   exact⟨b,p.mono I,r,.inl ⟨rfl,.inr I,o,rfl⟩⟩
  .have a:¬((max S.now n-S.first:Nat):Int)<(S.l.ef:Int):=cr a
   have A:=y0 o (by rw[d];exact z) B (by rw[d];exact E) (by rw[d];exact F);rw[show b.st=S.st by rw[d]]at A;refine A.use ?_;intro v R O;obtain⟨aC,r1,bX,ag⟩:=O.x (c:=S.pending≠0/\S.l.ef<=max S.now n-S.first) ⟨h0,I⟩;obtain⟨n,rfl⟩:=ag.val;exact⟨n,rfl,aC,(p.trans r1).mono I,bX.trans r,.inr ⟨z,ag⟩⟩
theorem C3{tk:U}{key:Key}(h:di w S pages L aL aX)(b:S.T.C.D.aN<=800000000)(c:Src 1 w tk (aF key))(d:∀q,az tk q->q<w.heap.size/\¬S.T.M q):
 aP ai 55 #[.pointer (some S.st),tk] w (λv w'=>∃aE,di w' (S.b5 (S.T.bk aE S.T.P)) pages L aL aX/\dj 30 S (S.b5 (S.T.bk aE S.T.P)) w w'/\yH S.T L key w v w'):=by
 refine okF (af.ud (some S.st) tk) ay.ud func55 ?_;(delta af.ud ak jI;dsimp only);refine⟨λe=>(by cases e),λ_=>⟨_,rfl,_,h.v.cell,(yI h.t h.ok b c d).use ?_⟩⟩;intro v w' a;have f:=a;obtain⟨aE,h1,g,i,j⟩:=a;obtain⟨a1,a2,_⟩:=h.to h1 g rfl rfl (.bk i);have fin:(λv w'=>∃aE,di w' (S.b5 (S.T.bk aE S.T.P)) pages L aL aX/\dj 30 S (S.b5 (S.T.bk aE S.T.P)) w w'/\yH S.T L key w v w') v w':=⟨aE,a1,a2,f⟩;rcases j with ⟨rfl,_⟩|⟨t,x,rfl,_⟩|⟨rfl,_⟩
 .exact⟨⟨none,0,0⟩,_,_,rfl,fin⟩
 .exact⟨t,_,_,rfl,fin⟩
 .exact⟨⟨none,0,0⟩,_,_,rfl,fin⟩
end
theorem y3(k v:Key):∀L:O aJ,(eO L k v).length=(en L k).length+1
 | []=>rfl
 |p::L=>by
  have c:=y3 k v L
  unfold eO en at c⊢
  simp only[cx,eU,pe]at c⊢
  by_cases h1:bH p.1 k
  .have a:¬bH k p.1:=j4 h1
   have b:p.1≠k:=λe=>by rw[e]at h1;exact j4 h1 h1
   rw[if_pos (dw h1),if_neg (by simpa using a),if_pos (dw b)]
   simp only[eU];omega
  .by_cases a:bH k p.1
   .have b:p.1≠k:=λe=>h1 (by rw[e]at a;exact absurd a (λh=>j4 h h))
    rw[if_neg (by simpa using h1),if_pos (dw a),if_pos (dw b)]
    simp only[eU];omega
   .have b:p.1=k:=by
     rcases vr p.1 k with h|h|h
     .exact absurd h h1
     .exact h
     .exact absurd h a
    rw[if_neg (by simpa using h1),if_neg (by simpa using a),if_neg (by simpa using b)];omega
theorem sq{k:Key}:∀ {L:O aJ},gJ L->L.length=(en L k).length+(if ei L k=none then 0 else 1)
 | [],_=>rfl
 |p::L,h=>by
  have h0:=jD.1 h
  have f:=sq (k:=k) h0.2
  by_cases e:p.1=k
  .have h1:∀q∈L,q.1≠k:=λq c d=>by
    have:=h0.1 q c
    rw[e,d]at this
    exact j4 this this
   have a:en (p::L) k=L:=by
    have:en (p::L) k=en L k:=by unfold en;rw[pe];simp[e]
    rw[this,ox h1]
   have b:ei (p::L) k≠none:=by unfold ei;simp[e]
   rw[a,if_neg b];rfl
  .have a:(en (p::L) k).length=(en L k).length+1:=by unfold en;rw[pe];simp[e]
   have b:ei (p::L) k=ei L k:=by unfold ei;simp[e]
   rw[a,b,eU];omega
section
variable {w w' w1:J}{T ao:aM}{S aC bW:cn}{pages aL:O Nat}{L aX:O aJ}{k:Nat}
structure kj(S bW:cn):Prop where
 u:bW.u=S.u
 gen:bW.gen=S.gen
 now:bW.now=S.now
 first:bW.first=S.first
 pending:bW.pending=S.pending
 l:bW.l=S.l
 g:bW.T.g=S.T.g
 V:bW.V=S.V
theorem jj.back{c:Prop}{v:aa}(h:jj c bW aC pages L aL aX v w')(e:kj S bW)(d:dj k S bW w w1):jj c S aC pages L aL aX v w':=by
 unfold jj at h⊢;rw[e.u,e.gen,e.now,e.g,e.V]at h;exact h.imp id λ⟨a,b,c⟩=>⟨a,λf=>b (d.q f),c⟩
theorem mG.back{v:aa}(h:mG bW aC pages L aL aX v w')(e:kj S bW)(a:dj k S bW w w1):mG S aC pages L aL aX v w':=by
 unfold mG at h⊢;have:=λh=>jj.back (pages:=pages) (L:=L) (aL:=aL) (aX:=aX) (c:=S.l.batch<=S.pending+1) (v:=v) (aC:=aC) (w':=w') h e a;rw[e.pending,e.l,e.gen,e.u,e.now,e.first,e.g,e.V]at h;exact h.imp id this
theorem sr(b:gf w1 bW aL aX)(d:dj k S bW w w1)(e:kj S bW)(h:¬S.T.C.D.quiet)(i:bW.T.C.D.er=λ_=> [])(l:bW.T.C.D.aN<=900000000):
 aP ai 81 #[.pointer (some S.st),(3:Int)] w1 (λv w'=>v=.int .i64 3/\∃aC,dj k S aC w w'/\aC.now=S.now/\∀c pages L,jj c S aC pages L aL aX v w'):=by
 have hf:=CZ b 3 l;rw[d.st]at hf;refine hf.mono ?_;rintro v w' ⟨rfl,aC,hs,hd,a⟩;refine⟨rfl,aC,d.trans hd,a.now.trans e.now,λc pages L=>.inr ⟨rfl,h,hs,a.failed,a.u.trans e.u,a.gen.trans e.gen,λj f=>?_,.inl λj f=>?_⟩⟩
 .rw[←e.V];unfold cn.V;rw[a.V]
 .rw[a.sa j,b.t.ca.inv.kH j (b.bK j (by rw[e.g];exact f)),i]
theorem di.C4{bZ:aM}{dY:O aJ}{d:Int}(h:di w S pages L aL aX)(hf:S.failed=false)(o:bM w' bZ)(c:bO S.T bZ w w' k)(q:bZ.E=S.T.E)(r:bZ.G=S.T.G)(s:Cn S.T bZ pages dY)(X:2*S.T.aG+5<=cg S.T)(t:∀p∈dY,cB p.1/\p.2.length<=24)(hd:(S.keys:Int)+d=dY.length)(y:dY.length<4096)(Y:S.keys<4096)(z:S.pending<1000)(Z:S.T.C.D.aN+k<=800000000)(A:S.gen<=1000000000):
 aP ai 84 #[.pointer (some S.st),d] w' (λv l=>(∃n:Int,v=n)/\∃aC eE,dj (k+100) S aC w l/\aC.now=S.now/\mG S aC eE dY aL aX v l):=by
 obtain⟨⟨eE,aa,B,c6,F,H⟩,I⟩:=s;obtain⟨J,m,K⟩:=h.togf.to o c q r λno M=>(I no M).1;have N:kj S (S.b5 bZ):=⟨rfl,rfl,rfl,rfl,rfl,rfl,c.g,K⟩;obtain⟨P,Q,_⟩:=h.live hf;have R:∀j,j<2\/j=S.u.map->j∉pages:=λj i U=>by
  have:=h.two j U;rcases i with i|i
  .omega
  .exact this.2 i
 refine(Ih (d:=d) J hf B c6 (λno=>(H no).trans ?_) (λx hx=>?_) t ⟨λe=>P (c.ro.1 e),c.bK.2.trans Q,by show 1<=cg bZ;omega⟩ hd z y (by show S.keys<_;omega) (by have:=c.aN;show bZ.C.D.aN<=_;omega) A).mono ?_
 .rw[h.f no]
  constructor
  .rintro(h1|⟨h1|h1,b⟩)
   .exact .inl h1
   .exact absurd h1 b
   .exact .inr h1
  .rintro(h1|h1)
   .exact .inl h1
   .exact .inr ⟨.inr h1,R no h1⟩
 .rcases F x hx with h1|h1
  .exact h.two x h1
  .have b:S.T.f x=false:=by cases ab:S.T.f x<;>simp_all
   refine⟨Nat.le_of_not_lt λV=>?_,λW=>?_⟩
   .rw[(h.f x).2 (.inr (.inl V))]at b;cases b
   .rw[(h.f x).2 (.inr (.inr W))]at b;cases b
 .rintro v l ⟨aC,r1,bX,ag⟩
  refine⟨?_,aC,eE,m.trans r1,bX,ag.back N m⟩;rcases ag with ⟨a,_⟩|a
  .exact⟨0,a⟩
  .exact a.val
theorem pK(w:J)(s:U):aP ai 79 #[s] w (λv w'=>v=.bool (decide (1<=s.len/\s.len<=24))/\w=w'):=by
 refine okF (af.pK s) ay.pK func79 ?_;refine⟨?_,rfl⟩
 congr 1
 rw[fW,ed,cS,cS,cS];omega
theorem C5{tk dg:U}{key val:Key}(h:di w S pages L aL aX)(a6:L.length<4000)(G:S.pending<1000)(a7:S.T.C.D.aN<=700000000)(an:S.gen<=1000000000)
 (H:Src 1 w tk (aF key)) (A:∀q,az tk q->q<w.heap.size/\¬S.T.M q) (W:Src 1 w dg (aF val)) (X:∀q,az dg q->q<w.heap.size/\¬S.T.M q):
 aP ai 23 #[.pointer (some S.st),tk,dg] w (λv w'=>(v=.int .i64 1/\¬(cB key/\val.length<=24)/\w=w')\/((cB key/\val.length<=24)/\
  ((S.failed=true/\v=.int .i64 8/\w=w')\/(S.failed=false/\∃aC,dj 300 S aC w w'/\aC.now=S.now/\
    ((v=.int .i64 2/\gE S=0/\di w' S pages L aL aX/\aC=S)\/(gE S≠0/\∃eE,mG S aC eE (eO L key val) aL aX v w')))))):=by
 have ao:tk.len=key.length:=by have:=H.len;rw[dV]at this;omega
 have a8:dg.len=val.length:=by have:=W.len;rw[dV]at this;omega
 have a9:=h.t.s.bp;refine okF (af.tY (some S.st) tk dg) ay.tY func23 ?_;(delta af.tY ak aK bc aA jI;dsimp only);refine cm (λb w'=>(b=false↔cB key)/\w=w') (λq a=>⟨λB=>(by cases B),λ_=>(pK w tk).use ?_⟩) ?_
 .rintro _ _ ⟨rfl,rfl⟩
  refine⟨_,rfl,a _ _ ⟨?_,rfl⟩⟩;unfold cB;rw[ao,qW,cS]
 rintro b _ ⟨B,rfl⟩;refine⟨λh1=>.inl ⟨rfl,λhg=>?_,rfl⟩,λh1=>?_⟩
 .rcases Bool.or_eq_true_iff.1 h1 with j|j
  .rw[B.2 hg.1]at j;cases j
  .have:=b2 j;have:=hg.2;omega
 have hg:cB key/\val.length<=24:=by
  have j:=nD.1 h1;have Y:=cr j.2;exact⟨B.1 j.1,I⟩
 refine⟨_,rfl,S.failed,by rw[aw];exact h.v.cell,λhf=>.inr ⟨hg,.inl ⟨hf,rfl,rfl⟩⟩,λhf=>(y1 h).use ?_⟩;rintro _ a_ ⟨rfl,m⟩;have u:=h.ext m;obtain⟨ap,aq,_⟩:=h.live hf;refine⟨_,rfl,λJ=>.inr ⟨hg,.inr ⟨hf,S,(dj.ext S m).mono I,rfl,.inl ⟨rfl,?_,u,rfl⟩⟩⟩,λJ=>?_⟩
 .have:((gE S:Nat):Int)=0:=by simpa using J
  omega
 have E:gE S≠0:=by
  have:¬((gE S:Nat):Int)=0:=by simpa using J
  omega
 refine⟨_,rfl,_,u.v.cell,(yI u.t u.ok I (H.ext m) λq a=>⟨by have:=(A q a).1;have:=m.size;omega,(A q a).2⟩).use ?_⟩;rintro v K ⟨i,Z,o,ar,F⟩;obtain⟨r,aa,ab⟩:=u.to Z o rfl rfl (.bk ar);have y:dj 30 S (S.b5 (S.T.bk i S.T.P)) w K:=((dj.ext S m).trans aa).mono I;have N:kj S (S.b5 (S.T.bk i S.T.P)):=⟨rfl,rfl,rfl,rfl,rfl,rfl,rfl,ab⟩;have O:(S.b5 (S.T.bk i S.T.P)).T.C.D.er=λ_=> []:=o.bK.2.trans aq;have ba:i.D.aN<=S.T.C.D.aN+30:=o.aN;have au:∀n:Int,v=.tuple #[(),false,(3:Int)]->¬S.T.C.D.quiet->aP ai 81 #[.pointer (some S.st),(3:Int)] K (λv w'=>v=.int .i64 3/\∃aC,dj 30 S aC w w'/\aC.now=S.now/\∀c pages L,jj c S aC pages L aL aX v w'):=λ_ _ a=>sr r.togf y N a O (by show i.D.aN<=_;omega);have av:∃ (t:U) (e:aj) (n:Int),v=.tuple #[t,e,n]/\((n=0/\(e=true↔ei L key≠none))\/(n=3/\¬S.T.C.D.quiet)):=by
  rcases F with ⟨rfl,l⟩|⟨t,x,rfl,_,hs,_⟩|⟨rfl,_,Q⟩
  .exact⟨⟨none,0,0⟩,false,0,rfl,.inl ⟨rfl,λh=>(by cases h),λh=>absurd (l hg.1) h⟩⟩
  .exact⟨t,true,0,rfl,.inl ⟨rfl,λ_=>by rw[hs];simp,λ_=>rfl⟩⟩
  .exact⟨⟨none,0,0⟩,false,3,rfl,.inr ⟨rfl,λa=>Q (a.1 30)⟩⟩
 clear au F;obtain⟨t,e,n,rfl,ax⟩:=av;rcases ax with ⟨rfl,he⟩|⟨rfl,R⟩
 rotate_left
 .refine⟨t,e,3,rfl,λ_=>(sr r.togf y N R O (by show i.D.aN<=_;omega)).use ?_,λh=>(by cases h)⟩
  rintro _ aB ⟨rfl,aC,r1,bX,ag⟩;exact⟨3,rfl,.inr ⟨hg,.inr ⟨hf,aC,r1.mono I,bX,.inr ⟨E,[],.inr (ag _ _ _)⟩⟩⟩⟩
 have bb:=m.size;have bd:=o.ad.size;have ac:∀s:U,(∀q,az s q->q<w.heap.size/\¬S.T.M q)->∀q,az s q->q<K.heap.size/\¬(S.T.bk i S.T.P).M q:=λs hs q a=>⟨by have:=(hs q a).1;omega,λaD=>by
  rcases o.c4 q aD with j|j
  .exact(hs q a).2 j
  .have:=(hs q a).1;omega⟩
 have aE:=(H.ext m).ad o.ad λq a l=>(A q a).2 (aM.gh l);have aH:=(W.ext m).ad o.ad λq a l=>(X q a).2 (aM.gh l);have aI:¬(S.T.bk i S.T.P).C.D.ro:=λe=>ap (o.ro.1 e);refine⟨t,e,0,rfl,λh=>(by cases h),λ_=>⟨_,rfl,_,r.v.cell,?_⟩⟩;refine(Hf Z aI r.ok I r.bm (λx hx=>(r.f x).2 (.inl hx)) (by show i.D.aN<=_;omega) aE (ac tk A) aH (ac dg X)).use ?_;rintro v aJ (⟨_,aO,_⟩|⟨_,_,bZ,ae,z,ah,al,F⟩)
 .exact absurd hg aO
 have aQ:cg (S.T.bk i S.T.P)=cg S.T:=rfl;have aR:(S.T.bk i S.T.P).aG=S.T.aG:=rfl;have aS:2*S.T.aG+5<=cg S.T:=by unfold gE at E;omega
 rcases F with ⟨_,aT,_⟩|⟨rfl,_,⟨eE,aU,aV,c6,aW,aY⟩,V⟩|⟨rfl,Q,be,bf,bg,V⟩
 .rw[aQ,aR]at aT;omega
 .have hlen:(S.keys:Int)+(if e=true then 0 else 1)=(eO L key val).length:=by
   have h1:=y3 key val L;have j:=sq (k:=key) h.ok.rising;have Y:=h.keys;by_cases l:ei L key=none
   .have:¬e=true:=λh=>he.1 h l
    rw[if_pos l]at j;rw[if_neg this];omega
   .rw[if_neg l]at j
    rw[if_pos (he.2 l)];omega
  have Y:=h.keys;have aZ:(eO L key val).length<4096:=by split at hlen<;>omega
  have am:=λd hd=>r.C4 (d:=d) hf ae z ah al ⟨⟨eE,aU,aV,c6,aW,aY⟩,V⟩ aS (λp G=>by
   rcases AN.1 G with rfl|⟨h1,_⟩
   .exact hg
   .exact h.gb p h1) hd aZ (by show S.keys<_;omega) G (by show i.D.aN+100<=_;omega) an
  refine⟨0,rfl,λh=>(by cases h),λ_=>⟨λht=>(am 0 (by rw[←hlen,if_pos ht];rfl)).use ?_,λht=>(am 1 (by rw[←hlen,if_neg (by rw[ht];decide)];rfl)).use ?_⟩⟩
  all_goals
   rintro v w' ⟨⟨n,rfl⟩,aC,eE,r1,bX,ag⟩;exact⟨n,rfl,.inr ⟨hg,.inr ⟨hf,aC,(y.trans r1).mono I,bX,.inr ⟨E,eE,ag.back N y⟩⟩⟩⟩
 .obtain⟨a0,a1,a2⟩:=r.togf.to ae z ah al λno a3=>(V no (by show(S.T.f no||S.T.g no)=true;rw[show S.T.g no=true from a3,Bool.or_true])).1
  have a4:dj 130 S (S.b5 bZ) w aJ:=(y.trans a1).mono I;have a5:kj S (S.b5 bZ):=⟨rfl,rfl,rfl,rfl,rfl,rfl,z.g,a2.trans ab⟩;have R:¬S.T.C.D.quiet:=λa=>Q ((aa.q a).1 100);refine⟨3,rfl,λ_=>(sr a0 a4 a5 R (z.bK.2.trans O) (by have:=z.aN;show bZ.C.D.aN<=_;have e:(S.T.bk i S.T.P).C.D.aN=i.D.aN:=rfl;omega)).use ?_,λh=>(by cases h)⟩;rintro _ aB ⟨rfl,aC,r1,bX,ag⟩;exact⟨3,rfl,.inr ⟨hg,.inr ⟨hf,aC,r1.mono I,bX,.inr ⟨E,[],.inr (ag _ _ _)⟩⟩⟩⟩
end
section
variable {w w' w1:J}{T ao:aM}{S aC bW:cn}{pages aL:O Nat}{L aX:O aJ}{k:Nat}
theorem Ij{tk:U}{key:Key}(h:di w S pages L aL aX)(aW:L.length<4000)(J:S.pending<1000)(aY:S.T.C.D.aN<=700000000)(ae:S.gen<=1000000000)
 (K:Src 1 w tk (aF key)) (o:∀q,az tk q->q<w.heap.size/\¬S.T.M q):
 aP ai 22 #[.pointer (some S.st),tk] w (λv w'=>(v=.tuple #[false,(1:Int)]/\¬cB key/\w=w')\/(cB key/\
  ((S.failed=true/\v=.tuple #[false,(8:Int)]/\w=w')\/(S.failed=false/\∃aC,dj 300 S aC w w'/\aC.now=S.now/\
    ((v=.tuple #[false,(0:Int)]/\ei L key=none/\di w' aC pages L aL aX/\kj S aC/\aC.failed=false)\/
     (v=.tuple #[false,(2:Int)]/\ei L key≠none/\gE S=0/\di w' aC pages L aL aX/\kj S aC/\aC.failed=false)\/
     (∃n:Int,v=.tuple #[.bool (n==0),n]/\ei L key≠none/\gE S≠0/\∃eE,mG S aC eE (en L key) aL aX n w')\/
     (v=.tuple #[false,(3:Int)]/\∀c pages L,jj c S aC pages L aL aX (3:Int) w')))))):=by
 have ah:tk.len=key.length:=by have:=K.len;rw[dV]at this;omega
 have aZ:=h.t.s.bp;refine okF (af.tX (some S.st) tk) ay.tX func22 ?_;(delta af.tX ak aK bc jI aA k2;dsimp only);refine cm (λb w'=>(b=false↔cB key)/\w=w') (λq i=>⟨λu=>(by cases u),λ_=>(pK w tk).use ?_⟩) ?_
 .rintro _ _ ⟨rfl,rfl⟩
  refine⟨_,rfl,i _ _ ⟨?_,rfl⟩⟩;unfold cB;rw[ah,qW,cS]
 rintro b _ ⟨u,rfl⟩;refine⟨λh1=>.inl ⟨rfl,λhg=>?_,rfl⟩,λh1=>?_⟩
 .rw[u.2 hg]at h1;cases h1
 have hg:cB key:=u.1 h1;refine⟨_,rfl,S.failed,by rw[aw];exact h.v.cell,λhf=>.inr ⟨hg,.inl ⟨hf,rfl,rfl⟩⟩,λhf=>?_⟩;obtain⟨al,am,_⟩:=h.live hf;refine⟨_,rfl,_,h.v.cell,(yI h.t h.ok I K o).use ?_⟩;rintro v a0 ⟨a,an,m,ao,y⟩;obtain⟨z,A,X⟩:=h.to an m rfl rfl (.bk ao);have B:kj S (S.b5 (S.T.bk a S.T.P)):=⟨rfl,rfl,rfl,rfl,rfl,rfl,rfl,X⟩;have Y:(S.b5 (S.T.bk a S.T.P)).T.C.D.er=λ_=> []:=m.bK.2.trans am;have a1:a.D.aN<=S.T.C.D.aN+30:=m.aN;have ap:∃ (t:U) (e:aj) (n:Int),v=.tuple #[t,e,n]/\((n=0/\(e=true↔ei L key≠none))\/(n=3/\¬S.T.C.D.quiet)):=by
  rcases y with ⟨rfl,j⟩|⟨t,x,rfl,_,hs,_⟩|⟨rfl,_,N⟩
  .exact⟨⟨none,0,0⟩,false,0,rfl,.inl ⟨rfl,λh=>(by cases h),λh=>absurd (j hg) h⟩⟩
  .exact⟨t,true,0,rfl,.inl ⟨rfl,λ_=>by rw[hs];simp,λ_=>rfl⟩⟩
  .exact⟨⟨none,0,0⟩,false,3,rfl,.inr ⟨rfl,λi=>N (i.1 30)⟩⟩
 clear y;obtain⟨t,e,n,rfl,aq⟩:=ap;rcases aq with ⟨rfl,he⟩|⟨rfl,O⟩
 rotate_left
 .refine⟨t,e,3,rfl,λ_=>(sr z.togf A B O Y (by show a.D.aN<=_;omega)).use ?_,λh=>(by cases h)⟩
  rintro _ E ⟨rfl,aC,r1,bX,ag⟩;exact⟨3,rfl,.inr ⟨hg,.inr ⟨hf,aC,r1.mono I,bX,.inr (.inr (.inr ⟨rfl,ag⟩))⟩⟩⟩
 refine⟨t,e,0,rfl,λh=>(by cases h),λ_=>⟨λQ=>?_,λQ=>(y1 z).use ?_⟩⟩
 .have j:ei L key=none:=by
   cases ar:ei L key with
   |none=>rfl
   |some x=>
    have:e=true:=he.2 (by rw[ar];simp);rw[this]at Q;cases Q
  exact .inr ⟨hg,.inr ⟨hf,_,A.mono I,rfl,.inl ⟨rfl,j,z,B,hf⟩⟩⟩
 have j:ei L key≠none:=he.1 (by cases e<;>simp_all);rintro _ E ⟨rfl,F⟩;have l:=z.ext F;have G:dj 30 S (S.b5 (S.T.bk a S.T.P)) w E:=(A.trans (dj.ext _ F)).mono I;have au:gE (S.b5 (S.T.bk a S.T.P))=gE S:=rfl;rw[au];refine⟨_,rfl,λR=>.inr ⟨hg,.inr ⟨hf,_,G.mono I,rfl,.inr (.inl ⟨rfl,j,?_,l,B,hf⟩)⟩⟩,λR=>?_⟩
 .have:((gE S:Nat):Int)=0:=by simpa using R
  omega
 have Z:gE S≠0:=by
  have:¬((gE S:Nat):Int)=0:=by simpa using R
  omega
 have a2:=m.ad.size;have a3:=F.size;have av:∀q,az tk q->q<E.heap.size/\¬(S.T.bk a S.T.P).M q:=λq i=>⟨by have:=(o q i).1;omega,λax=>by
  rcases m.c4 q ax with H|H
  .exact(o q i).2 H
  .have:=(o q i).1;omega⟩
 have aB:=(K.ad m.ad λq i j=>(o q i).2 (aM.gh j)).ext F;have aD:¬(S.T.bk a S.T.P).C.D.ro:=λe=>al (m.ro.1 e);refine⟨_,rfl,_,l.v.cell,?_⟩;refine(Hi l.t aD l.ok I l.bm (λx hx=>(l.f x).2 (.inl hx)) (by show a.D.aN<=_;omega) aB av).use ?_;rintro v aE ⟨bZ,aa,r,ab,ac,y⟩;have aH:cg (S.T.bk a S.T.P)=cg S.T:=rfl;have aI:(S.T.bk a S.T.P).aG=S.T.aG:=rfl;have aJ:2*S.T.aG+5<=cg S.T:=by unfold gE at Z;omega
 rcases y with ⟨_,V,_⟩|⟨_,_,V,_⟩|⟨_,_,_,W,_⟩|⟨rfl,_,_,_,aO⟩|⟨rfl,_,N,aQ⟩
 .exact absurd hg V
 .exact absurd V j
 .have W:cg (S.T.bk a S.T.P)<2*(S.T.bk a S.T.P).aG+3:=W
  rw[aH,aI]at W;omega
 .have H:=sq (k:=key) h.ok.rising
  rw[if_neg j]at H;have a4:=h.keys;refine⟨true,0,rfl,λh=>(by cases h),λ_=>(l.C4 (d:= -1) hf aa r ab ac aO aJ (λp J=>h.gb p (hE.1 J).1) (by show(S.keys:Int)+ -1=_;omega) I (by show S.keys<_;omega) J (by show a.D.aN+100<=_;omega) ae).use ?_⟩;rintro v w' ⟨⟨n,rfl⟩,aC,eE,r1,bX,ag⟩;exact⟨n,rfl,.inr ⟨hg,.inr ⟨hf,aC,(G.trans r1).mono I,bX,.inr (.inr (.inl ⟨n,rfl,j,Z,eE,ag.back B G⟩))⟩⟩⟩
 .obtain⟨aR,aS,aT⟩:=l.to aa r ab ac aQ
  have aU:dj 130 S (S.b5 bZ) w aE:=(G.trans aS).mono I;have aV:kj S (S.b5 bZ):=⟨rfl,rfl,rfl,rfl,rfl,rfl,r.g,aT.trans X⟩;have O:¬S.T.C.D.quiet:=λi=>N ((A.q i).1 100);refine⟨false,3,rfl,λ_=>(sr aR.togf aU aV O (r.bK.2.trans Y) (by have a5:bZ.C.D.aN<=a.D.aN+100:=r.aN;show bZ.C.D.aN<=_;omega)).use ?_,λh=>(by cases h)⟩;rintro _ E ⟨rfl,aC,r1,bX,ag⟩;exact⟨3,rfl,.inr ⟨hg,.inr ⟨hf,aC,r1.mono I,bX,.inr (.inr (.inr ⟨rfl,ag⟩))⟩⟩⟩
theorem C6{fD fy:U}{fr to:Key}{most:Int}(h:di w S pages L aL aX)(o:L.length<=4000)(p:S.T.C.D.aN<=800000000)(r:pages.length<=4000)
 (hf:Src 1 w fD (aF fr)) (b:∀q,az fD q->q<w.heap.size/\¬S.T.M q) (ht:Src 1 w fy (aF to)) (c:∀q,az fy q->q<w.heap.size/\¬S.T.M q) (d:to.length<=1000000):
 aP ai 42 #[.pointer (some S.st),fD,fy,most] w (λv w'=>∃ao,di w' (S.b5 ao) pages L aL aX/\dj (2*pages.length) S (S.b5 ao) w w'/\kj S (S.b5 ao)/\
  ((∃s:U,v=.tuple #[s,(0:Int)]/\fU (λq=>¬ao.M q) w' s ((eP L fr to).take most.toNat))\/(v=.tuple #[(),(3:Int)]/\¬S.T.C.D.quiet))):=by
 refine okF (af.t_ (some S.st) fD fy most) ay.t_ func42 ?_;(delta af.t_ ak b8;dsimp only);refine⟨λe=>(by cases e),λ_=>⟨_,rfl,_,h.v.cell,(Ht h.t h.ok I I hf b ht c d).use ?_⟩⟩;rintro v w' ⟨ao,i,a,j,k⟩;obtain⟨a1,a2,a3⟩:=h.to i a.to a.E j ⟨a.root,a.aG,a.f,λno _=>⟨congrFun a.P no,a.view no⟩⟩;have hs:kj S (S.b5 ao):=⟨rfl,rfl,rfl,rfl,rfl,rfl,a.to.g,a3⟩;rcases k with ⟨s,rfl,l⟩|⟨rfl,m⟩
 .exact⟨s,0,rfl,ao,a1,a2,hs,.inl ⟨s,rfl,l⟩⟩
 .exact⟨⟨none,0,0⟩,3,rfl,ao,a1,a2,hs,.inr ⟨rfl,λn=>m (n.1 _)⟩⟩
end
theorem ints_at{w:J}{s:U}{l:O Nat}(h:Src 1 w s (dW l)){i:Nat}(hi:i<l.length):∃A:ae,s.a=some A/\((0:Int)<=(i:Int)/\(i:Int)<(s.len:Int))/\w.cell? (A.add (Int.toNat (i:Int)*1))=some (.int .i64 ((l[i]:Nat):Int)):=by
 obtain⟨A,ar,b,hc⟩:=h.at (i:=i) (v:=.int .i64 ((l[i]:Nat):Int)) (by simp[dW,hi]);exact⟨A,ar,b,hc⟩
theorem Ik{w:J}{t u:U}{l m:O Nat}(d:Src 1 w t (dW l))(f:Src 1 w u (dW m))(L:l.length<=100000):aP ai 154 #[t,u] w (λv w'=>v=.bool (decide (l=m))/\Ext w w'):=by
 refine okF (af.tK t u) ay.tK func154 ?_;(delta af.tK ak aI r1 av;dsimp only);have p:=d.len;have q:=f.len;rw[nk]at p q;refine⟨λa=>⟨?_,.refl _ _⟩,λr=>?_⟩
 .simp only[bne_iff_ne]at a
  have:l≠m:=λe=>a (by subst e;omega);rw[hG this]
 simp only[bne_eq_false_iff_eq]at r;have s:l.length=m.length:=by omega
 refine⟨λn w'=>∃i:Nat,n=i/\i<=l.length/\Ext w w'/\∀ (j:Nat) (h1:j<l.length) (b:j<m.length),j<i->l[j]=m[j],λn _=>((l.length:Int)-n).toNat,⟨0,rfl,cE _,.refl _ _,λj _ _ h=>I⟩,?_⟩;rintro _ x ⟨i,rfl,hi,g,k⟩;refine⟨λaH=>aS ?_,λy=>⟨?_,g⟩⟩
 .have aH:i<l.length:=by have:=b2 aH;omega
  have z:i<m.length:=by omega
  have c:Ext w x.drew:=ab.drew g;obtain⟨A,ar,C,D⟩:=ints_at (d.ext c) aH;obtain⟨B,E,F,G⟩:=ints_at (f.ext c) z;have H:IntKind.wrap .i64 ((i:Int)+1)=((i+1:Nat):Int):=by rw[bu I I];rfl
  have K:((l.length:Int)-((i+1:Nat):Int)).toNat<((l.length:Int)-(i:Int)).toNat:=by omega
  rw[H];refine⟨A,ar,C,id,_,D,B,E,F,id,_,G,λa=>⟨?_,c⟩,λhe=>⟨⟨i+1,rfl,aH,c,λj h1 b M=>?_⟩,K⟩⟩
  .have a:l[i]≠m[i]:=λe=>by rw[e]at a;simp at a
   have:l≠m:=λe=>a (by subst e;rfl);rw[hG this]
  .rcases dH j i with o|o
   .exact k j h1 b o
   .obtain rfl:j=i:=by omega
    have he:((l[j]:Nat):Int)=((m[j]:Nat):Int):=by simpa using he
    omega
 .have hi:i=l.length:=by have:=cr y;omega
  rw[dw (List.ext_getElem s λj h1 b=>k j h1 b I)]
theorem C7:∀ {a b:O Nat},dW a=dW b->a=b
 | [],[],_=>rfl
 | [],_::_,h=>by cases h
 |_::_,[],h=>by cases h
 |x::a,y::b,h=>by
  have h1:=List.cons.inj h
  have c:Value.int .i64 (x:Int)=Value.int .i64 (y:Int):=h1.1
  injection c with _ c
  rw[C7 (a:=a) (b:=b) h1.2,show x=y from I]
def y4(f:Nat->aj)(n:Nat):O Nat:=(List.range n).filter f
theorem y5(f:Nat->aj):∀n,mz f n=dW (y4 f n)
 |0=>rfl
 |n+1=>by
  have a:=y5 f n
  unfold mz dW y4 at a⊢
  rw[List.range_succ,kV,fP,←a]
  show(jM f n++(if f n then [(n:Int)] else [])).map _=_
  rw[fP]
  cases hf:f n<;>simp[hf]
section
variable {w w' w1:J}{S aC bW:cn}{pages aL:O Nat}{L aX:O aJ}{k:Nat}
theorem Il{gd:Nat->aq aB}{m:Int}(R:Var w S.st S.cells 158)(ht:bM w S.T)(es:S.T.E S.st)(ar:gj (S.T.bk S.T.C gd) pages L)(av:∀x∈pages,∀bm,gd x=some bm->S.T.P x=some bm\/kg S.T x)(c6:pages.Nodup)
 (hf:∀no,S.T.f no=true↔no∈pages\/no<2\/no=S.u.map) (two:∀x∈pages,2<=x/\x≠S.u.map) (a9:2<=S.u.map/\S.u.map<S.T.n) (a_:L.length<=4000) (ax:pages.length<=4000) (bb:S.T.C.D.aN<=900000000):
 aP ai 86 #[.pointer (some ⟨S.st,0,none⟩),.int .i64 m] w (λv w'=>∃ao,bM w' ao/\c0 S.T ao w w' (2*pages.length)/\ao.G=S.T.G/\
  ((v=.int .i64 0/\m=L.length/\∀x∈pages,S.T.P x=gd x)\/(∃e:Int,v=.int .i64 e/\e≠0/\(¬S.T.C.D.calm (2*pages.length)\/(∃x∈pages,kg S.T x)\/m≠L.length)))):=by
 refine okF (af.uu (some ⟨S.st,0,none⟩) m) ay.uu func86 ?_;(delta af.uu pE ak r1 Y aR ba aK;dsimp only);have X:∀x∈pages,S.T.f x=true/\x<S.T.n:=λx hx=>⟨(hf x).2 (.inl hx),Nat.lt_of_not_le λe=>by
  have:=ht.s.pf x e;rw[(hf x).2 (.inl hx)]at this;cases this⟩
 refine⟨_,rfl,_,R.cell,(HG ht ar X av c6 I I I).use ?_⟩;rintro v k ⟨ao,Z,g,r,aA⟩;have aC:∃ (s:U) (es:O Nat) (n e:Int),v=.tuple #[.slice s.a s.len s.cap,.int .i64 n,.int .i64 e]/\a8 1 3 k s (dW es)/\es.length<=4000/\(∀q,az s q->S.T.N q\/w.heap.size<=q)/\bM k (ao.cf S.T.E λq=>S.T.G q\/az s q)/\
  ((n=L.length/\e=0/\es.Perm pages/\∀x∈pages,S.T.P x=gd x)\/(e≠0/\(¬S.T.C.D.calm (2*pages.length)\/∃x∈pages,kg S.T x))):=by
  rcases aA with ⟨s,es,rfl,z,A,_,aD,aE,aF⟩|⟨e,rfl,aG,aH⟩
  .exact⟨s,es,_,0,rfl,z,by rw[A.length_eq];exact ax,λq c=>(aD q c).1,aF,.inl ⟨rfl,rfl,A,aE⟩⟩
  .refine⟨bg,[],0,e,rfl,a8.none _ _ _,by simp,λq c=>(gg q c).elim,Z.grow (W:=λ_=>False) (ab.refl _ _) (λ_ h=>h.elim) (λq c=>.inl (by rw[g.E];exact c)) (λq c=>.inr (.inl (by rw[r];exact c.resolve_right λh=>gg q h))) (λq c hg=>(ht.c7 q c).2.2 (hg.resolve_right λh=>gg q h)),.inr ⟨aG,aH.imp And.right id⟩⟩
 obtain⟨s,es,n,e,rfl,z,bc,aI,aa,B⟩:=aC;refine⟨s,n,e,rfl,λd=>?_,λd=>?_⟩
 .have d:e=3:=by simpa using d
  refine⟨ao,Z,g,r,.inr ⟨e,rfl,I,?_⟩⟩;rcases B with ⟨_,F,_⟩|⟨_,F⟩
  .omega
  .exact F.imp id .inl
 have ac:=R.ad g.to.ad (ht.jd (by assumption));refine⟨_,rfl,_,by rw[aw,aw];exact ac.cell,aS ?_⟩;have J:Ext k (k.alloc (.cells #[.int .i64 0,.int .i64 1,.int .i64 ((S.u.map:Nat):Int)] 3)):=eB _ _;have bd:s.len=es.length:=by have:=z.1;rw[nk]at this;omega
 obtain⟨ae,ag,au,aJ,be,aL,aM⟩:=qe.append (cH:=58) (x:=⟨some ⟨k.heap.size,0,none⟩,3,3⟩) (Src.new (T:=3) k [.int .i64 0,.int .i64 1,.int .i64 ((S.u.map:Nat):Int)] 3 rfl) (z.ext J) (xT [0,1,S.u.map]) (by show(2*(s.len+3)+1000)*8<=_;omega);have aO:a8 1 3 ag ae (dW (es++ [0,1,S.u.map])):=by
  have e:dW (es++ [0,1,S.u.map])=dW es++ [.int .i64 0,.int .i64 1,.int .i64 ((S.u.map:Nat):Int)]:=by unfold dW;rw[fP];rfl
  rw[e];exact aJ
 refine⟨ae,ag,au,(CA aO (by simp;omega)).use ?_⟩;rintro _ H ⟨rfl,aQ,t,aT,ah,aU⟩;have K:ab (az s) k H:=ct (ct (ab.refl _ _) (J.mono λ_ _ h=>h.elim) (V:=az s) (λq _ h=>h)|>.trans aL) aQ λq aV c=>(aM q c).resolve_right (by have:=J.size;omega);have bf:=g.to.ad.size;have ft:ao.cf S.T.E S.T.G=ao:=by rw[←g.E,←r];rfl
 have M:bM H ao:=by
  have:=aa.grow (E:=S.T.E) (G:=S.T.G) K (λq c _=>.inr (.inr c)) (λq c=>.inl c) (λq c=>.inr (.inl (.inl c))) λq c=>(ht.c7 q c).2.2;rw[←ft];exact this
 have aW:c0 S.T ao w H (2*pages.length):={g with to:=g.to.step (E:=ao.E) (G:=ao.G) K (λq c aV=>(aI q c).resolve_right I) (λq c=>.inl c) λq c=>.inl c};have aX:¬az s S.st:=λc=>(aa.c7 S.st (by assumption)).2.2 (.inr c);have aY:=ac.ad K aX;refine⟨rfl,cm (λb w'=>((b=true->e≠0\/n≠m)/\(b=false->e=0/\n=m))/\Ext H w') (λq c=>⟨λo=>c _ _ ⟨⟨λ_=>?_,λh=>(by cases h)⟩,.refl _ _⟩,λo=>?_⟩) ?_⟩
 .rcases Bool.or_eq_true_iff.1 o with h1|h1
  .exact .inl (by simpa using h1)
  .exact .inr (by simpa using h1)
 .obtain⟨h1,j⟩:=nD.1 o
  have h1:e=0:=by simpa using h1
  have j:n=m:=by simpa using j
  have hu:=GI M.s;rw[g.to.sb,g.to.n,g.f]at hu;refine⟨_,rfl,_,by rw[aw];exact aY.cell,hu.use ?_⟩;rintro _ bh ⟨aZ,rfl,aj,al,_⟩;have a0:t.length<=100000:=by rw[ah.length_eq];simp;omega
  rw[y5]at aj;refine⟨aZ,rfl,(Ik (aT.ext al).src aj.src a0).use ?_⟩;rintro _ bi ⟨rfl,a1⟩;have a2:t=y4 S.T.f S.T.n:=by
   rcases B with ⟨_,_,A,_⟩|⟨d,_⟩
   rotate_left
   .exact absurd h1 d
   have am:t.Perm (pages++ [0,1,S.u.map]):=ah.trans (A.append_right _);have a3:(pages++ [0,1,S.u.map]).Nodup:=by
    refine o6.2 ⟨c6,by simp;omega,λx hx y p e=>?_⟩;have:=two x hx;subst e;simp only[cU,eV,eZ]at p;rcases p with p|p|p
    .omega
    .omega
    .exact this.2 p
   have a4:t.Nodup:=am.nodup_iff.2 a3;have a5:t.Pairwise λa b=>a<b:=(aU.and a4).imp λh=>by have:=h.1;have:=h.2;omega
   have an:=H5 (f:=S.T.f) (n:=S.T.n) a5 λx=>by
    rw[am.mem_iff,cR,hf x];simp only[cU,eV,eZ];constructor
    .rintro(i|i|i|i)
     .exact⟨(X x i).2,.inl i⟩
     .exact⟨I,.inr (.inl I)⟩
     .exact⟨I,.inr (.inl I)⟩
     .exact⟨I,.inr (.inr i)⟩
    .rintro⟨_,i|i|i⟩
     .exact .inl i
     .exact .inr I
     .exact .inr I
   rw[y5]at an;exact C7 an
  exact⟨_,rfl,c _ _ ⟨⟨λh=>(by rw[dw a2]at h;cases h),λ_=>⟨h1,j⟩⟩,Ext.trans al a1⟩⟩
 .rintro b bj ⟨⟨a6,a7⟩,Q⟩
  have ap:=(aW.trans (c0.ext ao Q)).mono (l:=2*pages.length) I;refine⟨λo=>⟨ao,M.ext Q,ap,r,.inr ⟨4,rfl,by decide,?_⟩⟩,λo=>⟨ao,M.ext Q,ap,r,.inl ⟨rfl,?_⟩⟩⟩
  .rcases B with ⟨h1,j,_⟩|⟨_,j⟩
   .rcases a6 o with d|d
    .exact absurd j d
    .exact .inr (.inr (by rw[←h1];exact λe=>d e.symm))
   .exact j.imp id .inl
  .obtain⟨h1,j⟩:=a7 o
   rcases B with ⟨d,_,_,F⟩|⟨d,_⟩
   .exact⟨by rw[←j];exact d,F⟩
   .exact absurd h1 d
end
variable {w w':J}
theorem Ext.Im(h:Go.RowKit.Below w.heap.size w w'):Ext w w':=⟨h.os,h.tape,h.output,h.size,λk a _=>h.block k a⟩
theorem a8.Io{sz:Nat}{T:TypeId}{base:Nat}{v:aa}{n:Nat}{xs:O aa}(h:w.ownsRow base T sz v n xs):∃s:U,v=s/\a8 sz T w s xs/\s.len=n/\∀q,az s q->base<=q:=by
 obtain⟨h1,⟨rfl,rfl⟩|⟨g,cap,i,rfl,b,hg,c,d,e,f⟩⟩:=h
 .have:xs=[]:=kl.1 I
  subst this;exact⟨⟨none,0,0⟩,rfl,a8.none _ _ _,rfl,λq a=>(gg q a).elim⟩
 .refine⟨⟨some g,n,cap⟩,rfl,a8.mk' hg h1 c d e f,rfl,λq a=>?_⟩
  rw[←ky.1 a];exact b
def su:aa->aq (DataW Unit×O MemPlace):=λ_=>some (.lit (.bool true),[])
theorem Ip{q:Nat}{M:O (Int×aa)}(h:eo w q encZ M)(v:M.length<=1000000)(j:∀x∈M, -9223372036854775808<=x.1/\x.1<=9223372036854775807):
 ∃D:DataW Unit,w.ownsMap ai 3 su q M.length D/\(intKeys D).Perm (M.map (·.1))/\Maps.size D=M.length:=by
 obtain⟨L,f,l,h1,m,n,o⟩:=h;have c:L.length=M.length:=by rw[←h1.length_eq,dL]
 have r:∀x∈L, -9223372036854775808<=x.1/\x.1<=9223372036854775807:=λx hx=>j (lC x) (h1.mem_iff.1 (dv.2 ⟨x,hx,rfl⟩));have g:∀x∈L,Go.WideElems.rd ai 3 su (dP encZ x)=some (.int .i64 x.1,.lit (.bool true)):=λx hx=>by
  have s:(Lit.int .i64 x.1).wf=true:=by
   have:=r x hx;simp[Lit.wf,IntKind.min,IntKind.max,IntKind.signed,IntKind.bits];omega
  exact Go.WideElems.rd_mk (R:=su) (yv:=(.lit (.bool true),[])) (Maps.keyOf_int_mk (k:=3) (by kernel_rfl) s) rfl
 have i:((L.map (dP encZ)).map (Go.WideElems.rg ai 3 su))=L.map λx=>(Lit.int .i64 x.1,DataW.lit (.bool true)):=by
  rw[ic];refine qU λx hx=>?_;have:=Go.WideElems.rg_of (g x hx);simp only[Function.comp_apply];exact this
 have t:Go.WideElems.Fit ai 3 su (L.map (dP encZ)).toArray f:=by
  refine⟨by simp[c];unfold maxLen;omega,⟨λx hx=>?_,?_,?_⟩,λx hx=>?_⟩
  .obtain⟨y,d,rfl⟩:=dv.1 (by simpa using hx:x∈L.map (dP encZ))
   exact o y d
  .simp only[ic]
   exact n
  .simp only[ic]
   have:((λe:MapEntry=>e.key)∘dP encZ)=λx:Int×aa×Nat=>encZ x.1:=rfl;show(L.map ((λe:MapEntry=>e.key)∘dP encZ)).Nodup;rw[this];have e:(L.map λx:Int×aa×Nat=>encZ x.1)=(L.map (·.1)).map encZ:=by rw[ic];rfl
   rw[e];exact List.Pairwise.map encZ (λa b u he=>u (by cases he;rfl)) m
  .obtain⟨y,d,rfl⟩:=dv.1 (by simpa using hx:x∈L.map (dP encZ))
   exact⟨_,g y d⟩
 have fR:=Go.WideShapes.sorted_perm (L.map λx=>(Lit.int .i64 x.1,(DataW.lit (.bool true):DataW Unit)));refine⟨_,⟨_,f,l,t,by simp[c],rfl⟩,?_,?_⟩
 .simp only[i]
  show(List.map (λp:Lit×DataW Unit=>Go.intOf p.1) _).Perm _;refine(fR.map _).trans ?_;rw[ic];have:=h1.map (·.1);rw[ic]at this;exact this
 .simp only[i]
  show List.length _=_;rw[fR.length_eq,dL,c]
theorem Iq(m:Nat):AnyZI.SortsIn ai Cy Fence.wide m:=
 ⟨λbN off cap ss W a b c=>callsIn_wide.2 (AnyM.slices_Sort_int wg bN off cap ss W a b c),λp cap W=>callsIn_wide.2 (AnyM.slices_Sort_int_none wg p cap W)⟩
theorem Ir{q:Nat}{M:O (Int×aa)}(h:eo w q encZ M)(g:M.length<=1000000)(i:∀x∈M, -9223372036854775808<=x.1/\x.1<=9223372036854775807):
 aP ai 177 #[.func (.func 232) #[] #[.pointer (some w.heap.size)]] (w.alloc (.cells #[.map (some q)] 137))
  (λv w'=>∃ (s:U) (ids:O Int),v=s/\a8 1 3 w' s (ids.map encZ)/\s.len=ids.length/\ids.Perm (M.map (·.1))/\ids.Pairwise (λa b=>decide (a<=b)=true)/\Ext w w'/\∀k,az s k->w.heap.size<=k):=by
 have d:Ext w (w.alloc (.cells #[.map (some q)] 137)):=ab.alloc (.refl _ _) _;have C:(w.alloc (.cells #[.map (some q)] 137)).heap.size=w.heap.size+1:=by simp
 obtain⟨D,j,l,f⟩:=Ip (h.ext d) g i;have m:=AnyZI.keys_gives (ρ:=Cx) {Hu with} Fence.wide 2 trivial rfl I w.heap.size q M.length D (w.alloc (.cells #[.map (some q)] 137)) I (by simp) j;have n:=AnyZI.sorted_in Hv Fence.wide 5 trivial trivial trivial trivial rfl I (Iq _) (enters_of func153 (by kernel_rfl) rfl) 232 #[.pointer (some w.heap.size)] trivial (enters_of func232 (by kernel_rfl) rfl) _ _ (by rw[f];unfold maxLen;omega) (by rw[f];omega) _ m;have o:=callsIn_wide.1 (n.mono (R':=λe w'=>∃v,e=.returned v/\∃ (s:U) (ids:O Int),v=s/\a8 1 3 w' s (ids.map encZ)/\s.len=ids.length/\ids.Perm (M.map (·.1))/\ids.Pairwise (λa b=>decide (a<=b)=true)/\Ext w w'/\∀k,az s k->w.heap.size<=k) ?_)
 .exact o
 .rintro e ah ⟨v,ss,rfl,p,r,_,t⟩
  obtain⟨s,rfl,u,z,A⟩:=a8.Io r;refine⟨_,rfl,s,ss.mergeSort (λx y=>decide (x<=y)),rfl,u,by rw[z,List.length_mergeSort],?_,?_,Ext.trans d (Ext.Im t),λk B=>by have:=A k B;omega⟩
  .exact(List.mergeSort_perm _ _).trans (p.trans l)
  .exact List.pairwise_mergeSort (λa b c h1 E=>by simp only[cS]at*;omega) (λa b=>by simp only[jl,cS];omega) ss
theorem y6:∀ (n:Nat) {l:O Nat},l.Nodup->(∀x∈l,x<n)->l.length<=n
 |0,l,_,h=>by
  cases l with
  |nil=>exact bo _
  |cons x l=>exact absurd (h x (by simp)) (Nat.not_lt_zero _)
 |n+1,l,a,h=>by
  by_cases c:n∈l
  .have h1:=y6 n (l:=l.erase n) (a.erase n) λx hx=>by
    have b:=(a.mem_erase_iff).1 hx
    have:=h x b.2
    have:=b.1
    omega
   rw[List.length_erase_of_mem c]at h1
   omega
  .have:=y6 n a λx hx=>by
    have h1:=h x hx
    have b:x≠n:=λe=>c (e▸hx)
    omega
   omega
section
variable {D:a6}
theorem b_.y7(h:b_ w D):(D.waits.map dB.i).Nodup:=by
 have h1:=h.m.keys;rw[ic]at h1;refine(List.pairwise_map.1 h1:D.waits.Pairwise _).imp (λa e=>a ?_)|>List.pairwise_map.2;exact congrArg (λn:Nat=>(n:Int)) e
theorem b_.C8(h:b_ w D):D.waits.length<=1600:=by
 have h1:=y6 D.n h.y7 λx hx=>by
  obtain⟨y,a,rfl⟩:=dv.1 hx;exact(h.wn y a).2.1
 have:=h.bp;rw[dL]at h1;omega
theorem Is(h:b_ w D):aP ai 112 #[.pointer (some D.d)] w
 (λv w'=>∃ (s:U) (ids:O Int),v=s/\a8 1 3 w' s (ids.map encZ)/\ids.Perm (D.waits.map λx=>(x.i:Int))/\Ext w w'/\∀k,az s k->w.heap.size<=k):=by
 refine okF (af.uz (some D.d)) ay.uz func112 ?_;(delta af.uz mg ba;dsimp only);refine⟨_,rfl,_,h.ba,?_⟩;refine Calls.mono (af.Ep (some D.mr) w (λv w'=>v=.func (.func 232) #[] #[.pointer (some w.heap.size)]/\w.alloc (.cells #[.map (some D.mr)] 137)=w') ⟨rfl,rfl⟩) ?_;rintro _ _ ⟨_,rfl,rfl,rfl⟩;have c6:D.waits.length<=1000000:=by have:=h.C8;omega
 refine⟨⟨232,#[],#[.pointer (some w.heap.size)]⟩,rfl,(Ir h.m (by rw[dL];exact c6) (λx hx=>?_)).use ?_⟩
 .obtain⟨y,b,rfl⟩:=dv.1 hx
  have:=(h.wn y b).2.1;have:=h.bp;show _<=(y.i:Int)/\(y.i:Int)<=_;omega
 .rintro _ f ⟨s,ids,rfl,h1,_,a,_,c,e⟩
  refine⟨s,rfl,s,ids,rfl,h1,?_,c,e⟩;rw[ic]at a;exact a
end
variable {w w':J}{D:a6}
theorem It(a b:Int)(w:J)(T:TypeId)(k:IntKind):Sem.run ai (Builtin.min_ #[T,T] T #[.int k a,.int k b]) w=.ok (.int k (min a b)) w:=by
 simp only[Builtin.min_];unfold Builtin.min2;simp;split<;>omega
theorem b_.Iu(h:b_ w D){i:Nat}(hi:i<D.n){x:cJ}(hx:x.length=256):bA w ⟨D.lb,i*256,none⟩ (aF x)/\b_ (setCells w ⟨D.lb,i*256,none⟩ 0 (aF x)) {D with aZ:=D.aZ.set i x}/\ab (λq=>q=D.lb) w (setCells w ⟨D.lb,i*256,none⟩ 0 (aF x)):=by
 obtain⟨bx,bG,a⟩:=CO h.l h.sl hi hx;refine⟨bx,?_,a⟩;generalize setCells w ⟨D.lb,i*256,none⟩ 0 (aF x)=j at bG a;have b:D.d≠D.lb:=h.a1.1;refine⟨?_,bG,h.m.ad a λe=>h.a1.2.2 e.symm,λx hx=>(h.ws x hx).ad a λq f e=>(h.a2 x hx).2.1 (by rw[←e];exact f),?_,λs hs=>?_,h.je,?_,?_,h.f4,h.fr,h.a1,h.a2,h.a3⟩
 .have h1:=h.v.ad a b
  have e:({D with aZ:=D.aZ.set i x}:a6).c=D.c:=by unfold a6.c;simp
  rw[e];exact h1
 .intro z g
  have:=h.wn z g;refine⟨this.1,?_,this.2.2⟩;show z.i<(D.aZ.set i x).length;rw[cY];exact this.2.1
 .rcases lv hs with h1|rfl
  .exact h.sl s h1
  .exact hx
 .show 16<=(D.aZ.set i x).length;rw[cY];exact h.bS
 .show(D.aZ.set i x).length<=1600;rw[cY];exact h.bp
theorem Src.mE{sz:Nat}{s:U}{vs:O aa}{W:Nat->Prop}(h:Src sz w s vs)(hc:ab W w w')(d:∀k,az s k->W k->vs=[]):Src sz w' s vs:=⟨h.len,h.nil,λa b=>by
 by_cases c:vs=[]
 .have h0:=h.len
  rw[c]at h0⊢
  rw[←h0];rfl
 .exact hc.cL (λe=>c (d _ ⟨a,b,rfl⟩ e)) _ _ _ (h.rd a b)⟩
structure y8(D ax:a6):Prop where
 d:ax.d=D.d
 waits:ax.waits=[]
 n:ax.n=D.n
 q:ax.quiet
 aN:ax.aN=D.aN
 aZ:∀j,ax.aZ.getD j []=D.aZ.getD j []\/ax.aZ.getD j []∈D.dc j
 c4:∀q,bD ax q->bD D q
theorem Iv(h:b_ w D){y:dB}(c:y∈D.waits):D.dc y.i=y.secs:=by
 unfold a6.dc
 cases hf:D.waits.find? λx=>x.i==y.i with
 |none=>
  have:=ig.1 hf y c;simp at this
 |some z=>
  have d:=iA hf;have e:z.i=y.i:=by simpa using jX hf
  have h1:=h.y7;obtain⟨a,f,rfl⟩:=eY d;obtain⟨b,g,rfl⟩:=eY c;have k:=(List.getElem_inj (i:=a) (j:=b) (h₀:=by simpa using f) (h₁:=by simpa using g) h1).1 (by simpa using e);subst k;rfl
theorem Iw{l:U}{zs:O Int}(h:b_ w D)(R:Src 1 w l (zs.map encZ))(al:∀q,az l q->bD D q->zs=[])(bh:zs.length<=1000000)(bi:∀z∈zs,z<=9223372036854775807)(bj:D.aN<=1000000000):
 aP ai 45 #[.pointer (some D.d),l] w (λv w'=>v=.tuple #[]/\∃ax,b_ w' ax/\y8 D ax/\ab (bD D) w w'):=by
 refine okF (af.ua (some D.d) l) ay.ua func45 ?_;(delta af.ua ak ba aI r1 ag av aR;dsimp only);refine⟨λh1=>(by cases h1),λ_=>(Is h).use ?_⟩;rintro _ w1 ⟨s,ids,rfl,S,T,E,am⟩;have an:=h.bp;have ao:=R.len;rw[dL]at ao;have bk:s.len=ids.length:=by have:=S.1;rw[dL]at this;omega
 have bl:ids.length<=1600:=by rw[T.length_eq,dL];exact h.C8
 have ap:∀q,az s q->¬bD D q:=λq a hf=>by have:=am q a;have:=h.lt hf;omega
 have F:bD D D.lb:=.inr (.inl rfl);refine⟨s,rfl,λn6 f=>∃ (i:Nat) (ls:O cJ),n6=(i:Nat)/\i<=ids.length/\b_ f {D with aZ:=ls}/\ls.length=D.n/\(∀j,ls.getD j []=D.aZ.getD j []\/ls.getD j []∈D.dc j)/\ab (λq=>q=D.lb) w1 f,λn6 _=>((ids.length:Int)-n6).toNat,⟨0,D.aZ,rfl,cE _,h.ext E,rfl,λj=>.inl rfl,ab.refl _ _⟩,?_⟩;rintro _ f ⟨i,ls,rfl,hi,g,r,iE,u⟩;have aq:=S.ad u λq a e=>ap q a (by rw[e];exact F);have G:=Src.mE (R.ext E) u λq a e=>by rw[al q a (by rw[e];exact F)];rfl
 refine⟨λH=>?_,λH=>?_⟩
 .have H:(i:Int)<(s.len:Int):=b2 H
  have J:i<ids.length:=by omega
  obtain⟨y,p,V⟩:=dv.1 (T.mem_iff.1 (cw J));have aA:IntKind.wrap .i64 ((i:Int)+1)=((i+1:Nat):Int):=by rw[bu I I];omega
  have aB:((ids.length:Int)-((i+1:Nat):Int)).toNat<((ids.length:Int)-(i:Int)).toNat:=by omega
  obtain⟨A,ar,aC,K⟩:=aq.src.at (i:=i) (v:=encZ ids[i]) (by simp[J]);refine hL (λL=>∃ls:O cJ,b_ L {D with aZ:=ls}/\ls.length=D.n/\(∀j,ls.getD j []=D.aZ.getD j []\/ls.getD j []∈D.dc j)/\ab (λq=>q=D.lb) w1 L) (λbm W=>⟨A,ar,aC,ids[i],K,?_⟩) ?_
  .refine cm (λb w'=>(b=false->∃t:i<zs.length,0<zs[i])/\f=w') (λq a=>⟨λ_=>a _ _ ⟨λh=>(by cases h),rfl⟩,λX=>?_⟩) ?_
   .have X:¬(i:Int)>=(l.len:Int):=cr X
    have t:i<zs.length:=by omega
    obtain⟨B,Y,Z,aa⟩:=G.at (i:=i) (v:=encZ zs[i]) (by simp[t]);exact⟨B,Y,Z,zs[i],aa,a _ _ ⟨λaD=>⟨t,by have:=cr aD;omega⟩,rfl⟩⟩
   .rintro b _ ⟨aE,rfl⟩
    refine⟨λ_=>W _ ⟨ls,g,r,iE,u⟩,λaG=>?_⟩;obtain⟨t,bn⟩:=aE aG;obtain⟨B,Y,Z,aa⟩:=G.at (i:=i) (v:=encZ zs[i]) (by simp[t]);have aH:=g.m.tj mv kG (k:=(y.i:Int)) (v:=y.s) (dv.2 ⟨y,p,rfl⟩) false;have M:=g.ext (b6 f);have aJ:=G.ext (b6 f);obtain⟨aK,aL,aM,aO⟩:=aJ.at (i:=i) (v:=encZ zs[i]) (by simp[t]);have bo:=(h.wn y p).2.2;have br:0<y.secs.length:=sC.2 (h.wn y p).1;obtain⟨k,aQ⟩:∃k:Nat,min zs[i] (y.secs.length:Int)=((k+1:Nat):Int):=⟨(min zs[i] (y.secs.length:Int)-1).toNat,I⟩;have C:k<y.secs.length:=by omega
    obtain⟨aT,aU,aV,aW⟩:=x7 (M.ws y p).src (λs hs=>by rw[dV];exact h.je y p s hs) (by decide) (i:=k) C;have aX:y.i<D.n:=(h.wn y p).2.1;have aY:({D with aZ:=ls}:a6).n=D.n:=r;obtain⟨bx,bG,a0⟩:=M.Iu (i:=y.i) (by rw[aY];exact aX) (h.je y p y.secs[k] (cw C));have ac:Addr.add D.lb (Int.toNat (y.i:Int)*256)=⟨D.lb,y.i*256,none⟩:=by rw[c8,aw,cA]
    refine⟨_,rfl,some D.mr,g.ba,y.s,f,by rw[←V];exact aH,aS ⟨λ_=>False,_,rfl,id,⟨some D.lb,ls.length,ls.length⟩,M.de,aK,aL,aM,id,zs[i],aO,_,f.drew,It _ _ _ _ _,ab.refl _ _,aU,aV,?_⟩⟩;rw[aT,aQ,bu (n:=(((k+1:Nat):Nat):Int)-1) I I];have a2:Int.toNat (((k+1:Nat):Int)-1)=k:=by omega
    rw[a2,←V];refine⟨⟨I,I⟩,id,_,aW,_,rfl,⟨I,by show(y.i:Int)<(ls.length:Int);omega⟩,by rw[ac];exact bx,by simp[dV,h.je y p y.secs[k] (cw C)],?_⟩;rw[ac];refine aS (W _ ⟨ls.set y.i y.secs[k],bG,by rw[cY];exact r,λj=>?_,u.trans ((b6 f).mono (λ_ _ h=>h.elim)|>.trans a0)⟩);by_cases ae:y.i=j
    .subst ae
     right;rw[eu (by rw[cY];omega),hJ,Iv h p];exact cw C
    .rw[eX,nL ae,←eX]
     exact iE j
  .rintro L ⟨a3,au,a4,a5,a7⟩
   rw[aA];exact⟨⟨i+1,a3,rfl,J,au,a4,a5,a7⟩,aB⟩
 .obtain⟨ah,K,a8,N,bs⟩:=eo.clear (P:=ai) (o:=0) g.m kG
  have a9:D.d≠D.mr:=h.a1.2.1;have a_:=g.v.ad N a9;refine⟨_,rfl,some D.mr,g.ba,_,ah,K,_,rfl,(By a_ (by rw[show(a6.c {D with aZ:=ls}).length=7 from g.vR];decide)).use ?_⟩;rintro _ aj ⟨rfl,bb,Q,bt⟩;have bc:=h.f4;have bd:b_ aj {D with aZ:=ls,waits:=[],cl:=[-1, -1, -1, -1]}:=by
   have be:bq ah D.lb (bE aF ls).toArray 182:=bq.ad g.l N h.a1.2.2;have bf:bq aj D.lb (bE aF ls).toArray 182:=bq.ad be Q λe=>h.a1.1 e.symm;refine⟨?_,bf,a8.ad Q λe=>h.a1.2.1 e.symm,λx hx=>(by cases hx),λx hx=>(by cases hx),g.sl,λx hx=>(by cases hx),?_,?_,rfl,λx hx=>?_,h.a1,λx hx=>(by cases hx),λx hx=>(by cases hx)⟩
   .have e:({D with aZ:=ls,waits:=[],cl:=[-1, -1, -1, -1]}:a6).c=List.replicate 4 (.int .i64 (-1))++(a6.c {D with aZ:=ls}).drop 4:=by
     unfold a6.c;dsimp only;rw[List.drop_left' (by rw[dL];exact bc)];rfl
    rw[e];exact bb
   .show 16<=ls.length;rw[r];exact h.bS
   .show ls.length<=1600;rw[r];exact an
   .have hx:x∈ [(-1:Int), -1, -1, -1]:=hx
    simp only[cU,eV,eZ,or_self]at hx;omega
  refine⟨rfl,rfl,_,bd,⟨rfl,rfl,r,⟨λk=>⟨.inl rfl,.inl rfl⟩,rfl⟩,rfl,iE,λq a=>?_⟩,?_⟩
  .rcases a with e|e|e|⟨x,hx,e⟩
   .exact .inl e
   .exact .inr (.inl e)
   .exact .inr (.inr (.inl e))
   .cases hx
  .have h1:ab (bD D) w f:=ct (E.mono λ_ _ h=>h.elim) u λq _ e=>by rw[e];exact F
   have bg:=ct h1 N λq _ e=>by rw[e];exact .inr (.inr (.inl rfl))
   exact ct bg Q λq _ e=>by rw[e];exact .inl rfl
end Go.Proofs.YtkdhdlfonmgheaaGreat
