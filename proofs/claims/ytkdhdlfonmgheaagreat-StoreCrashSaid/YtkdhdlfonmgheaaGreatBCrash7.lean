/- Contracts of the functions that the statement reaches, and the plain laws over them; each theorem stands with its conditions. -/
import Derived.Test.YtkdhdlfonmgheaaGreatBCrash6
namespace Go.Proofs.YtkdhdlfonmgheaaGreat
open Go a8 Go.Proofs.Tryz
theorem IB:iC aj 170:=⟨_,(Option.some_get (show(Tryz.prog.funcs[170]?).isSome=true by kernel_rfl)).symm,by kernel_rfl,by kernel_rfl⟩
theorem IC{w:J}{s:Y}{l:O UInt8}(hs:Src 1 w s (aJ l))(o:l.length<=1000):
   aR aj 169 #[s,.func (.func 170) #[] #[]] w (λv w'=>v=.bool (!(l.all λc=>c==0))/\w=w'):=by
 have p:=len8 hs
 refine okF (af.tx s ⟨170,#[],#[]⟩) aA.tx func169 ?_
 (delta af.tx aC;dsimp only)
 refine Calls.mono (af.Eo s ⟨170,#[],#[]⟩ w (λv w'=>(∃i:Int,v=i/\(decide (i>=0))= !(l.all λc=>c==0))/\w=w') ?_) ?_
 · (delta af.rh ak aL b3 av;dsimp only)
   refine⟨λi w'=>∃j:Nat,i=j/\j<=l.length/\w=w'/\∀ (k:Nat) (a:k<l.length),k<j->l[k]=0,λi _=>((l.length:Int)-i).toNat,⟨0,rfl,cL _,rfl,λk a h=>I⟩,?_⟩
   rintro _ _ ⟨j,rfl,q,rfl,d⟩
   refine⟨λaK=>?_,λb=>?_⟩
   · have aK:j<l.length:=by have:=b8 aK;omega
     obtain⟨A,ar,f,g⟩:=hs.at (om aK)
     refine⟨A,ar,f,_,g,IB,?_⟩
     refine Calls.mono (af.EF ((l[j]).toNat:Int) w (λv w'=>v=.bool (((l[j]).toNat:Int) !=0)/\w=w') ⟨rfl,rfl⟩) ?_
     rintro _ _ ⟨_,rfl,rfl,rfl⟩
     refine⟨_,rfl,λe=>⟨⟨j,rfl,?_⟩,rfl⟩,λm=>?_⟩
     · have:(l.all λc=>c==0)=false:=by
         rw[List.all_eq_false]
         refine⟨l[j],cF _,λh=>?_⟩
         have h:=eq_of_beq h
         rw[h]at e
         simp at e
       rw[this]
       exact dP I
     · have h0:l[j]=0:=by
         have:((l[j]).toNat:Int)=0:=by simpa using m
         exact UInt8.toNat_inj.1 (by show(l[j]).toNat=0;omega)
       rw[bA (n:=(j:Int)+1) I I]
       refine⟨⟨j+1,I,I,rfl,λk a h=>?_⟩,?_⟩
       · rcases dO k j with h1|h1
         · exact d k a h1
         · have:k=j:=by omega
           subst this;exact h0
       · show((l.length:Int)-((j:Int)+1)).toNat<((l.length:Int)-(j:Int)).toNat
         omega
   · have b:j=l.length:=by have:=cv b;omega
     subst b
     refine⟨⟨-1,rfl,?_⟩,rfl⟩
     have:(l.all λc=>c==0)=true:=by
       rw[mC]
       intro c hc
       obtain⟨k,a,rfl⟩:=fi hc
       rw[d k a a];rfl
     rw[this];rfl
 · rintro _ _ ⟨_,rfl,⟨i,rfl,hi⟩,rfl⟩
   exact⟨i,rfl,by rw[hi],rfl⟩
theorem ID{l:O Int}{i:Nat}{d:Int}(h:i<l.length):l.set i (l.getD i d)=l:=by
 rw[fm h,List.set_getElem_self]
theorem IE{D:a6}(h:D.quiet){k:Nat}(a:k=1\/k=2):D.cg.getD k 0= -1:=by
 have h1:=h.1 ((D.cg.getD k 0).toNat+1);rcases a with rfl|rfl
 .exact h1.1.resolve_right I
 .exact h1.2.resolve_right I
theorem C7{D:a6}(h:D.quiet)(b:D.cg.length=4){k:Nat}(a:k=1\/k=2):D.cC k=D/\D.fV k=false:=by
 have h1:=IE h a;unfold a6.cC a6.fV;rw[h1];refine⟨?_,rfl⟩;have e:(gA (-1)).2=D.cg.getD k 0:=by rw[h1];rfl
 rw[e,ID I]
def takeN(u:cZ)(g:Nat):aq (cZ×Nat)->aq (cZ×Nat)
 |none=>some (u,g)
 |some x=>if g>x.2 then some (u,g) else some x
def gQ(n no:Nat)(l:cX)(acc:aq (cZ×Nat)):Except Int (aq (cZ×Nat)):=
 if (l.all λc=>c==0)=true then .ok acc else match gV (no:Int) l with
 | .error e=>.error e
 | .ok (u,s,g)=>if s≠n then .error 4 else .ok (takeN u g acc)
def jB(n:Nat)(V:Nat->cX):Nat->Except Int (aq (cZ×Nat))
 |0=>.ok none
 |i+1=>match jB n V i with
  | .error e=>.error e
  | .ok a=>gQ n i (V i) a
theorem C8{n:Nat}{V:Nat->cX}{e:Int}{i:Nat}(h:jB n V i=.error e):∀k,jB n V (i+k)=.error e
 |0=>h
 |k+1=>by
  show jB n V (i+k+1)=_
  unfold jB
  rw[C8 h k]
def C9:aq (cZ×Nat)->Except Int (cZ×Nat)
 |none=>.error 6
 |some x=>.ok x
def jV(n:Nat)(V:Nat->cX):Except Int (cZ×Nat):=match jB n V 2 with
 | .error e=>.error e
 | .ok a=>C9 a
def qs:aq (cZ×Nat)->cZ
 |none=>gm
 |some x=>x.1
def qt:aq (cZ×Nat)->Nat
 |none=>0
 |some x=>x.2
theorem IF{no:Int}{l:cX}{e:Int}(h:gV no l=.error e):e≠0:=by
 unfold gV at h;split at h
 .rename_i a he
  cases h;exact yK he
 .split at h
  .cases h;decide
  .split at h
   .cases h
   .cases h;decide
theorem pB{w:J}{D:a6}(h:cx w D)(j:D.quiet)(aD:D.aQ<=1000000000):
 aR aj 109 #[.pointer (some D.d)] w (λv w'=>cx w' D/\ad (λq=>q=D.d) w w'/\(match jV D.n D.now with
  | .error e=>e≠0/\∃u:cZ,v=.tuple #[.agg u.c.toArray,.int .u64 0,e]
  | .ok (u,g)=>v=.tuple #[.agg u.c.toArray,.int .u64 (g:Nat),(0:Int)])):=by
 have aU:=h.bW;refine okF (af.pB (some D.d)) aA.pB func109 ?_;(delta af.pB ft ak cc w9 r1 U br aO Ar aC av;dsimp only);refine bh (vs:=gm.c) rfl λw1 ae ag aV=>?_;obtain⟨t,aE⟩:∃t,t=w.heap.size:=⟨_,rfl⟩;rw[←aE]at ae⊢;have aF:t≠D.d:=by have:=h.lt (q:=D.d) (.inl rfl);omega
 have ai:=C7 j h.f4 (k:=1) (.inl rfl);refine⟨λaG aH n6 C=>∃ (i:Nat) (a:aq (cZ×Nat)),n6=(i:Nat)/\i<=2/\aG=(qt a:Nat)/\aH=a.isSome/\jB D.n D.now i=.ok a/\cx C D/\Var C t (qs a).c 104/\ad (λq=>q=D.d) w C,λ_ _ n6 _=>(2-n6).toNat,⟨0,none,rfl,by decide,rfl,rfl,rfl,h.ext ag,ae,ag.mono λ_ _ h=>h.elim⟩,?_⟩;rintro _ _ _ C ⟨i,a,rfl,hi,rfl,rfl,al,O,A,E⟩;have aW:=E.size;have B:∀ {w' am:J},ad (λq=>q=D.d) w w'->ad (λq=>q=t) w' am->ad (λq=>q=D.d) w am:=λh1 h2=>cu h1 h2 λq aX e=>by omega
 refine⟨λP=>?_,λP=>?_⟩
 .have Q:i<2:=by have:(i:Int)<2:=b8 P;omega
  have aI:IntKind.wrap .i64 ((i:Int)+1)=((i+1:Nat):Int):=by rw[bA I I];omega
  refine s3 (λn b w'=>∃y:aq (cZ×Nat),n=(qt y:Nat)/\b=y.isSome/\jB D.n D.now (i+1)=.ok y/\cx w' D/\Var w' t (qs y).c 104/\ad (λq=>q=D.d) w w') (λaY R=>(x0 O (i:=i) I aD).use ?_) ?_
  .rintro v aJ ⟨F,an,aK⟩
   rw[ai.1]at F;rcases aK with ⟨ao,_⟩|⟨_,s,rfl,S⟩
   .rw[ai.2]at ao;cases ao
   have ap:=A.ab an aF;have ar:ad (λq=>q=D.d) w aJ:=E.trans an;have aZ:=F.oB (i:=i) I;have G:jB D.n D.now (i+1)=gQ D.n i (D.now i) a:=by
    unfold jB;rw[al]
   have au:∀e,gQ D.n i (D.now i) a=.error e->jV D.n D.now=.error e:=λe he=>by
    unfold jV;have:=C8 (G.trans he) (1-i);rw[show i+1+(1-i)=2 from I]at this;rw[this]
   refine⟨s,0,rfl,λhx=>(by cases hx),λ_=>(IC S.1 I).use ?_⟩;rintro _ _ ⟨rfl,rfl⟩;refine⟨_,rfl,λm=>R _ _ _ ⟨a,rfl,rfl,?_,F,ap,ar⟩,λm=>(pI S.1 S.2.1 I (i:Nat)).use ?_⟩
   .rw[G];unfold gQ
    rw[if_pos (by simpa using m)]
   have m:¬((D.now i).all λc=>c==0)=true:=by simpa using m
   rintro v T ⟨rfl,V⟩;have aw:=F.ext V;have ax:=ap.ext V;have ay:ad (λq=>q=D.d) w T:=cu ar V λq _ h=>h.elim
   cases H:gV (i:Int) (D.now i) with
   |error e=>
    have he:=IF H;have z:=au e (by unfold gQ;rw[if_neg m,H]);refine⟨_,_,_,_,_,_,_,_,e,rfl,bh (vs:=gm.c) rfl λaL W X aM=>jj W rfl gm λK az Y _=>⟨λ_=>?_,λhx=>absurd (by simpa using hx) he⟩⟩;have o:Ext T K:=Ext.cn X Y (bl _);have p:=ax.ext o;refine gO p (jj p rfl (qs a) λah l f _=>gO l ⟨(aw.ext o).ab f λq j e=>?_,B (cu ay o λq _ h=>h.elim) f,?_⟩)
    .have:=h.lt j;omega
    .rw[z];exact⟨he,_,rfl⟩
   |ok r=>
    obtain⟨u,fO,g⟩:=r;refine⟨_,_,_,_,_,_,_,_,0,rfl,bh (vs:=gm.c) rfl λaL W X aM=>jj W rfl u λK az Y _=>⟨λhx=>(by cases hx),λ_=>?_⟩⟩;have o:Ext T K:=Ext.cn X Y (bl _);have p:=ax.ext o;have L:=aw.ext o;have Z:ad (λq=>q=D.d) w K:=cu ay o λq _ h=>h.elim;refine(qb L).use ?_;rintro _ _ ⟨rfl,rfl⟩;refine⟨_,rfl,λM=>?_,λaa=>?_⟩
    .have M:fO≠D.n:=λe=>by rw[e]at M;simp at M
     have z:=au 4 (by unfold gQ;rw[if_neg m,H];dsimp only;rw[if_pos M]);refine gO p (jj p rfl (qs a) λah l f _=>gO l ⟨L.ab f λq j e=>?_,B Z f,?_⟩)
     .have:=h.lt j;omega
     .rw[z];exact⟨by decide,_,rfl⟩
    .have aa:fO=D.n:=by
      have:(fO:Int)=(D.n:Int):=by simpa using aa
      omega
     have aB:gQ D.n i (D.now i) a=.ok (takeN u g a):=by
      unfold gQ;rw[if_neg m,H];dsimp only;rw[if_neg (λe=>e aa)]
     refine⟨λN=>?_,λN=>?_⟩
     .have aN:jB D.n D.now (i+1)=.ok (some (u,g)):=by
       rw[G,aB]
       cases a with
       |none=>rfl
       |some x=>
        have:g>x.2:=by
         have:(g:Int)>((qt (some x):Nat):Int):=by simpa using N
         have e:qt (some x)=x.2:=rfl;omega
        show Except.ok (if g>x.2 then _ else _)=_;rw[if_pos this]
      refine gO az (jj p rfl u λah l f _=>R _ _ _ ⟨some (u,g),rfl,rfl,aN,L.ab f λq j e=>?_,l,B Z f⟩);have:=h.lt j;omega
     .refine R _ _ _ ⟨a,rfl,rfl,?_,L,p,Z⟩
      rw[G,aB]
      cases a with
      |none=>cases N
      |some x=>
       have:¬g>x.2:=by
        have:¬(g:Int)>((qt (some x):Nat):Int):=by simpa using N
        have e:qt (some x)=x.2:=rfl;omega
       show Except.ok (if g>x.2 then _ else _)=_;rw[if_neg this]
  .rintro _ _ a0 ⟨y,rfl,rfl,h1,h2,aP,aS⟩
   rw[aI];have aT:(2-((i+1:Nat):Int)).toNat<(2-(i:Int)).toNat:=by omega
   exact⟨⟨i+1,y,rfl,Q,rfl,rfl,h1,h2,aP,aS⟩,aT⟩
 .have Q:i=2:=by have:¬(i:Int)<2:=cv P;omega
  subst Q;have z:jV D.n D.now=C9 a:=by unfold jV;rw[al]
  refine⟨λac=>gO A (jj A rfl (qs a) λah l f _=>gO l ⟨O.ab f λq j e=>?_,B E f,?_⟩),λac=>gO A (jj A rfl (qs a) λah l f _=>gO l ⟨O.ab f λq j e=>?_,B E f,?_⟩)⟩
  .have:=h.lt j;omega
  .rw[z]
   cases a with
   |none=>exact⟨by decide,_,rfl⟩
   |some x=>cases ac
  .have:=h.lt j;omega
  .rw[z]
   cases a with
   |none=>cases ac
   |some x=>rfl
theorem IG{no:Int}{l:O UInt8}{p:ir}(h:dQ no l=.ok p):l.getD 4 0=1:=by
 by_cases e:l.getD 4 0=1
 .exact e
 .exfalso
  unfold dQ at h;split at h
  .cases h
  .split at h
   .cases h
   .first|(rw[if_pos e]at h;cases h)|cases h
theorem IH{no:Int}{l:O UInt8}{p:ir}(h:dQ no l=.ok p):¬(l.all λc=>c==0)=true:=λa=>by
 have h1:=IG h
 rw[mC]at a
 rw[fC]at h1
 cases hg:l[4]? with
 |none=>rw[hg]at h1;cases h1
 |some c=>
  rw[hg]at h1
  have:=a c (List.mem_of_getElem? hg)
  have h1:c=1:=h1
  rw[h1]at this;cases this
theorem y0{no:Int}{l:O UInt8}{r:cZ×Nat×Nat}(h:gV no l=.ok r):∃p,dQ no l=.ok p:=by
 unfold gV at h
 cases a:dQ no l with
 |error e=>rw[a]at h;cases h
 |ok p=>exact⟨p,rfl⟩
theorem se{n no:Nat}{l:cX}{a:aq (cZ×Nat)}{u:cZ}{g:Nat}(h:gV (no:Int) l=.ok (u,n,g)):gQ n no l a=.ok (takeN u g a):=by
 obtain⟨p,b⟩:=y0 h;unfold gQ;rw[if_neg (IH b),h];dsimp only;rw[if_neg (λe=>e rfl)]
theorem C_{n no:Nat}{a:aq (cZ×Nat)}:gQ n no gB a=.ok a:=by
 unfold gQ;rw[if_pos (by unfold gB;rw[List.all_replicate];rfl)]
section
variable {V:Nat->cX}{n gen:Nat}{u:cZ}{g:Nat->ai}{P:Nat->aq aD}{p:O Nat}{L:O aH}
theorem gP.jV(h:gP V n gen u g P p L):jV n V=.ok (u,gen):=by
 have h2:jB n V 2=.ok (some (u,gen)):=by
  have e:jB n V 2=(match gQ n 0 (V 0) none with| .error e=>.error e| .ok a=>gQ n 1 (V 1) a):=rfl;rw[e];have b:=h.v_;have c:=h.yS;rcases Nat.mod_two_eq_zero_or_one gen with h0|h0
  .rw[h0]at b c
   rw[se b];show gQ n 1 (V 1) (some (u,gen))=_;rcases c with d|⟨f,g',h1,h2⟩
   .rw[show V 1=gB from d,C_]
   .rw[se (no:=1) h1]
    show Except.ok (if g'>gen then _ else _)=_;rw[if_neg I]
  .rw[h0]at b c
   rcases c with d|⟨f,g',h1,h2⟩
   .rw[show V 0=gB from d,C_]
    exact se b
   .rw[se (no:=0) h1]
    show gQ n 1 (V 1) (some (f,g'))=_;rw[se b];show Except.ok (if gen>g' then _ else _)=_;rw[if_pos h2]
 unfold Go.Proofs.YtkdhdlfonmgheaaGreat.jV;rw[h2];rfl
end
theorem Da{g:Nat->ai}{n:Nat}(hg:∀i,n<=i->g i=false):bitsOf ((fR g ((n+7)/8)).map λc=>(c.toNat:Int))=g:=by
 funext i;unfold bitsOf;by_cases hi:i/8<(n+7)/8
 .rw[fC,lu]
  have e:(fR g ((n+7)/8))[i/8]? =some (UInt8.ofNat (byteOf g (i/8))):=by
   unfold fR;rw[lu,List.getElem?_range hi];rfl
  rw[e];have a:=kg g (i/8);show((((UInt8.ofNat (byteOf g (i/8))).toNat:Nat):Int).toNat).testBit (i%8)=g i;rw[UInt8.toNat_ofNat',jI a,dd,nh _ _ _ (g7 _ (by decide)),BI]
 .have:(fR g ((n+7)/8)).length<=i/8:=by rw[oM];omega
  rw[fC,kp (by rw[dU];exact this),hg i I];show Nat.testBit (Int.toNat 0) _=false;simp
theorem II{g:Nat->ai}{n:Nat}(hg:∀i,n<=i->g i=false):oL ((fR g ((n+7)/8)).map λc=>(c.toNat:Int)) n:=
 ⟨by rw[dU,oM],λi hi=>by rw[Da hg];exact hg i hi⟩
theorem pC{w:J}{D:a6}{no:Nat}{g:Nat->ai}(h:cx w D)(P:D.quiet)(Q:D.aQ<=1000000000)(C:no<D.n)(hg:∀i,D.n<=i->g i=false)
 (hc:(∃fz,dQ ((no:Nat):Int) (D.now no)=.ok ⟨4,fz,fR g ((D.n+7)/8)⟩)\/∃e,dQ ((no:Nat):Int) (D.now no)=.error e):
 aR aj 110 #[.pointer (some ⟨D.d,0,none⟩),.int .i64 (no:Nat)] w (λv w'=>cx w' D/\ad (λq=>q=D.d) w w'/\
  ((∃sb s1 s2,v=.tuple #[.pointer (some ⟨sb,0,none⟩),.int .i64 0]/\(∃fz,dQ ((no:Nat):Int) (D.now no)=.ok ⟨4,fz,fR g ((D.n+7)/8)⟩)/\eX w' sb D.n g g s1 s2/\∀k,fy sb s1 s2 k->w.heap.size<=k)\/
   (∃e:Int,v=.tuple #[.pointer none,.int .i64 e]/\e≠0/\∃R,dQ ((no:Nat):Int) (D.now no)=.error R))):=by
 refine okF (af.pC (some ⟨D.d,0,none⟩) (no:Nat)) aA.pC func110 ?_;(delta af.pC cc ak lG z3 U r1 ag aC dg;dsimp only);have ah:=h.bC;have E:=C7 P h.f4 (k:=1) (.inl rfl);refine(x0 h C Q).use ?_;rintro v w1 ⟨m,S,o⟩;rw[E.1]at m;rcases o with ⟨F,_⟩|⟨_,s,rfl,G⟩
 .rw[E.2]at F;cases F
 have al:=m.oB C;refine⟨s,0,rfl,λhx=>(by cases hx),λ_=>(mZ G.1 G.2.1 I _).use ?_⟩;rintro v p ⟨f,H⟩;have K:=m.ext H;have r:ad (λq=>q=D.d) w p:=cu S H λq _ h=>h.elim;rcases hc with ⟨fz,a⟩|⟨e,a⟩
 .rw[a]at f
  obtain⟨t,rfl,T,am⟩:=f;refine⟨4,fz,t,0,rfl,bh (vs:=[.int .i64 0,.int .u64 0,.slice none 0 0]) rfl λV u y W=>vM 4 fz t u rfl λb z A X=>⟨λhx=>(by cases hx),λ_=>⟨4,z.cell,λhx=>(by cases hx),λ_=>aW ?_⟩⟩⟩;have j:Ext p b:=Ext.cn y A (bl _);have L:Ext b b.drew:=cf _;have Y:=z.ext L;have l:=Ext.trans j L;have M:=K.ext l;refine⟨λ_=>False,id,t,by rw[aw];exact Y.cell,(qb M).use ?_⟩;rintro _ _ ⟨rfl,rfl⟩;have Z:=T.ext l;have hu:aJ (fR g ((D.n+7)/8))=((fR g ((D.n+7)/8)).map λc=>((c.toNat:Nat):Int)).map (.int .u8):=by unfold aJ;rw[iz];rfl
  have N:=Z.src;rw[show(⟨4,fz,fR g ((D.n+7)/8)⟩:ir).body=fR g ((D.n+7)/8) from rfl,hu]at N;refine⟨_,rfl,ad.refl _ _,(pJ N (λx hx=>?_) (by rw[dU,oM];omega) (D.n:Nat)).use ?_⟩
  .obtain⟨c,_,rfl⟩:=eC.1 hx
   have:=c.toNat_lt;omega
  rintro v aa ⟨O,o⟩;have ab:=M.ext O;have ac:ad (λq=>q=D.d) w aa:=cu r (Ext.trans l O) λq _ h=>h.elim;have an:=h.bW;rcases o with ⟨B,_⟩|⟨_,_,B,_⟩|⟨_,_,_,sb,s1,s2,rfl,gj,hf⟩
  .exact absurd ⟨I,I⟩ B
  .exact absurd (by rw[dd];exact II hg) B
  .rw[Da hg,dd]at gj
   refine⟨_,0,rfl,ab,ac,.inl ⟨sb,s1,s2,rfl,⟨fz,a⟩,gj,λk ae=>?_⟩⟩;have:=hf k ae;have:=r.size;have:=l.size;omega
 .rw[a]at f
  obtain rfl:=f;have he:=yK a;refine⟨0,0,⟨none,0,0⟩,e,rfl,bh (vs:=[.int .i64 0,.int .u64 0,.slice none 0 0]) rfl λV u y W=>vM 0 0 ⟨none,0,0⟩ u rfl λb z A X=>⟨λ_=>?_,λhx=>absurd (by simpa using hx) he⟩⟩;have j:Ext p b:=Ext.cn y A (bl _);exact⟨K.ext j,cu r j λq _ h=>h.elim,.inr ⟨e,rfl,he,e,a⟩⟩
section
variable {w w':J}{D:a6}{V:Nat->cX}{gen:Nat}{u:cZ}{g:Nat->ai}{P:Nat->aq aD}{aG:O Nat}{aM:O aH}
def sf(D:a6)(j:Nat):Prop:=¬((D.now j).all λc=>c==0)=true/\∃e,dQ (j:Int) (D.now j)=.error e
theorem IJ(h:gP V D.n gen u g P aG aM)(dR:∀j,g j=true->D.now j=V j\/sf D j):(D.now 0=V 0/\D.now 1=V 1/\jV D.n D.now=.ok (u,gen))\/((∃j,g j=true/\sf D j)/\∃e,jV D.n D.now=.error e):=by
 have mi:g 0=true:=(h.g 0).2 (.inr (.inl (by decide)));have au:g 1=true:=(h.g 1).2 (.inr (.inl (by decide)));have bad:∀ (j:Nat) (a:aq (cZ×Nat)),sf D j->∃e,gQ D.n j (D.now j) a=.error e:=λj a ⟨h1,e,h2⟩=>by
  unfold gQ;rw[if_neg h1];unfold gV;rw[h2];exact⟨e,rfl⟩
 have b:jB D.n D.now 2=(match gQ D.n 0 (D.now 0) none with| .error e=>.error e| .ok a=>gQ D.n 1 (D.now 1) a):=rfl;rcases dR 0 mi with h0|h0
 .rcases dR 1 au with h1|h1
  .refine .inl ⟨h0,h1,?_⟩
   have:=h.jV;unfold jV at this⊢;have c:jB D.n V 2=(match gQ D.n 0 (V 0) none with| .error e=>.error e| .ok a=>gQ D.n 1 (V 1) a):=rfl;rw[b,h0,h1,←c];exact this
  .right
   refine⟨⟨1,au,h1⟩,?_⟩;unfold jV;rw[b]
   cases hs:gQ D.n 0 (D.now 0) none with
   |error e=>exact⟨e,rfl⟩
   |ok a=>
    obtain⟨e,he⟩:=bad 1 a h1;dsimp only;rw[he];exact⟨e,rfl⟩
 .right
  refine⟨⟨0,mi,h0⟩,?_⟩;obtain⟨e,he⟩:=bad 0 none h0;unfold jV;rw[b,he];exact⟨e,rfl⟩
theorem Db{c aV k:Nat}{a:Nat->Prop}(h:ek (λ_=>False) w (iO c aV k D))(d:∀q,a q->q<w.heap.size/\¬c4 (iO c aV k D) q):ek a w (iO c aV k D):=
 ⟨h.raw,h.inv.pins,λf hf b=>(by
  have:=(List.mem_replicate.1 (show f∈List.replicate k dC from hf)).2
  rw[this]at b
  cases b),h.inv.un,d,h.inv.ke⟩
theorem py{l:fB}{bD:Nat->Prop}(h:cx w D)(o:D.quiet)(b5:D.aQ<=800000000)(aH:∀j,g j=true->D.dB j=[])(K:kM (l.an:Nat) (l.batch:Nat) (l.dY:Nat))(a:gP V D.n gen u g P aG aM)(dR:∀j,g j=true->D.now j=V j\/sf D j)(hs:D.bL=g)(aJ:D.dH=λ_=> [])(b6:gen<=1000000000)(bc:aM.length<=4000)(bd:aG.length<=4000)(aK:∀q,bD q->q<w.heap.size/\¬bY D q):
 aR aj 41 #[.pointer (some ⟨D.d,0,none⟩),.agg l.c.toArray] w (λv w'=>ad (bY D) w w'/\
  ((∃S:bZ,v=.tuple #[.pointer (some ⟨S.st,0,none⟩),.int .i64 0]/\c_ w' S aG aM aG aM/\S.failed=false/\S.u=u/\S.gen=gen/\S.now=u.clock/\S.pending=0/\S.l=l/\S.T.C.D.d=D.d/\S.T.n=D.n/\S.T.C.D.quiet/\S.T.C.D.aQ<=D.aQ+9000/\(∀q,S.T.M q->bY D q\/bD q\/w.heap.size<=q)/\(∀q,S.T.E q↔q=S.st\/bD q)/\w.heap.size<=S.st)\/
   (∃e:Int,v=.tuple #[.pointer none,.int .i64 e]/\e≠0/\∃j,g j=true/\sf D j))):=by
 refine okF (af.py (some ⟨D.d,0,none⟩) (l.an:Nat) (l.batch:Nat) (l.dY:Nat)) aA.py func41 ?_;(delta af.py r1 U br aO ak Aq ft dg aC;dsimp only);have b7:=h.bW;have b8:=h.bC;have G:=a.qp;have Y:g u.map=true:=(a.g _).2 (.inr (.inr rfl));refine bh (vs:=l.c) rfl λw1 Z aL b9=>⟨_,Z.cell,_,by rw[aw];exact Z.cell,_,by rw[aw];exact Z.cell,(nW w1 _ _ _ _).use ?_⟩;rintro _ b_ ⟨rfl,aP⟩;refine⟨_,rfl,λaS=>?_,λ_=>?_⟩
 .rw[dP K]at aS;cases aS
 have ah:=aL.trans aP;have be:=h.ext ah;have bf:=Z.ext aP;refine(pB be o I).use ?_;rintro v ai ⟨bi,al,H⟩;have cb:=ah.size;have cc:=al.size;have cd:=aL.size;have aa:∀q,q=D.d->bY D q:=λq e=>.inl e;have aT:ad (bY D) w ai:=cu (ah.mono λ_ _ h=>h.elim) al λq _ e=>aa q e;have bk:=bf.ab al λe=>by have:=h.lt (q:=D.d) (.inl rfl);omega
 rcases IJ a dR with ⟨bn,bo,am⟩|⟨bp,e,am⟩
 rotate_left
 .rw[am]at H
  obtain⟨he,bq,rfl⟩:=H;refine⟨_,_,_,_,_,_,0,e,rfl,bh (vs:=gm.c) rfl λbs ap ar bt=>jj ap rfl bq λac au av _=>⟨λ_=>?_,λhx=>absurd (by simpa using hx) he⟩⟩;have O:Ext ai ac:=Ext.cn ar av (bl _);exact⟨cu aT O λq _ h=>h.elim,.inr ⟨e,rfl,he,bp⟩⟩
 rw[am]at H;obtain rfl:=H;refine⟨_,_,_,_,_,_,_,0,rfl,bh (vs:=gm.c) rfl λbs ap ar bt=>jj ap rfl u λac au av _=>⟨λhx=>(by cases hx),λ_=>⟨_,by rw[aw];exact au.cell,?_⟩⟩⟩;have O:Ext ai ac:=Ext.cn ar av (bl _);have bu:=bi.ext O;have bv:=bk.ext O;have aU:∀i,D.n<=i->g i=false:=λi hi=>by
  cases hg:g i with
  |false=>rfl
  |true=>
   rcases(a.g i).1 hg with h1|h1|h1
   .have:=(a.two i h1).2.2;omega
   .omega
   .have:=G.2.2.2.1;omega
 have aW:=a.mp;have bw:(∃fz,dQ ((u.map:Nat):Int) (D.now u.map)=.ok ⟨4,fz,fR g ((D.n+7)/8)⟩)\/∃e,dQ ((u.map:Nat):Int) (D.now u.map)=.error e:=by
  rcases dR u.map Y with h1|h1
  .obtain⟨fz,_,h2⟩:=aW
   exact .inl ⟨fz,by rw[h1];exact h2⟩
  .exact .inr h1.2
 refine(pC bu o I G.2.2.2.1 aU bw).use ?_;rintro v aX ⟨bx,ae,H⟩;have ce:=O.size;have bz:ad (bY D) w ac:=cu aT O λq _ h=>h.elim;have aY:ad (bY D) w aX:=cu bz ae λq _ e=>aa q e;rcases H with ⟨sb,s1,s2,rfl,⟨fz,bA⟩,gj,bB⟩|⟨e,rfl,he,cf,a0⟩
 rotate_left
 .refine⟨none,e,rfl,λ_=>⟨aY,.inr ⟨e,rfl,he,u.map,Y,?_⟩⟩,λhx=>absurd (by simpa using hx) he⟩
  rcases dR u.map Y with h1|h1
  .obtain⟨fz,_,h2⟩:=aW
   rw[h1,h2]at a0;cases a0
  .exact h1
 have a4:∀q,w.heap.size<=q->¬bY D q:=λq o hf=>by have:=h.lt hf;omega
 have ax:=bv.ab ae λe=>a4 _ (bl _) (aa _ e);have a5:=au.ab ae λe=>a4 _ I (aa _ e);have bE:D.now u.map=V u.map:=by
  rcases dR u.map Y with h1|⟨_,e,h1⟩
  .exact h1
  .rw[bA]at h1;cases h1
 refine⟨_,0,rfl,λhx=>(by cases hx),λ_=>⟨_,ax.cell,_,by rw[aw];exact ax.cell,_,by rw[aw];exact ax.cell,gO a5 ?_⟩⟩;have bF:=mX bx (l:=l) (u:=u) (gen:=gen) ⟨by have:=K.1;omega,by have:=K.2.1;omega⟩ ⟨I,by have:=G.2.1;omega,I,by have:=G.2.2.1;omega,by have:=G.1;omega⟩ I (λj A=>by rw[aJ,aH j (by rw[←hs];exact A)]) sb;refine bF.use ?_;rintro _ Q ⟨c,aV,aZ,st,B⟩;have bG:=B.val;subst bG;refine⟨_,0,rfl,λhx=>(by cases hx),λ_=>⟨_,by rw[aw];exact(a5.ext B.x).cell,?_⟩⟩;have cg:=ae.size;have ch:=B.x.size;have ci:=B.sv.lt;have cj:=B.hc;have ck:=B.hf;have cm:=B.ht;obtain⟨P',ag⟩:∃P':Nat->aq aD,P'=λno=>if no∈aG then (if D.now no=V no then P no else none) else none:=⟨_,rfl⟩
 obtain⟨T,b⟩:∃T:aN,T=⟨aZ,gen+1,u.root,u.aI,iO c aV l.an D,sb,D.n,g,g,s1,s2,λq=>q=st\/bD q,λ_=>False,P'⟩:=⟨_,rfl⟩;have R:∀q,c4 (iO c aV l.an D) q->q=c\/q=aV\/bY D q:=λq h=>h;have W:∀q,fy sb s1 s2 q->w.heap.size<=q/\q<aX.heap.size:=λq o=>⟨by have:=bB q o;omega,gj.lt q o⟩;have bH:∀q,T.X q->q=aZ\/fy sb s1 s2 q\/q=st\/bD q:=λq o=>by
  rw[b]at o;rcases o with h1|h1|h1|h1
  .exact .inl h1
  .exact .inr (.inl h1)
  .exact .inr (.inr h1)
  .exact h1.elim
 have ay:∀q,bY D q->q<w.heap.size:=λq o=>h.lt o;have a6:bJ Q T:=by
  have a7:ek T.X Q (iO c aV l.an D):=Db B.ca λq o=>by
   rcases bH q o with h1|h1|h1|h1
   .refine⟨I,λhf=>?_⟩
    rcases R q hf with h2|h2|h2
    .omega
    .omega
    .have:=ay q h2;omega
   .have y:=W q h1
    refine⟨I,λhf=>?_⟩;rcases R q hf with h2|h2|h2
    .omega
    .omega
    .have:=ay q h2;omega
   .refine⟨I,λhf=>?_⟩
    rcases R q hf with h2|h2|h2
    .omega
    .omega
    .have:=ay q h2;omega
   .have y:=aK q h1
    refine⟨I,λhf=>?_⟩;rcases R q hf with h2|h2|h2
    .omega
    .omega
    .exact y.2 h2
  rw[b]at a7⊢;refine⟨B.dm,gj.ext B.x,a7,λhf=>by have:=W aZ hf;omega,λq o=>?_,λq o=>o.elim,rfl,⟨G.2.2.1,G.2.1,by show gen+1<_;omega⟩,λno bj z=>?_,λj A=>.inl (by rw[←hs];exact A),⟨(a.g 0).2 (.inr (.inl (by decide))),(a.g 1).2 (.inr (.inl (by decide)))⟩⟩
  .have o:q=st\/bD q:=o
   rcases o with h1|h1
   .exact⟨by show q≠aZ;omega,λhf=>by have:=W q hf;omega,λh=>h⟩
   .have y:=aK q h1
    exact⟨by show q≠aZ;omega,λhf=>by have:=W q hf;omega,λh=>h⟩
  .have z:P' no=some bj:=z
   rw[ag]at z;dsimp only at z;by_cases h1:no∈aG
   .rw[if_pos h1]at z
    by_cases h2:D.now no=V no
    .rw[if_pos h2]at z
     refine⟨(a.two no h1).2.2,?_⟩;show gN (gen+1) bj.leaf no ((iO c aV l.an D).view no) bj;rw[x8,h2];exact(a.eo no h1 bj z).mono I
    .rw[if_neg h2]at z;cases z
   .rw[if_neg h1]at z;cases z
 obtain⟨S,r⟩:∃S:bZ,S=⟨st,T,l,u,gen,u.clock,0,0,u.keys,false⟩:=⟨_,rfl⟩;have az:Var Q S.st S.cells 158:=by
  rw[r];show Var Q st (g6 T.aZ T.C.D.d T.C.c T.sb _ _ _ _ _ _ _ _) _;rw[b];exact B.sv
 have fD:S.T=T:=by rw[r]
 have aB:S.u=u:=by rw[r]
 have bI:gh (T.bm T.C P) aG aM:=by
  rw[b];exact a.ok
 have a8:=C3 (S:=S) (fX:=P) (pages:=aG) (L:=aM) (m:=((u.keys:Nat):Int)) az (by rw[fD];exact a6) (by rw[r,b];exact .inl rfl) (by rw[fD];exact bI) (λx hx bj z=>?_) a.bj (λno=>by rw[fD,aB,b];exact a.g no) (λx hx=>by rw[aB];exact⟨(a.two x hx).1,(a.two x hx).2.1⟩) (by rw[fD,aB,b];exact⟨G.2.2.2.2.1,G.2.2.2.1⟩) bc bd (by rw[fD,b];show D.aQ<=_;omega)
 rotate_left
 .rw[fD,b]
  rcases dR x ((a.g x).2 (.inl hx)) with h1|h1
  .left
   show P' x=some bj;rw[ag];dsimp only;rw[if_pos hx,if_pos h1];exact z
  .right
   obtain⟨_,e,h2⟩:=h1;exact⟨⟨(a.two x hx).2.2,(a.two x hx).1⟩,e,by show dQ _ ((iO c aV l.an D).view x)=_;rw[x8];exact h2⟩
 rw[show S.st=st by rw[r]]at a8;refine a8.use ?_;rintro v bK ⟨ao,bM,F,a9,H⟩;rw[fD]at F a9 H;have bN:ad (bY D) w Q:=cu aY B.x λq _ h=>h.elim;have bO:∀q,T.N q->bY D q\/w.heap.size<=q:=λq o=>by
  rw[b]at o;rcases o with h1|h1|h1|h1
  .rcases R q h1 with h2|h2|h2
   .exact .inr I
   .exact .inr I
   .exact .inl h2
  .have h1:q=aZ:=h1
   exact .inr I
  .exact .inr (W q h1).1
  .exact h1.elim
 have a_:ad (bY D) w bK:=cu bN F.to.ab λq co o=>(bO q o).resolve_right I;rcases H with ⟨rfl,cp,bP⟩|⟨e,rfl,he,bQ⟩
 .refine⟨0,rfl,λhx=>(by cases hx),λ_=>⟨a_,.inl ?_⟩⟩
  have ba:∀x∈aG,D.now x=V x:=λx hx=>by
   rcases dR x ((a.g x).2 (.inl hx)) with h1|⟨_,e,h1⟩
   .exact h1
   .exfalso
    have J:=bP x hx;rw[b]at J;have J:P' x=P x:=J;have aE:∃bj,P x=some bj:=by
     rcases a.ok with ⟨_,_,h2,_⟩|h2
     .rw[h2]at hx;cases hx
     .exact h2.node _ x hx
    obtain⟨bj,c9⟩:=aE;rw[c9,ag]at J;dsimp only at J;rw[if_pos hx]at J;by_cases h2:D.now x=V x
    .obtain⟨p,y,_⟩:=a.eo x hx bj c9
     rw[h2,y]at h1;cases h1
    .rw[if_neg h2]at J;cases J
  have bR:∀j,g j=true->D.bg.getD j []=V j:=λj A=>by
   have bS:D.now j=D.bg.getD j []:=by rw[vG D (λx hx=>(h.wn x hx).1),if_pos (aH j A)]
   rw[←bS];rcases(a.g j).1 A with h1|h1|h1
   .exact ba j h1
   .rcases dO j 1 with h2|h2
    .rw[show j=0 from I];exact bn
    .rw[show j=1 from I];exact bo
   .rw[h1];exact bE
  have bT:∀x∈aG,P x=P' x:=λx hx=>by rw[ag];dsimp only;rw[if_pos hx,if_pos (ba x hx)]
  have bU:c_ Q S aG aM aG aM:=by
   have hd:=a.agree bR bT;rw[r];refine⟨⟨by rw[r]at az;exact az,a6,by rw[b];exact .inl rfl,by rw[b];exact hd,by rw[b],⟨a.yT.clock,cL _,a.CV,by show gen+2<_;omega,?_,?_,?_⟩,λj A=>?_⟩,?_,a.bj,by rw[b];exact a.g,λx hx=>⟨(a.two x hx).1,(a.two x hx).2.1⟩,a.fQ,a.keys,cL _,λ_=>⟨?_,by rw[b];exact aJ,?_⟩,λhf=>(by cases hf)⟩
   .have:=K.2.2.2.1;show l.batch<=1000;omega
   .have:=K.2.2.2.2.2;show l.dY<=1048576;omega
   .have:=K.2.2.1;show 1<=l.batch;omega
   .have A:T.g j=true:=A
    show T.C.D.bL j=true;rw[b]at A⊢;show D.bL j=true;rw[hs];exact A
   .have h1:=hd.ok
    rw[b];exact h1
   .intro e
    have h1:=e D.n;have h2:T.C.D.bL=g:=by rw[b];exact hs
    have h1:T.C.D.bL D.n=true:=h1;rw[h2,aU D.n (bl _)]at h1;cases h1
   .obtain⟨j,bV,bX⟩:=a.fr
    have h1:=rY (s:=λi=>g i||g i) (t:=dn (λi=>g i||g i) j true) (k:=j) (by simp[bX]) (by simp[dn]) (λi hi=>by simp[dn,hi]) (n:=D.n) bV;have h2:=mn (dn (λi=>g i||g i) j true) D.n;have y:cl T=D.n-eY (λi=>g i||g i) D.n:=by rw[b];rfl
    show 1<=cl T;omega
  obtain⟨a1,a2,a3⟩:=bU.to bM (by rw[fD];exact F.to) (by rw[fD];exact F.E) (by rw[fD];exact a9) ⟨by rw[fD];exact F.root,by rw[fD];exact F.aI,by rw[fD];exact F.f,λno _=>by rw[fD];exact⟨congrFun F.P no,F.view no⟩⟩;have b0:S.T.C.D.quiet:=by rw[fD,b];exact o
  refine⟨S.b1 ao,by rw[show(S.b1 ao).st=st by rw[r];rfl],a1,by rw[r];rfl,by rw[r];rfl,by rw[r];rfl,by rw[r];rfl,by rw[r];rfl,by rw[r];rfl,?_,?_,a2.q b0,?_,λq b2=>?_,λq=>?_,?_⟩
  .rw[a2.d,fD,b];rfl
  .rw[a2.n,fD,b]
  .have h1:=a2.aQ
   have h2:S.T.C.D.aQ=D.aQ:=by rw[fD,b];rfl
   omega
  .have h1:=F.to.c7 q b2
   rcases h1 with h1|h1
   .rw[b]at h1
    rcases h1 with h1|h1|h1|h1|h1
    .rcases R q h1 with h2|h2|h2
     .exact .inr (.inr I)
     .exact .inr (.inr I)
     .exact .inl h2
    .have h1:q=aZ:=h1
     exact .inr (.inr I)
    .exact .inr (.inr (W q h1).1)
    .have h1:q=st\/bD q:=h1
     rcases h1 with h1|h1
     .exact .inr (.inr I)
     .exact .inr (.inl h1)
    .exact h1.elim
   .exact .inr (.inr I)
  .show ao.E q↔q=(S.b1 ao).st\/bD q
   rw[F.E,b,r];rfl
  .show w.heap.size<=S.st
   rw[r];show w.heap.size<=st;omega
 .refine⟨e,rfl,λ_=>⟨a_,.inr ⟨e,rfl,he,?_⟩⟩,λhx=>absurd (by simpa using hx) he⟩
  rcases bQ with h1|⟨x,hx,h1⟩|h1
  .rw[b]at h1
   exact absurd (o.1 _) h1
  .have bb:=(a.g x).2 (.inl hx)
   refine⟨x,bb,?_⟩;rcases dR x bb with h2|h2
   .exfalso
    obtain⟨_,b3,y⟩:=h1;rw[b]at y;have y:dQ ((x:Nat):Int) ((iO c aV l.an D).view x)=.error b3:=y;rw[x8,h2]at y;have aE:∃bj,P x=some bj:=by
     rcases a.ok with ⟨_,_,aF,_⟩|aF
     .rw[aF]at hx;cases hx
     .exact aF.node _ x hx
    obtain⟨bj,c9⟩:=aE;obtain⟨p,b4,_⟩:=a.eo x hx bj c9;rw[b4]at y;cases y
   .exact h2
  .exact absurd (by rw[a.keys]) h1
end
structure y1(D:a6)(l:fB)(bD:Nat->Prop)(k:Nat)(w w':J)(S:bZ):Prop where
 live:S.failed=false
 c0:S.pending=0
 now:S.now=S.u.clock
 l:S.l=l
 d:S.T.C.D.d=D.d
 n:S.T.n=D.n
 q:S.T.C.D.quiet
 aQ:S.T.C.D.aQ<=D.aQ+k
 M:∀q,S.T.M q->bY D q\/bD q\/w.heap.size<=q
 E:∀q,S.T.E q↔q=S.st\/bD q
 st:w.heap.size<=S.st
 ab:ad (bY D) w w'
section
variable {w w':J}{D:a6}{bD:Nat->Prop}
theorem Dc{l:fB}(h:cx w D)(r:kM (l.an:Nat) (l.batch:Nat) (l.dY:Nat))(M:∀k,D.calm k)(p8:D.cg.getD 3 0= -1)(N:D.aQ<=999999000)(y:∀q,bD q->q<w.heap.size/\¬bY D q):
 aR aj 19 #[.pointer (some D.d),.agg l.c.toArray] w (λv w'=>∃S:bZ,v=.tuple #[.pointer (some S.st),(0:Int)]/\c_ w' S [] [] [] []/\y1 D l bD 4 w w' S/\S.u=kl/\S.gen=1):=by
 have Z:=h.bW;have O:=h.bC;refine(nU h r M p8 N).mono ?_;rintro v w' ⟨az,sb,s1,s2,c,aV,aZ,st,kc,R⟩;obtain rfl:=R.CT.val;have hd:=R.p2;have B:=R.CT;have aa:=R.ab.size;have ac:=B.x.size;have ad:=B.hc;have ae:=B.hf;have af:=B.ht;have ag:=B.sv.lt;have A:∀j,az.bg.getD j []=az.now j:=λj=>by unfold a6.now;rw[hd.waits];rfl
 have m:∀q,c4 (iO c aV l.an az) q->q=c\/q=aV\/bY az q:=λq h=>h;have F:∀q,bY az q->q<kc.heap.size:=λq b=>by
  rcases R.dq q b with h1|h1
  .have:=h.lt h1;omega
  .omega
 have P:az.quiet:=⟨hd.calm,hd.cg⟩;obtain⟨T,a⟩:∃T:aN,T=⟨aZ,1+1,0,0,iO c aV l.an az,sb,D.n,λi=>decide (i<3),λi=>decide (i<3),s1,s2,λq=>q=st\/bD q,λ_=>False,λ_=>none⟩:=⟨_,rfl⟩;have Q:∀q,bD q->q<w.heap.size/\¬bY az q:=λq b=>⟨(y q b).1,λhf=>by
  rcases R.dq q hf with h1|h1
  .exact(y q b).2 h1
  .have:=(y q b).1;omega⟩
 have U:bJ w' T:=by
  have G:ek T.X w' (iO c aV l.an az):=Db B.ca λq b=>by
   rw[a]at b;rcases b with h1|h1|h1|h1
   .have h1:q=aZ:=h1
    refine⟨I,λhf=>?_⟩;rcases m q hf with h2|h2|h2
    .omega
    .omega
    .have:=F q h2;omega
   .have z:=R.r8 q h1
    refine⟨I,λhf=>?_⟩;rcases m q hf with h2|h2|h2
    .omega
    .omega
    .have ah:=B.ca.raw.dev
     exact R.H3 q h1 h2
   .rcases(show q=st\/bD q from h1) with h1|h1
    .refine⟨I,λhf=>?_⟩
     rcases m q hf with h2|h2|h2
     .omega
     .omega
     .have:=F q h2;omega
    .have z:=Q q h1
     refine⟨I,λhf=>?_⟩;rcases m q hf with h2|h2|h2
     .omega
     .omega
     .exact z.2 h2
   .exact h1.elim
  rw[a]at G⊢;refine⟨B.dm,R.sp,G,λhf=>by have:=R.r8 aZ hf;omega,λq b=>?_,λq b=>b.elim,hd.n,⟨by show 0<D.n;omega,(by decide:0<=12),(by decide:1+1<18446744073709551616)⟩,λno bj E=>(by cases E),λj f=>.inl ?_,⟨rfl,rfl⟩⟩
  .rcases(show q=st\/bD q from b) with h1|h1
   .exact⟨by show q≠aZ;omega,λhf=>by have:=R.r8 q hf;omega,λh=>h⟩
   .have z:=y q h1
    exact⟨by show q≠aZ;omega,λhf=>by have:=R.r8 q hf;omega,λh=>h⟩
  .have f:az.bL j=true:=f
   rw[hd.bL]at f;exact f
 have H:kk kl D.n:=⟨Iff.intro (λ_=>rfl) (λ_=>rfl),by decide,by show 0<D.n;omega,by show 2<D.n;omega,by decide,O⟩;have J:nt kl:=⟨by decide,by decide,by decide,by decide,by decide,by decide⟩;have K:gP (λj=>az.bg.getD j []) D.n 1 kl (λi=>decide (i<3)) (λ_=>none) [] []:=by
  refine⟨⟨3,I,rfl⟩,?_,.inl ?_,⟨1,bl _,?_⟩,λno=>?_,List.nodup_nil,λx hx=>(by cases hx),.inl ⟨rfl,rfl,rfl,rfl⟩,λx hx=>(by cases hx),rfl,λq b=>(by cases b),J,H,bl _⟩
  .show gV ((1:Nat):Int) (az.bg.getD 1 [])=_
   rw[A,hd.now];exact CJ J H (by decide) (by decide)
  .show az.bg.getD 0 []=gB
   rw[A,hd.now];rfl
  .show dQ ((2:Nat):Int) (az.bg.getD 2 [])=_
   rw[A,hd.now];exact vu I ⟨(by decide:1<=4),(by decide:4<=4),(by decide:1<18446744073709551616),by show(fR _ _).length<=232;rw[oM];omega⟩
  .show decide (no<3)=true↔no∈ []\/no<2\/no=2
   simp only[eL,false_or,cS];omega
 obtain⟨S,o⟩:∃S:bZ,S=⟨st,T,l,kl,1,0,0,0,0,false⟩:=⟨_,rfl⟩;have V:1<=cl T:=by
  have h1:=rY (s:=λi=>decide (i<3)||decide (i<3)) (t:=dn (λi=>decide (i<3)||decide (i<3)) 3 true) (k:=3) (by simp) (by simp[dn]) (λi hi=>by simp[dn,hi]) (n:=D.n) I;have h2:=mn (dn (λi=>decide (i<3)||decide (i<3)) 3 true) D.n;have z:cl T=D.n-eY (λi=>decide (i<3)||decide (i<3)) D.n:=by rw[a];rfl
  omega
 refine⟨S,by rw[o],?_,?_,by rw[o],by rw[o]⟩
 .rw[o]
  refine⟨⟨?_,U,by rw[a];exact .inl rfl,by rw[a];exact K,by rw[a],⟨(by decide:0<18446744073709551616),bl _,bl _,(by decide:1+2<18446744073709551616),?_,?_,?_⟩,λj f=>?_⟩,.inl ?_,List.nodup_nil,?_,λx hx=>(by cases hx),λp E=>(by cases E),rfl,cL _,λ_=>⟨?_,by rw[a];exact hd.dH,V⟩,λhf=>(by cases hf)⟩
  .show Var w' st (g6 T.aZ T.C.D.d T.C.c T.sb _ _ _ _ _ _ _ _) _
   rw[a];exact B.sv
  .have:=r.2.2.2.1;show l.batch<=1000;omega
  .have:=r.2.2.2.2.2;show l.dY<=1048576;omega
  .have:=r.2.2.1;show 1<=l.batch;omega
  .have f:T.g j=true:=f
   show T.C.D.bL j=true;rw[a]at f⊢;show az.bL j=true;rw[hd.bL];exact f
  .rw[a];exact⟨rfl,rfl,rfl,rfl⟩
  .intro no
   have W:=K.g no;rw[a];exact W
  .intro e
   have h1:az.bL 5=true:=by have:=e 5;rw[a]at this;exact this
   rw[hd.bL]at h1;cases h1
 .rw[o]
  refine⟨rfl,rfl,rfl,rfl,by rw[a];exact hd.d,by rw[a],by rw[a];exact P,by rw[a];show az.aQ<=_;rw[hd.aQ];omega,λq L=>?_,λq=>by rw[a],by show w.heap.size<=st;omega,cu R.ab B.x λq _ h=>h.elim⟩;rw[a]at L;have Y:∀q,bY az q->bY D q\/bD q\/w.heap.size<=q:=λq b=>by
   rcases R.dq q b with h1|h1
   .exact .inl h1
   .exact .inr (.inr h1.1)
  rcases L with h1|h1|h1|h1|h1
  .rcases m q h1 with h2|h2|h2
   .exact .inr (.inr I)
   .exact .inr (.inr I)
   .exact Y q h2
  .have h1:q=aZ:=h1
   exact .inr (.inr I)
  .exact .inr (.inr (R.r8 q h1).1)
  .rcases(show q=st\/bD q from h1) with h1|h1
   .exact .inr (.inr I)
   .exact .inr (.inl h1)
  .exact h1.elim
end
theorem IK{i n m:Nat}{a:Nat}(b:n=a)(h:(decide ((i:Int)<(n:Int))&&decide ((i:Int)<(m:Int)))=true):i<a/\i<m:=by
 rw[er,cS,cS]at h;omega
theorem IL{i:Nat}(h:i<=1000000):IntKind.wrap .i64 ((i:Int)+1)=((i+1:Nat):Int):=by rw[bA I I];omega
section
variable {w0 w w':J}{v7 aS:Nat}{T ao:aN}{r h k c:Nat}{pages aG:O Nat}{L cW aM:O aH}{V:Nat->cX}{ms l:Y}
theorem IM(L:O aH):g9 L [] []=L:=jZ.2 λp _=>by
 have h:¬bK p.1 []:=by
  cases p.1 with
  |nil=>exact l_ _
  |cons a x=>show¬(1:Int)<0;decide
 have:ez [] p.1:=h;simp[this]
end
structure iw where
 kind:Int
 n:Int
 after:Int
 tk:Y
 dm:Y
 tl:Y
 key:Key
 val:Key
 l:O Int
def iw.c(a:iw):O aa:=[a.kind,a.n,a.after,a.tk,a.dm,a.tl]
structure oN(w:J)(a:iw):Prop where
 k:Src 1 w a.tk (aJ a.key)
 Dd:a.tk.len<=a.tk.cap
 v:Src 1 w a.dm (aJ a.val)
 mQ:a.dm.len<=a.dm.cap
 l:Src 1 w a.tl (a.l.map encZ)
 lc:a.tl.len<=a.tl.cap
 De:∀z∈a.l,z<=9223372036854775807
 IN: -9223372036854775808<=a.n/\a.n<=9223372036854775807
 Df:a.after<=9223372036854775807
 mA:∀q,aB a.tl q->w.heap.size<=q->a.l=[]
structure kN(w:J)(l:Y)(A:O iw):Prop where
 s:Src 6 w l (bV iw.c A)
 ok:∀a∈A,oN w a
theorem y2(A:O iw):∀x∈A,(iw.c x).length=6:=λ_ _=>rfl
section
variable {w w':J}{l:Y}{A:O iw}{a:iw}
theorem oN.ext(h:oN w a)(hx:Ext w w'):oN w' a:=⟨h.k.ext hx,h.Dd,h.v.ext hx,h.mQ,h.l.ext hx,h.lc,h.De,h.IN,h.Df,λq b c=>h.mA q b (eK hx.size c)⟩
theorem kN.ext(h:kN w l A)(hx:Ext w w'):kN w' l A:=⟨h.s.ext hx,λa b=>(h.ok a b).ext hx⟩
theorem kN.len(h:kN w l A):l.len=A.length:=by
 have:=h.s.len;rw[gM _ (y2 A)]at this;omega
theorem kN.at(h:kN w l A){i:Nat}(hi:i<A.length):∃a:ae,l.a=some a/\((0:Int)<=(i:Int)/\(i:Int)<(l.len:Int))/\∀j v,(iw.c A[i])[j]? =some v->w.cell? ((a.add (Int.toNat (i:Int)*6)).add j)=some v:=by
 have k:=h.len
 cases b:l.a with
 |none=>
  have:=congrArg List.length (h.s.nil b);rw[gM _ (y2 A),jJ]at this;omega
 |some a=>
  have f:=h.s.rd a b;refine⟨a,rfl,⟨I,I⟩,λj v d=>?_⟩;have g:j<6:=(iy.1 d).1;have e:=pg f (j:=i*6+j) (v:=v) (by rw[rL (y2 A) hi g];exact d);rw[cy]at e;rw[dd,add_add];exact e
theorem IP{s:Y}(h:mU aj w 3 s):∃l:O Int,Src 1 w s (l.map encZ)/\∀z∈l,z<=9223372036854775807:=by
 obtain⟨l,h1,_,h2⟩:=h.src (c:=λz:Int=> [encZ z]) (sz:=1) (by kernel_rfl) (λz=>z<=9223372036854775807) λfuel us b=>by
  obtain⟨n,rfl,h2,d⟩:=q2 b (k:=.i64) (by kernel_rfl);exact⟨n,rfl,d⟩
 have e:∀l:O Int,(l.map λz:Int=> [encZ z]).flatten=l.map encZ:=λl=>by
  induction l with
  |nil=>rfl
  |cons a l f=>rw[jm,su,f];rfl
 rw[e]at h1;exact⟨l,h1,h2⟩
theorem Src.mA{s:Y}{l:O Int}(h:Src 1 w s (l.map encZ)):∀q,aB s q->w.heap.size<=q->l=[]:=by
 rintro q ⟨a,c,rfl⟩ d
 cases e:l with
 |nil=>rfl
 |cons v us=>
  have f:=h.rd a c;have b:w.cell? (a.add (0+0))=some (encZ v):=q7 f (by rw[e];rfl);rw[kO,add_zero']at b;have:w.heap[a.block]? =none:=by simp[d]
  simp[World.cell?,this]at b
set_option maxRecDepth 100000 in
theorem IQ {fuel:Nat}{vs:O aa} (h:gG aj w fuel 92 vs):∃a:iw,vs=a.c/\oN w a:=by
 have hu:Tryz.prog.underlying 92=some (.struct (fieldsOf aj 92)):=by kernel_rfl
 have hlen:vs.length=6:=by
  have:=(Af h hu).1;rwa[show Tryz.prog.cellsOf 92=6 by kernel_rfl]at this
 obtain⟨_,f0⟩:=pj h hu 0 (t:=3) (o:=0) (n:=1) (by kernel_rfl) (by kernel_rfl);obtain⟨_,f1⟩:=pj h hu 1 (t:=3) (o:=1) (n:=1) (by kernel_rfl) (by kernel_rfl);obtain⟨_,f2⟩:=pj h hu 2 (t:=3) (o:=2) (n:=1) (by kernel_rfl) (by kernel_rfl);obtain⟨_,f3⟩:=pj h hu 3 (t:=48) (o:=3) (n:=1) (by kernel_rfl) (by kernel_rfl);obtain⟨_,f4⟩:=pj h hu 4 (t:=48) (o:=4) (n:=1) (by kernel_rfl) (by kernel_rfl);obtain⟨_,f5⟩:=pj h hu 5 (t:=58) (o:=5) (n:=1) (by kernel_rfl) (by kernel_rfl);obtain⟨v,g,_⟩:=q2 f0 (k:=.i64) (by kernel_rfl);obtain⟨bW,i,fc,dM⟩:=q2 f1 (k:=.i64) (by kernel_rfl);obtain⟨bC,j,_,x⟩:=q2 f2 (k:=.i64) (by kernel_rfl);obtain⟨d3,l,m⟩:=s5 f3 (e:=5) (by kernel_rfl);obtain⟨d4,p,q⟩:=s5 f4 (e:=5) (by kernel_rfl);obtain⟨d5,r,s⟩:=s5 f5 (e:=3) (by kernel_rfl);obtain⟨y,z⟩:=CU m;obtain⟨A,B⟩:=CU q;obtain⟨C,u,bc⟩:=IP s;refine⟨⟨v,bW,bC,d3,d4,d5,y,A,C⟩,?_,z,m.le,B,q.le,u,s.le,bc,⟨fc,dM⟩,x,Src.mA u⟩
 match vs,hlen with
 | [a,b,c,d,e,f],_=>
  simp at g i j l p r;rw[g,i,j,l,p,r];rfl
set_option maxRecDepth 100000 in
theorem kN.of {v:aa} (h:lD aj w 82 v):∃ (l:Y) (A:O iw),v=l/\kN w l A:=by
 obtain⟨t,rfl,ht⟩:=mU.of h (e:=92) (by kernel_rfl);obtain⟨A,h1,_,h2⟩:=ht.src (c:=iw.c) (sz:=6) (by kernel_rfl) (λa=>oN w a) λfuel vs b=>IQ b;exact⟨t,A,rfl,h1,h2⟩
structure Dg(w0:J)(B:Nat->Prop)(w:J)(a:iw)(b sv sl:Y):Prop where
 k:a_ B w b (a.key.take 26)
 v:a_ B w sv (a.val.take 26)
 l:Src 1 w sl ((a.l.take 60).map encZ)
 mA:∀q,aB sl q->w0.heap.size<=q->a.l=[]
theorem pW{w0:J}(h0:oN w0 a)(X:Ext w0 w):aR aj 37 #[.agg a.c.toArray] w (λv w'=>∃d sv sl:Y,v=.agg #[a.kind,a.n,a.after,d,sv,sl]/\Ext w w'/\Dg w0 (λq=>w.heap.size<=q) w' a d sv sl):=by
 have h:=h0.ext X;refine okF (af.pW a.kind a.n a.after a.tk a.dm a.tl) aA.pW func37 ?_;(delta af.pW ti U ag ba st ak r1;dsimp only);refine bh (vs:=a.c) rfl λw1 Z H av=>bh (vs:=[(0:Int),(0:Int),(0:Int),(),(),()]) rfl λah z K aw=>aW ?_;obtain⟨s,L⟩:∃s,s=ah.drew:=⟨_,rfl⟩;rw[←L];have t:Ext ah s:=by rw[L];exact cf _
 have u:=(H.trans K).trans t;have ax:=H.size;have ay:=u.size;have az:=t.size;have x:=(Z.ext K).ext t;have aC:=x.lt;have M:¬s.heap.size<=w.heap.size:=by omega
 refine⟨λq=>s.heap.size<=q,by rw[e0];exact M,a.tk,by rw[e0];exact x.cell,by rw[e0];exact M,a.dm,by rw[e0];exact x.cell,(CG (h.k.ext u) h.Dd 26 (by decide)).use ?_⟩;rintro _ aD ⟨d,rfl,ok,j,A⟩;refine⟨d,rfl,ad.cJ j,(CG ((h.v.ext u).ext j) h.mQ 26 (by decide)).use ?_⟩;rintro _ N ⟨sv,rfl,aa,m,B⟩;refine⟨sv,rfl,ad.cJ m,?_⟩;have O:=(x.ext j).ext m;have aE:=j.size;rw[e0,e0,e0];obtain⟨bG,bI⟩:=dI O (i:=3) (by show 3<6;decide);refine⟨bG,bI,aW ?_⟩;have eP:=dk N w.heap.size 3 d;have C:=dN O (i:=3) d;generalize N.setCell ⟨w.heap.size,3,none⟩ d=P at eP C;obtain⟨ac,ae⟩:=dI C (i:=4) (by show 4<6;decide);refine⟨ac,ae,aW ?_⟩;have iG:=dk P w.heap.size 4 sv;have o:=dN C (i:=4) sv;generalize P.setCell ⟨w.heap.size,4,none⟩ sv=D at iG o;have ai:=(u.trans j).trans m;have y:Ext w D:=Ext.cn ai (eP.trans iG) (bl _);have Q:∀q,aB d q->¬q=w.heap.size:=λq b e=>by have:=A q b;omega
 have R:∀q,aB sv q->¬q=w.heap.size:=λq b e=>by have:=B q b;omega
 have al:=(ok.ext m).ab (eP.trans iG) Q;have am:=aa.ab (eP.trans iG) R;refine iE (λp=>∃sl:Y,Ext w p/\ad (λq=>q=w.heap.size) D p/\Var p w.heap.size [a.kind,a.n,a.after,d,sv,sl] 92/\Src 1 p sl ((a.l.take 60).map encZ)/\∀q,aB sl q->aB a.tl q)
  (λq b=>⟨a.tl,o.cell,λg=>⟨a.tl,o.cell,⟨by decide,?_⟩,?_⟩,λg=>b _ ⟨a.tl,y,.refl _ _,o,?_,λq h=>h⟩⟩) ?_
 .have g:(a.tl.len:Int)>60:=b8 g
  have:=h.lc;omega
 .have g:(a.tl.len:Int)>60:=b8 g
  obtain⟨an,ao⟩:=dI o (i:=5) (by show 5<6;decide);have S:=Src.cut (h.l.ext y) h.lc (cL 60) I;have po:=dk D w.heap.size 5 (.slice (aP a.tl.a 1 0 a.tl.cap) (Int.toNat 60-0) (a.tl.cap-0));refine⟨an,ao,aW (b _ ⟨⟨aP a.tl.a 1 0 a.tl.cap,60-0,a.tl.cap-0⟩,Ext.cn y po (bl _),po,dN o (i:=5) _,?_,λq b=>CB.1 b⟩)⟩;have e:((a.l.map encZ).drop (0*1)).take ((60-0)*1)=(a.l.take 60).map encZ:=by rw[mJ];rfl
  rw[e]at S;exact Src.mx S po λq b e=>by
   have:=h.mA q (CB.1 b) I;rw[this];rfl
 .have g:¬(a.tl.len:Int)>60:=cv g
  have E:=h.l.len;rw[dU]at E;rw[dV I];exact h.l.ext y
 rintro p ⟨sl,ap,g1,f,aq,T⟩;refine⟨_,f.cell,_,by first|exact f.cell|(rw[e0];exact f.cell),_,by first|exact f.cell|(rw[e0];exact f.cell),d,by first|exact f.cell|(rw[e0];exact f.cell),sv,by first|exact f.cell|(rw[e0];exact f.cell),sl,by first|exact f.cell|(rw[e0];exact f.cell),?_⟩;have aF:=m.size;have aG:=(eP.trans iG).size;have V:Var p w1.heap.size [(0:Int),(0:Int),(0:Int),(),(),()] 92:=(((z.ext t).ext (j.trans m)).ab (eP.trans iG) I).ab g1 I;refine⟨V.b9 rfl (λv W=>?_),rfl,cr V (us:=[a.kind,a.n,a.after,d,sv,sl]) rfl rfl λaH r k1 _=>⟨_,r.cell,_,by rw[e0];exact r.cell,_,by rw[e0];exact r.cell,d,by rw[e0];exact r.cell,sv,by rw[e0];exact r.cell,sl,by rw[e0];exact r.cell,d,sv,sl,rfl,Ext.cn ap k1 I,?_⟩⟩
 .simp only[cU,eL,eO]at W
  rcases W with rfl|rfl|rfl|rfl|rfl|rfl<;>trivial
 .have ar:∀q,aB d q->¬q=w1.heap.size:=λq b e=>by have:=A q b;have:=z.lt;omega
  have au:∀q,aB sv q->¬q=w1.heap.size:=λq b e=>by have:=B q b;have:=z.lt;omega
  have F:=(al.ab g1 Q).ab k1 ar;have G:=(am.ab g1 R).ab k1 au;exact⟨⟨F.src,F.2.1,λq b=>⟨by have:=A q b;omega,F.lt q b⟩⟩,⟨G.src,G.2.1,λq b=>⟨by have:=B q b;omega,G.lt q b⟩⟩,Src.mx aq k1 λq b e=>by
   have:=h.mA q (T q b) I;rw[this];rfl,λq b E=>h0.mA q (T q b) E⟩
end
section
variable {w0 w w':J}{v7 aS:Nat}{T ao:aN}{r h k c:Nat}{pages aG:O Nat}{L cW aM:O aH}{V:Nat->cX}{ms l:Y}
theorem y3(w:J):Src 1 w bk (aJ []):=(bd.none 1 5 w).src
end
theorem Dh:∀ {a b:O Nat},a.Nodup->(∀x∈a,x∈b)->a.length<=b.length
 | [],_,_,_=>cL _
 |x::a,b,d,hs=>by
  obtain⟨h1,h2⟩:=List.nodup_cons.1 d
  have hx:=hs x (by simp)
  have:=Dh (a:=a) (b:=b.erase x) h2 λy c=>(List.mem_erase_of_ne (λe=>h1 (by rw[←e];exact c))).2 (hs y (jW _ c))
  rw[List.length_erase_of_mem hx]at this
  have:=List.length_pos_of_mem hx
  rw[e8];omega
theorem IS{t:Nat->ai}{l:O Nat}(n:Nat)(h:∀i,i<n->t i=true->i∈l):eY t n<=l.length:=by
 have h1:∀n,eY t n=((List.range n).filter t).length:=by
  intro n
  induction n with
  |zero=>rfl
  |succ n a=>
   rw[List.range_succ,kQ,cz,eY,a,qJ,List.filter_nil]
   cases t n<;>rfl
 rw[h1];refine Dh (List.nodup_range.filter t) λx hx=>?_;rw[hK,jC]at hx;exact h x hx.1 hx.2
section
variable {V:Nat->cX}{n gen:Nat}{u:cZ}{g:Nat->ai}{P:Nat->aq aD}{aG:O Nat}{aM:O aH}
theorem gP.sound(h:gP V n gen u g P aG aM){j:Nat}(b:g j=true):V j=gB\/∃p,dQ (j:Int) (V j)=.ok p:=by
 rcases(h.g j).1 b with h1|h1|h1
 .right
  have c:∃bj,P j=some bj:=by
   rcases h.ok with ⟨_,_,h2,_⟩|h2
   .rw[h2]at h1;cases h1
   .exact h2.node _ j h1
  obtain⟨bj,c9⟩:=c;obtain⟨p,a,_⟩:=h.eo j h1 bj c9;exact⟨p,a⟩
 .by_cases e:j=gen%2
  .right
   rw[e];obtain⟨p,a⟩:=y0 h.v_;exact⟨p,a⟩
  .have e:j=1-gen%2:=by omega
   rcases h.yS with h2|⟨d,g',h2,_⟩
   .left;rw[e];exact h2
   .right
    rw[e];obtain⟨p,a⟩:=y0 h2;exact⟨p,a⟩
 .right
  rw[h1];obtain⟨_,_,h2⟩:=h.mp;exact⟨_,h2⟩
theorem gP.low(h:gP V n gen u g P aG aM):aG.length<=aM.length:=by
 rcases h.ok with ⟨_,_,h2,_⟩|h2
 .rw[h2];exact cL _
 .exact h2.pages.1
theorem IT{w:J}{D:a6}{l:fB}{bD:Nat->Prop}(h:cx w D)(o:D.quiet)(B:D.aQ<=700000000)(f:D.waits=[])(r:kM (l.an:Nat) (l.batch:Nat) (l.dY:Nat))(b:gP V D.n gen u g P aG aM)(dR:∀j,g j=true->D.bg.getD j []=V j)(s:gen<=1000000000)(t:aM.length<=4000)(x:∀q,bD q->q<w.heap.size/\¬bY D q):
 aR aj 41 #[.pointer (some D.d),.agg l.c.toArray] w (λv w'=>∃S:bZ,v=.tuple #[.pointer (some S.st),(0:Int)]/\c_ w' S aG aM aG aM/\y1 D l bD 9000 w w' S/\S.u=u/\S.gen=gen):=by
 have y:∀j,D.dB j=[]:=λj=>by unfold a6.dB;rw[f];rfl
 have i:∀j,D.now j=D.bg.getD j []:=λj=>by unfold a6.now;rw[f];rfl
 have C:=b.low;refine(py (D:=D.gn g λ_=> []) (bD:=bD) (h.gn _ _) o (by show D.aQ<=_;omega) (λj _=>y j) r b (λj a=>.inl ((i j).trans (dR j a))) rfl rfl s t I x).mono ?_;rintro v w' ⟨hc,⟨S,rfl,z,a1,a2,a3,a4,a5,c3,dw,dh,a9,dX,ew,eQ,cV⟩|⟨e,rfl,he,j,a,k,E,m⟩⟩
 .exact⟨S,rfl,z,⟨a1,a5,by rw[a4,a2],c3,dw,dh,a9,dX,ew,eQ,cV,hc⟩,a2,a3⟩
 .exfalso
  have A:(D.gn g λ_=> []).now j=V j:=(i j).trans (dR j a);rw[A]at k m;rcases b.sound a with h1|⟨p,h1⟩
  .exact k (by rw[h1];decide+kernel)
  .rw[m]at h1;cases h1
end
theorem y4{a:(ai->J->Prop)->Prop}{rest:ai->J->Prop}{w0:J}{b:ai}(c:ai)(h1:b=false->∀k:ai->J->Prop,(∀w',Ext w0 w'->k c w')->a k)(h2:∀w',Ext w0 w'->rest (b||c) w'):
 bE (λk=>(b=true->k true w0)/\(b=false->a k)) rest:=
 ⟨⟨λh=>by have:=h2 w0 (.refl _ _);rwa[h,Bool.true_or]at this,λh=>h1 h rest (λw' hx=>by have:=h2 w' hx;rwa[h,km]at this)⟩⟩
theorem l9{b d:Nat}(k:b<256)(hd:d<256)(w:J):aR aj 20 #[.int .u8 (b:Nat),.int .u8 (d:Nat)] w (λv w'=>v=.agg (fB.c ⟨8,1+b%12,1+d%12⟩).toArray/\Ext w w'):=by
 refine af.ER _ _ w _ ?_;(delta af.l9 th U av r1 br;dsimp only);have g:IntKind.wrap .i64 (1+IntKind.wrap .i64 (Int.tmod (b:Int) 12))=((1+b%12:Nat):Int):=by
  rw[oX I,bA (n:=(b:Int)%12) I I,bA I I];omega
 have h:IntKind.wrap .u64 (1+IntKind.wrap .u64 (Int.tmod (d:Int) 12))=((1+d%12:Nat):Int):=by
  rw[oX I,gR (n:=(d:Int)%12) I I,gR I I];omega
 rw[g,h];refine bh (vs:=[(0:Int),(0:Int),.int .u64 0]) rfl λw1 e i l=>⟨by decide,by decide,e.b9 rfl (λv f=>?_),rfl,cr e (us:=fB.c ⟨8,1+b%12,1+d%12⟩) rfl rfl λah a j m=>⟨_,a.cell,_,by rw[aw];exact a.cell,_,by rw[aw];exact a.cell,rfl,Ext.cn i j (bl _)⟩⟩;simp only[cU,eL,eO]at f;rcases f with rfl|rfl|rfl<;>trivial
structure wh(S:bZ)(m:cE)(L aM:O aH):Prop where
 now:m.now=L
 sure:m.sure=aM
 c0:m.c0=S.pending
 clock:m.clock=S.now
 first:S.pending≠0->m.first=S.first
 bw:m.bw=S.u.bw
 eU:m.eU=S.u.clock
structure ep(w0 w:J)(bD:Nat->Prop)(d n:Nat)(l:fB)(S:bZ)(pages:O Nat)(L:O aH)(aG:O Nat)(aM:O aH)(c:Nat):Prop where
 x:Ext w0 w
 at_:c_ w S pages L aG aM
 E:∀q,S.T.E q↔q=S.st\/bD q
 ne:¬bD S.st
 lg:∀q,S.T.M q->w0.heap.size<=q
 lim:S.l=l
 d:S.T.C.D.d=d
 n:S.T.n=n
 aQ:S.T.C.D.aQ<=20000*(c+1)
 eB:L.length<=c/\aM.length<=c
 gen:S.gen<=c+1
 qu:S.pending<=c
structure lh(w0 w:J)(bD:Nat->Prop)(d n:Nat)(l:fB)(aS:Nat)(S:bZ)(pages:O Nat)(L:O aH)(aG:O Nat)(aM:O aH)(m:cE)(c:Nat):Prop where
 s:ep w0 w bD d n l S pages L aG aM c
 live:S.failed=false
 ib:bD aS
 md:en (λq=>¬S.T.M q) w aS m
 gE:wh S m L aM
section
variable {w0 w w':J}{bD:Nat->Prop}{d n aS k c:Nat}{l:fB}{S ax:bZ}{pages aG:O Nat}{L aM:O aH}{m:cE}
theorem en.lj(d:en (λq=>¬S.T.M q) w aS m)(hd:c6 k S ax w w')(he:S.T.E aS)(e:aS≠S.st):en (λq=>¬ax.T.M q) w' aS m:=by
 have b:ax.T.M aS:=.inr (.inr (.inr (.inl (by rw[hd.E];exact he))));refine((d.aY (C:=λq=>¬S.T.M q/\¬ax.T.M q) (λq g c=>⟨c,λh1=>?_⟩) λh=>h.2 b).ab hd.ab (λa=>e (a.2 he)) λq f _ a=>f.1 a.1).aY (λ_ _ h=>h.2) λh=>h b;rcases hd.c7 q h1 with h|h
 .exact c h
 .omega
theorem ep.gX(h:ep w0 w bD d n l S pages L aG aM c){q:Nat}(a:bD q):S.T.E q/\q≠S.st:=⟨(h.E q).2 (.inr a),λe=>h.ne (e▸a)⟩
theorem ep.low(h:ep w0 w bD d n l S pages L aG aM c)(hc:c<=4000):pages.length<=L.length:=(h.at_.ok.low (by have:=h.eB.1;omega)).2
theorem ep.ext(h:ep w0 w bD d n l S pages L aG aM c)(hx:Ext w w'):ep w0 w' bD d n l S pages L aG aM c:={h with x:=h.x.trans hx,at_:=h.at_.ext hx}
theorem ep.mono{e:Nat}(h:ep w0 w bD d n l S pages L aG aM c)(he:c<=e):ep w0 w bD d n l S pages L aG aM e:={h with aQ:=by have:=h.aQ;omega,eB:=⟨by have:=h.eB.1;omega,by have:=h.eB.2;omega⟩,gen:=by have:=h.gen;omega,qu:=by have:=h.qu;omega}
theorem lh.ext(h:lh w0 w bD d n l aS S pages L aG aM m c)(hx:Ext w w'):lh w0 w' bD d n l aS S pages L aG aM m c:=⟨h.s.ext hx,h.live,h.ib,h.md.ext hx,h.gE⟩
theorem ep.jA{iQ:Nat}(h:ep w0 w bD d n l S pages L aG aM c)(a:bD iQ)(hc:ad (λq=>q=iQ) w w'):ep w0 w' bD d n l S pages L aG aM c:=
 {h with x:=Ext.dy h.x hc λq e=>by rw[e];exact h.lg _ (.inr (.inr (.inr (.inl (h.gX a).1)))),at_:=h.at_.jA (h.gX a).1 (h.gX a).2 hc}
theorem ep.step{dT dK:O Nat}{cW dA:O aH}(h:ep w0 w bD d n l S pages L aG aM c)(hs:c_ w' ax dT cW dK dA)(hd:c6 k S ax w w')(b:k<=20000)(hf:cW.length<=c+1/\dA.length<=c+1)(hg:ax.gen<=S.gen+1)(e:ax.pending<=S.pending+1):ep w0 w' bD d n l ax dT cW dK dA (c+1):=
 ⟨Ext.dy h.x hd.ab λq a=>h.lg q a.1,hs,λq=>by rw[hd.E,hd.st];exact h.E q,by rw[hd.st];exact h.ne,λq a=>by
  rcases hd.c7 q a with h1|h1
  .exact h.lg q h1
  .have:=h.x.size;omega,hd.l.trans h.lim,hd.d.trans h.d,hd.n.trans h.n,by have:=hd.aQ;have:=h.aQ;omega,hf,by have:=h.gen;omega,by have:=h.qu;omega⟩
theorem lh.v(h:lh w0 w bD d n l aS S pages L aG aM m c):Var w aS m.c 90:=h.md.v
end
section
variable {w0 w w' w1 ah:J}{bD:Nat->Prop}{d n aS k c:Nat}{l:fB}{S ax:bZ}{pages dT aG dK:O Nat}{L cW aM dA:O aH}{m:cE}{v:aa}
def cE.put(m:cE)(s:Y)(L:O aH):cE:={m with fO:=s,now:=L}
theorem a_.lj{s:Y}{x:Key}(b:a_ (λq=>¬S.T.M q) w s x)(hd:c6 k S ax w w'):a_ (λq=>¬ax.T.M q) w' s x:=
 a_.aY (a_.ab (a_.aY (C:=λq=>¬S.T.M q/\¬ax.T.M q) b λq f a=>⟨a,λc=>by rcases hd.c7 q c with h|h;exact a h;omega⟩) hd.ab λq d e=>d.1 e.1) λ_ _ h=>h.2
theorem ia.Di{c:Prop}(h:ia c S ax pages L aG aM v w')(a:S.T.C.D.quiet):v=.int .i64 0/\c/\c_ w' ax pages L pages L/\ax.failed=false/\ax.gen=S.gen+1/\ax.u.clock=S.now/\ax.u.bw=S.u.bw+1/\ax.pending=0:=by
 rcases h with h|⟨_,h,_⟩
 .exact h
 .exact absurd a h
theorem en.put{B:Nat->Prop}{a:Y}{M:O aH}(h:en B w aS m)(hc:ad (λq=>q=aS) w w')(b:g4 m.rest 90 B w' aS a M):en B w' aS (m.put a M):=
 ⟨b,h.sure.ab hc λq c _ e=>h.now.nb (e▸c),h.num⟩
theorem y5(h:c_ w S pages L aG aM):∀q,w.heap.size<=q->¬S.T.M q:=λq b a=>by have:=h.t.lt a;omega
end
section
variable {w0 w w' w1 ah:J}{bD bf:Nat->Prop}{d n aS k c i:Nat}{l:fB}{S ax:bZ}{pages dT aG dK bn:O Nat}{L cW aM dA a7:O aH}{m:cE}{v:aa}{az:a6}{ls:Y}{A:O iw}
theorem c_.grow(h:c_ w S pages L aG aM)(hx:Ext w w'){b:Nat->Prop}(c:∀q,b q->S.T.E q\/(w.heap.size<=q/\q<w'.heap.size))(hs:b S.st):c_ w' (S.b1 (S.T.ck b S.T.G)) pages L aG aM:=by
 have ht:bJ w' (S.T.ck b S.T.G):=h.t.grow (W:=λ_=>False) hx (λ_ d=>d.elim) (λq a=>(c q a).imp id .inr) (λq a=>.inr (.inl a)) λq a hg=>by
  rcases c q a with h1|h1
  .exact(h.t.c8 q h1).2.2 hg
  .have:=h.t.lt (q:=q) (.inr (.inr (.inr (.inr hg))));omega
 exact⟨⟨h.v.ext hx,ht,hs,h.fo,h.gen,h.num,h.bL⟩,h.ok,h.bj,h.f,h.two,h.fQ,h.keys,h.c0,h.live,h.dead⟩
def bZ.own(S:bZ)(bf:Nat->Prop):bZ:=S.b1 (S.T.ck (λq=>q=S.st\/bf q) S.T.G)
theorem bZ.y6{q:Nat}(b:∀q,S.T.E q↔q=S.st\/bD q)(h1:∀q,bf q->bD q\/k<=q)(a:(S.own bf).T.M q):S.T.M q\/k<=q:=by
 rcases a with a|a|a|a|a
 .exact .inl (.inl a)
 .exact .inl (.inr (.inl a))
 .exact .inl (.inr (.inr (.inl a)))
 .rcases(show q=S.st\/bf q from a) with h|h
  .exact .inl (.inr (.inr (.inr (.inl ((b q).2 (.inl h))))))
  .rcases h1 q h with h|h
   .exact .inl (.inr (.inr (.inr (.inl ((b q).2 (.inr h))))))
   .exact .inr h
 .exact .inl (.inr (.inr (.inr (.inr a))))
theorem ep.grow(h:ep w0 w bD d n l S pages L aG aM c)(hx:Ext w w')(b:∀q,bf q->bD q\/(w.heap.size<=q/\q<w'.heap.size)):ep w0 w' bf d n l (S.own bf) pages L aG aM c:=
 ⟨h.x.trans hx,h.at_.grow hx (λq a=>by
  rcases a with h1|h1
  .exact .inl ((h.E q).2 (.inl h1))
  .exact(b q h1).imp (λh2=>(h.E q).2 (.inr h2)) id) (.inl rfl),λq=>Iff.rfl,λhs=>by
  have hs:bf S.st:=hs
  rcases b _ hs with h1|h1
  .exact h.ne h1
  .have:=h.at_.t.lt (q:=S.st) (.inr (.inr (.inr (.inl h.at_.es))));omega,λq a=>by
  rcases bZ.y6 h.E (λq a=>(b q a).imp id And.left) a with h1|h1
  .exact h.lg q h1
  .have:=h.x.size;omega,h.lim,h.d,h.n,h.aQ,h.eB,h.gen,h.qu⟩
theorem c_.bg(h:c_ w S pages L aG aM)(a:S.failed=false)(b:wg S.T.C.D az):∀j,S.T.g j=true->az.bg.getD j []=S.V j:=λj c=>by
 rcases b.bg j with h1|h1
 .exact h1
 .have h2:=h.t.ca.inv.ke j (h.bL j c)
  rw[(h.live a).2.1]at h2
  rw[h2]at h1;cases h1
theorem ep.found{V:Nat->cX}{gen:Nat}{u:cZ}{g:Nat->ai}{P:Nat->aq aD}(h:ep w0 w bD d n l S pages L aG aM c)(hd:cx w1 az)(e:wg S.T.C.D az)(i:ad (bY S.T.C.D) w w1)(G:gP V n gen u g P bn a7)(dR:∀j,g j=true->az.bg.getD j []=V j)(H:kM (l.an:Nat) (l.batch:Nat) (l.dY:Nat))(O:gen<=S.gen+1)(hc:c<=3000)(r:a7.length<=c+1):
 aR aj 41 #[.pointer (some d),.agg l.c.toArray] w1 (λv ah=>∃cB:bZ,v=.tuple #[.pointer (some cB.st),(0:Int)]/\ep w0 ah bD d n l cB bn a7 bn a7 (c+1)/\cB.failed=false/\cB.T.C.D.quiet/\cB.u=u/\cB.gen=gen/\cB.pending=0/\cB.now=u.clock/\
  ∀aS m,bD aS->en (λq=>¬S.T.M q) w aS m->en (λq=>¬cB.T.M q) ah aS m):=by
 have Q:=h.aQ;have R:=h.gen;have s:az.n=n:=e.n.trans (h.at_.t.n.trans h.n);have U:=i.size;have k:∀q,bY az q->S.T.M q:=λq a=>.inl (.inr (.inr (e.c7 q a)));have o:∀q,bD q->S.T.M q:=λq a=>.inr (.inr (.inr (.inl (h.gX a).1)));have p:∀q,bD q->¬bY S.T.C.D q:=λq a hf=>h.at_.t.jf (h.gX a).1 (.inl (.inr (.inr hf)));have y:=IT (l:=l) (bD:=bD) hd e.q (by rw[e.aQ];omega) e.waits H (by rw[s];exact G) dR I I λq a=>⟨by have:=h.at_.t.lt (o q a);omega,λhf=>p q a (e.c7 q hf)⟩;rw[e.d,h.d]at y;refine y.mono ?_;rintro v ah ⟨cB,rfl,J,b,hu,hg⟩;have z:Ext w0 w1:=Ext.dy h.x i λq a=>h.lg q (.inl (.inr (.inr a)));have K:Ext w0 ah:=Ext.dy z b.ab λq a=>h.lg q (k q a);have A:∀q,cB.T.M q->S.T.M q\/w1.heap.size<=q:=λq a=>by
  rcases b.M q a with h1|h1|h1
  .exact .inl (k q h1)
  .exact .inl (o q h1)
  .exact .inr h1
 refine⟨cB,rfl,⟨K,J,b.E,λhs=>?_,λq a=>?_,b.l,b.d.trans (e.d.trans h.d),b.n.trans s,?_,⟨r,r⟩,I,by rw[b.c0];omega⟩,b.live,b.q,hu,hg,b.c0,by rw[b.now,hu],λaS m he N=>?_⟩
 .have:=h.at_.t.lt (o _ hs)
  have:=b.st;omega
 .rcases A q a with h1|h1
  .exact h.lg q h1
  .have:=z.size;omega
 .have:=b.aQ
  have:=e.aQ;omega
 .have B:cB.T.M aS:=.inr (.inr (.inr (.inl ((b.E aS).2 (.inr he)))))
  have h1:=N.ab i (p aS he) λq a _ hf=>a (.inl (.inr (.inr hf)));have h2:=h1.aY (C:=λq=>¬S.T.M q/\¬cB.T.M q) (λq W F=>⟨F,λa=>by
   rcases A q a with f|f
   .exact F f
   .omega⟩) λf=>f.2 B
  exact(h2.ab b.ab (λhf=>p aS he (e.c7 aS hf)) λq a _ hf=>a.1 (k q hf)).aY (λ_ _ h=>h.2) λh=>h B
theorem IU(ar:kN w0 ls A)(hx:Ext w0 w)(hi:i<A.length){K:J->J->Prop}
 (C:∀ (b c:J) (e sv sl:Y),Ext w c->w.heap.size<=b.heap.size->Var c b.heap.size [.int .i64 A[i].kind,.int .i64 A[i].n,.int .i64 A[i].after,e,sv,sl] 92->Dg w0 (λq=>w.heap.size<=q) c A[i] e sv sl->K b c):
 ∃d:ae,ls.a=some d/\((0:Int)<=(i:Int)/\(i:Int)<(ls.len:Int))/\
 ∃n27:Int,w.cell? (d.add (Int.toNat (i:Int)*6))=some (.int .i64 n27)/\
 ∃n28:Int,w.cell? ((d.add (Int.toNat (i:Int)*6)).add 1)=some (.int .i64 n28)/\
 ∃n29:Int,w.cell? ((d.add (Int.toNat (i:Int)*6)).add 2)=some (.int .i64 n29)/\
 ∃g:Y,w.cell? ((d.add (Int.toNat (i:Int)*6)).add 3)=some (.slice g.a g.len g.cap)/\
 ∃h:Y,w.cell? ((d.add (Int.toNat (i:Int)*6)).add 4)=some (.slice h.a h.len h.cap)/\
 ∃j:Y,w.cell? ((d.add (Int.toNat (i:Int)*6)).add 5)=some (.slice j.a j.len j.cap)/\
 Calls aj 37 #[.agg #[n27,n28,n29,g,h,j]] w λD b=>
 ∃n35:Int,∃n36:Int,∃n37:Int,∃o:Y,∃p:Y,∃r:Y,D=.returned (
  .agg #[n35,n36,n37,o,p,r])
 /\al (b.alloc (.cells #[(0:Int),(0:Int),(0:Int),(),(),()] 92))
 λs=>bx s b.heap.size [n35,n36,n37,o,p,r]/\
 (6:Nat)=6/\al (setCells s b.heap.size 0 [n35,n36,n37,o,p,r])
 λc=>K b c:=by
 obtain⟨a,E,F,f⟩:=(ar.ext hx).at hi;have G:=ar.ok A[i] (cF hi);have h0:=f 0 _ rfl;rw[add_add,kO]at h0;refine⟨a,E,F,_,h0,_,f 1 _ rfl,_,f 2 _ rfl,(A[i]).tk,f 3 _ rfl,(A[i]).dm,f 4 _ rfl,(A[i]).tl,f 5 _ rfl,(pW G hx).use ?_⟩;rintro _ b ⟨e,sv,sl,rfl,u,m⟩;refine⟨_,_,_,e,sv,sl,rfl,bh (vs:=[(0:Int),(0:Int),(0:Int),(),(),()]) rfl λs x y I=>⟨x.b9 rfl (λv z=>?_),rfl,cr x (us:=[.int .i64 A[i].kind,.int .i64 A[i].n,.int .i64 A[i].after,e,sv,sl]) rfl rfl λc H B _=>C b c e sv sl (u.trans (Ext.cn y B (bl _))) u.size H ?_⟩⟩
 .simp only[cU,eL,eO]at z
  rcases z with rfl|rfl|rfl|rfl|rfl|rfl<;>trivial
 .have t:Ext b c:=Ext.cn y B (bl _)
  exact⟨a_.ext m.k t,a_.ext m.v t,m.l.ext t,m.mA⟩
end
def hJ:cE:=⟨[],[],bk,bk,0,0,0,0,0⟩
section
variable {w0 w w' w1 ah:J}{bD bf:Nat->Prop}{d n aS k c i:Nat}{l:fB}{S ax:bZ}{pages dT aG dK bn:O Nat}{L cW aM dA a7:O aH}{m:cE}{v:aa}{az:a6}{ls:Y}{A:O iw}
theorem y7{q b k:Nat}(h:aB ⟨some b,k,k⟩ q):q=b:=by
 obtain⟨A,ar,rfl⟩:=h
 cases ar;rfl
theorem c_.room(h:c_ w S pages L aG aM):S.T.n<=cl S.T+pages.length+aG.length+3:=by
 have h1:=IS (t:=λi=>S.T.f i||S.T.g i) (l:=pages++aG++ [0,1,S.u.map]) S.T.n λi _ hi=>by
  simp only[iT]at hi;simp only[cT,cU,eL,eO];rcases hi with hi|hi
  .rcases(h.f i).1 hi with h2|h2|h2
   .exact .inl (.inl h2)
   .exact .inr I
   .exact .inr (.inr (.inr h2))
  .rcases(h.fo.g i).1 hi with h2|h2|h2
   .exact .inl (.inr h2)
   .exact .inr I
   .exact .inr (.inr (.inr h2))
 simp only[cz,e8,jJ]at h1;unfold cl;omega
theorem ep.new{D:a6}(hx:Ext w0 w)(e:c_ w' S [] [] [] [])(a:y1 D l bD 4 w w' S)(hu:S.u=kl)(hg:S.gen=1)(b:∀q,bY D q->w0.heap.size<=q)(c:∀q,bD q->w0.heap.size<=q/\q<w.heap.size)(g:D.aQ=0):ep w0 w' bD D.d D.n l S [] [] [] [] 0:=
 ⟨Ext.dy hx a.ab b,e,a.E,λh=>by have:=(c _ h).2;have:=a.st;omega,λq f=>by
  rcases a.M q f with h1|h1|h1
  .exact b q h1
  .exact(c q h1).1
  .have:=hx.size;omega,a.l,a.d,a.n,by have:=a.aQ;omega,⟨bl _,bl _⟩,I,by rw[a.c0];exact bl _⟩
theorem IV(w:J):aR aj 26 #[] w (λv w'=>v=true/\Ext w w'):=by
 refine af.ES w _ ?_;(delta af.rF dg q8 ak z9 U aC aU kA;dsimp only);refine(nT (n:=40) I I w).use ?_;rintro _ w1 ⟨d,lb,mr,rfl,hd,Z,aa⟩;refine⟨_,0,rfl,(l9 (b:=9) (d:=9) I I w1).use ?_⟩;rintro _ aY ⟨rfl,F⟩;have r:kM (((⟨8,1+9%12,1+9%12⟩:fB).an:Nat):Int) (((⟨8,1+9%12,1+9%12⟩:fB).batch:Nat):Int) (((⟨8,1+9%12,1+9%12⟩:fB).dY:Nat):Int):=by unfold kM;decide
 generalize G:(⟨8,1+9%12,1+9%12⟩:fB)=H at r;have ab:H.batch=10:=by rw[←G]
 have ac:=hd.ext F;refine⟨_,_,_,rfl,(Dc (l:=H) (bD:=λ_=>False) ac r (λk=>⟨.inl rfl,.inl rfl⟩) rfl (by show 0<=999999000;omega) (λq h=>h.elim)).use ?_⟩;rintro _ s ⟨j,rfl,ae,f,hu,hg⟩;have u:=ep.new (w0:=w) (Z.trans F) ae f hu hg (λq a=>aa q a) (λq h=>h.elim) rfl;refine⟨_,0,rfl,λh=>(by cases h),λ_=>?_⟩;obtain⟨m,bG,bI,ag,aZ⟩:=vy s [97];obtain⟨y,ah,ai,K,a0⟩:=vy m [49];have g:=u.ext (ag.trans K);have al:∀q,aB ⟨some s.heap.size,1,1⟩ q->q<y.heap.size/\¬j.T.M q:=λq a=>by
  have e:=y7 a;exact⟨I,λc=>by have:=u.at_.t.lt c;omega⟩
 have am:∀q,aB ⟨some m.heap.size,1,1⟩ q->q<y.heap.size/\¬j.T.M q:=λq a=>by
  have e:=y7 a;exact⟨I,λc=>by have:=u.at_.t.lt c;omega⟩
 have L:=f.q;refine aW ⟨⟨some s.heap.size,1,1⟩,m,bG,aW ⟨⟨some m.heap.size,1,1⟩,y,ah,(C1 (key:=[97]) (val:=[49]) g.at_ (by decide) (by rw[f.c0];decide) (by have:=g.aQ;omega) (by rw[hg];decide) (bI.ext K) al ai am).use ?_⟩⟩;rintro v a1 (⟨_,ao,_⟩|⟨_,⟨hf,_⟩|⟨_,a2,A,a3,⟨_,N,_⟩|⟨_,pages,c⟩⟩⟩)
 .exact absurd ⟨⟨by decide,by decide⟩,by decide⟩ ao
 .rw[f.live]at hf;cases hf
 .exfalso
  have h1:=g.at_.room;rw[g.n]at h1;have e:(nd 40 d lb mr).n=40:=by show(List.replicate 40 gB).length=40;rw[mM]
  have ap:j.T.aI=0:=by
   rcases g.at_.ok with ⟨h2,_⟩|h2
   .exact h2
   .have:=h2.pages.2.1;simp at this
  unfold fp at N;rw[e]at h1;rw[ap]at N;simp only[jJ]at h1;omega
 have aq:j.pending=0:=f.c0;rcases c with ⟨rfl,_,B,ar,au,a4,a5,_⟩|c
 rotate_left
 .have:=(c.Di L).2.1
  rw[f.l,ab,aq]at this;omega
 have av:e3 [] [97] [49]=[(([97],[49]):aH)]:=by decide
 rw[av]at B;have O:=g.step B A I ⟨by decide,by decide⟩ I I;have aw:=A.q L;have P:=CZ B (by decide) (by have:=O.aQ;omega) (by rw[au,hg];decide);rw[A.st]at P;refine⟨0,rfl,P.use ?_⟩;rintro v Q (⟨hf,_⟩|⟨_,cB,ax,a6,hx⟩)
 .rw[ar]at hf;cases hf
 obtain⟨rfl,_,o,ay,a7,_,_,a8⟩:=hx.Di aw;have p:=O.step o ax I ⟨by decide,by decide⟩ I I;have R:=C6 (l:=bk) (zs:=[]) o.t.ca.raw.dev (y3 Q) (λq a=>(gk q a).elim) (by decide) (λz aA=>(by cases aA)) (by have:=p.aQ;omega);rw[p.d]at R;refine⟨0,rfl,R.use ?_⟩;rintro _ aD ⟨rfl,az,aE,S,aG⟩;refine⟨rfl,(l9 (b:=9) (d:=9) I I aD).use ?_⟩;rintro _ aJ ⟨rfl,V⟩;rw[G];have aK:ad (bY cB.T.C.D) Q aJ:=aG.trans (V.mono λ_ _ h=>h.elim);have W:=o.fo;rw[p.n]at W;refine⟨_,_,_,rfl,(p.found (aE.ext V) S aK W (o.bg ay S) r I (by decide) (by decide)).use ?_⟩;rintro _ X ⟨eF,rfl,Y,a9,aL,_⟩;obtain⟨aM,bW,bC,aN,a_⟩:=vy X [97];have E:=Y.ext aN;refine⟨_,0,rfl,aW ⟨⟨some X.heap.size,1,1⟩,aM,bW,(Im (key:=[97]) E.at_ (by have:=E.aQ;omega) bC λq a=>?_).use ?_⟩⟩
 .have e:=y7 a
  exact⟨I,λc=>by have:=Y.at_.t.lt c;omega⟩
 rintro v aO ⟨aF,aP,aS,_,_,_,_,aT⟩;have aV:=E.step aP aS I ⟨by decide,by decide⟩ (by show eF.gen<=eF.gen+1;omega) (by show eF.pending<=eF.pending+1;omega);rcases aT with ⟨_,i⟩|⟨t,x,rfl,_,i,ht⟩|⟨_,_,i⟩
 .have aX:eA [(([97],[49]):aH)] [97]=none:=i ⟨by decide,by decide⟩
  exact absurd aX (by decide)
 .have e:eA [(([97],[49]):aH)] [97]=some [49]:=by decide
  rw[e]at i;obtain rfl:=Option.some.inj i;refine⟨t,true,0,rfl,cq (λb w'=>b=true/\aO=w') (λq a=>⟨λ_=>⟨_,_,mg ht.1,a _ _ ⟨?_,rfl⟩⟩,λh=>(by cases h)⟩) ?_⟩
  .exact beq_self_eq_true _
  .rintro _ _ ⟨rfl,rfl⟩
   exact⟨rfl,aV.x⟩
 .exact absurd (aL.1 30) i
end
section
variable {w0 w w' w1 ah:J}{bD bf:Nat->Prop}{d n aS k c i:Nat}{l:fB}{S ax:bZ}{pages dT aG dK bn:O Nat}{L cW aM dA a7:O aH}{m:cE}{v:aa}{az:a6}{ls:Y}{A:O iw}
theorem Dj(B:Nat->Prop)(w:J):e7 B w bk []:=⟨[],(bd.none 2 167 w).src,bl _,λq a=>(gk q a).elim,rfl,λi h=>by simp at h⟩
theorem Dk{B:Nat->Prop}(a:Var w aS hJ.c 90)(b:¬B aS):en B w aS hJ:=
 ⟨⟨a,Dj _ _,b,λp d=>(by cases d),cL _⟩,Dj _ _,(by decide:0<18446744073709551616),λh=>absurd rfl h⟩
def iS(b:Nat):fB:=⟨8,1+b%12,1+b/16%12⟩
theorem Dl(b:Nat):kM ((iS b).an:Nat) ((iS b).batch:Nat) ((iS b).dY:Nat):=by
 unfold kM iS;have h1:b%12<12:=g7 _ (by decide);have h2:b/16%12<12:=g7 _ (by decide);show(8:Int)<=((8:Nat):Int)/\((8:Nat):Int)<=64/\(1:Int)<=((1+b%12:Nat):Int)/\((1+b%12:Nat):Int)<=1000/\(1:Int)<=((1+b/16%12:Nat):Int)/\((1+b/16%12:Nat):Int)<=1048576;omega
theorem IW{b:Nat}(a:b<256):IntKind.wrap .u8 (Int.tdiv (b:Int) 16)=((b/16:Nat):Int):=by
 rw[Int.tdiv_eq_ediv_of_nonneg I];have h:((b:Int)/16)=((b/16:Nat):Int):=by omega
 rw[h];have h2:b/16<256:=by omega
 show((b/16:Nat):Int)%256=_;omega
theorem IX{l:fB}{K:J->Prop}(e:∀w',Var w' w.heap.size l.c 46->Ext w w'->K w'):
 al (w.alloc (.cells #[(0:Int),(0:Int),.int .u64 0] 46)) λa=>bx a w.heap.size [l.an,l.batch,.int .u64 (l.dY:Nat)]/\(3:Nat)=3/\al (setCells a w.heap.size 0 [l.an,l.batch,.int .u64 (l.dY:Nat)]) K:=
 bh (vs:=[(0:Int),(0:Int),.int .u64 0]) rfl λa b f j=>⟨b.b9 rfl (λv d=>by
  simp only[cU,eL,eO]at d
  rcases d with rfl|rfl|rfl<;>trivial),rfl,cr b (us:=l.c) rfl rfl λg h i _=>e g h (Ext.cn f i (bl _))⟩
def cE.reset(m:cE):cE:={m with now:=m.sure,fO:=m.ss,c0:=0,clock:=m.eU}
theorem ep.reset(h:ep w0 w bD d n l S pages L aG aM c)(hf:S.failed=false)(he:bD aS)(j:en (λq=>¬S.T.M q) w aS m)(F:pages=aG/\L=aM)(hc:c<=4000)(aC:m.sure=aM)(aU:m.bw=S.u.bw)(aO:m.eU=S.u.clock)(dg:S.now=S.u.clock)(ba:S.pending=0)(G:m.eU<18446744073709551616){W:Nat->Prop}(cd:¬W aS){K:J->Prop}(H:∀w',ad (λq=>q=aS) w w'->lh w0 w' bD d n l aS S pages L aG aM m.reset c->K w'):
 ∃k:ae,(some aS:aq ae)=some k/\
  ¬W (k.add 1).block/\∃b:Y,w.cell? (k.add 1)=some (.slice b.a b.len b.cap)/\
  ∃o:ae,(some aS:aq ae)=some o/\¬W (o.add 6).block/\
  ∃y:Int,w.cell? (o.add 6)=some (.int .u64 y)/\∃e:ae,(some aS:aq ae)=some e/\
  (∃u:aa,w.cell? e=some u)/\w.frozen? e=false/\al (w.setCell e b) λr=>
  ∃f:ae,(some aS:aq ae)=some f/\(∃u:aa,r.cell? (f.add 2)=some u)/\
  r.frozen? (f.add 2)=false/\al (r.setCell (f.add 2) (0:Int)) λs=>
  ∃g:ae,(some aS:aq ae)=some g/\(∃u:aa,s.cell? (g.add 3)=some u)/\
  s.frozen? (g.add 3)=false/\al (s.setCell (g.add 3) (.int .u64 y)) K:=by
 obtain⟨rfl,rfl⟩:=F;have z:=h.at_.fQ;have P:=h.eB.1;obtain⟨a1,a2,t,A⟩:=j.back (by rw[aC];exact λp B=>⟨by have:=(z p B).1.2;omega,by have:=(z p B).2;omega⟩) (by rw[aC];omega);refine⟨_,rfl,by rw[aw];exact cd,m.ss,by rw[aw];exact j.v.cell,_,rfl,by rw[aw];exact cd,_,by rw[aw];exact j.v.cell,_,rfl,a1,a2,aW ⟨_,rfl,?_⟩⟩;rw[e0,cy];obtain⟨b_,bO,C,D⟩:=t.set (i:=2) (x:=.int .i64 0) {m with now:=m.sure,fO:=m.ss,c0:=0} (by decide) rfl rfl rfl t.sure ⟨t.num.1,λh=>absurd rfl h⟩;refine⟨b_,bO,aW ⟨_,rfl,?_⟩⟩;rw[e0,cy];obtain⟨I,N,O,E⟩:=C.set (i:=3) (x:=.int .u64 (m.eU:Nat)) m.reset (by decide) rfl rfl rfl C.sure ⟨G,λh=>absurd rfl h⟩;exact⟨I,N,aW (H _ ((A.trans D).trans E) ⟨h.jA he ((A.trans D).trans E),hf,he,O,⟨aC,aC,ba.symm,aO.trans dg.symm,λh=>absurd ba h,aU,aO⟩⟩)⟩
end
def wi(c:Nat)(S ax:bZ)(m m':cE):Prop:=
 ax.u=S.u/\ax.gen=S.gen/\(∀j,S.T.g j=true->ax.V j=S.V j)/\
 (((∀j,S.T.g j=true->ax.T.C.D.dH j=[])/\(m'.bw=m.bw->m'.sure=m.sure/\m'.eU=m.eU))\/(m'.bw=S.u.bw+1/\m'.sure.length<=c+1/\∃pages,r9 ax S.gen S.T.g pages m'.sure m'.eU m'.bw))
section
variable {w0 w w' w1 ah:J}{bD bf:Nat->Prop}{d n aS nb k c i:Nat}{l:fB}{S ax:bZ}{pages dT aG dK:O Nat}{L cW aM dA:O aH}{m m':cE}{v:aa}
theorem ia.y8{c:Prop}{e:Int}(h:ia c S ax pages L aG aM e w')(b:L.length<=k+1)(he:e≠0)(hg:m.bw=S.u.bw)(h1:c->m'.sure=L/\m'.eU=S.now/\m'.bw=S.u.bw+1)(h2:¬c->m'.bw=m.bw/\m'.sure=m.sure/\m'.eU=m.eU):e=3/\c_ w' ax aG aM aG aM/\ax.failed=true/\wi k S ax m m':=by
 rcases h with ⟨h,_⟩|⟨d,_,hs,hf,hu,f,dR,a⟩
 .cases h;exact absurd rfl he
 .refine⟨by cases d;rfl,hs,hf,hu,f,dR,?_⟩
  rcases a with a|⟨hc,a⟩
  .refine .inl ⟨a,λg=>?_⟩
   by_cases hc:c
   .have:=(h1 hc).2.2;omega
   .exact(h2 hc).2
  .obtain⟨a1,a2,a3⟩:=h1 hc
   exact .inr ⟨a3,by rw[a1];exact b,pages,by rw[a1,a2,a3];exact a⟩
theorem cE.due{s:Y}{b:Nat}(h:b<=m.c0+1):((m.put s L).more b).sure=L/\((m.put s L).more b).eU=m.clock/\((m.put s L).more b).bw=m.bw+1:=by
 have e:(m.put s L).more b=(m.put s L).oJ.nr:=if_pos h;rw[e];exact⟨rfl,rfl,rfl⟩
theorem cE.Dm{s:Y}{b:Nat}(h:¬b<=m.c0+1):((m.put s L).more b).bw=m.bw/\((m.put s L).more b).sure=m.sure/\((m.put s L).more b).eU=m.eU:=by
 have e:(m.put s L).more b=(m.put s L).oJ:=if_neg h;rw[e];exact⟨rfl,rfl,rfl⟩
def Told(c:Nat)(S ax:bZ)(m m':cE)(e:Int)(dT aG:O Nat)(cW aM:O aH)(dK:O Nat)(dA:O aH):Prop:=
 (ax.failed=false/\(e=0\/e=1\/e=2)/\wh ax m' cW dA)\/(ax.failed=true/\dT=aG/\cW=aM/\dK=aG/\dA=aM/\wi c S ax m m')
theorem lh.Dn{e:Int}(h:lh w0 w bD d n l aS S pages L aG aM m c)(hd:c6 k S ax w w')(o:k<=20000)(r:ax.now=S.now)(i:mz S ax dT cW aG aM e w')(j:cW.length<=c+1):
 ∃t bB dK dA,ep w0 w' bD d n l ax t bB dK dA (c+1)/\en (λq=>¬ax.T.M q) w' aS m/\∀f,Told c S ax m ((m.put f cW).more l.batch) e t aG bB aM dK dA:=by
 have p:=h.md.lj hd (h.s.gX h.ib).1 (h.s.gX h.ib).2;have a:=h.gE;have B:=h.s.eB.2;have C:l.batch=S.l.batch:=by rw[h.s.lim]
 rcases i with ⟨he,v,hs,hf,hg,hu,g,x,_⟩|i
 .obtain rfl:e=0:=by cases he;rfl
  refine⟨dT,cW,aG,aM,h.s.step hs hd o ⟨j,I⟩ I I,p,λf=>.inl ⟨hf,.inl rfl,?_⟩⟩;have e:(m.put f cW).more l.batch=(m.put f cW).oJ:=by
   unfold cE.more;rw[if_neg];show¬l.batch<=m.c0+1;rw[a.c0];omega
  rw[e];refine⟨rfl,a.sure,?_,?_,λ_=>?_,?_,?_⟩
  .show m.c0+1=_
   rw[a.c0,g]
  .exact a.clock.trans r.symm
  .show(if m.c0=0 then m.clock else m.first)=_
   rw[x,a.c0];by_cases e:S.pending=0
   .rw[if_pos e,if_pos e,a.clock]
   .rw[if_neg e,if_neg e,a.first e]
  .rw[hu];exact a.bw
  .rw[hu];exact a.eU
 .by_cases he:e=0
  .subst he
   rcases i with ⟨_,v,hs,hf,hg,y,z,g⟩|⟨A,_⟩
   rotate_left
   .cases A
   refine⟨dT,cW,dT,cW,h.s.step hs hd o ⟨j,j⟩ I I,p,λf=>.inl ⟨hf,.inl rfl,?_⟩⟩;have u:l.batch<=m.c0+1:=by rw[a.c0];omega
   obtain⟨a1,a2,a3⟩:=cE.due (m:=m) (s:=f) (L:=cW) u;have e:(m.put f cW).more l.batch=(m.put f cW).oJ.nr:=if_pos u;rw[e];exact⟨rfl,rfl,g.symm,a.clock.trans r.symm,λh=>absurd g h,by show m.bw+1=_;rw[z,a.bw],by show m.clock=_;rw[y,a.clock]⟩
  .have key:=λf=>i.y8 (m:=m) (m':=(m.put f cW).more l.batch) j he a.bw (λhc=>by
    obtain⟨a1,a2,a3⟩:=cE.due (m:=m) (s:=f) (L:=cW) (b:=l.batch) (by rw[a.c0];omega);exact⟨a1,by rw[a2,a.clock],by rw[a3,a.bw]⟩) λhc=>cE.Dm (by rw[a.c0];omega)
   obtain⟨_,hs,hf,_,D,_⟩:=key bk;have g:=(hs.dead hf).2.2.2;exact⟨aG,aM,aG,aM,h.s.step hs hd o ⟨I,I⟩ I I,p,λf=>.inr ⟨hf,rfl,rfl,rfl,rfl,(key f).2.2.2⟩⟩
theorem e7.own{s:Y}{M:O aH}(a:e7 (λq=>¬S.T.M q) w s M)(b:∀q,S.T.E q↔q=S.st\/bD q)(h1:∀q,bf q->bD q\/w.heap.size<=q):e7 (λq=>¬(S.own bf).T.M q) w s M:=
 a.aY λq e c d=>by
  rcases bZ.y6 b h1 d with h|h
  .exact c h
  .omega
def db(bD:Nat->Prop)(S:bZ)(w:J)(ax:bZ)(w':J):Prop:=∀iQ a,bD iQ->en (λq=>¬S.T.M q) w iQ a->en (λq=>¬ax.T.M q) w' iQ a
theorem db.ext(h:db bD S w ax w1)(hx:Ext w1 ah):db bD S w ax ah:=λq m he a=>(h q m he a).ext hx
theorem db.ab(h:db bD S w ax w1)(hc:ad (λq=>q=nb) w1 ah)(a:∀q,bD q->q≠nb)(b:ax.T.M nb):db bD S w ax ah:=λq m he c=>(h q m he c).ab hc (a q he) λk d _ e=>d (by rw[e];exact b)
theorem db.lj{cB:bZ}(h:db bD S w ax w1)(hd:c6 k ax cB w1 ah)(a:∀q,bD q->ax.T.E q/\q≠ax.st):db bD S w cB ah:=λq m he b=>(h q m he b).lj hd (a q he).1 (a q he).2
def Dp(w0:J)(bD:Nat->Prop)(d n:Nat)(l:fB)(aS:Nat)(S:bZ)(aG:O Nat)(aM:O aH)(m:cE)(c:Nat)(w:J)(v:aa)(w':J):Prop:=
 ∃ (ax:bZ) (dT dK:O Nat) (cW dA:O aH) (m':cE) (ok:ai) (bf:Nat->Prop),v=.tuple #[ok,.agg m'.c.toArray]/\(∀q,bD q->bf q)/\(∀q,bf q->bD q\/w.heap.size<=q)/\ep w0 w' bf d n l ax dT cW dK dA (c+1)/\ax.st=S.st/\db bD S w ax w'/\
  (∃nb,w.heap.size<=nb/\en (λq=>¬ax.T.M q) w' nb m')/\(∃e,(ok=(!ax.failed))/\Told c S ax m m' e dT aG cW aM dK dA)
theorem oc{D sv sl:Y}{key val:Key}{kind Z after:Int}(h:lh w0 w bD d n l aS S pages L aG aM m c)(hc:c<=900)(ca:a_ (λq=>¬S.T.M q) w D key)(P:a_ (λq=>¬S.T.M q) w sv val)(eD:key.length<=26)(eE:val.length<=26):
 aR aj 47 #[.pointer (some S.st),.pointer (some aS),.agg #[kind,Z,after,D,sv,sl],.agg l.c.toArray] w (Dp w0 bD d n l aS S aG aM m c w):=by
 refine af.ET _ _ kind Z after D sv sl (l.an:Nat) (l.batch:Nat) (l.dY:Nat) w _ ?_;(delta af.oc pv kz U ag g0 aC r1 ak kZ aO aU br xh;dsimp only);refine bh (vs:=[kind,Z,after,D,sv,sl]) rfl λw1 ds cb eF=>bh (vs:=l.c) rfl λah dt bu eG=>bh (vs:=hJ.c) rfl λbv du a4 eH=>?_;have cc:=(cb.trans bu).trans a4;have B:=h.ext cc;refine⟨_,rfl,m.c,B.v.rd rfl,bh (vs:=hJ.c) rfl λeI cd dv eJ=>⟨cd.b9 rfl (λv P=>?_),rfl,cr cd (us:=m.c) rfl rfl λaD dw dx eK=>aW ?_⟩⟩
 .unfold cE.c cE.rest at P
  simp only[cU,eL,eO]at P;rcases P with rfl|rfl|rfl|rfl|rfl|rfl|rfl<;>trivial
 have ce:Ext bv aD:=Ext.cn dv dx (bl _);have ac:=(cc.trans ce).trans (cf aD);have a5:Ext bv aD.drew:=ce.trans (cf aD);have bz:=((ds.ext bu).ext a4).ext a5;have cg:=(dt.ext a4).ext a5;have a6:=du.ext a5;have a7:=dw.ext (cf aD);have ch:=a_.ext ca ac;have dy:=a_.ext P ac;have ci:=h.ext ac;have dz:=cb.size;have eM:=bu.size;have eN:=a4.size;generalize aD.drew=ae at ac a5 bz cg a6 a7 ch dy ci;obtain⟨nb,dB⟩:∃nb,nb=bv.heap.size:=⟨_,rfl⟩;rw[←dB]at a7⊢;have eP:=a7.lt;have eQ:=h.v.lt;have eR:aS≠nb:=by omega
 obtain⟨G,dC⟩:∃G,G=ah.heap.size:=⟨_,rfl⟩;rw[←dC]at a6⊢;obtain⟨bf,aE⟩:∃bf:Nat->Prop,bf=λq=>bD q\/q=nb\/q=G:=⟨_,rfl⟩;have bA:∀q,bD q->bf q:=λq g=>by rw[aE];exact .inl g
 have aF:bf nb:=by rw[aE];exact .inr (.inl rfl)
 have a8:bf G:=by rw[aE];exact .inr (.inr rfl)
 have bC:∀q,bf q->bD q\/w.heap.size<=q:=λq g=>by rw[aE]at g;exact g.imp id λe=>by omega
 have cj:ep w0 ae bf d n l (S.own bf) pages L aG aM c:=h.s.grow ac λq g=>by rw[aE]at g;exact g.imp id λe=>⟨I,by have:=a6.lt;omega⟩
 have ck:∀q,(S.own bf).T.M q->S.T.M q\/w.heap.size<=q:=λq g=>bZ.y6 h.s.E bC g;have own:∀ {s:Y}{M:O aH},e7 (λq=>¬S.T.M q) w s M->e7 (λq=>¬(S.own bf).T.M q) ae s M:=λQ=>(Q.own h.s.E bC).ab (ad.cJ ac:ad (λ_=>False) _ _) λ_ _ _ h=>h;have cl:∀q,(S.own bf).T.M q->q<w.heap.size\/bf q:=λq g=>by
  rcases g with g|g|g|g|g
  .exact .inl (h.s.at_.t.lt (.inl g))
  .exact .inl (h.s.at_.t.lt (.inr (.inl g)))
  .exact .inl (h.s.at_.t.lt (.inr (.inr (.inl g))))
  .rcases(show q=S.st\/bf q from g) with h1|h1
   .exact .inl (h.s.at_.t.lt (.inr (.inr (.inr (.inl ((h.s.E q).2 (.inl h1)))))))
   .exact .inr h1
  .exact .inl (h.s.at_.t.lt (.inr (.inr (.inr (.inr g)))))
 have cm:∀q,bf q->(S.own bf).T.M q:=λq g=>.inr (.inr (.inr (.inl (.inr g))));have co:en (λq=>¬(S.own bf).T.M q) ae nb m:=⟨⟨a7,own h.md.now.p,λC=>C (cm _ aF),h.md.now.ok,h.md.now.eB⟩,own h.md.sure,h.md.num⟩;have cp:db bD S w (S.own bf) ae:=λiQ eS he z=>⟨⟨z.v.ext ac,own z.now.p,λC=>C (cm _ (bA _ he)),z.now.ok,z.now.eB⟩,own z.sure,z.num⟩;have cs:∀q,bD q->q<w.heap.size:=λq g=>h.s.at_.t.lt (.inr (.inr (.inr (.inl (h.s.gX g).1))));have V:(S.own bf).failed=false:=h.live;have r:wh (S.own bf) m L aM:=⟨h.gE.now,h.gE.sure,h.gE.c0,h.gE.clock,h.gE.first,h.gE.bw,h.gE.eU⟩;have ct:∀ {s:Y}{x:Key},a_ (λq=>¬S.T.M q) w s x->a_ (λq=>¬(S.own bf).T.M q) ae s x:=λht=>a_.ext (a_.aY ht λq eT o z=>by
  rcases ck q z with h1|h1
  .exact o h1
  .omega) ac
 have cu:=ct ca;have cv:=ct P;have cx:∀ax m',wi c (S.own bf) ax m m'->wi c S ax m m':=λax m' h=>h;have aI:fp (S.own bf)=fp S:=rfl;have am:(S.own bf).st=S.st:=rfl;have eV:S.st<w.heap.size:=h.s.at_.t.lt (.inr (.inr (.inr (.inl h.s.at_.es))));generalize eW:S.own bf=f at cj ck cl co cp V r cu cv cx aI am;have cy:lh w0 ae bf d n l nb f pages L aG aM m c:=⟨cj,V,aF,co,r⟩;have a9:=h.s.at_.ok.rising;obtain rfl:m.now=L:=h.gE.now;refine⟨λq=>ae.heap.size<=q,_,rfl,by rw[aw];show¬ae.heap.size<=w.heap.size;omega,D,by rw[aw];exact bz.cell,(yG ci.md.now ch.1 I).use ?_⟩;rintro _ eX ⟨i,rfl,dD,cz⟩;have cC:=Ij (cy.ext cz).s.at_;rw[am,aI]at cC;refine⟨_,_,rfl,cC.use ?_⟩;rintro _ ap ⟨rfl,dE⟩;have aq:=cz.trans dE;have j:=cy.ext aq;have aJ:=bz.ext aq;have dF:=cg.ext aq;have dG:=a6.ext aq;have aK:=a_.ext cu aq;have aN:=a_.ext cv aq;have dH:=cp.ext aq;have ar:=j.s.at_;have eY:=j.s.eB;have eZ:=j.s.aQ;have e0:=j.s.gen;have e1:=j.s.qu;have e2:=j.s.low I;have bF:=dD.get a9;have ba:m.bw<1000000000000:=by rw[j.gE.bw];have:=ar.num;omega
 have cF:m.c0<1000000:=by rw[j.gE.c0];omega
 have e4:=we (k:=key) a9;have e5:=yW key val m.now;have cG:=j.s.lim;have cH:∀q,aB D q->q<ap.heap.size/\¬f.T.M q:=λq g=>⟨(aK.2.2 q g).2,(aK.2.2 q g).1⟩;have dI:∀q,aB sv q->q<ap.heap.size/\¬f.T.M q:=λq g=>⟨(aN.2.2 q g).2,(aN.2.2 q g).1⟩;have cI:∀q,w.heap.size<=q->¬q=nb->¬q=G->¬f.W q:=λq h1 h2 B bG=>by
  rcases cl _ bG.1 with F|F
  .omega
  .rw[aE]at F
   rcases F with F|F|F
   .have:=h.s.at_.t.lt (q:=q) (.inr (.inr (.inr (.inl ((h.s.E q).2 (.inr F))))));omega
   .exact h2 F
   .exact B F
 have vars:∀ (cB:bZ) (bI:Nat) (w':J),c6 bI f cB ap w'->Var w' w.heap.size [kind,Z,after,D,sv,sl] 92/\Var w' w1.heap.size l.c 46/\Var w' G hJ.c 90/\db bD S w cB w'/\en (λq=>¬cB.T.M q) w' nb m:=λcB bI w' hd=>⟨aJ.ab hd.ab (cI _ (bl _) I I),dF.ab hd.ab (cI _ dz I I),dG.ab hd.ab (λbG=>by have:=bG.2 (j.s.gX a8).1;omega),dH.lj hd (λq g=>j.s.gX (bA q g)),j.md.lj hd (j.s.gX aF).1 (j.s.gX aF).2⟩
 obtain⟨R,cK⟩:∃R:Int->J->Prop,R=λe av=>∃ (ax:bZ) (dT dK:O Nat) (cW dA:O aH) (m':cE),ep w0 av bf d n l ax dT cW dK dA (c+1)/\ax.st=f.st/\en (λq=>¬ax.T.M q) av nb m'/\db bD S w ax av/\Var av G hJ.c 90/\Told c f ax m m' e dT aG cW aM dK dA:=⟨_,rfl⟩;have dJ:¬G=nb:=by omega
 generalize e6:iv m.now key i=has at bF⊢
 have put:∀ {ax:bZ}{bb bH:J}{dT dK:O Nat}{cW dA:O aH}{m':cE}{e:Int},ep w0 bb bf d n l ax dT cW dK dA (c+1)->ax.st=f.st->db bD S w ax bb->Var bb G hJ.c 90->ad (λq=>q=nb) bb bH->en (λq=>¬ax.T.M q) bH nb m'->Told c f ax m m' e dT aG cW aM dK dA->R e bH:=λh1 h2 B F aP bJ dL=>by
  have a1:=h1.jA aF aP;have a2:=B.ab aP (λq g e=>by have:=cs q g;omega) (.inr (.inr (.inr (.inl (h1.gX aF).1))));rw[cK];exact⟨_,_,_,_,_,_,a1,h2,bJ,a2,F.ab aP dJ,dL⟩
 have bK:∀ {ax:bZ}{w':J}{bL:Prop}{cD:O Nat}{M:O aH}{m':cE}{e:Int}{bI:Nat},c6 bI f ax ap w'->bI<=20000->M.length<=c+1->ia bL f ax cD M aG aM e w'->e≠0->(bL->m'.sure=M/\m'.eU=f.now/\m'.bw=f.u.bw+1)->(¬bL->m'.bw=m.bw/\m'.sure=m.sure/\m'.eU=m.eU)->ep w0 w' bf d n l ax aG aM aG aM (c+1)/\Told c f ax m m' e aG aG aM aM aG aM:=λhd bM dM hx he au ay=>by
  obtain⟨_,hs,hf,z⟩:=hx.y8 dM he j.gE.bw au ay;have Q:=(hs.dead hf).2.2.2;exact⟨j.s.step hs hd bM ⟨I,I⟩ (by rw[z.2.1];omega) I,.inr ⟨hf,rfl,rfl,rfl,rfl,z⟩⟩
 have same:∀ {ax:bZ}{w':J}{cD:O Nat}{bI:Nat}{e:Int},c6 bI f ax ap w'->bI<=20000->c_ w' ax cD m.now aG aM->ax.u=f.u->ax.gen=f.gen->ax.now=f.now->ax.first=f.first->ax.pending=f.pending->ax.failed=false->(e=0\/e=1\/e=2)->ep w0 w' bf d n l ax cD m.now aG aM (c+1)/\Told c f ax m m e cD aG m.now aM aG aM:=λhd bM hs cL cM dN dO cN dP dQ=>
  ⟨j.s.step hs hd bM ⟨I,I⟩ I I,.inl ⟨dP,dQ,⟨rfl,j.gE.sure,by rw[cN];exact j.gE.c0,by rw[dN];exact j.gE.clock,λh2=>by rw[dO];exact j.gE.first (by rw[←cN];exact h2),by rw[cL];exact j.gE.bw,by rw[cL];exact j.gE.eU⟩⟩⟩
 refine⟨_,rfl,cq R (λbc aL=>⟨_,aJ.cell,λaT=>?_,λaT=>⟨λaT=>?_,λaT=>⟨λaT=>?_,λaT=>?_⟩⟩⟩) ?_⟩
 .
  have cO:=Io ar I I I I aK.1 cH;rw[am]at cO;refine⟨D,by rw[aw];exact aJ.cell,cO.use ?_⟩;rintro v ao aV;have tail:∀ (ax:bZ) (bI:Nat) (b:ai) (e:Int),c6 bI f ax ap ao->v=.tuple #[b,e]->
   ((has=true/\fp S≠0/\cw key)->∃cD cW dK dA,ep w0 ao bf d n l ax cD cW dK dA (c+1)/\∀H,Told c f ax m ((m.put H (ec m.now key)).more l.batch) e cD aG cW aM dK dA)->
   (¬(has=true/\fp S≠0/\cw key)->∃cD cW dK dA,ep w0 ao bf d n l ax cD cW dK dA (c+1)/\Told c f ax m m e cD aG cW aM dK dA)->
   ∃dR:ai,∃n25:Int,Ending.returned v=.returned (.tuple #[dR,n25])/\
   bE (λcP:ai->J->Prop=>((has&&(!(((fp S:Nat):Int)==0)))=true->∃bd:Y,ao.cell? (Addr.add w.heap.size 3)=some (.slice bd.a bd.len bd.cap)/\
    Calls aj 50 #[bd] ao λdS dU=>∃cQ:ai,dS=.returned cQ/\cP cQ dU)/\((has&&(!(((fp S:Nat):Int)==0)))=false->cP false ao))
   (λ(bN:ai) (bO:J)=>(bN=true->∃be:Y,bO.cell? (Addr.add w.heap.size 3)=some (.slice be.a be.len be.cap)/\
     Calls aj 104 #[.pointer (some nb),be] bO λdV bP=>
     ∃dW:ai,dV=.returned dW/\∃n37:Int,bP.cell? (Addr.add w1.heap.size 1)=some (.int .i64 n37)/\
     Calls aj 105 #[.pointer (some nb),n37] bP λdX cR=>dX=.returned (.tuple #[])/\bc n25 cR)/\(bN=false->bc n25 bO)):=by
   rintro ax bI b e hd rfl bQ bR;obtain⟨cT,dZ,cV,cX,bS⟩:=vars ax bI ao hd;have cY:=a_.lj aK hd;refine⟨b,e,rfl,cq (λaX w'=>(aX=true↔(has=true/\fp S≠0/\cw key))/\ao=w') (λq g=>⟨λo=>⟨D,by rw[aw];exact cT.cell,(ob cY.1).use ?_⟩,λo=>g _ _ ⟨⟨λh=>(by cases h),λC=>?_⟩,rfl⟩⟩) ?_⟩
   .rintro _ _ ⟨rfl,rfl⟩
    refine⟨_,rfl,g _ _ ⟨?_,rfl⟩⟩;rw[cS];simp at o;exact⟨λh=>⟨o.1,I,h⟩,λh=>h.2.2⟩
   .simp[C.1]at o
    exact absurd I C.2.1
   rintro bN _ ⟨o,rfl⟩;refine⟨λht=>?_,λhf=>?_⟩
   .obtain⟨cD,cW,dK,dA,y,A⟩:=bQ (o.1 ht)
    refine⟨D,by rw[aw];exact cT.cell,(HJ bS.now a9 cY.1 I (y5 y.at_)).use ?_⟩;rintro _ bP ⟨rfl,bT,H,bU⟩;have d0:=bS.put bT bU;refine⟨_,rfl,_,by rw[aw];exact(dZ.ab bT I).cell,(CH d0 ba cF (batch:=l.batch)).use ?_⟩;rintro _ cR ⟨rfl,d1,d2⟩;exact⟨rfl,aL _ _ (put y hd.st cX cV (bT.trans d1) d2 (A H))⟩
   .have aZ:¬(has=true/\fp S≠0/\cw key):=λC=>by rw[o.2 C]at hf;cases hf
    obtain⟨cD,cW,dK,dA,y,A⟩:=bR aZ;exact aL _ _ (put y hd.st cX cV (.refl _ _) bS A)
  rcases aV with ⟨rfl,bV,rfl⟩|⟨d3,⟨hf,_⟩|⟨_,ax,hd,az,⟨rfl,hg,hs,he,hf⟩|⟨rfl,hg,aA,hs,he,hf⟩|⟨e,rfl,hg,aA,dT,z⟩|⟨rfl,hx⟩⟩⟩
  .exact tail f 0 _ _ (c6.ext f (.refl _ _)) rfl (λh=>absurd h.2.2 bV) λ_=>⟨_,_,_,_,same (c6.ext f (.refl _ _)) I ar rfl rfl rfl rfl rfl V (.inr (.inl rfl))⟩
  .rw[V]at hf;cases hf
  .exact tail ax _ _ _ hd rfl (λh=>by rw[bF,hg]at h;exact absurd h.1 (by decide)) λ_=>⟨_,_,_,_,same hd I hs he.u he.gen he.now he.first he.pending hf (.inl rfl)⟩
  .exact tail ax _ _ _ hd rfl (λh=>absurd (by rw[←aI];exact aA) h.2.1) λ_=>⟨_,_,_,_,same hd I hs he.u he.gen he.now he.first he.pending hf (.inr (.inr rfl))⟩
  .obtain⟨cD,bB,bp,bW,y,_,A⟩:=j.Dn hd I az z I
   refine tail ax _ _ _ hd rfl (λ_=>⟨cD,bB,bp,bW,y,A⟩) λh=>absurd ⟨?_,by rw[←aI];exact aA,d3⟩ h;rw[bF]
   cases d4:eA m.now key with
   |none=>exact absurd d4 hg
   |some x=>rfl
  .refine tail ax _ _ _ hd rfl (λh=>?_) λ_=>?_
   .have key:=λH=>bK (m':=(m.put H (ec m.now key)).more l.batch) hd I I (hx (l.batch<=m.c0+1) pages (ec m.now key)) (by decide) (λhc=>by
     obtain⟨a1,a2,a3⟩:=cE.due (m:=m) (s:=H) (L:=ec m.now key) hc;exact⟨a1,by rw[a2,j.gE.clock],by rw[a3,j.gE.bw]⟩) λhc=>cE.Dm hc
    exact⟨_,_,_,_,(key bk).1,λH=>(key H).2⟩
   .exact⟨_,_,_,_,bK (m':=m) hd I I (hx False pages m.now) (by decide) (λh=>h.elim) λ_=>⟨rfl,rfl,rfl⟩⟩
 .
  obtain⟨N,cZ,c1⟩:∃N:Nat,IntKind.wrap .u64 Z=(N:Int)/\N<18446744073709551616:=⟨(Z%18446744073709551616).toNat,by rw[Ag];omega,I⟩;refine⟨Z,by rw[aw];exact aJ.cell,?_⟩;rw[cZ];have c2:=Il ar c1 I I I;rw[am]at c2;refine c2.use ?_;rintro v c3 ⟨ax,hd,az,aV⟩;obtain⟨d5,d6,d7,d8,d9⟩:=vars ax _ c3 hd;have r:=j.gE;obtain⟨e,rfl,cD,cW,dK,dA,y,A⟩:∃e:Int,v=e/\∃cD cW dK dA,ep w0 c3 bf d n l ax cD cW dK dA (c+1)/\Told c f ax m (m.tick N l.dY) e cD aG cW aM dK dA:=by
   have c4:¬(f.pending≠0/\f.l.dY<=max f.now N-f.first)->m.tick N l.dY=m.jy N:=λaZ=>by
    unfold cE.tick;rw[if_neg];rintro⟨h1,h2⟩;rw[r.c0]at h1;rw[r.clock,r.first h1,←cG]at h2;exact aZ ⟨h1,h2⟩
   have jy:(f.pending≠0/\f.l.dY<=max f.now N-f.first)->m.tick N l.dY=(m.jy N).nr:=λK=>by
    unfold cE.tick;rw[if_pos];refine⟨by rw[r.c0];exact K.1,?_⟩;rw[r.clock,r.first K.1,←cG];exact K.2
   rcases aV with ⟨rfl,K,hs,rfl⟩|⟨_,hx⟩
   .refine⟨0,rfl,pages,m.now,aG,aM,j.s.step hs hd I ⟨I,I⟩ (by show f.gen<=f.gen+1;omega) (by show f.pending<=f.pending+1;omega),.inl ⟨V,.inl rfl,?_⟩⟩
    rw[c4 (λh=>by rcases K with B|B;exact h.1 B;omega)];exact⟨rfl,r.sure,r.c0,by show max m.clock N=max f.now N;rw[r.clock],r.first,r.bw,r.eU⟩
   .obtain⟨e,rfl⟩:=hx.val
    by_cases he:e=0
    .subst he
     rcases hx with ⟨_,K,hs,hf,hg,bX,bY,Q⟩|⟨B,_⟩
     rotate_left
     .cases B
     have e8:ax.gen=f.gen+1:=hg;have d_:ax.u.clock=max f.now N:=bX;have ea:ax.u.bw=f.u.bw+1:=bY;refine⟨0,rfl,pages,m.now,pages,m.now,j.s.step hs hd I ⟨I,I⟩ I I,.inl ⟨hf,.inl rfl,?_⟩⟩;rw[jy K];exact⟨rfl,rfl,Q.symm,by show max m.clock N=ax.now;rw[r.clock,az],λh=>absurd Q h,by show m.bw+1=_;rw[ea,r.bw],by show max m.clock N=_;rw[d_,r.clock]⟩
    .obtain⟨_,hs,hf,z⟩:=hx.y8 (k:=c) (m:=m) (m':=m.tick N l.dY) I he r.bw (λK=>by
      rw[jy K];exact⟨rfl,by show max m.clock N=max f.now N;rw[r.clock],by show m.bw+1=f.u.bw+1;rw[r.bw]⟩) λK=>by
      rw[c4 K];exact⟨rfl,rfl,rfl⟩
     have Q:=(hs.dead hf).2.2.2;have e9:ax.gen=f.gen:=z.2.1;exact⟨e,rfl,aG,aM,aG,aM,j.s.step hs hd I ⟨I,I⟩ I I,.inr ⟨hf,rfl,rfl,rfl,rfl,z⟩⟩
  refine⟨e,rfl,Z,by rw[aw];exact d5.cell,_,by rw[aw];exact d6.cell,?_⟩;rw[cZ];refine(HK d9 (y5 y.at_) ba c1 (dY:=l.dY)).use ?_;rintro _ e_ ⟨rfl,eb,ed⟩;exact⟨rfl,aL _ _ (put y hd.st d8 d7 eb ed A)⟩
 .
  have c5:=CZ ar I I I;rw[am]at c5;refine c5.use ?_;rintro v ee (⟨hf,_⟩|⟨_,ax,hd,az,hx⟩)
  .rw[V]at hf;cases hf
  obtain⟨fa,fb,c7,c8,ef⟩:=vars ax _ ee hd;have r:=j.gE;obtain⟨e,rfl⟩:=hx.val;refine⟨e,rfl,(yI ef ba).use ?_⟩;rintro _ fc ⟨rfl,c9,da⟩;refine⟨rfl,aL _ _ ?_⟩;by_cases he:e=0
  .subst he
   rcases hx with ⟨_,_,hs,hf,hg,bX,bY,Q⟩|⟨B,_⟩
   rotate_left
   .cases B
   exact put (j.s.step hs hd I ⟨I,I⟩ I I) hd.st c8 c7 c9 da (.inl ⟨hf,.inl rfl,⟨rfl,rfl,Q.symm,r.clock.trans az.symm,λh=>absurd Q h,by show m.bw+1=_;rw[bY,r.bw],by show m.clock=_;rw[bX,r.clock]⟩⟩)
  .obtain⟨y,A⟩:=bK (m':=m.nr) hd I I hx he (λ_=>⟨rfl,r.clock,by show m.bw+1=_;rw[r.bw]⟩) λh=>absurd trivial h
   exact put y hd.st c8 c7 c9 da A
 .
  have dc:=C1 ar I I I I aK.1 cH aN.1 dI;rw[am]at dc;refine⟨D,by rw[aw];exact aJ.cell,sv,by rw[aw];exact aJ.cell,dc.use ?_⟩;rintro v X aV;have fd:=len8 aN.1;have tail:∀ (ax:bZ) (bI:Nat) (e:Int),c6 bI f ax ap X->v=e->
   ((fp S≠0/\cw key/\val.length<=24)->∃cD cW dK dA,ep w0 X bf d n l ax cD cW dK dA (c+1)/\∀H,Told c f ax m ((m.put H (e3 m.now key val)).more l.batch) e cD aG cW aM dK dA)->
   (¬(fp S≠0/\cw key/\val.length<=24)->∃cD cW dK dA,ep w0 X bf d n l ax cD cW dK dA (c+1)/\Told c f ax m m e cD aG cW aM dK dA)->
   ∃b0:Int,Ending.returned v=.returned b0/\bE (
   λdd:ai->J->Prop=>((!(((fp S:Nat):Int)==0))=true->∃bg:Y,X.cell? (Addr.add w.heap.size 3)=some (.slice bg.a bg.len bg.cap)/\
    Calls aj 50 #[bg] X λeg eh=>∃de:ai,eg=.returned de/\dd de eh)/\((!(((fp S:Nat):Int)==0))=false->dd false X))
   (λ(b1:ai) (b2:J)=>bE (λdf:ai->J->Prop=>(b1=true->∃bi:Y,b2.cell? (Addr.add w.heap.size 4)=some (.slice bi.a bi.len bi.cap)/\df (decide ((bi.len:Int)<=24)) b2)/\(b1=false->df false b2))
    (λ(b3:ai) (bj:J)=>(b3=true->∃bm:Y,bj.cell? (Addr.add w.heap.size 3)=some (.slice bm.a bm.len bm.cap)/\∃bn:Y,bj.cell? (Addr.add w.heap.size 4)=some (.slice bn.a bn.len bn.cap)/\
      Calls aj 107 #[.pointer (some nb),bm,bn] bj λei b4=>ei=.returned (.tuple #[])/\∃dg:Int,b4.cell? (Addr.add w1.heap.size 1)=some (.int .i64 dg)/\
      Calls aj 105 #[.pointer (some nb),dg] b4 λej dh=>ej=.returned (.tuple #[])/\bc b0 dh)/\(b3=false->bc b0 bj))):=by
   rintro ax bI e hd rfl bQ bR;obtain⟨bo,ek,di,dj,b5⟩:=vars ax bI X hd;have dk:=a_.lj aK hd;have el:=a_.lj aN hd;refine⟨e,rfl,cq (λaX w'=>(aX=true↔(fp S≠0/\cw key))/\X=w') (λq g=>⟨λo=>⟨D,by rw[aw];exact bo.cell,(ob dk.1).use ?_⟩,λo=>g _ _ ⟨⟨λh=>(by cases h),λC=>?_⟩,rfl⟩⟩) ?_⟩
   .rintro _ _ ⟨rfl,rfl⟩
    refine⟨_,rfl,g _ _ ⟨?_,rfl⟩⟩;rw[cS];simp at o;exact⟨λh=>⟨I,h⟩,λh=>h.2⟩
   .simp at o
    exact absurd I C.1
   rintro b1 _ ⟨dl,rfl⟩;refine cq (λaX w'=>(aX=true↔(fp S≠0/\cw key/\val.length<=24))/\X=w') (λq g=>⟨λo=>⟨sv,by rw[aw];exact bo.cell,g _ _ ⟨?_,rfl⟩⟩,λo=>g _ _ ⟨⟨λh=>(by cases h),λC=>?_⟩,rfl⟩⟩) ?_
   .rw[cS]
    have B:=dl.1 o;exact⟨λh=>⟨B.1,B.2,I⟩,λh=>by have:=h.2.2;omega⟩
   .rw[dl.2 ⟨C.1,C.2.1⟩]at o;cases o
   rintro b3 _ ⟨o,rfl⟩;refine⟨λht=>?_,λhf=>?_⟩
   .obtain⟨cD,cW,dK,dA,y,A⟩:=bQ (o.1 ht)
    refine⟨D,by rw[aw];exact bo.cell,sv,by rw[aw];exact bo.cell,(HI b5.now a9 dk.1 I el.1 I (y5 y.at_) I).use ?_⟩;rintro _ b4 ⟨rfl,b6,H,bU⟩;have em:=b5.put b6 bU;refine⟨rfl,_,by rw[aw];exact(ek.ab b6 I).cell,(CH em ba cF (batch:=l.batch)).use ?_⟩;rintro _ dh ⟨rfl,eo,eq⟩;exact⟨rfl,aL _ _ (put y hd.st dj di (b6.trans eo) eq (A H))⟩
   .have aZ:¬(fp S≠0/\cw key/\val.length<=24):=λC=>by rw[o.2 C]at hf;cases hf
    obtain⟨cD,cW,dK,dA,y,A⟩:=bR aZ;exact aL _ _ (put y hd.st dj di (.refl _ _) b5 A)
  rcases aV with ⟨rfl,bV,rfl⟩|⟨er,⟨hf,_⟩|⟨_,ax,hd,az,⟨rfl,aA,hs,rfl⟩|⟨aA,dT,z⟩⟩⟩
  .exact tail f 0 _ (c6.ext f (.refl _ _)) rfl (λh=>absurd h.2 bV) λ_=>⟨_,_,_,_,same (c6.ext f (.refl _ _)) I ar rfl rfl rfl rfl rfl V (.inr (.inl rfl))⟩
  .rw[V]at hf;cases hf
  .exact tail _ _ _ hd rfl (λh=>absurd (by rw[←aI];exact aA) h.1) λ_=>⟨_,_,_,_,same hd I hs rfl rfl rfl rfl rfl V (.inr (.inr rfl))⟩
  .obtain⟨e,rfl⟩:∃e:Int,v=e:=by
    rcases z with ⟨rfl,_⟩|hx
    .exact⟨0,rfl⟩
    .exact hx.val
   obtain⟨cD,bB,bp,bW,y,_,A⟩:=j.Dn hd I az z I;exact tail ax _ _ hd rfl (λ_=>⟨cD,bB,bp,bW,y,A⟩) λh=>absurd ⟨by rw[←aI];exact aA,er⟩ h
 .intro e av dm
  rw[cK]at dm;obtain⟨ax,dT,dK,cW,dA,m',y,dn,et,eu,ev,A⟩:=dm;have bq:=cf av;have a0:=y.ext bq;have bs:=et.ext bq;have dp:=eu.ext bq;have b7:=ev.ext bq;refine aW ?_;generalize av.drew=bt at a0 bs dp b7;have dq:=Ih a0.at_;rw[dn,am]at dq;have fe:=bs.v.lt;refine⟨λq=>bt.heap.size<=q,by show¬bt.heap.size<=nb;omega,m'.c,bs.v.rd rfl,dq.use ?_⟩;rintro _ _ ⟨rfl,rfl⟩;have ew:∀v∈m'.c,Plain v:=λv P=>by
   unfold cE.c cE.rest at P;simp only[cU,eL,eO]at P;rcases P with rfl|rfl|rfl|rfl|rfl|rfl|rfl<;>trivial
  have fin:∀ (ok:ai),ok=(!ax.failed)->bx bt G (Array.toList m'.c.toArray)/\Array.size m'.c.toArray=7/\al (setCells bt G 0 (Array.toList m'.c.toArray)) λb8=>∃dr:O aa,cA b8 G 0 7=some dr/\Dp w0 bD d n l aS S aG aM m c w (.tuple #[ok,.agg dr.toArray]) b8:=λok ex=>
   ⟨b7.b9 rfl ew,rfl,cr b7 (us:=m'.c) rfl rfl λb8 ey b_ _=>⟨m'.c,ey.rd rfl,ax,dT,dK,cW,dA,m',ok,bf,rfl,bA,bC,a0.jA a8 b_,dn.trans am,dp.ab b_ (λq g e=>by have:=cs q g;omega) (.inr (.inr (.inr (.inl (a0.gX a8).1)))),⟨nb,I,bs.ab b_ I λq o _ e=>o (by rw[e];exact .inr (.inr (.inr (.inl (a0.gX a8).1))))⟩,e,ex,?_⟩⟩
  .refine⟨_,rfl,.refl _ _,λo=>⟨λ_=>fin true o.symm,λez=>⟨λ_=>fin true o.symm,λeC=>?_⟩⟩,λo=>fin false o.symm⟩
   rcases A with ⟨hf,he,_⟩|⟨hf,_⟩
   .have cM:(e==2)=true:=by
     rcases he with rfl|rfl|rfl
     .cases ez
     .cases eC
     .rfl
    rw[cM];exact fin true o.symm
   .rw[hf]at o;cases o
  .rcases A with h1|⟨h1,h2,B,F,aP,bJ⟩
   .exact .inl h1
   .exact .inr ⟨h1,h2,B,F,aP,cx _ _ bJ⟩
end
def aN.Dq(T:aN)(k:Nat)(a:Int):aN:=T.bm {T.C with D:=T.C.D.fail k a} T.P
section
variable {w0 w w' w1 ah:J}{bD bf:Nat->Prop}{d n aS eJ nb k c i:Nat}{l:fB}{S ax:bZ}{pages dT aG dK bn:O Nat}{L cW aM dA a7:O aH}{m m' y z:cE}{v:aa}{az:a6}{T:aN}{b:ai}
theorem bJ.rN{a:Int}(ht:bJ w T)(hd:cx w' (T.C.D.fail k a))(hc:ad (λq=>q=T.C.D.d) w w'):bJ w' (T.Dq k a):=by
 have hf:c4 T.C T.C.D.d:=.inr (.inr (.inl rfl));have hx:=ht.ca.inv.e6;have b:=ht.ca.raw;have g:∀q,T.X q->q≠T.C.D.d:=λq c e=>(hx q c).2 (by rw[e];exact hf);have hinv:=ht.ca.inv.ab hc λq e=>.inl (by rw[e];exact hf);refine⟨ht.t.ab hc (g _ (.inl rfl)),ht.s.ab hc λq c=>g q (.inr (.inl c)),⟨⟨b.v.ab hc λe=>b.a1.2.1 (by rw[e];exact .inl rfl),bz.ab b.f hc λe=>b.a1.2.2 (by have e:T.C.aV=T.C.D.d:=e;rw[e];exact .inl rfl),hd,b.bG,b.bI,b.hd,b.a1⟩,⟨hinv.pins,λf hf h=>?_,hinv.un,hinv.e6,hinv.ke⟩⟩,ht.jx,ht.c8,ht.hD,ht.n,ht.num,ht.eo,ht.bL,ht.low⟩;obtain⟨no,au,ay,i,j,l,m,o⟩:=hinv.ok f hf h;exact⟨no,au,ay,i,j,l,m,o⟩
structure y9(S ax:bZ):Prop where
 M:ax.T.M=S.T.M
 st:ax.st=S.st
 failed:ax.failed=S.failed
 u:ax.u=S.u
 gen:ax.gen=S.gen
 now:ax.now=S.now
 first:ax.first=S.first
 pending:ax.pending=S.pending
 g:ax.T.g=S.T.g
 n:ax.T.n=S.T.n
 dH:ax.T.C.D.dH=S.T.C.D.dH
 V:ax.V=S.V
theorem ep.fail{a:Int}(h:ep w0 w bD d n l S pages L aG aM c)(g:1<=k/\k<=3)(i:a<=9223372036854775807):
 aR aj 44 #[.pointer (some d),k,a] w (λv w'=>(∃e:Int,v=e)/\∃ax,ep w0 w' bD d n l ax pages L aG aM c/\ad (λq=>q=S.T.C.D.d) w w'/\y9 S ax):=by
 by_cases j:0<=a
 .have hf:=F5 h.at_.t.ca.raw.dev g ⟨j,i⟩
  rw[h.d]at hf;refine hf.mono ?_;rintro v w' ⟨rfl,hd,hc,_⟩;rw[←h.d]at hc;have m:S.T.M S.T.C.D.d:=.inl (.inr (.inr (.inl rfl)));have b:=h.at_;refine⟨⟨0,rfl⟩,S.b1 (S.T.Dq k a),⟨Ext.cn h.x hc (h.lg _ m),⟨⟨b.v.ab hc λe=>?_,b.t.rN hd hc,b.es,b.fo,b.gen,b.num,b.bL⟩,b.ok,b.bj,b.f,b.two,b.fQ,b.keys,b.c0,b.live,b.dead⟩,h.E,h.ne,h.lg,h.lim,h.d,h.n,h.aQ,h.eB,h.gen,h.qu⟩,hc,⟨rfl,rfl,rfl,rfl,rfl,rfl,rfl,rfl,rfl,rfl,rfl,rfl⟩⟩;exact b.t.jf b.es (.inl (by rw[e];exact .inr (.inr (.inl rfl))))
 .refine okF (af.nV (some d) (k:Int) a) aA.nV func44 ?_
  (delta af.nV ak st;dsimp only);refine⟨λ_=>⟨⟨1,rfl⟩,S,h,.refl _ _,⟨rfl,rfl,rfl,rfl,rfl,rfl,rfl,rfl,rfl,rfl,rfl,rfl⟩⟩,λo=>?_⟩;simp only[sA,km,nv,jY]at o;omega
structure gp(w0 w:J)(bD:Nat->Prop)(d n:Nat)(l:fB)(aS eJ:Nat)(S:bZ)(pages:O Nat)(L:O aH)(aG:O Nat)(aM:O aH)(m y:cE)(c:Nat):Prop where
 s:ep w0 w bD d n l S pages L aG aM c
 ib:bD aS
 jl:bD eJ
 ne:aS≠eJ
 md:en (λq=>¬S.T.M q) w aS m
 gY:en (λq=>¬S.T.M q) w eJ y
theorem gp.ext(h:gp w0 w bD d n l aS eJ S pages L aG aM m y c)(hx:Ext w w'):gp w0 w' bD d n l aS eJ S pages L aG aM m y c:=⟨h.s.ext hx,h.ib,h.jl,h.ne,h.md.ext hx,h.gY.ext hx⟩
theorem gp.mono{e:Nat}(h:gp w0 w bD d n l aS eJ S pages L aG aM m y c)(he:c<=e):gp w0 w bD d n l aS eJ S pages L aG aM m y e:={h with s:=h.s.mono he}
theorem gp.done(h:gp w0 w bD d n l aS eJ S pages L aG aM m y c)(hs:c_ w' ax pages L aG aM)(hd:c6 k S ax w w')(a:k<=20000)(he:jU S ax):gp w0 w' bD d n l aS eJ ax pages L aG aM m y (c+1):=
 ⟨h.s.step hs hd a ⟨by have:=h.s.eB.1;omega,by have:=h.s.eB.2;omega⟩ (by rw[he.gen];omega) (by rw[he.pending];omega),h.ib,h.jl,h.ne,h.md.lj hd (h.s.gX h.ib).1 (h.s.gX h.ib).2,h.gY.lj hd (h.s.gX h.jl).1 (h.s.gX h.jl).2⟩
theorem gp.fail{a:Int}(h:gp w0 w bD d n l aS eJ S pages L aG aM m y c)(j:1<=k/\k<=3)(o:a<=9223372036854775807):
 aR aj 44 #[.pointer (some d),k,a] w (λv w'=>(∃e:Int,v=e)/\∃ax,gp w0 w' bD d n l aS eJ ax pages L aG aM m y c/\y9 S ax):=by
 refine(h.s.fail j o).mono ?_;rintro v w' ⟨p,ax,hs,hc,b⟩;have r:S.T.M S.T.C.D.d:=.inl (.inr (.inr (.inl rfl)));have g:∀q,bD q->q≠S.T.C.D.d:=λq f e=>h.s.at_.t.jf (h.s.gX f).1 (.inl (by rw[e];exact .inr (.inr (.inl rfl))));have i:∀q,¬S.T.M q->q<w.heap.size->¬q=S.T.C.D.d:=λq f _ e=>f (by rw[e];exact r);exact⟨p,ax,⟨hs,h.ib,h.jl,h.ne,by rw[b.M];exact h.md.ab hc (g _ h.ib) i,by rw[b.M];exact h.gY.ab hc (g _ h.jl) i⟩,b⟩
theorem gp.more(h:gp w0 w bD d n l aS eJ S pages L aG aM m y c)(hx:Ext w w')(g:Var w' nb z.c 90)(t:w.heap.size<=nb)(b:e7 (λq=>¬S.T.M q) w z.fO z.now)(hs:e7 (λq=>¬S.T.M q) w z.ss z.sure)(j:∀p∈z.now,p.1.length<=1000/\p.2.length<=1000)(k:z.now.length<=10000)(o:z.clock<18446744073709551616/\(z.c0≠0->z.first<=z.clock)):
 gp w0 w' (λq=>bD q\/q=nb) d n l nb eJ (S.own λq=>bD q\/q=nb) pages L aG aM z y c:=by
 have r:∀q,(bD q\/q=nb)->bD q\/w.heap.size<=q:=λq a=>a.imp id λe=>by omega
 have hg:=h.s.grow (bf:=λq=>bD q\/q=nb) hx λq a=>a.imp id λe=>⟨I,by have:=g.lt;omega⟩;have u:=h.gY.v.lt;have own:∀ {s:Y}{M:O aH},e7 (λq=>¬S.T.M q) w s M->e7 (λq=>¬(S.own λq=>bD q\/q=nb).T.M q) w' s M:=λb=>(b.own h.s.E r).ab (ad.cJ hx:ad (λ_=>False) _ _) λ_ _ _ h=>h;have i:∀q,(bD q\/q=nb)->(S.own λq=>bD q\/q=nb).T.M q:=λq a=>.inr (.inr (.inr (.inl (.inr a))));refine⟨hg,.inr rfl,.inl h.jl,I,⟨⟨g,own b,λf=>f (i _ (.inr rfl)),j,k⟩,own hs,o⟩,⟨⟨h.gY.v.ext hx,own h.gY.now.p,λf=>f (i _ (.inl h.jl)),h.gY.now.ok,h.gY.now.eB⟩,own h.gY.sure,h.gY.num⟩⟩
def IY(c:Nat)(S:bZ)(m y:cE)(L aM:O aH):Prop:=
 L=aM/\m.sure=aM/\m.bw=S.u.bw/\m.eU=S.u.clock/\
 (((∀j,S.T.g j=true->S.T.C.D.dH j=[])/\(y.bw=m.bw->y.sure=m.sure/\y.eU=m.eU))\/(y.bw=S.u.bw+1/\y.sure.length<=c+1/\∃pages,r9 S S.gen S.T.g pages y.sure y.eU y.bw))
def lT(b:ai)(c:Nat)(S:bZ)(m y:cE)(L aM:O aH):Prop:=
 (b=false/\S.failed=false/\wh S m L aM)\/(b=true/\S.failed=true/\IY c S m y L aM)
theorem lT.mono{e:Nat}(h:lT b c S m y L aM)(he:c<=e):lT b e S m y L aM:=by
 rcases h with h|⟨h1,h2,a1,a2,a3,a4,a5|⟨a5,c3,dw⟩⟩
 .exact .inl h
 .exact .inr ⟨h1,h2,a1,a2,a3,a4,.inl a5⟩
 .exact .inr ⟨h1,h2,a1,a2,a3,a4,.inr ⟨a5,I,dw⟩⟩
theorem lT.rN(h:lT b c S m y L aM)(a:y9 S ax):lT b c ax m y L aM:=by
 rcases h with ⟨h1,h2,d⟩|⟨h1,h2,a1,a2,a3,a4,a5⟩
 .exact .inl ⟨h1,a.failed.trans h2,⟨d.now,d.sure,by rw[a.pending];exact d.c0,by rw[a.now];exact d.clock,by rw[a.pending,a.first];exact d.first,by rw[a.u];exact d.bw,by rw[a.u];exact d.eU⟩⟩
 .refine .inr ⟨h1,a.failed.trans h2,a1,a2,by rw[a.u];exact a3,by rw[a.u];exact a4,?_⟩
  rcases a5 with a5|⟨a5,c3,cD,dw⟩
  .exact .inl (by rw[a.g,a.dH];exact a5)
  .refine .inr ⟨by rw[a.u];exact a5,c3,cD,?_⟩
   unfold r9 at dw⊢;rw[a.dH,a.V,a.n,a.g,a.gen];exact dw
theorem IZ(h:gp w0 w bD d n l aS eJ S pages L aG aM m y c)(F:lT b c S m y L aM)(i:wg S.T.C.D az):
 ∃ (V:Nat->cX) (gen:Nat) (u:cZ) (g:Nat->ai) (P:Nat->aq aD) (bn:O Nat) (a7:O aH),gP V n gen u g P bn a7/\(∀j,g j=true->az.bg.getD j []=V j)/\gen<=S.gen+1/\a7.length<=c+1/\∀z,z=(if b=true/\u.bw=y.bw then y else m)->z.sure=a7/\z.bw=u.bw/\z.eU=u.clock:=by
 have k:=h.s.at_.fo;rw[h.s.n]at k;have Q:=h.s.eB.2;rcases F with ⟨rfl,G,o⟩|⟨rfl,hf,R,q,r,v,H⟩
 .exact⟨_,_,_,_,_,_,_,k,h.s.at_.bg G i,I,I,λz f=>by
   rw[if_neg (λh=>by cases h.1)]at f;subst f;exact⟨o.sure,o.bw,o.eU⟩⟩
 have J:=(h.s.at_.dead hf).1;have x:∀j,S.T.C.D.dB j=S.T.C.D.dH j:=λj=>h.s.at_.t.ca.inv.ke j (J j);have p:(∀j,S.T.g j=true->az.bg.getD j []=S.V j)->(y.bw=m.bw->y.sure=m.sure/\y.eU=m.eU)->∃ (V:Nat->cX) (gen:Nat) (u:cZ) (g:Nat->ai) (P:Nat->aq aD) (bn:O Nat) (a7:O aH),gP V n gen u g P bn a7/\(∀j,g j=true->az.bg.getD j []=V j)/\gen<=S.gen+1/\a7.length<=c+1/\∀z,z=(if true=true/\u.bw=y.bw then y else m)->z.sure=a7/\z.bw=u.bw/\z.eU=u.clock:=λh0 h1=>
  ⟨_,_,_,_,_,_,_,k,h0,I,I,λz f=>by
   by_cases e:S.u.bw=y.bw
   .rw[if_pos ⟨rfl,e⟩]at f
    subst f;obtain⟨K,M⟩:=h1 (by rw[r,e]);exact⟨by rw[K,q],e.symm,by rw[M,v]⟩
   .rw[if_neg (λh=>e h.2)]at f
    subst f;exact⟨q,r,v⟩⟩
 have last:∀j,S.T.C.D.dH j=[]->az.bg.getD j []=S.V j:=λj a=>by
  rcases i.bg j with h1|h1
  .exact h1
  .rw[x,a]at h1;cases h1
 rcases H with ⟨h0,h1⟩|⟨hg,hlen,dT,h0|⟨U,au,W,b_,A,B,N,E⟩⟩
 .exact p (λj a=>last j (h0 j a)) h1
 .exact p (λj a=>last j (h0 j a)) λe=>by omega
 .have out:∀j,j≠(S.gen+1)%2->az.bg.getD j []=S.V j:=λj a=>last j (by rw[A,if_neg a])
  by_cases e:az.bg.getD ((S.gen+1)%2) []=S.V ((S.gen+1)%2)
  .refine p (λj _=>?_) λe=>by omega
   by_cases a:j=(S.gen+1)%2
   .rw[a];exact e
   .exact out j a
  .rw[h.s.n]at B
   refine⟨_,_,_,_,_,_,_,B,λj _=>?_,bl _,hlen,λz f=>?_⟩
   .by_cases a:j=(S.gen+1)%2
    .rw[a,if_pos rfl]
     rcases i.bg ((S.gen+1)%2) with h1|h1
     .exact absurd h1 e
     .rw[x,A,if_pos rfl]at h1
      exact ff.1 h1
    .rw[if_neg a];exact out j a
   .rw[if_pos ⟨rfl,E⟩]at f
    subst f;exact⟨rfl,E.symm,N.symm⟩
def cE.of(y:cE):cE:=⟨y.sure,y.sure,y.ss,y.ss,0,0,0,y.bw,y.eU⟩
theorem I0(w:J)(s1 s2:Y)(g st:Int):Sem.run aj (Instr.build 90 #[(0,.agg #[s1]),(1,.agg #[s2]),(5,.int .u64 g),(6,.int .u64 st)]) w=.ok (.agg #[s1,s2,(0:Int),.int .u64 0,.int .u64 0,.int .u64 g,.int .u64 st]) w:=by kernel_rfl
theorem cE.plain(m:cE):∀v∈m.c,Plain v:=λv a=>by
 unfold cE.c cE.rest at a
 simp only[cU,eL,eO]at a
 rcases a with rfl|rfl|rfl|rfl|rfl|rfl|rfl<;>trivial
end
section
variable {w:J}{ls:Y}{A:O iw}
theorem I1(n:Int):∃k:Nat,(2<=k/\k<=3)/\IntKind.wrap .i64 (2+(IntKind.wrap .i64 (Int.tmod (IntKind.wrap .u64 n) 2)))=(k:Nat):=by
 rw[Ag,oX I];refine⟨(2+(n%18446744073709551616)%2).toNat,I,?_⟩;rw[bA (n:=(n%18446744073709551616)%2) I I,bA I I];omega
theorem I2{s b:Nat}(hs:s<256)(f:b<256)(sg:kN w ls A):
 aR aj 8 #[.int .u8 (s:Nat),.int .u8 (b:Nat),ls] w (λv w'=>v=true/\Ext w w'):=by
 have cC:=sg.len;refine okF (af.vd (s:Nat) (b:Nat) ls) aA.vd func8 ?_;(delta af.vd q8 th U dg av r1 br ak g1 fI pv aL ag As ti aC aU cc Au ft rf st aO pt;dsimp only);obtain⟨aa,cH,ba,cI⟩:∃aa:Nat,16<=aa/\aa<=1600/\IntKind.wrap .i64 (60+(Int.tmod (IntKind.wrap .i64 (s:Int)) 120))=(aa:Nat):=by
  rw[bA (n:=(s:Int)) I I,oX I,bA I I];exact⟨60+s%120,I,I,I⟩
 rw[cI,IW f];refine⟨by decide,(l9 (b:=b) (d:=b/16) f I w).use ?_⟩;rintro _ w1 ⟨rfl,bC⟩;refine⟨_,_,_,rfl,IX (l:=iS b) λr bb bE=>⟨by decide,(nT cH ba r).use ?_⟩⟩;rintro _ d2 ⟨d,lb,mr,rfl,cK,bF,cM⟩;have bc:=bb.ext bF;refine⟨_,0,rfl,_,bc.cell,_,by rw[aw];exact bc.cell,_,by rw[aw];exact bc.cell,(Dc (l:=iS b) (bD:=λ_=>False) cK (Dl b) (λk=>⟨.inl rfl,.inl rfl⟩) rfl (by show 0<=999999000;omega) (λq h=>h.elim)).use ?_⟩;rintro _ bG ⟨K,rfl,cN,aq,hu,hg⟩;have cO:=ep.new (w0:=r) bF cN aq hu hg cM (λq h=>h.elim) rfl;have ar:=sg.ext (bC.trans bE);refine⟨_,0,rfl,λh=>(by cases h),λ_=>⟨hJ.c.toArray,by kernel_rfl,bh (vs:=hJ.c) rfl λbH cP cQ d3=>⟨hJ.c.toArray,by kernel_rfl,bh (vs:=hJ.c) rfl λd4 bI cR d5=>⟨bI.b9 rfl hJ.plain,rfl,cr bI (us:=hJ.c) rfl rfl λbd bJ cS d6=>?_⟩⟩⟩⟩;have bK:Ext bH bd:=Ext.cn cR cS (bl _);have cT:Ext bG bd:=cQ.trans bK;have bL:=cP.ext bK;obtain⟨aS,cU⟩:∃aS,aS=bG.heap.size:=⟨_,rfl⟩;obtain⟨eJ,cV⟩:∃eJ,eJ=bH.heap.size:=⟨_,rfl⟩;rw[←cU]at bL⊢;rw[←cV]at bJ⊢;have cX:=cO.grow (bf:=λq=>q=aS\/q=eJ) cT λq o=>.inr ⟨I,I⟩;have au:∀q,(q=aS\/q=eJ)->(K.own λq=>q=aS\/q=eJ).T.M q:=λq o=>.inr (.inr (.inr (.inl (.inr o))));have be:gp r bd (λq=>q=aS\/q=eJ) d (nd aa d lb mr).n (iS b) aS eJ (K.own λq=>q=aS\/q=eJ) [] [] [] [] hJ hJ 0:=
  ⟨cX,.inl rfl,.inr rfl,I,Dk bL (λh=>h (au _ (.inl rfl))),Dk bJ (λh=>h (au _ (.inr rfl)))⟩
 have bM:lT false 0 (K.own λq=>q=aS\/q=eJ) hJ hJ [] []:=
  .inl ⟨rfl,aq.live,⟨rfl,rfl,aq.c0.symm,by show 0=K.now;rw[aq.now,hu];rfl,λh=>absurd aq.c0 h,by show 0=K.u.bw;rw[hu];rfl,by show 0=K.u.clock;rw[hu];rfl⟩⟩
 have bN:(K.own λq=>q=aS\/q=eJ).st=K.st:=rfl;generalize K.own (λq=>q=aS\/q=eJ)=cY at be bM bN;generalize (nd aa d lb mr).n=bj at be;refine⟨λp bp aD n w'=>∃ (i:Nat) (S:bZ) (pages aG:O Nat) (L aM:O aH) (m y:cE) (aS:Nat) (bD:Nat->Prop),p=some ⟨S.st,0,none⟩/\bp=some ⟨aS,0,none⟩/\n=(i:Int)/\i<=100/\i<=A.length/\gp r w' bD d bj (iS b) aS eJ S pages L aG aM m y (8*i)/\lT aD (8*i) S m y L aM,
  λ_ _ _ n _=>((100:Int)-n).toNat,⟨0,cY,[],[],[],[],hJ,hJ,aS,_,by rw[bN],rfl,rfl,I,cL _,be,bM⟩,?_⟩
 rintro _ _ aD _ bP ⟨i,S,pages,aG,L,aM,m,y,aS,bD,rfl,rfl,rfl,hi,d7,two,aE⟩;refine⟨λaK=>?_,λd8=>?_⟩
 rotate_left
 .refine(IV bP).use ?_
  rintro _ d9 ⟨rfl,cZ⟩;exact⟨true,rfl,rfl,((bC.trans bE).trans two.s.x).trans cZ⟩
 obtain⟨h1,h2⟩:=IK (m:=100) cC aK;refine D5 (λp bp bO w'=>∃ (ax:bZ) (dT dK:O Nat) (cW dA:O aH) (m' aF:cE) (aI:Nat) (bg:Nat->Prop),p=some ⟨ax.st,0,none⟩/\bp=some ⟨aI,0,none⟩/\gp r w' bg d bj (iS b) aI eJ ax dT cW dK dA m' aF (8*i+8)/\lT bO (8*i+8) ax m' aF cW dA) (λd_ G=>?_) ?_
 rotate_left
 .rintro p bp bO w' ⟨ax,dT,dK,cW,dA,m',aF,aI,bg,rfl,rfl,aJ,c'⟩
  rw[IL I];exact⟨⟨i+1,ax,dT,dK,cW,dA,m',aF,aI,bg,rfl,rfl,rfl,I,I,aJ.mono I,c'.mono I⟩,by show((100:Int)-((i+1:Nat):Int)).toNat<((100:Int)-(i:Int)).toNat;omega⟩
 refine IU ar two.s.x h1 λea eb c1 sv sl c2 ec N aN=>?_;have aP:=two.ext c2;have bQ:∀q,bP.heap.size<=q->¬S.T.M q:=λq o c3=>by have:=two.s.at_.t.lt c3;omega
 have bR:=ar.ok A[i] (cF h1);refine⟨_,N.cell,λ_=>?_,λ_=>?_⟩
 .
  obtain⟨k,ed,c4⟩:=I1 A[i].n;refine⟨_,by rw[aw];exact N.cell,by decide,_,by rw[aw];exact N.cell,?_⟩;rw[c4];refine(aP.fail (k:=k) (a:=A[i].after) I bR.Df).use ?_;rintro _ ee ⟨⟨e,rfl⟩,ax,c5,bS⟩;exact⟨e,rfl,G _ _ _ _ ⟨ax,pages,aG,L,aM,m,y,aS,bD,by rw[bS.st],rfl,c5.mono I,(aE.rN bS).mono I⟩⟩
 refine⟨_,N.cell,y4 (A[i].kind==8) (λ_ k G=>⟨_,N.cell,G _ (.refl _ _)⟩) λef X=>⟨λ_=>?_,λ_=>?_⟩⟩
 .
  have H:=aP.ext X;have c6:=N.ext X;have bT:=C6 (l:=sl) (zs:=A[i].l.take 60) H.s.at_.t.ca.raw.dev (aN.l.ext X) (λq o hf=>by
   have:=aN.mA q o (H.s.lg q (.inl (.inr (.inr hf))));rw[this];rfl) (by rw[cG];omega) (λz bi=>bR.De z (fh bi)) (by have:=H.s.aQ;omega)
  rw[H.s.d]at bT;refine⟨sl,by rw[aw];exact c6.cell,bT.use ?_⟩;rintro _ c7 ⟨rfl,az,c8,bU,bV⟩;have c9:Ext r c7:=Ext.dy H.s.x bV λq o=>H.s.lg q (.inl (.inr (.inr o)));have bm:=bb.ext c9;obtain⟨V,gen,u,g,P,bn,a7,c_,dR,da,db,bi⟩:=IZ H aE bU;refine⟨rfl,_,bm.cell,_,by rw[aw];exact bm.cell,_,by rw[aw];exact bm.cell,(H.s.found c8 bU bV c_ dR (Dl b) da I db).use ?_⟩;rintro _ dc ⟨cB,rfl,bo,dd,bW,de,eg,df,ba,bX⟩;have bY:gp r dc bD d bj (iS b) aS eJ cB bn a7 bn a7 m y (8*i+1):=⟨bo,two.ib,two.jl,two.ne,bX aS m two.ib H.md,bX eJ y two.jl H.gY⟩;have eh:=bo.low I;have ei:=bo.aQ;refine⟨_,0,rfl,cq (λac w'=>ac=false/\∃eF,gp r w' bD d bj (iS b) aS eJ eF bn a7 bn a7 m y (8*i+2)/\eF.st=cB.st/\eF.T.C.D.quiet/\eF.u=u/\eF.now=u.clock/\eF.pending=0/\eF.failed=false) (λej dh=>⟨λf=>(by cases f),λ_=>(Ir bY.s.at_ bW I I I).use ?_⟩) ?_⟩
  .rintro _ ek ⟨rfl,ao,di,b0,aT⟩
   exact⟨0,rfl,dh _ _ ⟨rfl,_,bY.done di b0 I aT,rfl,b0.q bW,aT.u.trans de,aT.now.trans ba,aT.pending.trans df,dd⟩⟩
  rintro _ b2 ⟨rfl,eF,bq,aV,dj,bs,b3,b4,b5⟩;refine⟨λf=>(by cases f),λ_=>?_⟩;have el:=bq.s.aQ;have b6:=Ip (fL:=bk) (fF:=bk) (most:=2000) bq.s.at_ I I I (y3 b2) (λq o=>(gk q o).elim) (y3 b2) (λq o=>(gk q o).elim) (by decide);rw[aV]at b6;refine b6.use ?_;rintro _ dk ⟨i_,dl,dm,ay,⟨dn,rfl,b7⟩|⟨_,dp⟩⟩
  rotate_left
  .exact absurd dj dp
  have b8:=bq.done dl dm I ay;have dq:(g9 a7 [] []).take (Int.toNat 2000)=a7:=by rw[IM,dV (by show a7.length<=2000;omega)]
  rw[dq]at b7;have b_:=Ii b8.s.at_;rw[show(eF.b1 i_).st=cB.st from aV,show(eF.b1 i_).u=u from bs]at b_;refine⟨dn,0,rfl,b_.use ?_⟩;rintro _ em ⟨rfl,dr⟩;refine⟨_,_,_,_,_,_,rfl,bh (vs:=gm.c) rfl λen ds dt eo=>jj ds rfl u λaX cb du eq=>?_⟩;have cd:Ext dk aX:=dr.trans (Ext.cn dt du (bl _));have J:=b8.ext cd;have dv:=b7.ab (ad.cJ cd:ad (λ_=>False) _ _) λ_ _ _ h=>h;obtain⟨z,aB⟩:∃z,z=(if aD=true/\u.bw=y.bw then y else m):=⟨_,rfl⟩;obtain⟨ft,cj,z3⟩:=bi z aB;refine cq (λpp w'=>∃ (nb:Nat) (bf:Nat->Prop) (Q:bZ) (R:cE),pp=some ⟨nb,0,none⟩/\gp r w' bf d bj (iS b) nb eJ Q bn a7 bn a7 R y (8*i+3)/\R.sure=a7/\R.bw=u.bw/\R.eU=u.clock/\Q.st=cB.st/\Q.u=u/\Q.now=u.clock/\Q.pending=0/\Q.failed=false/\Ext aX w') (λer ce=>?_) ?_
  .refine cq (λac w'=>aX=w'/\(ac=true↔aD=true/\u.bw=y.bw)) (λes cg=>⟨λf=>⟨_,by rw[aw];exact cb.cell,_,by rw[aw];exact J.gY.v.cell,cg _ _ ⟨rfl,?_⟩⟩,λf=>cg _ _ ⟨rfl,?_⟩⟩) ?_
   .rw[kn]
    exact⟨λh=>⟨f,I⟩,λh=>by rw[h.2]⟩
   .exact⟨λh=>(by cases h),λh=>by rw[h.1]at f;cases f⟩
   rintro ac _ ⟨rfl,aZ⟩;refine⟨λht=>?_,λhf=>?_⟩
   .rw[if_pos (aZ.1 ht)]at aB
    subst aB;have ch:=J.s.at_.fQ;refine⟨z.ss,by rw[aw];exact J.gY.v.cell,z.ss,by rw[aw];exact J.gY.v.cell,_,by rw[aw];exact J.gY.v.cell,_,by rw[aw];exact J.gY.v.cell,_,I0 _ _ _ _ _,bh (vs:=z.of.c) rfl λet dw ci eu=>ce _ _ ⟨aX.heap.size,_,_,z.of,rfl,J.more ci dw (bl _) J.gY.sure J.gY.sure ?_ ?_ ⟨(by decide:0<18446744073709551616),λh=>absurd rfl h⟩,ft,cj,z3,aV,bs,ay.now.trans b3,ay.pending.trans b4,b5,ci⟩⟩
    .show ∀p∈z.sure,_
     rw[ft];exact λp ck=>⟨by have:=(ch p ck).1.2;omega,by have:=(ch p ck).2;omega⟩
    .show z.sure.length<=_
     rw[ft];omega
   .rw[if_neg (λh=>by rw[aZ.2 h]at hf;cases hf)]at aB
    subst aB;exact ce _ _ ⟨aS,bD,_,z,rfl,J,ft,cj,z3,aV,bs,ay.now.trans b3,ay.pending.trans b4,b5,.refl _ _⟩
  rintro _ cl ⟨nb,bf,Q,R,rfl,dx,ft,cj,z3,dz,a0,dB,dC,dD,cm⟩;have ae:=cf cl;have ah:=dx.ext ae;have bt:=(cb.ext cm).ext ae;have co:=dv.ab (ad.cJ (cm.trans ae):ad (λ_=>False) _ _) λ_ _ _ h=>h;refine aW ?_;generalize cl.drew=ev at ah bt co;refine⟨λf=>(by cases f),λ_=>⟨id,_,by rw[aw];exact bt.cell,_,rfl,id,_,by rw[aw];exact ah.md.v.cell,λf=>?_,λ_=>⟨id,_,by rw[aw];exact bt.cell,_,rfl,id,_,by rw[aw];exact ah.md.v.cell,λf=>?_,λ_=>⟨_,rfl,id,R.ss,by rw[aw];exact ah.md.v.cell,(pU co ah.md.sure I).use ?_⟩⟩⟩⟩
  .rw[cj]at f;simp at f
  .rw[z3]at f;simp at f
  rintro _ cp ⟨ac,rfl,aZ,dE⟩;obtain rfl:ac=true:=aZ.2 ft.symm;refine⟨true,rfl,λf=>(by cases f),λ_=>aW ?_⟩;have B:=(ah.ext dE).ext (cf cp);generalize cp.drew=dF at B;have ew:=B.md.v.lt;have dG:=B.s.at_.fo.yT.clock;exact⟨λq=>dF.heap.size<=q,B.s.reset dD B.ib B.md ⟨rfl,rfl⟩ I ft (by rw[a0];exact cj) (by rw[a0];exact z3) (by rw[dB,a0]) dC (by rw[z3,←a0];exact dG) I λdH dI ai=>G _ _ _ _ ⟨Q,bn,bn,a7,a7,R.reset,y,nb,bf,by rw[dz],rfl,(⟨ai.s,B.ib,B.jl,B.ne,ai.md,B.gY.ab dI (λe=>B.ne e.symm) λq f _ e=>f (by rw[e];exact .inr (.inr (.inr (.inl (B.s.gX B.ib).1))))⟩:gp r dH bf d bj (iS b) nb eJ Q bn a7 bn a7 R.reset y (8*i+3)).mono I,.inl ⟨rfl,ai.live,ai.gE⟩⟩⟩
 .
  refine y4 (A[i].kind==2) (λ_ k G=>⟨_,(N.ext X).cell,G _ (.refl _ _)⟩) λex bu=>y4 (A[i].kind==3) (λ_ k G=>⟨_,((N.ext X).ext bu).cell,G _ (.refl _ _)⟩) λdJ cs=>⟨λf=>?_,λf=>?_⟩
  .exact G _ _ _ _ ⟨S,pages,aG,L,aM,m,y,aS,bD,rfl,rfl,(((aP.ext X).ext bu).ext cs).mono I,aE.mono I⟩
  have a4:=(X.trans bu).trans cs;have F:=aP.ext a4;have al:=N.ext a4;have bv:=bb.ext F.s.x;rcases aE with ⟨rfl,dL,a5⟩|⟨rfl,_⟩
  rotate_left
  .cases f
  have ai:lh r dJ bD d bj (iS b) aS S pages L aG aM m (8*i):=⟨F.s,dL,F.ib,F.md,a5⟩;refine⟨_,al.cell,_,by rw[aw];exact al.cell,_,by rw[aw];exact al.cell,c1,by rw[aw];exact al.cell,sv,by rw[aw];exact al.cell,sl,by rw[aw];exact al.cell,_,bv.cell,_,by rw[aw];exact bv.cell,_,by rw[aw];exact bv.cell,(oc ai I (a_.aY (a_.ext aN.k a4) λq _ o=>bQ q o) (a_.aY (a_.ext aN.v a4) λq _ o=>bQ q o) (by rw[cG];omega) (by rw[cG];omega)).use ?_⟩;rintro _ a6 ⟨ax,dT,dK,cW,dA,m',ok,bf,rfl,ct,ey,dM,cu,cv,⟨nb,ez,am⟩,e,an,cw⟩;have eA:gp r a6 bf d bj (iS b) aS eJ ax dT cW dK dA m m' (8*i+1)->True:=λ_=>trivial;have dN:=cv eJ y F.jl F.gY;have dO:=cv aS m F.ib F.md;refine⟨ok,m'.c.toArray,rfl,bh (vs:=hJ.c) rfl λeC cx dP eD=>⟨cx.b9 rfl m'.plain,rfl,cr cx (us:=m'.c) rfl rfl λbx cy dQ eE=>?_⟩⟩;have cz:Ext a6 bx:=Ext.cn dP dQ (bl _);have aJ:gp r a6 bf d bj (iS b) aS eJ ax dT cW dK dA m y (8*i+1):=⟨dM,ct _ F.ib,ct _ F.jl,F.ne,dO,dN⟩;refine⟨λht=>?_,λhf=>?_⟩
  .have Y:ax.failed=false:=by rw[ht]at an;cases bz:ax.failed<;>rw[bz]at an<;>first|rfl|cases an
   rcases cw with ⟨_,_,Z⟩|⟨W,_⟩
   rotate_left
   .rw[W]at Y;cases Y
   exact G _ _ _ _ ⟨_,_,_,_,_,m',y,_,_,by rw[show(ax.own λq=>bf q\/q=a6.heap.size).st=S.st from cu],rfl,(aJ.more cz cy (bl _) am.now.p am.sure am.now.ok am.now.eB am.num).mono I,.inl ⟨rfl,Y,⟨Z.now,Z.sure,Z.c0,Z.clock,Z.first,Z.bw,Z.eU⟩⟩⟩
  .have Y:ax.failed=true:=by rw[hf]at an;cases bz:ax.failed<;>rw[bz]at an<;>first|rfl|cases an
   rcases cw with ⟨W,_⟩|⟨_,rfl,rfl,rfl,rfl,a8,dS,eG,dU⟩
   .rw[W]at Y;cases Y
   refine aW ⟨id,m'.c,(cy.ext (cf _)).rd rfl,?_⟩;have ae:=cz.trans (cf bx);have E:=aJ.ext ae;have ap:=am.ext ae;generalize bx.drew=dW at E ap;refine⟨E.gY.v.b9 rfl m'.plain,rfl,cr E.gY.v (us:=m'.c) rfl rfl λdX dY a9 eH=>?_⟩;have au:ax.T.M eJ:=.inr (.inr (.inr (.inl (E.s.gX E.jl).1)));have bB:∀q,¬ax.T.M q->q<dW.heap.size->¬q=eJ:=λq o _ e=>o (by rw[e];exact au);have cA:ax.T.g=S.T.g:=by
    funext j;have W:=E.s.at_.fo.g j;have dZ:=F.s.at_.fo.g j;rw[a8,←dZ]at W
    cases hx:ax.T.g j<;>cases d0:S.T.g j<;>rw[hx,d0]at W<;>first|rfl|exact absurd (W.1 rfl) (by decide)|exact absurd (W.2 rfl) (by decide)
   refine G _ _ _ _ ⟨ax,_,_,_,_,m,m',aS,bf,by rw[cu],rfl,(⟨E.s.jA E.jl a9,E.ib,E.jl,E.ne,E.md.ab a9 E.ne bB,⟨⟨dY,ap.now.p.ab a9 bB,λd1=>d1 au,ap.now.ok,ap.now.eB⟩,ap.sure.ab a9 bB,ap.num⟩⟩:gp r dX bf d bj (iS b) aS eJ ax _ _ _ _ m m' (8*i+1)).mono I,.inr ⟨rfl,Y,rfl,a5.sure,by rw[a8];exact a5.bw,by rw[a8];exact a5.eU,?_⟩⟩;rcases dU with ⟨a1,a2⟩|⟨a1,a2,cD,a3⟩
   .exact .inl ⟨by rw[cA];exact a1,a2⟩
   .exact .inr ⟨by rw[a8];exact a1,I,cD,by rw[cA,dS];exact a3⟩
end
end Go.Proofs.YtkdhdlfonmgheaaGreat
