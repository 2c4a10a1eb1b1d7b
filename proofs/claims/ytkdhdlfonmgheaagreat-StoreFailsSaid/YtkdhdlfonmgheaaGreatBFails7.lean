/- Contracts of the functions that the statement reaches, and the plain laws over them; each theorem stands with its conditions. -/
import Derived.Test.YtkdhdlfonmgheaaGreatBFails6
namespace Go.Proofs.YtkdhdlfonmgheaaGreat
open Go a7 Go.Proofs.Tryz
theorem Ix:iD aj 170:=⟨_,(Option.some_get (show(Tryz.prog.funcs[170]?).isSome=true by kernel_rfl)).symm,by kernel_rfl,by kernel_rfl⟩
theorem Iy{w:J}{s:Y}{l:O UInt8}(hs:Src 1 w s (aJ l))(o:l.length<=1000):
   aQ aj 169 #[s,.func (.func 170) #[] #[]] w (λv w'=>v=.bool (!(l.all λc=>c==0))/\w=w'):=by
 have p:=len8 hs
 refine okF (af.tv s ⟨170,#[],#[]⟩) aA.tv func169 ?_
 (delta af.tv aC;dsimp only)
 refine Calls.mono (af.Eo s ⟨170,#[],#[]⟩ w (λv w'=>(∃i:Int,v=i/\(decide (i>=0))= !(l.all λc=>c==0))/\w=w') ?_) ?_
 · (delta af.rh ak aL b5 au;dsimp only)
   refine⟨λi w'=>∃j:Nat,i=j/\j<=l.length/\w=w'/\∀ (k:Nat) (a:k<l.length),k<j->l[k]=0,λi _=>((l.length:Int)-i).toNat,⟨0,rfl,cG _,rfl,λk a h=>I⟩,?_⟩
   rintro _ _ ⟨j,rfl,q,rfl,d⟩
   refine⟨λaK=>?_,λb=>?_⟩
   · have aK:j<l.length:=by have:=b1 aK;omega
     obtain⟨A,ar,f,g⟩:=hs.at (oo aK)
     refine⟨A,ar,f,_,g,Ix,?_⟩
     refine Calls.mono (af.EF ((l[j]).toNat:Int) w (λv w'=>v=.bool (((l[j]).toNat:Int) !=0)/\w=w') ⟨rfl,rfl⟩) ?_
     rintro _ _ ⟨_,rfl,rfl,rfl⟩
     refine⟨_,rfl,λe=>⟨⟨j,rfl,?_⟩,rfl⟩,λm=>?_⟩
     · have:(l.all λc=>c==0)=false:=by
         rw[List.all_eq_false]
         refine⟨l[j],cE _,λh=>?_⟩
         have h:=eq_of_beq h
         rw[h]at e
         simp at e
       rw[this]
       exact dK I
     · have h0:l[j]=0:=by
         have:((l[j]).toNat:Int)=0:=by simpa using m
         exact UInt8.toNat_inj.1 (by show(l[j]).toNat=0;omega)
       rw[bx (n:=(j:Int)+1) I I]
       refine⟨⟨j+1,I,I,rfl,λk a h=>?_⟩,?_⟩
       · rcases dJ k j with h1|h1
         · exact d k a h1
         · have:k=j:=by omega
           subst this;exact h0
       · show((l.length:Int)-((j:Int)+1)).toNat<((l.length:Int)-(j:Int)).toNat
         omega
   · have b:j=l.length:=by have:=cu b;omega
     subst b
     refine⟨⟨-1,rfl,?_⟩,rfl⟩
     have:(l.all λc=>c==0)=true:=by
       rw[mC]
       intro c hc
       obtain⟨k,a,rfl⟩:=fh hc
       rw[d k a a];rfl
     rw[this];rfl
 · rintro _ _ ⟨_,rfl,⟨i,rfl,hi⟩,rfl⟩
   exact⟨i,rfl,by rw[hi],rfl⟩
theorem Iz{l:O Int}{i:Nat}{d:Int}(h:i<l.length):l.set i (l.getD i d)=l:=by
 rw[fl h,List.set_getElem_self]
theorem IA{D:aZ}(h:D.quiet){k:Nat}(a:k=1\/k=2):D.b3.getD k 0= -1:=by
 have h1:=h.1 ((D.b3.getD k 0).toNat+1);rcases a with rfl|rfl
 .exact h1.1.resolve_right I
 .exact h1.2.resolve_right I
theorem C5{D:aZ}(h:D.quiet)(b:D.b3.length=4){k:Nat}(a:k=1\/k=2):D.cA k=D/\D.fR k=false:=by
 have h1:=IA h a;unfold aZ.cA aZ.fR;rw[h1];refine⟨?_,rfl⟩;have e:(gy (-1)).2=D.b3.getD k 0:=by rw[h1];rfl
 rw[e,Iz I]
def takeN(u:cZ)(g:Nat):aq (cZ×Nat)->aq (cZ×Nat)
 |none=>some (u,g)
 |some x=>if g>x.2 then some (u,g) else some x
def gN(n no:Nat)(l:cW)(acc:aq (cZ×Nat)):Except Int (aq (cZ×Nat)):=
 if (l.all λc=>c==0)=true then .ok acc else match gV (no:Int) l with
 | .error e=>.error e
 | .ok (u,s,g)=>if s≠n then .error 4 else .ok (takeN u g acc)
def jv(n:Nat)(V:Nat->cW):Nat->Except Int (aq (cZ×Nat))
 |0=>.ok none
 |i+1=>match jv n V i with
  | .error e=>.error e
  | .ok a=>gN n i (V i) a
theorem C6{n:Nat}{V:Nat->cW}{e:Int}{i:Nat}(h:jv n V i=.error e):∀k,jv n V (i+k)=.error e
 |0=>h
 |k+1=>by
  show jv n V (i+k+1)=_
  unfold jv
  rw[C6 h k]
def C7:aq (cZ×Nat)->Except Int (cZ×Nat)
 |none=>.error 6
 |some x=>.ok x
def jO(n:Nat)(V:Nat->cW):Except Int (cZ×Nat):=match jv n V 2 with
 | .error e=>.error e
 | .ok a=>C7 a
def qq:aq (cZ×Nat)->cZ
 |none=>gC
 |some x=>x.1
def qs:aq (cZ×Nat)->Nat
 |none=>0
 |some x=>x.2
theorem IB{no:Int}{l:cW}{e:Int}(h:gV no l=.error e):e≠0:=by
 unfold gV at h;split at h
 .rename_i a he
  cases h;exact yG he
 .split at h
  .cases h;decide
  .split at h
   .cases h
   .cases h;decide
theorem pA{w:J}{D:aZ}(h:cx w D)(j:D.quiet)(aD:D.aR<=1000000000):
 aQ aj 109 #[.pointer (some D.d)] w (λv w'=>cx w' D/\ad (λq=>q=D.d) w w'/\(match jO D.n D.now with
  | .error e=>e≠0/\∃u:cZ,v=.tuple #[.agg u.c.toArray,.int .u64 0,e]
  | .ok (u,g)=>v=.tuple #[.agg u.c.toArray,.int .u64 (g:Nat),(0:Int)])):=by
 have aU:=h.bW;refine okF (af.pA (some D.d)) aA.pA func109 ?_;(delta af.pA g8 ak b_ w6 r1 U bD aM Am aC au;dsimp only);refine bj (vs:=gC.c) rfl λw1 ae ag aV=>?_;obtain⟨t,aE⟩:∃t,t=w.heap.size:=⟨_,rfl⟩;rw[←aE]at ae⊢;have aF:t≠D.d:=by have:=h.lt (q:=D.d) (.inl rfl);omega
 have ai:=C5 j h.f4 (k:=1) (.inl rfl);refine⟨λaG aH n6 C=>∃ (i:Nat) (a:aq (cZ×Nat)),n6=(i:Nat)/\i<=2/\aG=(qs a:Nat)/\aH=a.isSome/\jv D.n D.now i=.ok a/\cx C D/\Var C t (qq a).c 104/\ad (λq=>q=D.d) w C,λ_ _ n6 _=>(2-n6).toNat,⟨0,none,rfl,by decide,rfl,rfl,rfl,h.ext ag,ae,ag.mono λ_ _ h=>h.elim⟩,?_⟩;rintro _ _ _ C ⟨i,a,rfl,hi,rfl,rfl,al,O,A,E⟩;have aW:=E.size;have B:∀ {w' am:J},ad (λq=>q=D.d) w w'->ad (λq=>q=t) w' am->ad (λq=>q=D.d) w am:=λh1 h2=>cy h1 h2 λq aX e=>by omega
 refine⟨λP=>?_,λP=>?_⟩
 .have Q:i<2:=by have:(i:Int)<2:=b1 P;omega
  have aI:IntKind.wrap .i64 ((i:Int)+1)=((i+1:Nat):Int):=by rw[bx I I];omega
  refine s0 (λn b w'=>∃y:aq (cZ×Nat),n=(qs y:Nat)/\b=y.isSome/\jv D.n D.now (i+1)=.ok y/\cx w' D/\Var w' t (qq y).c 104/\ad (λq=>q=D.d) w w') (λaY R=>(xX O (i:=i) I aD).use ?_) ?_
  .rintro v aJ ⟨F,an,aK⟩
   rw[ai.1]at F;rcases aK with ⟨ao,_⟩|⟨_,s,rfl,S⟩
   .rw[ai.2]at ao;cases ao
   have ap:=A.ab an aF;have ar:ad (λq=>q=D.d) w aJ:=E.trans an;have a0:=F.oC (i:=i) I;have G:jv D.n D.now (i+1)=gN D.n i (D.now i) a:=by
    unfold jv;rw[al]
   have av:∀e,gN D.n i (D.now i) a=.error e->jO D.n D.now=.error e:=λe he=>by
    unfold jO;have:=C6 (G.trans he) (1-i);rw[show i+1+(1-i)=2 from I]at this;rw[this]
   refine⟨s,0,rfl,λhx=>(by cases hx),λ_=>(Iy S.1 I).use ?_⟩;rintro _ _ ⟨rfl,rfl⟩;refine⟨_,rfl,λm=>R _ _ _ ⟨a,rfl,rfl,?_,F,ap,ar⟩,λm=>(pH S.1 S.2.1 I (i:Nat)).use ?_⟩
   .rw[G];unfold gN
    rw[if_pos (by simpa using m)]
   have m:¬((D.now i).all λc=>c==0)=true:=by simpa using m
   rintro v T ⟨rfl,V⟩;have aw:=F.ext V;have ax:=ap.ext V;have ay:ad (λq=>q=D.d) w T:=cy ar V λq _ h=>h.elim
   cases H:gV (i:Int) (D.now i) with
   |error e=>
    have he:=IB H;have z:=av e (by unfold gN;rw[if_neg m,H]);refine⟨_,_,_,_,_,_,_,_,e,rfl,bj (vs:=gC.c) rfl λaL W X aN=>jN W rfl gC λK az Y _=>⟨λ_=>?_,λhx=>absurd (by simpa using hx) he⟩⟩;have o:Ext T K:=Ext.cn X Y (bp _);have p:=ax.ext o;refine gW p (jN p rfl (qq a) λah l f _=>gW l ⟨(aw.ext o).ab f λq j e=>?_,B (cy ay o λq _ h=>h.elim) f,?_⟩)
    .have:=h.lt j;omega
    .rw[z];exact⟨he,_,rfl⟩
   |ok r=>
    obtain⟨u,gi,g⟩:=r;refine⟨_,_,_,_,_,_,_,_,0,rfl,bj (vs:=gC.c) rfl λaL W X aN=>jN W rfl u λK az Y _=>⟨λhx=>(by cases hx),λ_=>?_⟩⟩;have o:Ext T K:=Ext.cn X Y (bp _);have p:=ax.ext o;have L:=aw.ext o;have Z:ad (λq=>q=D.d) w K:=cy ay o λq _ h=>h.elim;refine(p9 L).use ?_;rintro _ _ ⟨rfl,rfl⟩;refine⟨_,rfl,λM=>?_,λaa=>?_⟩
    .have M:gi≠D.n:=λe=>by rw[e]at M;simp at M
     have z:=av 4 (by unfold gN;rw[if_neg m,H];dsimp only;rw[if_pos M]);refine gW p (jN p rfl (qq a) λah l f _=>gW l ⟨L.ab f λq j e=>?_,B Z f,?_⟩)
     .have:=h.lt j;omega
     .rw[z];exact⟨by decide,_,rfl⟩
    .have aa:gi=D.n:=by
      have:(gi:Int)=(D.n:Int):=by simpa using aa
      omega
     have aB:gN D.n i (D.now i) a=.ok (takeN u g a):=by
      unfold gN;rw[if_neg m,H];dsimp only;rw[if_neg (λe=>e aa)]
     refine⟨λN=>?_,λN=>?_⟩
     .have aO:jv D.n D.now (i+1)=.ok (some (u,g)):=by
       rw[G,aB]
       cases a with
       |none=>rfl
       |some x=>
        have:g>x.2:=by
         have:(g:Int)>((qs (some x):Nat):Int):=by simpa using N
         have e:qs (some x)=x.2:=rfl;omega
        show Except.ok (if g>x.2 then _ else _)=_;rw[if_pos this]
      refine gW az (jN p rfl u λah l f _=>R _ _ _ ⟨some (u,g),rfl,rfl,aO,L.ab f λq j e=>?_,l,B Z f⟩);have:=h.lt j;omega
     .refine R _ _ _ ⟨a,rfl,rfl,?_,L,p,Z⟩
      rw[G,aB]
      cases a with
      |none=>cases N
      |some x=>
       have:¬g>x.2:=by
        have:¬(g:Int)>((qs (some x):Nat):Int):=by simpa using N
        have e:qs (some x)=x.2:=rfl;omega
       show Except.ok (if g>x.2 then _ else _)=_;rw[if_neg this]
  .rintro _ _ a1 ⟨y,rfl,rfl,h1,h2,aP,aS⟩
   rw[aI];have aT:(2-((i+1:Nat):Int)).toNat<(2-(i:Int)).toNat:=by omega
   exact⟨⟨i+1,y,rfl,Q,rfl,rfl,h1,h2,aP,aS⟩,aT⟩
 .have Q:i=2:=by have:¬(i:Int)<2:=cu P;omega
  subst Q;have z:jO D.n D.now=C7 a:=by unfold jO;rw[al]
  refine⟨λac=>gW A (jN A rfl (qq a) λah l f _=>gW l ⟨O.ab f λq j e=>?_,B E f,?_⟩),λac=>gW A (jN A rfl (qq a) λah l f _=>gW l ⟨O.ab f λq j e=>?_,B E f,?_⟩)⟩
  .have:=h.lt j;omega
  .rw[z]
   cases a with
   |none=>exact⟨by decide,_,rfl⟩
   |some x=>cases ac
  .have:=h.lt j;omega
  .rw[z]
   cases a with
   |none=>cases ac
   |some x=>rfl
theorem IC{no:Int}{l:O UInt8}{p:iq}(h:dS no l=.ok p):l.getD 4 0=1:=by
 by_cases e:l.getD 4 0=1
 .exact e
 .exfalso
  unfold dS at h;split at h
  .cases h
  .split at h
   .cases h
   .first|(rw[if_pos e]at h;cases h)|cases h
theorem ID{no:Int}{l:O UInt8}{p:iq}(h:dS no l=.ok p):¬(l.all λc=>c==0)=true:=λa=>by
 have h1:=IC h
 rw[mC]at a
 rw[fq]at h1
 cases hg:l[4]? with
 |none=>rw[hg]at h1;cases h1
 |some c=>
  rw[hg]at h1
  have:=a c (List.mem_of_getElem? hg)
  have h1:c=1:=h1
  rw[h1]at this;cases this
theorem yZ{no:Int}{l:O UInt8}{r:cZ×Nat×Nat}(h:gV no l=.ok r):∃p,dS no l=.ok p:=by
 unfold gV at h
 cases a:dS no l with
 |error e=>rw[a]at h;cases h
 |ok p=>exact⟨p,rfl⟩
theorem r_{n no:Nat}{l:cW}{a:aq (cZ×Nat)}{u:cZ}{g:Nat}(h:gV (no:Int) l=.ok (u,n,g)):gN n no l a=.ok (takeN u g a):=by
 obtain⟨p,b⟩:=yZ h;unfold gN;rw[if_neg (ID b),h];dsimp only;rw[if_neg (λe=>e rfl)]
theorem C8{n no:Nat}{a:aq (cZ×Nat)}:gN n no gz a=.ok a:=by
 unfold gN;rw[if_pos (by unfold gz;rw[List.all_replicate];rfl)]
section
variable {V:Nat->cW}{n gen:Nat}{u:cZ}{g:Nat->ai}{P:Nat->aq aD}{p:O Nat}{L:O aI}
theorem g5.jO(h:g5 V n gen u g P p L):jO n V=.ok (u,gen):=by
 have h2:jv n V 2=.ok (some (u,gen)):=by
  have e:jv n V 2=(match gN n 0 (V 0) none with| .error e=>.error e| .ok a=>gN n 1 (V 1) a):=rfl;rw[e];have b:=h.vY;have c:=h.yO;rcases Nat.mod_two_eq_zero_or_one gen with h0|h0
  .rw[h0]at b c
   rw[r_ b];show gN n 1 (V 1) (some (u,gen))=_;rcases c with d|⟨f,g',h1,h2⟩
   .rw[show V 1=gz from d,C8]
   .rw[r_ (no:=1) h1]
    show Except.ok (if g'>gen then _ else _)=_;rw[if_neg I]
  .rw[h0]at b c
   rcases c with d|⟨f,g',h1,h2⟩
   .rw[show V 0=gz from d,C8]
    exact r_ b
   .rw[r_ (no:=0) h1]
    show gN n 1 (V 1) (some (f,g'))=_;rw[r_ b];show Except.ok (if gen>g' then _ else _)=_;rw[if_pos h2]
 unfold Go.Proofs.YtkdhdlfonmgheaaGreat.jO;rw[h2];rfl
end
theorem C9{g:Nat->ai}{n:Nat}(hg:∀i,n<=i->g i=false):bitsOf ((fM g ((n+7)/8)).map λc=>(c.toNat:Int))=g:=by
 funext i;unfold bitsOf;by_cases hi:i/8<(n+7)/8
 .rw[fq,lk]
  have e:(fM g ((n+7)/8))[i/8]? =some (UInt8.ofNat (byteOf g (i/8))):=by
   unfold fM;rw[lk,List.getElem?_range hi];rfl
  rw[e];have a:=j8 g (i/8);show((((UInt8.ofNat (byteOf g (i/8))).toNat:Nat):Int).toNat).testBit (i%8)=g i;rw[UInt8.toNat_ofNat',jC a,dc,nh _ _ _ (g6 _ (by decide)),BD]
 .have:(fM g ((n+7)/8)).length<=i/8:=by rw[oN];omega
  rw[fq,kk (by rw[dL];exact this),hg i I];show Nat.testBit (Int.toNat 0) _=false;simp
theorem IE{g:Nat->ai}{n:Nat}(hg:∀i,n<=i->g i=false):oM ((fM g ((n+7)/8)).map λc=>(c.toNat:Int)) n:=
 ⟨by rw[dL,oN],λi hi=>by rw[C9 hg];exact hg i hi⟩
theorem pB{w:J}{D:aZ}{no:Nat}{g:Nat->ai}(h:cx w D)(P:D.quiet)(Q:D.aR<=1000000000)(C:no<D.n)(hg:∀i,D.n<=i->g i=false)
 (hc:(∃fA,dS ((no:Nat):Int) (D.now no)=.ok ⟨4,fA,fM g ((D.n+7)/8)⟩)\/∃e,dS ((no:Nat):Int) (D.now no)=.error e):
 aQ aj 110 #[.pointer (some ⟨D.d,0,none⟩),.int .i64 (no:Nat)] w (λv w'=>cx w' D/\ad (λq=>q=D.d) w w'/\
  ((∃sb s1 s2,v=.tuple #[.pointer (some ⟨sb,0,none⟩),.int .i64 0]/\(∃fA,dS ((no:Nat):Int) (D.now no)=.ok ⟨4,fA,fM g ((D.n+7)/8)⟩)/\eZ w' sb D.n g g s1 s2/\∀k,fz sb s1 s2 k->w.heap.size<=k)\/
   (∃e:Int,v=.tuple #[.pointer none,.int .i64 e]/\e≠0/\∃R,dS ((no:Nat):Int) (D.now no)=.error R))):=by
 refine okF (af.pB (some ⟨D.d,0,none⟩) (no:Nat)) aA.pB func110 ?_;(delta af.pB b_ ak lB z3 U r1 ag aC du;dsimp only);have ah:=h.bw;have E:=C5 P h.f4 (k:=1) (.inl rfl);refine(xX h C Q).use ?_;rintro v w1 ⟨m,S,o⟩;rw[E.1]at m;rcases o with ⟨F,_⟩|⟨_,s,rfl,G⟩
 .rw[E.2]at F;cases F
 have al:=m.oC C;refine⟨s,0,rfl,λhx=>(by cases hx),λ_=>(mY G.1 G.2.1 I _).use ?_⟩;rintro v p ⟨f,H⟩;have K:=m.ext H;have r:ad (λq=>q=D.d) w p:=cy S H λq _ h=>h.elim;rcases hc with ⟨fA,a⟩|⟨e,a⟩
 .rw[a]at f
  obtain⟨t,rfl,T,am⟩:=f;refine⟨4,fA,t,0,rfl,bj (vs:=[.int .i64 0,.int .u64 0,.slice none 0 0]) rfl λV u y W=>vJ 4 fA t u rfl λb z A X=>⟨λhx=>(by cases hx),λ_=>⟨4,z.cell,λhx=>(by cases hx),λ_=>aW ?_⟩⟩⟩;have j:Ext p b:=Ext.cn y A (bp _);have L:Ext b b.drew:=cj _;have Y:=z.ext L;have l:=Ext.trans j L;have M:=K.ext l;refine⟨λ_=>False,id,t,by rw[aw];exact Y.cell,(p9 M).use ?_⟩;rintro _ _ ⟨rfl,rfl⟩;have Z:=T.ext l;have hu:aJ (fM g ((D.n+7)/8))=((fM g ((D.n+7)/8)).map λc=>((c.toNat:Nat):Int)).map (.int .u8):=by unfold aJ;rw[iA];rfl
  have N:=Z.src;rw[show(⟨4,fA,fM g ((D.n+7)/8)⟩:iq).body=fM g ((D.n+7)/8) from rfl,hu]at N;refine⟨_,rfl,ad.refl _ _,(pI N (λx hx=>?_) (by rw[dL,oN];omega) (D.n:Nat)).use ?_⟩
  .obtain⟨c,_,rfl⟩:=eE.1 hx
   have:=c.toNat_lt;omega
  rintro v aa ⟨O,o⟩;have ab:=M.ext O;have ac:ad (λq=>q=D.d) w aa:=cy r (Ext.trans l O) λq _ h=>h.elim;have an:=h.bW;rcases o with ⟨B,_⟩|⟨_,_,B,_⟩|⟨_,_,_,sb,s1,s2,rfl,gf,hf⟩
  .exact absurd ⟨I,I⟩ B
  .exact absurd (by rw[dc];exact IE hg) B
  .rw[C9 hg,dc]at gf
   refine⟨_,0,rfl,ab,ac,.inl ⟨sb,s1,s2,rfl,⟨fA,a⟩,gf,λk ae=>?_⟩⟩;have:=hf k ae;have:=r.size;have:=l.size;omega
 .rw[a]at f
  obtain rfl:=f;have he:=yG a;refine⟨0,0,⟨none,0,0⟩,e,rfl,bj (vs:=[.int .i64 0,.int .u64 0,.slice none 0 0]) rfl λV u y W=>vJ 0 0 ⟨none,0,0⟩ u rfl λb z A X=>⟨λ_=>?_,λhx=>absurd (by simpa using hx) he⟩⟩;have j:Ext p b:=Ext.cn y A (bp _);exact⟨K.ext j,cy r j λq _ h=>h.elim,.inr ⟨e,rfl,he,e,a⟩⟩
section
variable {w w':J}{D:aZ}{V:Nat->cW}{gen:Nat}{u:cZ}{g:Nat->ai}{P:Nat->aq aD}{aG:O Nat}{aP:O aI}
def sd(D:aZ)(j:Nat):Prop:=¬((D.now j).all λc=>c==0)=true/\∃e,dS (j:Int) (D.now j)=.error e
theorem IF(h:g5 V D.n gen u g P aG aP)(ei:∀j,g j=true->D.now j=V j\/sd D j):(D.now 0=V 0/\D.now 1=V 1/\jO D.n D.now=.ok (u,gen))\/((∃j,g j=true/\sd D j)/\∃e,jO D.n D.now=.error e):=by
 have mj:g 0=true:=(h.g 0).2 (.inr (.inl (by decide)));have av:g 1=true:=(h.g 1).2 (.inr (.inl (by decide)));have bad:∀ (j:Nat) (a:aq (cZ×Nat)),sd D j->∃e,gN D.n j (D.now j) a=.error e:=λj a ⟨h1,e,h2⟩=>by
  unfold gN;rw[if_neg h1];unfold gV;rw[h2];exact⟨e,rfl⟩
 have b:jv D.n D.now 2=(match gN D.n 0 (D.now 0) none with| .error e=>.error e| .ok a=>gN D.n 1 (D.now 1) a):=rfl;rcases ei 0 mj with h0|h0
 .rcases ei 1 av with h1|h1
  .refine .inl ⟨h0,h1,?_⟩
   have:=h.jO;unfold jO at this⊢;have c:jv D.n V 2=(match gN D.n 0 (V 0) none with| .error e=>.error e| .ok a=>gN D.n 1 (V 1) a):=rfl;rw[b,h0,h1,←c];exact this
  .right
   refine⟨⟨1,av,h1⟩,?_⟩;unfold jO;rw[b]
   cases hs:gN D.n 0 (D.now 0) none with
   |error e=>exact⟨e,rfl⟩
   |ok a=>
    obtain⟨e,he⟩:=bad 1 a h1;dsimp only;rw[he];exact⟨e,rfl⟩
 .right
  refine⟨⟨0,mj,h0⟩,?_⟩;obtain⟨e,he⟩:=bad 0 none h0;unfold jO;rw[b,he];exact⟨e,rfl⟩
theorem C_{c aT k:Nat}{a:Nat->Prop}(h:er (λ_=>False) w (iO c aT k D))(d:∀q,a q->q<w.heap.size/\¬c3 (iO c aT k D) q):er a w (iO c aT k D):=
 ⟨h.raw,h.inv.pins,λf hf b=>(by
  have:=(List.mem_replicate.1 (show f∈List.replicate k dC from hf)).2
  rw[this]at b
  cases b),h.inv.un,d,h.inv.kE⟩
theorem px{l:fC}{bQ:Nat->Prop}(h:cx w D)(o:D.quiet)(b5:D.aR<=800000000)(aJ:∀j,g j=true->D.dB j=[])(O:kK (l.an:Nat) (l.batch:Nat) (l.dX:Nat))(a:g5 V D.n gen u g P aG aP)(ei:∀j,g j=true->D.now j=V j\/sd D j)(hs:D.bI=g)(aK:D.ep=λ_=> [])(b6:gen<=1000000000)(bd:aP.length<=4000)(be:aG.length<=4000)(aL:∀q,bQ q->q<w.heap.size/\¬bX D q):
 aQ aj 41 #[.pointer (some D.d),.agg l.c.toArray] w (λv w'=>ad (bX D) w w'/\
  ((∃S:bZ,v=.tuple #[.pointer (some S.st),(0:Int)]/\de w' S aG aP aG aP/\S.failed=false/\S.u=u/\S.gen=gen/\S.now=u.clock/\S.pending=0/\S.l=l/\S.T.C.D.d=D.d/\S.T.n=D.n/\S.T.C.D.quiet/\S.T.C.D.aR<=D.aR+9000/\(∀q,S.T.M q->bX D q\/bQ q\/w.heap.size<=q)/\(∀q,S.T.E q↔q=S.st\/bQ q)/\w.heap.size<=S.st/\S.T.C.D.r1=D.r1)\/
   (∃e:Int,v=.tuple #[.pointer none,e]/\e≠0/\∃j,g j=true/\sd D j))):=by
 refine okF (af.px (some D.d) (l.an:Nat) (l.batch:Nat) (l.dX:Nat)) aA.px func41 ?_;(delta af.px r1 U bD aM ak Al g8 du aC;dsimp only);have b8:=h.bW;have b9:=h.bw;have H:=a.r7;have Z:g u.map=true:=(a.g _).2 (.inr (.inr rfl));refine bj (vs:=l.c) rfl λw1 aa aO b_=>⟨_,aa.cell,_,by rw[aw];exact aa.cell,_,by rw[aw];exact aa.cell,(nX w1 _ _ _ _).use ?_⟩;rintro _ cb ⟨rfl,aS⟩;refine⟨_,rfl,λaU=>?_,λ_=>?_⟩
 .rw[dK O]at aU;cases aU
 have ai:=aO.trans aS;have bf:=h.ext ai;have bg:=aa.ext aS;refine(pA bf o I).use ?_;rintro v al ⟨bi,am,J⟩;have cc:=ai.size;have cd:=am.size;have ce:=aO.size;have ac:∀q,q=D.d->bX D q:=λq e=>.inl e;have aV:ad (bX D) w al:=cy (ai.mono λ_ _ h=>h.elim) am λq _ e=>ac q e;have bl:=bg.ab am λe=>by have:=h.lt (q:=D.d) (.inl rfl);omega
 rcases IF a ei with ⟨bm,bo,ap⟩|⟨bq,e,ap⟩
 rotate_left
 .rw[ap]at J
  obtain⟨he,br,rfl⟩:=J;refine⟨_,_,_,_,_,_,0,e,rfl,bj (vs:=gC.c) rfl λbs ar au bt=>jN ar rfl br λae av ax _=>⟨λ_=>?_,λhx=>absurd (by simpa using hx) he⟩⟩;have Q:Ext al ae:=Ext.cn au ax (bp _);exact⟨cy aV Q λq _ h=>h.elim,.inr ⟨e,rfl,he,bq⟩⟩
 rw[ap]at J;obtain rfl:=J;refine⟨_,_,_,_,_,_,_,0,rfl,bj (vs:=gC.c) rfl λbs ar au bt=>jN ar rfl u λae av ax _=>⟨λhx=>(by cases hx),λ_=>⟨_,by rw[aw];exact av.cell,?_⟩⟩⟩;have Q:Ext al ae:=Ext.cn au ax (bp _);have bu:=bi.ext Q;have bv:=bl.ext Q;have aW:∀i,D.n<=i->g i=false:=λi hi=>by
  cases hg:g i with
  |false=>rfl
  |true=>
   rcases(a.g i).1 hg with h1|h1|h1
   .have:=(a.two i h1).2.2;omega
   .omega
   .have:=H.2.2.2.1;omega
 have aX:=a.mp;have bx:(∃fA,dS (u.map:Int) (D.now u.map)=.ok ⟨4,fA,fM g ((D.n+7)/8)⟩)\/∃e,dS (u.map:Int) (D.now u.map)=.error e:=by
  rcases ei u.map Z with h1|h1
  .obtain⟨fA,_,h2⟩:=aX
   exact .inl ⟨fA,by rw[h1];exact h2⟩
  .exact .inr h1.2
 refine(pB bu o I H.2.2.2.1 aW bx).use ?_;rintro v aZ ⟨bz,ag,J⟩;have cf:=Q.size;have bA:ad (bX D) w ae:=cy aV Q λq _ h=>h.elim;have a0:ad (bX D) w aZ:=cy bA ag λq _ e=>ac q e;rcases J with ⟨sb,s1,s2,rfl,⟨fA,bB⟩,gf,bC⟩|⟨e,rfl,he,cg,a4⟩
 rotate_left
 .refine⟨none,e,rfl,λ_=>⟨a0,.inr ⟨e,rfl,he,u.map,Z,?_⟩⟩,λhx=>absurd (by simpa using hx) he⟩
  rcases ei u.map Z with h1|h1
  .obtain⟨fA,_,h2⟩:=aX
   rw[h1,h2]at a4;cases a4
  .exact h1
 have a5:∀q,w.heap.size<=q->¬bX D q:=λq o hf=>by have:=h.lt hf;omega
 have ay:=bv.ab ag λe=>a5 _ (bp _) (ac _ e);have a6:=av.ab ag λe=>a5 _ I (ac _ e);have bE:D.now u.map=V u.map:=by
  rcases ei u.map Z with h1|⟨_,e,h1⟩
  .exact h1
  .rw[bB]at h1;cases h1
 refine⟨_,0,rfl,λhx=>(by cases hx),λ_=>⟨_,ay.cell,_,by rw[aw];exact ay.cell,_,by rw[aw];exact ay.cell,gW a6 ?_⟩⟩;have bF:=mW bz (l:=l) (u:=u) (gen:=gen) ⟨by have:=O.1;omega,by have:=O.2.1;omega⟩ ⟨I,by have:=H.2.1;omega,I,by have:=H.2.2.1;omega,by have:=H.1;omega⟩ I (λj F=>by rw[aK,aJ j (by rw[←hs];exact F)]) sb;refine bF.use ?_;rintro _ R ⟨c,aT,aY,st,B⟩;have bG:=B.val;subst bG;refine⟨_,0,rfl,λhx=>(by cases hx),λ_=>⟨_,by rw[aw];exact(a6.ext B.x).cell,?_⟩⟩;have ch:=ag.size;have ci:=B.x.size;have cj:=B.sv.lt;have ck:=B.hc;have cm:=B.hf;have co:=B.ht;obtain⟨P',ah⟩:∃P':Nat->aq aD,P'=λno=>if no∈aG then (if D.now no=V no then P no else none) else none:=⟨_,rfl⟩
 obtain⟨T,b⟩:∃T:aN,T=⟨aY,gen+1,u.root,u.aH,iO c aT l.an D,sb,D.n,g,g,s1,s2,λq=>q=st\/bQ q,λ_=>False,P'⟩:=⟨_,rfl⟩;have W:∀q,c3 (iO c aT l.an D) q->q=c\/q=aT\/bX D q:=λq h=>h;have Y:∀q,fz sb s1 s2 q->w.heap.size<=q/\q<aZ.heap.size:=λq o=>⟨by have:=bC q o;omega,gf.lt q o⟩;have bH:∀q,T.X q->q=aY\/fz sb s1 s2 q\/q=st\/bQ q:=λq o=>by
  rw[b]at o;rcases o with h1|h1|h1|h1
  .exact .inl h1
  .exact .inr (.inl h1)
  .exact .inr (.inr h1)
  .exact h1.elim
 have az:∀q,bX D q->q<w.heap.size:=λq o=>h.lt o;have a7:bL R T:=by
  have a8:er T.X R (iO c aT l.an D):=C_ B.ca λq o=>by
   rcases bH q o with h1|h1|h1|h1
   .refine⟨I,λhf=>?_⟩
    rcases W q hf with h2|h2|h2
    .omega
    .omega
    .have:=az q h2;omega
   .have z:=Y q h1
    refine⟨I,λhf=>?_⟩;rcases W q hf with h2|h2|h2
    .omega
    .omega
    .have:=az q h2;omega
   .refine⟨I,λhf=>?_⟩
    rcases W q hf with h2|h2|h2
    .omega
    .omega
    .have:=az q h2;omega
   .have z:=aL q h1
    refine⟨I,λhf=>?_⟩;rcases W q hf with h2|h2|h2
    .omega
    .omega
    .exact z.2 h2
  rw[b]at a8⊢;refine⟨B.di,gf.ext B.x,a8,λhf=>by have:=Y aY hf;omega,λq o=>?_,λq o=>o.elim,rfl,⟨H.2.2.1,H.2.1,by show gen+1<_;omega⟩,λno bn A=>?_,λj F=>.inl (by rw[←hs];exact F),⟨(a.g 0).2 (.inr (.inl (by decide))),(a.g 1).2 (.inr (.inl (by decide)))⟩⟩
  .have o:q=st\/bQ q:=o
   rcases o with h1|h1
   .exact⟨by show q≠aY;omega,λhf=>by have:=Y q hf;omega,λh=>h⟩
   .have z:=aL q h1
    exact⟨by show q≠aY;omega,λhf=>by have:=Y q hf;omega,λh=>h⟩
  .have A:P' no=some bn:=A
   rw[ah]at A;dsimp only at A;by_cases h1:no∈aG
   .rw[if_pos h1]at A
    by_cases h2:D.now no=V no
    .rw[if_pos h2]at A
     refine⟨(a.two no h1).2.2,?_⟩;show gM (gen+1) bn.leaf no ((iO c aT l.an D).view no) bn;rw[x5,h2];exact(a.eA no h1 bn A).mono I
    .rw[if_neg h2]at A;cases A
   .rw[if_neg h1]at A;cases A
 obtain⟨S,y⟩:∃S:bZ,S=⟨st,T,l,u,gen,u.clock,0,0,u.keys,false⟩:=⟨_,rfl⟩;have aB:Var R S.st S.cells 158:=by
  rw[y];show Var R st (g4 T.aY T.C.D.d T.C.c T.sb _ _ _ _ _ _ _ _) _;rw[b];exact B.sv
 have fu:S.T=T:=by rw[y]
 have aE:S.u=u:=by rw[y]
 have bJ:gj (T.bk T.C P) aG aP:=by
  rw[b];exact a.ok
 have a9:=Il (S:=S) (gb:=P) (pages:=aG) (L:=aP) (m:=(u.keys:Int)) aB (by rw[fu];exact a7) (by rw[y,b];exact .inl rfl) (by rw[fu];exact bJ) (λx hx bn A=>?_) a.bn (λno=>by rw[fu,aE,b];exact a.g no) (λx hx=>by rw[aE];exact⟨(a.two x hx).1,(a.two x hx).2.1⟩) (by rw[fu,aE,b];exact⟨H.2.2.2.2.1,H.2.2.2.1⟩) bd be (by rw[fu,b];show D.aR<=_;omega)
 rotate_left
 .rw[fu,b]
  rcases ei x ((a.g x).2 (.inl hx)) with h1|h1
  .left
   show P' x=some bn;rw[ah];dsimp only;rw[if_pos hx,if_pos h1];exact A
  .right
   obtain⟨_,e,h2⟩:=h1;exact⟨⟨(a.two x hx).2.2,(a.two x hx).1⟩,e,by show dS _ ((iO c aT l.an D).view x)=_;rw[x5];exact h2⟩
 rw[show S.st=st by rw[y]]at a9;refine a9.use ?_;rintro v bK ⟨ao,bM,G,a_,J⟩;rw[fu]at G a_ J;have bN:ad (bX D) w R:=cy a0 B.x λq _ h=>h.elim;have bO:∀q,T.N q->bX D q\/w.heap.size<=q:=λq o=>by
  rw[b]at o;rcases o with h1|h1|h1|h1
  .rcases W q h1 with h2|h2|h2
   .exact .inr I
   .exact .inr I
   .exact .inl h2
  .have h1:q=aY:=h1
   exact .inr I
  .exact .inr (Y q h1).1
  .exact h1.elim
 have ba:ad (bX D) w bK:=cy bN G.to.ab λq cp o=>(bO q o).resolve_right I;rcases J with ⟨rfl,cq,bP⟩|⟨e,rfl,he,bR⟩
 .refine⟨0,rfl,λhx=>(by cases hx),λ_=>⟨ba,.inl ?_⟩⟩
  have bb:∀x∈aG,D.now x=V x:=λx hx=>by
   rcases ei x ((a.g x).2 (.inl hx)) with h1|⟨_,e,h1⟩
   .exact h1
   .exfalso
    have K:=bP x hx;rw[b]at K;have K:P' x=P x:=K;have aF:∃bn,P x=some bn:=by
     rcases a.ok with ⟨_,_,h2,_⟩|h2
     .rw[h2]at hx;cases hx
     .exact h2.node _ x hx
    obtain⟨bn,c7⟩:=aF;rw[c7,ah]at K;dsimp only at K;rw[if_pos hx]at K;by_cases h2:D.now x=V x
    .obtain⟨p,z,_⟩:=a.eA x hx bn c7
     rw[h2,z]at h1;cases h1
    .rw[if_neg h2]at K;cases K
  have bS:∀j,g j=true->D.bh.getD j []=V j:=λj F=>by
   have bT:D.now j=D.bh.getD j []:=by rw[vD D (λx hx=>(h.wn x hx).1),if_pos (aJ j F)]
   rw[←bT];rcases(a.g j).1 F with h1|h1|h1
   .exact bb j h1
   .rcases dJ j 1 with h2|h2
    .rw[show j=0 from I];exact bm
    .rw[show j=1 from I];exact bo
   .rw[h1];exact bE
  have bU:∀x∈aG,P x=P' x:=λx hx=>by rw[ah];dsimp only;rw[if_pos hx,if_pos (bb x hx)]
  have bV:de R S aG aP aG aP:=by
   have hd:=a.agree bS bU;rw[y];refine⟨⟨by rw[y]at aB;exact aB,a7,by rw[b];exact .inl rfl,by rw[b];exact hd,by rw[b],⟨a.CR.clock,cG _,a.CS,by show gen+2<_;omega,?_,?_,?_⟩,λj F=>?_⟩,?_,a.bn,by rw[b];exact a.g,λx hx=>⟨(a.two x hx).1,(a.two x hx).2.1⟩,a.fT,a.keys,cG _,λ_=>⟨?_,by rw[b];exact aK,?_⟩,λhf=>(by cases hf)⟩
   .have:=O.2.2.2.1;show l.batch<=1000;omega
   .have:=O.2.2.2.2.2;show l.dX<=1048576;omega
   .have:=O.2.2.1;show 1<=l.batch;omega
   .have F:T.g j=true:=F
    show T.C.D.bI j=true;rw[b]at F⊢;show D.bI j=true;rw[hs];exact F
   .have h1:=hd.ok
    rw[b];exact h1
   .intro e
    have h1:=e D.n;have h2:T.C.D.bI=g:=by rw[b];exact hs
    have h1:T.C.D.bI D.n=true:=h1;rw[h2,aW D.n (bp _)]at h1;cases h1
   .obtain⟨j,bY,b0⟩:=a.fr
    have h1:=rX (s:=λi=>g i||g i) (t:=dj (λi=>g i||g i) j true) (k:=j) (by simp[b0]) (by simp[dj]) (λi hi=>by simp[dj,hi]) (n:=D.n) bY;have h2:=mn (dj (λi=>g i||g i) j true) D.n;have z:cl T=D.n-e0 (λi=>g i||g i) D.n:=by rw[b];rfl
    show 1<=cl T;omega
  obtain⟨a1,a2,a3⟩:=bV.to bM (by rw[fu];exact G.to) (by rw[fu];exact G.E) (by rw[fu];exact a_) ⟨by rw[fu];exact G.root,by rw[fu];exact G.aH,by rw[fu];exact G.f,λno _=>by rw[fu];exact⟨congrFun G.P no,G.view no⟩⟩;have b1:S.T.C.D.quiet:=by rw[fu,b];exact o
  refine⟨S.b7 ao,by rw[show(S.b7 ao).st=st by rw[y];rfl],a1,by rw[y];rfl,by rw[y];rfl,by rw[y];rfl,by rw[y];rfl,by rw[y];rfl,by rw[y];rfl,?_,?_,a2.q b1,?_,λq b2=>?_,λq=>?_,?_,?_⟩
  .rw[a2.d,fu,b];rfl
  .rw[a2.n,fu,b]
  .have h1:=a2.aR
   have h2:S.T.C.D.aR=D.aR:=by rw[fu,b];rfl
   omega
  .have h1:=G.to.c5 q b2
   rcases h1 with h1|h1
   .rw[b]at h1
    rcases h1 with h1|h1|h1|h1|h1
    .rcases W q h1 with h2|h2|h2
     .exact .inr (.inr I)
     .exact .inr (.inr I)
     .exact .inl h2
    .have h1:q=aY:=h1
     exact .inr (.inr I)
    .exact .inr (.inr (Y q h1).1)
    .have h1:q=st\/bQ q:=h1
     rcases h1 with h1|h1
     .exact .inr (.inr I)
     .exact .inr (.inl h1)
    .exact h1.elim
   .exact .inr (.inr I)
  .show ao.E q↔q=(S.b7 ao).st\/bQ q
   rw[G.E,b,y];rfl
  .show w.heap.size<=S.st
   rw[y];show w.heap.size<=st;omega
  .rw[a2.r,fu,b];rfl
 .refine⟨e,rfl,λ_=>⟨ba,.inr ⟨e,rfl,he,?_⟩⟩,λhx=>absurd (by simpa using hx) he⟩
  rcases bR with h1|⟨x,hx,h1⟩|h1
  .rw[b]at h1
   exact absurd (o.1 _) h1
  .have bc:=(a.g x).2 (.inl hx)
   refine⟨x,bc,?_⟩;rcases ei x bc with h2|h2
   .exfalso
    obtain⟨_,b3,z⟩:=h1;rw[b]at z;have z:dS (x:Int) ((iO c aT l.an D).view x)=.error b3:=z;rw[x5,h2]at z;have aF:∃bn,P x=some bn:=by
     rcases a.ok with ⟨_,_,aI,_⟩|aI
     .rw[aI]at hx;cases hx
     .exact aI.node _ x hx
    obtain⟨bn,c7⟩:=aF;obtain⟨p,b4,_⟩:=a.eA x hx bn c7;rw[b4]at z;cases z
   .exact h2
  .exact absurd (by rw[a.keys]) h1
end
structure y0(D:aZ)(l:fC)(bQ:Nat->Prop)(k:Nat)(w w':J)(S:bZ):Prop where
 live:S.failed=false
 c1:S.pending=0
 now:S.now=S.u.clock
 l:S.l=l
 d:S.T.C.D.d=D.d
 n:S.T.n=D.n
 q:S.T.C.D.quiet
 aR:S.T.C.D.aR<=D.aR+k
 M:∀q,S.T.M q->bX D q\/bQ q\/w.heap.size<=q
 E:∀q,S.T.E q↔q=S.st\/bQ q
 st:w.heap.size<=S.st
 r:S.T.C.D.r1=D.r1
 ab:ad (bX D) w w'
section
variable {w w':J}{D:aZ}{bQ:Nat->Prop}
theorem Da{l:fC}(h:cx w D)(y:kK (l.an:Nat) (l.batch:Nat) (l.dX:Nat))(N:∀k,D.calm k)(nd:D.b3.getD 3 0= -1)(O:D.aR<=999999000)(z:∀q,bQ q->q<w.heap.size/\¬bX D q):
 aQ aj 19 #[.pointer (some D.d),.agg l.c.toArray] w (λv w'=>∃S:bZ,v=.tuple #[.pointer (some S.st),(0:Int)]/\de w' S [] [] [] []/\y0 D l bQ 4 w w' S/\S.u=kg/\S.gen=1):=by
 have aa:=h.bW;have P:=h.bw;refine(nV h y N nd O).mono ?_;rintro v w' ⟨az,sb,s1,s2,c,aT,aY,st,jc,R⟩;obtain rfl:=R.CP.val;have hd:=R.pZ;have B:=R.CP;have ac:=R.ab.size;have ad:=B.x.size;have ae:=B.hc;have af:=B.hf;have ag:=B.ht;have ah:=B.sv.lt;have E:∀j,az.bh.getD j []=az.now j:=λj=>by unfold aZ.now;rw[hd.waits];rfl
 have m:∀q,c3 (iO c aT l.an az) q->q=c\/q=aT\/bX az q:=λq h=>h;have G:∀q,bX az q->q<jc.heap.size:=λq b=>by
  rcases R.dq q b with h1|h1
  .have:=h.lt h1;omega
  .omega
 have Q:az.quiet:=⟨hd.calm,hd.b3⟩;obtain⟨T,a⟩:∃T:aN,T=⟨aY,1+1,0,0,iO c aT l.an az,sb,D.n,λi=>decide (i<3),λi=>decide (i<3),s1,s2,λq=>q=st\/bQ q,λ_=>False,λ_=>none⟩:=⟨_,rfl⟩;have U:∀q,bQ q->q<w.heap.size/\¬bX az q:=λq b=>⟨(z q b).1,λhf=>by
  rcases R.dq q hf with h1|h1
  .exact(z q b).2 h1
  .have:=(z q b).1;omega⟩
 have V:bL w' T:=by
  have H:er T.X w' (iO c aT l.an az):=C_ B.ca λq b=>by
   rw[a]at b;rcases b with h1|h1|h1|h1
   .have h1:q=aY:=h1
    refine⟨I,λhf=>?_⟩;rcases m q hf with h2|h2|h2
    .omega
    .omega
    .have:=G q h2;omega
   .have A:=R.r6 q h1
    refine⟨I,λhf=>?_⟩;rcases m q hf with h2|h2|h2
    .omega
    .omega
    .have ai:=B.ca.raw.dev
     exact R.H3 q h1 h2
   .rcases(show q=st\/bQ q from h1) with h1|h1
    .refine⟨I,λhf=>?_⟩
     rcases m q hf with h2|h2|h2
     .omega
     .omega
     .have:=G q h2;omega
    .have A:=U q h1
     refine⟨I,λhf=>?_⟩;rcases m q hf with h2|h2|h2
     .omega
     .omega
     .exact A.2 h2
   .exact h1.elim
  rw[a]at H⊢;refine⟨B.di,R.sp,H,λhf=>by have:=R.r6 aY hf;omega,λq b=>?_,λq b=>b.elim,hd.n,⟨by show 0<D.n;omega,(by decide:0<=12),(by decide:1+1<18446744073709551616)⟩,λno bn F=>(by cases F),λj f=>.inl ?_,⟨rfl,rfl⟩⟩
  .rcases(show q=st\/bQ q from b) with h1|h1
   .exact⟨by show q≠aY;omega,λhf=>by have:=R.r6 q hf;omega,λh=>h⟩
   .have A:=z q h1
    exact⟨by show q≠aY;omega,λhf=>by have:=R.r6 q hf;omega,λh=>h⟩
  .have f:az.bI j=true:=f
   rw[hd.bI]at f;exact f
 have J:kf kg D.n:=⟨Iff.intro (λ_=>rfl) (λ_=>rfl),by decide,by show 0<D.n;omega,by show 2<D.n;omega,by decide,P⟩;have K:nt kg:=⟨by decide,by decide,by decide,by decide,by decide,by decide⟩;have L:g5 (λj=>az.bh.getD j []) D.n 1 kg (λi=>decide (i<3)) (λ_=>none) [] []:=by
  refine⟨⟨3,I,rfl⟩,?_,.inl ?_,⟨1,bp _,?_⟩,λno=>?_,List.nodup_nil,λx hx=>(by cases hx),.inl ⟨rfl,rfl,rfl,rfl⟩,λx hx=>(by cases hx),rfl,λq b=>(by cases b),K,J,bp _⟩
  .show gV ((1:Nat):Int) (az.bh.getD 1 [])=_
   rw[E,hd.now];exact CF K J (by decide) (by decide)
  .show az.bh.getD 0 []=gz
   rw[E,hd.now];rfl
  .show dS ((2:Nat):Int) (az.bh.getD 2 [])=_
   rw[E,hd.now];exact vq I ⟨(by decide:1<=4),(by decide:4<=4),(by decide:1<18446744073709551616),by show(fM _ _).length<=232;rw[oN];omega⟩
  .show decide (no<3)=true↔no∈ []\/no<2\/no=2
   simp only[eL,false_or,cQ];omega
 obtain⟨S,o⟩:∃S:bZ,S=⟨st,T,l,kg,1,0,0,0,0,false⟩:=⟨_,rfl⟩;have W:1<=cl T:=by
  have h1:=rX (s:=λi=>decide (i<3)||decide (i<3)) (t:=dj (λi=>decide (i<3)||decide (i<3)) 3 true) (k:=3) (by simp) (by simp[dj]) (λi hi=>by simp[dj,hi]) (n:=D.n) I;have h2:=mn (dj (λi=>decide (i<3)||decide (i<3)) 3 true) D.n;have A:cl T=D.n-e0 (λi=>decide (i<3)||decide (i<3)) D.n:=by rw[a];rfl
  omega
 refine⟨S,by rw[o],?_,?_,by rw[o],by rw[o]⟩
 .rw[o]
  refine⟨⟨?_,V,by rw[a];exact .inl rfl,by rw[a];exact L,by rw[a],⟨(by decide:0<18446744073709551616),bp _,bp _,(by decide:1+2<18446744073709551616),?_,?_,?_⟩,λj f=>?_⟩,.inl ?_,List.nodup_nil,?_,λx hx=>(by cases hx),λp F=>(by cases F),rfl,cG _,λ_=>⟨?_,by rw[a];exact hd.ep,W⟩,λhf=>(by cases hf)⟩
  .show Var w' st (g4 T.aY T.C.D.d T.C.c T.sb _ _ _ _ _ _ _ _) _
   rw[a];exact B.sv
  .have:=y.2.2.2.1;show l.batch<=1000;omega
  .have:=y.2.2.2.2.2;show l.dX<=1048576;omega
  .have:=y.2.2.1;show 1<=l.batch;omega
  .have f:T.g j=true:=f
   show T.C.D.bI j=true;rw[a]at f⊢;show az.bI j=true;rw[hd.bI];exact f
  .rw[a];exact⟨rfl,rfl,rfl,rfl⟩
  .intro no
   have Y:=L.g no;rw[a];exact Y
  .intro e
   have h1:az.bI 5=true:=by have:=e 5;rw[a]at this;exact this
   rw[hd.bI]at h1;cases h1
 .rw[o]
  refine⟨rfl,rfl,rfl,rfl,by rw[a];exact hd.d,by rw[a],by rw[a];exact Q,by rw[a];show az.aR<=_;rw[hd.aR];omega,λq M=>?_,λq=>by rw[a],by show w.heap.size<=st;omega,by rw[a];exact hd.r,cy R.ab B.x λq _ h=>h.elim⟩;rw[a]at M;have Z:∀q,bX az q->bX D q\/bQ q\/w.heap.size<=q:=λq b=>by
   rcases R.dq q b with h1|h1
   .exact .inl h1
   .exact .inr (.inr h1.1)
  rcases M with h1|h1|h1|h1|h1
  .rcases m q h1 with h2|h2|h2
   .exact .inr (.inr I)
   .exact .inr (.inr I)
   .exact Z q h2
  .have h1:q=aY:=h1
   exact .inr (.inr I)
  .exact .inr (.inr (R.r6 q h1).1)
  .rcases(show q=st\/bQ q from h1) with h1|h1
   .exact .inr (.inr I)
   .exact .inr (.inl h1)
  .exact h1.elim
end
theorem Db{i n m:Nat}{a:Nat}(b:n=a)(h:(decide ((i:Int)<(n:Int))&&decide ((i:Int)<(m:Int)))=true):i<a/\i<m:=by
 rw[dZ,cQ,cQ]at h;omega
theorem Dc{i:Nat}(h:i<=1000000):IntKind.wrap .i64 ((i:Int)+1)=((i+1:Nat):Int):=by rw[bx I I];omega
section
variable {w0 w w':J}{vW a8:Nat}{T ao:aN}{r h k c:Nat}{pages aG:O Nat}{L cV aP:O aI}{V:Nat->cW}{ms l:Y}
theorem IG(L:O aI):eY L [] []=L:=jT.2 λp _=>by
 have h:¬bH p.1 []:=by
  cases p.1 with
  |nil=>exact mb _
  |cons a x=>show¬(1:Int)<0;decide
 have:ey [] p.1:=h;simp[this]
end
structure ia where
 kind:Int
 n:Int
 after:Int
 tk:Y
 di:Y
 tl:Y
 key:Key
 val:Key
 l:O Int
def ia.c(a:ia):O aa:=[a.kind,a.n,a.after,a.tk,a.di,a.tl]
structure oO(w:J)(a:ia):Prop where
 k:Src 1 w a.tk (aJ a.key)
 Dd:a.tk.len<=a.tk.cap
 v:Src 1 w a.di (aJ a.val)
 mP:a.di.len<=a.di.cap
 l:Src 1 w a.tl (a.l.map encZ)
 lc:a.tl.len<=a.tl.cap
 IH:∀z∈a.l,z<=9223372036854775807
 II: -9223372036854775808<=a.n/\a.n<=9223372036854775807
 De:a.after<=9223372036854775807
 nu:∀q,aB a.tl q->w.heap.size<=q->a.l=[]
structure jP(w:J)(l:Y)(A:O ia):Prop where
 s:Src 6 w l (bM ia.c A)
 ok:∀a∈A,oO w a
theorem y1(A:O ia):∀x∈A,(ia.c x).length=6:=λ_ _=>rfl
section
variable {w w':J}{l:Y}{A:O ia}{a:ia}
theorem oO.ext(h:oO w a)(hx:Ext w w'):oO w' a:=⟨h.k.ext hx,h.Dd,h.v.ext hx,h.mP,h.l.ext hx,h.lc,h.IH,h.II,h.De,λq b c=>h.nu q b (eD hx.size c)⟩
theorem jP.ext(h:jP w l A)(hx:Ext w w'):jP w' l A:=⟨h.s.ext hx,λa b=>(h.ok a b).ext hx⟩
theorem jP.len(h:jP w l A):l.len=A.length:=by
 have:=h.s.len;rw[gL _ (y1 A)]at this;omega
theorem jP.at(h:jP w l A){i:Nat}(hi:i<A.length):∃a:ae,l.a=some a/\((0:Int)<=(i:Int)/\(i:Int)<(l.len:Int))/\∀j v,(ia.c A[i])[j]? =some v->w.cell? ((a.add (Int.toNat (i:Int)*6)).add j)=some v:=by
 have k:=h.len
 cases b:l.a with
 |none=>
  have:=congrArg List.length (h.s.nil b);rw[gL _ (y1 A),jD]at this;omega
 |some a=>
  have f:=h.s.rd a b;refine⟨a,rfl,⟨I,I⟩,λj v d=>?_⟩;have g:j<6:=(ix.1 d).1;have e:=ph f (j:=i*6+j) (v:=v) (by rw[rL (y1 A) hi g];exact d);rw[cB]at e;rw[dc,add_add];exact e
theorem IJ{s:Y}(h:mT aj w 3 s):∃l:O Int,Src 1 w s (l.map encZ)/\∀z∈l,z<=9223372036854775807:=by
 obtain⟨l,h1,_,h2⟩:=h.src (c:=λz:Int=> [encZ z]) (sz:=1) (by kernel_rfl) (λz=>z<=9223372036854775807) λfuel us b=>by
  obtain⟨n,rfl,h2,d⟩:=q0 b (k:=.i64) (by kernel_rfl);exact⟨n,rfl,d⟩
 have e:∀l:O Int,(l.map λz:Int=> [encZ z]).flatten=l.map encZ:=λl=>by
  induction l with
  |nil=>rfl
  |cons a l f=>rw[ji,sr,f];rfl
 rw[e]at h1;exact⟨l,h1,h2⟩
theorem Src.nu{s:Y}{l:O Int}(h:Src 1 w s (l.map encZ)):∀q,aB s q->w.heap.size<=q->l=[]:=by
 rintro q ⟨a,c,rfl⟩ d
 cases e:l with
 |nil=>rfl
 |cons v us=>
  have f:=h.rd a c;have b:w.cell? (a.add (0+0))=some (encZ v):=q5 f (by rw[e];rfl);rw[kN,add_zero']at b;have:w.heap[a.block]? =none:=by simp[d]
  simp[World.cell?,this]at b
set_option maxRecDepth 100000 in
theorem IK {fuel:Nat}{vs:O aa} (h:gE aj w fuel 92 vs):∃a:ia,vs=a.c/\oO w a:=by
 have hu:Tryz.prog.underlying 92=some (.struct (fieldsOf aj 92)):=by kernel_rfl
 have hlen:vs.length=6:=by
  have:=(Ab h hu).1;rwa[show Tryz.prog.cellsOf 92=6 by kernel_rfl]at this
 obtain⟨_,f0⟩:=pk h hu 0 (t:=3) (o:=0) (n:=1) (by kernel_rfl) (by kernel_rfl);obtain⟨_,f1⟩:=pk h hu 1 (t:=3) (o:=1) (n:=1) (by kernel_rfl) (by kernel_rfl);obtain⟨_,f2⟩:=pk h hu 2 (t:=3) (o:=2) (n:=1) (by kernel_rfl) (by kernel_rfl);obtain⟨_,f3⟩:=pk h hu 3 (t:=48) (o:=3) (n:=1) (by kernel_rfl) (by kernel_rfl);obtain⟨_,f4⟩:=pk h hu 4 (t:=48) (o:=4) (n:=1) (by kernel_rfl) (by kernel_rfl);obtain⟨_,f5⟩:=pk h hu 5 (t:=58) (o:=5) (n:=1) (by kernel_rfl) (by kernel_rfl);obtain⟨v,g,_⟩:=q0 f0 (k:=.i64) (by kernel_rfl);obtain⟨bW,i,fc,dO⟩:=q0 f1 (k:=.i64) (by kernel_rfl);obtain⟨bw,j,_,x⟩:=q0 f2 (k:=.i64) (by kernel_rfl);obtain⟨d3,l,m⟩:=s4 f3 (e:=5) (by kernel_rfl);obtain⟨d4,p,q⟩:=s4 f4 (e:=5) (by kernel_rfl);obtain⟨d5,r,s⟩:=s4 f5 (e:=3) (by kernel_rfl);obtain⟨y,z⟩:=CQ m;obtain⟨A,B⟩:=CQ q;obtain⟨C,u,a_⟩:=IJ s;refine⟨⟨v,bW,bw,d3,d4,d5,y,A,C⟩,?_,z,m.le,B,q.le,u,s.le,a_,⟨fc,dO⟩,x,Src.nu u⟩
 match vs,hlen with
 | [a,b,c,d,e,f],_=>
  simp at g i j l p r;rw[g,i,j,l,p,r];rfl
set_option maxRecDepth 100000 in
theorem jP.of {v:aa} (h:ly aj w 82 v):∃ (l:Y) (A:O ia),v=l/\jP w l A:=by
 obtain⟨t,rfl,ht⟩:=mT.of h (e:=92) (by kernel_rfl);obtain⟨A,h1,_,h2⟩:=ht.src (c:=ia.c) (sz:=6) (by kernel_rfl) (λa=>oO w a) λfuel vs b=>IK b;exact⟨t,A,rfl,h1,h2⟩
structure Df(w0:J)(B:Nat->Prop)(w:J)(a:ia)(b sv sl:Y):Prop where
 k:a6 B w b (a.key.take 26)
 v:a6 B w sv (a.val.take 26)
 l:Src 1 w sl ((a.l.take 60).map encZ)
 nu:∀q,aB sl q->w0.heap.size<=q->a.l=[]
theorem pT{w0:J}(h0:oO w0 a)(X:Ext w0 w):aQ aj 37 #[.agg a.c.toArray] w (λv w'=>∃d sv sl:Y,v=.agg #[a.kind,a.n,a.after,d,sv,sl]/\Ext w w'/\Df w0 (λq=>w.heap.size<=q) w' a d sv sl):=by
 have h:=h0.ext X;refine okF (af.pT a.kind a.n a.after a.tk a.di a.tl) aA.pT func37 ?_;(delta af.pT q7 U ag bc st ak r1;dsimp only);refine bj (vs:=a.c) rfl λw1 Z H av=>bj (vs:=[(0:Int),(0:Int),(0:Int),(),(),()]) rfl λah z K aw=>aW ?_;obtain⟨s,L⟩:∃s,s=ah.drew:=⟨_,rfl⟩;rw[←L];have t:Ext ah s:=by rw[L];exact cj _
 have u:=(H.trans K).trans t;have ax:=H.size;have ay:=u.size;have az:=t.size;have x:=(Z.ext K).ext t;have aC:=x.lt;have M:¬s.heap.size<=w.heap.size:=by omega
 refine⟨λq=>s.heap.size<=q,by rw[ff];exact M,a.tk,by rw[ff];exact x.cell,by rw[ff];exact M,a.di,by rw[ff];exact x.cell,(CC (h.k.ext u) h.Dd 26 (by decide)).use ?_⟩;rintro _ aD ⟨d,rfl,ok,j,A⟩;refine⟨d,rfl,ad.cF j,(CC ((h.v.ext u).ext j) h.mP 26 (by decide)).use ?_⟩;rintro _ N ⟨sv,rfl,aa,m,B⟩;refine⟨sv,rfl,ad.cF m,?_⟩;have O:=(x.ext j).ext m;have aE:=j.size;rw[ff,ff,ff];obtain⟨bE,bG⟩:=dP O (i:=3) (by show 3<6;decide);refine⟨bE,bG,aW ?_⟩;have eP:=dp N w.heap.size 3 d;have C:=dT O (i:=3) d;generalize N.setCell ⟨w.heap.size,3,none⟩ d=P at eP C;obtain⟨ac,ae⟩:=dP C (i:=4) (by show 4<6;decide);refine⟨ac,ae,aW ?_⟩;have iF:=dp P w.heap.size 4 sv;have o:=dT C (i:=4) sv;generalize P.setCell ⟨w.heap.size,4,none⟩ sv=D at iF o;have ai:=(u.trans j).trans m;have y:Ext w D:=Ext.cn ai (eP.trans iF) (bp _);have Q:∀q,aB d q->¬q=w.heap.size:=λq b e=>by have:=A q b;omega
 have R:∀q,aB sv q->¬q=w.heap.size:=λq b e=>by have:=B q b;omega
 have al:=(ok.ext m).ab (eP.trans iF) Q;have am:=aa.ab (eP.trans iF) R;refine ij (λp=>∃sl:Y,Ext w p/\ad (λq=>q=w.heap.size) D p/\Var p w.heap.size [a.kind,a.n,a.after,d,sv,sl] 92/\Src 1 p sl ((a.l.take 60).map encZ)/\∀q,aB sl q->aB a.tl q)
  (λq b=>⟨a.tl,o.cell,λg=>⟨a.tl,o.cell,⟨by decide,?_⟩,?_⟩,λg=>b _ ⟨a.tl,y,.refl _ _,o,?_,λq h=>h⟩⟩) ?_
 .have g:(a.tl.len:Int)>60:=b1 g
  have:=h.lc;omega
 .have g:(a.tl.len:Int)>60:=b1 g
  obtain⟨an,ao⟩:=dP o (i:=5) (by show 5<6;decide);have S:=Src.cut (h.l.ext y) h.lc (cG 60) I;have pq:=dp D w.heap.size 5 (.slice (aO a.tl.a 1 0 a.tl.cap) (Int.toNat 60-0) (a.tl.cap-0));refine⟨an,ao,aW (b _ ⟨⟨aO a.tl.a 1 0 a.tl.cap,60-0,a.tl.cap-0⟩,Ext.cn y pq (bp _),pq,dT o (i:=5) _,?_,λq b=>Cw.1 b⟩)⟩;have e:((a.l.map encZ).drop (0*1)).take ((60-0)*1)=(a.l.take 60).map encZ:=by rw[mJ];rfl
  rw[e]at S;exact Src.mx S pq λq b e=>by
   have:=h.nu q (Cw.1 b) I;rw[this];rfl
 .have g:¬(a.tl.len:Int)>60:=cu g
  have E:=h.l.len;rw[dL]at E;rw[dM I];exact h.l.ext y
 rintro p ⟨sl,ap,g0,f,aq,T⟩;refine⟨_,f.cell,_,by first|exact f.cell|(rw[ff];exact f.cell),_,by first|exact f.cell|(rw[ff];exact f.cell),d,by first|exact f.cell|(rw[ff];exact f.cell),sv,by first|exact f.cell|(rw[ff];exact f.cell),sl,by first|exact f.cell|(rw[ff];exact f.cell),?_⟩;have aF:=m.size;have aG:=(eP.trans iF).size;have V:Var p w1.heap.size [(0:Int),(0:Int),(0:Int),(),(),()] 92:=(((z.ext t).ext (j.trans m)).ab (eP.trans iF) I).ab g0 I;refine⟨V.cc rfl (λv W=>?_),rfl,cw V (us:=[a.kind,a.n,a.after,d,sv,sl]) rfl rfl λaH r kY _=>⟨_,r.cell,_,by rw[ff];exact r.cell,_,by rw[ff];exact r.cell,d,by rw[ff];exact r.cell,sv,by rw[ff];exact r.cell,sl,by rw[ff];exact r.cell,d,sv,sl,rfl,Ext.cn ap kY I,?_⟩⟩
 .simp only[cU,eL,eO]at W
  rcases W with rfl|rfl|rfl|rfl|rfl|rfl<;>trivial
 .have ar:∀q,aB d q->¬q=w1.heap.size:=λq b e=>by have:=A q b;have:=z.lt;omega
  have au:∀q,aB sv q->¬q=w1.heap.size:=λq b e=>by have:=B q b;have:=z.lt;omega
  have F:=(al.ab g0 Q).ab kY ar;have G:=(am.ab g0 R).ab kY au;exact⟨⟨F.src,F.2.1,λq b=>⟨by have:=A q b;omega,F.lt q b⟩⟩,⟨G.src,G.2.1,λq b=>⟨by have:=B q b;omega,G.lt q b⟩⟩,Src.mx aq kY λq b e=>by
   have:=h.nu q (T q b) I;rw[this];rfl,λq b E=>h0.nu q (T q b) E⟩
end
section
variable {w0 w w':J}{vW a8:Nat}{T ao:aN}{r h k c:Nat}{pages aG:O Nat}{L cV aP:O aI}{V:Nat->cW}{ms l:Y}
theorem se(w:J):Src 1 w bg (aJ []):=(ba.none 1 5 w).src
end
theorem Dg:∀ {a b:O Nat},a.Nodup->(∀x∈a,x∈b)->a.length<=b.length
 | [],_,_,_=>cG _
 |x::a,b,d,hs=>by
  obtain⟨h1,h2⟩:=List.nodup_cons.1 d
  have hx:=hs x (by simp)
  have:=Dg (a:=a) (b:=b.erase x) h2 λy c=>(List.mem_erase_of_ne (λe=>h1 (by rw[←e];exact c))).2 (hs y (jR _ c))
  rw[List.length_erase_of_mem hx]at this
  have:=List.length_pos_of_mem hx
  rw[e8];omega
theorem IL{t:Nat->ai}{l:O Nat}(n:Nat)(h:∀i,i<n->t i=true->i∈l):e0 t n<=l.length:=by
 have h1:∀n,e0 t n=((List.range n).filter t).length:=by
  intro n
  induction n with
  |zero=>rfl
  |succ n a=>
   rw[List.range_succ,kQ,cz,e0,a,o0,List.filter_nil]
   cases t n<;>rfl
 rw[h1];refine Dg (List.nodup_range.filter t) λx hx=>?_;rw[hJ,jx]at hx;exact h x hx.1 hx.2
section
variable {V:Nat->cW}{n gen:Nat}{u:cZ}{g:Nat->ai}{P:Nat->aq aD}{aG:O Nat}{aP:O aI}
theorem g5.sound(h:g5 V n gen u g P aG aP){j:Nat}(b:g j=true):V j=gz\/∃p,dS (j:Int) (V j)=.ok p:=by
 rcases(h.g j).1 b with h1|h1|h1
 .right
  have c:∃bn,P j=some bn:=by
   rcases h.ok with ⟨_,_,h2,_⟩|h2
   .rw[h2]at h1;cases h1
   .exact h2.node _ j h1
  obtain⟨bn,c7⟩:=c;obtain⟨p,a,_⟩:=h.eA j h1 bn c7;exact⟨p,a⟩
 .by_cases e:j=gen%2
  .right
   rw[e];obtain⟨p,a⟩:=yZ h.vY;exact⟨p,a⟩
  .have e:j=1-gen%2:=by omega
   rcases h.yO with h2|⟨d,g',h2,_⟩
   .left;rw[e];exact h2
   .right
    rw[e];obtain⟨p,a⟩:=yZ h2;exact⟨p,a⟩
 .right
  rw[h1];obtain⟨_,_,h2⟩:=h.mp;exact⟨_,h2⟩
theorem g5.low(h:g5 V n gen u g P aG aP):aG.length<=aP.length:=by
 rcases h.ok with ⟨_,_,h2,_⟩|h2
 .rw[h2];exact cG _
 .exact h2.pages.1
theorem IM{w:J}{D:aZ}{l:fC}{bQ:Nat->Prop}(h:cx w D)(o:D.quiet)(B:D.aR<=700000000)(f:D.waits=[])(r:kK (l.an:Nat) (l.batch:Nat) (l.dX:Nat))(b:g5 V D.n gen u g P aG aP)(ei:∀j,g j=true->D.bh.getD j []=V j)(s:gen<=1000000000)(t:aP.length<=4000)(x:∀q,bQ q->q<w.heap.size/\¬bX D q):
 aQ aj 41 #[.pointer (some D.d),.agg l.c.toArray] w (λv w'=>∃S:bZ,v=.tuple #[.pointer (some S.st),(0:Int)]/\de w' S aG aP aG aP/\y0 D l bQ 9000 w w' S/\S.u=u/\S.gen=gen):=by
 have y:∀j,D.dB j=[]:=λj=>by unfold aZ.dB;rw[f];rfl
 have i:∀j,D.now j=D.bh.getD j []:=λj=>by unfold aZ.now;rw[f];rfl
 have C:=b.low;refine(px (D:=D.gk g λ_=> []) (bQ:=bQ) (h.gk _ _) o (by show D.aR<=_;omega) (λj _=>y j) r b (λj a=>.inl ((i j).trans (ei j a))) rfl rfl s t I x).mono ?_;rintro v w' ⟨hc,⟨S,rfl,z,a1,a2,a3,a4,a5,c8,dF,c9,a9,dW,ec,eQ,dA,dz⟩|⟨e,rfl,he,j,a,k,E,m⟩⟩
 .exact⟨S,rfl,z,⟨a1,a5,by rw[a4,a2],c8,dF,c9,a9,dW,ec,eQ,dA,dz,hc⟩,a2,a3⟩
 .exfalso
  have A:(D.gk g λ_=> []).now j=V j:=(i j).trans (ei j a);rw[A]at k m;rcases b.sound a with h1|⟨p,h1⟩
  .exact k (by rw[h1];decide+kernel)
  .rw[m]at h1;cases h1
end
theorem Dh{a:(ai->J->Prop)->Prop}{rest:ai->J->Prop}{w0:J}{b:ai}(c:ai)(h1:b=false->∀k:ai->J->Prop,(∀w',Ext w0 w'->k c w')->a k)(h2:∀w',Ext w0 w'->rest (b||c) w'):
 bt (λk=>(b=true->k true w0)/\(b=false->a k)) rest:=
 ⟨⟨λh=>by have:=h2 w0 (.refl _ _);rwa[h,Bool.true_or]at this,λh=>h1 h rest (λw' hx=>by have:=h2 w' hx;rwa[h,jS]at this)⟩⟩
theorem l_{b d:Nat}(k:b<256)(hd:d<256)(w:J):aQ aj 20 #[.int .u8 (b:Nat),.int .u8 (d:Nat)] w (λv w'=>v=.agg (fC.c ⟨8,1+b%12,1+d%12⟩).toArray/\Ext w w'):=by
 refine af.ER _ _ w _ ?_;(delta af.l_ tg U au r1 bD;dsimp only);have g:IntKind.wrap .i64 (1+IntKind.wrap .i64 (Int.tmod (b:Int) 12))=((1+b%12:Nat):Int):=by
  rw[qG I,bx (n:=(b:Int)%12) I I,bx I I];omega
 have h:IntKind.wrap .u64 (1+IntKind.wrap .u64 (Int.tmod (d:Int) 12))=((1+d%12:Nat):Int):=by
  rw[qG I,gQ (n:=(d:Int)%12) I I,gQ I I];omega
 rw[g,h];refine bj (vs:=[(0:Int),(0:Int),.int .u64 0]) rfl λw1 e i l=>⟨by decide,by decide,e.cc rfl (λv f=>?_),rfl,cw e (us:=fC.c ⟨8,1+b%12,1+d%12⟩) rfl rfl λah a j m=>⟨_,a.cell,_,by rw[aw];exact a.cell,_,by rw[aw];exact a.cell,rfl,Ext.cn i j (bp _)⟩⟩;simp only[cU,eL,eO]at f;rcases f with rfl|rfl|rfl<;>trivial
structure lQ(S:bZ)(m:cS)(L aP:O aI):Prop where
 now:m.now=L
 sure:m.sure=aP
 c1:m.c1=S.pending
 clock:m.clock=S.now
 first:S.pending≠0->m.first=S.first
 bY:m.bY=S.u.bY
 gU:m.gU=S.u.clock
structure dQ(w0 w:J)(bQ:Nat->Prop)(d n:Nat)(l:fC)(S:bZ)(pages:O Nat)(L:O aI)(aG:O Nat)(aP:O aI)(c:Nat):Prop where
 x:Ext w0 w
 at_:de w S pages L aG aP
 E:∀q,S.T.E q↔q=S.st\/bQ q
 ne:¬bQ S.st
 mA:∀q,S.T.M q->w0.heap.size<=q
 lim:S.l=l
 d:S.T.C.D.d=d
 n:S.T.n=n
 aR:S.T.C.D.aR<=20000*(c+1)
 eS:L.length<=c/\aP.length<=c
 gen:S.gen<=c+1
 oP:S.pending<=c
 r:S.T.C.D.r1=true
structure lR(w0 w:J)(bQ:Nat->Prop)(d n:Nat)(l:fC)(a8:Nat)(S:bZ)(pages:O Nat)(L:O aI)(aG:O Nat)(aP:O aI)(m:cS)(c:Nat):Prop where
 s:dQ w0 w bQ d n l S pages L aG aP c
 live:S.failed=false
 y2:bQ a8
 md:eu (λq=>¬S.T.M q) w a8 m
 gO:lQ S m L aP
section
variable {w0 w w':J}{bQ:Nat->Prop}{d n a8 k c:Nat}{l:fC}{S ay:bZ}{pages aG:O Nat}{L aP:O aI}{m:cS}
theorem eu.jQ(d:eu (λq=>¬S.T.M q) w a8 m)(hd:c2 k S ay w w')(he:S.T.E a8)(e:a8≠S.st):eu (λq=>¬ay.T.M q) w' a8 m:=by
 have b:ay.T.M a8:=.inr (.inr (.inr (.inl (by rw[hd.E];exact he))));refine((d.aX (C:=λq=>¬S.T.M q/\¬ay.T.M q) (λq g c=>⟨c,λh1=>?_⟩) λh=>h.2 b).ab hd.ab (λa=>e (a.2 he)) λq f _ a=>f.1 a.1).aX (λ_ _ h=>h.2) λh=>h b;rcases hd.c5 q h1 with h|h
 .exact c h
 .omega
theorem dQ.gP(h:dQ w0 w bQ d n l S pages L aG aP c){q:Nat}(a:bQ q):S.T.E q/\q≠S.st:=⟨(h.E q).2 (.inr a),λe=>h.ne (e▸a)⟩
theorem dQ.low(h:dQ w0 w bQ d n l S pages L aG aP c)(hc:c<=4000):pages.length<=L.length:=(h.at_.ok.low (by have:=h.eS.1;omega)).2
theorem dQ.ext(h:dQ w0 w bQ d n l S pages L aG aP c)(hx:Ext w w'):dQ w0 w' bQ d n l S pages L aG aP c:={h with x:=h.x.trans hx,at_:=h.at_.ext hx}
theorem dQ.mono{e:Nat}(h:dQ w0 w bQ d n l S pages L aG aP c)(he:c<=e):dQ w0 w bQ d n l S pages L aG aP e:={h with aR:=by have:=h.aR;omega,eS:=⟨by have:=h.eS.1;omega,by have:=h.eS.2;omega⟩,gen:=by have:=h.gen;omega,oP:=by have:=h.oP;omega}
theorem lR.ext(h:lR w0 w bQ d n l a8 S pages L aG aP m c)(hx:Ext w w'):lR w0 w' bQ d n l a8 S pages L aG aP m c:=⟨h.s.ext hx,h.live,h.y2,h.md.ext hx,h.gO⟩
theorem dQ.kh{iQ:Nat}(h:dQ w0 w bQ d n l S pages L aG aP c)(a:bQ iQ)(hc:ad (λq=>q=iQ) w w'):dQ w0 w' bQ d n l S pages L aG aP c:=
 {h with x:=Ext.dy h.x hc λq e=>by rw[e];exact h.mA _ (.inr (.inr (.inr (.inl (h.gP a).1)))),at_:=h.at_.kh (h.gP a).1 (h.gP a).2 hc}
theorem dQ.step{ek dR:O Nat}{cV dv:O aI}(h:dQ w0 w bQ d n l S pages L aG aP c)(hs:de w' ay ek cV dR dv)(hd:c2 k S ay w w')(b:k<=20000)(hf:cV.length<=c+1/\dv.length<=c+1)(hg:ay.gen<=S.gen+1)(e:ay.pending<=S.pending+1):dQ w0 w' bQ d n l ay ek cV dR dv (c+1):=
 ⟨Ext.dy h.x hd.ab λq a=>h.mA q a.1,hs,λq=>by rw[hd.E,hd.st];exact h.E q,by rw[hd.st];exact h.ne,λq a=>by
  rcases hd.c5 q a with h1|h1
  .exact h.mA q h1
  .have:=h.x.size;omega,hd.l.trans h.lim,hd.d.trans h.d,hd.n.trans h.n,by have:=hd.aR;have:=h.aR;omega,hf,by have:=h.gen;omega,by have:=h.oP;omega,hd.r.trans h.r⟩
theorem lR.v(h:lR w0 w bQ d n l a8 S pages L aG aP m c):Var w a8 m.c 90:=h.md.v
end
section
variable {w0 w w' w1 ah:J}{bQ:Nat->Prop}{d n a8 k c:Nat}{l:fC}{S ay:bZ}{pages ek aG dR:O Nat}{L cV aP dv:O aI}{m:cS}{v:aa}
def cS.put(m:cS)(s:Y)(L:O aI):cS:={m with gi:=s,now:=L}
theorem a6.jQ{s:Y}{x:Key}(b:a6 (λq=>¬S.T.M q) w s x)(hd:c2 k S ay w w'):a6 (λq=>¬ay.T.M q) w' s x:=
 a6.aX (a6.ab (a6.aX (C:=λq=>¬S.T.M q/\¬ay.T.M q) b λq f a=>⟨a,λc=>by rcases hd.c5 q c with h|h;exact a h;omega⟩) hd.ab λq d e=>d.1 e.1) λ_ _ h=>h.2
theorem h_.Di{c:Prop}(h:h_ c S ay pages L aG aP v w')(a:S.T.C.D.quiet):v=.int .i64 0/\c/\de w' ay pages L pages L/\ay.failed=false/\ay.gen=S.gen+1/\ay.u.clock=S.now/\ay.u.bY=S.u.bY+1/\ay.pending=0:=by
 rcases h with h|⟨_,h,_⟩
 .exact h
 .exact absurd a h
theorem eu.put{B:Nat->Prop}{a:Y}{M:O aI}(h:eu B w a8 m)(hc:ad (λq=>q=a8) w w')(b:g2 m.rest 90 B w' a8 a M):eu B w' a8 (m.put a M):=
 ⟨b,h.sure.ab hc λq c _ e=>h.now.nb (e▸c),h.num⟩
theorem wa(h:de w S pages L aG aP):∀q,w.heap.size<=q->¬S.T.M q:=λq b a=>by have:=h.t.lt a;omega
end
section
variable {w0 w w' w1 ah:J}{bQ bd:Nat->Prop}{d n a8 k c i:Nat}{l:fC}{S ay:bZ}{pages ek aG dR bB:O Nat}{L cV aP dv bf:O aI}{m:cS}{v:aa}{az:aZ}{ls:Y}{A:O ia}
theorem de.grow(h:de w S pages L aG aP)(hx:Ext w w'){b:Nat->Prop}(c:∀q,b q->S.T.E q\/(w.heap.size<=q/\q<w'.heap.size))(hs:b S.st):de w' (S.b7 (S.T.ck b S.T.G)) pages L aG aP:=by
 have ht:bL w' (S.T.ck b S.T.G):=h.t.grow (W:=λ_=>False) hx (λ_ d=>d.elim) (λq a=>(c q a).imp id .inr) (λq a=>.inr (.inl a)) λq a hg=>by
  rcases c q a with h1|h1
  .exact(h.t.c6 q h1).2.2 hg
  .have:=h.t.lt (q:=q) (.inr (.inr (.inr (.inr hg))));omega
 exact⟨⟨h.v.ext hx,ht,hs,h.fU,h.gen,h.num,h.bI⟩,h.ok,h.bn,h.f,h.two,h.fT,h.keys,h.c1,h.live,h.dead⟩
def bZ.own(S:bZ)(bd:Nat->Prop):bZ:=S.b7 (S.T.ck (λq=>q=S.st\/bd q) S.T.G)
theorem bZ.y3{q:Nat}(b:∀q,S.T.E q↔q=S.st\/bQ q)(h1:∀q,bd q->bQ q\/k<=q)(a:(S.own bd).T.M q):S.T.M q\/k<=q:=by
 rcases a with a|a|a|a|a
 .exact .inl (.inl a)
 .exact .inl (.inr (.inl a))
 .exact .inl (.inr (.inr (.inl a)))
 .rcases(show q=S.st\/bd q from a) with h|h
  .exact .inl (.inr (.inr (.inr (.inl ((b q).2 (.inl h))))))
  .rcases h1 q h with h|h
   .exact .inl (.inr (.inr (.inr (.inl ((b q).2 (.inr h))))))
   .exact .inr h
 .exact .inl (.inr (.inr (.inr (.inr a))))
theorem dQ.grow(h:dQ w0 w bQ d n l S pages L aG aP c)(hx:Ext w w')(b:∀q,bd q->bQ q\/(w.heap.size<=q/\q<w'.heap.size)):dQ w0 w' bd d n l (S.own bd) pages L aG aP c:=
 ⟨h.x.trans hx,h.at_.grow hx (λq a=>by
  rcases a with h1|h1
  .exact .inl ((h.E q).2 (.inl h1))
  .exact(b q h1).imp (λh2=>(h.E q).2 (.inr h2)) id) (.inl rfl),λq=>Iff.rfl,λhs=>by
  have hs:bd S.st:=hs
  rcases b _ hs with h1|h1
  .exact h.ne h1
  .have:=h.at_.t.lt (q:=S.st) (.inr (.inr (.inr (.inl h.at_.es))));omega,λq a=>by
  rcases bZ.y3 h.E (λq a=>(b q a).imp id And.left) a with h1|h1
  .exact h.mA q h1
  .have:=h.x.size;omega,h.lim,h.d,h.n,h.aR,h.eS,h.gen,h.oP,h.r⟩
theorem de.bh(h:de w S pages L aG aP)(a:S.failed=false)(b:yY S.T.C.D az):∀j,S.T.g j=true->az.bh.getD j []=S.V j:=λj c=>by
 rcases b.bh j with h1|h1
 .exact h1
 .have h2:=h.t.ca.inv.kE j (h.bI j c)
  rw[(h.live a).2.1]at h2
  rw[h2]at h1;cases h1
theorem dQ.found{V:Nat->cW}{gen:Nat}{u:cZ}{g:Nat->ai}{P:Nat->aq aD}(h:dQ w0 w bQ d n l S pages L aG aP c)(hd:cx w1 az)(e:yY S.T.C.D az)(i:ad (bX S.T.C.D) w w1)(H:g5 V n gen u g P bB bf)(ei:∀j,g j=true->az.bh.getD j []=V j)(J:kK (l.an:Nat) (l.batch:Nat) (l.dX:Nat))(Q:gen<=S.gen+1)(hc:c<=3000)(s:bf.length<=c+1):
 aQ aj 41 #[.pointer (some d),.agg l.c.toArray] w1 (λv ah=>∃cp:bZ,v=.tuple #[.pointer (some cp.st),(0:Int)]/\dQ w0 ah bQ d n l cp bB bf bB bf (c+1)/\cp.failed=false/\cp.T.C.D.quiet/\cp.u=u/\cp.gen=gen/\cp.pending=0/\cp.now=u.clock/\
  ∀a8 m,bQ a8->eu (λq=>¬S.T.M q) w a8 m->eu (λq=>¬cp.T.M q) ah a8 m):=by
 have R:=h.aR;have U:=h.gen;have y:az.n=n:=e.n.trans (h.at_.t.n.trans h.n);have W:=i.size;have k:∀q,bX az q->S.T.M q:=λq a=>.inl (.inr (.inr (e.c5 q a)));have o:∀q,bQ q->S.T.M q:=λq a=>.inr (.inr (.inr (.inl (h.gP a).1)));have p:∀q,bQ q->¬bX S.T.C.D q:=λq a hf=>h.at_.t.iN (h.gP a).1 (.inl (.inr (.inr hf)));have z:=IM (l:=l) (bQ:=bQ) hd e.q (by rw[e.aR];omega) e.waits J (by rw[y];exact H) ei I I λq a=>⟨by have:=h.at_.t.lt (o q a);omega,λhf=>p q a (e.c5 q hf)⟩;rw[e.d,h.d]at z;refine z.mono ?_;rintro v ah ⟨cp,rfl,K,b,hu,hg⟩;have A:Ext w0 w1:=Ext.dy h.x i λq a=>h.mA q (.inl (.inr (.inr a)));have N:Ext w0 ah:=Ext.dy A b.ab λq a=>h.mA q (k q a);have B:∀q,cp.T.M q->S.T.M q\/w1.heap.size<=q:=λq a=>by
  rcases b.M q a with h1|h1|h1
  .exact .inl (k q h1)
  .exact .inl (o q h1)
  .exact .inr h1
 refine⟨cp,rfl,⟨N,K,b.E,λhs=>?_,λq a=>?_,b.l,b.d.trans (e.d.trans h.d),b.n.trans y,?_,⟨s,s⟩,I,by rw[b.c1];omega,b.r.trans e.r⟩,b.live,b.q,hu,hg,b.c1,by rw[b.now,hu],λa8 m he O=>?_⟩
 .have:=h.at_.t.lt (o _ hs)
  have:=b.st;omega
 .rcases B q a with h1|h1
  .exact h.mA q h1
  .have:=A.size;omega
 .have:=b.aR
  have:=e.aR;omega
 .have F:cp.T.M a8:=.inr (.inr (.inr (.inl ((b.E a8).2 (.inr he)))))
  have h1:=O.ab i (p a8 he) λq a _ hf=>a (.inl (.inr (.inr hf)));have h2:=h1.aX (C:=λq=>¬S.T.M q/\¬cp.T.M q) (λq X G=>⟨G,λa=>by
   rcases B q a with f|f
   .exact G f
   .omega⟩) λf=>f.2 F
  exact(h2.ab b.ab (λhf=>p a8 he (e.c5 a8 hf)) λq a _ hf=>a.1 (k q hf)).aX (λ_ _ h=>h.2) λh=>h F
theorem Dj(ar:jP w0 ls A)(hx:Ext w0 w)(hi:i<A.length){K:J->J->Prop}
 (C:∀ (b c:J) (e sv sl:Y),Ext w c->w.heap.size<=b.heap.size->Var c b.heap.size [.int .i64 A[i].kind,.int .i64 A[i].n,.int .i64 A[i].after,e,sv,sl] 92->Df w0 (λq=>w.heap.size<=q) c A[i] e sv sl->K b c):
 ∃d:ae,ls.a=some d/\((0:Int)<=(i:Int)/\(i:Int)<(ls.len:Int))/\
 ∃n27:Int,w.cell? (d.add (Int.toNat (i:Int)*6))=some (.int .i64 n27)/\
 ∃n28:Int,w.cell? ((d.add (Int.toNat (i:Int)*6)).add 1)=some (.int .i64 n28)/\
 ∃n29:Int,w.cell? ((d.add (Int.toNat (i:Int)*6)).add 2)=some (.int .i64 n29)/\
 ∃g:Y,w.cell? ((d.add (Int.toNat (i:Int)*6)).add 3)=some (.slice g.a g.len g.cap)/\
 ∃h:Y,w.cell? ((d.add (Int.toNat (i:Int)*6)).add 4)=some (.slice h.a h.len h.cap)/\
 ∃j:Y,w.cell? ((d.add (Int.toNat (i:Int)*6)).add 5)=some (.slice j.a j.len j.cap)/\
 Calls aj 37 #[.agg #[n27,n28,n29,g,h,j]] w λD b=>
 ∃n35:Int,∃n36:Int,∃n37:Int,∃o:Y,∃p:Y,∃r:Y,D=.returned (
  .agg #[n35,n36,n37,o,p,r])
 /\al (b.alloc (.cells #[(0:Int),(0:Int),(0:Int),(),(),()] 92))
 λs=>bA s b.heap.size [n35,n36,n37,o,p,r]/\
 (6:Nat)=6/\al (setCells s b.heap.size 0 [n35,n36,n37,o,p,r])
 λc=>K b c:=by
 obtain⟨a,E,F,f⟩:=(ar.ext hx).at hi;have G:=ar.ok A[i] (cE hi);have h0:=f 0 _ rfl;rw[add_add,kN]at h0;refine⟨a,E,F,_,h0,_,f 1 _ rfl,_,f 2 _ rfl,(A[i]).tk,f 3 _ rfl,(A[i]).di,f 4 _ rfl,(A[i]).tl,f 5 _ rfl,(pT G hx).use ?_⟩;rintro _ b ⟨e,sv,sl,rfl,u,m⟩;refine⟨_,_,_,e,sv,sl,rfl,bj (vs:=[(0:Int),(0:Int),(0:Int),(),(),()]) rfl λs x y I=>⟨x.cc rfl (λv z=>?_),rfl,cw x (us:=[.int .i64 A[i].kind,.int .i64 A[i].n,.int .i64 A[i].after,e,sv,sl]) rfl rfl λc H B _=>C b c e sv sl (u.trans (Ext.cn y B (bp _))) u.size H ?_⟩⟩
 .simp only[cU,eL,eO]at z
  rcases z with rfl|rfl|rfl|rfl|rfl|rfl<;>trivial
 .have t:Ext b c:=Ext.cn y B (bp _)
  exact⟨a6.ext m.k t,a6.ext m.v t,m.l.ext t,m.nu⟩
end
def ld:cS:=⟨[],[],bg,bg,0,0,0,0,0⟩
section
variable {w0 w w' w1 ah:J}{bQ bd:Nat->Prop}{d n a8 k c i:Nat}{l:fC}{S ay:bZ}{pages ek aG dR bB:O Nat}{L cV aP dv bf:O aI}{m:cS}{v:aa}{az:aZ}{ls:Y}{A:O ia}
theorem y4{q b k:Nat}(h:aB ⟨some b,k,k⟩ q):q=b:=by
 obtain⟨A,ar,rfl⟩:=h
 cases ar;rfl
theorem de.room(h:de w S pages L aG aP):S.T.n<=cl S.T+pages.length+aG.length+3:=by
 have h1:=IL (t:=λi=>S.T.f i||S.T.g i) (l:=pages++aG++ [0,1,S.u.map]) S.T.n λi _ hi=>by
  simp only[iS]at hi;simp only[cT,cU,eL,eO];rcases hi with hi|hi
  .rcases(h.f i).1 hi with h2|h2|h2
   .exact .inl (.inl h2)
   .exact .inr I
   .exact .inr (.inr (.inr h2))
  .rcases(h.fU.g i).1 hi with h2|h2|h2
   .exact .inl (.inr h2)
   .exact .inr I
   .exact .inr (.inr (.inr h2))
 simp only[cz,e8,jD]at h1;unfold cl;omega
theorem dQ.new{D:aZ}(hx:Ext w0 w)(e:de w' S [] [] [] [])(a:y0 D l bQ 4 w w' S)(hu:S.u=kg)(hg:S.gen=1)(b:∀q,bX D q->w0.heap.size<=q)(c:∀q,bQ q->w0.heap.size<=q/\q<w.heap.size)(i:D.aR=0)(f:D.r1=true):dQ w0 w' bQ D.d D.n l S [] [] [] [] 0:=
 ⟨Ext.dy hx a.ab b,e,a.E,λh=>by have:=(c _ h).2;have:=a.st;omega,λq g=>by
  rcases a.M q g with h1|h1|h1
  .exact b q h1
  .exact(c q h1).1
  .have:=hx.size;omega,a.l,a.d,a.n,by have:=a.aR;omega,⟨bp _,bp _⟩,I,by rw[a.c1];exact bp _,a.r.trans f⟩
theorem Dk(w:J):aQ aj 26 #[] w (λv w'=>v=true/\Ext w w'):=by
 refine af.ES w _ ?_;(delta af.rF du q6 ak z9 U aC aU kx;dsimp only);refine(nU (n:=40) I I w).use ?_;rintro _ w1 ⟨d,lb,mr,rfl,hd,Z,aa⟩;refine⟨_,0,rfl,(l_ (b:=9) (d:=9) I I w1).use ?_⟩;rintro _ aY ⟨rfl,F⟩;have r:kK (((⟨8,1+9%12,1+9%12⟩:fC).an:Nat):Int) (((⟨8,1+9%12,1+9%12⟩:fC).batch:Nat):Int) (((⟨8,1+9%12,1+9%12⟩:fC).dX:Nat):Int):=by unfold kK;decide
 generalize G:(⟨8,1+9%12,1+9%12⟩:fC)=H at r;have ab:H.batch=10:=by rw[←G]
 have ac:=hd.ext F;refine⟨_,_,_,rfl,(Da (l:=H) (bQ:=λ_=>False) ac r (λk=>⟨.inl rfl,.inl rfl⟩) rfl (by show 0<=999999000;omega) (λq h=>h.elim)).use ?_⟩;rintro _ s ⟨j,rfl,ae,f,hu,hg⟩;have u:=dQ.new (w0:=w) (Z.trans F) ae f hu hg (λq a=>aa q a) (λq h=>h.elim) rfl rfl;refine⟨_,0,rfl,λh=>(by cases h),λ_=>?_⟩;obtain⟨m,bE,bG,ag,aZ⟩:=vv s [97];obtain⟨y,ah,ai,K,a0⟩:=vv m [49];have g:=u.ext (ag.trans K);have al:∀q,aB ⟨some s.heap.size,1,1⟩ q->q<y.heap.size/\¬j.T.M q:=λq a=>by
  have e:=y4 a;exact⟨I,λc=>by have:=u.at_.t.lt c;omega⟩
 have am:∀q,aB ⟨some m.heap.size,1,1⟩ q->q<y.heap.size/\¬j.T.M q:=λq a=>by
  have e:=y4 a;exact⟨I,λc=>by have:=u.at_.t.lt c;omega⟩
 have L:=f.q;refine aW ⟨⟨some s.heap.size,1,1⟩,m,bE,aW ⟨⟨some m.heap.size,1,1⟩,y,ah,(yU (key:=[97]) (val:=[49]) g.at_ (by decide) (by rw[f.c1];decide) (by have:=g.aR;omega) (by rw[hg];decide) (bG.ext K) al ai am).use ?_⟩⟩;rintro v a1 (⟨_,ao,_⟩|⟨_,⟨hf,_⟩|⟨_,a2,A,a3,⟨_,N,_⟩|⟨_,pages,c⟩⟩⟩)
 .exact absurd ⟨⟨by decide,by decide⟩,by decide⟩ ao
 .rw[f.live]at hf;cases hf
 .exfalso
  have h1:=g.at_.room;rw[g.n]at h1;have e:(oE 40 d lb mr).n=40:=by show(List.replicate 40 gz).length=40;rw[mL]
  have ap:j.T.aH=0:=by
   rcases g.at_.ok with ⟨h2,_⟩|h2
   .exact h2
   .have:=h2.pages.2.1;simp at this
  unfold fm at N;rw[e]at h1;rw[ap]at N;simp only[jD]at h1;omega
 have aq:j.pending=0:=f.c1;rcases c with ⟨rfl,_,B,ar,au,a4,a5,_⟩|c
 rotate_left
 .have:=(c.Di L).2.1
  rw[f.l,ab,aq]at this;omega
 have av:e4 [] [97] [49]=[(([97],[49]):aI)]:=by decide
 rw[av]at B;have O:=g.step B A I ⟨by decide,by decide⟩ I I;have aw:=A.q L;have P:=yS B (by decide) (by have:=O.aR;omega) (by rw[au,hg];decide);rw[A.st]at P;refine⟨0,rfl,P.use ?_⟩;rintro v Q (⟨hf,_⟩|⟨_,cp,ax,a6,hx⟩)
 .rw[ar]at hf;cases hf
 obtain⟨rfl,_,o,ay,a7,_,_,a8⟩:=hx.Di aw;have p:=O.step o ax I ⟨by decide,by decide⟩ I I;have R:=Iw (l:=bg) (zs:=[]) o.t.ca.raw.dev (se Q) (λq a=>(fZ q a).elim) (by decide) (λz aA=>(by cases aA)) (by have:=p.aR;omega);rw[p.d]at R;refine⟨0,rfl,R.use ?_⟩;rintro _ aD ⟨rfl,az,aF,S,aG⟩;refine⟨rfl,(l_ (b:=9) (d:=9) I I aD).use ?_⟩;rintro _ aJ ⟨rfl,V⟩;rw[G];have aK:ad (bX cp.T.C.D) Q aJ:=aG.trans (V.mono λ_ _ h=>h.elim);have W:=o.fU;rw[p.n]at W;refine⟨_,_,_,rfl,(p.found (aF.ext V) S aK W (o.bh ay S) r I (by decide) (by decide)).use ?_⟩;rintro _ X ⟨eT,rfl,Y,a9,aL,_⟩;obtain⟨aM,bW,bw,aN,a_⟩:=vv X [97];have E:=Y.ext aN;refine⟨_,0,rfl,aW ⟨⟨some X.heap.size,1,1⟩,aM,bW,(Ij (key:=[97]) E.at_ (by have:=E.aR;omega) bw λq a=>?_).use ?_⟩⟩
 .have e:=y4 a
  exact⟨I,λc=>by have:=Y.at_.t.lt c;omega⟩
 rintro v aO ⟨aE,aP,aS,_,_,_,_,aT⟩;have aV:=E.step aP aS I ⟨by decide,by decide⟩ (by show eT.gen<=eT.gen+1;omega) (by show eT.pending<=eT.pending+1;omega);rcases aT with ⟨_,i⟩|⟨t,x,rfl,_,i,ht⟩|⟨_,_,i⟩
 .have aX:eB [(([97],[49]):aI)] [97]=none:=i ⟨by decide,by decide⟩
  exact absurd aX (by decide)
 .have e:eB [(([97],[49]):aI)] [97]=some [49]:=by decide
  rw[e]at i;obtain rfl:=Option.some.inj i;refine⟨t,true,0,rfl,cd (λb w'=>b=true/\aO=w') (λq a=>⟨λ_=>⟨_,_,mh ht.1,a _ _ ⟨?_,rfl⟩⟩,λh=>(by cases h)⟩) ?_⟩
  .exact beq_self_eq_true _
  .rintro _ _ ⟨rfl,rfl⟩
   exact⟨rfl,aV.x⟩
 .exact absurd (aL.1 30) i
end
section
variable {w0 w w' w1 ah:J}{bQ bd:Nat->Prop}{d n a8 k c i:Nat}{l:fC}{S ay:bZ}{pages ek aG dR bB:O Nat}{L cV aP dv bf:O aI}{m:cS}{v:aa}{az:aZ}{ls:Y}{A:O ia}
theorem Dl(B:Nat->Prop)(w:J):eV B w bg []:=⟨[],(ba.none 2 167 w).src,bp _,λq a=>(fZ q a).elim,rfl,λi h=>by simp at h⟩
def kM(b:Nat):fC:=⟨8,1+b%12,1+b/16%12⟩
theorem IN(b:Nat):kK ((kM b).an:Nat) ((kM b).batch:Nat) ((kM b).dX:Nat):=by
 unfold kK kM;have h1:b%12<12:=g6 _ (by decide);have h2:b/16%12<12:=g6 _ (by decide);show(8:Int)<=((8:Nat):Int)/\((8:Nat):Int)<=64/\(1:Int)<=((1+b%12:Nat):Int)/\((1+b%12:Nat):Int)<=1000/\(1:Int)<=((1+b/16%12:Nat):Int)/\((1+b/16%12:Nat):Int)<=1048576;omega
theorem IP{b:Nat}(a:b<256):IntKind.wrap .u8 (Int.tdiv (b:Int) 16)=((b/16:Nat):Int):=by
 rw[Int.tdiv_eq_ediv_of_nonneg I];have h:((b:Int)/16)=((b/16:Nat):Int):=by omega
 rw[h];have h2:b/16<256:=by omega
 show((b/16:Nat):Int)%256=_;omega
theorem IQ{l:fC}{K:J->Prop}(e:∀w',Var w' w.heap.size l.c 46->Ext w w'->K w'):
 al (w.alloc (.cells #[(0:Int),(0:Int),.int .u64 0] 46)) λa=>bA a w.heap.size [l.an,l.batch,.int .u64 (l.dX:Nat)]/\(3:Nat)=3/\al (setCells a w.heap.size 0 [l.an,l.batch,.int .u64 (l.dX:Nat)]) K:=
 bj (vs:=[(0:Int),(0:Int),.int .u64 0]) rfl λa b f j=>⟨b.cc rfl (λv d=>by
  simp only[cU,eL,eO]at d
  rcases d with rfl|rfl|rfl<;>trivial),rfl,cw b (us:=l.c) rfl rfl λg h i _=>e g h (Ext.cn f i (bp _))⟩
end
def wb(c:Nat)(S ay:bZ)(m m':cS):Prop:=
 ay.u=S.u/\ay.gen=S.gen/\(∀j,S.T.g j=true->ay.V j=S.V j)/\
 (((∀j,S.T.g j=true->ay.T.C.D.ep j=[])/\(m'.bY=m.bY->m'.sure=m.sure/\m'.gU=m.gU))\/(m'.bY=S.u.bY+1/\m'.sure.length<=c+1/\∃pages,yP ay S.gen S.T.g pages m'.sure m'.gU m'.bY))
section
variable {w0 w w' w1 ah:J}{bQ bd:Nat->Prop}{d n a8 nb k c i:Nat}{l:fC}{S ay:bZ}{pages ek aG dR:O Nat}{L cV aP dv:O aI}{m m':cS}{v:aa}
theorem h_.y5{c:Prop}{e:Int}(h:h_ c S ay pages L aG aP e w')(b:L.length<=k+1)(he:e≠0)(hg:m.bY=S.u.bY)(h1:c->m'.sure=L/\m'.gU=S.now/\m'.bY=S.u.bY+1)(h2:¬c->m'.bY=m.bY/\m'.sure=m.sure/\m'.gU=m.gU):e=3/\de w' ay aG aP aG aP/\ay.failed=true/\wb k S ay m m':=by
 rcases h with ⟨h,_⟩|⟨d,_,hs,hf,hu,f,ei,a⟩
 .cases h;exact absurd rfl he
 .refine⟨by cases d;rfl,hs,hf,hu,f,ei,?_⟩
  rcases a with a|⟨hc,a⟩
  .refine .inl ⟨a,λg=>?_⟩
   by_cases hc:c
   .have:=(h1 hc).2.2;omega
   .exact(h2 hc).2
  .obtain⟨a1,a2,a3⟩:=h1 hc
   exact .inr ⟨a3,by rw[a1];exact b,pages,by rw[a1,a2,a3];exact a⟩
theorem cS.due{s:Y}{b:Nat}(h:b<=m.c1+1):((m.put s L).more b).sure=L/\((m.put s L).more b).gU=m.clock/\((m.put s L).more b).bY=m.bY+1:=by
 have e:(m.put s L).more b=(m.put s L).lO.nr:=if_pos h;rw[e];exact⟨rfl,rfl,rfl⟩
theorem cS.Dm{s:Y}{b:Nat}(h:¬b<=m.c1+1):((m.put s L).more b).bY=m.bY/\((m.put s L).more b).sure=m.sure/\((m.put s L).more b).gU=m.gU:=by
 have e:(m.put s L).more b=(m.put s L).lO:=if_neg h;rw[e];exact⟨rfl,rfl,rfl⟩
def Told(c:Nat)(S ay:bZ)(m m':cS)(e:Int)(ek aG:O Nat)(cV aP:O aI)(dR:O Nat)(dv:O aI):Prop:=
 (ay.failed=false/\(e=0\/e=1\/e=2)/\lQ ay m' cV dv)\/(ay.failed=true/\ek=aG/\cV=aP/\dR=aG/\dv=aP/\wb c S ay m m')
theorem lR.Dn{e:Int}(h:lR w0 w bQ d n l a8 S pages L aG aP m c)(hd:c2 k S ay w w')(o:k<=20000)(r:ay.now=S.now)(i:mz S ay ek cV aG aP e w')(j:cV.length<=c+1):
 ∃t bz dR dv,dQ w0 w' bQ d n l ay t bz dR dv (c+1)/\eu (λq=>¬ay.T.M q) w' a8 m/\∀f,Told c S ay m ((m.put f cV).more l.batch) e t aG bz aP dR dv:=by
 have p:=h.md.jQ hd (h.s.gP h.y2).1 (h.s.gP h.y2).2;have a:=h.gO;have B:=h.s.eS.2;have C:l.batch=S.l.batch:=by rw[h.s.lim]
 rcases i with ⟨he,v,hs,hf,hg,hu,g,x,_⟩|i
 .obtain rfl:e=0:=by cases he;rfl
  refine⟨ek,cV,aG,aP,h.s.step hs hd o ⟨j,I⟩ I I,p,λf=>.inl ⟨hf,.inl rfl,?_⟩⟩;have e:(m.put f cV).more l.batch=(m.put f cV).lO:=by
   unfold cS.more;rw[if_neg];show¬l.batch<=m.c1+1;rw[a.c1];omega
  rw[e];refine⟨rfl,a.sure,?_,?_,λ_=>?_,?_,?_⟩
  .show m.c1+1=_
   rw[a.c1,g]
  .exact a.clock.trans r.symm
  .show(if m.c1=0 then m.clock else m.first)=_
   rw[x,a.c1];by_cases e:S.pending=0
   .rw[if_pos e,if_pos e,a.clock]
   .rw[if_neg e,if_neg e,a.first e]
  .rw[hu];exact a.bY
  .rw[hu];exact a.gU
 .by_cases he:e=0
  .subst he
   rcases i with ⟨_,v,hs,hf,hg,y,z,g⟩|⟨A,_⟩
   rotate_left
   .cases A
   refine⟨ek,cV,ek,cV,h.s.step hs hd o ⟨j,j⟩ I I,p,λf=>.inl ⟨hf,.inl rfl,?_⟩⟩;have u:l.batch<=m.c1+1:=by rw[a.c1];omega
   obtain⟨a1,a2,a3⟩:=cS.due (m:=m) (s:=f) (L:=cV) u;have e:(m.put f cV).more l.batch=(m.put f cV).lO.nr:=if_pos u;rw[e];exact⟨rfl,rfl,g.symm,a.clock.trans r.symm,λh=>absurd g h,by show m.bY+1=_;rw[z,a.bY],by show m.clock=_;rw[y,a.clock]⟩
  .have key:=λf=>i.y5 (m:=m) (m':=(m.put f cV).more l.batch) j he a.bY (λhc=>by
    obtain⟨a1,a2,a3⟩:=cS.due (m:=m) (s:=f) (L:=cV) (b:=l.batch) (by rw[a.c1];omega);exact⟨a1,by rw[a2,a.clock],by rw[a3,a.bY]⟩) λhc=>cS.Dm (by rw[a.c1];omega)
   obtain⟨_,hs,hf,_,D,_⟩:=key bg;have g:=(hs.dead hf).2.2.2;exact⟨aG,aP,aG,aP,h.s.step hs hd o ⟨I,I⟩ I I,p,λf=>.inr ⟨hf,rfl,rfl,rfl,rfl,(key f).2.2.2⟩⟩
theorem eV.own{s:Y}{M:O aI}(a:eV (λq=>¬S.T.M q) w s M)(b:∀q,S.T.E q↔q=S.st\/bQ q)(h1:∀q,bd q->bQ q\/w.heap.size<=q):eV (λq=>¬(S.own bd).T.M q) w s M:=
 a.aX λq e c d=>by
  rcases bZ.y3 b h1 d with h|h
  .exact c h
  .omega
def da(bQ:Nat->Prop)(S:bZ)(w:J)(ay:bZ)(w':J):Prop:=∀iQ a,bQ iQ->eu (λq=>¬S.T.M q) w iQ a->eu (λq=>¬ay.T.M q) w' iQ a
theorem da.ext(h:da bQ S w ay w1)(hx:Ext w1 ah):da bQ S w ay ah:=λq m he a=>(h q m he a).ext hx
theorem da.ab(h:da bQ S w ay w1)(hc:ad (λq=>q=nb) w1 ah)(a:∀q,bQ q->q≠nb)(b:ay.T.M nb):da bQ S w ay ah:=λq m he c=>(h q m he c).ab hc (a q he) λk d _ e=>d (by rw[e];exact b)
theorem da.jQ{cp:bZ}(h:da bQ S w ay w1)(hd:c2 k ay cp w1 ah)(a:∀q,bQ q->ay.T.E q/\q≠ay.st):da bQ S w cp ah:=λq m he b=>(h q m he b).jQ hd (a q he).1 (a q he).2
def Dp(w0:J)(bQ:Nat->Prop)(d n:Nat)(l:fC)(a8:Nat)(S:bZ)(aG:O Nat)(aP:O aI)(m:cS)(c:Nat)(w:J)(v:aa)(w':J):Prop:=
 ∃ (ay:bZ) (ek dR:O Nat) (cV dv:O aI) (m':cS) (ok:ai) (bd:Nat->Prop),v=.tuple #[ok,.agg m'.c.toArray]/\(∀q,bQ q->bd q)/\(∀q,bd q->bQ q\/w.heap.size<=q)/\dQ w0 w' bd d n l ay ek cV dR dv (c+1)/\ay.st=S.st/\da bQ S w ay w'/\
  (∃nb,w.heap.size<=nb/\eu (λq=>¬ay.T.M q) w' nb m')/\(∃e,(ok=(!ay.failed))/\Told c S ay m m' e ek aG cV aP dR dv)
theorem od{D sv sl:Y}{key val:Key}{kind nn after:Int}(h:lR w0 w bQ d n l a8 S pages L aG aP m c)(hc:c<=900)(b9:a6 (λq=>¬S.T.M q) w D key)(P:a6 (λq=>¬S.T.M q) w sv val)(eA:key.length<=26)(eC:val.length<=26):
 aQ aj 47 #[.pointer (some S.st),.pointer (some a8),.agg #[kind,nn,after,D,sv,sl],.agg l.c.toArray] w (Dp w0 bQ d n l a8 S aG aP m c w):=by
 refine af.ET _ _ kind nn after D sv sl (l.an:Nat) (l.batch:Nat) (l.dX:Nat) w _ ?_;(delta af.od q8 kv U ag gZ aC r1 ak jZ aM aU bD xc;dsimp only);refine bj (vs:=[kind,nn,after,D,sv,sl]) rfl λw1 dr b_ eD=>bj (vs:=l.c) rfl λah ds bs eE=>bj (vs:=ld.c) rfl λbu dt aZ eF=>?_;have ca:=(b_.trans bs).trans aZ;have B:=h.ext ca;refine⟨_,rfl,m.c,B.v.rd rfl,bj (vs:=ld.c) rfl λeG cb du eH=>⟨cb.cc rfl (λv P=>?_),rfl,cw cb (us:=m.c) rfl rfl λaA dw dx eI=>aW ?_⟩⟩
 .unfold cS.c cS.rest at P
  simp only[cU,eL,eO]at P;rcases P with rfl|rfl|rfl|rfl|rfl|rfl|rfl<;>trivial
 have ce:Ext bu aA:=Ext.cn du dx (bp _);have Z:=(ca.trans ce).trans (cj aA);have a0:Ext bu aA.drew:=ce.trans (cj aA);have bv:=((dr.ext bs).ext aZ).ext a0;have cf:=(ds.ext aZ).ext a0;have a4:=dt.ext a0;have a5:=dw.ext (cj aA);have cg:=a6.ext b9 Z;have dy:=a6.ext P Z;have ch:=h.ext Z;have dz:=b_.size;have eJ:=bs.size;have eK:=aZ.size;generalize aA.drew=ac at Z a0 bv cf a4 a5 cg dy ch;obtain⟨nb,dA⟩:∃nb,nb=bu.heap.size:=⟨_,rfl⟩;rw[←dA]at a5⊢;have eM:=a5.lt;have eN:=h.v.lt;have eP:a8≠nb:=by omega
 obtain⟨G,dB⟩:∃G,G=ah.heap.size:=⟨_,rfl⟩;rw[←dB]at a4⊢;obtain⟨bd,aD⟩:∃bd:Nat->Prop,bd=λq=>bQ q\/q=nb\/q=G:=⟨_,rfl⟩;have bw:∀q,bQ q->bd q:=λq g=>by rw[aD];exact .inl g
 have aE:bd nb:=by rw[aD];exact .inr (.inl rfl)
 have a7:bd G:=by rw[aD];exact .inr (.inr rfl)
 have bx:∀q,bd q->bQ q\/w.heap.size<=q:=λq g=>by rw[aD]at g;exact g.imp id λe=>by omega
 have ci:dQ w0 ac bd d n l (S.own bd) pages L aG aP c:=h.s.grow Z λq g=>by rw[aD]at g;exact g.imp id λe=>⟨I,by have:=a4.lt;omega⟩
 have ck:∀q,(S.own bd).T.M q->S.T.M q\/w.heap.size<=q:=λq g=>bZ.y3 h.s.E bx g;have own:∀ {s:Y}{M:O aI},eV (λq=>¬S.T.M q) w s M->eV (λq=>¬(S.own bd).T.M q) ac s M:=λQ=>(Q.own h.s.E bx).ab (ad.cF Z:ad (λ_=>False) _ _) λ_ _ _ h=>h;have cl:∀q,(S.own bd).T.M q->q<w.heap.size\/bd q:=λq g=>by
  rcases g with g|g|g|g|g
  .exact .inl (h.s.at_.t.lt (.inl g))
  .exact .inl (h.s.at_.t.lt (.inr (.inl g)))
  .exact .inl (h.s.at_.t.lt (.inr (.inr (.inl g))))
  .rcases(show q=S.st\/bd q from g) with h1|h1
   .exact .inl (h.s.at_.t.lt (.inr (.inr (.inr (.inl ((h.s.E q).2 (.inl h1)))))))
   .exact .inr h1
  .exact .inl (h.s.at_.t.lt (.inr (.inr (.inr (.inr g)))))
 have cm:∀q,bd q->(S.own bd).T.M q:=λq g=>.inr (.inr (.inr (.inl (.inr g))));have co:eu (λq=>¬(S.own bd).T.M q) ac nb m:=⟨⟨a5,own h.md.now.p,λC=>C (cm _ aE),h.md.now.ok,h.md.now.eS⟩,own h.md.sure,h.md.num⟩;have cq:da bQ S w (S.own bd) ac:=λiQ eQ he z=>⟨⟨z.v.ext Z,own z.now.p,λC=>C (cm _ (bw _ he)),z.now.ok,z.now.eS⟩,own z.sure,z.num⟩;have cr:∀q,bQ q->q<w.heap.size:=λq g=>h.s.at_.t.lt (.inr (.inr (.inr (.inl (h.s.gP g).1))));have V:(S.own bd).failed=false:=h.live;have r:lQ (S.own bd) m L aP:=⟨h.gO.now,h.gO.sure,h.gO.c1,h.gO.clock,h.gO.first,h.gO.bY,h.gO.gU⟩;have cs:∀ {s:Y}{x:Key},a6 (λq=>¬S.T.M q) w s x->a6 (λq=>¬(S.own bd).T.M q) ac s x:=λht=>a6.ext (a6.aX ht λq eR o z=>by
  rcases ck q z with h1|h1
  .exact o h1
  .omega) Z
 have ct:=cs b9;have cu:=cs P;have cx:∀ay m',wb c (S.own bd) ay m m'->wb c S ay m m':=λay m' h=>h;have aF:fm (S.own bd)=fm S:=rfl;have ae:(S.own bd).st=S.st:=rfl;have eT:S.st<w.heap.size:=h.s.at_.t.lt (.inr (.inr (.inr (.inl h.s.at_.es))));generalize eU:S.own bd=f at ci ck cl co cq V r ct cu cx aF ae;have cy:lR w0 ac bd d n l nb f pages L aG aP m c:=⟨ci,V,aE,co,r⟩;have a9:=h.s.at_.ok.rising;obtain rfl:m.now=L:=h.gO.now;refine⟨λq=>ac.heap.size<=q,_,rfl,by rw[aw];show¬ac.heap.size<=w.heap.size;omega,D,by rw[aw];exact bv.cell,(yC ch.md.now cg.1 I).use ?_⟩;rintro _ eW ⟨i,rfl,dC,cz⟩;have cA:=Ih (cy.ext cz).s.at_;rw[ae,aF]at cA;refine⟨_,_,rfl,cA.use ?_⟩;rintro _ ao ⟨rfl,dD⟩;have ap:=cz.trans dD;have j:=cy.ext ap;have aH:=bv.ext ap;have dE:=cf.ext ap;have dF:=a4.ext ap;have aJ:=a6.ext ct ap;have aL:=a6.ext cu ap;have dG:=cq.ext ap;have aq:=j.s.at_;have eX:=j.s.eS;have eY:=j.s.aR;have eZ:=j.s.gen;have e0:=j.s.oP;have e1:=j.s.low I;have bB:=dC.get a9;have a_:m.bY<1000000000000:=by rw[j.gO.bY];have:=aq.num;omega
 have cB:m.c1<1000000:=by rw[j.gO.c1];omega
 have e2:=v_ (k:=key) a9;have e3:=yT key val m.now;have cC:=j.s.lim;have cE:∀q,aB D q->q<ao.heap.size/\¬f.T.M q:=λq g=>⟨(aJ.2.2 q g).2,(aJ.2.2 q g).1⟩;have dH:∀q,aB sv q->q<ao.heap.size/\¬f.T.M q:=λq g=>⟨(aL.2.2 q g).2,(aL.2.2 q g).1⟩;have cG:∀q,w.heap.size<=q->¬q=nb->¬q=G->¬f.W q:=λq h1 h2 B bC=>by
  rcases cl _ bC.1 with F|F
  .omega
  .rw[aD]at F
   rcases F with F|F|F
   .have:=h.s.at_.t.lt (q:=q) (.inr (.inr (.inr (.inl ((h.s.E q).2 (.inr F))))));omega
   .exact h2 F
   .exact B F
 have vars:∀ (cp:bZ) (bG:Nat) (w':J),c2 bG f cp ao w'->Var w' w.heap.size [kind,nn,after,D,sv,sl] 92/\Var w' w1.heap.size l.c 46/\Var w' G ld.c 90/\da bQ S w cp w'/\eu (λq=>¬cp.T.M q) w' nb m:=λcp bG w' hd=>⟨aH.ab hd.ab (cG _ (bp _) I I),dE.ab hd.ab (cG _ dz I I),dF.ab hd.ab (λbC=>by have:=bC.2 (j.s.gP a7).1;omega),dG.jQ hd (λq g=>j.s.gP (bw q g)),j.md.jQ hd (j.s.gP aE).1 (j.s.gP aE).2⟩
 obtain⟨R,cH⟩:∃R:Int->J->Prop,R=λe ar=>∃ (ay:bZ) (ek dR:O Nat) (cV dv:O aI) (m':cS),dQ w0 ar bd d n l ay ek cV dR dv (c+1)/\ay.st=f.st/\eu (λq=>¬ay.T.M q) ar nb m'/\da bQ S w ay ar/\Var ar G ld.c 90/\Told c f ay m m' e ek aG cV aP dR dv:=⟨_,rfl⟩;have dI:¬G=nb:=by omega
 generalize e5:iu m.now key i=has at bB⊢
 have put:∀ {ay:bZ}{ba bE:J}{ek dR:O Nat}{cV dv:O aI}{m':cS}{e:Int},dQ w0 ba bd d n l ay ek cV dR dv (c+1)->ay.st=f.st->da bQ S w ay ba->Var ba G ld.c 90->ad (λq=>q=nb) ba bE->eu (λq=>¬ay.T.M q) bE nb m'->Told c f ay m m' e ek aG cV aP dR dv->R e bE:=λh1 h2 B F aN bF dJ=>by
  have a1:=h1.kh aE aN;have a2:=B.ab aN (λq g e=>by have:=cr q g;omega) (.inr (.inr (.inr (.inl (h1.gP aE).1))));rw[cH];exact⟨_,_,_,_,_,_,a1,h2,bF,a2,F.ab aN dI,dJ⟩
 have bH:∀ {ay:bZ}{w':J}{bI:Prop}{cJ:O Nat}{M:O aI}{m':cS}{e:Int}{bG:Nat},c2 bG f ay ao w'->bG<=20000->M.length<=c+1->h_ bI f ay cJ M aG aP e w'->e≠0->(bI->m'.sure=M/\m'.gU=f.now/\m'.bY=f.u.bY+1)->(¬bI->m'.bY=m.bY/\m'.sure=m.sure/\m'.gU=m.gU)->dQ w0 w' bd d n l ay aG aP aG aP (c+1)/\Told c f ay m m' e aG aG aP aP aG aP:=λhd bJ dK hx he av ax=>by
  obtain⟨_,hs,hf,z⟩:=hx.y5 dK he j.gO.bY av ax;have Q:=(hs.dead hf).2.2.2;exact⟨j.s.step hs hd bJ ⟨I,I⟩ (by rw[z.2.1];omega) I,.inr ⟨hf,rfl,rfl,rfl,rfl,z⟩⟩
 have same:∀ {ay:bZ}{w':J}{cJ:O Nat}{bG:Nat}{e:Int},c2 bG f ay ao w'->bG<=20000->de w' ay cJ m.now aG aP->ay.u=f.u->ay.gen=f.gen->ay.now=f.now->ay.first=f.first->ay.pending=f.pending->ay.failed=false->(e=0\/e=1\/e=2)->dQ w0 w' bd d n l ay cJ m.now aG aP (c+1)/\Told c f ay m m e cJ aG m.now aP aG aP:=λhd bJ hs cI cK dL dM cL dN dO=>
  ⟨j.s.step hs hd bJ ⟨I,I⟩ I I,.inl ⟨dN,dO,⟨rfl,j.gO.sure,by rw[cL];exact j.gO.c1,by rw[dL];exact j.gO.clock,λh2=>by rw[dM];exact j.gO.first (by rw[←cL];exact h2),by rw[cI];exact j.gO.bY,by rw[cI];exact j.gO.gU⟩⟩⟩
 refine⟨_,rfl,cd R (λbb aK=>⟨_,aH.cell,λaO=>?_,λaO=>⟨λaO=>?_,λaO=>⟨λaO=>?_,λaO=>?_⟩⟩⟩) ?_⟩
 .
  have cM:=CZ aq I I I I aJ.1 cE;rw[ae]at cM;refine⟨D,by rw[aw];exact aH.cell,cM.use ?_⟩;rintro v am aS;have tail:∀ (ay:bZ) (bG:Nat) (b:ai) (e:Int),c2 bG f ay ao am->v=.tuple #[b,e]->
   ((has=true/\fm S≠0/\cv key)->∃cJ cV dR dv,dQ w0 am bd d n l ay cJ cV dR dv (c+1)/\∀H,Told c f ay m ((m.put H (ed m.now key)).more l.batch) e cJ aG cV aP dR dv)->
   (¬(has=true/\fm S≠0/\cv key)->∃cJ cV dR dv,dQ w0 am bd d n l ay cJ cV dR dv (c+1)/\Told c f ay m m e cJ aG cV aP dR dv)->
   ∃dP:ai,∃n25:Int,Ending.returned v=.returned (.tuple #[dP,n25])/\
   bt (λcN:ai->J->Prop=>((has&&(!(((fm S:Nat):Int)==0)))=true->∃bc:Y,am.cell? (Addr.add w.heap.size 3)=some (.slice bc.a bc.len bc.cap)/\
    Calls aj 50 #[bc] am λdS dT=>∃cO:ai,dS=.returned cO/\cN cO dT)/\((has&&(!(((fm S:Nat):Int)==0)))=false->cN false am))
   (λ(bK:ai) (bL:J)=>(bK=true->∃be:Y,bL.cell? (Addr.add w.heap.size 3)=some (.slice be.a be.len be.cap)/\
     Calls aj 104 #[.pointer (some nb),be] bL λdU bM=>
     ∃dV:ai,dU=.returned dV/\∃n37:Int,bM.cell? (Addr.add w1.heap.size 1)=some (.int .i64 n37)/\
     Calls aj 105 #[.pointer (some nb),n37] bM λdW cP=>dW=.returned (.tuple #[])/\bb n25 cP)/\(bK=false->bb n25 bL)):=by
   rintro ay bG b e hd rfl bN bO;obtain⟨cR,dY,cT,cW,bP⟩:=vars ay bG am hd;have cX:=a6.jQ aJ hd;refine⟨b,e,rfl,cd (λaT w'=>(aT=true↔(has=true/\fm S≠0/\cv key))/\am=w') (λq g=>⟨λo=>⟨D,by rw[aw];exact cR.cell,(l9 cX.1).use ?_⟩,λo=>g _ _ ⟨⟨λh=>(by cases h),λC=>?_⟩,rfl⟩⟩) ?_⟩
   .rintro _ _ ⟨rfl,rfl⟩
    refine⟨_,rfl,g _ _ ⟨?_,rfl⟩⟩;rw[cQ];simp at o;exact⟨λh=>⟨o.1,I,h⟩,λh=>h.2.2⟩
   .simp[C.1]at o
    exact absurd I C.2.1
   rintro bK _ ⟨o,rfl⟩;refine⟨λht=>?_,λhf=>?_⟩
   .obtain⟨cJ,cV,dR,dv,y,A⟩:=bN (o.1 ht)
    refine⟨D,by rw[aw];exact cR.cell,(HI bP.now a9 cX.1 I (wa y.at_)).use ?_⟩;rintro _ bM ⟨rfl,bR,H,bS⟩;have dZ:=bP.put bR bS;refine⟨_,rfl,_,by rw[aw];exact(dY.ab bR I).cell,(CD dZ a_ cB (batch:=l.batch)).use ?_⟩;rintro _ cP ⟨rfl,d0,d1⟩;exact⟨rfl,aK _ _ (put y hd.st cW cT (bR.trans d0) d1 (A H))⟩
   .have aV:¬(has=true/\fm S≠0/\cv key):=λC=>by rw[o.2 C]at hf;cases hf
    obtain⟨cJ,cV,dR,dv,y,A⟩:=bO aV;exact aK _ _ (put y hd.st cW cT (.refl _ _) bP A)
  rcases aS with ⟨rfl,bT,rfl⟩|⟨d2,⟨hf,_⟩|⟨_,ay,hd,au,⟨rfl,hg,hs,he,hf⟩|⟨rfl,hg,az,hs,he,hf⟩|⟨e,rfl,hg,az,ek,z⟩|⟨rfl,hx⟩⟩⟩
  .exact tail f 0 _ _ (c2.ext f (.refl _ _)) rfl (λh=>absurd h.2.2 bT) λ_=>⟨_,_,_,_,same (c2.ext f (.refl _ _)) I aq rfl rfl rfl rfl rfl V (.inr (.inl rfl))⟩
  .rw[V]at hf;cases hf
  .exact tail ay _ _ _ hd rfl (λh=>by rw[bB,hg]at h;exact absurd h.1 (by decide)) λ_=>⟨_,_,_,_,same hd I hs he.u he.gen he.now he.first he.pending hf (.inl rfl)⟩
  .exact tail ay _ _ _ hd rfl (λh=>absurd (by rw[←aF];exact az) h.2.1) λ_=>⟨_,_,_,_,same hd I hs he.u he.gen he.now he.first he.pending hf (.inr (.inr rfl))⟩
  .obtain⟨cJ,bz,bq,bU,y,_,A⟩:=j.Dn hd I au z I
   refine tail ay _ _ _ hd rfl (λ_=>⟨cJ,bz,bq,bU,y,A⟩) λh=>absurd ⟨?_,by rw[←aF];exact az,d2⟩ h;rw[bB]
   cases d3:eB m.now key with
   |none=>exact absurd d3 hg
   |some x=>rfl
  .refine tail ay _ _ _ hd rfl (λh=>?_) λ_=>?_
   .have key:=λH=>bH (m':=(m.put H (ed m.now key)).more l.batch) hd I I (hx (l.batch<=m.c1+1) pages (ed m.now key)) (by decide) (λhc=>by
     obtain⟨a1,a2,a3⟩:=cS.due (m:=m) (s:=H) (L:=ed m.now key) hc;exact⟨a1,by rw[a2,j.gO.clock],by rw[a3,j.gO.bY]⟩) λhc=>cS.Dm hc
    exact⟨_,_,_,_,(key bg).1,λH=>(key H).2⟩
   .exact⟨_,_,_,_,bH (m':=m) hd I I (hx False pages m.now) (by decide) (λh=>h.elim) λ_=>⟨rfl,rfl,rfl⟩⟩
 .
  obtain⟨N,cY,cZ⟩:∃N:Nat,IntKind.wrap .u64 nn=(N:Int)/\N<18446744073709551616:=⟨(nn%18446744073709551616).toNat,by rw[wT];omega,I⟩;refine⟨nn,by rw[aw];exact aH.cell,?_⟩;rw[cY];have c0:=CX aq cZ I I I;rw[ae]at c0;refine c0.use ?_;rintro v c3 ⟨ay,hd,au,aS⟩;obtain⟨d4,d5,d6,d7,d8⟩:=vars ay _ c3 hd;have r:=j.gO;obtain⟨e,rfl,cJ,cV,dR,dv,y,A⟩:∃e:Int,v=e/\∃cJ cV dR dv,dQ w0 c3 bd d n l ay cJ cV dR dv (c+1)/\Told c f ay m (m.tick N l.dX) e cJ aG cV aP dR dv:=by
   have c4:¬(f.pending≠0/\f.l.dX<=max f.now N-f.first)->m.tick N l.dX=m.jt N:=λaV=>by
    unfold cS.tick;rw[if_neg];rintro⟨h1,h2⟩;rw[r.c1]at h1;rw[r.clock,r.first h1,←cC]at h2;exact aV ⟨h1,h2⟩
   have jt:(f.pending≠0/\f.l.dX<=max f.now N-f.first)->m.tick N l.dX=(m.jt N).nr:=λK=>by
    unfold cS.tick;rw[if_pos];refine⟨by rw[r.c1];exact K.1,?_⟩;rw[r.clock,r.first K.1,←cC];exact K.2
   rcases aS with ⟨rfl,K,hs,rfl⟩|⟨_,hx⟩
   .refine⟨0,rfl,pages,m.now,aG,aP,j.s.step hs hd I ⟨I,I⟩ (by show f.gen<=f.gen+1;omega) (by show f.pending<=f.pending+1;omega),.inl ⟨V,.inl rfl,?_⟩⟩
    rw[c4 (λh=>by rcases K with B|B;exact h.1 B;omega)];exact⟨rfl,r.sure,r.c1,by show max m.clock N=max f.now N;rw[r.clock],r.first,r.bY,r.gU⟩
   .obtain⟨e,rfl⟩:=hx.val
    by_cases he:e=0
    .subst he
     rcases hx with ⟨_,K,hs,hf,hg,bV,bW,Q⟩|⟨B,_⟩
     rotate_left
     .cases B
     have e6:ay.gen=f.gen+1:=hg;have d9:ay.u.clock=max f.now N:=bV;have d_:ay.u.bY=f.u.bY+1:=bW;refine⟨0,rfl,pages,m.now,pages,m.now,j.s.step hs hd I ⟨I,I⟩ I I,.inl ⟨hf,.inl rfl,?_⟩⟩;rw[jt K];exact⟨rfl,rfl,Q.symm,by show max m.clock N=ay.now;rw[r.clock,au],λh=>absurd Q h,by show m.bY+1=_;rw[d_,r.bY],by show max m.clock N=_;rw[d9,r.clock]⟩
    .obtain⟨_,hs,hf,z⟩:=hx.y5 (k:=c) (m:=m) (m':=m.tick N l.dX) I he r.bY (λK=>by
      rw[jt K];exact⟨rfl,by show max m.clock N=max f.now N;rw[r.clock],by show m.bY+1=f.u.bY+1;rw[r.bY]⟩) λK=>by
      rw[c4 K];exact⟨rfl,rfl,rfl⟩
     have Q:=(hs.dead hf).2.2.2;have e7:ay.gen=f.gen:=z.2.1;exact⟨e,rfl,aG,aP,aG,aP,j.s.step hs hd I ⟨I,I⟩ I I,.inr ⟨hf,rfl,rfl,rfl,rfl,z⟩⟩
  refine⟨e,rfl,nn,by rw[aw];exact d4.cell,_,by rw[aw];exact d5.cell,?_⟩;rw[cY];refine(HK d8 (wa y.at_) a_ cZ (dX:=l.dX)).use ?_;rintro _ e8 ⟨rfl,ea,eb⟩;exact⟨rfl,aK _ _ (put y hd.st d7 d6 ea eb A)⟩
 .
  have c5:=yS aq I I I;rw[ae]at c5;refine c5.use ?_;rintro v ec (⟨hf,_⟩|⟨_,ay,hd,au,hx⟩)
  .rw[V]at hf;cases hf
  obtain⟨e9,e_,c6,c7,ee⟩:=vars ay _ ec hd;have r:=j.gO;obtain⟨e,rfl⟩:=hx.val;refine⟨e,rfl,(yE ee a_).use ?_⟩;rintro _ fa ⟨rfl,c8,c9⟩;refine⟨rfl,aK _ _ ?_⟩;by_cases he:e=0
  .subst he
   rcases hx with ⟨_,_,hs,hf,hg,bV,bW,Q⟩|⟨B,_⟩
   rotate_left
   .cases B
   exact put (j.s.step hs hd I ⟨I,I⟩ I I) hd.st c7 c6 c8 c9 (.inl ⟨hf,.inl rfl,⟨rfl,rfl,Q.symm,r.clock.trans au.symm,λh=>absurd Q h,by show m.bY+1=_;rw[bW,r.bY],by show m.clock=_;rw[bV,r.clock]⟩⟩)
  .obtain⟨y,A⟩:=bH (m':=m.nr) hd I I hx he (λ_=>⟨rfl,r.clock,by show m.bY+1=_;rw[r.bY]⟩) λh=>absurd trivial h
   exact put y hd.st c7 c6 c8 c9 A
 .
  have c_:=yU aq I I I I aJ.1 cE aL.1 dH;rw[ae]at c_;refine⟨D,by rw[aw];exact aH.cell,sv,by rw[aw];exact aH.cell,c_.use ?_⟩;rintro v X aS;have fb:=len8 aL.1;have tail:∀ (ay:bZ) (bG:Nat) (e:Int),c2 bG f ay ao X->v=e->
   ((fm S≠0/\cv key/\val.length<=24)->∃cJ cV dR dv,dQ w0 X bd d n l ay cJ cV dR dv (c+1)/\∀H,Told c f ay m ((m.put H (e4 m.now key val)).more l.batch) e cJ aG cV aP dR dv)->
   (¬(fm S≠0/\cv key/\val.length<=24)->∃cJ cV dR dv,dQ w0 X bd d n l ay cJ cV dR dv (c+1)/\Told c f ay m m e cJ aG cV aP dR dv)->
   ∃bX:Int,Ending.returned v=.returned bX/\bt (
   λdb:ai->J->Prop=>((!(((fm S:Nat):Int)==0))=true->∃bf:Y,X.cell? (Addr.add w.heap.size 3)=some (.slice bf.a bf.len bf.cap)/\
    Calls aj 50 #[bf] X λef eg=>∃dc:ai,ef=.returned dc/\db dc eg)/\((!(((fm S:Nat):Int)==0))=false->db false X))
   (λ(b0:ai) (b1:J)=>bt (λdd:ai->J->Prop=>(b0=true->∃bh:Y,b1.cell? (Addr.add w.heap.size 4)=some (.slice bh.a bh.len bh.cap)/\dd (decide ((bh.len:Int)<=24)) b1)/\(b0=false->dd false b1))
    (λ(b2:ai) (bi:J)=>(b2=true->∃bk:Y,bi.cell? (Addr.add w.heap.size 3)=some (.slice bk.a bk.len bk.cap)/\∃bl:Y,bi.cell? (Addr.add w.heap.size 4)=some (.slice bl.a bl.len bl.cap)/\
      Calls aj 107 #[.pointer (some nb),bk,bl] bi λeh b3=>eh=.returned (.tuple #[])/\∃df:Int,b3.cell? (Addr.add w1.heap.size 1)=some (.int .i64 df)/\
      Calls aj 105 #[.pointer (some nb),df] b3 λei dg=>ei=.returned (.tuple #[])/\bb bX dg)/\(b2=false->bb bX bi))):=by
   rintro ay bG e hd rfl bN bO;obtain⟨bm,ej,dh,di,b4⟩:=vars ay bG X hd;have dj:=a6.jQ aJ hd;have el:=a6.jQ aL hd;refine⟨e,rfl,cd (λaT w'=>(aT=true↔(fm S≠0/\cv key))/\X=w') (λq g=>⟨λo=>⟨D,by rw[aw];exact bm.cell,(l9 dj.1).use ?_⟩,λo=>g _ _ ⟨⟨λh=>(by cases h),λC=>?_⟩,rfl⟩⟩) ?_⟩
   .rintro _ _ ⟨rfl,rfl⟩
    refine⟨_,rfl,g _ _ ⟨?_,rfl⟩⟩;rw[cQ];simp at o;exact⟨λh=>⟨I,h⟩,λh=>h.2⟩
   .simp at o
    exact absurd I C.1
   rintro b0 _ ⟨dk,rfl⟩;refine cd (λaT w'=>(aT=true↔(fm S≠0/\cv key/\val.length<=24))/\X=w') (λq g=>⟨λo=>⟨sv,by rw[aw];exact bm.cell,g _ _ ⟨?_,rfl⟩⟩,λo=>g _ _ ⟨⟨λh=>(by cases h),λC=>?_⟩,rfl⟩⟩) ?_
   .rw[cQ]
    have B:=dk.1 o;exact⟨λh=>⟨B.1,B.2,I⟩,λh=>by have:=h.2.2;omega⟩
   .rw[dk.2 ⟨C.1,C.2.1⟩]at o;cases o
   rintro b2 _ ⟨o,rfl⟩;refine⟨λht=>?_,λhf=>?_⟩
   .obtain⟨cJ,cV,dR,dv,y,A⟩:=bN (o.1 ht)
    refine⟨D,by rw[aw];exact bm.cell,sv,by rw[aw];exact bm.cell,(HH b4.now a9 dj.1 I el.1 I (wa y.at_) I).use ?_⟩;rintro _ b3 ⟨rfl,b5,H,bS⟩;have em:=b4.put b5 bS;refine⟨rfl,_,by rw[aw];exact(ej.ab b5 I).cell,(CD em a_ cB (batch:=l.batch)).use ?_⟩;rintro _ dg ⟨rfl,en,eo⟩;exact⟨rfl,aK _ _ (put y hd.st di dh (b5.trans en) eo (A H))⟩
   .have aV:¬(fm S≠0/\cv key/\val.length<=24):=λC=>by rw[o.2 C]at hf;cases hf
    obtain⟨cJ,cV,dR,dv,y,A⟩:=bO aV;exact aK _ _ (put y hd.st di dh (.refl _ _) b4 A)
  rcases aS with ⟨rfl,bT,rfl⟩|⟨ep,⟨hf,_⟩|⟨_,ay,hd,au,⟨rfl,az,hs,rfl⟩|⟨az,ek,z⟩⟩⟩
  .exact tail f 0 _ (c2.ext f (.refl _ _)) rfl (λh=>absurd h.2 bT) λ_=>⟨_,_,_,_,same (c2.ext f (.refl _ _)) I aq rfl rfl rfl rfl rfl V (.inr (.inl rfl))⟩
  .rw[V]at hf;cases hf
  .exact tail _ _ _ hd rfl (λh=>absurd (by rw[←aF];exact az) h.1) λ_=>⟨_,_,_,_,same hd I hs rfl rfl rfl rfl rfl V (.inr (.inr rfl))⟩
  .obtain⟨e,rfl⟩:∃e:Int,v=e:=by
    rcases z with ⟨rfl,_⟩|hx
    .exact⟨0,rfl⟩
    .exact hx.val
   obtain⟨cJ,bz,bq,bU,y,_,A⟩:=j.Dn hd I au z I;exact tail ay _ _ hd rfl (λ_=>⟨cJ,bz,bq,bU,y,A⟩) λh=>absurd ⟨by rw[←aF];exact az,ep⟩ h
 .intro e ar dl
  rw[cH]at dl;obtain⟨ay,ek,dR,cV,dv,m',y,dm,eq,er,et,A⟩:=dl;have bn:=cj ar;have aY:=y.ext bn;have bo:=eq.ext bn;have dn:=er.ext bn;have b6:=et.ext bn;refine aW ?_;generalize ar.drew=br at aY bo dn b6;have dp:=CW aY.at_;rw[dm,ae]at dp;have fc:=bo.v.lt;refine⟨λq=>br.heap.size<=q,by show¬br.heap.size<=nb;omega,m'.c,bo.v.rd rfl,dp.use ?_⟩;rintro _ _ ⟨rfl,rfl⟩;have ev:∀v∈m'.c,Plain v:=λv P=>by
   unfold cS.c cS.rest at P;simp only[cU,eL,eO]at P;rcases P with rfl|rfl|rfl|rfl|rfl|rfl|rfl<;>trivial
  have fin:∀ (ok:ai),ok=(!ay.failed)->bA br G (Array.toList m'.c.toArray)/\Array.size m'.c.toArray=7/\al (setCells br G 0 (Array.toList m'.c.toArray)) λb7=>∃dq:O aa,cD b7 G 0 7=some dq/\Dp w0 bQ d n l a8 S aG aP m c w (.tuple #[ok,.agg dq.toArray]) b7:=λok ew=>
   ⟨b6.cc rfl ev,rfl,cw b6 (us:=m'.c) rfl rfl λb7 ex b8 _=>⟨m'.c,ex.rd rfl,ay,ek,dR,cV,dv,m',ok,bd,rfl,bw,bx,aY.kh a7 b8,dm.trans ae,dn.ab b8 (λq g e=>by have:=cr q g;omega) (.inr (.inr (.inr (.inl (aY.gP a7).1)))),⟨nb,I,bo.ab b8 I λq o _ e=>o (by rw[e];exact .inr (.inr (.inr (.inl (aY.gP a7).1))))⟩,e,ew,?_⟩⟩
  .refine⟨_,rfl,.refl _ _,λo=>⟨λ_=>fin true o.symm,λey=>⟨λ_=>fin true o.symm,λez=>?_⟩⟩,λo=>fin false o.symm⟩
   rcases A with ⟨hf,he,_⟩|⟨hf,_⟩
   .have cK:(e==2)=true:=by
     rcases he with rfl|rfl|rfl
     .cases ey
     .cases ez
     .rfl
    rw[cK];exact fin true o.symm
   .rw[hf]at o;cases o
  .rcases A with h1|⟨h1,h2,B,F,aN,bF⟩
   .exact .inl h1
   .exact .inr ⟨h1,h2,B,F,aN,cx _ _ bF⟩
end
def aN.Dq(T:aN)(k:Nat)(a:Int):aN:=T.bk {T.C with D:=T.C.D.fail k a} T.P
section
variable {w0 w w' w1 ah:J}{bQ bd:Nat->Prop}{d n a8 I1 nb k c i:Nat}{l:fC}{S ay:bZ}{pages ek aG dR bB:O Nat}{L cV aP dv bf:O aI}{m m' y z:cS}{v:aa}{az:aZ}{T:aN}{b:ai}
theorem bL.p8{a:Int}(ht:bL w T)(hd:cx w' (T.C.D.fail k a))(hc:ad (λq=>q=T.C.D.d) w w'):bL w' (T.Dq k a):=by
 have hf:c3 T.C T.C.D.d:=.inr (.inr (.inl rfl));have hx:=ht.ca.inv.e7;have b:=ht.ca.raw;have g:∀q,T.X q->q≠T.C.D.d:=λq c e=>(hx q c).2 (by rw[e];exact hf);have hinv:=ht.ca.inv.ab hc λq e=>.inl (by rw[e];exact hf);refine⟨ht.t.ab hc (g _ (.inl rfl)),ht.s.ab hc λq c=>g q (.inr (.inl c)),⟨⟨b.v.ab hc λe=>b.a1.2.1 (by rw[e];exact .inl rfl),bu.ab b.f hc λe=>b.a1.2.2 (by have e:T.C.aT=T.C.D.d:=e;rw[e];exact .inl rfl),hd,b.bE,b.bG,b.hd,b.a1⟩,⟨hinv.pins,λf hf h=>?_,hinv.un,hinv.e7,hinv.kE⟩⟩,ht.js,ht.c6,ht.hD,ht.n,ht.num,ht.eA,ht.bI,ht.low⟩;obtain⟨no,av,ax,i,j,l,m,o⟩:=hinv.ok f hf h;exact⟨no,av,ax,i,j,l,m,o⟩
structure wc(S ay:bZ):Prop where
 M:ay.T.M=S.T.M
 st:ay.st=S.st
 failed:ay.failed=S.failed
 u:ay.u=S.u
 gen:ay.gen=S.gen
 now:ay.now=S.now
 first:ay.first=S.first
 pending:ay.pending=S.pending
 g:ay.T.g=S.T.g
 n:ay.T.n=S.T.n
 ep:ay.T.C.D.ep=S.T.C.D.ep
 V:ay.V=S.V
theorem dQ.fail{a:Int}(h:dQ w0 w bQ d n l S pages L aG aP c)(o:2<=k/\k<=3)(i:a<=9223372036854775807):
 aQ aj 44 #[.pointer (some d),k,a] w (λv w'=>(∃e:Int,v=e)/\∃ay,dQ w0 w' bQ d n l ay pages L aG aP c/\ad (λq=>q=S.T.C.D.d) w w'/\wc S ay/\(0<=a->ay.T.C.D=S.T.C.D.fail k a)):=by
 by_cases g:0<=a
 .have hf:=F5 h.at_.t.ca.raw.dev (k:=k) I ⟨g,i⟩
  rw[h.d]at hf;refine hf.mono ?_;rintro v w' ⟨rfl,hd,hc,_⟩;rw[←h.d]at hc;have j:S.T.M S.T.C.D.d:=.inl (.inr (.inr (.inl rfl)));have b:=h.at_;refine⟨⟨0,rfl⟩,S.b7 (S.T.Dq k a),⟨Ext.cn h.x hc (h.mA _ j),⟨⟨b.v.ab hc λe=>?_,b.t.p8 hd hc,b.es,b.fU,b.gen,b.num,b.bI⟩,b.ok,b.bn,b.f,b.two,b.fT,b.keys,b.c1,b.live,b.dead⟩,h.E,h.ne,h.mA,h.lim,h.d,h.n,h.aR,h.eS,h.gen,h.oP,?_⟩,hc,⟨rfl,rfl,rfl,rfl,rfl,rfl,rfl,rfl,rfl,rfl,rfl,rfl⟩,λ_=>rfl⟩
  .exact b.t.iN b.es (.inl (by rw[e];exact .inr (.inr (.inl rfl))))
  .show(S.T.C.D.r1&&k !=1)=true
   rw[h.r,jh,bne_iff_ne];omega
 .refine okF (af.nW (some d) (k:Int) a) aA.nW func44 ?_
  (delta af.nW ak st;dsimp only);refine⟨λ_=>⟨⟨1,rfl⟩,S,h,.refl _ _,⟨rfl,rfl,rfl,rfl,rfl,rfl,rfl,rfl,rfl,rfl,rfl,rfl⟩,λh=>absurd h g⟩,λm=>?_⟩;simp only[sy,jS,nw,jw]at m;omega
theorem cS.plain(m:cS):∀v∈m.c,Plain v:=λv a=>by
 unfold cS.c cS.rest at a
 simp only[cU,eL,eO]at a
 rcases a with rfl|rfl|rfl|rfl|rfl|rfl|rfl<;>trivial
end
section
variable {w:J}{ls:Y}{A:O ia}
theorem IS(n:Int):∃k:Nat,(2<=k/\k<=3)/\IntKind.wrap .i64 (2+(IntKind.wrap .i64 (Int.tmod (IntKind.wrap .u64 n) 2)))=(k:Nat):=by
 rw[wT,qG I];refine⟨(2+(n%18446744073709551616)%2).toNat,I,?_⟩;rw[bx (n:=(n%18446744073709551616)%2) I I,bx I I];omega
end
section
variable {w0 w w' w1 ah:J}{bQ bd:Nat->Prop}{d n a8 nb k c i:Nat}{l:fC}{S ay:bZ}{pages ek aG dR:O Nat}{L cV aP dv:O aI}{m m' z:cS}{ls ms:Y}{A B:O ia}
theorem dQ.lO(h:dQ w0 w bQ d n l S pages L aG aP c)(hx:Ext w w')(f:Var w' nb z.c 90)(o:w.heap.size<=nb)(a:eV (λq=>¬S.T.M q) w z.gi z.now)(hs:eV (λq=>¬S.T.M q) w z.ss z.sure)(g:∀p∈z.now,p.1.length<=1000/\p.2.length<=1000)(i:z.now.length<=10000)(j:z.clock<18446744073709551616/\(z.c1≠0->z.first<=z.clock)):
 dQ w0 w' (λq=>bQ q\/q=nb) d n l (S.own λq=>bQ q\/q=nb) pages L aG aP c/\eu (λq=>¬(S.own λq=>bQ q\/q=nb).T.M q) w' nb z:=by
 have k:∀q,(bQ q\/q=nb)->bQ q\/w.heap.size<=q:=λq b=>b.imp id λe=>by omega
 have hg:=h.grow (bd:=λq=>bQ q\/q=nb) hx λq b=>b.imp id λe=>⟨I,by have:=f.lt;omega⟩;have own:∀ {s:Y}{M:O aI},eV (λq=>¬S.T.M q) w s M->eV (λq=>¬(S.own λq=>bQ q\/q=nb).T.M q) w' s M:=λa=>(a.own h.E k).ab (ad.cF hx:ad (λ_=>False) _ _) λ_ _ _ h=>h;exact⟨hg,⟨⟨f,own a,λm=>m (.inr (.inr (.inr (.inl (.inr (.inr rfl)))))),g,i⟩,own hs,j⟩⟩
theorem lQ.p8(h:lQ S m L aP)(a:wc S ay):lQ ay m L aP:=⟨h.now,h.sure,by rw[a.pending];exact h.c1,by rw[a.now];exact h.clock,by rw[a.pending,a.first];exact h.first,by rw[a.u];exact h.bY,by rw[a.u];exact h.gU⟩
theorem IT{D:aZ}(e:D.b3.length=4)(h1:D.b3.getD 1 0= -1):((D.fail 2 999999).fail 3 999999).calm 900000:=by
 obtain⟨b3,nd⟩:∃b3,b3=D.b3:=⟨_,rfl⟩;unfold aZ.calm aZ.fail;dsimp only;rw[←nd]at e h1⊢
 match b3,e,h1 with
 | [a,b,c,d],_,h1=>exact⟨.inl h1,.inr (by show(900000:Int)<=999999;decide)⟩
theorem IU{b:Nat}(g:b<256)(sf:jP w ls A)(bU:jP w ms B):
 aQ aj 9 #[.int .u8 (b:Nat),ls,ms] w (λv w'=>v=true/\Ext w w'):=by
 have cR:=sf.len;have cT:=bU.len;refine okF (af.va (b:Nat) ls ms) aA.va func9 ?_;(delta af.va q6 tg U du r1 bD ak g0 aM aL ag w5 q7 aC au An q8 jZ b_ bc;dsimp only);rw[IP g];refine⟨by decide,(l_ (b:=b) (d:=b/16) g I w).use ?_⟩;rintro _ w1 ⟨rfl,aY⟩;refine⟨_,_,_,rfl,IQ (l:=kM b) λX bV aZ=>(nU (n:=160) I I X).use ?_⟩;rintro _ d9 ⟨d,lb,mr,rfl,cU,bW,cW⟩;have bm:=bV.ext bW;refine⟨_,0,rfl,_,bm.cell,_,by rw[aw];exact bm.cell,_,by rw[aw];exact bm.cell,(Da (l:=kM b) (bQ:=λ_=>False) cU (IN b) (λk=>⟨.inl rfl,.inl rfl⟩) rfl (by show 0<=999999000;omega) (λq h=>h.elim)).use ?_⟩;rintro _ a0 ⟨G,rfl,cX,aa,hu,hg⟩;have cY:=dQ.new (w0:=X) bW cX aa hu hg cW (λq h=>h.elim) rfl rfl;have ar:=sf.ext (aY.trans aZ);have hB:=bU.ext (aY.trans aZ);refine⟨_,0,rfl,λh=>(by cases h),λ_=>⟨ld.c.toArray,by kernel_rfl,bj (vs:=ld.c) rfl λd_ cZ c0 ea=>?_⟩⟩;obtain⟨bo,bX⟩:=cY.lO (z:=ld) c0 cZ (bp _) (Dl _ _) (Dl _ _) (λp a3=>(by cases a3)) (cG _) ⟨(by decide:0<18446744073709551616),λh=>absurd rfl h⟩;have b0:lQ (G.own λq=>False\/q=a0.heap.size) ld [] []:=⟨rfl,rfl,aa.c1.symm,by show 0=G.now;rw[aa.now,hu];rfl,λh=>absurd aa.c1 h,by show 0=G.u.bY;rw[hu];rfl,by show 0=G.u.clock;rw[hu];rfl⟩;have b2:(G.own λq=>False\/q=a0.heap.size).st=G.st:=rfl;have b3:(G.own λq=>False\/q=a0.heap.size).failed=false:=aa.live;generalize G.own (λq=>False\/q=a0.heap.size)=V at bo bX b0 b2 b3;generalize (oE 160 d lb mr).n=bn at bo;refine⟨λp n w'=>∃ (i:Nat) (S:bZ) (pages aG:O Nat) (L aP:O aI) (m:cS) (a8:Nat) (bQ:Nat->Prop),p=some ⟨a8,0,none⟩/\n=(i:Int)/\i<=60/\i<=A.length/\dQ X w' bQ d bn (kM b) S pages L aG aP (8*i)/\S.st=G.st/\bQ a8/\eu (λq=>¬S.T.M q) w' a8 m/\((S.failed=false/\lQ S m L aP)\/(S.failed=true/\L=aP/\m.sure=aP)),
  λ_ n _=>((60:Int)-n).toNat,⟨0,V,[],[],[],[],ld,_,_,rfl,rfl,I,cG _,bo,b2,.inr rfl,bX,.inl ⟨b3,b0⟩⟩,?_⟩
 rintro _ _ bq ⟨i,S,pages,aG,L,aP,m,a8,bQ,rfl,rfl,hi,eb,H,aH,P,ao,hs⟩;have br:=CW H.at_;rw[aH]at br;refine cd (λb4 w'=>bq=w'/\(b4=true->i<A.length/\i<60/\S.failed=false)) (λec b5=>⟨λaK=>br.use ?_,λ_=>b5 _ _ ⟨rfl,λh=>(by cases h)⟩⟩) ?_
 .rintro _ _ ⟨rfl,rfl⟩
  obtain⟨h1,h2⟩:=Db (m:=60) cR aK;exact⟨_,rfl,b5 _ _ ⟨rfl,λh=>⟨h1,h2,by simpa using h⟩⟩⟩
 rintro b4 _ ⟨rfl,c3⟩;refine⟨λht=>?_,λ_=>?_⟩
 .obtain⟨h1,h2,bs⟩:=c3 ht
  have bt:lQ S m L aP:=by
   rcases hs with ⟨_,h⟩|⟨h,_⟩
   .exact h
   .rw[bs]at h;cases h
  refine cd (λp w'=>∃ (ay:bZ) (ek dR:O Nat) (cV dv:O aI) (m':cS) (aJ:Nat) (a4:Nat->Prop),p=some ⟨aJ,0,none⟩/\dQ X w' a4 d bn (kM b) ay ek cV dR dv (8*i+8)/\ay.st=G.st/\a4 aJ/\eu (λq=>¬ay.T.M q) w' aJ m'/\((ay.failed=false/\lQ ay m' cV dv)\/(ay.failed=true/\cV=dv/\m'.sure=dv))) (λed E=>?_) ?_
  rotate_left
  .rintro p w' ⟨ay,ek,dR,cV,dv,m',aJ,a4,rfl,ap,bu,c4,c5,c6⟩
   rw[Dc I];exact⟨⟨i+1,ay,ek,dR,cV,dv,m',aJ,a4,rfl,rfl,I,I,ap.mono I,bu,c4,c5,c6⟩,by show((60:Int)-((i+1:Nat):Int)).toNat<((60:Int)-(i:Int)).toNat;omega⟩
  refine Dj ar H.x h1 λc7 c8 Q sv sl b6 ee aN ac=>?_;have b8:=H.ext b6;have b9:=ao.ext b6;have ae:∀q,bq.heap.size<=q->¬S.T.M q:=λq f ao=>by have:=H.at_.t.lt ao;omega
  have c9:=ar.ok A[i] (cE h1);refine ij (λaq=>∃ay,dQ X aq bQ d bn (kM b) ay pages L aG aP (8*i)/\wc S ay/\eu (λq=>¬ay.T.M q) aq a8 m/\Var aq c7.heap.size [.int .i64 A[i].kind,.int .i64 A[i].n,.int .i64 A[i].after,Q,sv,sl] 92/\a6 (λq=>¬ay.T.M q) aq Q (A[i].key.take 26)/\a6 (λq=>¬ay.T.M q) aq sv (A[i].val.take 26)) (λef cb=>⟨_,aN.cell,λ_=>?_,λ_=>?_⟩) ?_
  .obtain⟨k,c_,da⟩:=IS A[i].n
   refine⟨_,by rw[aw];exact aN.cell,by decide,_,by rw[aw];exact aN.cell,?_⟩;rw[da];refine(b8.fail (k:=k) (a:=A[i].after) c_ c9.De).use ?_;rintro _ eg ⟨⟨e,rfl⟩,ay,ap,a5,y,_⟩;have a7:S.T.M S.T.C.D.d:=.inl (.inr (.inr (.inl rfl)));have eh:=H.at_.t.lt a7;have db:∀q,¬S.T.M q->q<c8.heap.size->¬q=S.T.C.D.d:=λq f _ e=>f (by rw[e];exact a7);refine⟨e,rfl,cb _ ⟨ay,ap,y,by rw[y.M];exact b9.ab a5 (λe=>H.at_.t.iN (H.gP P).1 (.inl (by rw[e];exact .inr (.inr (.inl rfl))))) db,aN.ab a5 I,by rw[y.M];exact ac.k.re a5 (λq _ f e=>I) λq _ f=>ae q f,by rw[y.M];exact ac.v.re a5 (λq _ f e=>I) λq _ f=>ae q f⟩⟩
  .exact cb _ ⟨S,b8,⟨rfl,rfl,rfl,rfl,rfl,rfl,rfl,rfl,rfl,rfl,rfl,rfl⟩,b9,aN,a6.aX ac.k λq _ f=>ae q f,a6.aX ac.v λq _ f=>ae q f⟩
  rintro aq ⟨ay,ce,y,cf,a9,dc,dd⟩;refine⟨_,a9.cell,Dh (A[i].kind==2) (λ_ k E=>⟨_,a9.cell,E _ (.refl _ _)⟩) λei bv=>Dh (A[i].kind==3) (λ_ k E=>⟨_,(a9.ext bv).cell,E _ (.refl _ _)⟩) λde cg=>⟨λ_=>?_,λ_=>?_⟩⟩
  .have hx:=bv.trans cg
   exact E _ _ ⟨ay,pages,aG,L,aP,m,a8,bQ,rfl,(ce.ext hx).mono I,y.st.trans aH,P,cf.ext hx,.inl ⟨y.failed.trans bs,bt.p8 y⟩⟩
  have hx:=bv.trans cg;have av:=a9.ext hx;have bw:lR X de bQ d bn (kM b) a8 ay pages L aG aP m (8*i):=⟨ce.ext hx,y.failed.trans bs,P,cf.ext hx,bt.p8 y⟩;have bx:=bV.ext bw.s.x;have ch:=od (sl:=sl) (kind:=A[i].kind) (nn:=A[i].n) (after:=A[i].after) bw I (a6.ext dc hx) (a6.ext dd hx) (by rw[cC];omega) (by rw[cC];omega);rw[y.st.trans aH]at ch;refine⟨_,av.cell,_,by rw[aw];exact av.cell,_,by rw[aw];exact av.cell,Q,by rw[aw];exact av.cell,sv,by rw[aw];exact av.cell,sl,by rw[aw];exact av.cell,_,bx.cell,_,by rw[aw];exact bx.cell,_,by rw[aw];exact bx.cell,ch.use ?_⟩;rintro _ df ⟨cp,ek,dR,cV,dv,m',ok,bd,rfl,dg,ej,ap,bu,dh,⟨nb,el,aO⟩,e,ax,ci⟩;have ck:=bu.trans (y.st.trans aH);refine⟨ok,m'.c.toArray,rfl,bj (vs:=ld.c) rfl λem cl di en=>⟨cl.cc rfl m'.plain,rfl,cw cl (us:=m'.c) rfl rfl λdj dk dl eo=>?_⟩⟩;have bz:Ext df dj:=Ext.cn di dl (bp _);refine⟨λht=>?_,λhf=>?_⟩
  .have al:cp.failed=false:=by rw[ht]at ax;cases bA:cp.failed<;>rw[bA]at ax<;>first|rfl|cases ax
   rcases ci with ⟨_,_,am⟩|⟨bB,_⟩
   rotate_left
   .rw[bB]at al;cases al
   obtain⟨a1,a2⟩:=ap.lO (z:=m') bz dk (bp _) aO.now.p aO.sure aO.now.ok aO.now.eS aO.num;exact E _ _ ⟨_,_,_,_,_,m',_,_,rfl,a1.mono I,ck,.inr rfl,a2,.inl ⟨al,⟨am.now,am.sure,am.c1,am.clock,am.first,am.bY,am.gU⟩⟩⟩
  .have al:cp.failed=true:=by rw[hf]at ax;cases bA:cp.failed<;>rw[bA]at ax<;>first|rfl|cases ax
   rcases ci with ⟨bB,_⟩|⟨_,rfl,rfl,rfl,rfl,_⟩
   .rw[bB]at al;cases al
   exact E _ _ ⟨cp,_,_,_,_,m,a8,bd,rfl,(ap.ext bz).mono I,ck,dg _ P,(dh a8 m P bw.md).ext bz,.inr ⟨al,rfl,bt.sure⟩⟩
 refine br.use ?_;rintro _ _ ⟨rfl,rfl⟩;refine⟨_,rfl,λ_=>(Dk bq).use ?_,λhf=>?_⟩
 .rintro _ ep ⟨rfl,dm⟩
  exact⟨true,rfl,rfl,((aY.trans aZ).trans H.x).trans dm⟩
 have bC:S.failed=true:=by simpa using hf
 obtain⟨rfl,a_⟩:L=aP/\m.sure=aP:=by
  rcases hs with ⟨h,_⟩|⟨_,h⟩
  .rw[bC]at h;cases h
  .exact h
 have dn:=H.at_.dead bC;obtain rfl:pages=aG:=dn.2.2.1;have cm:∀ {w1 ah:J}{V cp:bZ},dQ X w1 bQ d bn (kM b) V pages L pages L (8*i)->eu (λq=>¬V.T.M q) w1 a8 m->ad (λq=>q=V.T.C.D.d) w1 ah->wc V cp->eu (λq=>¬cp.T.M q) ah a8 m:=λ{w1 ah V cp} h1 h2 hc y=>by
  have a7:V.T.M V.T.C.D.d:=.inl (.inr (.inr (.inl rfl)));rw[y.M];exact h2.ab hc (λe=>h1.at_.t.iN (h1.gP P).1 (.inl (by rw[e];exact .inr (.inr (.inl rfl))))) λq f _ e=>f (by rw[e];exact a7)
 refine(H.fail (k:=2) (a:=999999) I I).use ?_;rintro _ eq ⟨⟨dp,rfl⟩,cp,co,dq,bE,dr⟩;have ds:=cm H ao dq bE;refine⟨dp,rfl,(co.fail (k:=3) (a:=999999) I I).use ?_⟩;rintro _ er ⟨⟨dt,rfl⟩,eT,az,dw,bF,dx⟩;have dy:=cm co ds dw bF;have cq:=H.at_.t.ca.raw.dev;have dz:eT.T.C.D.calm 900000:=by
  rw[dx (by decide),dr (by decide)];exact IT cq.f4 (cq.r H.r)
 have dA:eT.failed=true:=bF.failed.trans (bE.failed.trans bC);have dB:eT.st=G.st:=bF.st.trans (bE.st.trans aH);have cr:=C2 az.at_.t.ca.raw.dev;rw[az.d]at cr;refine⟨dt,rfl,cr.use ?_⟩;rintro _ _ ⟨rfl,rfl⟩;have es:=az.low I;have dC:=az.eS;obtain⟨bT,dD⟩:∃bT,bT=8*i:=⟨_,rfl⟩;rw[←dD]at az dC;refine⟨_,rfl,λn w'=>∃ (j:Nat) (o:bZ),n=(j:Int)/\j<=30/\j<=B.length/\dQ X w' bQ d bn (kM b) o pages L pages L (bT+8*j)/\o.st=G.st/\o.failed=true/\eu (λq=>¬o.T.M q) w' a8 m/\o.T.C.D.calm (900000-20000*j)/\o.T.C.D.writes=eT.T.C.D.writes,
  λn _=>((30:Int)-n).toNat,⟨0,eT,rfl,I,cG _,az,dB,dA,dy,dz,rfl⟩,?_⟩
 rintro _ bG ⟨j,o,rfl,et,ev,F,aD,Y,cs,bH,ct⟩;have ew:=F.low I;have ex:=F.eS;have ey:=F.aR;have ez:=F.gen;have eA:=F.oP;have cu:=F.at_.fT;have dE:∀p∈m.sure,p.1.length<=1000/\p.2.length<=1000:=by
  rw[a_];exact λp a3=>⟨by have:=(cu p a3).1.2;omega,by have:=(cu p a3).2;omega⟩
 refine⟨λaK=>?_,λ_=>?_⟩
 .obtain⟨h1,h2⟩:=Db (m:=30) cT aK
  refine Dj hB F.x h1 λcx aE Q sv sl cy eB Z ac=>?_;have ba:=F.ext cy;have dF:=cs.ext cy;have ae:∀q,bG.heap.size<=q->¬o.T.M q:=λq f ao=>by have:=F.at_.t.lt ao;omega
  have E:=a6.aX (C:=λq=>¬o.T.M q) ac.k λq _ f=>ae q f;have aS:=a6.aX (C:=λq=>¬o.T.M q) ac.v λq _ f=>ae q f;generalize dG:(B[j].key.take 26)=key at E;generalize hL:(B[j].val.take 26)=val at aS;have eC:key.length<=26:=by rw[←dG,cC];omega
  have cz:∀q,aB Q q->q<aE.heap.size/\¬o.T.M q:=λq f=>⟨(E.2.2 q f).2,(E.2.2 q f).1⟩;have dH:∀q,aB sv q->q<aE.heap.size/\¬o.T.M q:=λq f=>⟨(aS.2.2 q f).2,(aS.2.2 q f).1⟩;have bb:=ba.at_;have eE:=len8 aS.1;refine⟨Q,by rw[aw];exact Z.cell,(l9 E.1).use ?_⟩;rintro _ _ ⟨rfl,rfl⟩;refine⟨_,rfl,cd (λK w'=>aE=w'/\(K=true->cv key/\val.length<=24)) (λq f=>⟨λg=>⟨sv,by rw[aw];exact Z.cell,f _ _ ⟨rfl,λh=>⟨b1 g,by have:=b1 h;omega⟩⟩⟩,λ_=>f _ _ ⟨rfl,λh=>(by cases h)⟩⟩) ?_⟩;rintro eF _ ⟨rfl,dI⟩;have cA:=yU bb I I I I E.1 cz aS.1 dH;rw[aD]at cA;refine cd (λK w'=>aE=w'/\K=false) (λq f=>⟨λg=>⟨Q,by rw[aw];exact Z.cell,sv,by rw[aw];exact Z.cell,cA.use ?_⟩,λ_=>f _ _ ⟨rfl,rfl⟩⟩) ?_
  .rintro v eG (⟨_,bI,_⟩|⟨_,⟨_,rfl,rfl⟩|⟨R,_⟩⟩)
   .exact absurd (dI g) bI
   .exact⟨8,rfl,f _ _ ⟨rfl,rfl⟩⟩
   .rw[Y]at R;cases R
  rintro _ _ ⟨rfl,rfl⟩;have cD:=yS bb I I I;rw[aD]at cD;refine cd (λK w'=>aE=w'/\K=false) (λq f=>⟨λg=>(by cases g),λ_=>cD.use ?_⟩) ?_
  .rintro v eH (⟨_,rfl,rfl⟩|⟨R,_⟩)
   .exact⟨8,rfl,f _ _ ⟨rfl,rfl⟩⟩
   .rw[Y]at R;cases R
  rintro _ _ ⟨rfl,rfl⟩;have cH:=CZ bb I I I I E.1 cz;rw[aD]at cH;refine⟨λg=>(by cases g),λ_=>⟨Q,by rw[aw];exact Z.cell,cH.use ?_⟩⟩;intro v dJ dK;obtain⟨bJ,nn,rfl,rfl,dL⟩:∃ (bJ:ai) (nn:Int),v=.tuple #[bJ,nn]/\aE=dJ/\(cv key->nn=8):=by
   rcases dK with ⟨rfl,bI,rfl⟩|⟨eI,⟨_,rfl,rfl⟩|⟨R,_⟩⟩
   .exact⟨_,_,rfl,rfl,λh=>absurd h bI⟩
   .exact⟨_,_,rfl,rfl,λ_=>rfl⟩
   .rw[Y]at R;cases R
  refine⟨bJ,nn,rfl,Q,by rw[aw];exact Z.cell,(l9 E.1).use ?_⟩;rintro _ _ ⟨rfl,rfl⟩;refine⟨_,rfl,λg=>?_,λ_=>?_⟩
  .rw[dZ]at g
   rw[dL (b1 g.1)]at g;exact absurd g.2 (by decide)
  obtain⟨N,aa,dN⟩:∃N:Nat,IntKind.wrap .u64 B[j].n=(N:Int)/\N<18446744073709551616:=⟨(B[j].n%18446744073709551616).toNat,by rw[wT];omega,I⟩;refine⟨_,by rw[aw];exact Z.cell,?_⟩;rw[aa];have cI:=CX bb dN I I I;rw[aD]at cI;refine cI.use ?_;rintro v dO ⟨eJ,be,eK,⟨rfl,_,dP,rfl⟩|⟨R,_⟩⟩
  rotate_left
  .rw[Y]at R;cases R
  have aF:=ba.step dP be I ⟨I,I⟩ (by show o.gen<=o.gen+1;omega) (by show o.pending<=o.pending+1;omega);have dS:=dF.jQ be (ba.gP P).1 (ba.gP P).2;have bf:=a6.jQ E be;have cJ:=Z.ab be.ab λbK=>by have:=F.at_.t.lt bK.1;omega
  have aT:=C0 (fB:=bg) (to:=[]) (most:=50) aF.at_ I (by have:=aF.aR;omega) I bf.1 (λq f=>⟨(bf.2.2 q f).2,(bf.2.2 q f).1⟩) (se dO) (λq f=>(fZ q f).elim) (by decide);rw[show({o with st:=G.st,now:=max o.now N}:bZ).st=G.st from rfl]at aT;refine⟨0,rfl,Q,by rw[aw];exact cJ.cell,aT.use ?_⟩;rintro _ cK ⟨gH,bL,an,aU,bh,⟨dT,rfl,bi⟩|⟨_,bM⟩⟩
  rotate_left
  .exact absurd (fH bH I) bM
  have bN:=aF.step bL an I ⟨I,I⟩ (by rw[aU.gen];omega) (by rw[aU.pending];omega);have bk:=dS.jQ an (aF.gP P).1 (aF.gP P).2;have dU:=a6.jQ bf an;have dV:=cJ.ab an.ab λbK=>by have:=F.at_.t.lt (q:=cx.heap.size) bK.1;omega
  have dW:gH.C.D.calm (900000-20000*(j+1)):=bh.calm _ (fH bH I);have bO:gH.C.D.writes=eT.T.C.D.writes:=(c2.writes aF.at_ Y bh).trans ct;refine⟨dT,0,rfl,aW ?_⟩;have aV:=cj cK;have W:=bN.ext aV;have bl:=bk.ext aV;have cL:=a6.ext dU aV;have bP:=dV.ext aV;have cM:=bi.ab (ad.cF aV:ad (λ_=>False) _ _) λ_ _ _ h=>h;generalize cK.drew=bR at W bl cL bP cM;have eL:=bP.lt;refine⟨λq=>bR.heap.size<=q,λg=>(by cases g),λ_=>⟨_,rfl,by rw[aw];show¬bR.heap.size<=cx.heap.size;omega,Q,by rw[aw];exact bP.cell,?_⟩⟩;rw[aw,cB];refine(HJ (tt:=bg) (to:=[]) bl.sure dE (by rw[a_];omega) (λw' hx=>(bl.v.ext hx).cell) cL.1 I (se bR) (by decide) 50 (wa W.at_)).use ?_;rintro _ eM ⟨dX,rfl,dY,cN⟩;have d0:=cM.ab (ad.cF cN:ad (λ_=>False) _ _) λ_ _ _ h=>h;refine⟨dX,rfl,(oc d0 dY (by
   have h1:((eY L key []).take (Int.toNat 50)).length<=L.length:=eD (by rw[cC];exact Nat.min_le_right _ _) (lW _ _);omega)).use ?_⟩
  rintro _ eN ⟨r,rfl,y,d1⟩;obtain rfl:r=true:=y.2 (by rw[a_]);refine⟨true,rfl,λg=>(by cases g),λ_=>?_⟩;rw[Dc I];have cO:=cN.trans d1;exact⟨⟨j+1,_,rfl,I,I,(W.ext cO).mono I,rfl,Y,bl.ext cO,dW,bO⟩,by show((30:Int)-((j+1:Nat):Int)).toNat<((30:Int)-(j:Int)).toNat;omega⟩
 have aT:=C0 (fJ:=bg) (fB:=bg) (most:=2000) F.at_ I I I (se bG) (λq f=>(fZ q f).elim) (se bG) (λq f=>(fZ q f).elim) (by decide);rw[aD]at aT;refine aT.use ?_;rintro _ d2 ⟨gH,bL,an,aU,bh,⟨d3,rfl,bi⟩|⟨_,bM⟩⟩
 rotate_left
 .exact absurd (fH bH I) bM
 have bN:=F.step bL an I ⟨I,I⟩ (by rw[aU.gen];omega) (by rw[aU.pending];omega);have bk:=cs.jQ an (F.gP P).1 (F.gP P).2;have bO:gH.C.D.writes=eT.T.C.D.writes:=(c2.writes F.at_ Y bh).trans ct;have d4:(eY L [] []).take (Int.toNat 2000)=L:=by rw[IG,dM (by show L.length<=2000;omega)]
 rw[d4]at bi;refine⟨d3,0,rfl,cd (λK w'=>K=true/\Ext d2 w') (λq f=>⟨λ_=>⟨_,rfl,_,by rw[aw];exact bk.v.cell,(oc bi bk.sure I).use ?_⟩,λg=>(by cases g)⟩) ?_⟩
 .rintro _ eO ⟨r,rfl,y,d5⟩
  obtain rfl:r=true:=y.2 a_.symm;exact⟨true,rfl,f _ _ ⟨rfl,d5⟩⟩
 rintro _ bS ⟨rfl,d6⟩;have W:=bN.ext d6;have cP:=C2 W.at_.t.ca.raw.dev;rw[W.d]at cP;refine cd (λK w'=>K=true/\bS=w') (λq f=>⟨λ_=>cP.use ?_,λg=>(by cases g)⟩) ?_
 .rintro _ _ ⟨rfl,rfl⟩
  exact⟨_,rfl,f _ _ ⟨by rw[ki];exact bO,rfl⟩⟩
 rintro _ _ ⟨rfl,rfl⟩;have cQ:=Ig W.at_;rw[show(o.b7 gH).st=G.st from aD]at cQ;refine cd (λK w'=>K=true/\bS=w') (λq f=>⟨λ_=>cQ.use ?_,λg=>(by cases g)⟩) ?_
 .rintro _ _ ⟨rfl,rfl⟩
  have h0:(o.b7 gH).pending=0:=(W.at_.dead Y).2.2.2;exact⟨_,rfl,f _ _ ⟨by rw[h0];rfl,rfl⟩⟩
 rintro _ _ ⟨rfl,rfl⟩;refine cd (λK w'=>K=true/\Ext w w') (λq f=>⟨λ_=>(Dk bS).use ?_,λg=>(by cases g)⟩) ?_
 .rintro _ eP ⟨rfl,d7⟩
  exact⟨true,rfl,f _ _ ⟨rfl,(((aY.trans aZ).trans W.x).trans d7)⟩⟩
 .rintro _ eQ ⟨rfl,d8⟩
  exact⟨rfl,d8⟩
end
end Go.Proofs.YtkdhdlfonmgheaaGreat
