/- Contracts of the functions that the statement reaches, and the plain laws over them; each theorem stands with its conditions. -/
import Derived.Test.YtkdhdlfonmgheaaGreatBPlays6
namespace Go.Proofs.YtkdhdlfonmgheaaGreat
open Go a6 Go.Proofs.Tryz
theorem Is:ix aj 170:=⟨_,(Option.some_get (show(Tryz.prog.funcs[170]?).isSome=true by kernel_rfl)).symm,by kernel_rfl,by kernel_rfl⟩
theorem It{w:J}{s:Y}{l:O UInt8}(hs:Src 1 w s (aG l))(o:l.length<=1000):
   aN aj 169 #[s,.func (.func 170) #[] #[]] w (λv w'=>v=.bool (!(l.all λc=>c==0))/\w=w'):=by
 have p:=len8 hs
 refine okF (I7.tu s ⟨170,#[],#[]⟩) I6.tu func169 ?_
 (delta I7.tu ay;dsimp only)
 refine Calls.mono (I7.Ed s ⟨170,#[],#[]⟩ w (λv w'=>(∃i:Int,v=i/\(decide (i>=0))= !(l.all λc=>c==0))/\w=w') ?_) ?_
 · (delta I7.q_ ai aK bY ar;dsimp only)
   refine⟨λi w'=>∃j:Nat,i=j/\j<=l.length/\w=w'/\∀ (k:Nat) (a:k<l.length),k<j->l[k]=0,λi _=>((l.length:Int)-i).toNat,⟨0,rfl,cE _,rfl,λk a h=>I⟩,?_⟩
   rintro _ _ ⟨j,rfl,q,rfl,d⟩
   refine⟨λaJ=>?_,λb=>?_⟩
   · have aJ:j<l.length:=by have:=b1 aJ;omega
     obtain⟨A,aq,f,g⟩:=hs.at (oe aJ)
     refine⟨A,aq,f,_,g,Is,?_⟩
     refine Calls.mono (I7.Eu ((l[j]).toNat:Int) w (λv w'=>v=.bool (((l[j]).toNat:Int) !=0)/\w=w') ⟨rfl,rfl⟩) ?_
     rintro _ _ ⟨_,rfl,rfl,rfl⟩
     refine⟨_,rfl,λe=>⟨⟨j,rfl,?_⟩,rfl⟩,λm=>?_⟩
     · have:(l.all λc=>c==0)=false:=by
         rw[List.all_eq_false]
         refine⟨l[j],cA _,λh=>?_⟩
         have h:=eq_of_beq h
         rw[h]at e
         simp at e
       rw[this]
       exact dm I
     · have h0:l[j]=0:=by
         have:((l[j]).toNat:Int)=0:=by simpa using m
         exact UInt8.toNat_inj.1 (by show(l[j]).toNat=0;omega)
       rw[bu (n:=(j:Int)+1) I I]
       refine⟨⟨j+1,I,I,rfl,λk a h=>?_⟩,?_⟩
       · rcases dC k j with h1|h1
         · exact d k a h1
         · have:k=j:=by omega
           subst this;exact h0
       · show((l.length:Int)-((j:Int)+1)).toNat<((l.length:Int)-(j:Int)).toNat
         omega
   · have b:j=l.length:=by have:=cp b;omega
     subst b
     refine⟨⟨-1,rfl,?_⟩,rfl⟩
     have:(l.all λc=>c==0)=true:=by
       rw[mA]
       intro c hc
       obtain⟨k,a,rfl⟩:=fb hc
       rw[d k a a];rfl
     rw[this];rfl
 · rintro _ _ ⟨_,rfl,⟨i,rfl,hi⟩,rfl⟩
   exact⟨i,rfl,by rw[hi],rfl⟩
theorem Iu{l:O Int}{i:Nat}{d:Int}(h:i<l.length):l.set i (l.getD i d)=l:=by
 rw[ff h,List.set_getElem_self]
theorem Iv{D:a_}(h:D.quiet){k:Nat}(a:k=1\/k=2):D.cg.getD k 0= -1:=by
 have h1:=h.1 ((D.cg.getD k 0).toNat+1);rcases a with rfl|rfl
 .exact h1.1.resolve_right I
 .exact h1.2.resolve_right I
theorem C3{D:a_}(h:D.quiet)(b:D.cg.length=4){k:Nat}(a:k=1\/k=2):D.cw k=D/\D.fP k=false:=by
 have h1:=Iv h a;unfold a_.cw a_.fP;rw[h1];refine⟨?_,rfl⟩;have e:(gx (-1)).2=D.cg.getD k 0:=by rw[h1];rfl
 rw[e,Iu I]
def takeN(u:cU)(g:Nat):ao (cU×Nat)->ao (cU×Nat)
 |none=>some (u,g)
 |some x=>if g>x.2 then some (u,g) else some x
def gN(n no:Nat)(l:cT)(acc:ao (cU×Nat)):Except Int (ao (cU×Nat)):=
 if (l.all λc=>c==0)=true then .ok acc else match gT (no:Int) l with
 | .error e=>.error e
 | .ok (u,s,g)=>if s≠n then .error 4 else .ok (takeN u g acc)
def jm(n:Nat)(V:Nat->cT):Nat->Except Int (ao (cU×Nat))
 |0=>.ok none
 |i+1=>match jm n V i with
  | .error e=>.error e
  | .ok a=>gN n i (V i) a
theorem C4{n:Nat}{V:Nat->cT}{e:Int}{i:Nat}(h:jm n V i=.error e):∀k,jm n V (i+k)=.error e
 |0=>h
 |k+1=>by
  show jm n V (i+k+1)=_
  unfold jm
  rw[C4 h k]
def C5:ao (cU×Nat)->Except Int (cU×Nat)
 |none=>.error 6
 |some x=>.ok x
def jN(n:Nat)(V:Nat->cT):Except Int (cU×Nat):=match jm n V 2 with
 | .error e=>.error e
 | .ok a=>C5 a
def qo:ao (cU×Nat)->cU
 |none=>gi
 |some x=>x.1
def qp:ao (cU×Nat)->Nat
 |none=>0
 |some x=>x.2
theorem Iw{no:Int}{l:cT}{e:Int}(h:gT no l=.error e):e≠0:=by
 unfold gT at h;split at h
 .rename_i a he
  cases h;exact yH he
 .split at h
  .cases h;decide
  .split at h
   .cases h
   .cases h;decide
theorem py{w:J}{D:a_}(h:cB w D)(j:D.quiet)(aB:D.aO<=1000000000):
 aN aj 109 #[.pointer (some D.d)] w (λv w'=>cB w' D/\ad (λq=>q=D.d) w w'/\(match jN D.n D.now with
  | .error e=>e≠0/\∃u:cU,v=.tuple #[.agg u.c.toArray,.int .u64 0,e]
  | .ok (u,g)=>v=.tuple #[.agg u.c.toArray,.int .u64 (g:Nat),(0:Int)])):=by
 have aS:=h.bR;refine okF (I7.py (some D.d)) I6.py func109 ?_;(delta I7.py gv ai b6 w6 r1 U bl aF Ak ay ar;dsimp only);refine bd (vs:=gi.c) rfl λw1 ac af aT=>?_;obtain⟨t,aC⟩:∃t,t=w.heap.size:=⟨_,rfl⟩;rw[←aC]at ac⊢;have aD:t≠D.d:=by have:=h.lt (q:=D.d) (.inl rfl);omega
 have ah:=C3 j h.f4 (k:=1) (.inl rfl);refine⟨λaE aG n6 C=>∃ (i:Nat) (a:ao (cU×Nat)),n6=(i:Nat)/\i<=2/\aE=(qp a:Nat)/\aG=a.isSome/\jm D.n D.now i=.ok a/\cB C D/\Var C t (qo a).c 104/\ad (λq=>q=D.d) w C,λ_ _ n6 _=>(2-n6).toNat,⟨0,none,rfl,by decide,rfl,rfl,rfl,h.ext af,ac,af.mono λ_ _ h=>h.elim⟩,?_⟩;rintro _ _ _ C ⟨i,a,rfl,hi,rfl,rfl,ak,O,A,E⟩;have aU:=E.size;have B:∀ {w' al:J},ad (λq=>q=D.d) w w'->ad (λq=>q=t) w' al->ad (λq=>q=D.d) w al:=λh1 h2=>cr h1 h2 λq aV e=>by omega
 refine⟨λP=>?_,λP=>?_⟩
 .have Q:i<2:=by have:(i:Int)<2:=b1 P;omega
  have aH:IntKind.wrap .i64 ((i:Int)+1)=((i+1:Nat):Int):=by rw[bu I I];omega
  refine sY (λn b w'=>∃y:ao (cU×Nat),n=(qp y:Nat)/\b=y.isSome/\jm D.n D.now (i+1)=.ok y/\cB w' D/\Var w' t (qo y).c 104/\ad (λq=>q=D.d) w w') (λaW R=>(xY O (i:=i) I aB).use ?_) ?_
  .rintro v aI ⟨F,am,aJ⟩
   rw[ah.1]at F;rcases aJ with ⟨an,_⟩|⟨_,s,rfl,S⟩
   .rw[ah.2]at an;cases an
   have ap:=A.ae am aD;have aq:ad (λq=>q=D.d) w aI:=E.trans am;have aX:=F.oy (i:=i) I;have G:jm D.n D.now (i+1)=gN D.n i (D.now i) a:=by
    unfold jm;rw[ak]
   have au:∀e,gN D.n i (D.now i) a=.error e->jN D.n D.now=.error e:=λe he=>by
    unfold jN;have:=C4 (G.trans he) (1-i);rw[show i+1+(1-i)=2 from I]at this;rw[this]
   refine⟨s,0,rfl,λhx=>(by cases hx),λ_=>(It S.1 I).use ?_⟩;rintro _ _ ⟨rfl,rfl⟩;refine⟨_,rfl,λm=>R _ _ _ ⟨a,rfl,rfl,?_,F,ap,aq⟩,λm=>(pF S.1 S.2.1 I (i:Nat)).use ?_⟩
   .rw[G];unfold gN
    rw[if_pos (by simpa using m)]
   have m:¬((D.now i).all λc=>c==0)=true:=by simpa using m
   rintro v T ⟨rfl,V⟩;have av:=F.ext V;have aw:=ap.ext V;have ax:ad (λq=>q=D.d) w T:=cr aq V λq _ h=>h.elim
   cases H:gT (i:Int) (D.now i) with
   |error e=>
    have he:=Iw H;have z:=au e (by unfold gN;rw[if_neg m,H]);refine⟨_,_,_,_,_,_,_,_,e,rfl,bd (vs:=gi.c) rfl λaK W X aL=>i_ W rfl gi λK az Y _=>⟨λ_=>?_,λhx=>absurd (by simpa using hx) he⟩⟩;have o:Ext T K:=Ext.cm X Y (bn _);have p:=aw.ext o;refine gM p (i_ p rfl (qo a) λag l f _=>gM l ⟨(av.ext o).ae f λq j e=>?_,B (cr ax o λq _ h=>h.elim) f,?_⟩)
    .have:=h.lt j;omega
    .rw[z];exact⟨he,_,rfl⟩
   |ok r=>
    obtain⟨u,fp,g⟩:=r;refine⟨_,_,_,_,_,_,_,_,0,rfl,bd (vs:=gi.c) rfl λaK W X aL=>i_ W rfl u λK az Y _=>⟨λhx=>(by cases hx),λ_=>?_⟩⟩;have o:Ext T K:=Ext.cm X Y (bn _);have p:=aw.ext o;have L:=av.ext o;have Z:ad (λq=>q=D.d) w K:=cr ax o λq _ h=>h.elim;refine(p7 L).use ?_;rintro _ _ ⟨rfl,rfl⟩;refine⟨_,rfl,λM=>?_,λaa=>?_⟩
    .have M:fp≠D.n:=λe=>by rw[e]at M;simp at M
     have z:=au 4 (by unfold gN;rw[if_neg m,H];dsimp only;rw[if_pos M]);refine gM p (i_ p rfl (qo a) λag l f _=>gM l ⟨L.ae f λq j e=>?_,B Z f,?_⟩)
     .have:=h.lt j;omega
     .rw[z];exact⟨by decide,_,rfl⟩
    .have aa:fp=D.n:=by
      have:(fp:Int)=(D.n:Int):=by simpa using aa
      omega
     have aA:gN D.n i (D.now i) a=.ok (takeN u g a):=by
      unfold gN;rw[if_neg m,H];dsimp only;rw[if_neg (λe=>e aa)]
     refine⟨λN=>?_,λN=>?_⟩
     .have aM:jm D.n D.now (i+1)=.ok (some (u,g)):=by
       rw[G,aA]
       cases a with
       |none=>rfl
       |some x=>
        have:g>x.2:=by
         have:(g:Int)>((qp (some x):Nat):Int):=by simpa using N
         have e:qp (some x)=x.2:=rfl;omega
        show Except.ok (if g>x.2 then _ else _)=_;rw[if_pos this]
      refine gM az (i_ p rfl u λag l f _=>R _ _ _ ⟨some (u,g),rfl,rfl,aM,L.ae f λq j e=>?_,l,B Z f⟩);have:=h.lt j;omega
     .refine R _ _ _ ⟨a,rfl,rfl,?_,L,p,Z⟩
      rw[G,aA]
      cases a with
      |none=>cases N
      |some x=>
       have:¬g>x.2:=by
        have:¬(g:Int)>((qp (some x):Nat):Int):=by simpa using N
        have e:qp (some x)=x.2:=rfl;omega
       show Except.ok (if g>x.2 then _ else _)=_;rw[if_neg this]
  .rintro _ _ aY ⟨y,rfl,rfl,h1,h2,aP,aQ⟩
   rw[aH];have aR:(2-((i+1:Nat):Int)).toNat<(2-(i:Int)).toNat:=by omega
   exact⟨⟨i+1,y,rfl,Q,rfl,rfl,h1,h2,aP,aQ⟩,aR⟩
 .have Q:i=2:=by have:¬(i:Int)<2:=cp P;omega
  subst Q;have z:jN D.n D.now=C5 a:=by unfold jN;rw[ak]
  refine⟨λab=>gM A (i_ A rfl (qo a) λag l f _=>gM l ⟨O.ae f λq j e=>?_,B E f,?_⟩),λab=>gM A (i_ A rfl (qo a) λag l f _=>gM l ⟨O.ae f λq j e=>?_,B E f,?_⟩)⟩
  .have:=h.lt j;omega
  .rw[z]
   cases a with
   |none=>exact⟨by decide,_,rfl⟩
   |some x=>cases ab
  .have:=h.lt j;omega
  .rw[z]
   cases a with
   |none=>cases ab
   |some x=>rfl
theorem Ix{no:Int}{l:O UInt8}{p:ig}(h:dI no l=.ok p):l.getD 4 0=1:=by
 by_cases e:l.getD 4 0=1
 .exact e
 .exfalso
  unfold dI at h;split at h
  .cases h
  .split at h
   .cases h
   .first|(rw[if_pos e]at h;cases h)|cases h
theorem Iy{no:Int}{l:O UInt8}{p:ig}(h:dI no l=.ok p):¬(l.all λc=>c==0)=true:=λa=>by
 have h1:=Ix h
 rw[mA]at a
 rw[ft]at h1
 cases hg:l[4]? with
 |none=>rw[hg]at h1;cases h1
 |some c=>
  rw[hg]at h1
  have:=a c (List.mem_of_getElem? hg)
  have h1:c=1:=h1
  rw[h1]at this;cases this
theorem yY{no:Int}{l:O UInt8}{r:cU×Nat×Nat}(h:gT no l=.ok r):∃p,dI no l=.ok p:=by
 unfold gT at h
 cases a:dI no l with
 |error e=>rw[a]at h;cases h
 |ok p=>exact⟨p,rfl⟩
theorem r7{n no:Nat}{l:cT}{a:ao (cU×Nat)}{u:cU}{g:Nat}(h:gT (no:Int) l=.ok (u,n,g)):gN n no l a=.ok (takeN u g a):=by
 obtain⟨p,b⟩:=yY h;unfold gN;rw[if_neg (Iy b),h];dsimp only;rw[if_neg (λe=>e rfl)]
theorem C6{n no:Nat}{a:ao (cU×Nat)}:gN n no gy a=.ok a:=by
 unfold gN;rw[if_pos (by unfold gy;rw[List.all_replicate];rfl)]
section
variable {V:Nat->cT}{n gen:Nat}{u:cU}{g:Nat->ah}{P:Nat->ao aB}{p:O Nat}{L:O aH}
theorem g5.jN(h:g5 V n gen u g P p L):jN n V=.ok (u,gen):=by
 have h2:jm n V 2=.ok (some (u,gen)):=by
  have e:jm n V 2=(match gN n 0 (V 0) none with| .error e=>.error e| .ok a=>gN n 1 (V 1) a):=rfl;rw[e];have b:=h.v8;have c:=h.yP;rcases Nat.mod_two_eq_zero_or_one gen with h0|h0
  .rw[h0]at b c
   rw[r7 b];show gN n 1 (V 1) (some (u,gen))=_;rcases c with d|⟨f,g',h1,h2⟩
   .rw[show V 1=gy from d,C6]
   .rw[r7 (no:=1) h1]
    show Except.ok (if g'>gen then _ else _)=_;rw[if_neg I]
  .rw[h0]at b c
   rcases c with d|⟨f,g',h1,h2⟩
   .rw[show V 0=gy from d,C6]
    exact r7 b
   .rw[r7 (no:=0) h1]
    show gN n 1 (V 1) (some (f,g'))=_;rw[r7 b];show Except.ok (if gen>g' then _ else _)=_;rw[if_pos h2]
 unfold Go.Proofs.YtkdhdlfonmgheaaGreat.jN;rw[h2];rfl
end
theorem C7{g:Nat->ah}{n:Nat}(hg:∀i,n<=i->g i=false):bitsOf ((fJ g ((n+7)/8)).map λc=>(c.toNat:Int))=g:=by
 funext i;unfold bitsOf;by_cases hi:i/8<(n+7)/8
 .rw[ft,lg]
  have e:(fJ g ((n+7)/8))[i/8]? =some (UInt8.ofNat (byteOf g (i/8))):=by
   unfold fJ;rw[lg,List.getElem?_range hi];rfl
  rw[e];have a:=j4 g (i/8);show((((UInt8.ofNat (byteOf g (i/8))).toNat:Nat):Int).toNat).testBit (i%8)=g i;rw[UInt8.toNat_ofNat',jv a,c8,nf _ _ _ (g6 _ (by decide)),BB]
 .have:(fJ g ((n+7)/8)).length<=i/8:=by rw[oJ];omega
  rw[ft,ke (by rw[dN];exact this),hg i I];show Nat.testBit (Int.toNat 0) _=false;simp
theorem Iz{g:Nat->ah}{n:Nat}(hg:∀i,n<=i->g i=false):oI ((fJ g ((n+7)/8)).map λc=>(c.toNat:Int)) n:=
 ⟨by rw[dN,oJ],λi hi=>by rw[C7 hg];exact hg i hi⟩
theorem pz{w:J}{D:a_}{no:Nat}{g:Nat->ah}(h:cB w D)(P:D.quiet)(Q:D.aO<=1000000000)(C:no<D.n)(hg:∀i,D.n<=i->g i=false)
 (hc:(∃fo,dI ((no:Nat):Int) (D.now no)=.ok ⟨4,fo,fJ g ((D.n+7)/8)⟩)\/∃e,dI ((no:Nat):Int) (D.now no)=.error e):
 aN aj 110 #[.pointer (some ⟨D.d,0,none⟩),.int .i64 (no:Nat)] w (λv w'=>cB w' D/\ad (λq=>q=D.d) w w'/\
  ((∃sb s1 s2,v=.tuple #[.pointer (some ⟨sb,0,none⟩),.int .i64 0]/\(∃fo,dI ((no:Nat):Int) (D.now no)=.ok ⟨4,fo,fJ g ((D.n+7)/8)⟩)/\eP w' sb D.n g g s1 s2/\∀k,fm sb s1 s2 k->w.heap.size<=k)\/
   (∃e:Int,v=.tuple #[.pointer none,.int .i64 e]/\e≠0/\∃R,dI ((no:Nat):Int) (D.now no)=.error R))):=by
 refine okF (I7.pz (some ⟨D.d,0,none⟩) (no:Nat)) I6.pz func110 ?_;(delta I7.pz b6 ai ly z3 U r1 af ay c9;dsimp only);have ag:=h.bq;have E:=C3 P h.f4 (k:=1) (.inl rfl);refine(xY h C Q).use ?_;rintro v w1 ⟨m,S,o⟩;rw[E.1]at m;rcases o with ⟨F,_⟩|⟨_,s,rfl,G⟩
 .rw[E.2]at F;cases F
 have ak:=m.oy C;refine⟨s,0,rfl,λhx=>(by cases hx),λ_=>(mW G.1 G.2.1 I _).use ?_⟩;rintro v p ⟨f,H⟩;have K:=m.ext H;have r:ad (λq=>q=D.d) w p:=cr S H λq _ h=>h.elim;rcases hc with ⟨fo,a⟩|⟨e,a⟩
 .rw[a]at f
  obtain⟨t,rfl,T,al⟩:=f;refine⟨4,fo,t,0,rfl,bd (vs:=[.int .i64 0,.int .u64 0,.slice none 0 0]) rfl λV u y W=>vL 4 fo t u rfl λb z A X=>⟨λhx=>(by cases hx),λ_=>⟨4,z.cell,λhx=>(by cases hx),λ_=>aS ?_⟩⟩⟩;have j:Ext p b:=Ext.cm y A (bn _);have L:Ext b b.drew:=b4 _;have Y:=z.ext L;have l:=Ext.trans j L;have M:=K.ext l;refine⟨λ_=>False,id,t,by rw[av];exact Y.cell,(p7 M).use ?_⟩;rintro _ _ ⟨rfl,rfl⟩;have Z:=T.ext l;have hu:aG (fJ g ((D.n+7)/8))=((fJ g ((D.n+7)/8)).map λc=>((c.toNat:Nat):Int)).map (.int .u8):=by unfold aG;rw[iu];rfl
  have N:=Z.src;rw[show(⟨4,fo,fJ g ((D.n+7)/8)⟩:ig).body=fJ g ((D.n+7)/8) from rfl,hu]at N;refine⟨_,rfl,ad.refl _ _,(pG N (λx hx=>?_) (by rw[dN,oJ];omega) (D.n:Nat)).use ?_⟩
  .obtain⟨c,_,rfl⟩:=ep.1 hx
   have:=c.toNat_lt;omega
  rintro v aa ⟨O,o⟩;have ab:=M.ext O;have ac:ad (λq=>q=D.d) w aa:=cr r (Ext.trans l O) λq _ h=>h.elim;have am:=h.bR;rcases o with ⟨B,_⟩|⟨_,_,B,_⟩|⟨_,_,_,sb,s1,s2,rfl,gd,hf⟩
  .exact absurd ⟨I,I⟩ B
  .exact absurd (by rw[c8];exact Iz hg) B
  .rw[C7 hg,c8]at gd
   refine⟨_,0,rfl,ab,ac,.inl ⟨sb,s1,s2,rfl,⟨fo,a⟩,gd,λk ae=>?_⟩⟩;have:=hf k ae;have:=r.size;have:=l.size;omega
 .rw[a]at f
  obtain rfl:=f;have he:=yH a;refine⟨0,0,⟨none,0,0⟩,e,rfl,bd (vs:=[.int .i64 0,.int .u64 0,.slice none 0 0]) rfl λV u y W=>vL 0 0 ⟨none,0,0⟩ u rfl λb z A X=>⟨λ_=>?_,λhx=>absurd (by simpa using hx) he⟩⟩;have j:Ext p b:=Ext.cm y A (bn _);exact⟨K.ext j,cr r j λq _ h=>h.elim,.inr ⟨e,rfl,he,e,a⟩⟩
section
variable {w w':J}{D:a_}{V:Nat->cT}{gen:Nat}{u:cU}{g:Nat->ah}{P:Nat->ao aB}{aI:O Nat}{aT:O aH}
def r8(D:a_)(j:Nat):Prop:=¬((D.now j).all λc=>c==0)=true/\∃e,dI (j:Int) (D.now j)=.error e
theorem IA(h:g5 V D.n gen u g P aI aT)(ed:∀j,g j=true->D.now j=V j\/r8 D j):(D.now 0=V 0/\D.now 1=V 1/\jN D.n D.now=.ok (u,gen))\/((∃j,g j=true/\r8 D j)/\∃e,jN D.n D.now=.error e):=by
 have mg:g 0=true:=(h.g 0).2 (.inr (.inl (by decide)));have au:g 1=true:=(h.g 1).2 (.inr (.inl (by decide)));have bad:∀ (j:Nat) (a:ao (cU×Nat)),r8 D j->∃e,gN D.n j (D.now j) a=.error e:=λj a ⟨h1,e,h2⟩=>by
  unfold gN;rw[if_neg h1];unfold gT;rw[h2];exact⟨e,rfl⟩
 have b:jm D.n D.now 2=(match gN D.n 0 (D.now 0) none with| .error e=>.error e| .ok a=>gN D.n 1 (D.now 1) a):=rfl;rcases ed 0 mg with h0|h0
 .rcases ed 1 au with h1|h1
  .refine .inl ⟨h0,h1,?_⟩
   have:=h.jN;unfold jN at this⊢;have c:jm D.n V 2=(match gN D.n 0 (V 0) none with| .error e=>.error e| .ok a=>gN D.n 1 (V 1) a):=rfl;rw[b,h0,h1,←c];exact this
  .right
   refine⟨⟨1,au,h1⟩,?_⟩;unfold jN;rw[b]
   cases hs:gN D.n 0 (D.now 0) none with
   |error e=>exact⟨e,rfl⟩
   |ok a=>
    obtain⟨e,he⟩:=bad 1 a h1;dsimp only;rw[he];exact⟨e,rfl⟩
 .right
  refine⟨⟨0,mg,h0⟩,?_⟩;obtain⟨e,he⟩:=bad 0 none h0;unfold jN;rw[b,he];exact⟨e,rfl⟩
theorem C8{c aU k:Nat}{a:Nat->Prop}(h:dW (λ_=>False) w (iI c aU k D))(d:∀q,a q->q<w.heap.size/\¬cY (iI c aU k D) q):dW a w (iI c aU k D):=
 ⟨h.raw,h.inv.pins,λf hf b=>(by
  have:=(List.mem_replicate.1 (show f∈List.replicate k dw from hf)).2
  rw[this]at b
  cases b),h.inv.un,d,h.inv.k3⟩
theorem pv{l:fI}{b7:Nat->Prop}(h:cB w D)(o:D.quiet)(b1:D.aO<=800000000)(aG:∀j,g j=true->D.dv j=[])(K:kD (l.al:Nat) (l.batch:Nat) (l.d_:Nat))(a:g5 V D.n gen u g P aI aT)(ed:∀j,g j=true->D.now j=V j\/r8 D j)(hs:D.bI=g)(aH:D.eo=λ_=> [])(b2:gen<=1000000000)(ba:aT.length<=4000)(bb:aI.length<=4000)(aJ:∀q,b7 q->q<w.heap.size/\¬bT D q):
 aN aj 41 #[.pointer (some ⟨D.d,0,none⟩),.agg l.c.toArray] w (λv w'=>ad (bT D) w w'/\
  ((∃S:ck,v=.tuple #[.pointer (some ⟨S.st,0,none⟩),.int .i64 0]/\c0 w' S aI aT aI aT/\S.failed=false/\S.u=u/\S.gen=gen/\S.now=u.clock/\S.pending=0/\S.l=l/\S.T.C.D.d=D.d/\S.T.n=D.n/\S.T.C.D.quiet/\S.T.C.D.aO<=D.aO+9000/\(∀q,S.T.M q->bT D q\/b7 q\/w.heap.size<=q)/\(∀q,S.T.E q↔q=S.st\/b7 q)/\w.heap.size<=S.st)\/
   (∃e:Int,v=.tuple #[.pointer none,.int .i64 e]/\e≠0/\∃j,g j=true/\r8 D j))):=by
 refine okF (I7.pv (some ⟨D.d,0,none⟩) (l.al:Nat) (l.batch:Nat) (l.d_:Nat)) I6.pv func41 ?_;(delta I7.pv r1 U bl aF ai Aj gv c9 ay;dsimp only);have b3:=h.bR;have b4:=h.bq;have G:=a.qm;have Y:g u.map=true:=(a.g _).2 (.inr (.inr rfl));refine bd (vs:=l.c) rfl λw1 Z aK b5=>⟨_,Z.cell,_,by rw[av];exact Z.cell,_,by rw[av];exact Z.cell,(nS w1 _ _ _ _).use ?_⟩;rintro _ b6 ⟨rfl,aM⟩;refine⟨_,rfl,λaP=>?_,λ_=>?_⟩
 .rw[dm K]at aP;cases aP
 have ag:=aK.trans aM;have bc:=h.ext ag;have be:=Z.ext aM;refine(py bc o I).use ?_;rintro v ah ⟨bf,ak,H⟩;have b8:=ag.size;have b9:=ak.size;have b_:=aK.size;have aa:∀q,q=D.d->bT D q:=λq e=>.inl e;have aQ:ad (bT D) w ah:=cr (ag.mono λ_ _ h=>h.elim) ak λq _ e=>aa q e;have bi:=be.ae ak λe=>by have:=h.lt (q:=D.d) (.inl rfl);omega
 rcases IA a ed with ⟨bj,bm,am⟩|⟨bo,e,am⟩
 rotate_left
 .rw[am]at H
  obtain⟨he,bp,rfl⟩:=H;refine⟨_,_,_,_,_,_,0,e,rfl,bd (vs:=gi.c) rfl λbr ap aq bs=>i_ ap rfl bp λab ar au _=>⟨λ_=>?_,λhx=>absurd (by simpa using hx) he⟩⟩;have O:Ext ah ab:=Ext.cm aq au (bn _);exact⟨cr aQ O λq _ h=>h.elim,.inr ⟨e,rfl,he,bo⟩⟩
 rw[am]at H;obtain rfl:=H;refine⟨_,_,_,_,_,_,_,0,rfl,bd (vs:=gi.c) rfl λbr ap aq bs=>i_ ap rfl u λab ar au _=>⟨λhx=>(by cases hx),λ_=>⟨_,by rw[av];exact ar.cell,?_⟩⟩⟩;have O:Ext ah ab:=Ext.cm aq au (bn _);have bt:=bf.ext O;have bu:=bi.ext O;have aR:∀i,D.n<=i->g i=false:=λi hi=>by
  cases hg:g i with
  |false=>rfl
  |true=>
   rcases(a.g i).1 hg with h1|h1|h1
   .have:=(a.two i h1).2.2;omega
   .omega
   .have:=G.2.2.2.1;omega
 have aS:=a.mp;have bv:(∃fo,dI ((u.map:Nat):Int) (D.now u.map)=.ok ⟨4,fo,fJ g ((D.n+7)/8)⟩)\/∃e,dI ((u.map:Nat):Int) (D.now u.map)=.error e:=by
  rcases ed u.map Y with h1|h1
  .obtain⟨fo,_,h2⟩:=aS
   exact .inl ⟨fo,by rw[h1];exact h2⟩
  .exact .inr h1.2
 refine(pz bt o I G.2.2.2.1 aR bv).use ?_;rintro v aV ⟨bw,ac,H⟩;have cb:=O.size;have bx:ad (bT D) w ab:=cr aQ O λq _ h=>h.elim;have aW:ad (bT D) w aV:=cr bx ac λq _ e=>aa q e;rcases H with ⟨sb,s1,s2,rfl,⟨fo,bz⟩,gd,bA⟩|⟨e,rfl,he,cd,aY⟩
 rotate_left
 .refine⟨none,e,rfl,λ_=>⟨aW,.inr ⟨e,rfl,he,u.map,Y,?_⟩⟩,λhx=>absurd (by simpa using hx) he⟩
  rcases ed u.map Y with h1|h1
  .obtain⟨fo,_,h2⟩:=aS
   rw[h1,h2]at aY;cases aY
  .exact h1
 have aZ:∀q,w.heap.size<=q->¬bT D q:=λq o hf=>by have:=h.lt hf;omega
 have aw:=bu.ae ac λe=>aZ _ (bn _) (aa _ e);have a0:=ar.ae ac λe=>aZ _ I (aa _ e);have bB:D.now u.map=V u.map:=by
  rcases ed u.map Y with h1|⟨_,e,h1⟩
  .exact h1
  .rw[bz]at h1;cases h1
 refine⟨_,0,rfl,λhx=>(by cases hx),λ_=>⟨_,aw.cell,_,by rw[av];exact aw.cell,_,by rw[av];exact aw.cell,gM a0 ?_⟩⟩;have bC:=mU bw (l:=l) (u:=u) (gen:=gen) ⟨by have:=K.1;omega,by have:=K.2.1;omega⟩ ⟨I,by have:=G.2.1;omega,I,by have:=G.2.2.1;omega,by have:=G.1;omega⟩ I (λj A=>by rw[aH,aG j (by rw[←hs];exact A)]) sb;refine bC.use ?_;rintro _ Q ⟨c,aU,aX,st,B⟩;have bD:=B.val;subst bD;refine⟨_,0,rfl,λhx=>(by cases hx),λ_=>⟨_,by rw[av];exact(a0.ext B.x).cell,?_⟩⟩;have ce:=ac.size;have cf:=B.x.size;have cg:=B.sv.lt;have ch:=B.hc;have ci:=B.hf;have cj:=B.ht;obtain⟨P',af⟩:∃P':Nat->ao aB,P'=λno=>if no∈aI then (if D.now no=V no then P no else none) else none:=⟨_,rfl⟩
 obtain⟨T,b⟩:∃T:aL,T=⟨aX,gen+1,u.root,u.aE,iI c aU l.al D,sb,D.n,g,g,s1,s2,λq=>q=st\/b7 q,λ_=>False,P'⟩:=⟨_,rfl⟩;have R:∀q,cY (iI c aU l.al D) q->q=c\/q=aU\/bT D q:=λq h=>h;have W:∀q,fm sb s1 s2 q->w.heap.size<=q/\q<aV.heap.size:=λq o=>⟨by have:=bA q o;omega,gd.lt q o⟩;have bE:∀q,T.X q->q=aX\/fm sb s1 s2 q\/q=st\/b7 q:=λq o=>by
  rw[b]at o;rcases o with h1|h1|h1|h1
  .exact .inl h1
  .exact .inr (.inl h1)
  .exact .inr (.inr h1)
  .exact h1.elim
 have ax:∀q,bT D q->q<w.heap.size:=λq o=>h.lt o;have a4:bJ Q T:=by
  have a5:dW T.X Q (iI c aU l.al D):=C8 B.ca λq o=>by
   rcases bE q o with h1|h1|h1|h1
   .refine⟨I,λhf=>?_⟩
    rcases R q hf with h2|h2|h2
    .omega
    .omega
    .have:=ax q h2;omega
   .have y:=W q h1
    refine⟨I,λhf=>?_⟩;rcases R q hf with h2|h2|h2
    .omega
    .omega
    .have:=ax q h2;omega
   .refine⟨I,λhf=>?_⟩
    rcases R q hf with h2|h2|h2
    .omega
    .omega
    .have:=ax q h2;omega
   .have y:=aJ q h1
    refine⟨I,λhf=>?_⟩;rcases R q hf with h2|h2|h2
    .omega
    .omega
    .exact y.2 h2
  rw[b]at a5⊢;refine⟨B.de,gd.ext B.x,a5,λhf=>by have:=W aX hf;omega,λq o=>?_,λq o=>o.elim,rfl,⟨G.2.2.1,G.2.1,by show gen+1<_;omega⟩,λno bk z=>?_,λj A=>.inl (by rw[←hs];exact A),⟨(a.g 0).2 (.inr (.inl (by decide))),(a.g 1).2 (.inr (.inl (by decide)))⟩⟩
  .have o:q=st\/b7 q:=o
   rcases o with h1|h1
   .exact⟨by show q≠aX;omega,λhf=>by have:=W q hf;omega,λh=>h⟩
   .have y:=aJ q h1
    exact⟨by show q≠aX;omega,λhf=>by have:=W q hf;omega,λh=>h⟩
  .have z:P' no=some bk:=z
   rw[af]at z;dsimp only at z;by_cases h1:no∈aI
   .rw[if_pos h1]at z
    by_cases h2:D.now no=V no
    .rw[if_pos h2]at z
     refine⟨(a.two no h1).2.2,?_⟩;show gL (gen+1) bk.leaf no ((iI c aU l.al D).view no) bk;rw[x6,h2];exact(a.ek no h1 bk z).mono I
    .rw[if_neg h2]at z;cases z
   .rw[if_neg h1]at z;cases z
 obtain⟨S,r⟩:∃S:ck,S=⟨st,T,l,u,gen,u.clock,0,0,u.keys,false⟩:=⟨_,rfl⟩;have az:Var Q S.st S.cells 158:=by
  rw[r];show Var Q st (g4 T.aX T.C.D.d T.C.c T.sb _ _ _ _ _ _ _ _) _;rw[b];exact B.sv
 have fu:S.T=T:=by rw[r]
 have aA:S.u=u:=by rw[r]
 have bF:ga (T.bg T.C P) aI aT:=by
  rw[b];exact a.ok
 have a6:=CZ (S:=S) (fT:=P) (pages:=aI) (L:=aT) (m:=((u.keys:Nat):Int)) az (by rw[fu];exact a4) (by rw[r,b];exact .inl rfl) (by rw[fu];exact bF) (λx hx bk z=>?_) a.bk (λno=>by rw[fu,aA,b];exact a.g no) (λx hx=>by rw[aA];exact⟨(a.two x hx).1,(a.two x hx).2.1⟩) (by rw[fu,aA,b];exact⟨G.2.2.2.2.1,G.2.2.2.1⟩) ba bb (by rw[fu,b];show D.aO<=_;omega)
 rotate_left
 .rw[fu,b]
  rcases ed x ((a.g x).2 (.inl hx)) with h1|h1
  .left
   show P' x=some bk;rw[af];dsimp only;rw[if_pos hx,if_pos h1];exact z
  .right
   obtain⟨_,e,h2⟩:=h1;exact⟨⟨(a.two x hx).2.2,(a.two x hx).1⟩,e,by show dI _ ((iI c aU l.al D).view x)=_;rw[x6];exact h2⟩
 rw[show S.st=st by rw[r]]at a6;refine a6.use ?_;rintro v bG ⟨an,bH,F,a7,H⟩;rw[fu]at F a7 H;have bK:ad (bT D) w Q:=cr aW B.x λq _ h=>h.elim;have bL:∀q,T.N q->bT D q\/w.heap.size<=q:=λq o=>by
  rw[b]at o;rcases o with h1|h1|h1|h1
  .rcases R q h1 with h2|h2|h2
   .exact .inr I
   .exact .inr I
   .exact .inl h2
  .have h1:q=aX:=h1
   exact .inr I
  .exact .inr (W q h1).1
  .exact h1.elim
 have a8:ad (bT D) w bG:=cr bK F.to.ae λq cl o=>(bL q o).resolve_right I;rcases H with ⟨rfl,cn,bM⟩|⟨e,rfl,he,bN⟩
 .refine⟨0,rfl,λhx=>(by cases hx),λ_=>⟨a8,.inl ?_⟩⟩
  have a9:∀x∈aI,D.now x=V x:=λx hx=>by
   rcases ed x ((a.g x).2 (.inl hx)) with h1|⟨_,e,h1⟩
   .exact h1
   .exfalso
    have J:=bM x hx;rw[b]at J;have J:P' x=P x:=J;have aC:∃bk,P x=some bk:=by
     rcases a.ok with ⟨_,_,h2,_⟩|h2
     .rw[h2]at hx;cases hx
     .exact h2.node _ x hx
    obtain⟨bk,c1⟩:=aC;rw[c1,af]at J;dsimp only at J;rw[if_pos hx]at J;by_cases h2:D.now x=V x
    .obtain⟨p,y,_⟩:=a.ek x hx bk c1
     rw[h2,y]at h1;cases h1
    .rw[if_neg h2]at J;cases J
  have bO:∀j,g j=true->D.bh.getD j []=V j:=λj A=>by
   have bP:D.now j=D.bh.getD j []:=by rw[vF D (λx hx=>(h.wn x hx).1),if_pos (aG j A)]
   rw[←bP];rcases(a.g j).1 A with h1|h1|h1
   .exact a9 j h1
   .rcases dC j 1 with h2|h2
    .rw[show j=0 from I];exact bj
    .rw[show j=1 from I];exact bm
   .rw[h1];exact bB
  have bQ:∀x∈aI,P x=P' x:=λx hx=>by rw[af];dsimp only;rw[if_pos hx,if_pos (a9 x hx)]
  have bS:c0 Q S aI aT aI aT:=by
   have hd:=a.agree bO bQ;rw[r];refine⟨⟨by rw[r]at az;exact az,a4,by rw[b];exact .inl rfl,by rw[b];exact hd,by rw[b],⟨a.yQ.clock,cE _,a.CO,by show gen+2<_;omega,?_,?_,?_⟩,λj A=>?_⟩,?_,a.bk,by rw[b];exact a.g,λx hx=>⟨(a.two x hx).1,(a.two x hx).2.1⟩,a.fS,a.keys,cE _,λ_=>⟨?_,by rw[b];exact aH,?_⟩,λhf=>(by cases hf)⟩
   .have:=K.2.2.2.1;show l.batch<=1000;omega
   .have:=K.2.2.2.2.2;show l.d_<=1048576;omega
   .have:=K.2.2.1;show 1<=l.batch;omega
   .have A:T.g j=true:=A
    show T.C.D.bI j=true;rw[b]at A⊢;show D.bI j=true;rw[hs];exact A
   .have h1:=hd.ok
    rw[b];exact h1
   .intro e
    have h1:=e D.n;have h2:T.C.D.bI=g:=by rw[b];exact hs
    have h1:T.C.D.bI D.n=true:=h1;rw[h2,aR D.n (bn _)]at h1;cases h1
   .obtain⟨j,bU,bW⟩:=a.fr
    have h1:=rT (s:=λi=>g i||g i) (t:=df (λi=>g i||g i) j true) (k:=j) (by simp[bW]) (by simp[df]) (λi hi=>by simp[df,hi]) (n:=D.n) bU;have h2:=mj (df (λi=>g i||g i) j true) D.n;have y:cc T=D.n-eQ (λi=>g i||g i) D.n:=by rw[b];rfl
    show 1<=cc T;omega
  obtain⟨a1,a2,a3⟩:=bS.to bH (by rw[fu];exact F.to) (by rw[fu];exact F.E) (by rw[fu];exact a7) ⟨by rw[fu];exact F.root,by rw[fu];exact F.aE,by rw[fu];exact F.f,λno _=>by rw[fu];exact⟨congrFun F.P no,F.view no⟩⟩;have bX:S.T.C.D.quiet:=by rw[fu,b];exact o
  refine⟨S.bV an,by rw[show(S.bV an).st=st by rw[r];rfl],a1,by rw[r];rfl,by rw[r];rfl,by rw[r];rfl,by rw[r];rfl,by rw[r];rfl,by rw[r];rfl,?_,?_,a2.q bX,?_,λq bY=>?_,λq=>?_,?_⟩
  .rw[a2.d,fu,b];rfl
  .rw[a2.n,fu,b]
  .have h1:=a2.aO
   have h2:S.T.C.D.aO=D.aO:=by rw[fu,b];rfl
   omega
  .have h1:=F.to.cZ q bY
   rcases h1 with h1|h1
   .rw[b]at h1
    rcases h1 with h1|h1|h1|h1|h1
    .rcases R q h1 with h2|h2|h2
     .exact .inr (.inr I)
     .exact .inr (.inr I)
     .exact .inl h2
    .have h1:q=aX:=h1
     exact .inr (.inr I)
    .exact .inr (.inr (W q h1).1)
    .have h1:q=st\/b7 q:=h1
     rcases h1 with h1|h1
     .exact .inr (.inr I)
     .exact .inr (.inl h1)
    .exact h1.elim
   .exact .inr (.inr I)
  .show an.E q↔q=(S.bV an).st\/b7 q
   rw[F.E,b,r];rfl
  .show w.heap.size<=S.st
   rw[r];show w.heap.size<=st;omega
 .refine⟨e,rfl,λ_=>⟨a8,.inr ⟨e,rfl,he,?_⟩⟩,λhx=>absurd (by simpa using hx) he⟩
  rcases bN with h1|⟨x,hx,h1⟩|h1
  .rw[b]at h1
   exact absurd (o.1 _) h1
  .have a_:=(a.g x).2 (.inl hx)
   refine⟨x,a_,?_⟩;rcases ed x a_ with h2|h2
   .exfalso
    obtain⟨_,bZ,y⟩:=h1;rw[b]at y;have y:dI ((x:Nat):Int) ((iI c aU l.al D).view x)=.error bZ:=y;rw[x6,h2]at y;have aC:∃bk,P x=some bk:=by
     rcases a.ok with ⟨_,_,aD,_⟩|aD
     .rw[aD]at hx;cases hx
     .exact aD.node _ x hx
    obtain⟨bk,c1⟩:=aC;obtain⟨p,b0,_⟩:=a.ek x hx bk c1;rw[b0]at y;cases y
   .exact h2
  .exact absurd (by rw[a.keys]) h1
end
structure yZ(D:a_)(l:fI)(b7:Nat->Prop)(k:Nat)(w w':J)(S:ck):Prop where
 live:S.failed=false
 da:S.pending=0
 now:S.now=S.u.clock
 l:S.l=l
 d:S.T.C.D.d=D.d
 n:S.T.n=D.n
 q:S.T.C.D.quiet
 aO:S.T.C.D.aO<=D.aO+k
 M:∀q,S.T.M q->bT D q\/b7 q\/w.heap.size<=q
 E:∀q,S.T.E q↔q=S.st\/b7 q
 st:w.heap.size<=S.st
 ae:ad (bT D) w w'
section
variable {w w':J}{D:a_}{b7:Nat->Prop}
theorem C9{l:fI}(h:cB w D)(r:kD (l.al:Nat) (l.batch:Nat) (l.d_:Nat))(M:∀k,D.calm k)(p3:D.cg.getD 3 0= -1)(N:D.aO<=999999000)(y:∀q,b7 q->q<w.heap.size/\¬bT D q):
 aN aj 19 #[.pointer (some D.d),.agg l.c.toArray] w (λv w'=>∃S:ck,v=.tuple #[.pointer (some S.st),(0:Int)]/\c0 w' S [] [] [] []/\yZ D l b7 4 w w' S/\S.u=j9/\S.gen=1):=by
 have Z:=h.bR;have O:=h.bq;refine(nR h r M p3 N).mono ?_;rintro v w' ⟨ax,sb,s1,s2,c,aU,aX,st,j2,R⟩;obtain rfl:=R.CM.val;have hd:=R.pX;have B:=R.CM;have aa:=R.ae.size;have ab:=B.x.size;have ac:=B.hc;have ad:=B.hf;have af:=B.ht;have ag:=B.sv.lt;have A:∀j,ax.bh.getD j []=ax.now j:=λj=>by unfold a_.now;rw[hd.waits];rfl
 have m:∀q,cY (iI c aU l.al ax) q->q=c\/q=aU\/bT ax q:=λq h=>h;have F:∀q,bT ax q->q<j2.heap.size:=λq b=>by
  rcases R.dq q b with h1|h1
  .have:=h.lt h1;omega
  .omega
 have P:ax.quiet:=⟨hd.calm,hd.cg⟩;obtain⟨T,a⟩:∃T:aL,T=⟨aX,1+1,0,0,iI c aU l.al ax,sb,D.n,λi=>decide (i<3),λi=>decide (i<3),s1,s2,λq=>q=st\/b7 q,λ_=>False,λ_=>none⟩:=⟨_,rfl⟩;have Q:∀q,b7 q->q<w.heap.size/\¬bT ax q:=λq b=>⟨(y q b).1,λhf=>by
  rcases R.dq q hf with h1|h1
  .exact(y q b).2 h1
  .have:=(y q b).1;omega⟩
 have U:bJ w' T:=by
  have G:dW T.X w' (iI c aU l.al ax):=C8 B.ca λq b=>by
   rw[a]at b;rcases b with h1|h1|h1|h1
   .have h1:q=aX:=h1
    refine⟨I,λhf=>?_⟩;rcases m q hf with h2|h2|h2
    .omega
    .omega
    .have:=F q h2;omega
   .have z:=R.r3 q h1
    refine⟨I,λhf=>?_⟩;rcases m q hf with h2|h2|h2
    .omega
    .omega
    .have ah:=B.ca.raw.dev
     exact R.HS q h1 h2
   .rcases(show q=st\/b7 q from h1) with h1|h1
    .refine⟨I,λhf=>?_⟩
     rcases m q hf with h2|h2|h2
     .omega
     .omega
     .have:=F q h2;omega
    .have z:=Q q h1
     refine⟨I,λhf=>?_⟩;rcases m q hf with h2|h2|h2
     .omega
     .omega
     .exact z.2 h2
   .exact h1.elim
  rw[a]at G⊢;refine⟨B.de,R.sp,G,λhf=>by have:=R.r3 aX hf;omega,λq b=>?_,λq b=>b.elim,hd.n,⟨by show 0<D.n;omega,(by decide:0<=12),(by decide:1+1<18446744073709551616)⟩,λno bk E=>(by cases E),λj f=>.inl ?_,⟨rfl,rfl⟩⟩
  .rcases(show q=st\/b7 q from b) with h1|h1
   .exact⟨by show q≠aX;omega,λhf=>by have:=R.r3 q hf;omega,λh=>h⟩
   .have z:=y q h1
    exact⟨by show q≠aX;omega,λhf=>by have:=R.r3 q hf;omega,λh=>h⟩
  .have f:ax.bI j=true:=f
   rw[hd.bI]at f;exact f
 have H:j8 j9 D.n:=⟨Iff.intro (λ_=>rfl) (λ_=>rfl),by decide,by show 0<D.n;omega,by show 2<D.n;omega,by decide,O⟩;have J:nq j9:=⟨by decide,by decide,by decide,by decide,by decide,by decide⟩;have K:g5 (λj=>ax.bh.getD j []) D.n 1 j9 (λi=>decide (i<3)) (λ_=>none) [] []:=by
  refine⟨⟨3,I,rfl⟩,?_,.inl ?_,⟨1,bn _,?_⟩,λno=>?_,List.nodup_nil,λx hx=>(by cases hx),.inl ⟨rfl,rfl,rfl,rfl⟩,λx hx=>(by cases hx),rfl,λq b=>(by cases b),J,H,bn _⟩
  .show gT ((1:Nat):Int) (ax.bh.getD 1 [])=_
   rw[A,hd.now];exact CC J H (by decide) (by decide)
  .show ax.bh.getD 0 []=gy
   rw[A,hd.now];rfl
  .show dI ((2:Nat):Int) (ax.bh.getD 2 [])=_
   rw[A,hd.now];exact vr I ⟨(by decide:1<=4),(by decide:4<=4),(by decide:1<18446744073709551616),by show(fJ _ _).length<=232;rw[oJ];omega⟩
  .show decide (no<3)=true↔no∈ []\/no<2\/no=2
   simp only[eS,false_or,cQ];omega
 obtain⟨S,o⟩:∃S:ck,S=⟨st,T,l,j9,1,0,0,0,0,false⟩:=⟨_,rfl⟩;have V:1<=cc T:=by
  have h1:=rT (s:=λi=>decide (i<3)||decide (i<3)) (t:=df (λi=>decide (i<3)||decide (i<3)) 3 true) (k:=3) (by simp) (by simp[df]) (λi hi=>by simp[df,hi]) (n:=D.n) I;have h2:=mj (df (λi=>decide (i<3)||decide (i<3)) 3 true) D.n;have z:cc T=D.n-eQ (λi=>decide (i<3)||decide (i<3)) D.n:=by rw[a];rfl
  omega
 refine⟨S,by rw[o],?_,?_,by rw[o],by rw[o]⟩
 .rw[o]
  refine⟨⟨?_,U,by rw[a];exact .inl rfl,by rw[a];exact K,by rw[a],⟨(by decide:0<18446744073709551616),bn _,bn _,(by decide:1+2<18446744073709551616),?_,?_,?_⟩,λj f=>?_⟩,.inl ?_,List.nodup_nil,?_,λx hx=>(by cases hx),λp E=>(by cases E),rfl,cE _,λ_=>⟨?_,by rw[a];exact hd.eo,V⟩,λhf=>(by cases hf)⟩
  .show Var w' st (g4 T.aX T.C.D.d T.C.c T.sb _ _ _ _ _ _ _ _) _
   rw[a];exact B.sv
  .have:=r.2.2.2.1;show l.batch<=1000;omega
  .have:=r.2.2.2.2.2;show l.d_<=1048576;omega
  .have:=r.2.2.1;show 1<=l.batch;omega
  .have f:T.g j=true:=f
   show T.C.D.bI j=true;rw[a]at f⊢;show ax.bI j=true;rw[hd.bI];exact f
  .rw[a];exact⟨rfl,rfl,rfl,rfl⟩
  .intro no
   have W:=K.g no;rw[a];exact W
  .intro e
   have h1:ax.bI 5=true:=by have:=e 5;rw[a]at this;exact this
   rw[hd.bI]at h1;cases h1
 .rw[o]
  refine⟨rfl,rfl,rfl,rfl,by rw[a];exact hd.d,by rw[a],by rw[a];exact P,by rw[a];show ax.aO<=_;rw[hd.aO];omega,λq L=>?_,λq=>by rw[a],by show w.heap.size<=st;omega,cr R.ae B.x λq _ h=>h.elim⟩;rw[a]at L;have Y:∀q,bT ax q->bT D q\/b7 q\/w.heap.size<=q:=λq b=>by
   rcases R.dq q b with h1|h1
   .exact .inl h1
   .exact .inr (.inr h1.1)
  rcases L with h1|h1|h1|h1|h1
  .rcases m q h1 with h2|h2|h2
   .exact .inr (.inr I)
   .exact .inr (.inr I)
   .exact Y q h2
  .have h1:q=aX:=h1
   exact .inr (.inr I)
  .exact .inr (.inr (R.r3 q h1).1)
  .rcases(show q=st\/b7 q from h1) with h1|h1
   .exact .inr (.inr I)
   .exact .inr (.inl h1)
  .exact h1.elim
end
theorem IB{i n m:Nat}{a:Nat}(b:n=a)(h:(decide ((i:Int)<(n:Int))&&decide ((i:Int)<(m:Int)))=true):i<a/\i<m:=by
 rw[dX,cQ,cQ]at h;omega
theorem IC{i:Nat}(h:i<=1000000):IntKind.wrap .i64 ((i:Int)+1)=((i+1:Nat):Int):=by rw[bu I I];omega
section
variable {w0 w w':J}{vZ aP:Nat}{T an:aL}{r h k c:Nat}{pages aI:O Nat}{L e7 aT:O aH}{V:Nat->cT}{ms l:Y}
theorem ID(L:O aH):eO L [] []=L:=jQ.2 λp _=>by
 have h:¬bD p.1 []:=by
  cases p.1 with
  |nil=>exact l9 _
  |cons a x=>show¬(1:Int)<0;decide
 have:ef [] p.1:=h;simp[this]
end
structure iL where
 kind:Int
 n:Int
 after:Int
 tk:Y
 de:Y
 tl:Y
 key:Key
 val:Key
 l:O Int
def iL.c(a:iL):O aa:=[a.kind,a.n,a.after,a.tk,a.de,a.tl]
structure oK(w:J)(a:iL):Prop where
 k:Src 1 w a.tk (aG a.key)
 C_:a.tk.len<=a.tk.cap
 v:Src 1 w a.de (aG a.val)
 mN:a.de.len<=a.de.cap
 l:Src 1 w a.tl (a.l.map encZ)
 lc:a.tl.len<=a.tl.cap
 Da:∀z∈a.l,z<=9223372036854775807
 IE: -9223372036854775808<=a.n/\a.n<=9223372036854775807
 IF:a.after<=9223372036854775807
 mx:∀q,az a.tl q->w.heap.size<=q->a.l=[]
structure kE(w:J)(l:Y)(A:O iL):Prop where
 s:Src 6 w l (bH iL.c A)
 ok:∀a∈A,oK w a
theorem y0(A:O iL):∀x∈A,(iL.c x).length=6:=λ_ _=>rfl
section
variable {w w':J}{l:Y}{A:O iL}{a:iL}
theorem oK.ext(h:oK w a)(hx:Ext w w'):oK w' a:=⟨h.k.ext hx,h.C_,h.v.ext hx,h.mN,h.l.ext hx,h.lc,h.Da,h.IE,h.IF,λq b c=>h.mx q b (ew hx.size c)⟩
theorem kE.ext(h:kE w l A)(hx:Ext w w'):kE w' l A:=⟨h.s.ext hx,λa b=>(h.ok a b).ext hx⟩
theorem kE.len(h:kE w l A):l.len=A.length:=by
 have:=h.s.len;rw[gK _ (y0 A)]at this;omega
theorem kE.at(h:kE w l A){i:Nat}(hi:i<A.length):∃a:ab,l.a=some a/\((0:Int)<=(i:Int)/\(i:Int)<(l.len:Int))/\∀j v,(iL.c A[i])[j]? =some v->w.cell? ((a.add (Int.toNat (i:Int)*6)).add j)=some v:=by
 have k:=h.len
 cases b:l.a with
 |none=>
  have:=congrArg List.length (h.s.nil b);rw[gK _ (y0 A),jw]at this;omega
 |some a=>
  have f:=h.s.rd a b;refine⟨a,rfl,⟨I,I⟩,λj v d=>?_⟩;have g:j<6:=(im.1 d).1;have e:=pe f (j:=i*6+j) (v:=v) (by rw[rI (y0 A) hi g];exact d);rw[cx]at e;rw[c8,add_add];exact e
theorem IG{s:Y}(h:mR aj w 3 s):∃l:O Int,Src 1 w s (l.map encZ)/\∀z∈l,z<=9223372036854775807:=by
 obtain⟨l,h1,_,h2⟩:=h.src (c:=λz:Int=> [encZ z]) (sz:=1) (by kernel_rfl) (λz=>z<=9223372036854775807) λfuel us b=>by
  obtain⟨n,rfl,h2,d⟩:=qZ b (k:=.i64) (by kernel_rfl);exact⟨n,rfl,d⟩
 have e:∀l:O Int,(l.map λz:Int=> [encZ z]).flatten=l.map encZ:=λl=>by
  induction l with
  |nil=>rfl
  |cons a l f=>rw[jd,sq,f];rfl
 rw[e]at h1;exact⟨l,h1,h2⟩
theorem Src.mx{s:Y}{l:O Int}(h:Src 1 w s (l.map encZ)):∀q,az s q->w.heap.size<=q->l=[]:=by
 rintro q ⟨a,c,rfl⟩ d
 cases e:l with
 |nil=>rfl
 |cons v us=>
  have f:=h.rd a c;have b:w.cell? (a.add (0+0))=some (encZ v):=q4 f (by rw[e];rfl);rw[kF,add_zero']at b;have:w.heap[a.block]? =none:=by simp[d]
  simp[World.cell?,this]at b
set_option maxRecDepth 100000 in
theorem IH {fuel:Nat}{vs:O aa} (h:gD aj w fuel 92 vs):∃a:iL,vs=a.c/\oK w a:=by
 have hu:Tryz.prog.underlying 92=some (.struct (fieldsOf aj 92)):=by kernel_rfl
 have hlen:vs.length=6:=by
  have:=(z_ h hu).1;rwa[show Tryz.prog.cellsOf 92=6 by kernel_rfl]at this
 obtain⟨_,f0⟩:=ph h hu 0 (t:=3) (o:=0) (n:=1) (by kernel_rfl) (by kernel_rfl);obtain⟨_,f1⟩:=ph h hu 1 (t:=3) (o:=1) (n:=1) (by kernel_rfl) (by kernel_rfl);obtain⟨_,f2⟩:=ph h hu 2 (t:=3) (o:=2) (n:=1) (by kernel_rfl) (by kernel_rfl);obtain⟨_,f3⟩:=ph h hu 3 (t:=48) (o:=3) (n:=1) (by kernel_rfl) (by kernel_rfl);obtain⟨_,f4⟩:=ph h hu 4 (t:=48) (o:=4) (n:=1) (by kernel_rfl) (by kernel_rfl);obtain⟨_,f5⟩:=ph h hu 5 (t:=58) (o:=5) (n:=1) (by kernel_rfl) (by kernel_rfl);obtain⟨v,g,_⟩:=qZ f0 (k:=.i64) (by kernel_rfl);obtain⟨bR,i,e5,dG⟩:=qZ f1 (k:=.i64) (by kernel_rfl);obtain⟨bq,j,_,x⟩:=qZ f2 (k:=.i64) (by kernel_rfl);obtain⟨d3,l,m⟩:=s0 f3 (e:=5) (by kernel_rfl);obtain⟨d4,p,q⟩:=s0 f4 (e:=5) (by kernel_rfl);obtain⟨d5,r,s⟩:=s0 f5 (e:=3) (by kernel_rfl);obtain⟨y,z⟩:=CN m;obtain⟨A,B⟩:=CN q;obtain⟨C,u,a7⟩:=IG s;refine⟨⟨v,bR,bq,d3,d4,d5,y,A,C⟩,?_,z,m.le,B,q.le,u,s.le,a7,⟨e5,dG⟩,x,Src.mx u⟩
 match vs,hlen with
 | [a,b,c,d,e,f],_=>
  simp at g i j l p r;rw[g,i,j,l,p,r];rfl
set_option maxRecDepth 100000 in
theorem kE.of {v:aa} (h:lq aj w 82 v):∃ (l:Y) (A:O iL),v=l/\kE w l A:=by
 obtain⟨t,rfl,ht⟩:=mR.of h (e:=92) (by kernel_rfl);obtain⟨A,h1,_,h2⟩:=ht.src (c:=iL.c) (sz:=6) (by kernel_rfl) (λa=>oK w a) λfuel vs b=>IH b;exact⟨t,A,rfl,h1,h2⟩
structure Db(w0:J)(B:Nat->Prop)(w:J)(a:iL)(b sv sl:Y):Prop where
 k:aY B w b (a.key.take 26)
 v:aY B w sv (a.val.take 26)
 l:Src 1 w sl ((a.l.take 60).map encZ)
 mx:∀q,az sl q->w0.heap.size<=q->a.l=[]
theorem pR{w0:J}(h0:oK w0 a)(X:Ext w0 w):aN aj 37 #[.agg a.c.toArray] w (λv w'=>∃d sv sl:Y,v=.agg #[a.kind,a.n,a.after,d,sv,sl]/\Ext w w'/\Db w0 (λq=>w.heap.size<=q) w' a d sv sl):=by
 have h:=h0.ext X;refine okF (I7.pR a.kind a.n a.after a.tk a.de a.tl) I6.pR func37 ?_;(delta I7.pR tf U af aZ st ai r1;dsimp only);refine bd (vs:=a.c) rfl λw1 Z H au=>bd (vs:=[(0:Int),(0:Int),(0:Int),(),(),()]) rfl λag z K av=>aS ?_;obtain⟨s,L⟩:∃s,s=ag.drew:=⟨_,rfl⟩;rw[←L];have t:Ext ag s:=by rw[L];exact b4 _
 have u:=(H.trans K).trans t;have aw:=H.size;have ax:=u.size;have ay:=t.size;have x:=(Z.ext K).ext t;have aA:=x.lt;have M:¬s.heap.size<=w.heap.size:=by omega
 refine⟨λq=>s.heap.size<=q,by rw[eU];exact M,a.tk,by rw[eU];exact x.cell,by rw[eU];exact M,a.de,by rw[eU];exact x.cell,(Cz (h.k.ext u) h.C_ 26 (by decide)).use ?_⟩;rintro _ aB ⟨d,rfl,ok,j,A⟩;refine⟨d,rfl,ad.cF j,(Cz ((h.v.ext u).ext j) h.mN 26 (by decide)).use ?_⟩;rintro _ N ⟨sv,rfl,aa,m,B⟩;refine⟨sv,rfl,ad.cF m,?_⟩;have O:=(x.ext j).ext m;have aC:=j.size;rw[eU,eU,eU];obtain⟨bA,bO⟩:=dH O (i:=3) (by show 3<6;decide);refine⟨bA,bO,aS ?_⟩;have eH:=dn N w.heap.size 3 d;have C:=dJ O (i:=3) d;generalize N.setCell ⟨w.heap.size,3,none⟩ d=P at eH C;obtain⟨ab,ac⟩:=dH C (i:=4) (by show 4<6;decide);refine⟨ab,ac,aS ?_⟩;have iA:=dn P w.heap.size 4 sv;have o:=dJ C (i:=4) sv;generalize P.setCell ⟨w.heap.size,4,none⟩ sv=D at iA o;have ah:=(u.trans j).trans m;have y:Ext w D:=Ext.cm ah (eH.trans iA) (bn _);have Q:∀q,az d q->¬q=w.heap.size:=λq b e=>by have:=A q b;omega
 have R:∀q,az sv q->¬q=w.heap.size:=λq b e=>by have:=B q b;omega
 have ak:=(ok.ext m).ae (eH.trans iA) Q;have al:=aa.ae (eH.trans iA) R;refine hF (λp=>∃sl:Y,Ext w p/\ad (λq=>q=w.heap.size) D p/\Var p w.heap.size [a.kind,a.n,a.after,d,sv,sl] 92/\Src 1 p sl ((a.l.take 60).map encZ)/\∀q,az sl q->az a.tl q)
  (λq b=>⟨a.tl,o.cell,λg=>⟨a.tl,o.cell,⟨by decide,?_⟩,?_⟩,λg=>b _ ⟨a.tl,y,.refl _ _,o,?_,λq h=>h⟩⟩) ?_
 .have g:(a.tl.len:Int)>60:=b1 g
  have:=h.lc;omega
 .have g:(a.tl.len:Int)>60:=b1 g
  obtain⟨am,an⟩:=dH o (i:=5) (by show 5<6;decide);have S:=Src.cut (h.l.ext y) h.lc (cE 60) I;have pn:=dn D w.heap.size 5 (.slice (aM a.tl.a 1 0 a.tl.cap) (Int.toNat 60-0) (a.tl.cap-0));refine⟨am,an,aS (b _ ⟨⟨aM a.tl.a 1 0 a.tl.cap,60-0,a.tl.cap-0⟩,Ext.cm y pn (bn _),pn,dJ o (i:=5) _,?_,λq b=>Cu.1 b⟩)⟩;have e:((a.l.map encZ).drop (0*1)).take ((60-0)*1)=(a.l.take 60).map encZ:=by rw[mH];rfl
  rw[e]at S;exact Src.mu S pn λq b e=>by
   have:=h.mx q (Cu.1 b) I;rw[this];rfl
 .have g:¬(a.tl.len:Int)>60:=cp g
  have E:=h.l.len;rw[dN]at E;rw[dD I];exact h.l.ext y
 rintro p ⟨sl,ao,gY,f,ap,T⟩;refine⟨_,f.cell,_,by first|exact f.cell|(rw[eU];exact f.cell),_,by first|exact f.cell|(rw[eU];exact f.cell),d,by first|exact f.cell|(rw[eU];exact f.cell),sv,by first|exact f.cell|(rw[eU];exact f.cell),sl,by first|exact f.cell|(rw[eU];exact f.cell),?_⟩;have aD:=m.size;have aE:=(eH.trans iA).size;have V:Var p w1.heap.size [(0:Int),(0:Int),(0:Int),(),(),()] 92:=(((z.ext t).ext (j.trans m)).ae (eH.trans iA) I).ae gY I;refine⟨V.b9 rfl (λv W=>?_),rfl,cu V (us:=[a.kind,a.n,a.after,d,sv,sl]) rfl rfl λaF r kU _=>⟨_,r.cell,_,by rw[eU];exact r.cell,_,by rw[eU];exact r.cell,d,by rw[eU];exact r.cell,sv,by rw[eU];exact r.cell,sl,by rw[eU];exact r.cell,d,sv,sl,rfl,Ext.cm ao kU I,?_⟩⟩
 .simp only[cS,eS,eW]at W
  rcases W with rfl|rfl|rfl|rfl|rfl|rfl<;>trivial
 .have aq:∀q,az d q->¬q=w1.heap.size:=λq b e=>by have:=A q b;have:=z.lt;omega
  have ar:∀q,az sv q->¬q=w1.heap.size:=λq b e=>by have:=B q b;have:=z.lt;omega
  have F:=(ak.ae gY Q).ae kU aq;have G:=(al.ae gY R).ae kU ar;exact⟨⟨F.src,F.2.1,λq b=>⟨by have:=A q b;omega,F.lt q b⟩⟩,⟨G.src,G.2.1,λq b=>⟨by have:=B q b;omega,G.lt q b⟩⟩,Src.mu ap kU λq b e=>by
   have:=h.mx q (T q b) I;rw[this];rfl,λq b E=>h0.mx q (T q b) E⟩
end
section
variable {w0 w w':J}{vZ aP:Nat}{T an:aL}{r h k c:Nat}{pages aI:O Nat}{L e7 aT:O aH}{V:Nat->cT}{ms l:Y}
theorem y1(w:J):Src 1 w bc (aG []):=(a8.none 1 5 w).src
end
theorem Dc:∀ {a b:O Nat},a.Nodup->(∀x∈a,x∈b)->a.length<=b.length
 | [],_,_,_=>cE _
 |x::a,b,d,hs=>by
  obtain⟨h1,h2⟩:=List.nodup_cons.1 d
  have hx:=hs x (by simp)
  have:=Dc (a:=a) (b:=b.erase x) h2 λy c=>(List.mem_erase_of_ne (λe=>h1 (by rw[←e];exact c))).2 (hs y (jO _ c))
  rw[List.length_erase_of_mem hx]at this
  have:=List.length_pos_of_mem hx
  rw[e1];omega
theorem II{t:Nat->ah}{l:O Nat}(n:Nat)(h:∀i,i<n->t i=true->i∈l):eQ t n<=l.length:=by
 have h1:∀n,eQ t n=((List.range n).filter t).length:=by
  intro n
  induction n with
  |zero=>rfl
  |succ n a=>
   rw[List.range_succ,kK,ct,eQ,a,oY,List.filter_nil]
   cases t n<;>rfl
 rw[h1];refine Dc (List.nodup_range.filter t) λx hx=>?_;rw[hC,jq]at hx;exact h x hx.1 hx.2
section
variable {V:Nat->cT}{n gen:Nat}{u:cU}{g:Nat->ah}{P:Nat->ao aB}{aI:O Nat}{aT:O aH}
theorem g5.sound(h:g5 V n gen u g P aI aT){j:Nat}(b:g j=true):V j=gy\/∃p,dI (j:Int) (V j)=.ok p:=by
 rcases(h.g j).1 b with h1|h1|h1
 .right
  have c:∃bk,P j=some bk:=by
   rcases h.ok with ⟨_,_,h2,_⟩|h2
   .rw[h2]at h1;cases h1
   .exact h2.node _ j h1
  obtain⟨bk,c1⟩:=c;obtain⟨p,a,_⟩:=h.ek j h1 bk c1;exact⟨p,a⟩
 .by_cases e:j=gen%2
  .right
   rw[e];obtain⟨p,a⟩:=yY h.v8;exact⟨p,a⟩
  .have e:j=1-gen%2:=by omega
   rcases h.yP with h2|⟨d,g',h2,_⟩
   .left;rw[e];exact h2
   .right
    rw[e];obtain⟨p,a⟩:=yY h2;exact⟨p,a⟩
 .right
  rw[h1];obtain⟨_,_,h2⟩:=h.mp;exact⟨_,h2⟩
theorem g5.low(h:g5 V n gen u g P aI aT):aI.length<=aT.length:=by
 rcases h.ok with ⟨_,_,h2,_⟩|h2
 .rw[h2];exact cE _
 .exact h2.pages.1
theorem IJ{w:J}{D:a_}{l:fI}{b7:Nat->Prop}(h:cB w D)(o:D.quiet)(B:D.aO<=700000000)(f:D.waits=[])(r:kD (l.al:Nat) (l.batch:Nat) (l.d_:Nat))(b:g5 V D.n gen u g P aI aT)(ed:∀j,g j=true->D.bh.getD j []=V j)(s:gen<=1000000000)(t:aT.length<=4000)(x:∀q,b7 q->q<w.heap.size/\¬bT D q):
 aN aj 41 #[.pointer (some D.d),.agg l.c.toArray] w (λv w'=>∃S:ck,v=.tuple #[.pointer (some S.st),(0:Int)]/\c0 w' S aI aT aI aT/\yZ D l b7 9000 w w' S/\S.u=u/\S.gen=gen):=by
 have y:∀j,D.dv j=[]:=λj=>by unfold a_.dv;rw[f];rfl
 have i:∀j,D.now j=D.bh.getD j []:=λj=>by unfold a_.now;rw[f];rfl
 have C:=b.low;refine(pv (D:=D.gj g λ_=> []) (b7:=b7) (h.gj _ _) o (by show D.aO<=_;omega) (λj _=>y j) r b (λj a=>.inl ((i j).trans (ed j a))) rfl rfl s t I x).mono ?_;rintro v w' ⟨hc,⟨S,rfl,z,a1,a2,a3,a4,a5,c3,dE,c4,a9,dZ,dP,eI,cI⟩|⟨e,rfl,he,j,a,k,E,m⟩⟩
 .exact⟨S,rfl,z,⟨a1,a5,by rw[a4,a2],c3,dE,c4,a9,dZ,dP,eI,cI,hc⟩,a2,a3⟩
 .exfalso
  have A:(D.gj g λ_=> []).now j=V j:=(i j).trans (ed j a);rw[A]at k m;rcases b.sound a with h1|⟨p,h1⟩
  .exact k (by rw[h1];decide+kernel)
  .rw[m]at h1;cases h1
end
theorem IK{a:(ah->J->Prop)->Prop}{rest:ah->J->Prop}{w0:J}{b:ah}(c:ah)(h1:b=false->∀k:ah->J->Prop,(∀w',Ext w0 w'->k c w')->a k)(h2:∀w',Ext w0 w'->rest (b||c) w'):
 bo (λk=>(b=true->k true w0)/\(b=false->a k)) rest:=
 ⟨⟨λh=>by have:=h2 w0 (.refl _ _);rwa[h,Bool.true_or]at this,λh=>h1 h rest (λw' hx=>by have:=h2 w' hx;rwa[h,kG]at this)⟩⟩
theorem l8{b d:Nat}(k:b<256)(hd:d<256)(w:J):aN aj 20 #[.int .u8 (b:Nat),.int .u8 (d:Nat)] w (λv w'=>v=.agg (fI.c ⟨8,1+b%12,1+d%12⟩).toArray/\Ext w w'):=by
 refine I7.EF _ _ w _ ?_;(delta I7.l8 te U ar r1 bl;dsimp only);have g:IntKind.wrap .i64 (1+IntKind.wrap .i64 (Int.tmod (b:Int) 12))=((1+b%12:Nat):Int):=by
  rw[qF I,bu (n:=(b:Int)%12) I I,bu I I];omega
 have h:IntKind.wrap .u64 (1+IntKind.wrap .u64 (Int.tmod (d:Int) 12))=((1+d%12:Nat):Int):=by
  rw[qF I,gO (n:=(d:Int)%12) I I,gO I I];omega
 rw[g,h];refine bd (vs:=[(0:Int),(0:Int),.int .u64 0]) rfl λw1 e i l=>⟨by decide,by decide,e.b9 rfl (λv f=>?_),rfl,cu e (us:=fI.c ⟨8,1+b%12,1+d%12⟩) rfl rfl λag a j m=>⟨_,a.cell,_,by rw[av];exact a.cell,_,by rw[av];exact a.cell,rfl,Ext.cm i j (bn _)⟩⟩;simp only[cS,eS,eW]at f;rcases f with rfl|rfl|rfl<;>trivial
structure r9(S:ck)(m:dy)(L aT:O aH):Prop where
 now:m.now=L
 sure:m.sure=aT
 da:m.da=S.pending
 clock:m.clock=S.now
 first:S.pending≠0->m.first=S.first
 cv:m.cv=S.u.cv
 jK:m.jK=S.u.clock
structure e8(w0 w:J)(b7:Nat->Prop)(d n:Nat)(l:fI)(S:ck)(pages:O Nat)(L:O aH)(aI:O Nat)(aT:O aH)(c:Nat):Prop where
 x:Ext w0 w
 at_:c0 w S pages L aI aT
 E:∀q,S.T.E q↔q=S.st\/b7 q
 ne:¬b7 S.st
 my:∀q,S.T.M q->w0.heap.size<=q
 lim:S.l=l
 d:S.T.C.D.d=d
 n:S.T.n=n
 aO:S.T.C.D.aO<=20000*(c+1)
 eG:L.length<=c/\aT.length<=c
 gen:S.gen<=c+1
 r_:S.pending<=c
structure fK(w0 w:J)(b7:Nat->Prop)(d n:Nat)(l:fI)(aP:Nat)(S:ck)(pages:O Nat)(L:O aH)(aI:O Nat)(aT:O aH)(m:dy)(c:Nat):Prop where
 s:e8 w0 w b7 d n l S pages L aI aT c
 live:S.failed=false
 jn:b7 aP
 md:eD (λq=>¬S.T.M q) w aP m
 gV:r9 S m L aT
section
variable {w0 w w':J}{b7:Nat->Prop}{d n aP k c:Nat}{l:fI}{S aA:ck}{pages aI:O Nat}{L aT:O aH}{m:dy}
theorem IL{a b:Nat}(h:a=b):((a:Int)==(b:Int))=true:=by subst h;exact beq_self_eq_true _
theorem qq{a b:Nat}{X:Prop}(h:a=b)(c:((a:Int)==(b:Int))=false):X:=by rw[IL h]at c;cases c
theorem eD.lO(d:eD (λq=>¬S.T.M q) w aP m)(hd:db k S aA w w')(he:S.T.E aP)(e:aP≠S.st):eD (λq=>¬aA.T.M q) w' aP m:=by
 have b:aA.T.M aP:=.inr (.inr (.inr (.inl (by rw[hd.E];exact he))));refine((d.aW (C:=λq=>¬S.T.M q/\¬aA.T.M q) (λq g c=>⟨c,λh1=>?_⟩) λh=>h.2 b).ae hd.ae (λa=>e (a.2 he)) λq f _ a=>f.1 a.1).aW (λ_ _ h=>h.2) λh=>h b;rcases hd.cZ q h1 with h|h
 .exact c h
 .omega
theorem e8.j_(h:e8 w0 w b7 d n l S pages L aI aT c){q:Nat}(a:b7 q):S.T.E q/\q≠S.st:=⟨(h.E q).2 (.inr a),λe=>h.ne (e▸a)⟩
theorem e8.low(h:e8 w0 w b7 d n l S pages L aI aT c)(hc:c<=4000):pages.length<=L.length:=(h.at_.ok.low (by have:=h.eG.1;omega)).2
theorem e8.ext(h:e8 w0 w b7 d n l S pages L aI aT c)(hx:Ext w w'):e8 w0 w' b7 d n l S pages L aI aT c:={h with x:=h.x.trans hx,at_:=h.at_.ext hx}
theorem e8.mono{e:Nat}(h:e8 w0 w b7 d n l S pages L aI aT c)(he:c<=e):e8 w0 w b7 d n l S pages L aI aT e:={h with aO:=by have:=h.aO;omega,eG:=⟨by have:=h.eG.1;omega,by have:=h.eG.2;omega⟩,gen:=by have:=h.gen;omega,r_:=by have:=h.r_;omega}
theorem fK.ext(h:fK w0 w b7 d n l aP S pages L aI aT m c)(hx:Ext w w'):fK w0 w' b7 d n l aP S pages L aI aT m c:=⟨h.s.ext hx,h.live,h.jn,h.md.ext hx,h.gV⟩
theorem fK.mono{e:Nat}(h:fK w0 w b7 d n l aP S pages L aI aT m c)(he:c<=e):fK w0 w b7 d n l aP S pages L aI aT m e:={h with s:=h.s.mono he}
theorem e8.jL{ky:Nat}(h:e8 w0 w b7 d n l S pages L aI aT c)(a:b7 ky)(hc:ad (λq=>q=ky) w w'):e8 w0 w' b7 d n l S pages L aI aT c:=
 {h with x:=Ext.dr h.x hc λq e=>by rw[e];exact h.my _ (.inr (.inr (.inr (.inl (h.j_ a).1)))),at_:=h.at_.jL (h.j_ a).1 (h.j_ a).2 hc}
theorem e8.step{en fq:O Nat}{e7 eV:O aH}(h:e8 w0 w b7 d n l S pages L aI aT c)(hs:c0 w' aA en e7 fq eV)(hd:db k S aA w w')(b:k<=20000)(hf:e7.length<=c+1/\eV.length<=c+1)(hg:aA.gen<=S.gen+1)(e:aA.pending<=S.pending+1):e8 w0 w' b7 d n l aA en e7 fq eV (c+1):=
 ⟨Ext.dr h.x hd.ae λq a=>h.my q a.1,hs,λq=>by rw[hd.E,hd.st];exact h.E q,by rw[hd.st];exact h.ne,λq a=>by
  rcases hd.cZ q a with h1|h1
  .exact h.my q h1
  .have:=h.x.size;omega,hd.l.trans h.lim,hd.d.trans h.d,hd.n.trans h.n,by have:=hd.aO;have:=h.aO;omega,hf,by have:=h.gen;omega,by have:=h.r_;omega⟩
theorem fK.y2(h:fK w0 w b7 d n l aP S pages L aI aT m c)(hs:c0 w' aA pages L aI aT)(hd:db k S aA w w')(b:k<=20000)(hu:aA.u=S.u)(hg:aA.gen=S.gen)(e:aA.now=S.now)(f:aA.first=S.first)(a:aA.pending=S.pending)(hf:aA.failed=S.failed):fK w0 w' b7 d n l aP aA pages L aI aT m (c+1):=
 ⟨h.s.step hs hd b ⟨by have:=h.s.eG.1;omega,by have:=h.s.eG.2;omega⟩ (by rw[hg];omega) (by rw[a];omega),hf.trans h.live,h.jn,h.md.lO hd (h.s.j_ h.jn).1 (h.s.j_ h.jn).2,
  ⟨h.gV.now,h.gV.sure,by rw[a];exact h.gV.da,by rw[e];exact h.gV.clock,λh2=>by rw[f];exact h.gV.first (by rw[←a];exact h2),by rw[hu];exact h.gV.cv,by rw[hu];exact h.gV.jK⟩⟩
theorem fK.read(h:fK w0 w b7 d n l aP S pages L aI aT m c)(hs:c0 w' aA pages L aI aT)(hd:db k S aA w w')(a:k<=20000)(he:jM S aA)(hf:aA.failed=S.failed):fK w0 w' b7 d n l aP aA pages L aI aT m (c+1):=
 h.y2 hs hd a he.u he.gen he.now he.first he.pending hf
theorem fK.v(h:fK w0 w b7 d n l aP S pages L aI aT m c):Var w aP m.c 90:=h.md.v
theorem n_(h:fK w0 w b7 d n l aP S pages L aI aT m c)(f:S.T.C.D.quiet)(hc:c<=1000):aN aj 54 #[.pointer (some S.st),.pointer (some aP)] w
 (λv w'=>v=true/\∃aA,fK w0 w' b7 d n l aP aA pages L aI aT m (c+2)/\aA.T.C.D.quiet/\aA.st=S.st):=by
 refine I7.EI _ _ w _ ?_;(delta I7.n_ Am gv U b6 ai af aF ay r1 bl gg;dsimp only);refine(H_ h.s.at_).use ?_;rintro _ w1 ⟨rfl,G⟩;refine⟨_,_,_,_,_,_,rfl,bd (vs:=gi.c) rfl λan P Q ao=>i_ P rfl S.u λy R V ap=>?_⟩;have W:Ext w y:=G.trans (Ext.cm Q V (bn _));have k:=h.ext W;have aq:=k.s.low I;have ar:=k.s.eG;have au:=k.s.aO;have aw:=G.size;refine(CX (fE:=bc) (fy:=bc) (most:=2000) k.s.at_ I I I (y1 y) (λq f=>(gf q f).elim) (y1 y) (λq f=>(gf q f).elim) (by decide)).use ?_;rintro _ z ⟨bE,X,A,Y,⟨s,rfl,H⟩|⟨_,Z⟩⟩
 rotate_left
 .exact absurd f Z
 have aa:=k.read X A I Y rfl;have ab:Var z w1.heap.size S.u.c 104:=R.ae A.ae λac=>by have:=h.s.at_.t.lt ac.1;omega
 have ag:(eO L [] []).take (Int.toNat 2000)=L:=by rw[ID,dD (by show L.length<=2000;omega)]
 rw[ag]at H;refine⟨s,0,rfl,aS ?_⟩;have B:=b4 z;have o:=aa.ext B;have E:=ab.ext B;have J:=H.ae (ad.cF B:ad (λ_=>False) _ _) λ_ _ _ h=>h;generalize z.drew=K at o E J;have ax:=o.v.lt;have az:=E.lt;refine⟨λq=>K.heap.size<=q,λ_=>⟨_,rfl,λa=>(by have a:K.heap.size<=aP:=a;omega),m.fp,o.v.cell,(n3 J o.md.now.p I).use ?_⟩,λa=>(by cases a)⟩;rintro _ g ⟨b,rfl,a,M⟩;obtain rfl:b=true:=a.2 (by rw[h.gV.now]);have e:=o.ext M;have x:=E.ext M;have aB:=e.v.lt;have aC:=x.lt;have j:=e.s.at_;have r:∀i:Nat,¬g.heap.size<=(Addr.add aP i).block:=λi=>by rw[av];show¬g.heap.size<=aP;omega
 have F:∀i:Nat,¬g.heap.size<=(Addr.add w1.heap.size i).block:=λi=>by rw[av];show¬g.heap.size<=w1.heap.size;omega
 have ah:(S.bV bE).keys=m.fp.len:=by have h1:(S.bV bE).keys=L.length:=j.keys;have h2:=e.md.now.p.len;rw[h.gV.now]at h2;omega
 have ak:(S.u).keys=m.ss.len:=by have h1:S.u.keys=aT.length:=j.fz.keys;have h2:=e.md.sure.len;rw[h.gV.sure]at h2;omega
 refine⟨true,rfl,λq=>g.heap.size<=q,λ_=>⟨_,rfl,λa=>(by have a:g.heap.size<=aP:=a;omega),m.fp,e.v.cell,(H7 j).use ?_⟩,λa=>(by cases a)⟩;rintro _ _ ⟨rfl,rfl⟩;refine⟨_,rfl,.refl _ _,λ_=>⟨_,rfl,r 2,_,by rw[av];exact e.v.cell,(H6 j).use ?_⟩,λa=>qq ah a⟩;rintro _ _ ⟨rfl,rfl⟩;refine⟨_,rfl,.refl _ _,λ_=>⟨_,rfl,r 3,_,by rw[av];exact e.v.cell,(H8 j).use ?_⟩,λa=>qq (h.gV.da).symm a⟩;rintro _ _ ⟨rfl,rfl⟩;refine⟨_,rfl,.refl _ _,λ_=>⟨F 4,_,by rw[av];exact x.cell,_,rfl,r 5,_,by rw[av];exact e.v.cell,λ_=>⟨F 3,_,by rw[av];exact x.cell,_,rfl,r 6,_,by rw[av];exact e.v.cell,λ_=>⟨F 5,_,by rw[av];exact x.cell,_,rfl,r 1,m.ss,by rw[av];exact e.v.cell,?_⟩,λa=>qq (h.gV.jK).symm a⟩,λa=>qq (h.gV.cv).symm a⟩,λa=>qq (h.gV.clock).symm a⟩;refine cj (λb w'=>b=true/\g=w') (λq f=>⟨λ_=>(H9 j).use ?_,λa=>qq ak a⟩) ?_
 .rintro _ _ ⟨rfl,rfl⟩
  exact⟨_,rfl,f _ _ ⟨by rw[e.live];rfl,rfl⟩⟩
 rintro _ _ ⟨rfl,rfl⟩;have N:(S.bV bE).T.C.D.quiet:=A.q f;have aD:=e.s.low I;have aE:=e.s.eG;have aG:=e.s.aO;refine cj (λb w'=>b=true/\∃aA,fK w0 w' b7 d n l aP aA pages L aI aT m (c+2)/\aA.T.C.D.quiet/\aA.st=S.st) (λq f=>⟨λ_=>(Ih j N I I I).use ?_,λa=>(by cases a)⟩) λb w' h=>⟨by rw[h.1],h.2⟩;rintro _ aH ⟨rfl,bX,al,O,am⟩;exact⟨0,rfl,f _ _ ⟨rfl,_,e.read al O I am rfl,O.q N,rfl⟩⟩
end
section
variable {w0 w w' w1 ag:J}{b7:Nat->Prop}{d n aP k c:Nat}{l:fI}{S aA:ck}{pages en aI fq:O Nat}{L e7 aT eV:O aH}{m:dy}{v:aa}
def dy.put(m:dy)(s:Y)(L:O aH):dy:={m with fp:=s,now:=L}
theorem aY.lO{s:Y}{x:Key}(b:aY (λq=>¬S.T.M q) w s x)(hd:db k S aA w w'):aY (λq=>¬aA.T.M q) w' s x:=
 aY.aW (aY.ae (aY.aW (C:=λq=>¬S.T.M q/\¬aA.T.M q) b λq f a=>⟨a,λc=>by rcases hd.cZ q c with h|h;exact a h;omega⟩) hd.ae λq d e=>d.1 e.1) λ_ _ h=>h.2
theorem jb.sd{c:Prop}(h:jb c S aA pages L aI aT v w')(a:S.T.C.D.quiet):v=.int .i64 0/\c/\c0 w' aA pages L pages L/\aA.failed=false/\aA.gen=S.gen+1/\aA.u.clock=S.now/\aA.u.cv=S.u.cv+1/\aA.pending=0:=by
 rcases h with h|⟨_,h,_⟩
 .exact h
 .exact absurd a h
theorem fK.more(h:fK w0 w b7 d n l aP S pages L aI aT m c)(g:S.T.C.D.quiet)(hd:db k S aA w w')(o:k<=20000)(p:aA.now=S.now)(i:mw S aA en e7 aI aT v w')(j:e7.length<=c+1):
 v=.int .i64 0/\∃fq eV,e8 w0 w' b7 d n l aA en e7 fq eV (c+1)/\aA.failed=false/\aA.T.C.D.quiet/\aA.st=S.st/\eD (λq=>¬aA.T.M q) w' aP m/\∀b,r9 aA ((m.put b e7).more l.batch) e7 eV:=by
 have r:=h.md.lO hd (h.s.j_ h.jn).1 (h.s.j_ h.jn).2;have a:=h.gV;have z:=h.s.eG.2;rcases i with ⟨rfl,t,hs,hf,hg,hu,f,u,_⟩|i
 .refine⟨rfl,aI,aT,h.s.step hs hd o ⟨j,I⟩ I I,hf,hd.q g,hd.st,r,λb=>?_⟩
  have e:(m.put b e7).more l.batch=(m.put b e7).rZ:=by
   unfold dy.more;rw[if_neg];show¬l.batch<=m.da+1;rw[a.da,←h.s.lim];omega
  rw[e];refine⟨rfl,a.sure,?_,?_,λ_=>?_,?_,?_⟩
  .show m.da+1=_
   rw[a.da,f]
  .exact a.clock.trans p.symm
  .show(if m.da=0 then m.clock else m.first)=_
   rw[u,a.da];by_cases e:S.pending=0
   .rw[if_pos e,if_pos e,a.clock]
   .rw[if_neg e,if_neg e,a.first e]
  .rw[hu];exact a.cv
  .rw[hu];exact a.jK
 .obtain⟨rfl,t,hs,hf,hg,x,y,f⟩:=i.sd g
  refine⟨rfl,en,e7,h.s.step hs hd o ⟨j,j⟩ I I,hf,hd.q g,hd.st,r,λb=>?_⟩;have e:(m.put b e7).more l.batch=(m.put b e7).rZ.np:=by
   unfold dy.more;rw[if_pos];show l.batch<=m.da+1;rw[a.da,←h.s.lim];omega
  rw[e];refine⟨rfl,rfl,f.symm,a.clock.trans p.symm,λh=>absurd f h,?_,?_⟩
  .show m.cv+1=_
   rw[y,a.cv]
  .show m.clock=_
   rw[x,a.clock]
theorem e8.with{a:dy}(h:e8 w0 w b7 d n l S pages L aI aT c)(hf:S.failed=false)(he:b7 aP)(hc:ad (λq=>q=aP) w w')(b:eD (λq=>¬S.T.M q) w' aP a)(e:r9 S a L aT):fK w0 w' b7 d n l aP S pages L aI aT a c:=
 ⟨h.jL he hc,hf,he,b,e⟩
theorem eD.put{B:Nat->Prop}{a:Y}{M:O aH}(h:eD B w aP m)(hc:ad (λq=>q=aP) w w')(b:gS m.rest 90 B w' aP a M):eD B w' aP (m.put a M):=
 ⟨b,h.sure.ae hc λq c _ e=>h.now.nb (e▸c),h.num⟩
theorem wc(h:c0 w S pages L aI aT):∀q,w.heap.size<=q->¬S.T.M q:=λq b a=>by have:=h.t.lt a;omega
def oL(w0:J)(b7:Nat->Prop)(d n:Nat)(l:fI)(aP st c:Nat)(v:aa)(w':J):Prop:=
 v=true/\∃aA en e7 fq eV a,fK w0 w' b7 d n l aP aA en e7 fq eV a c/\aA.T.C.D.quiet/\aA.st=st
theorem n4{g sv sl:Y}{key val:Key}{kind K after:Int}(h:fK w0 w b7 d n l aP S pages L aI aT m c)(f:S.T.C.D.quiet)(hc:c<=900)(ce:aY (λq=>¬S.T.M q) w g key)(cf:aY (λq=>¬S.T.M q) w sv val)(c6:key.length<=26)(c7:val.length<=26):
 aN aj 38 #[.pointer (some S.st),.pointer (some aP),.agg #[kind,K,after,g,sv,sl],.agg l.c.toArray] w (oL w0 b7 d n l aP S.st (c+2)):=by
 refine I7.EH _ _ kind K after g sv sl (l.al:Nat) (l.batch:Nat) (l.d_:Nat) w _ ?_;(delta I7.n4 U af gX ay r1 ai kS aF aR jA aK b6 aZ bl;dsimp only);refine bd (vs:=[kind,K,after,g,sv,sl]) rfl λw1 cg bD c8=>bd (vs:=l.c) rfl λag ch bE ap=>aS ?_;have aB:=(bD.trans bE).trans (b4 ag);have W:=h.ext aB;have aV:=(cg.ext bE).ext (b4 ag);have bF:=ch.ext (b4 ag);have bb:=aY.ext ce aB;have bG:=aY.ext cf aB;have c9:=bD.size;generalize ag.drew=bH at aB W aV bF bb bG;have c_:=aV.lt;have bI:=h.s.lim;obtain rfl:m.now=L:=h.gV.now;have ar:=h.s.at_.ok.rising;refine⟨λq=>bH.heap.size<=q,_,rfl,by rw[av];show¬bH.heap.size<=w.heap.size;omega,g,by rw[av];exact aV.cell,(yC W.md.now bb.1 I).use ?_⟩;rintro _ dc ⟨i,rfl,bJ,bK⟩;refine⟨_,_,rfl,(Ia (W.ext bK).s.at_).use ?_⟩;rintro _ aW ⟨rfl,ci⟩;have au:=bK.trans ci;have o:=W.ext au;have y:=aV.ext au;have be:=bF.ext au;have G:=aY.ext bb au;have X:=aY.ext bG au;have dd:=aB.trans au;have aw:=o.s.at_;have de:=o.s.eG;have df:=o.s.aO;have dg:=o.s.gen;have dh:=o.s.r_;have di:=o.s.low I;have ax:=bJ.get ar;have Z:∀q,S.T.M q->q<w.heap.size:=λq aC=>h.s.at_.t.lt aC;have dj:=h.v.lt;have aX:m.cv<1000000000000:=by rw[h.gV.cv];have:=aw.num;omega
 have bL:m.da<1000000:=by rw[h.gV.da];omega
 have a0:∀q,az g q->q<aW.heap.size/\¬S.T.M q:=λq f=>⟨(G.2.2 q f).2,(G.2.2 q f).1⟩;have bM:∀q,az sv q->q<aW.heap.size/\¬S.T.M q:=λq f=>⟨(X.2.2 q f).2,(X.2.2 q f).1⟩;have B:=o;generalize bN:ij m.now key i=has at ax⊢;refine⟨_,rfl,_,y.cell,λO=>?_,λO=>⟨λO=>?_,λO=>⟨λO=>?_,λO=>⟨λO=>?_,λO=>⟨λO=>?_,λO=>?_⟩⟩⟩⟩⟩
 .
  refine⟨g,by rw[av];exact y.cell,(Ie aw I I I I G.1 a0).use ?_⟩;rintro v H P;have cl:∀ (cq:ck) (bO:Nat),db bO S cq aW H->Var H w.heap.size [kind,K,after,g,sv,sl] 92/\Var H w1.heap.size l.c 46:=λcq bO hd=>⟨y.ae hd.ae λz=>by have:=Z _ z.1;omega,be.ae hd.ae λz=>by have:=Z _ z.1;omega⟩;rcases P with ⟨rfl,aE,rfl⟩|⟨E,⟨hf,_⟩|⟨_,aA,hd,aa,P⟩⟩
  .refine⟨_,_,rfl,g,by rw[av];exact y.cell,(lz G.1).use ?_⟩
   rintro _ _ ⟨rfl,rfl⟩;rw[hD aE];exact⟨_,rfl,λ_=>⟨rfl,S,pages,_,aI,aT,m,B.mono I,f,rfl⟩,λh=>(by cases h)⟩
  .rw[h.live]at hf;cases hf
  obtain⟨a1,cm⟩:=cl aA _ hd;have a2:=aY.lO G hd;rcases P with ⟨rfl,hg,hs,he,hf⟩|⟨rfl,hg,Q,hs,he,hf⟩|⟨e,rfl,hg,Q,en,aC⟩|⟨rfl,hx⟩
  .have R:has=false:=by rw[ax,hg];rfl
   subst R;refine⟨_,_,rfl,g,by rw[av];exact a1.cell,(lz a2.1).use ?_⟩;rintro _ _ ⟨rfl,rfl⟩;rw[dm E];refine⟨_,rfl,λh=>(by cases h),λ_=>⟨λh=>(by cases h),λ_=>hF (λa3=>H=a3) (λq f=>⟨λh=>(by cases h),λ_=>f _ rfl⟩) ?_⟩⟩;rintro _ rfl;exact⟨rfl,aA,pages,_,aI,aT,m,(B.read hs hd I he (hf.trans h.live.symm)).mono I,hd.q f,hd.st⟩
  .have R:has=true:=by rw[ax];cases bf:ec m.now key with|none=>exact absurd bf hg|some x=>rfl
   subst R;refine⟨_,_,rfl,g,by rw[av];exact a1.cell,(lz a2.1).use ?_⟩;rintro _ _ ⟨rfl,rfl⟩;rw[dm E];rw[Q];exact⟨_,rfl,λh=>(by cases h),λ_=>⟨λ_=>⟨rfl,aA,pages,_,aI,aT,m,(B.read hs hd I he (hf.trans h.live.symm)).mono I,hd.q f,hd.st⟩,λh=>(by cases h)⟩⟩
  .have R:has=true:=by rw[ax];cases bf:ec m.now key with|none=>exact absurd bf hg|some x=>rfl
   subst R;have bg:(((gB S:Nat):Int)==0)=false:=by simp;omega
   have cn:=r4 (k:=key) ar;obtain⟨co,fq,eV,ap,aG,aH,aJ,aL,aM⟩:=B.more f hd I aa aC I;obtain rfl:e=0:=by cases co;rfl
   refine⟨_,_,rfl,g,by rw[av];exact a1.cell,(lz a2.1).use ?_⟩;rintro _ _ ⟨rfl,rfl⟩;rw[dm E];refine⟨_,rfl,λh=>(by cases h),λ_=>⟨λh=>(by rw[bg]at h;cases h),λ_=>hF (λa3=>∃bh,fK w0 a3 b7 d n l aP aA en (ei m.now key) fq eV bh (c+2)) (λq a4=>⟨λ_=>aS ⟨_,rfl,id,g,by rw[av];exact(a1.ext (b4 H)).cell,?_⟩,λh=>(by cases h)⟩) ?_⟩⟩
   .have ac:=aL.ext (b4 H)
    have am:=ap.ext (b4 H);have bP:=cm.ext (b4 H);have bQ:=aY.ext a2 (b4 H);generalize H.drew=dk at ac am bP bQ;refine(Hy ac.now ar bQ.1 I (wc am.at_)).use ?_;rintro _ dl ⟨rfl,bi,ao,bj⟩;have cp:=ac.put bi bj;refine⟨_,rfl,_,by rw[av];exact(bP.ae bi (by have:=W.v.lt;have:=o.v.lt;have:=(h.v).lt;omega)).cell,(CA cp aX bL (batch:=l.batch)).use ?_⟩;rintro _ dn ⟨rfl,cr,cs⟩;exact⟨rfl,a4 _ ⟨_,(am.with aG h.jn (bi.trans cr) cs (aM ao)).mono I⟩⟩
   .rintro a3 ⟨bh,ct⟩
    exact⟨rfl,aA,en,_,fq,eV,bh,ct,aH,aJ⟩
  .rcases hx True pages m.now with ⟨h1,_⟩|⟨_,h1,_⟩
   .cases h1
   .exact absurd f h1
 .
  refine⟨g,by rw[av];exact y.cell,(CU aw I G.1 a0).use ?_⟩;rintro v bR ⟨aD,hs,hd,dp,_,_,_,P⟩;have cu:=B.y2 hs hd I rfl rfl rfl rfl rfl rfl;have cw:=hd.q f;have r:=b4 bR;have bk:=cu.ext r;have fin:oL w0 b7 d n l aP S.st (c+2) true bR.drew:=⟨rfl,_,_,_,_,_,_,bk.mono I,cw,rfl⟩;rcases P with ⟨rfl,hg⟩|⟨t,x,rfl,E,hg,ht⟩|⟨_,_,cx⟩
  .have R:has=false:=by
    rw[ax];by_cases E:cz key
    .rw[hg E];rfl
    .rw[HT (λp V=>(h.s.at_.fS p V).1) E];rfl
   subst R;exact⟨bc,false,0,rfl,aS ⟨λ_=>⟨λ_=>⟨λ_=>fin,λh=>(by cases h)⟩,λh=>(by cases h)⟩,λh=>(by cases h)⟩⟩
  .have R:has=true:=by rw[ax,hg];rfl
   subst R;have bS:=yE bN;obtain⟨A,t1,t2,aq,bm,ay,aR,dq,cA⟩:=oG bk.md.now.p bS;have bT:=(bJ.vV ar []).2.2;rw[bN,if_pos rfl,hg,du bS]at bT;obtain rfl:x=m.now[i].2:=Option.some.inj bT;refine⟨t,true,0,rfl,aS ⟨λ_=>⟨λ_=>⟨λh=>(by cases h),λ_=>⟨_,λdr hx=>k1 ((ht.1.ext r).ext hx),_,rfl,id,m.fp,bk.v.cell,A,aq,bm,id,t2,aR,_,λds hx=>k1 (cA.1.ext hx),?_⟩⟩,λh=>(by cases h)⟩,λh=>(by cases h)⟩⟩;rw[beq_self_eq_true];exact fin
  .exact absurd (f.1 30) cx
 .
  refine⟨g,by rw[av];exact y.cell,sv,by rw[av];exact y.cell,_,by rw[av];exact y.cell,(CX aw I I I G.1 a0 X.1 bM I).use ?_⟩;rintro v bn ⟨an,hs,hd,he,⟨s,rfl,V⟩|⟨_,cB⟩⟩
  rotate_left
  .exact absurd f cB
  have cC:=B.read hs hd I he rfl;have cD:Var bn w.heap.size _ 92:=y.ae hd.ae λz=>by have:=Z _ z.1;omega
  have cE:=aY.lO G hd;have cG:=aY.lO X hd;refine⟨s,0,rfl,aS ?_⟩;have r:=b4 bn;have a5:=cC.ext r;have aQ:=cD.ext r;have bU:=aY.ext cE r;have bV:=aY.ext cG r;have bW:=V.ae (ad.cF r:ad (λ_=>False) _ _) λ_ _ _ h=>h;generalize bn.drew=bp at a5 aQ bU bV bW;have dt:=aQ.lt;have bq:∀i:Nat,¬bp.heap.size<=(Addr.add w.heap.size i).block:=λi=>by rw[av];show¬bp.heap.size<=w.heap.size;omega
  refine⟨λq=>bp.heap.size<=q,λ_=>⟨_,rfl,bq 3,g,by rw[av];exact aQ.cell,bq 4,sv,by rw[av];exact aQ.cell,bq 1,_,by rw[av];exact aQ.cell,(Hz a5.md.now bU.1 I bV.1 I K (wc a5.s.at_)).use ?_⟩,λh=>(by cases h)⟩;rintro _ dv ⟨ao,rfl,cH,bX⟩;refine⟨ao,rfl,(n3 (bW.ae (ad.cF bX:ad (λ_=>False) _ _) λ_ _ _ h=>h) cH ?_).use ?_⟩
  .rw[cy]
   have:(eO m.now key val).length<=m.now.length:=lV _ _;omega
  rintro _ dw ⟨b,rfl,bm,cI⟩;obtain rfl:b=true:=bm.2 rfl;exact⟨true,rfl,rfl,_,_,_,_,_,_,((a5.ext bX).ext cI).mono I,hd.q f,rfl⟩
 .
  refine⟨K,by rw[av];exact y.cell,?_⟩;obtain⟨N,bY,bZ⟩:∃N:Nat,IntKind.wrap .u64 K=(N:Int)/\N<18446744073709551616:=⟨(K%18446744073709551616).toNat,by rw[DX];omega,I⟩;rw[bY];refine(Ic aw bZ I I I).use ?_;rintro v br ⟨aA,hd,aa,P⟩;have cJ:Var br w.heap.size _ 92:=y.ae hd.ae λz=>by have:=Z _ z.1;omega
  have cK:Var br w1.heap.size l.c 46:=be.ae hd.ae λz=>by have:=Z _ z.1;omega
  have cL:=o.md.lO hd (o.s.j_ h.jn).1 (o.s.j_ h.jn).2;have j:=o.gV;obtain⟨rfl,fq,eV,b0,cM,cN⟩:v=.int .i64 0/\∃fq eV,e8 w0 br b7 d n l aA pages m.now fq eV (c+1)/\aA.failed=false/\r9 aA (m.tick N l.d_) m.now eV:=by
   rcases P with ⟨rfl,aU,hs,rfl⟩|⟨_,hx⟩
   .refine⟨rfl,aI,aT,B.s.step hs hd I ⟨I,I⟩ (by show S.gen<=S.gen+1;omega) (by show S.pending<=S.pending+1;omega),o.live,?_⟩
    have e:m.tick N l.d_=m.kB N:=by
     unfold dy.tick;rw[if_neg];rintro⟨h1,h2⟩;rw[j.da]at h1;rw[j.clock,j.first h1,←bI]at h2;rcases aU with W|W
     .exact h1 W
     .omega
    rw[e];exact⟨rfl,j.sure,j.da,by show max m.clock N=max S.now N;rw[j.clock],j.first,j.cv,j.jK⟩
   .obtain⟨rfl,aU,hs,hf,hg,bs,bt,V⟩:=hx.sd f
    have dx:aA.gen=S.gen+1:=hg;have cO:aA.u.clock=max S.now N:=bs;have cP:aA.u.cv=S.u.cv+1:=bt;refine⟨rfl,pages,m.now,B.s.step hs hd I ⟨I,I⟩ I I,hf,?_⟩;have e:m.tick N l.d_=(m.kB N).np:=by
     unfold dy.tick;rw[if_pos];refine⟨by rw[j.da];exact aU.1,?_⟩;rw[j.clock,j.first aU.1,←bI];exact aU.2
    rw[e];exact⟨rfl,rfl,V.symm,by show max m.clock N=aA.now;rw[j.clock,aa],λh=>absurd V h,by show m.cv+1=_;rw[cP,j.cv],by show max m.clock N=_;rw[cO,j.clock]⟩
  refine⟨0,rfl,K,by rw[av];exact cJ.cell,_,by rw[av];exact cK.cell,?_⟩;rw[bY];refine(HA cL (wc b0.at_) aX bZ (d_:=l.d_)).use ?_;rintro _ dz ⟨rfl,cQ,cR⟩;exact⟨rfl,rfl,_,_,_,_,_,_,(b0.with cM h.jn cQ cR cN).mono I,hd.q f,hd.st⟩
 .
  refine(yF o.md aX).use ?_;rintro _ dA ⟨rfl,cS,cT⟩;have b1:=o.s.jL h.jn cS;refine⟨rfl,(CT b1.at_ I I I).use ?_⟩;rintro v cU (⟨hf,_⟩|⟨_,aA,hd,aa,hx⟩)
  .rw[h.live]at hf;cases hf
  obtain⟨rfl,_,hs,hf,hg,bs,bt,V⟩:=hx.sd f;have j:=o.gV;refine⟨0,rfl,rfl,aA,_,_,_,_,m.np,(show fK w0 cU b7 d n l aP aA pages m.now pages m.now m.np (c+1) from⟨b1.step hs hd I ⟨I,I⟩ I I,hf,h.jn,cT.lO hd (o.s.j_ h.jn).1 (o.s.j_ h.jn).2,⟨rfl,rfl,V.symm,j.clock.trans aa.symm,λh=>absurd V h,by show m.cv+1=_;rw[bt,j.cv],by show m.clock=_;rw[bs,j.clock]⟩⟩).mono I,hd.q f,hd.st⟩
 .
  refine⟨g,by rw[av];exact y.cell,sv,by rw[av];exact y.cell,(CW aw I I I I G.1 a0 X.1 bM).use ?_⟩;rintro v F P;have dB:=len8 X.1;have tail:∀ (cq:ck) (bO:Nat) (e:Int) (lN:ah),db bO S cq aW F->v=e->(lN=true↔cz key/\val.length<=24)->(lN=false->oL w0 b7 d n l aP S.st (c+2) (.bool (e==1)) F)->(lN=true->(((gB S:Nat):Int)==0)=true->oL w0 b7 d n l aP S.st (c+2) (.bool (e==2)) F)->
   (lN=true->(((gB S:Nat):Int)==0)=false->e=0/\∃en fq eV,e8 w0 F b7 d n l cq en (eN m.now key val) fq eV (c+1)/\cq.failed=false/\cq.T.C.D.quiet/\cq.st=S.st/\eD (λq=>¬cq.T.M q) F aP m/\∀ao,r9 cq ((m.put ao (eN m.now key val)).more l.batch) (eN m.now key val) eV)->
   ∃a6:Int,Ending.returned v=.returned a6/\∃a7:Y,F.cell? (Addr.add w.heap.size 3)=some (.slice a7.a a7.len a7.cap)/\
   Calls aj 50 #[a7] F λcV bu=>∃bv:ah,cV=.returned bv/\bo (λb2:ah->J->Prop=>((!bv)=true->b2 true bu)/\((!bv)=false->∃a8:Y,bu.cell? (Addr.add w.heap.size 4)=some (.slice a8.a a8.len a8.cap)/\b2 (decide ((a8.len:Int)>24)) bu))
    (λ(b3:ah) (bw:J)=>(b3=true->oL w0 b7 d n l aP S.st (c+2) (.bool (a6==1)) bw)/\(b3=false->((((gB S:Nat):Int)==0)=true->oL w0 b7 d n l aP S.st (c+2) (.bool (a6==2)) bw)/\((((gB S:Nat):Int)==0)=false->ak (bw.drew) λa9=>∃b5:ab,some (aP:ab)=some b5/\¬False/\∃a_:Y,a9.cell? (Addr.add w.heap.size 3)=some (.slice a_.a a_.len a_.cap)/\¬False/\∃ba:Y,a9.cell? (Addr.add w.heap.size 4)=some (.slice ba.a ba.len ba.cap)/\
     Calls aj 107 #[.pointer (some b5),a_,ba] a9 λcW bx=>cW=.returned (.tuple #[])/\∃b8:Int,bx.cell? (Addr.add w1.heap.size 1)=some (.int .i64 b8)/\
     Calls aj 105 #[.pointer (some aP),b8] bx λcX b9=>cX=.returned (.tuple #[])/\oL w0 b7 d n l aP S.st (c+2) (.bool (a6==0)) b9))):=by
   rintro cq bO e lN hd rfl bz aE cY cZ;have bA:Var F w.heap.size _ 92:=y.ae hd.ae λz=>by have:=Z _ z.1;omega
   have c0:Var F w1.heap.size l.c 46:=be.ae hd.ae λz=>by have:=Z _ z.1;omega
   have b_:=aY.lO G hd;have c1:=aY.lO X hd;refine⟨e,rfl,g,by rw[av];exact bA.cell,(lz b_.1).use ?_⟩;rintro _ _ ⟨rfl,rfl⟩;refine⟨_,rfl,cj (λb w'=>b= !lN/\F=w') (λq a4=>⟨λh=>a4 _ _ ⟨?_,rfl⟩,λh=>⟨sv,by rw[av];exact bA.cell,a4 _ _ ⟨?_,rfl⟩⟩⟩) ?_⟩
   .cases hg:lN with
    |false=>rfl
    |true=>
     rw[dm (bz.1 hg).1]at h;cases h
   .have E:cz key:=by
     by_cases E:cz key
     .exact E
     .rw[hD E]at h;cases h
    cases hg:lN with
    |true=>
     have:=(bz.1 hg).2;show decide ((sv.len:Int)>24)=false;exact hD I
    |false=>
     show decide ((sv.len:Int)>24)=true;refine dm ?_;have:¬val.length<=24:=λc2=>by have:=bz.2 ⟨E,c2⟩;rw[hg]at this;cases this
     omega
   rintro _ _ ⟨rfl,rfl⟩;refine⟨λh=>aE (by simpa using h),λh=>⟨λQ=>cY (by simpa using h) Q,λQ=>?_⟩⟩;obtain⟨rfl,en,fq,eV,ap,aG,aH,aJ,aL,aM⟩:=cZ (by simpa using h) Q;have r:=b4 F;have ac:=aL.ext r;have am:=ap.ext r;have bB:=bA.ext r;have ca:=c0.ext r;have cb:=aY.ext b_ r;have cc:=aY.ext c1 r;refine aS ?_;generalize F.drew=a9 at ac am bB ca cb cc;refine⟨_,rfl,id,g,by rw[av];exact bB.cell,id,sv,by rw[av];exact bB.cell,(Hx ac.now ar cb.1 I cc.1 I (wc am.at_) I).use ?_⟩;rintro _ bx ⟨rfl,bC,ao,bj⟩;have c3:=ac.put bC bj;refine⟨rfl,_,by rw[av];exact(ca.ae bC I).cell,(CA c3 aX bL (batch:=l.batch)).use ?_⟩;rintro _ b9 ⟨rfl,c4,c5⟩;exact⟨rfl,rfl,cq,en,_,fq,eV,_,(am.with aG B.jn (bC.trans c4) c5 (aM ao)).mono I,aH,aJ⟩
  rcases P with ⟨rfl,aE,rfl⟩|⟨cd,⟨hf,_⟩|⟨_,aA,hd,aa,⟨rfl,Q,hs,rfl⟩|⟨Q,en,aC⟩⟩⟩
  .exact tail S 0 1 false (db.ext S (.refl _ _)) rfl ⟨λh=>(by cases h),λh=>absurd h aE⟩ (λ_=>⟨rfl,S,pages,_,aI,aT,m,B.mono I,f,rfl⟩) (λh=>(by cases h)) λh=>(by cases h)
  .rw[h.live]at hf;cases hf
  .exact tail _ _ 2 true hd rfl ⟨λ_=>cd,λ_=>rfl⟩ (λh=>(by cases h)) (λ_ _=>⟨rfl,_,pages,_,aI,aT,m,(B.y2 hs hd I rfl rfl rfl rfl rfl rfl).mono I,f,rfl⟩) λ_ h=>(by rw[Q]at h;cases h)
  .have bg:(((gB S:Nat):Int)==0)=false:=by simp;omega
   have dC:=yT key val m.now;have cn:=r4 (k:=key) ar;obtain⟨rfl,fq,eV,ap,aG,aH,aJ,aL,aM⟩:=B.more f hd I aa aC I;exact tail aA _ 0 true hd rfl ⟨λ_=>cd,λ_=>rfl⟩ (λh=>(by cases h)) (λ_ h=>(by rw[bg]at h;cases h)) λ_ _=>⟨rfl,en,fq,eV,ap,aG,aH,aJ,aL,aM⟩
end
section
variable {w0 w w' w1 ag:J}{b7 bU:Nat->Prop}{d n aP k c i:Nat}{l:fI}{S aA:ck}{pages en aI fq bw:O Nat}{L e7 aT eV ba:O aH}{m:dy}{v:aa}{ax:a_}{ls:Y}{A:O iL}
theorem c0.grow(h:c0 w S pages L aI aT)(hx:Ext w w'){b:Nat->Prop}(c:∀q,b q->S.T.E q\/(w.heap.size<=q/\q<w'.heap.size))(hs:b S.st):c0 w' (S.bV (S.T.b_ b S.T.G)) pages L aI aT:=by
 have ht:bJ w' (S.T.b_ b S.T.G):=h.t.grow (W:=λ_=>False) hx (λ_ d=>d.elim) (λq a=>(c q a).imp id .inr) (λq a=>.inr (.inl a)) λq a hg=>by
  rcases c q a with h1|h1
  .exact(h.t.c2 q h1).2.2 hg
  .have:=h.t.lt (q:=q) (.inr (.inr (.inr (.inr hg))));omega
 exact⟨⟨h.v.ext hx,ht,hs,h.fz,h.gen,h.num,h.bI⟩,h.ok,h.bk,h.f,h.two,h.fS,h.keys,h.da,h.live,h.dead⟩
def ck.own(S:ck)(bU:Nat->Prop):ck:=S.bV (S.T.b_ (λq=>q=S.st\/bU q) S.T.G)
theorem ck.IM{q:Nat}(b:∀q,S.T.E q↔q=S.st\/b7 q)(h1:∀q,bU q->b7 q\/k<=q)(a:(S.own bU).T.M q):S.T.M q\/k<=q:=by
 rcases a with a|a|a|a|a
 .exact .inl (.inl a)
 .exact .inl (.inr (.inl a))
 .exact .inl (.inr (.inr (.inl a)))
 .rcases(show q=S.st\/bU q from a) with h|h
  .exact .inl (.inr (.inr (.inr (.inl ((b q).2 (.inl h))))))
  .rcases h1 q h with h|h
   .exact .inl (.inr (.inr (.inr (.inl ((b q).2 (.inr h))))))
   .exact .inr h
 .exact .inl (.inr (.inr (.inr (.inr a))))
theorem e8.grow(h:e8 w0 w b7 d n l S pages L aI aT c)(hx:Ext w w')(b:∀q,bU q->b7 q\/(w.heap.size<=q/\q<w'.heap.size)):e8 w0 w' bU d n l (S.own bU) pages L aI aT c:=
 ⟨h.x.trans hx,h.at_.grow hx (λq a=>by
  rcases a with h1|h1
  .exact .inl ((h.E q).2 (.inl h1))
  .exact(b q h1).imp (λh2=>(h.E q).2 (.inr h2)) id) (.inl rfl),λq=>Iff.rfl,λhs=>by
  have hs:bU S.st:=hs
  rcases b _ hs with h1|h1
  .exact h.ne h1
  .have:=h.at_.t.lt (q:=S.st) (.inr (.inr (.inr (.inl h.at_.es))));omega,λq a=>by
  rcases ck.IM h.E (λq a=>(b q a).imp id And.left) a with h1|h1
  .exact h.my q h1
  .have:=h.x.size;omega,h.lim,h.d,h.n,h.aO,h.eG,h.gen,h.r_⟩
theorem c0.bh(h:c0 w S pages L aI aT)(a:S.failed=false)(b:yX S.T.C.D ax):∀j,S.T.g j=true->ax.bh.getD j []=S.V j:=λj c=>by
 rcases b.bh j with h1|h1
 .exact h1
 .have h2:=h.t.ca.inv.k3 j (h.bI j c)
  rw[(h.live a).2.1]at h2
  rw[h2]at h1;cases h1
theorem e8.found{V:Nat->cT}{gen:Nat}{u:cU}{g:Nat->ah}{P:Nat->ao aB}(h:e8 w0 w b7 d n l S pages L aI aT c)(hd:cB w1 ax)(e:yX S.T.C.D ax)(i:ad (bT S.T.C.D) w w1)(G:g5 V n gen u g P bw ba)(ed:∀j,g j=true->ax.bh.getD j []=V j)(H:kD (l.al:Nat) (l.batch:Nat) (l.d_:Nat))(O:gen<=S.gen+1)(hc:c<=3000)(r:ba.length<=c+1):
 aN aj 41 #[.pointer (some d),.agg l.c.toArray] w1 (λv ag=>∃cq:ck,v=.tuple #[.pointer (some cq.st),(0:Int)]/\e8 w0 ag b7 d n l cq bw ba bw ba (c+1)/\cq.failed=false/\cq.T.C.D.quiet/\cq.u=u/\cq.gen=gen/\cq.pending=0/\cq.now=u.clock/\
  ∀aP m,b7 aP->eD (λq=>¬S.T.M q) w aP m->eD (λq=>¬cq.T.M q) ag aP m):=by
 have Q:=h.aO;have R:=h.gen;have s:ax.n=n:=e.n.trans (h.at_.t.n.trans h.n);have U:=i.size;have k:∀q,bT ax q->S.T.M q:=λq a=>.inl (.inr (.inr (e.cZ q a)));have o:∀q,b7 q->S.T.M q:=λq a=>.inr (.inr (.inr (.inl (h.j_ a).1)));have p:∀q,b7 q->¬bT S.T.C.D q:=λq a hf=>h.at_.t.jC (h.j_ a).1 (.inl (.inr (.inr hf)));have y:=IJ (l:=l) (b7:=b7) hd e.q (by rw[e.aO];omega) e.waits H (by rw[s];exact G) ed I I λq a=>⟨by have:=h.at_.t.lt (o q a);omega,λhf=>p q a (e.cZ q hf)⟩;rw[e.d,h.d]at y;refine y.mono ?_;rintro v ag ⟨cq,rfl,J,b,hu,hg⟩;have z:Ext w0 w1:=Ext.dr h.x i λq a=>h.my q (.inl (.inr (.inr a)));have K:Ext w0 ag:=Ext.dr z b.ae λq a=>h.my q (k q a);have A:∀q,cq.T.M q->S.T.M q\/w1.heap.size<=q:=λq a=>by
  rcases b.M q a with h1|h1|h1
  .exact .inl (k q h1)
  .exact .inl (o q h1)
  .exact .inr h1
 refine⟨cq,rfl,⟨K,J,b.E,λhs=>?_,λq a=>?_,b.l,b.d.trans (e.d.trans h.d),b.n.trans s,?_,⟨r,r⟩,I,by rw[b.da];omega⟩,b.live,b.q,hu,hg,b.da,by rw[b.now,hu],λaP m he N=>?_⟩
 .have:=h.at_.t.lt (o _ hs)
  have:=b.st;omega
 .rcases A q a with h1|h1
  .exact h.my q h1
  .have:=z.size;omega
 .have:=b.aO
  have:=e.aO;omega
 .have B:cq.T.M aP:=.inr (.inr (.inr (.inl ((b.E aP).2 (.inr he)))))
  have h1:=N.ae i (p aP he) λq a _ hf=>a (.inl (.inr (.inr hf)));have h2:=h1.aW (C:=λq=>¬S.T.M q/\¬cq.T.M q) (λq W F=>⟨F,λa=>by
   rcases A q a with f|f
   .exact F f
   .omega⟩) λf=>f.2 B
  exact(h2.ae b.ae (λhf=>p aP he (e.cZ aP hf)) λq a _ hf=>a.1 (k q hf)).aW (λ_ _ h=>h.2) λh=>h B
theorem IN(aq:kE w0 ls A)(hx:Ext w0 w)(hi:i<A.length){K:J->J->Prop}
 (C:∀ (b c:J) (e sv sl:Y),Ext w c->w.heap.size<=b.heap.size->Var c b.heap.size [.int .i64 A[i].kind,.int .i64 A[i].n,.int .i64 A[i].after,e,sv,sl] 92->Db w0 (λq=>w.heap.size<=q) c A[i] e sv sl->K b c):
 ∃d:ab,ls.a=some d/\((0:Int)<=(i:Int)/\(i:Int)<(ls.len:Int))/\
 ∃n27:Int,w.cell? (d.add (Int.toNat (i:Int)*6))=some (.int .i64 n27)/\
 ∃n28:Int,w.cell? ((d.add (Int.toNat (i:Int)*6)).add 1)=some (.int .i64 n28)/\
 ∃n29:Int,w.cell? ((d.add (Int.toNat (i:Int)*6)).add 2)=some (.int .i64 n29)/\
 ∃g:Y,w.cell? ((d.add (Int.toNat (i:Int)*6)).add 3)=some (.slice g.a g.len g.cap)/\
 ∃h:Y,w.cell? ((d.add (Int.toNat (i:Int)*6)).add 4)=some (.slice h.a h.len h.cap)/\
 ∃j:Y,w.cell? ((d.add (Int.toNat (i:Int)*6)).add 5)=some (.slice j.a j.len j.cap)/\
 Calls aj 37 #[.agg #[n27,n28,n29,g,h,j]] w λD b=>
 ∃n35:Int,∃n36:Int,∃n37:Int,∃o:Y,∃p:Y,∃r:Y,D=.returned (
  .agg #[n35,n36,n37,o,p,r])
 /\ak (b.alloc (.cells #[(0:Int),(0:Int),(0:Int),(),(),()] 92))
 λs=>bx s b.heap.size [n35,n36,n37,o,p,r]/\
 (6:Nat)=6/\ak (setCells s b.heap.size 0 [n35,n36,n37,o,p,r])
 λc=>K b c:=by
 obtain⟨a,E,F,f⟩:=(aq.ext hx).at hi;have G:=aq.ok A[i] (cA hi);have h0:=f 0 _ rfl;rw[add_add,kF]at h0;refine⟨a,E,F,_,h0,_,f 1 _ rfl,_,f 2 _ rfl,(A[i]).tk,f 3 _ rfl,(A[i]).de,f 4 _ rfl,(A[i]).tl,f 5 _ rfl,(pR G hx).use ?_⟩;rintro _ b ⟨e,sv,sl,rfl,u,m⟩;refine⟨_,_,_,e,sv,sl,rfl,bd (vs:=[(0:Int),(0:Int),(0:Int),(),(),()]) rfl λs x y I=>⟨x.b9 rfl (λv z=>?_),rfl,cu x (us:=[.int .i64 A[i].kind,.int .i64 A[i].n,.int .i64 A[i].after,e,sv,sl]) rfl rfl λc H B _=>C b c e sv sl (u.trans (Ext.cm y B (bn _))) u.size H ?_⟩⟩
 .simp only[cS,eS,eW]at z
  rcases z with rfl|rfl|rfl|rfl|rfl|rfl<;>trivial
 .have t:Ext b c:=Ext.cm y B (bn _)
  exact⟨aY.ext m.k t,aY.ext m.v t,m.l.ext t,m.mx⟩
end
def oM:dy:=⟨[],[],bc,bc,0,0,0,0,0⟩
section
variable {w0 w w' w1 ag:J}{b7 bU:Nat->Prop}{d n aP k c i:Nat}{l:fI}{S aA:ck}{pages en aI fq bw:O Nat}{L e7 aT eV ba:O aH}{m:dy}{v:aa}{ax:a_}{ls:Y}{A:O iL}
theorem y3{q b k:Nat}(h:az ⟨some b,k,k⟩ q):q=b:=by
 obtain⟨A,aq,rfl⟩:=h
 cases aq;rfl
theorem c0.room(h:c0 w S pages L aI aT):S.T.n<=cc S.T+pages.length+aI.length+3:=by
 have h1:=II (t:=λi=>S.T.f i||S.T.g i) (l:=pages++aI++ [0,1,S.u.map]) S.T.n λi _ hi=>by
  simp only[jc]at hi;simp only[cP,cS,eS,eW];rcases hi with hi|hi
  .rcases(h.f i).1 hi with h2|h2|h2
   .exact .inl (.inl h2)
   .exact .inr I
   .exact .inr (.inr (.inr h2))
  .rcases(h.fz.g i).1 hi with h2|h2|h2
   .exact .inl (.inr h2)
   .exact .inr I
   .exact .inr (.inr (.inr h2))
 simp only[ct,e1,jw]at h1;unfold cc;omega
theorem e8.new{D:a_}(hx:Ext w0 w)(e:c0 w' S [] [] [] [])(a:yZ D l b7 4 w w' S)(hu:S.u=j9)(hg:S.gen=1)(b:∀q,bT D q->w0.heap.size<=q)(c:∀q,b7 q->w0.heap.size<=q/\q<w.heap.size)(g:D.aO=0):e8 w0 w' b7 D.d D.n l S [] [] [] [] 0:=
 ⟨Ext.dr hx a.ae b,e,a.E,λh=>by have:=(c _ h).2;have:=a.st;omega,λq f=>by
  rcases a.M q f with h1|h1|h1
  .exact b q h1
  .exact(c q h1).1
  .have:=hx.size;omega,a.l,a.d,a.n,by have:=a.aO;omega,⟨bn _,bn _⟩,I,by rw[a.da];exact bn _⟩
theorem IP(w:J):aN aj 26 #[] w (λv w'=>v=true/\Ext w w'):=by
 refine I7.EG w _ ?_;(delta I7.rC c9 q5 ai w5 U ay aR jA;dsimp only);refine(nQ (n:=40) I I w).use ?_;rintro _ w1 ⟨d,lb,mr,rfl,hd,Z,aa⟩;refine⟨_,0,rfl,(l8 (b:=9) (d:=9) I I w1).use ?_⟩;rintro _ aX ⟨rfl,F⟩;have r:kD (((⟨8,1+9%12,1+9%12⟩:fI).al:Nat):Int) (((⟨8,1+9%12,1+9%12⟩:fI).batch:Nat):Int) (((⟨8,1+9%12,1+9%12⟩:fI).d_:Nat):Int):=by unfold kD;decide
 generalize G:(⟨8,1+9%12,1+9%12⟩:fI)=H at r;have ab:H.batch=10:=by rw[←G]
 have ac:=hd.ext F;refine⟨_,_,_,rfl,(C9 (l:=H) (b7:=λ_=>False) ac r (λk=>⟨.inl rfl,.inl rfl⟩) rfl (by show 0<=999999000;omega) (λq h=>h.elim)).use ?_⟩;rintro _ s ⟨j,rfl,ae,f,hu,hg⟩;have u:=e8.new (w0:=w) (Z.trans F) ae f hu hg (λq a=>aa q a) (λq h=>h.elim) rfl;refine⟨_,0,rfl,λh=>(by cases h),λ_=>?_⟩;obtain⟨m,bA,bO,af,aY⟩:=vw s [97];obtain⟨y,ag,ah,K,aZ⟩:=vw m [49];have g:=u.ext (af.trans K);have ak:∀q,az ⟨some s.heap.size,1,1⟩ q->q<y.heap.size/\¬j.T.M q:=λq a=>by
  have e:=y3 a;exact⟨I,λc=>by have:=u.at_.t.lt c;omega⟩
 have am:∀q,az ⟨some m.heap.size,1,1⟩ q->q<y.heap.size/\¬j.T.M q:=λq a=>by
  have e:=y3 a;exact⟨I,λc=>by have:=u.at_.t.lt c;omega⟩
 have L:=f.q;refine aS ⟨⟨some s.heap.size,1,1⟩,m,bA,aS ⟨⟨some m.heap.size,1,1⟩,y,ag,(CW (key:=[97]) (val:=[49]) g.at_ (by decide) (by rw[f.da];decide) (by have:=g.aO;omega) (by rw[hg];decide) (bO.ext K) ak ah am).use ?_⟩⟩;rintro v a0 (⟨_,an,_⟩|⟨_,⟨hf,_⟩|⟨_,a1,A,a2,⟨_,N,_⟩|⟨_,pages,c⟩⟩⟩)
 .exact absurd ⟨⟨by decide,by decide⟩,by decide⟩ an
 .rw[f.live]at hf;cases hf
 .exfalso
  have h1:=g.at_.room;rw[g.n]at h1;have e:(na 40 d lb mr).n=40:=by show(List.replicate 40 gy).length=40;rw[mJ]
  have ao:j.T.aE=0:=by
   rcases g.at_.ok with ⟨h2,_⟩|h2
   .exact h2
   .have:=h2.pages.2.1;simp at this
  unfold gB at N;rw[e]at h1;rw[ao]at N;simp only[jw]at h1;omega
 have ap:j.pending=0:=f.da;rcases c with ⟨rfl,_,B,aq,ar,a3,a4,_⟩|c
 rotate_left
 .have:=(c.sd L).2.1
  rw[f.l,ab,ap]at this;omega
 have au:eN [] [97] [49]=[(([97],[49]):aH)]:=by decide
 rw[au]at B;have O:=g.step B A I ⟨by decide,by decide⟩ I I;have av:=A.q L;have P:=CT B (by decide) (by have:=O.aO;omega) (by rw[ar,hg];decide);rw[A.st]at P;refine⟨0,rfl,P.use ?_⟩;rintro v Q (⟨hf,_⟩|⟨_,cq,aw,a5,hx⟩)
 .rw[aq]at hf;cases hf
 obtain⟨rfl,_,o,aA,a6,_,_,a7⟩:=hx.sd av;have p:=O.step o aw I ⟨by decide,by decide⟩ I I;have R:=C2 (l:=bc) (zs:=[]) o.t.ca.raw.dev (y1 Q) (λq a=>(gf q a).elim) (by decide) (λz aB=>(by cases aB)) (by have:=p.aO;omega);rw[p.d]at R;refine⟨0,rfl,R.use ?_⟩;rintro _ aC ⟨rfl,ax,aF,S,aG⟩;refine⟨rfl,(l8 (b:=9) (d:=9) I I aC).use ?_⟩;rintro _ aI ⟨rfl,V⟩;rw[G];have aJ:ad (bT cq.T.C.D) Q aI:=aG.trans (V.mono λ_ _ h=>h.elim);have W:=o.fz;rw[p.n]at W;refine⟨_,_,_,rfl,(p.found (aF.ext V) S aJ W (o.bh aA S) r I (by decide) (by decide)).use ?_⟩;rintro _ X ⟨fC,rfl,Y,a8,aK,_⟩;obtain⟨aL,bR,bq,aM,a9⟩:=vw X [97];have E:=Y.ext aM;refine⟨_,0,rfl,aS ⟨⟨some X.heap.size,1,1⟩,aL,bR,(CU (key:=[97]) E.at_ (by have:=E.aO;omega) bq λq a=>?_).use ?_⟩⟩
 .have e:=y3 a
  exact⟨I,λc=>by have:=Y.at_.t.lt c;omega⟩
 rintro v aP ⟨aD,aQ,aT,_,_,_,_,aU⟩;have aV:=E.step aQ aT I ⟨by decide,by decide⟩ (by show fC.gen<=fC.gen+1;omega) (by show fC.pending<=fC.pending+1;omega);rcases aU with ⟨_,i⟩|⟨t,x,rfl,_,i,ht⟩|⟨_,_,i⟩
 .have aW:ec [(([97],[49]):aH)] [97]=none:=i ⟨by decide,by decide⟩
  exact absurd aW (by decide)
 .have e:ec [(([97],[49]):aH)] [97]=some [49]:=by decide
  rw[e]at i;obtain rfl:=Option.some.inj i;refine⟨t,true,0,rfl,cj (λb w'=>b=true/\aP=w') (λq a=>⟨λ_=>⟨_,_,k1 ht.1,a _ _ ⟨?_,rfl⟩⟩,λh=>(by cases h)⟩) ?_⟩
  .exact beq_self_eq_true _
  .rintro _ _ ⟨rfl,rfl⟩
   exact⟨rfl,aV.x⟩
 .exact absurd (aK.1 30) i
end
section
variable {w0 w w' w1 ag:J}{b7 bU:Nat->Prop}{d n aP k c i:Nat}{l:fI}{S aA:ck}{pages en aI fq bw:O Nat}{L e7 aT eV ba:O aH}{m:dy}{v:aa}{ax:a_}{ls:Y}{A:O iL}
theorem Dd(B:Nat->Prop)(w:J):fR B w bc []:=⟨[],(a8.none 2 167 w).src,bn _,λq a=>(gf q a).elim,rfl,λi h=>by simp at h⟩
theorem IQ{B:Nat->Prop}(a:Var w aP oM.c 90)(b:¬B aP):eD B w aP oM:=
 ⟨⟨a,Dd _ _,b,λp d=>(by cases d),cE _⟩,Dd _ _,(by decide:0<18446744073709551616),λh=>absurd rfl h⟩
def lP(b:Nat):fI:=⟨8,1+b%12,1+b/16%12⟩
theorem De(b:Nat):kD ((lP b).al:Nat) ((lP b).batch:Nat) ((lP b).d_:Nat):=by
 unfold kD lP;have h1:b%12<12:=g6 _ (by decide);have h2:b/16%12<12:=g6 _ (by decide);show(8:Int)<=((8:Nat):Int)/\((8:Nat):Int)<=64/\(1:Int)<=((1+b%12:Nat):Int)/\((1+b%12:Nat):Int)<=1000/\(1:Int)<=((1+b/16%12:Nat):Int)/\((1+b/16%12:Nat):Int)<=1048576;omega
theorem IS{b:Nat}(a:b<256):IntKind.wrap .u8 (Int.tdiv (b:Int) 16)=((b/16:Nat):Int):=by
 rw[Int.tdiv_eq_ediv_of_nonneg I];have h:((b:Int)/16)=((b/16:Nat):Int):=by omega
 rw[h];have h2:b/16<256:=by omega
 show((b/16:Nat):Int)%256=_;omega
theorem IT{l:fI}{K:J->Prop}(e:∀w',Var w' w.heap.size l.c 46->Ext w w'->K w'):
 ak (w.alloc (.cells #[(0:Int),(0:Int),.int .u64 0] 46)) λa=>bx a w.heap.size [l.al,l.batch,.int .u64 (l.d_:Nat)]/\(3:Nat)=3/\ak (setCells a w.heap.size 0 [l.al,l.batch,.int .u64 (l.d_:Nat)]) K:=
 bd (vs:=[(0:Int),(0:Int),.int .u64 0]) rfl λa b f j=>⟨b.b9 rfl (λv d=>by
  simp only[cS,eS,eW]at d
  rcases d with rfl|rfl|rfl<;>trivial),rfl,cu b (us:=l.c) rfl rfl λg h i _=>e g h (Ext.cm f i (bn _))⟩
def dy.reset(m:dy):dy:={m with now:=m.sure,fp:=m.ss,da:=0,clock:=m.jK}
theorem e8.reset(h:e8 w0 w b7 d n l S pages L aI aT c)(hf:S.failed=false)(he:b7 aP)(j:eD (λq=>¬S.T.M q) w aP m)(C:pages=aI/\L=aT)(hc:c<=4000)(ay:m.sure=aT)(aR:m.cv=S.u.cv)(aF:m.jK=S.u.clock)(c9:S.now=S.u.clock)(aZ:S.pending=0)(D:m.jK<18446744073709551616){W:Nat->Prop}(b8:¬W aP){K:J->Prop}(E:∀w',fK w0 w' b7 d n l aP S pages L aI aT m.reset c->K w'):
 ∃k:ab,(some aP:ao ab)=some k/\
  ¬W (k.add 1).block/\∃b:Y,w.cell? (k.add 1)=some (.slice b.a b.len b.cap)/\
  ∃o:ab,(some aP:ao ab)=some o/\¬W (o.add 6).block/\
  ∃y:Int,w.cell? (o.add 6)=some (.int .u64 y)/\∃e:ab,(some aP:ao ab)=some e/\
  (∃u:aa,w.cell? e=some u)/\w.frozen? e=false/\ak (w.setCell e b) λr=>
  ∃f:ab,(some aP:ao ab)=some f/\(∃u:aa,r.cell? (f.add 2)=some u)/\
  r.frozen? (f.add 2)=false/\ak (r.setCell (f.add 2) (0:Int)) λs=>
  ∃g:ab,(some aP:ao ab)=some g/\(∃u:aa,s.cell? (g.add 3)=some u)/\
  s.frozen? (g.add 3)=false/\ak (s.setCell (g.add 3) (.int .u64 y)) K:=by
 obtain⟨rfl,rfl⟩:=C;have z:=h.at_.fS;have P:=h.eG.1;obtain⟨a1,a2,t,F⟩:=j.back (by rw[ay];exact λp A=>⟨by have:=(z p A).1.2;omega,by have:=(z p A).2;omega⟩) (by rw[ay];omega);refine⟨_,rfl,by rw[av];exact b8,m.ss,by rw[av];exact j.v.cell,_,rfl,by rw[av];exact b8,_,by rw[av];exact j.v.cell,_,rfl,a1,a2,aS ⟨_,rfl,?_⟩⟩;rw[eU,cx];obtain⟨b5,bM,B,G⟩:=t.set (i:=2) (x:=.int .i64 0) {m with now:=m.sure,fp:=m.ss,da:=0} (by decide) rfl rfl rfl t.sure ⟨t.num.1,λh=>absurd rfl h⟩;refine⟨b5,bM,aS ⟨_,rfl,?_⟩⟩;rw[eU,cx];obtain⟨H,I,N,O⟩:=B.set (i:=3) (x:=.int .u64 (m.jK:Nat)) m.reset (by decide) rfl rfl rfl B.sure ⟨D,λh=>absurd rfl h⟩;exact⟨H,I,aS (E _ ⟨h.jL he ((F.trans G).trans O),hf,he,N,⟨ay,ay,aZ.symm,aF.trans c9.symm,λh=>absurd aZ h,aR,aF⟩⟩)⟩
theorem IU{s b:Nat}(hs:s<256)(ad:b<256)(se:kE w ls A):
 aN aj 10 #[.int .u8 (s:Nat),.int .u8 (b:Nat),ls] w (λv w'=>v=true/\Ext w w'):=by
 have aE:=se.len;refine okF (I7.vb (s:Nat) (b:Nat) ls) I6.vb func10 ?_;(delta I7.vb q5 te U c9 ar r1 bl ai gY aK af Al tf aR st aF;dsimp only);obtain⟨B,aG,Q,aL⟩:∃B:Nat,16<=B/\B<=1600/\IntKind.wrap .i64 (16+(Int.tmod (IntKind.wrap .i64 (s:Int)) 120))=(B:Nat):=by
  rw[bu (n:=(s:Int)) I I,qF I,bu I I];exact⟨16+s%120,I,I,I⟩
 rw[aL,IS ad];refine⟨by decide,by decide,(l8 (b:=b) (d:=b/16) ad I w).use ?_⟩;rintro _ w1 ⟨rfl,ae⟩;refine⟨_,_,_,rfl,IT (l:=lP b) λr R ag=>(nQ aG Q r).use ?_⟩;rintro _ bp ⟨d,lb,mr,rfl,aM,ah,aQ⟩;have V:=R.ext ah;refine⟨_,0,rfl,_,V.cell,_,by rw[av];exact V.cell,_,by rw[av];exact V.cell,(C9 (l:=lP b) (b7:=λ_=>False) aM (De b) (λk=>⟨.inl rfl,.inl rfl⟩) rfl (by show 0<=999999000;omega) (λq h=>h.elim)).use ?_⟩;rintro _ f ⟨g,rfl,aU,E,hu,hg⟩;have aV:=e8.new (w0:=r) ah aU E hu hg aQ (λq h=>h.elim) rfl;have aq:=se.ext (ae.trans ag);refine⟨_,0,rfl,λh=>(by cases h),λ_=>⟨oM.c.toArray,by kernel_rfl,bd (vs:=oM.c) rfl λak aX aZ bq=>?_⟩⟩;have a0:=aV.grow (bU:=λq=>q=f.heap.size) aZ λq e=>.inr ⟨I,I⟩;have a1:eD (λq=>¬(g.own λq=>q=f.heap.size).T.M q) ak f.heap.size oM:=IQ aX λh=>h (.inr (.inr (.inr (.inl (.inr rfl)))));have H:fK r ak (λq=>q=f.heap.size) d (na B d lb mr).n (lP b) f.heap.size (g.own λq=>q=f.heap.size) [] [] [] [] oM 0:=
  ⟨a0,E.live,rfl,a1,⟨rfl,rfl,E.da.symm,by show 0=g.now;rw[E.now,hu];rfl,λh=>absurd E.da h,by show 0=g.u.cv;rw[hu];rfl,by show 0=g.u.clock;rw[hu];rfl⟩⟩
 have W:(g.own λq=>q=f.heap.size).T.C.D.quiet:=E.q;have X:(g.own λq=>q=f.heap.size).st=g.st:=rfl;generalize br:f.heap.size=aP at H W X⊢;generalize g.own (λq=>q=aP)=a2 at H W X;generalize (na B d lb mr).n=bk at H;refine⟨λp n w'=>∃ (i:Nat) (S:ck) (pages aI:O Nat) (L aT:O aH) (m:dy),p=some ⟨S.st,0,none⟩/\n=(i:Int)/\i<=100/\i<=A.length/\fK r w' (λq=>q=aP) d bk (lP b) aP S pages L aI aT m (8*i)/\S.T.C.D.quiet,
  λ_ n _=>((100:Int)-n).toNat,⟨0,a2,[],[],[],[],oM,by rw[X],rfl,I,cE _,H,W⟩,?_⟩
 rintro _ _ al ⟨i,S,pages,aI,L,aT,m,rfl,rfl,hi,bs,J,e⟩;refine⟨λaJ=>?_,λbt=>?_⟩
 rotate_left
 .refine(IP al).use ?_
  rintro _ bv ⟨rfl,a3⟩;exact⟨true,rfl,rfl,((ae.trans ag).trans J.s.x).trans a3⟩
 obtain⟨h1,h2⟩:=IB (m:=100) aE aJ;refine IN aq J.s.x h1 λbw bx a4 sv sl a5 bz K N=>?_;have am:=J.ext a5;have an:∀q,al.heap.size<=q->¬S.T.M q:=λq e a6=>by have:=J.s.at_.t.lt a6;omega
 refine cj (λp w'=>∃ (aA:ck) (en fq:O Nat) (e7 eV:O aH) (j:dy),p=some ⟨aA.st,0,none⟩/\fK r w' (λq=>q=aP) d bk (lP b) aP aA en e7 fq eV j (8*i+2)/\aA.T.C.D.quiet) (λbA ao=>⟨_,K.cell,IK (A[i].kind==8) (λ_ k a7=>⟨_,K.cell,a7 _ (.refl _ _)⟩) λbB y=>⟨λ_=>?_,λ_=>?_⟩⟩) ?_
 .have a:=am.ext y
  have o:=K.ext y;have a8:=aq.ok A[i] (cA h1);have ap:=C2 (l:=sl) (zs:=A[i].l.take 60) a.s.at_.t.ca.raw.dev (N.l.ext y) (λq e hf=>by
   have:=N.mx q e (a.s.my q (.inl (.inr (.inr hf))));rw[this];rfl) (by rw[cy];omega) (λz a9=>a8.Da z (fa a9)) (by have:=a.s.aO;omega)
  rw[a.s.d]at ap;refine⟨sl,by rw[av];exact o.cell,ap.use ?_⟩;rintro _ a_ ⟨rfl,ax,ba,au,aw⟩;have bb:Ext r a_:=Ext.dr a.s.x aw λq e=>a.s.my q (.inl (.inr (.inr e)));have Y:=R.ext bb;have ay:=a.s.at_.fz;rw[a.s.n]at ay;have bC:=a.s.eG;refine⟨rfl,_,Y.cell,_,by rw[av];exact Y.cell,_,by rw[av];exact Y.cell,(a.s.found ba au aw ay (a.s.at_.bh a.live au) (De b) I I I).use ?_⟩;rintro _ az ⟨cq,rfl,bc,be,Z,aa,bD,bf,Q,bg⟩;have aB:=b4 az;have bi:=bc.ext aB;have aC:=(bg aP m rfl a.md).ext aB;have bE:=aC.v.lt;have P:=a.gV;refine⟨_,0,rfl,λh=>(by cases h),λ_=>aS ⟨λq=>az.drew.heap.size<=q,bi.reset be rfl aC ⟨rfl,rfl⟩ I P.sure (by rw[aa];exact P.cv) (by rw[aa];exact P.jK) (by rw[Q,aa]) bf (by rw[P.jK];exact a.s.at_.fz.yQ.clock) I λbF bj=>ao _ _ ⟨cq,_,_,_,_,_,rfl,bj.mono I,Z⟩⟩⟩
 .have a:=am.ext y
  have o:=K.ext y;have ab:=R.ext a.s.x;refine⟨_,o.cell,cj (λbm w'=>bm=false/\∃ (aA:ck) (en fq:O Nat) (e7 eV:O aH) (j:dy),aA.st=S.st/\fK r w' (λq=>q=aP) d bk (lP b) aP aA en e7 fq eV j (8*i+2)/\aA.T.C.D.quiet) (λbG aD=>⟨λ_=>⟨_,o.cell,_,by rw[av];exact o.cell,_,by rw[av];exact o.cell,a4,by rw[av];exact o.cell,sv,by rw[av];exact o.cell,sl,by rw[av];exact o.cell,_,ab.cell,_,by rw[av];exact ab.cell,_,by rw[av];exact ab.cell,(n4 a e I (aY.aW (aY.ext N.k y) λq _ e=>an q e) (aY.aW (aY.ext N.v y) λq _ e=>an q e) (by rw[cy];omega) (by rw[cy];omega)).use ?_⟩,λ_=>aD _ _ ⟨rfl,S,pages,aI,L,aT,m,rfl,a.mono I,e⟩⟩) ?_⟩
  .rintro _ bH ⟨rfl,aA,en,e7,fq,eV,j,F,G,ac⟩
   exact⟨true,rfl,aD _ _ ⟨rfl,aA,en,fq,e7,eV,j,ac,F,G⟩⟩
  .rintro bI bJ ⟨rfl,aA,en,fq,e7,eV,j,ac,F,G⟩
   exact⟨λh=>(by cases h),λ_=>ao _ _ ⟨aA,en,fq,e7,eV,j,by rw[ac],F,G⟩⟩
 .rintro _ bK ⟨aA,en,fq,e7,eV,j,rfl,F,G⟩
  refine(n_ F G I).use ?_;rintro _ bL ⟨rfl,cq,bn,Z,bo⟩;refine⟨true,rfl,λh=>(by cases h),λ_=>?_⟩;rw[IC I];exact⟨⟨i+1,cq,en,fq,e7,eV,j,by rw[bo],rfl,I,I,bn.mono I,Z⟩,by show((100:Int)-((i+1:Nat):Int)).toNat<((100:Int)-(i:Int)).toNat;omega⟩
end
end Go.Proofs.YtkdhdlfonmgheaaGreat
