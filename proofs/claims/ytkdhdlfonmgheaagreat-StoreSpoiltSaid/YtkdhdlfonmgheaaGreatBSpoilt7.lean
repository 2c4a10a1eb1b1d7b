/- Contracts of the functions that the statement reaches, and the plain laws over them; each theorem stands with its conditions. -/
import Derived.Test.YtkdhdlfonmgheaaGreatBSpoilt6
namespace Go.Proofs.YtkdhdlfonmgheaaGreat
open Go a_ Go.Proofs.Tryz
theorem Ix:iD ai 170:=⟨_,(Option.some_get (show(Tryz.prog.funcs[170]?).isSome=true by kernel_rfl)).symm,by kernel_rfl,by kernel_rfl⟩
theorem Iy{w:J}{s:U}{l:O UInt8}(hs:Src 1 w s (aF l))(o:l.length<=1000):
   aP ai 169 #[s,.func (.func 170) #[] #[]] w (λv w'=>v=.bool (!(l.all λc=>c==0))/\w=w'):=by
 have p:=len8 hs
 refine okF (af.tL s ⟨170,#[],#[]⟩) ay.tL func169 ?_
 (delta af.tL aA;dsimp only)
 refine Calls.mono (af.Er s ⟨170,#[],#[]⟩ w (λv w'=>(∃i:Int,v=i/\(decide (i>=0))= !(l.all λc=>c==0))/\w=w') ?_) ?_
 · (delta af.rB ak aI bX av;dsimp only)
   refine⟨λi w'=>∃j:Nat,i=j/\j<=l.length/\w=w'/\∀ (k:Nat) (a:k<l.length),k<j->l[k]=0,λi _=>((l.length:Int)-i).toNat,⟨0,rfl,cE _,rfl,λk a h=>I⟩,?_⟩
   rintro _ _ ⟨j,rfl,q,rfl,d⟩
   refine⟨λaH=>?_,λb=>?_⟩
   · have aH:j<l.length:=by have:=b2 aH;omega
     obtain⟨A,ar,f,g⟩:=hs.at (oA aH)
     refine⟨A,ar,f,_,g,Ix,?_⟩
     refine Calls.mono (af.EI ((l[j]).toNat:Int) w (λv w'=>v=.bool (((l[j]).toNat:Int) !=0)/\w=w') ⟨rfl,rfl⟩) ?_
     rintro _ _ ⟨_,rfl,rfl,rfl⟩
     refine⟨_,rfl,λe=>⟨⟨j,rfl,?_⟩,rfl⟩,λm=>?_⟩
     · have:(l.all λc=>c==0)=false:=by
         rw[List.all_eq_false]
         refine⟨l[j],cw _,λh=>?_⟩
         have h:=eq_of_beq h
         rw[h]at e
         simp at e
       rw[this]
       exact dw I
     · have h0:l[j]=0:=by
         have:((l[j]).toNat:Int)=0:=by simpa using m
         exact o7.1 (by show(l[j]).toNat=0;omega)
       rw[bu (n:=(j:Int)+1) I I]
       refine⟨⟨j+1,I,I,rfl,λk a h=>?_⟩,?_⟩
       · rcases dH k j with h1|h1
         · exact d k a h1
         · have:k=j:=by omega
           subst this;exact h0
       · show((l.length:Int)-((j:Int)+1)).toNat<((l.length:Int)-(j:Int)).toNat
         omega
   · have b:j=l.length:=by have:=cr b;omega
     subst b
     refine⟨⟨-1,rfl,?_⟩,rfl⟩
     have:(l.all λc=>c==0)=true:=by
       rw[lk]
       intro c hc
       obtain⟨k,a,rfl⟩:=eY hc
       rw[d k a a];rfl
     rw[this];rfl
 · rintro _ _ ⟨_,rfl,⟨i,rfl,hi⟩,rfl⟩
   exact⟨i,rfl,by rw[hi],rfl⟩
theorem Iz{l:O Int}{i:Nat}{d:Int}(h:i<l.length):l.set i (l.getD i d)=l:=by
 rw[eu h,List.set_getElem_self]
theorem IA{D:a6}(h:D.quiet){k:Nat}(a:k=1\/k=2):D.cl.getD k 0= -1:=by
 have h1:=h.1 ((D.cl.getD k 0).toNat+1);rcases a with rfl|rfl
 .exact h1.1.resolve_right I
 .exact h1.2.resolve_right I
theorem C9{D:a6}(h:D.quiet)(b:D.cl.length=4){k:Nat}(a:k=1\/k=2):D.cz k=D/\D.fS k=false:=by
 have h1:=IA h a;unfold a6.cz a6.fS;rw[h1];refine⟨?_,rfl⟩;have e:(gA (-1)).2=D.cl.getD k 0:=by rw[h1];rfl
 rw[e,Iz I]
def takeN(u:cW)(g:Nat):aq (cW×Nat)->aq (cW×Nat)
 |none=>some (u,g)
 |some x=>if g>x.2 then some (u,g) else some x
def gL(n no:Nat)(l:cJ)(acc:aq (cW×Nat)):Except Int (aq (cW×Nat)):=
 if (l.all λc=>c==0)=true then .ok acc else match gS (no:Int) l with
 | .error e=>.error e
 | .ok (u,s,g)=>if s≠n then .error 4 else .ok (takeN u g acc)
def jx(n:Nat)(V:Nat->cJ):Nat->Except Int (aq (cW×Nat))
 |0=>.ok none
 |i+1=>match jx n V i with
  | .error e=>.error e
  | .ok a=>gL n i (V i) a
theorem C_{n:Nat}{V:Nat->cJ}{e:Int}{i:Nat}(h:jx n V i=.error e):∀k,jx n V (i+k)=.error e
 |0=>h
 |k+1=>by
  show jx n V (i+k+1)=_
  unfold jx
  rw[C_ h k]
def Da:aq (cW×Nat)->Except Int (cW×Nat)
 |none=>.error 6
 |some x=>.ok x
def jT(n:Nat)(V:Nat->cJ):Except Int (cW×Nat):=match jx n V 2 with
 | .error e=>.error e
 | .ok a=>Da a
def qD:aq (cW×Nat)->cW
 |none=>gD
 |some x=>x.1
def qE:aq (cW×Nat)->Nat
 |none=>0
 |some x=>x.2
theorem IB{no:Int}{l:cJ}{e:Int}(h:gS no l=.error e):e≠0:=by
 unfold gS at h;split at h
 .rename_i a he
  cases h;exact yR he
 .split at h
  .cases h;decide
  .split at h
   .cases h
   .cases h;decide
theorem pL{w:J}{D:a6}(h:b_ w D)(j:D.quiet)(aE:D.aN<=1000000000):
 aP ai 109 #[.pointer (some D.d)] w (λv w'=>b_ w' D/\ab (λq=>q=D.d) w w'/\(match jT D.n D.now with
  | .error e=>e≠0/\∃u:cW,v=.tuple #[.agg u.c.toArray,.int .u64 0,e]
  | .ok (u,g)=>v=.tuple #[.agg u.c.toArray,.int .u64 (g:Nat),(0:Int)])):=by
 have aV:=h.bS;refine okF (af.pL (some D.d)) ay.pL func109 ?_;(delta af.pL g7 ak b8 xk r1 Y bw aK Ay aA av;dsimp only);refine bh (vs:=gD.c) rfl λw1 ag aj aW=>?_;obtain⟨t,aF⟩:∃t,t=w.heap.size:=⟨_,rfl⟩;rw[←aF]at ag⊢;have aG:t≠D.d:=by have:=h.lt (q:=D.d) (.inl rfl);omega
 have al:=C9 j h.f4 (k:=1) (.inl rfl);refine⟨λaH aI n6 C=>∃ (i:Nat) (a:aq (cW×Nat)),n6=(i:Nat)/\i<=2/\aH=(qE a:Nat)/\aI=a.isSome/\jx D.n D.now i=.ok a/\b_ C D/\Var C t (qD a).c 104/\ab (λq=>q=D.d) w C,λ_ _ n6 _=>(2-n6).toNat,⟨0,none,rfl,by decide,rfl,rfl,rfl,h.ext aj,ag,aj.mono λ_ _ h=>h.elim⟩,?_⟩;rintro _ _ _ C ⟨i,a,rfl,hi,rfl,rfl,am,O,A,E⟩;have aX:=E.size;have B:∀ {w' an:J},ab (λq=>q=D.d) w w'->ab (λq=>q=t) w' an->ab (λq=>q=D.d) w an:=λh1 P=>ct h1 P λq aY e=>by omega
 refine⟨λQ=>?_,λQ=>?_⟩
 .have R:i<2:=by have:(i:Int)<2:=b2 Q;omega
  have aJ:IntKind.wrap .i64 ((i:Int)+1)=((i+1:Nat):Int):=by rw[bu I I];omega
  refine td (λn b w'=>∃y:aq (cW×Nat),n=(qE y:Nat)/\b=y.isSome/\jx D.n D.now (i+1)=.ok y/\b_ w' D/\Var w' t (qD y).c 104/\ab (λq=>q=D.d) w w') (λaZ S=>(x9 O (i:=i) I aE).use ?_) ?_
  .rintro v aL ⟨F,ao,aM⟩
   rw[al.1]at F;rcases aM with ⟨ap,_⟩|⟨_,s,rfl,T⟩
   .rw[al.2]at ap;cases ap
   have ar:=A.ad ao aG;have au:ab (λq=>q=D.d) w aL:=E.trans ao;have a0:=F.oM (i:=i) I;have G:jx D.n D.now (i+1)=gL D.n i (D.now i) a:=by
    unfold jx;rw[am]
   have aw:∀e,gL D.n i (D.now i) a=.error e->jT D.n D.now=.error e:=λe he=>by
    unfold jT;have:=C_ (G.trans he) (1-i);rw[show i+1+(1-i)=2 from I]at this;rw[this]
   refine⟨s,0,rfl,λhx=>(by cases hx),λ_=>(Iy T.1 I).use ?_⟩;rintro _ _ ⟨rfl,rfl⟩;refine⟨_,rfl,λm=>S _ _ _ ⟨a,rfl,rfl,?_,F,ar,au⟩,λm=>(pS T.1 T.2.1 I (i:Nat)).use ?_⟩
   .rw[G];unfold gL
    rw[if_pos (by simpa using m)]
   have m:¬((D.now i).all λc=>c==0)=true:=by simpa using m
   rintro v U ⟨rfl,V⟩;have ax:=F.ext V;have az:=ar.ext V;have aB:ab (λq=>q=D.d) w U:=ct au V λq _ h=>h.elim
   cases H:gS (i:Int) (D.now i) with
   |error e=>
    have he:=IB H;have z:=aw e (by unfold gL;rw[if_neg m,H]);refine⟨_,_,_,_,_,_,_,_,e,rfl,bh (vs:=gD.c) rfl λaO W X aQ=>jR W rfl gD λK aC Z _=>⟨λ_=>?_,λhx=>absurd (by simpa using hx) he⟩⟩;have o:Ext U K:=Ext.cu X Z (bo _);have p:=az.ext o;refine gT p (jR p rfl (qD a) λah l f _=>gT l ⟨(ax.ext o).ad f λq j e=>?_,B (ct aB o λq _ h=>h.elim) f,?_⟩)
    .have:=h.lt j;omega
    .rw[z];exact⟨he,_,rfl⟩
   |ok r=>
    obtain⟨u,gi,g⟩:=r;refine⟨_,_,_,_,_,_,_,_,0,rfl,bh (vs:=gD.c) rfl λaO W X aQ=>jR W rfl u λK aC Z _=>⟨λhx=>(by cases hx),λ_=>?_⟩⟩;have o:Ext U K:=Ext.cu X Z (bo _);have p:=az.ext o;have L:=ax.ext o;have aa:ab (λq=>q=D.d) w K:=ct aB o λq _ h=>h.elim;refine(ql L).use ?_;rintro _ _ ⟨rfl,rfl⟩;refine⟨_,rfl,λM=>?_,λac=>?_⟩
    .have M:gi≠D.n:=λe=>by rw[e]at M;simp at M
     have z:=aw 4 (by unfold gL;rw[if_neg m,H];dsimp only;rw[if_pos M]);refine gT p (jR p rfl (qD a) λah l f _=>gT l ⟨L.ad f λq j e=>?_,B aa f,?_⟩)
     .have:=h.lt j;omega
     .rw[z];exact⟨by decide,_,rfl⟩
    .have ac:gi=D.n:=by
      have:(gi:Int)=(D.n:Int):=by simpa using ac
      omega
     have aD:gL D.n i (D.now i) a=.ok (takeN u g a):=by
      unfold gL;rw[if_neg m,H];dsimp only;rw[if_neg (λe=>e ac)]
     refine⟨λN=>?_,λN=>?_⟩
     .have aR:jx D.n D.now (i+1)=.ok (some (u,g)):=by
       rw[G,aD]
       cases a with
       |none=>rfl
       |some x=>
        have:g>x.2:=by
         have:(g:Int)>((qE (some x):Nat):Int):=by simpa using N
         have e:qE (some x)=x.2:=rfl;omega
        show Except.ok (if g>x.2 then _ else _)=_;rw[if_pos this]
      refine gT aC (jR p rfl u λah l f _=>S _ _ _ ⟨some (u,g),rfl,rfl,aR,L.ad f λq j e=>?_,l,B aa f⟩);have:=h.lt j;omega
     .refine S _ _ _ ⟨a,rfl,rfl,?_,L,p,aa⟩
      rw[G,aD]
      cases a with
      |none=>cases N
      |some x=>
       have:¬g>x.2:=by
        have:¬(g:Int)>((qE (some x):Nat):Int):=by simpa using N
        have e:qE (some x)=x.2:=rfl;omega
       show Except.ok (if g>x.2 then _ else _)=_;rw[if_neg this]
  .rintro _ _ a1 ⟨y,rfl,rfl,h1,P,aS,aT⟩
   rw[aJ];have aU:(2-((i+1:Nat):Int)).toNat<(2-(i:Int)).toNat:=by omega
   exact⟨⟨i+1,y,rfl,R,rfl,rfl,h1,P,aS,aT⟩,aU⟩
 .have R:i=2:=by have:¬(i:Int)<2:=cr Q;omega
  subst R;have z:jT D.n D.now=Da a:=by unfold jT;rw[am]
  refine⟨λae=>gT A (jR A rfl (qD a) λah l f _=>gT l ⟨O.ad f λq j e=>?_,B E f,?_⟩),λae=>gT A (jR A rfl (qD a) λah l f _=>gT l ⟨O.ad f λq j e=>?_,B E f,?_⟩)⟩
  .have:=h.lt j;omega
  .rw[z]
   cases a with
   |none=>exact⟨by decide,_,rfl⟩
   |some x=>cases ae
  .have:=h.lt j;omega
  .rw[z]
   cases a with
   |none=>cases ae
   |some x=>rfl
theorem IC{no:Int}{l:O UInt8}{p:hX}(h:da no l=.ok p):l.getD 4 0=1:=by
 by_cases e:l.getD 4 0=1
 .exact e
 .exfalso
  unfold da at h;split at h
  .cases h
  .split at h
   .cases h
   .first|(rw[if_pos e]at h;cases h)|cases h
theorem ID{no:Int}{l:O UInt8}{p:hX}(h:da no l=.ok p):¬(l.all λc=>c==0)=true:=λa=>by
 have h1:=IC h
 rw[lk]at a
 rw[eX]at h1
 cases hg:l[4]? with
 |none=>rw[hg]at h1;cases h1
 |some c=>
  rw[hg]at h1
  have:=a c (List.mem_of_getElem? hg)
  have h1:c=1:=h1
  rw[h1]at this;cases this
theorem y9{no:Int}{l:O UInt8}{r:cW×Nat×Nat}(h:gS no l=.ok r):∃p,da no l=.ok p:=by
 unfold gS at h
 cases a:da no l with
 |error e=>rw[a]at h;cases h
 |ok p=>exact⟨p,rfl⟩
theorem sw{n no:Nat}{l:cJ}{a:aq (cW×Nat)}{u:cW}{g:Nat}(h:gS (no:Int) l=.ok (u,n,g)):gL n no l a=.ok (takeN u g a):=by
 obtain⟨p,b⟩:=y9 h;unfold gL;rw[if_neg (ID b),h];dsimp only;rw[if_neg (λe=>e rfl)]
theorem Db{n no:Nat}{a:aq (cW×Nat)}:gL n no e4 a=.ok a:=by
 unfold gL;rw[if_pos (by unfold e4;rw[List.all_replicate];rfl)]
section
variable {V:Nat->cJ}{n gen:Nat}{u:cW}{g:Nat->aj}{P:Nat->aq aB}{p:O Nat}{L:O aJ}
theorem g3.jT(h:g3 V n gen u g P p L):jT n V=.ok (u,gen):=by
 have c:jx n V 2=.ok (some (u,gen)):=by
  have e:jx n V 2=(match gL n 0 (V 0) none with| .error e=>.error e| .ok a=>gL n 1 (V 1) a):=rfl;rw[e];have b:=h.wu;have d:=h.yZ;rcases Nat.mod_two_eq_zero_or_one gen with h0|h0
  .rw[h0]at b d
   rw[sw b];show gL n 1 (V 1) (some (u,gen))=_;rcases d with f|⟨i,g',h1,c⟩
   .rw[show V 1=e4 from f,Db]
   .rw[sw (no:=1) h1]
    show Except.ok (if g'>gen then _ else _)=_;rw[if_neg I]
  .rw[h0]at b d
   rcases d with f|⟨i,g',h1,c⟩
   .rw[show V 0=e4 from f,Db]
    exact sw b
   .rw[sw (no:=0) h1]
    show gL n 1 (V 1) (some (i,g'))=_;rw[sw b];show Except.ok (if gen>g' then _ else _)=_;rw[if_pos c]
 unfold Go.Proofs.YtkdhdlfonmgheaaGreat.jT;rw[c];rfl
end
theorem Dc{g:Nat->aj}{n:Nat}(hg:∀i,n<=i->g i=false):bitsOf ((fK g ((n+7)/8)).map λc=>(c.toNat:Int))=g:=by
 funext i;unfold bitsOf;by_cases hi:i/8<(n+7)/8
 .rw[eX,kn]
  have e:(fK g ((n+7)/8))[i/8]? =some (UInt8.ofNat (byteOf g (i/8))):=by
   unfold fK;rw[kn,List.getElem?_range hi];rfl
  rw[e];have a:=j_ g (i/8);show((((UInt8.ofNat (byteOf g (i/8))).toNat:Nat):Int).toNat).testBit (i%8)=g i;rw[UInt8.toNat_ofNat',iT a,c8,nr _ _ _ (g4 _ (by decide)),BK]
 .have:(fK g ((n+7)/8)).length<=i/8:=by rw[oY];omega
  rw[eX,iU (by rw[dL];exact this),hg i I];show Nat.testBit (Int.toNat 0) _=false;simp
theorem IE{g:Nat->aj}{n:Nat}(hg:∀i,n<=i->g i=false):oX ((fK g ((n+7)/8)).map λc=>(c.toNat:Int)) n:=
 ⟨by rw[dL,oY],λi hi=>by rw[Dc hg];exact hg i hi⟩
theorem pM{w:J}{D:a6}{no:Nat}{g:Nat->aj}(h:b_ w D)(P:D.quiet)(Q:D.aN<=1000000000)(C:no<D.n)(hg:∀i,D.n<=i->g i=false)
 (hc:(∃fp,da ((no:Nat):Int) (D.now no)=.ok ⟨4,fp,fK g ((D.n+7)/8)⟩)\/∃e,da ((no:Nat):Int) (D.now no)=.error e):
 aP ai 110 #[.pointer (some ⟨D.d,0,none⟩),.int .i64 (no:Nat)] w (λv w'=>b_ w' D/\ab (λq=>q=D.d) w w'/\
  ((∃sb s1 s2,v=.tuple #[.pointer (some ⟨sb,0,none⟩),.int .i64 0]/\(∃fp,da ((no:Nat):Int) (D.now no)=.ok ⟨4,fp,fK g ((D.n+7)/8)⟩)/\eR w' sb D.n g g s1 s2/\∀k,fo sb s1 s2 k->w.heap.size<=k)\/
   (∃e:Int,v=.tuple #[.pointer none,.int .i64 e]/\e≠0/\∃R,da ((no:Nat):Int) (D.now no)=.error R))):=by
 refine okF (af.pM (some ⟨D.d,0,none⟩) (no:Nat)) ay.pM func110 ?_;(delta af.pM b8 ak lF z3 Y r1 ag aA de;dsimp only);have ah:=h.bp;have E:=C9 P h.f4 (k:=1) (.inl rfl);refine(x9 h C Q).use ?_;rintro v w1 ⟨m,S,o⟩;rw[E.1]at m;rcases o with ⟨F,_⟩|⟨_,s,rfl,G⟩
 .rw[E.2]at F;cases F
 have al:=m.oM C;refine⟨s,0,rfl,λhx=>(by cases hx),λ_=>(m6 G.1 G.2.1 I _).use ?_⟩;rintro v p ⟨f,H⟩;have K:=m.ext H;have r:ab (λq=>q=D.d) w p:=ct S H λq _ h=>h.elim;rcases hc with ⟨fp,a⟩|⟨e,a⟩
 .rw[a]at f
  obtain⟨t,rfl,T,am⟩:=f;refine⟨4,fp,t,0,rfl,bh (vs:=[.int .i64 0,.int .u64 0,.slice none 0 0]) rfl λU u y V=>vY 4 fp t u rfl λb z A W=>⟨λhx=>(by cases hx),λ_=>⟨4,z.cell,λhx=>(by cases hx),λ_=>aS ?_⟩⟩⟩;have j:Ext p b:=Ext.cu y A (bo _);have L:Ext b b.drew:=b6 _;have X:=z.ext L;have l:=Ext.trans j L;have M:=K.ext l;refine⟨λ_=>False,id,t,by rw[aw];exact X.cell,(ql M).use ?_⟩;rintro _ _ ⟨rfl,rfl⟩;have Z:=T.ext l;have hu:aF (fK g ((D.n+7)/8))=((fK g ((D.n+7)/8)).map λc=>((c.toNat:Nat):Int)).map (.int .u8):=by unfold aF;rw[ic];rfl
  have N:=Z.src;rw[show(⟨4,fp,fK g ((D.n+7)/8)⟩:hX).body=fK g ((D.n+7)/8) from rfl,hu]at N;refine⟨_,rfl,ab.refl _ _,(pT N (λx hx=>?_) (by rw[dL,oY];omega) (D.n:Nat)).use ?_⟩
  .obtain⟨c,_,rfl⟩:=dv.1 hx
   have:=c.toNat_lt;omega
  rintro v aa ⟨O,o⟩;have ac:=M.ext O;have ad:ab (λq=>q=D.d) w aa:=ct r (Ext.trans l O) λq _ h=>h.elim;have an:=h.bS;rcases o with ⟨B,_⟩|⟨_,_,B,_⟩|⟨_,_,_,sb,s1,s2,rfl,fR,hf⟩
  .exact absurd ⟨I,I⟩ B
  .exact absurd (by rw[c8];exact IE hg) B
  .rw[Dc hg,c8]at fR
   refine⟨_,0,rfl,ac,ad,.inl ⟨sb,s1,s2,rfl,⟨fp,a⟩,fR,λk ae=>?_⟩⟩;have:=hf k ae;have:=r.size;have:=l.size;omega
 .rw[a]at f
  obtain rfl:=f;have he:=yR a;refine⟨0,0,⟨none,0,0⟩,e,rfl,bh (vs:=[.int .i64 0,.int .u64 0,.slice none 0 0]) rfl λU u y V=>vY 0 0 ⟨none,0,0⟩ u rfl λb z A W=>⟨λ_=>?_,λhx=>absurd (by simpa using hx) he⟩⟩;have j:Ext p b:=Ext.cu y A (bo _);exact⟨K.ext j,ct r j λq _ h=>h.elim,.inr ⟨e,rfl,he,e,a⟩⟩
section
variable {w w':J}{D:a6}{V:Nat->cJ}{gen:Nat}{u:cW}{g:Nat->aj}{P:Nat->aq aB}{aL:O Nat}{aX:O aJ}
def oZ(D:a6)(j:Nat):Prop:=¬((D.now j).all λc=>c==0)=true/\∃e,da (j:Int) (D.now j)=.error e
theorem IF(h:g3 V D.n gen u g P aL aX)(dR:∀j,g j=true->D.now j=V j\/oZ D j):(D.now 0=V 0/\D.now 1=V 1/\jT D.n D.now=.ok (u,gen))\/((∃j,g j=true/\oZ D j)/\∃e,jT D.n D.now=.error e):=by
 have jc:g 0=true:=(h.g 0).2 (.inr (.inl (by decide)));have au:g 1=true:=(h.g 1).2 (.inr (.inl (by decide)));have bad:∀ (j:Nat) (a:aq (cW×Nat)),oZ D j->∃e,gL D.n j (D.now j) a=.error e:=λj a ⟨h1,e,c⟩=>by
  unfold gL;rw[if_neg h1];unfold gS;rw[c];exact⟨e,rfl⟩
 have b:jx D.n D.now 2=(match gL D.n 0 (D.now 0) none with| .error e=>.error e| .ok a=>gL D.n 1 (D.now 1) a):=rfl;rcases dR 0 jc with h0|h0
 .rcases dR 1 au with h1|h1
  .refine .inl ⟨h0,h1,?_⟩
   have:=h.jT;unfold jT at this⊢;have d:jx D.n V 2=(match gL D.n 0 (V 0) none with| .error e=>.error e| .ok a=>gL D.n 1 (V 1) a):=rfl;rw[b,h0,h1,←d];exact this
  .right
   refine⟨⟨1,au,h1⟩,?_⟩;unfold jT;rw[b]
   cases hs:gL D.n 0 (D.now 0) none with
   |error e=>exact⟨e,rfl⟩
   |ok a=>
    obtain⟨e,he⟩:=bad 1 a h1;dsimp only;rw[he];exact⟨e,rfl⟩
 .right
  refine⟨⟨0,jc,h0⟩,?_⟩;obtain⟨e,he⟩:=bad 0 none h0;unfold jT;rw[b,he];exact⟨e,rfl⟩
theorem Dd{c aU k:Nat}{a:Nat->Prop}(h:ec (λ_=>False) w (iN c aU k D))(d:∀q,a q->q<w.heap.size/\¬c3 (iN c aU k D) q):ec a w (iN c aU k D):=
 ⟨h.raw,h.inv.pins,λf hf b=>(by
  have:=(List.mem_replicate.1 (show f∈List.replicate k dC from hf)).2
  rw[this]at b
  cases b),h.inv.un,d,h.inv.kH⟩
theorem n_{l:fE}{b7:Nat->Prop}(h:b_ w D)(r:D.quiet)(b3:D.aN<=800000000)(aI:∀j,g j=true->D.dc j=[])(O:kP (l.an:Nat) (l.batch:Nat) (l.ef:Nat))(b:g3 V D.n gen u g P aL aX)(dR:∀j,g j=true->D.now j=V j\/oZ D j)(hs:D.bK=g)(aJ:D.er=λ_=> [])(b4:gen<=1000000000)(be:aX.length<=4000)(bf:aL.length<=4000)(aO:∀q,b7 q->q<w.heap.size/\¬bD D q):
 aP ai 41 #[.pointer (some ⟨D.d,0,none⟩),.agg l.c.toArray] w (λv w'=>ab (bD D) w w'/\
  ((∃S:cn,v=.tuple #[.pointer (some ⟨S.st,0,none⟩),.int .i64 0]/\di w' S aL aX aL aX/\S.failed=false/\S.u=u/\S.gen=gen/\S.now=u.clock/\S.pending=0/\S.l=l/\S.T.C.D.d=D.d/\S.T.n=D.n/\S.T.C.D.quiet/\S.T.C.D.aN<=D.aN+9000/\(∀q,S.T.M q->bD D q\/b7 q\/w.heap.size<=q)/\(∀q,S.T.E q↔q=S.st\/b7 q)/\w.heap.size<=S.st)\/
   (∃e:Int,v=.tuple #[.pointer none,.int .i64 e]/\e≠0/\∃j,g j=true/\oZ D j))):=by
 refine okF (af.n_ (some ⟨D.d,0,none⟩) (l.an:Nat) (l.batch:Nat) (l.ef:Nat)) ay.n_ func41 ?_;(delta af.n_ r1 Y bw aK ak Ax g7 de aA;dsimp only);have b6:=h.bS;have b8:=h.bp;have H:=b.so;have Z:g u.map=true:=(b.g _).2 (.inr (.inr rfl));refine bh (vs:=l.c) rfl λw1 aa aQ b9=>⟨_,aa.cell,_,by rw[aw];exact aa.cell,_,by rw[aw];exact aa.cell,(oa w1 _ _ _ _).use ?_⟩;rintro _ cb ⟨rfl,aR⟩;refine⟨_,rfl,λaS=>?_,λ_=>?_⟩
 .rw[dw O]at aS;cases aS
 have aj:=aQ.trans aR;have bg:=h.ext aj;have bi:=aa.ext aR;refine(pL bg r I).use ?_;rintro v al ⟨bj,am,J⟩;have cc:=aj.size;have cd:=am.size;have ce:=aQ.size;have ac:∀q,q=D.d->bD D q:=λq e=>.inl e;have aT:ab (bD D) w al:=ct (aj.mono λ_ _ h=>h.elim) am λq _ e=>ac q e;have bl:=bi.ad am λe=>by have:=h.lt (q:=D.d) (.inl rfl);omega
 rcases IF b dR with ⟨bn,bq,ap⟩|⟨br,e,ap⟩
 rotate_left
 .rw[ap]at J
  obtain⟨he,bs,rfl⟩:=J;refine⟨_,_,_,_,_,_,0,e,rfl,bh (vs:=gD.c) rfl λbt ar au bu=>jR ar rfl bs λae av ax _=>⟨λ_=>?_,λhx=>absurd (by simpa using hx) he⟩⟩;have Q:Ext al ae:=Ext.cu au ax (bo _);exact⟨ct aT Q λq _ h=>h.elim,.inr ⟨e,rfl,he,br⟩⟩
 rw[ap]at J;obtain rfl:=J;refine⟨_,_,_,_,_,_,_,0,rfl,bh (vs:=gD.c) rfl λbt ar au bu=>jR ar rfl u λae av ax _=>⟨λhx=>(by cases hx),λ_=>⟨_,by rw[aw];exact av.cell,?_⟩⟩⟩;have Q:Ext al ae:=Ext.cu au ax (bo _);have bv:=bj.ext Q;have bx:=bl.ext Q;have aV:∀i,D.n<=i->g i=false:=λi hi=>by
  cases hg:g i with
  |false=>rfl
  |true=>
   rcases(b.g i).1 hg with h1|h1|h1
   .have:=(b.two i h1).2.2;omega
   .omega
   .have:=H.2.2.2.1;omega
 have aW:=b.mp;have bz:(∃fp,da ((u.map:Nat):Int) (D.now u.map)=.ok ⟨4,fp,fK g ((D.n+7)/8)⟩)\/∃e,da ((u.map:Nat):Int) (D.now u.map)=.error e:=by
  rcases dR u.map Z with h1|h1
  .obtain⟨fp,_,a⟩:=aW
   exact .inl ⟨fp,by rw[h1];exact a⟩
  .exact .inr h1.2
 refine(pM bv r I H.2.2.2.1 aV bz).use ?_;rintro v a0 ⟨bA,ag,J⟩;have cf:=Q.size;have bB:ab (bD D) w ae:=ct aT Q λq _ h=>h.elim;have a4:ab (bD D) w a0:=ct bB ag λq _ e=>ac q e;rcases J with ⟨sb,s1,s2,rfl,⟨fp,bC⟩,fR,bE⟩|⟨e,rfl,he,ch,a5⟩
 rotate_left
 .refine⟨none,e,rfl,λ_=>⟨a4,.inr ⟨e,rfl,he,u.map,Z,?_⟩⟩,λhx=>absurd (by simpa using hx) he⟩
  rcases dR u.map Z with h1|h1
  .obtain⟨fp,_,a⟩:=aW
   rw[h1,a]at a5;cases a5
  .exact h1
 have a6:∀q,w.heap.size<=q->¬bD D q:=λq r hf=>by have:=h.lt hf;omega
 have az:=bx.ad ag λe=>a6 _ (bo _) (ac _ e);have a7:=av.ad ag λe=>a6 _ I (ac _ e);have bF:D.now u.map=V u.map:=by
  rcases dR u.map Z with h1|⟨_,e,h1⟩
  .exact h1
  .rw[bC]at h1;cases h1
 refine⟨_,0,rfl,λhx=>(by cases hx),λ_=>⟨_,az.cell,_,by rw[aw];exact az.cell,_,by rw[aw];exact az.cell,gT a7 ?_⟩⟩;have bG:=m4 bA (l:=l) (u:=u) (gen:=gen) ⟨by have:=O.1;omega,by have:=O.2.1;omega⟩ ⟨I,by have:=H.2.1;omega,I,by have:=H.2.2.1;omega,by have:=H.1;omega⟩ I (λj F=>by rw[aJ,aI j (by rw[←hs];exact F)]) sb;refine bG.use ?_;rintro _ R ⟨c,aU,aY,st,B⟩;have bH:=B.val;subst bH;refine⟨_,0,rfl,λhx=>(by cases hx),λ_=>⟨_,by rw[aw];exact(a7.ext B.x).cell,?_⟩⟩;have ci:=ag.size;have cj:=B.x.size;have ck:=B.sv.lt;have cl:=B.hc;have cm:=B.hf;have co:=B.ht;obtain⟨P',ah⟩:∃P':Nat->aq aB,P'=λno=>if no∈aL then (if D.now no=V no then P no else none) else none:=⟨_,rfl⟩
 obtain⟨T,o⟩:∃T:aM,T=⟨aY,gen+1,u.root,u.aG,iN c aU l.an D,sb,D.n,g,g,s1,s2,λq=>q=st\/b7 q,λ_=>False,P'⟩:=⟨_,rfl⟩;have U:∀q,c3 (iN c aU l.an D) q->q=c\/q=aU\/bD D q:=λq h=>h;have W:∀q,fo sb s1 s2 q->w.heap.size<=q/\q<a0.heap.size:=λq r=>⟨by have:=bE q r;omega,fR.lt q r⟩;have bI:∀q,T.X q->q=aY\/fo sb s1 s2 q\/q=st\/b7 q:=λq r=>by
  rw[o]at r;rcases r with h1|h1|h1|h1
  .exact .inl h1
  .exact .inr (.inl h1)
  .exact .inr (.inr h1)
  .exact h1.elim
 have aC:∀q,bD D q->q<w.heap.size:=λq r=>h.lt r;have a8:bM R T:=by
  have a9:ec T.X R (iN c aU l.an D):=Dd B.ca λq r=>by
   rcases bI q r with h1|h1|h1|h1
   .refine⟨I,λhf=>?_⟩
    rcases U q hf with a|a|a
    .omega
    .omega
    .have:=aC q a;omega
   .have z:=W q h1
    refine⟨I,λhf=>?_⟩;rcases U q hf with a|a|a
    .omega
    .omega
    .have:=aC q a;omega
   .refine⟨I,λhf=>?_⟩
    rcases U q hf with a|a|a
    .omega
    .omega
    .have:=aC q a;omega
   .have z:=aO q h1
    refine⟨I,λhf=>?_⟩;rcases U q hf with a|a|a
    .omega
    .omega
    .exact z.2 a
  rw[o]at a9⊢;refine⟨B.dg,fR.ext B.x,a9,λhf=>by have:=W aY hf;omega,λq r=>?_,λq r=>r.elim,rfl,⟨H.2.2.1,H.2.1,by show gen+1<_;omega⟩,λno bm A=>?_,λj F=>.inl (by rw[←hs];exact F),⟨(b.g 0).2 (.inr (.inl (by decide))),(b.g 1).2 (.inr (.inl (by decide)))⟩⟩
  .have r:q=st\/b7 q:=r
   rcases r with h1|h1
   .exact⟨by show q≠aY;omega,λhf=>by have:=W q hf;omega,λh=>h⟩
   .have z:=aO q h1
    exact⟨by show q≠aY;omega,λhf=>by have:=W q hf;omega,λh=>h⟩
  .have A:P' no=some bm:=A
   rw[ah]at A;dsimp only at A;by_cases h1:no∈aL
   .rw[if_pos h1]at A
    by_cases a:D.now no=V no
    .rw[if_pos a]at A
     refine⟨(b.two no h1).2.2,?_⟩;show gK (gen+1) bm.leaf no ((iN c aU l.an D).view no) bm;rw[yg,a];exact(b.ep no h1 bm A).mono I
    .rw[if_neg a]at A;cases A
   .rw[if_neg h1]at A;cases A
 obtain⟨S,y⟩:∃S:cn,S=⟨st,T,l,u,gen,u.clock,0,0,u.keys,false⟩:=⟨_,rfl⟩;have aD:Var R S.st S.cells 158:=by
  rw[y];show Var R st (g2 T.aY T.C.D.d T.C.c T.sb _ _ _ _ _ _ _ _) _;rw[o];exact B.sv
 have ft:S.T=T:=by rw[y]
 have aE:S.u=u:=by rw[y]
 have bJ:gj (T.bk T.C P) aL aX:=by
  rw[o];exact b.ok
 have a_:=Il (S:=S) (gd:=P) (pages:=aL) (L:=aX) (m:=((u.keys:Nat):Int)) aD (by rw[ft];exact a8) (by rw[y,o];exact .inl rfl) (by rw[ft];exact bJ) (λx hx bm A=>?_) b.bm (λno=>by rw[ft,aE,o];exact b.g no) (λx hx=>by rw[aE];exact⟨(b.two x hx).1,(b.two x hx).2.1⟩) (by rw[ft,aE,o];exact⟨H.2.2.2.2.1,H.2.2.2.1⟩) be bf (by rw[ft,o];show D.aN<=_;omega)
 rotate_left
 .rw[ft,o]
  rcases dR x ((b.g x).2 (.inl hx)) with h1|h1
  .left
   show P' x=some bm;rw[ah];dsimp only;rw[if_pos hx,if_pos h1];exact A
  .right
   obtain⟨_,e,a⟩:=h1;exact⟨⟨(b.two x hx).2.2,(b.two x hx).1⟩,e,by show da _ ((iN c aU l.an D).view x)=_;rw[yg];exact a⟩
 rw[show S.st=st by rw[y]]at a_;refine a_.use ?_;rintro v bL ⟨ao,bN,G,ba,J⟩;rw[ft]at G ba J;have bO:ab (bD D) w R:=ct a4 B.x λq _ h=>h.elim;have bP:∀q,T.N q->bD D q\/w.heap.size<=q:=λq r=>by
  rw[o]at r;rcases r with h1|h1|h1|h1
  .rcases U q h1 with a|a|a
   .exact .inr I
   .exact .inr I
   .exact .inl a
  .have h1:q=aY:=h1
   exact .inr I
  .exact .inr (W q h1).1
  .exact h1.elim
 have bb:ab (bD D) w bL:=ct bO G.to.ad λq cp r=>(bP q r).resolve_right I;rcases J with ⟨rfl,cq,bQ⟩|⟨e,rfl,he,bR⟩
 .refine⟨0,rfl,λhx=>(by cases hx),λ_=>⟨bb,.inl ?_⟩⟩
  have bc:∀x∈aL,D.now x=V x:=λx hx=>by
   rcases dR x ((b.g x).2 (.inl hx)) with h1|⟨_,e,h1⟩
   .exact h1
   .exfalso
    have K:=bQ x hx;rw[o]at K;have K:P' x=P x:=K;have aF:∃bm,P x=some bm:=by
     rcases b.ok with ⟨_,_,a,_⟩|a
     .rw[a]at hx;cases hx
     .exact a.node _ x hx
    obtain⟨bm,c6⟩:=aF;rw[c6,ah]at K;dsimp only at K;rw[if_pos hx]at K;by_cases a:D.now x=V x
    .obtain⟨p,z,_⟩:=b.ep x hx bm c6
     rw[a,z]at h1;cases h1
    .rw[if_neg a]at K;cases K
  have bT:∀j,g j=true->D.aZ.getD j []=V j:=λj F=>by
   have bU:D.now j=D.aZ.getD j []:=by rw[vS D (λx hx=>(h.wn x hx).1),if_pos (aI j F)]
   rw[←bU];rcases(b.g j).1 F with h1|h1|h1
   .exact bc j h1
   .rcases dH j 1 with a|a
    .rw[show j=0 from I];exact bn
    .rw[show j=1 from I];exact bq
   .rw[h1];exact bF
  have bV:∀x∈aL,P x=P' x:=λx hx=>by rw[ah];dsimp only;rw[if_pos hx,if_pos (bc x hx)]
  have bW:di R S aL aX aL aX:=by
   have hd:=b.agree bT bV;rw[y];refine⟨⟨by rw[y]at aD;exact aD,a8,by rw[o];exact .inl rfl,by rw[o];exact hd,by rw[o],⟨b.CX.clock,cE _,b.CY,by show gen+2<_;omega,?_,?_,?_⟩,λj F=>?_⟩,?_,b.bm,by rw[o];exact b.g,λx hx=>⟨(b.two x hx).1,(b.two x hx).2.1⟩,b.gb,b.keys,cE _,λ_=>⟨?_,by rw[o];exact aJ,?_⟩,λhf=>(by cases hf)⟩
   .have:=O.2.2.2.1;show l.batch<=1000;omega
   .have:=O.2.2.2.2.2;show l.ef<=1048576;omega
   .have:=O.2.2.1;show 1<=l.batch;omega
   .have F:T.g j=true:=F
    show T.C.D.bK j=true;rw[o]at F⊢;show D.bK j=true;rw[hs];exact F
   .have h1:=hd.ok
    rw[o];exact h1
   .intro e
    have h1:=e D.n;have a:T.C.D.bK=g:=by rw[o];exact hs
    have h1:T.C.D.bK D.n=true:=h1;rw[a,aV D.n (bo _)]at h1;cases h1
   .obtain⟨j,bX,bY⟩:=b.fr
    have h1:=sd (s:=λi=>g i||g i) (t:=dh (λi=>g i||g i) j true) (k:=j) (by simp[bY]) (by simp[dh]) (λi hi=>by simp[dh,hi]) (n:=D.n) bX;have a:=my (dh (λi=>g i||g i) j true) D.n;have z:cg T=D.n-eS (λi=>g i||g i) D.n:=by rw[o];rfl
    show 1<=cg T;omega
  obtain⟨a1,a2,a3⟩:=bW.to bN (by rw[ft];exact G.to) (by rw[ft];exact G.E) (by rw[ft];exact ba) ⟨by rw[ft];exact G.root,by rw[ft];exact G.aG,by rw[ft];exact G.f,λno _=>by rw[ft];exact⟨congrFun G.P no,G.view no⟩⟩;have bZ:S.T.C.D.quiet:=by rw[ft,o];exact r
  refine⟨S.b5 ao,by rw[show(S.b5 ao).st=st by rw[y];rfl],a1,by rw[y];rfl,by rw[y];rfl,by rw[y];rfl,by rw[y];rfl,by rw[y];rfl,by rw[y];rfl,?_,?_,a2.q bZ,?_,λq b0=>?_,λq=>?_,?_⟩
  .rw[a2.d,ft,o];rfl
  .rw[a2.n,ft,o]
  .have h1:=a2.aN
   have a:S.T.C.D.aN=D.aN:=by rw[ft,o];rfl
   omega
  .have h1:=G.to.c4 q b0
   rcases h1 with h1|h1
   .rw[o]at h1
    rcases h1 with h1|h1|h1|h1|h1
    .rcases U q h1 with a|a|a
     .exact .inr (.inr I)
     .exact .inr (.inr I)
     .exact .inl a
    .have h1:q=aY:=h1
     exact .inr (.inr I)
    .exact .inr (.inr (W q h1).1)
    .have h1:q=st\/b7 q:=h1
     rcases h1 with h1|h1
     .exact .inr (.inr I)
     .exact .inr (.inl h1)
    .exact h1.elim
   .exact .inr (.inr I)
  .show ao.E q↔q=(S.b5 ao).st\/b7 q
   rw[G.E,o,y];rfl
  .show w.heap.size<=S.st
   rw[y];show w.heap.size<=st;omega
 .refine⟨e,rfl,λ_=>⟨bb,.inr ⟨e,rfl,he,?_⟩⟩,λhx=>absurd (by simpa using hx) he⟩
  rcases bR with h1|⟨x,hx,h1⟩|h1
  .rw[o]at h1
   exact absurd (r.1 _) h1
  .have bd:=(b.g x).2 (.inl hx)
   refine⟨x,bd,?_⟩;rcases dR x bd with a|a
   .exfalso
    obtain⟨_,b1,z⟩:=h1;rw[o]at z;have z:da ((x:Nat):Int) ((iN c aU l.an D).view x)=.error b1:=z;rw[yg,a]at z;have aF:∃bm,P x=some bm:=by
     rcases b.ok with ⟨_,_,aH,_⟩|aH
     .rw[aH]at hx;cases hx
     .exact aH.node _ x hx
    obtain⟨bm,c6⟩:=aF;obtain⟨p,b2,_⟩:=b.ep x hx bm c6;rw[b2]at z;cases z
   .exact a
  .exact absurd (by rw[b.keys]) h1
end
structure wz(D:a6)(l:fE)(b7:Nat->Prop)(k:Nat)(w w':J)(S:cn):Prop where
 live:S.failed=false
 du:S.pending=0
 now:S.now=S.u.clock
 l:S.l=l
 d:S.T.C.D.d=D.d
 n:S.T.n=D.n
 q:S.T.C.D.quiet
 aN:S.T.C.D.aN<=D.aN+k
 M:∀q,S.T.M q->bD D q\/b7 q\/w.heap.size<=q
 E:∀q,S.T.E q↔q=S.st\/b7 q
 st:w.heap.size<=S.st
 ad:ab (bD D) w w'
section
variable {w w':J}{D:a6}{b7:Nat->Prop}
theorem De{l:fE}(h:b_ w D)(y:kP (l.an:Nat) (l.batch:Nat) (l.ef:Nat))(N:∀k,D.calm k)(qg:D.cl.getD 3 0= -1)(O:D.aN<=999999000)(z:∀q,b7 q->q<w.heap.size/\¬bD D q):
 aP ai 19 #[.pointer (some D.d),.agg l.c.toArray] w (λv w'=>∃S:cn,v=.tuple #[.pointer (some S.st),(0:Int)]/\di w' S [] [] [] []/\wz D l b7 4 w w' S/\S.u=ki/\S.gen=1):=by
 have aa:=h.bS;have P:=h.bp;refine(n4 h y N qg O).mono ?_;rintro v w' ⟨ax,sb,s1,s2,c,aU,aY,st,j8,R⟩;obtain rfl:=R.CV.val;have hd:=R.p_;have B:=R.CV;have ab:=R.ad.size;have ac:=B.x.size;have ae:=B.hc;have af:=B.hf;have ag:=B.ht;have ah:=B.sv.lt;have E:∀j,ax.aZ.getD j []=ax.now j:=λj=>by unfold a6.now;rw[hd.waits];rfl
 have o:∀q,c3 (iN c aU l.an ax) q->q=c\/q=aU\/bD ax q:=λq h=>h;have G:∀q,bD ax q->q<j8.heap.size:=λq f=>by
  rcases R.dq q f with h1|h1
  .have:=h.lt h1;omega
  .omega
 have Q:ax.quiet:=⟨hd.calm,hd.cl⟩;obtain⟨T,b⟩:∃T:aM,T=⟨aY,1+1,0,0,iN c aU l.an ax,sb,D.n,λi=>decide (i<3),λi=>decide (i<3),s1,s2,λq=>q=st\/b7 q,λ_=>False,λ_=>none⟩:=⟨_,rfl⟩;have U:∀q,b7 q->q<w.heap.size/\¬bD ax q:=λq f=>⟨(z q f).1,λhf=>by
  rcases R.dq q hf with h1|h1
  .exact(z q f).2 h1
  .have:=(z q f).1;omega⟩
 have V:bM w' T:=by
  have H:ec T.X w' (iN c aU l.an ax):=Dd B.ca λq f=>by
   rw[b]at f;rcases f with h1|h1|h1|h1
   .have h1:q=aY:=h1
    refine⟨I,λhf=>?_⟩;rcases o q hf with a|a|a
    .omega
    .omega
    .have:=G q a;omega
   .have A:=R.sn q h1
    refine⟨I,λhf=>?_⟩;rcases o q hf with a|a|a
    .omega
    .omega
    .have aj:=B.ca.raw.dev
     exact R.H3 q h1 a
   .rcases(show q=st\/b7 q from h1) with h1|h1
    .refine⟨I,λhf=>?_⟩
     rcases o q hf with a|a|a
     .omega
     .omega
     .have:=G q a;omega
    .have A:=U q h1
     refine⟨I,λhf=>?_⟩;rcases o q hf with a|a|a
     .omega
     .omega
     .exact A.2 a
   .exact h1.elim
  rw[b]at H⊢;refine⟨B.dg,R.sp,H,λhf=>by have:=R.sn aY hf;omega,λq f=>?_,λq f=>f.elim,hd.n,⟨by show 0<D.n;omega,(by decide:0<=12),(by decide:1+1<18446744073709551616)⟩,λno bm F=>(by cases F),λj m=>.inl ?_,⟨rfl,rfl⟩⟩
  .rcases(show q=st\/b7 q from f) with h1|h1
   .exact⟨by show q≠aY;omega,λhf=>by have:=R.sn q hf;omega,λh=>h⟩
   .have A:=z q h1
    exact⟨by show q≠aY;omega,λhf=>by have:=R.sn q hf;omega,λh=>h⟩
  .have m:ax.bK j=true:=m
   rw[hd.bK]at m;exact m
 have J:kh ki D.n:=⟨Iff.intro (λ_=>rfl) (λ_=>rfl),by decide,by show 0<D.n;omega,by show 2<D.n;omega,by decide,P⟩;have K:nA ki:=⟨by decide,by decide,by decide,by decide,by decide,by decide⟩;have L:g3 (λj=>ax.aZ.getD j []) D.n 1 ki (λi=>decide (i<3)) (λ_=>none) [] []:=by
  refine⟨⟨3,I,rfl⟩,?_,.inl ?_,⟨1,bo _,?_⟩,λno=>?_,List.nodup_nil,λx hx=>(by cases hx),.inl ⟨rfl,rfl,rfl,rfl⟩,λx hx=>(by cases hx),rfl,λq f=>(by cases f),K,J,bo _⟩
  .show gS ((1:Nat):Int) (ax.aZ.getD 1 [])=_
   rw[E,hd.now];exact CL K J (by decide) (by decide)
  .show ax.aZ.getD 0 []=e4
   rw[E,hd.now];rfl
  .show da ((2:Nat):Int) (ax.aZ.getD 2 [])=_
   rw[E,hd.now];exact vF I ⟨(by decide:1<=4),(by decide:4<=4),(by decide:1<18446744073709551616),by show(fK _ _).length<=232;rw[oY];omega⟩
  .show decide (no<3)=true↔no∈ []\/no<2\/no=2
   simp only[eV,false_or,cS];omega
 obtain⟨S,r⟩:∃S:cn,S=⟨st,T,l,ki,1,0,0,0,0,false⟩:=⟨_,rfl⟩;have W:1<=cg T:=by
  have h1:=sd (s:=λi=>decide (i<3)||decide (i<3)) (t:=dh (λi=>decide (i<3)||decide (i<3)) 3 true) (k:=3) (by simp) (by simp[dh]) (λi hi=>by simp[dh,hi]) (n:=D.n) I;have a:=my (dh (λi=>decide (i<3)||decide (i<3)) 3 true) D.n;have A:cg T=D.n-eS (λi=>decide (i<3)||decide (i<3)) D.n:=by rw[b];rfl
  omega
 refine⟨S,by rw[r],?_,?_,by rw[r],by rw[r]⟩
 .rw[r]
  refine⟨⟨?_,V,by rw[b];exact .inl rfl,by rw[b];exact L,by rw[b],⟨(by decide:0<18446744073709551616),bo _,bo _,(by decide:1+2<18446744073709551616),?_,?_,?_⟩,λj m=>?_⟩,.inl ?_,List.nodup_nil,?_,λx hx=>(by cases hx),λp F=>(by cases F),rfl,cE _,λ_=>⟨?_,by rw[b];exact hd.er,W⟩,λhf=>(by cases hf)⟩
  .show Var w' st (g2 T.aY T.C.D.d T.C.c T.sb _ _ _ _ _ _ _ _) _
   rw[b];exact B.sv
  .have:=y.2.2.2.1;show l.batch<=1000;omega
  .have:=y.2.2.2.2.2;show l.ef<=1048576;omega
  .have:=y.2.2.1;show 1<=l.batch;omega
  .have m:T.g j=true:=m
   show T.C.D.bK j=true;rw[b]at m⊢;show ax.bK j=true;rw[hd.bK];exact m
  .rw[b];exact⟨rfl,rfl,rfl,rfl⟩
  .intro no
   have Y:=L.g no;rw[b];exact Y
  .intro e
   have h1:ax.bK 5=true:=by have:=e 5;rw[b]at this;exact this
   rw[hd.bK]at h1;cases h1
 .rw[r]
  refine⟨rfl,rfl,rfl,rfl,by rw[b];exact hd.d,by rw[b],by rw[b];exact Q,by rw[b];show ax.aN<=_;rw[hd.aN];omega,λq M=>?_,λq=>by rw[b],by show w.heap.size<=st;omega,ct R.ad B.x λq _ h=>h.elim⟩;rw[b]at M;have Z:∀q,bD ax q->bD D q\/b7 q\/w.heap.size<=q:=λq f=>by
   rcases R.dq q f with h1|h1
   .exact .inl h1
   .exact .inr (.inr h1.1)
  rcases M with h1|h1|h1|h1|h1
  .rcases o q h1 with a|a|a
   .exact .inr (.inr I)
   .exact .inr (.inr I)
   .exact Z q a
  .have h1:q=aY:=h1
   exact .inr (.inr I)
  .exact .inr (.inr (R.sn q h1).1)
  .rcases(show q=st\/b7 q from h1) with h1|h1
   .exact .inr (.inr I)
   .exact .inr (.inl h1)
  .exact h1.elim
end
theorem IG{i n m:Nat}{a:Nat}(b:n=a)(h:(decide ((i:Int)<(n:Int))&&decide ((i:Int)<(m:Int)))=true):i<a/\i<m:=by
 rw[ed,cS,cS]at h;omega
theorem IH{i:Nat}(h:i<=1000000):IntKind.wrap .i64 ((i:Int)+1)=((i+1:Nat):Int):=by rw[bu I I];omega
section
variable {w0 w w':J}{wo aT:Nat}{T ao:aM}{r h k c:Nat}{pages aL:O Nat}{L fG aX:O aJ}{V:Nat->cJ}{ms l:U}
theorem II(L:O aJ):eP L [] []=L:=jW.2 λp _=>by
 have h:¬bH p.1 []:=by
  cases p.1 with
  |nil=>exact ml _
  |cons a x=>show¬(1:Int)<0;decide
 have:ek [] p.1:=h;simp[this]
end
structure iv where
 kind:Int
 n:Int
 after:Int
 tk:U
 dg:U
 tl:U
 key:Key
 val:Key
 l:O Int
def iv.c(a:iv):O aa:=[a.kind,a.n,a.after,a.tk,a.dg,a.tl]
structure o0(w:J)(a:iv):Prop where
 k:Src 1 w a.tk (aF a.key)
 Df:a.tk.len<=a.tk.cap
 v:Src 1 w a.dg (aF a.val)
 mU:a.dg.len<=a.dg.cap
 l:Src 1 w a.tl (a.l.map encZ)
 lc:a.tl.len<=a.tl.cap
 IJ:∀z∈a.l,z<=9223372036854775807
 IK: -9223372036854775808<=a.n/\a.n<=9223372036854775807
 IL:a.after<=9223372036854775807
 nB:∀q,az a.tl q->w.heap.size<=q->a.l=[]
structure kQ(w:J)(l:U)(A:O iv):Prop where
 s:Src 6 w l (bE iv.c A)
 ok:∀a∈A,o0 w a
theorem y_(A:O iv):∀x∈A,(iv.c x).length=6:=λ_ _=>rfl
section
variable {w w':J}{l:U}{A:O iv}{a:iv}
theorem o0.ext(h:o0 w a)(hx:Ext w w'):o0 w' a:=⟨h.k.ext hx,h.Df,h.v.ext hx,h.mU,h.l.ext hx,h.lc,h.IJ,h.IK,h.IL,λq b c=>h.nB q b (ey hx.size c)⟩
theorem kQ.ext(h:kQ w l A)(hx:Ext w w'):kQ w' l A:=⟨h.s.ext hx,λa b=>(h.ok a b).ext hx⟩
theorem kQ.len(h:kQ w l A):l.len=A.length:=by
 have:=h.s.len;rw[gn _ (y_ A)]at this;omega
theorem kQ.at(h:kQ w l A){i:Nat}(hi:i<A.length):∃a:ae,l.a=some a/\((0:Int)<=(i:Int)/\(i:Int)<(l.len:Int))/\∀j v,(iv.c A[i])[j]? =some v->w.cell? ((a.add (Int.toNat (i:Int)*6)).add j)=some v:=by
 have k:=h.len
 cases b:l.a with
 |none=>
  have:=congrArg List.length (h.s.nil b);rw[gn _ (y_ A),jE]at this;omega
 |some a=>
  have f:=h.s.rd a b;refine⟨a,rfl,⟨I,I⟩,λj v d=>?_⟩;have g:j<6:=(ib.1 d).1;have e:=pB f (j:=i*6+j) (v:=v) (by rw[oL (y_ A) hi g];exact d);rw[cA]at e;rw[c8,add_add];exact e
theorem IM{s:U}(h:mY ai w 3 s):∃l:O Int,Src 1 w s (l.map encZ)/\∀z∈l,z<=9223372036854775807:=by
 obtain⟨l,h1,_,b⟩:=h.src (c:=λz:Int=> [encZ z]) (sz:=1) (by kernel_rfl) (λz=>z<=9223372036854775807) λfuel us d=>by
  obtain⟨n,rfl,b,f⟩:=mZ d (k:=.i64) (by kernel_rfl);exact⟨n,rfl,f⟩
 have e:∀l:O Int,(l.map λz:Int=> [encZ z]).flatten=l.map encZ:=λl=>by
  induction l with
  |nil=>rfl
  |cons a l g=>rw[jm,sG,g];rfl
 rw[e]at h1;exact⟨l,h1,b⟩
theorem Src.nB{s:U}{l:O Int}(h:Src 1 w s (l.map encZ)):∀q,az s q->w.heap.size<=q->l=[]:=by
 rintro q ⟨a,c,rfl⟩ d
 cases e:l with
 |nil=>rfl
 |cons v us=>
  have f:=h.rd a c;have b:w.cell? (a.add (0+0))=some (encZ v):=rq f (by rw[e];rfl);rw[kk,add_zero']at b;have:w.heap[a.block]? =none:=by simp[d]
  simp[World.cell?,this]at b
set_option maxRecDepth 100000 in
theorem IN {fuel:Nat}{vs:O aa} (h:gM ai w fuel 92 vs):∃a:iv,vs=a.c/\o0 w a:=by
 have hu:Tryz.prog.underlying 92=some (.struct (fieldsOf ai 92)):=by kernel_rfl
 have hlen:vs.length=6:=by
  have:=(w8 h hu).1;rwa[show Tryz.prog.cellsOf 92=6 by kernel_rfl]at this
 obtain⟨_,f0⟩:=mf h hu 0 (t:=3) (o:=0) (n:=1) (by kernel_rfl) (by kernel_rfl);obtain⟨_,f1⟩:=mf h hu 1 (t:=3) (o:=1) (n:=1) (by kernel_rfl) (by kernel_rfl);obtain⟨_,f2⟩:=mf h hu 2 (t:=3) (o:=2) (n:=1) (by kernel_rfl) (by kernel_rfl);obtain⟨_,f3⟩:=mf h hu 3 (t:=48) (o:=3) (n:=1) (by kernel_rfl) (by kernel_rfl);obtain⟨_,f4⟩:=mf h hu 4 (t:=48) (o:=4) (n:=1) (by kernel_rfl) (by kernel_rfl);obtain⟨_,f5⟩:=mf h hu 5 (t:=58) (o:=5) (n:=1) (by kernel_rfl) (by kernel_rfl);obtain⟨v,g,_⟩:=mZ f0 (k:=.i64) (by kernel_rfl);obtain⟨bS,i,fa,dK⟩:=mZ f1 (k:=.i64) (by kernel_rfl);obtain⟨bp,j,_,x⟩:=mZ f2 (k:=.i64) (by kernel_rfl);obtain⟨d3,l,m⟩:=tf f3 (e:=5) (by kernel_rfl);obtain⟨d4,p,q⟩:=tf f4 (e:=5) (by kernel_rfl);obtain⟨d5,r,s⟩:=tf f5 (e:=3) (by kernel_rfl);obtain⟨y,z⟩:=CW m;obtain⟨A,B⟩:=CW q;obtain⟨C,u,bc⟩:=IM s;refine⟨⟨v,bS,bp,d3,d4,d5,y,A,C⟩,?_,z,m.le,B,q.le,u,s.le,bc,⟨fa,dK⟩,x,Src.nB u⟩
 match vs,hlen with
 | [a,b,c,d,e,f],_=>
  simp at g i j l p r;rw[g,i,j,l,p,r];rfl
set_option maxRecDepth 100000 in
theorem kQ.of {v:aa} (h:l_ ai w 82 v):∃ (l:U) (A:O iv),v=l/\kQ w l A:=by
 obtain⟨t,rfl,ht⟩:=mY.of h (e:=92) (by kernel_rfl);obtain⟨A,h1,_,b⟩:=ht.src (c:=iv.c) (sz:=6) (by kernel_rfl) (λa=>o0 w a) λfuel vs d=>IN d;exact⟨t,A,rfl,h1,b⟩
structure Dg(w0:J)(B:Nat->Prop)(w:J)(a:iv)(b sv sl:U):Prop where
 k:a7 B w b (a.key.take 26)
 v:a7 B w sv (a.val.take 26)
 l:Src 1 w sl ((a.l.take 60).map encZ)
 nB:∀q,az sl q->w0.heap.size<=q->a.l=[]
theorem p4{w0:J}(h0:o0 w0 a)(X:Ext w0 w):aP ai 37 #[.agg a.c.toArray] w (λv w'=>∃d sv sl:U,v=.agg #[a.kind,a.n,a.after,d,sv,sl]/\Ext w w'/\Dg w0 (λq=>w.heap.size<=q) w' a d sv sl):=by
 have h:=h0.ext X;refine okF (af.p4 a.kind a.n a.after a.tk a.dg a.tl) ay.p4 func37 ?_;(delta af.p4 tB Y ag ba st ak r1;dsimp only);refine bh (vs:=a.c) rfl λw1 Z H av=>bh (vs:=[(0:Int),(0:Int),(0:Int),(),(),()]) rfl λah z K aw=>aS ?_;obtain⟨s,L⟩:∃s,s=ah.drew:=⟨_,rfl⟩;rw[←L];have t:Ext ah s:=by rw[L];exact b6 _
 have u:=(H.trans K).trans t;have ax:=H.size;have aA:=u.size;have aB:=t.size;have x:=(Z.ext K).ext t;have aC:=x.lt;have M:¬s.heap.size<=w.heap.size:=by omega
 refine⟨λq=>s.heap.size<=q,by rw[fc];exact M,a.tk,by rw[fc];exact x.cell,by rw[fc];exact M,a.dg,by rw[fc];exact x.cell,(CI (h.k.ext u) h.Df 26 (by decide)).use ?_⟩;rintro _ aD ⟨d,rfl,ok,j,A⟩;refine⟨d,rfl,ab.cK j,(CI ((h.v.ext u).ext j) h.mU 26 (by decide)).use ?_⟩;rintro _ N ⟨sv,rfl,aa,m,B⟩;refine⟨sv,rfl,ab.cK m,?_⟩;have O:=(x.ext j).ext m;have aE:=j.size;rw[fc,fc,fc];obtain⟨bx,bG⟩:=dF O (i:=3) (by show 3<6;decide);refine⟨bx,bG,aS ?_⟩;have eI:=dp N w.heap.size 3 d;have C:=dM O (i:=3) d;generalize N.setCell ⟨w.heap.size,3,none⟩ d=P at eI C;obtain⟨ac,ae⟩:=dF C (i:=4) (by show 4<6;decide);refine⟨ac,ae,aS ?_⟩;have iG:=dp P w.heap.size 4 sv;have o:=dM C (i:=4) sv;generalize P.setCell ⟨w.heap.size,4,none⟩ sv=D at iG o;have aj:=(u.trans j).trans m;have y:Ext w D:=Ext.cu aj (eI.trans iG) (bo _);have Q:∀q,az d q->¬q=w.heap.size:=λq b e=>by have:=A q b;omega
 have R:∀q,az sv q->¬q=w.heap.size:=λq b e=>by have:=B q b;omega
 have al:=(ok.ext m).ad (eI.trans iG) Q;have am:=aa.ad (eI.trans iG) R;refine hL (λp=>∃sl:U,Ext w p/\ab (λq=>q=w.heap.size) D p/\Var p w.heap.size [a.kind,a.n,a.after,d,sv,sl] 92/\Src 1 p sl ((a.l.take 60).map encZ)/\∀q,az sl q->az a.tl q)
  (λq b=>⟨a.tl,o.cell,λg=>⟨a.tl,o.cell,⟨by decide,?_⟩,?_⟩,λg=>b _ ⟨a.tl,y,.refl _ _,o,?_,λq h=>h⟩⟩) ?_
 .have g:(a.tl.len:Int)>60:=b2 g
  have:=h.lc;omega
 .have g:(a.tl.len:Int)>60:=b2 g
  obtain⟨an,ao⟩:=dF o (i:=5) (by show 5<6;decide);have S:=Src.cut (h.l.ext y) h.lc (cE 60) I;have mg:=dp D w.heap.size 5 (.slice (aO a.tl.a 1 0 a.tl.cap) (Int.toNat 60-0) (a.tl.cap-0));refine⟨an,ao,aS (b _ ⟨⟨aO a.tl.a 1 0 a.tl.cap,60-0,a.tl.cap-0⟩,Ext.cu y mg (bo _),mg,dM o (i:=5) _,?_,λq b=>CD.1 b⟩)⟩;have e:((a.l.map encZ).drop (0*1)).take ((60-0)*1)=(a.l.take 60).map encZ:=by rw[mN];rfl
  rw[e]at S;exact Src.mE S mg λq b e=>by
   have:=h.nB q (CD.1 b) I;rw[this];rfl
 .have g:¬(a.tl.len:Int)>60:=cr g
  have E:=h.l.len;rw[dL]at E;rw[dI I];exact h.l.ext y
 rintro p ⟨sl,ap,g6,f,aq,T⟩;refine⟨_,f.cell,_,by first|exact f.cell|(rw[fc];exact f.cell),_,by first|exact f.cell|(rw[fc];exact f.cell),d,by first|exact f.cell|(rw[fc];exact f.cell),sv,by first|exact f.cell|(rw[fc];exact f.cell),sl,by first|exact f.cell|(rw[fc];exact f.cell),?_⟩;have aF:=m.size;have aG:=(eI.trans iG).size;have V:Var p w1.heap.size [(0:Int),(0:Int),(0:Int),(),(),()] 92:=(((z.ext t).ext (j.trans m)).ad (eI.trans iG) I).ad g6 I;refine⟨V.cc rfl (λv W=>?_),rfl,cy V (us:=[a.kind,a.n,a.after,d,sv,sl]) rfl rfl λaH r k3 _=>⟨_,r.cell,_,by rw[fc];exact r.cell,_,by rw[fc];exact r.cell,d,by rw[fc];exact r.cell,sv,by rw[fc];exact r.cell,sl,by rw[fc];exact r.cell,d,sv,sl,rfl,Ext.cu ap k3 I,?_⟩⟩
 .simp only[cU,eV,eZ]at W
  rcases W with rfl|rfl|rfl|rfl|rfl|rfl<;>trivial
 .have ar:∀q,az d q->¬q=w1.heap.size:=λq b e=>by have:=A q b;have:=z.lt;omega
  have au:∀q,az sv q->¬q=w1.heap.size:=λq b e=>by have:=B q b;have:=z.lt;omega
  have F:=(al.ad g6 Q).ad k3 ar;have G:=(am.ad g6 R).ad k3 au;exact⟨⟨F.src,F.2.1,λq b=>⟨by have:=A q b;omega,F.lt q b⟩⟩,⟨G.src,G.2.1,λq b=>⟨by have:=B q b;omega,G.lt q b⟩⟩,Src.mE aq k3 λq b e=>by
   have:=h.nB q (T q b) I;rw[this];rfl,λq b E=>h0.nB q (T q b) E⟩
end
section
variable {w0 w w':J}{wo aT:Nat}{T ao:aM}{r h k c:Nat}{pages aL:O Nat}{L fG aX:O aJ}{V:Nat->cJ}{ms l:U}
theorem za(w:J):Src 1 w bg (aF []):=(a8.none 1 5 w).src
end
theorem Dh:∀ {a b:O Nat},a.Nodup->(∀x∈a,x∈b)->a.length<=b.length
 | [],_,_,_=>cE _
 |x::a,b,d,hs=>by
  obtain⟨h1,f⟩:=List.nodup_cons.1 d
  have hx:=hs x (by simp)
  have:=Dh (a:=a) (b:=b.erase x) f λy c=>(List.mem_erase_of_ne (λe=>h1 (by rw[←e];exact c))).2 (hs y (jV _ c))
  rw[List.length_erase_of_mem hx]at this
  have:=List.length_pos_of_mem hx
  rw[eU];omega
theorem IP{t:Nat->aj}{l:O Nat}(n:Nat)(h:∀i,i<n->t i=true->i∈l):eS t n<=l.length:=by
 have h1:∀n,eS t n=((List.range n).filter t).length:=by
  intro n
  induction n with
  |zero=>rfl
  |succ n a=>
   rw[List.range_succ,kV,cx,eS,a,pe,List.filter_nil]
   cases t n<;>rfl
 rw[h1];refine Dh (List.nodup_range.filter t) λx hx=>?_;rw[hE,jB]at hx;exact h x hx.1 hx.2
section
variable {V:Nat->cJ}{n gen:Nat}{u:cW}{g:Nat->aj}{P:Nat->aq aB}{aL:O Nat}{aX:O aJ}
theorem g3.sound(h:g3 V n gen u g P aL aX){j:Nat}(c:g j=true):V j=e4\/∃p,da (j:Int) (V j)=.ok p:=by
 rcases(h.g j).1 c with h1|h1|h1
 .right
  have d:∃bm,P j=some bm:=by
   rcases h.ok with ⟨_,_,a,_⟩|a
   .rw[a]at h1;cases h1
   .exact a.node _ j h1
  obtain⟨bm,c6⟩:=d;obtain⟨p,b,_⟩:=h.ep j h1 bm c6;exact⟨p,b⟩
 .by_cases e:j=gen%2
  .right
   rw[e];obtain⟨p,b⟩:=y9 h.wu;exact⟨p,b⟩
  .have e:j=1-gen%2:=by omega
   rcases h.yZ with a|⟨f,g',a,_⟩
   .left;rw[e];exact a
   .right
    rw[e];obtain⟨p,b⟩:=y9 a;exact⟨p,b⟩
 .right
  rw[h1];obtain⟨_,_,a⟩:=h.mp;exact⟨_,a⟩
theorem g3.low(h:g3 V n gen u g P aL aX):aL.length<=aX.length:=by
 rcases h.ok with ⟨_,_,a,_⟩|a
 .rw[a];exact cE _
 .exact a.pages.1
theorem IQ{w:J}{D:a6}{l:fE}{b7:Nat->Prop}(h:b_ w D)(o:D.quiet)(B:D.aN<=700000000)(f:D.waits=[])(r:kP (l.an:Nat) (l.batch:Nat) (l.ef:Nat))(b:g3 V D.n gen u g P aL aX)(dR:∀j,g j=true->D.aZ.getD j []=V j)(s:gen<=1000000000)(t:aX.length<=4000)(x:∀q,b7 q->q<w.heap.size/\¬bD D q):
 aP ai 41 #[.pointer (some D.d),.agg l.c.toArray] w (λv w'=>∃S:cn,v=.tuple #[.pointer (some S.st),(0:Int)]/\di w' S aL aX aL aX/\wz D l b7 9000 w w' S/\S.u=u/\S.gen=gen):=by
 have y:∀j,D.dc j=[]:=λj=>by unfold a6.dc;rw[f];rfl
 have i:∀j,D.now j=D.aZ.getD j []:=λj=>by unfold a6.now;rw[f];rfl
 have C:=b.low;refine(n_ (D:=D.fF g λ_=> []) (b7:=b7) (h.fF _ _) o (by show D.aN<=_;omega) (λj _=>y j) r b (λj a=>.inl ((i j).trans (dR j a))) rfl rfl s t I x).mono ?_;rintro v w' ⟨hc,⟨S,rfl,z,a1,a2,a3,a4,a5,c1,dx,c2,a9,dT,dA,ez,cP⟩|⟨e,rfl,he,j,a,k,E,m⟩⟩
 .exact⟨S,rfl,z,⟨a1,a5,by rw[a4,a2],c1,dx,c2,a9,dT,dA,ez,cP,hc⟩,a2,a3⟩
 .exfalso
  have A:(D.fF g λ_=> []).now j=V j:=(i j).trans (dR j a);rw[A]at k m;rcases b.sound a with h1|⟨p,h1⟩
  .exact k (by rw[h1];decide+kernel)
  .rw[m]at h1;cases h1
end
theorem IS{a:(aj->J->Prop)->Prop}{rest:aj->J->Prop}{w0:J}{b:aj}(c:aj)(h1:b=false->∀k:aj->J->Prop,(∀w',Ext w0 w'->k c w')->a k)(d:∀w',Ext w0 w'->rest (b||c) w'):
 bF (λk=>(b=true->k true w0)/\(b=false->a k)) rest:=
 ⟨⟨λh=>by have:=d w0 (.refl _ _);rwa[h,Bool.true_or]at this,λh=>h1 h rest (λw' hx=>by have:=d w' hx;rwa[h,kT]at this)⟩⟩
theorem mj{b d:Nat}(k:b<256)(hd:d<256)(w:J):aP ai 20 #[.int .u8 (b:Nat),.int .u8 (d:Nat)] w (λv w'=>v=.agg (fE.c ⟨8,1+b%12,1+d%12⟩).toArray/\Ext w w'):=by
 refine af.EU _ _ w _ ?_;(delta af.mj tA Y av r1 bw;dsimp only);have g:IntKind.wrap .i64 (1+IntKind.wrap .i64 (Int.tmod (b:Int) 12))=((1+b%12:Nat):Int):=by
  rw[sL I,bu (n:=(b:Int)%12) I I,bu I I];omega
 have h:IntKind.wrap .u64 (1+IntKind.wrap .u64 (Int.tmod (d:Int) 12))=((1+d%12:Nat):Int):=by
  rw[sL I,gN (n:=(d:Int)%12) I I,gN I I];omega
 rw[g,h];refine bh (vs:=[(0:Int),(0:Int),.int .u64 0]) rfl λw1 e i l=>⟨by decide,by decide,e.cc rfl (λv f=>?_),rfl,cy e (us:=fE.c ⟨8,1+b%12,1+d%12⟩) rfl rfl λah a j m=>⟨_,a.cell,_,by rw[aw];exact a.cell,_,by rw[aw];exact a.cell,rfl,Ext.cu i j (bo _)⟩⟩;simp only[cU,eV,eZ]at f;rcases f with rfl|rfl|rfl<;>trivial
structure sx(S:cn)(m:dO)(L aX:O aJ):Prop where
 now:m.now=L
 sure:m.sure=aX
 du:m.du=S.pending
 clock:m.clock=S.now
 first:S.pending≠0->m.first=S.first
 cC:m.cC=S.u.cC
 oV:m.oV=S.u.clock
structure e5(w0 w:J)(b7:Nat->Prop)(d n:Nat)(l:fE)(S:cn)(pages:O Nat)(L:O aJ)(aL:O Nat)(aX:O aJ)(c:Nat):Prop where
 x:Ext w0 w
 at_:di w S pages L aL aX
 E:∀q,S.T.E q↔q=S.st\/b7 q
 ne:¬b7 S.st
 kR:∀q,S.T.M q->w0.heap.size<=q
 lim:S.l=l
 d:S.T.C.D.d=d
 n:S.T.n=n
 aN:S.T.C.D.aN<=20000*(c+1)
 eQ:L.length<=c/\aX.length<=c
 gen:S.gen<=c+1
 qF:S.pending<=c
structure gF(w0 w:J)(b7:Nat->Prop)(d n:Nat)(l:fE)(aT:Nat)(S:cn)(pages:O Nat)(L:O aJ)(aL:O Nat)(aX:O aJ)(m:dO)(c:Nat):Prop where
 s:e5 w0 w b7 d n l S pages L aL aX c
 live:S.failed=false
 iw:b7 aT
 md:eL (λq=>¬S.T.M q) w aT m
 jk:sx S m L aX
section
variable {w0 w w':J}{b7:Nat->Prop}{d n aT k c:Nat}{l:fE}{S aC:cn}{pages aL:O Nat}{L aX:O aJ}{m:dO}
theorem eL.kS(d:eL (λq=>¬S.T.M q) w aT m)(hd:dj k S aC w w')(he:S.T.E aT)(e:aT≠S.st):eL (λq=>¬aC.T.M q) w' aT m:=by
 have b:aC.T.M aT:=.inr (.inr (.inr (.inl (by rw[hd.E];exact he))));refine((d.aW (C:=λq=>¬S.T.M q/\¬aC.T.M q) (λq g c=>⟨c,λh1=>?_⟩) λh=>h.2 b).ad hd.ad (λa=>e (a.2 he)) λq f _ a=>f.1 a.1).aW (λ_ _ h=>h.2) λh=>h b;rcases hd.c4 q h1 with h|h
 .exact c h
 .omega
theorem e5.hC(h:e5 w0 w b7 d n l S pages L aL aX c){q:Nat}(a:b7 q):S.T.E q/\q≠S.st:=⟨(h.E q).2 (.inr a),λe=>h.ne (e▸a)⟩
theorem e5.low(h:e5 w0 w b7 d n l S pages L aL aX c)(hc:c<=4000):pages.length<=L.length:=(h.at_.ok.low (by have:=h.eQ.1;omega)).2
theorem e5.ext(h:e5 w0 w b7 d n l S pages L aL aX c)(hx:Ext w w'):e5 w0 w' b7 d n l S pages L aL aX c:={h with x:=h.x.trans hx,at_:=h.at_.ext hx}
theorem e5.mono{e:Nat}(h:e5 w0 w b7 d n l S pages L aL aX c)(he:c<=e):e5 w0 w b7 d n l S pages L aL aX e:={h with aN:=by have:=h.aN;omega,eQ:=⟨by have:=h.eQ.1;omega,by have:=h.eQ.2;omega⟩,gen:=by have:=h.gen;omega,qF:=by have:=h.qF;omega}
theorem gF.ext(h:gF w0 w b7 d n l aT S pages L aL aX m c)(hx:Ext w w'):gF w0 w' b7 d n l aT S pages L aL aX m c:=⟨h.s.ext hx,h.live,h.iw,h.md.ext hx,h.jk⟩
theorem gF.mono{e:Nat}(h:gF w0 w b7 d n l aT S pages L aL aX m c)(he:c<=e):gF w0 w b7 d n l aT S pages L aL aX m e:={h with s:=h.s.mono he}
theorem e5.jS{kK:Nat}(h:e5 w0 w b7 d n l S pages L aL aX c)(a:b7 kK)(hc:ab (λq=>q=kK) w w'):e5 w0 w' b7 d n l S pages L aL aX c:=
 {h with x:=Ext.dd h.x hc λq e=>by rw[e];exact h.kR _ (.inr (.inr (.inr (.inl (h.hC a).1)))),at_:=h.at_.jS (h.hC a).1 (h.hC a).2 hc}
theorem e5.step{eE fV:O Nat}{fG fq:O aJ}(h:e5 w0 w b7 d n l S pages L aL aX c)(hs:di w' aC eE fG fV fq)(hd:dj k S aC w w')(b:k<=20000)(hf:fG.length<=c+1/\fq.length<=c+1)(hg:aC.gen<=S.gen+1)(e:aC.pending<=S.pending+1):e5 w0 w' b7 d n l aC eE fG fV fq (c+1):=
 ⟨Ext.dd h.x hd.ad λq a=>h.kR q a.1,hs,λq=>by rw[hd.E,hd.st];exact h.E q,by rw[hd.st];exact h.ne,λq a=>by
  rcases hd.c4 q a with h1|h1
  .exact h.kR q h1
  .have:=h.x.size;omega,hd.l.trans h.lim,hd.d.trans h.d,hd.n.trans h.n,by have:=hd.aN;have:=h.aN;omega,hf,by have:=h.gen;omega,by have:=h.qF;omega⟩
theorem gF.zb(h:gF w0 w b7 d n l aT S pages L aL aX m c)(hs:di w' aC pages L aL aX)(hd:dj k S aC w w')(b:k<=20000)(hu:aC.u=S.u)(hg:aC.gen=S.gen)(e:aC.now=S.now)(f:aC.first=S.first)(a:aC.pending=S.pending)(hf:aC.failed=S.failed):gF w0 w' b7 d n l aT aC pages L aL aX m (c+1):=
 ⟨h.s.step hs hd b ⟨by have:=h.s.eQ.1;omega,by have:=h.s.eQ.2;omega⟩ (by rw[hg];omega) (by rw[a];omega),hf.trans h.live,h.iw,h.md.kS hd (h.s.hC h.iw).1 (h.s.hC h.iw).2,
  ⟨h.jk.now,h.jk.sure,by rw[a];exact h.jk.du,by rw[e];exact h.jk.clock,λg=>by rw[f];exact h.jk.first (by rw[←a];exact g),by rw[hu];exact h.jk.cC,by rw[hu];exact h.jk.oV⟩⟩
theorem gF.read(h:gF w0 w b7 d n l aT S pages L aL aX m c)(hs:di w' aC pages L aL aX)(hd:dj k S aC w w')(a:k<=20000)(he:kj S aC)(hf:aC.failed=S.failed):gF w0 w' b7 d n l aT aC pages L aL aX m (c+1):=
 h.zb hs hd a he.u he.gen he.now he.first he.pending hf
theorem gF.v(h:gF w0 w b7 d n l aT S pages L aL aX m c):Var w aT m.c 90:=h.md.v
end
section
variable {w0 w w' w1 ah:J}{b7:Nat->Prop}{d n aT k c:Nat}{l:fE}{S aC:cn}{pages eE aL fV:O Nat}{L fG aX fq:O aJ}{m:dO}{v:aa}
def dO.put(m:dO)(s:U)(L:O aJ):dO:={m with gi:=s,now:=L}
theorem a7.kS{s:U}{x:Key}(b:a7 (λq=>¬S.T.M q) w s x)(hd:dj k S aC w w'):a7 (λq=>¬aC.T.M q) w' s x:=
 a7.aW (a7.ad (a7.aW (C:=λq=>¬S.T.M q/\¬aC.T.M q) b λq f a=>⟨a,λc=>by rcases hd.c4 q c with h|h;exact a h;omega⟩) hd.ad λq d e=>d.1 e.1) λ_ _ h=>h.2
theorem jj.qG{c:Prop}(h:jj c S aC pages L aL aX v w')(a:S.T.C.D.quiet):v=.int .i64 0/\c/\di w' aC pages L pages L/\aC.failed=false/\aC.gen=S.gen+1/\aC.u.clock=S.now/\aC.u.cC=S.u.cC+1/\aC.pending=0:=by
 rcases h with h|⟨_,h,_⟩
 .exact h
 .exact absurd a h
theorem gF.more(h:gF w0 w b7 d n l aT S pages L aL aX m c)(g:S.T.C.D.quiet)(hd:dj k S aC w w')(o:k<=20000)(p:aC.now=S.now)(i:mG S aC eE fG aL aX v w')(j:fG.length<=c+1):
 v=.int .i64 0/\∃fV fq,e5 w0 w' b7 d n l aC eE fG fV fq (c+1)/\aC.failed=false/\aC.T.C.D.quiet/\aC.st=S.st/\eL (λq=>¬aC.T.M q) w' aT m/\∀b,sx aC ((m.put b fG).more l.batch) fG fq:=by
 have r:=h.md.kS hd (h.s.hC h.iw).1 (h.s.hC h.iw).2;have a:=h.jk;have z:=h.s.eQ.2;rcases i with ⟨rfl,t,hs,hf,hg,hu,f,u,_⟩|i
 .refine⟨rfl,aL,aX,h.s.step hs hd o ⟨j,I⟩ I I,hf,hd.q g,hd.st,r,λb=>?_⟩
  have e:(m.put b fG).more l.batch=(m.put b fG).sj:=by
   unfold dO.more;rw[if_neg];show¬l.batch<=m.du+1;rw[a.du,←h.s.lim];omega
  rw[e];refine⟨rfl,a.sure,?_,?_,λ_=>?_,?_,?_⟩
  .show m.du+1=_
   rw[a.du,f]
  .exact a.clock.trans p.symm
  .show(if m.du=0 then m.clock else m.first)=_
   rw[u,a.du];by_cases e:S.pending=0
   .rw[if_pos e,if_pos e,a.clock]
   .rw[if_neg e,if_neg e,a.first e]
  .rw[hu];exact a.cC
  .rw[hu];exact a.oV
 .obtain⟨rfl,t,hs,hf,hg,x,y,f⟩:=i.qG g
  refine⟨rfl,eE,fG,h.s.step hs hd o ⟨j,j⟩ I I,hf,hd.q g,hd.st,r,λb=>?_⟩;have e:(m.put b fG).more l.batch=(m.put b fG).sj.nz:=by
   unfold dO.more;rw[if_pos];show l.batch<=m.du+1;rw[a.du,←h.s.lim];omega
  rw[e];refine⟨rfl,rfl,f.symm,a.clock.trans p.symm,λh=>absurd f h,?_,?_⟩
  .show m.cC+1=_
   rw[y,a.cC]
  .show m.clock=_
   rw[x,a.clock]
theorem e5.with{a:dO}(h:e5 w0 w b7 d n l S pages L aL aX c)(hf:S.failed=false)(he:b7 aT)(hc:ab (λq=>q=aT) w w')(b:eL (λq=>¬S.T.M q) w' aT a)(e:sx S a L aX):gF w0 w' b7 d n l aT S pages L aL aX a c:=
 ⟨h.jS he hc,hf,he,b,e⟩
theorem eL.put{B:Nat->Prop}{a:U}{M:O aJ}(h:eL B w aT m)(hc:ab (λq=>q=aT) w w')(b:gR m.rest 90 B w' aT a M):eL B w' aT (m.put a M):=
 ⟨b,h.sure.ad hc λq c _ e=>h.now.nb (e▸c),h.num⟩
theorem wA(h:di w S pages L aL aX):∀q,w.heap.size<=q->¬S.T.M q:=λq b a=>by have:=h.t.lt a;omega
def o1(w0:J)(b7:Nat->Prop)(d n:Nat)(l:fE)(aT st c:Nat)(v:aa)(w':J):Prop:=
 v=true/\∃aC eE fG fV fq a,gF w0 w' b7 d n l aT aC eE fG fV fq a c/\aC.T.C.D.quiet/\aC.st=st
theorem ov{g sv sl:U}{key val:Key}{kind nn after:Int}(h:gF w0 w b7 d n l aT S pages L aL aX m c)(f:S.T.C.D.quiet)(hc:c<=900)(cf:a7 (λq=>¬S.T.M q) w g key)(cg:a7 (λq=>¬S.T.M q) w sv val)(c7:key.length<=26)(c8:val.length<=26):
 aP ai 38 #[.pointer (some S.st),.pointer (some aT),.agg #[kind,nn,after,g,sv,sl],.agg l.c.toArray] w (o1 w0 b7 d n l aT S.st (c+2)):=by
 refine af.EW _ _ kind nn after g sv sl (l.an:Nat) (l.batch:Nat) (l.ef:Nat) w _ ?_;(delta af.ov Y ag gX aA r1 ak k2 aK aR jI aI b8 ba bw;dsimp only);refine bh (vs:=[kind,nn,after,g,sv,sl]) rfl λw1 ch bC c9=>bh (vs:=l.c) rfl λah ci bD ap=>aS ?_;have ay:=(bC.trans bD).trans (b6 ah);have V:=h.ext ay;have aU:=(ch.ext bD).ext (b6 ah);have bE:=ci.ext (b6 ah);have bb:=a7.ext cf ay;have bH:=a7.ext cg ay;have da:=bC.size;generalize ah.drew=bI at ay V aU bE bb bH;have db:=aU.lt;have bJ:=h.s.lim;obtain rfl:m.now=L:=h.jk.now;have aq:=h.s.at_.ok.rising;refine⟨λq=>bI.heap.size<=q,_,rfl,by rw[aw];show¬bI.heap.size<=w.heap.size;omega,g,by rw[aw];exact aU.cell,(yN V.md.now bb.1 I).use ?_⟩;rintro _ dc ⟨i,rfl,bK,bL⟩;refine⟨_,_,rfl,(Ig (V.ext bL).s.at_).use ?_⟩;rintro _ aV ⟨rfl,cj⟩;have au:=bL.trans cj;have o:=V.ext au;have y:=aU.ext au;have bc:=bE.ext au;have G:=a7.ext bb au;have W:=a7.ext bH au;have dd:=ay.trans au;have av:=o.s.at_;have de:=o.s.eQ;have df:=o.s.aN;have dg:=o.s.gen;have dh:=o.s.qF;have di:=o.s.low I;have ax:=bK.get aq;have X:∀q,S.T.M q->q<w.heap.size:=λq aB=>h.s.at_.t.lt aB;have dk:=h.v.lt;have aW:m.cC<1000000000000:=by rw[h.jk.cC];have:=av.num;omega
 have bM:m.du<1000000:=by rw[h.jk.du];omega
 have aY:∀q,az g q->q<aV.heap.size/\¬S.T.M q:=λq f=>⟨(G.2.2 q f).2,(G.2.2 q f).1⟩;have bN:∀q,az sv q->q<aV.heap.size/\¬S.T.M q:=λq f=>⟨(W.2.2 q f).2,(W.2.2 q f).1⟩;have B:=o;generalize bO:ir m.now key i=has at ax⊢;refine⟨_,rfl,_,y.cell,λK=>?_,λK=>⟨λK=>?_,λK=>⟨λK=>?_,λK=>⟨λK=>?_,λK=>⟨λK=>?_,λK=>?_⟩⟩⟩⟩⟩
 .
  refine⟨g,by rw[aw];exact y.cell,(Ij av I I I I G.1 aY).use ?_⟩;rintro v H O;have ck:∀ (bW:cn) (bG:Nat),dj bG S bW aV H->Var H w.heap.size [kind,nn,after,g,sv,sl] 92/\Var H w1.heap.size l.c 46:=λbW bG hd=>⟨y.ad hd.ad λz=>by have:=X _ z.1;omega,bc.ad hd.ad λz=>by have:=X _ z.1;omega⟩;rcases O with ⟨rfl,aD,rfl⟩|⟨E,⟨hf,_⟩|⟨_,aC,hd,Z,O⟩⟩
  .refine⟨_,_,rfl,g,by rw[aw];exact y.cell,(lG G.1).use ?_⟩
   rintro _ _ ⟨rfl,rfl⟩;rw[hG aD];exact⟨_,rfl,λ_=>⟨rfl,S,pages,_,aL,aX,m,B.mono I,f,rfl⟩,λh=>(by cases h)⟩
  .rw[h.live]at hf;cases hf
  obtain⟨aZ,cl⟩:=ck aC _ hd;have a0:=a7.kS G hd;rcases O with ⟨rfl,hg,hs,he,hf⟩|⟨rfl,hg,P,hs,he,hf⟩|⟨e,rfl,hg,P,eE,aB⟩|⟨rfl,hx⟩
  .have Q:has=false:=by rw[ax,hg];rfl
   subst Q;refine⟨_,_,rfl,g,by rw[aw];exact aZ.cell,(lG a0.1).use ?_⟩;rintro _ _ ⟨rfl,rfl⟩;rw[dw E];refine⟨_,rfl,λh=>(by cases h),λ_=>⟨λh=>(by cases h),λ_=>hL (λa1=>H=a1) (λq f=>⟨λh=>(by cases h),λ_=>f _ rfl⟩) ?_⟩⟩;rintro _ rfl;exact⟨rfl,aC,pages,_,aL,aX,m,(B.read hs hd I he (hf.trans h.live.symm)).mono I,hd.q f,hd.st⟩
  .have Q:has=true:=by rw[ax];cases bd:ei m.now key with|none=>exact absurd bd hg|some x=>rfl
   subst Q;refine⟨_,_,rfl,g,by rw[aw];exact aZ.cell,(lG a0.1).use ?_⟩;rintro _ _ ⟨rfl,rfl⟩;rw[dw E];rw[P];exact⟨_,rfl,λh=>(by cases h),λ_=>⟨λ_=>⟨rfl,aC,pages,_,aL,aX,m,(B.read hs hd I he (hf.trans h.live.symm)).mono I,hd.q f,hd.st⟩,λh=>(by cases h)⟩⟩
  .have Q:has=true:=by rw[ax];cases bd:ei m.now key with|none=>exact absurd bd hg|some x=>rfl
   subst Q;have be:(((gE S:Nat):Int)==0)=false:=by simp;omega
   have co:=sq (k:=key) aq;obtain⟨cp,fV,fq,ap,aF,aG,aH,aJ,aM⟩:=B.more f hd I Z aB I;obtain rfl:e=0:=by cases cp;rfl
   refine⟨_,_,rfl,g,by rw[aw];exact aZ.cell,(lG a0.1).use ?_⟩;rintro _ _ ⟨rfl,rfl⟩;rw[dw E];refine⟨_,rfl,λh=>(by cases h),λ_=>⟨λh=>(by rw[be]at h;cases h),λ_=>hL (λa1=>∃bf,gF w0 a1 b7 d n l aT aC eE (en m.now key) fV fq bf (c+2)) (λq a2=>⟨λ_=>aS ⟨_,rfl,id,g,by rw[aw];exact(aZ.ext (b6 H)).cell,?_⟩,λh=>(by cases h)⟩) ?_⟩⟩
   .have aa:=aJ.ext (b6 H)
    have ac:=ap.ext (b6 H);have bP:=cl.ext (b6 H);have bQ:=a7.ext a0 (b6 H);generalize H.drew=dl at aa ac bP bQ;refine(HI aa.now aq bQ.1 I (wA ac.at_)).use ?_;rintro _ dm ⟨rfl,bi,am,bj⟩;have cq:=aa.put bi bj;refine⟨_,rfl,_,by rw[aw];exact(bP.ad bi (by have:=V.v.lt;have:=o.v.lt;have:=(h.v).lt;omega)).cell,(CJ cq aW bM (batch:=l.batch)).use ?_⟩;rintro _ dn ⟨rfl,cr,cs⟩;exact⟨rfl,a2 _ ⟨_,(ac.with aF h.iw (bi.trans cr) cs (aM am)).mono I⟩⟩
   .rintro a1 ⟨bf,ct⟩
    exact⟨rfl,aC,eE,_,fV,fq,bf,ct,aG,aH⟩
  .rcases hx True pages m.now with ⟨h1,_⟩|⟨_,h1,_⟩
   .cases h1
   .exact absurd f h1
 .
  refine⟨g,by rw[aw];exact y.cell,(C3 av I G.1 aY).use ?_⟩;rintro v bR ⟨aE,hs,hd,dp,_,_,_,O⟩;have cu:=B.zb hs hd I rfl rfl rfl rfl rfl rfl;have cw:=hd.q f;have r:=b6 bR;have bk:=cu.ext r;have fin:o1 w0 b7 d n l aT S.st (c+2) true bR.drew:=⟨rfl,_,_,_,_,_,_,bk.mono I,cw,rfl⟩;rcases O with ⟨rfl,hg⟩|⟨t,x,rfl,E,hg,ht⟩|⟨_,_,cx⟩
  .have Q:has=false:=by
    rw[ax];by_cases E:cB key
    .rw[hg E];rfl
    .rw[H4 (λp R=>(h.s.at_.gb p R).1) E];rfl
   subst Q;exact⟨bg,false,0,rfl,aS ⟨λ_=>⟨λ_=>⟨λ_=>fin,λh=>(by cases h)⟩,λh=>(by cases h)⟩,λh=>(by cases h)⟩⟩
  .have Q:has=true:=by rw[ax,hg];rfl
   subst Q;have bS:=yP bO;obtain⟨A,t1,t2,ar,bl,aA,aR,dq,cy⟩:=oU bk.md.now.p bS;have bT:=(bK.wh aq []).2.2;rw[bO,if_pos rfl,hg,c_ bS]at bT;obtain rfl:x=m.now[i].2:=Option.some.inj bT;refine⟨t,true,0,rfl,aS ⟨λ_=>⟨λ_=>⟨λh=>(by cases h),λ_=>⟨_,λdr hx=>k9 ((ht.1.ext r).ext hx),_,rfl,id,m.gi,bk.v.cell,A,ar,bl,id,t2,aR,_,λds hx=>k9 (cy.1.ext hx),?_⟩⟩,λh=>(by cases h)⟩,λh=>(by cases h)⟩⟩;rw[beq_self_eq_true];exact fin
  .exact absurd (f.1 30) cx
 .
  refine⟨g,by rw[aw];exact y.cell,sv,by rw[aw];exact y.cell,_,by rw[aw];exact y.cell,(C6 av I I I G.1 aY W.1 bN I).use ?_⟩;rintro v bm ⟨ao,hs,hd,he,⟨s,rfl,R⟩|⟨_,cz⟩⟩
  rotate_left
  .exact absurd f cz
  have cA:=B.read hs hd I he rfl;have cD:Var bm w.heap.size _ 92:=y.ad hd.ad λz=>by have:=X _ z.1;omega
  have cE:=a7.kS G hd;have cF:=a7.kS W hd;refine⟨s,0,rfl,aS ?_⟩;have r:=b6 bm;have a3:=cA.ext r;have aO:=cD.ext r;have bU:=a7.ext cE r;have bV:=a7.ext cF r;have bX:=R.ad (ab.cK r:ab (λ_=>False) _ _) λ_ _ _ h=>h;generalize bm.drew=bn at a3 aO bU bV bX;have dt:=aO.lt;have bo:∀i:Nat,¬bn.heap.size<=(Addr.add w.heap.size i).block:=λi=>by rw[aw];show¬bn.heap.size<=w.heap.size;omega
  refine⟨λq=>bn.heap.size<=q,λ_=>⟨_,rfl,bo 3,g,by rw[aw];exact aO.cell,bo 4,sv,by rw[aw];exact aO.cell,bo 1,_,by rw[aw];exact aO.cell,(HJ a3.md.now bU.1 I bV.1 I nn (wA a3.s.at_)).use ?_⟩,λh=>(by cases h)⟩;rintro _ dv ⟨am,rfl,cG,bY⟩;refine⟨am,rfl,(ou (bX.ad (ab.cK bY:ab (λ_=>False) _ _) λ_ _ _ h=>h) cG ?_).use ?_⟩
  .rw[cv]
   have:(eP m.now key val).length<=m.now.length:=l2 _ _;omega
  rintro _ dx ⟨b,rfl,bl,cH⟩;obtain rfl:b=true:=bl.2 rfl;exact⟨true,rfl,rfl,_,_,_,_,_,_,((a3.ext bY).ext cH).mono I,hd.q f,rfl⟩
 .
  refine⟨nn,by rw[aw];exact y.cell,?_⟩;obtain⟨N,bZ,b0⟩:∃N:Nat,IntKind.wrap .u64 nn=(N:Int)/\N<18446744073709551616:=⟨(nn%18446744073709551616).toNat,by rw[Ea];omega,I⟩;rw[bZ];refine(Ii av b0 I I I).use ?_;rintro v bp ⟨aC,hd,Z,O⟩;have cI:Var bp w.heap.size _ 92:=y.ad hd.ad λz=>by have:=X _ z.1;omega
  have cJ:Var bp w1.heap.size l.c 46:=bc.ad hd.ad λz=>by have:=X _ z.1;omega
  have cL:=o.md.kS hd (o.s.hC h.iw).1 (o.s.hC h.iw).2;have j:=o.jk;obtain⟨rfl,fV,fq,b1,cM,cN⟩:v=.int .i64 0/\∃fV fq,e5 w0 bp b7 d n l aC pages m.now fV fq (c+1)/\aC.failed=false/\sx aC (m.tick N l.ef) m.now fq:=by
   rcases O with ⟨rfl,aQ,hs,rfl⟩|⟨_,hx⟩
   .refine⟨rfl,aL,aX,B.s.step hs hd I ⟨I,I⟩ (by show S.gen<=S.gen+1;omega) (by show S.pending<=S.pending+1;omega),o.live,?_⟩
    have e:m.tick N l.ef=m.kN N:=by
     unfold dO.tick;rw[if_neg];rintro⟨h1,cO⟩;rw[j.du]at h1;rw[j.clock,j.first h1,←bJ]at cO;rcases aQ with V|V
     .exact h1 V
     .omega
    rw[e];exact⟨rfl,j.sure,j.du,by show max m.clock N=max S.now N;rw[j.clock],j.first,j.cC,j.oV⟩
   .obtain⟨rfl,aQ,hs,hf,hg,bq,br,R⟩:=hx.qG f
    have dy:aC.gen=S.gen+1:=hg;have cP:aC.u.clock=max S.now N:=bq;have cQ:aC.u.cC=S.u.cC+1:=br;refine⟨rfl,pages,m.now,B.s.step hs hd I ⟨I,I⟩ I I,hf,?_⟩;have e:m.tick N l.ef=(m.kN N).nz:=by
     unfold dO.tick;rw[if_pos];refine⟨by rw[j.du];exact aQ.1,?_⟩;rw[j.clock,j.first aQ.1,←bJ];exact aQ.2
    rw[e];exact⟨rfl,rfl,R.symm,by show max m.clock N=aC.now;rw[j.clock,Z],λh=>absurd R h,by show m.cC+1=_;rw[cQ,j.cC],by show max m.clock N=_;rw[cP,j.clock]⟩
  refine⟨0,rfl,nn,by rw[aw];exact cI.cell,_,by rw[aw];exact cJ.cell,?_⟩;rw[bZ];refine(HK cL (wA b1.at_) aW b0 (ef:=l.ef)).use ?_;rintro _ dz ⟨rfl,cR,cS⟩;exact⟨rfl,rfl,_,_,_,_,_,_,(b1.with cM h.iw cR cS cN).mono I,hd.q f,hd.st⟩
 .
  refine(wk o.md aW).use ?_;rintro _ dA ⟨rfl,cT,cU⟩;have b2:=o.s.jS h.iw cT;refine⟨rfl,(y2 b2.at_ I I I).use ?_⟩;rintro v cV (⟨hf,_⟩|⟨_,aC,hd,Z,hx⟩)
  .rw[h.live]at hf;cases hf
  obtain⟨rfl,_,hs,hf,hg,bq,br,R⟩:=hx.qG f;have j:=o.jk;refine⟨0,rfl,rfl,aC,_,_,_,_,m.nz,(show gF w0 cV b7 d n l aT aC pages m.now pages m.now m.nz (c+1) from⟨b2.step hs hd I ⟨I,I⟩ I I,hf,h.iw,cU.kS hd (o.s.hC h.iw).1 (o.s.hC h.iw).2,⟨rfl,rfl,R.symm,j.clock.trans Z.symm,λh=>absurd R h,by show m.cC+1=_;rw[br,j.cC],by show m.clock=_;rw[bq,j.clock]⟩⟩).mono I,hd.q f,hd.st⟩
 .
  refine⟨g,by rw[aw];exact y.cell,sv,by rw[aw];exact y.cell,(C5 av I I I I G.1 aY W.1 bN).use ?_⟩;rintro v F O;have dB:=len8 W.1;have tail:∀ (bW:cn) (bG:Nat) (e:Int) (lT:aj),dj bG S bW aV F->v=e->(lT=true↔cB key/\val.length<=24)->(lT=false->o1 w0 b7 d n l aT S.st (c+2) (.bool (e==1)) F)->(lT=true->(((gE S:Nat):Int)==0)=true->o1 w0 b7 d n l aT S.st (c+2) (.bool (e==2)) F)->
   (lT=true->(((gE S:Nat):Int)==0)=false->e=0/\∃eE fV fq,e5 w0 F b7 d n l bW eE (eO m.now key val) fV fq (c+1)/\bW.failed=false/\bW.T.C.D.quiet/\bW.st=S.st/\eL (λq=>¬bW.T.M q) F aT m/\∀am,sx bW ((m.put am (eO m.now key val)).more l.batch) (eO m.now key val) fq)->
   ∃a4:Int,Ending.returned v=.returned a4/\∃a5:U,F.cell? (Addr.add w.heap.size 3)=some (.slice a5.a a5.len a5.cap)/\
   Calls ai 50 #[a5] F λcW bs=>∃bt:aj,cW=.returned bt/\bF (λb3:aj->J->Prop=>((!bt)=true->b3 true bs)/\((!bt)=false->∃a6:U,bs.cell? (Addr.add w.heap.size 4)=some (.slice a6.a a6.len a6.cap)/\b3 (decide ((a6.len:Int)>24)) bs))
    (λ(b4:aj) (bu:J)=>(b4=true->o1 w0 b7 d n l aT S.st (c+2) (.bool (a4==1)) bu)/\(b4=false->((((gE S:Nat):Int)==0)=true->o1 w0 b7 d n l aT S.st (c+2) (.bool (a4==2)) bu)/\((((gE S:Nat):Int)==0)=false->al (bu.drew) λa8=>∃b5:ae,some (aT:ae)=some b5/\¬False/\∃a9:U,a8.cell? (Addr.add w.heap.size 3)=some (.slice a9.a a9.len a9.cap)/\¬False/\∃a_:U,a8.cell? (Addr.add w.heap.size 4)=some (.slice a_.a a_.len a_.cap)/\
     Calls ai 107 #[.pointer (some b5),a9,a_] a8 λcX bv=>cX=.returned (.tuple #[])/\∃b9:Int,bv.cell? (Addr.add w1.heap.size 1)=some (.int .i64 b9)/\
     Calls ai 105 #[.pointer (some aT),b9] bv λcY b_=>cY=.returned (.tuple #[])/\o1 w0 b7 d n l aT S.st (c+2) (.bool (a4==0)) b_))):=by
   rintro bW bG e lT hd rfl bx aD cZ c0;have bz:Var F w.heap.size _ 92:=y.ad hd.ad λz=>by have:=X _ z.1;omega
   have c1:Var F w1.heap.size l.c 46:=bc.ad hd.ad λz=>by have:=X _ z.1;omega
   have ca:=a7.kS G hd;have c2:=a7.kS W hd;refine⟨e,rfl,g,by rw[aw];exact bz.cell,(lG ca.1).use ?_⟩;rintro _ _ ⟨rfl,rfl⟩;refine⟨_,rfl,cm (λb w'=>b= !lT/\F=w') (λq a2=>⟨λh=>a2 _ _ ⟨?_,rfl⟩,λh=>⟨sv,by rw[aw];exact bz.cell,a2 _ _ ⟨?_,rfl⟩⟩⟩) ?_⟩
   .cases hg:lT with
    |false=>rfl
    |true=>
     rw[dw (bx.1 hg).1]at h;cases h
   .have E:cB key:=by
     by_cases E:cB key
     .exact E
     .rw[hG E]at h;cases h
    cases hg:lT with
    |true=>
     have:=(bx.1 hg).2;show decide ((sv.len:Int)>24)=false;exact hG I
    |false=>
     show decide ((sv.len:Int)>24)=true;refine dw ?_;have:¬val.length<=24:=λc3=>by have:=bx.2 ⟨E,c3⟩;rw[hg]at this;cases this
     omega
   rintro _ _ ⟨rfl,rfl⟩;refine⟨λh=>aD (by simpa using h),λh=>⟨λP=>cZ (by simpa using h) P,λP=>?_⟩⟩;obtain⟨rfl,eE,fV,fq,ap,aF,aG,aH,aJ,aM⟩:=c0 (by simpa using h) P;have r:=b6 F;have aa:=aJ.ext r;have ac:=ap.ext r;have bA:=bz.ext r;have cb:=c1.ext r;have cc:=a7.ext ca r;have cd:=a7.ext c2 r;refine aS ?_;generalize F.drew=a8 at aa ac bA cb cc cd;refine⟨_,rfl,id,g,by rw[aw];exact bA.cell,id,sv,by rw[aw];exact bA.cell,(HH aa.now aq cc.1 I cd.1 I (wA ac.at_) I).use ?_⟩;rintro _ bv ⟨rfl,bB,am,bj⟩;have c4:=aa.put bB bj;refine⟨rfl,_,by rw[aw];exact(cb.ad bB I).cell,(CJ c4 aW bM (batch:=l.batch)).use ?_⟩;rintro _ b_ ⟨rfl,c5,c6⟩;exact⟨rfl,rfl,bW,eE,_,fV,fq,_,(ac.with aF B.iw (bB.trans c5) c6 (aM am)).mono I,aG,aH⟩
  rcases O with ⟨rfl,aD,rfl⟩|⟨ce,⟨hf,_⟩|⟨_,aC,hd,Z,⟨rfl,P,hs,rfl⟩|⟨P,eE,aB⟩⟩⟩
  .exact tail S 0 1 false (dj.ext S (.refl _ _)) rfl ⟨λh=>(by cases h),λh=>absurd h aD⟩ (λ_=>⟨rfl,S,pages,_,aL,aX,m,B.mono I,f,rfl⟩) (λh=>(by cases h)) λh=>(by cases h)
  .rw[h.live]at hf;cases hf
  .exact tail _ _ 2 true hd rfl ⟨λ_=>ce,λ_=>rfl⟩ (λh=>(by cases h)) (λ_ _=>⟨rfl,_,pages,_,aL,aX,m,(B.zb hs hd I rfl rfl rfl rfl rfl rfl).mono I,f,rfl⟩) λ_ h=>(by rw[P]at h;cases h)
  .have be:(((gE S:Nat):Int)==0)=false:=by simp;omega
   have dC:=y3 key val m.now;have co:=sq (k:=key) aq;obtain⟨rfl,fV,fq,ap,aF,aG,aH,aJ,aM⟩:=B.more f hd I Z aB I;exact tail aC _ 0 true hd rfl ⟨λ_=>ce,λ_=>rfl⟩ (λh=>(by cases h)) (λ_ h=>(by rw[be]at h;cases h)) λ_ _=>⟨rfl,eE,fV,fq,ap,aF,aG,aH,aJ,aM⟩
end
section
variable {w0 w w' w1 ah:J}{b7 bV:Nat->Prop}{d n aT k c i:Nat}{l:fE}{S aC:cn}{pages eE aL fV br:O Nat}{L fG aX fq bf:O aJ}{m:dO}{v:aa}{ax:a6}{ls:U}{A:O iv}
theorem di.grow(h:di w S pages L aL aX)(hx:Ext w w'){b:Nat->Prop}(c:∀q,b q->S.T.E q\/(w.heap.size<=q/\q<w'.heap.size))(hs:b S.st):di w' (S.b5 (S.T.cf b S.T.G)) pages L aL aX:=by
 have ht:bM w' (S.T.cf b S.T.G):=h.t.grow (W:=λ_=>False) hx (λ_ d=>d.elim) (λq a=>(c q a).imp id .inr) (λq a=>.inr (.inl a)) λq a hg=>by
  rcases c q a with h1|h1
  .exact(h.t.c7 q h1).2.2 hg
  .have:=h.t.lt (q:=q) (.inr (.inr (.inr (.inr hg))));omega
 exact⟨⟨h.v.ext hx,ht,hs,h.fL,h.gen,h.num,h.bK⟩,h.ok,h.bm,h.f,h.two,h.gb,h.keys,h.du,h.live,h.dead⟩
def cn.own(S:cn)(bV:Nat->Prop):cn:=S.b5 (S.T.cf (λq=>q=S.st\/bV q) S.T.G)
theorem cn.IT{q:Nat}(b:∀q,S.T.E q↔q=S.st\/b7 q)(h1:∀q,bV q->b7 q\/k<=q)(a:(S.own bV).T.M q):S.T.M q\/k<=q:=by
 rcases a with a|a|a|a|a
 .exact .inl (.inl a)
 .exact .inl (.inr (.inl a))
 .exact .inl (.inr (.inr (.inl a)))
 .rcases(show q=S.st\/bV q from a) with h|h
  .exact .inl (.inr (.inr (.inr (.inl ((b q).2 (.inl h))))))
  .rcases h1 q h with h|h
   .exact .inl (.inr (.inr (.inr (.inl ((b q).2 (.inr h))))))
   .exact .inr h
 .exact .inl (.inr (.inr (.inr (.inr a))))
theorem e5.grow(h:e5 w0 w b7 d n l S pages L aL aX c)(hx:Ext w w')(b:∀q,bV q->b7 q\/(w.heap.size<=q/\q<w'.heap.size)):e5 w0 w' bV d n l (S.own bV) pages L aL aX c:=
 ⟨h.x.trans hx,h.at_.grow hx (λq a=>by
  rcases a with h1|h1
  .exact .inl ((h.E q).2 (.inl h1))
  .exact(b q h1).imp (λe=>(h.E q).2 (.inr e)) id) (.inl rfl),λq=>Iff.rfl,λhs=>by
  have hs:bV S.st:=hs
  rcases b _ hs with h1|h1
  .exact h.ne h1
  .have:=h.at_.t.lt (q:=S.st) (.inr (.inr (.inr (.inl h.at_.es))));omega,λq a=>by
  rcases cn.IT h.E (λq a=>(b q a).imp id And.left) a with h1|h1
  .exact h.kR q h1
  .have:=h.x.size;omega,h.lim,h.d,h.n,h.aN,h.eQ,h.gen,h.qF⟩
theorem di.aZ(h:di w S pages L aL aX)(b:S.failed=false)(c:y8 S.T.C.D ax):∀j,S.T.g j=true->ax.aZ.getD j []=S.V j:=λj d=>by
 rcases c.aZ j with h1|h1
 .exact h1
 .have a:=h.t.ca.inv.kH j (h.bK j d)
  rw[(h.live b).2.1]at a
  rw[a]at h1;cases h1
theorem e5.found{V:Nat->cJ}{gen:Nat}{u:cW}{g:Nat->aj}{P:Nat->aq aB}(h:e5 w0 w b7 d n l S pages L aL aX c)(hd:b_ w1 ax)(e:y8 S.T.C.D ax)(i:ab (bD S.T.C.D) w w1)(G:g3 V n gen u g P br bf)(dR:∀j,g j=true->ax.aZ.getD j []=V j)(H:kP (l.an:Nat) (l.batch:Nat) (l.ef:Nat))(Q:gen<=S.gen+1)(hc:c<=3000)(r:bf.length<=c+1):
 aP ai 41 #[.pointer (some d),.agg l.c.toArray] w1 (λv ah=>∃bW:cn,v=.tuple #[.pointer (some bW.st),(0:Int)]/\e5 w0 ah b7 d n l bW br bf br bf (c+1)/\bW.failed=false/\bW.T.C.D.quiet/\bW.u=u/\bW.gen=gen/\bW.pending=0/\bW.now=u.clock/\
  ∀aT m,b7 aT->eL (λq=>¬S.T.M q) w aT m->eL (λq=>¬bW.T.M q) ah aT m):=by
 have R:=h.aN;have U:=h.gen;have s:ax.n=n:=e.n.trans (h.at_.t.n.trans h.n);have W:=i.size;have k:∀q,bD ax q->S.T.M q:=λq a=>.inl (.inr (.inr (e.c4 q a)));have o:∀q,b7 q->S.T.M q:=λq a=>.inr (.inr (.inr (.inl (h.hC a).1)));have p:∀q,b7 q->¬bD S.T.C.D q:=λq a hf=>h.at_.t.jd (h.hC a).1 (.inl (.inr (.inr hf)));have y:=IQ (l:=l) (b7:=b7) hd e.q (by rw[e.aN];omega) e.waits H (by rw[s];exact G) dR I I λq a=>⟨by have:=h.at_.t.lt (o q a);omega,λhf=>p q a (e.c4 q hf)⟩;rw[e.d,h.d]at y;refine y.mono ?_;rintro v ah ⟨bW,rfl,J,b,hu,hg⟩;have z:Ext w0 w1:=Ext.dd h.x i λq a=>h.kR q (.inl (.inr (.inr a)));have K:Ext w0 ah:=Ext.dd z b.ad λq a=>h.kR q (k q a);have A:∀q,bW.T.M q->S.T.M q\/w1.heap.size<=q:=λq a=>by
  rcases b.M q a with h1|h1|h1
  .exact .inl (k q h1)
  .exact .inl (o q h1)
  .exact .inr h1
 refine⟨bW,rfl,⟨K,J,b.E,λhs=>?_,λq a=>?_,b.l,b.d.trans (e.d.trans h.d),b.n.trans s,?_,⟨r,r⟩,I,by rw[b.du];omega⟩,b.live,b.q,hu,hg,b.du,by rw[b.now,hu],λaT m he N=>?_⟩
 .have:=h.at_.t.lt (o _ hs)
  have:=b.st;omega
 .rcases A q a with h1|h1
  .exact h.kR q h1
  .have:=z.size;omega
 .have:=b.aN
  have:=e.aN;omega
 .have B:bW.T.M aT:=.inr (.inr (.inr (.inl ((b.E aT).2 (.inr he)))))
  have h1:=N.ad i (p aT he) λq a _ hf=>a (.inl (.inr (.inr hf)));have O:=h1.aW (C:=λq=>¬S.T.M q/\¬bW.T.M q) (λq X F=>⟨F,λa=>by
   rcases A q a with f|f
   .exact F f
   .omega⟩) λf=>f.2 B
  exact(O.ad b.ad (λhf=>p aT he (e.c4 aT hf)) λq a _ hf=>a.1 (k q hf)).aW (λ_ _ h=>h.2) λh=>h B
theorem IU(ar:kQ w0 ls A)(hx:Ext w0 w)(hi:i<A.length){K:J->J->Prop}
 (C:∀ (b c:J) (e sv sl:U),Ext w c->w.heap.size<=b.heap.size->Var c b.heap.size [.int .i64 A[i].kind,.int .i64 A[i].n,.int .i64 A[i].after,e,sv,sl] 92->Dg w0 (λq=>w.heap.size<=q) c A[i] e sv sl->K b c):
 ∃d:ae,ls.a=some d/\((0:Int)<=(i:Int)/\(i:Int)<(ls.len:Int))/\
 ∃n27:Int,w.cell? (d.add (Int.toNat (i:Int)*6))=some (.int .i64 n27)/\
 ∃n28:Int,w.cell? ((d.add (Int.toNat (i:Int)*6)).add 1)=some (.int .i64 n28)/\
 ∃n29:Int,w.cell? ((d.add (Int.toNat (i:Int)*6)).add 2)=some (.int .i64 n29)/\
 ∃g:U,w.cell? ((d.add (Int.toNat (i:Int)*6)).add 3)=some (.slice g.a g.len g.cap)/\
 ∃h:U,w.cell? ((d.add (Int.toNat (i:Int)*6)).add 4)=some (.slice h.a h.len h.cap)/\
 ∃j:U,w.cell? ((d.add (Int.toNat (i:Int)*6)).add 5)=some (.slice j.a j.len j.cap)/\
 Calls ai 37 #[.agg #[n27,n28,n29,g,h,j]] w λD b=>
 ∃n35:Int,∃n36:Int,∃n37:Int,∃o:U,∃p:U,∃r:U,D=.returned (
  .agg #[n35,n36,n37,o,p,r])
 /\al (b.alloc (.cells #[(0:Int),(0:Int),(0:Int),(),(),()] 92))
 λs=>bA s b.heap.size [n35,n36,n37,o,p,r]/\
 (6:Nat)=6/\al (setCells s b.heap.size 0 [n35,n36,n37,o,p,r])
 λc=>K b c:=by
 obtain⟨a,E,F,f⟩:=(ar.ext hx).at hi;have G:=ar.ok A[i] (cw hi);have h0:=f 0 _ rfl;rw[add_add,kk]at h0;refine⟨a,E,F,_,h0,_,f 1 _ rfl,_,f 2 _ rfl,(A[i]).tk,f 3 _ rfl,(A[i]).dg,f 4 _ rfl,(A[i]).tl,f 5 _ rfl,(p4 G hx).use ?_⟩;rintro _ b ⟨e,sv,sl,rfl,u,m⟩;refine⟨_,_,_,e,sv,sl,rfl,bh (vs:=[(0:Int),(0:Int),(0:Int),(),(),()]) rfl λs x y I=>⟨x.cc rfl (λv z=>?_),rfl,cy x (us:=[.int .i64 A[i].kind,.int .i64 A[i].n,.int .i64 A[i].after,e,sv,sl]) rfl rfl λc H B _=>C b c e sv sl (u.trans (Ext.cu y B (bo _))) u.size H ?_⟩⟩
 .simp only[cU,eV,eZ]at z
  rcases z with rfl|rfl|rfl|rfl|rfl|rfl<;>trivial
 .have t:Ext b c:=Ext.cu y B (bo _)
  exact⟨a7.ext m.k t,a7.ext m.v t,m.l.ext t,m.nB⟩
end
def o2:dO:=⟨[],[],bg,bg,0,0,0,0,0⟩
section
variable {w0 w w' w1 ah:J}{b7 bV:Nat->Prop}{d n aT k c i:Nat}{l:fE}{S aC:cn}{pages eE aL fV br:O Nat}{L fG aX fq bf:O aJ}{m:dO}{v:aa}{ax:a6}{ls:U}{A:O iv}
theorem zc{q b k:Nat}(h:az ⟨some b,k,k⟩ q):q=b:=by
 obtain⟨A,ar,rfl⟩:=h
 cases ar;rfl
theorem di.room(h:di w S pages L aL aX):S.T.n<=cg S.T+pages.length+aL.length+3:=by
 have h1:=IP (t:=λi=>S.T.f i||S.T.g i) (l:=pages++aL++ [0,1,S.u.map]) S.T.n λi _ hi=>by
  simp only[jl]at hi;simp only[cR,cU,eV,eZ];rcases hi with hi|hi
  .rcases(h.f i).1 hi with a|a|a
   .exact .inl (.inl a)
   .exact .inr I
   .exact .inr (.inr (.inr a))
  .rcases(h.fL.g i).1 hi with a|a|a
   .exact .inl (.inr a)
   .exact .inr I
   .exact .inr (.inr (.inr a))
 simp only[cx,eU,jE]at h1;unfold cg;omega
theorem e5.new{D:a6}(hx:Ext w0 w)(e:di w' S [] [] [] [])(a:wz D l b7 4 w w' S)(hu:S.u=ki)(hg:S.gen=1)(b:∀q,bD D q->w0.heap.size<=q)(c:∀q,b7 q->w0.heap.size<=q/\q<w.heap.size)(g:D.aN=0):e5 w0 w' b7 D.d D.n l S [] [] [] [] 0:=
 ⟨Ext.dd hx a.ad b,e,a.E,λh=>by have:=(c _ h).2;have:=a.st;omega,λq f=>by
  rcases a.M q f with h1|h1|h1
  .exact b q h1
  .exact(c q h1).1
  .have:=hx.size;omega,a.l,a.d,a.n,by have:=a.aN;omega,⟨bo _,bo _⟩,I,by rw[a.du];exact bo _⟩
theorem Di(w:J):aP ai 26 #[] w (λv w'=>v=true/\Ext w w'):=by
 refine af.EV w _ ?_;(delta af.rU de ru ak xj Y aA aR jI;dsimp only);refine(n3 (n:=40) I I w).use ?_;rintro _ w1 ⟨d,lb,mr,rfl,hd,aa,ac⟩;refine⟨_,0,rfl,(mj (b:=9) (d:=9) I I w1).use ?_⟩;rintro _ a0 ⟨rfl,G⟩;have r:kP (((⟨8,1+9%12,1+9%12⟩:fE).an:Nat):Int) (((⟨8,1+9%12,1+9%12⟩:fE).batch:Nat):Int) (((⟨8,1+9%12,1+9%12⟩:fE).ef:Nat):Int):=by unfold kP;decide
 generalize H:(⟨8,1+9%12,1+9%12⟩:fE)=K at r;have ad:K.batch=10:=by rw[←H]
 have ae:=hd.ext G;refine⟨_,_,_,rfl,(De (l:=K) (b7:=λ_=>False) ae r (λk=>⟨.inl rfl,.inl rfl⟩) rfl (by show 0<=999999000;omega) (λq h=>h.elim)).use ?_⟩;rintro _ s ⟨j,rfl,ag,f,hu,hg⟩;have u:=e5.new (w0:=w) (aa.trans G) ag f hu hg (λq a=>ac q a) (λq h=>h.elim) rfl;refine⟨_,0,rfl,λh=>(by cases h),λ_=>?_⟩;obtain⟨m,bx,bG,ah,a1⟩:=vJ s [97];obtain⟨y,aj,al,L,a2⟩:=vJ m [49];have g:=u.ext (ah.trans L);have am:∀q,az ⟨some s.heap.size,1,1⟩ q->q<y.heap.size/\¬j.T.M q:=λq a=>by
  have e:=zc a;exact⟨I,λc=>by have:=u.at_.t.lt c;omega⟩
 have ao:∀q,az ⟨some m.heap.size,1,1⟩ q->q<y.heap.size/\¬j.T.M q:=λq a=>by
  have e:=zc a;exact⟨I,λc=>by have:=u.at_.t.lt c;omega⟩
 have N:=f.q;refine aS ⟨⟨some s.heap.size,1,1⟩,m,bx,aS ⟨⟨some m.heap.size,1,1⟩,y,aj,(C5 (key:=[97]) (val:=[49]) g.at_ (by decide) (by rw[f.du];decide) (by have:=g.aN;omega) (by rw[hg];decide) (bG.ext L) am al ao).use ?_⟩⟩;rintro v a3 (⟨_,ap,_⟩|⟨_,⟨hf,_⟩|⟨_,a4,A,a5,⟨_,O,_⟩|⟨_,pages,c⟩⟩⟩)
 .exact absurd ⟨⟨by decide,by decide⟩,by decide⟩ ap
 .rw[f.live]at hf;cases hf
 .exfalso
  have h1:=g.at_.room;rw[g.n]at h1;have e:(nm 40 d lb mr).n=40:=by show(List.replicate 40 e4).length=40;rw[mQ]
  have aq:j.T.aG=0:=by
   rcases g.at_.ok with ⟨B,_⟩|B
   .exact B
   .have:=B.pages.2.1;simp at this
  unfold gE at O;rw[e]at h1;rw[aq]at O;simp only[jE]at h1;omega
 have ar:j.pending=0:=f.du;rcases c with ⟨rfl,_,E,au,av,a6,a7,_⟩|c
 rotate_left
 .have:=(c.qG N).2.1
  rw[f.l,ad,ar]at this;omega
 have aw:eO [] [97] [49]=[(([97],[49]):aJ)]:=by decide
 rw[aw]at E;have P:=g.step E A I ⟨by decide,by decide⟩ I I;have ay:=A.q N;have Q:=y2 E (by decide) (by have:=P.aN;omega) (by rw[av,hg];decide);rw[A.st]at Q;refine⟨0,rfl,Q.use ?_⟩;rintro v R (⟨hf,_⟩|⟨_,bW,aB,a8,hx⟩)
 .rw[au]at hf;cases hf
 obtain⟨rfl,_,o,aC,a9,_,_,a_⟩:=hx.qG ay;have p:=P.step o aB I ⟨by decide,by decide⟩ I I;have S:=Iw (l:=bg) (zs:=[]) o.t.ca.raw.dev (za R) (λq a=>(gg q a).elim) (by decide) (λz aD=>(by cases aD)) (by have:=p.aN;omega);rw[p.d]at S;refine⟨0,rfl,S.use ?_⟩;rintro _ aF ⟨rfl,ax,aH,U,aI⟩;refine⟨rfl,(mj (b:=9) (d:=9) I I aF).use ?_⟩;rintro _ aK ⟨rfl,V⟩;rw[H];have aL:ab (bD bW.T.C.D) R aK:=aI.trans (V.mono λ_ _ h=>h.elim);have W:=o.fL;rw[p.n]at W;refine⟨_,_,_,rfl,(p.found (aH.ext V) U aL W (o.aZ aC U) r I (by decide) (by decide)).use ?_⟩;rintro _ X ⟨fx,rfl,Z,ba,aM,_⟩;obtain⟨aO,bS,bp,aQ,bb⟩:=vJ X [97];have F:=Z.ext aQ;refine⟨_,0,rfl,aS ⟨⟨some X.heap.size,1,1⟩,aO,bS,(C3 (key:=[97]) F.at_ (by have:=F.aN;omega) bp λq a=>?_).use ?_⟩⟩
 .have e:=zc a
  exact⟨I,λc=>by have:=Z.at_.t.lt c;omega⟩
 rintro v aT ⟨aE,aU,aV,_,_,_,_,aW⟩;have aX:=F.step aU aV I ⟨by decide,by decide⟩ (by show fx.gen<=fx.gen+1;omega) (by show fx.pending<=fx.pending+1;omega);rcases aW with ⟨_,i⟩|⟨t,x,rfl,_,i,ht⟩|⟨_,_,i⟩
 .have aY:ei [(([97],[49]):aJ)] [97]=none:=i ⟨by decide,by decide⟩
  exact absurd aY (by decide)
 .have e:ei [(([97],[49]):aJ)] [97]=some [49]:=by decide
  rw[e]at i;obtain rfl:=Option.some.inj i;refine⟨t,true,0,rfl,cm (λb w'=>b=true/\aT=w') (λq a=>⟨λ_=>⟨_,_,k9 ht.1,a _ _ ⟨?_,rfl⟩⟩,λh=>(by cases h)⟩) ?_⟩
  .exact beq_self_eq_true _
  .rintro _ _ ⟨rfl,rfl⟩
   exact⟨rfl,aX.x⟩
 .exact absurd (aM.1 30) i
end
section
variable {w0 w w' w1 ah:J}{b7 bV:Nat->Prop}{d n aT k c i:Nat}{l:fE}{S aC:cn}{pages eE aL fV br:O Nat}{L fG aX fq bf:O aJ}{m:dO}{v:aa}{ax:a6}{ls:U}{A:O iv}
theorem Dj(B:Nat->Prop)(w:J):fU B w bg []:=⟨[],(a8.none 2 167 w).src,bo _,λq a=>(gg q a).elim,rfl,λi h=>by simp at h⟩
theorem IV{B:Nat->Prop}(a:Var w aT o2.c 90)(b:¬B aT):eL B w aT o2:=
 ⟨⟨a,Dj _ _,b,λp d=>(by cases d),cE _⟩,Dj _ _,(by decide:0<18446744073709551616),λh=>absurd rfl h⟩
def lU(b:Nat):fE:=⟨8,1+b%12,1+b/16%12⟩
theorem Dk(b:Nat):kP ((lU b).an:Nat) ((lU b).batch:Nat) ((lU b).ef:Nat):=by
 unfold kP lU;have h1:b%12<12:=g4 _ (by decide);have a:b/16%12<12:=g4 _ (by decide);show(8:Int)<=((8:Nat):Int)/\((8:Nat):Int)<=64/\(1:Int)<=((1+b%12:Nat):Int)/\((1+b%12:Nat):Int)<=1000/\(1:Int)<=((1+b/16%12:Nat):Int)/\((1+b/16%12:Nat):Int)<=1048576;omega
theorem IW{l:fE}{K:J->Prop}(e:∀w',Var w' w.heap.size l.c 46->Ext w w'->K w'):
 al (w.alloc (.cells #[(0:Int),(0:Int),.int .u64 0] 46)) λa=>bA a w.heap.size [l.an,l.batch,.int .u64 (l.ef:Nat)]/\(3:Nat)=3/\al (setCells a w.heap.size 0 [l.an,l.batch,.int .u64 (l.ef:Nat)]) K:=
 bh (vs:=[(0:Int),(0:Int),.int .u64 0]) rfl λa b f j=>⟨b.cc rfl (λv d=>by
  simp only[cU,eV,eZ]at d
  rcases d with rfl|rfl|rfl<;>trivial),rfl,cy b (us:=l.c) rfl rfl λg h i _=>e g h (Ext.cu f i (bo _))⟩
end
theorem IX{a b:Nat}(d:a<4294967296)(e:b<4294967296)(h:ng a=ng b):a=b:=by
 have top:∀x,x<4294967296->((x/2)^^^0x82f63b78).testBit 31=true:=λx hx=>by
  have h1:(x/2).testBit 31=false:=sH (by show _<2147483648;omega);rw[Nat.testBit_xor,h1];decide+kernel
 have low:∀x,x<4294967296->(x/2).testBit 31=false:=λx hx=>sH (by show _<2147483648;omega);unfold ng at h;by_cases h1:a%2=1<;>by_cases c:b%2=1
 .rw[if_pos h1,if_pos c]at h
  have f:a/2=b/2:=by
   have:=congrArg (· ^^^0x82f63b78) h;simpa[Nat.xor_assoc] using this
  omega
 .rw[if_pos h1,if_neg c]at h
  have:=top a d;rw[h,low b e]at this;cases this
 .rw[if_neg h1,if_pos c]at h
  have:=top b e;rw[←h,low a d]at this;cases this
 .rw[if_neg h1,if_neg c]at h
  omega
theorem zd{a b:Nat}(c:a<4294967296)(d:b<4294967296):∀k,qb k a=qb k b->a=b
 |0,h=>h
 |k+1,h=>zd c d k (IX (rV c k) (rV d k) h)
theorem wB{n:Nat}(h:n<4294967296)(c:UInt8):n^^^c.toNat<4294967296:=qV (n:=32) h (by have:=lZ c;show _<4294967296;omega)
theorem Dl:∀ (l:O UInt8) {a b:Nat},a<4294967296->b<4294967296->ja a l=ja b l->a=b
 | [],_,_,_,_,h=>h
 |c::l,a,b,d,e,h=>by
  have h1:=Dl l (rW d c) (rW e c) h
  have f:=zd (wB d c) (wB e c) 8 h1
  have:=congrArg (· ^^^c.toNat) f
  simpa[Nat.xor_assoc] using this
theorem Dm{a d:O UInt8}{c c':UInt8}(h:gy (a++c::d)=gy (a++c'::d)):c=c':=by
 unfold gy at h;have i:=oE (a++c::d) (n:=4294967295) (by decide);have j:=oE (a++c'::d) (n:=4294967295) (by decide);have h1:ja 4294967295 (a++c::d)=ja 4294967295 (a++c'::d):=by omega
 rw[vD,vD]at h1;have b:=oE a (n:=4294967295) (by decide);have f:=Dl d (rW b c) (rW b c') h1;have g:=zd (wB b c) (wB b c') 8 f;have e:=congrArg (ja 4294967295 a^^^ ·) g;simp only[←Nat.xor_assoc,Nat.xor_self,Nat.zero_xor]at e;exact o7.1 e
theorem ze{l:O UInt8}{i:Nat}{c:UInt8}(hi:i<l.length):l.set i c=l.take i++c::l.drop (i+1):=by
 rw[List.set_eq_take_append_cons_drop,if_pos hi]
theorem zf{l:O UInt8}{i:Nat}(hi:i<l.length):l=l.take i++l[i]::l.drop (i+1):=by
 rw[←iQ hi,hF]
theorem IY{l:O UInt8}{i a k:Nat}{c:UInt8}(h:i<a\/a+k<=i):cZ (l.set i c) a k=cZ l a k:=by
 unfold cZ
 congr 1
 refine List.ext_getElem? λj=>?_;by_cases b:j<k
 .rw[nG b,nG b,nE,nE,nL I]
 .rw[iU (by simp;omega),iU (by simp;omega)]
theorem IZ{l:O UInt8}{i:Nat}{c:UInt8}(h:20<=i/\i<24):sumOf (l.set i c)=sumOf l:=by
 unfold sumOf;rw[List.take_set_of_le I,List.drop_set_of_lt I]
theorem I0{l:O UInt8}{i:Nat}{c:UInt8}(f:l.length=256)(hi:i<256)(h:i<20\/24<=i)(he:sumOf (l.set i c)=sumOf l):c=l[i]'I:=by
 unfold sumOf at he;rcases h with h|h
 .rw[List.drop_set_of_lt I]at he
  have b:(l.set i c).take 20=(l.take 20).set i c:=by rw[List.take_set]
  have a:i<(l.take 20).length:=by rw[cv];omega
  have d:=zf a;rw[b,ze a,cD]at he;have e:gy (l.take 20++l.drop 24)=gy ((l.take 20).take i++(l.take 20)[i]::((l.take 20).drop (i+1)++l.drop 24)):=by
   conv=>lhs;rw[d]
   rw[cD];rfl
  rw[e]at he;have:=Dm he;rw[this,mO]
 .rw[List.take_set_of_le I]at he
  have a:i-24<(l.drop 24).length:=by rw[c5];omega
  have b:(l.set i c).drop 24=(l.drop 24).set (i-24) c:=by rw[List.drop_set,if_neg I]
  have d:=zf a;rw[b,ze a,←cD]at he;have e:gy (l.take 20++l.drop 24)=gy ((l.take 20++(l.drop 24).take (i-24))++(l.drop 24)[i-24]::(l.drop 24).drop (i-24+1)):=by
   conv=>lhs;rw[d]
   rw[←cD]
  rw[e]at he;have:=Dm he;rw[this,nF]
  congr 1;omega
theorem wC:∀ (x:O UInt8) (n:Nat),x.foldl (λn c=>n*256+c.toNat) n=n*256^x.length+fH x
 | [],n=>by simp[fH]
 |c::x,n=>by
  unfold fH
  rw[List.foldl_cons,List.foldl_cons,wC x,wC x (0*256+_),eU,Nat.pow_succ,km,Nat.mul_assoc,Nat.mul_comm 256]
  simp only[o5,cA,qK]
theorem I1{a d:O UInt8}{c c':UInt8}(h:fH (a++c::d)=fH (a++c'::d)):c=c':=by
 have key:∀ (x:O UInt8),fH (a++x)=fH a*256^x.length+fH x:=λx=>by rw[AW,wC]
 have bG:∀c:UInt8,fH (c::d)=c.toNat*256^d.length+fH d:=λc=>by show(c::d).foldl _ 0=_;rw[List.foldl_cons,wC];simp
 rw[key,key,bG,bG]at h;simp only[eU]at h;have h1:c.toNat*256^d.length=c'.toNat*256^d.length:=by omega
 have b:0<256^d.length:=Nat.pow_pos (by decide);exact o7.1 (Nat.eq_of_mul_eq_mul_right b h1)
theorem I2{no:Int}{l:List UInt8}{p:hX}{i:Nat}{c:UInt8}(h:da no l=.ok p)(hi:i<256)(hl:l.length=256)(hc:c≠l[i]'(by omega)):∃e,da no (l.set i c)=.error e:=by
 cases hd:da no (l.set i c) with
 |error e=>exact⟨e,rfl⟩
 |ok p'=>
   exfalso
   have s1:sumOf l=cZ l 20 4:=by
     unfold da at h
     split at h; · cases h
     split at h; · cases h
     split at h; · cases h
     split at h; · cases h
     rename_i hh;exact Decidable.not_not.1 hh
   have s2:sumOf (l.set i c)=cZ (l.set i c) 20 4:=by
     unfold da at hd
     split at hd; · cases hd
     split at hd; · cases hd
     split at hd; · cases hd
     split at hd; · cases hd
     rename_i hh;exact Decidable.not_not.1 hh
   by_cases h1:20<=i/\i<24
   · rw[IZ h1,s1]at s2
     unfold cZ at s2
     have hi2:i-20<((l.drop 20).take 4).length:=by rw[cv,c5];omega
     have e1:((l.set i c).drop 20).take 4=((l.drop 20).take 4).set (i-20) c:=by rw[List.drop_set,if_neg (by omega),List.take_set]
     rw[e1,ze hi2]at s2
     have e2:=zf hi2
     have e3:fH ((l.drop 20).take 4)=fH (((l.drop 20).take 4).take (i-20)++((l.drop 20).take 4)[i-20]::((l.drop 20).take 4).drop (i-20+1)):=congrArg fH e2
     rw[e3]at s2
     have:=I1 s2
     rw[mO,nF]at this
     apply hc
     rw[←this];congr 1;omega
   · rw[IY (by omega),←s1]at s2
     exact hc (I0 hl hi (by omega) s2)
def hD(a:Nat)(c:UInt8)(s:cJ):cJ:=s.set a (s.getD a 0^^^c)
theorem Dn(a:Nat)(c:UInt8)(s:cJ):(hD a c s).length=s.length:=cY
theorem Dp(a:Nat)(c:UInt8)(s:cJ):aF (hD a c s)=(aF s).set a (.int .u8 ((s.getD a 0^^^c).toNat:Nat)):=by
 unfold aF hD;rw[List.map_set]
theorem I3(a:Nat)(s:cJ):hD a 0 s=s:=by
 unfold hD;rw[UInt8.xor_zero];refine List.ext_getElem? λj=>?_;by_cases c:a=j
 .subst c
  by_cases b:a<s.length
  .rw[List.getElem?_set_self b,eu b,c_ b]
  .rw[iU (by rw[cY];omega),iU I]
 .rw[nL c]
theorem I4{a b:Nat}(c:a<256)(d:b<256):kq .u8 (a:Int) (b:Int)=((a^^^b:Nat):Int):=by
 unfold kq;show IntKind.u8.wrap (((BitVec.ofInt 8 (a:Int)^^^BitVec.ofInt 8 (b:Int)).toNat:Nat):Int)=_;rw[show BitVec.ofInt 8 (a:Int)=BitVec.ofNat 8 a by simp,show BitVec.ofInt 8 (b:Int)=BitVec.ofNat 8 b by simp,BitVec.toNat_xor,BitVec.toNat_ofNat,BitVec.toNat_ofNat,iT (by simpa using c),iT (by simpa using d)];have:a^^^b<256:=qV (n:=8) c d;show((a^^^b:Nat):Int)%256=_;omega
theorem Dq(x c:UInt8):kq .u8 (x.toNat:Int) (c.toNat:Int)=(((x^^^c).toNat:Nat):Int):=by
 rw[I4 (lZ x) (lZ c),UInt8.toNat_xor]
theorem I5{f:cJ->cJ}{l:O cJ}{k:Nat}(a:k<l.length):((l.take k).map f++l.drop k).set k (f l[k])=(l.take (k+1)).map f++l.drop (k+1):=by
 have h1:((l.take k).map f).length=k:=by rw[dL,cv];omega
 rw[sJ _ _ I,h1,lW,iQ a,List.set_cons_zero,List.take_add_one,c_ a,fP,cD];rfl
def dB.sp(i a:Nat)(c:UInt8)(k:Nat)(x:dB):dB:=if x.i=i then {x with secs:=(x.secs.take k).map (hD a c)++x.secs.drop k} else x
def a6.gV(D:a6)(i a:Nat)(c:UInt8)(k:Nat):a6:={D with aZ:=D.aZ.set i (hD a c (D.aZ.getD i [])),waits:=D.waits.map (dB.sp i a c k)}
theorem dB.jU(i a:Nat)(c:UInt8)(k:Nat)(x:dB):(x.sp i a c k).i=x.i/\(x.sp i a c k).s=x.s:=by unfold dB.sp;split<;>exact⟨rfl,rfl⟩
theorem dB.zg(i a:Nat)(c:UInt8)(k:Nat)(x:dB):(x.sp i a c k).secs.length=x.secs.length:=by
 unfold dB.sp;split
 .simp;omega
 .rfl
theorem dB.I6(i a:Nat)(c:UInt8)(k:Nat)(x:dB):(x.sp i a c k).e=x.e:=by
 unfold dB.e;rw[(x.jU i a c k).1,(x.jU i a c k).2]
theorem dB.I7{i a:Nat}{c:UInt8}{k:Nat}{x:dB}{s:cJ}(h:s∈(x.sp i a c k).secs):∃t∈x.secs,s.length=t.length:=by
 unfold dB.sp at h;split at h
 .rcases cR.1 h with h|h
  .obtain⟨t,ht,rfl⟩:=dv.1 h
   exact⟨t,fe ht,Dn _ _ _⟩
  .exact⟨s,e6 h,rfl⟩
 .exact⟨s,h,rfl⟩
section
variable {w w':J}{D:a6}{sz:Nat}{T:TypeId}{s:U}{vs:O aa}{i a k:Nat}{c:UInt8}
theorem a8.I8(h:a8 sz T w s vs){j:Nat}{v0:aa}(d:vs[j]? =some v0)(v:aa):
 ∃b:Nat,s.a=some ⟨b,0,none⟩/\w.cell? ⟨b,j,none⟩=some v0/\w.frozen? ⟨b,j,none⟩=false/\a8 sz T (w.setCell ⟨b,j,none⟩ v) s (vs.set j v):=by
 obtain⟨h1,f,i,k⟩:=h;have o:=(ib.1 d).1;have p:s.len*sz<=s.cap*sz:=lX _ f;rcases k with ⟨_,hc⟩|⟨b,c,g,e,l,ht⟩
 .exfalso
  have:s.cap*sz=0:=by rw[hc,o5]
  omega
 .have m:Var w b c.toList T:=by
   show bq w b c.toList.toArray T;rw[Array.toArray_toList];exact e
  have n:j<c.toList.length:=by rw[Array.length_toList];omega
  obtain⟨bx,bG⟩:=dF m n;refine⟨b,g,?_,bG,by simpa using h1,f,i,.inr ⟨b,_,g,e.set j v,by simpa using l,?_⟩⟩
  .rw[e.cell]
   rw[←ht,qM]at d;rw[if_pos I]at d;simpa using d
  .rw[←ht]
   simp[List.take_set]
theorem zh:(D.gV i a c k).waits.map dB.e=D.waits.map dB.e:=by
 show(D.waits.map _).map _=_;rw[ic];exact qU λx _=>dB.I6 _ _ _ _ x
theorem I9{q:Nat}:bD (D.gV i a c k) q↔bD D q:=by
 unfold bD;refine or_congr Iff.rfl (or_congr Iff.rfl (or_congr Iff.rfl ⟨?_,?_⟩))
 .rintro⟨x,hx,b⟩
  obtain⟨y,d,rfl⟩:=dv.1 hx;exact⟨y,d,by rw[(y.jU i a c k).2]at b;exact b⟩
 .rintro⟨x,hx,b⟩
  exact⟨_,dv.2 ⟨x,hx,rfl⟩,by rw[(x.jU i a c k).2];exact b⟩
theorem b_.Dr{w0:J}(h:b_ w0 D)(hi:i<D.n)(m:Var w D.d D.c 141)(o:bq w D.lb (bE aF (D.aZ.set i (hD a c (D.aZ.getD i [])))).toArray 182)(p:eo w D.mr encZ (D.waits.map dB.e))(q:∀x∈D.waits,a8 256 182 w x.s (bE aF (x.sp i a c k).secs)):b_ w (D.gV i a c k):=by
 have j:i<D.aZ.length:=hi;have hs:(D.aZ.getD i []).length=256:=by rw[eu j];exact h.sl _ (cw j)
 have f:(D.gV i a c k).aZ.length=D.aZ.length:=cY;have hc:(D.gV i a c k).c=D.c:=by
  unfold a6.c;rw[f];rfl
 refine⟨by rw[hc];exact m,o,by rw[zh];exact p,λy b=>?_,λy b=>?_,λt ht=>?_,λy b t ht=>?_,by show 16<=(D.gV i a c k).aZ.length;rw[f];exact h.bS,by show(D.gV i a c k).aZ.length<=1600;rw[f];exact h.bp,h.f4,h.fr,h.a1,λy b=>?_,λy b z r l=>?_⟩
 .obtain⟨x,hx,rfl⟩:=dv.1 b
  rw[(x.jU i a c k).2];exact q x hx
 .obtain⟨x,hx,rfl⟩:=dv.1 b
  obtain⟨a1,a2,a3⟩:=h.wn x hx;refine⟨λe=>a1 (kl.1 (by rw[←x.zg i a c k,e];rfl)),?_,by rw[x.zg];exact a3⟩;show(x.sp i a c k).i<(D.gV i a c k).aZ.length;rw[f,(x.jU i a c k).1];exact a2
 .rcases lv ht with ht|rfl
  .exact h.sl t ht
  .rw[Dn];exact hs
 .obtain⟨x,hx,rfl⟩:=dv.1 b
  obtain⟨u,hu,e⟩:=dB.I7 ht;rw[e];exact h.je x hx u hu
 .obtain⟨x,hx,rfl⟩:=dv.1 b
  rw[(x.jU i a c k).2];exact h.a2 x hx
 .obtain⟨x,hx,rfl⟩:=dv.1 b
  obtain⟨g,v,rfl⟩:=dv.1 r;rw[(x.jU i a c k).1,(g.jU i a c k).1]at l;rw[(x.jU i a c k).2,(g.jU i a c k).2];exact h.a3 x hx g v l
theorem b_.I_(h:b_ w D)(hi:i<D.n)(k:a<256):
 w.cell? ⟨D.lb,i*256+a,none⟩=some (.int .u8 (((D.aZ.getD i []).getD a 0).toNat:Nat))/\w.frozen? ⟨D.lb,i*256+a,none⟩=false/\
 b_ (w.setCell ⟨D.lb,i*256+a,none⟩ (.int .u8 ((((D.aZ.getD i []).getD a 0)^^^c).toNat:Nat))) (D.gV i a c 0)/\ab (bD D) w (w.setCell ⟨D.lb,i*256+a,none⟩ (.int .u8 ((((D.aZ.getD i []).getD a 0)^^^c).toNat:Nat))):=by
 have b:i<D.aZ.length:=hi;have g:∀x∈D.aZ,(aF x).length=256:=λx hx=>by rw[dV];exact h.sl x hx
 have hs:(D.aZ.getD i []).length=256:=by rw[eu b];exact h.sl _ (cw b)
 have j:Var w D.lb (bE aF D.aZ) 182:=h.l;have p:(bE aF D.aZ).length=D.aZ.length*256:=gn _ g;have r:i*256+a<(bE aF D.aZ).length:=by rw[p];omega
 obtain⟨bx,bG⟩:=dF j r;have f:=dp w D.lb (i*256+a) (.int .u8 ((((D.aZ.getD i []).getD a 0)^^^c).toNat:Nat));have s:ab (bD D) w _:=f.mono λq _ e=>.inr (.inl e);have o:=dM j (i:=i*256+a) (.int .u8 ((((D.aZ.getD i []).getD a 0)^^^c).toNat:Nat));rw[x3 g b k (x:=hD a c (D.aZ.getD i [])) (by rw[Dp,eu b])]at o;have u:(D.gV i a c 0).waits=D.waits:=by
  show D.waits.map _=_
  conv=>rhs;rw[←List.map_id D.waits]
  refine qU λx _=>?_;unfold dB.sp;split
  .simp
  .rfl
 refine⟨?_,bG,?_,s⟩
 .rw[j.cell,oL g b k]
  unfold aF;rw[kn,←eu b (d:=[]),c_ I,eu (show a<(D.aZ.getD i []).length from I)];rfl
 .refine h.Dr hi (h.v.ad f h.a1.1) o (h.m.ad f (λe=>h.a1.2.2 e.symm)) λx hx=>?_
  have e:(x.sp i a c 0).secs=x.secs:=by
   unfold dB.sp;split
   .simp
   .rfl
  rw[e];exact(h.ws x hx).ad f λq t e=>(h.a2 x hx).2.1 (by rw[←e];exact t)
theorem b_.Ja{w0:J}(f:b_ w0 D)(h:b_ w (D.gV i a c k))(hi:i<D.n)(E:a<256){x:dB}(hx:x∈D.waits)(z:x.i=i)(u:k<x.secs.length):
 ∃b:Nat,x.s.a=some ⟨b,0,none⟩/\w.cell? ⟨b,k*256+a,none⟩=some (.int .u8 (((x.secs[k]).getD a 0).toNat:Nat))/\w.frozen? ⟨b,k*256+a,none⟩=false/\
 b_ (w.setCell ⟨b,k*256+a,none⟩ (.int .u8 ((((x.secs[k]).getD a 0)^^^c).toNat:Nat))) (D.gV i a c (k+1))/\ab (bD D) w (w.setCell ⟨b,k*256+a,none⟩ (.int .u8 ((((x.secs[k]).getD a 0)^^^c).toNat:Nat))):=by
 have F:x.sp i a c k∈(D.gV i a c k).waits:=dv.2 ⟨x,hx,rfl⟩;have es:(x.sp i a c k).secs=(x.secs.take k).map (hD a c)++x.secs.drop k:=by unfold dB.sp;rw[if_pos z]
 have A:k<(x.sp i a c k).secs.length:=by rw[dB.zg];exact u
 have h1:((x.secs.take k).map (hD a c)).length=k:=by rw[dL,cv];omega
 have G:(x.sp i a c k).secs[k]=x.secs[k]:=by
  have e:(x.sp i a c k).secs[k]? =some x.secs[k]:=by
   rw[es,ko I,h1,lW,nE,kk,c_ u]
  exact Option.some.inj ((c_ A).symm.trans e)
 have H:=h.ws _ F;rw[(x.jU i a c k).2]at H;have K:∀t∈(x.sp i a c k).secs,(aF t).length=256:=λt ht=>by rw[dV];exact h.je _ F t ht
 have hs:(x.secs[k]).length=256:=f.je x hx _ (cw u);have Q:(bE aF (x.sp i a c k).secs)[k*256+a]? =some (.int .u8 (((x.secs[k]).getD a 0).toNat:Nat)):=by
  rw[oL K A E,G];unfold aF;rw[kn,c_ I,eu (show a<(x.secs[k]).length from I)];rfl
 obtain⟨b,L,bx,bG,M⟩:=a8.I8 H Q (.int .u8 ((((x.secs[k]).getD a 0)^^^c).toNat:Nat));have R:(x.sp i a c k).secs.set k (hD a c x.secs[k])=(x.sp i a c (k+1)).secs:=by
  rw[es,I5 u];unfold dB.sp;rw[if_pos z]
 rw[x3 K A E (x:=hD a c x.secs[k]) (by rw[Dp,G]),R]at M;have g:=dp w b (k*256+a) (.int .u8 ((((x.secs[k]).getD a 0)^^^c).toNat:Nat));have o:az x.s b:=⟨_,L,rfl⟩;obtain⟨d1,d2,d3⟩:=f.a2 x hx;have S:(D.gV i a c k).aZ.length=D.aZ.length:=cY;have hc:(D.gV i a c k).c=D.c:=by
  unfold a6.c;rw[S];rfl
 have N:=h.v;rw[hc]at N;have O:=h.m;rw[zh]at O;refine⟨b,L,bx,bG,f.Dr hi (N.ad g λe=>d1 (by have e:D.d=b:=e;rw[e];exact o)) (bq.ad h.l g λe=>d2 (by have e:D.lb=b:=e;rw[e];exact o)) (O.ad g λe=>d3 (by have e:D.mr=b:=e;rw[e];exact o)) (λy B=>?_),g.mono λq _ e=>.inr (.inr (.inr ⟨x,hx,by rw[e];exact o⟩))⟩;by_cases C:y.i=i
 .have e:y=x:=by
   obtain⟨p,T,rfl⟩:=eY B;obtain⟨r,U,rfl⟩:=eY hx;have V:=(List.getElem_inj (i:=p) (j:=r) (h₀:=by simpa using T) (h₁:=by simpa using U) f.y7).1 (by simpa using C.trans z.symm);subst V;rfl
  subst e;exact M
 .have W:(y.sp i a c (k+1)).secs=(y.sp i a c k).secs:=by
   unfold dB.sp;rw[if_neg C,if_neg C]
  have P:=h.ws _ (dv.2 ⟨y,B,rfl⟩);rw[(y.jU i a c k).2]at P;rw[W];exact P.ad g λq X e=>f.a3 y B x hx I q X (by rw[e];exact o)
theorem Jb(h:b_ w D)(i a:Int)(c:UInt8)(Q:D.aN<=1000000000):aP ai 40 #[.pointer (some D.d),i,a,.int .u8 (c.toNat:Nat)] w (λv w'=>
 (v=false/\w=w')\/(v=true/\∃j b k:Nat,j<D.n/\b<256/\b_ w' (D.gV j b c k)/\ab (bD D) w w')):=by
 refine af.Ev _ i a (c.toNat:Nat) w _ ?_;(delta af.rE aK ak ag aI bX st av;dsimp only);refine(x5 h i).use ?_;rintro _ _ ⟨rfl,rfl⟩;refine⟨_,rfl,λ_=>.inl ⟨rfl,rfl⟩,λg=>?_⟩;simp only[nD,qW,cS,jA]at g;obtain⟨⟨⟨h1,R⟩,z⟩,S⟩:=g;obtain⟨j,rfl⟩:∃j:Nat,i=(j:Int):=⟨i.toNat,I⟩;obtain⟨b,rfl⟩:∃b:Nat,a=(b:Int):=⟨a.toNat,I⟩;have o:j<D.n:=by omega
 have g:b<256:=by omega
 have T:j<D.aZ.length:=o;have f:∀ (q k:Nat),Addr.add ((q:ae).add (Int.toNat (k:Int)*256)) (Int.toNat (b:Int)*1)=⟨q,k*256+b,none⟩:=λq k=>by rw[c8,c8,fz,aw,aw,cA]
 have r:=b6 w;have hd:=h.ext r;refine aS ?_;generalize w.drew=H at r hd;obtain⟨bx,bG,l,gl⟩:=hd.I_ (c:=c) o g;refine⟨_,rfl,id,⟨some D.lb,D.aZ.length,D.aZ.length⟩,hd.de,_,rfl,⟨I,by show(j:Int)<(D.aZ.length:Int);omega⟩,⟨I,I⟩,id,_,by rw[f];exact bx,_,rfl,⟨I,by show(j:Int)<(D.aZ.length:Int);omega⟩,⟨I,I⟩,⟨_,by rw[f];exact bx⟩,by rw[f];exact bG,?_⟩;rw[f,Dq];refine aS ?_;have t:ab (bD D) w _:=(r.mono λ_ _ h=>h.elim).trans gl;generalize H.setCell ⟨D.lb,j*256+b,none⟩ (.int .u8 ((((D.aZ.getD j []).getD b 0)^^^c).toNat:Nat))=u at l t;have A:∀ {w':J}{k:Nat},b_ w' (D.gV j b c k)->eo w' D.mr encZ (D.waits.map dB.e):=λh=>by have:=h.m;rw[zh]at this;exact this
 refine⟨_,rfl,_,l.ba,?_⟩
 cases hf:D.waits.find? λx=>x.i==j with
 |none=>
  obtain⟨U,t1,t2⟩:=qk x4;have K:=(A l).xf mv kG (k:=(j:Int)) t1 t2 (λv L=>by
   obtain⟨x,hx,he⟩:=dv.1 L;have z:=ig.1 hf x hx;unfold dB.e at he;simp only[Prod.mk.injEq]at he;apply z;have:x.i=j:=by omega
   rw[this];simp) false
  refine⟨⟨none,0,0⟩,u,K,λn w'=>n=0/\u=w',λ_ _=>0,⟨rfl,rfl⟩,?_⟩;rintro _ _ ⟨rfl,rfl⟩;exact⟨λaH=>(by cases aH),λ_=>.inr ⟨rfl,j,b,0,o,g,l,t⟩⟩
 |some x=>
  have hx:=iA hf;have B:x.i=j:=by simpa using jX hf
  have C:∀ {w':J}{k:Nat},b_ w' (D.gV j b c k)->Sem.run ai (Instr.lookup 137 (.map (some D.mr)) (.int .i64 (j:Int)) false) w'=.ok x.s w':=λh=>(A h).tj mv kG (k:=(j:Int)) (v:=x.s) (dv.2 ⟨x,hx,by unfold dB.e;rw[B]⟩) false;have hlen:x.s.len=x.secs.length:=by
   have M:=(h.ws x hx).1;rw[gn (c:=aF) (sz:=256) x.secs λs hs=>by rw[dV];exact h.je x hx s hs]at M;omega
  have V:=(h.wn x hx).2.2;refine⟨x.s,u,C l,λn w'=>∃k:Nat,n=(k:Int)/\k<=x.secs.length/\b_ w' (D.gV j b c k)/\ab (bD D) w w',λn _=>((x.secs.length:Int)-n).toNat,⟨0,rfl,cE _,l,t⟩,?_⟩;rintro _ y ⟨k,rfl,W,E,mg⟩;refine⟨λaH=>?_,λ_=>.inr ⟨rfl,j,b,k,o,g,E,mg⟩⟩;have aH:(k:Int)<(x.s.len:Int):=b2 aH;have F:=b6 y;have p:=E.ext F;have g6:ab (bD D) w y.drew:=mg.trans (F.mono λ_ _ h=>h.elim);refine aS ?_;generalize y.drew=N at p g6;obtain⟨q,G,au,O,P,tz⟩:=h.Ja p o g hx B (k:=k) I;refine⟨λ_=>False,_,rfl,id,_,p.ba,x.s,N,C p,λ_=>False,_,G,⟨I,aH⟩,⟨I,I⟩,id,_,by rw[f];exact au,_,G,⟨I,aH⟩,⟨I,I⟩,⟨_,by rw[f];exact au⟩,by rw[f];exact O,?_⟩;rw[f,Dq];refine aS ?_;rw[bu (n:=(k:Int)+1) I I];exact⟨⟨k+1,I,I,P,g6.trans tz⟩,by show((x.secs.length:Int)-((k:Int)+1)).toNat<((x.secs.length:Int)-(k:Int)).toNat;omega⟩
end
section
variable {w0 w w' w1 ah:J}{b7:Nat->Prop}{d n aT b c i j k:Nat}{l:fE}{S bW:cn}{pages aL br:O Nat}{L aX bf:O aJ}{m:dO}{D ax:a6}{s:cJ}{jy:UInt8}{no:Int}
theorem Jc{x c:UInt8}(hc:c≠0):x^^^c≠x:=λh=>by
 have:=congrArg (x^^^ ·) h
 simp only[←UInt8.xor_assoc,UInt8.xor_self,UInt8.zero_xor]at this
 exact hc this
theorem Jd(hs:s=e4\/∃p,da no s=.ok p)(hb:b<256)(hc:jy≠0):¬((hD b jy s).all λc=>c==0)=true/\∃e,da no (hD b jy s)=.error e:=by
 rcases hs with rfl|⟨p,hp⟩
 · have hz:e4.length=256:=by decide+kernel
   have hg:e4.getD b 0=0:=by
     rw[eu (show b<e4.length by omega)]
     have h1:=cw (show b<e4.length by omega)
     have h2:∀x∈e4,x=0:=λx hx=>o_ hx
     exact h2 _ h1
   have h0:∀q,q<256->e4[q]? =some 0:=λq hq=>by
     rw[c_ (by omega),(o_ (cw (show q<e4.length by omega)):e4[q]'(by omega)=0)]
   have e:hD b jy e4=e4.set b jy:=by unfold hD;rw[hg,UInt8.zero_xor]
   rw[e]
   refine⟨λh=>?_,4,?_⟩
   · rw[lk]at h
     have h1:=h jy (List.mem_iff_getElem.2 ⟨b,by rw[cY];omega,hJ _⟩)
     exact hc (by simpa using h1)
   · unfold da
     rw[if_neg (by rw[cY];omega),if_pos]
     intro h
     have jc:=congrArg (·[0]?) h
     have au:=congrArg (·[1]?) h
     simp only[nG (show 0<4 by decide),nG (show 1<4 by decide)]at jc au
     by_cases e:b=0
     · rw[nL (by omega),h0 1 (by decide)]at au
       exact absurd au (by decide)
     · rw[nL (by omega),h0 0 (by decide)]at jc
       exact absurd jc (by decide)
 · have hl:s.length=256:=by
     unfold da at hp
     split at hp
     · cases hp
     · rename_i hh;exact Decidable.not_not.1 hh
   have ht:s.take 4=gz:=by
     unfold da at hp
     split at hp; · cases hp
     split at hp; · cases hp
     rename_i hh;exact Decidable.not_not.1 hh
   have e:hD b jy s=s.set b (s.getD b 0^^^jy):=rfl
   refine⟨λh=>?_,?_⟩
   · rw[e,lk]at h
     have jc:=congrArg (·[0]?) ht
     have au:=congrArg (·[1]?) ht
     simp only[nG (show 0<4 by decide),nG (show 1<4 by decide)]at jc au
     by_cases eb:b=0
     · have h1:=h 84 (List.mem_iff_getElem?.2 ⟨1,by rw[nL (by omega)];exact au⟩)
       exact absurd h1 (by decide)
     · have h1:=h 83 (List.mem_iff_getElem?.2 ⟨0,by rw[nL (by omega)];exact jc⟩)
       exact absurd h1 (by decide)
   · rw[e,eu (show b<s.length by omega)]
     exact I2 hp hb hl (Jc hc)
theorem Je(h:b_ w D)(c:j<D.n){x:Nat}(hx:D.dc x=[]):(D.gV j b jy k).dc x=[]/\(D.gV j b jy k).now x=if x=j then hD b jy (D.aZ.getD x []) else D.aZ.getD x []:=by
 have d:j<D.aZ.length:=c;have hf:D.waits.find? (λy=>y.i==x)=none:=by
  unfold a6.dc at hx
  cases hf:D.waits.find? λy=>y.i==x with
  |none=>rfl
  |some y=>
   rw[hf]at hx;exact absurd hx (h.wn y (iA hf)).1
 have a:(D.gV j b jy k).waits.find? (λy=>y.i==x)=none:=by
  rw[ig]at hf⊢;intro y f;obtain⟨z,g,rfl⟩:=dv.1 f;rw[(z.jU j b jy k).1];exact hf z g
 refine⟨by unfold a6.dc;rw[a],?_⟩;unfold a6.now;rw[a];show(D.aZ.set j (hD b jy (D.aZ.getD j []))).getD x []=_;rw[eX,eX];by_cases e:x=j
 .subst e
  rw[List.getElem?_set_self d,if_pos rfl,eX];rfl
 .rw[nL I,if_neg e,eX]
theorem e5.again(h:e5 w0 w b7 d n l S pages L aL aX c)(f:ab (bD S.T.C.D) w w1)(hd:ax.d=d)(v:ax.n=n)(F:ax.aN<=S.T.C.D.aN)(i:∀q,bD ax q->bD S.T.C.D q)(y:di ah bW br bf br bf)(b:wz ax l b7 9000 w1 ah bW)(hg:bW.gen<=S.gen+1)(j:bf.length<=c+1):
 e5 w0 ah b7 d n l bW br bf br bf (c+1)/\∀aT m,b7 aT->eL (λq=>¬S.T.M q) w aT m->eL (λq=>¬bW.T.M q) ah aT m:=by
 have G:=h.aN;have H:=h.gen;have J:=f.size;have g:∀q,bD ax q->S.T.M q:=λq a=>.inl (.inr (.inr (i q a)));have k:∀q,b7 q->S.T.M q:=λq a=>.inr (.inr (.inr (.inl (h.hC a).1)));have o:∀q,b7 q->¬bD S.T.C.D q:=λq a hf=>h.at_.t.jd (h.hC a).1 (.inl (.inr (.inr hf)));have p:Ext w0 w1:=Ext.dd h.x f λq a=>h.kR q (.inl (.inr (.inr a)));have z:Ext w0 ah:=Ext.dd p b.ad λq a=>h.kR q (g q a);have r:∀q,bW.T.M q->S.T.M q\/w1.heap.size<=q:=λq a=>by
  rcases b.M q a with h1|h1|h1
  .exact .inl (g q h1)
  .exact .inl (k q h1)
  .exact .inr h1
 refine⟨⟨z,y,b.E,λhs=>?_,λq a=>?_,b.l,b.d.trans hd,b.n.trans v,?_,⟨j,j⟩,I,by rw[b.du];omega⟩,λaT m he A=>?_⟩
 .have:=h.at_.t.lt (k _ hs)
  have:=b.st;omega
 .rcases r q a with h1|h1
  .exact h.kR q h1
  .have:=p.size;omega
 .have:=b.aN
  omega
 .have s:bW.T.M aT:=.inr (.inr (.inr (.inl ((b.E aT).2 (.inr he)))))
  have h1:=A.ad f (o aT he) λq a _ hf=>a (.inl (.inr (.inr hf)));have B:=h1.aW (C:=λq=>¬S.T.M q/\¬bW.T.M q) (λq K u=>⟨u,λa=>by
   rcases r q a with e|e
   .exact u e
   .omega⟩) λe=>e.2 s
  exact(B.ad b.ad (λhf=>o aT he (i aT hf)) λq a _ hf=>a.1 (g q hf)).aW (λ_ _ h=>h.2) λh=>h s
end
set_option maxRecDepth 100000 in
theorem Jf.of {w:J}{v:aa} (h:l_ ai w 84 v):∃ (i a:Int) (c:UInt8),v=.agg #[i,a,.int .u8 (c.toNat:Nat)]:=by
 have hu:Tryz.prog.underlying 84=some (.struct (fieldsOf ai 84)):=by kernel_rfl
 unfold l_ at h;rw[hu]at h;obtain⟨cs,rfl,fuel,h⟩:=h;have hlen:cs.toList.length=3:=by
  have:=(w8 h hu).1;rwa[show Tryz.prog.cellsOf 84=3 by kernel_rfl]at this
 obtain⟨_,f0⟩:=mf h hu 0 (t:=3) (o:=0) (n:=1) (by kernel_rfl) (by kernel_rfl);obtain⟨_,f1⟩:=mf h hu 1 (t:=3) (o:=1) (n:=1) (by kernel_rfl) (by kernel_rfl);obtain⟨_,f2⟩:=mf h hu 2 (t:=5) (o:=2) (n:=1) (by kernel_rfl) (by kernel_rfl);obtain⟨l,d,_⟩:=mZ f0 (k:=.i64) (by kernel_rfl);obtain⟨bS,e,_⟩:=mZ f1 (k:=.i64) (by kernel_rfl);obtain⟨bp,f,g,j⟩:=mZ f2 (k:=.u8) (by kernel_rfl);have g:(0:Int)<=bp:=g;have j:bp<=255:=j;have m:bp=(((UInt8.ofNat bp.toNat).toNat:Nat):Int):=by rw[UInt8.toNat_ofNat'];omega
 refine⟨l,bS,UInt8.ofNat bp.toNat,?_⟩;rw[←m];have p:cs=cs.toList.toArray:=rfl;rw[p]
 match cs.toList,hlen,d,e,f with
 | [a,b,c],_,d,e,f=>
  simp at d e f;rw[d,e,f]
theorem Jg{w:J}{ls:U}{A:O iv}{R sa:Int}{F:UInt8}(sy:kQ w ls A):
 aP ai 7 #[ls,.agg #[R,sa,.int .u8 (F.toNat:Nat)]] w (λv w'=>v=true/\Ext w w'):=by
 have bu:=sy.len;refine okF (af.vp ls R sa (F.toNat:Nat)) ay.vp func7 ?_;(delta af.vp ru tA Y de r1 bw ak js aI ag tz tB aK av aR aA bX b8;dsimp only);refine bh (vs:=[R,sa,.int .u8 (F.toNat:Nat)]) rfl λw1 bv al cu=>(mj (b:=5) (d:=9) I I w1).use ?_;rintro _ ah ⟨rfl,W⟩;refine⟨_,_,_,rfl,IW (l:=lU 149) λE am X=>(n3 (n:=120) I I E).use ?_⟩;rintro _ cw ⟨d,lb,mr,rfl,bx,a0,bz⟩;have an:=am.ext a0;refine⟨_,0,rfl,_,an.cell,_,by rw[aw];exact an.cell,_,by rw[aw];exact an.cell,(De (l:=lU 149) (b7:=λ_=>False) bx (Dk 149) (λk=>⟨.inl rfl,.inl rfl⟩) rfl (by show 0<=999999000;omega) (λq h=>h.elim)).use ?_⟩;rintro _ z ⟨r,rfl,bA,G,hu,hg⟩;have bB:=e5.new (w0:=E) a0 bA G hu hg bz (λq h=>h.elim) rfl;have bC:=(bv.ext W).ext X;have ar:=sy.ext ((al.trans W).trans X);refine⟨_,0,rfl,λh=>(by cases h),λ_=>⟨o2.c.toArray,by kernel_rfl,bh (vs:=o2.c) rfl λa8 bE bF cx=>?_⟩⟩;have bG:=bB.grow (bV:=λq=>q=z.heap.size) bF λq a=>.inr ⟨I,I⟩;have bH:eL (λq=>¬(r.own λq=>q=z.heap.size).T.M q) a8 z.heap.size o2:=IV bE λh=>h (.inr (.inr (.inr (.inl (.inr rfl)))));have Z:gF E a8 (λq=>q=z.heap.size) d (nm 120 d lb mr).n (lU 149) z.heap.size (r.own λq=>q=z.heap.size) [] [] [] [] o2 0:=
  ⟨bG,G.live,rfl,bH,⟨rfl,rfl,G.du.symm,by show 0=r.now;rw[G.now,hu];rfl,λh=>absurd G.du h,by show 0=r.u.cC;rw[hu];rfl,by show 0=r.u.clock;rw[hu];rfl⟩⟩
 have ao:(r.own λq=>q=z.heap.size).T.C.D.quiet:=G.q;have ap:(r.own λq=>q=z.heap.size).st=r.st:=rfl;generalize cy:z.heap.size=aT at Z ao ap⊢;generalize r.own (λq=>q=aT)=bI at Z ao ap;generalize (nm 120 d lb mr).n=bm at Z;refine⟨λn w'=>∃ (i:Nat) (S:cn) (pages aL:O Nat) (L aX:O aJ) (m:dO),n=(i:Int)/\i<=60/\i<=A.length/\gF E w' (λq=>q=aT) d bm (lU 149) aT S pages L aL aX m (8*i)/\S.T.C.D.quiet/\S.st=r.st,
  λn _=>((60:Int)-n).toNat,⟨0,bI,[],[],[],[],o2,rfl,I,cE _,Z,ao,ap⟩,?_⟩
 rintro _ bJ ⟨i,S,pages,aL,L,aX,m,rfl,hi,cz,p,a,aa⟩;refine⟨λaH=>?_,λcA=>?_⟩
 .obtain⟨h1,aq⟩:=IG (m:=60) bu aH
  refine IU ar p.s.x h1 λcB cD bL sv sl bM cF au a_=>?_;have ba:∀q,bJ.heap.size<=q->¬S.T.M q:=λq a bN=>by have:=p.s.at_.t.lt bN;omega
  refine⟨_,au.cell,IS (A[i].kind==5) (λ_ k bO=>⟨_,au.cell,bO _ (.refl _ _)⟩) λcG ac=>?_⟩;have az:=(p.ext bM).ext ac;have H:=au.ext ac;have aB:=am.ext az.s.x;refine cm (λbP w'=>bP=false/\∃ (aC:cn) (eE fV:O Nat) (fG fq:O aJ) (P:dO),aC.st=S.st/\gF E w' (λq=>q=aT) d bm (lU 149) aT aC eE fG fV fq P (8*i+2)/\aC.T.C.D.quiet) (λcH bb=>⟨λ_=>⟨_,H.cell,_,by rw[aw];exact H.cell,_,by rw[aw];exact H.cell,bL,by rw[aw];exact H.cell,sv,by rw[aw];exact H.cell,sl,by rw[aw];exact H.cell,_,aB.cell,_,by rw[aw];exact aB.cell,_,by rw[aw];exact aB.cell,?_⟩,λ_=>bb _ _ ⟨rfl,S,pages,aL,L,aX,m,rfl,az.mono I,a⟩⟩) ?_
  .have bc:=ov (kind:=A[i].kind) (nn:=A[i].n) (after:=A[i].after) (sl:=sl) az a I (a7.aW (a7.ext a_.k ac) λq _ a=>ba q a) (a7.aW (a7.ext a_.v ac) λq _ a=>ba q a) (by rw[cv];omega) (by rw[cv];omega)
   rw[aa]at bc;refine bc.use ?_;rintro _ bQ ⟨rfl,aC,eE,fG,fV,fq,P,aD,aE,aF⟩;exact⟨true,rfl,bb _ _ ⟨rfl,aC,eE,fV,fG,fq,P,by rw[aF,aa],aD,aE⟩⟩
  .rintro _ bR ⟨rfl,aC,eE,fV,fG,fq,P,aF,aD,aE⟩
   refine⟨λh=>(by cases h),λ_=>?_⟩;rw[IH I];exact⟨⟨i+1,aC,eE,fV,fG,fq,P,rfl,I,I,aD.mono I,aE,aF.trans aa⟩,by show((60:Int)-((i+1:Nat):Int)).toNat<((60:Int)-(i:Int)).toNat;omega⟩
 have cI:=p.s.at_.num;have cJ:=p.s.gen;have bS:m.cC<1000000000000:=by rw[p.jk.cC];omega
 refine(wk p.md bS).use ?_;rintro _ cK ⟨rfl,bT,bU⟩;have K:=p.s.jS p.iw bT;have cL:=K.eQ;have cM:=K.aN;have cN:=K.qF;have cO:=K.low I;have be:=y2 K.at_ I I I;rw[aa]at be;refine⟨rfl,be.use ?_⟩;rintro v bY (⟨hf,_⟩|⟨_,bW,aG,cQ,hx⟩)
 .rw[p.live]at hf;cases hf
 obtain⟨rfl,_,B,bZ,cR,_,_,cS⟩:=hx.qG a;have f:=K.step B aG I ⟨I,I⟩ I I;have b0:=bU.kS aG (p.s.hC p.iw).1 (p.s.hC p.iw).2;have bf:=aG.q a;have aM:=bC.ext f.x;have ad:=B.t.ca.raw.dev;have fR:=Jb ad R sa F (by have:=f.aN;omega);rw[f.d]at fR;refine⟨0,rfl,λo=>(by cases o),λ_=>⟨_,aM.cell,_,by rw[aw];exact aM.cell,_,by rw[aw];exact aM.cell,fR.use ?_⟩⟩;intro v aO b1;obtain⟨aQ,bd,rfl,aS,Q,b2,aU,b3,cT,aV,dR⟩:∃ (aQ:aj) (bd:a6),v=aQ/\b_ aO bd/\ab (bD bW.T.C.D) bY aO/\bd.quiet/\bd.d=bW.T.C.D.d/\bd.n=bW.T.C.D.n/\bd.aN=bW.T.C.D.aN/\(∀q,bD bd q->bD bW.T.C.D q)/\∀x,bW.T.g x=true->bd.dc x=[]/\(bd.now x=bW.V x\/oZ bd x):=by
  have aY:∀x,bW.T.g x=true->bW.T.C.D.dc x=[]:=λx hx=>by
   have aq:=B.t.ca.inv.kH x (B.bK x hx);rw[(B.live bZ).2.1]at aq;exact aq
  have b4:∀x,bW.T.g x=true->bW.T.C.D.now x=bW.V x:=λx hx=>by
   have h1:=aY x hx;have hf:bW.T.C.D.waits.find? (λy=>y.i==x)=none:=by
    unfold a6.dc at h1
    cases hf:bW.T.C.D.waits.find? λy=>y.i==x with
    |none=>rfl
    |some y=>
     rw[hf]at h1;exact absurd h1 (ad.wn y (iA hf)).1
   unfold a6.now;rw[hf];rfl
  rcases b1 with ⟨rfl,rfl⟩|⟨rfl,j,b,k,b5,o,aS,Q⟩
  .exact⟨_,bW.T.C.D,rfl,ad,.refl _ _,bf,rfl,rfl,rfl,λ_ h=>h,λx hx=>⟨aY x hx,.inl (b4 x hx)⟩⟩
  .refine⟨_,_,rfl,aS,Q,bf,rfl,cY,rfl,λq a=>I9.1 a,λx hx=>?_⟩
   obtain⟨a1,a2⟩:=Je (b:=b) (jy:=F) (k:=k) ad b5 (aY x hx);refine⟨a1,?_⟩;by_cases bi:F=0
   .left
    rw[a2,bi];split
    .exact I3 _ _
    .rfl
   .by_cases ex:x=j
    .right
     rw[if_pos ex]at a2;have b6:=B.fL.sound hx;unfold oZ;rw[a2];exact Jd b6 o bi
    .left
     rw[a2,if_neg ex];rfl
 have bj:Ext E aO:=Ext.dd f.x Q λq a=>f.kR q (.inl (.inr (.inr a)));have aZ:=am.ext bj;have cU:=Q.size;have bk:bd.n=bm:=by rw[b3];exact B.t.n.trans f.n
 have bl:=B.fL;rw[f.n,←bk]at bl;have cV:=f.eQ;have cW:=f.low I;have cX:=f.aN;have cZ:=f.gen;have bn:=n_ (D:=bd.fF bW.T.g λ_=> []) (b7:=λq=>q=aT) (l:=lU 149) (aS.fF _ _) b2 (by show bd.aN<=_;omega) (λx hx=>(dR x hx).1) (Dk 149) bl (λx hx=>(dR x hx).2) rfl rfl I I I λq a=>by
  have bo:=f.hC (q:=q) a;exact⟨by have:=f.at_.t.lt (q:=q) (.inr (.inr (.inr (.inl bo.1))));omega,λhf=>f.at_.t.jd bo.1 (.inl (.inr (.inr (aV q hf))))⟩
 rw[show(bd.fF bW.T.g λ_=> []).d=d from aU.trans f.d]at bn;refine⟨aQ,rfl,_,aZ.cell,_,by rw[aw];exact aZ.cell,_,by rw[aw];exact aZ.cell,bn.use ?_⟩;rintro _ ae ⟨bp,⟨fx,rfl,b9,a1,a2,a3,a4,a5,c1,dx,c2,a9,dT,dA,ez,cP⟩|⟨e,rfl,he,_⟩⟩
 .obtain⟨N,cb⟩:=f.again (ax:=bd.fF bW.T.g λ_=> []) Q (aU.trans f.d) bk (by show bd.aN<=_;omega) aV b9 ⟨a1,a5,by rw[a4,a2],c1,dx.trans (aU.trans f.d).symm,c2,a9,dT,dA,ez,cP,bp⟩ I I
  have cc:=cb aT _ rfl b0;have c0:=N.aN;have c3:=N.low I;refine⟨_,0,rfl,λo=>(by cases o),λ_=>(C6 (fD:=bg) (fy:=bg) (most:=2000) N.at_ I I I (za ae) (λq a=>(gg q a).elim) (za ae) (λq a=>(gg q a).elim) (by decide)).use ?_⟩;rintro _ cd ⟨jJ,ce,bq,br,⟨cf,rfl,bs⟩|⟨_,cg⟩⟩
  rotate_left
  .exact absurd a9 cg
  have ch:=N.step ce bq I ⟨I,I⟩ (by rw[br.gen];omega) (by rw[br.pending];omega);have bt:=cc.kS bq (N.hC rfl).1 (N.hC rfl).2;have ci:(eP L [] []).take (Int.toNat 2000)=L:=by rw[II,dI (by show L.length<=2000;omega)]
  rw[ci]at bs;have cj:m.now=L:=p.jk.now;refine⟨cf,0,rfl,cm (λb w'=>b=true/\Ext cd w') (λq a=>⟨λ_=>⟨_,rfl,_,by rw[aw];exact bt.v.cell,(ou bs bt.sure I).use ?_⟩,λo=>(by cases o)⟩) ?_⟩
  .rintro _ c4 ⟨b,rfl,o,ck⟩
   obtain rfl:b=true:=o.2 cj.symm;exact⟨true,rfl,a _ _ ⟨rfl,ck⟩⟩
  rintro _ cl ⟨rfl,co⟩;refine cm (λb w'=>b=true/\Ext w w') (λq a=>⟨λ_=>(Di cl).use ?_,λo=>(by cases o)⟩) ?_
  .rintro _ c5 ⟨rfl,cp⟩
   exact⟨true,rfl,a _ _ ⟨rfl,(((((al.trans W).trans X).trans ch.x).trans co).trans cp)⟩⟩
  .rintro _ c6 ⟨rfl,cq⟩
   exact⟨rfl,cq⟩
 .have cr:Ext E ae:=Ext.dd bj bp λq a=>f.kR q (.inl (.inr (.inr (aV q a))))
  refine⟨none,e,rfl,λ_=>cm (λb w'=>b=true/\Ext w w') (λq a=>⟨λ_=>(Di ae).use ?_,λo=>(by cases o)⟩) ?_,λo=>?_⟩
  .rintro _ bQ ⟨rfl,cs⟩
   exact⟨true,rfl,a _ _ ⟨rfl,((((al.trans W).trans X).trans cr).trans cs)⟩⟩
  .rintro _ bR ⟨rfl,ct⟩
   exact⟨rfl,ct⟩
  .simp at o;exact absurd o he
end Go.Proofs.YtkdhdlfonmgheaaGreat
