/- Contracts of the functions that the statement reaches, and the plain laws over them; each theorem stands with its conditions. -/
import Derived.Test.YtkdhdlfonmgheaaGreatBAPlays4
namespace Go.Proofs.YtkdhdlfonmgheaaGreat
open Go aS Go.Proofs.Tryz
theorem dt.zU{P:Nat->av aG}{lo hi:av Key}{h:Nat}{n:aG}{p:O Nat}{L:O aR}(a:dt P h n lo hi p L)(h2:n.leaf=true->bN n<=310)(d:n.leaf=false->bN n<=335)(g:n.leaf=false->n.keys≠ []):mg n:=by
 refine⟨?_,by cases e:n.leaf;exact eC (d e) (by decide);exact eC (h2 e) (by decide),λhs=>?_⟩
 .cases h with
  |zero=>exact a.elim
  |succ h=>
   cases h with
   |zero=>exact .inl a.1
   |succ h=>
    obtain⟨aw,ax,b,c,f⟩:=a;have hs:=f.sorted λ_ _ _ _ _ i=>i.in;exact .inr ⟨⟨b,hs.2.2.1⟩,aw,g aw,f.len,ax,c⟩
 .obtain⟨aw,ax,b,c,_⟩:=a.two (Q:=P) (x:=0) (y:=0) hs h2 d
  exact⟨aw,ax,b,c⟩
section
variable {P:Nat->av aG}{lo hi:av Key}
theorem Js{h:Nat}{d f:aG}{p A:av Key}{i:Nat}{bh D:O Nat}{bp h_:O aR}{k:Key}(E:∀k∈d.keys,cI k)(hlen:d.kids.length=d.keys.length+1)(F:∀x n,P x=some n->bN n<=232)
 (dR:1<=i) (Q:i<d.kids.length) (B:fL p A k)
 (G:fC (fq P (h+1)) lo p (d.keys.take i) (d.kids.take i) bh bp) (q:dt P (h+1) f p A D h_) (h1:bN f<80):
 ∃ (o:aG) (R:i-1<d.kids.length) (S:i-1<d.keys.length),P d.kids[i-1]=some o/\o.leaf=f.leaf/\cI d.keys[i-1]/\mg (ee o d.keys[i-1] f):=by
 obtain⟨s,H,aL,r,bF,N,hs,rfl,t,rfl,rfl,⟨u,m,g,v⟩,T,U⟩:=G.last (by rw[cz];omega);have V:(d.keys.take i).length=i:=by rw[cz];omega
 have W:(d.kids.take i).length=i:=by rw[cz];omega
 have t:s=d.keys[i-1]'I:=by
  rw[t,ou];congr 1;omega
 have J:(d.kids.take i)[(d.kids.take i).length-1]'I=d.kids[i-1]'I:=by
  rw[ou];congr 1;omega
 rw[J]at u g;obtain⟨o,K,j,rfl,_,w⟩:=u.kY;rw[j]at g;have v:2<=o.keys.length:=by rw[Option.some.inj g];exact v
 clear g;subst t;have y:=(show fq P (h+1) H (some (d.keys[i-1]'I)) (d.kids[i-1]'I) (d.kids[i-1]'I::K) N from⟨u,o,j,v⟩).in;obtain⟨x,hx⟩:=p2 _ y.1;have z:=E _ (cW (l:=d.keys) (n:=i-1) I);have L:=dt.merge w q z (λc hc=>iH (kC ((y.2.2 x hx).1 c hc) ((y.2.2 x hx).2 _ rfl))) (λc hc=>iH (kC (B.1 _ rfl) (B.2 c hc)));have C:=wK w q z (by have:=F _ _ j;omega);have M:=wJ (a:=o) (b:=f) (s:=d.keys[i-1]'I);refine⟨o,I,I,j,by rw[w.leaf,q.leaf],z,L.zU C.1 C.2 λ_ e=>?_⟩;rw[e,lp]at M;omega
theorem Jt{h:Nat}{d f:aG}{B q:av Key}{i:Nat}{bj E:O Nat}{h_ bJ:O aR}{k:Key}(F:∀k∈d.keys,cI k)(hlen:d.kids.length=d.keys.length+1)(G:∀x n,P x=some n->bN n<=232)
 (g:i+1<d.kids.length) (C:fL B q k)
 (H:gN (fq P (h+1)) hi q (d.keys.drop i) (d.kids.drop (i+1)) bj bJ) (t:dt P (h+1) f B q E h_) (h1:bN f<80):
 ∃ (o:aG) (R:i+1<d.kids.length) (S:i<d.keys.length),P d.kids[i+1]=some o/\o.leaf=f.leaf/\cI d.keys[i]/\mg (ee f d.keys[i] o):=by
 obtain⟨s,J,r,T,N,U,hs,rfl,u,rfl,rfl,⟨v,m,j,w⟩,V⟩:=H.head (by rw[dw];omega);have u:s=d.keys[i]'I:=by rw[u,tU];rfl
 have K:(d.kids.drop (i+1))[0]'(by rw[dw];omega)=d.kids[i+1]'g:=by rw[tU]
 rw[K]at v j;obtain⟨o,L,p,rfl,_,y⟩:=v.kY;rw[p]at j;have w:2<=o.keys.length:=by rw[Option.some.inj j];exact w
 clear j;subst u;have z:=(show fq P (h+1) (some (d.keys[i]'I)) J (d.kids[i+1]'g) (d.kids[i+1]'g::L) N from⟨v,o,p,w⟩).in;obtain⟨x,hx⟩:=p2 _ z.1;have A:=F _ (cW (l:=d.keys) (n:=i) I);have M:=dt.merge t y A (λc hc=>iH (kC (C.1 c hc) (C.2 _ rfl))) (λc hc=>iH (kC ((z.2.2 x hx).1 _ rfl) ((z.2.2 x hx).2 c hc)));have D:=wK t y A (by have:=G _ _ p;omega);have Q:=wJ (a:=f) (b:=o) (s:=d.keys[i]'I);refine⟨o,g,I,p,by rw[y.leaf,t.leaf],A,M.zU D.1 D.2 λ_ e=>?_⟩;rw[e,lp]at Q;omega
inductive Ctx (P:Nat->av aG) (k:Key) (top:Nat):Nat->av Key->av Key->O (Nat×aG×Nat)->O Nat->O aR->O aR->Prop
 |top:Ctx P k top top none none [] [] [] []
 |step {eX:Nat}{lo hi a b:av Key}{st:O (Nat×aG×Nat)}{c0:O Nat}{A B:O aR}{no:Nat}{n:aG}{bh bj:O Nat}{bp bJ:O aR} (h:Ctx P k top (eX+2) lo hi st c0 A B) (c:P no=some n) (d:n.leaf=false) (e:∀k∈n.keys,cI k) (f:∀x∈n.kids,x<1600)
  (hlen:n.kids.length=n.keys.length+1) (g:n.keys≠ []) (i:st≠ []->2<=n.keys.length) (j:fL a b k) (l:fC (fq P (eX+1)) lo a (n.keys.take (dy n.keys k)) (n.kids.take (dy n.keys k)) bh bp)
  (m:gN (fq P (eX+1)) hi b (n.keys.drop (dy n.keys k)) (n.kids.drop (dy n.keys k+1)) bj bJ):Ctx P k top (eX+1) a b (st++ [(no,n,dy n.keys k)]) (no::(bh++(bj++c0))) (A++bp) (bJ++B)
theorem Ctx.eX{k:Key}{top eX:Nat}{st:O (Nat×aG×Nat)}{c0:O Nat}{A B:O aR}(h:Ctx P k top eX lo hi st c0 A B):eX+st.length=top:=by
 induction h with
 |top=>rfl
 |step h _ _ _ _ _ _ _ _ _ _ a=>rw[cG,jC];omega
theorem Ctx.agree{Q:Nat->av aG}{k:Key}{top eX:Nat}{st:O (Nat×aG×Nat)}{c0:O Nat}{A B:O aR}(h:Ctx P k top eX lo hi st c0 A B)(a:∀x∈c0,P x=Q x):Ctx Q k top eX lo hi st c0 A B:=by
 induction h with
 |top=>exact .top
 | @step eX lo hi p q st c0 A B no n bh bj bp bJ h c d e f hlen g i j l m o=>
  refine .step (o λx hx=>a x (by simp[hx])) (by rw[←a no (by simp)];exact c) d e f hlen g i j (l.l9 λ_ _ _ _ _ hs b=>b.agree λx hx=>a x ?_) (m.l9 λ_ _ _ _ _ hs b=>b.agree λx hx=>a x ?_)
  .have:=hs x hx;simp[this]
  .have:=hs x hx;simp[this]
theorem Ctx.down{k:Key}{top:Nat}:∀ {eX:Nat}{lo hi:av Key}{st:O (Nat×aG×Nat)}{c0:O Nat}{A B M bF:O aR}{no:Nat}{p:O Nat},Ctx P k top (eX+1) lo hi st c0 A B->e0 P (eX+1) lo hi no p M->(st≠ []->∃m,P no=some m/\2<=m.keys.length)->fL lo hi k->bF=A++(M++B)->(∀u,Loc k u->u bF=A++(u M++B))->
 ∃ (rest a:O (Nat×aG×Nat)) (b:Nat) (bW:aG) (ft dR:av Key) (f:O Nat) (c d:O aR),ob P k (eX+1) no rest/\st++rest=a++ [(b,bW,0)]/\Ctx P k top 1 ft dR a f c d/\P b=some bW/\hC bW/\bW.within ft dR/\bW.keys≠ []/\(a≠ []->2<=bW.keys.length)/\fL ft dR k/\
  (p++c0).Perm (b::f)/\bF=c++(bW.dW++d)/\∀u,Loc k u->u bF=c++(u bW.dW++d)
 |0,lo,hi,st,c0,A,B,M,bF,no,p,hc,h,h2,i,j,hu=>by
  obtain⟨n,h1,g,v,w,rfl,rfl⟩:=h
  refine⟨[(no,n,0)],st,no,n,lo,hi,c0,A,B,⟨n,[],h1,by rw[g.leaf];rfl,rfl,rfl⟩,rfl,hc,h1,g,v,w,λhs=>?_,i,List.Perm.refl _,j,hu⟩
  obtain⟨m,e,l⟩:=h2 hs
  rw[h1]at e;cases e
  exact l
 |eX+1,lo,hi,st,c0,A,B,M,bF,no,p,hc,h,h2,i,j,hu=>by
  obtain⟨n,U,h1,rfl,g,o⟩:=h.kY
  obtain⟨V,W,bh,q,bj,bp,h_,bJ,x,rfl,rfl,r,s,y,hlen,z,C⟩:=o.at i
  obtain⟨aw,ax,D,E,_⟩:=o
  have F:=Ctx.step hc h1 aw D E hlen g (λhs=>by
   obtain⟨m,e,l⟩:=h2 hs
   rw[h1]at e;cases e
   exact l) s z C
  obtain⟨rest,a,b,bW,ft,dR,f,c,d,r1,aF,b5,aY,dF,G,H,J,K,L,N,Q⟩:=Ctx.down (bF:=bF) F r.1 (λ_=>r.2) s (by rw[j];simp only[cM]) (λu t=>by rw[hu u t,y u t];simp only[cM])
  refine⟨(no,n,dy n.keys k)::rest,a,b,bW,ft,dR,f,c,d,⟨n,rest,h1,by rw[aw];simp,by rw[if_neg I],?_⟩,?_,b5,aY,dF,G,H,J,K,?_,N,Q⟩
  .rw[gd,dU x]
   exact r1
  .rw[←aF];simp
  .refine List.Perm.trans ?_ L
   have R:(no::(bh++(q++bj))++c0)=no::(bh++(q++(bj++c0))):=by simp[cM]
   rw[R]
   have S:(q++no::(bh++(bj++c0))).Perm (no::(q++(bh++(bj++c0)))):=nn
   refine List.Perm.trans ?_ S.symm
   refine List.Perm.cons _ ?_
   have T:=(rQ (l₁:=bh) (l₂:=q)).append_right (bj++c0)
   simpa[cM] using T
end
theorem zV{α:Type}(a b c:O α):(a++(b++c)).Perm (a++c++b):=by
 rw[cM];exact(rQ (l₁:=b) (l₂:=c)).append_left a
theorem Ctx.up{P:Nat->av aG}{lo hi:av Key}{k:Key}{top eX:Nat}{st R:O (Nat×aG×Nat)}{c0:O Nat}{A B:O aR}{u:dO}{a:aG}{q:O Nat}{M:O aR}(hc:Ctx P k top eX lo hi st c0 A B)(aa:st=R++ [u.st])(c:dt P eX a lo hi q M)(F:∀x n,P x=some n->bN n<=232)(hs:bN a<=282):
 ∃ (d f:av Key) (G:O Nat) (g j:O aR) (ps:O Nat),Ctx P k top (eX+1) d f R G g j/\c0=u.no::(ps++G)/\P u.no=some u.n/\u.c4<u.n.kids.length/\u.n.kids.length=u.n.keys.length+1/\u.n.keys≠ []/\(R≠ []->2<=u.n.keys.length)/\
  (80<=bN a->∀ (Q:Nat->av aG) (ks:O Key) (kids:O Nat),mW Q a ks kids->(∀x∈ps++q,P x=Q x)->(∀x∈kids,x<1600)->∃ (eB:O Nat) (l:O aR),dt Q (eX+1) (gk u.n u.c4 (u.c4+1) ks kids) d f eB l/\g++(l++j)=A++(M++B)/\eB.Perm (kids++(ps++q))/\
    bN (gk u.n u.c4 (u.c4+1) ks kids)<=bN u.n+27/\u.n.keys.length<=(gk u.n u.c4 (u.c4+1) ks kids).keys.length+1)/\
  (bN a<80->∃ (o:aG) (no:Nat) (rest:O Nat),u.n.kids[kf u]? =some no/\P no=some o/\o.leaf=a.leaf/\u.c4-1<u.n.keys.length/\cI (u.n.keys.getD (u.c4-1) [])/\mg (mi u a o)/\ps.Perm (no::rest)/\
    ∀ (Q:Nat->av aG) (ks:O Key) (kids:O Nat),mW Q (mi u a o) ks kids->(∀x∈rest++q,P x=Q x)->(∀x∈kids,x<1600)->∃ (eB:O Nat) (l:O aR),dt Q (eX+1) (gk u.n (u.c4-1) (u.c4-1+2) ks kids) d f eB l/\g++(l++j)=A++(M++B)/\eB.Perm (kids++(rest++q))/\
     bN (gk u.n (u.c4-1) (u.c4-1+2) ks kids)<=bN u.n+27/\u.n.keys.length<=(gk u.n (u.c4-1) (u.c4-1+2) ks kids).keys.length+1):=by
 cases hc with
 |top=>
  have:=congrArg List.length aa;simp at this
 | @step eX d f _ _ aq G g j ab H bh bj bp bJ h ah S m T hlen ac ai J p r=>
  obtain⟨rfl,h2⟩:=List.append_inj' aa rfl;have U:(ab,H,dy H.keys k)=u.st:=by simpa using h2
  have aj:ab=u.no:=congrArg Prod.fst U;have ak:H=u.n:=congrArg (λx=>x.2.1) U;have ad:dy H.keys k=u.c4:=congrArg (λx=>x.2.2) U;subst aj ak;rw[ad]at p r;have al:=wH u.n.keys k;rw[ad]at al;refine⟨d,f,G,g,j,bh++bj,h,by rw[cM],ah,I,hlen,ac,ai,λb Q ks kids hf s t=>?_,λb=>?_⟩
  .obtain⟨v,aw,ax,w,K⟩:=Hu S m T p r c b hs hf (λx hx=>s x (by
    simp only[c1]at hx⊢;rcases hx with hx|hx|hx
    .exact .inl (.inl hx)
    .exact .inr hx
    .exact .inl (.inr hx))) t
   refine⟨v,_,aw,by simp only[cM],ax.trans (List.Perm.append_left kids ?_),w,I⟩;exact zV bh q bj
  .by_cases h0:u.c4=0
   .obtain⟨o,L,N,y,V,W,X⟩:=Jt m hlen F (i:=u.c4) (by
     have:u.n.keys.length≠0:=λe=>ac (List.eq_nil_of_length_eq_zero e);omega) J r c b
    obtain⟨am,ae,an,ao,z,Y,_,Z⟩:=Hw S m T hlen F L J p r c b;rw[y]at z;obtain rfl:=Option.some.inj z;have C:kf u=u.c4+1:=by unfold kf;rw[if_pos h0,h0]
    have af:u.c4-1=u.c4:=by omega
    have D:u.n.keys.getD (u.c4-1) []=u.n.keys[u.c4]:=by rw[af,gd,dU N];rfl
    have E:mi u a o=ee a u.n.keys[u.c4] o:=by unfold mi;rw[if_pos (by rw[C];omega),D]
    refine⟨o,u.n.kids[u.c4+1],bh++ae,by rw[C];exact dU L,y,V,I,by rw[D];exact W,by rw[E];exact X,?_,λQ ks kids hf s t=>?_⟩
    .exact(List.Perm.append_left bh Y).trans nn
    .rw[E]at hf
     obtain⟨v,aw,ax,w,K⟩:=Z Q ks kids hf (λx hx=>s x (by
      simp only[c1]at hx⊢;rcases hx with hx|hx|hx
      .exact .inl (.inl hx)
      .exact .inr hx
      .exact .inl (.inr hx))) t
     rw[af];exact⟨v,_,aw,by simp only[cM],ax.trans (List.Perm.append_left kids (zV bh q ae)),w,K⟩
   .obtain⟨o,L,N,y,V,W,X⟩:=Js m hlen F (i:=u.c4) I I J p c b
    obtain⟨am,ag,an,ao,z,Y,_,Z⟩:=Hv S m T hlen F I I J p r c b;rw[y]at z;obtain rfl:=Option.some.inj z;have C:kf u=u.c4-1:=by unfold kf;rw[if_neg h0]
    have D:u.n.keys.getD (u.c4-1) []=u.n.keys[u.c4-1]:=by rw[gd,dU N];rfl
    have E:mi u a o=ee o u.n.keys[u.c4-1] a:=by unfold mi;rw[if_neg (by rw[C];omega),D]
    have ap:u.c4-1+2=u.c4+1:=by omega
    refine⟨o,u.n.kids[u.c4-1],ag++bj,by rw[C];exact dU L,y,V,N,by rw[D];exact W,by rw[E];exact X,?_,λQ ks kids hf s t=>?_⟩
    .exact(Y.append_right bj)
    .rw[E]at hf
     obtain⟨v,aw,ax,w,K⟩:=Z Q ks kids hf (λx hx=>s x (by
      simp only[c1]at hx⊢;rcases hx with hx|hx|hx
      .exact .inl (.inl hx)
      .exact .inr hx
      .exact .inl (.inr hx))) t
     rw[ap];exact⟨v,_,aw,by simp only[cM],ax.trans (List.Perm.append_left kids (zV ag q bj)),w,K⟩
theorem dB.Ju{w:J}{T:aQ}{c:dS}{E:Nat->Prop}(h:dB w T c)(b:∀q,E q->T.E q):dB w (T.cH E T.G) c:=
 h.of (au:=T.cH E T.G) (W:=λ_=>False) (h.t.grow (W:=λ_=>False) (af.refl _ _) (λ_ h=>h.elim) (λq a=>.inl (b q a)) (λq a=>.inr (.inl a)) λq a=>(h.t.dT q (b q a)).2.2) (af.refl _ _) (λ_ _ h=>h) rfl λ_ h=>h
theorem dC.local{T au:aQ}{c c':dS}{m l:O Nat}{b7:Nat->Prop}{w w1 w':J}{k:Nat}(h:dC (T.cH b7 T.G) au c c' m l w1 w' k)(hx:Ext w w1)(b:∀q,b7 q->T.E q\/w.heap.size<=q)(d:∀q,T.E q->b7 q):dC T (au.cH T.E au.G) c c' m l w w' k:=
 ⟨h.to.local hx b (λq a=>.inl a) (λq a=>.inl (by rw[h.E];exact d q a)) λq a=>a,rfl,h.G,h.root,h.aN,h.cb,h.made,h.left,h.ck,h.ke,h.f,h.eS,h.room⟩
theorem dB.DO{w w':J}{T:aQ}{c:dS}{W:Nat->Prop}(h:dB w T c)(hc:af W w w')(cK:∀q,W q->T.E q\/w.heap.size<=q):dB w' T c:=by
 have b:af (λq=>T.E q) w w':=c3 (W:=λq=>T.E q) (af.refl _ _) hc λq a d=>(cK q d).resolve_right I;exact h.of (h.t.grow (E:=T.E) (G:=T.G) b (λq a _=>.inl a) (λq a=>.inl a) (λq a=>.inr (.inl a)) λq a=>(h.t.dT q a).2.2) b (λq hg he=>(h.t.dT q he).2.2 hg) rfl λ_ h=>h
theorem kI.to{w w':J}{T au:aQ}{k:Nat}{s:ad}{l:O dO}(h:kI (λq=>¬T.M q) w s l)(ht:b4 T au w w' k):kI (λq=>¬au.M q) w' s l:=by
 refine⟨h.own.ah ht.ah λq a c=>h.pM q a (aQ.gZ c),λq a d=>?_,λx hx=>?_⟩
 .rcases ht.c7 q d with h1|h1
  .exact h.pM q a h1
  .have:=aT.lt h.own q a;omega
 .exact(ht.ck (lo:=0) ((h.ck x hx).a7 λq _ b=>⟨cR _,b⟩)).a7 λq _ b=>b.2
theorem kI.at{B:Nat->Prop}{w:J}{s:ad}{l:O dO}(h:kI B w s l){i:Nat}(hi:i<l.length):∃A:ag,s.a=some A/\s.len=l.length/\B A.block/\w.cell? (A.add (i*6))=some (.int .i64 ((l[i]).no:Nat))/\mh B w (A.add (i*6)) l[i]:=by
 have f:=h.own.1;rw[e4 _ (oa l)]at f;have g:s.len=l.length:=by omega
 rcases h.own.2.2.2 with ⟨h1,h2⟩|⟨b,c,e,k,o,m⟩
 .have:=h.own.2.1
  omega
 .have d:∀j,j<6->w.cell? ⟨b,i*6+j,none⟩=((dO.c l[i]))[j]? :=λj n=>by
   rw[bu.cell k,←w6 (oa l) hi n,←m];rw[tM,if_pos I,Array.getElem?_toList]
  refine⟨b,e,g,h.pM b ⟨_,e,rfl⟩,?_,?_⟩
  .rw[az,cF]
   exact d 0 (by decide)
  .rw[az,cF]
   refine⟨?_,?_,?_,?_,?_,h.ck _ (cW hi),h.pM b ⟨_,e,rfl⟩,aT.lt h.own b ⟨_,e,rfl⟩⟩
   .rw[az];exact d 1 (by decide)
   .rw[az,az];exact d 2 (by decide)
   .rw[az,az];exact d 3 (by decide)
   .rw[az,az];exact d 4 (by decide)
   .rw[az];exact d 5 (by decide)
theorem Ctx.DP{P:Nat->av aG}{lo hi:av Key}{k:Key}{top eX:Nat}{c0:O Nat}{A B:O aR}(h:Ctx P k top eX lo hi [] c0 A B):eX=top/\lo=none/\hi=none/\c0=[]/\A=[]/\B=[]:=by
 generalize a:([]:O (Nat×aG×Nat))=st at h
 cases h with
 |top=>exact⟨rfl,rfl,rfl,rfl,rfl,rfl⟩
 |step h=>
  have:=congrArg List.length a;simp at this
def m5(T:aQ)(c:dS)(aL:O Nat)(ef:O aR)(w:J)(v:Y)(w':J):Prop:=
 ∃ (au:aQ) (c':dS) (m l:O Nat),dB w' au c'/\dC T au c c' m l w w' 60/\
  ((v=.tuple #[(0:Int),(0:Int),(0:Int)]/\ef=[]/\l.Perm (m++aL)/\m.length<=2*T.aN+3)\/
   (∃ (root h:Nat) (pages:O Nat),v=.tuple #[root,h,(0:Int)]/\e0 au.P h none none root pages ef/\(pages++l).Perm (m++aL)/\1<=h/\h<=T.aN+1/\m.length<=2*T.aN+3)\/
   (∃a b:Int,v=.tuple #[a,b,(3:Int)]/\¬T.C.D.calm 60))
theorem m5.local{T:aQ}{c:dS}{aL:O Nat}{ef:O aR}{b7:Nat->Prop}{w w1 w':J}{v:Y}(h:m5 (T.cH b7 T.G) c aL ef w1 v w')(hx:Ext w w1)(b:∀q,b7 q->T.E q\/w.heap.size<=q)(a:∀q,T.E q->b7 q):m5 T c aL ef w v w':=by
 obtain⟨au,c',m,l,h1,h2,d⟩:=h;exact⟨au.cH T.E au.G,c',m,l,h1.Ju λq e=>by rw[h2.E];exact a q e,h2.local hx b a,d⟩
structure Jv(bQ:aQ)(c:dS)(b:J)(a:O dO)(k:Key)(aL:O Nat)(ef:O aR)(ws:ad)(hV:Nat)(i:Nat)(w':J)(au:aQ)(c':dS)(m l:O Nat)(n:aG)(K V D:ad)(lo hi:av Key)(c0:O Nat)(A B:O aR)(q:O Nat)(M:O aR)(r:O Nat):Prop where
 jH:i<a.length
 zW:dB w' au c'
 to:dC bQ au c c' m l b w' (4*(a.length-1-i))
 pN:m.length<=2*(a.length-1-i)
 ll:l.length<=2*(a.length-1-i)
 hV:Var w' hV (ep n K V D) 202
 ck:bI (λq=>¬au.M q) w' n K V D
 iF:kI (λq=>¬au.M q) w' ws a
 ctx:Ctx au.P k a.length (a.length-i) lo hi ((a.take i).map dO.st) c0 A B
 kY:dt au.P (a.length-i) n lo hi q M
 eq:A++(M++B)=ef
 pp:aL.Perm ((a[i]).no::(r++c0))
 acc:(q++l).Perm (m++r)
 sz:bN n<=282
 Jw:1<=i->n.keys≠ []
 DQ:∀x∈q++c0,au.f x=true
theorem cg.pO{w:J}{T:aQ}(h:cg w T):∀x n,T.P x=some n->bN n<=232:=λx n hx=>(h.eU x n hx).2.is.2.2
theorem iq.cs{T:aQ}{c:dS}{n:aG}{w w':J}{s:ad}{e:Int}(h:iq T c n w (.tuple #[s,e]) w'):
 ∃ (au:aQ) (c':dS) (m:O Nat),dB w' au c'/\dC T au c c' m [] w w' 2/\m.length<=2/\((e=0/\∃ks,mW au.P n ks m/\lP (λq=>¬au.M q) w' s ks m)\/(e=3/\¬T.C.D.calm 2)):=by
 obtain⟨au,c',m,s2,h1,h2,d,f⟩:=h;refine⟨au,c',m,h1,h2,d,?_⟩;rcases f with ⟨ks,a,b,g⟩|⟨a,b⟩
 .simp at a
  obtain⟨⟨a1,a2,a3⟩,rfl⟩:=a;obtain rfl:s=s2:=by cases s;cases s2;simp_all
  exact .inl ⟨rfl,ks,b,g⟩
 .simp at a
  exact .inr ⟨a.2,b⟩
theorem Jx{P Q c:Nat->av aG}{t:Nat}{n:aG}{q:O Nat}{M:O aR}{a:Key}{x y no:Nat}(d:dt P (t+1) n none none q M)(hs:bN n<=282)(hf:mW Q n [a] [x,y])(i:∀z∈q,P z=Q z)(j:c no=some ⟨false,[a],[],[x,y]⟩)(k:∀z∈x::y::q,Q z=c z)(hx:x<1600)(m:y<1600):
 cI a/\∃pages,e0 c (t+2) none none no pages M/\pages.Perm (no::x::y::q):=by
 have o:232<bN n:=by
  rcases hf with ⟨_,z,e,_⟩|⟨h,_⟩
  .cases e
  .exact h
 obtain⟨f,aw,ax,g,_⟩:=d.fits (d.yY I) (λ_=>I) (λ_=>I) hf i;have l:dt Q (t+2) ⟨false,[a],[],[x,y]⟩ none none f M:=⟨rfl,rfl,g,λz b=>by
  simp only[de,fG,fQ]at b;rcases b with rfl|rfl<;>assumption,aw⟩
 refine⟨g a (by simp),no::f,l.lay (by simp) j λz b=>k z ?_,List.Perm.cons no ax⟩;have:=ax.mem_iff.1 b;simpa using this
theorem oc{a b:O Nat}:a.Perm b↔∀x,a.count x=b.count x:=List.perm_iff_count
theorem m6{q l m r:O Nat}{no:Nat}(h:(q++l).Perm (m++r)):(q++(l++ [no])).Perm (m++(no::r)):=by
 rw[oc]at h⊢;intro x;have:=h x;simp only[oB,p4,p5]at this⊢;omega
theorem jv{q l m r eB ps ms ls rest:O Nat}(h:(q++l).Perm (m++r))(h2:eB.Perm (ms++(rest++q)))(a:ps.Perm (ls++rest)):(eB++(l++ls)).Perm ((m++ms)++(ps++r)):=by
 rw[oc]at h h2 a⊢;intro x;have:=h x;have:=h2 x;have:=a x;simp only[oB,p4,p5]at*;omega
theorem m7{aL r ps a:O Nat}{u:Nat}(h:aL.Perm (r++(u::(ps++a)))):aL.Perm (u::((ps++r)++a)):=by
 rw[oc]at h⊢;intro x;have:=h x;simp only[oB,p4,p5]at*;omega
theorem Jy{w:J}{T:aQ}{c:dS}{d:O dO}{k:Key}{aL c0:O Nat}{ef A B M:O aR}{lo hi:av Key}{ws:ad}{n:aG}{K V D:ad}(h:dB w T c)(bK:kI (λq=>¬T.M q) w ws d)(bp:bI (λq=>¬T.M q) w n K V D)(eA:0<d.length)(hlen:d.length=T.aN)(eC:T.aN<12)
 (eD:T.C.D.aV<=900000000) (eE:2*T.aN+3<=cv T) (eF:c.made.length<=100) (eG:c.left.length<=100) (cj:Ctx T.P k d.length 1 lo hi ((d.take (d.length-1)).map dO.st) c0 A B) (L:dt T.P 1 n lo hi [] M) (al:A++(M++B)=ef)
 (N:aL.Perm ((d[d.length-1]'I).no::c0)) (br:bN n<=282) (a0:2<=d.length->n.keys≠ []) (Q:∀x∈c0,T.f x=true):
 aK ai 208 #[.pointer (some c.cb),ws,c9 n K V D] w (m5 T c aL ef w):=by
 refine okF (ae.o6 (some c.cb) ws n.leaf K V D) ay.o6 func208 ?_;(delta ae.o6 aY aa r1 cU ar an aM aF st qo yr gK ed;dsimp only);refine bc (vs:=ep n K V D) rfl λw1 cm co eH=>?_;obtain⟨b6,aZ,bf,bq⟩:=bP cm;refine⟨_,b6,K,aZ,V,bf,D,bq,bc (vs:=[false,(),(),()]) rfl λeI bL ct eJ=>⟨bL.b3 rfl fZ,rfl,cp bL (us:=ep n K V D) rfl rfl λbs bu cu eK=>?_⟩⟩;have bM:Ext w bs:=co.trans (Ext.cD ct cu (bt _));obtain⟨hV,cy⟩:∃hV,hV=w1.heap.size:=⟨_,rfl⟩;rw[←cy]at bu⊢;obtain⟨b7,bv⟩:∃b7,b7=λq=>T.E q\/q=hV:=⟨_,rfl⟩;have cA:∀q,T.E q->b7 q:=λq F=>by rw[bv];exact .inl F
 have a5:∀q,b7 q->T.E q\/q=hV:=λq F=>by rw[bv]at F;exact F
 have cB:b7 hV:=by rw[bv];exact .inr rfl
 have eM:=bu.lt;have cC:dB bs (T.cH b7 T.G) c:=h.of (W:=λ_=>False) (h.t.grow (W:=λ_=>False) bM (λ_ h=>h.elim) (λq F=>(a5 q F).imp id λe=>.inr ⟨I,I⟩) (λq F=>.inr (.inl F)) λq F hg=>by
  rcases a5 q F with h1|h1
  .exact(h.t.dT q h1).2.2 hg
  .have:=h.t.lt (q:=q) (.inr (.inr (.inr (.inr hg))));omega) bM (λ_ _ h=>h) rfl λ_ h=>h
 have bO:b4 T (T.cH b7 T.G) w bs 0:=(b4.refl T w).step (W:=λ_=>False) bM (λ_ h=>h.elim) (λq F=>(a5 q F).imp id λe=>.inr I) λq F=>.inl F;have conv:∀ (v:Y) (w':J),m5 (T.cH b7 T.G) c aL ef w1 v w'->m5 T c aL ef w v w':=λv w' hu=>hu.local co (λq F=>(a5 q F).imp id λe=>I) cA;obtain⟨bQ,am⟩:∃bQ,bQ=T.cH b7 T.G:=⟨_,rfl⟩;have bR:=bK.to bO;have bS:bI (λq=>¬(T.cH b7 T.G).M q) bs n K V D:=(bO.ck (lo:=0) (bp.a7 λq _ R=>⟨cR _,R⟩)).a7 λq _ R=>R.2;have cJ:bQ.P=T.P:=by rw[am];rfl
 have bT:bQ.f=T.f:=by rw[am];rfl
 have dH:bQ.E hV:=by rw[am];exact cB
 have eN:cv bQ=cv T:=by rw[am];rfl
 have dI:bQ.C=T.C:=by rw[am];rfl
 have dJ:bQ.aN=T.aN:=by rw[am];rfl
 rw[←am]at cC bR bS conv;clear am bO bv cA a5 cB;have eO:hV=w1.heap.size:=cy;have eP:ws.len=d.length:=by
  have:=bK.own.1;rw[e4 _ (oa d)]at this;omega
 refine⟨λn10 w'=>∃ (i:Nat) (au:aQ) (c':dS) (m l:O Nat) (n:aG) (K V D:ad) (lo hi:av Key) (c0:O Nat) (A B:O aR) (q:O Nat) (M:O aR) (r:O Nat),n10=(i:Nat)/\Jv bQ c w1 d k aL ef ws hV i w' au c' m l n K V D lo hi c0 A B q M r,λn10 _=>(n10+1).toNat,
  ⟨d.length-1,bQ,c,[],[],n,K,V,D,lo,hi,c0,A,B,[],M,[],?_,?_⟩,?_⟩
 .rw[bB I I];omega
 .have e:d.length-(d.length-1)=1:=by omega
  refine⟨I,cC,(dC.ext bQ c (Ext.cD ct cu (bt _))).mono I,cR _,cR _,bu,bS,bR,by rw[e,cJ];exact cj,by rw[e,cJ];exact L,al,by simpa using N,List.Perm.refl _,br,λh1=>a0 I,λx hx=>by rw[bT];exact Q x (by simpa using hx)⟩
 clear cj L al N br a0 Q bp bS bu bK bR cm b6 aZ bf bq bL;rintro _ bU ⟨i,au,c',m,l,n,K,V,D,lo,hi,c0,A,B,q,M,r,rfl,g⟩;have cK:=g.jH;have bx:=g.to.cb;refine⟨λ_=>aX ?_,λR=>?_⟩
 rotate_left
 .have:¬(i:Int)>=0:=cw R
  omega
 have aI:Ext bU bU.drew:=cE _;obtain⟨bV,dK⟩:∃bV,bV=bU.drew:=⟨_,rfl⟩;rw[←dK]at aI⊢;have a6:=g.zW.ext aI;have cO:=a6.cells.2.2;rw[bx]at cO;have cP:kI (λq=>¬au.M q) bV ws d:=g.iF.to (b4.ext au aI);obtain⟨a8,bY,eQ,dL,dM,_⟩:=cP.at cK;have eR:c'.left.length<=200:=by rw[g.to.left,cG];have:=g.ll;omega
 have dN:c'.made.length<=200:=by rw[g.to.made,cG];have:=g.pN;omega
 obtain⟨aJ,cQ,aw,ax,aO,aA,aB⟩:=DD a6 (d[i]).no I;rw[bx]at aO aA aB;have dP:∀n,(a8.add n).block=a8.block:=λn=>by unfold Addr.add;split<;>rfl
 have dQ:∀q,aE c'.gQ q->au.M q:=λq F=>.inr (.inr (.inr (.inr (a6.k4 q F).1)));refine⟨aE c'.gQ,_,rfl,λF=>(a6.k4 _ F).2 (by rw[bx,az]),c'.gQ,cO,a8,bY,⟨I,I⟩,λF=>dL (dQ _ ((dP _)▸F)),_,by rw[di];exact dM,aX ⟨af.cN (c8 _ _),aJ,cQ,aw,ax,_,rfl,by rw[az];exact aO,by rw[az];exact aA,aX ?_⟩⟩;rw[az,cF];obtain⟨U,cS⟩:∃U,U=cQ.setCell ⟨c.cb,2,none⟩ aJ:=⟨_,rfl⟩;rw[←cS];obtain⟨ac,a9⟩:=aB U cS;have bZ:=dC.leave (c:=c') (c':=⟨c.cb,c'.ma,aJ,c'.made,c'.left++ [(d[i]).no]⟩) (no:=(d[i]).no) a9 rfl (λq F=>.inl F) bx.symm rfl rfl;have X:=(g.to.trans (dC.ext au c' aI)).trans bZ;simp only[fl,lj]at X;have cT:au.E hV:=by rw[g.to.E];exact dH
 have b0:=(g.hV.ext aI).ah a9.ah (a6.t.k1 cT);have b1:=cP.to a9;have a_:bI (λq=>¬(au.cH au.E λq=>au.G q\/aE aJ q).M q) U n K V D:=(a9.ck (lo:=0) ((g.ck.ext aI).a7 λq _ R=>⟨cR _,R⟩)).a7 λq _ R=>R.2;obtain⟨b2,aP⟩:∃b2,b2=au.cH au.E λq=>au.G q\/aE aJ q:=⟨_,rfl⟩;have bh:b2.P=au.P:=by rw[aP];rfl
 have bj:b2.f=au.f:=by rw[aP];rfl
 have eT:cv b2=cv au:=by rw[aP];rfl
 have cW:b2.E hV:=by rw[aP];exact cT
 have cX:b2.aN=T.aN:=by rw[aP];show au.aN=_;rw[g.to.aN,dJ]
 rw[←aP]at ac a9 bZ X b1 a_;obtain⟨bf,bA⟩:∃bf:dS,bf=⟨c.cb,c'.ma,aJ,c'.made,c'.left++ [(d[i]).no]⟩:=⟨_,rfl⟩;rw[←bA]at ac bZ X;have hE:bf.cb=c.cb:=by rw[bA]
 have eB:bf.made.length<=200:=by rw[bA];exact dN
 have eV:bf.left.length<=201:=by rw[bA,cG,jC];omega
 obtain⟨dU,bW,bz,dV⟩:=bP b0;have cY:=bw.len a_.keys;have cZ:∀ (w':J) (v:Y),Ext U w'->(∀ {dg bq ba},dg=b2->bq=bf->ba=l++ [(d[i]).no]->((v=.tuple #[(0:Int),(0:Int),(0:Int)]/\ef=[]/\ba.Perm (m++aL)/\m.length<=2*bQ.aN+3)\/
  (∃ (root h:Nat) (pages:O Nat),v=.tuple #[root,h,(0:Int)]/\e0 (aQ.P dg) h none none root pages ef/\(pages++ba).Perm (m++aL)/\1<=h/\h<=bQ.aN+1/\m.length<=2*bQ.aN+3)\/
  (∃a b:Int,v=.tuple #[a,b,(3:Int)]/\¬bQ.C.D.calm 60)))->m5 T c aL ef w v w':=by
  intro w' v hx hd;refine conv v w' ⟨b2,bf,m,l++ [(d[i]).no],?_,?_,hd (bq:=bf) rfl rfl rfl⟩
  .exact ac.ext hx
  .have:=(X.trans (dC.ext b2 _ hx)).mono (j:=60) I
   simp only[fl]at this;exact this
 refine cq (λb w'=>(b=true↔(i=0/\n.keys=[]))/\U=w') (λZ bb=>⟨λh0=>⟨K,bW,bb _ _ ⟨?_,rfl⟩⟩,λh0=>bb _ _ ⟨?_,rfl⟩⟩) ?_
 .have h0:i=0:=by
   have:(i:Int)=0:=by simpa using h0
   omega
  rw[jY];constructor
  .intro h1
   exact⟨h0,List.eq_nil_of_length_eq_zero I⟩
  .rintro⟨_,h1⟩
   rw[h1]at cY;simp at cY;omega
 .have h0:i≠0:=by
   have:¬(i:Int)=0:=by simpa using h0
   omega
  exact⟨λh=>(by cases h),λh=>absurd h.1 h0⟩
 rintro eW _ ⟨c2,rfl⟩;refine⟨λR=>?_,λR=>?_⟩
 .obtain⟨h0,c3⟩:=c2.1 R
  subst h0;have bd:Ext U U.drew:=cE _;obtain⟨dX,dY,dZ,d0⟩:=bP (b0.ext bd);have c5:=(ac.ext bd).cells.1;rw[hE]at c5;have d6:=(ac.ext bd).t.cells.2.2.2.2;obtain⟨t1,t2,t3,t4,t5,t6⟩:=Ctx.DP (by simpa using g.ctx);have L:=g.kY;have N:=g.pp;have al:=g.eq;have aj:=m6 (no:=(d[0]).no) g.acc;subst t2 t3 t4 t5 t6;rw[hG,fl]at al;rw[fl]at N;subst al;have c6:n.leaf=false->∃x,n.kids=[x]/\1<=b2.aN/\e0 au.P (b2.aN-1) none none x q M/\1<=b2.aN-1:=by
   intro aC;have e:d.length-0=b2.aN:=by rw[cX];omega
   rw[e]at L
   cases ht:b2.aN with
   |zero=>omega
   |succ t=>
    rw[ht]at L
    cases t with
    |zero=>
     have:=L.1.leaf;rw[aC]at this;cases this
    |succ t=>
     obtain⟨v1,v2,be,bg,bC⟩:=L;rw[c3]at bC;generalize eX:n.kids=eY at bC
     cases bC with
     |one h=>exact⟨_,rfl,I,h.1,I⟩
  refine aX ⟨λ_=>False,id,_,dX,K,dY,V,dZ,D,d0,_,rfl,id,_,c5,_,rfl,id,_,d6,(qM (a_.ext bd) b2.aN I λaC=>by obtain⟨x,a1,a2,_⟩:=c6 aC;exact⟨x,a1,a2⟩).use ?_⟩;rintro v w' ⟨rfl,b5⟩;have c7:=bd.trans b5
  cases aC:n.leaf with
  |true=>
   rw[if_pos rfl];have c_:=L.leaf;rw[aC]at c_;have b8:d.length-0=1:=cl c_.symm;rw[b8]at L;obtain⟨v1,v2,be,bg⟩:=L;subst be;refine⟨_,_,_,rfl,b5,cZ w' _ c7 λ{dg bq ba} a1 a2 a3=>.inl ⟨rfl,?_,?_,by have:=g.pN;omega⟩⟩
   .rw[bg];unfold aG.dW;rw[c3];rfl
   .subst a3
    rw[oc]at aj N⊢;intro x;have:=aj x;have:=N x;simp only[oB,p4,p5]at*;omega
  |false=>
   rw[if_neg (by simp)];obtain⟨x,a1,a2,a3,a4⟩:=c6 aC;refine⟨_,_,_,rfl,b5,cZ w' _ c7 λ{dg bq ba} cr bX aS=>.inr (.inl ⟨_,_,q,rfl,?_,?_,a4,?_,by have:=g.pN;omega⟩)⟩
   .subst cr
    have d7:n.kids.getD 0 0=x:=by rw[a1];rfl
    rw[d7,bh];exact a3
   .subst aS
    rw[oc]at aj N⊢;intro x;have:=aj x;have:=N x;simp only[oB,p4,p5]at*;omega
   .omega
 .have a0:n.keys≠ []:=λe=>by
   rcases oA i with h0|h0
   .have:=c2.2 ⟨h0,e⟩
    rw[R]at this;cases this
   .exact g.Jw h0 e
  have eZ:b2.C.D.aV<=900000050:=by
   have:=X.to.aV;rw[dI]at this;omega
  have da:2<=cv b2:=by
   have:=X.room;have:=g.pN;omega
  have db:∀ms:O Nat,ms.length<=3->(m++ms).length<=2*bQ.aN+3:=λms h=>by rw[cG];have:=g.pN;omega
  have dc:∀j,j<=10->¬b2.C.D.calm j->¬bQ.C.D.calm 60:=λj e1 bp hc=>bp (X.to.calm j (gB hc I));have b9:mg n:=g.kY.zU (λ_=>by have:=g.sz;omega) (λ_=>by have:=g.sz;omega) λ_=>a0;refine cq (λp w'=>p=(if i=0 then none else some (a8.add ((i-1)*6)))/\U=w') (λZ bb=>⟨λh0=>⟨a8,bY,?_,bb _ _ ⟨?_,rfl⟩⟩,λh0=>bb _ _ ⟨?_,rfl⟩⟩) ?_
  .have h0:(i:Int)>0:=cl h0
   rw[bB I I];omega
  .have h0:(i:Int)>0:=cl h0
   have e:(i:Int)-1=((i-1:Nat):Int):=by omega
   rw[bB I I,if_neg I,e,di]
  .have h0:¬(i:Int)>0:=cw h0
   rw[if_pos I]
  rintro _ _ ⟨rfl,rfl⟩;refine⟨_,dU,K,bW,V,bz,D,dV,?_⟩;by_cases h0:i=0
  .subst h0
   rw[if_pos rfl];have bi:=Jn ac a_ b9 I da I;rw[hE]at bi;refine bi.use ?_;rintro _ aT ⟨aU,e,rfl,hf⟩;obtain⟨dg,bq,ms,S,H,bk,bl⟩:=hf.cs;have bD:=X.trans H;simp only[fl]at bD;have d8:bq.cb=c.cb:=by rw[H.cb,hE]
   rcases bl with ⟨rfl,ks,ao,aD⟩|⟨rfl,aH⟩
   .refine⟨aU,_,_,0,rfl,λh=>(by cases h),λ_=>⟨λ_=>?_,λh=>(by simp at h)⟩⟩
    obtain⟨t1,t2,t3,t4,t5,t6⟩:=Ctx.DP (by simpa using g.ctx);have L:=g.kY;have N:=g.pp;have al:=g.eq;have br:=g.sz;have aj:=m6 (no:=(d[0]).no) g.acc;have Q:=g.DQ;subst t2 t3 t4 t5 t6;rw[hG,fl]at al;rw[fl]at N Q;subst al;have d9:b2.n<=1600:=ac.t.s.bz;have b_:∀z∈q,au.P z=dg.P z:=λz ab=>by
     rw[←bh];exact((H.eS z (by rw[bj,Q z ab];rfl)).1).symm
    have d_:d.length-0=(d.length-1)+1:=by omega
    have dd:dg.aN=d.length:=by rw[H.aN,cX];omega
    rw[d_]at L;have df:∀aW x y,ks=[aW]->ms=[x,y]->cI aW/\x<1600/\y<1600:=λaW x y aw ax=>by
     subst aw ax;have dh:232<bN n:=by
      rcases ao with ⟨_,z,e,_⟩|⟨h,_⟩
      .cases e
      .exact h
     obtain⟨e2,_,_,aO,_⟩:=L.fits (L.yY I) (λ_=>I) (λ_=>I) ao b_;have hx:=(H.ke x (by simp)).2;have e3:=(H.ke y (by simp)).2;exact⟨aO aW (by simp),I,I⟩
    have dj:=Jr S aD (λ_=>I) df (by have:=H.to.aV;omega) (by have:=H.room;have:=X.room;have:=g.pN;omega) (by rw[H.made,cG];omega);rw[d8]at dj;refine dj.use ?_;rintro v e5 ea;rcases ea with ⟨x,aw,ax,rfl,aA,aB⟩|⟨aW,x,y,no,ku,fB,aw,ax,aA,aB,eb⟩
    .subst aw ax
     refine⟨_,_,_,rfl,conv _ _ ⟨dg,bq,m++ [x],l++ [(d[0]).no],aA,?_,.inr (.inl ⟨x,dg.aN,x::q,rfl,?_,?_,I,I,db [x] (by simp)⟩)⟩⟩
     .have:=(bD.trans (dC.ext dg bq aB)).mono (j:=60) I
      simp only[fl]at this;exact this
     .rcases ao with ⟨_,z,_,e,ab⟩|⟨_,e6,e7,_,e,_⟩
      .cases e
       rw[dd,show d.length=d.length-1+1 from I];exact L.lay a0 ab b_
      .cases e
     .rw[oc]at aj N⊢
      intro z;have:=aj z;have:=N z;simp only[oB,p4,p5]at*;omega
    .subst aw ax
     obtain⟨a1,a2,a3⟩:=df aW x y rfl rfl;have ap:=bD.trans aB;simp only[fl]at ap;have dl:=ap.mono (j:=60) I;rcases eb with ⟨rfl,ca⟩|⟨rfl,ca⟩
     .have ec:∀z∈x::y::q,dg.P z=ku.P z:=λz ab=>by
       refine((aB.eS z ?_).1).symm;rw[H.f];simp only[de]at ab;rcases ab with ab|ab|ab
       .simp[ab]
       .simp[ab]
       .rw[bj,Q z ab];simp
      obtain⟨_,pages,cr,bX⟩:=Jx L br ao b_ ca ec a2 a3;refine⟨_,_,_,rfl,conv _ _ ⟨ku,fB,m++ [x,y]++ [no],l++ [(d[0]).no],aA,dl,.inr (.inl ⟨no,dg.aN+1,pages,rfl,?_,?_,I,I,by rw[cM];exact db [x,y,no] (by simp)⟩)⟩⟩
      .rw[dd,show d.length+1=d.length-1+2 from I];exact cr
      .rw[oc]at aj N bX⊢
       intro z;have:=aj z;have:=N z;have:=bX z;simp only[oB,p4,p5]at*;omega
     .refine⟨_,_,_,rfl,conv _ _ ⟨ku,fB,m++ [x,y]++ [no],l++ [(d[0]).no],aA,dl,.inr (.inr ⟨_,_,rfl,λhc=>ca (H.to.calm 1 (X.to.calm 3 (gB hc I)))⟩)⟩⟩
   .refine⟨aU,_,_,3,rfl,λ_=>conv _ _ ⟨dg,bq,m++ms,l++ [(d[0]).no],S,bD.mono I,.inr (.inr ⟨0,0,rfl,dc 2 I aH⟩)⟩,λh=>(by cases h)⟩
  .rw[if_neg h0]
   have dR:i-1<d.length:=by omega
   obtain⟨e8,dm,_,_,_,hu⟩:=b1.at dR;rw[bY]at dm;obtain rfl:=Option.some.inj dm;obtain⟨u,cd⟩:∃u,u=d[i-1]:=⟨_,rfl⟩;rw[←cd]at hu;have ee:(d.take i).map dO.st=(d.take (i-1)).map dO.st++ [u.st]:=by
    have:d.take i=d.take (i-1)++ [d[i-1]]:=by
     have e:i-1+1=i:=by omega
     rw[←iy dR,e]
    rw[this,gb,cd];rfl
   obtain⟨dn,dp,eg,dq,dr,ps,cc,cn,eh,e9,e_,ei,ej,ds,ce⟩:=Ctx.up g.ctx ee g.kY g.zW.t.pO g.sz;have b8:d.length-i+1=d.length-(i-1):=by omega
   rw[b8]at cc ds ce;have ek:=(g.zW.t.eU _ _ eh).2.is;have fa:=ek.2.1.eL I;have Q:=g.DQ;have bi:=Jo ac a_ hu b9.1 (by have:=g.sz;omega) (λ_=>b9) (λbE=>by
    obtain⟨o,no,rest,cr,bX,aS,bF,bH,du,_⟩:=ce bE;exact⟨o,no,cr,by rw[bh];exact bX,aS,bF,bH,du⟩) I I da I I
   rw[hE]at bi;refine bi.use ?_;rintro v aT dv;have fb:0<u.n.keys.length:=List.length_pos_iff.2 ei;have d9:b2.n<=1600:=ac.t.s.bz;have cf:∀ {dg:aQ}{bq:dS}{ms ls:O Nat}{w':J}{el:Nat},dC b2 dg bf bq ms ls U w' el->∀x,au.f x=true->au.P x=dg.P x:=λem x hx=>by
    rw[←bh];exact((em.eS x (by rw[bj,hx];rfl)).1).symm
   have en:(∃ (dg:aQ) (bq:dS) (ms ls:O Nat) (s:ad) (a b:Int),v=.tuple #[s,a,b,(3:Int)]/\dB aT dg bq/\dC b2 dg bf bq ms ls U aT 4/\¬b2.C.D.calm 4)\/
    (∃ (dg:aQ) (bq:dS) (ms ls rest:O Nat) (s:ad) (ak ag:Nat) (ks:O Key) (eB:O Nat) (aq:O aR),v=.tuple #[s,ak,ag,(0:Int)]/\dB aT dg bq/\dC b2 dg bf bq ms ls U aT 4/\ms.length<=2/\ls.length<=1/\lP (λq=>¬dg.M q) aT s ks ms/\
      dt dg.P (d.length-(i-1)) (gk u.n ak ag ks ms) dn dp eB aq/\dq++(aq++dr)=A++(M++B)/\eB.Perm (ms++(rest++q))/\ps.Perm (ls++rest)/\bN (gk u.n ak ag ks ms)<=bN u.n+27/\u.n.keys.length<=(gk u.n ak ag ks ms).keys.length+1/\
      ak<=u.n.keys.length/\1<=ag/\ag<=u.n.kids.length):=by
    rcases dv with ⟨dh,s,e,rfl,hf⟩|⟨bE,dg,bq,rfl,aw,ax,aO⟩|⟨bE,o,no,fc,fd,fe,s,e,dw,dx,dy,rfl,hf⟩
    .obtain⟨dg,bq,ms,S,H,bk,bl⟩:=hf.cs
     rcases bl with ⟨rfl,ks,ao,aD⟩|⟨rfl,aH⟩
     .obtain⟨eB,aq,cr,bX,aS,bF,bH⟩:=ds dh dg.P ks ms ao (λx hx=>cf H x (Q x (by
       rw[cn];simp only[c1,de]at hx⊢;rcases hx with hx|hx
       .exact .inr (.inr (.inl hx))
       .exact .inl hx))) (λx hx=>by have:=(H.ke x hx).2;omega)
      exact .inr ⟨dg,bq,ms,[],ps,s,u.c4,u.c4+1,ks,eB,aq,rfl,S,H.mono I,bk,cR _,aD,cr,bX,aS,List.Perm.refl _,bF,bH,I,I,I⟩
     .exact .inl ⟨dg,bq,ms,[],s,_,_,rfl,S,H.mono I,λhc=>aH (gB hc I)⟩
    .exact .inl ⟨dg,bq,[],[],bG,0,0,rfl,aw,ax.mono I,λhc=>aO (gB hc I)⟩
    .obtain⟨ff,dz,rest,cr,bX,aS,bF,bH,du,dA,eo⟩:=ce bE
     rw[cr]at dw;obtain rfl:=Option.some.inj dw;rw[bh,bX]at dx;obtain rfl:=Option.some.inj dx;obtain⟨dg,bq,ms,S,H,bk,bl⟩:=hf.cs;have ap:=dy.trans H;simp only[hG,fl]at ap;rcases bl with ⟨rfl,ks,ao,aD⟩|⟨rfl,aH⟩
     .obtain⟨eB,aq,d1,d2,d3,d4,d5⟩:=eo dg.P ks ms ao (λx hx=>cf ap x (Q x (by
       rw[cn];simp only[c1,de]at hx⊢;rcases hx with hx|hx
       .exact .inr (.inr (.inl (dA.mem_iff.2 (jW _ hx))))
       .exact .inl hx))) (λx hx=>by have:=(ap.ke x hx).2;omega)
      refine .inr ⟨dg,bq,ms,[dz],rest,s,u.c4-1,u.c4-1+2,ks,eB,aq,rfl,S,ap,bk,bt _,aD,d1,d2,d3,dA,d4,d5,I,I,?_⟩;rcases oA u.c4 with er|er<;>omega
     .exact .inl ⟨dg,bq,ms,[dz],s,_,_,rfl,S,ap,λhc=>aH (dy.to.calm 2 hc)⟩
   clear dv;rcases en with ⟨dg,bq,ms,ls,aU,a,b,rfl,S,H,aH⟩|⟨dg,bq,ms,ls,rest,aU,ak,ag,ks,eB,aq,rfl,S,H,bk,fg,aD,v1,v2,be,bg,bC,es,et,eu,ev⟩
   .exact⟨aU,_,_,3,rfl,λ_=>conv _ _ ⟨dg,bq,_,_,S,(X.trans H).mono I,.inr (.inr ⟨0,0,rfl,dc 4 I aH⟩)⟩,λh=>(by cases h)⟩
   .refine⟨aU,_,_,0,rfl,λh=>(by cases h),λ_=>⟨λh=>?_,λ_=>?_⟩⟩
    .have:(i:Int)=0:=by simpa using h
     omega
    have bm:=hu.to H.to;refine⟨_,rfl,_,bm.aZ,u.K,bm.bf,u.V,bm.bq,u.D,bm.fB,(qN bm.ck aD (fr:=ak) (to:=ag) et I eu ev I I I).use ?_⟩;rintro _ fh ⟨cL,cV,cx,rfl,ew,bn⟩;have dD:=b0.ah H.to.ah (ac.t.k1 cW);have dE:=dD.ext bn;refine⟨_,cL,cV,cx,rfl,dE.b3 rfl fZ,rfl,cp dE (us:=ep (gk u.n ak ag ks ms) cL cV cx) rfl rfl λex ey bo fi=>⟨⟨i-1,dg,bq,m++ms,l++ [(d[i]).no]++ls,gk u.n ak ag ks ms,cL,cV,cx,dn,dp,eg,dq,dr,eB,aq,ps++((d[i]).no::r),?_,?_⟩,?_⟩⟩
    .rw[bB I I];omega
    .have dF:dg.E hV:=by rw[H.E];exact cW
     have cg:dg.M hV:=.inr (.inr (.inr (.inl dF)));have ch:=(X.trans H).trans (dC.ext dg bq bn);simp only[fl]at ch;have ez:b4 bQ dg w1 ex (4*(d.length-1-i)+4+0):=ch.to.step (E:=dg.E) (G:=dg.G) bo (λq e aC=>I) (λq F=>.inl F) λq F=>.inl F;have ci:∀x,au.f x=true->dg.f x=true:=λx hx=>by rw[H.f,bj,hx];rfl
     have bJ:=b1.to H.to;refine⟨dR,(S.ext bn).DO bo λq e=>.inl (by rw[e];exact dF),{ch.mono (j:=4*(d.length-1-(i-1))) I with to:=ez.mono I},?_,?_,ey,?_,?_,cc.agree λx hx=>cf H x (Q x (by rw[cn];simp[hx])),v1,by rw[v2];exact g.eq,?_,jv (m6 g.acc) be bg,I,λh1 e=>?_,λx hx=>?_⟩
     .rw[cG];have:=g.pN;omega
     .rw[cG,cG,jC];have:=g.ll;omega
     .refine(bI.ah ew bo λq F e=>?_).a7 λq _ F dG=>?_
      .subst e
       rcases F with F|F
       .exact F cg
       .have:=dD.lt;omega
      .rcases F with F|F
       .exact F dG
       .have:=S.t.lt dG;omega
     .refine⟨(bJ.own.ext bn).ah bo λq F e=>bJ.pM q F (by rw[e];exact cg),bJ.pM,λx hx=>bI.ah ((bJ.ck x hx).ext bn) bo λq F e=>F (by rw[e];exact cg)⟩
     .have this:aL.Perm ((d[i]'cK).no::(r++c0)):=g.pp
      rw[cn]at this;rw[←cd];exact m7 this
     .have h2:=ej (λbT=>by
       have:=congrArg List.length bT;rw[dk,cz,lp]at this;omega)
      rw[e,lp]at es;omega
     .rcases c1.1 hx with hx|hx
      .have:=be.mem_iff.1 hx
       rcases c1.1 this with hx|hx
       .rw[H.f];simp[hx]
       .rcases c1.1 hx with hx|hx
        .refine ci x (Q x ?_)
         rw[cn];have:x∈ps:=bg.mem_iff.2 (iA _ hx);simp[this]
        .exact ci x (Q x (by simp[hx]))
      .exact ci x (Q x (by rw[cn];simp[hx]))
    .rw[bB I I]
     show((i:Int)-1+1).toNat<((i:Int)+1).toNat;omega
theorem Jz{w:J}{T:aQ}{c:dS}{ef:O aR}{n:aG}{K V D ws:ad}(r:ws.len=0)(h:dB w T c)(t:bI (λq=>¬T.M q) w n K V D)(P:T.C.D.aV<=900000000)(Q:2<=cv T)(R:c.made.length<=100)(S:c.left=[])
 (f:hC n) (g:n.keys≠ []) (u:bN n<=232) (y:n.dW=ef):
 aK ai 208 #[.pointer (some c.cb),ws,c9 n K V D] w (m5 T c [] ef w):=by
 refine okF (ae.o6 (some c.cb) ws n.leaf K V D) ay.o6 func208 ?_;(delta ae.o6 aY aa r1 cU ar an aM aF st qo yr gK ed;dsimp only);refine bc (vs:=ep n K V D) rfl λw1 z A U=>?_;obtain⟨b6,aZ,bf,bq⟩:=bP z;refine⟨_,b6,K,aZ,V,bf,D,bq,bc (vs:=[false,(),(),()]) rfl λW i B X=>⟨i.b3 rfl fZ,rfl,cp i (us:=ep n K V D) rfl rfl λj E F Y=>?_⟩⟩;have d:Ext w j:=A.trans (Ext.cD B F (bt _));refine⟨λn10 w'=>n10= -1/\j=w',λ_ _=>0,⟨by rw[r];decide,rfl⟩,?_⟩;rintro _ _ ⟨rfl,rfl⟩;refine⟨λh=>by simp at h,λ_=>?_⟩;obtain⟨d0,d1,d2,d3⟩:=bP E;refine⟨_,d0,K,d1,V,d2,D,d3,(DI (h.ext d) I I I (t.ext d) (.inl f) u).use ?_⟩;intro v w' a;obtain⟨s,e,rfl⟩:=a.out;obtain⟨au,c',m,l,o,Z,G⟩:=(a.base d).cs;rcases G with ⟨rfl,ks,H,L⟩|⟨rfl,N⟩
 .refine⟨s,0,rfl,λh=>(by cases h),λ_=>?_⟩
  rcases H with ⟨_,x,rfl,rfl,hx⟩|⟨ab,_⟩
  .rcases L with ⟨b,p,rfl,_,e,a,_⟩|⟨b,p,ac,af,ag,rfl,e,_⟩
   .obtain rfl:x=p:=by simpa using e
    refine⟨_,rfl,⟨by decide,by show(0:Int)<((1:Nat):Int);decide⟩,_,by rw[az,az];exact a.cell,au,c',[x],[],l,o.mono I,.inr (.inl ⟨x,1,[x],rfl,⟨n,hx,f,λk g=>⟨λ_ e=>(by cases e),λ_ e=>(by cases e)⟩,g,rfl,y.symm⟩,List.Perm.refl _,bt _,I,by show 1<=_;omega⟩)⟩
   .cases e
  .omega
 .exact⟨s,3,rfl,λ_=>⟨au,c',m,[],l,o.mono I,.inr (.inr ⟨0,0,rfl,λhc=>N (gB hc I)⟩)⟩,λh=>(by cases h)⟩
def aQ.od(T:aQ)(r h:Nat):aQ:={T with root:=r,aN:=h}
theorem cg.JA{w w':J}{T:aQ}{r h:Nat}(ht:cg w T)(a:Var w' T.ba (lO (T.od r h)) 239)(hc:af (λq=>q=T.ba) w w')(b:r<T.n)(c:h<=12):cg w' (T.od r h)/\b4 T (T.od r h) w w' 0:=
 ⟨⟨a,ht.s.ah hc λq d e=>ht.kc (e▸d),ht.ca.ah hc λq e=>.inl e,ht.kc,ht.dT,ht.ja,ht.n,⟨b,c,ht.num.2.2⟩,ht.eU,ht.bZ,ht.low⟩,
  ⟨rfl,rfl,rfl,rfl,rfl,rfl,rfl,rfl,rfl,rfl,bt _,λ_ h=>h,hc.mono λq _ e=>.inr (.inl e),λq h=>.inl h,λq h=>.inl h⟩⟩
def g0(T:aQ)(pages:O Nat)(L:O aR):Prop:=(T.aN=0/\T.root=0/\pages=[]/\L=[])\/e0 T.P T.aN none none T.root pages L
theorem DR{s t:Nat->al}:∀ {n:Nat},(∀i,s i=true->t i=true)->e5 s n<=e5 t n
 |0,_=>bt _
 |n+1,h=>by
  have h1:=DR (n:=n) h
  show e5 s n+(s n).toNat<=e5 t n+(t n).toNat
  cases hs:s n with
  |false=>exact Nat.add_le_add h1 (cR _)
  |true=>rw[h n hs];exact Nat.add_le_add_right h1 _
def xh(T:aQ)(aL:O Nat)(ef:O aR)(w:J)(v:Y)(w':J):Prop:=
 ∃au:aQ,cg w' au/\b4 T au w w' 60/\au.E=T.E/\au.G=T.G/\
  ((v=.int .i64 2/\cv T<2*T.aN+3/\au=T)\/
   (v=.int .i64 0/\2*T.aN+3<=cv T/\(∃pages,cv T<=cv au+(2*T.aN+3)/\g0 au pages ef/\pages.Nodup/\(∀no∈pages,no∈aL\/(T.f no||T.g no)=false)/\∀no,au.f no=true↔(no∈pages\/(T.f no=true/\no∉aL)))/\∀no,T.g no=true->au.P no=T.P no/\au.C.view no=T.C.view no)\/
   (v=.int .i64 3/\¬T.C.D.calm 60/\au.root=T.root/\au.aN=T.aN/\au.f=T.f/\∀no,(T.f no||T.g no)=true->au.P no=T.P no/\au.C.view no=T.C.view no))
theorem DS{l:O Nat}(h:∀x,l.count x<=1):l.Nodup:=List.nodup_iff_count.2 h
theorem JB{w:J}{T:aQ}{s:ad}{aL:O Nat}{ef:O aR}{n:aG}{K V D:ad}(h:cg w T)(bY:¬T.C.D.ro)(c5:T.C.D.aV<=900000000)(y:T.aN<12)(bZ:aL.Nodup)(aD:∀x∈aL,T.f x=true)(c6:aL.length<=5000)
 (b0:∀ (b7 j:Nat->Prop) (w1:J) (aZ:dS),dB w1 (T.cH b7 j) aZ->b4 T (T.cH b7 j) w w1 0->2*T.aN+3<=cv T->aZ.made=[]->aZ.left=[]->aK ai 208 #[.pointer (some aZ.cb),s,c9 n K V D] w1 (m5 (T.cH b7 j) aZ aL ef w1)):
 aK ai 150 #[.pointer (some T.ba),s,c9 n K V D] w (xh T aL ef w):=by
 have c7:=h.s.bz;refine ae.Gf (some T.ba) s n.leaf K V D w _ ?_;(delta ae.sM aF bS an ar st aa aY r1 qo gT;dsimp only);refine bc (vs:=ep n K V D) rfl λw1 ab a9 c8=>bc (vs:=[(0:Int)]) rfl λaj a_ bb c_=>aX ?_;have ac:Ext aj aj.drew:=cE _;obtain⟨bd,b1⟩:∃bd,bd=aj.drew:=⟨_,rfl⟩;rw[←b1]at ac⊢;have be:=(a9.trans bb).trans ac;have k:=h.ext be;obtain⟨ev,b3⟩:∃ev,ev=w1.heap.size:=⟨_,rfl⟩;rw[←b3]at a_⊢;refine⟨λ_=>False,_,rfl,id,_,k.cells.2.1,_,rfl,id,_,k.cells.2.2.2.2,(zE k.s).use ?_⟩;rintro _ aE ⟨rfl,ag⟩;have aH:=be.trans ag;have R:=(a_.ext ac).ext ag;have b5:((T.n:Int)-e5 (λi=>T.f i||T.g i) T.n)=(cv T:Nat):=by
  have:=n2 (λi=>T.f i||T.g i) T.n;unfold cv;omega
 have b8:IntKind.wrap .i64 (IntKind.wrap .i64 (2*(T.aN:Int))+3)=((2*T.aN+3:Nat):Int):=by
  rw[bB (n:=2*(T.aN:Int)) I I,bB I I];omega
 rw[b5,b8];refine⟨_,rfl,ag,λak=>?_,λak=>?_⟩
 .have ak:((cv T:Nat):Int)<((2*T.aN+3:Nat):Int):=cl ak
  obtain⟨aw,ax⟩:=eP R (i:=0) (by simp);have b9:=ek aE ev 0 (2:Int);have ca:=eO R (i:=0) (2:Int);have bg:=Ext.cD aH b9 I;exact⟨aw,ax,aX ⟨2,ca.cell,T,h.ext bg,(b4.ext T bg).mono I,rfl,rfl,.inl ⟨rfl,I,rfl⟩⟩⟩
 have bh:2*T.aN+3<=cv T:=by
  have:¬((cv T:Nat):Int)<((2*T.aN+3:Nat):Int):=cw ak;omega
 refine bc (vs:=[.pointer (some T.ba),(),()]) rfl λcd bi ce da=>bc (vs:=[.pointer none]) rfl λbj aI bk db=>?_;obtain⟨cb,bl⟩:∃cb,cb=aE.heap.size:=⟨_,rfl⟩;obtain⟨fb,bm⟩:∃fb,fb=cd.heap.size:=⟨_,rfl⟩;rw[←bl]at bi⊢;rw[←bm]at aI⊢;obtain⟨aw,ax⟩:=eP aI (i:=0) (by simp);have al:=ek bj fb 0 (.pointer (some cb));have aJ:=eO aI (i:=0) (.pointer (some cb));refine⟨aw,ax,aX ?_⟩;obtain⟨B,cf⟩:∃B,B=bj.setCell fb (.pointer (some cb)):=⟨_,rfl⟩;rw[←cf]at al aJ⊢;have dc:=aH.size;have dd:=al.size;have aM:Ext aE B:=Ext.cD (ce.trans bk) al I;have bn:=aH.trans aM;have bo:=R.ext aM;have bp:=(bi.ext bk).ah al I;have ch:=((ab.ext bb).ext ac).ext (ag.trans aM);obtain⟨b7,aO⟩:∃b7,b7=λq=>T.E q\/q=ev:=⟨_,rfl⟩;obtain⟨j,aP⟩:∃j,j=λq=>T.G q\/q=cb:=⟨_,rfl⟩;have aS:∀q,b7 q->T.E q\/q=ev:=λq c=>by rw[aO]at c;exact c
 have am:∀q,j q->T.G q\/q=cb:=λq c=>by rw[aP]at c;exact c
 have br:∀q,T.E q->b7 q:=λq c=>by rw[aO];exact .inl c
 have ci:∀q,T.G q->j q:=λq c=>by rw[aP];exact .inl c
 have aU:b7 ev:=by rw[aO];exact .inr rfl
 have cj:j cb:=by rw[aP];exact .inr rfl
 have de:=bo.lt;have df:=bp.lt;have bs:cg B (T.cH b7 j):=h.grow (W:=λ_=>False) bn (λ_ h=>h.elim) (λq c=>(aS q c).imp id λe=>.inr ⟨I,I⟩) (λq c=>.inr ((am q c).imp id λe=>⟨I,I⟩)) λq c hg=>by
  rcases aS q c with h1|h1<;>rcases am q hg with h2|h2
  .exact(h.dT q h1).2.2 h2
  .have:=h.lt (q:=q) (.inr (.inr (.inr (.inl h1))));omega
  .have:=h.lt (q:=q) (.inr (.inr (.inr (.inr h2))));omega
  .have:=R.lt;omega
 have bt:b4 T (T.cH b7 j) w B 0:=(b4.refl T w).step (W:=λ_=>False) bn (λ_ h=>h.elim) (λq c=>(aS q c).imp id λe=>.inr I) λq c=>(am q c).imp id λe=>by omega
 have cm:dB B (T.cH b7 j) ⟨cb,bG,bG,[],[]⟩:=⟨bs,bp,aT.none _ _ _,aT.none _ _ _,cj,λq c=>(gy q c).elim,λq c=>(gy q c).elim,bY⟩;have co:=b0 b7 j B _ cm bt bh rfl rfl;obtain⟨b6,aZ,bf,bq⟩:=bP ch;refine⟨_,aJ.cell,_,b6,K,aZ,V,bf,D,bq,co.use ?_⟩;rintro v F ⟨bQ,u,m,l,bu,d,cp⟩;have S:bQ.E ev:=by rw[d.E];exact aU
 have ao:=bo.ah d.to.ah (bs.k1 aU);have cq:¬(T.cH b7 j).N fb:=by
  have dg:cb<fb:=by rw[bl,bm];omega
  rintro(c|c|c|c)
  .have:=h.lt (q:=fb) (.inl c);omega
  .have:=h.lt (q:=fb) (.inr (.inl c));omega
  .have:=h.lt (q:=fb) (.inr (.inr (.inl c)));omega
  .rcases am fb c with h1|h1
   .have:=h.lt (q:=fb) (.inr (.inr (.inr (.inr h1))));omega
   .omega
 have bv:=aJ.ah d.to.ah cq;have ap:u.cb=cb:=d.cb;have di:bQ.ba=T.ba:=d.to.ba;have aq:u.made=m:=d.made;have av:u.left=l:=d.left;have aW:fb≠ev:=by have:=R.lt;omega
 have bw:b4 T bQ w F 60:=(bt.trans d.to).mono I
 have fin:∀ (w':J) (au:aQ),cg w' au->b4 T au w w' 60->au.E=b7->(∀q,T.G q->au.G q)->cg w' (au.cH T.E T.G)/\b4 T (au.cH T.E T.G) w w' 60:=by
  intro w' au hc ht bx bA;exact⟨hc.grow (W:=λ_=>False) (af.refl _ _) (λ_ h=>h.elim) (λq c=>.inl (by rw[bx];exact br q c)) (λq c=>.inr (.inl (bA q c))) λq c=>(h.dT q c).2.2,
   ht.step (W:=λ_=>False) (af.refl _ _) (λ_ h=>h.elim) (λq c=>.inl (by rw[bx];exact br q c)) λq c=>.inl (bA q c)⟩
 have bC:∀q,T.G q->bQ.G q:=λq c=>d.G q (ci q c);have dj:=(a9).size;have a0:∀ (w0:J) (au:aQ) (c':dS) (x:Int),dB w0 au c'->b4 T au w w0 60->au.E ev->dB (w0.setCell ev x) au c'/\b4 T au w (w0.setCell ev x) 60:=λw0 au c' x hc ht he=>
  ⟨hc.DO (ek w0 ev 0 _) λq e=>.inl (by rw[e];exact he),ht.step (E:=au.E) (G:=au.G) (ek w0 ev 0 _) (λq e a1=>I) (λq c=>.inl c) λq c=>.inl c⟩
 have dk:m.length<=1600:=by
  have:=d.room;have:cv (T.cH b7 j)<=T.n:=by unfold cv;exact Nat.sub_le _ _
  omega
 have cr:(∃a b:Int,v=.tuple #[a,b,(3:Int)]/\¬T.C.D.calm 60)\/(∃ (root y:Nat) (pages:O Nat),v=.tuple #[root,y,(0:Int)]/\((y=0/\root=0/\pages=[]/\ef=[])\/e0 bQ.P y none none root pages ef)/\(pages++l).Perm (m++aL)/\y<=12/\m.length<=2*T.aN+3):=by
  rcases cp with ⟨rfl,h1,h2,a2⟩|⟨root,y,pages,rfl,h1,h2,k,H,a2⟩|⟨a,b,rfl,a3⟩
  .exact .inr ⟨0,0,[],rfl,.inl ⟨rfl,rfl,rfl,h1⟩,h2,I,a2⟩
  .have H:y<=T.aN+1:=H
   exact .inr ⟨root,y,pages,rfl,.inr h1,h2,I,a2⟩
  .exact .inl ⟨a,b,rfl,a3⟩
 rcases cr with ⟨a,b,rfl,a3⟩|⟨root,o,pages,rfl,cs,bD,ct,dl⟩
 .
  obtain⟨aw,ax⟩:=eP ao (i:=0) (by simp);have z:=eO ao (i:=0) (3:Int);obtain⟨ay,aA⟩:=a0 F bQ u 3 bu bw S;have U:=bv.ah (ek F ev 0 (3:Int)) aW;refine⟨a,b,3,rfl,aw,ax,aX ⟨3,z.cell,λ_=>⟨3,z.cell,?_⟩,λhx=>(by cases hx)⟩⟩;obtain⟨cu,cx⟩:=eP z (i:=0) (by simp);have a4:=eO z (i:=0) (3:Int);obtain⟨bE,bF⟩:=a0 _ bQ u 3 ay aA S;have a5:=U.ah (ek _ ev 0 (3:Int)) aW;refine⟨cu,cx,aX (ae.BX ev fb _ _ ?_)⟩;generalize dm:(F.setCell ev (3:Int)).setCell ev (3:Int)=bH at a4 bE a5 bF⊢;(delta ae.qH aF an r1 gT;dsimp only);have L:Ext bH bH.drew:=cE _;have p:=bE.ext L;have X:=DL p p.ma.src (λq c=>(p.jc q c).1) (l:=u.made) (λx hx=>by rw[aq]at hx;rw[d.f];simp[hx]) (by rw[aq];exact d.ck) (by rw[aq];omega);rw[ap]at X;have Y:=p.cells.2.1;rw[ap]at Y;refine⟨3,a4.cell,λ_=>aX ⟨id,_,a5.drew.cell,id,_,a5.drew.cell,_,rfl,id,u.ma,Y,X.use ?_⟩,λhx=>(by cases hx)⟩;rintro _ bI ⟨rfl,b2,A,hg⟩;rw[aq]at hg;have cy:=(a4.ext L).ah hg.to.ah (p.t.k1 S);have cz:b4 T b2 w bI 60:=((bF.trans (b4.ext bQ L)).trans hg.to).mono I;obtain⟨f1,f2⟩:=fin bI b2 A.t cz (by rw[hg.E];exact d.E) λq c=>by rw[hg.G];exact bC q c
  refine⟨rfl,3,cy.cell,_,f1,f2,rfl,rfl,.inr (.inr ⟨rfl,a3,hg.root.trans d.root,hg.aN.trans d.aN,?_,λno Z=>?_⟩)⟩
  .funext no
   show b2.f no=T.f no;rw[hg.f,d.f];by_cases r:no∈m
   .have:=(d.ke no r).1
    have e:(T.cH b7 j).f no=T.f no:=rfl;rw[e]at this⊢
    cases a6:T.f no
    .simp[r]
    .rw[a6]at this;cases this
   .simp[r];rfl
  .have r:no∉m:=λr=>by
    have:=(d.ke no r).1;have e:((T.cH b7 j).f no||(T.cH b7 j).g no)=(T.f no||T.g no):=rfl;rw[e,Z]at this;cases this
   have h1:=hg.eS no (.inl r);have h2:=d.eS no Z;exact⟨h1.1.trans h2.1,h1.2.trans h2.2⟩
 .
  have Q:∀x,pages.count x+l.count x=m.count x+aL.count x:=λx=>by
   have:=oc.1 bD x;simpa only[oB] using this
  have aB:∀x,m.count x+aL.count x<=1:=λx=>by
   have h1:=List.nodup_iff_count.1 d.ck x;have h2:=List.nodup_iff_count.1 bZ x;rcases oA (m.count x) with k|k
   .omega
   .rcases oA (aL.count x) with H|H
    .omega
    .have r:=ko.1 k
     have cA:=ko.1 H;have:=(d.ke x r).1;have e:((T.cH b7 j).f x||(T.cH b7 j).g x)=(T.f x||T.g x):=rfl;rw[e,aD x cA]at this;cases this
  have hlen:pages.length+l.length=m.length+aL.length:=by
   have:=bD.length_eq;simpa only[cG] using this
  have cB:∀x∈l,bQ.f x=true:=λx hx=>by
   have h1:=ko.2 hx;have h2:=Q x;rw[d.f];rcases oA (m.count x) with k|k
   .have:x∈aL:=ko.1 I
    have e:(T.cH b7 j).f x=T.f x:=rfl;rw[e,aD x this];rfl
   .have:x∈m:=ko.1 k
    simp[this]
  have cC:l.Nodup:=DS λx=>by have:=Q x;have:=aB x;omega
  obtain⟨aw,ax⟩:=eP ao (i:=0) (by simp);have z:=eO ao (i:=0) (0:Int);obtain⟨ay,aA⟩:=a0 F bQ u 0 bu bw S;have U:=bv.ah (ek F ev 0 (0:Int)) aW;refine⟨_,_,0,rfl,aw,ax,aX ⟨0,z.cell,λhx=>(by cases hx),λ_=>aX ?_⟩⟩;generalize dn:F.setCell ev (0:Int)=bJ at z ay U aA⊢;have L:Ext bJ bJ.drew:=cE _;have p:=ay.ext L;have X:=DL p p.gQ.src (λq c=>(p.k4 q c).1) (l:=u.left) (λx hx=>cB x (by rw[av]at hx;exact hx)) (by rw[av];exact cC) (by rw[av];omega);rw[ap]at X;have Y:=p.cells.2.2;rw[ap]at Y;refine⟨id,_,U.drew.cell,id,_,U.drew.cell,_,rfl,id,u.gQ,Y,X.use ?_⟩;rintro _ M ⟨rfl,b2,A,hg⟩;rw[av]at hg;have cI:=(z.ext L).ah hg.to.ah (p.t.k1 S);have bK:b4 T b2 w M 60:=((aA.trans (b4.ext bQ L)).trans hg.to).mono I;have a7:b2.ba=T.ba:=bK.ba;have bL:b2.E=b7:=by rw[hg.E];exact d.E
  have cJ:b2.E ev:=by rw[bL];exact aU
  have bM:Var M T.ba (lO b2) 239:=by rw[←a7];exact A.t.t
  obtain⟨cc,cn⟩:=eP bM (i:=3) (by simp[lO]);have bN:=eO bM (i:=3) root;have cK:=ek M T.ba 3 root;obtain⟨cL,cM⟩:=eP bN (i:=4) (by simp[lO]);have bO:=eO bN (i:=4) o;have cN:=ek (M.setCell ⟨T.ba,3,none⟩ root) T.ba 4 o;refine⟨rfl,_,rfl,by rw[az];exact cc,by rw[az];exact cn,aX ⟨_,rfl,by rw[az,az];exact cL,by rw[az,az];exact cM,aX ?_⟩⟩;rw[az,az,cF,cF];have a8:af (λq=>q=T.ba) M ((M.setCell ⟨T.ba,3,none⟩ root).setCell ⟨T.ba,4,none⟩ o):=cK.trans cN;generalize dp:(M.setCell ⟨T.ba,3,none⟩ root).setCell ⟨T.ba,4,none⟩ o=aC at bO a8⊢;have cO:∀x∈pages,x∉l:=λx hx a1=>by
   have h1:=ko.2 hx;have h2:=ko.2 a1;have:=Q x;have:=aB x;omega
  have bR:(o=0/\root=0/\pages=[]/\ef=[])\/(e0 b2.P o none none root pages ef/\root∈pages):=cs.imp id λcP=>cP.agree λx hx=>((hg.eS x (.inl (cO x hx))).1).symm;have cQ:root<b2.n:=by
   rcases bR with ⟨_,h1,_⟩|⟨h1,_⟩
   .have:=A.t.s.bW;omega
   .obtain⟨ck,_,h2,_⟩:=h1.kY
    exact(A.t.eU _ _ h2).1
  have cR:Var aC b2.ba (lO (b2.od root o)) 239:=by rw[a7];exact bO
  obtain⟨cS,cT⟩:=A.t.JA cR (by rw[a7];exact a8) cQ ct;have cU:ev≠T.ba:=λe=>by have:=h.lt (q:=T.ba) (.inr (.inl rfl));omega
  have bT:=cI.ah a8 cU;obtain⟨cV,cW⟩:=eP bT (i:=0) (by simp);have bU:=eO bT (i:=0) (0:Int);have bV:=ek aC ev 0 (0:Int);refine⟨cV,cW,aX (ae.BX ev fb _ _ ?_)⟩;(delta ae.qH aF an r1 gT;dsimp only);refine⟨0,bU.cell,λhx=>(by cases hx),λ_=>⟨0,bU.cell,?_⟩⟩;have cX:cg (aC.setCell ev (0:Int)) (b2.od root o):=cS.grow (E:=b2.E) (G:=b2.G) bV (λq e _=>.inl (by rw[e];exact cJ)) (λq c=>.inl c) (λq c=>.inr (.inl c)) λq c=>(A.t.dT q c).2.2;have cY:b4 T (b2.od root o) w (aC.setCell ev (0:Int)) 60:=((bK.trans cT).mono I).step (E:=b2.E) (G:=b2.G) bV (λq e a1=>I) (λq c=>.inl c) λq c=>.inl c;obtain⟨f1,f2⟩:=fin _ _ cX cY bL λq c=>by
   show b2.G q;rw[hg.G];exact bC q c
  refine⟨_,f1,f2,rfl,rfl,.inr (.inl ⟨rfl,bh,⟨pages,?_,?_,DS λx=>by have:=Q x;have:=aB x;omega,λno hx=>?_,λno=>?_⟩,λno Z=>?_⟩)⟩
  .have h1:cv bQ+m.length=cv T:=d.room
   have h2:cv bQ<=cv (b2.od root o):=by
    show bQ.n-_<=b2.n-e5 (λi=>b2.f i||b2.g i) b2.n;rw[hg.to.n];have:=DR (s:=λi=>b2.f i||b2.g i) (t:=λi=>bQ.f i||bQ.g i) (n:=bQ.n) λi hi=>by
     rw[hg.f,hg.to.g]at hi;rw[jy,dh]at hi;rw[jy];exact hi.imp And.left id
    omega
   show cv T<=cv (b2.od root o)+_;omega
  .rcases bR with ⟨h1,h2,k,H⟩|⟨h1,_⟩
   .exact .inl ⟨h1,h2,k,H⟩
   .exact .inr h1
  .have h1:=ko.2 hx
   have h2:=Q no;rcases oA (aL.count no) with k|k
   .have r:no∈m:=ko.1 I
    exact .inr (d.ke no r).1
   .exact .inl (ko.1 k)
  .show b2.f no=true↔_
   rw[hg.f,d.f];have e:(T.cH b7 j).f no=T.f no:=rfl;rw[e];have dq:=Q no;have A:=aB no;have bX:no∈m↔0<m.count no:=ko.symm;have ab:no∈aL↔0<aL.count no:=ko.symm;have cZ:no∈l↔0<l.count no:=ko.symm;have c0:no∈pages↔0<pages.count no:=ko.symm;have c1:0<aL.count no->T.f no=true:=λh=>aD no (ab.2 h);have c2:0<m.count no->T.f no=false:=λh=>by
    have:=(d.ke no (bX.2 h)).1;have e:((T.cH b7 j).f no||(T.cH b7 j).g no)=(T.f no||T.g no):=rfl;rw[e]at this
    cases a6:T.f no
    .rfl
    .rw[a6]at this;cases this
   rw[dh,jy,b_,jh,jX,bX,ab,cZ,c0];constructor
   .rintro⟨h1|h1,h2⟩
    .by_cases k:0<aL.count no
     .left;omega
     .exact .inr ⟨h1,k⟩
    .left;omega
   .rintro(h1|⟨h1,h2⟩)
    .refine⟨?_,I⟩
     by_cases k:0<aL.count no
     .exact .inl (c1 k)
     .right;omega
    .refine⟨.inl h1,λk=>?_⟩
     have:0<m.count no:=by omega
     rw[c2 this]at h1;cases h1
  .have c3:(T.f no||T.g no)=true:=by rw[Z];simp
   have c4:bQ.g no=true:=by rw[d.to.g];exact Z
   have h1:=hg.eS no (.inr c4);have h2:=d.eS no c3;exact⟨h1.1.trans h2.1,h1.2.trans h2.2⟩
theorem DT{ks:O Key}{k:Key}{i:Nat}(hs:ks.Pairwise bD)(h1:cT ks k<=i)(hi:i<ks.length)(d:ks[cT ks k]? ≠some k):bD k ks[i]:=by
 rcases pw.1 (q1 hs h1 hi) with h2|h2
 .exact h2
 .exfalso
  rcases eu (cT ks k) i with a|a
  .have b:cT ks k<ks.length:=by omega
   have f:=q1 hs (bt _) b;have c:=ln.1 hs _ _ b hi a;rw[←h2]at c;exact f c
  .have e:i=cT ks k:=by omega
   apply d;subst e;rw[dU hi,←h2]
theorem zX{n:aG}(h:hC n){i:Nat}(hi:i<=n.keys.length):∃a b c d:O Key,n.keys=a++b/\n.vals=c++d/\a.length=i/\c.length=i/\b.length=d.length/\n.keys.take i=a/\n.keys.drop i=b/\n.vals.take i=c/\n.vals.drop i=d:=by
 have e:=h.len;refine⟨n.keys.take i,n.keys.drop i,n.vals.take i,n.vals.drop i,(fV i _).symm,(fV i _).symm,?_,?_,?_,rfl,rfl,rfl,rfl⟩
 .rw[cz];omega
 .rw[cz];omega
 .rw[dw,dw];omega
def kJ(k v:Key):Nat:=2+k.length+v.length
theorem rv{n:aG}(h:n.leaf=true):bN n=1+(List.zipWith kJ n.keys n.vals).sum:=by
 unfold bN;rw[if_pos h,lI h];rfl
theorem JC{n:aG}{k v:Key}(h:hC n)(B:cI k)(C:v.length<=24):hC (hT n k v)/\(hT n k v).dW=gM n.dW k v/\bN (hT n k v)<=bN n+50/\(hT n k v).keys≠ []/\n.keys.length<=(hT n k v).keys.length/\(∀s∈(hT n k v).keys,s=k\/s∈n.keys):=by
 have hlen:=h.len;have D:=q0 n.keys k;have J:n.dW=n.keys.zip n.vals:=rfl;have E:=h.e9;have F:∀ (j:Nat) (m:j<n.keys.length),j<cT n.keys k->bD n.keys[j] k:=λj m h1=>py h1 m;have G:n.keys[cT n.keys k]? ≠some k->∀ (j:Nat) (m:j<n.keys.length),cT n.keys k<=j->bD k n.keys[j]:=λhe j m h1=>DT E h1 m he;rw[J,Hy h.e9];unfold hT hO;generalize hi:cT n.keys k=i at D F G⊢;obtain⟨a,b,c,d,g,t,K,L,M,p,q,w,A⟩:=zX h D;have f:n.keys.zip n.vals=a.zip c++b.zip d:=by rw[g,t];exact px I
 have u:(a.zip c).length=i:=by rw[ot];omega
 by_cases he:n.keys[i]? =some k
 .rw[if_pos (by simpa using he),if_pos he]
  have N:∃o,b=k::o:=by
   cases b with
   |nil=>rw[g,g3 I]at he;simp at he
   |cons y o=>
    rw[g,g3 I,K,oe]at he;simp at he;exact⟨o,by rw[he]⟩
  obtain⟨o,rfl⟩:=N;obtain⟨x,l,rfl⟩:∃x l,d=x::l:=by
   cases d with
   |nil=>simp at M
   |cons x l=>exact⟨x,l,rfl⟩
  have H:n.vals.set i v=c++v::l:=by
   rw[t,tQ _ _ I,L,oe];rfl
  refine⟨⟨⟨h.ok,h.e9⟩,h.leaf,by simp[hlen],h.kids,λz f=>?_⟩,?_,?_,λe=>by have e:n.keys=[]:=e;rw[e]at g;simp at g,bt _,λs hs=>.inr hs⟩
  .rcases nr f with h1|h1
   .exact h.vals z h1
   .rw[h1];exact C
  .show n.keys.zip (n.vals.set i v)=_
   rw[H,f,g,px I,mY u];have O:(a.zip c++(k::o).zip (x::l)).drop (i+1)=o.zip l:=by
    rw[List.zip_cons_cons,show a.zip c++(k,x)::o.zip l=(a.zip c++ [(k,x)])++o.zip l by simp];exact drop_left' (by simp only[cG,u,jC])
   rw[O];rfl
  .rw[rv h.leaf,rv (n:={n with vals:=n.vals.set i v}) h.leaf]
   show 1+(List.zipWith kJ n.keys (n.vals.set i v)).sum<=_;rw[H,g,t,p3 I,p3 I,lV,lV,List.zipWith_cons_cons,List.zipWith_cons_cons,rP,rP];unfold kJ;omega
 .rw[if_neg (by simpa using he),if_neg he]
  have P:=G he;refine⟨⟨⟨λz f=>?_,?_⟩,h.leaf,?_,h.kids,λz f=>?_⟩,?_,?_,λe=>?_,?_,λs hs=>?_⟩
  .have f:z∈n.keys.take i++ [k]++n.keys.drop i:=f
   simp only[c1,fz]at f;rcases f with (f|rfl)|f
   .exact h.ok z (eY f)
   .exact B
   .exact h.ok z (e6 f)
  .show(n.keys.take i++ [k]++n.keys.drop i).Pairwise bD
   rw[p,q];have Q:(a++b).Pairwise bD:=by rw[←g];exact E
   obtain⟨aw,ax,R⟩:=my.1 Q;have S:∀x∈a,bD x k:=λx hx=>by
    obtain⟨j,m,rfl⟩:=fF hx;have:=F j (by rw[g,cG];omega) I;simp only[g,ow m]at this;exact this
   have T:∀y∈b,bD k y:=λy r=>by
    obtain⟨j,m,rfl⟩:=fF r;have:=P (i+j) (by rw[g,cG];omega) I;have e:(a++b)[i+j]'(by rw[cG];omega)=b[j]:=by
     rw[p1 I];congr 1;omega
    simp only[g,e]at this;exact this
   rw[cM];refine my.2 ⟨aw,?_,λx hx y r=>?_⟩
   .exact jB.2 ⟨T,ax⟩
   .rcases de.1 r with rfl|r
    .exact S x hx
    .exact R x hx y r
  .show(n.vals.take i++ [v]++n.vals.drop i).length=(n.keys.take i++ [k]++n.keys.drop i).length
   rw[p,q,w,A];simp only[cG,jC];omega
  .have f:z∈n.vals.take i++ [v]++n.vals.drop i:=f
   simp only[c1,fz]at f;rcases f with (f|rfl)|f
   .exact h.vals z (eY f)
   .exact C
   .exact h.vals z (e6 f)
  .show(n.keys.take i++ [k]++n.keys.drop i).zip (n.vals.take i++ [v]++n.vals.drop i)=_
   rw[p,q,w,A,f,mY u,drop_left' u,cM,cM,px I];rfl
  .rw[rv h.leaf,rv (n:={n with keys:=n.keys.take i++ [k]++n.keys.drop i,vals:=n.vals.take i++ [v]++n.vals.drop i}) h.leaf]
   show 1+(List.zipWith kJ (n.keys.take i++ [k]++n.keys.drop i) (n.vals.take i++ [v]++n.vals.drop i)).sum<=_;have aw:(List.zipWith kJ (a++ [k]++b) (c++ [v]++d)).sum=(List.zipWith kJ a c).sum+(kJ k v+(List.zipWith kJ b d).sum):=by
    rw[cM,cM,p3 I,lV];rfl
   have ax:(List.zipWith kJ (a++b) (c++d)).sum=(List.zipWith kJ a c).sum+(List.zipWith kJ b d).sum:=by
    rw[p3 I,lV]
   rw[p,q,w,A,g,t,aw,ax];have:=B.2;unfold kJ;omega
  .have e:n.keys.take i++ [k]++n.keys.drop i=[]:=e
   simp at e
  .show n.keys.length<=(n.keys.take i++ [k]++n.keys.drop i).length
   rw[p,q,g];simp only[cG,jC];omega
  .have hs:s∈n.keys.take i++ [k]++n.keys.drop i:=hs
   simp only[c1,fz]at hs;rcases hs with (hs|rfl)|hs
   .exact .inr (eY hs)
   .exact .inl rfl
   .exact .inr (e6 hs)
def DU(T:aQ)(aL:O Nat)(ef:O aR)(w:J)(v:Y)(w':J):Prop:=
 ∃au:aQ,cg w' au/\b4 T au w w' 100/\au.E=T.E/\au.G=T.G/\
  ((v=.int .i64 2/\cv T<2*T.aN+3/\au=T)\/
   (v=.int .i64 0/\2*T.aN+3<=cv T/\(∃pages,cv T<=cv au+(2*T.aN+3)/\g0 au pages ef/\pages.Nodup/\(∀no∈pages,no∈aL\/(T.f no||T.g no)=false)/\∀no,au.f no=true↔(no∈pages\/(T.f no=true/\no∉aL)))/\∀no,T.g no=true->au.P no=T.P no/\au.C.view no=T.C.view no)\/
   (v=.int .i64 3/\¬T.C.D.calm 100/\au.root=T.root/\au.aN=T.aN/\au.f=T.f/\∀no,(T.f no||T.g no)=true->au.P no=T.P no/\au.C.view no=T.C.view no))
theorem xh.ah{T:aQ}{aI:cf}{aL:O Nat}{ef:O aR}{w w1 w':J}{v:Y}{k:Nat}(h:xh (T.bC aI T.P) aL ef w1 v w')(e:b4 T (T.bC aI T.P) w w1 k)(r:k<=40)(f:∀j,aI.view j=T.C.view j)(i:2*T.aN+3<=cv T):DU T aL ef w v w':=by
 obtain⟨au,h1,h2,l,m,n⟩:=h;refine⟨au,h1,(e.trans h2).mono I,l,m,?_⟩;have o:cv (T.bC aI T.P)=cv T:=rfl;have p:(T.bC aI T.P).aN=T.aN:=rfl;rcases n with ⟨_,b,_⟩|⟨rfl,b,d,c⟩|⟨rfl,b,d,c,q,g⟩
 .rw[o,p]at b;omega
 .exact .inr (.inl ⟨rfl,i,d,λno a=>⟨(c no a).1,(c no a).2.trans (f no)⟩⟩)
 .exact .inr (.inr ⟨rfl,λhc=>b (e.calm 60 (gB hc I)),d,c,q,λno a=>⟨(g no a).1,(g no a).2.trans (f no)⟩⟩)
theorem nJ(w:J)(s:ad):aK ai 141 #[s] w (λv w'=>v=.bool (decide (1<=s.len/\s.len<=24))/\w=w'):=by
 refine okF (ae.nJ s) ay.nJ func141 ?_;unfold ae.nJ;refine⟨?_,rfl⟩
 congr 1
 rw[eQ,dh,b_,b_,b_];omega
theorem zY{T:aQ}{w:J}{pages:O Nat}{L:O aR}{k:Key}(h:cg w T)(l:g0 T pages L):∃steps,ob T.P k T.aN T.root steps/\
 ((steps=[]/\T.aN=0/\pages=[]/\L=[])\/(∃ (a:Nat) (bW:aG) (ft dR:av Key) (b:O (Nat×aG×Nat)) (f:O Nat) (c d:O aR),steps=b++ [(a,bW,0)]/\Ctx T.P k T.aN 1 ft dR b f c d/\T.P a=some bW/\hC bW/\bW.within ft dR/\bW.keys≠ []/\(b≠ []->2<=bW.keys.length)/\fL ft dR k/\
   pages.Perm (a::f)/\L=c++(bW.dW++d)/\∀u,Loc k u->u L=c++(u bW.dW++d))):=by
 rcases l with ⟨h1,h2,m,n⟩|g
 .exact⟨[],by rw[h1];rfl,.inl ⟨rfl,h1,m,n⟩⟩
 .cases i:T.aN with
  |zero=>rw[i]at g;exact g.elim
  |succ t=>
   rw[i]at g;obtain⟨rest,b,a,bW,ft,dR,f,c,d,r1,aF,b5,aY,dF,o,p,q,r,j,s,v⟩:=Ctx.down (P:=T.P) (k:=k) (top:=t+1) (bF:=L) .top g (λh=>absurd rfl h) ⟨λ_ e=>(by cases e),λ_ e=>(by cases e)⟩ (by simp) (λu _=>by simp);rw[hG]at aF;rw[fl]at j;exact⟨rest,r1,.inr ⟨a,bW,ft,dR,b,f,c,d,aF,b5,aY,dF,o,p,q,r,j,s,v⟩⟩
theorem g0.low{T:aQ}{pages:O Nat}{L:O aR}(h:g0 T pages L)(d:L.length<4096):T.aN<12/\pages.length<=L.length:=by
 rcases h with ⟨h1,_,a,_⟩|b
 .rw[h1,a];exact⟨I,cR _⟩
 .obtain⟨aw,ax,c⟩:=b.pages
  refine⟨?_,aw⟩;rcases eu T.aN 12 with h|h
  .exact h
  .have e:=c I
   have f:2^12<=2^T.aN:=tS (by decide) h;have g:(2:Nat)^12=4096:=by decide
   omega
theorem DV{w1:J}{T:aQ}{aI:cf}{pages:O Nat}{L ef:O aR}{k:Key}{steps:O (Nat×aG×Nat)}{s:ad}{a:O dO}{bW b:aG}{K V D:ad}(h:cg w1 (T.bC aI T.P))(H:¬aI.D.ro)(N:g0 T pages L)(Q:L.length<4096)(eD:pages.Nodup)(hf:∀x∈pages,T.f x=true)(m:aI.D.aV<=900000000)
 (g:a.map dO.st=steps) (o:kI (λq=>¬(T.bC aI T.P).M q) w1 s a) (R:bI (λq=>¬(T.bC aI T.P).M q) w1 b K V D) (p:hC b) (S:(steps=[]/\T.aN=0/\pages=[]/\b.keys≠ []/\bN b<=232/\b.dW=ef)\/(∃ (d:Nat) (ft dR:av Key) (c:O (Nat×aG×Nat)) (i:O Nat) (j l:O aR),steps=c++ [(d,bW,0)]/\Ctx T.P k T.aN 1 ft dR c i j l/\b.within ft dR/\(c≠ []->b.keys≠ [])/\pages.Perm (d::i)/\ef=j++(b.dW++l)/\bN b<=282)):
 aK ai 150 #[.pointer (some T.ba),s,c9 b K V D] w1 (xh (T.bC aI T.P) pages ef w1):=by
 obtain⟨r,al⟩:=N.low Q;refine JB h H m r eD hf I λb7 t aj bf u v U w y=>?_;have W:s.len=a.length:=by
  have:=o.own.1;rw[e4 _ (oa a)]at this;omega
 have z:bI (λq=>¬((T.bC aI T.P).cH b7 t).M q) aj b K V D:=(v.ck (lo:=0) (R.a7 λq _ n=>⟨cR _,n⟩)).a7 λq _ n=>n.2;rcases S with ⟨h1,h2,X,Y,Z,aa⟩|⟨d,ft,dR,c,i,j,l,C,E,ab,ac,F,ae,af⟩
 .subst h1 X
  have ag:a=[]:=by simpa using g
  exact Jz (by rw[W,ag];rfl) u z m (by
   have e:cv ((T.bC aI T.P).cH b7 t)=cv (T.bC aI T.P):=rfl;omega) (by rw[w];simp) y p Y Z aa
 .have hlen:a.length=c.length+1:=by
   have:=congrArg List.length g;rw[C,dk,cG,jC]at this;exact this
  have am:1+c.length=T.aN:=E.eX;have ah:=o.to v;have G:(a.take (a.length-1)).map dO.st=c/\(a[a.length-1]'I).no=d:=by
   rw[C]at g;have aw:(a.take (a.length-1)).map dO.st=(c++ [(d,bW,0)]).take (a.length-1):=by rw[←g,mv]
   refine⟨by rw[aw];exact mY I,?_⟩;have ax:(a.map dO.st)[a.length-1]? =some (d,bW,0):=by
    rw[g,g3 I];have:a.length-1-c.length=0:=by omega
    rw[this];rfl
   rw[nq,dU I]at ax;have ak:=Option.some.inj ax;exact congrArg Prod.fst ak
  refine Jy (k:=k) (c0:=i) (A:=j) (B:=l) (M:=b.dW) (lo:=ft) (hi:=dR) u ah z I (by show a.length=T.aN;omega) r m U (by rw[w];simp) (by rw[y];simp) ?_ ⟨p,ab,rfl,rfl⟩ ae.symm ?_ af (λh=>ac λe=>?_) λx hx=>?_
  .rw[G.1]
   have:a.length=T.aN:=by omega
   rw[this];exact E
  .rw[G.2];exact F
  .rw[e]at hlen;simp at hlen;omega
  .exact hf x (F.mem_iff.2 (jW _ hx))
theorem kI.ext'{B C:Nat->Prop}{w w':J}{s:ad}{l:O dO}(h:kI B w s l)(hx:Ext w w')(a:∀q,B q->C q):kI C w' s l:=
 ⟨h.own.ext hx,λq b=>a q (h.pM q b),λx c=>((h.ck x c).ext hx).a7 λq _ d=>a q d⟩
theorem ry{a:O dO}{b:O (Nat×aG×Nat)}{c:Nat}{bz:aG}(d:a.map dO.st=b++ [(c,bz,0)]):∃h:0<a.length,(a[a.length-1]'I).n=bz:=by
 have hlen:a.length=b.length+1:=by
  have:=congrArg List.length d;rw[dk,cG,jC]at this;exact this
 refine⟨I,?_⟩;have ax:(a.map dO.st)[a.length-1]? =some (c,bz,0):=by
  rw[d,g3 I];have:a.length-1-b.length=0:=by omega
  rw[this];rfl
 rw[nq,dU I]at ax;exact congrArg (λx=>x.2.1) (Option.some.inj ax)
theorem JD{w:J}{T:aQ}{pages:O Nat}{L:O aR}{tk c2:ad}{key val:Key}(h:cg w T)(a5:¬T.C.D.ro)(H:g0 T pages L)(am:L.length<4096)(eD:pages.Nodup)(hf:∀x∈pages,T.f x=true)(bY:T.C.D.aV<=800000000)
 (Q:Src 1 w tk (aD key)) (R:∀q,aE tk q->q<w.heap.size/\¬T.M q) (ao:Src 1 w c2 (aD val)) (a6:∀q,aE c2 q->q<w.heap.size/\¬T.M q):
 aK ai 85 #[.pointer (some T.ba),tk,c2] w (λv w'=>(v=.int .i64 1/\¬(cI key/\val.length<=24)/\w=w')\/(cI key/\val.length<=24/\DU T pages (gM L key val) w v w')):=by
 have a8:=len8 Q;have ap:=len8 ao;refine okF (ae.vy (some T.ba) tk c2) ay.vy func85 ?_;(delta ae.vy an b8 aF bS ar ed cU aa aY r1 sx nE;dsimp only);refine cq (λb w'=>b= !(decide (cI key))/\w=w') (λq c=>⟨λh=>(by cases h),λ_=>(nJ w tk).use ?_⟩) ?_
 .rintro _ _ ⟨rfl,rfl⟩
  refine⟨_,rfl,c _ _ ⟨?_,rfl⟩⟩;unfold cI;rw[a8]
 rintro _ _ ⟨rfl,rfl⟩;refine⟨λd=>.inl ⟨rfl,λhg=>?_,rfl⟩,λd=>?_⟩
 .rw[dD hg.1,ap]at d
  have:¬(val.length:Int)>24:=by have:=hg.2;omega
  simp[this]at d
 have hg:cI key/\val.length<=24:=by
  by_cases h1:cI key
  .refine⟨h1,?_⟩
   rw[dD h1,ap]at d;have:¬(val.length:Int)>24:=by simpa using d
   omega
  .rw[g_ h1]at d;simp at d
 have b0:=h.s.bz;obtain⟨b1,b2⟩:=H.low am;have av:Ext w w.drew:=cE w;have hd:=h.ext av;refine aX ⟨λ_=>False,_,rfl,id,_,hd.cells.2.1,_,rfl,id,_,hd.cells.2.2.2.2,(zE hd.s).use ?_⟩;rintro _ b6 ⟨rfl,az⟩;have a9:((T.n:Int)-e5 (λi=>T.f i||T.g i) T.n)=(cv T:Nat):=by
  have:=n2 (λi=>T.f i||T.g i) T.n;unfold cv;omega
 have a_:IntKind.wrap .i64 (IntKind.wrap .i64 (2*(T.aN:Int))+3)=((2*T.aN+3:Nat):Int):=by
  rw[bB (n:=2*(T.aN:Int)) I I,bB I I];omega
 rw[a9,a_];have o:=av.trans az;have S:=h.ext o;refine⟨_,rfl,az,λd=>.inr ⟨hg.1,hg.2,T,S,(b4.ext T o).mono I,rfl,rfl,.inl ⟨rfl,?_,rfl⟩⟩,λd=>?_⟩
 .have d:((cv T:Nat):Int)<((2*T.aN+3:Nat):Int):=cl d
  omega
 have bb:2*T.aN+3<=cv T:=by
  have:¬((cv T:Nat):Int)<((2*T.aN+3:Nat):Int):=cw d;omega
 obtain⟨steps,aA,aB⟩:=zY (k:=key) S H;refine(zM S I (Q.ext o) (λq c=>⟨fP (R q c).1 o.size,(R q c).2⟩) aA).use ?_;rintro _ z ⟨aI,U,W,aC,bd⟩;have u:=((b4.ext T o).trans W).mono (l:=2*T.aN) I;rcases bd with ⟨s,a,rfl,m,X⟩|⟨rfl,be⟩
 rotate_left
 .refine⟨⟨none,0,0⟩,3,rfl,λ_=>.inr ⟨hg.1,hg.2,T.bC aI T.P,U,u.mono I,rfl,rfl,.inr (.inr ⟨rfl,λhc=>be (gB hc I),rfl,rfl,rfl,λno _=>⟨rfl,aC no⟩⟩)⟩,λhx=>(by cases hx)⟩
 have b7:s.len=a.length:=by
  have:=X.own.1;rw[e4 _ (oa a)]at this;omega
 have b9:=o.size;have b_:a.length=T.aN:=by
  have:=aA.length;rw[←m,dk]at this;exact this
 refine⟨s,0,rfl,λhx=>(by cases hx),λ_=>bc (vs:=[false,(),(),()]) rfl λca aH bg cb=>⟨aH.b3 rfl (fZ (b:=true) (K:=bG) (V:=bG) (D:=bG)),rfl,cp aH (us:=ep ⟨true,[],[],[]⟩ bG bG bG) rfl rfl λbi E bk cc=>?_⟩⟩;have Y:Ext z bi:=Ext.cD bg bk (bt _);obtain⟨hV,bl⟩:∃hV,hV=z.heap.size:=⟨_,rfl⟩;rw[←bl]at E⊢
 obtain⟨bW,j⟩:∃bW:aG,bW=(if cd:0<a.length then (a[a.length-1]'I).n else ⟨true,[],[],[]⟩):=⟨_,rfl⟩;refine j4 (λp=>∃ (K V D:ad) (B:Nat->Prop),Ext z p/\Var p hV (ep bW K V D) 202/\bI B p bW K V D) (λq c=>⟨λZ=>?_,λZ=>?_⟩) ?_
 .have ab:0<a.length:=by
   have:(s.len:Int)>0:=cl Z;omega
  rw[dif_pos ab]at j;have e:IntKind.wrap .i64 ((s.len:Int)-1)=((a.length-1:Nat):Int):=by rw[bB I I];omega
  obtain⟨A,aq,_,_,_,hu⟩:=X.at (i:=a.length-1) I;have F:=hu.ext Y;rw[e,di];subst j;refine⟨A,aq,⟨I,I⟩,_,F.aZ,_,F.bf,_,F.bq,_,F.fB,E.b3 rfl fZ,rfl,cp E (us:=ep (a[a.length-1]'I).n (a[a.length-1]'I).K (a[a.length-1]'I).V (a[a.length-1]'I).D) rfl rfl λbm bn bo ce=>?_⟩;have aJ:Ext z bm:=Ext.cD Y bo I;exact c _ ⟨_,_,_,_,aJ,bn,hu.ck.ext aJ⟩
 .have ab:¬0<a.length:=by
   have:¬(s.len:Int)>0:=cw Z;omega
  rw[dif_neg ab]at j;subst j;exact c _ ⟨bG,bG,bG,λ_=>True,Y,E,bw.none _ _,bw.none _ _,cZ.none _ _⟩
 rintro p ⟨K,V,D,B,G,bp,br⟩;have cf:=G.size;have ch:=W.ah.size
 have bs:hC bW/\bN bW<=232:=by
  rcases aB with ⟨h1,h2,r,t⟩|⟨aL,bz,ft,dR,aM,aO,aP,aS,aF,b5,aY,dF,aT,bu,bv,aU,aW,bx,a0⟩
  .have ac:¬0<a.length:=by
    rw[h1]at m;have:a=[]:=by simpa using m
    rw[this];simp
   rw[j,dif_neg ac];exact⟨⟨⟨λ_ h=>(by cases h),List.Pairwise.nil⟩,rfl,rfl,rfl,λ_ h=>(by cases h)⟩,by decide⟩
  .rw[aF]at m
   obtain⟨aw,ax⟩:=ry m;rw[j,dif_pos aw,ax];exact⟨dF,h.pO _ _ aY⟩
 obtain⟨af,ci⟩:=bs;have cj:=(cQ.eL (.inl af) I);have cm:∀q,T.N q->q<w.heap.size:=λq c=>h.lt (aQ.gZ c);have bA:Src 1 p tk (aD key):=(Q.ah u.ah λq c ag=>(R q c).2 (aQ.gZ ag)).ext G;have bD:Src 1 p c2 (aD val):=(ao.ah u.ah λq c ag=>(a6 q c).2 (aQ.gZ ag)).ext G;obtain⟨d0,d1,d2,d3⟩:=bP bp;refine⟨_,d0,K,d1,V,d2,D,d3,(qD br af I bA bD hg.1 hg.2).use ?_⟩;rintro _ bE ⟨cL,cV,cx,rfl,bF,bH⟩;refine⟨_,cL,cV,cx,true,rfl,bc (vs:=[false,(),(),()]) rfl λcn a1 bJ co=>⟨a1.b3 rfl fZ,rfl,cp a1 (us:=ep (hT bW key val) cL cV cx) rfl rfl λa2 bK bL cr=>⟨λhx=>(by cases hx),λ_=>?_⟩⟩⟩;have a3:Ext bE a2:=Ext.cD bJ bL (bt _);have aj:=(G.trans bH).trans a3;obtain⟨d0,d1,d2,d3⟩:=bP bK;obtain⟨bh,bj,bM,ak,bO,a4⟩:=JC af hg.1 hg.2;have bQ:aI.D.aV<=900000000:=by
  have:aI.D.aV<=T.C.D.aV+2*T.aN:=u.aV;omega
 have bR:bI (λq=>¬(T.bC aI T.P).M q) a2 (hT bW key val) cL cV cx:=(bF.ext a3).a7 λq _ c bT=>by have:=U.lt bT;omega
 have bU:=DV (ef:=gM L key val) (k:=key) (steps:=steps) (bW:=bW) (U.ext aj) (λe=>a5 λi=>W.bZ.1▸e i) H am eD hf bQ m (X.ext' aj λq c=>c.2) bR bh (by
  rcases aB with ⟨h1,h2,r,t⟩|⟨aL,bz,ft,dR,aM,aO,aP,aS,aF,b5,aY,dF,aT,bu,bv,aU,aW,bx,a0⟩
  .have ac:¬0<a.length:=by omega
   rw[dif_neg ac]at j;refine .inl ⟨h1,h2,r,ak,?_,?_⟩
   .have:bN bW=1:=by rw[j];rfl
    omega
   .rw[bj,j,t];rfl
  .rw[aF]at m
   obtain⟨aw,ax⟩:=ry m;rw[dif_pos aw,ax]at j;rw[j]at bj bM ak bO a4⊢;refine .inr ⟨aL,ft,dR,aM,aO,aP,aS,aF,b5,λs hs=>?_,λ_=>ak,aW,?_,by have:=h.pO _ _ aY;omega⟩
   .rcases a4 s hs with rfl|al
    .exact aU
    .exact aT s al
   .rw[bj];exact a0 (λL=>gM L key val) (Ho key val))
 refine⟨_,d0,cL,d1,cV,d2,cx,d3,bU.use ?_⟩;intro v w' bV;have bX:=bV.ah (w:=w) ((u.trans (b4.ext (T.bC aI T.P) aj)).mono (l:=40) I) (bt _) aC bb;obtain⟨au,h1,h2,r,t,al⟩:=bX;rcases al with ⟨rfl,y⟩|⟨rfl,y⟩|⟨rfl,y⟩
 .exact⟨2,rfl,.inr ⟨hg.1,hg.2,au,h1,h2,r,t,.inl ⟨rfl,y⟩⟩⟩
 .exact⟨0,rfl,.inr ⟨hg.1,hg.2,au,h1,h2,r,t,.inr (.inl ⟨rfl,y⟩)⟩⟩
 .exact⟨3,rfl,.inr ⟨hg.1,hg.2,au,h1,h2,r,t,.inr (.inr ⟨rfl,y⟩)⟩⟩
theorem DW{l:O aR}{k:Key}(h:(e3 l k).length=l.length):∀p∈l,p.1≠k:=by
 intro p a;unfold e3 at h;have:=(jA (p:=λp:aR=>decide (p.1≠k))).1 (List.Sublist.eq_of_length List.filter_sublist h);exact cl (this p a)
theorem DX{L A B M:O aR}{k:Key}(b:L=A++(M++B))(hu:e3 L k=A++(e3 M k++B)):fe L k=fe M k:=by
 have h1:(e3 A k).length<=A.length:=iP _ _;have h2:(e3 B k).length<=B.length:=iP _ _;have c:=congrArg List.length hu;rw[b,s4,s4]at c;simp only[cG]at c;have aq:=DW (l:=A) (k:=k) I;have d:=DW (l:=B) (k:=k) I;have e:A.find? (λp=>decide (p.1=k))=none:=jZ.2 λp a=>by simpa using aq p a
 have f:B.find? (λp=>decide (p.1=k))=none:=jZ.2 λp a=>by simpa using d p a
 unfold fe;rw[b,List.find?_append,List.find?_append,e,f];simp
theorem DY{n:aG}{k:Key}(h:hC n):fe n.dW k=if hO n.keys k then n.vals[cT n.keys k]? else none:=by
 have s:=q0 n.keys k;have w:=h.e9;have t:∀ (j:Nat) (f:j<n.keys.length),j<cT n.keys k->bD n.keys[j] k:=λj f h1=>py h1 f;have u:n.keys[cT n.keys k]? ≠some k->∀ (j:Nat) (f:j<n.keys.length),cT n.keys k<=j->bD k n.keys[j]:=λhe j f h1=>DT w h1 f he;have l:n.dW=n.keys.zip n.vals:=rfl;unfold hO;rw[l];generalize cT n.keys k=i at s t u⊢;obtain⟨a,b,c,d,g,v,z,A,B,H,J,K,L⟩:=zX h s;have C:n.keys.zip n.vals=a.zip c++b.zip d:=by rw[g,v];exact px I
 have D:(a.zip c).find? (λp:aR=>decide (p.1=k))=none:=jZ.2 λp l=>by
  have q:=(rO l).1;obtain⟨j,f,r⟩:=fF q;have h1:=t j (by rw[g,cG];omega) I;simp only[g,ow f,r]at h1;simpa using nP h1
 unfold fe;rw[C,List.find?_append,D];by_cases he:n.keys[i]? =some k
 .rw[if_pos (by simpa using he)]
  have E:∃m,b=k::m:=by
   cases b with
   |nil=>rw[g,g3 I]at he;simp at he
   |cons y m=>
    rw[g,g3 I,z,oe]at he;simp at he;exact⟨m,by rw[he]⟩
  obtain⟨m,rfl⟩:=E;obtain⟨x,o,rfl⟩:∃x o,d=x::o:=by
   cases d with
   |nil=>simp at B
   |cons x o=>exact⟨x,o,rfl⟩
  rw[v,g3 I,A,oe];simp
 .rw[if_neg (by simpa using he)]
  have F:=u he;have G:(b.zip d).find? (λp:aR=>decide (p.1=k))=none:=jZ.2 λp l=>by
   have q:=(rO l).1;obtain⟨j,f,r⟩:=fF q;have h1:=F (i+j) (by rw[g,cG];omega) I;have e:(a++b)[i+j]'(by rw[cG];omega)=b[j]:=by
    rw[p1 I];congr 1;omega
   simp only[g,e,r]at h1;have:=nP h1;simpa using λh=>this h.symm
  rw[G];rfl
def zZ(T:aQ)(L:O aR)(key:Key)(w:J)(v:Y)(w':J):Prop:=
 ∃aI:cf,cg w' (T.bC aI T.P)/\b4 T (T.bC aI T.P) w w' 30/\(∀j,aI.view j=T.C.view j)/\
  ((v=.tuple #[(),false,(0:Int)]/\(cI key->fe L key=none))\/
   (∃ (t:ad) (x:Key),v=.tuple #[t,true,(0:Int)]/\cI key/\fe L key=some x/\bA (λq=>¬(T.bC aI T.P).M q) w' t x)\/
   (v=.tuple #[(),false,(3:Int)]/\cI key/\¬T.C.D.calm 30))
theorem z1{w:J}{T:aQ}{pages:O Nat}{L:O aR}{tk:ad}{key:Key}(h:cg w T)(S:g0 T pages L)(aL:T.C.D.aV<=800000000)(l:Src 1 w tk (aD key))(v:∀q,aE tk q->q<w.heap.size/\¬T.M q):
 aK ai 80 #[.pointer (some T.ba),tk] w (zZ T L key w):=by
 have U:=len8 l;have aO:=h.num.2.1;have aP:T.bC T.C T.P=T:=rfl;refine okF (ae.vt (some T.ba) tk) ay.vt func80 ?_;(delta ae.vt an b8 ed ar aY r1 cU aa kW aM;dsimp only);refine cq (λb w'=>b= !(decide (cI key))/\w=w') (λq m=>⟨λh=>(by cases h),λ_=>(nJ w tk).use ?_⟩) ?_
 .rintro _ _ ⟨rfl,rfl⟩
  refine⟨_,rfl,m _ _ ⟨?_,rfl⟩⟩;unfold cI;rw[U]
 rintro _ _ ⟨rfl,rfl⟩;refine⟨λf=>⟨λh=>(by cases h),λ_=>?_⟩,λf=>?_⟩
 .have:¬cI key:=by simpa using f
  exact⟨T.C,h,(b4.refl T w).mono I,λ_=>rfl,.inl ⟨rfl,λhx=>absurd hx this⟩⟩
 have hg:cI key:=by simpa using f
 obtain⟨steps,x,y⟩:=zY (k:=key) h S;refine(zM h I l v x).use ?_;rintro _ W ⟨aI,n,g,j,X⟩;rcases X with ⟨s,a,rfl,d,z⟩|⟨rfl,Y⟩
 rotate_left
 .exact⟨⟨none,0,0⟩,3,rfl,λ_=>⟨aI,n,g.mono I,j,.inr (.inr ⟨rfl,hg,λhc=>Y (gB hc I)⟩)⟩,λhx=>(by simp at hx)⟩
 have aS:s.len=a.length:=by
  have:=z.own.1;rw[e4 _ (oa a)]at this;omega
 have aT:a.length=T.aN:=by
  have:=x.length;rw[←d,dk]at this;exact this
 refine⟨s,0,rfl,λhx=>⟨aI,n,g.mono I,j,.inl ⟨rfl,λ_=>?_⟩⟩,λhx=>?_⟩
 .have Z:a.length=0:=by
   have:(s.len:Int)=0:=by simpa using hx
   omega
  rcases y with ⟨_,_,_,ab⟩|⟨ac,bz,ft,dR,af,ag,aj,ak,aF,_⟩
  .rw[ab];rfl
  .rw[aF]at d
   obtain⟨aw,_⟩:=ry d;omega
 have Z:0<a.length:=by
  have:¬(s.len:Int)=0:=by simpa using hx
  omega
 have e:IntKind.wrap .i64 ((s.len:Int)-1)=((a.length-1:Nat):Int):=by rw[bB I I];omega
 obtain⟨A,aq,_,_,_,hu⟩:=z.at (i:=a.length-1) I;rcases y with ⟨h1,_⟩|⟨ac,bz,ft,dR,af,ag,aj,ak,aF,b5,aY,dF,aU,aW,aX,a0,a1,al,am⟩
 .rw[h1]at d
  have:=congrArg List.length d;simp at this;omega
 have B:=d;rw[aF]at B;obtain⟨aw,ax⟩:=ry B;rw[e,di];generalize a2:(a[a.length-1]'I)=u at hu ax;obtain⟨a3,un,a4,K,V,D⟩:=u;obtain rfl:un=bz:=ax;refine⟨A,aq,⟨I,I⟩,_,hu.aZ,K,hu.bf,V,hu.bq,D,hu.fB,bc (vs:=[false,(),(),()]) rfl λa5 E ao a6=>⟨E.b3 rfl fZ,rfl,cp E (us:=ep un K V D) rfl rfl λo F ap a8=>?_⟩⟩;have p:Ext W o:=Ext.cD ao ap (bt _);obtain⟨d0,d1,d2,d3⟩:=bP F;have a9:=(cQ.eL (.inl dF) (by have:=h.pO _ _ aY;omega));have au:Src 1 o tk (aD key):=(l.ah g.ah λq m av=>(v q m).2 (aQ.gZ av)).ext p;have G:bI (λq=>w.heap.size<=q/\¬(T.bC aI T.P).M q) o un K V D:=hu.ck.ext p;refine⟨_,d0,K,d1,V,d2,D,d3,(qB G au dF.e9 I).use ?_⟩;rintro _ az ⟨rfl,r⟩;have H:=p.trans r;have N:=n.ext H;have Q:b4 T (T.bC aI T.P) w az 30:=(g.trans (b4.ext _ H)).mono I;have t:fe L key=fe un.dW key:=DX al (am (λL=>e3 L key) (yU key));rw[DY dF]at t;refine⟨_,_,rfl,λc=>⟨aI,N,Q,j,.inl ⟨rfl,λ_=>?_⟩⟩,λc=>?_⟩
 .have c:hO un.keys key=false:=by simpa using c
  rw[t,if_neg (by rw[c];simp)]
 .have c:hO un.keys key=true:=by simpa using c
  have aA:cT un.keys key<un.keys.length:=(jV.1 (cl c)).1;have R:cT un.keys key<un.vals.length:=by rw[dF.len];exact aA
  obtain⟨f0,f1,f2,f3⟩:=bP (F.ext r);obtain⟨aB,c2,aC,aG,aH,aJ,_⟩:=bw.at (G.ext r).vals R;refine⟨V,f2,aB,aC,aG,c2,aH,aI,N,Q,j,.inr (.inl ⟨c2,un.vals[cT un.keys key],rfl,hg,?_,bA.a7 aJ λq _ f=>f.2⟩)⟩;rw[t,if_pos c,dU R]
theorem JE{n:aG}{k:Key}(h:hC n)(w:hO n.keys k=true):hC (mc n k)/\(mc n k).dW=e3 n.dW k/\bN (mc n k)<=bN n/\n.keys.length=(mc n k).keys.length+1/\(∀s∈(mc n k).keys,s∈n.keys):=by
 have o:=q0 n.keys k;have A:=h.e9;have l:n.dW=n.keys.zip n.vals:=rfl;have he:n.keys[cT n.keys k]? =some k:=cl w;rw[l];unfold mc;generalize cT n.keys k=i at o he⊢;obtain⟨a,b,c,d,j,m,q,B,r,C,H,D,J⟩:=zX h o;have g:n.keys.zip n.vals=a.zip c++b.zip d:=by rw[j,m];exact px I
 have E:∃e,b=k::e:=by
  cases b with
  |nil=>rw[j,g3 I]at he;simp at he
  |cons y e=>
   rw[j,g3 I,q,oe]at he;simp at he;exact⟨e,by rw[he]⟩
 obtain⟨e,rfl⟩:=E;obtain⟨x,f,rfl⟩:∃x f,d=x::f:=by
  cases d with
  |nil=>simp at r
  |cons x f=>exact⟨x,f,rfl⟩
 have aw:n.keys.drop (i+1)=e:=by rw[j,show a++k::e=(a++ [k])++e by simp];exact drop_left' (by simp[q])
 have ax:n.vals.drop (i+1)=f:=by rw[m,show c++x::f=(c++ [x])++f by simp];exact drop_left' (by simp[B])
 rw[C,D,aw,ax];have F:(a++k::e).Pairwise bD:=by rw[←j];exact A
 obtain⟨hE,eB,t⟩:=my.1 F;have u:=jB.1 eB;have v:∀z,z∈a++e->z∈n.keys:=λz g=>by
  rw[j];simp only[c1,de]at g⊢;rcases g with h1|h1
  .exact .inl h1
  .exact .inr (.inr h1)
 refine⟨⟨⟨λz g=>h.ok z (v z g),my.2 ⟨hE,u.2,λy G z g=>t y G z (jW _ g)⟩⟩,h.leaf,?_,h.kids,λz g=>h.vals z ?_⟩,?_,?_,?_,v⟩
 .show(c++f).length=(a++e).length
  simp only[cG,gx]at r⊢;omega
 .rw[m]
  have g:z∈c++f:=g;simp only[c1,de]at g⊢;rcases g with h1|h1
  .exact .inl h1
  .exact .inr (.inr h1)
 .show(a++e).zip (c++f)=_
  rw[g,px I,s4,List.zip_cons_cons];have f1:e3 (a.zip c) k=a.zip c:=s5 λp l=>nP (t _ (rO l).1 k om);have f2:e3 ((k,x)::e.zip f) k=e.zip f:=by
   have:e3 ((k,x)::e.zip f) k=e3 (e.zip f) k:=by unfold e3;simp
   rw[this];exact s5 λp l=>(nP (u.1 _ (rO l).1)).symm
  rw[f1,f2]
 .rw[rv h.leaf,rv (n:={n with keys:=a++e,vals:=c++f}) h.leaf]
  show 1+(List.zipWith kJ (a++e) (c++f)).sum<=_;rw[j,m,p3 I,p3 I,lV,lV,List.zipWith_cons_cons,rP];omega
 .show n.keys.length=(a++e).length+1
  rw[j];simp only[cG,gx];omega
structure jw(T au:aQ):Prop where
 root:au.root=T.root
 aN:au.aN=T.aN
 f:au.f=T.f
 eS:∀no,(T.f no||T.g no)=true->au.P no=T.P no/\au.C.view no=T.C.view no
theorem jw.refl(T:aQ):jw T T:=⟨rfl,rfl,rfl,λ_ _=>⟨rfl,rfl⟩⟩
theorem jw.bC{T:aQ}{aI:cf}(a:∀j,aI.view j=T.C.view j):jw T (T.bC aI T.P):=⟨rfl,rfl,rfl,λno _=>⟨rfl,a no⟩⟩
theorem jw.trans{T au a:aQ}(h1:jw T au)(h2:jw au a)(hg:au.g=T.g):jw T a:=
 ⟨h2.root.trans h1.root,h2.aN.trans h1.aN,h2.f.trans h1.f,λno h=>by
  have b:=h1.eS no h
  have c:=h2.eS no (by rw[h1.f,hg];exact h)
  exact⟨c.1.trans b.1,c.2.trans b.2⟩⟩
structure DZ(T au:aQ)(aL:O Nat)(ef:O aR):Prop where
 ok:∃pages,cv T<=cv au+(2*T.aN+3)/\g0 au pages ef/\pages.Nodup/\(∀no∈pages,no∈aL\/(T.f no||T.g no)=false)/\∀no,au.f no=true↔(no∈pages\/(T.f no=true/\no∉aL))
 eS:∀no,T.g no=true->au.P no=T.P no/\au.C.view no=T.C.view no
theorem jw.ok{T au:aQ}{pages:O Nat}{L:O aR}(h:jw T au)(a:g0 T pages L)(hf:∀x∈pages,T.f x=true):g0 au pages L:=by
 unfold g0 at a⊢;rw[h.root,h.aN];rcases a with a|b
 .exact .inl a
 .exact .inr (e0.agree b λx hx=>(h.eS x (by rw[hf x hx];rfl)).1.symm).1
def JF(T:aQ)(aL:O Nat)(L:O aR)(key:Key)(w:J)(v:Y)(w':J):Prop:=
 ∃au:aQ,cg w' au/\b4 T au w w' 100/\au.E=T.E/\au.G=T.G/\
  ((v=.tuple #[false,(1:Int)]/\¬cI key/\jw T au)\/
   (v=.tuple #[false,(0:Int)]/\cI key/\fe L key=none/\jw T au)\/
   (v=.tuple #[false,(2:Int)]/\cI key/\fe L key≠none/\cv T<2*T.aN+3/\jw T au)\/
   (v=.tuple #[true,(0:Int)]/\cI key/\fe L key≠none/\2*T.aN+3<=cv T/\DZ T au aL (e3 L key))\/
   (v=.tuple #[false,(3:Int)]/\cI key/\¬T.C.D.calm 100/\jw T au))
theorem JG{w:J}{T:aQ}{pages:O Nat}{L:O aR}{tk:ad}{key:Key}(h:cg w T)(aG:¬T.C.D.ro)(ab:g0 T pages L)(aH:L.length<4096)(eD:pages.Nodup)(hf:∀x∈pages,T.f x=true)(bg:T.C.D.aV<=800000000)
 (Q:Src 1 w tk (aD key)) (ac:∀q,aE tk q->q<w.heap.size/\¬T.M q):
 aK ai 83 #[.pointer (some T.ba),tk] w (JF T pages L key w):=by
 have aJ:=len8 Q;have bi:=h.num.2.1;refine okF (ae.vw (some T.ba) tk) ay.vw func83 ?_;(delta ae.vw an b8 ed ar aY r1 nE cU aa bS;dsimp only);refine cq (λb w'=>b= !(decide (cI key))/\w=w') (λq m=>⟨λh=>(by cases h),λ_=>(nJ w tk).use ?_⟩) ?_
 .rintro _ _ ⟨rfl,rfl⟩
  refine⟨_,rfl,m _ _ ⟨?_,rfl⟩⟩;unfold cI;rw[aJ]
 rintro _ _ ⟨rfl,rfl⟩;refine⟨λR=>⟨T,h,(b4.refl T w).mono I,rfl,rfl,.inl ⟨rfl,by simpa using R,.refl T⟩⟩,λR=>?_⟩;have hg:cI key:=by simpa using R
 obtain⟨steps,af,ag⟩:=zY (k:=key) h ab;refine(zM h I Q ac af).use ?_;rintro _ aL ⟨aI,r,c,o,g⟩;rcases g with ⟨s,a,rfl,j,S⟩|⟨rfl,aM⟩
 rotate_left
 .exact⟨⟨none,0,0⟩,3,rfl,λ_=>⟨_,r,c.mono I,rfl,rfl,.inr (.inr (.inr (.inr ⟨rfl,hg,λhc=>aM (gB hc I),.bC o⟩)))⟩,λhx=>(by simp at hx)⟩
 have bk:s.len=a.length:=by
  have:=S.own.1;rw[e4 _ (oa a)]at this;omega
 have bl:a.length=T.aN:=by
  have:=af.length;rw[←j,dk]at this;exact this
 refine⟨s,0,rfl,λhx=>⟨_,r,c.mono I,rfl,rfl,.inr (.inl ⟨rfl,hg,?_,.bC o⟩)⟩,λhx=>?_⟩
 .have aO:a.length=0:=by
   have:(s.len:Int)=0:=by simpa using hx
   omega
  rcases ag with ⟨_,_,_,t⟩|⟨aj,bz,ft,dR,ak,al,am,ao,aF,_⟩
  .rw[t];rfl
  .rw[aF]at j
   obtain⟨aw,_⟩:=ry j;omega
 have aO:0<a.length:=by
  have:¬(s.len:Int)=0:=by simpa using hx
  omega
 have e:IntKind.wrap .i64 ((s.len:Int)-1)=((a.length-1:Nat):Int):=by rw[bB I I];omega
 obtain⟨A,aq,_,_,_,hu⟩:=S.at (i:=a.length-1) I;rcases ag with ⟨h1,_⟩|⟨aj,bz,ft,dR,ak,al,am,ao,aF,b5,aY,dF,aP,bm,aS,bn,aT,aU,ap⟩
 .rw[h1]at j
  have:=congrArg List.length j;simp at this;omega
 have F:=j;rw[aF]at F;obtain⟨aw,ax⟩:=ry F;rw[e,di];generalize bo:(a[a.length-1]'I)=u at hu ax;obtain⟨bp,un,br,K,V,D⟩:=u;obtain rfl:un=bz:=ax;have bs:=(cQ.eL (.inl dF) (by have:=h.pO _ _ aY;omega));have aW:Src 1 aL tk (aD key):=Q.ah c.ah λq m aX=>(ac q m).2 (aQ.gZ aX);have U:fe L key=fe un.dW key:=DX aU (ap (λL=>e3 L key) (yU key));rw[DY dF]at U;refine⟨A,aq,⟨I,I⟩,_,hu.aZ,K,hu.bf,V,hu.bq,D,hu.fB,(qC (n:=un) hu.ck dF I aW).use ?_⟩;intro v av g;unfold q_ at g;by_cases d:hO un.keys key=true
 rotate_left
 .have d:hO un.keys key=false:=by simpa using d
  rw[d,if_neg (by simp)]at g;obtain⟨rfl,G⟩:=g;refine⟨_,bG,bG,bG,false,rfl,bc (vs:=[false,(),(),()]) rfl λa0 y W a1=>⟨y.b3 rfl (fZ (b:=js.leaf) (K:=bG) (V:=bG) (D:=bG)),rfl,cp y (us:=ep js bG bG bG) rfl rfl λH az X a2=>⟨λ_=>?_,λhx=>(by cases hx)⟩⟩⟩;have N:Ext av H:=Ext.cD W X (bt _);have p:=G.trans N;refine⟨_,r.ext p,(c.trans (b4.ext _ p)).mono I,rfl,rfl,.inr (.inl ⟨rfl,hg,?_,.bC o⟩)⟩;rw[U,if_neg (by rw[d];simp)]
 rw[if_pos d]at g;obtain⟨cL,cV,cx,rfl,a3,G⟩:=g;refine⟨_,cL,cV,cx,true,rfl,bc (vs:=[false,(),(),()]) rfl λa0 y W a1=>⟨y.b3 rfl fZ,rfl,cp y (us:=ep (mc un key) cL cV cx) rfl rfl λH az X a2=>⟨λhx=>(by cases hx),λ_=>?_⟩⟩⟩;have N:Ext av H:=Ext.cD W X (bt _);have p:=G.trans N;obtain⟨d0,d1,d2,d3⟩:=bP az;obtain⟨bh,bj,bu,aA,a4⟩:=JE dF d;have a5:cT un.keys key<un.keys.length:=(jV.1 (cl d)).1;have a6:cT un.keys key<un.vals.length:=by rw[dF.len];exact a5
 have aB:fe L key≠none:=by
  rw[U,if_pos d,dU a6];simp
 have a8:aI.D.aV<=900000000:=by
  have:aI.D.aV<=T.C.D.aV+2*T.aN:=c.aV;omega
 have bv:=G.size;have a9:bI (λq=>¬(T.bC aI T.P).M q) H (mc un key) cL cV cx:=(a3.ext N).a7 λq _ m F=>by have:=r.lt F;omega
 have a_:=DV (ef:=e3 L key) (k:=key) (steps:=steps) (bW:=un) (r.ext p) (λe=>aG λi=>c.bZ.1▸e i) ab aH eD hf a8 j (S.ext' p λq m=>m.2) a9 bh (.inr ⟨aj,ft,dR,ak,al,am,ao,aF,b5,λs hs=>aP s (a4 s hs),λhs e=>by
  have z:=aS hs;rw[e]at aA;simp at aA;omega,aT,by rw[bj];exact ap (λL=>e3 L key) (yU key),by have:=h.pO _ _ aY;omega⟩)
 refine⟨_,d0,cL,d1,cV,d2,cx,d3,a_.use ?_⟩;rintro v w' ⟨au,h1,h2,Y,t,bb⟩;have Z:=((c.trans (b4.ext (T.bC aI T.P) p)).trans h2).mono (l:=100) I;have bw:cv (T.bC aI T.P)=cv T:=rfl;have bx:(T.bC aI T.P).aN=T.aN:=rfl;rcases bb with ⟨rfl,B,E⟩|⟨rfl,B,E,z⟩|⟨rfl,B,E,z,bd,be⟩
 .subst E
  exact⟨2,rfl,_,h1,Z,Y,t,.inr (.inr (.inl ⟨rfl,hg,aB,B,.bC o⟩))⟩
 .exact⟨0,rfl,_,h1,Z,Y,t,.inr (.inr (.inr (.inl ⟨rfl,hg,aB,B,E,λno aC=>⟨(z no aC).1,(z no aC).2.trans (o no)⟩⟩)))⟩
 .exact⟨3,rfl,_,h1,Z,Y,t,.inr (.inr (.inr (.inr ⟨rfl,hg,λhc=>B (c.calm 60 (gB hc I)),(jw.bC o).trans ⟨E,z,bd,be⟩ rfl⟩)))⟩
def tv(fr to:Key)(p:aR):al:=decide (dQ fr p.1)&&(to.isEmpty||decide (bD p.1 to))
theorem xi(l:O aR)(fr to:Key):gW l fr to=l.filter (tv fr to):=rfl
theorem xj(a b:O aR)(fr to:Key):gW (a++b) fr to=gW a fr to++gW b fr to:=gG ..
def k6(fr to:Key)(most:Nat):O aR->O aR->al×O aR
 |acc,[]=>(true,acc)
 |acc,p::ps=>
  if to≠ []/\¬bD p.1 to then (false,acc)
  else
   let a:=if dQ fr p.1 then acc++ [p] else acc
   if a.length=most then (false,a) else k6 fr to most a ps
def ir(fr to:Key)(most:Nat)(acc L:O aR)(on:al)(a:O aR):Prop:=
 (on=true/\a=acc++gW L fr to/\a.length<most)\/(on=false/\∀R,hN (L++R)->a=(acc++gW (L++R) fr to).take most)
variable {fr to:Key}{most:Nat}
theorem ir.nil{acc:O aR}(h:acc.length<most):ir fr to most acc [] true acc:=.inl ⟨rfl,by simp[gW],h⟩
theorem ir.app{acc m6 jv bp bJ:O aR}{on:al}(h1:ir fr to most acc bp true m6)(h2:ir fr to most m6 bJ on jv):ir fr to most acc (bp++bJ) on jv:=by
 rcases h1 with ⟨_,h1,_⟩|⟨h,_⟩
 rotate_left
 .cases h
 subst h1;rcases h2 with ⟨a,b,d⟩|⟨a,b⟩
 .exact .inl ⟨a,by rw[b,xj,cM],d⟩
 .refine .inr ⟨a,λR c=>?_⟩
  rw[cM]at c;rw[b R (s6.1 c).2.1,cM bp bJ R,xj bp,cM]
theorem ir.stop{acc m6 bp bJ:O aR}(h1:ir fr to most acc bp false m6):ir fr to most acc (bp++bJ) false m6:=by
 rcases h1 with ⟨h,_⟩|⟨_,h⟩
 .cases h
 .refine .inr ⟨rfl,λR a=>?_⟩
  rw[cM]at a⊢;exact h _ a
theorem ir.skip{acc jv bp bJ:O aR}{on:al}(hs:gW bp fr to=[])(h2:ir fr to most acc bJ on jv):ir fr to most acc (bp++bJ) on jv:=by
 rcases h2 with ⟨a,b,d⟩|⟨a,b⟩
 .exact .inl ⟨a,by rw[b,xj,hs];rfl,d⟩
 .refine .inr ⟨a,λR c=>?_⟩
  rw[cM]at c⊢;rw[b R (s6.1 c).2.1,xj bp,hs];rfl
theorem ir.all{L acc:O aR}{on:al}(h:ir fr to most [] L on acc)(a:hN L):acc=(gW L fr to).take most:=by
 rcases h with ⟨_,h1,h2⟩|⟨_,h1⟩
 .rw[h1]at h2⊢
  rw[hG]at h2⊢;rw[dr I]
 .have:=h1 [] (by simpa using a)
  simpa using this
theorem D1:∀ {ps acc:O aR},hN ps->acc.length<most->ir fr to most acc ps (k6 fr to most acc ps).1 (k6 fr to most acc ps).2
 | [],acc,_,h=>.nil h
 |p::ps,acc,i,h=>by
  unfold k6
  by_cases h1:to≠ []/\¬bD p.1 to
  .rw[if_pos h1]
   refine .inr ⟨rfl,λR b=>?_⟩
   have:gW (p::ps++R) fr to=[]:=by
    rw[xi];refine mx.2 λq c=>?_;have j:dQ p.1 q.1:=by
     rw[mn]at c b;rcases de.1 c with rfl|c
     .exact Cc _
     .exact iH ((jB.1 b).1 q c)
    have h2:¬bD q.1 to:=λa=>h1.2 (kC j a);unfold tv;have e:to.isEmpty=false:=by simpa using h1.1
    simp[e,h2]
   rw[this,fl,dr I]
  .rw[if_neg h1]
   have k:tv fr to p=decide (dQ fr p.1):=by
    unfold tv;by_cases h2:to=[]
    .simp[h2]
    .have:bD p.1 to:=Decidable.byContradiction λa=>h1 ⟨h2,a⟩
     simp[this]
   have d:∀l,gW (p::l) fr to=(if dQ fr p.1 then [p] else [])++gW l fr to:=λl=>by
    rw[xi,hJ,k,xi];by_cases h2:dQ fr p.1<;>simp[h2]
   have m:(if dQ fr p.1 then acc++ [p] else acc)=acc++(if dQ fr p.1 then [p] else []):=by split<;>simp
   simp only[m];generalize hx:(if dQ fr p.1 then [p] else [])=x at d;have o:x.length<=1:=by rw[←hx];split<;>simp
   by_cases a:(acc++x).length=most
   .rw[if_pos a]
    refine .inr ⟨rfl,λR b=>?_⟩;rw[mn,d,←cM,←a,List.take_left]
   .rw[if_neg a]
    have e:(acc++x).length<most:=by rw[cG]at a⊢;omega
    have:=D1 (ps:=ps) (acc:=acc++x) (jB.1 i).2 e;rcases this with ⟨f,g,n⟩|⟨f,g⟩
    .exact .inl ⟨f,by rw[g,d,cM],n⟩
    .refine .inr ⟨f,λR b=>?_⟩
     rw[mn]at b⊢;rw[g R (jB.1 b).2,d,cM]
def jP(p:ad×ad):O Y:=[p.1,p.2]
theorem pP(l:O (ad×ad)):∀x∈l,(jP x).length=2:=λ_ _=>rfl
theorem JH(p:ad×ad):∀v∈jP p,Plain v:=by
 intro v a;unfold jP at a;simp only[de,fG,fQ]at a;rcases a with rfl|rfl<;>trivial
def jd(B:Nat->Prop)(w:J)(ps:O (ad×ad))(L:O aR):Prop:=ps.length=L.length/\∀i (h1:i<ps.length) (h2:i<L.length),bA B w ps[i].1 L[i].1/\bA B w ps[i].2 L[i].2
def k7(B:Nat->Prop)(w:J)(s:ad)(L:O aR):Prop:=∃ps,aT 2 167 w s (bg jP ps)/\jd B w ps L
def fw(B:Nat->Prop)(w:J)(s:ad)(L:O aR):Prop:=∃ps,Src 2 w s (bg jP ps)/\s.len<=s.cap/\In B w s/\jd B w ps L
section
variable {B C W:Nat->Prop}{w w':J}{s:ad}{ps:O (ad×ad)}{L:O aR}
theorem jd.ah(h:jd B w ps L)(hc:af W w w')(d:∀k,B k->k<w.heap.size->¬W k):jd B w' ps L:=
 ⟨h.1,λi h1 h2=>by
  obtain⟨a,b⟩:=h.2 i h1 h2
  exact⟨bA.jr a hc λk c=>d k (a.2.2 k c).1 (a.2.2 k c).2,bA.jr b hc λk c=>d k (b.2.2 k c).1 (b.2.2 k c).2⟩⟩
theorem jd.a7(h:jd B w ps L)(a:∀k,k<w.heap.size->B k->C k):jd C w ps L:=⟨h.1,λi h1 h2=>⟨bA.a7 (h.2 i h1 h2).1 a,bA.a7 (h.2 i h1 h2).2 a⟩⟩
theorem jd.push{p:ad×ad}{kv:aR}(h:jd B w ps L)(h1:bA B w p.1 kv.1)(h2:bA B w p.2 kv.2):jd B w (ps++ [p]) (L++ [kv]):=by
 refine⟨by simp[h.1],λi aw ax=>?_⟩;rcases eu i ps.length with g|g
 .have g':i<L.length:=by have:=h.1;omega
  simp only[ow g,ow g'];exact h.2 i g g'
 .have e:i=ps.length:=by simp at aw;omega
  subst e;have a:(ps++ [p])[ps.length]'aw=p:=by simp
  have b:(L++ [kv])[ps.length]'ax=kv:=by rw[p1 (by rw[h.1];exact bt _)];simp
  rw[a,b];exact⟨h1,h2⟩
theorem k7.len(h:k7 B w s L):s.len=L.length:=by
 obtain⟨ps,h1,h2⟩:=h;have:=h1.1;rw[e4 _ (pP ps)]at this;have:=h2.1;omega
theorem k7.a7(h:k7 B w s L)(a:∀k,k<w.heap.size->B k->C k):k7 C w s L:=by
 obtain⟨ps,h1,h2⟩:=h;exact⟨ps,h1,h2.a7 a⟩
theorem k7.none(B:Nat->Prop)(w:J):k7 B w ⟨.none,0,0⟩ []:=⟨[],aT.none _ _ _,rfl,λi h=>by simp at h⟩
theorem k7.r(h:k7 B w s L)(hs:∀k,aE s k->B k):fw B w s L:=by
 obtain⟨ps,h1,h2⟩:=h;exact⟨ps,h1.src,h1.2.1,λk a=>⟨hs k a,h1.lt k a⟩,h2⟩
theorem fw.len(h:fw B w s L):s.len=L.length:=by
 obtain⟨ps,h1,_,_,h2⟩:=h;have:=h1.len;rw[e4 _ (pP ps)]at this;have:=h2.1;omega
theorem fw.ah(h:fw B w s L)(hc:af W w w')(b:∀k,B k->k<w.heap.size->¬W k):fw B w' s L:=by
 obtain⟨ps,h1,h2,a,d⟩:=h;exact⟨ps,h1.ah hc λk c=>b k (a k c).1 (a k c).2,h2,In.ah a hc,d.ah hc b⟩
theorem fw.ext(h:fw B w s L)(hc:Ext w w'):fw B w' s L:=h.ah hc λ_ _ _ h=>h
theorem fw.a7(h:fw B w s L)(a:∀k,k<w.heap.size->B k->C k):fw C w s L:=by
 obtain⟨ps,h1,h2,b,c⟩:=h;exact⟨ps,h1,h2,In.a7 b a,c.a7 a⟩
theorem fw.at(h:fw B w s L){i:Nat}(hi:i<L.length):∃ (A:ag) (tk c2:ad),s.a=some A/\B A.block/\((0:Int)<=(i:Int)/\(i:Int)<(s.len:Int))/\w.cell? (A.add (i*2))=some (.slice tk.a tk.len tk.cap)/\w.cell? ((A.add (i*2)).add 1)=some (.slice c2.a c2.len c2.cap)/\
 bA B w tk L[i].1/\bA B w c2 L[i].2:=by
 have o:=h.len;obtain⟨ps,h1,h2,k,c⟩:=h;have d:i<ps.length:=by have:=c.1;omega
 cases b:s.a with
 |none=>
  have:=h1.nil b;have e:=e4 ps (pP ps);rw[this]at e;simp at e;omega
 |some A=>
  have l:=h1.rd A b;have hg:∀j v,(jP ps[i])[j]? =some v->w.cell? (A.add (i*2+j))=some v:=λj v f=>by
   have m:j<2:=(jV.1 f).1;have g:=mI l (j:=i*2+j) (v:=v) (by rw[w6 (pP ps) d m];exact f);rw[cF]at g;exact g
  obtain⟨t1,t2⟩:=c.2 i d hi;have n:(A.add (i*2)).add 1=A.add (i*2+1):=add_add A _ _;refine⟨A,ps[i].1,ps[i].2,rfl,(k A.block ⟨A,b,rfl⟩).1,⟨I,I⟩,?_,?_,t1,t2⟩
  .exact hg 0 _ rfl
  .rw[n]
   exact hg 1 _ rfl
end
theorem JI:h8 ai 86 167 2 48:=⟨by kernel_rfl⟩
theorem JJ(w:J)(cs:Array Y)(h:cs.size=2):Sem.run ai (Instr.buildSlice 86 1 #[(0,.agg cs)]) w=.ok (.slice (some w.heap.size) 1 1) (w.alloc (.cells cs 167)):=by
 have h0:((Tryz.prog.info? 167).bind (·.zero)).isSome=true:=by kernel_rfl
 obtain⟨z,a⟩:=ng.1 h0;obtain⟨i,hi,b⟩:=tf a;have h1:(Tryz.prog.underlying 167).isSome=true:=by kernel_rfl
 obtain⟨d,hd⟩:=ng.1 h1;exact zw (sz:=2) w (by kernel_rfl) hd (by kernel_rfl) hi b h (by decide) (by decide)
structure e2(T au:aQ)(w w':J)(k:Nat):Prop where
 to:b4 T au w w' k
 E:au.E=T.E
 G:∀q,T.G q->au.G q
 root:au.root=T.root
 aN:au.aN=T.aN
 f:au.f=T.f
 P:au.P=T.P
 view:∀j,au.C.view j=T.C.view j
theorem e2.refl(T:aQ)(w:J):e2 T T w w 0:=⟨.refl _ _,rfl,λ_ h=>h,rfl,rfl,rfl,rfl,λ_=>rfl⟩
theorem e2.ext{w w':J}(T:aQ)(h:Ext w w'):e2 T T w w' 0:=⟨.ext T h,rfl,λ_ h=>h,rfl,rfl,rfl,rfl,λ_=>rfl⟩
theorem e2.trans{T au a:aQ}{w w' b:J}{k l:Nat}(h1:e2 T au w w' k)(h2:e2 au a w' b l):e2 T a w b (k+l):=
 ⟨h1.to.trans h2.to,h2.E.trans h1.E,λq h=>h2.G q (h1.G q h),h2.root.trans h1.root,h2.aN.trans h1.aN,h2.f.trans h1.f,h2.P.trans h1.P,λj=>(h2.view j).trans (h1.view j)⟩
theorem e2.mono{T au:aQ}{w w':J}{k l:Nat}(h:e2 T au w w' k)(a:k<=l):e2 T au w w' l:=⟨h.to.mono a,h.E,h.G,h.root,h.aN,h.f,h.P,h.view⟩
theorem e2.bC{T:aQ}{aI:cf}{w w':J}{k:Nat}(h:b4 T (T.bC aI T.P) w w' k)(a:∀j,aI.view j=T.C.view j):e2 T (T.bC aI T.P) w w' k:=⟨h,rfl,λ_ h=>h,rfl,rfl,rfl,rfl,a⟩
theorem b4.out{T au:aQ}{w w':J}{k q:Nat}(h:b4 T au w w' k)(a:q<w.heap.size)(b:¬T.M q):¬au.M q/\q<w'.heap.size:=by
 refine⟨λh1=>?_,fP a h.ah.size⟩;rcases h.c7 q h1 with h2|h2
 .exact b h2
 .omega
theorem b4.D2{T au:aQ}{w w':J}{k:Nat}{ps:O (ad×ad)}{L:O aR}(h:b4 T au w w' k)(c:jd (λq=>¬T.M q) w ps L):jd (λq=>¬au.M q) w' ps L:=by
 have h1:jd (λq=>q<w.heap.size/\¬T.M q) w ps L:=c.a7 λq b a=>⟨b,a⟩;exact(h1.ah h.ah λq b _ d=>b.2 (aQ.gZ d)).a7 λq _ a=>(h.out a.1 a.2).1
structure je(lo:Nat)(w:J)(T:aQ)(aH:Nat)(s:ad)(L:O aR):Prop where
 t:cg w T
 v:Var w aH [s] 86
 own:k7 (λq=>¬T.M q) w s L
 go:T.G aH
 gs:∀q,aE s q->T.G q/\q≠aH/\lo<=q
section
variable {w w':J}{T au:aQ}{lo aH:Nat}{s:ad}{L:O aR}
theorem je.of{k:Nat}(h:je lo w T aH s L)(d:cg w' au)(ht:b4 T au w w' k)(b:∀q,T.G q->au.G q){W:Nat->Prop}(c:af W w w')(cK:∀q,T.G q->¬W q):je lo w' au aH s L:=by
 obtain⟨ps,h1,h2⟩:=h.own;exact⟨d,h.v.ah c (cK _ h.go),⟨ps,h1.ah c λq a=>cK q (h.gs q a).1,ht.D2 h2⟩,b _ h.go,λq a=>⟨b q (h.gs q a).1,(h.gs q a).2⟩⟩
theorem je.ext(h:je lo w T aH s L)(hx:Ext w w'):je lo w' T aH s L:=h.of (h.t.ext hx) (b4.ext T hx) (λ_ h=>h) hx λ_ _ h=>h
theorem JK{k v:Key}{tk c2:ad}(h:je lo w T aH s L)(B:lo<=w.heap.size)(p:bA (λq=>¬T.M q) w tk k)(r:bA (λq=>¬T.M q) w c2 v)(C:L.length<=100000):
 ∃ (b:ad) (aj:J),Sem.run ai (Builtin.append_ #[86,86] 86 #[s,.slice (some w.heap.size) 1 1]) (w.alloc (.cells (jP (tk,c2)).toArray 167))=.ok b aj/\
  (∃u:Y,aj.cell? aH=some u)/\aj.frozen? aH=false/\
  ∀d,d=aj.setCell aH b->je lo d (T.cH T.E λq=>T.G q\/aE b q) aH b (L++ [(k,v)])/\e2 T (T.cH T.E λq=>T.G q\/aE b q) w d 0:=by
 have D:=h.own.len;obtain⟨ps,x,y⟩:=h.own;obtain⟨b,aj,aw,ax,F,f,c⟩:=JI.push (cC:=86) (w:=w) (s:=s) (xs:=jP (tk,c2)) rfl x (JH _) I;have cK:∀q,aE s q->T.G q:=λq a=>(h.gs q a).1;have H:=f.size;have j:=h.v.ah f λa=>(h.gs _ a).2.1 rfl;obtain⟨cc,cn⟩:=eP j (i:=0) (by simp);refine⟨b,aj,aw,cc,cn,?_⟩;rintro _ rfl;have g:=ek aj aH 0 b;have z:=eO j (i:=0) b;have l:af T.G w (aj.setCell aH b):=c3 (f.mono λq _ a=>cK q a) g λq _ e=>by rw[e];exact h.go
 have aJ:∀q,aE b q->q<aj.heap.size:=λq a=>aT.lt ax q a;have m:∀q,aE b q->T.G q\/(w.heap.size<=q/\q<(aj.setCell aH b).heap.size):=λq a=>by
  rcases c q a with h1|h1
  .exact .inl (cK q h1)
  .exact .inr ⟨h1,by have:=aJ q a;have:=g.size;omega⟩
 have n:∀q,aE b q->q≠aH:=λq a e=>by
  rcases c q a with h1|h1
  .exact(h.gs q h1).2.1 e
  .have:=h.v.lt;omega
 have A:=h.t.grow (E:=T.E) (G:=λq=>T.G q\/aE b q) l (λq a _=>.inr a) (λq a=>.inl a) (λq a=>by
  rcases a with a|a
  .exact .inr (.inl a)
  .exact .inr (m q a)) λq a hg=>by
  rcases hg with hg|hg
  .exact(h.t.dT q a).2.2 hg
  .rcases c q hg with h1|h1
   .exact(h.t.dT q a).2.2 (cK q h1)
   .have:=h.t.lt (q:=q) (.inr (.inr (.inr (.inl a))));omega
 have o:b4 T (T.cH T.E λq=>T.G q\/aE b q) w (aj.setCell aH b) 0:=by
  have h0:b4 T T w w 0:=.refl _ _;exact h0.step l (λq a _=>.inr (.inr (.inr a))) (λq a=>.inl a) λq a=>by
   rcases a with a|a
   .exact .inl a
   .exact(m q a).imp id λe=>e.1
 refine⟨⟨A,z,⟨ps++ [(tk,c2)],?_,o.D2 (y.push (kv:=(k,v)) p r)⟩,.inl h.go,λq a=>⟨.inr a,n q a,?_⟩⟩,o,rfl,λ_ h=>.inl h,rfl,rfl,rfl,rfl,λ_=>rfl⟩
 .have e:bg jP (ps++ [(tk,c2)])=bg jP ps++jP (tk,c2):=by rw[jO];simp[bg]
  rw[e];exact ax.ah g λq a e=>n q a e
 .rcases c q a with h1|h1
  .exact(h.gs q h1).2.2
  .omega
end
structure rz(w:J)(T:aQ)(ba a6 aW:Nat)(fN fT:ad)(to fr:Key)(most:Int):Prop where
 xk:Var w ba [fN] 48
 xl:Var w a6 [fT] 48
 jE:Var w aW [most] 3
 D3:¬T.M ba
 D4:¬T.M a6
 D5:¬T.M aW
 st:Src 1 w fN (aD to)
 z2:Src 1 w fT (aD fr)
 tw:∀q,aE fN q->q<w.heap.size/\¬T.M q
 tx:∀q,aE fT q->q<w.heap.size/\¬T.M q
 lt:to.length<=9000000000000000000
section
variable {w w':J}{T au:aQ}{ba a6 aW:Nat}{fN fT:ad}{to fr:Key}{most:Int}
theorem rz.go{k:Nat}(h:rz w T ba a6 aW fN fT to fr most)(ht:b4 T au w w' k):rz w' au ba a6 aW fN fT to fr most:=by
 have b:∀q,¬T.M q->¬T.N q:=λq a b=>a (aQ.gZ b);exact⟨h.xk.ah ht.ah (b _ h.D3),h.xl.ah ht.ah (b _ h.D4),h.jE.ah ht.ah (b _ h.D5),(ht.out h.xk.lt h.D3).1,(ht.out h.xl.lt h.D4).1,(ht.out h.jE.lt h.D5).1,
  h.st.ah ht.ah λq a=>b _ (h.tw q a).2,h.z2.ah ht.ah λq a=>b _ (h.tx q a).2,λq a=>⟨(ht.out (h.tw q a).1 (h.tw q a).2).2,(ht.out (h.tw q a).1 (h.tw q a).2).1⟩,λq a=>⟨(ht.out (h.tx q a).1 (h.tx q a).2).2,(ht.out (h.tx q a).1 (h.tx q a).2).1⟩,h.lt⟩
end
def kg(fr to:Key)(most:Nat)(n:aG)(acc ps:O aR):al×O aR:=if n.leaf then k6 fr to most acc ps else (true,acc)
def JL(lo aH:Nat)(T:aQ)(a:al×O aR)(w:J)(v:Y)(w':J):Prop:=
 ∃ (au:aQ) (b:ad),v=a.1/\je lo w' au aH b a.2/\e2 T au w w' 0
theorem b4.js{T au:aQ}{w w':J}{k:Nat}(h:b4 T au w w' k){n:aG}{K V D:ad}(b:bI (λq=>¬T.M q) w n K V D):bI (λq=>¬au.M q) w' n K V D:=
 (h.ck (lo:=0) (b.a7 λ_ _ a=>⟨cR _,a⟩)).a7 λ_ _ a=>a.2
theorem D6{a b:Key}:(decide ((eA a b:Int)>=0))=decide (dQ b a):=by
 unfold dQ;by_cases h:eA a b<0
 .have h1:¬eA a b>=0:=by omega
  simp[h,h1]
 .have h1:eA a b>=0:=by omega
  simp[h,h1]
theorem JM{w:J}{T:aQ}{lo aH ba a6 aW:Nat}{s fN fT:ad}{L:O aR}{to fr:Key}{most:Int}{n:aG}{K V D:ad}(no:Int)(h:je lo w T aH s L)(a5:lo<=w.heap.size)(hf:rz w T ba a6 aW fN fT to fr most)
 (U:bI (λq=>¬T.M q) w n K V D) (hs:cQ n) (a7:n.keys.length<=1000) (az:(L.length:Int)<most) (a8:L.length<=50000):
 aK ai 175 #[no,c9 n K V D,.pointer (some ba),.pointer (some a6),.pointer (some aH),.pointer (some aW)] w (JL lo aH T (kg fr to most.toNat n L n.dW) w):=by
 have a9:=bw.len U.keys;refine okF (ae.vT no n.leaf K V D ba a6 aH aW) ay.vT func175 ?_;(delta ae.vT r1 aa an aM bS aY aF ar;dsimp only);refine bc (vs:=ep n K V D) rfl λw1 N m a_=>?_;obtain⟨nb,aA⟩:∃nb,nb=w.heap.size:=⟨_,rfl⟩;rw[←aA]at N⊢;have h1:=h.ext m;have aB:=hf.go (b4.ext T m);have aC:=U.ext m;have W:¬T.M nb:=λP=>by have:=h.t.lt P;omega
 obtain⟨b6,aZ,bf,bq⟩:=bP N;refine⟨K,aZ,λi d=>∃ (C:Nat) (au:aQ) (y:ad) (acc:O aR),i=(C:Int)/\C<=n.keys.length/\je lo d au aH y acc/\e2 T au w1 d 0/\(acc.length:Int)<most/\acc.length<=L.length+C/\kg fr to most.toNat n acc (n.dW.drop C)=kg fr to most.toNat n L n.dW,
  λi _=>((n.keys.length:Int)-i).toNat,⟨0,T,s,L,rfl,cR _,h1,.refl _ _,az,I,by rw[iN]⟩,?_⟩
 rintro _ d ⟨i,au,y,acc,rfl,hi,E,k,bb,bd,f⟩;have be:=m.size;have bg:=k.to.ah.size;have o:=aB.go k.to;have X:=k.to.js aC;have Y:=N.ah k.to.ah λP=>W (aQ.gZ P);have bh:=(k.to.out I W).1;refine⟨λaJ=>?_,λaD=>?_⟩
 rotate_left
 .have Z:i=n.keys.length:=by
   have:¬(i:Int)<(K.len:Int):=cw aD;omega
  have hd:n.dW.drop i=[]:=by
   refine rS ?_;unfold aG.dW;rw[ot];omega
  rw[hd]at f;have e:kg fr to most.toNat n acc []=(true,acc):=by unfold kg k6;split<;>rfl
  rw[e]at f;exact⟨au,y,by rw[←f],by rw[←f];exact E,((e2.ext T m).trans k)⟩
 .have Z:i<n.keys.length:=by
   have:(i:Int)<(K.len:Int):=cl aJ;omega
  obtain⟨A,tk,aq,aE,hc,F,_⟩:=bw.at X.keys Z;have Q:IntKind.wrap .i64 ((i:Int)+1)=((i+1:Nat):Int):=by rw[bB I I];omega
  have aI:∀w':J,((n.keys.length:Int)-IntKind.wrap .i64 ((i:Int)+1)).toNat<((n.keys.length:Int)-(i:Int)).toNat:=λ_=>by rw[Q];omega
  obtain⟨key,ab⟩:∃key,key=n.keys[i]:=⟨_,rfl⟩;rw[←ab]at F;have ac:=len8 o.st;refine⟨A,aq,aE,tk,hc,fN,o.xk.cell,cq (λb w'=>b=decide (to≠ []/\¬bD key to)/\d=w') (λq l=>⟨λc=>⟨fN,o.xk.cell,(l4 F.1 o.st).use ?_⟩,λc=>l _ _ ⟨?_,rfl⟩⟩) ?_⟩
  .rintro _ _ ⟨rfl,rfl⟩
   refine⟨_,rfl,l _ _ ⟨?_,rfl⟩⟩;have h2:to≠ []:=λe=>by
    rw[e]at ac;have:(fN.len:Int)>0:=cl c;simp at ac;omega
   rw[D6];simp only[h2,ne_eq,not_false_eq_true,true_and];rfl
  .have h2:to=[]:=by
    have:¬(fN.len:Int)>0:=cw c;exact mq.1 I
   simp[h2]
  rintro aL _ ⟨af,rfl⟩;have d0:d.cell? nb=some (.bool n.leaf):=(bP Y).1;refine cq (λb w'=>b=(aL&&n.leaf)/\d=w') (λq l=>⟨λc=>⟨_,d0,l _ _ ⟨by rw[c];rfl,rfl⟩⟩,λc=>l _ _ ⟨by rw[c];rfl,rfl⟩⟩) ?_;rintro bi _ ⟨ag,rfl⟩;have G:n.leaf=true->∃x:Key,(∃j:i<n.vals.length,x=n.vals[i])/\n.dW.drop i=(key,x)::n.dW.drop (i+1):=λa=>by
   have bj:n.vals.length=n.keys.length:=by
    rcases hs with h2|h2
    .exact h2.len
    .have:=h2.inner;rw[a]at this;cases this
   have j:i<n.vals.length:=by omega
   refine⟨n.vals[i],⟨j,rfl⟩,?_⟩;have aN:i<n.dW.length:=by unfold aG.dW;rw[ot];omega
   rw[kk aN];have e:n.dW[i]=(key,n.vals[i]):=by
    rw[ab];exact tV
   rw[e]
  refine⟨λc=>?_,λc=>?_⟩
  .
   rw[ag,dh]at c;obtain⟨x,_,z⟩:=G c.2;have aO:to≠ []/\¬bD key to:=by
    rw[af]at c;exact cl c.1
   have e:kg fr to most.toNat n acc (n.dW.drop i)=(false,acc):=by
    unfold kg;rw[if_pos c.2,z];unfold k6;rw[if_pos aO]
   rw[e]at f;exact⟨au,y,by rw[←f],by rw[←f];exact E,((e2.ext T m).trans k)⟩
  .have aj:n.leaf=true->¬(to≠ []/\¬bD key to):=λa h2=>by
    rw[ag,af,a,dD h2]at c
    cases c
   refine j4 (λH=>∃ (b2:aQ) (s2:ad) (jv:O aR),jv=(if n.leaf=true/\dQ fr key then acc++ [(key,n.vals.getD i [])] else acc)/\je lo H b2 aH s2 jv/\e2 au b2 d H 0) (λq l=>⟨n.leaf,d0,?_⟩) ?_
   .refine cq (λb w'=>b=decide (n.leaf=true/\dQ fr key)/\d=w') (λr ak=>⟨λa=>⟨fT,o.xl.cell,(l4 F.1 o.z2).use ?_⟩,λa=>ak _ _ ⟨by simp[a],rfl⟩⟩) ?_
    .rintro _ _ ⟨rfl,rfl⟩
     refine⟨_,rfl,ak _ _ ⟨?_,rfl⟩⟩;rw[D6,a];simp
    .rintro bk _ ⟨al,rfl⟩
     refine⟨λg=>aX ?_,λg=>?_⟩
     .rw[al]at g
      have g:=cl g;obtain⟨x,⟨j,hx⟩,z⟩:=G g.1;have B:Ext d d.drew:=cE _;have p:=E.ext B;obtain⟨aP,c2,aS,aT,aU,am,bl⟩:=bw.at (X.ext B).vals j;rw[←hx]at am;have aV:=bA.ext F B;have bm:=B.size;obtain⟨ao,a0,aw,ax,a1,a2⟩:=JK p I aV am I;refine⟨λ_=>False,id,y,p.v.cell,id,V,(bP (Y.ext B)).2.2.1,aP,aS,aT,id,c2,aU,(jP (tk,c2)).toArray,λbn=>?_,⟨some d.drew.heap.size,1,1⟩,_,JJ _ _ rfl,c8 _ _,ao,a0,aw,ax,a1,aX (l _ ?_)⟩
      .kernel_rfl
      .obtain⟨cc,cn⟩:=a2 _ rfl
       refine⟨_,ao,_,?_,cc,((e2.ext au B).trans cn)⟩;rw[if_pos g,gd,dU j,←hx];rfl
     .rw[al]at g
      have g:=cw g;exact l _ ⟨au,y,acc,by rw[if_neg g],E,.refl _ _⟩
   .rintro H ⟨b2,s2,jv,u,p,ap⟩
    have a3:=o.go ap.to;have a4:=p.own.len;have av:=k.trans ap;have bo:jv.length<=acc.length+1:=by rw[u];split<;>simp
    have bp:(0:Int)<=most:=by omega
    refine⟨s2,p.v.cell,most,a3.jE.cell,λc=>?_,λc=>?_⟩
    .have he:(s2.len:Int)=most:=by simpa using c
     by_cases a:n.leaf=true
     .obtain⟨x,⟨j,hx⟩,z⟩:=G a
      have R:n.vals.getD i []=x:=by rw[gd,dU j,hx];rfl
      have e:kg fr to most.toNat n acc (n.dW.drop i)=(false,jv):=by
       unfold kg;rw[if_pos a,z];unfold k6;rw[if_neg (aj a)];have S:(if dQ fr key then acc++ [(key,x)] else acc)=jv:=by rw[u,R];simp[a]
       simp only[S];rw[if_pos I]
      rw[e]at f;exact⟨b2,s2,by rw[←f],by rw[←f];exact p,((e2.ext T m).trans av)⟩
     .exfalso
      rw[if_neg (λh2=>a h2.1)]at u;rw[u]at a4;omega
    .have he:¬(s2.len:Int)=most:=by simpa using c
     rw[Q];refine⟨⟨i+1,b2,s2,jv,rfl,I,p,av,I,I,?_⟩,?_⟩
     .rw[←f]
      unfold kg;by_cases a:n.leaf=true
      .obtain⟨x,⟨j,hx⟩,z⟩:=G a
       have R:n.vals.getD i []=x:=by rw[gd,dU j,hx];rfl
       rw[if_pos a,if_pos a,z]
       conv=>rhs;unfold k6
       rw[if_neg (aj a)];have S:(if dQ fr key then acc++ [(key,x)] else acc)=jv:=by rw[u,R];simp[a]
       simp only[S];rw[if_neg I]
      .rw[if_neg a,if_neg a]
       rw[if_neg (λh2=>a h2.1)]at u;rw[u]
     .have:=aI H
      rw[Q]at this;exact this
inductive Kids (W:Below):O Nat->O Nat->O aR->Prop
 |nil:Kids W [] [] []
 |cons {lo hi:av Key}{k:Nat}{kids bh bj:O Nat}{bp bJ:O aR} (h:W lo hi k bh bp) (t:Kids W kids bj bJ):Kids W (k::kids) (bh++bj) (bp++bJ)
theorem dV.kids{W:Below}{lo hi:av Key}{ks:O Key}{kids p:O Nat}{L:O aR}(h:dV W lo hi ks kids p L):Kids W kids p L:=by
 induction h with
 |one h=>
  have:=Kids.cons h .nil;rwa[fl,fl]at this
 |cons h _ a=>exact .cons h a
theorem JN(s:Key)(ks:O Key)(k:Key):dy (s::ks) k=if bD k s then 0 else dy ks k+1:=by
 unfold dy;rw[List.findIdx_cons];by_cases h:bD k s<;>simp[h]
theorem dV.from{W:Below}(cK:∀lo hi k p L,W lo hi k p L->∀q∈L,fL lo hi q.1){lo hi:av Key}{ks:O Key}{kids p:O Nat}{L:O aR}(h:dV W lo hi ks kids p L)(k:Key):
 ∃ (bh bj:O Nat) (bp bJ:O aR),p=bh++bj/\L=bp++bJ/\(∀q∈bp,bD q.1 k)/\Kids W (kids.drop (dy ks k)) bj bJ:=by
 induction h with
 |one h=>exact⟨[],_,[],_,rfl,rfl,λ_ h=>(by cases h),(dV.one h).kids⟩
 | @cons lo hi s f bh bj bp bJ ks kids h t c=>
  rw[JN];by_cases b:bD k s
  .rw[if_pos b]
   exact⟨[],_,[],_,rfl,rfl,λ_ h=>(by cases h),(dV.cons h t).kids⟩
  .rw[if_neg b,List.drop_succ_cons]
   obtain⟨a1,a2,cr,bX,rfl,rfl,d,e⟩:=c;refine⟨bh++a1,a2,bp++cr,bX,by rw[cM],by rw[cM],λq a=>?_,e⟩;rcases c1.1 a with a|a
   .exact nO ((cK _ _ _ _ _ h q a).2 s rfl) b
   .exact d q a
theorem D7{L:O aR}{fr to:Key}(h:∀q∈L,bD q.1 fr):gW L fr to=[]:=by
 rw[xi];refine mx.2 λq a=>?_;unfold tv;have:¬dQ fr q.1:=λh2=>h2 (h q a);simp[this]
def D8(T:aQ)(no:Nat):Prop:=(no<T.n/\2<=no)/\∃e,fD (no:Int) (T.C.view no)=.error e
theorem JO{w:J}{T:aQ}{no:Nat}{o:aG}(h:cg w T)(s:T.C.D.aV<=999999999)(d:T.P no=some o\/D8 T no):
 aK ai 196 #[.pointer (some T.ba),no,o.leaf] w (λv w'=>∃aI:cf,e2 T (T.bC aI T.P) w w' 2/\cg w' (T.bC aI T.P)/\af (λq=>T.N q/\¬T.G q) w w'/\
  ((∃ (K V D:ad),v=.tuple #[c9 o K V D,(0:Int)]/\T.P no=some o/\bI (λq=>w.heap.size<=q/\¬(T.bC aI T.P).M q) w' o K V D)\/(∃e:Int,v=.tuple #[c9 js bG bG bG,e]/\e≠0/\((e=3/\¬T.C.D.calm 2)\/D8 T no)))):=by
 have f:no<T.n:=d.elim (λh1=>(h.eU no o h1).1) λh1=>h1.1.1;have g:2<=no:=d.elim (λh1=>(h.eU no o h1).2.two) λh1=>h1.1.2;obtain⟨b7,i⟩:∃b7,b7=λq=>T.E q\/T.G q:=⟨_,rfl⟩;have c:∀q,T.E q\/T.G q->b7 q:=λq a=>by rw[i];exact a
 have j:∀q,b7 q->T.E q\/T.G q:=λq a=>by rw[i]at a;exact a
 have k:cg w (T.cH b7 λ_=>False):=h.grow (W:=λ_=>False) (af.refl _ _) (λ_ h=>h.elim) (λq a=>(j q a).imp id .inl) (λ_ h=>h.elim) λ_ _ h=>h;have t:∀q,(T.cH b7 λ_=>False).N q->T.N q/\¬T.G q:=λq a=>⟨by
  rcases a with a|a|a|a
  .exact .inl a
  .exact .inr (.inl a)
  .exact .inr (.inr (.inl a))
  .exact a.elim,λhg=>k.k1 (c q (.inr hg)) a⟩
 refine(zL k s f g o.leaf).mono ?_;rintro v w' ⟨aI,u,ht,x,y⟩;have z:b4 T (T.bC aI T.P) w w' 2:=b4.read (E:=b7) ht c λq a=>(j q a).imp id .inl;have A:af (λq=>T.N q/\¬T.G q) w w':=ht.ah.mono λq _ a=>t q a;refine⟨aI,.bC z x,?_,A,?_⟩
 .exact u.grow (E:=T.E) (G:=T.G) (W:=λ_=>False) (af.refl _ _) (λ_ h=>h.elim) (λq a=>.inl (c q (.inl a))) (λq a=>.inl (c q (.inr a))) λq a=>(h.dT q a).2.2
 .rcases y with ⟨bz,K,V,D,rfl,l,eD⟩|⟨e,rfl,B,F⟩
  .have m:T.P no=some o:=d.resolve_right λ⟨_,e,h1⟩=>by
    obtain⟨p,aw,_⟩:=l;have h1:fD (no:Int) (T.C.view no)=.error e:=h1;have aw:fD (no:Int) (T.C.view no)=.ok p:=aw;rw[h1]at aw;cases aw
   obtain rfl:=g6.uniq (h.eU no o m).2 l;refine .inl ⟨K,V,D,rfl,m,eD.a7 λq a r=>⟨r.1,λb=>r.2 ?_⟩⟩;rcases b with b|b|b|b|b
   .exact .inl b
   .exact .inr (.inl b)
   .exact .inr (.inr (.inl b))
   .exact .inr (.inr (.inr (.inl (c q (.inl b)))))
   .exact .inr (.inr (.inr (.inl (c q (.inr b)))))
  .refine .inr ⟨e,rfl,F,?_⟩
   rcases B with h1|h1|⟨_,_,h1⟩
   .exact .inl h1
   .exact .inr ⟨⟨f,g⟩,e,h1⟩
   .exact d.elim (λh2=>absurd (h.eU no o h2).2 (h1 o)) .inr
theorem JP{w:J}{T:aQ}{no:Nat}{o:aG}(h:cg w T)(f:T.C.D.aV<=999999999)(c:T.P no=some o):
 aK ai 196 #[.pointer (some T.ba),no,o.leaf] w (λv w'=>∃aI:cf,e2 T (T.bC aI T.P) w w' 2/\cg w' (T.bC aI T.P)/\af (λq=>T.N q/\¬T.G q) w w'/\
  ((∃ (K V D:ad),v=.tuple #[c9 o K V D,(0:Int)]/\bI (λq=>w.heap.size<=q/\¬(T.bC aI T.P).M q) w' o K V D)\/(v=.tuple #[c9 js bG bG bG,(3:Int)]/\¬T.C.D.calm 2))):=by
 refine(JO h f (.inl c)).mono ?_;rintro v w' ⟨aI,h1,h2,d,⟨K,V,D,b,_,a⟩|⟨e,b,_,⟨rfl,a⟩|⟨_,g,a⟩⟩⟩
 .exact⟨aI,h1,h2,d,.inl ⟨K,V,D,b,a⟩⟩
 .exact⟨aI,h1,h2,d,.inr ⟨b,a⟩⟩
 .obtain⟨p,aw,_⟩:=(h.eU no o c).2
  rw[a]at aw;cases aw
def JQ(lo aH:Nat)(T:aQ)(fr to:Key)(most:Int)(acc L:O aR)(a:Nat)(w:J)(v:Y)(w':J):Prop:=
 ∃ (au:aQ) (c:ad) (b:O aR),e2 T au w w' (2*a)/\je lo w' au aH c b/\
  ((∃on:al,v=.tuple #[on,(0:Int)]/\ir fr to most.toNat acc L on b)\/(v=.tuple #[false,(3:Int)]/\¬T.C.D.calm (2*a)))
theorem JR:h7 ai 175:=⟨Tryz.f175,func175,by kernel_rfl,by kernel_rfl⟩
theorem e0.top{P:Nat->av aG}{h:Nat}{lo hi:av Key}{no:Nat}{p:O Nat}{L:O aR}(b:e0 P (h+1) lo hi no p L):∃ (n:aG) (a:O Nat),P no=some n/\n.leaf=decide (h=0)/\cQ n/\p=no::a/\
 ((h=0/\hC n/\a=[]/\L=n.dW)\/(∃g,h=g+1/\yT n/\Kids (λlo hi k p L=>e0 P h lo hi k p L) n.kids a L/\∀k:Key,∃ (bh bj:O Nat) (bp bJ:O aR),a=bh++bj/\L=bp++bJ/\(∀q∈bp,bD q.1 k)/\Kids (λlo hi k p L=>e0 P h lo hi k p L) (n.kids.drop (dy n.keys k)) bj bJ)):=by
 match h,b with
 |0,⟨n,h1,h2,f,e,d,c⟩=>exact⟨n,[],h1,h2.leaf,.inl h2,d,.inl ⟨rfl,h2,rfl,c⟩⟩
 |h+1,⟨n,a,h1,h2,f,e,d⟩=>
  have c:=d.mono (V:=λlo hi k p L=>e0 P (h+1) lo hi k p L) λ_ _ _ _ _ _ b=>b.1;refine⟨n,a,h1,by rw[h2.inner];simp,.inr h2,e,.inr ⟨h,rfl,h2,c.kids,λk=>c.from (λ_ _ _ _ _ b=>(e0.e9 b).2) k⟩⟩
theorem ir.len{fr to:Key}{most:Nat}{acc L a:O aR}{on:al}(h:ir fr to most acc L on a)(b:hN L):a.length<=acc.length+L.length:=by
 have c:(gW L fr to).length<=L.length:=iP _ _;rcases h with ⟨_,h1,_⟩|⟨_,h1⟩
 .rw[h1,cG];omega
 .have:=h1 [] (by simpa using b)
  rw[this,fl,cz,cG];omega
theorem JS{A:ag}{i c:Nat}(h:i<c):aO (some A) 1 i c=some (A.add i):=by
 unfold aO;rw[fE];split
 .rename_i h2;omega
 .rfl
theorem JT(h:Nat):∀ {w:J}{T:aQ}{lo aH ba a6 aW:Nat}{s fN fT:ad}{acc L:O aR}{to fr:Key}{most:Int}{ft dR:av Key}{no:Nat}{p:O Nat},je lo w T aH s acc->lo<=w.heap.size->rz w T ba a6 aW fN fT to fr most->h<=12->e0 T.P h ft dR no p L->(acc.length:Int)<most->acc.length+L.length<=40000->T.C.D.aV+2*p.length<=999999999->
 aK ai 174 #[.pointer (some T.ba),no,h,fT,.func (.func 175) #[] #[.pointer (some ba),.pointer (some a6),.pointer (some aH),.pointer (some aW)]] w (JQ lo aH T fr to most acc L p.length w):=by
 induction h with
 |zero=>intro w T lo aH ba a6 aW s fN fT acc L to fr most ft dR no p _ _ _ _ z;exact z.elim
 |succ h a_=>
  intro w T lo aH ba a6 aW s fN fT acc L to fr most ft dR no p aw b9 hf b_ z bb bd be;obtain⟨n,ca,ax,bg,az,rfl,bh⟩:=z.top;have bi:=z.e9.1;have aA:=aw.t;have cb:=cQ.eL az (by have:=aA.pO _ _ ax;omega);refine okF (ae.vS (some T.ba) (no:Nat) ((h+1:Nat):Int) fT ⟨175,#[],#[.pointer (some ba),.pointer (some a6),.pointer (some aH),.pointer (some aW)]⟩) ay.vS func174 ?_;(delta ae.vS lD cU aa an aY r1 bS aF kr ar;dsimp only);rw[DB bg];refine(JP aA I ax).use ?_;rintro _ w1 ⟨aI,B,aB,aC,bj⟩;have cc:=aC.size;have aD:je lo w1 (T.bC aI T.P) aH s acc:=aw.of aB B.to (λ_ h=>h) aC λq bk bl=>bl.2 bk;have bm:=hf.go B.to;rcases bj with ⟨K,V,D,rfl,eD⟩|⟨rfl,U⟩
  rotate_left
  .refine⟨_,bG,bG,bG,3,rfl,bc (vs:=[false,(),(),()]) rfl λbn v W bo=>⟨v.b3 rfl (fZ (b:=js.leaf) (K:=bG) (V:=bG) (D:=bG)),rfl,cp v (us:=ep js bG bG bG) rfl rfl λE F X br=>⟨λ_=>?_,λhx=>(by simp at hx)⟩⟩⟩
   have f:Ext w1 E:=Ext.cD W X (bt _);refine⟨_,s,acc,((B.trans (e2.ext _ f)).mono (by simp only[gx];omega)),aD.ext f,.inr ⟨rfl,λhc=>U (gB hc (by simp only[gx];omega))⟩⟩
  refine⟨_,K,V,D,0,rfl,bc (vs:=[false,(),(),()]) rfl λbn v W bo=>⟨v.b3 rfl fZ,rfl,cp v (us:=ep n K V D) rfl rfl λE F X br=>⟨λhx=>(by cases hx),λ_=>?_⟩⟩⟩;have f:Ext w1 E:=Ext.cD W X (bt _);obtain⟨nb,bs⟩:∃nb,nb=w1.heap.size:=⟨_,rfl⟩;rw[←bs]at F⊢;have aE:¬(T.bC aI T.P).M nb:=λY=>by have:=aB.lt Y;omega
  have bu:=aD.ext f;have aG:=bm.go (b4.ext _ f);have aL:bI (λq=>¬(T.bC aI T.P).M q) E n K V D:=(eD.ext f).a7 λq _ c=>c.2;have cd:=f.size;obtain⟨b6,aZ,bf,bq⟩:=bP F;refine⟨_,b6,K,aZ,V,bf,D,bq,JR,?_⟩;refine(JM (no:Nat) bu I aG aL az I bb I).use ?_;rintro _ G ⟨b2,s2,rfl,x,l⟩;have Z:=(B.trans (e2.ext _ f)).trans l;have aM:=aG.go l.to;have ce:=l.to.ah.size;have aN:acc.length<most.toNat:=by omega
  rcases bh with ⟨rfl,aO,rfl,rfl⟩|⟨g,rfl,ab,_,bv⟩
  .
   have y:n.leaf=true:=aO.leaf;have e:kg fr to most.toNat n acc n.dW=k6 fr to most.toNat acc n.dW:=by unfold kg;rw[if_pos y]
   have d:=D1 (fr:=fr) (to:=to) aO.dW.1 aN;rw[e]at x⊢;refine⟨_,rfl,λc=>?_,λc=>⟨λ_=>?_,λhx=>?_⟩⟩
   .have c:(k6 fr to most.toNat acc n.dW).1=false:=by simpa using c
    refine⟨b2,s2,_,Z.mono (by simp),x,.inl ⟨false,rfl,?_⟩⟩;rw[c]at d;exact d
   .have c:(k6 fr to most.toNat acc n.dW).1=true:=by simpa using c
    refine⟨b2,s2,_,Z.mono (by simp),x,.inl ⟨true,rfl,?_⟩⟩;rw[c]at d;exact d
   .rw[y]at hx;cases hx
  .
   have y:n.leaf=false:=ab.inner;have e:kg fr to most.toNat n acc n.dW=(true,acc):=by unfold kg;rw[y];rfl
   rw[e]at x⊢;refine⟨true,rfl,λc=>(by cases c),λ_=>⟨λc=>(by rw[y]at c;cases c),λ_=>aX ?_⟩⟩;have ac:Ext G G.drew:=cE _;have aP:Var G.drew nb (ep n K V D) 202:=(F.ah l.to.ah λY=>aE (aQ.gZ Y)).drew;have cf:=(l.to.out (q:=nb) I aE).1;have af:bI (λq=>¬b2.M q) G.drew n K V D:=(l.to.js aL).ext ac;have bw:=aM.go (b4.ext b2 ac);obtain⟨d0,d1,d2,d3⟩:=bP aP;refine⟨λ_=>False,id,D,d3,id,_,d0,K,d1,V,d2,D,d3,(o5 af bw.z2 ab.e9 I).use ?_⟩;rintro _ bx ⟨rfl,H⟩;have cg:=wH n.keys fr;have ch:=af.kids.len;have ci:=ab.len;obtain⟨hE,eB,bp,bJ,rfl,rfl,aS,bz⟩:=bv fr;have N:=ac.trans H;have bA:=Z.trans (e2.ext b2 N);have bD:=x.ext N;have bE:=aM.go (b4.ext b2 N);have ag:=af.ext H;have cj:=aP.ext H;have ck:=N.size;have cm:n.kids.length<=100000:=by omega
   have cn:dy n.keys fr<D.len:=by omega
   obtain⟨A,aq,co⟩:∃A,D.a=some A/\D.len<=D.cap:=by
    obtain⟨A,aq,_⟩:=cZ.at ag.kids (i:=0) I;exact⟨A,aq,ag.kids.2.1⟩
   refine⟨_,rfl,H,⟨I,I⟩,λi w'=>∃ (j:Nat) (dg:aQ) (Q:ad) (m7:O aR) (m qr:O Nat) (o aj:O aR),i=(j:Int)/\j<=D.len-dy n.keys fr/\je lo w' dg aH Q m7/\e2 T dg w w' (2+2*m.length)/\e2 b2 dg bx w' (2*m.length)/\Kids (λlo hi k p L=>e0 T.P (g+1) lo hi k p L) (n.kids.drop (dy n.keys fr+j)) qr aj/\eB=m++qr/\bJ=o++aj/\ir fr to most.toNat acc o true m7,
    λi _=>((D.len:Int)-i).toNat,⟨0,b2,s2,acc,[],eB,[],bJ,rfl,cR _,bD,bA.mono (by simp),.refl _ _,bz,rfl,rfl,.nil aN⟩,?_⟩
   rintro _ aT ⟨j,dg,Q,m7,m,qr,o,aj,rfl,cq,aU,r,R,S,rfl,rfl,d⟩;have bF:(((dy n.keys fr:Nat):Int)).toNat=dy n.keys fr:=di _;rw[bF];refine⟨λaJ=>?_,λbH=>?_⟩
   rotate_left
   .
    have bK:j=D.len-dy n.keys fr:=by
     have:¬(j:Int)<((D.len-dy n.keys fr:Nat):Int):=cw bH;omega
    have hd:n.kids.drop (dy n.keys fr+j)=[]:=rS I;rw[hd]at S
    cases S;refine⟨dg,Q,m7,r.mono (by simp only[cG,gx,lp];omega),aU,.inl ⟨true,rfl,.skip (D7 aS) ?_⟩⟩;rw[fl];exact d
   .have bK:j<D.len-dy n.keys fr:=by
     have:(j:Int)<((D.len-dy n.keys fr:Nat):Int):=cl aJ;omega
    have a0:dy n.keys fr+j<n.kids.length:=by omega
    have bL:=R.to.js ag;have bM:=bE.go R.to;have cr:=R.to.ah.size;obtain⟨cs,a1,c,ak⟩:=cZ.at bL.kids a0;rw[aq]at a1
    cases a1;obtain⟨u,a2⟩:∃u,u=n.kids[dy n.keys fr+j]:=⟨_,rfl⟩;rw[←a2]at ak;have bN:n.kids.drop (dy n.keys fr+j)=u::n.kids.drop (dy n.keys fr+j+1):=by rw[kk a0,a2]
    rw[bN]at S
    cases S with
    | @cons bO bQ _ _ al bR a3 bT bU bV=>
    have bW:dg.P=T.P:=r.P;have bX:aT.cell? ((A.add (dy n.keys fr)).add (Int.toNat (j:Int)*1))=some (.int .i64 (u:Int)):=by
     rw[di,fE,add_add];rw[di,fE]at ak;exact ak
    have bY:IntKind.wrap .i64 (((g+1+1:Nat):Int)-1)=((g+1:Nat):Int):=by rw[bB I I];omega
    have bZ:IntKind.wrap .i64 ((j:Int)+1)=((j+1:Nat):Int):=by rw[bB I I];omega
    have b0:dg.ba=T.ba:=r.to.ba;simp only[gx,cG]at be bd;have b1:(m7.length:Int)<most/\m7.length<=acc.length+o.length:=by
     have b5:hN o:=(s6.1 (s6.1 bi).2.1).1;refine⟨?_,d.len b5⟩;rcases d with ⟨_,_,a4⟩|⟨a4,_⟩
     .omega
     .cases a4
    have ct:=r.to.aV;have a5:=a_ (w:=aT) (T:=dg) (lo:=lo) (aH:=aH) (ba:=ba) (a6:=a6) (aW:=aW) (s:=Q) (fN:=fN) (fT:=fT) (acc:=m7) (L:=a3) (to:=to) (fr:=fr) (most:=most) (ft:=bO) (dR:=bQ) (no:=u) (p:=al) aU I bM I (by rw[bW];exact bU) b1.1 I I;rw[b0]at a5;refine⟨A.add (dy n.keys fr),by rw[aq];exact JS I,⟨I,I⟩,u,bX,?_⟩;rw[bY,bZ];refine a5.use ?_;rintro _ b7 ⟨ku,am,ao,a8,ap,b8⟩;have au:e2 T ku w b7 (2+2*(m.length+al.length)):=(r.trans a8).mono I;rcases b8 with ⟨on,rfl,a9⟩|⟨rfl,U⟩
    .refine⟨on,0,rfl,λc=>?_,λc=>?_⟩
     .have c:on=false:=by simpa using c
      subst c;refine⟨ku,am,ao,au.mono (by simp only[cG,gx];omega),ap,.inl ⟨false,rfl,.skip (D7 aS) ?_⟩⟩;rw[←cM];exact(d.app a9).stop
     .have c:on=true:=by simpa using c
      subst c;refine⟨⟨j+1,ku,am,ao,m++al,bR,o++a3,bT,rfl,I,ap,?_,?_,?_,by rw[cM],by rw[cM],d.app a9⟩,?_⟩
      .rw[cG];exact au
      .rw[cG];exact(R.trans a8).mono I
      .rw[←Nat.add_assoc];exact bV
      .show((D.len:Int)-((j+1:Nat):Int)).toNat<((D.len:Int)-(j:Int)).toNat
       omega
    .refine⟨false,3,rfl,λ_=>?_,λc=>(by simp at c)⟩
     refine⟨ku,am,ao,au.mono (by simp only[cG,gx];omega),ap,.inr ⟨rfl,λhc=>U (r.to.calm _ (gB hc (by simp only[cG,gx];omega)))⟩⟩
def JU(T:aQ)(L:O aR)(fr to:Key)(most:Int)(a:Nat)(w:J)(v:Y)(w':J):Prop:=
 ∃au:aQ,cg w' au/\e2 T au w w' (2*a)/\au.G=T.G/\
  ((∃s:ad,v=.tuple #[s,(0:Int)]/\fw (λq=>¬au.M q) w' s ((gW L fr to).take most.toNat))\/(v=.tuple #[(),(3:Int)]/\¬T.C.D.calm (2*a)))
theorem fw.none(B:Nat->Prop)(w:J):fw B w ⟨.none,0,0⟩ []:=(k7.none B w).r λq a=>(gy q a).elim
theorem e2.back{T au:aQ}{w w':J}{k:Nat}(ht:cg w T)(h:e2 T au w w' k)(b:cg w' au):cg w' (au.cH T.E T.G)/\e2 T (au.cH T.E T.G) w w' k:=
 ⟨b.grow (W:=λ_=>False) (af.refl _ _) (λ_ h=>h.elim) (λq a=>.inl (by rw[h.E];exact a)) (λq a=>.inr (.inl (h.G q a))) λq a=>(ht.dT q a).2.2,
  h.to.step (W:=λ_=>False) (af.refl _ _) (λ_ h=>h.elim) (λq a=>.inl (by rw[h.E];exact a)) (λq a=>.inl (h.G q a)),rfl,λ_ h=>h,h.root,h.aN,h.f,h.P,h.view⟩
theorem JV{w:J}{T:aQ}{pages:O Nat}{L:O aR}{fT fN:ad}{fr to:Key}{most:Int}(h:cg w T)(H:g0 T pages L)(aS:L.length<=30000)(am:T.C.D.aV+2*pages.length<=999999999)
 (hf:Src 1 w fT (aD fr)) (u:∀q,aE fT q->q<w.heap.size/\¬T.M q) (ht:Src 1 w fN (aD to)) (x:∀q,aE fN q->q<w.heap.size/\¬T.M q) (aT:to.length<=1000000):
 aK ai 111 #[.pointer (some T.ba),fT,fN,most] w (JU T L fr to most pages.length w):=by
 have ao:=h.num.2.1;refine okF (ae.vD (some T.ba) fT fN most) ay.vD func111 ?_;(delta ae.vD an aF aa r1 kr;dsimp only);refine bc (vs:=[fT]) rfl λw1 K N aU=>bc (vs:=[fN]) rfl λaj Q y aY=>bc (vs:=[most]) rfl λR z o aZ=>⟨λh=>(by cases h),λ_=>?_⟩;have A:=(N.trans y).trans o;have S:=h.ext A;refine⟨_,rfl,_,S.cells.2.2.2.2,cq (λb w'=>b=decide (T.aN=0\/most<1)/\R=w') (λq c=>⟨λd=>c _ _ ⟨?_,rfl⟩,λd=>⟨_,z.cell,c _ _ ⟨?_,rfl⟩⟩⟩) ?_⟩
 .have:T.aN=0:=by simpa using d
  simp[this]
 .have:T.aN≠0:=by simpa using d
  simp[this]
 rintro _ _ ⟨rfl,rfl⟩;refine⟨λd=>?_,λd=>?_⟩
 .have d:=cl d
  have e:(gW L fr to).take most.toNat=[]:=by
   rcases d with d|d
   .rcases H with ⟨_,_,_,ap⟩|g
    .rw[ap];simp[gW]
    .rw[d]at g;exact g.elim
   .have:most.toNat=0:=by omega
    rw[this,List.take_zero]
  refine⟨T,S,(e2.ext T A).mono I,rfl,.inl ⟨⟨none,0,0⟩,rfl,?_⟩⟩;rw[e];exact fw.none _ _
 have d:=cw d;have g:e0 T.P T.aN none none T.root pages L:=by
  rcases H with ⟨aq,_⟩|g
  .exact absurd (.inl aq) d
  .exact g
 refine bc (vs:=[()]) rfl λB U l a0=>aX ?_;have i:Ext B B.drew:=cE _;obtain⟨k,ar⟩:∃k,k=B.drew:=⟨_,rfl⟩;rw[←ar]at i⊢;obtain⟨aH,V⟩:∃aH,aH=R.heap.size:=⟨_,rfl⟩;obtain⟨a6,X⟩:∃a6,a6=w.heap.size:=⟨_,rfl⟩;obtain⟨ba,Y⟩:∃ba,ba=w1.heap.size:=⟨_,rfl⟩;obtain⟨aW,Z⟩:∃aW,aW=aj.heap.size:=⟨_,rfl⟩;rw[←V]at U;rw[←X]at K;rw[←Y]at Q;rw[←Z]at z;rw[←V,←X,←Y,←Z];have m:=(A.trans l).trans i;have a1:=N.size;have a2:=y.size;have a3:=o.size;have a4:=l.size;have a5:=i.size;have ab:=U.ext i;have a8:=ab.lt;have F:∀q,w.heap.size<=q->¬T.M q:=λq c a=>by have:=h.lt a;omega
 obtain⟨bQ,j⟩:∃bQ,bQ=T.cH T.E λq=>T.G q\/q=aH:=⟨_,rfl⟩;have av:cg k bQ:=by
  rw[j];refine h.grow (W:=λ_=>False) m (λ_ h=>h.elim) (λq c=>.inl c) (λq c=>.inr (c.imp id λe=>⟨I,I⟩)) λq c hg=>?_;rcases hg with hg|hg
  .exact(h.dT q c).2.2 hg
  .have:=h.lt (q:=q) (.inr (.inr (.inr (.inl c))));omega
 have az:e2 T bQ w k 0:=by
  rw[j];exact⟨(b4.refl T w).step (W:=λ_=>False) m (λ_ h=>h.elim) (λq c=>.inl c) λq c=>c.imp id λe=>I,rfl,λ_ h=>.inl h,rfl,rfl,rfl,rfl,λ_=>rfl⟩
 have n:∀q,¬T.M q->q≠aH->¬bQ.M q:=λq c aA a=>by
  rw[j]at a;rcases a with a|a|a|a|a
  .exact c (.inl a)
  .exact c (.inr (.inl a))
  .exact c (.inr (.inr (.inl a)))
  .exact c (.inr (.inr (.inr (.inl a))))
  .rcases a with a|a
   .exact c (.inr (.inr (.inr (.inr a))))
   .exact aA a
 have aB:bQ.ba=T.ba:=by rw[j];rfl
 have ac:bQ.C=T.C:=by rw[j];rfl
 have aC:bQ.P=T.P:=by rw[j];rfl
 have aG:je w.heap.size k bQ aH ⟨none,0,0⟩ []:=⟨av,ab,k7.none _ _,by rw[j];exact .inr rfl,λq c=>(gy q c).elim⟩;have ag:rz k bQ ba a6 aW fN fT to fr most:=⟨(((Q.ext o).ext l).ext i),((((K.ext y).ext o).ext l).ext i),((z.ext l).ext i),n _ (F _ I) I,n _ (F _ I) I,n _ (F _ I) I,
  ht.ext m,hf.ext m,λq c=>⟨by have:=(x q c).1;omega,n q (x q c).2 (by have:=(x q c).1;omega)⟩,λq c=>⟨by have:=(u q c).1;omega,n q (u q c).2 (by have:=(u q c).1;omega)⟩,I⟩
 have ah:=JT T.aN (acc:=[]) (no:=T.root) (L:=L) (p:=pages) (ft:=none) (dR:=none) aG I ag ao (by rw[aC];exact g) (by show(((([]:O aR).length:Nat)):Int)<most;simp only[lp];omega) (by simp only[lp];omega) (by rw[ac];exact am);rw[aB]at ah;have ak:=h.ext m;refine⟨λ_=>False,_,rfl,id,_,ak.cells.2.2.2.1,_,rfl,id,_,ak.cells.2.2.2.2,id,_,ag.xl.cell,af.refl _ _,ah.use ?_⟩;rintro _ aI ⟨au,al,a9,aJ,f,aL⟩;have s:e2 T au w aI (2*pages.length):=(az.trans aJ).mono I;obtain⟨cr,bX⟩:=s.back h f.t;rcases aL with ⟨on,rfl,aM⟩|⟨rfl,aO⟩
 .refine⟨on,0,rfl,λhx=>(by cases hx),λ_=>⟨al,f.v.cell,_,cr,bX,rfl,.inl ⟨al,rfl,?_⟩⟩⟩
  have he:=aM.all g.e9.1;rw[←he];have aP:∀q,¬au.M q->¬(au.cH T.E T.G).M q:=λq c a=>c (by
   rcases a with a|a|a|a|a
   .exact .inl a
   .exact .inr (.inl a)
   .exact .inr (.inr (.inl a))
   .exact .inr (.inr (.inr (.inl (by rw[s.E];exact a))))
   .exact .inr (.inr (.inr (.inr (s.G q a)))))
  refine(f.own.a7 λq _ c=>aP q c).r λq c a=>?_;obtain⟨aw,ax,a_⟩:=f.gs q c;rcases a with a|a|a|a|a
  .exact f.t.xb aw a
  .exact(f.t.ja q aw).1 a
  .exact(f.t.ja q aw).2 a
  .exact(f.t.dT q (by rw[s.E];exact a)).2.2 aw
  .have:=h.lt (q:=q) (.inr (.inr (.inr (.inr a))));omega
 .exact⟨false,3,rfl,λ_=>⟨_,cr,bX,rfl,.inr ⟨rfl,by rw[←ac];exact aO⟩⟩,λhx=>(by simp at hx)⟩
theorem D9{w:J}{T:aQ}(h:cg w T):aK ai 147 #[.pointer (some T.ba)] w (λv w'=>v=.tuple #[T.root,T.aN]/\Ext w w'):=by
 refine okF (ae.vP (some T.ba)) ay.vP func147 ?_;(delta ae.vP an aF;dsimp only);have hd:=h.ext (cE w);exact⟨λh=>(by cases h),λ_=>aX ⟨_,rfl,id,_,hd.cells.2.2.2.1,_,rfl,id,_,hd.cells.2.2.2.2,rfl,cE w⟩⟩
theorem xm{w:J}{s:ad}{l:O UInt8}(h:Src 1 w s (aD l)){i:Nat}(hi:i<l.length):∃A:ag,s.a=some A/\((0:Int)<=(i:Int)/\(i:Int)<(s.len:Int))/\w.cell? (A.add (Int.toNat (i:Int)*1))=some (.int .u8 ((l[i].toNat:Nat):Int)):=by
 obtain⟨A,aq,b,hc⟩:=h.at (i:=i) (v:=.int .u8 ((l[i].toNat:Nat):Int)) (by simp[aD,hi]);exact⟨A,aq,b,hc⟩
theorem pg{w:J}{s t:ad}{a b:Key}(hs:Src 1 w s (aD a))(ht:Src 1 w t (aD b))(M:a.length<=1000000)(N:b.length<=1000000):
 aK ai 113 #[s,t] w (λv w'=>∃n:Int,v=n/\(n<0↔bD a b)/\Ext w w'):=by
 have h1:=len8 hs;have h2:=len8 ht;refine okF (ae.pg s t) ay.pg func113 ?_;(delta ae.pg an aM dF ar;dsimp only);refine⟨λn w'=>∃i:Nat,n=(i:Int)/\i<=a.length/\i<=b.length/\eA a b=eA (a.drop i) (b.drop i)/\Ext w w',λn _=>((a.length:Int)-n).toNat,⟨0,rfl,cR _,cR _,rfl,.refl _ _⟩,?_⟩;rintro _ l ⟨i,rfl,O,P,hc,hx⟩;refine⟨λaJ=>?_,λm=>?_⟩
 .rw[dh,b_,b_]at aJ
  have d:i<a.length:=by omega
  have f:i<b.length:=by omega
  have c:=Ext.trans hx (cE l);obtain⟨A,aq,o,p⟩:=xm (hs.ext c) d;obtain⟨B,q,r,u⟩:=xm (ht.ext c) f;rw[kk d,kk f]at hc;have Q:=lU a[i];have R:=lU b[i];refine aX ⟨A,aq,o,id,_,p,B,q,r,id,_,u,λg=>?_,λx=>?_⟩
  .have g:a[i].toNat≠b[i].toNat:=λe=>by rw[e]at g;simp at g
   have j:=Ext.trans c (cE _);obtain⟨y,z,C,D⟩:=xm (hs.ext j) d;obtain⟨E,F,G,H⟩:=xm (ht.ext j) f;refine aX ⟨y,z,C,id,_,D,E,F,G,id,_,H,_,rfl,?_,j⟩;rw[bB (n:=((a[i].toNat:Nat):Int)) I I,bB (n:=((b[i].toNat:Nat):Int)) I I,bB I I];unfold bD;rw[hc];unfold eA;rcases eu a[i].toNat b[i].toNat with h|h
   .rw[if_pos h]
    exact⟨λ_=>by decide,λ_=>I⟩
   .rw[if_neg I,if_pos I]
    exact⟨λ_=>I,λh=>absurd h (by decide)⟩
  .have he:a[i]=b[i]:=by
    have:((a[i].toNat:Nat):Int)=((b[i].toNat:Nat):Int):=by simpa using x
    exact rN.1 I
   have K:IntKind.wrap .i64 ((i:Int)+1)=((i+1:Nat):Int):=by rw[bB I I];omega
   rw[K];refine⟨⟨i+1,rfl,I,I,?_,c⟩,by show((a.length:Int)-((i+1:Nat):Int)).toNat<((a.length:Int)-(i:Int)).toNat;omega⟩;rw[hc]
   conv=>lhs;unfold eA
   rw[he,if_neg (by simp),if_neg (by simp)]
 .have S:a.length=i\/b.length=i:=by
   rw[Bool.and_eq_false_iff,jX,jX]at m;omega
  rw[bB I I];refine⟨_,rfl,?_,hx⟩;unfold bD;rw[hc];rcases eu i a.length with h|h
  .rw[kk h,rS (show b.length<=i from I)]
   exact⟨λL=>by exfalso;omega,λh=>absurd h (show¬((1:Int)<0) by decide)⟩
  .rw[rS (show a.length<=i from I)]
   rcases eu i b.length with k|k
   .rw[kk k]
    exact⟨λ_=>show((-1:Int)<0) by decide,λ_=>I⟩
   .rw[rS (show b.length<=i from I)]
    exact⟨λL=>by exfalso;omega,λh=>absurd h (show¬((0:Int)<0) by decide)⟩
theorem tz{α:Type}{c:α->O Y}{sz:Nat}:∀ (l:O α) (i:Nat),(∀x∈l,(c x).length=sz)->(bg c l).take (i*sz)=bg c (l.take i)/\(bg c l).drop (i*sz)=bg c (l.drop i)
 |l,0,_=>by simp[bg]
 | [],i+1,_=>by simp[bg]
 |x::l,i+1,h=>by
  obtain⟨h1,h2⟩:=tz l i λy a=>h y (by simp[a])
  have hx:=h x (by simp)
  have e:(i+1)*sz=(c x).length+i*sz:=by rw[jz,hx];omega
  rw[rf,e,List.take_length_add_append,List.drop_length_add_append,h1,h2]
  exact⟨rfl,rfl⟩
theorem JW(l:O (ad×ad)):(bg jP l).length=l.length*2:=e4 _ (pP l)
section
variable {B C W:Nat->Prop}{w w':J}{s:ad}{ps Ln:O (ad×ad)}{L M:O aR}
theorem jd.take(h:jd B w ps L)(i:Nat):jd B w (ps.take i) (L.take i):=by
 refine⟨by simp[h.1],λj aw ax=>?_⟩;simp only[ou];exact h.2 _ (by rw[cz]at aw;omega) (by rw[cz]at ax;omega)
variable {Lo:O Y}{Lp:TypeId}{aW:Nat}{key val:Key}{tk c2:ad}
theorem D_(h:fw B w s L){i:Nat}(hi:i<L.length):∃ (A:ag) (tk c2:ad),s.a=some A/\((0:Int)<=(i:Int)/\(i:Int)<(s.len:Int))/\w.cell? (A.add (Int.toNat (i:Int)*2))=some (.slice tk.a tk.len tk.cap)/\w.cell? ((A.add (Int.toNat (i:Int)*2)).add 1)=some (.slice c2.a c2.len c2.cap)/\
 bA B w tk L[i].1/\bA B w c2 L[i].2:=by
 obtain⟨A,tk,c2,h1,_,b,c,d,e,f⟩:=h.at hi;rw[di];exact⟨A,tk,c2,h1,b,c,d,e,f⟩
theorem Src.JX(h:Src 2 w s (bg jP ps))(hc:s.len<=s.cap){lo hi:Nat}(h1:lo<=hi)(h2:hi<=ps.length):Src 2 w ⟨aO s.a 2 lo s.cap,hi-lo,s.cap-lo⟩ (bg jP ((ps.drop lo).take (hi-lo))):=by
 have b:=h.len;rw[JW]at b;have:=Src.cut h hc h1 (hi:=hi) I;rw[(tz ps lo (pP ps)).2,(tz (ps.drop lo) (hi-lo) (pP _)).1]at this;exact this
end
def rA(n:Nat)(root aN:Int):Prop:=0<=aN/\aN<=12/\0<=root/\root<n/\(root=0↔aN=0)
theorem o2{w:J}{C:cf}(hc:fv w C)(sb:Nat)(gen root aN:Int):
 aK ai 140 #[.pointer (some C.c),.pointer (some sb),.int .u64 gen,root,aN] w (λv w'=>
  (rA C.D.n root aN/\v=.tuple #[.pointer (some w.heap.size),(0:Int)]/\Ext w w'/\Var w' w.heap.size [.pointer (some C.c),.pointer (some sb),.int .u64 gen,root,aN] 239/\w'.heap.size=w.heap.size+1)\/
  (¬rA C.D.n root aN/\v=.tuple #[.pointer none,(1:Int)]/\w=w')):=by
 refine okF (ae.o2 (some C.c) (some sb) gen root aN) ay.o2 func140 ?_;delta ae.o2 an bS aa;refine cq (λb w'=>(b=false↔(0<=aN/\aN<=12/\0<=root/\root<C.D.n))/\w=w') (λq g=>⟨λh1=>g _ _ ⟨?_,rfl⟩,λh1=>⟨_,rfl,_,hc.cells.1,(w7 hc.dev).use ?_⟩⟩) ?_
 .simp only[Option.isNone_some,lk,jy,b_]at h1
  exact⟨λh=>(by cases h),λh=>I⟩
 .rintro _ _ ⟨rfl,rfl⟩
  simp only[Option.isNone_some,lk,rL,jX]at h1;refine⟨_,rfl,g _ _ ⟨?_,rfl⟩⟩;rw[jX];omega
 rintro b _ ⟨i,rfl⟩;refine⟨λh1=>.inr ⟨λhg=>?_,rfl,rfl⟩,λh1=>?_⟩
 .have h2:=i.2 ⟨hg.1,hg.2.1,hg.2.2.1,hg.2.2.2.1⟩
  rw[h2,lk]at h1;have d:=hg.2.2.2.2;by_cases a:root=0
  .rw[a,d.1 a]at h1;simp at h1
  .have f:aN≠0:=λe=>a (d.2 e)
   have j:(root==0)=false:=by simpa using a
   have k:(aN==0)=false:=by simpa using f
   rw[j,k]at h1
   cases h1
 .rw[rL]at h1
  have h2:=i.1 h1.1;have d:root=0↔aN=0:=by
   have a:=h1.2;by_cases f:root=0<;>by_cases l:aN=0<;>simp[f,l]at a⊢
  refine bc (vs:=[.pointer (some C.c),.pointer (some sb),.int .u64 gen,root,aN]) rfl λo m hx hs=>.inl ⟨⟨h2.1,h2.2.1,h2.2.2.1,h2.2.2.2,d⟩,rfl,hx,m,hs⟩
theorem Ea{w:J}{s:ad}{l:O UInt8}(hs:Src 1 w s (aD l))(hc:s.len<=s.cap)(most:Nat)(g:most<=100000):aK ai 24 #[s,most] w (λv w'=>∃a:ad,v=a/\aT 1 5 w' a (aD (l.take most))/\Ext w w'/\∀q,aE a q->w.heap.size<=q):=by
 have hlen:=len8 hs;refine okF (ae.wB s (most:Nat)) ay.wB func24 ?_;delta ae.wB an aa;refine cq (λs2 w'=>w=w'/\Src 1 w s2 (aD (l.take most))/\s2.len<=most) (λq b=>⟨λh=>?_,λh=>?_⟩) ?_
 .have h:most<l.length:=by have:=cl h;omega
  refine⟨⟨I,I⟩,b _ _ ⟨rfl,?_,by simp⟩⟩;have:=nV hs hc (lo:=0) (hi:=most) I I;simpa using this
 .have h:l.length<=most:=by have:=cw h;omega
  rw[dr h]at b;exact b _ _ ⟨rfl,hs,I⟩
 rintro s2 _ ⟨rfl,h2,i⟩;obtain⟨c,d,aw,ax,j,e,f,_⟩:=lG.clone (cC:=48) h2 (iG _) I;exact aX ⟨c,d,aw,c,rfl,ax,e,f⟩
instance (n:Nat) (root aN:Int):Decidable (rA n root aN):=by unfold rA;infer_instance
theorem g0.rising{T:aQ}{pages:O Nat}{L:O aR}(h:g0 T pages L):hN L:=by
 rcases h with ⟨_,_,_,a⟩|b
 .rw[a];exact List.Pairwise.nil
 .exact b.e9.1
section
variable {w0 w w':J}{xn aW:Nat}{T au:aQ}{r h k:Nat}{pages:O Nat}{L k8:O aR}{ms:ad}
theorem cg.jQ{k5:Nat}(ht:cg w T)(a:T.E k5)(hc:af (λq=>q=k5) w w'):cg w' T:=
 ht.grow (E:=T.E) (G:=T.G) hc (λq e _=>.inl (by rw[e];exact a)) (λq a=>.inl a) (λq a=>.inr (.inl a)) λq a=>(ht.dT q a).2.2
end
def aQ.xo(T:aQ)(f g:Nat->al)(s1 s2:ad):aQ:={T with f:=f,g:=g,s1:=s1,s2:=s2}
def aQ.cm(T:aQ)(ba gen root aN:Nat)(E:Nat->Prop):aQ:={T with ba:=ba,gen:=gen,root:=root,aN:=aN,E:=E}
section
variable {w0 w w':J}{xn aW:Nat}{T au:aQ}{r h k:Nat}{pages:O Nat}{L k8:O aR}{ms:ad}
theorem cg.space{f g:Nat->al}{s1 s2:ad}(ht:cg w T)(hs:fh w' T.sb T.n f g s1 s2)(hc:af (fX T.sb T.s1 T.s2) w w')(hf:∀k,fX T.sb s1 s2 k->fX T.sb T.s1 T.s2 k\/w.heap.size<=k)(d:∀j,T.C.D.bZ j=true->g j=true\/T.C.D.ro)(e:g 0=true/\g 1=true):
 cg w' (T.xo f g s1 s2)/\∀q,(T.xo f g s1 s2).M q->T.M q\/w.heap.size<=q:=by
 have c:∀q,T.X q->¬fX T.sb T.s1 T.s2 q->¬fX T.sb s1 s2 q:=λq hx a h2=>by
  rcases hf q h2 with b|b
  .exact a b
  .have:=ht.lt (q:=q) (.inr hx);omega
 refine⟨⟨ht.t.ah hc ht.kc,hs,ht.ca.grow hc (λq a _=>.inr (.inl a)) λq a=>?_,c _ (.inl rfl) ht.kc,λq a=>⟨(ht.dT q a).1,c q (.inr (.inr (.inl a))) (ht.dT q a).2.1,(ht.dT q a).2.2⟩,λq a=>⟨(ht.ja q a).1,c q (.inr (.inr (.inr a))) (ht.ja q a).2⟩,ht.n,ht.num,ht.eU,d,e⟩,λq a=>?_⟩
 .rcases a with a|a|a|a
  .exact .inl (.inl a)
  .rcases hf q a with b|b
   .exact .inl (.inr (.inl b))
   .exact .inr ⟨b,hs.lt q a⟩
  .exact .inl (.inr (.inr (.inl a)))
  .exact .inl (.inr (.inr (.inr a)))
 .rcases a with a|a|a|a|a
  .exact .inl (.inl a)
  .exact .inl (.inr (.inl a))
  .exact(hf q a).imp (λh=>.inr (.inr (.inl h))) id
  .exact .inl (.inr (.inr (.inr (.inl a))))
  .exact .inl (.inr (.inr (.inr (.inr a))))
theorem cg.tree{ba gen root aN:Nat}{E:Nat->Prop}(ht:cg w T)(hx:Ext w w')(g:Var w' ba (lO (T.cm ba gen root aN E)) 239)(c:T.E ba\/w.heap.size<=ba)(d:∀q,E q->q≠ba/\(T.E q\/q=T.ba\/(w.heap.size<=q/\q<w'.heap.size)))
 (i:root<T.n/\aN<=12/\gen<18446744073709551616) (j:∀no ck,T.P no=some ck->no<T.n/\g6 gen ck.leaf no (T.C.view no) ck):cg w' (T.cm ba gen root aN E):=by
 have l:=g.lt;have h1:¬fX T.sb T.s1 T.s2 ba:=λh=>by
  rcases c with h2|h2
  .exact(ht.dT _ h2).2.1 h
  .have:=ht.lt (q:=ba) (.inr (.inr (.inl h)));omega
 have h2:∀q,T.G q->q≠ba:=λq a e=>by
  rcases c with h2|h2
  .rw[e]at a;exact(ht.dT _ h2).2.2 a
  .have:=ht.lt (q:=q) (.inr (.inr (.inr (.inr a))));omega
 have k:∀q,E q->¬fX T.sb T.s1 T.s2 q/\¬T.G q:=λq a=>by
  rcases(d q a).2 with b|b|b
  .exact(ht.dT q b).2
  .rw[b]
   exact⟨ht.kc,λhg=>(ht.ja _ hg).1 rfl⟩
  .exact⟨λf=>by have:=ht.lt (q:=q) (.inr (.inr (.inl f)));omega,λf=>by have:=ht.lt (q:=q) (.inr (.inr (.inr (.inr f))));omega⟩
 refine⟨g,ht.s.ext hx,ht.ca.grow (W:=λ_=>False) hx (λ_ h=>h.elim) λq a=>?_,h1,λq a=>⟨(d q a).1,k q a⟩,λq a=>⟨h2 q a,(ht.ja q a).2⟩,ht.n,i,j,ht.bZ,ht.low⟩;rcases a with a|a|a|a
 .have a:q=ba:=a
  rcases c with b|b
  .exact .inl (.inr (.inr (.inl (by rw[a];exact b))))
  .exact .inr ⟨I,I⟩
 .exact .inl (.inr (.inl a))
 .rcases(d q a).2 with b|b|b
  .exact .inl (.inr (.inr (.inl b)))
  .exact .inl (.inl b)
  .exact .inr b
 .exact .inl (.inr (.inr (.inr a)))
theorem g0.agree{p:O Nat}(a:g0 T p L)(b:au.root=T.root)(c:au.aN=T.aN)(d:∀x∈p,T.P x=au.P x):g0 au p L:=by
 unfold g0 at a⊢;rw[b,c];exact a.imp id λe=>(e.agree d).1
end
section
variable {w0 w w':J}{xn aW:Nat}{T au:aQ}{r h k:Nat}{pages:O Nat}{L k8:O aR}{ms:ad}
theorem JY{s:ad}(h:nz ai w 5 s):∃l:O UInt8,Src 1 w s (aD l):=by
 obtain⟨l,h1,_,_⟩:=h.src (c:=λc:UInt8=> [Value.int .u8 (c.toNat:Int)]) (sz:=1) (by kernel_rfl) (λ_=>True) λfuel us b=>by
  obtain⟨n,rfl,h2,d⟩:=si b (k:=.u8) (by kernel_rfl);have g:=uC h2 d;refine⟨UInt8.ofNat n.toNat,?_,trivial⟩;simp only[oy]
  congr 2
  omega
 have e:∀l:O UInt8,(l.map λc:UInt8=> [Value.int .u8 (c.toNat:Int)]).flatten=aD l:=λl=>by
  unfold aD
  induction l with
  |nil=>rfl
  |cons a l f=>rw[g2,List.flatten_cons,f];rfl
 rw[e]at h1;exact⟨l,h1⟩
end
theorem JZ{i n m:Nat}{a:Nat}(b:n=a)(h:(decide ((i:Int)<(n:Int))&&decide ((i:Int)<(m:Int)))=true):i<a/\i<m:=by
 rw[dh,b_,b_]at h;omega
theorem lQ{i:Nat}(h:i<=1000000):IntKind.wrap .i64 ((i:Int)+1)=((i+1:Nat):Int):=by rw[bB I I];omega
section
variable {w0 w w':J}{xn aW:Nat}{T au:aQ}{r h k c:Nat}{pages aL:O Nat}{L k8 bF:O aR}{V:Nat->du}{ms l:ad}
end
section
variable {w0 w w':J}{xn aW:Nat}{T au:aQ}{r h k c:Nat}{pages aL:O Nat}{L k8 bF:O aR}{V:Nat->du}{ms l:ad}
theorem J0(w:J):Src 1 w bG (aD []):=(aT.none 1 5 w).src
end
theorem Eb:∀ {a b:O Nat},a.Nodup->(∀x∈a,x∈b)->a.length<=b.length
 | [],_,_,_=>cR _
 |x::a,b,d,hs=>by
  obtain⟨h1,h2⟩:=List.nodup_cons.1 d
  have hx:=hs x (by simp)
  have:=Eb (a:=a) (b:=b.erase x) h2 λy c=>(List.mem_erase_of_ne (λe=>h1 (by rw[←e];exact c))).2 (hs y (jW _ c))
  rw[List.length_erase_of_mem hx]at this
  have:=List.length_pos_of_mem hx
  rw[gx];omega
theorem J1{t:Nat->al}{l:O Nat}(n:Nat)(h:∀i,i<n->t i=true->i∈l):e5 t n<=l.length:=by
 have h1:∀n,e5 t n=((List.range n).filter t).length:=by
  intro n
  induction n with
  |zero=>rfl
  |succ n a=>
   rw[List.range_succ,gG,cG,e5,a,hJ,oC]
   cases t n<;>rfl
 rw[h1];refine Eb (List.nodup_range.filter t) λx hx=>?_;rw[fU,kj]at hx;exact h x hx.1 hx.2
section
variable {α:Type}{P:Program}{w w':J}{h9 l0 T:TypeId}{enc:α->Y}{r m:Nat}{L:O (α×Y×Nat)}{seen:O Nat}
structure k9(w:J)(r m:Nat)(enc:α->Y)(L:O (α×Y×Nat))(seen:O Nat):Prop where
 it:∃a:Nat,w.heap[r]? =some (.mapIter (some m) a seen.toArray a)/\w.heap[m]? =some (.map (L.map (eI enc)).toArray a)/\∀x∈L,x.2.2<a
 ck:(L.map (·.2.2)).Nodup
def gC(L:O (α×Y×Nat))(seen:O Nat):O (α×Y×Nat):=L.filter λx=> !seen.contains x.2.2
theorem Ec(P:Program){n:Nat}(b:1<=n)(w:J):∃ (i:Nat) (w':J),i<n/\(choose (.mapNext n)).run P w=.ok i w'/\(w'=w\/w'=w.drew):=by
 by_cases h:n<=1
 .refine⟨0,w,I,?_,.inl rfl⟩
  show Sem.run P (.choose (.mapNext n) .pure) w=_;have a:(Question.mapNext n).forced=true:=by simp[Question.forced,h]
  simp only[Sem.run,a,if_true]
 .refine⟨(Question.mapNext n).cut (w.tape w.drawn (.mapNext n)),w.drew,hZ _ I,?_,.inr rfl⟩
  show Sem.run P (.choose (.mapNext n) .pure) w=_;have a:(Question.mapNext n).forced=false:=by simp[Question.forced,h]
  simp only[Sem.run,a,gp,if_false];rfl
theorem z6{a:av Nat}{b d:Nat}{c:Array Nat}(h:w.heap[r]? =some (.mapIter a b c d)):(getObj r).run P w=.ok (.mapIter a b c d) w:=by simp[getObj,Sem.run,h]
theorem J2{a:av Nat}{b d:Nat}{c:Array Nat}(h:w.heap[r]? =some (.mapIter a b c d))(e:Obj):(setObj r e).run P w=.ok () (iU w r e):=by simp[setObj,Sem.run,h,iU]
theorem k9.begin{M:O (α×Y)}(h:eV w m enc M){T:TypeId}{h9 l0:TypeId}(b:P.underlying T=some (.map h9 l0)):∃ (L:O (α×Y×Nat)) (w1:J),(L.map mK).Perm M/\(Instr.range T (.map (some m))).run P w=.ok (.pointer (some w.heap.size)) w1/\k9 w1 w.heap.size m enc L []/\Ext w w1/\w1.heap.size=w.heap.size+1:=by
 have aJ:=h.lt;obtain⟨L,a,h1,h2,e,c,d⟩:=h;refine⟨L,w.alloc (.mapIter (some m) a #[] a),h2,?_,⟨⟨a,?_,?_,d⟩,c⟩,af.alloc (.refl _ _) _,by simp⟩
 .simp only[Instr.range,Sem.run_bind,dj b,Result.andThen,mM h1,Sem.run_pure,newObj,Sem.run]
  rfl
 .show(w.heap.push _)[w.heap.size]? =_
  simp
 .show(w.heap.push _)[m]? =_
  rw[Array.getElem?_push_lt aJ];exact(Array.getElem?_eq_getElem aJ).symm.trans h1
theorem k9.next(h:k9 w r m enc L seen)(E:r≠m)(T:TypeId):
 (gC L seen=[]/\∃w1,(Instr.next (.pointer (some r)) false T).run P w=.ok (.tuple #[false]) w1/\Ext w w1/\w1.heap=w.heap)\/
 (∃x∈gC L seen,∃w1,(Instr.next (.pointer (some r)) false T).run P w=.ok (.tuple #[true,enc x.1,x.2.1]) w1/\k9 w1 r m enc L (seen++ [x.2.2])/\af (λq=>q=r) w w1/\w1.heap.size=w.heap.size/\(Instr.entry (.pointer (some r))).run P w1=.ok (.tuple #[enc x.1,x.2.1]) w1):=by
 obtain⟨⟨a,h1,h2,d⟩,j⟩:=h;have k:(!seen.toArray.isEmpty&& !((L.map (eI enc)).toArray).isEmpty&&((L.map (eI enc)).toArray).all λe=>decide (e.born>=a))=false:=by
  cases L with
  |nil=>simp
  |cons x L=>
   have:¬a<=x.2.2:=by have:=d x (by simp);omega
   simp[eI,this]
 have f:((L.map (eI enc)).toArray.filter λe=> !seen.toArray.contains e.born)=((gC L seen).map (eI enc)).toArray:=by
  rw[List.filter_toArray,List.filter_map]
  congr 1
  unfold gC
  congr 1
  apply oD;intro x _;simp only[Function.comp,eI,List.contains_toArray]
 have aJ:∀x∈gC L seen,x.2.2<a:=λx hx=>d x (fU.1 hx).1;have hold:(((gC L seen).map (eI enc)).toArray.filter λe=>decide (e.born<a))=((gC L seen).map (eI enc)).toArray:=by
  rw[List.filter_toArray,jA.2];intro e he;obtain⟨x,hx,rfl⟩:=fy.1 he;exact dD (aJ x hx)
 have g:(((gC L seen).map (eI enc)).toArray.filter λe=>decide (e.born>=a))= #[]:=by
  rw[List.filter_toArray,mx.2];intro e he;obtain⟨x,hx,rfl⟩:=fy.1 he;have:=aJ x hx;have F:¬a<=x.2.2:=by omega
  simp[eI,F]
 cases b:gC L seen with
 |nil=>
  rw[b]at f hold g;obtain⟨i,w1,hi,hc,c⟩:=Ec P (n:=1) (bt _) w;have G:i=0:=by omega
  subst G;refine .inl ⟨rfl,w1,?_,?_,?_⟩
  .simp only[Instr.next,Sem.run_bind,z6 h1,Result.andThen,mM h2,k,gp,if_false,f,hold,g]
   simp only[List.map_nil,Array.isEmpty,tY,lp,decide_true,if_true];have e:(#[none]++((#[]:Array MapEntry)++ #[]).map some:Array (av MapEntry)).size=1:=by simp
   have o:((#[none]++((#[]:Array MapEntry)++ #[]).map some:Array (av MapEntry)))[0]? =some none:=by simp
   simp only[e,Sem.run_bind,hc,Result.andThen,o,Sem.run_pure,Sem.run_pure]
  .rcases c with rfl|rfl
   .exact .refl _ _
   .exact af.drew (.refl _ _)
  .rcases c with rfl|rfl<;>rfl
 |cons y l=>
  right;rw[←b];have v:1<=(gC L seen).length:=by rw[b];simp
  obtain⟨i,w1,hi,hc,c⟩:=Ec P (n:=(gC L seen).length) v w;have p:w1.heap=w.heap:=by rcases c with rfl|rfl<;>rfl
  obtain⟨x,hx⟩:∃x,x=(gC L seen)[i]:=⟨_,rfl⟩;have s:x∈gC L seen:=by rw[hx];exact cW _
  have A:x∈L:=(fU.1 s).1;have B:w1.heap[r]? =some (.mapIter (some m) a seen.toArray a):=by rw[p];exact h1
  have H:r<w1.heap.size:=(mo.1 B).1;have t:(iU w1 r (.mapIter (some m) a (seen.toArray.push x.2.2) a)).heap[r]? =some (.mapIter (some m) a (seen++ [x.2.2]).toArray a):=by
   rw[uJ H];simp
  have u:(iU w1 r (.mapIter (some m) a (seen.toArray.push x.2.2) a)).heap[m]? =some (.map (L.map (eI enc)).toArray a):=by
   have C:w1.heap[m]? =some (.map (L.map (eI enc)).toArray a):=by rw[p];exact h2
   rw[(so w1 r _).block m (mo.1 C).1 (λe=>E e.symm)];exact C
  refine⟨x,s,iU w1 r (.mapIter (some m) a (seen.toArray.push x.2.2) a),?_,⟨⟨a,t,u,d⟩,j⟩,?_,?_,?_⟩
  .simp only[Instr.next,Sem.run_bind,z6 h1,Result.andThen,mM h2,k,gp,if_false,f,hold,g]
   have I:((gC L seen).map (eI enc)).toArray.isEmpty=false:=by rw[b];rfl
   have e:((#[]:Array (av MapEntry))++(((gC L seen).map (eI enc)).toArray++ #[]).map some).size=(gC L seen).length:=by simp
   have o:((#[]:Array (av MapEntry))++(((gC L seen).map (eI enc)).toArray++ #[]).map some)[i]? =some (some (eI enc x)):=by
    simp[hi,hx]
   simp only[I,gp,if_false,e,Sem.run_bind,hc,Result.andThen,o,J2 B,Sem.run_pure,eI]
  .have J:af (λq=>q=r) w w1:=by
    rcases c with rfl|rfl
    .exact .refl _ _
    .exact af.drew (.refl _ _)
   exact J.trans (so _ _ _)
  .rw[uI,p]
  .have K:(seen++ [x.2.2]).toArray.back? =some x.2.2:=by simp
   have hf:((L.map (eI enc)).toArray.find? λe=>e.born==x.2.2)=some (eI enc x):=by
    rw[List.find?_toArray,List.find?_map];have:L.find? ((λe:MapEntry=>e.born==x.2.2)∘eI enc)=some x:=by
     clear b v hi hc s hx t u f hold g aJ k h2 d
     induction L with
     |nil=>cases A
     |cons z L M=>
      rw[g2]at j;obtain⟨bW,bz⟩:=List.nodup_cons.1 j;rw[List.find?_cons];rcases de.1 A with rfl|D
      .simp[eI]
      .have N:z.2.2≠x.2.2:=λe=>bW (by rw[e];exact fy.2 ⟨x,D,rfl⟩)
       have:((λe:MapEntry=>e.born==x.2.2)∘eI enc) z=false:=by simp[eI,N]
       rw[this];exact M bz D
    rw[this];rfl
   have O:(a !=a)=false:=by simp
   simp only[Instr.entry,Sem.run_bind,z6 t,Result.andThen,K,mM u,O,gp,if_false,hf,Sem.run_pure,eI]
theorem eV.clear{M:O (α×Y)}(h:eV w m enc M){o:TypeId}(b:P.underlying T=some (.map h9 l0)):∃w1,(Builtin.clear_ #[T] o #[.map (some m)]).run P w=.ok (.tuple #[]) w1/\eV w1 m enc ([]:O (α×Y))/\af (λq=>q=m) w w1/\w1.heap.size=w.heap.size:=by
 have aJ:=h.lt;obtain⟨L,a,h1,h2,c,d,e⟩:=h;refine⟨iU w m (.map #[] a),?_,⟨[],a,uJ aJ _,by simp,by simp,by simp,by simp⟩,so _ _ _,uI _ _ _⟩;unfold Builtin.clear_;simp only[rM,ni,Sem.run_bind,dj b,Result.andThen,mM h1,ym h1,Sem.run_pure]
end
theorem J3{w:J}{lb:Nat}{ls:O du}{T:TypeId}(h:bu w lb (bg aD ls).toArray T)(hs:∀x∈ls,x.length=256){i:Nat}(hi:i<ls.length){x:du}(hx:x.length=256):
 bk w ⟨lb,i*256,none⟩ (aD x)/\bu (setCells w ⟨lb,i*256,none⟩ 0 (aD x)) lb (bg aD (ls.set i x)).toArray T/\af (λq=>q=lb) w (setCells w ⟨lb,i*256,none⟩ 0 (aD x)):=by
 have a:∀x∈ls,(aD x).length=256:=λx hx=>by rw[dm];exact hs x hx
 have f:=e4 (c:=aD) ls a;have b:(aD x).length=256:=by rw[dm];exact hx
 have d:i*256+(aD x).length<=(bg aD ls).toArray.size:=by
  rw[tY,f,b];omega
 refine⟨bu.b3 h _ _ d (iG _),?_,af.j6 (.refl _ _) _ 0⟩;have h0:=bu.lB (o:=i*256) h (aD x);have h1:=lA (aD x) (bg aD ls).toArray (i*256) d;have h2:=CU a hi x;rw[b]at h1;have g:(gJ (bg aD ls).toArray (i*256) (aD x)).toList=bg aD (ls.set i x):=h1.trans h2;have e:gJ (bg aD ls).toArray (i*256) (aD x)=(bg aD (ls.set i x)).toArray:=by rw[←g]
 rw[e]at h0;exact h0
theorem J4{α:Type}{L:O (α×Y×Nat)}{seen:O Nat}{x:α×Y×Nat}(h:x∈gC L seen):(gC L (seen++ [x.2.2])).length<(gC L seen).length:=by
 have e:gC L (seen++ [x.2.2])=(gC L seen).filter λy=> !(y.2.2==x.2.2):=by
  unfold gC;rw[List.filter_filter];apply oD;intro y _;rw[eQ];simp only[jh,dh,List.contains_eq_mem,jX,c1,fz,beq_eq_false_iff_ne];constructor
  .exact λh=>⟨λh2=>h (.inr h2),λh2=>h (.inl h2)⟩
  .rintro⟨h1,h2⟩ (a|a)
   .exact h2 a
   .exact h1 a
 rw[e];exact List.length_filter_lt_length_iff_exists.2 ⟨x,h,by simp⟩
def z7{α:Type}(L:O (α×Y×Nat))(r:Nat)(w:J):Nat:=match w.heap[r]? with
 |some (.mapIter _ _ seen _)=>(gC L seen.toList).length
 |_=>0
theorem k9.left{α:Type}{w:J}{r m:Nat}{enc:α->Y}{L:O (α×Y×Nat)}{seen:O Nat}(h:k9 w r m enc L seen):z7 L r w=(gC L seen).length:=by
 obtain⟨⟨a,h1,_⟩,_⟩:=h;unfold z7;rw[h1]
theorem k9.ah{α:Type}{W:Nat->Prop}{w w':J}{r m:Nat}{enc:α->Y}{L:O (α×Y×Nat)}{seen:O Nat}(h:k9 w r m enc L seen)(hc:af W w w')(a:¬W r)(b:¬W m):k9 w' r m enc L seen:=by
 obtain⟨⟨c,h1,h2,d⟩,e⟩:=h;exact⟨⟨c,by rw[hc.block r (mo.1 h1).1 a];exact h1,by rw[hc.block m (mo.1 h2).1 b];exact h2,d⟩,e⟩
def bm.jx(D:bm):bm:={D with bT:=(List.range D.n).map D.now,waits:=[]}
theorem tA(D:bm):D.jx.n=D.n:=by simp[bm.jx,bm.n]
theorem z8(D:bm){i:Nat}(hi:i<D.n):D.jx.now i=D.now i:=by
 show((List.range D.n).map D.now).getD i []=_;rw[fu (by simp;exact hi)];simp
def J5(D:bm)(w:J)(v:Y)(w':J):Prop:=
 (D.gv 3=true/\v=.int .i64 3/\dz w' (D.cJ 3)/\af (λq=>q=D.d) w w')\/
 (D.gv 3=false/\v=.int .i64 0/\dz w' (D.cJ 3).jx/\af (cA D) w w')
theorem z_{w:J}{D:bm}(h:dz w D)(bo:D.aV<=1000000000):aK ai 76 #[.pointer (some D.d)] w (J5 D w):=by
 refine okF (ae.vr (some D.d)) ay.vr func76 ?_;(delta ae.vr an b8 fA r1 lC aM yA;dsimp only);refine⟨λh1=>(by cases h1),λ_=>⟨_,rfl,(zt h (k:=3) (by decide)).use ?_⟩⟩;rintro _ aj ⟨rfl,f,ad,bp⟩;obtain⟨br,p⟩:∃br,br=D.cJ 3:=⟨_,rfl⟩;have aH:br.d=D.d:=by rw[p];rfl
 have bq:br.lb=D.lb:=by rw[p];rfl
 have aI:br.mr=D.mr:=by rw[p];rfl
 have aJ:br.n=D.n:=by rw[p];rfl
 have aL:cA br=cA D:=by rw[p];rfl
 have bs:br.aV=D.aV:=by rw[p];rfl
 rw[←p]at f;refine⟨_,rfl,λC=>.inl ⟨C,rfl,by rw[←p];exact f,ad⟩,λC=>?_⟩;rw[←aH];have ag:=f.bz;obtain⟨L,ak,al,am,ao,ap,bv⟩:=k9.begin (P:=ai) f.m nX;obtain⟨r,aN⟩:∃r,r=aj.heap.size:=⟨_,rfl⟩;rw[←aN]at am ao;have aO:r≠br.mr:=by have:=f.m.lt;omega
 have ar:∀q,cA br q->q≠r:=λq E e=>by have:=f.lt E;omega
 have aP:∀x∈L,∃y∈br.waits,x.1=(y.i:Int):=λx hx=>by
  have:=al.mem_iff.1 (fy.2 ⟨x,hx,rfl⟩);obtain⟨y,t,e⟩:=fy.1 this;refine⟨y,t,?_⟩;have:=congrArg Prod.fst e;exact this.symm
 have aQ:∀y∈br.waits,∃x∈L,x.1=(y.i:Int):=λy t=>by
  have:y.e∈L.map mK:=al.mem_iff.2 (fy.2 ⟨y,t,rfl⟩);obtain⟨x,hx,e⟩:=fy.1 this;exact⟨x,hx,congrArg Prod.fst e⟩
 refine⟨_,rfl,some br.mr,f.c6,_,ak,am,λw'=>∃ (seen:O Nat) (ls:O du),k9 w' r br.mr encZ L seen/\dz w' {br with bT:=ls}/\ls.length=br.n/\(∀ (j:Nat) (F:j<ls.length),ls[j]=if ∃x∈L,x.2.2∈seen/\x.1=(j:Int) then br.now j else br.bT.getD j [])/\af (λq=>cA br q) aj w'/\ak.heap.size<=w'.heap.size,
  z7 L r,⟨[],br.bT,ao,f.ext ap,rfl,λj F=>?_,af.cN ap,bt _⟩,?_⟩
 .rw[if_neg (by rintro⟨x,_,h1,_⟩;cases h1),fu F]
 rintro au ⟨seen,ls,R,u,A,jk,H,bw⟩;have S:∀s∈ls,s.length=256:=u.sl;have bx:r<au.heap.size:=by omega
 have aR:br.lb≠r:=ar _ (.inr (.inl rfl));rcases R.next (P:=ai) aO 0 with ⟨aS,aT,T,av,bA⟩|⟨x,hx,K,T,aU,aw,bB,aW⟩
 .
  refine .inr ⟨aT,T,λh=>(by cases h),λ_=>?_⟩;have M:=u.ext av;obtain⟨aY,aZ,a0,U,bC⟩:=eV.clear (P:=ai) (o:=0) M.m nX;refine⟨_,rfl,some br.mr,M.c6,_,aY,aZ,.inr ⟨C,rfl,?_,?_⟩⟩
  .have a4:∀x∈L,x.2.2∈seen:=λx hx=>by
    have:=mx.1 aS x hx;simpa using this
   have a5:ls=(List.range D.n).map D.now:=by
    refine np (by simp[A,aJ]) λj h1 h2=>?_;rw[jk j h1,List.getElem_map,List.getElem_range];have V:D.now j=br.now j:=by rw[p];rfl
    rw[V];split
    .rfl
    .rename_i a6
     unfold bm.now
     cases hf:br.waits.find? λx=>x.i==j with
     |some y=>
      exfalso;have t:=j0 hf;have a7:y.i=j:=by simpa using kO hf
      obtain⟨x,hx,e⟩:=aQ y t;exact a6 ⟨x,hx,a4 x hx,by rw[e,a7]⟩
     |none=>rfl
   have W:br.d≠br.mr:=f.a1.2.1;have a8:br.lb≠br.mr:=f.a1.2.2;have e:(D.cJ 3).jx={br with bT:=ls,waits:=[]}:=by
    rw[a5,p];rfl
   rw[e];refine⟨M.v.ah U W,bu.ah M.l U a8,a0,λx hx=>(by cases hx),λx hx=>(by cases hx),S,λx hx=>(by cases hx),?_,?_,u.f4,u.fr,u.a1,λx hx=>(by cases hx),λx hx=>(by cases hx),u.r⟩
   .show 16<=ls.length;rw[A];exact f.bW
   .show ls.length<=1600;rw[A];exact ag
  .have a9:cA D D.d:=.inl rfl
   have hc:af (λq=>cA D q) w aj:=ad.mono λq _ e=>by rw[e];exact a9
   have H:af (λq=>cA D q) aj au:=by rw[←aL];exact H
   have a_:=c3 hc H λq _ h=>h;have ba:=c3 a_ av λq _ h=>h.elim;exact c3 ba U λq _ bb=>by rw[bb,aI];exact .inr (.inr (.inl rfl))
 .
  have X:x∈L:=(fU.1 hx).1;have bD:x.2.2∉seen:=by
   have:=(fU.1 hx).2;simpa using this
  obtain⟨y,t,Y⟩:=aP x X;have bc:=u.ah aw λq E=>ar q E;have hi:y.i<br.n:=(f.wn y t).2.1;have bd:y.i<ls.length:=by omega
  refine .inl ⟨_,_,K,T,λ_=>⟨(y.i:Int),x.2.1,K,?_,?_⟩,λh=>(by cases h)⟩
  .rw[aW]
   have e:encZ x.1=y.i:=by rw[Y]
   rw[e]
  have ax:=cE K;have Z:=bc.ext ax;have be:({br with bT:=ls}:bm).n=br.n:=A;refine aX ⟨λ_=>False,_,rfl,id,⟨some br.lb,ls.length,ls.length⟩,Z.fB,(CX (i:=y.i) Z (by rw[be];exact hi) (by show br.aV<=_;omega)).use ?_⟩;rintro _ N ⟨rfl,aa⟩;have g:=Z.ext aa;have V:({br with bT:=ls}:bm).now y.i=br.now y.i:=by
   unfold bm.now
   cases hf:br.waits.find? λx=>x.i==y.i with
   |some z=>rfl
   |none=>
    have:=jZ.1 hf y t;simp at this
  have ab:(br.now y.i).length=256:=f.tg hi;rw[V];have aq:Addr.add br.lb (Int.toNat (y.i:Int)*256)=⟨br.lb,y.i*256,none⟩:=by rw[di,az,cF]
  obtain⟨cc,cn,bf⟩:=J3 g.l S bd ab;refine⟨_,rfl,aa,_,rfl,⟨I,by show(y.i:Int)<(ls.length:Int);omega⟩,by rw[aq];exact cc,by simp[dm,ab],?_⟩;rw[aq];refine aX ?_;show _/\_;have aA:bu (setCells N ⟨br.lb,y.i*256,none⟩ 0 (aD (br.now y.i)).toArray.toList) br.lb (bg aD (ls.set y.i (br.now y.i))).toArray 182:=cn;have B:af (λq=>q=br.lb) N (setCells N ⟨br.lb,y.i*256,none⟩ 0 (aD (br.now y.i)).toArray.toList):=bf;generalize setCells N ⟨br.lb,y.i*256,none⟩ 0 (aD (br.now y.i)).toArray.toList=aB at aA B;have ac:=Ext.trans ax aa;have aC:=(aU.ah ac id id).ah B (λe=>aR e.symm) λe=>f.a1.2.2 e.symm;have bh:af (λq=>cA br q) aj aB:=by
   have h1:af (λq=>cA br q) aj K:=c3 H aw λq E e=>by omega
   have h2:=c3 h1 ac λq _ h=>h.elim;exact c3 h2 B λq _ e=>by rw[e];exact .inr (.inl rfl)
  have bE:=ac.size;have bF:=B.size;have bi:dz aB {br with bT:=ls.set y.i (br.now y.i)}:=by
   have W:br.d≠br.lb:=f.a1.1;refine⟨?_,aA,g.m.ah B λe=>f.a1.2.2 e.symm,λx hx=>(g.ws x hx).ah B λq E e=>(g.a2 x hx).2.1 (by rw[←e];exact E),?_,λs hs=>?_,g.nY,?_,?_,g.f4,g.fr,g.a1,g.a2,g.a3,g.r⟩
   .have h1:=g.v.ah B W
    have e:({br with bT:=ls.set y.i (br.now y.i)}:bm).c=({br with bT:=ls}:bm).c:=by unfold bm.c;simp
    rw[e];exact h1
   .intro z bj
    have:=g.wn z bj;refine⟨this.1,?_,this.2.2⟩;show z.i<(ls.set y.i (br.now y.i)).length;rw[dJ];exact this.2.1
   .rcases nr hs with h1|rfl
    .exact S s h1
    .exact ab
   .show 16<=(ls.set y.i (br.now y.i)).length;rw[dJ,A];exact f.bW
   .show(ls.set y.i (br.now y.i)).length<=1600;rw[dJ,A];exact ag
  refine⟨⟨seen++ [x.2.2],_,aC,bi,by rw[dJ];exact A,λj F=>?_,bh,I⟩,?_⟩
  .rw[dJ]at F
   rw[oq];split
   .rename_i e
    subst e;rw[if_pos ⟨x,X,by simp,Y⟩]
   .rename_i bk
    rw[jk j F];have:(∃G∈L,G.2.2∈seen/\G.1=(j:Int))↔∃G∈L,G.2.2∈seen++ [x.2.2]/\G.1=(j:Int):=by
     constructor
     .rintro⟨z,h1,h2,Q⟩
      exact⟨z,h1,km _ h2,Q⟩
     .rintro⟨z,h1,h2,Q⟩
      rcases c1.1 h2 with h2|h2
      .exact⟨z,h1,h2,Q⟩
      .have bl:z=x:=by
        have aE:=R.ck;obtain⟨a,aF,rfl⟩:=fF h1;obtain⟨b,C,rfl⟩:=fF X;have aG:=fz.1 h2;have bn:a=b:=by
         rcases Nat.lt_trichotomy a b with h|h|h
         .have:=ln.1 aE a b (by simpa using aF) (by simpa using C) h
          simp at this;exact absurd aG this
         .exact h
         .have:=ln.1 aE b a (by simpa using C) (by simpa using aF) h
          simp at this;exact absurd aG.symm this
        subst bn;rfl
       rw[bl,Y]at Q;exact absurd I bk
    simp only[this]
  .rw[aC.left,R.left]
   exact J4 hx
structure fj where
 ao:Nat
 batch:Nat
 jo:Nat
def fj.c(l:fj):O Y:=[l.ao,l.batch,.int .u64 (l.jo:Nat)]
def pQ(f b d:Int):Prop:=8<=f/\f<=64/\1<=b/\b<=1000/\1<=d/\d<=1048576
instance Lq(f b d:Int):Decidable (pQ f b d):=by unfold pQ;infer_instance
section
variable {w w':J}{D:bm}
theorem qv(w:J)(p:av ag)(f b d:Int):aK ai 70 #[.pointer p,.agg #[f,b,.int .u64 d]] w (λv w'=>v=.bool (!(Option.isNone p)&&decide (pQ f b d))/\Ext w w'):=by
 refine okF (ae.qv p f b d) ay.qv func70 ?_;(delta ae.qv an aF aa b5;dsimp only);refine bc (vs:=[f,b,.int .u64 d]) rfl λw1 c hx hs=>?_;refine cq (λx w'=>x=(!(Option.isNone p)&&decide (8<=f))/\w1=w') (λq a=>⟨λh=>⟨f,c.cell,a _ _ ⟨by rw[h,g9],rfl⟩⟩,λh=>a _ _ ⟨by rw[h,kn],rfl⟩⟩) ?_;rintro e _ ⟨h1,rfl⟩;refine cq (λx w'=>x=(e&&decide (f<=64))/\w1=w') (λq a=>⟨λh=>⟨f,c.cell,a _ _ ⟨by rw[h,g9],rfl⟩⟩,λh=>a _ _ ⟨by rw[h,kn],rfl⟩⟩) ?_;rintro g _ ⟨h2,rfl⟩;refine cq (λx w'=>x=(g&&decide (1<=b))/\w1=w') (λq a=>⟨λh=>⟨b,by rw[az];exact c.cell,a _ _ ⟨by rw[h,g9],rfl⟩⟩,λh=>a _ _ ⟨by rw[h,kn],rfl⟩⟩) ?_;rintro i _ ⟨j,rfl⟩;refine cq (λx w'=>x=(i&&decide (b<=1000))/\w1=w') (λq a=>⟨λh=>⟨b,by rw[az];exact c.cell,a _ _ ⟨by rw[h,g9],rfl⟩⟩,λh=>a _ _ ⟨by rw[h,kn],rfl⟩⟩) ?_;rintro k _ ⟨l,rfl⟩;refine cq (λx w'=>x=(k&&decide (1<=d))/\w1=w') (λq a=>⟨λh=>⟨d,by rw[az];exact c.cell,a _ _ ⟨by rw[h,g9],rfl⟩⟩,λh=>a _ _ ⟨by rw[h,kn],rfl⟩⟩) ?_;rintro m _ ⟨n,rfl⟩;refine cq (λx w'=>x=(m&&decide (d<=1048576))/\w1=w') (λq a=>⟨λh=>⟨d,by rw[az];exact c.cell,a _ _ ⟨by rw[h,g9],rfl⟩⟩,λh=>a _ _ ⟨by rw[h,kn],rfl⟩⟩) ?_;rintro r _ ⟨o,rfl⟩;refine⟨?_,hx⟩;rw[o,n,l,j,h2,h1,Value.bool.injEq,eQ];simp only[dh,b_,and_assoc];exact Iff.rfl
theorem xp{D:bm}{no:Nat}{s:ad}{l:du}{N:Nat}(a:∀q,aE s q->cA D q\/N<=q):∀q,cA (D.put no s l) q->cA D q\/N<=q:=by
 rintro q (e|e|e|⟨x,hx,e⟩)
 .exact .inl (.inl e)
 .exact .inl (.inr (.inl e))
 .exact .inl (.inr (.inr (.inl e)))
 .rcases de.1 hx with rfl|hx
  .exact a q e
  .exact .inl (.inr (.inr (.inr ⟨x,(fU.1 hx).1,e⟩)))
def J6(D:bm)(u:e1)(gen:Nat)(w:J)(v:Y)(w':J):Prop:=
 af (cA D) w w'/\((D.gv 2=true/\v=.int .i64 3/\dz w' (D.cJ 2))\/
 (D.gv 2=false/\∃s:ad,(∀q,aE s q->cA D q\/w.heap.size<=q)/\∃br:bm,br=D.put (gen%2) s (eN (gen%2) (ju u D.n gen))/\
   ((br.gv 3=true/\v=.int .i64 3/\dz w' (br.cJ 3))\/(br.gv 3=false/\v=.int .i64 0/\dz w' (br.cJ 3).jx))))
theorem nH(h:dz w D)(P:D.aV<=999999999){u:e1}(hu:nZ u){gen:Nat}(hg:gen<18446744073709551616):
 aK ai 77 #[.pointer (some D.d),.agg u.c.toArray,.int .u64 (gen:Nat)] w (J6 D u gen w):=by
 have Q:=h.bW;have R:=h.bz;refine ae.F4 _ (u.root:Nat) (u.aN:Nat) (u.map:Nat) (u.clock:Nat) (u.dA:Nat) (u.keys:Nat) (gen:Nat) w _ ?_;(delta ae.nH aa aF b5 bS bK ed ar an;dsimp only);have A:IntKind.wrap .i64 (Int.tmod (gen:Int) 2)=((gen%2:Nat):Int):=by
  rw[og I,bB I I];omega
 refine bc (vs:=u.c) rfl λw1 B j S=>⟨by decide,?_⟩;have a:=cE w1;have C:=B.ext a;have E:=h.ext (j.trans a);refine aX ⟨λ_=>False,id,rn C ((w7 E).use ?_)⟩;rintro _ _ ⟨rfl,rfl⟩;refine⟨_,rfl,af.refl _ _,(qz hu (n:=D.n) I).use ?_⟩;rintro _ F ⟨k,rfl,G,t,T⟩;rw[A];refine⟨k,rfl,λ_=>False,#[(3:Int),.int .u64 (gen:Nat),k],λU=>by kernel_rfl,(wV (s:=k) (p:=ju u D.n gen) G.src I (zx hg)).use ?_⟩;rintro _ V ⟨H,rfl,J,v,K⟩;have b:=(j.trans a).trans (Ext.trans t v);have L:=h.ext b;have W:=b.size;have M:(eN (gen%2) (ju u D.n gen)).length=256:=s8 _ (zx hg);have X:w.heap.size<=F.heap.size:=by have:=(j.trans a).size;have:=t.size;omega
 refine⟨H,0,rfl,v,λh=>(by cases h),λ_=>(w8 L (i:=gen%2) I I J.src M λq f hf=>by have:=K q f;have:=h.lt hf;omega).use ?_⟩;rintro _ N (⟨g,rfl,hd,hc⟩|⟨g,rfl,s,hd,hc,x⟩)
 .exact⟨3,rfl,λ_=>⟨c3 (b.mono λ_ _ h=>h.elim) hc λq _ e=>by rw[e];exact .inl rfl,.inl ⟨g,rfl,hd⟩⟩,λh=>(by cases h)⟩
 .have y:af (cA D) w N:=c3 (b.mono λ_ _ h=>h.elim) hc λq _ e=>e
  have O:=xp (no:=gen%2) (l:=eN (gen%2) (ju u D.n gen)) x;refine⟨0,rfl,λh=>(by cases h),λ_=>(z_ hd (by show D.aV+1<=_;omega)).use ?_⟩;have z:∀q,aE s q->cA D q\/w.heap.size<=q:=λq f=>(x q f).imp id λh=>by omega
  rintro _ Y (⟨m,rfl,o,r⟩|⟨m,rfl,o,r⟩)
  .exact⟨3,rfl,c3 y r λq _ e=>by rw[e];exact .inl rfl,.inr ⟨g,s,z,_,rfl,.inl ⟨m,rfl,o⟩⟩⟩
  .exact⟨0,rfl,c3 y r λq f e=>(O q e).resolve_right I,.inr ⟨g,s,z,_,rfl,.inr ⟨m,rfl,o⟩⟩⟩
end
end Go.Proofs.YtkdhdlfonmgheaaGreat
