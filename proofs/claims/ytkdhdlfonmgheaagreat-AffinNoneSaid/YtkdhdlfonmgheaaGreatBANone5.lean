/- Contracts of the functions that the statement reaches, and the plain laws over them; each theorem stands with its conditions. -/
import Derived.Test.YtkdhdlfonmgheaaGreatBANone4
namespace Go.Proofs.YtkdhdlfonmgheaaGreat
open Go aQ Go.Proofs.Tryz
theorem c1.w4{P:Nat->aq aB}{lo hi:aq Key}{h:Nat}{n:aB}{p:O Nat}{L:O aS}(a:c1 P h n lo hi p L)(e:n.leaf=true->bq n<=310)(f:n.leaf=false->bq n<=335)(j:n.leaf=false->n.keys≠ []):kB n:=by
 refine⟨?_,by cases g:n.leaf;exact eo (f g) (by decide);exact eo (e g) (by decide),λhs=>?_⟩
 .cases h with
  |zero=>exact a.elim
  |succ h=>
   cases h with
   |zero=>exact .inl a.1
   |succ h=>
    obtain⟨av,b,c,d,i⟩:=a;have hs:=i.sorted λ_ _ _ _ _ k=>k.in;exact .inr ⟨⟨c,hs.2.2.1⟩,av,j av,i.len,b,d⟩
 .obtain⟨av,b,c,d,_⟩:=a.two (Q:=P) (x:=0) (y:=0) hs e f
  exact⟨av,b,c,d⟩
section
variable {P:Nat->aq aB}{lo hi:aq Key}
theorem FI{h:Nat}{d f:aB}{p A:aq Key}{i:Nat}{br D:O Nat}{bn gJ:O aS}{k:Key}(E:∀k∈d.keys,cU k)(hlen:d.kids.length=d.keys.length+1)(F:∀x n,P x=some n->bq n<=232)
 (Q:1<=i) (R:i<d.kids.length) (B:e4 p A k)
 (G:eW (eO P (h+1)) lo p (d.keys.take i) (d.kids.take i) br bn) (q:c1 P (h+1) f p A D gJ) (h1:bq f<80):
 ∃ (o:aB) (S:i-1<d.kids.length) (T:i-1<d.keys.length),P d.kids[i-1]=some o/\o.leaf=f.leaf/\cU d.keys[i-1]/\kB (dx o d.keys[i-1] f):=by
 obtain⟨s,H,aM,r,bp,N,hs,rfl,t,rfl,rfl,⟨u,m,g,v⟩,U,V⟩:=G.last (by rw[cN];omega);have W:(d.keys.take i).length=i:=by rw[cN];omega
 have X:(d.kids.take i).length=i:=by rw[cN];omega
 have t:s=d.keys[i-1]'I:=by
  rw[t,pA];congr 1;omega
 have J:(d.kids.take i)[(d.kids.take i).length-1]'I=d.kids[i-1]'I:=by
  rw[pA];congr 1;omega
 rw[J]at u g;obtain⟨o,K,j,rfl,_,w⟩:=u.jC;rw[j]at g;have v:2<=o.keys.length:=by rw[Option.some.inj g];exact v
 clear g;subst t;have y:=(show eO P (h+1) H (some (d.keys[i-1]'I)) (d.kids[i-1]'I) (d.kids[i-1]'I::K) N from⟨u,o,j,v⟩).in;obtain⟨x,hx⟩:=py _ y.1;have z:=E _ (cK (l:=d.keys) (n:=i-1) I);have L:=c1.merge w q z (λc hc=>hY (jA ((y.2.2 x hx).1 c hc) ((y.2.2 x hx).2 _ rfl))) (λc hc=>hY (jA (B.1 _ rfl) (B.2 c hc)));have C:=tG w q z (by have:=F _ _ j;omega);have M:=tF (a:=o) (b:=f) (s:=d.keys[i-1]'I);refine⟨o,I,I,j,by rw[w.leaf,q.leaf],z,L.w4 C.1 C.2 λ_ e=>?_⟩;rw[e,lr]at M;omega
theorem FJ{h:Nat}{d f:aB}{B q:aq Key}{i:Nat}{bl E:O Nat}{gJ bI:O aS}{k:Key}(F:∀k∈d.keys,cU k)(hlen:d.kids.length=d.keys.length+1)(G:∀x n,P x=some n->bq n<=232)
 (g:i+1<d.kids.length) (C:e4 B q k)
 (H:fN (eO P (h+1)) hi q (d.keys.drop i) (d.kids.drop (i+1)) bl bI) (t:c1 P (h+1) f B q E gJ) (h1:bq f<80):
 ∃ (o:aB) (R:i+1<d.kids.length) (S:i<d.keys.length),P d.kids[i+1]=some o/\o.leaf=f.leaf/\cU d.keys[i]/\kB (dx f d.keys[i] o):=by
 obtain⟨s,J,r,T,N,U,hs,rfl,u,rfl,rfl,⟨v,m,j,w⟩,V⟩:=H.head (by rw[df];omega);have u:s=d.keys[i]'I:=by rw[u,rk];rfl
 have K:(d.kids.drop (i+1))[0]'(by rw[df];omega)=d.kids[i+1]'g:=by rw[rk]
 rw[K]at v j;obtain⟨o,L,p,rfl,_,y⟩:=v.jC;rw[p]at j;have w:2<=o.keys.length:=by rw[Option.some.inj j];exact w
 clear j;subst u;have z:=(show eO P (h+1) (some (d.keys[i]'I)) J (d.kids[i+1]'g) (d.kids[i+1]'g::L) N from⟨v,o,p,w⟩).in;obtain⟨x,hx⟩:=py _ z.1;have A:=F _ (cK (l:=d.keys) (n:=i) I);have M:=c1.merge t y A (λc hc=>hY (jA (C.1 c hc) (C.2 _ rfl))) (λc hc=>hY (jA ((z.2.2 x hx).1 _ rfl) ((z.2.2 x hx).2 c hc)));have D:=tG t y A (by have:=G _ _ p;omega);have Q:=tF (a:=f) (b:=o) (s:=d.keys[i]'I);refine⟨o,g,I,p,by rw[y.leaf,t.leaf],A,M.w4 D.1 D.2 λ_ e=>?_⟩;rw[e,lr]at Q;omega
inductive Ctx (P:Nat->aq aB) (k:Key) (top:Nat):Nat->aq Key->aq Key->O (Nat×aB×Nat)->O Nat->O aS->O aS->Prop
 |top:Ctx P k top top none none [] [] [] []
 |step {eg:Nat}{lo hi a b:aq Key}{st:O (Nat×aB×Nat)}{dd:O Nat}{A B:O aS}{no:Nat}{n:aB}{br bl:O Nat}{bn bI:O aS} (h:Ctx P k top (eg+2) lo hi st dd A B) (c:P no=some n) (d:n.leaf=false) (e:∀k∈n.keys,cU k) (f:∀x∈n.kids,x<1600)
  (hlen:n.kids.length=n.keys.length+1) (g:n.keys≠ []) (i:st≠ []->2<=n.keys.length) (j:e4 a b k) (l:eW (eO P (eg+1)) lo a (n.keys.take (ez n.keys k)) (n.kids.take (ez n.keys k)) br bn)
  (m:fN (eO P (eg+1)) hi b (n.keys.drop (ez n.keys k)) (n.kids.drop (ez n.keys k+1)) bl bI):Ctx P k top (eg+1) a b (st++ [(no,n,ez n.keys k)]) (no::(br++(bl++dd))) (A++bn) (bI++B)
theorem Ctx.eg{k:Key}{top eg:Nat}{st:O (Nat×aB×Nat)}{dd:O Nat}{A B:O aS}(h:Ctx P k top eg lo hi st dd A B):eg+st.length=top:=by
 induction h with
 |top=>rfl
 |step h _ _ _ _ _ _ _ _ _ _ a=>rw[cO,h9];omega
theorem Ctx.agree{Q:Nat->aq aB}{k:Key}{top eg:Nat}{st:O (Nat×aB×Nat)}{dd:O Nat}{A B:O aS}(h:Ctx P k top eg lo hi st dd A B)(a:∀x∈dd,P x=Q x):Ctx Q k top eg lo hi st dd A B:=by
 induction h with
 |top=>exact .top
 | @step eg lo hi p q st dd A B no n br bl bn bI h c d e f hlen g i j l m o=>
  refine .step (o λx hx=>a x (by simp[hx])) (by rw[←a no (by simp)];exact c) d e f hlen g i j (l.kx λ_ _ _ _ _ hs b=>b.agree λx hx=>a x ?_) (m.kx λ_ _ _ _ _ hs b=>b.agree λx hx=>a x ?_)
  .have:=hs x hx;simp[this]
  .have:=hs x hx;simp[this]
theorem Ctx.down{k:Key}{top:Nat}:∀ {eg:Nat}{lo hi:aq Key}{st:O (Nat×aB×Nat)}{dd:O Nat}{A B M bp:O aS}{no:Nat}{p:O Nat},Ctx P k top (eg+1) lo hi st dd A B->fc P (eg+1) lo hi no p M->(st≠ []->∃m,P no=some m/\2<=m.keys.length)->e4 lo hi k->bp=A++(M++B)->(∀u,Loc k u->u bp=A++(u M++B))->
 ∃ (rest a:O (Nat×aB×Nat)) (b:Nat) (bM:aB) (c d:aq Key) (h:O Nat) (e f:O aS),l9 P k (eg+1) no rest/\st++rest=a++ [(b,bM,0)]/\Ctx P k top 1 c d a h e f/\P b=some bM/\hA bM/\bM.within c d/\bM.keys≠ []/\(a≠ []->2<=bM.keys.length)/\e4 c d k/\
  (p++dd).Perm (b::h)/\bp=e++(bM.fw++f)/\∀u,Loc k u->u bp=e++(u bM.fw++f)
 |0,lo,hi,st,dd,A,B,M,bp,no,p,hc,j,l,o,r,hu=>by
  obtain⟨n,h1,i,y,z,rfl,rfl⟩:=j
  refine⟨[(no,n,0)],st,no,n,lo,hi,dd,A,B,⟨n,[],h1,by rw[i.leaf];rfl,rfl,rfl⟩,rfl,hc,h1,i,y,z,λhs=>?_,o,List.Perm.refl _,r,hu⟩
  obtain⟨m,g,s⟩:=l hs
  rw[h1]at g;cases g
  exact s
 |eg+1,lo,hi,st,dd,A,B,M,bp,no,p,hc,j,l,o,r,hu=>by
  obtain⟨n,X,h1,rfl,i,t⟩:=j.jC
  obtain⟨Y,Z,br,q,bl,bn,gJ,bI,C,rfl,rfl,v,w,D,hlen,E,F⟩:=t.at o
  obtain⟨av,aa,G,H,_⟩:=t
  have J:=Ctx.step hc h1 av G H hlen i (λhs=>by
   obtain⟨m,g,s⟩:=l hs
   rw[h1]at g;cases g
   exact s) w E F
  obtain⟨rest,a,b,bM,c,d,h,e,f,r1,aE,b4,aX,ee,K,L,N,Q,R,S,T⟩:=Ctx.down (bp:=bp) J v.1 (λ_=>v.2) w (by rw[r];simp only[c0]) (λu x=>by rw[hu u x,D u x];simp only[c0])
  refine⟨(no,n,ez n.keys k)::rest,a,b,bM,c,d,h,e,f,⟨n,rest,h1,by rw[av];simp,by rw[if_neg I],?_⟩,?_,b4,aX,ee,K,L,N,Q,?_,S,T⟩
  .rw[fK,dI C]
   exact r1
  .rw[←aE];simp
  .refine List.Perm.trans ?_ R
   have U:(no::(br++(q++bl))++dd)=no::(br++(q++(bl++dd))):=by simp[c0]
   rw[U]
   have V:(q++no::(br++(bl++dd))).Perm (no::(q++(br++(bl++dd)))):=lk
   refine List.Perm.trans ?_ V.symm
   refine List.Perm.cons _ ?_
   have W:=(pz (l₁:=br) (l₂:=q)).append_right (bl++dd)
   simpa[c0] using W
end
theorem w5{α:Type}(a b c:O α):(a++(b++c)).Perm (a++c++b):=by
 rw[c0];exact(pz (l₁:=b) (l₂:=c)).append_left a
theorem Ctx.up{P:Nat->aq aB}{lo hi:aq Key}{k:Key}{top eg:Nat}{st U:O (Nat×aB×Nat)}{dd:O Nat}{A B:O aS}{u:di}{a:aB}{q:O Nat}{M:O aS}(hc:Ctx P k top eg lo hi st dd A B)(ad:st=U++ [u.st])(c:c1 P eg a lo hi q M)(H:∀x n,P x=some n->bq n<=232)(hs:bq a<=282):
 ∃ (d f:aq Key) (J:O Nat) (g j:O aS) (K:O Nat),Ctx P k top (eg+1) d f U J g j/\dd=u.no::(K++J)/\P u.no=some u.n/\u.cB<u.n.kids.length/\u.n.kids.length=u.n.keys.length+1/\u.n.keys≠ []/\(U≠ []->2<=u.n.keys.length)/\
  (80<=bq a->∀ (Q:Nat->aq aB) (ks:O Key) (kids:O Nat),k3 Q a ks kids->(∀x∈K++q,P x=Q x)->(∀x∈kids,x<1600)->∃ (l:O Nat) (m:O aS),c1 Q (eg+1) (fo u.n u.cB (u.cB+1) ks kids) d f l m/\g++(m++j)=A++(M++B)/\l.Perm (kids++(K++q))/\
    bq (fo u.n u.cB (u.cB+1) ks kids)<=bq u.n+27/\u.n.keys.length<=(fo u.n u.cB (u.cB+1) ks kids).keys.length+1)/\
  (bq a<80->∃ (o:aB) (no:Nat) (rest:O Nat),u.n.kids[iJ u]? =some no/\P no=some o/\o.leaf=a.leaf/\u.cB-1<u.n.keys.length/\cU (u.n.keys.getD (u.cB-1) [])/\kB (kD u a o)/\K.Perm (no::rest)/\
    ∀ (Q:Nat->aq aB) (ks:O Key) (kids:O Nat),k3 Q (kD u a o) ks kids->(∀x∈rest++q,P x=Q x)->(∀x∈kids,x<1600)->∃ (l:O Nat) (m:O aS),c1 Q (eg+1) (fo u.n (u.cB-1) (u.cB-1+2) ks kids) d f l m/\g++(m++j)=A++(M++B)/\l.Perm (kids++(rest++q))/\
     bq (fo u.n (u.cB-1) (u.cB-1+2) ks kids)<=bq u.n+27/\u.n.keys.length<=(fo u.n (u.cB-1) (u.cB-1+2) ks kids).keys.length+1):=by
 cases hc with
 |top=>
  have:=congrArg List.length ad;simp at this
 | @step eg d f _ _ ay J g j ae L br bl bn bI h ak V p W hlen af al N r s=>
  obtain⟨rfl,am⟩:=List.append_inj' ad rfl;have X:(ae,L,ez L.keys k)=u.st:=by simpa using am
  have an:ae=u.no:=congrArg Prod.fst X;have ao:L=u.n:=congrArg (λx=>x.2.1) X;have ag:ez L.keys k=u.cB:=congrArg (λx=>x.2.2) X;subst an ao;rw[ag]at r s;have ap:=vN u.n.keys k;rw[ag]at ap;refine⟨d,f,J,g,j,br++bl,h,by rw[c0],ak,I,hlen,af,al,λb Q ks kids hf t v=>?_,λb=>?_⟩
  .obtain⟨w,av,y,z,R⟩:=DK V p W r s c b hs hf (λx hx=>t x (by
    simp only[cM]at hx⊢;rcases hx with hx|hx|hx
    .exact .inl (.inl hx)
    .exact .inr hx
    .exact .inl (.inr hx))) v
   refine⟨w,_,av,by simp only[c0],y.trans (List.Perm.append_left kids ?_),z,I⟩;exact w5 br q bl
  .by_cases h0:u.cB=0
   .obtain⟨o,S,T,C,Y,Z,aa⟩:=FJ p hlen H (i:=u.cB) (by
     have:u.n.keys.length≠0:=λe=>af (List.eq_nil_of_length_eq_zero e);omega) N s c b
    obtain⟨ar,ah,au,aw,D,ab,_,ac⟩:=DM V p W hlen H S N r s c b;rw[C]at D;obtain rfl:=Option.some.inj D;have E:iJ u=u.cB+1:=by unfold iJ;rw[if_pos h0,h0]
    have ai:u.cB-1=u.cB:=by omega
    have F:u.n.keys.getD (u.cB-1) []=u.n.keys[u.cB]:=by rw[ai,fK,dI T];rfl
    have G:kD u a o=dx a u.n.keys[u.cB] o:=by unfold kD;rw[if_pos (by rw[E];omega),F]
    refine⟨o,u.n.kids[u.cB+1],br++ah,by rw[E];exact dI S,C,Y,I,by rw[F];exact Z,by rw[G];exact aa,?_,λQ ks kids hf t v=>?_⟩
    .exact(List.Perm.append_left br ab).trans lk
    .rw[G]at hf
     obtain⟨w,av,y,z,R⟩:=ac Q ks kids hf (λx hx=>t x (by
      simp only[cM]at hx⊢;rcases hx with hx|hx|hx
      .exact .inl (.inl hx)
      .exact .inr hx
      .exact .inl (.inr hx))) v
     rw[ai];exact⟨w,_,av,by simp only[c0],y.trans (List.Perm.append_left kids (w5 br q ah)),z,R⟩
   .obtain⟨o,S,T,C,Y,Z,aa⟩:=FI p hlen H (i:=u.cB) I I N r c b
    obtain⟨ar,aj,au,aw,D,ab,_,ac⟩:=DL V p W hlen H I I N r s c b;rw[C]at D;obtain rfl:=Option.some.inj D;have E:iJ u=u.cB-1:=by unfold iJ;rw[if_neg h0]
    have F:u.n.keys.getD (u.cB-1) []=u.n.keys[u.cB-1]:=by rw[fK,dI T];rfl
    have G:kD u a o=dx o u.n.keys[u.cB-1] a:=by unfold kD;rw[if_neg (by rw[E];omega),F]
    have ax:u.cB-1+2=u.cB+1:=by omega
    refine⟨o,u.n.kids[u.cB-1],aj++bl,by rw[E];exact dI S,C,Y,T,by rw[F];exact Z,by rw[G];exact aa,?_,λQ ks kids hf t v=>?_⟩
    .exact(ab.append_right bl)
    .rw[G]at hf
     obtain⟨w,av,y,z,R⟩:=ac Q ks kids hf (λx hx=>t x (by
      simp only[cM]at hx⊢;rcases hx with hx|hx|hx
      .exact .inl (.inl hx)
      .exact .inr hx
      .exact .inl (.inr hx))) v
     rw[ax];exact⟨w,_,av,by simp only[c0],y.trans (List.Perm.append_left kids (w5 aj q bl)),z,R⟩
theorem c5.FK{w:J}{T:aP}{c:dm}{E:Nat->Prop}(h:c5 w T c)(b:∀q,E q->T.E q):c5 w (T.cv E T.G) c:=
 h.of (ax:=T.cv E T.G) (W:=λ_=>False) (h.t.grow (W:=λ_=>False) (ae.refl _ _) (λ_ h=>h.elim) (λq a=>.inl (b q a)) (λq a=>.inr (.inl a)) λq a=>(h.t.dG q (b q a)).2.2) (ae.refl _ _) (λ_ _ h=>h) rfl λ_ h=>h
theorem c6.local{T ax:aP}{c c':dm}{m l:O Nat}{bW:Nat->Prop}{w w1 w':J}{k:Nat}(h:c6 (T.cv bW T.G) ax c c' m l w1 w' k)(hx:Ext w w1)(b:∀q,bW q->T.E q\/w.heap.size<=q)(d:∀q,T.E q->bW q):c6 T (ax.cv T.E ax.G) c c' m l w w' k:=
 ⟨h.to.local hx b (λq a=>.inl a) (λq a=>.inl (by rw[h.E];exact d q a)) λq a=>a,rfl,h.G,h.root,h.aI,h.cb,h.made,h.left,h.bP,h.iI,h.f,h.ej,h.room⟩
theorem c5.AS{w w':J}{T:aP}{c:dm}{W:Nat->Prop}(h:c5 w T c)(hc:ae W w w')(cF:∀q,W q->T.E q\/w.heap.size<=q):c5 w' T c:=by
 have b:ae (λq=>T.E q) w w':=cV (W:=λq=>T.E q) (ae.refl _ _) hc λq a d=>(cF q d).resolve_right I;exact h.of (h.t.grow (E:=T.E) (G:=T.G) b (λq a _=>.inl a) (λq a=>.inl a) (λq a=>.inr (.inl a)) λq a=>(h.t.dG q a).2.2) b (λq hg he=>(h.t.dG q he).2.2 hg) rfl λ_ h=>h
theorem jd.to{w w':J}{T ax:aP}{k:Nat}{s:ad}{l:O di}(h:jd (λq=>¬T.M q) w s l)(ht:cf T ax w w' k):jd (λq=>¬ax.M q) w' s l:=by
 refine⟨h.own.af ht.af λq a c=>h.nr q a (aP.hG c),λq a d=>?_,λx hx=>?_⟩
 .rcases ht.de q d with h1|h1
  .exact h.nr q a h1
  .have:=aW.lt h.own q a;omega
 .exact(ht.bP (lo:=0) ((h.bP x hx).aZ λq _ b=>⟨cZ _,b⟩)).aZ λq _ b=>b.2
theorem jd.at{B:Nat->Prop}{w:J}{s:ad}{l:O di}(h:jd B w s l){i:Nat}(hi:i<l.length):∃A:ah,s.a=some A/\s.len=l.length/\B A.block/\w.cell? (A.add (i*6))=some (.int .i64 ((l[i]).no:Nat))/\kC B w (A.add (i*6)) l[i]:=by
 have f:=h.own.1;rw[h3 _ (nq l)]at f;have g:s.len=l.length:=by omega
 rcases h.own.2.2.2 with ⟨h1,o⟩|⟨b,c,e,k,p,m⟩
 .have:=h.own.2.1
  omega
 .have d:∀j,j<6->w.cell? ⟨b,i*6+j,none⟩=((di.c l[i]))[j]? :=λj n=>by
   rw[bh.cell k,←wB (nq l) hi n,←m];rw[ra,if_pos I,Array.getElem?_toList]
  refine⟨b,e,g,h.nr b ⟨_,e,rfl⟩,?_,?_⟩
  .rw[ay,cS]
   exact d 0 (by decide)
  .rw[ay,cS]
   refine⟨?_,?_,?_,?_,?_,h.bP _ (cK hi),h.nr b ⟨_,e,rfl⟩,aW.lt h.own b ⟨_,e,rfl⟩⟩
   .rw[ay];exact d 1 (by decide)
   .rw[ay,ay];exact d 2 (by decide)
   .rw[ay,ay];exact d 3 (by decide)
   .rw[ay,ay];exact d 4 (by decide)
   .rw[ay];exact d 5 (by decide)
theorem Ctx.AT{P:Nat->aq aB}{lo hi:aq Key}{k:Key}{top eg:Nat}{dd:O Nat}{A B:O aS}(h:Ctx P k top eg lo hi [] dd A B):eg=top/\lo=none/\hi=none/\dd=[]/\A=[]/\B=[]:=by
 generalize a:([]:O (Nat×aB×Nat))=st at h
 cases h with
 |top=>exact⟨rfl,rfl,rfl,rfl,rfl,rfl⟩
 |step h=>
  have:=congrArg List.length a;simp at this
def k_(T:aP)(c:dm)(aM:O Nat)(dz:O aS)(w:J)(v:Y)(w':J):Prop:=
 ∃ (ax:aP) (c':dm) (m l:O Nat),c5 w' ax c'/\c6 T ax c c' m l w w' 60/\
  ((v=.tuple #[(0:Int),(0:Int),(0:Int)]/\dz=[]/\l.Perm (m++aM)/\m.length<=2*T.aI+3)\/
   (∃ (root h:Nat) (pages:O Nat),v=.tuple #[root,h,(0:Int)]/\fc ax.P h none none root pages dz/\(pages++l).Perm (m++aM)/\1<=h/\h<=T.aI+1/\m.length<=2*T.aI+3)\/
   (∃a b:Int,v=.tuple #[a,b,(3:Int)]/\¬T.C.D.calm 60))
theorem k_.local{T:aP}{c:dm}{aM:O Nat}{dz:O aS}{bW:Nat->Prop}{w w1 w':J}{v:Y}(h:k_ (T.cv bW T.G) c aM dz w1 v w')(hx:Ext w w1)(d:∀q,bW q->T.E q\/w.heap.size<=q)(a:∀q,T.E q->bW q):k_ T c aM dz w v w':=by
 obtain⟨ax,c',m,l,h1,b,e⟩:=h;exact⟨ax.cv T.E ax.G,c',m,l,h1.FK λq f=>by rw[b.E];exact a q f,b.local hx d a,e⟩
structure FL(bX:aP)(c:dm)(b:J)(a:O di)(k:Key)(aM:O Nat)(dz:O aS)(ws:ad)(gA:Nat)(i:Nat)(w':J)(ax:aP)(c':dm)(m l:O Nat)(n:aB)(K V D:ad)(lo hi:aq Key)(dd:O Nat)(A B:O aS)(q:O Nat)(M:O aS)(r:O Nat):Prop where
 r6:i<a.length
 w6:c5 w' ax c'
 to:c6 bX ax c c' m l b w' (4*(a.length-1-i))
 nt:m.length<=2*(a.length-1-i)
 AU:l.length<=2*(a.length-1-i)
 gA:Var w' gA (ec n K V D) 202
 bP:bu (λq=>¬ax.M q) w' n K V D
 gY:jd (λq=>¬ax.M q) w' ws a
 ctx:Ctx ax.P k a.length (a.length-i) lo hi ((a.take i).map di.st) dd A B
 jC:c1 ax.P (a.length-i) n lo hi q M
 eq:A++(M++B)=dz
 pp:aM.Perm ((a[i]).no::(r++dd))
 acc:(q++l).Perm (m++r)
 sz:bq n<=282
 FM:1<=i->n.keys≠ []
 AV:∀x∈q++dd,ax.f x=true
theorem b6.uo{w:J}{T:aP}(h:b6 w T):∀x n,T.P x=some n->bq n<=232:=λx n hx=>(h.eF x n hx).2.is.2.2
theorem gV.cs{T:aP}{c:dm}{n:aB}{w w':J}{s:ad}{e:Int}(h:gV T c n w (.tuple #[s,e]) w'):
 ∃ (ax:aP) (c':dm) (m:O Nat),c5 w' ax c'/\c6 T ax c c' m [] w w' 2/\m.length<=2/\((e=0/\∃ks,k3 ax.P n ks m/\kc (λq=>¬ax.M q) w' s ks m)\/(e=3/\¬T.C.D.calm 2)):=by
 obtain⟨ax,c',m,s2,h1,d,f,g⟩:=h;refine⟨ax,c',m,h1,d,f,?_⟩;rcases g with ⟨ks,a,b,i⟩|⟨a,b⟩
 .simp at a
  obtain⟨⟨a1,a2,a3⟩,rfl⟩:=a;obtain rfl:s=s2:=by cases s;cases s2;simp_all
  exact .inl ⟨rfl,ks,b,i⟩
 .simp at a
  exact .inr ⟨a.2,b⟩
theorem FN{P Q c:Nat->aq aB}{t:Nat}{n:aB}{q:O Nat}{M:O aS}{a:Key}{x y no:Nat}(d:c1 P (t+1) n none none q M)(hs:bq n<=282)(hf:k3 Q n [a] [x,y])(j:∀z∈q,P z=Q z)(k:c no=some ⟨false,[a],[],[x,y]⟩)(l:∀z∈x::y::q,Q z=c z)(hx:x<1600)(o:y<1600):
 cU a/\∃pages,fc c (t+2) none none no pages M/\pages.Perm (no::x::y::q):=by
 have p:232<bq n:=by
  rcases hf with ⟨_,z,e,_⟩|⟨h,_⟩
  .cases e
  .exact h
 obtain⟨f,av,g,i,_⟩:=d.fits (d.vR I) (λ_=>I) (λ_=>I) hf j;have m:c1 Q (t+2) ⟨false,[a],[],[x,y]⟩ none none f M:=⟨rfl,rfl,i,λz b=>by
  simp only[c8,fi,fu]at b;rcases b with rfl|rfl<;>assumption,av⟩
 refine⟨i a (by simp),no::f,m.lay (by simp) k λz b=>l z ?_,List.Perm.cons no g⟩;have:=g.mem_iff.1 b;simpa using this
theorem l_{a b:O Nat}:a.Perm b↔∀x,a.count x=b.count x:=List.perm_iff_count
theorem w7{q l m r:O Nat}{no:Nat}(h:(q++l).Perm (m++r)):(q++(l++ [no])).Perm (m++(no::r)):=by
 rw[l_]at h⊢;intro x;have:=h x;simp only[ml,nI,nJ]at this⊢;omega
theorem FO{q l m r a b ms ls rest:O Nat}(h:(q++l).Perm (m++r))(c:a.Perm (ms++(rest++q)))(d:b.Perm (ls++rest)):(a++(l++ls)).Perm ((m++ms)++(b++r)):=by
 rw[l_]at h c d⊢;intro x;have:=h x;have:=c x;have:=d x;simp only[ml,nI,nJ]at*;omega
theorem FP{aM r a b:O Nat}{u:Nat}(h:aM.Perm (r++(u::(a++b)))):aM.Perm (u::((a++r)++b)):=by
 rw[l_]at h⊢;intro x;have:=h x;simp only[ml,nI,nJ]at*;omega
theorem FQ{w:J}{T:aP}{c:dm}{d:O di}{k:Key}{aM dd:O Nat}{dz A B M:O aS}{lo hi:aq Key}{ws:ad}{n:aB}{K V D:ad}(h:c5 w T c)(bR:jd (λq=>¬T.M q) w ws d)(bw:bu (λq=>¬T.M q) w n K V D)(eC:0<d.length)(hlen:d.length=T.aI)(eD:T.aI<12)
 (eE:T.C.D.aR<=900000000) (eG:2*T.aI+3<=ck T) (eH:c.made.length<=100) (eI:c.left.length<=100) (cx:Ctx T.P k d.length 1 lo hi ((d.take (d.length-1)).map di.st) dd A B) (L:c1 T.P 1 n lo hi [] M) (an:A++(M++B)=dz)
 (N:aM.Perm ((d[d.length-1]'I).no::dd)) (bx:bq n<=282) (a6:2<=d.length->n.keys≠ []) (Q:∀x∈dd,T.f x=true):
 aH ai 208 #[.pointer (some c.cb),ws,c2 n K V D] w (k_ T c aM dz w):=by
 refine okF (ag.mW (some c.cb) ws n.leaf K V D) az.mW func208 ?_;(delta ag.mW aX aa r1 z4 au ao aL aE st n_ vr gg dS;dsimp only);refine a_ (vs:=ec n K V D) rfl λw1 cz cD eJ=>?_;obtain⟨bS,aT,a8,bd⟩:=bD cz;refine⟨_,bS,K,aT,V,a8,D,bd,a_ (vs:=[false,(),(),()]) rfl λeK bT cE eL=>⟨bT.bV rfl fQ,rfl,cm bT (us:=ec n K V D) rfl rfl λbz bA cF eM=>?_⟩⟩;have bU:Ext w bz:=cD.trans (Ext.cy cE cF (bm _));obtain⟨gA,cG⟩:∃gA,gA=w1.heap.size:=⟨_,rfl⟩;rw[←cG]at bA⊢;obtain⟨bW,bC⟩:∃bW,bW=λq=>T.E q\/q=gA:=⟨_,rfl⟩;have cH:∀q,T.E q->bW q:=λq F=>by rw[bC];exact .inl F
 have a7:∀q,bW q->T.E q\/q=gA:=λq F=>by rw[bC]at F;exact F
 have cI:bW gA:=by rw[bC];exact .inr rfl
 have eN:=bA.lt;have cJ:c5 bz (T.cv bW T.G) c:=h.of (W:=λ_=>False) (h.t.grow (W:=λ_=>False) bU (λ_ h=>h.elim) (λq F=>(a7 q F).imp id λe=>.inr ⟨I,I⟩) (λq F=>.inr (.inl F)) λq F hg=>by
  rcases a7 q F with h1|h1
  .exact(h.t.dG q h1).2.2 hg
  .have:=h.t.lt (q:=q) (.inr (.inr (.inr (.inr hg))));omega) bU (λ_ _ h=>h) rfl λ_ h=>h
 have bY:cf T (T.cv bW T.G) w bz 0:=(cf.refl T w).step (W:=λ_=>False) bU (λ_ h=>h.elim) (λq F=>(a7 q F).imp id λe=>.inr I) λq F=>.inl F;have conv:∀ (v:Y) (w':J),k_ (T.cv bW T.G) c aM dz w1 v w'->k_ T c aM dz w v w':=λv w' hu=>hu.local cD (λq F=>(a7 q F).imp id λe=>I) cH;obtain⟨bX,ap⟩:∃bX,bX=T.cv bW T.G:=⟨_,rfl⟩;have bZ:=bR.to bY;have b0:bu (λq=>¬(T.cv bW T.G).M q) bz n K V D:=(bY.bP (lo:=0) (bw.aZ λq _ R=>⟨cZ _,R⟩)).aZ λq _ R=>R.2;have cK:bX.P=T.P:=by rw[ap];rfl
 have b1:bX.f=T.f:=by rw[ap];rfl
 have dN:bX.E gA:=by rw[ap];exact cI
 have eO:ck bX=ck T:=by rw[ap];rfl
 have dO:bX.C=T.C:=by rw[ap];rfl
 have dP:bX.aI=T.aI:=by rw[ap];rfl
 rw[←ap]at cJ bZ b0 conv;clear ap bY bC cH a7 cI;have eP:gA=w1.heap.size:=cG;have eQ:ws.len=d.length:=by
  have:=bR.own.1;rw[h3 _ (nq d)]at this;omega
 refine⟨λn10 w'=>∃ (i:Nat) (ax:aP) (c':dm) (m l:O Nat) (n:aB) (K V D:ad) (lo hi:aq Key) (dd:O Nat) (A B:O aS) (q:O Nat) (M:O aS) (r:O Nat),n10=(i:Nat)/\FL bX c w1 d k aM dz ws gA i w' ax c' m l n K V D lo hi dd A B q M r,λn10 _=>(n10+1).toNat,
  ⟨d.length-1,bX,c,[],[],n,K,V,D,lo,hi,dd,A,B,[],M,[],?_,?_⟩,?_⟩
 .rw[bB I I];omega
 .have e:d.length-(d.length-1)=1:=by omega
  refine⟨I,cJ,(c6.ext bX c (Ext.cy cE cF (bm _))).mono I,cZ _,cZ _,bA,b0,bZ,by rw[e,cK];exact cx,by rw[e,cK];exact L,an,by simpa using N,List.Perm.refl _,bx,λh1=>a6 I,λx hx=>by rw[b1];exact Q x (by simpa using hx)⟩
 clear cx L an N bx a6 Q bw b0 bA bR bZ cz bS aT a8 bd bT;rintro _ b3 ⟨i,ax,c',m,l,n,K,V,D,lo,hi,dd,A,B,q,M,r,rfl,g⟩;have cQ:=g.r6;have bE:=g.to.cb;refine⟨λ_=>aY ?_,λR=>?_⟩
 rotate_left
 .have:¬(i:Int)>=0:=cT R
  omega
 have aN:Ext b3 b3.drew:=cL _;obtain⟨b4,dR⟩:∃b4,b4=b3.drew:=⟨_,rfl⟩;rw[←dR]at aN⊢;have a9:=g.w6.ext aN;have cR:=a9.cells.2.2;rw[bE]at cR;have cV:jd (λq=>¬ax.M q) b4 ws d:=g.gY.to (cf.ext ax aN);obtain⟨bb,b5,eR,dT,dU,_⟩:=cV.at cQ;have eS:c'.left.length<=200:=by rw[g.to.left,cO];have:=g.AU;omega
 have dV:c'.made.length<=200:=by rw[g.to.made,cO];have:=g.nt;omega
 obtain⟨aO,cW,av,aj,aQ,aD,aF⟩:=AH a9 (d[i]).no I;rw[bE]at aQ aD aF;have dW:∀n,(bb.add n).block=bb.block:=λn=>by unfold Addr.add;split<;>rfl
 have dX:∀q,aC c'.fP q->ax.M q:=λq F=>.inr (.inr (.inr (.inr (a9.jI q F).1)));refine⟨aC c'.fP,_,rfl,λF=>(a9.jI _ F).2 (by rw[bE,ay]),c'.fP,cR,bb,b5,⟨I,I⟩,λF=>dT (dX _ ((dW _)▸F)),_,by rw[dQ];exact dU,aY ⟨ae.cP (dE _ _),aO,cW,av,aj,_,rfl,by rw[ay];exact aQ,by rw[ay];exact aD,aY ?_⟩⟩;rw[ay,cS];obtain⟨U,cX⟩:∃U,U=cW.setCell ⟨c.cb,2,none⟩ aO:=⟨_,rfl⟩;rw[←cX];obtain⟨ac,bc⟩:=aF U cX;have b6:=c6.leave (c:=c') (c':=⟨c.cb,c'.ma,aO,c'.made,c'.left++ [(d[i]).no]⟩) (no:=(d[i]).no) bc rfl (λq F=>.inl F) bE.symm rfl rfl;have X:=(g.to.trans (c6.ext ax c' aN)).trans b6;simp only[gd,kf]at X;have cY:ax.E gA:=by rw[g.to.E];exact dN
 have b7:=(g.gA.ext aN).af bc.af (a9.t.j8 cY);have b8:=cV.to bc;have be:bu (λq=>¬(ax.cv ax.E λq=>ax.G q\/aC aO q).M q) U n K V D:=(bc.bP (lo:=0) ((g.bP.ext aN).aZ λq _ R=>⟨cZ _,R⟩)).aZ λq _ R=>R.2;obtain⟨b2,aU⟩:∃b2,b2=ax.cv ax.E λq=>ax.G q\/aC aO q:=⟨_,rfl⟩;have br:b2.P=ax.P:=by rw[aU];rfl
 have bl:b2.f=ax.f:=by rw[aU];rfl
 have eT:ck b2=ck ax:=by rw[aU];rfl
 have c3:b2.E gA:=by rw[aU];exact cY
 have c4:b2.aI=T.aI:=by rw[aU];show ax.aI=_;rw[g.to.aI,dP]
 rw[←aU]at ac bc b6 X b8 be;obtain⟨a8,bF⟩:∃a8:dm,a8=⟨c.cb,c'.ma,aO,c'.made,c'.left++ [(d[i]).no]⟩:=⟨_,rfl⟩;rw[←bF]at ac b6 X;have g1:a8.cb=c.cb:=by rw[bF]
 have ak:a8.made.length<=200:=by rw[bF];exact dV
 have eU:a8.left.length<=201:=by rw[bF,cO,h9];omega
 obtain⟨dY,bM,bf,dZ⟩:=bD b7;have c7:=ba.len be.keys;have c9:∀ (w':J) (v:Y),Ext U w'->(∀ {dp bd bg},dp=b2->bd=a8->bg=l++ [(d[i]).no]->((v=.tuple #[(0:Int),(0:Int),(0:Int)]/\dz=[]/\bg.Perm (m++aM)/\m.length<=2*bX.aI+3)\/
  (∃ (root h:Nat) (pages:O Nat),v=.tuple #[root,h,(0:Int)]/\fc (aP.P dp) h none none root pages dz/\(pages++bg).Perm (m++aM)/\1<=h/\h<=bX.aI+1/\m.length<=2*bX.aI+3)\/
  (∃a b:Int,v=.tuple #[a,b,(3:Int)]/\¬bX.C.D.calm 60)))->k_ T c aM dz w v w':=by
  intro w' v hx hd;refine conv v w' ⟨b2,a8,m,l++ [(d[i]).no],?_,?_,hd (bd:=a8) rfl rfl rfl⟩
  .exact ac.ext hx
  .have:=(X.trans (c6.ext b2 _ hx)).mono (j:=60) I
   simp only[gd]at this;exact this
 refine cC (λb w'=>(b=true↔(i=0/\n.keys=[]))/\U=w') (λZ bh=>⟨λh0=>⟨K,bM,bh _ _ ⟨?_,rfl⟩⟩,λh0=>bh _ _ ⟨?_,rfl⟩⟩) ?_
 .have h0:i=0:=by
   have:(i:Int)=0:=by simpa using h0
   omega
  rw[jj];constructor
  .intro h1
   exact⟨h0,List.eq_nil_of_length_eq_zero I⟩
  .rintro⟨_,h1⟩
   rw[h1]at c7;simp at c7;omega
 .have h0:i≠0:=by
   have:¬(i:Int)=0:=by simpa using h0
   omega
  exact⟨λh=>(by cases h),λh=>absurd h.1 h0⟩
 rintro eV _ ⟨c_,rfl⟩;refine⟨λR=>?_,λR=>?_⟩
 .obtain⟨h0,da⟩:=c_.1 R
  subst h0;have bi:Ext U U.drew:=cL _;obtain⟨d0,d6,d7,d8⟩:=bD (b7.ext bi);have db:=(ac.ext bi).cells.1;rw[g1]at db;have d9:=(ac.ext bi).t.cells.2.2.2.2;obtain⟨t1,t2,t3,t4,t5,t6⟩:=Ctx.AT (by simpa using g.ctx);have L:=g.jC;have N:=g.pp;have an:=g.eq;have al:=w7 (no:=(d[0]).no) g.acc;subst t2 t3 t4 t5 t6;rw[ki,gd]at an;rw[gd]at N;subst an;have dc:n.leaf=false->∃x,n.kids=[x]/\1<=b2.aI/\fc ax.P (b2.aI-1) none none x q M/\1<=b2.aI-1:=by
   intro aG;have e:d.length-0=b2.aI:=by rw[c4];omega
   rw[e]at L
   cases ht:b2.aI with
   |zero=>omega
   |succ t=>
    rw[ht]at L
    cases t with
    |zero=>
     have:=L.1.leaf;rw[aG]at this;cases this
    |succ t=>
     obtain⟨v1,b9,bj,bk,bG⟩:=L;rw[da]at bG;generalize eW:n.kids=eX at bG
     cases bG with
     |one h=>exact⟨_,rfl,I,h.1,I⟩
  refine aY ⟨λ_=>False,id,_,d0,K,d6,V,d7,D,d8,_,rfl,id,_,db,_,rfl,id,_,d9,(oE (be.ext bi) b2.aI I λaG=>by obtain⟨x,a1,a2,_⟩:=dc aG;exact⟨x,a1,a2⟩).use ?_⟩;rintro v w' ⟨rfl,b_⟩;have de:=bi.trans b_
  cases aG:n.leaf with
  |true=>
   rw[if_pos rfl];have df:=L.leaf;rw[aG]at df;have ca:d.length-0=1:=cw df.symm;rw[ca]at L;obtain⟨v1,b9,bj,bk⟩:=L;subst bj;refine⟨_,_,_,rfl,b_,c9 w' _ de λ{dp bd bg} a1 a2 a3=>.inl ⟨rfl,?_,?_,by have:=g.nt;omega⟩⟩
   .rw[bk];unfold aB.fw;rw[da];rfl
   .subst a3
    rw[l_]at al N⊢;intro x;have:=al x;have:=N x;simp only[ml,nI,nJ]at*;omega
  |false=>
   rw[if_neg (by simp)];obtain⟨x,a1,a2,a3,a4⟩:=dc aG;refine⟨_,_,_,rfl,b_,c9 w' _ de λ{dp bd bg} cg bH aV=>.inr (.inl ⟨_,_,q,rfl,?_,?_,a4,?_,by have:=g.nt;omega⟩)⟩
   .subst cg
    have d_:n.kids.getD 0 0=x:=by rw[a1];rfl
    rw[d_,br];exact a3
   .subst aV
    rw[l_]at al N⊢;intro x;have:=al x;have:=N x;simp only[ml,nI,nJ]at*;omega
   .omega
 .have a6:n.keys≠ []:=λe=>by
   rcases mj i with h0|h0
   .have:=c_.2 ⟨h0,e⟩
    rw[R]at this;cases this
   .exact g.FM h0 e
  have eY:b2.C.D.aR<=900000050:=by
   have:=X.to.aR;rw[dO]at this;omega
  have dg:2<=ck b2:=by
   have:=X.room;have:=g.nt;omega
  have dh:∀ms:O Nat,ms.length<=3->(m++ms).length<=2*bX.aI+3:=λms h=>by rw[cO];have:=g.nt;omega
  have dj:∀j,j<=10->¬b2.C.D.calm j->¬bX.C.D.calm 60:=λj eZ bw hc=>bw (X.to.calm j (gp hc I));have cc:kB n:=g.jC.w4 (λ_=>by have:=g.sz;omega) (λ_=>by have:=g.sz;omega) λ_=>a6;refine cC (λp w'=>p=(if i=0 then none else some (bb.add ((i-1)*6)))/\U=w') (λZ bh=>⟨λh0=>⟨bb,b5,?_,bh _ _ ⟨?_,rfl⟩⟩,λh0=>bh _ _ ⟨?_,rfl⟩⟩) ?_
  .have h0:(i:Int)>0:=cw h0
   rw[bB I I];omega
  .have h0:(i:Int)>0:=cw h0
   have e:(i:Int)-1=((i-1:Nat):Int):=by omega
   rw[bB I I,if_neg I,e,dQ]
  .have h0:¬(i:Int)>0:=cT h0
   rw[if_pos I]
  rintro _ _ ⟨rfl,rfl⟩;refine⟨_,dY,K,bM,V,bf,D,dZ,?_⟩;by_cases h0:i=0
  .subst h0
   rw[if_pos rfl];have bn:=FD ac be cc I dg I;rw[g1]at bn;refine bn.use ?_;rintro _ aW ⟨a0,e,rfl,hf⟩;obtain⟨dp,bd,ms,S,H,bo,bp⟩:=hf.cs;have bI:=X.trans H;simp only[gd]at bI;have ea:bd.cb=c.cb:=by rw[H.cb,g1]
   rcases bp with ⟨rfl,ks,ar,aJ⟩|⟨rfl,aK⟩
   .refine⟨a0,_,_,0,rfl,λh=>(by cases h),λ_=>⟨λ_=>?_,λh=>(by simp at h)⟩⟩
    obtain⟨t1,t2,t3,t4,t5,t6⟩:=Ctx.AT (by simpa using g.ctx);have L:=g.jC;have N:=g.pp;have an:=g.eq;have bx:=g.sz;have al:=w7 (no:=(d[0]).no) g.acc;have Q:=g.AV;subst t2 t3 t4 t5 t6;rw[ki,gd]at an;rw[gd]at N Q;subst an;have eb:b2.n<=1600:=ac.t.s.bf;have cd:∀z∈q,ax.P z=dp.P z:=λz ab=>by
     rw[←br];exact((H.ej z (by rw[bl,Q z ab];rfl)).1).symm
    have ed:d.length-0=(d.length-1)+1:=by omega
    have dk:dp.aI=d.length:=by rw[H.aI,c4];omega
    rw[ed]at L;have dl:∀a5 x y,ks=[a5]->ms=[x,y]->cU a5/\x<1600/\y<1600:=λa5 x y av aj=>by
     subst av aj;have dn:232<bq n:=by
      rcases ar with ⟨_,z,e,_⟩|⟨h,_⟩
      .cases e
      .exact h
     obtain⟨e0,_,_,aQ,_⟩:=L.fits (L.vR I) (λ_=>I) (λ_=>I) ar cd;have hx:=(H.iI x (by simp)).2;have e2:=(H.iI y (by simp)).2;exact⟨aQ a5 (by simp),I,I⟩
    have dq:=FH S aJ (λ_=>I) dl (by have:=H.to.aR;omega) (by have:=H.room;have:=X.room;have:=g.nt;omega) (by rw[H.made,cO];omega);rw[ea]at dq;refine dq.use ?_;rintro v e3 ee;rcases ee with ⟨x,av,aj,rfl,aD,aF⟩|⟨a5,x,y,no,lK,e1,av,aj,aD,aF,ef⟩
    .subst av aj
     refine⟨_,_,_,rfl,conv _ _ ⟨dp,bd,m++ [x],l++ [(d[0]).no],aD,?_,.inr (.inl ⟨x,dp.aI,x::q,rfl,?_,?_,I,I,dh [x] (by simp)⟩)⟩⟩
     .have:=(bI.trans (c6.ext dp bd aF)).mono (j:=60) I
      simp only[gd]at this;exact this
     .rcases ar with ⟨_,z,_,e,ab⟩|⟨_,e4,e5,_,e,_⟩
      .cases e
       rw[dk,show d.length=d.length-1+1 from I];exact L.lay a6 ab cd
      .cases e
     .rw[l_]at al N⊢
      intro z;have:=al z;have:=N z;simp only[ml,nI,nJ]at*;omega
    .subst av aj
     obtain⟨a1,a2,a3⟩:=dl a5 x y rfl rfl;have aw:=bI.trans aF;simp only[gd]at aw;have dr:=aw.mono (j:=60) I;rcases ef with ⟨rfl,ce⟩|⟨rfl,ce⟩
     .have eg:∀z∈x::y::q,dp.P z=lK.P z:=λz ab=>by
       refine((aF.ej z ?_).1).symm;rw[H.f];simp only[c8]at ab;rcases ab with ab|ab|ab
       .simp[ab]
       .simp[ab]
       .rw[bl,Q z ab];simp
      obtain⟨_,pages,cg,bH⟩:=FN L bx ar cd ce eg a2 a3;refine⟨_,_,_,rfl,conv _ _ ⟨lK,e1,m++ [x,y]++ [no],l++ [(d[0]).no],aD,dr,.inr (.inl ⟨no,dp.aI+1,pages,rfl,?_,?_,I,I,by rw[c0];exact dh [x,y,no] (by simp)⟩)⟩⟩
      .rw[dk,show d.length+1=d.length-1+2 from I];exact cg
      .rw[l_]at al N bH⊢
       intro z;have:=al z;have:=N z;have:=bH z;simp only[ml,nI,nJ]at*;omega
     .refine⟨_,_,_,rfl,conv _ _ ⟨lK,e1,m++ [x,y]++ [no],l++ [(d[0]).no],aD,dr,.inr (.inr ⟨_,_,rfl,λhc=>ce (H.to.calm 1 (X.to.calm 3 (gp hc I)))⟩)⟩⟩
   .refine⟨a0,_,_,3,rfl,λ_=>conv _ _ ⟨dp,bd,m++ms,l++ [(d[0]).no],S,bI.mono I,.inr (.inr ⟨0,0,rfl,dj 2 I aK⟩)⟩,λh=>(by cases h)⟩
  .rw[if_neg h0]
   have ch:i-1<d.length:=by omega
   obtain⟨e6,ds,_,_,_,hu⟩:=b8.at ch;rw[b5]at ds;obtain rfl:=Option.some.inj ds;obtain⟨u,ci⟩:∃u,u=d[i-1]:=⟨_,rfl⟩;rw[←ci]at hu;have eh:(d.take i).map di.st=(d.take (i-1)).map di.st++ [u.st]:=by
    have:d.take i=d.take (i-1)++ [d[i-1]]:=by
     have e:i-1+1=i:=by omega
     rw[←kg ch,e]
    rw[this,fE,ci];rfl
   obtain⟨dt,du,ei,dv,dw,bJ,cr,cq,ek,e7,e8,el,em,dx,cl⟩:=Ctx.up g.ctx eh g.jC g.w6.t.uo g.sz;have ca:d.length-i+1=d.length-(i-1):=by omega
   rw[ca]at cr dx cl;have en:=(g.w6.t.eF _ _ ek).2.is;have e9:=en.2.1.fy I;have Q:=g.AV;have bn:=FE ac be hu cc.1 (by have:=g.sz;omega) (λ_=>cc) (λbK=>by
    obtain⟨o,no,rest,cg,bH,aV,bL,bN,dy,_⟩:=cl bK;exact⟨o,no,cg,by rw[br];exact bH,aV,bL,bN,dy⟩) I I dg I I
   rw[g1]at bn;refine bn.use ?_;rintro v aW dA;have e_:0<u.n.keys.length:=List.length_pos_iff.2 el;have eb:b2.n<=1600:=ac.t.s.bf;have cn:∀ {dp:aP}{bd:dm}{ms ls:O Nat}{w':J}{eo:Nat},c6 b2 dp a8 bd ms ls U w' eo->∀x,ax.f x=true->ax.P x=dp.P x:=λep x hx=>by
    rw[←br];exact((ep.ej x (by rw[bl,hx];rfl)).1).symm
   have er:(∃ (dp:aP) (bd:dm) (ms ls:O Nat) (s:ad) (a b:Int),v=.tuple #[s,a,b,(3:Int)]/\c5 aW dp bd/\c6 b2 dp a8 bd ms ls U aW 4/\¬b2.C.D.calm 4)\/
    (∃ (dp:aP) (bd:dm) (ms ls rest:O Nat) (s:ad) (am ah:Nat) (ks:O Key) (ak:O Nat) (aA:O aS),v=.tuple #[s,am,ah,(0:Int)]/\c5 aW dp bd/\c6 b2 dp a8 bd ms ls U aW 4/\ms.length<=2/\ls.length<=1/\kc (λq=>¬dp.M q) aW s ks ms/\
      c1 dp.P (d.length-(i-1)) (fo u.n am ah ks ms) dt du ak aA/\dv++(aA++dw)=A++(M++B)/\ak.Perm (ms++(rest++q))/\bJ.Perm (ls++rest)/\bq (fo u.n am ah ks ms)<=bq u.n+27/\u.n.keys.length<=(fo u.n am ah ks ms).keys.length+1/\
      am<=u.n.keys.length/\1<=ah/\ah<=u.n.kids.length):=by
    rcases dA with ⟨dn,s,e,rfl,hf⟩|⟨bK,dp,bd,rfl,av,aj,aQ⟩|⟨bK,o,no,fa,fb,fd,s,e,dB,dC,dD,rfl,hf⟩
    .obtain⟨dp,bd,ms,S,H,bo,bp⟩:=hf.cs
     rcases bp with ⟨rfl,ks,ar,aJ⟩|⟨rfl,aK⟩
     .obtain⟨ak,aA,cg,bH,aV,bL,bN⟩:=dx dn dp.P ks ms ar (λx hx=>cn H x (Q x (by
       rw[cq];simp only[cM,c8]at hx⊢;rcases hx with hx|hx
       .exact .inr (.inr (.inl hx))
       .exact .inl hx))) (λx hx=>by have:=(H.iI x hx).2;omega)
      exact .inr ⟨dp,bd,ms,[],bJ,s,u.cB,u.cB+1,ks,ak,aA,rfl,S,H.mono I,bo,cZ _,aJ,cg,bH,aV,List.Perm.refl _,bL,bN,I,I,I⟩
     .exact .inl ⟨dp,bd,ms,[],s,_,_,rfl,S,H.mono I,λhc=>aK (gp hc I)⟩
    .exact .inl ⟨dp,bd,[],[],bO,0,0,rfl,av,aj.mono I,λhc=>aQ (gp hc I)⟩
    .obtain⟨fe,dF,rest,cg,bH,aV,bL,bN,dy,dH,es⟩:=cl bK
     rw[cg]at dB;obtain rfl:=Option.some.inj dB;rw[br,bH]at dC;obtain rfl:=Option.some.inj dC;obtain⟨dp,bd,ms,S,H,bo,bp⟩:=hf.cs;have aw:=dD.trans H;simp only[ki,gd]at aw;rcases bp with ⟨rfl,ks,ar,aJ⟩|⟨rfl,aK⟩
     .obtain⟨ak,aA,d1,d2,d3,d4,d5⟩:=es dp.P ks ms ar (λx hx=>cn aw x (Q x (by
       rw[cq];simp only[cM,c8]at hx⊢;rcases hx with hx|hx
       .exact .inr (.inr (.inl (dH.mem_iff.2 (jg _ hx))))
       .exact .inl hx))) (λx hx=>by have:=(aw.iI x hx).2;omega)
      refine .inr ⟨dp,bd,ms,[dF],rest,s,u.cB-1,u.cB-1+2,ks,ak,aA,rfl,S,aw,bo,bm _,aJ,d1,d2,d3,dH,d4,d5,I,I,?_⟩;rcases mj u.cB with et|et<;>omega
     .exact .inl ⟨dp,bd,ms,[dF],s,_,_,rfl,S,aw,λhc=>aK (dD.to.calm 2 hc)⟩
   clear dA;rcases er with ⟨dp,bd,ms,ls,a0,a,b,rfl,S,H,aK⟩|⟨dp,bd,ms,ls,rest,a0,am,ah,ks,ak,aA,rfl,S,H,bo,ff,aJ,v1,b9,bj,bk,bG,eu,ev,ew,ex⟩
   .exact⟨a0,_,_,3,rfl,λ_=>conv _ _ ⟨dp,bd,_,_,S,(X.trans H).mono I,.inr (.inr ⟨0,0,rfl,dj 4 I aK⟩)⟩,λh=>(by cases h)⟩
   .refine⟨a0,_,_,0,rfl,λh=>(by cases h),λ_=>⟨λh=>?_,λ_=>?_⟩⟩
    .have:(i:Int)=0:=by simpa using h
     omega
    have bs:=hu.to H.to;refine⟨_,rfl,_,bs.aT,u.K,bs.a8,u.V,bs.bd,u.D,bs.e1,(oF bs.bP aJ (fr:=am) (to:=ah) ev I ew ex I I I).use ?_⟩;rintro _ fg ⟨ct,cA,cj,rfl,ey,bt⟩;have dI:=b7.af H.to.af (ac.t.j8 c3);have dK:=dI.ext bt;refine⟨_,ct,cA,cj,rfl,dK.bV rfl fQ,rfl,cm dK (us:=ec (fo u.n am ah ks ms) ct cA cj) rfl rfl λez eA bv fh=>⟨⟨i-1,dp,bd,m++ms,l++ [(d[i]).no]++ls,fo u.n am ah ks ms,ct,cA,cj,dt,du,ei,dv,dw,ak,aA,bJ++((d[i]).no::r),?_,?_⟩,?_⟩⟩
    .rw[bB I I];omega
    .have dL:dp.E gA:=by rw[H.E];exact c3
     have co:dp.M gA:=.inr (.inr (.inr (.inl dL)));have cp:=(X.trans H).trans (c6.ext dp bd bt);simp only[gd]at cp;have eB:cf bX dp w1 ez (4*(d.length-1-i)+4+0):=cp.to.step (E:=dp.E) (G:=dp.G) bv (λq e aG=>I) (λq F=>.inl F) λq F=>.inl F;have cu:∀x,ax.f x=true->dp.f x=true:=λx hx=>by rw[H.f,bl,hx];rfl
     have bQ:=b8.to H.to;refine⟨ch,(S.ext bt).AS bv λq e=>.inl (by rw[e];exact dL),{cp.mono (j:=4*(d.length-1-(i-1))) I with to:=eB.mono I},?_,?_,eA,?_,?_,cr.agree λx hx=>cn H x (Q x (by rw[cq];simp[hx])),v1,by rw[b9];exact g.eq,?_,FO (w7 g.acc) bj bk,I,λh1 e=>?_,λx hx=>?_⟩
     .rw[cO];have:=g.nt;omega
     .rw[cO,cO,h9];have:=g.AU;omega
     .refine(bu.af ey bv λq F e=>?_).aZ λq _ F dM=>?_
      .subst e
       rcases F with F|F
       .exact F co
       .have:=dI.lt;omega
      .rcases F with F|F
       .exact F dM
       .have:=S.t.lt dM;omega
     .refine⟨(bQ.own.ext bt).af bv λq F e=>bQ.nr q F (by rw[e];exact co),bQ.nr,λx hx=>bu.af ((bQ.bP x hx).ext bt) bv λq F e=>F (by rw[e];exact co)⟩
     .have this:aM.Perm ((d[i]'cQ).no::(r++dd)):=g.pp
      rw[cq]at this;rw[←ci];exact FP this
     .have fi:=em (λb1=>by
       have:=congrArg List.length b1;rw[dJ,cN,lr]at this;omega)
      rw[e,lr]at eu;omega
     .rcases cM.1 hx with hx|hx
      .have:=bj.mem_iff.1 hx
       rcases cM.1 this with hx|hx
       .rw[H.f];simp[hx]
       .rcases cM.1 hx with hx|hx
        .refine cu x (Q x ?_)
         rw[cq];have:x∈bJ:=bk.mem_iff.2 (g3 _ hx);simp[this]
        .exact cu x (Q x (by simp[hx]))
      .exact cu x (Q x (by rw[cq];simp[hx]))
    .rw[bB I I]
     show((i:Int)-1+1).toNat<((i:Int)+1).toNat;omega
theorem FR{w:J}{T:aP}{c:dm}{dz:O aS}{n:aB}{K V D ws:ad}(r:ws.len=0)(h:c5 w T c)(t:bu (λq=>¬T.M q) w n K V D)(P:T.C.D.aR<=900000000)(Q:2<=ck T)(R:c.made.length<=100)(S:c.left=[])
 (f:hA n) (g:n.keys≠ []) (u:bq n<=232) (y:n.fw=dz):
 aH ai 208 #[.pointer (some c.cb),ws,c2 n K V D] w (k_ T c [] dz w):=by
 refine okF (ag.mW (some c.cb) ws n.leaf K V D) az.mW func208 ?_;(delta ag.mW aX aa r1 z4 au ao aL aE st n_ vr gg dS;dsimp only);refine a_ (vs:=ec n K V D) rfl λw1 z A U=>?_;obtain⟨bS,aT,a8,bd⟩:=bD z;refine⟨_,bS,K,aT,V,a8,D,bd,a_ (vs:=[false,(),(),()]) rfl λW i B X=>⟨i.bV rfl fQ,rfl,cm i (us:=ec n K V D) rfl rfl λj E F Y=>?_⟩⟩;have d:Ext w j:=A.trans (Ext.cy B F (bm _));refine⟨λn10 w'=>n10= -1/\j=w',λ_ _=>0,⟨by rw[r];decide,rfl⟩,?_⟩;rintro _ _ ⟨rfl,rfl⟩;refine⟨λh=>by simp at h,λ_=>?_⟩;obtain⟨d0,d1,d2,d3⟩:=bD E;refine⟨_,d0,K,d1,V,d2,D,d3,(AM (h.ext d) I I I (t.ext d) (.inl f) u).use ?_⟩;intro v w' a;obtain⟨s,e,rfl⟩:=a.out;obtain⟨ax,c',m,l,o,Z,G⟩:=(a.base d).cs;rcases G with ⟨rfl,ks,H,L⟩|⟨rfl,N⟩
 .refine⟨s,0,rfl,λh=>(by cases h),λ_=>?_⟩
  rcases H with ⟨_,x,rfl,rfl,hx⟩|⟨ab,_⟩
  .rcases L with ⟨b,p,rfl,_,e,a,_⟩|⟨b,p,ac,ae,af,rfl,e,_⟩
   .obtain rfl:x=p:=by simpa using e
    refine⟨_,rfl,⟨by decide,by show(0:Int)<((1:Nat):Int);decide⟩,_,by rw[ay,ay];exact a.cell,ax,c',[x],[],l,o.mono I,.inr (.inl ⟨x,1,[x],rfl,⟨n,hx,f,λk g=>⟨λ_ e=>(by cases e),λ_ e=>(by cases e)⟩,g,rfl,y.symm⟩,List.Perm.refl _,bm _,I,by show 1<=_;omega⟩)⟩
   .cases e
  .omega
 .exact⟨s,3,rfl,λ_=>⟨ax,c',m,[],l,o.mono I,.inr (.inr ⟨0,0,rfl,λhc=>N (gp hc I)⟩)⟩,λh=>(by cases h)⟩
def aP.mb(T:aP)(r h:Nat):aP:={T with root:=r,aI:=h}
theorem b6.FT{w w':J}{T:aP}{r h:Nat}(ht:b6 w T)(a:Var w' T.bg (j_ (T.mb r h)) 239)(hc:ae (λq=>q=T.bg) w w')(b:r<T.n)(c:h<=12):b6 w' (T.mb r h)/\cf T (T.mb r h) w w' 0:=
 ⟨⟨a,ht.s.af hc λq d e=>ht.iH (e▸d),ht.ca.af hc λq e=>.inl e,ht.iH,ht.dG,ht.iu,ht.n,⟨b,c,ht.num.2.2⟩,ht.eF,ht.bC,ht.low⟩,
  ⟨rfl,rfl,rfl,rfl,rfl,rfl,rfl,rfl,rfl,rfl,bm _,λ_ h=>h,hc.mono λq _ e=>.inr (.inl e),λq h=>.inl h,λq h=>.inl h⟩⟩
def gu(T:aP)(pages:O Nat)(L:O aS):Prop:=(T.aI=0/\T.root=0/\pages=[]/\L=[])\/fc T.P T.aI none none T.root pages L
theorem AW{s t:Nat->an}:∀ {n:Nat},(∀i,s i=true->t i=true)->ey s n<=ey t n
 |0,_=>bm _
 |n+1,h=>by
  have h1:=AW (n:=n) h
  show ey s n+(s n).toNat<=ey t n+(t n).toNat
  cases hs:s n with
  |false=>exact Nat.add_le_add h1 (cZ _)
  |true=>rw[h n hs];exact Nat.add_le_add_right h1 _
def uq(T:aP)(aM:O Nat)(dz:O aS)(w:J)(v:Y)(w':J):Prop:=
 ∃ax:aP,b6 w' ax/\cf T ax w w' 60/\ax.E=T.E/\ax.G=T.G/\
  ((v=.int .i64 2/\ck T<2*T.aI+3/\ax=T)\/
   (v=.int .i64 0/\2*T.aI+3<=ck T/\(∃pages,ck T<=ck ax+(2*T.aI+3)/\gu ax pages dz/\pages.Nodup/\(∀no∈pages,no∈aM\/(T.f no||T.g no)=false)/\∀no,ax.f no=true↔(no∈pages\/(T.f no=true/\no∉aM)))/\∀no,T.g no=true->ax.P no=T.P no/\ax.C.view no=T.C.view no)\/
   (v=.int .i64 3/\¬T.C.D.calm 60/\ax.root=T.root/\ax.aI=T.aI/\ax.f=T.f/\∀no,(T.f no||T.g no)=true->ax.P no=T.P no/\ax.C.view no=T.C.view no))
theorem AX{l:O Nat}(h:∀x,l.count x<=1):l.Nodup:=List.nodup_iff_count.2 h
theorem FU{w:J}{T:aP}{s:ad}{aM:O Nat}{dz:O aS}{n:aB}{K V D:ad}(h:b6 w T)(b1:¬T.C.D.ro)(c8:T.C.D.aR<=900000000)(z:T.aI<12)(b3:aM.Nodup)(aG:∀x∈aM,T.f x=true)(c9:aM.length<=5000)
 (b4:∀ (bW j:Nat->Prop) (w1:J) (aT:dm),c5 w1 (T.cv bW j) aT->cf T (T.cv bW j) w w1 0->2*T.aI+3<=ck T->aT.made=[]->aT.left=[]->aH ai 208 #[.pointer (some aT.cb),s,c2 n K V D] w1 (k_ (T.cv bW j) aT aM dz w1)):
 aH ai 150 #[.pointer (some T.bg),s,c2 n K V D] w (uq T aM dz w):=by
 have c_:=h.s.bf;refine ag.CL (some T.bg) s n.leaf K V D w _ ?_;(delta ag.qm aE b9 ao au st aa aX r1 n_ fV;dsimp only);refine a_ (vs:=ec n K V D) rfl λw1 ah bb da=>a_ (vs:=[(0:Int)]) rfl λaj bc be db=>aY ?_;have ak:Ext aj aj.drew:=cL _;obtain⟨bh,b5⟩:∃bh,bh=aj.drew:=⟨_,rfl⟩;rw[←b5]at ak⊢;have bi:=(bb.trans be).trans ak;have o:=h.ext bi;obtain⟨ev,b7⟩:∃ev,ev=w1.heap.size:=⟨_,rfl⟩;rw[←b7]at bc⊢;refine⟨λ_=>False,_,rfl,id,_,o.cells.2.1,_,rfl,id,_,o.cells.2.2.2.2,(wN o.s).use ?_⟩;rintro _ aJ ⟨rfl,al⟩;have aK:=bi.trans al;have U:=(bc.ext ak).ext al;have b8:((T.n:Int)-ey (λi=>T.f i||T.g i) T.n)=(ck T:Nat):=by
  have:=l5 (λi=>T.f i||T.g i) T.n;unfold ck;omega
 have b_:IntKind.wrap .i64 (IntKind.wrap .i64 (2*(T.aI:Int))+3)=((2*T.aI+3:Nat):Int):=by
  rw[bB (n:=2*(T.aI:Int)) I I,bB I I];omega
 rw[b8,b_];refine⟨_,rfl,al,λam=>?_,λam=>?_⟩
 .have am:((ck T:Nat):Int)<((2*T.aI+3:Nat):Int):=cw am
  obtain⟨av,F⟩:=ew U (i:=0) (by simp);have ca:=dN aJ ev 0 (2:Int);have cc:=eu U (i:=0) (2:Int);have bj:=Ext.cy aK ca I;exact⟨av,F,aY ⟨2,cc.cell,T,h.ext bj,(cf.ext T bj).mono I,rfl,rfl,.inl ⟨rfl,I,rfl⟩⟩⟩
 have bk:2*T.aI+3<=ck T:=by
  have:¬((ck T:Nat):Int)<((2*T.aI+3:Nat):Int):=cT am;omega
 refine a_ (vs:=[.pointer (some T.bg),(),()]) rfl λcd bl ce dc=>a_ (vs:=[.pointer none]) rfl λbm aL bn dd=>?_;obtain⟨cb,bo⟩:∃cb,cb=aJ.heap.size:=⟨_,rfl⟩;obtain⟨eG,bp⟩:∃eG,eG=cd.heap.size:=⟨_,rfl⟩;rw[←bo]at bl⊢;rw[←bp]at aL⊢;obtain⟨av,F⟩:=ew aL (i:=0) (by simp);have an:=dN bm eG 0 (.pointer (some cb));have aN:=eu aL (i:=0) (.pointer (some cb));refine⟨av,F,aY ?_⟩;obtain⟨H,cg⟩:∃H,H=bm.setCell eG (.pointer (some cb)):=⟨_,rfl⟩;rw[←cg]at an aN⊢;have de:=aK.size;have df:=an.size;have aO:Ext aJ H:=Ext.cy (ce.trans bn) an I;have bq:=aK.trans aO;have br:=U.ext aO;have bs:=(bl.ext bn).af an I;have ch:=((ah.ext be).ext ak).ext (al.trans aO);obtain⟨bW,aQ⟩:∃bW,bW=λq=>T.E q\/q=ev:=⟨_,rfl⟩;obtain⟨j,aU⟩:∃j,j=λq=>T.G q\/q=cb:=⟨_,rfl⟩;have aV:∀q,bW q->T.E q\/q=ev:=λq c=>by rw[aQ]at c;exact c
 have ap:∀q,j q->T.G q\/q=cb:=λq c=>by rw[aU]at c;exact c
 have bt:∀q,T.E q->bW q:=λq c=>by rw[aQ];exact .inl c
 have ci:∀q,T.G q->j q:=λq c=>by rw[aU];exact .inl c
 have aZ:bW ev:=by rw[aQ];exact .inr rfl
 have cj:j cb:=by rw[aU];exact .inr rfl
 have dg:=br.lt;have dh:=bs.lt;have bu:b6 H (T.cv bW j):=h.grow (W:=λ_=>False) bq (λ_ h=>h.elim) (λq c=>(aV q c).imp id λe=>.inr ⟨I,I⟩) (λq c=>.inr ((ap q c).imp id λe=>⟨I,I⟩)) λq c hg=>by
  rcases aV q c with h1|h1<;>rcases ap q hg with k|k
  .exact(h.dG q h1).2.2 k
  .have:=h.lt (q:=q) (.inr (.inr (.inr (.inl h1))));omega
  .have:=h.lt (q:=q) (.inr (.inr (.inr (.inr k))));omega
  .have:=U.lt;omega
 have bv:cf T (T.cv bW j) w H 0:=(cf.refl T w).step (W:=λ_=>False) bq (λ_ h=>h.elim) (λq c=>(aV q c).imp id λe=>.inr I) λq c=>(ap q c).imp id λe=>by omega
 have cl:c5 H (T.cv bW j) ⟨cb,bO,bO,[],[]⟩:=⟨bu,bs,aW.none _ _ _,aW.none _ _ _,cj,λq c=>(g7 q c).elim,λq c=>(g7 q c).elim,b1⟩;have cm:=b4 bW j H _ cl bv bk rfl rfl;obtain⟨bS,aT,a8,bd⟩:=bD ch;refine⟨_,aN.cell,_,bS,K,aT,V,a8,D,bd,cm.use ?_⟩;rintro v L ⟨bX,y,m,l,bw,d,cn⟩;have X:bX.E ev:=by rw[d.E];exact aZ
 have aq:=br.af d.to.af (bu.j8 aZ);have co:¬(T.cv bW j).N eG:=by
  have di:cb<eG:=by rw[bo,bp];omega
  rintro(c|c|c|c)
  .have:=h.lt (q:=eG) (.inl c);omega
  .have:=h.lt (q:=eG) (.inr (.inl c));omega
  .have:=h.lt (q:=eG) (.inr (.inr (.inl c)));omega
  .rcases ap eG c with h1|h1
   .have:=h.lt (q:=eG) (.inr (.inr (.inr (.inr h1))));omega
   .omega
 have bx:=aN.af d.to.af co;have ar:y.cb=cb:=d.cb;have dj:bX.bg=T.bg:=d.to.bg;have aw:y.made=m:=d.made;have az:y.left=l:=d.left;have a0:eG≠ev:=by have:=U.lt;omega
 have bz:cf T bX w L 60:=(bv.trans d.to).mono I
 have fin:∀ (w':J) (ax:aP),b6 w' ax->cf T ax w w' 60->ax.E=bW->(∀q,T.G q->ax.G q)->b6 w' (ax.cv T.E T.G)/\cf T (ax.cv T.E T.G) w w' 60:=by
  intro w' ax hc ht bA bC;exact⟨hc.grow (W:=λ_=>False) (ae.refl _ _) (λ_ h=>h.elim) (λq c=>.inl (by rw[bA];exact bt q c)) (λq c=>.inr (.inl (bC q c))) λq c=>(h.dG q c).2.2,
   ht.step (W:=λ_=>False) (ae.refl _ _) (λ_ h=>h.elim) (λq c=>.inl (by rw[bA];exact bt q c)) λq c=>.inl (bC q c)⟩
 have bE:∀q,T.G q->bX.G q:=λq c=>d.G q (ci q c);have dk:=(bb).size;have a1:∀ (w0:J) (ax:aP) (c':dm) (x:Int),c5 w0 ax c'->cf T ax w w0 60->ax.E ev->c5 (w0.setCell ev x) ax c'/\cf T ax w (w0.setCell ev x) 60:=λw0 ax c' x hc ht he=>
  ⟨hc.AS (dN w0 ev 0 _) λq e=>.inl (by rw[e];exact he),ht.step (E:=ax.E) (G:=ax.G) (dN w0 ev 0 _) (λq e a2=>I) (λq c=>.inl c) λq c=>.inl c⟩
 have dl:m.length<=1600:=by
  have:=d.room;have:ck (T.cv bW j)<=T.n:=by unfold ck;exact Nat.sub_le _ _
  omega
 have cp:(∃a b:Int,v=.tuple #[a,b,(3:Int)]/\¬T.C.D.calm 60)\/(∃ (root z:Nat) (pages:O Nat),v=.tuple #[root,z,(0:Int)]/\((z=0/\root=0/\pages=[]/\dz=[])\/fc bX.P z none none root pages dz)/\(pages++l).Perm (m++aM)/\z<=12/\m.length<=2*T.aI+3):=by
  rcases cn with ⟨rfl,h1,k,a3⟩|⟨root,z,pages,rfl,h1,k,o,M,a3⟩|⟨a,b,rfl,a4⟩
  .exact .inr ⟨0,0,[],rfl,.inl ⟨rfl,rfl,rfl,h1⟩,k,I,a3⟩
  .have M:z<=T.aI+1:=M
   exact .inr ⟨root,z,pages,rfl,.inr h1,k,I,a3⟩
  .exact .inl ⟨a,b,rfl,a4⟩
 rcases cp with ⟨a,b,rfl,a4⟩|⟨root,p,pages,rfl,cs,bF,ct,dn⟩
 .
  obtain⟨av,F⟩:=ew aq (i:=0) (by simp);have A:=eu aq (i:=0) (3:Int);obtain⟨aA,aC⟩:=a1 L bX y 3 bw bz X;have Y:=bx.af (dN L ev 0 (3:Int)) a0;refine⟨a,b,3,rfl,av,F,aY ⟨3,A.cell,λ_=>⟨3,A.cell,?_⟩,λhx=>(by cases hx)⟩⟩;obtain⟨cu,cz⟩:=ew A (i:=0) (by simp);have a5:=eu A (i:=0) (3:Int);obtain⟨bG,bH⟩:=a1 _ bX y 3 aA aC X;have a6:=Y.af (dN _ ev 0 (3:Int)) a0;refine⟨cu,cz,aY (ag.yX ev eG _ _ ?_)⟩;generalize dp:(L.setCell ev (3:Int)).setCell ev (3:Int)=bI at a5 bG a6 bH⊢;(delta ag.oz aE ao r1 fV;dsimp only);have Q:Ext bI bI.drew:=cL _;have r:=bG.ext Q;have Z:=AP r r.ma.src (λq c=>(r.hK q c).1) (l:=y.made) (λx hx=>by rw[aw]at hx;rw[d.f];simp[hx]) (by rw[aw];exact d.bP) (by rw[aw];omega);rw[ar]at Z;have ab:=r.cells.2.1;rw[ar]at ab;refine⟨3,a5.cell,λ_=>aY ⟨id,_,a6.drew.cell,id,_,a6.drew.cell,_,rfl,id,y.ma,ab,Z.use ?_⟩,λhx=>(by cases hx)⟩;rintro _ bJ ⟨rfl,b2,B,hg⟩;rw[aw]at hg;have cA:=(a5.ext Q).af hg.to.af (r.t.j8 X);have cB:cf T b2 w bJ 60:=((bH.trans (cf.ext bX Q)).trans hg.to).mono I;obtain⟨f1,f2⟩:=fin bJ b2 B.t cB (by rw[hg.E];exact d.E) λq c=>by rw[hg.G];exact bE q c
  refine⟨rfl,3,cA.cell,_,f1,f2,rfl,rfl,.inr (.inr ⟨rfl,a4,hg.root.trans d.root,hg.aI.trans d.aI,?_,λno ac=>?_⟩)⟩
  .funext no
   show b2.f no=T.f no;rw[hg.f,d.f];by_cases u:no∈m
   .have:=(d.iI no u).1
    have e:(T.cv bW j).f no=T.f no:=rfl;rw[e]at this⊢
    cases a7:T.f no
    .simp[u]
    .rw[a7]at this;cases this
   .simp[u];rfl
  .have u:no∉m:=λu=>by
    have:=(d.iI no u).1;have e:((T.cv bW j).f no||(T.cv bW j).g no)=(T.f no||T.g no):=rfl;rw[e,ac]at this;cases this
   have h1:=hg.ej no (.inl u);have k:=d.ej no ac;exact⟨h1.1.trans k.1,h1.2.trans k.2⟩
 .
  have S:∀x,pages.count x+l.count x=m.count x+aM.count x:=λx=>by
   have:=l_.1 bF x;simpa only[ml] using this
  have aD:∀x,m.count x+aM.count x<=1:=λx=>by
   have h1:=List.nodup_iff_count.1 d.bP x;have k:=List.nodup_iff_count.1 b3 x;rcases mj (m.count x) with o|o
   .omega
   .rcases mj (aM.count x) with M|M
    .omega
    .have u:=iO.1 o
     have cC:=iO.1 M;have:=(d.iI x u).1;have e:((T.cv bW j).f x||(T.cv bW j).g x)=(T.f x||T.g x):=rfl;rw[e,aG x cC]at this;cases this
  have hlen:pages.length+l.length=m.length+aM.length:=by
   have:=bF.length_eq;simpa only[cO] using this
  have cD:∀x∈l,bX.f x=true:=λx hx=>by
   have h1:=iO.2 hx;have k:=S x;rw[d.f];rcases mj (m.count x) with o|o
   .have:x∈aM:=iO.1 I
    have e:(T.cv bW j).f x=T.f x:=rfl;rw[e,aG x this];rfl
   .have:x∈m:=iO.1 o
    simp[this]
  have cE:l.Nodup:=AX λx=>by have:=S x;have:=aD x;omega
  obtain⟨av,F⟩:=ew aq (i:=0) (by simp);have A:=eu aq (i:=0) (0:Int);obtain⟨aA,aC⟩:=a1 L bX y 0 bw bz X;have Y:=bx.af (dN L ev 0 (0:Int)) a0;refine⟨_,_,0,rfl,av,F,aY ⟨0,A.cell,λhx=>(by cases hx),λ_=>aY ?_⟩⟩;generalize dq:L.setCell ev (0:Int)=bK at A aA Y aC⊢;have Q:Ext bK bK.drew:=cL _;have r:=aA.ext Q;have Z:=AP r r.fP.src (λq c=>(r.jI q c).1) (l:=y.left) (λx hx=>cD x (by rw[az]at hx;exact hx)) (by rw[az];exact cE) (by rw[az];omega);rw[ar]at Z;have ab:=r.cells.2.2;rw[ar]at ab;refine⟨id,_,Y.drew.cell,id,_,Y.drew.cell,_,rfl,id,y.fP,ab,Z.use ?_⟩;rintro _ R ⟨rfl,b2,B,hg⟩;rw[az]at hg;have cF:=(A.ext Q).af hg.to.af (r.t.j8 X);have bL:cf T b2 w R 60:=((aC.trans (cf.ext bX Q)).trans hg.to).mono I;have a9:b2.bg=T.bg:=bL.bg;have bN:b2.E=bW:=by rw[hg.E];exact d.E
  have cG:b2.E ev:=by rw[bN];exact aZ
  have bQ:Var R T.bg (j_ b2) 239:=by rw[←a9];exact B.t.t
  obtain⟨cr,cq⟩:=ew bQ (i:=3) (by simp[j_]);have bR:=eu bQ (i:=3) root;have cH:=dN R T.bg 3 root;obtain⟨cI,cJ⟩:=ew bR (i:=4) (by simp[j_]);have bT:=eu bR (i:=4) p;have cK:=dN (R.setCell ⟨T.bg,3,none⟩ root) T.bg 4 p;refine⟨rfl,_,rfl,by rw[ay];exact cr,by rw[ay];exact cq,aY ⟨_,rfl,by rw[ay,ay];exact cI,by rw[ay,ay];exact cJ,aY ?_⟩⟩;rw[ay,ay,cS,cS];have ba:ae (λq=>q=T.bg) R ((R.setCell ⟨T.bg,3,none⟩ root).setCell ⟨T.bg,4,none⟩ p):=cH.trans cK;generalize dr:(R.setCell ⟨T.bg,3,none⟩ root).setCell ⟨T.bg,4,none⟩ p=aF at bT ba⊢;have cM:∀x∈pages,x∉l:=λx hx a2=>by
   have h1:=iO.2 hx;have k:=iO.2 a2;have:=S x;have:=aD x;omega
  have bU:(p=0/\root=0/\pages=[]/\dz=[])\/(fc b2.P p none none root pages dz/\root∈pages):=cs.imp id λcN=>cN.agree λx hx=>((hg.ej x (.inl (cM x hx))).1).symm;have cP:root<b2.n:=by
   rcases bU with ⟨_,h1,_⟩|⟨h1,_⟩
   .have:=B.t.s.bM;omega
   .obtain⟨bP,_,k,_⟩:=h1.jC
    exact(B.t.eF _ _ k).1
  have cQ:Var aF b2.bg (j_ (b2.mb root p)) 239:=by rw[a9];exact bT
  obtain⟨cR,cU⟩:=B.t.FT cQ (by rw[a9];exact ba) cP ct;have cV:ev≠T.bg:=λe=>by have:=h.lt (q:=T.bg) (.inr (.inl rfl));omega
  have bV:=cF.af ba cV;obtain⟨cW,cX⟩:=ew bV (i:=0) (by simp);have bY:=eu bV (i:=0) (0:Int);have bZ:=dN aF ev 0 (0:Int);refine⟨cW,cX,aY (ag.yX ev eG _ _ ?_)⟩;(delta ag.oz aE ao r1 fV;dsimp only);refine⟨0,bY.cell,λhx=>(by cases hx),λ_=>⟨0,bY.cell,?_⟩⟩;have cY:b6 (aF.setCell ev (0:Int)) (b2.mb root p):=cR.grow (E:=b2.E) (G:=b2.G) bZ (λq e _=>.inl (by rw[e];exact cG)) (λq c=>.inl c) (λq c=>.inr (.inl c)) λq c=>(B.t.dG q c).2.2;have cZ:cf T (b2.mb root p) w (aF.setCell ev (0:Int)) 60:=((bL.trans cU).mono I).step (E:=b2.E) (G:=b2.G) bZ (λq e a2=>I) (λq c=>.inl c) λq c=>.inl c;obtain⟨f1,f2⟩:=fin _ _ cY cZ bN λq c=>by
   show b2.G q;rw[hg.G];exact bE q c
  refine⟨_,f1,f2,rfl,rfl,.inr (.inl ⟨rfl,bk,⟨pages,?_,?_,AX λx=>by have:=S x;have:=aD x;omega,λno hx=>?_,λno=>?_⟩,λno ac=>?_⟩)⟩
  .have h1:ck bX+m.length=ck T:=d.room
   have k:ck bX<=ck (b2.mb root p):=by
    show bX.n-_<=b2.n-ey (λi=>b2.f i||b2.g i) b2.n;rw[hg.to.n];have:=AW (s:=λi=>b2.f i||b2.g i) (t:=λi=>bX.f i||bX.g i) (n:=bX.n) λi hi=>by
     rw[hg.f,hg.to.g]at hi;rw[h8,dt]at hi;rw[h8];exact hi.imp And.left id
    omega
   show ck T<=ck (b2.mb root p)+_;omega
  .rcases bU with ⟨h1,k,o,M⟩|⟨h1,_⟩
   .exact .inl ⟨h1,k,o,M⟩
   .exact .inr h1
  .have h1:=iO.2 hx
   have k:=S no;rcases mj (aM.count no) with o|o
   .have u:no∈m:=iO.1 I
    exact .inr (d.iI no u).1
   .exact .inl (iO.1 o)
  .show b2.f no=true↔_
   rw[hg.f,d.f];have e:(T.cv bW j).f no=T.f no:=rfl;rw[e];have ds:=S no;have B:=aD no;have b0:no∈m↔0<m.count no:=iO.symm;have ah:no∈aM↔0<aM.count no:=iO.symm;have c0:no∈l↔0<l.count no:=iO.symm;have c1:no∈pages↔0<pages.count no:=iO.symm;have c3:0<aM.count no->T.f no=true:=λh=>aG no (ah.2 h);have c4:0<m.count no->T.f no=false:=λh=>by
    have:=(d.iI no (b0.2 h)).1;have e:((T.cv bW j).f no||(T.cv bW j).g no)=(T.f no||T.g no):=rfl;rw[e]at this
    cases a7:T.f no
    .rfl
    .rw[a7]at this;cases this
   rw[dt,h8,cx,iK,jh,b0,ah,c0,c1];constructor
   .rintro⟨h1|h1,k⟩
    .by_cases o:0<aM.count no
     .left;omega
     .exact .inr ⟨h1,o⟩
    .left;omega
   .rintro(h1|⟨h1,k⟩)
    .refine⟨?_,I⟩
     by_cases o:0<aM.count no
     .exact .inl (c3 o)
     .right;omega
    .refine⟨.inl h1,λo=>?_⟩
     have:0<m.count no:=by omega
     rw[c4 this]at h1;cases h1
  .have c6:(T.f no||T.g no)=true:=by rw[ac];simp
   have c7:bX.g no=true:=by rw[d.to.g];exact ac
   have h1:=hg.ej no (.inr c7);have k:=d.ej no c6;exact⟨h1.1.trans k.1,h1.2.trans k.2⟩
theorem AY{ks:O Key}{k:Key}{i:Nat}(hs:ks.Pairwise bR)(h1:cQ ks k<=i)(hi:i<ks.length)(f:ks[cQ ks k]? ≠some k):bR k ks[i]:=by
 rcases m9.1 (oQ hs h1 hi) with a|a
 .exact a
 .exfalso
  rcases ei (cQ ks k) i with b|b
  .have c:cQ ks k<ks.length:=by omega
   have g:=oQ hs (bm _) c;have d:=ln.1 hs _ _ c hi b;rw[←a]at d;exact g d
  .have e:i=cQ ks k:=by omega
   apply f;subst e;rw[dI hi,←a]
theorem AZ{n:aB}(h:hA n){i:Nat}(hi:i<=n.keys.length):∃a b c d:O Key,n.keys=a++b/\n.vals=c++d/\a.length=i/\c.length=i/\b.length=d.length/\n.keys.take i=a/\n.keys.drop i=b/\n.vals.take i=c/\n.vals.drop i=d:=by
 have e:=h.len;refine⟨n.keys.take i,n.keys.drop i,n.vals.take i,n.vals.drop i,(gb i _).symm,(gb i _).symm,?_,?_,?_,rfl,rfl,rfl,rfl⟩
 .rw[cN];omega
 .rw[cN];omega
 .rw[df,df];omega
def jK(k v:Key):Nat:=2+k.length+v.length
theorem ur{n:aB}(h:n.leaf=true):bq n=1+(List.zipWith jK n.keys n.vals).sum:=by
 unfold bq;rw[if_pos h,j4 h];rfl
theorem FV{n:aB}{k v:Key}(h:hA n)(C:cU k)(D:v.length<=24):hA (gz n k v)/\(gz n k v).fw=fM n.fw k v/\bq (gz n k v)<=bq n+50/\(gz n k v).keys≠ []/\n.keys.length<=(gz n k v).keys.length/\(∀s∈(gz n k v).keys,s=k\/s∈n.keys):=by
 have hlen:=h.len;have E:=qD n.keys k;have K:n.fw=n.keys.zip n.vals:=rfl;have F:=h.fb;have G:∀ (j:Nat) (m:j<n.keys.length),j<cQ n.keys k->bR n.keys[j] k:=λj m h1=>na h1 m;have H:n.keys[cQ n.keys k]? ≠some k->∀ (j:Nat) (m:j<n.keys.length),cQ n.keys k<=j->bR k n.keys[j]:=λhe j m h1=>AY F h1 m he;rw[K,DO h.fb];unfold gz iF;generalize hi:cQ n.keys k=i at E G H⊢;obtain⟨a,b,c,d,g,t,L,M,N,p,q,w,A⟩:=AZ h E;have f:n.keys.zip n.vals=a.zip c++b.zip d:=by rw[g,t];exact qC I
 have u:(a.zip c).length=i:=by rw[px];omega
 by_cases he:n.keys[i]? =some k
 .rw[if_pos (by simpa using he),if_pos he]
  have O:∃o,b=k::o:=by
   cases b with
   |nil=>rw[g,g4 I]at he;simp at he
   |cons y o=>
    rw[g,g4 I,L,nB]at he;simp at he;exact⟨o,by rw[he]⟩
  obtain⟨o,rfl⟩:=O;obtain⟨x,l,rfl⟩:∃x l,d=x::l:=by
   cases d with
   |nil=>simp at N
   |cons x l=>exact⟨x,l,rfl⟩
  have J:n.vals.set i v=c++v::l:=by
   rw[t,List.set_append_right _ _ I,M,nB];rfl
  refine⟨⟨⟨h.ok,h.fb⟩,h.leaf,by simp[hlen],h.kids,λz f=>?_⟩,?_,?_,λe=>by have e:n.keys=[]:=e;rw[e]at g;simp at g,bm _,λs hs=>.inr hs⟩
  .rcases lq f with h1|h1
   .exact h.vals z h1
   .rw[h1];exact D
  .show n.keys.zip (n.vals.set i v)=_
   rw[J,f,g,qC I,k5 u];have P:(a.zip c++(k::o).zip (x::l)).drop (i+1)=o.zip l:=by
    rw[List.zip_cons_cons,show a.zip c++(k,x)::o.zip l=(a.zip c++ [(k,x)])++o.zip l by simp];exact drop_left' (by simp only[cO,u,h9])
   rw[P];rfl
  .rw[ur h.leaf,ur (n:={n with vals:=n.vals.set i v}) h.leaf]
   show 1+(List.zipWith jK n.keys (n.vals.set i v)).sum<=_;rw[J,g,t,rj I,rj I,ll,ll,List.zipWith_cons_cons,List.zipWith_cons_cons,List.sum_cons,List.sum_cons];unfold jK;omega
 .rw[if_neg (by simpa using he),if_neg he]
  have Q:=H he;refine⟨⟨⟨λz f=>?_,?_⟩,h.leaf,?_,h.kids,λz f=>?_⟩,?_,?_,λe=>?_,?_,λs hs=>?_⟩
  .have f:z∈n.keys.take i++ [k]++n.keys.drop i:=f
   simp only[cM,fh]at f;rcases f with (f|rfl)|f
   .exact h.ok z (eS f)
   .exact C
   .exact h.ok z (eR f)
  .show(n.keys.take i++ [k]++n.keys.drop i).Pairwise bR
   rw[p,q];have R:(a++b).Pairwise bR:=by rw[←g];exact F
   obtain⟨av,B,S⟩:=pw.1 R;have T:∀x∈a,bR x k:=λx hx=>by
    obtain⟨j,m,rfl⟩:=e3 hx;have:=G j (by rw[g,cO];omega) I;simp only[g,pB m]at this;exact this
   have U:∀y∈b,bR k y:=λy r=>by
    obtain⟨j,m,rfl⟩:=e3 r;have:=Q (i+j) (by rw[g,cO];omega) I;have e:(a++b)[i+j]'(by rw[cO];omega)=b[j]:=by
     rw[rl I];congr 1;omega
    simp only[g,e]at this;exact this
   rw[c0];refine pw.2 ⟨av,?_,λx hx y r=>?_⟩
   .exact kK.2 ⟨U,B⟩
   .rcases c8.1 r with rfl|r
    .exact T x hx
    .exact S x hx y r
  .show(n.vals.take i++ [v]++n.vals.drop i).length=(n.keys.take i++ [k]++n.keys.drop i).length
   rw[p,q,w,A];simp only[cO,h9];omega
  .have f:z∈n.vals.take i++ [v]++n.vals.drop i:=f
   simp only[cM,fh]at f;rcases f with (f|rfl)|f
   .exact h.vals z (eS f)
   .exact D
   .exact h.vals z (eR f)
  .show(n.keys.take i++ [k]++n.keys.drop i).zip (n.vals.take i++ [v]++n.vals.drop i)=_
   rw[p,q,w,A,f,k5 u,drop_left' u,c0,c0,qC I];rfl
  .rw[ur h.leaf,ur (n:={n with keys:=n.keys.take i++ [k]++n.keys.drop i,vals:=n.vals.take i++ [v]++n.vals.drop i}) h.leaf]
   show 1+(List.zipWith jK (n.keys.take i++ [k]++n.keys.drop i) (n.vals.take i++ [v]++n.vals.drop i)).sum<=_;have av:(List.zipWith jK (a++ [k]++b) (c++ [v]++d)).sum=(List.zipWith jK a c).sum+(jK k v+(List.zipWith jK b d).sum):=by
    rw[c0,c0,rj I,ll];rfl
   have B:(List.zipWith jK (a++b) (c++d)).sum=(List.zipWith jK a c).sum+(List.zipWith jK b d).sum:=by
    rw[rj I,ll]
   rw[p,q,w,A,g,t,av,B];have:=C.2;unfold jK;omega
  .have e:n.keys.take i++ [k]++n.keys.drop i=[]:=e
   simp at e
  .show n.keys.length<=(n.keys.take i++ [k]++n.keys.drop i).length
   rw[p,q,g];simp only[cO,h9];omega
  .have hs:s∈n.keys.take i++ [k]++n.keys.drop i:=hs
   simp only[cM,fh]at hs;rcases hs with (hs|rfl)|hs
   .exact .inr (eS hs)
   .exact .inl rfl
   .exact .inr (eR hs)
def A0(T:aP)(aM:O Nat)(dz:O aS)(w:J)(v:Y)(w':J):Prop:=
 ∃ax:aP,b6 w' ax/\cf T ax w w' 100/\ax.E=T.E/\ax.G=T.G/\
  ((v=.int .i64 2/\ck T<2*T.aI+3/\ax=T)\/
   (v=.int .i64 0/\2*T.aI+3<=ck T/\(∃pages,ck T<=ck ax+(2*T.aI+3)/\gu ax pages dz/\pages.Nodup/\(∀no∈pages,no∈aM\/(T.f no||T.g no)=false)/\∀no,ax.f no=true↔(no∈pages\/(T.f no=true/\no∉aM)))/\∀no,T.g no=true->ax.P no=T.P no/\ax.C.view no=T.C.view no)\/
   (v=.int .i64 3/\¬T.C.D.calm 100/\ax.root=T.root/\ax.aI=T.aI/\ax.f=T.f/\∀no,(T.f no||T.g no)=true->ax.P no=T.P no/\ax.C.view no=T.C.view no))
theorem uq.af{T:aP}{aD:bN}{aM:O Nat}{dz:O aS}{w w1 w':J}{v:Y}{k:Nat}(h:uq (T.bL aD T.P) aM dz w1 v w')(e:cf T (T.bL aD T.P) w w1 k)(s:k<=40)(f:∀j,aD.view j=T.C.view j)(i:2*T.aI+3<=ck T):A0 T aM dz w v w':=by
 obtain⟨ax,h1,l,m,n,o⟩:=h;refine⟨ax,h1,(e.trans l).mono I,m,n,?_⟩;have p:ck (T.bL aD T.P)=ck T:=rfl;have q:(T.bL aD T.P).aI=T.aI:=rfl;rcases o with ⟨_,b,_⟩|⟨rfl,b,d,c⟩|⟨rfl,b,d,c,r,g⟩
 .rw[p,q]at b;omega
 .exact .inr (.inl ⟨rfl,i,d,λno a=>⟨(c no a).1,(c no a).2.trans (f no)⟩⟩)
 .exact .inr (.inr ⟨rfl,λhc=>b (e.calm 60 (gp hc I)),d,c,r,λno a=>⟨(g no a).1,(g no a).2.trans (f no)⟩⟩)
theorem mT(w:J)(s:ad):aH ai 141 #[s] w (λv w'=>v=.bool (decide (1<=s.len/\s.len<=24))/\w=w'):=by
 refine okF (ag.mT s) az.mT func141 ?_;unfold ag.mT;refine⟨?_,rfl⟩
 congr 1
 rw[fD,dt,cx,cx,cx];omega
theorem A1{T:aP}{w:J}{pages:O Nat}{L:O aS}{k:Key}(h:b6 w T)(n:gu T pages L):∃steps,l9 T.P k T.aI T.root steps/\
 ((steps=[]/\T.aI=0/\pages=[]/\L=[])\/(∃ (a:Nat) (bM:aB) (b c:aq Key) (d:O (Nat×aB×Nat)) (i:O Nat) (f g:O aS),steps=d++ [(a,bM,0)]/\Ctx T.P k T.aI 1 b c d i f g/\T.P a=some bM/\hA bM/\bM.within b c/\bM.keys≠ []/\(d≠ []->2<=bM.keys.length)/\e4 b c k/\
   pages.Perm (a::i)/\L=f++(bM.fw++g)/\∀u,Loc k u->u L=f++(u bM.fw++g))):=by
 rcases n with ⟨h1,z,o,p⟩|j
 .exact⟨[],by rw[h1];rfl,.inl ⟨rfl,h1,o,p⟩⟩
 .cases l:T.aI with
  |zero=>rw[l]at j;exact j.elim
  |succ t=>
   rw[l]at j;obtain⟨rest,d,a,bM,b,c,i,f,g,r1,aE,b4,aX,ee,q,r,s,v,m,x,y⟩:=Ctx.down (P:=T.P) (k:=k) (top:=t+1) (bp:=L) .top j (λh=>absurd rfl h) ⟨λ_ e=>(by cases e),λ_ e=>(by cases e)⟩ (by simp) (λu _=>by simp);rw[ki]at aE;rw[gd]at m;exact⟨rest,r1,.inr ⟨a,bM,b,c,d,i,f,g,aE,b4,aX,ee,q,r,s,v,m,x,y⟩⟩
theorem gu.low{T:aP}{pages:O Nat}{L:O aS}(h:gu T pages L)(d:L.length<4096):T.aI<12/\pages.length<=L.length:=by
 rcases h with ⟨h1,_,a,_⟩|b
 .rw[h1,a];exact⟨I,cZ _⟩
 .obtain⟨av,e,c⟩:=b.pages
  refine⟨?_,av⟩;rcases ei T.aI 12 with h|h
  .exact h
  .have f:=c I
   have g:2^12<=2^T.aI:=ri (by decide) h;have i:(2:Nat)^12=4096:=by decide
   omega
theorem FW{w1:J}{T:aP}{aD:bN}{pages:O Nat}{L dz:O aS}{k:Key}{steps:O (Nat×aB×Nat)}{s:ad}{a:O di}{bM b:aB}{K V D:ad}(h:b6 w1 (T.bL aD T.P))(R:¬aD.D.ro)(S:gu T pages L)(U:L.length<4096)(ep:pages.Nodup)(hf:∀x∈pages,T.f x=true)(o:aD.D.aR<=900000000)
 (g:a.map di.st=steps) (r:jd (λq=>¬(T.bL aD T.P).M q) w1 s a) (W:bu (λq=>¬(T.bL aD T.P).M q) w1 b K V D) (t:hA b) (X:(steps=[]/\T.aI=0/\pages=[]/\b.keys≠ []/\bq b<=232/\b.fw=dz)\/(∃ (d:Nat) (i j:aq Key) (c:O (Nat×aB×Nat)) (l:O Nat) (m n:O aS),steps=c++ [(d,bM,0)]/\Ctx T.P k T.aI 1 i j c l m n/\b.within i j/\(c≠ []->b.keys≠ [])/\pages.Perm (d::l)/\dz=m++(b.fw++n)/\bq b<=282)):
 aH ai 150 #[.pointer (some T.bg),s,c2 b K V D] w1 (uq (T.bL aD T.P) pages dz w1):=by
 obtain⟨u,ao⟩:=S.low U;refine FU h R o u ep hf I λbW v aj a8 w y Y z C=>?_;have Z:s.len=a.length:=by
  have:=r.own.1;rw[h3 _ (nq a)]at this;omega
 have E:bu (λq=>¬((T.bL aD T.P).cv bW v).M q) aj b K V D:=(y.bP (lo:=0) (W.aZ λq _ p=>⟨cZ _,p⟩)).aZ λq _ p=>p.2;rcases X with ⟨h1,ap,aa,ab,ac,ae⟩|⟨d,i,j,c,l,m,n,F,G,af,ag,H,ah,ak⟩
 .subst h1 aa
  have al:a=[]:=by simpa using g
  exact FR (by rw[Z,al];rfl) w E o (by
   have e:ck ((T.bL aD T.P).cv bW v)=ck (T.bL aD T.P):=rfl;omega) (by rw[z];simp) C t ab ac ae
 .have hlen:a.length=c.length+1:=by
   have:=congrArg List.length g;rw[F,dJ,cO,h9]at this;exact this
  have ar:1+c.length=T.aI:=G.eg;have am:=r.to y;have N:(a.take (a.length-1)).map di.st=c/\(a[a.length-1]'I).no=d:=by
   rw[F]at g;have av:(a.take (a.length-1)).map di.st=(c++ [(d,bM,0)]).take (a.length-1):=by rw[←g,mh]
   refine⟨by rw[av];exact k5 I,?_⟩;have Q:(a.map di.st)[a.length-1]? =some (d,bM,0):=by
    rw[g,g4 I];have:a.length-1-c.length=0:=by omega
    rw[this];rfl
   rw[lp,dI I]at Q;have an:=Option.some.inj Q;exact congrArg Prod.fst an
  refine FQ (k:=k) (dd:=l) (A:=m) (B:=n) (M:=b.fw) (lo:=i) (hi:=j) w am E I (by show a.length=T.aI;omega) u o Y (by rw[z];simp) (by rw[C];simp) ?_ ⟨t,af,rfl,rfl⟩ ah.symm ?_ ak (λh=>ag λe=>?_) λx hx=>?_
  .rw[N.1]
   have:a.length=T.aI:=by omega
   rw[this];exact G
  .rw[N.2];exact H
  .rw[e]at hlen;simp at hlen;omega
  .exact hf x (H.mem_iff.2 (jg _ hx))
theorem jd.ext'{B C:Nat->Prop}{w w':J}{s:ad}{l:O di}(h:jd B w s l)(hx:Ext w w')(a:∀q,B q->C q):jd C w' s l:=
 ⟨h.own.ext hx,λq b=>a q (h.nr q b),λx c=>((h.bP x c).ext hx).aZ λq _ d=>a q d⟩
theorem uu{a:O di}{b:O (Nat×aB×Nat)}{c:Nat}{bf:aB}(d:a.map di.st=b++ [(c,bf,0)]):∃h:0<a.length,(a[a.length-1]'I).n=bf:=by
 have hlen:a.length=b.length+1:=by
  have:=congrArg List.length d;rw[dJ,cO,h9]at this;exact this
 refine⟨I,?_⟩;have e:(a.map di.st)[a.length-1]? =some (c,bf,0):=by
  rw[d,g4 I];have:a.length-1-b.length=0:=by omega
  rw[this];rfl
 rw[lp,dI I]at e;exact congrArg (λx=>x.2.1) (Option.some.inj e)
theorem FX{w:J}{T:aP}{pages:O Nat}{L:O aS}{tk ek:ad}{key val:Key}(h:b6 w T)(bb:¬T.C.D.ro)(Q:gu T pages L)(ap:L.length<4096)(ep:pages.Nodup)(hf:∀x∈pages,T.f x=true)(b3:T.C.D.aR<=800000000)
 (R:Src 1 w tk (aA key)) (S:∀q,aC tk q->q<w.heap.size/\¬T.M q) (aq:Src 1 w ek (aA val)) (bc:∀q,aC ek q->q<w.heap.size/\¬T.M q):
 aH ai 85 #[.pointer (some T.bg),tk,ek] w (λv w'=>(v=.int .i64 1/\¬(cU key/\val.length<=24)/\w=w')\/(cU key/\val.length<=24/\A0 T pages (fM L key val) w v w')):=by
 have be:=len8 R;have aw:=len8 aq;refine okF (ag.sO (some T.bg) tk ek) az.sO func85 ?_;(delta ag.sO ao b_ aE b9 au dS z4 aa aX r1 qc n4;dsimp only);refine cC (λb w'=>b= !(decide (cU key))/\w=w') (λq c=>⟨λh=>(by cases h),λ_=>(mT w tk).use ?_⟩) ?_
 .rintro _ _ ⟨rfl,rfl⟩
  refine⟨_,rfl,c _ _ ⟨?_,rfl⟩⟩;unfold cU;rw[be]
 rintro _ _ ⟨rfl,rfl⟩;refine⟨λd=>.inl ⟨rfl,λhg=>?_,rfl⟩,λd=>?_⟩
 .rw[dU hg.1,aw]at d
  have:¬(val.length:Int)>24:=by have:=hg.2;omega
  simp[this]at d
 have hg:cU key/\val.length<=24:=by
  by_cases h1:cU key
  .refine⟨h1,?_⟩
   rw[dU h1,aw]at d;have:¬(val.length:Int)>24:=by simpa using d
   omega
  .rw[jq h1]at d;simp at d
 have b5:=h.s.bf;obtain⟨b7,b8⟩:=Q.low ap;have ay:Ext w w.drew:=cL w;have hd:=h.ext ay;refine aY ⟨λ_=>False,_,rfl,id,_,hd.cells.2.1,_,rfl,id,_,hd.cells.2.2.2.2,(wN hd.s).use ?_⟩;rintro _ ca ⟨rfl,aF⟩;have bh:((T.n:Int)-ey (λi=>T.f i||T.g i) T.n)=(ck T:Nat):=by
  have:=l5 (λi=>T.f i||T.g i) T.n;unfold ck;omega
 have bi:IntKind.wrap .i64 (IntKind.wrap .i64 (2*(T.aI:Int))+3)=((2*T.aI+3:Nat):Int):=by
  rw[bB (n:=2*(T.aI:Int)) I I,bB I I];omega
 rw[bh,bi];have o:=ay.trans aF;have U:=h.ext o;refine⟨_,rfl,aF,λd=>.inr ⟨hg.1,hg.2,T,U,(cf.ext T o).mono I,rfl,rfl,.inl ⟨rfl,?_,rfl⟩⟩,λd=>?_⟩
 .have d:((ck T:Nat):Int)<((2*T.aI+3:Nat):Int):=cw d
  omega
 have bj:2*T.aI+3<=ck T:=by
  have:¬((ck T:Nat):Int)<((2*T.aI+3:Nat):Int):=cT d;omega
 obtain⟨steps,aG,aJ⟩:=A1 (k:=key) U Q;refine(AF U I (R.ext o) (λq c=>⟨ft (S q c).1 o.size,(S q c).2⟩) aG).use ?_;rintro _ E ⟨aD,W,X,aK,bk⟩;have y:=((cf.ext T o).trans X).mono (l:=2*T.aI) I;rcases bk with ⟨s,a,rfl,m,Y⟩|⟨rfl,bn⟩
 rotate_left
 .refine⟨⟨none,0,0⟩,3,rfl,λ_=>.inr ⟨hg.1,hg.2,T.bL aD T.P,W,y.mono I,rfl,rfl,.inr (.inr ⟨rfl,λhc=>bn (gp hc I),rfl,rfl,rfl,λno _=>⟨rfl,aK no⟩⟩)⟩,λhx=>(by cases hx)⟩
 have cb:s.len=a.length:=by
  have:=Y.own.1;rw[h3 _ (nq a)]at this;omega
 have cc:=o.size;have cd:a.length=T.aI:=by
  have:=aG.length;rw[←m,dJ]at this;exact this
 refine⟨s,0,rfl,λhx=>(by cases hx),λ_=>a_ (vs:=[false,(),(),()]) rfl λce aL bo cg=>⟨aL.bV rfl (fQ (b:=true) (K:=bO) (V:=bO) (D:=bO)),rfl,cm aL (us:=ec ⟨true,[],[],[]⟩ bO bO bO) rfl rfl λbp F bs ch=>?_⟩⟩;have Z:Ext E bp:=Ext.cy bo bs (bm _);obtain⟨gA,bt⟩:∃gA,gA=E.heap.size:=⟨_,rfl⟩;rw[←bt]at F⊢
 obtain⟨bM,j⟩:∃bM:aB,bM=(if ci:0<a.length then (a[a.length-1]'I).n else ⟨true,[],[],[]⟩):=⟨_,rfl⟩;refine kn (λp=>∃ (K V D:ad) (B:Nat->Prop),Ext E p/\Var p gA (ec bM K V D) 202/\bu B p bM K V D) (λq c=>⟨λab=>?_,λab=>?_⟩) ?_
 .have ac:0<a.length:=by
   have:(s.len:Int)>0:=cw ab;omega
  rw[dif_pos ac]at j;have e:IntKind.wrap .i64 ((s.len:Int)-1)=((a.length-1:Nat):Int):=by rw[bB I I];omega
  obtain⟨A,ar,_,_,_,hu⟩:=Y.at (i:=a.length-1) I;have G:=hu.ext Z;rw[e,dQ];subst j;refine⟨A,ar,⟨I,I⟩,_,G.aT,_,G.a8,_,G.bd,_,G.e1,F.bV rfl fQ,rfl,cm F (us:=ec (a[a.length-1]'I).n (a[a.length-1]'I).K (a[a.length-1]'I).V (a[a.length-1]'I).D) rfl rfl λbv bw bx cl=>?_⟩;have aM:Ext E bv:=Ext.cy Z bx I;exact c _ ⟨_,_,_,_,aM,bw,hu.bP.ext aM⟩
 .have ac:¬0<a.length:=by
   have:¬(s.len:Int)>0:=cT ab;omega
  rw[dif_neg ac]at j;subst j;exact c _ ⟨bO,bO,bO,λ_=>True,Z,F,ba.none _ _,ba.none _ _,cz.none _ _⟩
 rintro p ⟨K,V,D,B,H,bz,bA⟩;have cn:=H.size;have co:=X.af.size
 have bE:hA bM/\bq bM<=232:=by
  rcases aJ with ⟨h1,r,t,u⟩|⟨aN,bf,aO,aQ,aU,aV,aW,a0,aE,b4,aX,ee,a1,bF,bG,a2,a3,bH,a4⟩
  .have ae:¬0<a.length:=by
    rw[h1]at m;have:a=[]:=by simpa using m
    rw[this];simp
   rw[j,dif_neg ae];exact⟨⟨⟨λ_ h=>(by cases h),List.Pairwise.nil⟩,rfl,rfl,rfl,λ_ h=>(by cases h)⟩,by decide⟩
  .rw[aE]at m
   obtain⟨av,ah⟩:=uu m;rw[j,dif_pos av,ah];exact⟨ee,h.uo _ _ aX⟩
 obtain⟨aj,cp⟩:=bE;have cq:=(cu.fy (.inl aj) I);have cr:∀q,T.N q->q<w.heap.size:=λq c=>h.lt (aP.hG c);have bI:Src 1 p tk (aA key):=(R.af y.af λq c ak=>(S q c).2 (aP.hG ak)).ext H;have bJ:Src 1 p ek (aA val):=(aq.af y.af λq c ak=>(bc q c).2 (aP.hG ak)).ext H;obtain⟨d0,d1,d2,d3⟩:=bD bz;refine⟨_,d0,K,d1,V,d2,D,d3,(ou bA aj I bI bJ hg.1 hg.2).use ?_⟩;rintro _ bK ⟨ct,cA,cj,rfl,bN,bQ⟩;refine⟨_,ct,cA,cj,true,rfl,a_ (vs:=[false,(),(),()]) rfl λcs a5 bR cv=>⟨a5.bV rfl fQ,rfl,cm a5 (us:=ec (gz bM key val) ct cA cj) rfl rfl λa6 bS bT cx=>⟨λhx=>(by cases hx),λ_=>?_⟩⟩⟩;have a7:Ext bK a6:=Ext.cy bR bT (bm _);have al:=(H.trans bQ).trans a7;obtain⟨d0,d1,d2,d3⟩:=bD bS;obtain⟨br,bl,bU,am,bW,a9⟩:=FV aj hg.1 hg.2;have bX:aD.D.aR<=900000000:=by
  have:aD.D.aR<=T.C.D.aR+2*T.aI:=y.aR;omega
 have bY:bu (λq=>¬(T.bL aD T.P).M q) a6 (gz bM key val) ct cA cj:=(bN.ext a7).aZ λq _ c bZ=>by have:=W.lt bZ;omega
 have b0:=FW (dz:=fM L key val) (k:=key) (steps:=steps) (bM:=bM) (W.ext al) (λe=>bb λi=>X.bC.1▸e i) Q ap ep hf bX m (Y.ext' al λq c=>c.2) bY br (by
  rcases aJ with ⟨h1,r,t,u⟩|⟨aN,bf,aO,aQ,aU,aV,aW,a0,aE,b4,aX,ee,a1,bF,bG,a2,a3,bH,a4⟩
  .have ae:¬0<a.length:=by omega
   rw[dif_neg ae]at j;refine .inl ⟨h1,r,t,am,?_,?_⟩
   .have:bq bM=1:=by rw[j];rfl
    omega
   .rw[bl,j,u];rfl
  .rw[aE]at m
   obtain⟨av,ah⟩:=uu m;rw[dif_pos av,ah]at j;rw[j]at bl bU am bW a9⊢;refine .inr ⟨aN,aO,aQ,aU,aV,aW,a0,aE,b4,λs hs=>?_,λ_=>am,a3,?_,by have:=h.uo _ _ aX;omega⟩
   .rcases a9 s hs with rfl|an
    .exact a2
    .exact a1 s an
   .rw[bl];exact a4 (λL=>fM L key val) (DD key val))
 refine⟨_,d0,ct,d1,cA,d2,cj,d3,b0.use ?_⟩;intro v w' b1;have b2:=b1.af (w:=w) ((y.trans (cf.ext (T.bL aD T.P) al)).mono (l:=40) I) (bm _) aK bj;obtain⟨ax,h1,r,t,u,an⟩:=b2;rcases an with ⟨rfl,z⟩|⟨rfl,z⟩|⟨rfl,z⟩
 .exact⟨2,rfl,.inr ⟨hg.1,hg.2,ax,h1,r,t,u,.inl ⟨rfl,z⟩⟩⟩
 .exact⟨0,rfl,.inr ⟨hg.1,hg.2,ax,h1,r,t,u,.inr (.inl ⟨rfl,z⟩)⟩⟩
 .exact⟨3,rfl,.inr ⟨hg.1,hg.2,ax,h1,r,t,u,.inr (.inr ⟨rfl,z⟩)⟩⟩
theorem A2{l:O aS}{k:Key}(h:(fY l k).length=l.length):∀p∈l,p.1≠k:=by
 intro p a;unfold fY at h;have:=(kI (p:=λp:aS=>decide (p.1≠k))).1 (List.Sublist.eq_of_length List.filter_sublist h);exact cw (this p a)
theorem FY{L A B M:O aS}{k:Key}(b:L=A++(M++B))(hu:fY L k=A++(fY M k++B)):gy L k=gy M k:=by
 have h1:(fY A k).length<=A.length:=pG _ _;have g:(fY B k).length<=B.length:=pG _ _;have c:=congrArg List.length hu;rw[b,tC,tC]at c;simp only[cO]at c;have ar:=A2 (l:=A) (k:=k) I;have d:=A2 (l:=B) (k:=k) I;have e:A.find? (λp=>decide (p.1=k))=none:=jn.2 λp a=>by simpa using ar p a
 have f:B.find? (λp=>decide (p.1=k))=none:=jn.2 λp a=>by simpa using d p a
 unfold gy;rw[b,List.find?_append,List.find?_append,e,f];simp
theorem FZ{n:aB}{k:Key}(h:hA n):gy n.fw k=if iF n.keys k then n.vals[cQ n.keys k]? else none:=by
 have s:=qD n.keys k;have w:=h.fb;have t:∀ (j:Nat) (f:j<n.keys.length),j<cQ n.keys k->bR n.keys[j] k:=λj f h1=>na h1 f;have u:n.keys[cQ n.keys k]? ≠some k->∀ (j:Nat) (f:j<n.keys.length),cQ n.keys k<=j->bR k n.keys[j]:=λhe j f h1=>AY w h1 f he;have l:n.fw=n.keys.zip n.vals:=rfl;unfold iF;rw[l];generalize cQ n.keys k=i at s t u⊢;obtain⟨a,b,c,d,g,v,z,A,B,H,J,K,L⟩:=AZ h s;have C:n.keys.zip n.vals=a.zip c++b.zip d:=by rw[g,v];exact qC I
 have D:(a.zip c).find? (λp:aS=>decide (p.1=k))=none:=jn.2 λp l=>by
  have q:=(List.of_mem_zip l).1;obtain⟨j,f,r⟩:=e3 q;have h1:=t j (by rw[g,cO];omega) I;simp only[g,pB f,r]at h1;simpa using oO h1
 unfold gy;rw[C,List.find?_append,D];by_cases he:n.keys[i]? =some k
 .rw[if_pos (by simpa using he)]
  have E:∃m,b=k::m:=by
   cases b with
   |nil=>rw[g,g4 I]at he;simp at he
   |cons y m=>
    rw[g,g4 I,z,nB]at he;simp at he;exact⟨m,by rw[he]⟩
  obtain⟨m,rfl⟩:=E;obtain⟨x,o,rfl⟩:∃x o,d=x::o:=by
   cases d with
   |nil=>simp at B
   |cons x o=>exact⟨x,o,rfl⟩
  rw[v,g4 I,A,nB];simp
 .rw[if_neg (by simpa using he)]
  have F:=u he;have G:(b.zip d).find? (λp:aS=>decide (p.1=k))=none:=jn.2 λp l=>by
   have q:=(List.of_mem_zip l).1;obtain⟨j,f,r⟩:=e3 q;have h1:=F (i+j) (by rw[g,cO];omega) I;have e:(a++b)[i+j]'(by rw[cO];omega)=b[j]:=by
    rw[rl I];congr 1;omega
   simp only[g,e,r]at h1;have:=oO h1;simpa using λh=>this h.symm
  rw[G];rfl
def w8(T:aP)(L:O aS)(key:Key)(w:J)(v:Y)(w':J):Prop:=
 ∃aD:bN,b6 w' (T.bL aD T.P)/\cf T (T.bL aD T.P) w w' 30/\(∀j,aD.view j=T.C.view j)/\
  ((v=.tuple #[(),false,(0:Int)]/\(cU key->gy L key=none))\/
   (∃ (t:ad) (x:Key),v=.tuple #[t,true,(0:Int)]/\cU key/\gy L key=some x/\bo (λq=>¬(T.bL aD T.P).M q) w' t x)\/
   (v=.tuple #[(),false,(3:Int)]/\cU key/\¬T.C.D.calm 30))
theorem A3{w:J}{T:aP}{pages:O Nat}{L:O aS}{tk:ad}{key:Key}(h:b6 w T)(S:gu T pages L)(aO:T.C.D.aR<=800000000)(l:Src 1 w tk (aA key))(v:∀q,aC tk q->q<w.heap.size/\¬T.M q):
 aH ai 80 #[.pointer (some T.bg),tk] w (w8 T L key w):=by
 have U:=len8 l;have aQ:=h.num.2.1;have aU:T.bL T.C T.P=T:=rfl;refine okF (ag.sK (some T.bg) tk) az.sK func80 ?_;(delta ag.sK ao b_ dS au aX r1 z4 aa kq aL;dsimp only);refine cC (λb w'=>b= !(decide (cU key))/\w=w') (λq m=>⟨λh=>(by cases h),λ_=>(mT w tk).use ?_⟩) ?_
 .rintro _ _ ⟨rfl,rfl⟩
  refine⟨_,rfl,m _ _ ⟨?_,rfl⟩⟩;unfold cU;rw[U]
 rintro _ _ ⟨rfl,rfl⟩;refine⟨λf=>⟨λh=>(by cases h),λ_=>?_⟩,λf=>?_⟩
 .have:¬cU key:=by simpa using f
  exact⟨T.C,h,(cf.refl T w).mono I,λ_=>rfl,.inl ⟨rfl,λhx=>absurd hx this⟩⟩
 have hg:cU key:=by simpa using f
 obtain⟨steps,x,y⟩:=A1 (k:=key) h S;refine(AF h I l v x).use ?_;rintro _ W ⟨aD,n,g,j,X⟩;rcases X with ⟨s,a,rfl,d,z⟩|⟨rfl,Y⟩
 rotate_left
 .exact⟨⟨none,0,0⟩,3,rfl,λ_=>⟨aD,n,g.mono I,j,.inr (.inr ⟨rfl,hg,λhc=>Y (gp hc I)⟩)⟩,λhx=>(by simp at hx)⟩
 have aV:s.len=a.length:=by
  have:=z.own.1;rw[h3 _ (nq a)]at this;omega
 have aW:a.length=T.aI:=by
  have:=x.length;rw[←d,dJ]at this;exact this
 refine⟨s,0,rfl,λhx=>⟨aD,n,g.mono I,j,.inl ⟨rfl,λ_=>?_⟩⟩,λhx=>?_⟩
 .have Z:a.length=0:=by
   have:(s.len:Int)=0:=by simpa using hx
   omega
  rcases y with ⟨_,_,_,ab⟩|⟨ac,bf,ae,ah,aj,ak,al,am,aE,_⟩
  .rw[ab];rfl
  .rw[aE]at d
   obtain⟨av,_⟩:=uu d;omega
 have Z:0<a.length:=by
  have:¬(s.len:Int)=0:=by simpa using hx
  omega
 have e:IntKind.wrap .i64 ((s.len:Int)-1)=((a.length-1:Nat):Int):=by rw[bB I I];omega
 obtain⟨A,ar,_,_,_,hu⟩:=z.at (i:=a.length-1) I;rcases y with ⟨h1,_⟩|⟨ac,bf,ae,ah,aj,ak,al,am,aE,b4,aX,ee,aY,a0,a1,a2,a3,an,ap⟩
 .rw[h1]at d
  have:=congrArg List.length d;simp at this;omega
 have B:=d;rw[aE]at B;obtain⟨av,E⟩:=uu B;rw[e,dQ];generalize a4:(a[a.length-1]'I)=u at hu E;obtain⟨a5,un,a6,K,V,D⟩:=u;obtain rfl:un=bf:=E;refine⟨A,ar,⟨I,I⟩,_,hu.aT,K,hu.a8,V,hu.bd,D,hu.e1,a_ (vs:=[false,(),(),()]) rfl λa7 F aq a9=>⟨F.bV rfl fQ,rfl,cm F (us:=ec un K V D) rfl rfl λo G aw bb=>?_⟩⟩;have p:Ext W o:=Ext.cy aq aw (bm _);obtain⟨d0,d1,d2,d3⟩:=bD G;have bc:=(cu.fy (.inl ee) (by have:=h.uo _ _ aX;omega));have ax:Src 1 o tk (aA key):=(l.af g.af λq m ay=>(v q m).2 (aP.hG ay)).ext p;have H:bu (λq=>w.heap.size<=q/\¬(T.bL aD T.P).M q) o un K V D:=hu.bP.ext p;refine⟨_,d0,K,d1,V,d2,D,d3,(ot H ax ee.fb I).use ?_⟩;rintro _ aB ⟨rfl,r⟩;have cE:=p.trans r;have N:=n.ext cE;have Q:cf T (T.bL aD T.P) w aB 30:=(g.trans (cf.ext _ cE)).mono I;have t:gy L key=gy un.fw key:=FY an (ap (λL=>fY L key) (DE key));rw[FZ ee]at t;refine⟨_,_,rfl,λc=>⟨aD,N,Q,j,.inl ⟨rfl,λ_=>?_⟩⟩,λc=>?_⟩
 .have c:iF un.keys key=false:=by simpa using c
  rw[t,if_neg (by rw[c];simp)]
 .have c:iF un.keys key=true:=by simpa using c
  have aF:cQ un.keys key<un.keys.length:=(jQ.1 (cw c)).1;have R:cQ un.keys key<un.vals.length:=by rw[ee.len];exact aF
  obtain⟨f0,f1,f2,f3⟩:=bD (G.ext r);obtain⟨aG,ek,aJ,aK,aM,aN,_⟩:=ba.at (H.ext r).vals R;refine⟨V,f2,aG,aJ,aK,ek,aM,aD,N,Q,j,.inr (.inl ⟨ek,un.vals[cQ un.keys key],rfl,hg,?_,bo.aZ aN λq _ f=>f.2⟩)⟩;rw[t,if_pos c,dI R]
structure qZ(T ax:aP):Prop where
 root:ax.root=T.root
 aI:ax.aI=T.aI
 f:ax.f=T.f
 ej:∀no,(T.f no||T.g no)=true->ax.P no=T.P no/\ax.C.view no=T.C.view no
theorem qZ.bL{T:aP}{aD:bN}(a:∀j,aD.view j=T.C.view j):qZ T (T.bL aD T.P):=⟨rfl,rfl,rfl,λno _=>⟨rfl,a no⟩⟩
structure F0(T ax:aP)(aM:O Nat)(dz:O aS):Prop where
 ok:∃pages,ck T<=ck ax+(2*T.aI+3)/\gu ax pages dz/\pages.Nodup/\(∀no∈pages,no∈aM\/(T.f no||T.g no)=false)/\∀no,ax.f no=true↔(no∈pages\/(T.f no=true/\no∉aM))
 ej:∀no,T.g no=true->ax.P no=T.P no/\ax.C.view no=T.C.view no
theorem qZ.ok{T ax:aP}{pages:O Nat}{L:O aS}(h:qZ T ax)(a:gu T pages L)(hf:∀x∈pages,T.f x=true):gu ax pages L:=by
 unfold gu at a⊢;rw[h.root,h.aI];rcases a with a|b
 .exact .inl a
 .exact .inr (fc.agree b λx hx=>(h.ej x (by rw[hf x hx];rfl)).1.symm).1
theorem A4{w:J}{T:aP}(h:b6 w T):aH ai 147 #[.pointer (some T.bg)] w (λv w'=>v=.tuple #[T.root,T.aI]/\Ext w w'):=by
 refine okF (ag.s5 (some T.bg)) az.s5 func147 ?_;(delta ag.s5 ao aE;dsimp only);have hd:=h.ext (cL w);exact⟨λh=>(by cases h),λ_=>aY ⟨_,rfl,id,_,hd.cells.2.2.2.1,_,rfl,id,_,hd.cells.2.2.2.2,rfl,cL w⟩⟩
def uv(n:Nat)(root aI:Int):Prop:=0<=aI/\aI<=12/\0<=root/\root<n/\(root=0↔aI=0)
theorem mS{w:J}{C:bN}(hc:eP w C)(sb:Nat)(gen root aI:Int):
 aH ai 140 #[.pointer (some C.c),.pointer (some sb),.int .u64 gen,root,aI] w (λv w'=>
  (uv C.D.n root aI/\v=.tuple #[.pointer (some w.heap.size),(0:Int)]/\Ext w w'/\Var w' w.heap.size [.pointer (some C.c),.pointer (some sb),.int .u64 gen,root,aI] 239/\w'.heap.size=w.heap.size+1)\/
  (¬uv C.D.n root aI/\v=.tuple #[.pointer none,(1:Int)]/\w=w')):=by
 refine okF (ag.mS (some C.c) (some sb) gen root aI) az.mS func140 ?_;delta ag.mS ao b9 aa;refine cC (λb w'=>(b=false↔(0<=aI/\aI<=12/\0<=root/\root<C.D.n))/\w=w') (λq i=>⟨λh1=>i _ _ ⟨?_,rfl⟩,λh1=>⟨_,rfl,_,hc.cells.1,(uc hc.dev).use ?_⟩⟩) ?_
 .simp only[Option.isNone_some,lh,h8,cx]at h1
  exact⟨λh=>(by cases h),λh=>I⟩
 .rintro _ _ ⟨rfl,rfl⟩
  simp only[Option.isNone_some,lh,pq,jh]at h1;refine⟨_,rfl,i _ _ ⟨?_,rfl⟩⟩;rw[jh];omega
 rintro b _ ⟨j,rfl⟩;refine⟨λh1=>.inr ⟨λhg=>?_,rfl,rfl⟩,λh1=>?_⟩
 .have a:=j.2 ⟨hg.1,hg.2.1,hg.2.2.1,hg.2.2.2.1⟩
  rw[a,lh]at h1;have f:=hg.2.2.2.2;by_cases d:root=0
  .rw[d,f.1 d]at h1;simp at h1
  .have g:aI≠0:=λe=>d (f.2 e)
   have k:(root==0)=false:=by simpa using d
   have l:(aI==0)=false:=by simpa using g
   rw[k,l]at h1
   cases h1
 .rw[pq]at h1
  have a:=j.1 h1.1;have f:root=0↔aI=0:=by
   have d:=h1.2;by_cases g:root=0<;>by_cases m:aI=0<;>simp[g,m]at d⊢
  refine a_ (vs:=[.pointer (some C.c),.pointer (some sb),.int .u64 gen,root,aI]) rfl λp o hx hs=>.inl ⟨⟨a.1,a.2.1,a.2.2.1,a.2.2.2,f⟩,rfl,hx,o,hs⟩
theorem gu.rising{T:aP}{pages:O Nat}{L:O aS}(h:gu T pages L):ij L:=by
 rcases h with ⟨_,_,_,a⟩|b
 .rw[a];exact List.Pairwise.nil
 .exact b.fb.1
section
variable {w0 w w':J}{A5 gM:Nat}{T ax:aP}{r h k:Nat}{pages:O Nat}{L kE:O aS}{ms:ad}
theorem b6.jL{jJ:Nat}(ht:b6 w T)(a:T.E jJ)(hc:ae (λq=>q=jJ) w w'):b6 w' T:=
 ht.grow (E:=T.E) (G:=T.G) hc (λq e _=>.inl (by rw[e];exact a)) (λq a=>.inl a) (λq a=>.inr (.inl a)) λq a=>(ht.dG q a).2.2
end
def aP.uw(T:aP)(f g:Nat->an)(s1 s2:ad):aP:={T with f:=f,g:=g,s1:=s1,s2:=s2}
def aP.b8(T:aP)(bg gen root aI:Nat)(E:Nat->Prop):aP:={T with bg:=bg,gen:=gen,root:=root,aI:=aI,E:=E}
section
variable {w0 w w':J}{A5 gM:Nat}{T ax:aP}{r h k:Nat}{pages:O Nat}{L kE:O aS}{ms:ad}
theorem b6.space{f g:Nat->an}{s1 s2:ad}(ht:b6 w T)(hs:eJ w' T.sb T.n f g s1 s2)(hc:ae (ff T.sb T.s1 T.s2) w w')(hf:∀k,ff T.sb s1 s2 k->ff T.sb T.s1 T.s2 k\/w.heap.size<=k)(d:∀j,T.C.D.bC j=true->g j=true\/T.C.D.ro)(e:g 0=true/\g 1=true):
 b6 w' (T.uw f g s1 s2)/\∀q,(T.uw f g s1 s2).M q->T.M q\/w.heap.size<=q:=by
 have c:∀q,T.X q->¬ff T.sb T.s1 T.s2 q->¬ff T.sb s1 s2 q:=λq hx a i=>by
  rcases hf q i with b|b
  .exact a b
  .have:=ht.lt (q:=q) (.inr hx);omega
 refine⟨⟨ht.t.af hc ht.iH,hs,ht.ca.grow hc (λq a _=>.inr (.inl a)) λq a=>?_,c _ (.inl rfl) ht.iH,λq a=>⟨(ht.dG q a).1,c q (.inr (.inr (.inl a))) (ht.dG q a).2.1,(ht.dG q a).2.2⟩,λq a=>⟨(ht.iu q a).1,c q (.inr (.inr (.inr a))) (ht.iu q a).2⟩,ht.n,ht.num,ht.eF,d,e⟩,λq a=>?_⟩
 .rcases a with a|a|a|a
  .exact .inl (.inl a)
  .rcases hf q a with b|b
   .exact .inl (.inr (.inl b))
   .exact .inr ⟨b,hs.lt q a⟩
  .exact .inl (.inr (.inr (.inl a)))
  .exact .inl (.inr (.inr (.inr a)))
 .rcases a with a|a|a|a|a
  .exact .inl (.inl a)
  .exact .inl (.inr (.inl a))
  .exact(hf q a).imp (λh=>.inr (.inr (.inl h))) id
  .exact .inl (.inr (.inr (.inr (.inl a))))
  .exact .inl (.inr (.inr (.inr (.inr a))))
theorem b6.tree{bg gen root aI:Nat}{E:Nat->Prop}(ht:b6 w T)(hx:Ext w w')(i:Var w' bg (j_ (T.b8 bg gen root aI E)) 239)(d:T.E bg\/w.heap.size<=bg)(f:∀q,E q->q≠bg/\(T.E q\/q=T.bg\/(w.heap.size<=q/\q<w'.heap.size)))
 (j:root<T.n/\aI<=12/\gen<18446744073709551616) (k:∀no bP,T.P no=some bP->no<T.n/\gr gen bP.leaf no (T.C.view no) bP):b6 w' (T.b8 bg gen root aI E):=by
 have m:=i.lt;have h1:¬ff T.sb T.s1 T.s2 bg:=λh=>by
  rcases d with c|c
  .exact(ht.dG _ c).2.1 h
  .have:=ht.lt (q:=bg) (.inr (.inr (.inl h)));omega
 have c:∀q,T.G q->q≠bg:=λq a e=>by
  rcases d with c|c
  .rw[e]at a;exact(ht.dG _ c).2.2 a
  .have:=ht.lt (q:=q) (.inr (.inr (.inr (.inr a))));omega
 have l:∀q,E q->¬ff T.sb T.s1 T.s2 q/\¬T.G q:=λq a=>by
  rcases(f q a).2 with b|b|b
  .exact(ht.dG q b).2
  .rw[b]
   exact⟨ht.iH,λhg=>(ht.iu _ hg).1 rfl⟩
  .exact⟨λg=>by have:=ht.lt (q:=q) (.inr (.inr (.inl g)));omega,λg=>by have:=ht.lt (q:=q) (.inr (.inr (.inr (.inr g))));omega⟩
 refine⟨i,ht.s.ext hx,ht.ca.grow (W:=λ_=>False) hx (λ_ h=>h.elim) λq a=>?_,h1,λq a=>⟨(f q a).1,l q a⟩,λq a=>⟨c q a,(ht.iu q a).2⟩,ht.n,j,k,ht.bC,ht.low⟩;rcases a with a|a|a|a
 .have a:q=bg:=a
  rcases d with b|b
  .exact .inl (.inr (.inr (.inl (by rw[a];exact b))))
  .exact .inr ⟨I,I⟩
 .exact .inl (.inr (.inl a))
 .rcases(f q a).2 with b|b|b
  .exact .inl (.inr (.inr (.inl b)))
  .exact .inl (.inl b)
  .exact .inr b
 .exact .inl (.inr (.inr (.inr a)))
theorem gu.agree{p:O Nat}(a:gu T p L)(b:ax.root=T.root)(c:ax.aI=T.aI)(d:∀x∈p,T.P x=ax.P x):gu ax p L:=by
 unfold gu at a⊢;rw[b,c];exact a.imp id λe=>(e.agree d).1
end
section
variable {w0 w w':J}{A5 gM:Nat}{T ax:aP}{r h k:Nat}{pages:O Nat}{L kE:O aS}{ms:ad}
theorem F1{s:ad}(h:p2 ai w 5 s):∃l:O UInt8,Src 1 w s (aA l):=by
 obtain⟨l,h1,_,_⟩:=h.src (c:=λc:UInt8=> [Value.int .u8 (c.toNat:Int)]) (sz:=1) (by kernel_rfl) (λ_=>True) λfuel us b=>by
  obtain⟨n,rfl,d,f⟩:=p3 b (k:=.u8) (by kernel_rfl);have i:=yj d f;refine⟨UInt8.ofNat n.toNat,?_,trivial⟩;simp only[pD]
  congr 2
  omega
 have e:∀l:O UInt8,(l.map λc:UInt8=> [Value.int .u8 (c.toNat:Int)]).flatten=aA l:=λl=>by
  unfold aA
  induction l with
  |nil=>rfl
  |cons a l g=>rw[gF,List.flatten_cons,g];rfl
 rw[e]at h1;exact⟨l,h1⟩
end
theorem A6:∀ {a b:O Nat},a.Nodup->(∀x∈a,x∈b)->a.length<=b.length
 | [],_,_,_=>cZ _
 |x::a,b,d,hs=>by
  obtain⟨h1,f⟩:=List.nodup_cons.1 d
  have hx:=hs x (by simp)
  have:=A6 (a:=a) (b:=b.erase x) f λy c=>(List.mem_erase_of_ne (λe=>h1 (by rw[←e];exact c))).2 (hs y (jg _ c))
  rw[List.length_erase_of_mem hx]at this
  have:=List.length_pos_of_mem hx
  rw[hO];omega
theorem F2{t:Nat->an}{l:O Nat}(n:Nat)(h:∀i,i<n->t i=true->i∈l):ey t n<=l.length:=by
 have h1:∀n,ey t n=((List.range n).filter t).length:=by
  intro n
  induction n with
  |zero=>rfl
  |succ n a=>
   rw[List.range_succ,kJ,cO,ey,a,rp,List.filter_nil]
   cases t n<;>rfl
 rw[h1];refine A6 (List.nodup_range.filter t) λx hx=>?_;rw[gE,ji]at hx;exact h x hx.1 hx.2
section
variable {α:Type}{P:Program}{w w':J}{gI ko T:TypeId}{enc:α->Y}{r m:Nat}{L:O (α×Y×Nat)}{seen:O Nat}
structure jM(w:J)(r m:Nat)(enc:α->Y)(L:O (α×Y×Nat))(seen:O Nat):Prop where
 it:∃a:Nat,w.heap[r]? =some (.mapIter (some m) a seen.toArray a)/\w.heap[m]? =some (.map (L.map (dR enc)).toArray a)/\∀x∈L,x.2.2<a
 bP:(L.map (·.2.2)).Nodup
def fI(L:O (α×Y×Nat))(seen:O Nat):O (α×Y×Nat):=L.filter λx=> !seen.contains x.2.2
theorem A7(P:Program){n:Nat}(b:1<=n)(w:J):∃ (i:Nat) (w':J),i<n/\(choose (.mapNext n)).run P w=.ok i w'/\(w'=w\/w'=w.drew):=by
 by_cases h:n<=1
 .refine⟨0,w,I,?_,.inl rfl⟩
  show Sem.run P (.choose (.mapNext n) .pure) w=_;have a:(Question.mapNext n).forced=true:=by simp[Question.forced,h]
  simp only[Sem.run,a,if_true]
 .refine⟨(Question.mapNext n).cut (w.tape w.drawn (.mapNext n)),w.drew,hN _ I,?_,.inr rfl⟩
  show Sem.run P (.choose (.mapNext n) .pure) w=_;have a:(Question.mapNext n).forced=false:=by simp[Question.forced,h]
  simp only[Sem.run,a,fC,if_false];rfl
theorem w9{a:aq Nat}{b d:Nat}{c:Array Nat}(h:w.heap[r]? =some (.mapIter a b c d)):(getObj r).run P w=.ok (.mapIter a b c d) w:=by simp[getObj,Sem.run,h]
theorem F3{a:aq Nat}{b d:Nat}{c:Array Nat}(h:w.heap[r]? =some (.mapIter a b c d))(e:Obj):(setObj r e).run P w=.ok () (g8 w r e):=by simp[setObj,Sem.run,h,g8]
theorem jM.begin{M:O (α×Y)}(h:ed w m enc M){T:TypeId}{gI ko:TypeId}(b:P.underlying T=some (.map gI ko)):∃ (L:O (α×Y×Nat)) (w1:J),(L.map kT).Perm M/\(Instr.range T (.map (some m))).run P w=.ok (.pointer (some w.heap.size)) w1/\jM w1 w.heap.size m enc L []/\Ext w w1/\w1.heap.size=w.heap.size+1:=by
 have aK:=h.lt;obtain⟨L,a,h1,c,f,d,e⟩:=h;refine⟨L,w.alloc (.mapIter (some m) a #[] a),c,?_,⟨⟨a,?_,?_,e⟩,d⟩,ae.alloc (.refl _ _) _,by simp⟩
 .simp only[Instr.range,Sem.run_bind,cW b,Result.andThen,kV h1,Sem.run_pure,newObj,Sem.run]
  rfl
 .show(w.heap.push _)[w.heap.size]? =_
  simp
 .show(w.heap.push _)[m]? =_
  rw[Array.getElem?_push_lt aK];exact(Array.getElem?_eq_getElem aK).symm.trans h1
theorem jM.next(h:jM w r m enc L seen)(F:r≠m)(T:TypeId):
 (fI L seen=[]/\∃w1,(Instr.next (.pointer (some r)) false T).run P w=.ok (.tuple #[false]) w1/\Ext w w1/\w1.heap=w.heap)\/
 (∃x∈fI L seen,∃w1,(Instr.next (.pointer (some r)) false T).run P w=.ok (.tuple #[true,enc x.1,x.2.1]) w1/\jM w1 r m enc L (seen++ [x.2.2])/\ae (λq=>q=r) w w1/\w1.heap.size=w.heap.size/\(Instr.entry (.pointer (some r))).run P w1=.ok (.tuple #[enc x.1,x.2.1]) w1):=by
 obtain⟨⟨a,h1,d,f⟩,k⟩:=h;have o:(!seen.toArray.isEmpty&& !((L.map (dR enc)).toArray).isEmpty&&((L.map (dR enc)).toArray).all λe=>decide (e.born>=a))=false:=by
  cases L with
  |nil=>simp
  |cons x L=>
   have:¬a<=x.2.2:=by have:=f x (by simp);omega
   simp[dR,this]
 have g:((L.map (dR enc)).toArray.filter λe=> !seen.toArray.contains e.born)=((fI L seen).map (dR enc)).toArray:=by
  rw[List.filter_toArray,List.filter_map]
  congr 1
  unfold fI
  congr 1
  apply List.filter_congr;intro x _;simp only[Function.comp,dR,List.contains_toArray]
 have aK:∀x∈fI L seen,x.2.2<a:=λx hx=>f x (gE.1 hx).1;have hold:(((fI L seen).map (dR enc)).toArray.filter λe=>decide (e.born<a))=((fI L seen).map (dR enc)).toArray:=by
  rw[List.filter_toArray,kI.2];intro e he;obtain⟨x,hx,rfl⟩:=e9.1 he;exact dU (aK x hx)
 have j:(((fI L seen).map (dR enc)).toArray.filter λe=>decide (e.born>=a))= #[]:=by
  rw[List.filter_toArray,pv.2];intro e he;obtain⟨x,hx,rfl⟩:=e9.1 he;have:=aK x hx;have G:¬a<=x.2.2:=by omega
  simp[dR,G]
 cases b:fI L seen with
 |nil=>
  rw[b]at g hold j;obtain⟨i,w1,hi,hc,c⟩:=A7 P (n:=1) (bm _) w;have H:i=0:=by omega
  subst H;refine .inl ⟨rfl,w1,?_,?_,?_⟩
  .simp only[Instr.next,Sem.run_bind,w9 h1,Result.andThen,kV d,o,fC,if_false,g,hold,j]
   simp only[List.map_nil,Array.isEmpty,rm,lr,decide_true,if_true];have e:(#[none]++((#[]:Array MapEntry)++ #[]).map some:Array (aq MapEntry)).size=1:=by simp
   have p:((#[none]++((#[]:Array MapEntry)++ #[]).map some:Array (aq MapEntry)))[0]? =some none:=by simp
   simp only[e,Sem.run_bind,hc,Result.andThen,p,Sem.run_pure,Sem.run_pure]
  .rcases c with rfl|rfl
   .exact .refl _ _
   .exact ae.drew (.refl _ _)
  .rcases c with rfl|rfl<;>rfl
 |cons y l=>
  right;rw[←b];have A:1<=(fI L seen).length:=by rw[b];simp
  obtain⟨i,w1,hi,hc,c⟩:=A7 P (n:=(fI L seen).length) A w;have s:w1.heap=w.heap:=by rcases c with rfl|rfl<;>rfl
  obtain⟨x,hx⟩:∃x,x=(fI L seen)[i]:=⟨_,rfl⟩;have t:x∈fI L seen:=by rw[hx];exact cK _
  have B:x∈L:=(gE.1 t).1;have C:w1.heap[r]? =some (.mapIter (some m) a seen.toArray a):=by rw[s];exact h1
  have I:r<w1.heap.size:=(kH.1 C).1;have u:(g8 w1 r (.mapIter (some m) a (seen.toArray.push x.2.2) a)).heap[r]? =some (.mapIter (some m) a (seen++ [x.2.2]).toArray a):=by
   rw[rW I];simp
  have v:(g8 w1 r (.mapIter (some m) a (seen.toArray.push x.2.2) a)).heap[m]? =some (.map (L.map (dR enc)).toArray a):=by
   have D:w1.heap[m]? =some (.map (L.map (dR enc)).toArray a):=by rw[s];exact d
   rw[(p9 w1 r _).block m (kH.1 D).1 (λe=>F e.symm)];exact D
  refine⟨x,t,g8 w1 r (.mapIter (some m) a (seen.toArray.push x.2.2) a),?_,⟨⟨a,u,v,f⟩,k⟩,?_,?_,?_⟩
  .simp only[Instr.next,Sem.run_bind,w9 h1,Result.andThen,kV d,o,fC,if_false,g,hold,j]
   have J:((fI L seen).map (dR enc)).toArray.isEmpty=false:=by rw[b];rfl
   have e:((#[]:Array (aq MapEntry))++(((fI L seen).map (dR enc)).toArray++ #[]).map some).size=(fI L seen).length:=by simp
   have p:((#[]:Array (aq MapEntry))++(((fI L seen).map (dR enc)).toArray++ #[]).map some)[i]? =some (some (dR enc x)):=by
    simp[hi,hx]
   simp only[J,fC,if_false,e,Sem.run_bind,hc,Result.andThen,p,F3 C,Sem.run_pure,dR]
  .have K:ae (λq=>q=r) w w1:=by
    rcases c with rfl|rfl
    .exact .refl _ _
    .exact ae.drew (.refl _ _)
   exact K.trans (p9 _ _ _)
  .rw[rV,s]
  .have M:(seen++ [x.2.2]).toArray.back? =some x.2.2:=by simp
   have hf:((L.map (dR enc)).toArray.find? λe=>e.born==x.2.2)=some (dR enc x):=by
    rw[List.find?_toArray,List.find?_map];have:L.find? ((λe:MapEntry=>e.born==x.2.2)∘dR enc)=some x:=by
     clear b A hi hc t hx u v g hold j aK o d f
     induction L with
     |nil=>cases B
     |cons z L N=>
      rw[gF]at k;obtain⟨bM,bf⟩:=List.nodup_cons.1 k;rw[List.find?_cons];rcases c8.1 B with rfl|E
      .simp[dR]
      .have O:z.2.2≠x.2.2:=λe=>bM (by rw[e];exact e9.2 ⟨x,E,rfl⟩)
       have:((λe:MapEntry=>e.born==x.2.2)∘dR enc) z=false:=by simp[dR,O]
       rw[this];exact N bf E
    rw[this];rfl
   have Q:(a !=a)=false:=by simp
   simp only[Instr.entry,Sem.run_bind,w9 u,Result.andThen,M,kV v,Q,fC,if_false,hf,Sem.run_pure,dR]
theorem ed.clear{M:O (α×Y)}(h:ed w m enc M){o:TypeId}(b:P.underlying T=some (.map gI ko)):∃w1,(Builtin.clear_ #[T] o #[.map (some m)]).run P w=.ok (.tuple #[]) w1/\ed w1 m enc ([]:O (α×Y))/\ae (λq=>q=m) w w1/\w1.heap.size=w.heap.size:=by
 have aK:=h.lt;obtain⟨L,a,h1,c,d,e,f⟩:=h;refine⟨g8 w m (.map #[] a),?_,⟨[],a,rW aK _,by simp,by simp,by simp,by simp⟩,p9 _ _ _,rV _ _ _⟩;unfold Builtin.clear_;simp only[q_,me,Sem.run_bind,cW b,Result.andThen,kV h1,vo h1,Sem.run_pure]
end
theorem F4{w:J}{lb:Nat}{ls:O c7}{T:TypeId}(h:bh w lb (cc aA ls).toArray T)(hs:∀x∈ls,x.length=256){i:Nat}(hi:i<ls.length){x:c7}(hx:x.length=256):
 bj w ⟨lb,i*256,none⟩ (aA x)/\bh (setCells w ⟨lb,i*256,none⟩ 0 (aA x)) lb (cc aA (ls.set i x)).toArray T/\ae (λq=>q=lb) w (setCells w ⟨lb,i*256,none⟩ 0 (aA x)):=by
 have a:∀x∈ls,(aA x).length=256:=λx hx=>by rw[dj];exact hs x hx
 have f:=h3 (c:=aA) ls a;have b:(aA x).length=256:=by rw[dj];exact hx
 have d:i*256+(aA x).length<=(cc aA ls).toArray.size:=by
  rw[rm,f,b];omega
 refine⟨bh.bV h _ _ d (j0 _),?_,ae.jX (.refl _ _) _ 0⟩;have h0:=bh.lH (o:=i*256) h (aA x);have h1:=lG (aA x) (cc aA ls).toArray (i*256) d;have g:=zR a hi x;rw[b]at h1;have j:(fT (cc aA ls).toArray (i*256) (aA x)).toList=cc aA (ls.set i x):=h1.trans g;have e:fT (cc aA ls).toArray (i*256) (aA x)=(cc aA (ls.set i x)).toArray:=by rw[←j]
 rw[e]at h0;exact h0
theorem F5{α:Type}{L:O (α×Y×Nat)}{seen:O Nat}{x:α×Y×Nat}(h:x∈fI L seen):(fI L (seen++ [x.2.2])).length<(fI L seen).length:=by
 have e:fI L (seen++ [x.2.2])=(fI L seen).filter λy=> !(y.2.2==x.2.2):=by
  unfold fI;rw[List.filter_filter];apply List.filter_congr;intro y _;rw[fD];simp only[iK,dt,List.contains_eq_mem,jh,cM,fh,beq_eq_false_iff_ne];constructor
  .exact λh=>⟨λa=>h (.inr a),λa=>h (.inl a)⟩
  .rintro⟨h1,a⟩ (b|b)
   .exact a b
   .exact h1 b
 rw[e];exact List.length_filter_lt_length_iff_exists.2 ⟨x,h,by simp⟩
def w_{α:Type}(L:O (α×Y×Nat))(r:Nat)(w:J):Nat:=match w.heap[r]? with
 |some (.mapIter _ _ seen _)=>(fI L seen.toList).length
 |_=>0
theorem jM.left{α:Type}{w:J}{r m:Nat}{enc:α->Y}{L:O (α×Y×Nat)}{seen:O Nat}(h:jM w r m enc L seen):w_ L r w=(fI L seen).length:=by
 obtain⟨⟨a,h1,_⟩,_⟩:=h;unfold w_;rw[h1]
theorem jM.af{α:Type}{W:Nat->Prop}{w w':J}{r m:Nat}{enc:α->Y}{L:O (α×Y×Nat)}{seen:O Nat}(h:jM w r m enc L seen)(hc:ae W w w')(b:¬W r)(c:¬W m):jM w' r m enc L seen:=by
 obtain⟨⟨d,h1,a,e⟩,f⟩:=h;exact⟨⟨d,by rw[hc.block r (kH.1 h1).1 b];exact h1,by rw[hc.block m (kH.1 a).1 c];exact a,e⟩,f⟩
def a6.h5(D:a6):a6:={D with bx:=(List.range D.n).map D.now,waits:=[]}
theorem q0(D:a6):D.h5.n=D.n:=by simp[a6.h5,a6.n]
theorem xa(D:a6){i:Nat}(hi:i<D.n):D.h5.now i=D.now i:=by
 show((List.range D.n).map D.now).getD i []=_;rw[eX (by simp;exact hi)];simp
def F6(D:a6)(w:J)(v:Y)(w':J):Prop:=
 (D.fA 3=true/\v=.int .i64 3/\c4 w' (D.cn 3)/\ae (λq=>q=D.d) w w')\/
 (D.fA 3=false/\v=.int .i64 0/\c4 w' (D.cn 3).h5/\ae (cd D) w w')
theorem xb{w:J}{D:a6}(h:c4 w D)(bs:D.aR<=1000000000):aH ai 76 #[.pointer (some D.d)] w (F6 D w):=by
 refine okF (ag.sJ (some D.d)) az.sJ func76 ?_;(delta ag.sJ ao b_ vu r1 jY aL vx;dsimp only);refine⟨λh1=>(by cases h1),λ_=>⟨_,rfl,(wD h (k:=3) (by decide)).use ?_⟩⟩;rintro _ aj ⟨rfl,f,ah,bt⟩;obtain⟨a7,p⟩:∃a7,a7=D.cn 3:=⟨_,rfl⟩;have aJ:a7.d=D.d:=by rw[p];rfl
 have bu:a7.lb=D.lb:=by rw[p];rfl
 have aK:a7.mr=D.mr:=by rw[p];rfl
 have aM:a7.n=D.n:=by rw[p];rfl
 have aN:cd a7=cd D:=by rw[p];rfl
 have bv:a7.aR=D.aR:=by rw[p];rfl
 rw[←p]at f;refine⟨_,rfl,λE=>.inl ⟨E,rfl,by rw[←p];exact f,ah⟩,λE=>?_⟩;rw[←aJ];have ak:=f.bf;obtain⟨L,al,am,an,ap,aq,bw⟩:=jM.begin (P:=ai) f.m l0;obtain⟨r,aO⟩:∃r,r=aj.heap.size:=⟨_,rfl⟩;rw[←aO]at an ap;have aP:r≠a7.mr:=by have:=f.m.lt;omega
 have au:∀q,cd a7 q->q≠r:=λq F e=>by have:=f.lt F;omega
 have aQ:∀x∈L,∃y∈a7.waits,x.1=(y.i:Int):=λx hx=>by
  have:=am.mem_iff.1 (e9.2 ⟨x,hx,rfl⟩);obtain⟨y,u,e⟩:=e9.1 this;refine⟨y,u,?_⟩;have:=congrArg Prod.fst e;exact this.symm
 have aS:∀y∈a7.waits,∃x∈L,x.1=(y.i:Int):=λy u=>by
  have:y.e∈L.map kT:=am.mem_iff.2 (e9.2 ⟨y,u,rfl⟩);obtain⟨x,hx,e⟩:=e9.1 this;exact⟨x,hx,congrArg Prod.fst e⟩
 refine⟨_,rfl,some a7.mr,f.cH,_,al,an,λw'=>∃ (seen:O Nat) (ls:O c7),jM w' r a7.mr encZ L seen/\c4 w' {a7 with bx:=ls}/\ls.length=a7.n/\(∀ (j:Nat) (G:j<ls.length),ls[j]=if ∃x∈L,x.2.2∈seen/\x.1=(j:Int) then a7.now j else a7.bx.getD j [])/\ae (λq=>cd a7 q) aj w'/\al.heap.size<=w'.heap.size,
  w_ L r,⟨[],a7.bx,ap,f.ext aq,rfl,λj G=>?_,ae.cP aq,bm _⟩,?_⟩
 .rw[if_neg (by rintro⟨x,_,h1,_⟩;cases h1),eX G]
 rintro av ⟨seen,ls,S,A,B,ib,K,bz⟩;have T:∀s∈ls,s.length=256:=A.sl;have bA:r<av.heap.size:=by omega
 have aT:a7.lb≠r:=au _ (.inr (.inl rfl));rcases S.next (P:=ai) aP 0 with ⟨aU,aV,U,aw,bB⟩|⟨x,hx,M,U,aW,ax,bC,aX⟩
 .
  refine .inr ⟨aV,U,λh=>(by cases h),λ_=>?_⟩;have N:=A.ext aw;obtain⟨aZ,a0,a4,V,bD⟩:=ed.clear (P:=ai) (o:=0) N.m l0;refine⟨_,rfl,some a7.mr,N.cH,_,aZ,a0,.inr ⟨E,rfl,?_,?_⟩⟩
  .have a5:∀x∈L,x.2.2∈seen:=λx hx=>by
    have:=pv.1 aU x hx;simpa using this
   have a8:ls=(List.range D.n).map D.now:=by
    refine rh (by simp[B,aM]) λj h1 t=>?_;rw[ib j h1,List.getElem_map,List.getElem_range];have W:D.now j=a7.now j:=by rw[p];rfl
    rw[W];split
    .rfl
    .rename_i a9
     unfold a6.now
     cases hf:a7.waits.find? λx=>x.i==j with
     |some y=>
      exfalso;have u:=iy hf;have a_:y.i=j:=by simpa using jo hf
      obtain⟨x,hx,e⟩:=aS y u;exact a9 ⟨x,hx,a5 x hx,by rw[e,a_]⟩
     |none=>rfl
   have X:a7.d≠a7.mr:=f.a1.2.1;have ba:a7.lb≠a7.mr:=f.a1.2.2;have e:(D.cn 3).h5={a7 with bx:=ls,waits:=[]}:=by
    rw[a8,p];rfl
   rw[e];refine⟨N.v.af V X,bh.af N.l V ba,a4,λx hx=>(by cases hx),λx hx=>(by cases hx),T,λx hx=>(by cases hx),?_,?_,A.f4,A.fr,A.a1,λx hx=>(by cases hx),λx hx=>(by cases hx),A.r⟩
   .show 16<=ls.length;rw[B];exact f.bM
   .show ls.length<=1600;rw[B];exact ak
  .have bb:cd D D.d:=.inl rfl
   have hc:ae (λq=>cd D q) w aj:=ah.mono λq _ e=>by rw[e];exact bb
   have K:ae (λq=>cd D q) aj av:=by rw[←aN];exact K
   have bc:=cV hc K λq _ h=>h;have bd:=cV bc aw λq _ h=>h.elim;exact cV bd V λq _ be=>by rw[be,aK];exact .inr (.inr (.inl rfl))
 .
  have Y:x∈L:=(gE.1 hx).1;have bE:x.2.2∉seen:=by
   have:=(gE.1 hx).2;simpa using this
  obtain⟨y,u,Z⟩:=aQ x Y;have bg:=A.af ax λq F=>au q F;have hi:y.i<a7.n:=(f.wn y u).2.1;have bi:y.i<ls.length:=by omega
  refine .inl ⟨_,_,M,U,λ_=>⟨(y.i:Int),x.2.1,M,?_,?_⟩,λh=>(by cases h)⟩
  .rw[aX]
   have e:encZ x.1=y.i:=by rw[Z]
   rw[e]
  have aB:=cL M;have aa:=bg.ext aB;have bj:({a7 with bx:=ls}:a6).n=a7.n:=B;refine aY ⟨λ_=>False,_,rfl,id,⟨some a7.lb,ls.length,ls.length⟩,aa.e1,(zV (i:=y.i) aa (by rw[bj];exact hi) (by show a7.aR<=_;omega)).use ?_⟩;rintro _ Q ⟨rfl,ab⟩;have g:=aa.ext ab;have W:({a7 with bx:=ls}:a6).now y.i=a7.now y.i:=by
   unfold a6.now
   cases hf:a7.waits.find? λx=>x.i==y.i with
   |some z=>rfl
   |none=>
    have:=jn.1 hf y u;simp at this
  have ac:(a7.now y.i).length=256:=f.qP hi;rw[W];have ar:Addr.add a7.lb (Int.toNat (y.i:Int)*256)=⟨a7.lb,y.i*256,none⟩:=by rw[dQ,ay,cS]
  obtain⟨cr,cq,bk⟩:=F4 g.l T bi ac;refine⟨_,rfl,ab,_,rfl,⟨I,by show(y.i:Int)<(ls.length:Int);omega⟩,by rw[ar];exact cr,by simp[dj,ac],?_⟩;rw[ar];refine aY ?_;show _/\_;have aC:bh (setCells Q ⟨a7.lb,y.i*256,none⟩ 0 (aA (a7.now y.i)).toArray.toList) a7.lb (cc aA (ls.set y.i (a7.now y.i))).toArray 182:=cq;have C:ae (λq=>q=a7.lb) Q (setCells Q ⟨a7.lb,y.i*256,none⟩ 0 (aA (a7.now y.i)).toArray.toList):=bk;generalize setCells Q ⟨a7.lb,y.i*256,none⟩ 0 (aA (a7.now y.i)).toArray.toList=aD at aC C;have ad:=Ext.trans aB ab;have aE:=(aW.af ad id id).af C (λe=>aT e.symm) λe=>f.a1.2.2 e.symm;have bl:ae (λq=>cd a7 q) aj aD:=by
   have h1:ae (λq=>cd a7 q) aj M:=cV K ax λq F e=>by omega
   have t:=cV h1 ad λq _ h=>h.elim;exact cV t C λq _ e=>by rw[e];exact .inr (.inl rfl)
  have bF:=ad.size;have bG:=C.size;have bn:c4 aD {a7 with bx:=ls.set y.i (a7.now y.i)}:=by
   have X:a7.d≠a7.lb:=f.a1.1;refine⟨?_,aC,g.m.af C λe=>f.a1.2.2 e.symm,λx hx=>(g.ws x hx).af C λq F e=>(g.a2 x hx).2.1 (by rw[←e];exact F),?_,λs hs=>?_,g.l1,?_,?_,g.f4,g.fr,g.a1,g.a2,g.a3,g.r⟩
   .have h1:=g.v.af C X
    have e:({a7 with bx:=ls.set y.i (a7.now y.i)}:a6).c=({a7 with bx:=ls}:a6).c:=by unfold a6.c;simp
    rw[e];exact h1
   .intro z bo
    have:=g.wn z bo;refine⟨this.1,?_,this.2.2⟩;show z.i<(ls.set y.i (a7.now y.i)).length;rw[dg];exact this.2.1
   .rcases lq hs with h1|rfl
    .exact T s h1
    .exact ac
   .show 16<=(ls.set y.i (a7.now y.i)).length;rw[dg,B];exact f.bM
   .show(ls.set y.i (a7.now y.i)).length<=1600;rw[dg,B];exact ak
  refine⟨⟨seen++ [x.2.2],_,aE,bn,by rw[dg];exact B,λj G=>?_,bl,I⟩,?_⟩
  .rw[dg]at G
   rw[pt];split
   .rename_i e
    subst e;rw[if_pos ⟨x,Y,by simp,Z⟩]
   .rename_i bp
    rw[ib j G];have:(∃H∈L,H.2.2∈seen/\H.1=(j:Int))↔∃H∈L,H.2.2∈seen++ [x.2.2]/\H.1=(j:Int):=by
     constructor
     .rintro⟨z,h1,t,R⟩
      exact⟨z,h1,iN _ t,R⟩
     .rintro⟨z,h1,t,R⟩
      rcases cM.1 t with t|t
      .exact⟨z,h1,t,R⟩
      .have bq:z=x:=by
        have aF:=S.bP;obtain⟨a,aG,rfl⟩:=e3 h1;obtain⟨b,E,rfl⟩:=e3 Y;have aI:=fh.1 t;have br:a=b:=by
         rcases Nat.lt_trichotomy a b with h|h|h
         .have:=ln.1 aF a b (by simpa using aG) (by simpa using E) h
          simp at this;exact absurd aI this
         .exact h
         .have:=ln.1 aF b a (by simpa using E) (by simpa using aG) h
          simp at this;exact absurd aI.symm this
        subst br;rfl
       rw[bq,Z]at R;exact absurd I bp
    simp only[this]
  .rw[aE.left,S.left]
   exact F5 hx
structure e7 where
 ak:Nat
 batch:Nat
 hX:Nat
def e7.c(l:e7):O Y:=[l.ak,l.batch,.int .u64 (l.hX:Nat)]
def nu(f b d:Int):Prop:=8<=f/\f<=64/\1<=b/\b<=1000/\1<=d/\d<=1048576
instance Ha(f b d:Int):Decidable (nu f b d):=by unfold nu;infer_instance
section
variable {w w':J}{D:a6}
theorem oe(w:J)(p:aq ah)(f b d:Int):aH ai 70 #[.pointer p,.agg #[f,b,.int .u64 d]] w (λv w'=>v=.bool (!(Option.isNone p)&&decide (nu f b d))/\Ext w w'):=by
 refine okF (ag.oe p f b d) az.oe func70 ?_;(delta ag.oe ao aE aa b4;dsimp only);refine a_ (vs:=[f,b,.int .u64 d]) rfl λw1 c hx hs=>?_;refine cC (λx w'=>x=(!(Option.isNone p)&&decide (8<=f))/\w1=w') (λq a=>⟨λh=>⟨f,c.cell,a _ _ ⟨by rw[h,h7],rfl⟩⟩,λh=>a _ _ ⟨by rw[h,kL],rfl⟩⟩) ?_;rintro e _ ⟨h1,rfl⟩;refine cC (λx w'=>x=(e&&decide (f<=64))/\w1=w') (λq a=>⟨λh=>⟨f,c.cell,a _ _ ⟨by rw[h,h7],rfl⟩⟩,λh=>a _ _ ⟨by rw[h,kL],rfl⟩⟩) ?_;rintro g _ ⟨i,rfl⟩;refine cC (λx w'=>x=(g&&decide (1<=b))/\w1=w') (λq a=>⟨λh=>⟨b,by rw[ay];exact c.cell,a _ _ ⟨by rw[h,h7],rfl⟩⟩,λh=>a _ _ ⟨by rw[h,kL],rfl⟩⟩) ?_;rintro j _ ⟨k,rfl⟩;refine cC (λx w'=>x=(j&&decide (b<=1000))/\w1=w') (λq a=>⟨λh=>⟨b,by rw[ay];exact c.cell,a _ _ ⟨by rw[h,h7],rfl⟩⟩,λh=>a _ _ ⟨by rw[h,kL],rfl⟩⟩) ?_;rintro l _ ⟨m,rfl⟩;refine cC (λx w'=>x=(l&&decide (1<=d))/\w1=w') (λq a=>⟨λh=>⟨d,by rw[ay];exact c.cell,a _ _ ⟨by rw[h,h7],rfl⟩⟩,λh=>a _ _ ⟨by rw[h,kL],rfl⟩⟩) ?_;rintro n _ ⟨o,rfl⟩;refine cC (λx w'=>x=(n&&decide (d<=1048576))/\w1=w') (λq a=>⟨λh=>⟨d,by rw[ay];exact c.cell,a _ _ ⟨by rw[h,h7],rfl⟩⟩,λh=>a _ _ ⟨by rw[h,kL],rfl⟩⟩) ?_;rintro s _ ⟨r,rfl⟩;refine⟨?_,hx⟩;rw[r,o,m,k,i,h1,Value.bool.injEq,fD];simp only[dt,cx,and_assoc];exact Iff.rfl
theorem ux{D:a6}{no:Nat}{s:ad}{l:c7}{N:Nat}(a:∀q,aC s q->cd D q\/N<=q):∀q,cd (D.put no s l) q->cd D q\/N<=q:=by
 rintro q (e|e|e|⟨x,hx,e⟩)
 .exact .inl (.inl e)
 .exact .inl (.inr (.inl e))
 .exact .inl (.inr (.inr (.inl e)))
 .rcases c8.1 hx with rfl|hx
  .exact a q e
  .exact .inl (.inr (.inr (.inr ⟨x,(gE.1 hx).1,e⟩)))
def F7(D:a6)(u:en)(gen:Nat)(w:J)(v:Y)(w':J):Prop:=
 ae (cd D) w w'/\((D.fA 2=true/\v=.int .i64 3/\c4 w' (D.cn 2))\/
 (D.fA 2=false/\∃s:ad,(∀q,aC s q->cd D q\/w.heap.size<=q)/\∃a7:a6,a7=D.put (gen%2) s (dX (gen%2) (h4 u D.n gen))/\
   ((a7.fA 3=true/\v=.int .i64 3/\c4 w' (a7.cn 3))\/(a7.fA 3=false/\v=.int .i64 0/\c4 w' (a7.cn 3).h5))))
theorem lO(h:c4 w D)(O:D.aR<=999999999){u:en}(hu:l2 u){gen:Nat}(hg:gen<18446744073709551616):
 aH ai 77 #[.pointer (some D.d),.agg u.c.toArray,.int .u64 (gen:Nat)] w (F7 D u gen w):=by
 have P:=h.bM;have Q:=h.bf;refine ag.CC _ (u.root:Nat) (u.aI:Nat) (u.map:Nat) (u.clock:Nat) (u.da:Nat) (u.keys:Nat) (gen:Nat) w _ ?_;(delta ag.lO aa aE b4 b9 bG dS au ao;dsimp only);have z:IntKind.wrap .i64 (Int.tmod (gen:Int) 2)=((gen%2:Nat):Int):=by
  rw[rn I,bB I I];omega
 refine a_ (vs:=u.c) rfl λw1 A g R=>⟨by decide,?_⟩;have a:=cL w1;have B:=A.ext a;have C:=h.ext (g.trans a);refine aY ⟨λ_=>False,id,o5 B ((uc C).use ?_)⟩;rintro _ _ ⟨rfl,rfl⟩;refine⟨_,rfl,ae.refl _ _,(oo hu (n:=D.n) I).use ?_⟩;rintro _ E ⟨j,rfl,F,r,S⟩;rw[z];refine⟨j,rfl,λ_=>False,#[(3:Int),.int .u64 (gen:Nat),j],λT=>by kernel_rfl,(tR (s:=j) (p:=h4 u D.n gen) F.src I (wG hg)).use ?_⟩;rintro _ U ⟨G,rfl,H,t,J⟩;have cE:=(g.trans a).trans (Ext.trans r t);have K:=h.ext cE;have V:=cE.size;have L:(dX (gen%2) (h4 u D.n gen)).length=256:=qF _ (wG hg);have W:w.heap.size<=E.heap.size:=by have:=(g.trans a).size;have:=r.size;omega
 refine⟨G,0,rfl,t,λh=>(by cases h),λ_=>(ud K (i:=gen%2) I I H.src L λq b hf=>by have:=J q b;have:=h.lt hf;omega).use ?_⟩;rintro _ M (⟨f,rfl,hd,hc⟩|⟨f,rfl,s,hd,hc,v⟩)
 .exact⟨3,rfl,λ_=>⟨cV (cE.mono λ_ _ h=>h.elim) hc λq _ e=>by rw[e];exact .inl rfl,.inl ⟨f,rfl,hd⟩⟩,λh=>(by cases h)⟩
 .have x:ae (cd D) w M:=cV (cE.mono λ_ _ h=>h.elim) hc λq _ e=>e
  have N:=ux (no:=gen%2) (l:=dX (gen%2) (h4 u D.n gen)) v;refine⟨0,rfl,λh=>(by cases h),λ_=>(xb hd (by show D.aR+1<=_;omega)).use ?_⟩;have y:∀q,aC s q->cd D q\/w.heap.size<=q:=λq b=>(v q b).imp id λh=>by omega
  rintro _ X (⟨k,rfl,m,o⟩|⟨k,rfl,m,o⟩)
  .exact⟨3,rfl,cV x o λq _ e=>by rw[e];exact .inl rfl,.inr ⟨f,s,y,_,rfl,.inl ⟨k,rfl,m⟩⟩⟩
  .exact⟨0,rfl,cV x o λq b e=>(N q e).resolve_right I,.inr ⟨f,s,y,_,rfl,.inr ⟨k,rfl,m⟩⟩⟩
end
section
variable {w w':J}{C:bN}{X:Nat->Prop}
def Fr.gi(f:Fr):an:=f.full&&f.fg
theorem F8:iS ai 200:=⟨Tryz.f200,func200,by kernel_rfl,by kernel_rfl⟩
theorem F9(f:Fr)(w:J):aH ai 200 #[.agg #[f.full,f.fg,f.used,f.no,f.pins,f.b]] w (λv w'=>v=f.gi/\Ext w w'):=by
 refine okF (ag.ta f.full f.fg f.used f.no f.pins f.b) az.ta func200 ?_;(delta ag.ta aX aa ao;dsimp only);refine a_ (vs:=f.c) rfl λw1 a hx hs=>⟨f.full,a.cell,cC (λb w'=>b=f.gi/\w1=w') (λq d=>⟨λh=>⟨f.fg,by rw[ay];exact a.cell,d _ _ ⟨by unfold Fr.gi;rw[h];rfl,rfl⟩⟩,λh=>d _ _ ⟨by unfold Fr.gi;rw[h];rfl,rfl⟩⟩) ?_⟩;rintro _ _ ⟨rfl,rfl⟩;exact⟨rfl,hx⟩
def iv(fs:O Fr):O Int:=(fs.filter Fr.gi).map Fr.no
theorem A8(h:eP w C):aH ai 145 #[.pointer (some C.c)] w (λv w'=>∃ (s:ad) (zs:O Int),v=s/\aW 1 3 w' s (zs.map encZ)/\zs.Perm (iv C.ak)/\Ext w w'/\∀q,aC s q->w.heap.size<=q):=by
 obtain⟨bS,aT,a8⟩:=h.cells
 have Y:=h.cq
 refine okF (ag.s3 (some C.c)) az.s3 func145 ?_
 delta ag.s3 bG
 refine Calls.mono (ag.CR (some C.c) ⟨200,#[],#[]⟩ w (λv w'=>∃ (s:ad) (zs:O Int),v=s/\aW 1 3 w' s (zs.map encZ)/\zs.Perm (iv C.ak)/\Ext w w'/\∀q,aC s q->w.heap.size<=q) ?_) ?_
 · (delta ag.qq ao r1 aL aX aE aa au fV;dsimp only)
   refine⟨λh=>(by cases h),λ_=>⟨_,rfl,⟨some C.aV,C.ak.length,C.ak.length⟩,aT,λs n w'=>∃i:Nat,n=(i:Int)/\i<=C.ak.length/\aW 1 3 w' s ((iv (C.ak.take i)).map encZ)/\Ext w w'/\∀q,aC s q->w.heap.size<=q,λ_ n _=>((C.ak.length:Int)-n).toNat,⟨0,rfl,cZ _,by simpa[iv] using aW.none 1 3 w,.refl _ _,λq e=>(g7 q e).elim⟩,?_⟩⟩
   rintro s _ p ⟨i,rfl,hi,a,hx,g⟩
   have A:=h.ext hx
   refine⟨λaK=>?_,λB=>?_⟩
   · have r:i<C.ak.length:=by
       have:(i:Int)<(C.ak.length:Int):=cw aK
       omega
     obtain⟨f,hf⟩:∃f,f=C.ak[i]:=⟨_,rfl⟩
     have Z:(iv (C.ak.take i)).length<=64:=by
       unfold iv
       rw[dJ]
       have:=pG Fr.gi (C.ak.take i)
       rw[cN]at this;omega
     have t:iv (C.ak.take (i+1))=iv (C.ak.take i)++(if f.gi then [f.no] else []):=by
       unfold iv
       rw[kg r,kJ,fE,←hf,rp,List.filter_nil]
       congr 1
       split<;>rfl
     refine cC (λs w'=>aW 1 3 w' s ((iv (C.ak.take (i+1))).map encZ)/\Ext w w'/\∀q,aC s q->w.heap.size<=q) (λq e=>?_) ?_
     · have hc:∀j,j<6->p.cell? ⟨C.aV,i*6+j,none⟩=(f.c)[j]? :=λj D=>by rw[hf];exact jb A.f r D
       refine⟨_,rfl,⟨I,by show(i:Int)<(C.ak.length:Int);omega⟩,?_⟩
       rw[qU]
       refine⟨f.full,hc 0 (by decide),f.fg,by rw[ay];exact hc 1 (by decide),f.used,by rw[ay];exact hc 2 (by decide),f.no,by rw[ay];exact hc 3 (by decide),f.pins,by rw[ay];exact hc 4 (by decide),f.b,by rw[ay];exact hc 5 (by decide),?_⟩
       refine a_ (vs:=[false,false,false,(0:Int),(0:Int),()]) rfl λab u E ac=>⟨u.bV rfl (λv l=>?_),rfl,cm u (us:=f.c) rfl rfl λy d F ae=>?_⟩
       · simp only[c8,fi,fu]at l
         rcases l with rfl|rfl|rfl|rfl|rfl|rfl<;>trivial
       have G:Ext p y:=Ext.cy E F (bm _)
       refine⟨f.full,d.cell,f.fg,by rw[ay];exact d.cell,f.used,by rw[ay];exact d.cell,f.no,by rw[ay];exact d.cell,f.pins,by rw[ay];exact d.cell,f.b,by rw[ay];exact d.cell,F8,(F9 f y).use ?_⟩
       rintro _ m ⟨rfl,z⟩
       have k:=Ext.trans G z
       have H:=d.ext z
       refine⟨_,rfl,λhd=>⟨f.no,by rw[ay];exact H.cell,aY ?_⟩,λhd=>e _ _ ⟨?_,Ext.trans hx k,g⟩⟩
       · have o:Ext m (m.alloc (.cells #[encZ f.no] 3)):=dE _ _
         obtain⟨J,K,av,L,_,M,N⟩:=qK.append (dK:=58) (x:=⟨some m.heap.size,1,1⟩) (Src.new (T:=3) m [encZ f.no] 1 rfl) ((a.ext k).ext o) (λv l=>by rw[fh.1 l];trivial) (by
           have:s.len=(iv (C.ak.take i)).length:=by
             have:=a.1
             rw[dJ]at this;omega
           show(2*(s.len+1)+1000)*8<=_;omega)
         refine⟨J,K,av,e _ _ ⟨?_,?_,λq e=>?_⟩⟩
         · rw[t,hd,if_pos rfl,fE];exact L
         · exact Ext.dn (Ext.trans (Ext.trans hx k) o) M g
         · rcases N q e with h1|h1
           · exact g q h1
           · have:=(Ext.trans hx k).size
             have:=o.size;omega
       · rw[t,hd]
         simp only[fC,if_false,gd]
         exact a.ext k
     · rintro af ah ⟨h1,P,Q⟩
       have R:IntKind.wrap .i64 ((i:Int)+1)=((i+1:Nat):Int):=by rw[bB I I];omega
       rw[R]
       exact⟨⟨i+1,rfl,I,h1,P,Q⟩,by show((C.ak.length:Int)-((i+1:Nat):Int)).toNat<((C.ak.length:Int)-(i:Int)).toNat;omega⟩
   · have S:i=C.ak.length:=by
       have:¬(i:Int)<(C.ak.length:Int):=cT B
       omega
     rw[S,jk]at a
     refine(EF a (by
       unfold iv
       rw[dJ]
       have:=pG Fr.gi C.ak;omega)).use ?_
     rintro _ aj ⟨rfl,U,zs,V,W⟩
     exact⟨rfl,s,zs,rfl,V,W.1,Ext.dn hx U g,g⟩
 · rintro _ w1 ⟨_,rfl,s,zs,rfl,a,X,hx,hf⟩
   exact⟨s,rfl,s,zs,rfl,a,X,hx,hf⟩
end
section
variable {w w':J}{C:bN}{X:Nat->Prop}
theorem F_{D:a6}{no:Nat}{s:ad}{l:c7}{N:Nat}(a:∀q,aC s q->cd D q\/N<=q):∀q,cd (D.put no s l) q->cd D q\/N<=q:=by
 rintro q (e|e|e|⟨x,hx,e⟩)
 .exact .inl (.inl e)
 .exact .inl (.inr (.inl e))
 .exact .inl (.inr (.inr (.inl e)))
 .rcases c8.1 hx with rfl|hx
  .exact a q e
  .exact .inl (.inr (.inr (.inr ⟨x,(gE.1 hx).1,e⟩)))
theorem eP.oK{aw:a6}(h:eP w C)(hd:c4 w' aw)(e:aw.d=C.D.d)(hc:ae (cd C.D) w w')(hf:∀q,cd aw q->cd C.D q\/w.heap.size<=q):eP w' {C with D:=aw}:=by
 have h1:=h.v.af hc h.a1.2.1;rw[←e]at h1;have a:C.c<w.heap.size:=h.v.lt;have b:C.aV<w.heap.size:=bh.lt h.f;refine⟨h1,bh.af h.f hc h.a1.2.2,hd,h.cr,h.cq,h.hd,h.a1.1,λg=>?_,λg=>?_⟩
 .rcases hf _ g with g|g
  .exact h.a1.2.1 g
  .have g:w.heap.size<=C.c:=g
   omega
 .rcases hf _ g with g|g
  .exact h.a1.2.2 g
  .have g:w.heap.size<=C.aV:=g
   omega
def bN.wrote(C:bN)(i no:Nat)(hi:i<C.ak.length)(s:ad):bN:={C with ak:=C.ak.set i {C.ak[i] with fg:=false},D:=C.D.put no s (C.ak[i]).l}
theorem Ga(h:dC X w C){i no:Nat}(hi:i<C.ak.length)(hf:(C.ak[i]).full=true)(t:(C.ak[i]).no=no){s:ad}(J:¬C.D.bC no=true)(hd:c4 w' (C.D.put no s (C.ak[i]).l))(hc:ae (cd C.D) w w')(W:∀q,aC s q->cd C.D q\/w.heap.size<=q):
 (∃u:Y,w'.cell? ⟨C.aV,i*6+1,none⟩=some u)/\w'.frozen? ⟨C.aV,i*6+1,none⟩=false/\dC X (w'.setCell ⟨C.aV,i*6+1,none⟩ false) (C.wrote i no hi s)/\
   dO C (C.wrote i no hi s) w (w'.setCell ⟨C.aV,i*6+1,none⟩ false) 1/\∀j,(C.wrote i no hi s).view j=C.view j:=by
 have z:=F_ (no:=no) (l:=(C.ak[i]).l) W;obtain⟨aw,x⟩:∃aw,aw=C.D.put no s (C.ak[i]).l:=⟨_,rfl⟩;have B:∀j,aw.now j=if j=no then (C.ak[i]).l else C.D.now j:=by rw[x];exact nk _ _ _ _
 have K:aw.d=C.D.d:=by rw[x];rfl
 have Z:aw.n=C.D.n:=by rw[x];rfl
 have aa:aw.key=C.D.key:=by rw[x];exact Au C.D J
 have L:jH aw C.D:=by rw[x];exact As h.inv J
 have ap:aw.aR=C.D.aR+1:=by rw[x];rfl
 have ab:∀m,C.D.calm (m+1)->aw.calm m:=λm ac=>by rw[x];exact(iG (.inr rfl) h.raw.dev.f4 ac).1
 unfold bN.wrote;rw[←x]at hd z⊢;have M:=h.raw.oK hd K hc z;obtain⟨a1,a2,a3,a4⟩:=l6 M.f hi (j:=1) (by decide) (v:=false) {C.ak[i] with fg:=false} rfl;obtain⟨g,o⟩:∃g:Fr,g={C.ak[i] with fg:=false}:=⟨_,rfl⟩;rw[←o]at a3⊢;refine⟨a1,a2,?_⟩;generalize w'.setCell ⟨C.aV,i*6+1,none⟩ false=E at a3 a4;have H:ae (cR C) w E:=cV (hc.mono λq _ e=>.inr (.inr e)) a4 λq _ e=>.inr (.inl e);obtain⟨y,av,af,ag,ah,aq,ar,ai⟩:=h.inv.ok _ (cK hi) hf;have aj:y=no:=by rw[t]at av;omega
 subst aj;obtain⟨a,r⟩:∃a:bN,a={C with ak:=C.ak.set i du,D:=aw}:=⟨_,rfl⟩;have h1:fO X E a:=by
  rw[r];exact wP (V:=cR C) hi h.inv H (λ_ _ h=>h) L (λj A=>by rw[B,if_neg λe=>A hf (by rw[t,e])]) z du rfl rfl
 have v1:∀j,a.view j=C.view j:=λj=>by
  rw[r];exact Ar hi h.inv (λ_ j A=>by rw[B,if_pos (by rw[t]at A;omega)]) (λj A=>by rw[B,if_neg λe=>A hf (by rw[t,e])]) du rfl j
 have F:a.ak=C.ak.set i du:=by rw[r]
 have N:i<a.ak.length:=by rw[F,dg];exact hi
 have O:∀ (k:Nat) (al:k<a.ak.length),k≠i->(a.ak[k]).full=true->(a.ak[k]).no≠y:=λk al P G Q=>by
  simp only[F,eY (Ne.symm P)]at G Q;exact P (h.inv.un k i _ hi G hf (by rw[Q,t]))
 have R:C.ak.set i g=a.ak.set i g:=by rw[F,set_set]
 have S:({C with ak:=C.ak.set i g,D:=aw}:bN)={a with ak:=a.ak.set i g,D:=aw}:=by rw[R,r]
 have am:bo (λq=>¬cR {C with ak:=C.ak.set i g,D:=aw} q/\¬X q) E g.b g.l:=by
  rw[o];refine bo.re ag H (λq _ T=>T.1) λq T U=>⟨λp=>U.1 ?_,U.2⟩;rcases p with p|p|p
  .exact .inl p
  .exact .inr (.inl p)
  .exact .inr (.inr ((z q p).resolve_right I))
 have G:fO X E {C with ak:=C.ak.set i g,D:=aw}:=by
  rw[S];refine wQ (C:=a) (no:=y) (V:=λ_=>False) N h1 (.refl _ _) (λ_ _ h=>h.elim) (by rw[r];exact⟨rfl,λ_ h=>h,L.2.2⟩) (λj=>by rw[r]) (λq=>by rw[r]) g (by rw[o];exact hf) (by rw[o];exact h.inv.pins (C.ak[i]) (cK hi)) ⟨by rw[o];exact t,by show y<aw.n;rw[Z];exact af,by rw[←S];exact am,by rw[o];exact ah,λ_=>?_,λ_=>by rw[o],ai⟩ O;show g.l=aw.now y;rw[B,if_pos rfl,o]
 have an:∀j,({C with ak:=C.ak.set i g,D:=aw}:bN).view j=C.view j:=λj=>by
  have ao:({C with ak:=C.ak.set i g,D:=aw}:bN)=bN.mk a.c a.aV (a.ak.set i g) C.hand aw:=by rw[R,r]
  rw[ao,wR (C:=a) (hd:=C.hand) (aw:=aw) (no:=y) N h1.un (λj=>by rw[r]) g (by rw[o];exact hf) (by rw[o];exact t) (λp=>by simp only[F,g5]at p;cases p) O j,v1];split
  .rename_i e
   subst e;have:=k8 (fs:=C.ak) (D:=C.D) (c:=C.c) (aV:=C.aV) (hd:=C.hand) h.inv.un hi hf t;rw[o];exact this.symm
  .rfl
 refine⟨⟨?_,G⟩,⟨rfl,K,by show(C.ak.set i _).length=_;rw[dg],aa,by show aw.aR<=_;omega,ab,H,?_⟩,an⟩
 .refine wS (C:={C with D:=aw}) M a4 a3
 .rintro q (e|e|e)
  .exact .inl (.inl e)
  .exact .inl (.inr (.inl e))
  .exact(z q e).imp (λh=>.inr (.inr h)) id
theorem xc{aw:a6}(h:dC X w C)(hd:c4 w' aw)(e:aw.d=C.D.d)(b:jH aw C.D)(a:∀i,aw.now i=C.D.now i)(hc:ae (cd C.D) w w')(hf:∀q,cd aw q->cd C.D q\/w.heap.size<=q):dC X w' {C with D:=aw}/\∀j,({C with D:=aw}:bN).view j=C.view j:=
 ⟨⟨h.raw.oK hd e hc hf,qW (C:=C) (hd:=C.hand) h.inv (gU.refl _) (hc.mono λq _ e=>.inr (.inr e)) (λ_ _ h=>h) b a hf⟩,λj=>qX (C:=C) (hd:=C.hand) h.inv (gU.refl _) a j⟩
theorem Gb(h:dC X w C)(hc:∀f∈C.ak,f.gi=false)(j:Nat):C.view j=C.D.now j:=by
 unfold bN.view
 cases b:C.ak.find? λf=>f.full&&f.no==(j:Int) with
 |none=>rfl
 |some f=>
  have c:=iy b;have a:=jo b;simp only[dt,jj]at a;obtain⟨no,av,g,i,k,d⟩:=h.inv.ok f c a.1;have h1:=hc f c;unfold Fr.gi at h1;rw[a.1,h7]at h1;have e:no=j:=by rw[a.2]at av;omega
  rw[←e];exact d h1
theorem A9{D:a6}(h:c4 w D)(i:Nat):D.h5.now i=D.now i:=by
 by_cases hi:i<D.n
 .exact xa D hi
 .have h1:D.now i=[]:=by
   unfold a6.now
   cases hf:D.waits.find? λx=>x.i==i with
   |some x=>
    have hx:=iy hf;have he:x.i=i:=by simpa using jo hf
    have:=(h.wn x hx).2.1;omega
   |none=>
    have:¬i<D.bx.length:=hi;show D.bx.getD i []=[];rw[fK,mi I];rfl
  rw[h1];show((List.range D.n).map D.now).getD i []=[];rw[fK,mi (by simp;omega)];rfl
theorem q1(D:a6){m:Nat}(h:D.calm m):(D.cn 3).calm m:=by
 unfold a6.calm a6.cn at*;simpa[fK] using h
theorem dO.r1{C aD:bN}{w w':J}{k:Nat}(h:dO C aD w w' k):aD.D.r1=C.D.r1:=congrArg (λk:(O c7×(Nat->an)×(Nat->O c7)×(Int->Prop)×an)×Int=>k.1.2.2.2.2) h.bx
structure Gc(X:Nat->Prop)(C aD:bN)(w:J)(v:Y)(w':J):Prop where
 at_:dC X w' aD
 c:aD.c=C.c
 d:aD.D.d=C.D.d
 len:aD.ak.length=C.ak.length
 n:aD.D.n=C.D.n
 bC:aD.D.bC=C.D.bC/\aD.D.dY=C.D.dY
 r:aD.D.r1=C.D.r1
 aR:aD.D.aR<=C.D.aR+64
 calm:∀m,C.D.calm (m+64)->aD.D.calm m
 af:ae (cR C) w w'
 de:∀q,cR aD q->cR C q\/w.heap.size<=q
 view:∀j,aD.view j=C.view j
 gY:(v=.int .i64 0/\aD.D.waits=[]/\(∀f∈aD.ak,f.gi=false)/\aD.D.b7.getD 3 0=(f_ (C.D.b7.getD 3 0)).2)\/(v=.int .i64 3/\aD.D.bx=C.D.bx/\(¬C.D.calm 64\/C.D.fA 3=true))
theorem Gd(h:dC X w C)(a4:C.D.aR<=999999900)(aq:∀j,C.D.bC j=true->C.D.dY j=[]):aH ai 163 #[.pointer (some C.c)] w (λv w'=>∃aD,Gc X C aD w v w'):=by
 have a5:=h.raw.cq;refine okF (ag.s7 (some C.c)) az.s7 func163 ?_;(delta ag.s7 ao bG aL aE g9 r1 b9 st au;dsimp only);refine⟨λh=>(by cases h),λ_=>(A8 h.raw).use ?_⟩;rintro _ w1 ⟨s,zs,rfl,hs,N,Z,ar⟩;have hlen:s.len=zs.length:=by have:=hs.1;rw[dJ]at this;omega
 have a7:zs.length<=64:=by
  rw[N.length_eq];unfold iv;rw[dJ];have:=pG Fr.gi C.ak;omega
 have h1:=h.ext Z;have aw:∀z∈zs,∀no:Nat,(no:Int)=z->¬C.D.bC no=true:=λz t no a8 hs=>by
  obtain⟨f,hf,e⟩:=e9.1 (N.mem_iff.1 t);obtain⟨R,u⟩:=gE.1 hf;unfold Fr.gi at u;rw[dt]at u;obtain⟨m,cr,_,_,_,_,aa,ax⟩:=h.inv.ok f R u.1;have:m=no:=by rw[e]at cr;omega
  subst this;rw[aa hs]at u
  cases u.2
 refine⟨s,rfl,λn w'=>∃ (i:Nat) (g:bN),n=(i:Int)/\i<=zs.length/\dC X w' g/\dO C g w w' i/\(∀j,g.view j=C.view j)/\aW 1 3 w' s (zs.map encZ)/\(∀f∈g.ak,f.gi=true->f.no∈zs.drop i)/\(∀z∈zs,∃f∈g.ak,f.full=true/\f.no=z)/\∀q,cR g q->¬aC s q,
  λn _=>((zs.length:Int)-n).toNat,⟨0,C,rfl,cZ _,h1,dO.ext C Z,λ_=>rfl,hs,λf hf hd=>?_,λz t=>?_,λq o O=>?_⟩,?_⟩
 .exact N.mem_iff.2 (e9.2 ⟨f,gE.2 ⟨hf,hd⟩,rfl⟩)
 .obtain⟨f,hf,e⟩:=e9.1 (N.mem_iff.1 t)
  obtain⟨R,u⟩:=gE.1 hf;unfold Fr.gi at u;rw[dt]at u;exact⟨f,R,u.1,e⟩
 .have:=ar q O;have:=h.raw.lt o;omega
 rintro _ S ⟨i,g,rfl,hi,p,l,P,T,ab,hex,ac⟩;have a9:=l.aR;refine⟨λaK=>?_,λaA=>?_⟩
 .have G:i<zs.length:=by
   have:(i:Int)<(s.len:Int):=cw aK;omega
  obtain⟨a,aB,aF⟩:∃a:ah,s.a=some a/\S.cell? (a.add (Int.toNat (i:Int)*1))=some (.int .i64 zs[i]):=by
   obtain⟨b,c,y,_,_,_,_,U,_⟩:=T.cell (i:=i) (v:=encZ zs[i]) (by rw[lp,dI G];rfl);exact⟨_,y,by rw[dQ,ay,cS,fJ];exact U⟩
  refine⟨a,aB,⟨I,by show(i:Int)<(s.len:Int);omega⟩,zs[i],aF,?_⟩;rw[←l.c];refine(ug p.raw _).use ?_;rintro _ _ ⟨aG,rfl⟩;obtain⟨f,aI,aJ,aM⟩:=hex zs[i] (cK G);rcases aG with ⟨k,H,rfl,av,V⟩|⟨_,aN⟩
  rotate_left
  .exact absurd aM (aN f aI aJ)
  have J:=cL S;have B:=p.ext J;obtain⟨no,cr,cq,ad,aO,a_,aa,ax⟩:=B.inv.ok _ (cK H) av;have t:zs[i]=(no:Int):=by rw[←V,cr]
  have aP:=jb B.raw.f H (j:=5) (by decide);refine⟨_,rfl,aY ⟨_,rfl,id,_,B.raw.cells.1,_,rfl,id,(g.ak[k]).b,by rw[ay];exact aP,?_⟩⟩;rw[t];refine(ud B.raw.dev (i:=no) cq I ad.1 aO λq o hf=>(ad.2.2 q o).1.1 (.inr (.inr hf))).use ?_;rintro aQ aj aS;have aT:=l.af.size;have ba:=J.size;rcases aS with ⟨y,rfl,E,r⟩|⟨y,rfl,s2,E,r,aU⟩
  .obtain⟨g1,K⟩:=xc B E rfl (B.inv.cn 2) (λj=>qV g.D 2 j) (r.mono λq _ e=>.inl e) λq o=>.inl o
   refine⟨3,rfl,λ_=>⟨{g with D:=g.D.cn 2},g1,l.c,l.d,l.len,l.n,l.l7,l.r1,by show g.D.aR<=_;omega,λm L=>?_,?_,?_,λj=>(K j).trans (P j),.inr ⟨rfl,?_,.inl λaX=>?_⟩⟩,λh=>(by cases h)⟩
   .exact(iG (.inr rfl) p.raw.dev.f4 (l.calm (m+1) (gp L I))).1
   .refine cV (l.af.trans (ae.cP J)) r λq o e=>?_
    exact(l.de q (.inr (.inr (.inl e)))).resolve_right I
   .exact l.de
   .exact congrArg (λk=>k.1.1) l.bx
   .have:=(iG (k:=2) (m:=0) (.inr rfl) p.raw.dev.f4 (l.calm 1 (gp aX I))).2
    rw[y]at this;cases this
  .obtain⟨br,bl,al,Q,aZ⟩:=Ga B H av (by rw[V,t]) (λhs=>aw _ (cK G) _ t.symm (by rw[←l.bC];exact hs)) E r aU
   refine⟨0,rfl,λh=>(by cases h),λ_=>⟨_,rfl,by rw[ay];exact br,by rw[ay];exact bl,?_⟩⟩;rw[ay];refine aY ?_;generalize aj.setCell ⟨g.aV,k*6+1,none⟩ false=bb at al Q;have a0:IntKind.wrap .i64 ((i:Int)+1)=((i+1:Nat):Int):=by rw[bB I I];omega
   rw[a0];have a1:=(l.trans (dO.ext g J)).trans Q;have a2:zs.drop i=zs[i]::zs.drop (i+1):=mf G;refine⟨⟨i+1,_,rfl,I,al,a1,λj=>(aZ j).trans (P j),(T.ext J).af Q.af λq o hf=>ac q hf o,λf hf A=>?_,λz t=>?_,λq o O=>?_⟩,by show((zs.length:Int)-((i+1:Nat):Int)).toNat<((zs.length:Int)-(i:Int)).toNat;omega⟩
   .have hf:f∈g.ak.set k {g.ak[k] with fg:=false}:=hf
    obtain⟨b,W,rfl⟩:=e3 hf;have am:b<g.ak.length:=by simpa using W
    by_cases e:k=b
    .subst e
     simp[Fr.gi]at A
    .simp only[eY e]at A⊢
     have F:=ab _ (cK am) A;rw[a2]at F;rcases c8.1 F with Y|Y
     .unfold Fr.gi at A
      rw[dt]at A;exact absurd (p.inv.un k b H am av A.1 (by rw[V,Y])) e
     .exact Y
   .obtain⟨f,f1,f2,f3⟩:=hex z t
    obtain⟨b,W,rfl⟩:=e3 f1;by_cases e:k=b
    .subst e
     exact⟨{g.ak[k] with fg:=false},List.mem_set H _,f2,f3⟩
    .exact⟨g.ak[b],List.mem_iff_getElem.2 ⟨b,by show b<(g.ak.set k _).length;rw[dg];exact W,by show(g.ak.set k _)[b]'_=_;rw[eY e]⟩,f2,f3⟩
   .rcases Q.de q o with F|F
    .exact ac q F O
    .have:=T.lt q O;omega
 .have G:i=zs.length:=by
   have:¬(i:Int)<(s.len:Int):=cT aA;omega
  have U:∀f∈g.ak,f.gi=false:=λf hf=>by
   cases A:f.gi with
   |false=>rfl
   |true=>
    have:=ab f hf A;rw[G,List.drop_length]at this
    cases this
  have an:g.D.b7.getD 3 0=C.D.b7.getD 3 0:=congrArg Prod.snd l.bx;rw[←l.c];refine⟨_,rfl,_,p.raw.cells.1,(xb p.raw.dev I).use ?_⟩;have aT:=l.af.size;rintro aQ aj (⟨y,rfl,E,r⟩|⟨y,rfl,E,r⟩)
  .obtain⟨g1,K⟩:=xc p E rfl (p.inv.cn 3) (λj=>qV g.D 3 j) (r.mono λq _ e=>.inl e) λq o=>.inl o
   refine⟨3,rfl,{g with D:=g.D.cn 3},g1,l.c,l.d,l.len,l.n,l.l7,l.r1,by show g.D.aR<=_;omega,λm L=>q1 _ (l.calm m (gp L I)),cV l.af r λq o e=>(l.de q (.inr (.inr (.inl e)))).resolve_right I,l.de,λj=>(K j).trans (P j),.inr ⟨rfl,congrArg (λk=>k.1.1) l.bx,.inr ?_⟩⟩;unfold a6.fA at y⊢;rw[←an];exact y
  .have ap:∀q,cd (g.D.cn 3).h5 q->cd g.D q\/S.heap.size<=q:=by
    rintro q (e|e|e|⟨x,hx,e⟩)
    .exact .inl (.inl e)
    .exact .inl (.inr (.inl e))
    .exact .inl (.inr (.inr (.inl e)))
    .cases hx
   have a3:∀j,(g.D.cn 3).h5.now j=g.D.now j:=λj=>by
    by_cases M:j<g.D.n
    .exact(xa (g.D.cn 3) M).trans (qV g.D 3 j)
    .have F:g.D.h5.now j=g.D.now j:=A9 p.raw.dev j
     exact F
   obtain⟨g1,K⟩:=xc p E rfl ⟨q0 (g.D.cn 3),λ_ h=>h,λj M=>by
    have M:g.D.bC j=true:=M;have e:g.D.dY j=[]:=by rw[l.l7.2];exact aq j (by rw[←l.l7.1];exact M)
    exact e.symm⟩ a3 r ap
   refine⟨0,rfl,{g with D:=(g.D.cn 3).h5},g1,l.c,l.d,l.len,(q0 (g.D.cn 3)).trans l.n,l.l7,l.r1,by show g.D.aR<=_;omega,λm L=>q1 g.D (l.calm m (gp L I)),cV l.af r λq o e=>(l.de q (.inr (.inr e))).resolve_right I,λq o=>?_,λj=>(K j).trans (P j),.inl ⟨rfl,rfl,U,?_⟩⟩
   .rcases o with e|e|e
    .exact l.de q (.inl e)
    .exact l.de q (.inr (.inl e))
    .rcases ap q e with e|e
     .exact l.de q (.inr (.inr e))
     .exact .inr I
   .show(g.D.b7.set 3 _).getD 3 0=_
    have bc:=p.raw.dev.f4;rw[eX (by rw[dg];omega),g5,an]
end
def gB(bg d c sb:Nat)(l:e7)(u:en)(gen now first pending keys:Nat)(failed:an):O Y:=
 [.pointer (some bg),.pointer (some d),.pointer (some c),.pointer (some sb),l.ak,l.batch,.int .u64 (l.hX:Nat),
  u.root,u.aI,u.map,.int .u64 (u.clock:Nat),.int .u64 (u.da:Nat),u.keys,
  .int .u64 (gen:Nat),.int .u64 (now:Nat),.int .u64 (first:Nat),pending,keys,failed]
section
variable {w w':J}{D:a6}
structure A_(D:a6)(l:e7)(u:en)(gen sb:Nat)(w:J)(v:Y)(w':J)(c aV bg st:Nat):Prop where
 val:v=.tuple #[.pointer (some st),(0:Int)]
 ca:dC (λ_=>False) w' (kA c aV l.ak D)
 ek:Var w' bg [.pointer (some c),.pointer (some sb),.int .u64 ((gen+1:Nat):Int),u.root,u.aI] 239
 sv:Var w' st (gB bg D.d c sb l u gen u.clock 0 0 u.keys false) 158
 x:Ext w w'
 hc:w.heap.size<=c/\c<bg
 hf:w.heap.size<=aV/\aV<bg
 ht:bg<st
def a6.ga(D:a6)(s:Nat->an)(z:Nat->O c7):a6:={D with bC:=s,dY:=z}
theorem c4.ga(h:c4 w D)(s:Nat->an)(z:Nat->O c7):c4 w (D.ga s z):=⟨h.v,h.l,h.m,h.ws,h.wn,h.sl,h.l1,h.bM,h.bf,h.f4,h.fr,h.a1,h.a2,h.a3,h.r⟩
theorem mP(h:c4 w D){l:e7}(q:8<=l.ak/\l.ak<=64){u:en}(hu:uv D.n (u.root:Nat) (u.aI:Nat)){gen:Nat}(hg:gen+1<18446744073709551616)(s:∀j,D.bC j=true->D.dF j=D.dY j)(sb:Nat):
 aH ai 78 #[.pointer (some D.d),.agg l.c.toArray,.agg u.c.toArray,.int .u64 (gen:Nat),.pointer (some sb)] w (λv w'=>∃c aV bg st,A_ D l u gen sb w v w' c aV bg st):=by
 refine ag.CD _ (l.ak:Nat) (l.batch:Nat) (l.hX:Nat) (u.root:Nat) (u.aI:Nat) (u.map:Nat) (u.clock:Nat) (u.da:Nat) (u.keys:Nat) (gen:Nat) (some sb) w _ ?_;(delta ag.mP aE aa gK ao b4;dsimp only);refine a_ (vs:=l.c) rfl λw1 t i H=>a_ (vs:=u.c) rfl λaj x b J=>?_;have r:=t.ext b;have y:=h.ext (i.trans b);refine⟨_,r.cell,(oq y q.1 q.2 s).use ?_⟩;rintro _ a ⟨c,aV,rfl,e,f,K,L⟩;have k:=x.ext f;have z:IntKind.wrap .u64 ((gen:Int)+1)=((gen+1:Nat):Int):=by rw[fU I I];omega
 rw[z];have M:(kA c aV l.ak D).D=D:=rfl;refine⟨_,0,rfl,λh=>(by cases h),λ_=>⟨_,k.cell,_,by rw[ay];exact k.cell,(mS e.raw sb ((gen+1:Nat):Int) (u.root:Nat) (u.aI:Nat)).use ?_⟩⟩;rintro _ A (⟨_,rfl,g,B,N⟩|⟨C,_⟩)
 rotate_left
 .exact absurd hu C
 have m:=k.ext g;have o:=(r.ext f).ext g;have O:=(i.trans b).size;have P:=f.size;have E:c<a.heap.size:=e.raw.lt (.inl rfl);have F:aV<a.heap.size:=e.raw.lt (.inr (.inl rfl));refine⟨_,0,rfl,λh=>(by cases h),λ_=>⟨_,o.cell,_,by rw[ay];exact o.cell,_,by rw[ay];exact o.cell,o5 m ⟨_,by rw[ay];exact m.cell,_,by rw[ay];exact m.cell,(gB a.heap.size D.d c sb l u gen u.clock 0 0 u.keys false).toArray,by kernel_rfl,a_ (vs:=gB a.heap.size D.d c sb l u gen u.clock 0 0 u.keys false) rfl λQ G p R=>?_⟩⟩⟩;exact⟨c,aV,a.heap.size,A.heap.size,rfl,(e.ext g).ext p,B.ext p,G,Ext.trans (Ext.trans (i.trans b) f) (Ext.trans g p),⟨I,E⟩,⟨I,F⟩,I⟩
def hL(f:Nat->an)(k:Nat):O UInt8:=(List.range k).map λi=>UInt8.ofNat (byteOf f i)
theorem Ba(f:Nat->an)(k:Nat):aA (hL f k)=eI f k:=by
 unfold aA hL eI;rw[nF];refine List.map_congr_left λi _=>?_;have:=jG f i;show Value.int .u8 (((UInt8.ofNat (byteOf f i)).toNat:Nat):Int)=_;rw[pD,iM this]
theorem uy(f:Nat->an)(k:Nat):(hL f k).length=k:=by simp[hL]
def iw:en:=⟨0,0,2,0,0,0⟩
structure Bb(D aw:a6):Prop where
 d:aw.d=D.d
 n:aw.n=D.n
 now:∀j,aw.now j=if j=1 then dX 1 (h4 iw D.n 1) else if j=2 then dX 2 ⟨4,1,hL (λi=>decide (i<3)) ((D.n+7)/8)⟩ else if j=0 then gT else D.now j
 waits:aw.waits=[]
 aR:aw.aR=D.aR+4
 calm:∀k,aw.calm k
 b7:aw.b7.getD 3 0= -1
 bC:aw.bC=λi=>decide (i<3)
 dY:aw.dY=λ_=> []
 r:aw.r1=D.r1
structure Ge(D:a6)(l:e7)(w:J)(v:Y)(w':J)(aw:a6)(sb:Nat)(s1 s2:ad)(c aV bg st:Nat)(ja:J):Prop where
 Bc:A_ aw l iw 1 sb ja v w' c aV bg st
 sp:eJ w' sb D.n (λi=>decide (i<3)) (λi=>decide (i<3)) s1 s2
 oK:Bb D aw
 af:ae (cd D) w ja
 q2:∀q,ff sb s1 s2 q->w.heap.size<=q/\q<ja.heap.size
 dq:∀q,cd aw q->cd D q\/(w.heap.size<=q/\q<ja.heap.size)
 Gf:∀q,ff sb s1 s2 q->¬cd aw q
theorem mM(h:c4 w D){l:e7}(ap:nu (l.ak:Nat) (l.batch:Nat) (l.hX:Nat))(bk:∀k,D.calm k)(oY:D.b7.getD 3 0= -1)(b1:D.aR<=999999000):
 aH ai 19 #[.pointer (some ⟨D.d,0,none⟩),.agg l.c.toArray] w (λv w'=>∃aw sb s1 s2 c aV bg st ja,Ge D l w v w' aw sb s1 s2 c aV bg st ja):=by
 have b2:=h.bM;have b3:=h.bf;refine ag.Cx _ (l.ak:Nat) (l.batch:Nat) (l.hX:Nat) w _ ?_;(delta ag.mM aE aa b4 b_ ao b9 gK bG dS jx au iV;dsimp only);refine a_ (vs:=l.c) rfl λw1 Q J b5=>⟨_,Q.cell,_,by rw[ay];exact Q.cell,_,by rw[ay];exact Q.cell,(oe w1 _ _ _ _).use ?_⟩;rintro _ bl ⟨rfl,C⟩;have bn:=h.ext (J.trans C);refine⟨_,rfl,λr=>?_,λ_=>(uc bn).use ?_⟩
 .rw[dU ap]at r;cases r
 rintro _ _ ⟨rfl,rfl⟩;refine⟨_,rfl,(og bl (D.n:Nat) 3).use ?_⟩;rintro _ b6 (⟨bo,_⟩|⟨_,_,_,_,sb,s1,s2,rfl,hs,Y,Z⟩)
 .exact absurd ⟨I,I,I,I⟩ bo
 rw[dQ]at hs;have ab:Int.toNat 3=3:=rfl;rw[ab]at hs;refine⟨_,0,rfl,λh=>(by cases h),λ_=>(Ao hs).use ?_⟩;rintro _ bp ⟨aN,rfl,aO,K,b8⟩;rw[←Ba]at aO;obtain⟨mp,R⟩:∃mp:il,mp=⟨4,1,hL (λi=>decide (i<3)) ((D.n+7)/8)⟩:=⟨_,rfl⟩;have aP:lX mp:=by rw[R];exact⟨(by decide:1<=4),(by decide:4<=4),(by decide:1<18446744073709551616),by show(hL _ _).length<=232;rw[uy];omega⟩
 have aQ:=tR (s:=aN) (p:=mp) (no:=2) (w:=bp) (by rw[R];exact aO.src) (by decide) aP;rw[R]at aQ;refine⟨aN,rfl,aQ.use ?_⟩;rw[←R];rintro _ bq ⟨F,rfl,aS,N,br⟩;have aT:=Ext.trans (Ext.trans (J.trans C) Y) (Ext.trans K N);have ca:=aT.size;refine⟨F,0,rfl,λh=>(by cases h),λ_=>⟨⟨I,I,I,I⟩,?_⟩⟩;rw[wa];have bs:Int.toNat 256=256:=rfl;rw[bs];have aq:gT.length=256:=lu;refine a_ (vs:=aA gT) rfl λB S G cb=>?_;obtain⟨y,bt⟩:∃y,y=bq.heap.size:=⟨_,rfl⟩;rw[←bt]at S⊢;have ac:=Ext.trans aT G;have aU:Src 1 B ⟨some ⟨y,0,none⟩,256,256⟩ (aA gT):=S.tB (o:=0) (n:=256) (c:=256) (l:=gT) (by rw[dj,aq];exact bm _) (by rw[ix,dH (by rw[dj,aq];exact bm _)]);refine⟨#[.slice (some ⟨y,0,none⟩) 256 256,.slice (some ⟨y,0,none⟩) 256 256,.slice F.a F.len F.cap],by kernel_rfl,?_⟩;have bu:(dX 2 mp).length=256:=qF _ aP;obtain⟨vals,av⟩:∃vals:Nat->c7,vals=λj=>if j=2 then dX 2 mp else gT:=⟨_,rfl⟩
 have bv:∀j,(vals j).length=256:=λj=>by
  rw[av];show(if j=2 then _ else _:c7).length=256;split
  .exact bu
  .exact aq
 have bw:∀k,k<3->∃H:ad,cellAt #[.slice (some ⟨y,0,none⟩) 256 256,.slice (some ⟨y,0,none⟩) 256 256,.slice F.a F.len F.cap] (Int.toNat ((k:Nat):Int)*1)=some (.slice H.a H.len H.cap)/\Src 1 B H (aA (vals k))/\∀q,aC H q->w.heap.size<=q/\q<B.heap.size:=by
  intro k aW;have bz:=S.lt;have cc:=G.size;rw[av];have hi:∀q,aC (⟨some ⟨y,0,none⟩,256,256⟩:ad) q->w.heap.size<=q/\q<B.heap.size:=λq b=>by
   obtain⟨A,ar,rfl⟩:=b
   cases ar;show w.heap.size<=y/\y<_;exact⟨I,bz⟩
  have ce:=(Ext.trans (Ext.trans (J.trans C) Y) K).size
  match k,aW with
  |0,_=>exact⟨⟨some ⟨y,0,none⟩,256,256⟩,rfl,aU,hi⟩
  |1,_=>exact⟨⟨some ⟨y,0,none⟩,256,256⟩,rfl,aU,hi⟩
  |2,_=>exact⟨F,rfl,aS.src.ext G,λq b=>by have:=br q b;have:=aS.lt q b;omega⟩
 have bA:=h.ext ac;refine⟨λn w'=>∃ (k:Nat) (g:a6),n=(k:Int)/\k<=3/\c4 w' g/\g.d=D.d/\g.n=D.n/\(∀j,g.now j=if j<k then vals j else D.now j)/\g.aR=D.aR+k/\(∀m,g.calm m)/\(g.b7.getD 3 0= -1/\g.r1=D.r1)/\ae (cd D) B w'/\(∀q,cd g q->cd D q\/B.heap.size<=q),
  λn _=>((3:Int)-n).toNat,⟨0,D,rfl,cZ _,bA,rfl,rfl,λj=>rfl,rfl,bk,⟨oY,rfl⟩,.refl _ _,λq b=>.inl b⟩,?_⟩
 rintro _ cf ⟨k,g,rfl,aW,O,ah,aX,aY,bC,ax,⟨az,aZ⟩,aj,L⟩;have cg:=aj.size;refine⟨λaK=>?_,λbD=>?_⟩
 .have aB:k<3:=by
   have:((k:Nat):Int)<3:=cw aK;omega
  obtain⟨H,bE,bF,a0⟩:=bw k aB;have ep:∀q,aC H q->¬cd D q:=λq b hf=>by have:=(a0 q b).1;have:=h.lt hf;omega
  have a1:=ud O (i:=k) I I (bF.af aj ep) (bv k) λq b hf=>by
   rcases L q hf with h1|h1
   .exact ep q b h1
   .have:=(a0 q b).2;omega
  rw[ah]at a1;refine⟨⟨I,I⟩,H,bE,a1.use ?_⟩;rintro _ ch (⟨r,_⟩|⟨r,rfl,s,bH,bI,bJ⟩)
  .have:=(iG (k:=2) (m:=0) (.inr rfl) O.f4 (ax 1)).2
   rw[r]at this;cases this
  refine⟨0,rfl,λh=>(by cases h),λ_=>?_⟩;have bK:IntKind.wrap .i64 (((k:Nat):Int)+1)=((k+1:Nat):Int):=by rw[bB I I];omega
  rw[bK];refine⟨⟨k+1,_,rfl,I,bH,ah,aX,λj=>?_,by show g.aR+1=_;omega,λm=>(iG (.inr rfl) O.f4 (ax _)).1,⟨(congrArg Prod.snd (o1 g (.inr rfl))).trans az,aZ⟩,cV aj bI λq b hf=>(L q hf).resolve_right I,λq b=>?_⟩,by show((3:Int)-((k+1:Nat):Int)).toNat<((3:Int)-((k:Nat):Int)).toNat;omega⟩
  .rw[nk,aY]
   by_cases e:j=k
   .rw[if_pos e,if_pos I,e]
   .rw[if_neg e]
    by_cases T:j<k
    .rw[if_pos T,if_pos I]
    .rw[if_neg T,if_neg I]
  .rcases ux bJ q b with h1|h1
   .exact L q h1
   .exact .inr I
 have aB:k=3:=by
  have:¬((k:Nat):Int)<3:=cT bD;omega
 subst aB;have hf:=xb O I;rw[ah]at hf;refine hf.use ?_;rintro _ a2 (⟨r,_⟩|⟨_,rfl,aD,bL⟩)
 .unfold a6.fA at r
  rw[az]at r;cases r
 obtain⟨cj,E⟩:∃cj,cj=(g.cn 3).h5:=⟨_,rfl⟩;rw[←E]at aD;have a3:cj.d=D.d:=by rw[E];exact ah
 have a4:cj.n=D.n:=by rw[E];exact(q0 _).trans aX
 have bN:cj.r1=D.r1:=by rw[E];exact aZ
 have bO:∀j,cj.now j=if j<3 then vals j else D.now j:=λj=>by
  rw[←aY,E];have aF:g.h5.now j=g.now j:=A9 O j;exact aF
 have ci:cj.aR=D.aR+3:=by rw[E];exact bC
 have a5:∀m,cj.calm m:=λm=>by rw[E];exact q1 _ (ax m)
 have a7:cj.b7.getD 3 0= -1:=by
  rw[E];show(g.b7.set 3 _).getD 3 0=_;have bP:=O.f4;rw[eX (by rw[dg];omega),g5,az];rfl
 have al:∀q,cd cj q->cd D q\/B.heap.size<=q:=λq b=>by
  rw[E]at b;rcases b with e|e|e|⟨x,hx,e⟩
  .exact L q (.inl e)
  .exact L q (.inr (.inl e))
  .exact L q (.inr (.inr (.inl e)))
  .cases hx
 have am:ae (cd D) B a2:=cV aj bL λq b hf=>(L q hf).resolve_right I;have U:∀q,w.heap.size<=q->¬cd D q:=λq b hf=>by have:=h.lt hf;omega
 have bQ:=((Q.ext (C.trans (Ext.trans Y (Ext.trans K (Ext.trans N G))))).af am (U _ (bm _)));have bR:=(hs.ext (Ext.trans K (Ext.trans N G))).af am λq b=>U q (by have:=Z q b;have:=(J.trans C).size;omega);refine⟨0,rfl,λh=>(by cases h),λ_=>a_ (vs:=z6.c) rfl λck bS bT cl=>z_ bS rfl iw λbU a8 bV cm=>o5 a8 ?_⟩;have V:Ext a2 bU:=Ext.cy bT bV (bm _);have W:=aD.ext V;have a9:=lO W I (u:=iw) ⟨(by decide:0<4294967296),(by decide:0<256),(by decide:2<4294967296),(by decide:0<18446744073709551616),(by decide:0<18446744073709551616),(by decide:0<4294967296)⟩ (gen:=1) (by decide);rw[a3]at a9;refine a9.use ?_;have co:=V.size;have cp:=am.size;rintro _ ba ⟨an,⟨r,_⟩|⟨_,s,bW,f,z,⟨r,_⟩|⟨_,rfl,X⟩⟩⟩
 .have:=(iG (k:=2) (m:=0) (.inr rfl) W.f4 (a5 1)).2
  rw[r]at this;cases this
 .have aG:f.b7.getD 3 0= -1:=by rw[z];exact(congrArg Prod.snd (o1 cj (.inr rfl))).trans a7
  unfold a6.fA at r;rw[aG]at r;cases r
 have aG:f.b7.getD 3 0= -1:=by rw[z];exact(congrArg Prod.snd (o1 cj (.inr rfl))).trans a7
 obtain⟨M,t⟩:∃M,M=((f.cn 3).h5).ga (λi=>decide (i<3)) (λ_=> []):=⟨_,rfl⟩;have X:=X.ga (λi=>decide (i<3)) (λ_=> []);rw[←t]at X;have bX:∀x∈f.waits,x.i<f.n:=λx hx=>by
  rw[z]at hx⊢;rcases c8.1 hx with rfl|hx
  .show 1%2<cj.n;omega
  .exact(W.wn x (gE.1 hx).1).2.1
 have bY:∀j,M.now j=if j=1 then dX 1 (h4 iw D.n 1) else if j<3 then vals j else D.now j:=λj=>by
  have aF:M.now j=f.now j:=by
   rw[t];by_cases bb:j<f.n
   .exact(xa (f.cn 3) bb).trans (qV f 3 j)
   .have P:f.now j=[]:=by
     unfold a6.now
     cases hf:f.waits.find? λx=>x.i==j with
     |some x=>
      have hx:=iy hf;have he:x.i=j:=by simpa using jo hf
      have:=bX x hx;omega
     |none=>
      have:¬j<f.bx.length:=bb;show f.bx.getD j []=[];rw[fK,mi I];rfl
    rw[P];show((List.range (f.cn 3).n).map (f.cn 3).now).getD j []=[];rw[fK,mi (by simp;show f.n<=j;omega)];rfl
  rw[aF,z,nk,bO,a4]
 have aI:Bb D M:=by
  refine⟨by rw[t,z];exact a3,by rw[t];exact(q0 (f.cn 3)).trans (by rw[z];exact a4),λj=>?_,by rw[t];rfl,by rw[t,z];show cj.aR+1=_;omega,λm=>by rw[t,z];exact q1 (cj.put (1%2) s (dX (1%2) (h4 iw cj.n 1))) (iG (.inr rfl) W.f4 (a5 _)).1,?_,by rw[t];rfl,by rw[t];rfl,by rw[t,z];exact bN⟩
  .rw[bY,av,←R]
   by_cases P:j=1
   .rw[if_pos P,if_pos P]
   .rw[if_neg P,if_neg P]
    by_cases T:j=2
    .subst T;rfl
    .by_cases ab:j=0
     .subst ab;rfl
     .rw[if_neg I,if_neg T,if_neg ab]
  .rw[t]
   show(f.b7.set 3 _).getD 3 0=_;have bP:f.b7.length=4:=by rw[z];show(cj.b7.set 2 _).length=4;rw[dg];exact W.f4
   rw[eX (by rw[dg];omega),g5,aG];rfl
 have bc:∀q,cd M q->cd D q\/B.heap.size<=q:=λq b=>by
  rw[t]at b;have h1:cd f q:=by
   rcases b with e|e|e|⟨x,hx,e⟩
   .exact .inl e
   .exact .inr (.inl e)
   .exact .inr (.inr (.inl e))
   .cases hx
  rw[z]at h1;rcases ux bW q h1 with bd|bd
  .exact al q bd
  .exact .inr I
 have be:ae (cd D) B ba:=cV (cV am V λq _ h=>h.elim) an λq b hf=>(al q hf).resolve_right I;have aJ:=(bQ.ext V).af an λhf=>by
  rcases al _ hf with h1|h1
  .exact U _ (bm _) h1
  .have:=ac.size;have:=S.lt;have:=Q.lt;have:=C.size;have:=Y.size;have:=K.size;have:=N.size;have:=G.size;omega
 have bZ:=a8.af an λhf=>by
  have:=aD.lt hf;omega
 have bh:=(bR.ext V).af an λq b hf=>by
  have bi:=Z q b;have aL:=(hs.ext (Ext.trans K (Ext.trans N (ae.refl _ _)))).lt q b;rcases al _ hf with h1|h1
  .exact U q (by have:=(J.trans C).size;omega) h1
  .have:=G.size;omega
 have cq:=be.size;have S:=ac.size;have bj:=mP X (l:=l) (u:=iw) (gen:=1) ⟨by have:=ap.1;omega,by have:=ap.2.1;omega⟩ ⟨by decide,by decide,by decide,by rw[aI.n];show(0:Int)<_;omega,by decide⟩ (by decide) (λj _=>by rw[t];rfl) sb;rw[aI.d]at bj;refine⟨0,rfl,λh=>(by cases h),λ_=>⟨_,aJ.cell,_,by rw[ay];exact aJ.cell,_,by rw[ay];exact aJ.cell,o5 bZ (bj.use ?_)⟩⟩;rintro _ cr ⟨c,aV,bg,st,aM⟩;have b0:=aM.val;subst b0;refine⟨_,0,rfl,M,sb,s1,s2,c,aV,bg,st,ba,aM,bh.ext aM.x,aI,cV (ac.mono λ_ _ h=>h.elim) be λq _ h=>h,λq b=>?_,λq b=>?_,λq b hf=>?_⟩
 .have bi:=Z q b
  have aL:=bh.lt q b;have:=(J.trans C).size;exact⟨I,aL⟩
 .rcases bc q b with h1|h1
  .exact .inl h1
  .exact .inr ⟨I,X.lt b⟩
 .have bi:=Z q b
  have aL:=(hs.ext (Ext.trans K (Ext.trans N (ae.refl _ _)))).lt q b;rcases bc _ hf with h1|h1
  .exact U q (by have:=(J.trans C).size;omega) h1
  .have:=G.size;omega
end
theorem m8{b d:Nat}(k:b<256)(hd:d<256)(w:J):aH ai 20 #[.int .u8 (b:Nat),.int .u8 (d:Nat)] w (λv w'=>v=.agg (e7.c ⟨8,1+b%12,1+d%12⟩).toArray/\Ext w w'):=by
 refine ag.C1 _ _ w _ ?_;(delta ag.m8 aa au aE b4;dsimp only);have g:IntKind.wrap .i64 (1+IntKind.wrap .i64 (Int.tmod (b:Int) 12))=((1+b%12:Nat):Int):=by
  rw[rn I,bB (n:=(b:Int)%12) I I,bB I I];omega
 have h:IntKind.wrap .u64 (1+IntKind.wrap .u64 (Int.tmod (d:Int) 12))=((1+d%12:Nat):Int):=by
  rw[rn I,fU (n:=(d:Int)%12) I I,fU I I];omega
 rw[g,h];refine a_ (vs:=[(0:Int),(0:Int),.int .u64 0]) rfl λw1 e i l=>⟨by decide,by decide,e.bV rfl (λv f=>?_),rfl,cm e (us:=e7.c ⟨8,1+b%12,1+d%12⟩) rfl rfl λaj a j m=>⟨_,a.cell,_,by rw[ay];exact a.cell,_,by rw[ay];exact a.cell,rfl,Ext.cy i j (bm _)⟩⟩;simp only[c8,fi,fu]at f;rcases f with rfl|rfl|rfl<;>trivial
section
variable {w w':J}{s:ad}{T:O aU}{i gM:Nat}{most:Int}
def gC(s:Int)(p:bQ)(t:aU):an:=decide (t.s=s)&&decide (t.p=p)
end
section
variable {w w':J}{s:ad}{T:O aU}{i gM:Nat}{most:Int}
def o9(T:O aU)(s:Int)(p:bQ)(now:Nat):aq aU:=match T.findIdx? (gC s p) with
 |some i=>if (T.getD i aU.zero).u<=now then none else some (T.getD i aU.zero)
 |none=>none
theorem aU.oL{a b:aU}(h:a.c=b.c):a=b:=by
 obtain⟨s,p,cg,u⟩:=a;obtain⟨i,j,k,l⟩:=b;unfold aU.c at h;dsimp only at h;obtain⟨h1,e⟩:=List.cons.inj h;obtain⟨f,d⟩:=List.append_inj e (by rw[bQ.bK,bQ.bK]);have:=bQ.oL f;simp at h1 d;subst this;obtain⟨g,m⟩:=d;subst h1 g
 congr 1
 omega
end
instance:DecidableEq aU:=λa b=>decidable_of_iff (a.s=b.s/\a.p=b.p/\a.b=b.b/\a.u=b.u) ⟨λh=>by cases a;cases b;simp_all,λh=>by rw[h];exact⟨rfl,rfl,rfl,rfl⟩⟩
theorem aU.d_(t:aU):aQ.d_ (.int .i64::(((.bool::j1 16)++ [.int .i64])++ [.int .i64,.int .u64])) t.c:=⟨_,_,rfl,⟨_,rfl⟩,vd t.p.d_ ⟨_,_,rfl,⟨_,rfl⟩,_,_,rfl,⟨_,rfl⟩,rfl⟩⟩
theorem Gg(a b:aU):iQ ai 29 a.c.toArray b.c.toArray (decide (a=b)):=by
 have h:=iQ.flat (P:=ai) (T:=29) (d:=(Tryz.prog.underlying 29).get (by kernel_rfl)) (ls:=.int .i64::(((.bool::j1 16)++ [.int .i64])++ [.int .i64,.int .u64])) (pr _).symm (by kernel_rfl) (by kernel_rfl) (by kernel_rfl) a.d_ b.d_;have e:e0 a.c b.c=decide (a=b):=by
  rw[fD,rS a.d_ b.d_,cx];exact⟨aU.oL,λh=>by rw[h]⟩
 rwa[e]at h
section
variable {w w':J}{s t:ad}{T U:O aU}
end
section
variable {B C W:Nat->Prop}{w w':J}{gM:Nat}
theorem Bd(d i k:Nat):Addr.add ⟨d,i,none⟩ k=⟨d,i+k,none⟩:=by
 rw[ay]
end
structure je(V:Nat->c7)(n gen:Nat)(u:en)(g:Nat->an)(P:Nat->aq aB)(p:O Nat)(L:O aS):Prop where
 fr:∃j,j<n/\g j=false
 Be:qQ ((gen%2:Nat):Int) (V (gen%2))=.ok (u,n,gen)
 Gh:V (1-gen%2)=gT\/∃a g',qQ ((1-gen%2:Nat):Int) (V (1-gen%2))=.ok (a,n,g')/\g'<gen
 mp:∃hK,hK<=gen/\fe (u.map:Int) (V u.map)=.ok ⟨4,hK,hL g ((n+7)/8)⟩
 g:∀no,g no=true↔no∈p\/no<2\/no=u.map
 bP:p.Nodup
 two:∀x∈p,2<=x/\x≠u.map/\x<n
 ok:(u.aI=0/\u.root=0/\p=[]/\L=[])\/fc P u.aI none none u.root p L
 eF:∀x∈p,∀bP,P x=some bP->gr gen bP.leaf x (V x) bP
 keys:u.keys=L.length
 kv:∀q∈L,cU q.1/\q.2.length<=24
 Gi:l2 u
 uz:l3 u n
 Gj:u.da+1<=gen
theorem je.agree{V a:Nat->c7}{n gen:Nat}{u:en}{g:Nat->an}{P P':Nat->aq aB}{p:O Nat}{L:O aS}(h:je V n gen u g P p L)(e5:∀j,g j=true->a j=V j)(b:∀x∈p,P x=P' x):je a n gen u g P' p L:=by
 have h0:a (gen%2)=V (gen%2):=e5 _ ((h.g _).2 (.inr (.inl I)));have h1:a (1-gen%2)=V (1-gen%2):=e5 _ ((h.g _).2 (.inr (.inl I)));refine⟨h.fr,by rw[h0];exact h.Be,by rw[h1];exact h.Gh,by rw[e5 _ ((h.g _).2 (.inr (.inr rfl)))];exact h.mp,h.g,h.bP,h.two,h.ok.imp id λc=>(c.agree b).1,λx hx bP d=>?_,h.keys,h.kv,h.Gi,h.uz,h.Gj⟩;rw[e5 _ ((h.g _).2 (.inl hx))];exact h.eF x hx bP (by rw[b x hx];exact d)
structure cl where
 st:Nat
 T:aP
 l:e7
 u:en
 gen:Nat
 now:Nat
 first:Nat
 pending:Nat
 keys:Nat
 failed:an
def cl.V(S:cl)(j:Nat):c7:=S.T.C.D.bx.getD j []
def cl.cells(S:cl):O Y:=gB S.T.bg S.T.C.D.d S.T.C.c S.T.sb S.l S.u S.gen S.now S.first S.pending S.keys S.failed
structure fq(w:J)(S:cl)(aM:O Nat)(bp:O aS):Prop where
 v:Var w S.st S.cells 158
 t:b6 w S.T
 es:S.T.E S.st
 fB:je S.V S.T.n S.gen S.u S.T.g S.T.P aM bp
 gen:S.T.gen=S.gen+1
 num:S.now<18446744073709551616/\S.first<=S.now/\S.u.da+1<=S.gen/\S.gen+2<18446744073709551616/\S.l.batch<=1000/\S.l.hX<=1048576/\1<=S.l.batch
 bC:∀j,S.T.g j=true->S.T.C.D.bC j=true
structure dP(w:J)(S:cl)(pages:O Nat)(L:O aS)(aM:O Nat)(bp:O aS):Prop extends fq w S aM bp where
 ok:gu S.T pages L
 bP:pages.Nodup
 f:∀no,S.T.f no=true↔no∈pages\/no<2\/no=S.u.map
 two:∀x∈pages,2<=x/\x≠S.u.map
 kv:∀p∈L,cU p.1/\p.2.length<=24
 keys:S.keys=L.length
 nv:S.pending<=1000
 live:S.failed=false->¬S.T.C.D.ro/\S.T.C.D.dY=(λ_=> [])/\1<=ck S.T
 dead:S.failed=true->S.T.C.D.ro/\L=bp/\pages=aM/\S.pending=0
def a6.quiet(D:a6):Prop:=(∀k,D.calm k)/\D.b7.getD 3 0= -1
def cl.W(S:cl)(q:Nat):Prop:=S.T.M q/\(S.T.E q->q=S.st)
structure dA(k:Nat)(S aF:cl)(w w':J):Prop where
 st:aF.st=S.st
 d:aF.T.C.D.d=S.T.C.D.d
 n:aF.T.n=S.T.n
 l:aF.l=S.l
 aR:aF.T.C.D.aR<=S.T.C.D.aR+k
 q:S.T.C.D.quiet->aF.T.C.D.quiet
 af:ae S.W w w'
 de:∀q,aF.T.M q->S.T.M q\/w.heap.size<=q
 E:aF.T.E=S.T.E
 G:aF.T.G=S.T.G
 r:aF.T.C.D.r1=S.T.C.D.r1
section
variable {w w':J}{C:bN}{X:Nat->Prop}{T:aP}{S aF:cl}{pages aM:O Nat}{L bp:O aS}
theorem fq.kF(h:fq w S aM bp){q:Nat}(a:S.T.N q):S.W q:=⟨aP.hG a,λhe=>absurd a (h.t.j8 he)⟩
theorem fq.xd(h:fq w S aM bp):S.W S.st:=⟨.inr (.inr (.inr (.inl h.es))),λ_=>rfl⟩
theorem dA.back{k q:Nat}(h:dA k S aF w w')(b:q<w.heap.size)(a:aF.W q):S.W q:=⟨(h.de q a.1).resolve_right I,λhe=>(a.2 (by rw[h.E];exact he)).trans h.st⟩
theorem dC.ga(h:dC X w C){s:Nat->an}{z:Nat->O c7}(hc:∀f∈C.ak,∀j:Nat,f.full=true->f.no=j->s j=true->f.fg=false)(b:∀j,s j=true->C.D.dF j=z j):
 dC X w {C with D:=C.D.ga s z}:=
 ⟨⟨h.raw.v,h.raw.f,h.raw.dev.ga s z,h.raw.cr,h.raw.cq,h.raw.hd,h.raw.a1⟩,h.inv.pins,λf hf a=>by
  obtain⟨no,av,c,d,e,g,k,i⟩:=h.inv.ok f hf a
  exact⟨no,av,c,d,e,g,λhs=>hc f hf no a av hs,i⟩,h.inv.un,h.inv.eK,b⟩
theorem b6.ga(h:b6 w T){s:Nat->an}{z:Nat->O c7}(hc:∀f∈T.C.ak,∀j:Nat,f.full=true->f.no=j->s j=true->f.fg=false)(a:∀j,s j=true->T.C.D.dF j=z j)(hs:∀j,s j=true->T.g j=true\/∀i,s i=true):
 b6 w (T.bL {T.C with D:=T.C.D.ga s z} T.P):=⟨h.t,h.s,h.ca.ga hc a,h.iH,h.dG,h.iu,h.n,h.num,h.eF,hs,h.low⟩
theorem Gk(h:dC X w C){j:Nat}(hs:C.D.bC j=true):C.view j=C.D.now j:=by
 unfold bN.view
 cases hf:C.ak.find? λf=>f.full&&f.no==(j:Int) with
 |none=>rfl
 |some f=>
  have h1:=jo hf;have a:=iy hf;simp only[dt,jj]at h1;obtain⟨no,av,d,e,g,b,c,i⟩:=h.inv.ok f a h1.1;have:no=j:=by omega
  subst this;exact b (c hs)
theorem Gl(h:dC X w C){j:Nat}(hs:C.D.bC j=true)(a:C.D.dY j=[]):C.view j=C.D.bx.getD j []:=by
 rw[Gk h hs,wE _ (λx hx=>(h.raw.dev.wn x hx).1),if_pos (by rw[h.inv.kz j hs,a])]
theorem dP.view(h:dP w S pages L aM bp)(a:S.failed=false){j:Nat}(b:S.T.g j=true):S.T.C.view j=S.V j:=
 Gl h.t.ca (h.bC j b) (by rw[(h.live a).2.1])
theorem fq.eN(h:fq w S aM bp):uv S.T.C.D.n (S.u.root:Nat) (S.u.aI:Nat):=by
 obtain⟨h1,a,b,_⟩:=h.fB.uz;rw[h.t.n];exact⟨I,I,I,I,I⟩
theorem fq.set(h:fq w S aM bp){i:Nat}{x:Y}(hi:i<19):(∃u:Y,w.cell? ⟨S.st,i,none⟩=some u)/\w.frozen? ⟨S.st,i,none⟩=false/\
 Var (w.setCell ⟨S.st,i,none⟩ x) S.st (S.cells.set i x) 158/\b6 (w.setCell ⟨S.st,i,none⟩ x) S.T/\ae (λq=>q=S.st) w (w.setCell ⟨S.st,i,none⟩ x):=by
 obtain⟨av,a⟩:=ew h.v (i:=i) (by exact hi);exact⟨av,a,eu h.v (i:=i) x,h.t.jL h.es (dN w S.st i x),dN w S.st i x⟩
end
structure Gm(S aF:cl):Prop where
 u:aF.u=S.u
 gen:aF.gen=S.gen
 now:aF.now=S.now
 failed:aF.failed=true
 V:aF.T.C.D.bx=S.T.C.D.bx
 sa:∀j,aF.T.C.D.dY j=S.T.C.D.dF j
 aR:aF.T.C.D.aR=S.T.C.D.aR
section
variable {w w':J}{C:bN}{X:Nat->Prop}{T:aP}{S aF:cl}{pages aM:O Nat}{L bp:O aS}
theorem Bf(h:fq w S aM bp)(e:Int)(cB:S.T.C.D.aR<=900000000):
 aH ai 81 #[.pointer (some S.st),e] w (λv w'=>v=e/\∃aF,dP w' aF aM bp aM bp/\dA 0 S aF w w'/\Gm S aF):=by
 refine okF (ag.sL (some S.st) e) az.sL func81 ?_;(delta ag.sL st fV bG ao aL aE b_ au b4 gK;dsimp only);have aN:=h.eN;obtain⟨av,bo,a0,cC,bq⟩:=h.set (i:=18) (x:=true) (by decide);refine⟨_,rfl,by rw[ay];exact av,by rw[ay];exact bo,aY ?_⟩;rw[ay,cS];obtain⟨bs,bt⟩:=ew a0 (i:=16) (by simp[cl.cells,gB]);have aO:=eu a0 (i:=16) (0:Int);have aa:=bq.trans (dN _ S.st 16 (0:Int));refine⟨_,rfl,by rw[ay];exact bs,by rw[ay];exact bt,aY ?_⟩;rw[ay,cS];generalize cD:(w.setCell ⟨S.st,18,none⟩ true).setCell ⟨S.st,16,none⟩ (0:Int)=bu at aO aa⊢;have ab:=h.t.jL h.es aa;have cE:=aa.size;refine⟨_,rfl,_,by rw[ay];exact aO.cell,(E7 ab.s).use ?_⟩;rintro _ bv ⟨rfl,s1,bw,ac,bz⟩;have cF:=ac.size;obtain⟨ad,a1⟩:=ab.space bw ac bz ab.bC ab.low;have a2:=aO.af ac (h.t.dG _ h.es).2.1;obtain⟨gL,B⟩:∃gL,gL=S.T.uw S.T.g S.T.g s1 S.T.s2:=⟨_,rfl⟩;rw[←B]at ad a1;have aP:gL.C=S.T.C:=by rw[B];rfl
 have bA:gL.E=S.T.E:=by rw[B];rfl
 have bD:gL.g=S.T.g:=by rw[B];rfl
 have bE:gL.P=S.T.P:=by rw[B];rfl
 have bF:gL.n=S.T.n:=by rw[B];rfl
 have bH:gL.sb=S.T.sb:=by rw[B];rfl
 have bI:gL.G=S.T.G:=by rw[B];rfl
 have bJ:gL.gen=S.T.gen:=by rw[B];rfl
 have bK:gL.f=S.T.g:=by rw[B];rfl
 have bM:∀q,gL.M q->S.T.M q\/w.heap.size<=q:=λq k=>(a1 q k).imp id λh=>by omega
 have cG:∀ (w':J),Var w' S.st ((S.cells.set 18 true).set 16 (0:Int)) 158->w'.cell? ⟨S.st,2,none⟩=some (.pointer (some S.T.C.c)):=λw' aQ=>aQ.cell;refine⟨rfl,_,rfl,_,by rw[ay];exact a2.cell,?_⟩;have a3:=A8 ad.ca.raw;rw[aP]at a3;refine a3.use ?_;rintro _ aj ⟨s,zs,rfl,bO,aS,al,bQ⟩;have cH:=al.size
 have bR:∀z∈zs,∃no:Nat,z=(no:Int)/\S.T.g no=false:=λz H=>by
  have:=aS.mem_iff.1 H;unfold iv at this;obtain⟨f,hf,rfl⟩:=e9.1 this;obtain⟨bS,a4⟩:=gE.1 hf;have a5:f.full=true/\f.fg=true:=by unfold Fr.gi at a4;simpa using a4
  obtain⟨no,cr,cq,am,an,a7,bT⟩:=h.t.ca.inv.ok f bS a5.1;refine⟨no,cr,?_⟩
  cases hg:S.T.g no with
  |false=>rfl
  |true=>
   have:=bT (h.bC no hg);rw[a5.2]at this;cases this
 have cI:zs.length<=64:=by
  rw[aS.length_eq];unfold iv;rw[dJ];exact eo (pG _ _) h.t.ca.raw.cq
 have aT:=ad.ext al;obtain⟨P',aU⟩:∃P':Nat->aq aB,P'=λno=>if S.T.g no=true then S.T.P no else none:=⟨_,rfl⟩
 obtain⟨bU,_⟩:=aT.o7 (P:=P') aT.ca (dO.refl gL.C aj) (λno bP o=>by
  rw[aU]at o;dsimp only at o;by_cases hg:S.T.g no=true
  .rw[if_pos hg]at o
   exact aT.eF no bP (by rw[bE];exact o)
  .rw[if_neg hg]at o;cases o)
 have bV:∀q,aC s q->¬cR S.T.C q:=λq k hf=>by
  have:=bQ q k;have:=ad.lt (q:=q) (.inl (by rw[aP];exact hf));omega
 refine⟨s,rfl,λn16 l=>∃ (i:Nat) (aD:bN),n16=(i:Nat)/\i<=zs.length/\b6 l (gL.bL aD P')/\dO S.T.C aD aj l 0/\aD.D=S.T.C.D/\(∀j,S.T.g j=true->aD.view j=S.T.C.view j)/\(∀f∈aD.ak,f.full=true->f∈S.T.C.ak/\∀z∈zs.take i,f.no≠z)/\aW 1 3 l s (zs.map encZ)/\(∀q,aC s q->¬cR aD q),
  λn16 _=>((zs.length:Int)-n16).toNat,⟨0,S.T.C,rfl,cZ _,by rw[←aP];exact bU,.refl _ _,rfl,λ_ _=>rfl,λf hf _=>⟨hf,λz H=>(by simp at H)⟩,bO,bV⟩,?_⟩
 rintro _ l ⟨i,aD,rfl,hi,R,L,r,bW,a8,ap,a9⟩;have cN:s.len=zs.length:=by have:=ap.1;rw[dJ]at this;omega
 have bX:∀ (w':J),ae (cR S.T.C) aj w'->Var w' S.st ((S.cells.set 18 true).set 16 (0:Int)) 158:=λw' hc=>(a2.ext al).af hc λhf=>(h.t.ca.inv.eK _ (.inr (.inr (.inl h.es)))).2 hf;have a_:=bX _ L.af;refine⟨λK=>?_,λK=>?_⟩
 .have K:(i:Int)<(s.len:Int):=cw K
  have aw:i<zs.length:=by omega
  obtain⟨A,ar,bY⟩:∃a:ah,s.a=some a/\l.cell? (a.add (Int.toNat (i:Int)*1))=some (.int .i64 zs[i]):=by
   obtain⟨b,c,K,_,_,_,_,bZ,_⟩:=ap.cell (i:=i) (v:=encZ zs[i]) (by rw[lp,dI aw];rfl);exact⟨_,K,by rw[dQ,ay,cS,fJ];exact bZ⟩
  obtain⟨no,ba,b0⟩:=bR _ (cK aw);refine⟨A,ar,⟨I,K⟩,zs[i],bY,_,rfl,_,by rw[ay];exact a_.cell,?_⟩;have bb:=AA R.ca no;rw[ba];have U:aD.c=S.T.C.c:=L.c;have b1:(gL.bL aD P').C.c=S.T.C.c:=U;rw[b1]at bb;refine bb.use ?_;rintro _ cO ⟨⟨b,rfl⟩,bc,b2,ax,aQ,b3,b5⟩;have bd:∀j,S.T.g j=true->bc.view j=aD.view j:=λj X=>aQ j λe=>by rw[e,b0]at X;cases X
  obtain⟨b7,_⟩:=R.o7 (P:=P') b2 ax (λj bP o=>by
   obtain⟨br,bl⟩:=R.eF j bP o;have b9:S.T.g j=true:=by
    cases hg:S.T.g j with
    |true=>rfl
    |false=>rw[aU]at o;simp[hg]at o
   rw[bd j b9];exact⟨br,bl⟩)
  have cb:((zs.length:Int)-((i+1:Nat):Int)).toNat<((zs.length:Int)-(i:Int)).toNat:=by omega
  have be:IntKind.wrap .i64 ((i:Int)+1)=((i+1:Nat):Int):=by rw[bB I I];omega
  have cc:=ap.af ax.af λq k hf=>a9 q k hf;refine⟨b,rfl,⟨i+1,bc,be,aw,b7,(L.trans ax).mono (bm _),b3.trans r,λj X=>(bd j X).trans (bW j X),λf hf N=>?_,cc,λq k hf=>?_⟩,by rw[be];exact cb⟩
  .obtain⟨cr,cq⟩:=b5 f hf N
   obtain⟨am,an⟩:=a8 f cr N;refine⟨am,λz H=>?_⟩;rw[kg aw,cM,fh]at H;rcases H with H|rfl
   .exact an z H
   .rw[ba];exact cq
  .rcases ax.de q hf with h1|h1
   .exact a9 q k h1
   .have:=aW.lt ap q k;omega
 have K:¬(i:Int)<(s.len:Int):=cT K;obtain rfl:i=zs.length:=by omega
 have cd:∀f∈aD.ak,f.full=true->f.fg=false:=λf hf N=>by
  obtain⟨cr,cq⟩:=a8 f hf N
  cases hd:f.fg with
  |false=>rfl
  |true=>
   refine absurd rfl (cq f.no ?_);rw[jk];refine aS.mem_iff.2 (e9.2 ⟨f,gE.2 ⟨cr,?_⟩,rfl⟩);unfold Fr.gi;rw[N,hd];rfl
 have U:aD.c=S.T.C.c:=L.c;obtain⟨eU,y⟩:∃eU,eU=gL.bL aD P':=⟨_,rfl⟩;rw[←y]at R;have f1:eU.C=aD:=by rw[y];rfl
 have f2:eU.E=S.T.E:=by rw[y];exact bA
 have f3:eU.g=S.T.g:=by rw[y];exact bD
 have f4:eU.P=P':=by rw[y];rfl
 have f5:eU.n=S.T.n:=by rw[y];exact bF
 have f6:eU.sb=S.T.sb:=by rw[y];exact bH
 have f7:eU.G=S.T.G:=by rw[y];exact bI
 have f8:eU.gen=S.T.gen:=by rw[y];exact bJ
 have f9:eU.f=S.T.g:=by rw[y];exact bK
 have aV:∀q,eU.M q->S.T.M q\/w.heap.size<=q:=λq k=>by
  rw[y]at k;rcases k with k|k
  .rcases L.de q k with h1|h1
   .exact .inl (.inl h1)
   .exact .inr I
  .exact bM q (.inr k)
 have cP:=L.af.size;refine kn (λaA=>∃bg,fq aA {S with T:=(eU.b8 bg S.T.gen S.u.root S.u.aI S.T.E).bL {aD with D:=aD.D.ga (λ_=>true) aD.D.dF} P',pending:=0,failed:=true} aM bp/\l.heap.size<=bg/\ae (λq=>q=S.st) l aA) (λcQ ce=>aY ?_) ?_
 .have aG:Ext l l.drew:=cL _
  have Q:=a_.ext aG;have aJ:=R.ext aG;have bf:=aJ.ca.raw;rw[f1]at bf;have bh:=mS bf S.T.sb (S.T.gen:Int) (S.u.root:Int) (S.u.aI:Int);rw[U]at bh;refine⟨λ_=>False,_,rfl,id,_,by rw[ay];exact Q.cell,_,rfl,id,_,by rw[ay];exact Q.cell,_,rfl,id,_,by rw[ay];exact Q.cell,_,rfl,id,_,by rw[ay];exact Q.cell,_,rfl,id,_,by rw[ay,ay];exact Q.cell,?_⟩;have cf:IntKind.wrap .u64 ((S.gen:Int)+1)=(S.T.gen:Int):=by rw[fU I (by have:=h.num;omega)];have:=h.gen;omega
  rw[cf];refine bh.use ?_;rintro _ aX (⟨_,rfl,Z,cg,cU⟩|⟨ch,_⟩)
  rotate_left
  .exact absurd (by rw[r];exact aN) ch
  have cW:=Z.size;refine⟨_,0,rfl,Z,λ_=>?_,λhx=>(by cases hx)⟩;have bi:=Q.ext Z;obtain⟨cr,cq⟩:=ew bi (i:=0) (by simp[cl.cells,gB]);have ci:=eu bi (i:=0) (.pointer (some l.drew.heap.size));have bj:=dN aX S.st 0 (.pointer (some l.drew.heap.size));have cj:b6 aX (eU.b8 l.drew.heap.size S.T.gen S.u.root S.u.aI S.T.E):=by
   refine aJ.tree Z (by show Var _ _ [.pointer (some eU.C.c),.pointer (some eU.sb),_,_,_] _;rw[f1,U,f6];exact cg) (.inr (bm _)) (λq k=>?_) ⟨?_,?_,?_⟩ λno bP o=>?_
   .have h1:=aJ.lt (q:=q) (.inr (.inr (.inr (.inl (by rw[f2];exact k)))))
    exact⟨I,.inl (by rw[f2];exact k)⟩
   .rw[f5,←h.t.n];have:=aN.2.2.2.1;omega
   .have:=aN.2.1;omega
   .exact h.t.num.2.2
   .rw[←f8];exact aJ.eF no bP o
  have ck:=cj.ga (s:=λ_=>true) (z:=eU.C.D.dF) (λf hf j N _ _=>cd f (by rw[←f1];exact hf) N) (λ_ _=>rfl) λ_ _=>.inr λ_=>rfl;have bk:b6 aX ((eU.b8 l.drew.heap.size S.T.gen S.u.root S.u.aI S.T.E).bL {eU.C with D:=eU.C.D.ga (λ_=>true) eU.C.D.dF} eU.P):=ck;rw[f1,f4]at bk;refine⟨_,rfl,cr,cq,aY (ce _ ⟨l.drew.heap.size,⟨?_,bk.jL h.es bj,h.es,?_,h.gen,h.num,λ_ _=>rfl⟩,aG.size,((Ext.trans aG Z).mono λ_ _ h=>h.elim).trans bj⟩)⟩
  .show Var _ _ (gB _ aD.D.d aD.c eU.sb _ _ _ _ _ _ _ _) _
   rw[r,U,f6];exact ci
  .show je (λj=>aD.D.bx.getD j []) eU.n _ _ eU.g P' _ _
   rw[r,f5,f3];exact h.fB.agree (λ_ _=>rfl) λx hx=>by
    rw[aU];dsimp only;rw[if_pos ((h.fB.g x).2 (.inl hx))]
 .rintro aA ⟨bg,F,cX,cm⟩
  obtain⟨cJ,p⟩:∃cJ:cl,cJ={S with T:=(eU.b8 bg S.T.gen S.u.root S.u.aI S.T.E).bL {aD with D:=aD.D.ga (λ_=>true) aD.D.dF} P',pending:=0,failed:=true}:=⟨_,rfl⟩;rw[←p]at F;have O:cJ.st=S.st:=by rw[p]
  obtain⟨cr,cq,am,an,a7⟩:=F.set (i:=17) (x:=S.u.keys) (by decide);have cn:∃z:Y,cJ.cells[12]? =some z/\z=S.u.keys:=⟨_,by rw[p];rfl,rfl⟩;obtain⟨z,co,rfl⟩:=cn;have cp:({cJ with keys:=S.u.keys}:cl).cells=cJ.cells.set 17 S.u.keys:=by rw[p];rfl
  have m:cJ.T=(eU.b8 bg S.T.gen S.u.root S.u.aI S.T.E).bL {aD with D:=aD.D.ga (λ_=>true) aD.D.dF} P':=by rw[p]
  have g1:cJ.T.n=S.T.n:=by rw[m];exact f5
  have cs:cJ.T.C.D.bx=S.T.C.D.bx:=by rw[m];show aD.D.bx=_;rw[r]
  have aK:cJ.u=S.u:=by rw[p]
  have ct:cJ.gen=S.gen:=by rw[p]
  have cu:cJ.T.f=S.T.g:=by rw[m];exact f9
  have cv:cJ.T.C.D.ro:=by rw[m];exact λ_=>rfl
  have bn:cJ.failed=true:=by rw[p]
  refine⟨_,rfl,_,by rw[ay,ay,←O];exact F.v.cell.trans co,_,rfl,by rw[ay,←O];exact cr,by rw[ay,←O];exact cq,aY ⟨rfl,{cJ with keys:=S.u.keys},⟨⟨?_,?_,F.es,F.fB,F.gen,F.num,F.bC⟩,?_,h.fB.bP,λno=>?_,λx hx=>?_,h.fB.kv,h.fB.keys,?_,λhf=>?_,λ_=>⟨cv,rfl,rfl,by rw[p]⟩⟩,?_,⟨aK,ct,by rw[p],bn,cs,λj=>?_,by rw[show({cJ with keys:=S.u.keys}:cl).T=cJ.T from rfl,m];show aD.D.aR=_;rw[r]⟩⟩⟩
  .rw[cp,ay,cS,←O];exact am
  .rw[ay,cS,←O];exact an
  .show gu cJ.T aM bp
   rw[m];have:=F.fB.ok;rw[m,aK]at this;exact this
  .show cJ.T.f no=true↔no∈aM\/no<2\/no=cJ.u.map
   rw[cu,aK];exact h.fB.g no
  .rw[show({cJ with keys:=S.u.keys}:cl).u=S.u from aK]
   exact⟨(h.fB.two x hx).1,(h.fB.two x hx).2.1⟩
  .show cJ.pending<=1000
   rw[p];exact cZ _
  .rw[show({cJ with keys:=S.u.keys}:cl).failed=true from bn]at hf;cases hf
  .refine⟨O,?_,g1,by rw[p],?_,λk=>?_,?_,λq k=>?_,?_,?_,?_⟩
   .show cJ.T.C.D.d=_
    rw[m];show aD.D.d=_;rw[r]
   .show cJ.T.C.D.aR<=_
    rw[m];show aD.D.aR<=_;rw[r];omega
   .show cJ.T.C.D.quiet
    rw[m];show a6.quiet (aD.D.ga _ _);rw[r];exact k
   .rw[ay,cS]
    have aZ:∀q,q=S.st->S.W q:=λq e=>by rw[e];exact h.xd
    have h1:ae S.W w bu:=aa.mono λq _ e=>aZ q e;have cx:ae S.W w bv:=cV h1 ac λq _ k=>h.kF (.inr (.inr (.inl k)));have cy:ae S.W w aj:=cV cx al λq _ k=>k.elim;have cz:ae S.W w l:=cV cy L.af λq _ k=>h.kF (.inl k);have cA:ae S.W w aA:=cV cz cm λq _ k=>aZ q k;exact cV cA (V:=λq=>q=S.st) (by rw[←O];exact a7) λq _ k=>aZ q k
   .have k:cJ.T.M q:=k
    rw[m]at k;rcases k with k|k|k|k|k
    .exact aV q (.inl (by rw[f1];exact k))
    .have k:q=bg:=k
     exact .inr I
    .exact aV q (.inr (.inr (.inl k)))
    .exact .inl (.inr (.inr (.inr (.inl k))))
    .exact aV q (.inr (.inr (.inr (.inr k))))
   .show cJ.T.E=_
    rw[m];rfl
   .show cJ.T.G=_
    rw[m];exact f7
   .show cJ.T.C.D.r1=_
    rw[m];show aD.D.r1=_;rw[r]
  .show cJ.T.C.D.dY j=_
   rw[m];show aD.D.dF j=_;rw[r]
end
theorem gr.mono{gen a no:Nat}{leaf:an}{l:c7}{n:aB}(h:gr gen leaf no l n)(hg:gen<=a):gr a leaf no l n:=by
 obtain⟨p,h1,b,c⟩:=h;exact⟨p,h1,eo b hg,c⟩
section
variable {w w':J}{C:bN}{X:Nat->Prop}{T:aP}{S aF:cl}{pages aM:O Nat}{L bp:O aS}
theorem Gn{aw:a6}(h:dC X w C)(hd:c4 w' aw)(e:aw.d=C.D.d)(g:jH aw C.D)(k:∀i,2<=i->aw.now i=C.D.now i)(hc:ae (cd C.D) w w')(hf:∀q,cd aw q->cd C.D q\/w.heap.size<=q):
 dC X w' {C with D:=aw}/\∀j,2<=j->({C with D:=aw}:bN).view j=C.view j:=by
 have o:=hc.size;have l:∀q,q<w.heap.size->cR {C with D:=aw} q->cR C q:=λq a b=>by
  rcases b with h1|h1|h1
  .exact .inl h1
  .exact .inr (.inl h1)
  .exact .inr (.inr ((hf q h1).resolve_right I))
 refine⟨⟨h.raw.oK hd e hc hf,h.inv.pins,λf p r=>?_,h.inv.un,λq a=>⟨ft (h.inv.eK q a).1 o,λb=>(h.inv.eK q a).2 (l q (h.inv.eK q a).1 b)⟩,g.2.2⟩,λj s=>?_⟩
 .obtain⟨no,av,t,u,v,x,y,m⟩:=h.inv.ok f p r
  exact⟨no,av,by rw[show({C with D:=aw}:bN).D.n=aw.n from rfl,g.1];exact t,bo.re u hc (λq _ c z=>c.1 (.inr (.inr z))) λq a c=>⟨λb=>c.1 (l q a b),c.2⟩,v,λhd=>by show _=aw.now no;rw[k no m];exact x hd,λhs=>y (g.2.1 _ hs),m⟩
 .unfold bN.view
  dsimp only
  cases C.ak.find? λf=>f.full&&f.no==(j:Int) with
  |some f=>rfl
  |none=>exact k j s
theorem b6.Bg{aD:bN}{P:Nat->aq aB}(h:b6 w T)(a:dC T.X w' aD)(hc:ae (cR T.C) w w')(e:aD.c=T.C.c)(b:aD.D.n=T.C.D.n)(d:∀no bP,P no=some bP->no<T.n/\gr T.gen bP.leaf no (aD.view no) bP)(f:∀j,aD.D.bC j=true->T.g j=true\/aD.D.ro):
 b6 w' (T.bL aD P):=by
 have hx:=h.ca.inv.eK;refine⟨?_,h.s.af hc λq i hf=>(hx q (.inr (.inl i))).2 hf,a,h.iH,h.dG,h.iu,b.trans h.n,h.num,d,f,h.low⟩;have:=h.t.af hc λhf=>(hx T.bg (.inl rfl)).2 hf;unfold j_ at this⊢;rw[←e]at this;exact this
def aP.ld(T:aP)(gen:Nat):aP:={T with gen:=gen}
theorem b6.Gp{gen:Nat}(h:b6 w T)(b:Var w' T.bg (j_ (T.ld gen)) 239)(hc:ae (λq=>q=T.bg) w w')(h1:T.gen<=gen)(c:gen<18446744073709551616):b6 w' (T.ld gen):=
 ⟨b,h.s.af hc λq d e=>h.iH (e▸d),h.ca.af hc λq e=>.inl e,h.iH,h.dG,h.iu,h.n,⟨h.num.1,h.num.2.1,c⟩,λno bP a=>⟨(h.eF no bP a).1,(h.eF no bP a).2.mono h1⟩,h.bC,h.low⟩
theorem Gq(h:b6 w T){gen:Nat}(h1:T.gen<=gen)(a:gen<18446744073709551616):
 aH ai 164 #[.pointer (some T.bg),.int .u64 (gen:Nat)] w (λv w'=>v=.tuple #[]/\b6 w' (T.ld gen)/\ae (λq=>q=T.bg) w w'):=by
 refine ag.CO _ _ w _ ?_;(delta ag.qp ao st;dsimp only);obtain⟨av,b⟩:=ew h.t (i:=2) (by simp[j_]);have c:=eu h.t (i:=2) (.int .u64 (gen:Nat));have hc:=dN w T.bg 2 (.int .u64 (gen:Nat));refine⟨λ_=>⟨_,rfl,by rw[ay];exact av,by rw[ay];exact b,aY ?_⟩,λd=>(by cases d)⟩;rw[ay,cS];exact⟨rfl,h.Gp c hc h1 a,hc⟩
def Bh(aF:cl)(gen:Nat)(g:Nat->an)(pages:O Nat)(L:O aS)(clock da:Nat):Prop:=
 (∀j,g j=true->aF.T.C.D.dY j=[])\/
 ∃ (a:en) (av:Nat->an) (c:Nat->aq aB) (b:c7),(∀j,aF.T.C.D.dY j=if j=(gen+1)%2 then [b] else [])/\je (λj=>if j=(gen+1)%2 then b else aF.V j) aF.T.n (gen+1) a av c pages L/\a.clock=clock/\a.da=da
def o_(S:cl)(pages:O Nat)(L:O aS)(aM:O Nat)(bp:O aS)(w:J)(v:Y)(w':J):Prop:=
 ∃aF,dA 100 S aF w w'/\aF.now=S.now/\
  ((v=.int .i64 0/\dP w' aF pages L pages L/\aF.failed=false/\aF.gen=S.gen+1/\aF.u.clock=S.now/\aF.u.da=S.u.da+1/\aF.pending=0)\/
   (v=.int .i64 3/\¬S.T.C.D.quiet/\dP w' aF aM bp aM bp/\aF.failed=true/\aF.u=S.u/\aF.gen=S.gen/\(∀j,S.T.g j=true->aF.V j=S.V j)/\Bh aF S.gen S.T.g pages L S.now (S.u.da+1)))
end
end Go.Proofs.YtkdhdlfonmgheaaGreat
