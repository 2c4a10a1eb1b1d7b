/- Contracts of the functions that the statement reaches, and the plain laws over them; each theorem stands with its conditions. -/
import Derived.Test.YtkdhdlfonmgheaaGreatBAFew4
namespace Go.Proofs.YtkdhdlfonmgheaaGreat
open Go aR Go.Proofs.Tryz
theorem cZ.wK{P:Nat->ar aB}{lo hi:ar Key}{h:Nat}{n:aB}{p:O Nat}{L:O aS}(a:cZ P h n lo hi p L)(e:n.leaf=true->br n<=310)(f:n.leaf=false->br n<=335)(j:n.leaf=false->n.keys≠ []):kt n:=by
 refine⟨?_,by cases g:n.leaf;exact ei (f g) (by decide);exact ei (e g) (by decide),λhs=>?_⟩
 .cases h with
  |zero=>exact a.elim
  |succ h=>
   cases h with
   |zero=>exact .inl a.1
   |succ h=>
    obtain⟨av,b,c,d,i⟩:=a;have hs:=i.sorted λ_ _ _ _ _ k=>k.in;exact .inr ⟨⟨c,hs.2.2.1⟩,av,j av,i.len,b,d⟩
 .obtain⟨av,b,c,d,_⟩:=a.two (Q:=P) (x:=0) (y:=0) hs e f
  exact⟨av,b,c,d⟩
section
variable {P:Nat->ar aB}{lo hi:ar Key}
theorem Fo{h:Nat}{d f:aB}{p A:ar Key}{i:Nat}{bo D:O Nat}{bm gG:O aS}{k:Key}(E:∀k∈d.keys,cR k)(hlen:d.kids.length=d.keys.length+1)(F:∀x n,P x=some n->br n<=232)
 (Q:1<=i) (R:i<d.kids.length) (B:e2 p A k)
 (G:eU (eN P (h+1)) lo p (d.keys.take i) (d.kids.take i) bo bm) (q:cZ P (h+1) f p A D gG) (h1:br f<80):
 ∃ (o:aB) (S:i-1<d.kids.length) (T:i-1<d.keys.length),P d.kids[i-1]=some o/\o.leaf=f.leaf/\cR d.keys[i-1]/\kt (dv o d.keys[i-1] f):=by
 obtain⟨s,H,aM,r,bp,N,hs,rfl,t,rfl,rfl,⟨u,m,g,v⟩,U,V⟩:=G.last (by rw[cK];omega);have W:(d.keys.take i).length=i:=by rw[cK];omega
 have X:(d.kids.take i).length=i:=by rw[cK];omega
 have t:s=d.keys[i-1]'I:=by
  rw[t,pg];congr 1;omega
 have J:(d.kids.take i)[(d.kids.take i).length-1]'I=d.kids[i-1]'I:=by
  rw[pg];congr 1;omega
 rw[J]at u g;obtain⟨o,K,j,rfl,_,w⟩:=u.jz;rw[j]at g;have v:2<=o.keys.length:=by rw[Option.some.inj g];exact v
 clear g;subst t;have y:=(show eN P (h+1) H (some (d.keys[i-1]'I)) (d.kids[i-1]'I) (d.kids[i-1]'I::K) N from⟨u,o,j,v⟩).in;obtain⟨x,hx⟩:=pd _ y.1;have z:=E _ (cI (l:=d.keys) (n:=i-1) I);have L:=cZ.merge w q z (λc hc=>hU (jx ((y.2.2 x hx).1 c hc) ((y.2.2 x hx).2 _ rfl))) (λc hc=>hU (jx (B.1 _ rfl) (B.2 c hc)));have C:=tl w q z (by have:=F _ _ j;omega);have M:=tj (a:=o) (b:=f) (s:=d.keys[i-1]'I);refine⟨o,I,I,j,by rw[w.leaf,q.leaf],z,L.wK C.1 C.2 λ_ e=>?_⟩;rw[e,ll]at M;omega
theorem Fp{h:Nat}{d f:aB}{B q:ar Key}{i:Nat}{bj E:O Nat}{gG bG:O aS}{k:Key}(F:∀k∈d.keys,cR k)(hlen:d.kids.length=d.keys.length+1)(G:∀x n,P x=some n->br n<=232)
 (g:i+1<d.kids.length) (C:e2 B q k)
 (H:fL (eN P (h+1)) hi q (d.keys.drop i) (d.kids.drop (i+1)) bj bG) (t:cZ P (h+1) f B q E gG) (h1:br f<80):
 ∃ (o:aB) (R:i+1<d.kids.length) (S:i<d.keys.length),P d.kids[i+1]=some o/\o.leaf=f.leaf/\cR d.keys[i]/\kt (dv f d.keys[i] o):=by
 obtain⟨s,J,r,T,N,U,hs,rfl,u,rfl,rfl,⟨v,m,j,w⟩,V⟩:=H.head (by rw[dc];omega);have u:s=d.keys[i]'I:=by rw[u,qW];rfl
 have K:(d.kids.drop (i+1))[0]'(by rw[dc];omega)=d.kids[i+1]'g:=by rw[qW]
 rw[K]at v j;obtain⟨o,L,p,rfl,_,y⟩:=v.jz;rw[p]at j;have w:2<=o.keys.length:=by rw[Option.some.inj j];exact w
 clear j;subst u;have z:=(show eN P (h+1) (some (d.keys[i]'I)) J (d.kids[i+1]'g) (d.kids[i+1]'g::L) N from⟨v,o,p,w⟩).in;obtain⟨x,hx⟩:=pd _ z.1;have A:=F _ (cI (l:=d.keys) (n:=i) I);have M:=cZ.merge t y A (λc hc=>hU (jx (C.1 c hc) (C.2 _ rfl))) (λc hc=>hU (jx ((z.2.2 x hx).1 _ rfl) ((z.2.2 x hx).2 c hc)));have D:=tl t y A (by have:=G _ _ p;omega);have Q:=tj (a:=f) (b:=o) (s:=d.keys[i]'I);refine⟨o,g,I,p,by rw[y.leaf,t.leaf],A,M.wK D.1 D.2 λ_ e=>?_⟩;rw[e,ll]at Q;omega
inductive Ctx (P:Nat->ar aB) (k:Key) (top:Nat):Nat->ar Key->ar Key->O (Nat×aB×Nat)->O Nat->O aS->O aS->Prop
 |top:Ctx P k top top none none [] [] [] []
 |step {ec:Nat}{lo hi a b:ar Key}{st:O (Nat×aB×Nat)}{c4:O Nat}{A B:O aS}{no:Nat}{n:aB}{bo bj:O Nat}{bm bG:O aS} (h:Ctx P k top (ec+2) lo hi st c4 A B) (c:P no=some n) (d:n.leaf=false) (e:∀k∈n.keys,cR k) (f:∀x∈n.kids,x<1600)
  (hlen:n.kids.length=n.keys.length+1) (g:n.keys≠ []) (i:st≠ []->2<=n.keys.length) (j:e2 a b k) (l:eU (eN P (ec+1)) lo a (n.keys.take (ey n.keys k)) (n.kids.take (ey n.keys k)) bo bm)
  (m:fL (eN P (ec+1)) hi b (n.keys.drop (ey n.keys k)) (n.kids.drop (ey n.keys k+1)) bj bG):Ctx P k top (ec+1) a b (st++ [(no,n,ey n.keys k)]) (no::(bo++(bj++c4))) (A++bm) (bG++B)
theorem Ctx.ec{k:Key}{top ec:Nat}{st:O (Nat×aB×Nat)}{c4:O Nat}{A B:O aS}(h:Ctx P k top ec lo hi st c4 A B):ec+st.length=top:=by
 induction h with
 |top=>rfl
 |step h _ _ _ _ _ _ _ _ _ _ a=>rw[cM,h6];omega
theorem Ctx.agree{Q:Nat->ar aB}{k:Key}{top ec:Nat}{st:O (Nat×aB×Nat)}{c4:O Nat}{A B:O aS}(h:Ctx P k top ec lo hi st c4 A B)(a:∀x∈c4,P x=Q x):Ctx Q k top ec lo hi st c4 A B:=by
 induction h with
 |top=>exact .top
 | @step ec lo hi p q st c4 A B no n bo bj bm bG h c d e f hlen g i j l m o=>
  refine .step (o λx hx=>a x (by simp[hx])) (by rw[←a no (by simp)];exact c) d e f hlen g i j (l.kn λ_ _ _ _ _ hs b=>b.agree λx hx=>a x ?_) (m.kn λ_ _ _ _ _ hs b=>b.agree λx hx=>a x ?_)
  .have:=hs x hx;simp[this]
  .have:=hs x hx;simp[this]
theorem Ctx.down{k:Key}{top:Nat}:∀ {ec:Nat}{lo hi:ar Key}{st:O (Nat×aB×Nat)}{c4:O Nat}{A B M bp:O aS}{no:Nat}{p:O Nat},Ctx P k top (ec+1) lo hi st c4 A B->e_ P (ec+1) lo hi no p M->(st≠ []->∃m,P no=some m/\2<=m.keys.length)->e2 lo hi k->bp=A++(M++B)->(∀u,Loc k u->u bp=A++(u M++B))->
 ∃ (rest a:O (Nat×aB×Nat)) (b:Nat) (bL:aB) (c d:ar Key) (h:O Nat) (e f:O aS),l5 P k (ec+1) no rest/\st++rest=a++ [(b,bL,0)]/\Ctx P k top 1 c d a h e f/\P b=some bL/\g7 bL/\bL.within c d/\bL.keys≠ []/\(a≠ []->2<=bL.keys.length)/\e2 c d k/\
  (p++c4).Perm (b::h)/\bp=e++(bL.fu++f)/\∀u,Loc k u->u bp=e++(u bL.fu++f)
 |0,lo,hi,st,c4,A,B,M,bp,no,p,hc,j,l,o,r,hu=>by
  obtain⟨n,h1,i,y,z,rfl,rfl⟩:=j
  refine⟨[(no,n,0)],st,no,n,lo,hi,c4,A,B,⟨n,[],h1,by rw[i.leaf];rfl,rfl,rfl⟩,rfl,hc,h1,i,y,z,λhs=>?_,o,List.Perm.refl _,r,hu⟩
  obtain⟨m,g,s⟩:=l hs
  rw[h1]at g;cases g
  exact s
 |ec+1,lo,hi,st,c4,A,B,M,bp,no,p,hc,j,l,o,r,hu=>by
  obtain⟨n,X,h1,rfl,i,t⟩:=j.jz
  obtain⟨Y,Z,bo,q,bj,bm,gG,bG,C,rfl,rfl,v,w,D,hlen,E,F⟩:=t.at o
  obtain⟨av,aa,G,H,_⟩:=t
  have J:=Ctx.step hc h1 av G H hlen i (λhs=>by
   obtain⟨m,g,s⟩:=l hs
   rw[h1]at g;cases g
   exact s) w E F
  obtain⟨rest,a,b,bL,c,d,h,e,f,r1,aF,cd,aW,en,K,L,N,Q,R,S,T⟩:=Ctx.down (bp:=bp) J v.1 (λ_=>v.2) w (by rw[r];simp only[cY]) (λu x=>by rw[hu u x,D u x];simp only[cY])
  refine⟨(no,n,ey n.keys k)::rest,a,b,bL,c,d,h,e,f,⟨n,rest,h1,by rw[av];simp,by rw[if_neg I],?_⟩,?_,cd,aW,en,K,L,N,Q,?_,S,T⟩
  .rw[fI,dI C]
   exact r1
  .rw[←aF];simp
  .refine List.Perm.trans ?_ R
   have U:(no::(bo++(q++bj))++c4)=no::(bo++(q++(bj++c4))):=by simp[cY]
   rw[U]
   have V:(q++no::(bo++(bj++c4))).Perm (no::(q++(bo++(bj++c4)))):=lf
   refine List.Perm.trans ?_ V.symm
   refine List.Perm.cons _ ?_
   have W:=(pe (l₁:=bo) (l₂:=q)).append_right (bj++c4)
   simpa[cY] using W
end
theorem wL{α:Type}(a b c:O α):(a++(b++c)).Perm (a++c++b):=by
 rw[cY];exact(pe (l₁:=b) (l₂:=c)).append_left a
theorem Ctx.up{P:Nat->ar aB}{lo hi:ar Key}{k:Key}{top ec:Nat}{st U:O (Nat×aB×Nat)}{c4:O Nat}{A B:O aS}{u:df}{a:aB}{q:O Nat}{M:O aS}(hc:Ctx P k top ec lo hi st c4 A B)(ad:st=U++ [u.st])(c:cZ P ec a lo hi q M)(H:∀x n,P x=some n->br n<=232)(hs:br a<=282):
 ∃ (d f:ar Key) (J:O Nat) (g j:O aS) (K:O Nat),Ctx P k top (ec+1) d f U J g j/\c4=u.no::(K++J)/\P u.no=some u.n/\u.cz<u.n.kids.length/\u.n.kids.length=u.n.keys.length+1/\u.n.keys≠ []/\(U≠ []->2<=u.n.keys.length)/\
  (80<=br a->∀ (Q:Nat->ar aB) (ks:O Key) (kids:O Nat),kY Q a ks kids->(∀x∈K++q,P x=Q x)->(∀x∈kids,x<1600)->∃ (l:O Nat) (m:O aS),cZ Q (ec+1) (fi u.n u.cz (u.cz+1) ks kids) d f l m/\g++(m++j)=A++(M++B)/\l.Perm (kids++(K++q))/\
    br (fi u.n u.cz (u.cz+1) ks kids)<=br u.n+27/\u.n.keys.length<=(fi u.n u.cz (u.cz+1) ks kids).keys.length+1)/\
  (br a<80->∃ (o:aB) (no:Nat) (rest:O Nat),u.n.kids[iH u]? =some no/\P no=some o/\o.leaf=a.leaf/\u.cz-1<u.n.keys.length/\cR (u.n.keys.getD (u.cz-1) [])/\kt (kx u a o)/\K.Perm (no::rest)/\
    ∀ (Q:Nat->ar aB) (ks:O Key) (kids:O Nat),kY Q (kx u a o) ks kids->(∀x∈rest++q,P x=Q x)->(∀x∈kids,x<1600)->∃ (l:O Nat) (m:O aS),cZ Q (ec+1) (fi u.n (u.cz-1) (u.cz-1+2) ks kids) d f l m/\g++(m++j)=A++(M++B)/\l.Perm (kids++(rest++q))/\
     br (fi u.n (u.cz-1) (u.cz-1+2) ks kids)<=br u.n+27/\u.n.keys.length<=(fi u.n (u.cz-1) (u.cz-1+2) ks kids).keys.length+1):=by
 cases hc with
 |top=>
  have:=congrArg List.length ad;simp at this
 | @step ec d f _ _ ay J g j ae L bo bj bm bG h ak V p W hlen af al N r s=>
  obtain⟨rfl,am⟩:=List.append_inj' ad rfl;have X:(ae,L,ey L.keys k)=u.st:=by simpa using am
  have an:ae=u.no:=congrArg Prod.fst X;have ao:L=u.n:=congrArg (λx=>x.2.1) X;have ag:ey L.keys k=u.cz:=congrArg (λx=>x.2.2) X;subst an ao;rw[ag]at r s;have ap:=vv u.n.keys k;rw[ag]at ap;refine⟨d,f,J,g,j,bo++bj,h,by rw[cY],ak,I,hlen,af,al,λb Q ks kids hf t v=>?_,λb=>?_⟩
  .obtain⟨w,av,y,z,R⟩:=Dr V p W r s c b hs hf (λx hx=>t x (by
    simp only[cL]at hx⊢;rcases hx with hx|hx|hx
    .exact .inl (.inl hx)
    .exact .inr hx
    .exact .inl (.inr hx))) v
   refine⟨w,_,av,by simp only[cY],y.trans (List.Perm.append_left kids ?_),z,I⟩;exact wL bo q bj
  .by_cases h0:u.cz=0
   .obtain⟨o,S,T,C,Y,Z,aa⟩:=Fp p hlen H (i:=u.cz) (by
     have:u.n.keys.length≠0:=λe=>af (List.eq_nil_of_length_eq_zero e);omega) N s c b
    obtain⟨aq,ah,au,aw,D,ab,_,ac⟩:=Dt V p W hlen H S N r s c b;rw[C]at D;obtain rfl:=Option.some.inj D;have E:iH u=u.cz+1:=by unfold iH;rw[if_pos h0,h0]
    have ai:u.cz-1=u.cz:=by omega
    have F:u.n.keys.getD (u.cz-1) []=u.n.keys[u.cz]:=by rw[ai,fI,dI T];rfl
    have G:kx u a o=dv a u.n.keys[u.cz] o:=by unfold kx;rw[if_pos (by rw[E];omega),F]
    refine⟨o,u.n.kids[u.cz+1],bo++ah,by rw[E];exact dI S,C,Y,I,by rw[F];exact Z,by rw[G];exact aa,?_,λQ ks kids hf t v=>?_⟩
    .exact(List.Perm.append_left bo ab).trans lf
    .rw[G]at hf
     obtain⟨w,av,y,z,R⟩:=ac Q ks kids hf (λx hx=>t x (by
      simp only[cL]at hx⊢;rcases hx with hx|hx|hx
      .exact .inl (.inl hx)
      .exact .inr hx
      .exact .inl (.inr hx))) v
     rw[ai];exact⟨w,_,av,by simp only[cY],y.trans (List.Perm.append_left kids (wL bo q ah)),z,R⟩
   .obtain⟨o,S,T,C,Y,Z,aa⟩:=Fo p hlen H (i:=u.cz) I I N r c b
    obtain⟨aq,aj,au,aw,D,ab,_,ac⟩:=Ds V p W hlen H I I N r s c b;rw[C]at D;obtain rfl:=Option.some.inj D;have E:iH u=u.cz-1:=by unfold iH;rw[if_neg h0]
    have F:u.n.keys.getD (u.cz-1) []=u.n.keys[u.cz-1]:=by rw[fI,dI T];rfl
    have G:kx u a o=dv o u.n.keys[u.cz-1] a:=by unfold kx;rw[if_neg (by rw[E];omega),F]
    have ax:u.cz-1+2=u.cz+1:=by omega
    refine⟨o,u.n.kids[u.cz-1],aj++bj,by rw[E];exact dI S,C,Y,T,by rw[F];exact Z,by rw[G];exact aa,?_,λQ ks kids hf t v=>?_⟩
    .exact(ab.append_right bj)
    .rw[G]at hf
     obtain⟨w,av,y,z,R⟩:=ac Q ks kids hf (λx hx=>t x (by
      simp only[cL]at hx⊢;rcases hx with hx|hx|hx
      .exact .inl (.inl hx)
      .exact .inr hx
      .exact .inl (.inr hx))) v
     rw[ax];exact⟨w,_,av,by simp only[cY],y.trans (List.Perm.append_left kids (wL aj q bj)),z,R⟩
theorem c5.Fq{w:J}{T:aP}{c:dh}{E:Nat->Prop}(h:c5 w T c)(b:∀q,E q->T.E q):c5 w (T.ct E T.G) c:=
 h.of (ax:=T.ct E T.G) (W:=λ_=>False) (h.t.grow (W:=λ_=>False) (ae.refl _ _) (λ_ h=>h.elim) (λq a=>.inl (b q a)) (λq a=>.inr (.inl a)) λq a=>(h.t.dF q (b q a)).2.2) (ae.refl _ _) (λ_ _ h=>h) rfl λ_ h=>h
theorem c6.local{T ax:aP}{c c':dh}{m l:O Nat}{bW:Nat->Prop}{w w1 w':J}{k:Nat}(h:c6 (T.ct bW T.G) ax c c' m l w1 w' k)(hx:Ext w w1)(b:∀q,bW q->T.E q\/w.heap.size<=q)(d:∀q,T.E q->bW q):c6 T (ax.ct T.E ax.G) c c' m l w w' k:=
 ⟨h.to.local hx b (λq a=>.inl a) (λq a=>.inl (by rw[h.E];exact d q a)) λq a=>a,rfl,h.G,h.root,h.aH,h.cb,h.made,h.left,h.bO,h.iG,h.f,h.ee,h.room⟩
theorem c5.As{w w':J}{T:aP}{c:dh}{W:Nat->Prop}(h:c5 w T c)(hc:ae W w w')(cD:∀q,W q->T.E q\/w.heap.size<=q):c5 w' T c:=by
 have b:ae (λq=>T.E q) w w':=cS (W:=λq=>T.E q) (ae.refl _ _) hc λq a d=>(cD q d).resolve_right I;exact h.of (h.t.grow (E:=T.E) (G:=T.G) b (λq a _=>.inl a) (λq a=>.inl a) (λq a=>.inr (.inl a)) λq a=>(h.t.dF q a).2.2) b (λq hg he=>(h.t.dF q he).2.2 hg) rfl λ_ h=>h
theorem je.to{w w':J}{T ax:aP}{k:Nat}{s:ad}{l:O df}(h:je (λq=>¬T.M q) w s l)(ht:b_ T ax w w' k):je (λq=>¬ax.M q) w' s l:=by
 refine⟨h.own.af ht.af λq a c=>h.ni q a (aP.hC c),λq a d=>?_,λx hx=>?_⟩
 .rcases ht.db q d with h1|h1
  .exact h.ni q a h1
  .have:=aZ.lt h.own q a;omega
 .exact(ht.bO (lo:=0) ((h.bO x hx).aY λq _ b=>⟨cX _,b⟩)).aY λq _ b=>b.2
theorem je.at{B:Nat->Prop}{w:J}{s:ad}{l:O df}(h:je B w s l){i:Nat}(hi:i<l.length):∃A:ag,s.a=some A/\s.len=l.length/\B A.block/\w.cell? (A.add (i*6))=some (.int .i64 ((l[i]).no:Nat))/\ku B w (A.add (i*6)) l[i]:=by
 have f:=h.own.1;rw[hW _ (nh l)]at f;have g:s.len=l.length:=by omega
 rcases h.own.2.2.2 with ⟨h1,o⟩|⟨b,c,e,k,p,m⟩
 .have:=h.own.2.1
  omega
 .have d:∀j,j<6->w.cell? ⟨b,i*6+j,none⟩=((df.c l[i]))[j]? :=λj n=>by
   rw[bg.cell k,←wa (nh l) hi n,←m];rw[qR,if_pos I,Array.getElem?_toList]
  refine⟨b,e,g,h.ni b ⟨_,e,rfl⟩,?_,?_⟩
  .rw[ay,cU]
   exact d 0 (by decide)
  .rw[ay,cU]
   refine⟨?_,?_,?_,?_,?_,h.bO _ (cI hi),h.ni b ⟨_,e,rfl⟩,aZ.lt h.own b ⟨_,e,rfl⟩⟩
   .rw[ay];exact d 1 (by decide)
   .rw[ay,ay];exact d 2 (by decide)
   .rw[ay,ay];exact d 3 (by decide)
   .rw[ay,ay];exact d 4 (by decide)
   .rw[ay];exact d 5 (by decide)
theorem Ctx.Au{P:Nat->ar aB}{lo hi:ar Key}{k:Key}{top ec:Nat}{c4:O Nat}{A B:O aS}(h:Ctx P k top ec lo hi [] c4 A B):ec=top/\lo=none/\hi=none/\c4=[]/\A=[]/\B=[]:=by
 generalize a:([]:O (Nat×aB×Nat))=st at h
 cases h with
 |top=>exact⟨rfl,rfl,rfl,rfl,rfl,rfl⟩
 |step h=>
  have:=congrArg List.length a;simp at this
def k5(T:aP)(c:dh)(aM:O Nat)(dy:O aS)(w:J)(v:Y)(w':J):Prop:=
 ∃ (ax:aP) (c':dh) (m l:O Nat),c5 w' ax c'/\c6 T ax c c' m l w w' 60/\
  ((v=.tuple #[(0:Int),(0:Int),(0:Int)]/\dy=[]/\l.Perm (m++aM)/\m.length<=2*T.aH+3)\/
   (∃ (root h:Nat) (pages:O Nat),v=.tuple #[root,h,(0:Int)]/\e_ ax.P h none none root pages dy/\(pages++l).Perm (m++aM)/\1<=h/\h<=T.aH+1/\m.length<=2*T.aH+3)\/
   (∃a b:Int,v=.tuple #[a,b,(3:Int)]/\¬T.C.D.calm 60))
theorem k5.local{T:aP}{c:dh}{aM:O Nat}{dy:O aS}{bW:Nat->Prop}{w w1 w':J}{v:Y}(h:k5 (T.ct bW T.G) c aM dy w1 v w')(hx:Ext w w1)(d:∀q,bW q->T.E q\/w.heap.size<=q)(a:∀q,T.E q->bW q):k5 T c aM dy w v w':=by
 obtain⟨ax,c',m,l,h1,b,e⟩:=h;exact⟨ax.ct T.E ax.G,c',m,l,h1.Fq λq f=>by rw[b.E];exact a q f,b.local hx d a,e⟩
structure Fs(bR:aP)(c:dh)(b:J)(a:O df)(k:Key)(aM:O Nat)(dy:O aS)(ws:ad)(gz:Nat)(i:Nat)(w':J)(ax:aP)(c':dh)(m l:O Nat)(n:aB)(K V D:ad)(lo hi:ar Key)(c4:O Nat)(A B:O aS)(q:O Nat)(M:O aS)(r:O Nat):Prop where
 rN:i<a.length
 wM:c5 w' ax c'
 to:c6 bR ax c c' m l b w' (4*(a.length-1-i))
 nj:m.length<=2*(a.length-1-i)
 Av:l.length<=2*(a.length-1-i)
 gz:Var w' gz (dY n K V D) 202
 bO:bt (λq=>¬ax.M q) w' n K V D
 gV:je (λq=>¬ax.M q) w' ws a
 ctx:Ctx ax.P k a.length (a.length-i) lo hi ((a.take i).map df.st) c4 A B
 jz:cZ ax.P (a.length-i) n lo hi q M
 eq:A++(M++B)=dy
 pp:aM.Perm ((a[i]).no::(r++c4))
 acc:(q++l).Perm (m++r)
 sz:br n<=282
 Ft:1<=i->n.keys≠ []
 Aw:∀x∈q++c4,ax.f x=true
theorem b4.tT{w:J}{T:aP}(h:b4 w T):∀x n,T.P x=some n->br n<=232:=λx n hx=>(h.eE x n hx).2.is.2.2
theorem gQ.cs{T:aP}{c:dh}{n:aB}{w w':J}{s:ad}{e:Int}(h:gQ T c n w (.tuple #[s,e]) w'):
 ∃ (ax:aP) (c':dh) (m:O Nat),c5 w' ax c'/\c6 T ax c c' m [] w w' 2/\m.length<=2/\((e=0/\∃ks,kY ax.P n ks m/\j7 (λq=>¬ax.M q) w' s ks m)\/(e=3/\¬T.C.D.calm 2)):=by
 obtain⟨ax,c',m,s2,h1,d,f,g⟩:=h;refine⟨ax,c',m,h1,d,f,?_⟩;rcases g with ⟨ks,a,b,i⟩|⟨a,b⟩
 .simp at a
  obtain⟨⟨a1,a2,a3⟩,rfl⟩:=a;obtain rfl:s=s2:=by cases s;cases s2;simp_all
  exact .inl ⟨rfl,ks,b,i⟩
 .simp at a
  exact .inr ⟨a.2,b⟩
theorem Fu{P Q c:Nat->ar aB}{t:Nat}{n:aB}{q:O Nat}{M:O aS}{a:Key}{x y no:Nat}(d:cZ P (t+1) n none none q M)(hs:br n<=282)(hf:kY Q n [a] [x,y])(j:∀z∈q,P z=Q z)(k:c no=some ⟨false,[a],[],[x,y]⟩)(l:∀z∈x::y::q,Q z=c z)(hx:x<1600)(o:y<1600):
 cR a/\∃pages,e_ c (t+2) none none no pages M/\pages.Perm (no::x::y::q):=by
 have p:232<br n:=by
  rcases hf with ⟨_,z,e,_⟩|⟨h,_⟩
  .cases e
  .exact h
 obtain⟨f,av,g,i,_⟩:=d.fits (d.vz I) (λ_=>I) (λ_=>I) hf j;have m:cZ Q (t+2) ⟨false,[a],[],[x,y]⟩ none none f M:=⟨rfl,rfl,i,λz b=>by
  simp only[c7,ff,fp]at b;rcases b with rfl|rfl<;>assumption,av⟩
 refine⟨i a (by simp),no::f,m.lay (by simp) k λz b=>l z ?_,List.Perm.cons no g⟩;have:=g.mem_iff.1 b;simpa using this
theorem l6{a b:O Nat}:a.Perm b↔∀x,a.count x=b.count x:=List.perm_iff_count
theorem wN{q l m r:O Nat}{no:Nat}(h:(q++l).Perm (m++r)):(q++(l++ [no])).Perm (m++(no::r)):=by
 rw[l6]at h⊢;intro x;have:=h x;simp only[mf,nB,nC]at this⊢;omega
theorem Fv{q l m r a b ms ls rest:O Nat}(h:(q++l).Perm (m++r))(c:a.Perm (ms++(rest++q)))(d:b.Perm (ls++rest)):(a++(l++ls)).Perm ((m++ms)++(b++r)):=by
 rw[l6]at h c d⊢;intro x;have:=h x;have:=c x;have:=d x;simp only[mf,nB,nC]at*;omega
theorem Fw{aM r a b:O Nat}{u:Nat}(h:aM.Perm (r++(u::(a++b)))):aM.Perm (u::((a++r)++b)):=by
 rw[l6]at h⊢;intro x;have:=h x;simp only[mf,nB,nC]at*;omega
theorem Fx{w:J}{T:aP}{c:dh}{d:O df}{k:Key}{aM c4:O Nat}{dy A B M:O aS}{lo hi:ar Key}{ws:ad}{n:aB}{K V D:ad}(h:c5 w T c)(bT:je (λq=>¬T.M q) w ws d)(bv:bt (λq=>¬T.M q) w n K V D)(eB:0<d.length)(hlen:d.length=T.aH)(eC:T.aH<12)
 (eD:T.C.D.aQ<=900000000) (eF:2*T.aH+3<=cj T) (eG:c.made.length<=100) (eH:c.left.length<=100) (cy:Ctx T.P k d.length 1 lo hi ((d.take (d.length-1)).map df.st) c4 A B) (L:cZ T.P 1 n lo hi [] M) (an:A++(M++B)=dy)
 (N:aM.Perm ((d[d.length-1]'I).no::c4)) (bw:br n<=282) (a6:2<=d.length->n.keys≠ []) (Q:∀x∈c4,T.f x=true):
 aL aj 208 #[.pointer (some c.cb),ws,c0 n K V D] w (k5 T c aM dy w):=by
 refine okF (ah.mP (some c.cb) ws n.leaf K V D) az.mP func208 ?_;(delta ah.mP aW aa r1 z4 au ao aK aF st nX u9 f_ eR;dsimp only);refine bd (vs:=dY n K V D) rfl λw1 cA cB eI=>?_;obtain⟨bQ,aT,a8,bc⟩:=bC cA;refine⟨_,bQ,K,aT,V,a8,D,bc,bd (vs:=[false,(),(),()]) rfl λeJ bV cD eK=>⟨bV.bU rfl fO,rfl,cl bV (us:=dY n K V D) rfl rfl λbA bB cE eL=>?_⟩⟩;have bX:Ext w bA:=cB.trans (Ext.cC cD cE (bl _));obtain⟨gz,cF⟩:∃gz,gz=w1.heap.size:=⟨_,rfl⟩;rw[←cF]at bB⊢;obtain⟨bW,bD⟩:∃bW,bW=λq=>T.E q\/q=gz:=⟨_,rfl⟩;have cG:∀q,T.E q->bW q:=λq F=>by rw[bD];exact .inl F
 have a7:∀q,bW q->T.E q\/q=gz:=λq F=>by rw[bD]at F;exact F
 have cI:bW gz:=by rw[bD];exact .inr rfl
 have eM:=bB.lt;have cO:c5 bA (T.ct bW T.G) c:=h.of (W:=λ_=>False) (h.t.grow (W:=λ_=>False) bX (λ_ h=>h.elim) (λq F=>(a7 q F).imp id λe=>.inr ⟨I,I⟩) (λq F=>.inr (.inl F)) λq F hg=>by
  rcases a7 q F with h1|h1
  .exact(h.t.dF q h1).2.2 hg
  .have:=h.t.lt (q:=q) (.inr (.inr (.inr (.inr hg))));omega) bX (λ_ _ h=>h) rfl λ_ h=>h
 have bY:b_ T (T.ct bW T.G) w bA 0:=(b_.refl T w).step (W:=λ_=>False) bX (λ_ h=>h.elim) (λq F=>(a7 q F).imp id λe=>.inr I) λq F=>.inl F;have conv:∀ (v:Y) (w':J),k5 (T.ct bW T.G) c aM dy w1 v w'->k5 T c aM dy w v w':=λv w' hu=>hu.local cB (λq F=>(a7 q F).imp id λe=>I) cG;obtain⟨bR,ap⟩:∃bR,bR=T.ct bW T.G:=⟨_,rfl⟩;have b0:=bT.to bY;have b1:bt (λq=>¬(T.ct bW T.G).M q) bA n K V D:=(bY.bO (lo:=0) (bv.aY λq _ R=>⟨cX _,R⟩)).aY λq _ R=>R.2;have cP:bR.P=T.P:=by rw[ap];rfl
 have b2:bR.f=T.f:=by rw[ap];rfl
 have dN:bR.E gz:=by rw[ap];exact cI
 have eN:cj bR=cj T:=by rw[ap];rfl
 have dP:bR.C=T.C:=by rw[ap];rfl
 have dQ:bR.aH=T.aH:=by rw[ap];rfl
 rw[←ap]at cO b0 b1 conv;clear ap bY bD cG a7 cI;have eO:gz=w1.heap.size:=cF;have eP:ws.len=d.length:=by
  have:=bT.own.1;rw[hW _ (nh d)]at this;omega
 refine⟨λn10 w'=>∃ (i:Nat) (ax:aP) (c':dh) (m l:O Nat) (n:aB) (K V D:ad) (lo hi:ar Key) (c4:O Nat) (A B:O aS) (q:O Nat) (M:O aS) (r:O Nat),n10=(i:Nat)/\Fs bR c w1 d k aM dy ws gz i w' ax c' m l n K V D lo hi c4 A B q M r,λn10 _=>(n10+1).toNat,
  ⟨d.length-1,bR,c,[],[],n,K,V,D,lo,hi,c4,A,B,[],M,[],?_,?_⟩,?_⟩
 .rw[bz I I];omega
 .have e:d.length-(d.length-1)=1:=by omega
  refine⟨I,cO,(c6.ext bR c (Ext.cC cD cE (bl _))).mono I,cX _,cX _,bB,b1,b0,by rw[e,cP];exact cy,by rw[e,cP];exact L,an,by simpa using N,List.Perm.refl _,bw,λh1=>a6 I,λx hx=>by rw[b2];exact Q x (by simpa using hx)⟩
 clear cy L an N bw a6 Q bv b1 bB bT b0 cA bQ aT a8 bc bV;rintro _ b3 ⟨i,ax,c',m,l,n,K,V,D,lo,hi,c4,A,B,q,M,r,rfl,g⟩;have cS:=g.rN;have bE:=g.to.cb;refine⟨λ_=>aX ?_,λR=>?_⟩
 rotate_left
 .have:¬(i:Int)>=0:=cQ R
  omega
 have aN:Ext b3 b3.drew:=cJ _;obtain⟨b4,dR⟩:∃b4,b4=b3.drew:=⟨_,rfl⟩;rw[←dR]at aN⊢;have a9:=g.wM.ext aN;have cT:=a9.cells.2.2;rw[bE]at cT;have cV:je (λq=>¬ax.M q) b4 ws d:=g.gV.to (b_.ext ax aN);obtain⟨ba,b5,eQ,dS,dT,_⟩:=cV.at cS;have eS:c'.left.length<=200:=by rw[g.to.left,cM];have:=g.Av;omega
 have dU:c'.made.length<=200:=by rw[g.to.made,cM];have:=g.nj;omega
 obtain⟨aO,cW,av,ai,aR,aD,aE⟩:=Ah a9 (d[i]).no I;rw[bE]at aR aD aE;have dV:∀n,(ba.add n).block=ba.block:=λn=>by unfold Addr.add;split<;>rfl
 have dW:∀q,aC c'.fN q->ax.M q:=λq F=>.inr (.inr (.inr (.inr (a9.jE q F).1)));refine⟨aC c'.fN,_,rfl,λF=>(a9.jE _ F).2 (by rw[bE,ay]),c'.fN,cT,ba,b5,⟨I,I⟩,λF=>dS (dW _ ((dV _)▸F)),_,by rw[dO];exact dT,aX ⟨ae.cN (dD _ _),aO,cW,av,ai,_,rfl,by rw[ay];exact aR,by rw[ay];exact aD,aX ?_⟩⟩;rw[ay,cU];obtain⟨U,c1⟩:∃U,U=cW.setCell ⟨c.cb,2,none⟩ aO:=⟨_,rfl⟩;rw[←c1];obtain⟨ac,bb⟩:=aE U c1;have b6:=c6.leave (c:=c') (c':=⟨c.cb,c'.ma,aO,c'.made,c'.left++ [(d[i]).no]⟩) (no:=(d[i]).no) bb rfl (λq F=>.inl F) bE.symm rfl rfl;have X:=(g.to.trans (c6.ext ax c' aN)).trans b6;simp only[fY,k8]at X;have c2:ax.E gz:=by rw[g.to.E];exact dN
 have b7:=(g.gz.ext aN).af bb.af (a9.t.j4 c2);have b8:=cV.to bb;have be:bt (λq=>¬(ax.ct ax.E λq=>ax.G q\/aC aO q).M q) U n K V D:=(bb.bO (lo:=0) ((g.bO.ext aN).aY λq _ R=>⟨cX _,R⟩)).aY λq _ R=>R.2;obtain⟨bZ,aU⟩:∃bZ,bZ=ax.ct ax.E λq=>ax.G q\/aC aO q:=⟨_,rfl⟩;have bo:bZ.P=ax.P:=by rw[aU];rfl
 have bj:bZ.f=ax.f:=by rw[aU];rfl
 have eT:cj bZ=cj ax:=by rw[aU];rfl
 have c3:bZ.E gz:=by rw[aU];exact c2
 have c8:bZ.aH=T.aH:=by rw[aU];show ax.aH=_;rw[g.to.aH,dQ]
 rw[←aU]at ac bb b6 X b8 be;obtain⟨a8,bF⟩:∃a8:dh,a8=⟨c.cb,c'.ma,aO,c'.made,c'.left++ [(d[i]).no]⟩:=⟨_,rfl⟩;rw[←bF]at ac b6 X;have gY:a8.cb=c.cb:=by rw[bF]
 have ak:a8.made.length<=200:=by rw[bF];exact dU
 have eU:a8.left.length<=201:=by rw[bF,cM,h6];omega
 obtain⟨dX,bL,bx,dZ⟩:=bC b7;have c9:=a_.len be.keys;have c_:∀ (w':J) (v:Y),Ext U w'->(∀ {dk bc bf},dk=bZ->bc=a8->bf=l++ [(d[i]).no]->((v=.tuple #[(0:Int),(0:Int),(0:Int)]/\dy=[]/\bf.Perm (m++aM)/\m.length<=2*bR.aH+3)\/
  (∃ (root h:Nat) (pages:O Nat),v=.tuple #[root,h,(0:Int)]/\e_ (aP.P dk) h none none root pages dy/\(pages++bf).Perm (m++aM)/\1<=h/\h<=bR.aH+1/\m.length<=2*bR.aH+3)\/
  (∃a b:Int,v=.tuple #[a,b,(3:Int)]/\¬bR.C.D.calm 60)))->k5 T c aM dy w v w':=by
  intro w' v hx hd;refine conv v w' ⟨bZ,a8,m,l++ [(d[i]).no],?_,?_,hd (bc:=a8) rfl rfl rfl⟩
  .exact ac.ext hx
  .have:=(X.trans (c6.ext bZ _ hx)).mono (j:=60) I
   simp only[fY]at this;exact this
 refine cH (λb w'=>(b=true↔(i=0/\n.keys=[]))/\U=w') (λZ bg=>⟨λh0=>⟨K,bL,bg _ _ ⟨?_,rfl⟩⟩,λh0=>bg _ _ ⟨?_,rfl⟩⟩) ?_
 .have h0:i=0:=by
   have:(i:Int)=0:=by simpa using h0
   omega
  rw[ji];constructor
  .intro h1
   exact⟨h0,List.eq_nil_of_length_eq_zero I⟩
  .rintro⟨_,h1⟩
   rw[h1]at c9;simp at c9;omega
 .have h0:i≠0:=by
   have:¬(i:Int)=0:=by simpa using h0
   omega
  exact⟨λh=>(by cases h),λh=>absurd h.1 h0⟩
 rintro eV _ ⟨da,rfl⟩;refine⟨λR=>?_,λR=>?_⟩
 .obtain⟨h0,db⟩:=da.1 R
  subst h0;have bh:Ext U U.drew:=cJ _;obtain⟨d0,d6,d7,d8⟩:=bC (b7.ext bh);have dc:=(ac.ext bh).cells.1;rw[gY]at dc;have d9:=(ac.ext bh).t.cells.2.2.2.2;obtain⟨t1,t2,t3,t4,t5,t6⟩:=Ctx.Au (by simpa using g.ctx);have L:=g.jz;have N:=g.pp;have an:=g.eq;have al:=wN (no:=(d[0]).no) g.acc;subst t2 t3 t4 t5 t6;rw[kc,fY]at an;rw[fY]at N;subst an;have dd:n.leaf=false->∃x,n.kids=[x]/\1<=bZ.aH/\e_ ax.P (bZ.aH-1) none none x q M/\1<=bZ.aH-1:=by
   intro aG;have e:d.length-0=bZ.aH:=by rw[c8];omega
   rw[e]at L
   cases ht:bZ.aH with
   |zero=>omega
   |succ t=>
    rw[ht]at L
    cases t with
    |zero=>
     have:=L.1.leaf;rw[aG]at this;cases this
    |succ t=>
     obtain⟨v1,b9,bi,bk,bG⟩:=L;rw[db]at bG;generalize eW:n.kids=eX at bG
     cases bG with
     |one h=>exact⟨_,rfl,I,h.1,I⟩
  refine aX ⟨λ_=>False,id,_,d0,K,d6,V,d7,D,d8,_,rfl,id,_,dc,_,rfl,id,_,d9,(ot (be.ext bh) bZ.aH I λaG=>by obtain⟨x,a1,a2,_⟩:=dd aG;exact⟨x,a1,a2⟩).use ?_⟩;rintro v w' ⟨rfl,ca⟩;have de:=bh.trans ca
  cases aG:n.leaf with
  |true=>
   rw[if_pos rfl];have dg:=L.leaf;rw[aG]at dg;have cc:d.length-0=1:=cu dg.symm;rw[cc]at L;obtain⟨v1,b9,bi,bk⟩:=L;subst bi;refine⟨_,_,_,rfl,ca,c_ w' _ de λ{dk bc bf} a1 a2 a3=>.inl ⟨rfl,?_,?_,by have:=g.nj;omega⟩⟩
   .rw[bk];unfold aB.fu;rw[db];rfl
   .subst a3
    rw[l6]at al N⊢;intro x;have:=al x;have:=N x;simp only[mf,nB,nC]at*;omega
  |false=>
   rw[if_neg (by simp)];obtain⟨x,a1,a2,a3,a4⟩:=dd aG;refine⟨_,_,_,rfl,ca,c_ w' _ de λ{dk bc bf} cf bH aV=>.inr (.inl ⟨_,_,q,rfl,?_,?_,a4,?_,by have:=g.nj;omega⟩)⟩
   .subst cf
    have d_:n.kids.getD 0 0=x:=by rw[a1];rfl
    rw[d_,bo];exact a3
   .subst aV
    rw[l6]at al N⊢;intro x;have:=al x;have:=N x;simp only[mf,nB,nC]at*;omega
   .omega
 .have a6:n.keys≠ []:=λe=>by
   rcases lp i with h0|h0
   .have:=da.2 ⟨h0,e⟩
    rw[R]at this;cases this
   .exact g.Ft h0 e
  have eY:bZ.C.D.aQ<=900000050:=by
   have:=X.to.aQ;rw[dP]at this;omega
  have di:2<=cj bZ:=by
   have:=X.room;have:=g.nj;omega
  have dj:∀ms:O Nat,ms.length<=3->(m++ms).length<=2*bR.aH+3:=λms h=>by rw[cM];have:=g.nj;omega
  have dl:∀j,j<=10->¬bZ.C.D.calm j->¬bR.C.D.calm 60:=λj e0 bv hc=>bv (X.to.calm j (gp hc I));have cd:kt n:=g.jz.wK (λ_=>by have:=g.sz;omega) (λ_=>by have:=g.sz;omega) λ_=>a6;refine cH (λp w'=>p=(if i=0 then none else some (ba.add ((i-1)*6)))/\U=w') (λZ bg=>⟨λh0=>⟨ba,b5,?_,bg _ _ ⟨?_,rfl⟩⟩,λh0=>bg _ _ ⟨?_,rfl⟩⟩) ?_
  .have h0:(i:Int)>0:=cu h0
   rw[bz I I];omega
  .have h0:(i:Int)>0:=cu h0
   have e:(i:Int)-1=((i-1:Nat):Int):=by omega
   rw[bz I I,if_neg I,e,dO]
  .have h0:¬(i:Int)>0:=cQ h0
   rw[if_pos I]
  rintro _ _ ⟨rfl,rfl⟩;refine⟨_,dX,K,bL,V,bx,D,dZ,?_⟩;by_cases h0:i=0
  .subst h0
   rw[if_pos rfl];have bm:=Fi ac be cd I di I;rw[gY]at bm;refine bm.use ?_;rintro _ aZ ⟨a0,e,rfl,hf⟩;obtain⟨dk,bc,ms,S,H,bn,bp⟩:=hf.cs;have bI:=X.trans H;simp only[fY]at bI;have ea:bc.cb=c.cb:=by rw[H.cb,gY]
   rcases bp with ⟨rfl,ks,aq,aI⟩|⟨rfl,aJ⟩
   .refine⟨a0,_,_,0,rfl,λh=>(by cases h),λ_=>⟨λ_=>?_,λh=>(by simp at h)⟩⟩
    obtain⟨t1,t2,t3,t4,t5,t6⟩:=Ctx.Au (by simpa using g.ctx);have L:=g.jz;have N:=g.pp;have an:=g.eq;have bw:=g.sz;have al:=wN (no:=(d[0]).no) g.acc;have Q:=g.Aw;subst t2 t3 t4 t5 t6;rw[kc,fY]at an;rw[fY]at N Q;subst an;have eb:bZ.n<=1600:=ac.t.s.bx;have ce:∀z∈q,ax.P z=dk.P z:=λz ab=>by
     rw[←bo];exact((H.ee z (by rw[bj,Q z ab];rfl)).1).symm
    have ec:d.length-0=(d.length-1)+1:=by omega
    have dm:dk.aH=d.length:=by rw[H.aH,c8];omega
    rw[ec]at L;have dn:∀a5 x y,ks=[a5]->ms=[x,y]->cR a5/\x<1600/\y<1600:=λa5 x y av ai=>by
     subst av ai;have dp:232<br n:=by
      rcases aq with ⟨_,z,e,_⟩|⟨h,_⟩
      .cases e
      .exact h
     obtain⟨e1,_,_,aR,_⟩:=L.fits (L.vz I) (λ_=>I) (λ_=>I) aq ce;have hx:=(H.iG x (by simp)).2;have e2:=(H.iG y (by simp)).2;exact⟨aR a5 (by simp),I,I⟩
    have dq:=Fm S aI (λ_=>I) dn (by have:=H.to.aQ;omega) (by have:=H.room;have:=X.room;have:=g.nj;omega) (by rw[H.made,cM];omega);rw[ea]at dq;refine dq.use ?_;rintro v e3 ed;rcases ed with ⟨x,av,ai,rfl,aD,aE⟩|⟨a5,x,y,no,lH,eZ,av,ai,aD,aE,ef⟩
    .subst av ai
     refine⟨_,_,_,rfl,conv _ _ ⟨dk,bc,m++ [x],l++ [(d[0]).no],aD,?_,.inr (.inl ⟨x,dk.aH,x::q,rfl,?_,?_,I,I,dj [x] (by simp)⟩)⟩⟩
     .have:=(bI.trans (c6.ext dk bc aE)).mono (j:=60) I
      simp only[fY]at this;exact this
     .rcases aq with ⟨_,z,_,e,ab⟩|⟨_,e4,e5,_,e,_⟩
      .cases e
       rw[dm,show d.length=d.length-1+1 from I];exact L.lay a6 ab ce
      .cases e
     .rw[l6]at al N⊢
      intro z;have:=al z;have:=N z;simp only[mf,nB,nC]at*;omega
    .subst av ai
     obtain⟨a1,a2,a3⟩:=dn a5 x y rfl rfl;have aw:=bI.trans aE;simp only[fY]at aw;have dr:=aw.mono (j:=60) I;rcases ef with ⟨rfl,ch⟩|⟨rfl,ch⟩
     .have eg:∀z∈x::y::q,dk.P z=lH.P z:=λz ab=>by
       refine((aE.ee z ?_).1).symm;rw[H.f];simp only[c7]at ab;rcases ab with ab|ab|ab
       .simp[ab]
       .simp[ab]
       .rw[bj,Q z ab];simp
      obtain⟨_,pages,cf,bH⟩:=Fu L bw aq ce ch eg a2 a3;refine⟨_,_,_,rfl,conv _ _ ⟨lH,eZ,m++ [x,y]++ [no],l++ [(d[0]).no],aD,dr,.inr (.inl ⟨no,dk.aH+1,pages,rfl,?_,?_,I,I,by rw[cY];exact dj [x,y,no] (by simp)⟩)⟩⟩
      .rw[dm,show d.length+1=d.length-1+2 from I];exact cf
      .rw[l6]at al N bH⊢
       intro z;have:=al z;have:=N z;have:=bH z;simp only[mf,nB,nC]at*;omega
     .refine⟨_,_,_,rfl,conv _ _ ⟨lH,eZ,m++ [x,y]++ [no],l++ [(d[0]).no],aD,dr,.inr (.inr ⟨_,_,rfl,λhc=>ch (H.to.calm 1 (X.to.calm 3 (gp hc I)))⟩)⟩⟩
   .refine⟨a0,_,_,3,rfl,λ_=>conv _ _ ⟨dk,bc,m++ms,l++ [(d[0]).no],S,bI.mono I,.inr (.inr ⟨0,0,rfl,dl 2 I aJ⟩)⟩,λh=>(by cases h)⟩
  .rw[if_neg h0]
   have ci:i-1<d.length:=by omega
   obtain⟨e6,ds,_,_,_,hu⟩:=b8.at ci;rw[b5]at ds;obtain rfl:=Option.some.inj ds;obtain⟨u,ck⟩:∃u,u=d[i-1]:=⟨_,rfl⟩;rw[←ck]at hu;have eh:(d.take i).map df.st=(d.take (i-1)).map df.st++ [u.st]:=by
    have:d.take i=d.take (i-1)++ [d[i-1]]:=by
     have e:i-1+1=i:=by omega
     rw[←j_ ci,e]
    rw[this,fB,ck];rfl
   obtain⟨dt,du,ei,dv,dw,bJ,cn,cp,ej,e7,e8,ek,el,dx,cm⟩:=Ctx.up g.ctx eh g.jz g.wM.t.tT g.sz;have cc:d.length-i+1=d.length-(i-1):=by omega
   rw[cc]at cn dx cm;have em:=(g.wM.t.eE _ _ ej).2.is;have e9:=em.2.1.fw I;have Q:=g.Aw;have bm:=Fj ac be hu cd.1 (by have:=g.sz;omega) (λ_=>cd) (λbK=>by
    obtain⟨o,no,rest,cf,bH,aV,bM,bP,dz,_⟩:=cm bK;exact⟨o,no,cf,by rw[bo];exact bH,aV,bM,bP,dz⟩) I I di I I
   rw[gY]at bm;refine bm.use ?_;rintro v aZ dA;have fa:0<u.n.keys.length:=List.length_pos_iff.2 ek;have eb:bZ.n<=1600:=ac.t.s.bx;have co:∀ {dk:aP}{bc:dh}{ms ls:O Nat}{w':J}{en:Nat},c6 bZ dk a8 bc ms ls U w' en->∀x,ax.f x=true->ax.P x=dk.P x:=λeo x hx=>by
    rw[←bo];exact((eo.ee x (by rw[bj,hx];rfl)).1).symm
   have ep:(∃ (dk:aP) (bc:dh) (ms ls:O Nat) (s:ad) (a b:Int),v=.tuple #[s,a,b,(3:Int)]/\c5 aZ dk bc/\c6 bZ dk a8 bc ms ls U aZ 4/\¬bZ.C.D.calm 4)\/
    (∃ (dk:aP) (bc:dh) (ms ls rest:O Nat) (s:ad) (am ag:Nat) (ks:O Key) (ak:O Nat) (aA:O aS),v=.tuple #[s,am,ag,(0:Int)]/\c5 aZ dk bc/\c6 bZ dk a8 bc ms ls U aZ 4/\ms.length<=2/\ls.length<=1/\j7 (λq=>¬dk.M q) aZ s ks ms/\
      cZ dk.P (d.length-(i-1)) (fi u.n am ag ks ms) dt du ak aA/\dv++(aA++dw)=A++(M++B)/\ak.Perm (ms++(rest++q))/\bJ.Perm (ls++rest)/\br (fi u.n am ag ks ms)<=br u.n+27/\u.n.keys.length<=(fi u.n am ag ks ms).keys.length+1/\
      am<=u.n.keys.length/\1<=ag/\ag<=u.n.kids.length):=by
    rcases dA with ⟨dp,s,e,rfl,hf⟩|⟨bK,dk,bc,rfl,av,ai,aR⟩|⟨bK,o,no,fb,fc,fd,s,e,dB,dC,dE,rfl,hf⟩
    .obtain⟨dk,bc,ms,S,H,bn,bp⟩:=hf.cs
     rcases bp with ⟨rfl,ks,aq,aI⟩|⟨rfl,aJ⟩
     .obtain⟨ak,aA,cf,bH,aV,bM,bP⟩:=dx dp dk.P ks ms aq (λx hx=>co H x (Q x (by
       rw[cp];simp only[cL,c7]at hx⊢;rcases hx with hx|hx
       .exact .inr (.inr (.inl hx))
       .exact .inl hx))) (λx hx=>by have:=(H.iG x hx).2;omega)
      exact .inr ⟨dk,bc,ms,[],bJ,s,u.cz,u.cz+1,ks,ak,aA,rfl,S,H.mono I,bn,cX _,aI,cf,bH,aV,List.Perm.refl _,bM,bP,I,I,I⟩
     .exact .inl ⟨dk,bc,ms,[],s,_,_,rfl,S,H.mono I,λhc=>aJ (gp hc I)⟩
    .exact .inl ⟨dk,bc,[],[],bN,0,0,rfl,av,ai.mono I,λhc=>aR (gp hc I)⟩
    .obtain⟨fe,dH,rest,cf,bH,aV,bM,bP,dz,dI,er⟩:=cm bK
     rw[cf]at dB;obtain rfl:=Option.some.inj dB;rw[bo,bH]at dC;obtain rfl:=Option.some.inj dC;obtain⟨dk,bc,ms,S,H,bn,bp⟩:=hf.cs;have aw:=dE.trans H;simp only[kc,fY]at aw;rcases bp with ⟨rfl,ks,aq,aI⟩|⟨rfl,aJ⟩
     .obtain⟨ak,aA,d1,d2,d3,d4,d5⟩:=er dk.P ks ms aq (λx hx=>co aw x (Q x (by
       rw[cp];simp only[cL,c7]at hx⊢;rcases hx with hx|hx
       .exact .inr (.inr (.inl (dI.mem_iff.2 (iJ _ hx))))
       .exact .inl hx))) (λx hx=>by have:=(aw.iG x hx).2;omega)
      refine .inr ⟨dk,bc,ms,[dH],rest,s,u.cz-1,u.cz-1+2,ks,ak,aA,rfl,S,aw,bn,bl _,aI,d1,d2,d3,dI,d4,d5,I,I,?_⟩;rcases lp u.cz with es|es<;>omega
     .exact .inl ⟨dk,bc,ms,[dH],s,_,_,rfl,S,aw,λhc=>aJ (dE.to.calm 2 hc)⟩
   clear dA;rcases ep with ⟨dk,bc,ms,ls,a0,a,b,rfl,S,H,aJ⟩|⟨dk,bc,ms,ls,rest,a0,am,ag,ks,ak,aA,rfl,S,H,bn,ff,aI,v1,b9,bi,bk,bG,et,eu,ev,ew⟩
   .exact⟨a0,_,_,3,rfl,λ_=>conv _ _ ⟨dk,bc,_,_,S,(X.trans H).mono I,.inr (.inr ⟨0,0,rfl,dl 4 I aJ⟩)⟩,λh=>(by cases h)⟩
   .refine⟨a0,_,_,0,rfl,λh=>(by cases h),λ_=>⟨λh=>?_,λ_=>?_⟩⟩
    .have:(i:Int)=0:=by simpa using h
     omega
    have bq:=hu.to H.to;refine⟨_,rfl,_,bq.aT,u.K,bq.a8,u.V,bq.bc,u.D,bq.eZ,(ou bq.bO aI (fr:=am) (to:=ag) eu I ev ew I I I).use ?_⟩;rintro _ fg ⟨cq,cx,cg,rfl,ex,bs⟩;have dJ:=b7.af H.to.af (ac.t.j4 c3);have dK:=dJ.ext bs;refine⟨_,cq,cx,cg,rfl,dK.bU rfl fO,rfl,cl dK (us:=dY (fi u.n am ag ks ms) cq cx cg) rfl rfl λey ez bu fh=>⟨⟨i-1,dk,bc,m++ms,l++ [(d[i]).no]++ls,fi u.n am ag ks ms,cq,cx,cg,dt,du,ei,dv,dw,ak,aA,bJ++((d[i]).no::r),?_,?_⟩,?_⟩⟩
    .rw[bz I I];omega
    .have dL:dk.E gz:=by rw[H.E];exact c3
     have cr:dk.M gz:=.inr (.inr (.inr (.inl dL)));have cv:=(X.trans H).trans (c6.ext dk bc bs);simp only[fY]at cv;have eA:b_ bR dk w1 ey (4*(d.length-1-i)+4+0):=cv.to.step (E:=dk.E) (G:=dk.G) bu (λq e aG=>I) (λq F=>.inl F) λq F=>.inl F;have cw:∀x,ax.f x=true->dk.f x=true:=λx hx=>by rw[H.f,bj,hx];rfl
     have bS:=b8.to H.to;refine⟨ci,(S.ext bs).As bu λq e=>.inl (by rw[e];exact dL),{cv.mono (j:=4*(d.length-1-(i-1))) I with to:=eA.mono I},?_,?_,ez,?_,?_,cn.agree λx hx=>co H x (Q x (by rw[cp];simp[hx])),v1,by rw[b9];exact g.eq,?_,Fv (wN g.acc) bi bk,I,λh1 e=>?_,λx hx=>?_⟩
     .rw[cM];have:=g.nj;omega
     .rw[cM,cM,h6];have:=g.Av;omega
     .refine(bt.af ex bu λq F e=>?_).aY λq _ F dM=>?_
      .subst e
       rcases F with F|F
       .exact F cr
       .have:=dJ.lt;omega
      .rcases F with F|F
       .exact F dM
       .have:=S.t.lt dM;omega
     .refine⟨(bS.own.ext bs).af bu λq F e=>bS.ni q F (by rw[e];exact cr),bS.ni,λx hx=>bt.af ((bS.bO x hx).ext bs) bu λq F e=>F (by rw[e];exact cr)⟩
     .have this:aM.Perm ((d[i]'cS).no::(r++c4)):=g.pp
      rw[cp]at this;rw[←ck];exact Fw this
     .have fj:=el (λb2=>by
       have:=congrArg List.length b2;rw[dG,cK,ll]at this;omega)
      rw[e,ll]at et;omega
     .rcases cL.1 hx with hx|hx
      .have:=bi.mem_iff.1 hx
       rcases cL.1 this with hx|hx
       .rw[H.f];simp[hx]
       .rcases cL.1 hx with hx|hx
        .refine cw x (Q x ?_)
         rw[cp];have:x∈bJ:=bk.mem_iff.2 (gD _ hx);simp[this]
        .exact cw x (Q x (by simp[hx]))
      .exact cw x (Q x (by rw[cp];simp[hx]))
    .rw[bz I I]
     show((i:Int)-1+1).toNat<((i:Int)+1).toNat;omega
theorem Fy{w:J}{T:aP}{c:dh}{dy:O aS}{n:aB}{K V D ws:ad}(r:ws.len=0)(h:c5 w T c)(t:bt (λq=>¬T.M q) w n K V D)(P:T.C.D.aQ<=900000000)(Q:2<=cj T)(R:c.made.length<=100)(S:c.left=[])
 (f:g7 n) (g:n.keys≠ []) (u:br n<=232) (y:n.fu=dy):
 aL aj 208 #[.pointer (some c.cb),ws,c0 n K V D] w (k5 T c [] dy w):=by
 refine okF (ah.mP (some c.cb) ws n.leaf K V D) az.mP func208 ?_;(delta ah.mP aW aa r1 z4 au ao aK aF st nX u9 f_ eR;dsimp only);refine bd (vs:=dY n K V D) rfl λw1 z A U=>?_;obtain⟨bQ,aT,a8,bc⟩:=bC z;refine⟨_,bQ,K,aT,V,a8,D,bc,bd (vs:=[false,(),(),()]) rfl λW i B X=>⟨i.bU rfl fO,rfl,cl i (us:=dY n K V D) rfl rfl λj E F Y=>?_⟩⟩;have d:Ext w j:=A.trans (Ext.cC B F (bl _));refine⟨λn10 w'=>n10= -1/\j=w',λ_ _=>0,⟨by rw[r];decide,rfl⟩,?_⟩;rintro _ _ ⟨rfl,rfl⟩;refine⟨λh=>by simp at h,λ_=>?_⟩;obtain⟨d0,d1,d2,d3⟩:=bC E;refine⟨_,d0,K,d1,V,d2,D,d3,(Am (h.ext d) I I I (t.ext d) (.inl f) u).use ?_⟩;intro v w' a;obtain⟨s,e,rfl⟩:=a.out;obtain⟨ax,c',m,l,o,Z,G⟩:=(a.base d).cs;rcases G with ⟨rfl,ks,H,L⟩|⟨rfl,N⟩
 .refine⟨s,0,rfl,λh=>(by cases h),λ_=>?_⟩
  rcases H with ⟨_,x,rfl,rfl,hx⟩|⟨ab,_⟩
  .rcases L with ⟨b,p,rfl,_,e,a,_⟩|⟨b,p,ac,ae,af,rfl,e,_⟩
   .obtain rfl:x=p:=by simpa using e
    refine⟨_,rfl,⟨by decide,by show(0:Int)<((1:Nat):Int);decide⟩,_,by rw[ay,ay];exact a.cell,ax,c',[x],[],l,o.mono I,.inr (.inl ⟨x,1,[x],rfl,⟨n,hx,f,λk g=>⟨λ_ e=>(by cases e),λ_ e=>(by cases e)⟩,g,rfl,y.symm⟩,List.Perm.refl _,bl _,I,by show 1<=_;omega⟩)⟩
   .cases e
  .omega
 .exact⟨s,3,rfl,λ_=>⟨ax,c',m,[],l,o.mono I,.inr (.inr ⟨0,0,rfl,λhc=>N (gp hc I)⟩)⟩,λh=>(by cases h)⟩
def aP.l7(T:aP)(r h:Nat):aP:={T with root:=r,aH:=h}
theorem b4.Fz{w w':J}{T:aP}{r h:Nat}(ht:b4 w T)(a:Var w' T.bf (j6 (T.l7 r h)) 239)(hc:ae (λq=>q=T.bf) w w')(b:r<T.n)(c:h<=12):b4 w' (T.l7 r h)/\b_ T (T.l7 r h) w w' 0:=
 ⟨⟨a,ht.s.af hc λq d e=>ht.iF (e▸d),ht.ca.af hc λq e=>.inl e,ht.iF,ht.dF,ht.iq,ht.n,⟨b,c,ht.num.2.2⟩,ht.eE,ht.bB,ht.low⟩,
  ⟨rfl,rfl,rfl,rfl,rfl,rfl,rfl,rfl,rfl,rfl,bl _,λ_ h=>h,hc.mono λq _ e=>.inr (.inl e),λq h=>.inl h,λq h=>.inl h⟩⟩
def gu(T:aP)(pages:O Nat)(L:O aS):Prop:=(T.aH=0/\T.root=0/\pages=[]/\L=[])\/e_ T.P T.aH none none T.root pages L
theorem Ax{s t:Nat->al}:∀ {n:Nat},(∀i,s i=true->t i=true)->eu s n<=eu t n
 |0,_=>bl _
 |n+1,h=>by
  have h1:=Ax (n:=n) h
  show eu s n+(s n).toNat<=eu t n+(t n).toNat
  cases hs:s n with
  |false=>exact Nat.add_le_add h1 (cX _)
  |true=>rw[h n hs];exact Nat.add_le_add_right h1 _
def tU(T:aP)(aM:O Nat)(dy:O aS)(w:J)(v:Y)(w':J):Prop:=
 ∃ax:aP,b4 w' ax/\b_ T ax w w' 60/\ax.E=T.E/\ax.G=T.G/\
  ((v=.int .i64 2/\cj T<2*T.aH+3/\ax=T)\/
   (v=.int .i64 0/\2*T.aH+3<=cj T/\(∃pages,cj T<=cj ax+(2*T.aH+3)/\gu ax pages dy/\pages.Nodup/\(∀no∈pages,no∈aM\/(T.f no||T.g no)=false)/\∀no,ax.f no=true↔(no∈pages\/(T.f no=true/\no∉aM)))/\∀no,T.g no=true->ax.P no=T.P no/\ax.C.view no=T.C.view no)\/
   (v=.int .i64 3/\¬T.C.D.calm 60/\ax.root=T.root/\ax.aH=T.aH/\ax.f=T.f/\∀no,(T.f no||T.g no)=true->ax.P no=T.P no/\ax.C.view no=T.C.view no))
theorem Ay{l:O Nat}(h:∀x,l.count x<=1):l.Nodup:=List.nodup_iff_count.2 h
theorem FA{w:J}{T:aP}{s:ad}{aM:O Nat}{dy:O aS}{n:aB}{K V D:ad}(h:b4 w T)(b2:¬T.C.D.ro)(c8:T.C.D.aQ<=900000000)(z:T.aH<12)(b3:aM.Nodup)(aG:∀x∈aM,T.f x=true)(c9:aM.length<=5000)
 (b5:∀ (bW j:Nat->Prop) (w1:J) (aT:dh),c5 w1 (T.ct bW j) aT->b_ T (T.ct bW j) w w1 0->2*T.aH+3<=cj T->aT.made=[]->aT.left=[]->aL aj 208 #[.pointer (some aT.cb),s,c0 n K V D] w1 (k5 (T.ct bW j) aT aM dy w1)):
 aL aj 150 #[.pointer (some T.bf),s,c0 n K V D] w (tU T aM dy w):=by
 have c_:=h.s.bx;refine ah.Cs (some T.bf) s n.leaf K V D w _ ?_;(delta ah.p3 aF b7 ao au st aa aW r1 nX fS;dsimp only);refine bd (vs:=dY n K V D) rfl λw1 ag ba da=>bd (vs:=[(0:Int)]) rfl λai bb be db=>aX ?_;have ak:Ext ai ai.drew:=cJ _;obtain⟨bg,b6⟩:∃bg,bg=ai.drew:=⟨_,rfl⟩;rw[←b6]at ak⊢;have bh:=(ba.trans be).trans ak;have o:=h.ext bh;obtain⟨ev,b8⟩:∃ev,ev=w1.heap.size:=⟨_,rfl⟩;rw[←b8]at bb⊢;refine⟨λ_=>False,_,rfl,id,_,o.cells.2.1,_,rfl,id,_,o.cells.2.2.2.2,(wu o.s).use ?_⟩;rintro _ aI ⟨rfl,al⟩;have aJ:=bh.trans al;have U:=(bb.ext ak).ext al;have b9:((T.n:Int)-eu (λi=>T.f i||T.g i) T.n)=(cj T:Nat):=by
  have:=l1 (λi=>T.f i||T.g i) T.n;unfold cj;omega
 have ca:IntKind.wrap .i64 (IntKind.wrap .i64 (2*(T.aH:Int))+3)=((2*T.aH+3:Nat):Int):=by
  rw[bz (n:=2*(T.aH:Int)) I I,bz I I];omega
 rw[b9,ca];refine⟨_,rfl,al,λam=>?_,λam=>?_⟩
 .have am:((cj T:Nat):Int)<((2*T.aH+3:Nat):Int):=cu am
  obtain⟨av,F⟩:=er U (i:=0) (by simp);have cc:=dL aI ev 0 (2:Int);have cd:=ep U (i:=0) (2:Int);have bi:=Ext.cC aJ cc I;exact⟨av,F,aX ⟨2,cd.cell,T,h.ext bi,(b_.ext T bi).mono I,rfl,rfl,.inl ⟨rfl,I,rfl⟩⟩⟩
 have bj:2*T.aH+3<=cj T:=by
  have:¬((cj T:Nat):Int)<((2*T.aH+3:Nat):Int):=cQ am;omega
 refine bd (vs:=[.pointer (some T.bf),(),()]) rfl λce bk cf dc=>bd (vs:=[.pointer none]) rfl λbl aK bm dd=>?_;obtain⟨cb,bn⟩:∃cb,cb=aI.heap.size:=⟨_,rfl⟩;obtain⟨eG,bo⟩:∃eG,eG=ce.heap.size:=⟨_,rfl⟩;rw[←bn]at bk⊢;rw[←bo]at aK⊢;obtain⟨av,F⟩:=er aK (i:=0) (by simp);have an:=dL bl eG 0 (.pointer (some cb));have aN:=ep aK (i:=0) (.pointer (some cb));refine⟨av,F,aX ?_⟩;obtain⟨H,cg⟩:∃H,H=bl.setCell eG (.pointer (some cb)):=⟨_,rfl⟩;rw[←cg]at an aN⊢;have de:=aJ.size;have df:=an.size;have aO:Ext aI H:=Ext.cC (cf.trans bm) an I;have bp:=aJ.trans aO;have bq:=U.ext aO;have br:=(bk.ext bm).af an I;have ch:=((ag.ext be).ext ak).ext (al.trans aO);obtain⟨bW,aR⟩:∃bW,bW=λq=>T.E q\/q=ev:=⟨_,rfl⟩;obtain⟨j,aU⟩:∃j,j=λq=>T.G q\/q=cb:=⟨_,rfl⟩;have aV:∀q,bW q->T.E q\/q=ev:=λq c=>by rw[aR]at c;exact c
 have ap:∀q,j q->T.G q\/q=cb:=λq c=>by rw[aU]at c;exact c
 have bs:∀q,T.E q->bW q:=λq c=>by rw[aR];exact .inl c
 have ci:∀q,T.G q->j q:=λq c=>by rw[aU];exact .inl c
 have aY:bW ev:=by rw[aR];exact .inr rfl
 have ck:j cb:=by rw[aU];exact .inr rfl
 have dg:=bq.lt;have di:=br.lt;have bt:b4 H (T.ct bW j):=h.grow (W:=λ_=>False) bp (λ_ h=>h.elim) (λq c=>(aV q c).imp id λe=>.inr ⟨I,I⟩) (λq c=>.inr ((ap q c).imp id λe=>⟨I,I⟩)) λq c hg=>by
  rcases aV q c with h1|h1<;>rcases ap q hg with k|k
  .exact(h.dF q h1).2.2 k
  .have:=h.lt (q:=q) (.inr (.inr (.inr (.inl h1))));omega
  .have:=h.lt (q:=q) (.inr (.inr (.inr (.inr k))));omega
  .have:=U.lt;omega
 have bu:b_ T (T.ct bW j) w H 0:=(b_.refl T w).step (W:=λ_=>False) bp (λ_ h=>h.elim) (λq c=>(aV q c).imp id λe=>.inr I) λq c=>(ap q c).imp id λe=>by omega
 have cl:c5 H (T.ct bW j) ⟨cb,bN,bN,[],[]⟩:=⟨bt,br,aZ.none _ _ _,aZ.none _ _ _,ck,λq c=>(hN q c).elim,λq c=>(hN q c).elim,b2⟩;have cm:=b5 bW j H _ cl bu bj rfl rfl;obtain⟨bQ,aT,a8,bc⟩:=bC ch;refine⟨_,aN.cell,_,bQ,K,aT,V,a8,D,bc,cm.use ?_⟩;rintro v L ⟨bR,y,m,l,bv,d,co⟩;have X:bR.E ev:=by rw[d.E];exact aY
 have aq:=bq.af d.to.af (bt.j4 aY);have cq:¬(T.ct bW j).N eG:=by
  have dj:cb<eG:=by rw[bn,bo];omega
  rintro(c|c|c|c)
  .have:=h.lt (q:=eG) (.inl c);omega
  .have:=h.lt (q:=eG) (.inr (.inl c));omega
  .have:=h.lt (q:=eG) (.inr (.inr (.inl c)));omega
  .rcases ap eG c with h1|h1
   .have:=h.lt (q:=eG) (.inr (.inr (.inr (.inr h1))));omega
   .omega
 have bw:=aN.af d.to.af cq;have ar:y.cb=cb:=d.cb;have dk:bR.bf=T.bf:=d.to.bf;have aw:y.made=m:=d.made;have az:y.left=l:=d.left;have a0:eG≠ev:=by have:=U.lt;omega
 have bA:b_ T bR w L 60:=(bu.trans d.to).mono I
 have fin:∀ (w':J) (ax:aP),b4 w' ax->b_ T ax w w' 60->ax.E=bW->(∀q,T.G q->ax.G q)->b4 w' (ax.ct T.E T.G)/\b_ T (ax.ct T.E T.G) w w' 60:=by
  intro w' ax hc ht bB bD;exact⟨hc.grow (W:=λ_=>False) (ae.refl _ _) (λ_ h=>h.elim) (λq c=>.inl (by rw[bB];exact bs q c)) (λq c=>.inr (.inl (bD q c))) λq c=>(h.dF q c).2.2,
   ht.step (W:=λ_=>False) (ae.refl _ _) (λ_ h=>h.elim) (λq c=>.inl (by rw[bB];exact bs q c)) λq c=>.inl (bD q c)⟩
 have bE:∀q,T.G q->bR.G q:=λq c=>d.G q (ci q c);have dl:=(ba).size;have a1:∀ (w0:J) (ax:aP) (c':dh) (x:Int),c5 w0 ax c'->b_ T ax w w0 60->ax.E ev->c5 (w0.setCell ev x) ax c'/\b_ T ax w (w0.setCell ev x) 60:=λw0 ax c' x hc ht he=>
  ⟨hc.As (dL w0 ev 0 _) λq e=>.inl (by rw[e];exact he),ht.step (E:=ax.E) (G:=ax.G) (dL w0 ev 0 _) (λq e a2=>I) (λq c=>.inl c) λq c=>.inl c⟩
 have dm:m.length<=1600:=by
  have:=d.room;have:cj (T.ct bW j)<=T.n:=by unfold cj;exact Nat.sub_le _ _
  omega
 have cr:(∃a b:Int,v=.tuple #[a,b,(3:Int)]/\¬T.C.D.calm 60)\/(∃ (root z:Nat) (pages:O Nat),v=.tuple #[root,z,(0:Int)]/\((z=0/\root=0/\pages=[]/\dy=[])\/e_ bR.P z none none root pages dy)/\(pages++l).Perm (m++aM)/\z<=12/\m.length<=2*T.aH+3):=by
  rcases co with ⟨rfl,h1,k,a3⟩|⟨root,z,pages,rfl,h1,k,o,M,a3⟩|⟨a,b,rfl,a4⟩
  .exact .inr ⟨0,0,[],rfl,.inl ⟨rfl,rfl,rfl,h1⟩,k,I,a3⟩
  .have M:z<=T.aH+1:=M
   exact .inr ⟨root,z,pages,rfl,.inr h1,k,I,a3⟩
  .exact .inl ⟨a,b,rfl,a4⟩
 rcases cr with ⟨a,b,rfl,a4⟩|⟨root,p,pages,rfl,cs,bF,cv,dp⟩
 .
  obtain⟨av,F⟩:=er aq (i:=0) (by simp);have A:=ep aq (i:=0) (3:Int);obtain⟨aA,aC⟩:=a1 L bR y 3 bv bA X;have Y:=bw.af (dL L ev 0 (3:Int)) a0;refine⟨a,b,3,rfl,av,F,aX ⟨3,A.cell,λ_=>⟨3,A.cell,?_⟩,λhx=>(by cases hx)⟩⟩;obtain⟨cw,cx⟩:=er A (i:=0) (by simp);have a5:=ep A (i:=0) (3:Int);obtain⟨bG,bH⟩:=a1 _ bR y 3 aA aC X;have a6:=Y.af (dL _ ev 0 (3:Int)) a0;refine⟨cw,cx,aX (ah.yB ev eG _ _ ?_)⟩;generalize dq:(L.setCell ev (3:Int)).setCell ev (3:Int)=bI at a5 bG a6 bH⊢;(delta ah.og aF ao r1 fS;dsimp only);have Q:Ext bI bI.drew:=cJ _;have r:=bG.ext Q;have Z:=Ap r r.ma.src (λq c=>(r.hE q c).1) (l:=y.made) (λx hx=>by rw[aw]at hx;rw[d.f];simp[hx]) (by rw[aw];exact d.bO) (by rw[aw];omega);rw[ar]at Z;have ab:=r.cells.2.1;rw[ar]at ab;refine⟨3,a5.cell,λ_=>aX ⟨id,_,a6.drew.cell,id,_,a6.drew.cell,_,rfl,id,y.ma,ab,Z.use ?_⟩,λhx=>(by cases hx)⟩;rintro _ bJ ⟨rfl,bZ,B,hg⟩;rw[aw]at hg;have cy:=(a5.ext Q).af hg.to.af (r.t.j4 X);have cz:b_ T bZ w bJ 60:=((bH.trans (b_.ext bR Q)).trans hg.to).mono I;obtain⟨f1,f2⟩:=fin bJ bZ B.t cz (by rw[hg.E];exact d.E) λq c=>by rw[hg.G];exact bE q c
  refine⟨rfl,3,cy.cell,_,f1,f2,rfl,rfl,.inr (.inr ⟨rfl,a4,hg.root.trans d.root,hg.aH.trans d.aH,?_,λno ac=>?_⟩)⟩
  .funext no
   show bZ.f no=T.f no;rw[hg.f,d.f];by_cases u:no∈m
   .have:=(d.iG no u).1
    have e:(T.ct bW j).f no=T.f no:=rfl;rw[e]at this⊢
    cases a7:T.f no
    .simp[u]
    .rw[a7]at this;cases this
   .simp[u];rfl
  .have u:no∉m:=λu=>by
    have:=(d.iG no u).1;have e:((T.ct bW j).f no||(T.ct bW j).g no)=(T.f no||T.g no):=rfl;rw[e,ac]at this;cases this
   have h1:=hg.ee no (.inl u);have k:=d.ee no ac;exact⟨h1.1.trans k.1,h1.2.trans k.2⟩
 .
  have S:∀x,pages.count x+l.count x=m.count x+aM.count x:=λx=>by
   have:=l6.1 bF x;simpa only[mf] using this
  have aD:∀x,m.count x+aM.count x<=1:=λx=>by
   have h1:=List.nodup_iff_count.1 d.bO x;have k:=List.nodup_iff_count.1 b3 x;rcases lp (m.count x) with o|o
   .omega
   .rcases lp (aM.count x) with M|M
    .omega
    .have u:=iP.1 o
     have cB:=iP.1 M;have:=(d.iG x u).1;have e:((T.ct bW j).f x||(T.ct bW j).g x)=(T.f x||T.g x):=rfl;rw[e,aG x cB]at this;cases this
  have hlen:pages.length+l.length=m.length+aM.length:=by
   have:=bF.length_eq;simpa only[cM] using this
  have cD:∀x∈l,bR.f x=true:=λx hx=>by
   have h1:=iP.2 hx;have k:=S x;rw[d.f];rcases lp (m.count x) with o|o
   .have:x∈aM:=iP.1 I
    have e:(T.ct bW j).f x=T.f x:=rfl;rw[e,aG x this];rfl
   .have:x∈m:=iP.1 o
    simp[this]
  have cE:l.Nodup:=Ay λx=>by have:=S x;have:=aD x;omega
  obtain⟨av,F⟩:=er aq (i:=0) (by simp);have A:=ep aq (i:=0) (0:Int);obtain⟨aA,aC⟩:=a1 L bR y 0 bv bA X;have Y:=bw.af (dL L ev 0 (0:Int)) a0;refine⟨_,_,0,rfl,av,F,aX ⟨0,A.cell,λhx=>(by cases hx),λ_=>aX ?_⟩⟩;generalize dr:L.setCell ev (0:Int)=bK at A aA Y aC⊢;have Q:Ext bK bK.drew:=cJ _;have r:=aA.ext Q;have Z:=Ap r r.fN.src (λq c=>(r.jE q c).1) (l:=y.left) (λx hx=>cD x (by rw[az]at hx;exact hx)) (by rw[az];exact cE) (by rw[az];omega);rw[ar]at Z;have ab:=r.cells.2.2;rw[ar]at ab;refine⟨id,_,Y.drew.cell,id,_,Y.drew.cell,_,rfl,id,y.fN,ab,Z.use ?_⟩;rintro _ R ⟨rfl,bZ,B,hg⟩;rw[az]at hg;have cF:=(A.ext Q).af hg.to.af (r.t.j4 X);have bM:b_ T bZ w R 60:=((aC.trans (b_.ext bR Q)).trans hg.to).mono I;have a9:bZ.bf=T.bf:=bM.bf;have bP:bZ.E=bW:=by rw[hg.E];exact d.E
  have cG:bZ.E ev:=by rw[bP];exact aY
  have bS:Var R T.bf (j6 bZ) 239:=by rw[←a9];exact B.t.t
  obtain⟨cn,cp⟩:=er bS (i:=3) (by simp[j6]);have bT:=ep bS (i:=3) root;have cH:=dL R T.bf 3 root;obtain⟨cI,cK⟩:=er bT (i:=4) (by simp[j6]);have bU:=ep bT (i:=4) p;have cL:=dL (R.setCell ⟨T.bf,3,none⟩ root) T.bf 4 p;refine⟨rfl,_,rfl,by rw[ay];exact cn,by rw[ay];exact cp,aX ⟨_,rfl,by rw[ay,ay];exact cI,by rw[ay,ay];exact cK,aX ?_⟩⟩;rw[ay,ay,cU,cU];have a_:ae (λq=>q=T.bf) R ((R.setCell ⟨T.bf,3,none⟩ root).setCell ⟨T.bf,4,none⟩ p):=cH.trans cL;generalize ds:(R.setCell ⟨T.bf,3,none⟩ root).setCell ⟨T.bf,4,none⟩ p=aE at bU a_⊢;have cN:∀x∈pages,x∉l:=λx hx a2=>by
   have h1:=iP.2 hx;have k:=iP.2 a2;have:=S x;have:=aD x;omega
  have bV:(p=0/\root=0/\pages=[]/\dy=[])\/(e_ bZ.P p none none root pages dy/\root∈pages):=cs.imp id λcO=>cO.agree λx hx=>((hg.ee x (.inl (cN x hx))).1).symm;have cP:root<bZ.n:=by
   rcases bV with ⟨_,h1,_⟩|⟨h1,_⟩
   .have:=B.t.s.bL;omega
   .obtain⟨bO,_,k,_⟩:=h1.jz
    exact(B.t.eE _ _ k).1
  have cR:Var aE bZ.bf (j6 (bZ.l7 root p)) 239:=by rw[a9];exact bU
  obtain⟨cS,cT⟩:=B.t.Fz cR (by rw[a9];exact a_) cP cv;have cV:ev≠T.bf:=λe=>by have:=h.lt (q:=T.bf) (.inr (.inl rfl));omega
  have bX:=cF.af a_ cV;obtain⟨cW,cX⟩:=er bX (i:=0) (by simp);have bY:=ep bX (i:=0) (0:Int);have b0:=dL aE ev 0 (0:Int);refine⟨cW,cX,aX (ah.yB ev eG _ _ ?_)⟩;(delta ah.og aF ao r1 fS;dsimp only);refine⟨0,bY.cell,λhx=>(by cases hx),λ_=>⟨0,bY.cell,?_⟩⟩;have cY:b4 (aE.setCell ev (0:Int)) (bZ.l7 root p):=cS.grow (E:=bZ.E) (G:=bZ.G) b0 (λq e _=>.inl (by rw[e];exact cG)) (λq c=>.inl c) (λq c=>.inr (.inl c)) λq c=>(B.t.dF q c).2.2;have cZ:b_ T (bZ.l7 root p) w (aE.setCell ev (0:Int)) 60:=((bM.trans cT).mono I).step (E:=bZ.E) (G:=bZ.G) b0 (λq e a2=>I) (λq c=>.inl c) λq c=>.inl c;obtain⟨f1,f2⟩:=fin _ _ cY cZ bP λq c=>by
   show bZ.G q;rw[hg.G];exact bE q c
  refine⟨_,f1,f2,rfl,rfl,.inr (.inl ⟨rfl,bj,⟨pages,?_,?_,Ay λx=>by have:=S x;have:=aD x;omega,λno hx=>?_,λno=>?_⟩,λno ac=>?_⟩)⟩
  .have h1:cj bR+m.length=cj T:=d.room
   have k:cj bR<=cj (bZ.l7 root p):=by
    show bR.n-_<=bZ.n-eu (λi=>bZ.f i||bZ.g i) bZ.n;rw[hg.to.n];have:=Ax (s:=λi=>bZ.f i||bZ.g i) (t:=λi=>bR.f i||bR.g i) (n:=bR.n) λi hi=>by
     rw[hg.f,hg.to.g]at hi;rw[h5,dn]at hi;rw[h5];exact hi.imp And.left id
    omega
   show cj T<=cj (bZ.l7 root p)+_;omega
  .rcases bV with ⟨h1,k,o,M⟩|⟨h1,_⟩
   .exact .inl ⟨h1,k,o,M⟩
   .exact .inr h1
  .have h1:=iP.2 hx
   have k:=S no;rcases lp (aM.count no) with o|o
   .have u:no∈m:=iP.1 I
    exact .inr (d.iG no u).1
   .exact .inl (iP.1 o)
  .show bZ.f no=true↔_
   rw[hg.f,d.f];have e:(T.ct bW j).f no=T.f no:=rfl;rw[e];have dt:=S no;have B:=aD no;have b1:no∈m↔0<m.count no:=iP.symm;have ag:no∈aM↔0<aM.count no:=iP.symm;have c1:no∈l↔0<l.count no:=iP.symm;have c2:no∈pages↔0<pages.count no:=iP.symm;have c3:0<aM.count no->T.f no=true:=λh=>aG no (ag.2 h);have c4:0<m.count no->T.f no=false:=λh=>by
    have:=(d.iG no (b1.2 h)).1;have e:((T.ct bW j).f no||(T.ct bW j).g no)=(T.f no||T.g no):=rfl;rw[e]at this
    cases a7:T.f no
    .rfl
    .rw[a7]at this;cases this
   rw[dn,h5,cA,iI,j9,b1,ag,c1,c2];constructor
   .rintro⟨h1|h1,k⟩
    .by_cases o:0<aM.count no
     .left;omega
     .exact .inr ⟨h1,o⟩
    .left;omega
   .rintro(h1|⟨h1,k⟩)
    .refine⟨?_,I⟩
     by_cases o:0<aM.count no
     .exact .inl (c3 o)
     .right;omega
    .refine⟨.inl h1,λo=>?_⟩
     have:0<m.count no:=by omega
     rw[c4 this]at h1;cases h1
  .have c6:(T.f no||T.g no)=true:=by rw[ac];simp
   have c7:bR.g no=true:=by rw[d.to.g];exact ac
   have h1:=hg.ee no (.inr c7);have k:=d.ee no c6;exact⟨h1.1.trans k.1,h1.2.trans k.2⟩
theorem Az{ks:O Key}{k:Key}{i:Nat}(hs:ks.Pairwise bP)(h1:cO ks k<=i)(hi:i<ks.length)(f:ks[cO ks k]? ≠some k):bP k ks[i]:=by
 rcases m0.1 (oF hs h1 hi) with a|a
 .exact a
 .exfalso
  rcases ed (cO ks k) i with b|b
  .have c:cO ks k<ks.length:=by omega
   have g:=oF hs (bl _) c;have d:=lh.1 hs _ _ c hi b;rw[←a]at d;exact g d
  .have e:i=cO ks k:=by omega
   apply f;subst e;rw[dI hi,←a]
theorem AA{n:aB}(h:g7 n){i:Nat}(hi:i<=n.keys.length):∃a b c d:O Key,n.keys=a++b/\n.vals=c++d/\a.length=i/\c.length=i/\b.length=d.length/\n.keys.take i=a/\n.keys.drop i=b/\n.vals.take i=c/\n.vals.drop i=d:=by
 have e:=h.len;refine⟨n.keys.take i,n.keys.drop i,n.vals.take i,n.vals.drop i,(gg i _).symm,(gg i _).symm,?_,?_,?_,rfl,rfl,rfl,rfl⟩
 .rw[cK];omega
 .rw[cK];omega
 .rw[dc,dc];omega
def jG(k v:Key):Nat:=2+k.length+v.length
theorem tV{n:aB}(h:n.leaf=true):br n=1+(List.zipWith jG n.keys n.vals).sum:=by
 unfold br;rw[if_pos h,j0 h];rfl
theorem FB{n:aB}{k v:Key}(h:g7 n)(C:cR k)(D:v.length<=24):g7 (gy n k v)/\(gy n k v).fu=fK n.fu k v/\br (gy n k v)<=br n+50/\(gy n k v).keys≠ []/\n.keys.length<=(gy n k v).keys.length/\(∀s∈(gy n k v).keys,s=k\/s∈n.keys):=by
 have hlen:=h.len;have E:=qh n.keys k;have K:n.fu=n.keys.zip n.vals:=rfl;have F:=h.e9;have G:∀ (j:Nat) (m:j<n.keys.length),j<cO n.keys k->bP n.keys[j] k:=λj m h1=>m4 h1 m;have H:n.keys[cO n.keys k]? ≠some k->∀ (j:Nat) (m:j<n.keys.length),cO n.keys k<=j->bP k n.keys[j]:=λhe j m h1=>Az F h1 m he;rw[K,Dv h.e9];unfold gy iD;generalize hi:cO n.keys k=i at E G H⊢;obtain⟨a,b,c,d,g,t,L,M,N,p,q,w,A⟩:=AA h E;have f:n.keys.zip n.vals=a.zip c++b.zip d:=by rw[g,t];exact qg I
 have u:(a.zip c).length=i:=by rw[pc];omega
 by_cases he:n.keys[i]? =some k
 .rw[if_pos (by simpa using he),if_pos he]
  have O:∃o,b=k::o:=by
   cases b with
   |nil=>rw[g,iO I]at he;simp at he
   |cons y o=>
    rw[g,iO I,L,nt]at he;simp at he;exact⟨o,by rw[he]⟩
  obtain⟨o,rfl⟩:=O;obtain⟨x,l,rfl⟩:∃x l,d=x::l:=by
   cases d with
   |nil=>simp at N
   |cons x l=>exact⟨x,l,rfl⟩
  have J:n.vals.set i v=c++v::l:=by
   rw[t,List.set_append_right _ _ I,M,nt];rfl
  refine⟨⟨⟨h.ok,h.e9⟩,h.leaf,by simp[hlen],h.kids,λz f=>?_⟩,?_,?_,λe=>by have e:n.keys=[]:=e;rw[e]at g;simp at g,bl _,λs hs=>.inr hs⟩
  .rcases lk f with h1|h1
   .exact h.vals z h1
   .rw[h1];exact D
  .show n.keys.zip (n.vals.set i v)=_
   rw[J,f,g,qg I,k0 u];have P:(a.zip c++(k::o).zip (x::l)).drop (i+1)=o.zip l:=by
    rw[List.zip_cons_cons,show a.zip c++(k,x)::o.zip l=(a.zip c++ [(k,x)])++o.zip l by simp];exact drop_left' (by simp only[cM,u,h6])
   rw[P];rfl
  .rw[tV h.leaf,tV (n:={n with vals:=n.vals.set i v}) h.leaf]
   show 1+(List.zipWith jG n.keys (n.vals.set i v)).sum<=_;rw[J,g,t,qV I,qV I,lg,lg,List.zipWith_cons_cons,List.zipWith_cons_cons,List.sum_cons,List.sum_cons];unfold jG;omega
 .rw[if_neg (by simpa using he),if_neg he]
  have Q:=H he;refine⟨⟨⟨λz f=>?_,?_⟩,h.leaf,?_,h.kids,λz f=>?_⟩,?_,?_,λe=>?_,?_,λs hs=>?_⟩
  .have f:z∈n.keys.take i++ [k]++n.keys.drop i:=f
   simp only[cL,fo]at f;rcases f with (f|rfl)|f
   .exact h.ok z (eQ f)
   .exact C
   .exact h.ok z (eP f)
  .show(n.keys.take i++ [k]++n.keys.drop i).Pairwise bP
   rw[p,q];have R:(a++b).Pairwise bP:=by rw[←g];exact F
   obtain⟨av,B,S⟩:=pb.1 R;have T:∀x∈a,bP x k:=λx hx=>by
    obtain⟨j,m,rfl⟩:=e0 hx;have:=G j (by rw[g,cM];omega) I;simp only[g,ph m]at this;exact this
   have U:∀y∈b,bP k y:=λy r=>by
    obtain⟨j,m,rfl⟩:=e0 r;have:=Q (i+j) (by rw[g,cM];omega) I;have e:(a++b)[i+j]'(by rw[cM];omega)=b[j]:=by
     rw[qX I];congr 1;omega
    simp only[g,e]at this;exact this
   rw[cY];refine pb.2 ⟨av,?_,λx hx y r=>?_⟩
   .exact kF.2 ⟨U,B⟩
   .rcases c7.1 r with rfl|r
    .exact T x hx
    .exact S x hx y r
  .show(n.vals.take i++ [v]++n.vals.drop i).length=(n.keys.take i++ [k]++n.keys.drop i).length
   rw[p,q,w,A];simp only[cM,h6];omega
  .have f:z∈n.vals.take i++ [v]++n.vals.drop i:=f
   simp only[cL,fo]at f;rcases f with (f|rfl)|f
   .exact h.vals z (eQ f)
   .exact D
   .exact h.vals z (eP f)
  .show(n.keys.take i++ [k]++n.keys.drop i).zip (n.vals.take i++ [v]++n.vals.drop i)=_
   rw[p,q,w,A,f,k0 u,drop_left' u,cY,cY,qg I];rfl
  .rw[tV h.leaf,tV (n:={n with keys:=n.keys.take i++ [k]++n.keys.drop i,vals:=n.vals.take i++ [v]++n.vals.drop i}) h.leaf]
   show 1+(List.zipWith jG (n.keys.take i++ [k]++n.keys.drop i) (n.vals.take i++ [v]++n.vals.drop i)).sum<=_;have av:(List.zipWith jG (a++ [k]++b) (c++ [v]++d)).sum=(List.zipWith jG a c).sum+(jG k v+(List.zipWith jG b d).sum):=by
    rw[cY,cY,qV I,lg];rfl
   have B:(List.zipWith jG (a++b) (c++d)).sum=(List.zipWith jG a c).sum+(List.zipWith jG b d).sum:=by
    rw[qV I,lg]
   rw[p,q,w,A,g,t,av,B];have:=C.2;unfold jG;omega
  .have e:n.keys.take i++ [k]++n.keys.drop i=[]:=e
   simp at e
  .show n.keys.length<=(n.keys.take i++ [k]++n.keys.drop i).length
   rw[p,q,g];simp only[cM,h6];omega
  .have hs:s∈n.keys.take i++ [k]++n.keys.drop i:=hs
   simp only[cL,fo]at hs;rcases hs with (hs|rfl)|hs
   .exact .inr (eQ hs)
   .exact .inl rfl
   .exact .inr (eP hs)
def AB(T:aP)(aM:O Nat)(dy:O aS)(w:J)(v:Y)(w':J):Prop:=
 ∃ax:aP,b4 w' ax/\b_ T ax w w' 100/\ax.E=T.E/\ax.G=T.G/\
  ((v=.int .i64 2/\cj T<2*T.aH+3/\ax=T)\/
   (v=.int .i64 0/\2*T.aH+3<=cj T/\(∃pages,cj T<=cj ax+(2*T.aH+3)/\gu ax pages dy/\pages.Nodup/\(∀no∈pages,no∈aM\/(T.f no||T.g no)=false)/\∀no,ax.f no=true↔(no∈pages\/(T.f no=true/\no∉aM)))/\∀no,T.g no=true->ax.P no=T.P no/\ax.C.view no=T.C.view no)\/
   (v=.int .i64 3/\¬T.C.D.calm 100/\ax.root=T.root/\ax.aH=T.aH/\ax.f=T.f/\∀no,(T.f no||T.g no)=true->ax.P no=T.P no/\ax.C.view no=T.C.view no))
theorem tU.af{T:aP}{aD:bM}{aM:O Nat}{dy:O aS}{w w1 w':J}{v:Y}{k:Nat}(h:tU (T.bK aD T.P) aM dy w1 v w')(e:b_ T (T.bK aD T.P) w w1 k)(s:k<=40)(f:∀j,aD.view j=T.C.view j)(i:2*T.aH+3<=cj T):AB T aM dy w v w':=by
 obtain⟨ax,h1,l,m,n,o⟩:=h;refine⟨ax,h1,(e.trans l).mono I,m,n,?_⟩;have p:cj (T.bK aD T.P)=cj T:=rfl;have q:(T.bK aD T.P).aH=T.aH:=rfl;rcases o with ⟨_,b,_⟩|⟨rfl,b,d,c⟩|⟨rfl,b,d,c,r,g⟩
 .rw[p,q]at b;omega
 .exact .inr (.inl ⟨rfl,i,d,λno a=>⟨(c no a).1,(c no a).2.trans (f no)⟩⟩)
 .exact .inr (.inr ⟨rfl,λhc=>b (e.calm 60 (gp hc I)),d,c,r,λno a=>⟨(g no a).1,(g no a).2.trans (f no)⟩⟩)
theorem mM(w:J)(s:ad):aL aj 141 #[s] w (λv w'=>v=.bool (decide (1<=s.len/\s.len<=24))/\w=w'):=by
 refine okF (ah.mM s) az.mM func141 ?_;unfold ah.mM;refine⟨?_,rfl⟩
 congr 1
 rw[fA,dn,cA,cA,cA];omega
theorem AD{T:aP}{w:J}{pages:O Nat}{L:O aS}{k:Key}(h:b4 w T)(n:gu T pages L):∃steps,l5 T.P k T.aH T.root steps/\
 ((steps=[]/\T.aH=0/\pages=[]/\L=[])\/(∃ (a:Nat) (bL:aB) (b c:ar Key) (d:O (Nat×aB×Nat)) (i:O Nat) (f g:O aS),steps=d++ [(a,bL,0)]/\Ctx T.P k T.aH 1 b c d i f g/\T.P a=some bL/\g7 bL/\bL.within b c/\bL.keys≠ []/\(d≠ []->2<=bL.keys.length)/\e2 b c k/\
   pages.Perm (a::i)/\L=f++(bL.fu++g)/\∀u,Loc k u->u L=f++(u bL.fu++g))):=by
 rcases n with ⟨h1,z,o,p⟩|j
 .exact⟨[],by rw[h1];rfl,.inl ⟨rfl,h1,o,p⟩⟩
 .cases l:T.aH with
  |zero=>rw[l]at j;exact j.elim
  |succ t=>
   rw[l]at j;obtain⟨rest,d,a,bL,b,c,i,f,g,r1,aF,cd,aW,en,q,r,s,v,m,x,y⟩:=Ctx.down (P:=T.P) (k:=k) (top:=t+1) (bp:=L) .top j (λh=>absurd rfl h) ⟨λ_ e=>(by cases e),λ_ e=>(by cases e)⟩ (by simp) (λu _=>by simp);rw[kc]at aF;rw[fY]at m;exact⟨rest,r1,.inr ⟨a,bL,b,c,d,i,f,g,aF,cd,aW,en,q,r,s,v,m,x,y⟩⟩
theorem gu.low{T:aP}{pages:O Nat}{L:O aS}(h:gu T pages L)(d:L.length<4096):T.aH<12/\pages.length<=L.length:=by
 rcases h with ⟨h1,_,a,_⟩|b
 .rw[h1,a];exact⟨I,cX _⟩
 .obtain⟨av,e,c⟩:=b.pages
  refine⟨?_,av⟩;rcases ed T.aH 12 with h|h
  .exact h
  .have f:=c I
   have g:2^12<=2^T.aH:=qU (by decide) h;have i:(2:Nat)^12=4096:=by decide
   omega
theorem FC{w1:J}{T:aP}{aD:bM}{pages:O Nat}{L dy:O aS}{k:Key}{steps:O (Nat×aB×Nat)}{s:ad}{a:O df}{bL b:aB}{K V D:ad}(h:b4 w1 (T.bK aD T.P))(R:¬aD.D.ro)(S:gu T pages L)(U:L.length<4096)(ej:pages.Nodup)(hf:∀x∈pages,T.f x=true)(o:aD.D.aQ<=900000000)
 (g:a.map df.st=steps) (r:je (λq=>¬(T.bK aD T.P).M q) w1 s a) (W:bt (λq=>¬(T.bK aD T.P).M q) w1 b K V D) (t:g7 b) (X:(steps=[]/\T.aH=0/\pages=[]/\b.keys≠ []/\br b<=232/\b.fu=dy)\/(∃ (d:Nat) (i j:ar Key) (c:O (Nat×aB×Nat)) (l:O Nat) (m n:O aS),steps=c++ [(d,bL,0)]/\Ctx T.P k T.aH 1 i j c l m n/\b.within i j/\(c≠ []->b.keys≠ [])/\pages.Perm (d::l)/\dy=m++(b.fu++n)/\br b<=282)):
 aL aj 150 #[.pointer (some T.bf),s,c0 b K V D] w1 (tU (T.bK aD T.P) pages dy w1):=by
 obtain⟨u,ao⟩:=S.low U;refine FA h R o u ej hf I λbW v ai a8 w y Y z C=>?_;have Z:s.len=a.length:=by
  have:=r.own.1;rw[hW _ (nh a)]at this;omega
 have E:bt (λq=>¬((T.bK aD T.P).ct bW v).M q) ai b K V D:=(y.bO (lo:=0) (W.aY λq _ p=>⟨cX _,p⟩)).aY λq _ p=>p.2;rcases X with ⟨h1,ap,aa,ab,ac,ae⟩|⟨d,i,j,c,l,m,n,F,G,af,ag,H,ah,ak⟩
 .subst h1 aa
  have al:a=[]:=by simpa using g
  exact Fy (by rw[Z,al];rfl) w E o (by
   have e:cj ((T.bK aD T.P).ct bW v)=cj (T.bK aD T.P):=rfl;omega) (by rw[z];simp) C t ab ac ae
 .have hlen:a.length=c.length+1:=by
   have:=congrArg List.length g;rw[F,dG,cM,h6]at this;exact this
  have aq:1+c.length=T.aH:=G.ec;have am:=r.to y;have N:(a.take (a.length-1)).map df.st=c/\(a[a.length-1]'I).no=d:=by
   rw[F]at g;have av:(a.take (a.length-1)).map df.st=(c++ [(d,bL,0)]).take (a.length-1):=by rw[←g,mc]
   refine⟨by rw[av];exact k0 I,?_⟩;have Q:(a.map df.st)[a.length-1]? =some (d,bL,0):=by
    rw[g,iO I];have:a.length-1-c.length=0:=by omega
    rw[this];rfl
   rw[lj,dI I]at Q;have an:=Option.some.inj Q;exact congrArg Prod.fst an
  refine Fx (k:=k) (c4:=l) (A:=m) (B:=n) (M:=b.fu) (lo:=i) (hi:=j) w am E I (by show a.length=T.aH;omega) u o Y (by rw[z];simp) (by rw[C];simp) ?_ ⟨t,af,rfl,rfl⟩ ah.symm ?_ ak (λh=>ag λe=>?_) λx hx=>?_
  .rw[N.1]
   have:a.length=T.aH:=by omega
   rw[this];exact G
  .rw[N.2];exact H
  .rw[e]at hlen;simp at hlen;omega
  .exact hf x (H.mem_iff.2 (iJ _ hx))
theorem je.ext'{B C:Nat->Prop}{w w':J}{s:ad}{l:O df}(h:je B w s l)(hx:Ext w w')(a:∀q,B q->C q):je C w' s l:=
 ⟨h.own.ext hx,λq b=>a q (h.ni q b),λx c=>((h.bO x c).ext hx).aY λq _ d=>a q d⟩
theorem tW{a:O df}{b:O (Nat×aB×Nat)}{c:Nat}{bx:aB}(d:a.map df.st=b++ [(c,bx,0)]):∃h:0<a.length,(a[a.length-1]'I).n=bx:=by
 have hlen:a.length=b.length+1:=by
  have:=congrArg List.length d;rw[dG,cM,h6]at this;exact this
 refine⟨I,?_⟩;have e:(a.map df.st)[a.length-1]? =some (c,bx,0):=by
  rw[d,iO I];have:a.length-1-b.length=0:=by omega
  rw[this];rfl
 rw[lj,dI I]at e;exact congrArg (λx=>x.2.1) (Option.some.inj e)
theorem FD{w:J}{T:aP}{pages:O Nat}{L:O aS}{tk ef:ad}{key val:Key}(h:b4 w T)(ba:¬T.C.D.ro)(Q:gu T pages L)(ap:L.length<4096)(ej:pages.Nodup)(hf:∀x∈pages,T.f x=true)(b3:T.C.D.aQ<=800000000)
 (R:Src 1 w tk (aA key)) (S:∀q,aC tk q->q<w.heap.size/\¬T.M q) (ar:Src 1 w ef (aA val)) (bb:∀q,aC ef q->q<w.heap.size/\¬T.M q):
 aL aj 85 #[.pointer (some T.bf),tk,ef] w (λv w'=>(v=.int .i64 1/\¬(cR key/\val.length<=24)/\w=w')\/(cR key/\val.length<=24/\AB T pages (fK L key val) w v w')):=by
 have be:=len8 R;have aw:=len8 ar;refine okF (ah.sr (some T.bf) tk ef) az.sr func85 ?_;(delta ah.sr ao cc aF b7 au eR z4 aa aW r1 pR nW;dsimp only);refine cH (λb w'=>b= !(decide (cR key))/\w=w') (λq c=>⟨λh=>(by cases h),λ_=>(mM w tk).use ?_⟩) ?_
 .rintro _ _ ⟨rfl,rfl⟩
  refine⟨_,rfl,c _ _ ⟨?_,rfl⟩⟩;unfold cR;rw[be]
 rintro _ _ ⟨rfl,rfl⟩;refine⟨λd=>.inl ⟨rfl,λhg=>?_,rfl⟩,λd=>?_⟩
 .rw[dw hg.1,aw]at d
  have:¬(val.length:Int)>24:=by have:=hg.2;omega
  simp[this]at d
 have hg:cR key/\val.length<=24:=by
  by_cases h1:cR key
  .refine⟨h1,?_⟩
   rw[dw h1,aw]at d;have:¬(val.length:Int)>24:=by simpa using d
   omega
  .rw[iw h1]at d;simp at d
 have b5:=h.s.bx;obtain⟨b6,b8⟩:=Q.low ap;have ay:Ext w w.drew:=cJ w;have hd:=h.ext ay;refine aX ⟨λ_=>False,_,rfl,id,_,hd.cells.2.1,_,rfl,id,_,hd.cells.2.2.2.2,(wu hd.s).use ?_⟩;rintro _ b9 ⟨rfl,aE⟩;have bg:((T.n:Int)-eu (λi=>T.f i||T.g i) T.n)=(cj T:Nat):=by
  have:=l1 (λi=>T.f i||T.g i) T.n;unfold cj;omega
 have bh:IntKind.wrap .i64 (IntKind.wrap .i64 (2*(T.aH:Int))+3)=((2*T.aH+3:Nat):Int):=by
  rw[bz (n:=2*(T.aH:Int)) I I,bz I I];omega
 rw[bg,bh];have o:=ay.trans aE;have U:=h.ext o;refine⟨_,rfl,aE,λd=>.inr ⟨hg.1,hg.2,T,U,(b_.ext T o).mono I,rfl,rfl,.inl ⟨rfl,?_,rfl⟩⟩,λd=>?_⟩
 .have d:((cj T:Nat):Int)<((2*T.aH+3:Nat):Int):=cu d
  omega
 have bi:2*T.aH+3<=cj T:=by
  have:¬((cj T:Nat):Int)<((2*T.aH+3:Nat):Int):=cQ d;omega
 obtain⟨steps,aG,aI⟩:=AD (k:=key) U Q;refine(Af U I (R.ext o) (λq c=>⟨fm (S q c).1 o.size,(S q c).2⟩) aG).use ?_;rintro _ E ⟨aD,W,X,aJ,bk⟩;have y:=((b_.ext T o).trans X).mono (l:=2*T.aH) I;rcases bk with ⟨s,a,rfl,m,Y⟩|⟨rfl,bm⟩
 rotate_left
 .refine⟨⟨none,0,0⟩,3,rfl,λ_=>.inr ⟨hg.1,hg.2,T.bK aD T.P,W,y.mono I,rfl,rfl,.inr (.inr ⟨rfl,λhc=>bm (gp hc I),rfl,rfl,rfl,λno _=>⟨rfl,aJ no⟩⟩)⟩,λhx=>(by cases hx)⟩
 have ca:s.len=a.length:=by
  have:=Y.own.1;rw[hW _ (nh a)]at this;omega
 have cb:=o.size;have ce:a.length=T.aH:=by
  have:=aG.length;rw[←m,dG]at this;exact this
 refine⟨s,0,rfl,λhx=>(by cases hx),λ_=>bd (vs:=[false,(),(),()]) rfl λcf aK bn ch=>⟨aK.bU rfl (fO (b:=true) (K:=bN) (V:=bN) (D:=bN)),rfl,cl aK (us:=dY ⟨true,[],[],[]⟩ bN bN bN) rfl rfl λbp F bq ci=>?_⟩⟩;have Z:Ext E bp:=Ext.cC bn bq (bl _);obtain⟨gz,bs⟩:∃gz,gz=E.heap.size:=⟨_,rfl⟩;rw[←bs]at F⊢
 obtain⟨bL,j⟩:∃bL:aB,bL=(if ck:0<a.length then (a[a.length-1]'I).n else ⟨true,[],[],[]⟩):=⟨_,rfl⟩;refine kh (λp=>∃ (K V D:ad) (B:Nat->Prop),Ext E p/\Var p gz (dY bL K V D) 202/\bt B p bL K V D) (λq c=>⟨λab=>?_,λab=>?_⟩) ?_
 .have ac:0<a.length:=by
   have:(s.len:Int)>0:=cu ab;omega
  rw[dif_pos ac]at j;have e:IntKind.wrap .i64 ((s.len:Int)-1)=((a.length-1:Nat):Int):=by rw[bz I I];omega
  obtain⟨A,aq,_,_,_,hu⟩:=Y.at (i:=a.length-1) I;have G:=hu.ext Z;rw[e,dO];subst j;refine⟨A,aq,⟨I,I⟩,_,G.aT,_,G.a8,_,G.bc,_,G.eZ,F.bU rfl fO,rfl,cl F (us:=dY (a[a.length-1]'I).n (a[a.length-1]'I).K (a[a.length-1]'I).V (a[a.length-1]'I).D) rfl rfl λbu bv bw cm=>?_⟩;have aM:Ext E bu:=Ext.cC Z bw I;exact c _ ⟨_,_,_,_,aM,bv,hu.bO.ext aM⟩
 .have ac:¬0<a.length:=by
   have:¬(s.len:Int)>0:=cQ ab;omega
  rw[dif_neg ac]at j;subst j;exact c _ ⟨bN,bN,bN,λ_=>True,Z,F,a_.none _ _,a_.none _ _,cw.none _ _⟩
 rintro p ⟨K,V,D,B,H,bA,bD⟩;have cn:=H.size;have co:=X.af.size
 have bE:g7 bL/\br bL<=232:=by
  rcases aI with ⟨h1,r,t,u⟩|⟨aN,bx,aO,aR,aU,aV,aZ,a0,aF,cd,aW,en,a1,bF,bG,a2,a3,bH,a4⟩
  .have ae:¬0<a.length:=by
    rw[h1]at m;have:a=[]:=by simpa using m
    rw[this];simp
   rw[j,dif_neg ae];exact⟨⟨⟨λ_ h=>(by cases h),List.Pairwise.nil⟩,rfl,rfl,rfl,λ_ h=>(by cases h)⟩,by decide⟩
  .rw[aF]at m
   obtain⟨av,ag⟩:=tW m;rw[j,dif_pos av,ag];exact⟨en,h.tT _ _ aW⟩
 obtain⟨ai,cp⟩:=bE;have cs:=(cr.fw (.inl ai) I);have ct:∀q,T.N q->q<w.heap.size:=λq c=>h.lt (aP.hC c);have bI:Src 1 p tk (aA key):=(R.af y.af λq c ak=>(S q c).2 (aP.hC ak)).ext H;have bJ:Src 1 p ef (aA val):=(ar.af y.af λq c ak=>(bb q c).2 (aP.hC ak)).ext H;obtain⟨d0,d1,d2,d3⟩:=bC bA;refine⟨_,d0,K,d1,V,d2,D,d3,(ob bD ai I bI bJ hg.1 hg.2).use ?_⟩;rintro _ bM ⟨cq,cx,cg,rfl,bP,bQ⟩;refine⟨_,cq,cx,cg,true,rfl,bd (vs:=[false,(),(),()]) rfl λcv a5 bR cy=>⟨a5.bU rfl fO,rfl,cl a5 (us:=dY (gy bL key val) cq cx cg) rfl rfl λa6 bS bT cz=>⟨λhx=>(by cases hx),λ_=>?_⟩⟩⟩;have a7:Ext bM a6:=Ext.cC bR bT (bl _);have al:=(H.trans bQ).trans a7;obtain⟨d0,d1,d2,d3⟩:=bC bS;obtain⟨bo,bj,bV,am,bW,a9⟩:=FB ai hg.1 hg.2;have bX:aD.D.aQ<=900000000:=by
  have:aD.D.aQ<=T.C.D.aQ+2*T.aH:=y.aQ;omega
 have bY:bt (λq=>¬(T.bK aD T.P).M q) a6 (gy bL key val) cq cx cg:=(bP.ext a7).aY λq _ c bZ=>by have:=W.lt bZ;omega
 have b0:=FC (dy:=fK L key val) (k:=key) (steps:=steps) (bL:=bL) (W.ext al) (λe=>ba λi=>X.bB.1▸e i) Q ap ej hf bX m (Y.ext' al λq c=>c.2) bY bo (by
  rcases aI with ⟨h1,r,t,u⟩|⟨aN,bx,aO,aR,aU,aV,aZ,a0,aF,cd,aW,en,a1,bF,bG,a2,a3,bH,a4⟩
  .have ae:¬0<a.length:=by omega
   rw[dif_neg ae]at j;refine .inl ⟨h1,r,t,am,?_,?_⟩
   .have:br bL=1:=by rw[j];rfl
    omega
   .rw[bj,j,u];rfl
  .rw[aF]at m
   obtain⟨av,ag⟩:=tW m;rw[dif_pos av,ag]at j;rw[j]at bj bV am bW a9⊢;refine .inr ⟨aN,aO,aR,aU,aV,aZ,a0,aF,cd,λs hs=>?_,λ_=>am,a3,?_,by have:=h.tT _ _ aW;omega⟩
   .rcases a9 s hs with rfl|an
    .exact a2
    .exact a1 s an
   .rw[bj];exact a4 (λL=>fK L key val) (Dj key val))
 refine⟨_,d0,cq,d1,cx,d2,cg,d3,b0.use ?_⟩;intro v w' b1;have b2:=b1.af (w:=w) ((y.trans (b_.ext (T.bK aD T.P) al)).mono (l:=40) I) (bl _) aJ bi;obtain⟨ax,h1,r,t,u,an⟩:=b2;rcases an with ⟨rfl,z⟩|⟨rfl,z⟩|⟨rfl,z⟩
 .exact⟨2,rfl,.inr ⟨hg.1,hg.2,ax,h1,r,t,u,.inl ⟨rfl,z⟩⟩⟩
 .exact⟨0,rfl,.inr ⟨hg.1,hg.2,ax,h1,r,t,u,.inr (.inl ⟨rfl,z⟩)⟩⟩
 .exact⟨3,rfl,.inr ⟨hg.1,hg.2,ax,h1,r,t,u,.inr (.inr ⟨rfl,z⟩)⟩⟩
theorem AE{l:O aS}{k:Key}(h:(fT l k).length=l.length):∀p∈l,p.1≠k:=by
 intro p a;unfold fT at h;have:=(kD (p:=λp:aS=>decide (p.1≠k))).1 (List.Sublist.eq_of_length List.filter_sublist h);exact cu (this p a)
theorem FE{L A B M:O aS}{k:Key}(b:L=A++(M++B))(hu:fT L k=A++(fT M k++B)):gx L k=gx M k:=by
 have h1:(fT A k).length<=A.length:=pn _ _;have g:(fT B k).length<=B.length:=pn _ _;have c:=congrArg List.length hu;rw[b,tg,tg]at c;simp only[cM]at c;have aq:=AE (l:=A) (k:=k) I;have d:=AE (l:=B) (k:=k) I;have e:A.find? (λp=>decide (p.1=k))=none:=iM.2 λp a=>by simpa using aq p a
 have f:B.find? (λp=>decide (p.1=k))=none:=iM.2 λp a=>by simpa using d p a
 unfold gx;rw[b,List.find?_append,List.find?_append,e,f];simp
theorem FF{n:aB}{k:Key}(h:g7 n):gx n.fu k=if iD n.keys k then n.vals[cO n.keys k]? else none:=by
 have s:=qh n.keys k;have w:=h.e9;have t:∀ (j:Nat) (f:j<n.keys.length),j<cO n.keys k->bP n.keys[j] k:=λj f h1=>m4 h1 f;have u:n.keys[cO n.keys k]? ≠some k->∀ (j:Nat) (f:j<n.keys.length),cO n.keys k<=j->bP k n.keys[j]:=λhe j f h1=>Az w h1 f he;have l:n.fu=n.keys.zip n.vals:=rfl;unfold iD;rw[l];generalize cO n.keys k=i at s t u⊢;obtain⟨a,b,c,d,g,v,z,A,B,H,J,K,L⟩:=AA h s;have C:n.keys.zip n.vals=a.zip c++b.zip d:=by rw[g,v];exact qg I
 have D:(a.zip c).find? (λp:aS=>decide (p.1=k))=none:=iM.2 λp l=>by
  have q:=(List.of_mem_zip l).1;obtain⟨j,f,r⟩:=e0 q;have h1:=t j (by rw[g,cM];omega) I;simp only[g,ph f,r]at h1;simpa using oD h1
 unfold gx;rw[C,List.find?_append,D];by_cases he:n.keys[i]? =some k
 .rw[if_pos (by simpa using he)]
  have E:∃m,b=k::m:=by
   cases b with
   |nil=>rw[g,iO I]at he;simp at he
   |cons y m=>
    rw[g,iO I,z,nt]at he;simp at he;exact⟨m,by rw[he]⟩
  obtain⟨m,rfl⟩:=E;obtain⟨x,o,rfl⟩:∃x o,d=x::o:=by
   cases d with
   |nil=>simp at B
   |cons x o=>exact⟨x,o,rfl⟩
  rw[v,iO I,A,nt];simp
 .rw[if_neg (by simpa using he)]
  have F:=u he;have G:(b.zip d).find? (λp:aS=>decide (p.1=k))=none:=iM.2 λp l=>by
   have q:=(List.of_mem_zip l).1;obtain⟨j,f,r⟩:=e0 q;have h1:=F (i+j) (by rw[g,cM];omega) I;have e:(a++b)[i+j]'(by rw[cM];omega)=b[j]:=by
    rw[qX I];congr 1;omega
   simp only[g,e,r]at h1;have:=oD h1;simpa using λh=>this h.symm
  rw[G];rfl
def wO(T:aP)(L:O aS)(key:Key)(w:J)(v:Y)(w':J):Prop:=
 ∃aD:bM,b4 w' (T.bK aD T.P)/\b_ T (T.bK aD T.P) w w' 30/\(∀j,aD.view j=T.C.view j)/\
  ((v=.tuple #[(),false,(0:Int)]/\(cR key->gx L key=none))\/
   (∃ (t:ad) (x:Key),v=.tuple #[t,true,(0:Int)]/\cR key/\gx L key=some x/\bn (λq=>¬(T.bK aD T.P).M q) w' t x)\/
   (v=.tuple #[(),false,(3:Int)]/\cR key/\¬T.C.D.calm 30))
theorem AF{w:J}{T:aP}{pages:O Nat}{L:O aS}{tk:ad}{key:Key}(h:b4 w T)(U:gu T pages L)(aR:T.C.D.aQ<=800000000)(l:Src 1 w tk (aA key))(v:∀q,aC tk q->q<w.heap.size/\¬T.M q):
 aL aj 80 #[.pointer (some T.bf),tk] w (wO T L key w):=by
 have W:=len8 l;have aU:=h.num.2.1;have aV:T.bK T.C T.P=T:=rfl;refine okF (ah.sm (some T.bf) tk) az.sm func80 ?_;(delta ah.sm ao cc eR au aW r1 z4 aa kj aK;dsimp only);refine cH (λb w'=>b= !(decide (cR key))/\w=w') (λq m=>⟨λh=>(by cases h),λ_=>(mM w tk).use ?_⟩) ?_
 .rintro _ _ ⟨rfl,rfl⟩
  refine⟨_,rfl,m _ _ ⟨?_,rfl⟩⟩;unfold cR;rw[W]
 rintro _ _ ⟨rfl,rfl⟩;refine⟨λf=>⟨λh=>(by cases h),λ_=>?_⟩,λf=>?_⟩
 .have:¬cR key:=by simpa using f
  exact⟨T.C,h,(b_.refl T w).mono I,λ_=>rfl,.inl ⟨rfl,λhx=>absurd hx this⟩⟩
 have hg:cR key:=by simpa using f
 obtain⟨steps,x,y⟩:=AD (k:=key) h U;refine(Af h I l v x).use ?_;rintro _ X ⟨aD,n,g,j,Y⟩;rcases Y with ⟨s,a,rfl,d,z⟩|⟨rfl,Z⟩
 rotate_left
 .exact⟨⟨none,0,0⟩,3,rfl,λ_=>⟨aD,n,g.mono I,j,.inr (.inr ⟨rfl,hg,λhc=>Z (gp hc I)⟩)⟩,λhx=>(by simp at hx)⟩
 have aX:s.len=a.length:=by
  have:=z.own.1;rw[hW _ (nh a)]at this;omega
 have aZ:a.length=T.aH:=by
  have:=x.length;rw[←d,dG]at this;exact this
 refine⟨s,0,rfl,λhx=>⟨aD,n,g.mono I,j,.inl ⟨rfl,λ_=>?_⟩⟩,λhx=>?_⟩
 .have ab:a.length=0:=by
   have:(s.len:Int)=0:=by simpa using hx
   omega
  rcases y with ⟨_,_,_,ac⟩|⟨ae,bx,ag,ai,ak,al,am,an,aF,_⟩
  .rw[ac];rfl
  .rw[aF]at d
   obtain⟨av,_⟩:=tW d;omega
 have ab:0<a.length:=by
  have:¬(s.len:Int)=0:=by simpa using hx
  omega
 have e:IntKind.wrap .i64 ((s.len:Int)-1)=((a.length-1:Nat):Int):=by rw[bz I I];omega
 obtain⟨A,aq,_,_,_,hu⟩:=z.at (i:=a.length-1) I;rcases y with ⟨h1,_⟩|⟨ae,bx,ag,ai,ak,al,am,an,aF,cd,aW,en,a0,a1,a2,a3,a4,ap,ar⟩
 .rw[h1]at d
  have:=congrArg List.length d;simp at this;omega
 have B:=d;rw[aF]at B;obtain⟨av,E⟩:=tW B;rw[e,dO];generalize a5:(a[a.length-1]'I)=u at hu E;obtain⟨a6,un,a7,K,V,D⟩:=u;obtain rfl:un=bx:=E;refine⟨A,aq,⟨I,I⟩,_,hu.aT,K,hu.a8,V,hu.bc,D,hu.eZ,bd (vs:=[false,(),(),()]) rfl λa9 F aw ba=>⟨F.bU rfl fO,rfl,cl F (us:=dY un K V D) rfl rfl λo G ax bb=>?_⟩⟩;have p:Ext X o:=Ext.cC aw ax (bl _);obtain⟨d0,d1,d2,d3⟩:=bC G;have be:=(cr.fw (.inl en) (by have:=h.tT _ _ aW;omega));have ay:Src 1 o tk (aA key):=(l.af g.af λq m aB=>(v q m).2 (aP.hC aB)).ext p;have H:bt (λq=>w.heap.size<=q/\¬(T.bK aD T.P).M q) o un K V D:=hu.bO.ext p;refine⟨_,d0,K,d1,V,d2,D,d3,(oa H ay en.e9 I).use ?_⟩;rintro _ aE ⟨rfl,r⟩;have N:=p.trans r;have Q:=n.ext N;have R:b_ T (T.bK aD T.P) w aE 30:=(g.trans (b_.ext _ N)).mono I;have t:gx L key=gx un.fu key:=FE ap (ar (λL=>fT L key) (Dk key));rw[FF en]at t;refine⟨_,_,rfl,λc=>⟨aD,Q,R,j,.inl ⟨rfl,λ_=>?_⟩⟩,λc=>?_⟩
 .have c:iD un.keys key=false:=by simpa using c
  rw[t,if_neg (by rw[c];simp)]
 .have c:iD un.keys key=true:=by simpa using c
  have aG:cO un.keys key<un.keys.length:=(jL.1 (cu c)).1;have S:cO un.keys key<un.vals.length:=by rw[en.len];exact aG
  obtain⟨f0,f1,f2,f3⟩:=bC (G.ext r);obtain⟨aI,ef,aJ,aM,aN,aO,_⟩:=a_.at (H.ext r).vals S;refine⟨V,f2,aI,aJ,aM,ef,aN,aD,Q,R,j,.inr (.inl ⟨ef,un.vals[cO un.keys key],rfl,hg,?_,bn.aY aO λq _ f=>f.2⟩)⟩;rw[t,if_pos c,dI S]
structure qF(T ax:aP):Prop where
 root:ax.root=T.root
 aH:ax.aH=T.aH
 f:ax.f=T.f
 ee:∀no,(T.f no||T.g no)=true->ax.P no=T.P no/\ax.C.view no=T.C.view no
theorem qF.bK{T:aP}{aD:bM}(a:∀j,aD.view j=T.C.view j):qF T (T.bK aD T.P):=⟨rfl,rfl,rfl,λno _=>⟨rfl,a no⟩⟩
structure FG(T ax:aP)(aM:O Nat)(dy:O aS):Prop where
 ok:∃pages,cj T<=cj ax+(2*T.aH+3)/\gu ax pages dy/\pages.Nodup/\(∀no∈pages,no∈aM\/(T.f no||T.g no)=false)/\∀no,ax.f no=true↔(no∈pages\/(T.f no=true/\no∉aM))
 ee:∀no,T.g no=true->ax.P no=T.P no/\ax.C.view no=T.C.view no
theorem qF.ok{T ax:aP}{pages:O Nat}{L:O aS}(h:qF T ax)(a:gu T pages L)(hf:∀x∈pages,T.f x=true):gu ax pages L:=by
 unfold gu at a⊢;rw[h.root,h.aH];rcases a with a|b
 .exact .inl a
 .exact .inr (e_.agree b λx hx=>(h.ee x (by rw[hf x hx];rfl)).1.symm).1
theorem AG{w:J}{T:aP}(h:b4 w T):aL aj 147 #[.pointer (some T.bf)] w (λv w'=>v=.tuple #[T.root,T.aH]/\Ext w w'):=by
 refine okF (ah.sI (some T.bf)) az.sI func147 ?_;(delta ah.sI ao aF;dsimp only);have hd:=h.ext (cJ w);exact⟨λh=>(by cases h),λ_=>aX ⟨_,rfl,id,_,hd.cells.2.2.2.1,_,rfl,id,_,hd.cells.2.2.2.2,rfl,cJ w⟩⟩
def tX(n:Nat)(root aH:Int):Prop:=0<=aH/\aH<=12/\0<=root/\root<n/\(root=0↔aH=0)
theorem mL{w:J}{C:bM}(hc:eO w C)(sb:Nat)(gen root aH:Int):
 aL aj 140 #[.pointer (some C.c),.pointer (some sb),.int .u64 gen,root,aH] w (λv w'=>
  (tX C.D.n root aH/\v=.tuple #[.pointer (some w.heap.size),(0:Int)]/\Ext w w'/\Var w' w.heap.size [.pointer (some C.c),.pointer (some sb),.int .u64 gen,root,aH] 239/\w'.heap.size=w.heap.size+1)\/
  (¬tX C.D.n root aH/\v=.tuple #[.pointer none,(1:Int)]/\w=w')):=by
 refine okF (ah.mL (some C.c) (some sb) gen root aH) az.mL func140 ?_;delta ah.mL ao b7 aa;refine cH (λb w'=>(b=false↔(0<=aH/\aH<=12/\0<=root/\root<C.D.n))/\w=w') (λq i=>⟨λh1=>i _ _ ⟨?_,rfl⟩,λh1=>⟨_,rfl,_,hc.cells.1,(tJ hc.dev).use ?_⟩⟩) ?_
 .simp only[Option.isNone_some,k_,h5,cA]at h1
  exact⟨λh=>(by cases h),λh=>I⟩
 .rintro _ _ ⟨rfl,rfl⟩
  simp only[Option.isNone_some,k_,o8,j9]at h1;refine⟨_,rfl,i _ _ ⟨?_,rfl⟩⟩;rw[j9];omega
 rintro b _ ⟨j,rfl⟩;refine⟨λh1=>.inr ⟨λhg=>?_,rfl,rfl⟩,λh1=>?_⟩
 .have a:=j.2 ⟨hg.1,hg.2.1,hg.2.2.1,hg.2.2.2.1⟩
  rw[a,k_]at h1;have f:=hg.2.2.2.2;by_cases d:root=0
  .rw[d,f.1 d]at h1;simp at h1
  .have g:aH≠0:=λe=>d (f.2 e)
   have k:(root==0)=false:=by simpa using d
   have l:(aH==0)=false:=by simpa using g
   rw[k,l]at h1
   cases h1
 .rw[o8]at h1
  have a:=j.1 h1.1;have f:root=0↔aH=0:=by
   have d:=h1.2;by_cases g:root=0<;>by_cases m:aH=0<;>simp[g,m]at d⊢
  refine bd (vs:=[.pointer (some C.c),.pointer (some sb),.int .u64 gen,root,aH]) rfl λp o hx hs=>.inl ⟨⟨a.1,a.2.1,a.2.2.1,a.2.2.2,f⟩,rfl,hx,o,hs⟩
theorem gu.rising{T:aP}{pages:O Nat}{L:O aS}(h:gu T pages L):ig L:=by
 rcases h with ⟨_,_,_,a⟩|b
 .rw[a];exact List.Pairwise.nil
 .exact b.e9.1
section
variable {w0 w w':J}{AH g5:Nat}{T ax:aP}{r h k:Nat}{pages:O Nat}{L ky:O aS}{ms:ad}
theorem b4.jH{jF:Nat}(ht:b4 w T)(a:T.E jF)(hc:ae (λq=>q=jF) w w'):b4 w' T:=
 ht.grow (E:=T.E) (G:=T.G) hc (λq e _=>.inl (by rw[e];exact a)) (λq a=>.inl a) (λq a=>.inr (.inl a)) λq a=>(ht.dF q a).2.2
end
def aP.tY(T:aP)(f g:Nat->al)(s1 s2:ad):aP:={T with f:=f,g:=g,s1:=s1,s2:=s2}
def aP.b6(T:aP)(bf gen root aH:Nat)(E:Nat->Prop):aP:={T with bf:=bf,gen:=gen,root:=root,aH:=aH,E:=E}
section
variable {w0 w w':J}{AH g5:Nat}{T ax:aP}{r h k:Nat}{pages:O Nat}{L ky:O aS}{ms:ad}
theorem b4.space{f g:Nat->al}{s1 s2:ad}(ht:b4 w T)(hs:eJ w' T.sb T.n f g s1 s2)(hc:ae (fb T.sb T.s1 T.s2) w w')(hf:∀k,fb T.sb s1 s2 k->fb T.sb T.s1 T.s2 k\/w.heap.size<=k)(d:∀j,T.C.D.bB j=true->g j=true\/T.C.D.ro)(e:g 0=true/\g 1=true):
 b4 w' (T.tY f g s1 s2)/\∀q,(T.tY f g s1 s2).M q->T.M q\/w.heap.size<=q:=by
 have c:∀q,T.X q->¬fb T.sb T.s1 T.s2 q->¬fb T.sb s1 s2 q:=λq hx a i=>by
  rcases hf q i with b|b
  .exact a b
  .have:=ht.lt (q:=q) (.inr hx);omega
 refine⟨⟨ht.t.af hc ht.iF,hs,ht.ca.grow hc (λq a _=>.inr (.inl a)) λq a=>?_,c _ (.inl rfl) ht.iF,λq a=>⟨(ht.dF q a).1,c q (.inr (.inr (.inl a))) (ht.dF q a).2.1,(ht.dF q a).2.2⟩,λq a=>⟨(ht.iq q a).1,c q (.inr (.inr (.inr a))) (ht.iq q a).2⟩,ht.n,ht.num,ht.eE,d,e⟩,λq a=>?_⟩
 .rcases a with a|a|a|a
  .exact .inl (.inl a)
  .rcases hf q a with b|b
   .exact .inl (.inr (.inl b))
   .exact .inr ⟨b,hs.lt q a⟩
  .exact .inl (.inr (.inr (.inl a)))
  .exact .inl (.inr (.inr (.inr a)))
 .rcases a with a|a|a|a|a
  .exact .inl (.inl a)
  .exact .inl (.inr (.inl a))
  .exact(hf q a).imp (λh=>.inr (.inr (.inl h))) id
  .exact .inl (.inr (.inr (.inr (.inl a))))
  .exact .inl (.inr (.inr (.inr (.inr a))))
theorem b4.tree{bf gen root aH:Nat}{E:Nat->Prop}(ht:b4 w T)(hx:Ext w w')(i:Var w' bf (j6 (T.b6 bf gen root aH E)) 239)(d:T.E bf\/w.heap.size<=bf)(f:∀q,E q->q≠bf/\(T.E q\/q=T.bf\/(w.heap.size<=q/\q<w'.heap.size)))
 (j:root<T.n/\aH<=12/\gen<18446744073709551616) (k:∀no bO,T.P no=some bO->no<T.n/\gr gen bO.leaf no (T.C.view no) bO):b4 w' (T.b6 bf gen root aH E):=by
 have m:=i.lt;have h1:¬fb T.sb T.s1 T.s2 bf:=λh=>by
  rcases d with c|c
  .exact(ht.dF _ c).2.1 h
  .have:=ht.lt (q:=bf) (.inr (.inr (.inl h)));omega
 have c:∀q,T.G q->q≠bf:=λq a e=>by
  rcases d with c|c
  .rw[e]at a;exact(ht.dF _ c).2.2 a
  .have:=ht.lt (q:=q) (.inr (.inr (.inr (.inr a))));omega
 have l:∀q,E q->¬fb T.sb T.s1 T.s2 q/\¬T.G q:=λq a=>by
  rcases(f q a).2 with b|b|b
  .exact(ht.dF q b).2
  .rw[b]
   exact⟨ht.iF,λhg=>(ht.iq _ hg).1 rfl⟩
  .exact⟨λg=>by have:=ht.lt (q:=q) (.inr (.inr (.inl g)));omega,λg=>by have:=ht.lt (q:=q) (.inr (.inr (.inr (.inr g))));omega⟩
 refine⟨i,ht.s.ext hx,ht.ca.grow (W:=λ_=>False) hx (λ_ h=>h.elim) λq a=>?_,h1,λq a=>⟨(f q a).1,l q a⟩,λq a=>⟨c q a,(ht.iq q a).2⟩,ht.n,j,k,ht.bB,ht.low⟩;rcases a with a|a|a|a
 .have a:q=bf:=a
  rcases d with b|b
  .exact .inl (.inr (.inr (.inl (by rw[a];exact b))))
  .exact .inr ⟨I,I⟩
 .exact .inl (.inr (.inl a))
 .rcases(f q a).2 with b|b|b
  .exact .inl (.inr (.inr (.inl b)))
  .exact .inl (.inl b)
  .exact .inr b
 .exact .inl (.inr (.inr (.inr a)))
theorem gu.agree{p:O Nat}(a:gu T p L)(b:ax.root=T.root)(c:ax.aH=T.aH)(d:∀x∈p,T.P x=ax.P x):gu ax p L:=by
 unfold gu at a⊢;rw[b,c];exact a.imp id λe=>(e.agree d).1
end
theorem FH{i:Nat}(h:i<=1000000):IntKind.wrap .i64 ((i:Int)+1)=((i+1:Nat):Int):=by rw[bz I I];omega
section
variable {w0 w w':J}{AH g5:Nat}{T ax:aP}{r h k c:Nat}{pages aM:O Nat}{L ky bp:O aS}{V:Nat->c2}{ms l:ad}
end
theorem AI:∀ {a b:O Nat},a.Nodup->(∀x∈a,x∈b)->a.length<=b.length
 | [],_,_,_=>cX _
 |x::a,b,d,hs=>by
  obtain⟨h1,f⟩:=List.nodup_cons.1 d
  have hx:=hs x (by simp)
  have:=AI (a:=a) (b:=b.erase x) f λy c=>(List.mem_erase_of_ne (λe=>h1 (by rw[←e];exact c))).2 (hs y (iJ _ c))
  rw[List.length_erase_of_mem hx]at this
  have:=List.length_pos_of_mem hx
  rw[hJ];omega
theorem FI{t:Nat->al}{l:O Nat}(n:Nat)(h:∀i,i<n->t i=true->i∈l):eu t n<=l.length:=by
 have h1:∀n,eu t n=((List.range n).filter t).length:=by
  intro n
  induction n with
  |zero=>rfl
  |succ n a=>
   rw[List.range_succ,kE,cM,eu,a,q0,List.filter_nil]
   cases t n<;>rfl
 rw[h1];refine AI (List.nodup_range.filter t) λx hx=>?_;rw[gf,jh]at hx;exact h x hx.1 hx.2
section
variable {α:Type}{P:Program}{w w':J}{gF ki T:TypeId}{enc:α->Y}{r m:Nat}{L:O (α×Y×Nat)}{seen:O Nat}
structure jI(w:J)(r m:Nat)(enc:α->Y)(L:O (α×Y×Nat))(seen:O Nat):Prop where
 it:∃a:Nat,w.heap[r]? =some (.mapIter (some m) a seen.toArray a)/\w.heap[m]? =some (.map (L.map (dP enc)).toArray a)/\∀x∈L,x.2.2<a
 bO:(L.map (·.2.2)).Nodup
def fG(L:O (α×Y×Nat))(seen:O Nat):O (α×Y×Nat):=L.filter λx=> !seen.contains x.2.2
theorem AJ(P:Program){n:Nat}(b:1<=n)(w:J):∃ (i:Nat) (w':J),i<n/\(choose (.mapNext n)).run P w=.ok i w'/\(w'=w\/w'=w.drew):=by
 by_cases h:n<=1
 .refine⟨0,w,I,?_,.inl rfl⟩
  show Sem.run P (.choose (.mapNext n) .pure) w=_;have a:(Question.mapNext n).forced=true:=by simp[Question.forced,h]
  simp only[Sem.run,a,if_true]
 .refine⟨(Question.mapNext n).cut (w.tape w.drawn (.mapNext n)),w.drew,hG _ I,?_,.inr rfl⟩
  show Sem.run P (.choose (.mapNext n) .pure) w=_;have a:(Question.mapNext n).forced=false:=by simp[Question.forced,h]
  simp only[Sem.run,a,fl,if_false];rfl
theorem wP{a:ar Nat}{b d:Nat}{c:Array Nat}(h:w.heap[r]? =some (.mapIter a b c d)):(getObj r).run P w=.ok (.mapIter a b c d) w:=by simp[getObj,Sem.run,h]
theorem FJ{a:ar Nat}{b d:Nat}{c:Array Nat}(h:w.heap[r]? =some (.mapIter a b c d))(e:Obj):(setObj r e).run P w=.ok () (g4 w r e):=by simp[setObj,Sem.run,h,g4]
theorem jI.begin{M:O (α×Y)}(h:dZ w m enc M){T:TypeId}{gF ki:TypeId}(b:P.underlying T=some (.map gF ki)):∃ (L:O (α×Y×Nat)) (w1:J),(L.map kP).Perm M/\(Instr.range T (.map (some m))).run P w=.ok (.pointer (some w.heap.size)) w1/\jI w1 w.heap.size m enc L []/\Ext w w1/\w1.heap.size=w.heap.size+1:=by
 have aI:=h.lt;obtain⟨L,a,h1,c,f,d,e⟩:=h;refine⟨L,w.alloc (.mapIter (some m) a #[] a),c,?_,⟨⟨a,?_,?_,e⟩,d⟩,ae.alloc (.refl _ _) _,by simp⟩
 .simp only[Instr.range,Sem.run_bind,cV b,Result.andThen,kR h1,Sem.run_pure,newObj,Sem.run]
  rfl
 .show(w.heap.push _)[w.heap.size]? =_
  simp
 .show(w.heap.push _)[m]? =_
  rw[Array.getElem?_push_lt aI];exact(Array.getElem?_eq_getElem aI).symm.trans h1
theorem jI.next(h:jI w r m enc L seen)(F:r≠m)(T:TypeId):
 (fG L seen=[]/\∃w1,(Instr.next (.pointer (some r)) false T).run P w=.ok (.tuple #[false]) w1/\Ext w w1/\w1.heap=w.heap)\/
 (∃x∈fG L seen,∃w1,(Instr.next (.pointer (some r)) false T).run P w=.ok (.tuple #[true,enc x.1,x.2.1]) w1/\jI w1 r m enc L (seen++ [x.2.2])/\ae (λq=>q=r) w w1/\w1.heap.size=w.heap.size/\(Instr.entry (.pointer (some r))).run P w1=.ok (.tuple #[enc x.1,x.2.1]) w1):=by
 obtain⟨⟨a,h1,d,f⟩,k⟩:=h;have o:(!seen.toArray.isEmpty&& !((L.map (dP enc)).toArray).isEmpty&&((L.map (dP enc)).toArray).all λe=>decide (e.born>=a))=false:=by
  cases L with
  |nil=>simp
  |cons x L=>
   have:¬a<=x.2.2:=by have:=f x (by simp);omega
   simp[dP,this]
 have g:((L.map (dP enc)).toArray.filter λe=> !seen.toArray.contains e.born)=((fG L seen).map (dP enc)).toArray:=by
  rw[List.filter_toArray,List.filter_map]
  congr 1
  unfold fG
  congr 1
  apply List.filter_congr;intro x _;simp only[Function.comp,dP,List.contains_toArray]
 have aI:∀x∈fG L seen,x.2.2<a:=λx hx=>f x (gf.1 hx).1;have hold:(((fG L seen).map (dP enc)).toArray.filter λe=>decide (e.born<a))=((fG L seen).map (dP enc)).toArray:=by
  rw[List.filter_toArray,kD.2];intro e he;obtain⟨x,hx,rfl⟩:=e6.1 he;exact dw (aI x hx)
 have j:(((fG L seen).map (dP enc)).toArray.filter λe=>decide (e.born>=a))= #[]:=by
  rw[List.filter_toArray,o_.2];intro e he;obtain⟨x,hx,rfl⟩:=e6.1 he;have:=aI x hx;have G:¬a<=x.2.2:=by omega
  simp[dP,G]
 cases b:fG L seen with
 |nil=>
  rw[b]at g hold j;obtain⟨i,w1,hi,hc,c⟩:=AJ P (n:=1) (bl _) w;have H:i=0:=by omega
  subst H;refine .inl ⟨rfl,w1,?_,?_,?_⟩
  .simp only[Instr.next,Sem.run_bind,wP h1,Result.andThen,kR d,o,fl,if_false,g,hold,j]
   simp only[List.map_nil,Array.isEmpty,qZ,ll,decide_true,if_true];have e:(#[none]++((#[]:Array MapEntry)++ #[]).map some:Array (ar MapEntry)).size=1:=by simp
   have p:((#[none]++((#[]:Array MapEntry)++ #[]).map some:Array (ar MapEntry)))[0]? =some none:=by simp
   simp only[e,Sem.run_bind,hc,Result.andThen,p,Sem.run_pure,Sem.run_pure]
  .rcases c with rfl|rfl
   .exact .refl _ _
   .exact ae.drew (.refl _ _)
  .rcases c with rfl|rfl<;>rfl
 |cons y l=>
  right;rw[←b];have A:1<=(fG L seen).length:=by rw[b];simp
  obtain⟨i,w1,hi,hc,c⟩:=AJ P (n:=(fG L seen).length) A w;have s:w1.heap=w.heap:=by rcases c with rfl|rfl<;>rfl
  obtain⟨x,hx⟩:∃x,x=(fG L seen)[i]:=⟨_,rfl⟩;have t:x∈fG L seen:=by rw[hx];exact cI _
  have B:x∈L:=(gf.1 t).1;have C:w1.heap[r]? =some (.mapIter (some m) a seen.toArray a):=by rw[s];exact h1
  have I:r<w1.heap.size:=(kB.1 C).1;have u:(g4 w1 r (.mapIter (some m) a (seen.toArray.push x.2.2) a)).heap[r]? =some (.mapIter (some m) a (seen++ [x.2.2]).toArray a):=by
   rw[rE I];simp
  have v:(g4 w1 r (.mapIter (some m) a (seen.toArray.push x.2.2) a)).heap[m]? =some (.map (L.map (dP enc)).toArray a):=by
   have D:w1.heap[m]? =some (.map (L.map (dP enc)).toArray a):=by rw[s];exact d
   rw[(pP w1 r _).block m (kB.1 D).1 (λe=>F e.symm)];exact D
  refine⟨x,t,g4 w1 r (.mapIter (some m) a (seen.toArray.push x.2.2) a),?_,⟨⟨a,u,v,f⟩,k⟩,?_,?_,?_⟩
  .simp only[Instr.next,Sem.run_bind,wP h1,Result.andThen,kR d,o,fl,if_false,g,hold,j]
   have J:((fG L seen).map (dP enc)).toArray.isEmpty=false:=by rw[b];rfl
   have e:((#[]:Array (ar MapEntry))++(((fG L seen).map (dP enc)).toArray++ #[]).map some).size=(fG L seen).length:=by simp
   have p:((#[]:Array (ar MapEntry))++(((fG L seen).map (dP enc)).toArray++ #[]).map some)[i]? =some (some (dP enc x)):=by
    simp[hi,hx]
   simp only[J,fl,if_false,e,Sem.run_bind,hc,Result.andThen,p,FJ C,Sem.run_pure,dP]
  .have K:ae (λq=>q=r) w w1:=by
    rcases c with rfl|rfl
    .exact .refl _ _
    .exact ae.drew (.refl _ _)
   exact K.trans (pP _ _ _)
  .rw[rD,s]
  .have M:(seen++ [x.2.2]).toArray.back? =some x.2.2:=by simp
   have hf:((L.map (dP enc)).toArray.find? λe=>e.born==x.2.2)=some (dP enc x):=by
    rw[List.find?_toArray,List.find?_map];have:L.find? ((λe:MapEntry=>e.born==x.2.2)∘dP enc)=some x:=by
     clear b A hi hc t hx u v g hold j aI o d f
     induction L with
     |nil=>cases B
     |cons z L N=>
      rw[g0]at k;obtain⟨bL,bx⟩:=List.nodup_cons.1 k;rw[List.find?_cons];rcases c7.1 B with rfl|E
      .simp[dP]
      .have O:z.2.2≠x.2.2:=λe=>bL (by rw[e];exact e6.2 ⟨x,E,rfl⟩)
       have:((λe:MapEntry=>e.born==x.2.2)∘dP enc) z=false:=by simp[dP,O]
       rw[this];exact N bx E
    rw[this];rfl
   have Q:(a !=a)=false:=by simp
   simp only[Instr.entry,Sem.run_bind,wP u,Result.andThen,M,kR v,Q,fl,if_false,hf,Sem.run_pure,dP]
theorem dZ.clear{M:O (α×Y)}(h:dZ w m enc M){o:TypeId}(b:P.underlying T=some (.map gF ki)):∃w1,(Builtin.clear_ #[T] o #[.map (some m)]).run P w=.ok (.tuple #[]) w1/\dZ w1 m enc ([]:O (α×Y))/\ae (λq=>q=m) w w1/\w1.heap.size=w.heap.size:=by
 have aI:=h.lt;obtain⟨L,a,h1,c,d,e,f⟩:=h;refine⟨g4 w m (.map #[] a),?_,⟨[],a,rE aI _,by simp,by simp,by simp,by simp⟩,pP _ _ _,rD _ _ _⟩;unfold Builtin.clear_;simp only[qQ,l9,Sem.run_bind,cV b,Result.andThen,kR h1,u6 h1,Sem.run_pure]
end
theorem FK{w:J}{lb:Nat}{ls:O c2}{T:TypeId}(h:bg w lb (b8 aA ls).toArray T)(hs:∀x∈ls,x.length=256){i:Nat}(hi:i<ls.length){x:c2}(hx:x.length=256):
 bh w ⟨lb,i*256,none⟩ (aA x)/\bg (setCells w ⟨lb,i*256,none⟩ 0 (aA x)) lb (b8 aA (ls.set i x)).toArray T/\ae (λq=>q=lb) w (setCells w ⟨lb,i*256,none⟩ 0 (aA x)):=by
 have a:∀x∈ls,(aA x).length=256:=λx hx=>by rw[dg];exact hs x hx
 have f:=hW (c:=aA) ls a;have b:(aA x).length=256:=by rw[dg];exact hx
 have d:i*256+(aA x).length<=(b8 aA ls).toArray.size:=by
  rw[qZ,f,b];omega
 refine⟨bg.bU h _ _ d (jW _),?_,ae.jT (.refl _ _) _ 0⟩;have h0:=bg.lD (o:=i*256) h (aA x);have h1:=lC (aA x) (b8 aA ls).toArray (i*256) d;have g:=zt a hi x;rw[b]at h1;have j:(fR (b8 aA ls).toArray (i*256) (aA x)).toList=b8 aA (ls.set i x):=h1.trans g;have e:fR (b8 aA ls).toArray (i*256) (aA x)=(b8 aA (ls.set i x)).toArray:=by rw[←j]
 rw[e]at h0;exact h0
theorem FL{α:Type}{L:O (α×Y×Nat)}{seen:O Nat}{x:α×Y×Nat}(h:x∈fG L seen):(fG L (seen++ [x.2.2])).length<(fG L seen).length:=by
 have e:fG L (seen++ [x.2.2])=(fG L seen).filter λy=> !(y.2.2==x.2.2):=by
  unfold fG;rw[List.filter_filter];apply List.filter_congr;intro y _;rw[fA];simp only[iI,dn,List.contains_eq_mem,j9,cL,fo,beq_eq_false_iff_ne];constructor
  .exact λh=>⟨λa=>h (.inr a),λa=>h (.inl a)⟩
  .rintro⟨h1,a⟩ (b|b)
   .exact a b
   .exact h1 b
 rw[e];exact List.length_filter_lt_length_iff_exists.2 ⟨x,h,by simp⟩
def wQ{α:Type}(L:O (α×Y×Nat))(r:Nat)(w:J):Nat:=match w.heap[r]? with
 |some (.mapIter _ _ seen _)=>(fG L seen.toList).length
 |_=>0
theorem jI.left{α:Type}{w:J}{r m:Nat}{enc:α->Y}{L:O (α×Y×Nat)}{seen:O Nat}(h:jI w r m enc L seen):wQ L r w=(fG L seen).length:=by
 obtain⟨⟨a,h1,_⟩,_⟩:=h;unfold wQ;rw[h1]
theorem jI.af{α:Type}{W:Nat->Prop}{w w':J}{r m:Nat}{enc:α->Y}{L:O (α×Y×Nat)}{seen:O Nat}(h:jI w r m enc L seen)(hc:ae W w w')(b:¬W r)(c:¬W m):jI w' r m enc L seen:=by
 obtain⟨⟨d,h1,a,e⟩,f⟩:=h;exact⟨⟨d,by rw[hc.block r (kB.1 h1).1 b];exact h1,by rw[hc.block m (kB.1 a).1 c];exact a,e⟩,f⟩
def a6.hY(D:a6):a6:={D with bw:=(List.range D.n).map D.now,waits:=[]}
theorem qG(D:a6):D.hY.n=D.n:=by simp[a6.hY,a6.n]
theorem wR(D:a6){i:Nat}(hi:i<D.n):D.hY.now i=D.now i:=by
 show((List.range D.n).map D.now).getD i []=_;rw[eV (by simp;exact hi)];simp
def FM(D:a6)(w:J)(v:Y)(w':J):Prop:=
 (D.fy 3=true/\v=.int .i64 3/\c3 w' (D.cm 3)/\ae (λq=>q=D.d) w w')\/
 (D.fy 3=false/\v=.int .i64 0/\c3 w' (D.cm 3).hY/\ae (b9 D) w w')
theorem wS{w:J}{D:a6}(h:c3 w D)(br:D.aQ<=1000000000):aL aj 76 #[.pointer (some D.d)] w (FM D w):=by
 refine okF (ah.sk (some D.d)) az.sk func76 ?_;(delta ah.sk ao cc vb r1 jU aK ve;dsimp only);refine⟨λh1=>(by cases h1),λ_=>⟨_,rfl,(wc h (k:=3) (by decide)).use ?_⟩⟩;rintro _ ai ⟨rfl,f,ag,bs⟩;obtain⟨a7,p⟩:∃a7,a7=D.cm 3:=⟨_,rfl⟩;have aI:a7.d=D.d:=by rw[p];rfl
 have bt:a7.lb=D.lb:=by rw[p];rfl
 have aJ:a7.mr=D.mr:=by rw[p];rfl
 have aM:a7.n=D.n:=by rw[p];rfl
 have aN:b9 a7=b9 D:=by rw[p];rfl
 have bu:a7.aQ=D.aQ:=by rw[p];rfl
 rw[←p]at f;refine⟨_,rfl,λE=>.inl ⟨E,rfl,by rw[←p];exact f,ag⟩,λE=>?_⟩;rw[←aI];have ak:=f.bx;obtain⟨L,al,am,an,ap,ar,bv⟩:=jI.begin (P:=aj) f.m lW;obtain⟨r,aO⟩:∃r,r=ai.heap.size:=⟨_,rfl⟩;rw[←aO]at an ap;have aP:r≠a7.mr:=by have:=f.m.lt;omega
 have au:∀q,b9 a7 q->q≠r:=λq F e=>by have:=f.lt F;omega
 have aR:∀x∈L,∃y∈a7.waits,x.1=(y.i:Int):=λx hx=>by
  have:=am.mem_iff.1 (e6.2 ⟨x,hx,rfl⟩);obtain⟨y,u,e⟩:=e6.1 this;refine⟨y,u,?_⟩;have:=congrArg Prod.fst e;exact this.symm
 have aS:∀y∈a7.waits,∃x∈L,x.1=(y.i:Int):=λy u=>by
  have:y.e∈L.map kP:=am.mem_iff.2 (e6.2 ⟨y,u,rfl⟩);obtain⟨x,hx,e⟩:=e6.1 this;exact⟨x,hx,congrArg Prod.fst e⟩
 refine⟨_,rfl,some a7.mr,f.cF,_,al,an,λw'=>∃ (seen:O Nat) (ls:O c2),jI w' r a7.mr encZ L seen/\c3 w' {a7 with bw:=ls}/\ls.length=a7.n/\(∀ (j:Nat) (G:j<ls.length),ls[j]=if ∃x∈L,x.2.2∈seen/\x.1=(j:Int) then a7.now j else a7.bw.getD j [])/\ae (λq=>b9 a7 q) ai w'/\al.heap.size<=w'.heap.size,
  wQ L r,⟨[],a7.bw,ap,f.ext ar,rfl,λj G=>?_,ae.cN ar,bl _⟩,?_⟩
 .rw[if_neg (by rintro⟨x,_,h1,_⟩;cases h1),eV G]
 rintro av ⟨seen,ls,S,A,B,h_,K,bz⟩;have T:∀s∈ls,s.length=256:=A.sl;have bA:r<av.heap.size:=by omega
 have aT:a7.lb≠r:=au _ (.inr (.inl rfl));rcases S.next (P:=aj) aP 0 with ⟨aU,aV,U,aw,bB⟩|⟨x,hx,M,U,aW,ax,bC,aY⟩
 .
  refine .inr ⟨aV,U,λh=>(by cases h),λ_=>?_⟩;have N:=A.ext aw;obtain⟨aZ,a0,a4,V,bD⟩:=dZ.clear (P:=aj) (o:=0) N.m lW;refine⟨_,rfl,some a7.mr,N.cF,_,aZ,a0,.inr ⟨E,rfl,?_,?_⟩⟩
  .have a5:∀x∈L,x.2.2∈seen:=λx hx=>by
    have:=o_.1 aU x hx;simpa using this
   have a8:ls=(List.range D.n).map D.now:=by
    refine qT (by simp[B,aM]) λj h1 t=>?_;rw[h_ j h1,List.getElem_map,List.getElem_range];have W:D.now j=a7.now j:=by rw[p];rfl
    rw[W];split
    .rfl
    .rename_i a9
     unfold a6.now
     cases hf:a7.waits.find? λx=>x.i==j with
     |some y=>
      exfalso;have u:=h7 hf;have a_:y.i=j:=by simpa using iN hf
      obtain⟨x,hx,e⟩:=aS y u;exact a9 ⟨x,hx,a5 x hx,by rw[e,a_]⟩
     |none=>rfl
   have X:a7.d≠a7.mr:=f.a1.2.1;have ba:a7.lb≠a7.mr:=f.a1.2.2;have e:(D.cm 3).hY={a7 with bw:=ls,waits:=[]}:=by
    rw[a8,p];rfl
   rw[e];refine⟨N.v.af V X,bg.af N.l V ba,a4,λx hx=>(by cases hx),λx hx=>(by cases hx),T,λx hx=>(by cases hx),?_,?_,A.f4,A.fr,A.a1,λx hx=>(by cases hx),λx hx=>(by cases hx),A.r⟩
   .show 16<=ls.length;rw[B];exact f.bL
   .show ls.length<=1600;rw[B];exact ak
  .have bb:b9 D D.d:=.inl rfl
   have hc:ae (λq=>b9 D q) w ai:=ag.mono λq _ e=>by rw[e];exact bb
   have K:ae (λq=>b9 D q) ai av:=by rw[←aN];exact K
   have bc:=cS hc K λq _ h=>h;have bd:=cS bc aw λq _ h=>h.elim;exact cS bd V λq _ be=>by rw[be,aJ];exact .inr (.inr (.inl rfl))
 .
  have Y:x∈L:=(gf.1 hx).1;have bE:x.2.2∉seen:=by
   have:=(gf.1 hx).2;simpa using this
  obtain⟨y,u,Z⟩:=aR x Y;have bf:=A.af ax λq F=>au q F;have hi:y.i<a7.n:=(f.wn y u).2.1;have bh:y.i<ls.length:=by omega
  refine .inl ⟨_,_,M,U,λ_=>⟨(y.i:Int),x.2.1,M,?_,?_⟩,λh=>(by cases h)⟩
  .rw[aY]
   have e:encZ x.1=y.i:=by rw[Z]
   rw[e]
  have aB:=cJ M;have aa:=bf.ext aB;have bi:({a7 with bw:=ls}:a6).n=a7.n:=B;refine aX ⟨λ_=>False,_,rfl,id,⟨some a7.lb,ls.length,ls.length⟩,aa.eZ,(zx (i:=y.i) aa (by rw[bi];exact hi) (by show a7.aQ<=_;omega)).use ?_⟩;rintro _ Q ⟨rfl,ab⟩;have g:=aa.ext ab;have W:({a7 with bw:=ls}:a6).now y.i=a7.now y.i:=by
   unfold a6.now
   cases hf:a7.waits.find? λx=>x.i==y.i with
   |some z=>rfl
   |none=>
    have:=iM.1 hf y u;simp at this
  have ac:(a7.now y.i).length=256:=f.qv hi;rw[W];have aq:Addr.add a7.lb (Int.toNat (y.i:Int)*256)=⟨a7.lb,y.i*256,none⟩:=by rw[dO,ay,cU]
  obtain⟨cn,cp,bj⟩:=FK g.l T bh ac;refine⟨_,rfl,ab,_,rfl,⟨I,by show(y.i:Int)<(ls.length:Int);omega⟩,by rw[aq];exact cn,by simp[dg,ac],?_⟩;rw[aq];refine aX ?_;show _/\_;have aC:bg (setCells Q ⟨a7.lb,y.i*256,none⟩ 0 (aA (a7.now y.i)).toArray.toList) a7.lb (b8 aA (ls.set y.i (a7.now y.i))).toArray 182:=cp;have C:ae (λq=>q=a7.lb) Q (setCells Q ⟨a7.lb,y.i*256,none⟩ 0 (aA (a7.now y.i)).toArray.toList):=bj;generalize setCells Q ⟨a7.lb,y.i*256,none⟩ 0 (aA (a7.now y.i)).toArray.toList=aD at aC C;have ad:=Ext.trans aB ab;have aE:=(aW.af ad id id).af C (λe=>aT e.symm) λe=>f.a1.2.2 e.symm;have bk:ae (λq=>b9 a7 q) ai aD:=by
   have h1:ae (λq=>b9 a7 q) ai M:=cS K ax λq F e=>by omega
   have t:=cS h1 ad λq _ h=>h.elim;exact cS t C λq _ e=>by rw[e];exact .inr (.inl rfl)
  have bF:=ad.size;have bG:=C.size;have bm:c3 aD {a7 with bw:=ls.set y.i (a7.now y.i)}:=by
   have X:a7.d≠a7.lb:=f.a1.1;refine⟨?_,aC,g.m.af C λe=>f.a1.2.2 e.symm,λx hx=>(g.ws x hx).af C λq F e=>(g.a2 x hx).2.1 (by rw[←e];exact F),?_,λs hs=>?_,g.lX,?_,?_,g.f4,g.fr,g.a1,g.a2,g.a3,g.r⟩
   .have h1:=g.v.af C X
    have e:({a7 with bw:=ls.set y.i (a7.now y.i)}:a6).c=({a7 with bw:=ls}:a6).c:=by unfold a6.c;simp
    rw[e];exact h1
   .intro z bn
    have:=g.wn z bn;refine⟨this.1,?_,this.2.2⟩;show z.i<(ls.set y.i (a7.now y.i)).length;rw[dd];exact this.2.1
   .rcases lk hs with h1|rfl
    .exact T s h1
    .exact ac
   .show 16<=(ls.set y.i (a7.now y.i)).length;rw[dd,B];exact f.bL
   .show(ls.set y.i (a7.now y.i)).length<=1600;rw[dd,B];exact ak
  refine⟨⟨seen++ [x.2.2],_,aE,bm,by rw[dd];exact B,λj G=>?_,bk,I⟩,?_⟩
  .rw[dd]at G
   rw[o9];split
   .rename_i e
    subst e;rw[if_pos ⟨x,Y,by simp,Z⟩]
   .rename_i bo
    rw[h_ j G];have:(∃H∈L,H.2.2∈seen/\H.1=(j:Int))↔∃H∈L,H.2.2∈seen++ [x.2.2]/\H.1=(j:Int):=by
     constructor
     .rintro⟨z,h1,t,R⟩
      exact⟨z,h1,iv _ t,R⟩
     .rintro⟨z,h1,t,R⟩
      rcases cL.1 t with t|t
      .exact⟨z,h1,t,R⟩
      .have bp:z=x:=by
        have aF:=S.bO;obtain⟨a,aG,rfl⟩:=e0 h1;obtain⟨b,E,rfl⟩:=e0 Y;have aH:=fo.1 t;have bq:a=b:=by
         rcases Nat.lt_trichotomy a b with h|h|h
         .have:=lh.1 aF a b (by simpa using aG) (by simpa using E) h
          simp at this;exact absurd aH this
         .exact h
         .have:=lh.1 aF b a (by simpa using E) (by simpa using aG) h
          simp at this;exact absurd aH.symm this
        subst bq;rfl
       rw[bp,Z]at R;exact absurd I bo
    simp only[this]
  .rw[aE.left,S.left]
   exact FL hx
structure fe where
 ak:Nat
 batch:Nat
 hT:Nat
def fe.c(l:fe):O Y:=[l.ak,l.batch,.int .u64 (l.hT:Nat)]
def nk(f b d:Int):Prop:=8<=f/\f<=64/\1<=b/\b<=1000/\1<=d/\d<=1048576
instance GF(f b d:Int):Decidable (nk f b d):=by unfold nk;infer_instance
section
variable {w w':J}{D:a6}
theorem n1(w:J)(p:ar ag)(f b d:Int):aL aj 70 #[.pointer p,.agg #[f,b,.int .u64 d]] w (λv w'=>v=.bool (!(Option.isNone p)&&decide (nk f b d))/\Ext w w'):=by
 refine okF (ah.n1 p f b d) az.n1 func70 ?_;(delta ah.n1 ao aF aa cd;dsimp only);refine bd (vs:=[f,b,.int .u64 d]) rfl λw1 c hx hs=>?_;refine cH (λx w'=>x=(!(Option.isNone p)&&decide (8<=f))/\w1=w') (λq a=>⟨λh=>⟨f,c.cell,a _ _ ⟨by rw[h,h4],rfl⟩⟩,λh=>a _ _ ⟨by rw[h,kG],rfl⟩⟩) ?_;rintro e _ ⟨h1,rfl⟩;refine cH (λx w'=>x=(e&&decide (f<=64))/\w1=w') (λq a=>⟨λh=>⟨f,c.cell,a _ _ ⟨by rw[h,h4],rfl⟩⟩,λh=>a _ _ ⟨by rw[h,kG],rfl⟩⟩) ?_;rintro g _ ⟨i,rfl⟩;refine cH (λx w'=>x=(g&&decide (1<=b))/\w1=w') (λq a=>⟨λh=>⟨b,by rw[ay];exact c.cell,a _ _ ⟨by rw[h,h4],rfl⟩⟩,λh=>a _ _ ⟨by rw[h,kG],rfl⟩⟩) ?_;rintro j _ ⟨k,rfl⟩;refine cH (λx w'=>x=(j&&decide (b<=1000))/\w1=w') (λq a=>⟨λh=>⟨b,by rw[ay];exact c.cell,a _ _ ⟨by rw[h,h4],rfl⟩⟩,λh=>a _ _ ⟨by rw[h,kG],rfl⟩⟩) ?_;rintro l _ ⟨m,rfl⟩;refine cH (λx w'=>x=(l&&decide (1<=d))/\w1=w') (λq a=>⟨λh=>⟨d,by rw[ay];exact c.cell,a _ _ ⟨by rw[h,h4],rfl⟩⟩,λh=>a _ _ ⟨by rw[h,kG],rfl⟩⟩) ?_;rintro n _ ⟨o,rfl⟩;refine cH (λx w'=>x=(n&&decide (d<=1048576))/\w1=w') (λq a=>⟨λh=>⟨d,by rw[ay];exact c.cell,a _ _ ⟨by rw[h,h4],rfl⟩⟩,λh=>a _ _ ⟨by rw[h,kG],rfl⟩⟩) ?_;rintro s _ ⟨r,rfl⟩;refine⟨?_,hx⟩;rw[r,o,m,k,i,h1,Value.bool.injEq,fA];simp only[dn,cA,and_assoc];exact Iff.rfl
theorem tZ{D:a6}{no:Nat}{s:ad}{l:c2}{N:Nat}(a:∀q,aC s q->b9 D q\/N<=q):∀q,b9 (D.put no s l) q->b9 D q\/N<=q:=by
 rintro q (e|e|e|⟨x,hx,e⟩)
 .exact .inl (.inl e)
 .exact .inl (.inr (.inl e))
 .exact .inl (.inr (.inr (.inl e)))
 .rcases c7.1 hx with rfl|hx
  .exact a q e
  .exact .inl (.inr (.inr (.inr ⟨x,(gf.1 hx).1,e⟩)))
def FN(D:a6)(u:eg)(gen:Nat)(w:J)(v:Y)(w':J):Prop:=
 ae (b9 D) w w'/\((D.fy 2=true/\v=.int .i64 3/\c3 w' (D.cm 2))\/
 (D.fy 2=false/\∃s:ad,(∀q,aC s q->b9 D q\/w.heap.size<=q)/\∃a7:a6,a7=D.put (gen%2) s (dT (gen%2) (hX u D.n gen))/\
   ((a7.fy 3=true/\v=.int .i64 3/\c3 w' (a7.cm 3))\/(a7.fy 3=false/\v=.int .i64 0/\c3 w' (a7.cm 3).hY))))
theorem lJ(h:c3 w D)(P:D.aQ<=999999999){u:eg}(hu:lY u){gen:Nat}(hg:gen<18446744073709551616):
 aL aj 77 #[.pointer (some D.d),.agg u.c.toArray,.int .u64 (gen:Nat)] w (FN D u gen w):=by
 have Q:=h.bL;have R:=h.bx;refine ah.Ci _ (u.root:Nat) (u.aH:Nat) (u.map:Nat) (u.clock:Nat) (u.c_:Nat) (u.keys:Nat) (gen:Nat) w _ ?_;(delta ah.lJ aa aF cd b7 bJ eR au ao;dsimp only);have A:IntKind.wrap .i64 (Int.tmod (gen:Int) 2)=((gen%2:Nat):Int):=by
  rw[pk I,bz I I];omega
 refine bd (vs:=u.c) rfl λw1 B j S=>⟨by decide,?_⟩;have a:=cJ w1;have C:=B.ext a;have E:=h.ext (j.trans a);refine aX ⟨λ_=>False,id,oT C ((tJ E).use ?_)⟩;rintro _ _ ⟨rfl,rfl⟩;refine⟨_,rfl,ae.refl _ _,(n4 hu (n:=D.n) I).use ?_⟩;rintro _ F ⟨k,rfl,G,t,T⟩;rw[A];refine⟨k,rfl,λ_=>False,#[(3:Int),.int .u64 (gen:Nat),k],λU=>by kernel_rfl,(tz (s:=k) (p:=hX u D.n gen) G.src I (wh hg)).use ?_⟩;rintro _ V ⟨H,rfl,J,v,K⟩;have b:=(j.trans a).trans (Ext.trans t v);have L:=h.ext b;have W:=b.size;have M:(dT (gen%2) (hX u D.n gen)).length=256:=qj _ (wh hg);have X:w.heap.size<=F.heap.size:=by have:=(j.trans a).size;have:=t.size;omega
 refine⟨H,0,rfl,v,λh=>(by cases h),λ_=>(tK L (i:=gen%2) I I J.src M λq f hf=>by have:=K q f;have:=h.lt hf;omega).use ?_⟩;rintro _ N (⟨g,rfl,hd,hc⟩|⟨g,rfl,s,hd,hc,x⟩)
 .exact⟨3,rfl,λ_=>⟨cS (b.mono λ_ _ h=>h.elim) hc λq _ e=>by rw[e];exact .inl rfl,.inl ⟨g,rfl,hd⟩⟩,λh=>(by cases h)⟩
 .have y:ae (b9 D) w N:=cS (b.mono λ_ _ h=>h.elim) hc λq _ e=>e
  have O:=tZ (no:=gen%2) (l:=dT (gen%2) (hX u D.n gen)) x;refine⟨0,rfl,λh=>(by cases h),λ_=>(wS hd (by show D.aQ+1<=_;omega)).use ?_⟩;have z:∀q,aC s q->b9 D q\/w.heap.size<=q:=λq f=>(x q f).imp id λh=>by omega
  rintro _ Y (⟨m,rfl,o,r⟩|⟨m,rfl,o,r⟩)
  .exact⟨3,rfl,cS y r λq _ e=>by rw[e];exact .inl rfl,.inr ⟨g,s,z,_,rfl,.inl ⟨m,rfl,o⟩⟩⟩
  .exact⟨0,rfl,cS y r λq f e=>(O q e).resolve_right I,.inr ⟨g,s,z,_,rfl,.inr ⟨m,rfl,o⟩⟩⟩
end
section
variable {w w':J}{C:bM}{X:Nat->Prop}
def Fr.gb(f:Fr):al:=f.full&&f.fc
theorem FO:iT aj 200:=⟨Tryz.f200,func200,by kernel_rfl,by kernel_rfl⟩
theorem FP(f:Fr)(w:J):aL aj 200 #[.agg #[f.full,f.fc,f.used,f.no,f.pins,f.b]] w (λv w'=>v=f.gb/\Ext w w'):=by
 refine okF (ah.sO f.full f.fc f.used f.no f.pins f.b) az.sO func200 ?_;(delta ah.sO aW aa ao;dsimp only);refine bd (vs:=f.c) rfl λw1 a hx hs=>⟨f.full,a.cell,cH (λb w'=>b=f.gb/\w1=w') (λq d=>⟨λh=>⟨f.fc,by rw[ay];exact a.cell,d _ _ ⟨by unfold Fr.gb;rw[h];rfl,rfl⟩⟩,λh=>d _ _ ⟨by unfold Fr.gb;rw[h];rfl,rfl⟩⟩) ?_⟩;rintro _ _ ⟨rfl,rfl⟩;exact⟨rfl,hx⟩
def ir(fs:O Fr):O Int:=(fs.filter Fr.gb).map Fr.no
theorem AK(h:eO w C):aL aj 145 #[.pointer (some C.c)] w (λv w'=>∃ (s:ad) (zs:O Int),v=s/\aZ 1 3 w' s (zs.map encZ)/\zs.Perm (ir C.ak)/\Ext w w'/\∀q,aC s q->w.heap.size<=q):=by
 obtain⟨bQ,aT,a8⟩:=h.cells
 have Y:=h.cp
 refine okF (ah.sG (some C.c)) az.sG func145 ?_
 delta ah.sG bJ
 refine Calls.mono (ah.Cy (some C.c) ⟨200,#[],#[]⟩ w (λv w'=>∃ (s:ad) (zs:O Int),v=s/\aZ 1 3 w' s (zs.map encZ)/\zs.Perm (ir C.ak)/\Ext w w'/\∀q,aC s q->w.heap.size<=q) ?_) ?_
 · (delta ah.p7 ao r1 aK aW aF aa au fS;dsimp only)
   refine⟨λh=>(by cases h),λ_=>⟨_,rfl,⟨some C.aV,C.ak.length,C.ak.length⟩,aT,λs n w'=>∃i:Nat,n=(i:Int)/\i<=C.ak.length/\aZ 1 3 w' s ((ir (C.ak.take i)).map encZ)/\Ext w w'/\∀q,aC s q->w.heap.size<=q,λ_ n _=>((C.ak.length:Int)-n).toNat,⟨0,rfl,cX _,by simpa[ir] using aZ.none 1 3 w,.refl _ _,λq e=>(hN q e).elim⟩,?_⟩⟩
   rintro s _ p ⟨i,rfl,hi,a,hx,g⟩
   have A:=h.ext hx
   refine⟨λaI=>?_,λB=>?_⟩
   · have r:i<C.ak.length:=by
       have:(i:Int)<(C.ak.length:Int):=cu aI
       omega
     obtain⟨f,hf⟩:∃f,f=C.ak[i]:=⟨_,rfl⟩
     have Z:(ir (C.ak.take i)).length<=64:=by
       unfold ir
       rw[dG]
       have:=pn Fr.gb (C.ak.take i)
       rw[cK]at this;omega
     have t:ir (C.ak.take (i+1))=ir (C.ak.take i)++(if f.gb then [f.no] else []):=by
       unfold ir
       rw[j_ r,kE,fB,←hf,q0,List.filter_nil]
       congr 1
       split<;>rfl
     refine cH (λs w'=>aZ 1 3 w' s ((ir (C.ak.take (i+1))).map encZ)/\Ext w w'/\∀q,aC s q->w.heap.size<=q) (λq e=>?_) ?_
     · have hc:∀j,j<6->p.cell? ⟨C.aV,i*6+j,none⟩=(f.c)[j]? :=λj D=>by rw[hf];exact jc A.f r D
       refine⟨_,rfl,⟨I,by show(i:Int)<(C.ak.length:Int);omega⟩,?_⟩
       rw[qA]
       refine⟨f.full,hc 0 (by decide),f.fc,by rw[ay];exact hc 1 (by decide),f.used,by rw[ay];exact hc 2 (by decide),f.no,by rw[ay];exact hc 3 (by decide),f.pins,by rw[ay];exact hc 4 (by decide),f.b,by rw[ay];exact hc 5 (by decide),?_⟩
       refine bd (vs:=[false,false,false,(0:Int),(0:Int),()]) rfl λab u E ac=>⟨u.bU rfl (λv l=>?_),rfl,cl u (us:=f.c) rfl rfl λy d F ae=>?_⟩
       · simp only[c7,ff,fp]at l
         rcases l with rfl|rfl|rfl|rfl|rfl|rfl<;>trivial
       have G:Ext p y:=Ext.cC E F (bl _)
       refine⟨f.full,d.cell,f.fc,by rw[ay];exact d.cell,f.used,by rw[ay];exact d.cell,f.no,by rw[ay];exact d.cell,f.pins,by rw[ay];exact d.cell,f.b,by rw[ay];exact d.cell,FO,(FP f y).use ?_⟩
       rintro _ m ⟨rfl,z⟩
       have k:=Ext.trans G z
       have H:=d.ext z
       refine⟨_,rfl,λhd=>⟨f.no,by rw[ay];exact H.cell,aX ?_⟩,λhd=>e _ _ ⟨?_,Ext.trans hx k,g⟩⟩
       · have o:Ext m (m.alloc (.cells #[encZ f.no] 3)):=dD _ _
         obtain⟨J,K,av,L,_,M,N⟩:=qo.append (dK:=58) (x:=⟨some m.heap.size,1,1⟩) (Src.new (T:=3) m [encZ f.no] 1 rfl) ((a.ext k).ext o) (λv l=>by rw[fo.1 l];trivial) (by
           have:s.len=(ir (C.ak.take i)).length:=by
             have:=a.1
             rw[dG]at this;omega
           show(2*(s.len+1)+1000)*8<=_;omega)
         refine⟨J,K,av,e _ _ ⟨?_,?_,λq e=>?_⟩⟩
         · rw[t,hd,if_pos rfl,fB];exact L
         · exact Ext.dj (Ext.trans (Ext.trans hx k) o) M g
         · rcases N q e with h1|h1
           · exact g q h1
           · have:=(Ext.trans hx k).size
             have:=o.size;omega
       · rw[t,hd]
         simp only[fl,if_false,fY]
         exact a.ext k
     · rintro af ag ⟨h1,P,Q⟩
       have R:IntKind.wrap .i64 ((i:Int)+1)=((i+1:Nat):Int):=by rw[bz I I];omega
       rw[R]
       exact⟨⟨i+1,rfl,I,h1,P,Q⟩,by show((C.ak.length:Int)-((i+1:Nat):Int)).toNat<((C.ak.length:Int)-(i:Int)).toNat;omega⟩
   · have S:i=C.ak.length:=by
       have:¬(i:Int)<(C.ak.length:Int):=cQ B
       omega
     rw[S,jj]at a
     refine(El a (by
       unfold ir
       rw[dG]
       have:=pn Fr.gb C.ak;omega)).use ?_
     rintro _ ai ⟨rfl,U,zs,V,W⟩
     exact⟨rfl,s,zs,rfl,V,W.1,Ext.dj hx U g,g⟩
 · rintro _ w1 ⟨_,rfl,s,zs,rfl,a,X,hx,hf⟩
   exact⟨s,rfl,s,zs,rfl,a,X,hx,hf⟩
end
section
variable {w w':J}{C:bM}{X:Nat->Prop}
theorem FQ{D:a6}{no:Nat}{s:ad}{l:c2}{N:Nat}(a:∀q,aC s q->b9 D q\/N<=q):∀q,b9 (D.put no s l) q->b9 D q\/N<=q:=by
 rintro q (e|e|e|⟨x,hx,e⟩)
 .exact .inl (.inl e)
 .exact .inl (.inr (.inl e))
 .exact .inl (.inr (.inr (.inl e)))
 .rcases c7.1 hx with rfl|hx
  .exact a q e
  .exact .inl (.inr (.inr (.inr ⟨x,(gf.1 hx).1,e⟩)))
theorem eO.oz{aw:a6}(h:eO w C)(hd:c3 w' aw)(e:aw.d=C.D.d)(hc:ae (b9 C.D) w w')(hf:∀q,b9 aw q->b9 C.D q\/w.heap.size<=q):eO w' {C with D:=aw}:=by
 have h1:=h.v.af hc h.a1.2.1;rw[←e]at h1;have a:C.c<w.heap.size:=h.v.lt;have b:C.aV<w.heap.size:=bg.lt h.f;refine⟨h1,bg.af h.f hc h.a1.2.2,hd,h.cn,h.cp,h.hd,h.a1.1,λg=>?_,λg=>?_⟩
 .rcases hf _ g with g|g
  .exact h.a1.2.1 g
  .have g:w.heap.size<=C.c:=g
   omega
 .rcases hf _ g with g|g
  .exact h.a1.2.2 g
  .have g:w.heap.size<=C.aV:=g
   omega
def bM.wrote(C:bM)(i no:Nat)(hi:i<C.ak.length)(s:ad):bM:={C with ak:=C.ak.set i {C.ak[i] with fc:=false},D:=C.D.put no s (C.ak[i]).l}
theorem FR(h:dB X w C){i no:Nat}(hi:i<C.ak.length)(hf:(C.ak[i]).full=true)(t:(C.ak[i]).no=no){s:ad}(J:¬C.D.bB no=true)(hd:c3 w' (C.D.put no s (C.ak[i]).l))(hc:ae (b9 C.D) w w')(W:∀q,aC s q->b9 C.D q\/w.heap.size<=q):
 (∃u:Y,w'.cell? ⟨C.aV,i*6+1,none⟩=some u)/\w'.frozen? ⟨C.aV,i*6+1,none⟩=false/\dB X (w'.setCell ⟨C.aV,i*6+1,none⟩ false) (C.wrote i no hi s)/\
   dM C (C.wrote i no hi s) w (w'.setCell ⟨C.aV,i*6+1,none⟩ false) 1/\∀j,(C.wrote i no hi s).view j=C.view j:=by
 have z:=FQ (no:=no) (l:=(C.ak[i]).l) W;obtain⟨aw,x⟩:∃aw,aw=C.D.put no s (C.ak[i]).l:=⟨_,rfl⟩;have B:∀j,aw.now j=if j=no then (C.ak[i]).l else C.D.now j:=by rw[x];exact nc _ _ _ _
 have K:aw.d=C.D.d:=by rw[x];rfl
 have Z:aw.n=C.D.n:=by rw[x];rfl
 have aa:aw.key=C.D.key:=by rw[x];exact z2 C.D J
 have L:jD aw C.D:=by rw[x];exact z1 h.inv J
 have ap:aw.aQ=C.D.aQ+1:=by rw[x];rfl
 have ab:∀m,C.D.calm (m+1)->aw.calm m:=λm ac=>by rw[x];exact(iE (.inr rfl) h.raw.dev.f4 ac).1
 unfold bM.wrote;rw[←x]at hd z⊢;have M:=h.raw.oz hd K hc z;obtain⟨a1,a2,a3,a4⟩:=l2 M.f hi (j:=1) (by decide) (v:=false) {C.ak[i] with fc:=false} rfl;obtain⟨g,o⟩:∃g:Fr,g={C.ak[i] with fc:=false}:=⟨_,rfl⟩;rw[←o]at a3⊢;refine⟨a1,a2,?_⟩;generalize w'.setCell ⟨C.aV,i*6+1,none⟩ false=E at a3 a4;have H:ae (cP C) w E:=cS (hc.mono λq _ e=>.inr (.inr e)) a4 λq _ e=>.inr (.inl e);obtain⟨y,av,af,ag,ah,aq,ar,ai⟩:=h.inv.ok _ (cI hi) hf;have aj:y=no:=by rw[t]at av;omega
 subst aj;obtain⟨a,r⟩:∃a:bM,a={C with ak:=C.ak.set i dp,D:=aw}:=⟨_,rfl⟩;have h1:fM X E a:=by
  rw[r];exact wx (V:=cP C) hi h.inv H (λ_ _ h=>h) L (λj A=>by rw[B,if_neg λe=>A hf (by rw[t,e])]) z dp rfl rfl
 have v1:∀j,a.view j=C.view j:=λj=>by
  rw[r];exact zZ hi h.inv (λ_ j A=>by rw[B,if_pos (by rw[t]at A;omega)]) (λj A=>by rw[B,if_neg λe=>A hf (by rw[t,e])]) dp rfl j
 have F:a.ak=C.ak.set i dp:=by rw[r]
 have N:i<a.ak.length:=by rw[F,dd];exact hi
 have O:∀ (k:Nat) (al:k<a.ak.length),k≠i->(a.ak[k]).full=true->(a.ak[k]).no≠y:=λk al P G Q=>by
  simp only[F,eX (Ne.symm P)]at G Q;exact P (h.inv.un k i _ hi G hf (by rw[Q,t]))
 have R:C.ak.set i g=a.ak.set i g:=by rw[F,set_set]
 have S:({C with ak:=C.ak.set i g,D:=aw}:bM)={a with ak:=a.ak.set i g,D:=aw}:=by rw[R,r]
 have am:bn (λq=>¬cP {C with ak:=C.ak.set i g,D:=aw} q/\¬X q) E g.b g.l:=by
  rw[o];refine bn.re ag H (λq _ T=>T.1) λq T U=>⟨λp=>U.1 ?_,U.2⟩;rcases p with p|p|p
  .exact .inl p
  .exact .inr (.inl p)
  .exact .inr (.inr ((z q p).resolve_right I))
 have G:fM X E {C with ak:=C.ak.set i g,D:=aw}:=by
  rw[S];refine wy (C:=a) (no:=y) (V:=λ_=>False) N h1 (.refl _ _) (λ_ _ h=>h.elim) (by rw[r];exact⟨rfl,λ_ h=>h,L.2.2⟩) (λj=>by rw[r]) (λq=>by rw[r]) g (by rw[o];exact hf) (by rw[o];exact h.inv.pins (C.ak[i]) (cI hi)) ⟨by rw[o];exact t,by show y<aw.n;rw[Z];exact af,by rw[←S];exact am,by rw[o];exact ah,λ_=>?_,λ_=>by rw[o],ai⟩ O;show g.l=aw.now y;rw[B,if_pos rfl,o]
 have an:∀j,({C with ak:=C.ak.set i g,D:=aw}:bM).view j=C.view j:=λj=>by
  have ao:({C with ak:=C.ak.set i g,D:=aw}:bM)=bM.mk a.c a.aV (a.ak.set i g) C.hand aw:=by rw[R,r]
  rw[ao,wz (C:=a) (hd:=C.hand) (aw:=aw) (no:=y) N h1.un (λj=>by rw[r]) g (by rw[o];exact hf) (by rw[o];exact t) (λp=>by simp only[F,g1]at p;cases p) O j,v1];split
  .rename_i e
   subst e;have:=k3 (fs:=C.ak) (D:=C.D) (c:=C.c) (aV:=C.aV) (hd:=C.hand) h.inv.un hi hf t;rw[o];exact this.symm
  .rfl
 refine⟨⟨?_,G⟩,⟨rfl,K,by show(C.ak.set i _).length=_;rw[dd],aa,by show aw.aQ<=_;omega,ab,H,?_⟩,an⟩
 .refine wA (C:={C with D:=aw}) M a4 a3
 .rintro q (e|e|e)
  .exact .inl (.inl e)
  .exact .inl (.inr (.inl e))
  .exact(z q e).imp (λh=>.inr (.inr h)) id
theorem wT{aw:a6}(h:dB X w C)(hd:c3 w' aw)(e:aw.d=C.D.d)(b:jD aw C.D)(a:∀i,aw.now i=C.D.now i)(hc:ae (b9 C.D) w w')(hf:∀q,b9 aw q->b9 C.D q\/w.heap.size<=q):dB X w' {C with D:=aw}/\∀j,({C with D:=aw}:bM).view j=C.view j:=
 ⟨⟨h.raw.oz hd e hc hf,qC (C:=C) (hd:=C.hand) h.inv (gP.refl _) (hc.mono λq _ e=>.inr (.inr e)) (λ_ _ h=>h) b a hf⟩,λj=>qD (C:=C) (hd:=C.hand) h.inv (gP.refl _) a j⟩
theorem FT(h:dB X w C)(hc:∀f∈C.ak,f.gb=false)(j:Nat):C.view j=C.D.now j:=by
 unfold bM.view
 cases b:C.ak.find? λf=>f.full&&f.no==(j:Int) with
 |none=>rfl
 |some f=>
  have c:=h7 b;have a:=iN b;simp only[dn,ji]at a;obtain⟨no,av,g,i,k,d⟩:=h.inv.ok f c a.1;have h1:=hc f c;unfold Fr.gb at h1;rw[a.1,h4]at h1;have e:no=j:=by rw[a.2]at av;omega
  rw[←e];exact d h1
theorem AL{D:a6}(h:c3 w D)(i:Nat):D.hY.now i=D.now i:=by
 by_cases hi:i<D.n
 .exact wR D hi
 .have h1:D.now i=[]:=by
   unfold a6.now
   cases hf:D.waits.find? λx=>x.i==i with
   |some x=>
    have hx:=h7 hf;have he:x.i=i:=by simpa using iN hf
    have:=(h.wn x hx).2.1;omega
   |none=>
    have:¬i<D.bw.length:=hi;show D.bw.getD i []=[];rw[fI,me I];rfl
  rw[h1];show((List.range D.n).map D.now).getD i []=[];rw[fI,me (by simp;omega)];rfl
theorem qH(D:a6){m:Nat}(h:D.calm m):(D.cm 3).calm m:=by
 unfold a6.calm a6.cm at*;simpa[fI] using h
theorem dM.r1{C aD:bM}{w w':J}{k:Nat}(h:dM C aD w w' k):aD.D.r1=C.D.r1:=congrArg (λk:(O c2×(Nat->al)×(Nat->O c2)×(Int->Prop)×al)×Int=>k.1.2.2.2.2) h.bw
structure FU(X:Nat->Prop)(C aD:bM)(w:J)(v:Y)(w':J):Prop where
 at_:dB X w' aD
 c:aD.c=C.c
 d:aD.D.d=C.D.d
 len:aD.ak.length=C.ak.length
 n:aD.D.n=C.D.n
 bB:aD.D.bB=C.D.bB/\aD.D.dU=C.D.dU
 r:aD.D.r1=C.D.r1
 aQ:aD.D.aQ<=C.D.aQ+64
 calm:∀m,C.D.calm (m+64)->aD.D.calm m
 af:ae (cP C) w w'
 db:∀q,cP aD q->cP C q\/w.heap.size<=q
 view:∀j,aD.view j=C.view j
 gV:(v=.int .i64 0/\aD.D.waits=[]/\(∀f∈aD.ak,f.gb=false)/\aD.D.b5.getD 3 0=(fV (C.D.b5.getD 3 0)).2)\/(v=.int .i64 3/\aD.D.bw=C.D.bw/\(¬C.D.calm 64\/C.D.fy 3=true))
theorem FV(h:dB X w C)(a4:C.D.aQ<=999999900)(aq:∀j,C.D.bB j=true->C.D.dU j=[]):aL aj 163 #[.pointer (some C.c)] w (λv w'=>∃aD,FU X C aD w v w'):=by
 have a5:=h.raw.cp;refine okF (ah.sK (some C.c)) az.sK func163 ?_;(delta ah.sK ao bJ aK aF iV r1 b7 st au;dsimp only);refine⟨λh=>(by cases h),λ_=>(AK h.raw).use ?_⟩;rintro _ w1 ⟨s,zs,rfl,hs,N,Z,ar⟩;have hlen:s.len=zs.length:=by have:=hs.1;rw[dG]at this;omega
 have a7:zs.length<=64:=by
  rw[N.length_eq];unfold ir;rw[dG];have:=pn Fr.gb C.ak;omega
 have h1:=h.ext Z;have aw:∀z∈zs,∀no:Nat,(no:Int)=z->¬C.D.bB no=true:=λz t no a8 hs=>by
  obtain⟨f,hf,e⟩:=e6.1 (N.mem_iff.1 t);obtain⟨R,u⟩:=gf.1 hf;unfold Fr.gb at u;rw[dn]at u;obtain⟨m,cn,_,_,_,_,aa,ax⟩:=h.inv.ok f R u.1;have:m=no:=by rw[e]at cn;omega
  subst this;rw[aa hs]at u
  cases u.2
 refine⟨s,rfl,λn w'=>∃ (i:Nat) (g:bM),n=(i:Int)/\i<=zs.length/\dB X w' g/\dM C g w w' i/\(∀j,g.view j=C.view j)/\aZ 1 3 w' s (zs.map encZ)/\(∀f∈g.ak,f.gb=true->f.no∈zs.drop i)/\(∀z∈zs,∃f∈g.ak,f.full=true/\f.no=z)/\∀q,cP g q->¬aC s q,
  λn _=>((zs.length:Int)-n).toNat,⟨0,C,rfl,cX _,h1,dM.ext C Z,λ_=>rfl,hs,λf hf hd=>?_,λz t=>?_,λq o O=>?_⟩,?_⟩
 .exact N.mem_iff.2 (e6.2 ⟨f,gf.2 ⟨hf,hd⟩,rfl⟩)
 .obtain⟨f,hf,e⟩:=e6.1 (N.mem_iff.1 t)
  obtain⟨R,u⟩:=gf.1 hf;unfold Fr.gb at u;rw[dn]at u;exact⟨f,R,u.1,e⟩
 .have:=ar q O;have:=h.raw.lt o;omega
 rintro _ S ⟨i,g,rfl,hi,p,l,P,T,ab,hex,ac⟩;have a9:=l.aQ;refine⟨λaI=>?_,λaA=>?_⟩
 .have G:i<zs.length:=by
   have:(i:Int)<(s.len:Int):=cu aI;omega
  obtain⟨a,aB,aE⟩:∃a:ag,s.a=some a/\S.cell? (a.add (Int.toNat (i:Int)*1))=some (.int .i64 zs[i]):=by
   obtain⟨b,c,y,_,_,_,_,U,_⟩:=T.cell (i:=i) (v:=encZ zs[i]) (by rw[lj,dI G];rfl);exact⟨_,y,by rw[dO,ay,cU,fH];exact U⟩
  refine⟨a,aB,⟨I,by show(i:Int)<(s.len:Int);omega⟩,zs[i],aE,?_⟩;rw[←l.c];refine(tN p.raw _).use ?_;rintro _ _ ⟨aG,rfl⟩;obtain⟨f,aH,aJ,aM⟩:=hex zs[i] (cI G);rcases aG with ⟨k,H,rfl,av,V⟩|⟨_,aN⟩
  rotate_left
  .exact absurd aM (aN f aH aJ)
  have J:=cJ S;have B:=p.ext J;obtain⟨no,cn,cp,ad,aO,a_,aa,ax⟩:=B.inv.ok _ (cI H) av;have t:zs[i]=(no:Int):=by rw[←V,cn]
  have aP:=jc B.raw.f H (j:=5) (by decide);refine⟨_,rfl,aX ⟨_,rfl,id,_,B.raw.cells.1,_,rfl,id,(g.ak[k]).b,by rw[ay];exact aP,?_⟩⟩;rw[t];refine(tK B.raw.dev (i:=no) cp I ad.1 aO λq o hf=>(ad.2.2 q o).1.1 (.inr (.inr hf))).use ?_;rintro aR ai aS;have aT:=l.af.size;have ba:=J.size;rcases aS with ⟨y,rfl,E,r⟩|⟨y,rfl,s2,E,r,aU⟩
  .obtain⟨gY,K⟩:=wT B E rfl (B.inv.cm 2) (λj=>qB g.D 2 j) (r.mono λq _ e=>.inl e) λq o=>.inl o
   refine⟨3,rfl,λ_=>⟨{g with D:=g.D.cm 2},gY,l.c,l.d,l.len,l.n,l.l3,l.r1,by show g.D.aQ<=_;omega,λm L=>?_,?_,?_,λj=>(K j).trans (P j),.inr ⟨rfl,?_,.inl λaW=>?_⟩⟩,λh=>(by cases h)⟩
   .exact(iE (.inr rfl) p.raw.dev.f4 (l.calm (m+1) (gp L I))).1
   .refine cS (l.af.trans (ae.cN J)) r λq o e=>?_
    exact(l.db q (.inr (.inr (.inl e)))).resolve_right I
   .exact l.db
   .exact congrArg (λk=>k.1.1) l.bw
   .have:=(iE (k:=2) (m:=0) (.inr rfl) p.raw.dev.f4 (l.calm 1 (gp aW I))).2
    rw[y]at this;cases this
  .obtain⟨bo,bj,al,Q,aY⟩:=FR B H av (by rw[V,t]) (λhs=>aw _ (cI G) _ t.symm (by rw[←l.bB];exact hs)) E r aU
   refine⟨0,rfl,λh=>(by cases h),λ_=>⟨_,rfl,by rw[ay];exact bo,by rw[ay];exact bj,?_⟩⟩;rw[ay];refine aX ?_;generalize ai.setCell ⟨g.aV,k*6+1,none⟩ false=bb at al Q;have a0:IntKind.wrap .i64 ((i:Int)+1)=((i+1:Nat):Int):=by rw[bz I I];omega
   rw[a0];have a1:=(l.trans (dM.ext g J)).trans Q;have a2:zs.drop i=zs[i]::zs.drop (i+1):=l_ G;refine⟨⟨i+1,_,rfl,I,al,a1,λj=>(aY j).trans (P j),(T.ext J).af Q.af λq o hf=>ac q hf o,λf hf A=>?_,λz t=>?_,λq o O=>?_⟩,by show((zs.length:Int)-((i+1:Nat):Int)).toNat<((zs.length:Int)-(i:Int)).toNat;omega⟩
   .have hf:f∈g.ak.set k {g.ak[k] with fc:=false}:=hf
    obtain⟨b,W,rfl⟩:=e0 hf;have am:b<g.ak.length:=by simpa using W
    by_cases e:k=b
    .subst e
     simp[Fr.gb]at A
    .simp only[eX e]at A⊢
     have F:=ab _ (cI am) A;rw[a2]at F;rcases c7.1 F with Y|Y
     .unfold Fr.gb at A
      rw[dn]at A;exact absurd (p.inv.un k b H am av A.1 (by rw[V,Y])) e
     .exact Y
   .obtain⟨f,f1,f2,f3⟩:=hex z t
    obtain⟨b,W,rfl⟩:=e0 f1;by_cases e:k=b
    .subst e
     exact⟨{g.ak[k] with fc:=false},List.mem_set H _,f2,f3⟩
    .exact⟨g.ak[b],List.mem_iff_getElem.2 ⟨b,by show b<(g.ak.set k _).length;rw[dd];exact W,by show(g.ak.set k _)[b]'_=_;rw[eX e]⟩,f2,f3⟩
   .rcases Q.db q o with F|F
    .exact ac q F O
    .have:=T.lt q O;omega
 .have G:i=zs.length:=by
   have:¬(i:Int)<(s.len:Int):=cQ aA;omega
  have U:∀f∈g.ak,f.gb=false:=λf hf=>by
   cases A:f.gb with
   |false=>rfl
   |true=>
    have:=ab f hf A;rw[G,List.drop_length]at this
    cases this
  have an:g.D.b5.getD 3 0=C.D.b5.getD 3 0:=congrArg Prod.snd l.bw;rw[←l.c];refine⟨_,rfl,_,p.raw.cells.1,(wS p.raw.dev I).use ?_⟩;have aT:=l.af.size;rintro aR ai (⟨y,rfl,E,r⟩|⟨y,rfl,E,r⟩)
  .obtain⟨gY,K⟩:=wT p E rfl (p.inv.cm 3) (λj=>qB g.D 3 j) (r.mono λq _ e=>.inl e) λq o=>.inl o
   refine⟨3,rfl,{g with D:=g.D.cm 3},gY,l.c,l.d,l.len,l.n,l.l3,l.r1,by show g.D.aQ<=_;omega,λm L=>qH _ (l.calm m (gp L I)),cS l.af r λq o e=>(l.db q (.inr (.inr (.inl e)))).resolve_right I,l.db,λj=>(K j).trans (P j),.inr ⟨rfl,congrArg (λk=>k.1.1) l.bw,.inr ?_⟩⟩;unfold a6.fy at y⊢;rw[←an];exact y
  .have ap:∀q,b9 (g.D.cm 3).hY q->b9 g.D q\/S.heap.size<=q:=by
    rintro q (e|e|e|⟨x,hx,e⟩)
    .exact .inl (.inl e)
    .exact .inl (.inr (.inl e))
    .exact .inl (.inr (.inr (.inl e)))
    .cases hx
   have a3:∀j,(g.D.cm 3).hY.now j=g.D.now j:=λj=>by
    by_cases M:j<g.D.n
    .exact(wR (g.D.cm 3) M).trans (qB g.D 3 j)
    .have F:g.D.hY.now j=g.D.now j:=AL p.raw.dev j
     exact F
   obtain⟨gY,K⟩:=wT p E rfl ⟨qG (g.D.cm 3),λ_ h=>h,λj M=>by
    have M:g.D.bB j=true:=M;have e:g.D.dU j=[]:=by rw[l.l3.2];exact aq j (by rw[←l.l3.1];exact M)
    exact e.symm⟩ a3 r ap
   refine⟨0,rfl,{g with D:=(g.D.cm 3).hY},gY,l.c,l.d,l.len,(qG (g.D.cm 3)).trans l.n,l.l3,l.r1,by show g.D.aQ<=_;omega,λm L=>qH g.D (l.calm m (gp L I)),cS l.af r λq o e=>(l.db q (.inr (.inr e))).resolve_right I,λq o=>?_,λj=>(K j).trans (P j),.inl ⟨rfl,rfl,U,?_⟩⟩
   .rcases o with e|e|e
    .exact l.db q (.inl e)
    .exact l.db q (.inr (.inl e))
    .rcases ap q e with e|e
     .exact l.db q (.inr (.inr e))
     .exact .inr I
   .show(g.D.b5.set 3 _).getD 3 0=_
    have bc:=p.raw.dev.f4;rw[eV (by rw[dd];omega),g1,an]
end
def gA(bf d c sb:Nat)(l:fe)(u:eg)(gen now first pending keys:Nat)(failed:al):O Y:=
 [.pointer (some bf),.pointer (some d),.pointer (some c),.pointer (some sb),l.ak,l.batch,.int .u64 (l.hT:Nat),
  u.root,u.aH,u.map,.int .u64 (u.clock:Nat),.int .u64 (u.c_:Nat),u.keys,
  .int .u64 (gen:Nat),.int .u64 (now:Nat),.int .u64 (first:Nat),pending,keys,failed]
section
variable {w w':J}{D:a6}
structure AM(D:a6)(l:fe)(u:eg)(gen sb:Nat)(w:J)(v:Y)(w':J)(c aV bf st:Nat):Prop where
 val:v=.tuple #[.pointer (some st),(0:Int)]
 ca:dB (λ_=>False) w' (kr c aV l.ak D)
 ef:Var w' bf [.pointer (some c),.pointer (some sb),.int .u64 ((gen+1:Nat):Int),u.root,u.aH] 239
 sv:Var w' st (gA bf D.d c sb l u gen u.clock 0 0 u.keys false) 158
 x:Ext w w'
 hc:w.heap.size<=c/\c<bf
 hf:w.heap.size<=aV/\aV<bf
 ht:bf<st
def a6.fW(D:a6)(s:Nat->al)(z:Nat->O c2):a6:={D with bB:=s,dU:=z}
theorem c3.fW(h:c3 w D)(s:Nat->al)(z:Nat->O c2):c3 w (D.fW s z):=⟨h.v,h.l,h.m,h.ws,h.wn,h.sl,h.lX,h.bL,h.bx,h.f4,h.fr,h.a1,h.a2,h.a3,h.r⟩
theorem mI(h:c3 w D){l:fe}(q:8<=l.ak/\l.ak<=64){u:eg}(hu:tX D.n (u.root:Nat) (u.aH:Nat)){gen:Nat}(hg:gen+1<18446744073709551616)(s:∀j,D.bB j=true->D.dE j=D.dU j)(sb:Nat):
 aL aj 78 #[.pointer (some D.d),.agg l.c.toArray,.agg u.c.toArray,.int .u64 (gen:Nat),.pointer (some sb)] w (λv w'=>∃c aV bf st,AM D l u gen sb w v w' c aV bf st):=by
 refine ah.Cj _ (l.ak:Nat) (l.batch:Nat) (l.hT:Nat) (u.root:Nat) (u.aH:Nat) (u.map:Nat) (u.clock:Nat) (u.c_:Nat) (u.keys:Nat) (gen:Nat) (some sb) w _ ?_;(delta ah.mI aF aa hO ao cd;dsimp only);refine bd (vs:=l.c) rfl λw1 t i H=>bd (vs:=u.c) rfl λai x b J=>?_;have r:=t.ext b;have y:=h.ext (i.trans b);refine⟨_,r.cell,(n_ y q.1 q.2 s).use ?_⟩;rintro _ a ⟨c,aV,rfl,e,f,K,L⟩;have k:=x.ext f;have z:IntKind.wrap .u64 ((gen:Int)+1)=((gen+1:Nat):Int):=by rw[gj I I];omega
 rw[z];have M:(kr c aV l.ak D).D=D:=rfl;refine⟨_,0,rfl,λh=>(by cases h),λ_=>⟨_,k.cell,_,by rw[ay];exact k.cell,(mL e.raw sb ((gen+1:Nat):Int) (u.root:Nat) (u.aH:Nat)).use ?_⟩⟩;rintro _ A (⟨_,rfl,g,B,N⟩|⟨C,_⟩)
 rotate_left
 .exact absurd hu C
 have m:=k.ext g;have o:=(r.ext f).ext g;have O:=(i.trans b).size;have P:=f.size;have E:c<a.heap.size:=e.raw.lt (.inl rfl);have F:aV<a.heap.size:=e.raw.lt (.inr (.inl rfl));refine⟨_,0,rfl,λh=>(by cases h),λ_=>⟨_,o.cell,_,by rw[ay];exact o.cell,_,by rw[ay];exact o.cell,oT m ⟨_,by rw[ay];exact m.cell,_,by rw[ay];exact m.cell,(gA a.heap.size D.d c sb l u gen u.clock 0 0 u.keys false).toArray,by kernel_rfl,bd (vs:=gA a.heap.size D.d c sb l u gen u.clock 0 0 u.keys false) rfl λQ G p R=>?_⟩⟩⟩;exact⟨c,aV,a.heap.size,A.heap.size,rfl,(e.ext g).ext p,B.ext p,G,Ext.trans (Ext.trans (i.trans b) f) (Ext.trans g p),⟨I,E⟩,⟨I,F⟩,I⟩
def hF(f:Nat->al)(k:Nat):O UInt8:=(List.range k).map λi=>UInt8.ofNat (byteOf f i)
theorem AN(f:Nat->al)(k:Nat):aA (hF f k)=eI f k:=by
 unfold aA hF eI;rw[nw];refine List.map_congr_left λi _=>?_;have:=jC f i;show Value.int .u8 (((UInt8.ofNat (byteOf f i)).toNat:Nat):Int)=_;rw[nA,iL this]
theorem t_(f:Nat->al)(k:Nat):(hF f k).length=k:=by simp[hF]
def iu:eg:=⟨0,0,2,0,0,0⟩
structure AO(D aw:a6):Prop where
 d:aw.d=D.d
 n:aw.n=D.n
 now:∀j,aw.now j=if j=1 then dT 1 (hX iu D.n 1) else if j=2 then dT 2 ⟨4,1,hF (λi=>decide (i<3)) ((D.n+7)/8)⟩ else if j=0 then gO else D.now j
 waits:aw.waits=[]
 aQ:aw.aQ=D.aQ+4
 calm:∀k,aw.calm k
 b5:aw.b5.getD 3 0= -1
 bB:aw.bB=λi=>decide (i<3)
 dU:aw.dU=λ_=> []
 r:aw.r1=D.r1
structure FW(D:a6)(l:fe)(w:J)(v:Y)(w':J)(aw:a6)(sb:Nat)(s1 s2:ad)(c aV bf st:Nat)(jb:J):Prop where
 AP:AM aw l iu 1 sb jb v w' c aV bf st
 sp:eJ w' sb D.n (λi=>decide (i<3)) (λi=>decide (i<3)) s1 s2
 oz:AO D aw
 af:ae (b9 D) w jb
 qI:∀q,fb sb s1 s2 q->w.heap.size<=q/\q<jb.heap.size
 dq:∀q,b9 aw q->b9 D q\/(w.heap.size<=q/\q<jb.heap.size)
 FX:∀q,fb sb s1 s2 q->¬b9 aw q
theorem mG(h:c3 w D){l:fe}(ap:nk (l.ak:Nat) (l.batch:Nat) (l.hT:Nat))(bj:∀k,D.calm k)(oM:D.b5.getD 3 0= -1)(b1:D.aQ<=999999000):
 aL aj 19 #[.pointer (some ⟨D.d,0,none⟩),.agg l.c.toArray] w (λv w'=>∃aw sb s1 s2 c aV bf st jb,FW D l w v w' aw sb s1 s2 c aV bf st jb):=by
 have b2:=h.bL;have b3:=h.bx;refine ah.Cd _ (l.ak:Nat) (l.batch:Nat) (l.hT:Nat) w _ ?_;(delta ah.mG aF aa cd cc ao b7 hO bJ eR jt au iW;dsimp only);refine bd (vs:=l.c) rfl λw1 Q J b4=>⟨_,Q.cell,_,by rw[ay];exact Q.cell,_,by rw[ay];exact Q.cell,(n1 w1 _ _ _ _).use ?_⟩;rintro _ bk ⟨rfl,C⟩;have bm:=h.ext (J.trans C);refine⟨_,rfl,λr=>?_,λ_=>(tJ bm).use ?_⟩
 .rw[dw ap]at r;cases r
 rintro _ _ ⟨rfl,rfl⟩;refine⟨_,rfl,(n2 bk (D.n:Nat) 3).use ?_⟩;rintro _ b6 (⟨bn,_⟩|⟨_,_,_,_,sb,s1,s2,rfl,hs,Y,Z⟩)
 .exact absurd ⟨I,I,I,I⟩ bn
 rw[dO]at hs;have ab:Int.toNat 3=3:=rfl;rw[ab]at hs;refine⟨_,0,rfl,λh=>(by cases h),λ_=>(zW hs).use ?_⟩;rintro _ bo ⟨aN,rfl,aO,K,b8⟩;rw[←AN]at aO;obtain⟨mp,R⟩:∃mp:ij,mp=⟨4,1,hF (λi=>decide (i<3)) ((D.n+7)/8)⟩:=⟨_,rfl⟩;have aP:lT mp:=by rw[R];exact⟨(by decide:1<=4),(by decide:4<=4),(by decide:1<18446744073709551616),by show(hF _ _).length<=232;rw[t_];omega⟩
 have aR:=tz (s:=aN) (p:=mp) (no:=2) (w:=bo) (by rw[R];exact aO.src) (by decide) aP;rw[R]at aR;refine⟨aN,rfl,aR.use ?_⟩;rw[←R];rintro _ bp ⟨F,rfl,aS,N,bq⟩;have aT:=Ext.trans (Ext.trans (J.trans C) Y) (Ext.trans K N);have b_:=aT.size;refine⟨F,0,rfl,λh=>(by cases h),λ_=>⟨⟨I,I,I,I⟩,?_⟩⟩;rw[vL];have br:Int.toNat 256=256:=rfl;rw[br];have ar:gO.length=256:=ln;refine bd (vs:=aA gO) rfl λB S G ca=>?_;obtain⟨y,bs⟩:∃y,y=bp.heap.size:=⟨_,rfl⟩;rw[←bs]at S⊢;have ac:=Ext.trans aT G;have aU:Src 1 B ⟨some ⟨y,0,none⟩,256,256⟩ (aA gO):=S.te (o:=0) (n:=256) (c:=256) (l:=gO) (by rw[dg,ar];exact bl _) (by rw[jk,dJ (by rw[dg,ar];exact bl _)]);refine⟨#[.slice (some ⟨y,0,none⟩) 256 256,.slice (some ⟨y,0,none⟩) 256 256,.slice F.a F.len F.cap],by kernel_rfl,?_⟩;have bt:(dT 2 mp).length=256:=qj _ aP;obtain⟨vals,av⟩:∃vals:Nat->c2,vals=λj=>if j=2 then dT 2 mp else gO:=⟨_,rfl⟩
 have bu:∀j,(vals j).length=256:=λj=>by
  rw[av];show(if j=2 then _ else _:c2).length=256;split
  .exact bt
  .exact ar
 have bv:∀k,k<3->∃H:ad,cellAt #[.slice (some ⟨y,0,none⟩) 256 256,.slice (some ⟨y,0,none⟩) 256 256,.slice F.a F.len F.cap] (Int.toNat ((k:Nat):Int)*1)=some (.slice H.a H.len H.cap)/\Src 1 B H (aA (vals k))/\∀q,aC H q->w.heap.size<=q/\q<B.heap.size:=by
  intro k aW;have bA:=S.lt;have cb:=G.size;rw[av];have hi:∀q,aC (⟨some ⟨y,0,none⟩,256,256⟩:ad) q->w.heap.size<=q/\q<B.heap.size:=λq b=>by
   obtain⟨A,aq,rfl⟩:=b
   cases aq;show w.heap.size<=y/\y<_;exact⟨I,bA⟩
  have ce:=(Ext.trans (Ext.trans (J.trans C) Y) K).size
  match k,aW with
  |0,_=>exact⟨⟨some ⟨y,0,none⟩,256,256⟩,rfl,aU,hi⟩
  |1,_=>exact⟨⟨some ⟨y,0,none⟩,256,256⟩,rfl,aU,hi⟩
  |2,_=>exact⟨F,rfl,aS.src.ext G,λq b=>by have:=bq q b;have:=aS.lt q b;omega⟩
 have bB:=h.ext ac;refine⟨λn w'=>∃ (k:Nat) (g:a6),n=(k:Int)/\k<=3/\c3 w' g/\g.d=D.d/\g.n=D.n/\(∀j,g.now j=if j<k then vals j else D.now j)/\g.aQ=D.aQ+k/\(∀m,g.calm m)/\(g.b5.getD 3 0= -1/\g.r1=D.r1)/\ae (b9 D) B w'/\(∀q,b9 g q->b9 D q\/B.heap.size<=q),
  λn _=>((3:Int)-n).toNat,⟨0,D,rfl,cX _,bB,rfl,rfl,λj=>rfl,rfl,bj,⟨oM,rfl⟩,.refl _ _,λq b=>.inl b⟩,?_⟩
 rintro _ cf ⟨k,g,rfl,aW,O,ag,aX,aY,bC,ax,⟨az,aZ⟩,ai,L⟩;have ch:=ai.size;refine⟨λaI=>?_,λbD=>?_⟩
 .have aB:k<3:=by
   have:((k:Nat):Int)<3:=cu aI;omega
  obtain⟨H,bE,bF,a0⟩:=bv k aB;have ej:∀q,aC H q->¬b9 D q:=λq b hf=>by have:=(a0 q b).1;have:=h.lt hf;omega
  have a1:=tK O (i:=k) I I (bF.af ai ej) (bu k) λq b hf=>by
   rcases L q hf with h1|h1
   .exact ej q b h1
   .have:=(a0 q b).2;omega
  rw[ag]at a1;refine⟨⟨I,I⟩,H,bE,a1.use ?_⟩;rintro _ ci (⟨r,_⟩|⟨r,rfl,s,bG,bH,bI⟩)
  .have:=(iE (k:=2) (m:=0) (.inr rfl) O.f4 (ax 1)).2
   rw[r]at this;cases this
  refine⟨0,rfl,λh=>(by cases h),λ_=>?_⟩;have bK:IntKind.wrap .i64 (((k:Nat):Int)+1)=((k+1:Nat):Int):=by rw[bz I I];omega
  rw[bK];refine⟨⟨k+1,_,rfl,I,bG,ag,aX,λj=>?_,by show g.aQ+1=_;omega,λm=>(iE (.inr rfl) O.f4 (ax _)).1,⟨(congrArg Prod.snd (oP g (.inr rfl))).trans az,aZ⟩,cS ai bH λq b hf=>(L q hf).resolve_right I,λq b=>?_⟩,by show((3:Int)-((k+1:Nat):Int)).toNat<((3:Int)-((k:Nat):Int)).toNat;omega⟩
  .rw[nc,aY]
   by_cases e:j=k
   .rw[if_pos e,if_pos I,e]
   .rw[if_neg e]
    by_cases T:j<k
    .rw[if_pos T,if_pos I]
    .rw[if_neg T,if_neg I]
  .rcases tZ bI q b with h1|h1
   .exact L q h1
   .exact .inr I
 have aB:k=3:=by
  have:¬((k:Nat):Int)<3:=cQ bD;omega
 subst aB;have hf:=wS O I;rw[ag]at hf;refine hf.use ?_;rintro _ a2 (⟨r,_⟩|⟨_,rfl,aD,bM⟩)
 .unfold a6.fy at r
  rw[az]at r;cases r
 obtain⟨cg,E⟩:∃cg,cg=(g.cm 3).hY:=⟨_,rfl⟩;rw[←E]at aD;have a3:cg.d=D.d:=by rw[E];exact ag
 have a4:cg.n=D.n:=by rw[E];exact(qG _).trans aX
 have bN:cg.r1=D.r1:=by rw[E];exact aZ
 have bO:∀j,cg.now j=if j<3 then vals j else D.now j:=λj=>by
  rw[←aY,E];have aE:g.hY.now j=g.now j:=AL O j;exact aE
 have cj:cg.aQ=D.aQ+3:=by rw[E];exact bC
 have a5:∀m,cg.calm m:=λm=>by rw[E];exact qH _ (ax m)
 have a7:cg.b5.getD 3 0= -1:=by
  rw[E];show(g.b5.set 3 _).getD 3 0=_;have bP:=O.f4;rw[eV (by rw[dd];omega),g1,az];rfl
 have al:∀q,b9 cg q->b9 D q\/B.heap.size<=q:=λq b=>by
  rw[E]at b;rcases b with e|e|e|⟨x,hx,e⟩
  .exact L q (.inl e)
  .exact L q (.inr (.inl e))
  .exact L q (.inr (.inr (.inl e)))
  .cases hx
 have am:ae (b9 D) B a2:=cS ai bM λq b hf=>(L q hf).resolve_right I;have U:∀q,w.heap.size<=q->¬b9 D q:=λq b hf=>by have:=h.lt hf;omega
 have bQ:=((Q.ext (C.trans (Ext.trans Y (Ext.trans K (Ext.trans N G))))).af am (U _ (bl _)));have bR:=(hs.ext (Ext.trans K (Ext.trans N G))).af am λq b=>U q (by have:=Z q b;have:=(J.trans C).size;omega);refine⟨0,rfl,λh=>(by cases h),λ_=>bd (vs:=zE.c) rfl λck bS bT cl=>zH bS rfl iu λbU a8 bV cn=>oT a8 ?_⟩;have V:Ext a2 bU:=Ext.cC bT bV (bl _);have W:=aD.ext V;have a9:=lJ W I (u:=iu) ⟨(by decide:0<4294967296),(by decide:0<256),(by decide:2<4294967296),(by decide:0<18446744073709551616),(by decide:0<18446744073709551616),(by decide:0<4294967296)⟩ (gen:=1) (by decide);rw[a3]at a9;refine a9.use ?_;have co:=V.size;have cp:=am.size;rintro _ a_ ⟨an,⟨r,_⟩|⟨_,s,bW,f,z,⟨r,_⟩|⟨_,rfl,X⟩⟩⟩
 .have:=(iE (k:=2) (m:=0) (.inr rfl) W.f4 (a5 1)).2
  rw[r]at this;cases this
 .have aG:f.b5.getD 3 0= -1:=by rw[z];exact(congrArg Prod.snd (oP cg (.inr rfl))).trans a7
  unfold a6.fy at r;rw[aG]at r;cases r
 have aG:f.b5.getD 3 0= -1:=by rw[z];exact(congrArg Prod.snd (oP cg (.inr rfl))).trans a7
 obtain⟨M,t⟩:∃M,M=((f.cm 3).hY).fW (λi=>decide (i<3)) (λ_=> []):=⟨_,rfl⟩;have X:=X.fW (λi=>decide (i<3)) (λ_=> []);rw[←t]at X;have bX:∀x∈f.waits,x.i<f.n:=λx hx=>by
  rw[z]at hx⊢;rcases c7.1 hx with rfl|hx
  .show 1%2<cg.n;omega
  .exact(W.wn x (gf.1 hx).1).2.1
 have bY:∀j,M.now j=if j=1 then dT 1 (hX iu D.n 1) else if j<3 then vals j else D.now j:=λj=>by
  have aE:M.now j=f.now j:=by
   rw[t];by_cases ba:j<f.n
   .exact(wR (f.cm 3) ba).trans (qB f 3 j)
   .have P:f.now j=[]:=by
     unfold a6.now
     cases hf:f.waits.find? λx=>x.i==j with
     |some x=>
      have hx:=h7 hf;have he:x.i=j:=by simpa using iN hf
      have:=bX x hx;omega
     |none=>
      have:¬j<f.bw.length:=ba;show f.bw.getD j []=[];rw[fI,me I];rfl
    rw[P];show((List.range (f.cm 3).n).map (f.cm 3).now).getD j []=[];rw[fI,me (by simp;show f.n<=j;omega)];rfl
  rw[aE,z,nc,bO,a4]
 have aH:AO D M:=by
  refine⟨by rw[t,z];exact a3,by rw[t];exact(qG (f.cm 3)).trans (by rw[z];exact a4),λj=>?_,by rw[t];rfl,by rw[t,z];show cg.aQ+1=_;omega,λm=>by rw[t,z];exact qH (cg.put (1%2) s (dT (1%2) (hX iu cg.n 1))) (iE (.inr rfl) W.f4 (a5 _)).1,?_,by rw[t];rfl,by rw[t];rfl,by rw[t,z];exact bN⟩
  .rw[bY,av,←R]
   by_cases P:j=1
   .rw[if_pos P,if_pos P]
   .rw[if_neg P,if_neg P]
    by_cases T:j=2
    .subst T;rfl
    .by_cases ab:j=0
     .subst ab;rfl
     .rw[if_neg I,if_neg T,if_neg ab]
  .rw[t]
   show(f.b5.set 3 _).getD 3 0=_;have bP:f.b5.length=4:=by rw[z];show(cg.b5.set 2 _).length=4;rw[dd];exact W.f4
   rw[eV (by rw[dd];omega),g1,aG];rfl
 have bb:∀q,b9 M q->b9 D q\/B.heap.size<=q:=λq b=>by
  rw[t]at b;have h1:b9 f q:=by
   rcases b with e|e|e|⟨x,hx,e⟩
   .exact .inl e
   .exact .inr (.inl e)
   .exact .inr (.inr (.inl e))
   .cases hx
  rw[z]at h1;rcases tZ bW q h1 with bc|bc
  .exact al q bc
  .exact .inr I
 have be:ae (b9 D) B a_:=cS (cS am V λq _ h=>h.elim) an λq b hf=>(al q hf).resolve_right I;have aJ:=(bQ.ext V).af an λhf=>by
  rcases al _ hf with h1|h1
  .exact U _ (bl _) h1
  .have:=ac.size;have:=S.lt;have:=Q.lt;have:=C.size;have:=Y.size;have:=K.size;have:=N.size;have:=G.size;omega
 have bZ:=a8.af an λhf=>by
  have:=aD.lt hf;omega
 have bg:=(bR.ext V).af an λq b hf=>by
  have bh:=Z q b;have aK:=(hs.ext (Ext.trans K (Ext.trans N (ae.refl _ _)))).lt q b;rcases al _ hf with h1|h1
  .exact U q (by have:=(J.trans C).size;omega) h1
  .have:=G.size;omega
 have cq:=be.size;have S:=ac.size;have bi:=mI X (l:=l) (u:=iu) (gen:=1) ⟨by have:=ap.1;omega,by have:=ap.2.1;omega⟩ ⟨by decide,by decide,by decide,by rw[aH.n];show(0:Int)<_;omega,by decide⟩ (by decide) (λj _=>by rw[t];rfl) sb;rw[aH.d]at bi;refine⟨0,rfl,λh=>(by cases h),λ_=>⟨_,aJ.cell,_,by rw[ay];exact aJ.cell,_,by rw[ay];exact aJ.cell,oT bZ (bi.use ?_)⟩⟩;rintro _ cr ⟨c,aV,bf,st,aM⟩;have b0:=aM.val;subst b0;refine⟨_,0,rfl,M,sb,s1,s2,c,aV,bf,st,a_,aM,bg.ext aM.x,aH,cS (ac.mono λ_ _ h=>h.elim) be λq _ h=>h,λq b=>?_,λq b=>?_,λq b hf=>?_⟩
 .have bh:=Z q b
  have aK:=bg.lt q b;have:=(J.trans C).size;exact⟨I,aK⟩
 .rcases bb q b with h1|h1
  .exact .inl h1
  .exact .inr ⟨I,X.lt b⟩
 .have bh:=Z q b
  have aK:=(hs.ext (Ext.trans K (Ext.trans N (ae.refl _ _)))).lt q b;rcases bb _ hf with h1|h1
  .exact U q (by have:=(J.trans C).size;omega) h1
  .have:=G.size;omega
end
theorem mZ{b d:Nat}(k:b<256)(hd:d<256)(w:J):aL aj 20 #[.int .u8 (b:Nat),.int .u8 (d:Nat)] w (λv w'=>v=.agg (fe.c ⟨8,1+b%12,1+d%12⟩).toArray/\Ext w w'):=by
 refine ah.CI _ _ w _ ?_;(delta ah.mZ aa au aF cd;dsimp only);have g:IntKind.wrap .i64 (1+IntKind.wrap .i64 (Int.tmod (b:Int) 12))=((1+b%12:Nat):Int):=by
  rw[pk I,bz (n:=(b:Int)%12) I I,bz I I];omega
 have h:IntKind.wrap .u64 (1+IntKind.wrap .u64 (Int.tmod (d:Int) 12))=((1+d%12:Nat):Int):=by
  rw[pk I,gj (n:=(d:Int)%12) I I,gj I I];omega
 rw[g,h];refine bd (vs:=[(0:Int),(0:Int),.int .u64 0]) rfl λw1 e i l=>⟨by decide,by decide,e.bU rfl (λv f=>?_),rfl,cl e (us:=fe.c ⟨8,1+b%12,1+d%12⟩) rfl rfl λai a j m=>⟨_,a.cell,_,by rw[ay];exact a.cell,_,by rw[ay];exact a.cell,rfl,Ext.cC i j (bl _)⟩⟩;simp only[c7,ff,fp]at f;rcases f with rfl|rfl|rfl<;>trivial
section
variable {w w':J}{s:ad}{T:O aU}{i g5:Nat}{most:Int}
def eL(s:Int)(p:bX)(t:aU):al:=decide (t.s=s)&&decide (t.p=p)
end
section
variable {w w':J}{s:ad}{T:O aU}{i g5:Nat}{most:Int}
def oX(T:O aU)(s:Int)(p:bX)(now:Nat):ar aU:=match T.findIdx? (eL s p) with
 |some i=>if (T.getD i aU.zero).u<=now then none else some (T.getD i aU.zero)
 |none=>none
theorem aU.oA{a b:aU}(h:a.c=b.c):a=b:=by
 obtain⟨s,p,cf,u⟩:=a;obtain⟨i,j,k,l⟩:=b;unfold aU.c at h;dsimp only at h;obtain⟨h1,e⟩:=List.cons.inj h;obtain⟨f,d⟩:=List.append_inj e (by rw[bX.bS,bX.bS]);have:=bX.oA f;simp at h1 d;subst this;obtain⟨g,m⟩:=d;subst h1 g
 congr 1
 omega
end
instance:DecidableEq aU:=λa b=>decidable_of_iff (a.s=b.s/\a.p=b.p/\a.b=b.b/\a.u=b.u) ⟨λh=>by cases a;cases b;simp_all,λh=>by rw[h];exact⟨rfl,rfl,rfl,rfl⟩⟩
theorem aU.dW(t:aU):aR.dW (.int .i64::(((.bool::jX 16)++ [.int .i64])++ [.int .i64,.int .u64])) t.c:=⟨_,_,rfl,⟨_,rfl⟩,uU t.p.dW ⟨_,_,rfl,⟨_,rfl⟩,_,_,rfl,⟨_,rfl⟩,rfl⟩⟩
theorem FY(a b:aU):iR aj 29 a.c.toArray b.c.toArray (decide (a=b)):=by
 have h:=iR.flat (P:=aj) (T:=29) (d:=(Tryz.prog.underlying 29).get (by kernel_rfl)) (ls:=.int .i64::(((.bool::jX 16)++ [.int .i64])++ [.int .i64,.int .u64])) (nx _).symm (by kernel_rfl) (by kernel_rfl) (by kernel_rfl) a.dW b.dW;have e:eY a.c b.c=decide (a=b):=by
  rw[fA,rz a.dW b.dW,cA];exact⟨aU.oA,λh=>by rw[h]⟩
 rwa[e]at h
section
variable {w w':J}{s t:ad}{T U:O aU}
end
structure jf(V:Nat->c2)(n gen:Nat)(u:eg)(g:Nat->al)(P:Nat->ar aB)(p:O Nat)(L:O aS):Prop where
 fr:∃j,j<n/\g j=false
 AQ:qw ((gen%2:Nat):Int) (V (gen%2))=.ok (u,n,gen)
 FZ:V (1-gen%2)=gO\/∃a g',qw ((1-gen%2:Nat):Int) (V (1-gen%2))=.ok (a,n,g')/\g'<gen
 mp:∃hE,hE<=gen/\fa (u.map:Int) (V u.map)=.ok ⟨4,hE,hF g ((n+7)/8)⟩
 g:∀no,g no=true↔no∈p\/no<2\/no=u.map
 bO:p.Nodup
 two:∀x∈p,2<=x/\x≠u.map/\x<n
 ok:(u.aH=0/\u.root=0/\p=[]/\L=[])\/e_ P u.aH none none u.root p L
 eE:∀x∈p,∀bO,P x=some bO->gr gen bO.leaf x (V x) bO
 keys:u.keys=L.length
 kv:∀q∈L,cR q.1/\q.2.length<=24
 F0:lY u
 ua:lZ u n
 F1:u.c_+1<=gen
theorem jf.agree{V a:Nat->c2}{n gen:Nat}{u:eg}{g:Nat->al}{P P':Nat->ar aB}{p:O Nat}{L:O aS}(h:jf V n gen u g P p L)(e3:∀j,g j=true->a j=V j)(b:∀x∈p,P x=P' x):jf a n gen u g P' p L:=by
 have h0:a (gen%2)=V (gen%2):=e3 _ ((h.g _).2 (.inr (.inl I)));have h1:a (1-gen%2)=V (1-gen%2):=e3 _ ((h.g _).2 (.inr (.inl I)));refine⟨h.fr,by rw[h0];exact h.AQ,by rw[h1];exact h.FZ,by rw[e3 _ ((h.g _).2 (.inr (.inr rfl)))];exact h.mp,h.g,h.bO,h.two,h.ok.imp id λc=>(c.agree b).1,λx hx bO d=>?_,h.keys,h.kv,h.F0,h.ua,h.F1⟩;rw[e3 _ ((h.g _).2 (.inl hx))];exact h.eE x hx bO (by rw[b x hx];exact d)
structure ck where
 st:Nat
 T:aP
 l:fe
 u:eg
 gen:Nat
 now:Nat
 first:Nat
 pending:Nat
 keys:Nat
 failed:al
def ck.V(S:ck)(j:Nat):c2:=S.T.C.D.bw.getD j []
def ck.cells(S:ck):O Y:=gA S.T.bf S.T.C.D.d S.T.C.c S.T.sb S.l S.u S.gen S.now S.first S.pending S.keys S.failed
structure fk(w:J)(S:ck)(aM:O Nat)(bp:O aS):Prop where
 v:Var w S.st S.cells 158
 t:b4 w S.T
 es:S.T.E S.st
 fz:jf S.V S.T.n S.gen S.u S.T.g S.T.P aM bp
 gen:S.T.gen=S.gen+1
 num:S.now<18446744073709551616/\S.first<=S.now/\S.u.c_+1<=S.gen/\S.gen+2<18446744073709551616/\S.l.batch<=1000/\S.l.hT<=1048576/\1<=S.l.batch
 bB:∀j,S.T.g j=true->S.T.C.D.bB j=true
structure dN(w:J)(S:ck)(pages:O Nat)(L:O aS)(aM:O Nat)(bp:O aS):Prop extends fk w S aM bp where
 ok:gu S.T pages L
 bO:pages.Nodup
 f:∀no,S.T.f no=true↔no∈pages\/no<2\/no=S.u.map
 two:∀x∈pages,2<=x/\x≠S.u.map
 kv:∀p∈L,cR p.1/\p.2.length<=24
 keys:S.keys=L.length
 nm:S.pending<=1000
 live:S.failed=false->¬S.T.C.D.ro/\S.T.C.D.dU=(λ_=> [])/\1<=cj S.T
 dead:S.failed=true->S.T.C.D.ro/\L=bp/\pages=aM/\S.pending=0
def a6.quiet(D:a6):Prop:=(∀k,D.calm k)/\D.b5.getD 3 0= -1
def ck.W(S:ck)(q:Nat):Prop:=S.T.M q/\(S.T.E q->q=S.st)
structure dz(k:Nat)(S aE:ck)(w w':J):Prop where
 st:aE.st=S.st
 d:aE.T.C.D.d=S.T.C.D.d
 n:aE.T.n=S.T.n
 l:aE.l=S.l
 aQ:aE.T.C.D.aQ<=S.T.C.D.aQ+k
 q:S.T.C.D.quiet->aE.T.C.D.quiet
 af:ae S.W w w'
 db:∀q,aE.T.M q->S.T.M q\/w.heap.size<=q
 E:aE.T.E=S.T.E
 G:aE.T.G=S.T.G
 r:aE.T.C.D.r1=S.T.C.D.r1
section
variable {w w':J}{C:bM}{X:Nat->Prop}{T:aP}{S aE:ck}{pages aM:O Nat}{L bp:O aS}
theorem fk.kz(h:fk w S aM bp){q:Nat}(a:S.T.N q):S.W q:=⟨aP.hC a,λhe=>absurd a (h.t.j4 he)⟩
theorem fk.wU(h:fk w S aM bp):S.W S.st:=⟨.inr (.inr (.inr (.inl h.es))),λ_=>rfl⟩
theorem dz.back{k q:Nat}(h:dz k S aE w w')(b:q<w.heap.size)(a:aE.W q):S.W q:=⟨(h.db q a.1).resolve_right I,λhe=>(a.2 (by rw[h.E];exact he)).trans h.st⟩
theorem dB.fW(h:dB X w C){s:Nat->al}{z:Nat->O c2}(hc:∀f∈C.ak,∀j:Nat,f.full=true->f.no=j->s j=true->f.fc=false)(b:∀j,s j=true->C.D.dE j=z j):
 dB X w {C with D:=C.D.fW s z}:=
 ⟨⟨h.raw.v,h.raw.f,h.raw.dev.fW s z,h.raw.cn,h.raw.cp,h.raw.hd,h.raw.a1⟩,h.inv.pins,λf hf a=>by
  obtain⟨no,av,c,d,e,g,k,i⟩:=h.inv.ok f hf a
  exact⟨no,av,c,d,e,g,λhs=>hc f hf no a av hs,i⟩,h.inv.un,h.inv.eK,b⟩
theorem b4.fW(h:b4 w T){s:Nat->al}{z:Nat->O c2}(hc:∀f∈T.C.ak,∀j:Nat,f.full=true->f.no=j->s j=true->f.fc=false)(a:∀j,s j=true->T.C.D.dE j=z j)(hs:∀j,s j=true->T.g j=true\/∀i,s i=true):
 b4 w (T.bK {T.C with D:=T.C.D.fW s z} T.P):=⟨h.t,h.s,h.ca.fW hc a,h.iF,h.dF,h.iq,h.n,h.num,h.eE,hs,h.low⟩
theorem F2(h:dB X w C){j:Nat}(hs:C.D.bB j=true):C.view j=C.D.now j:=by
 unfold bM.view
 cases hf:C.ak.find? λf=>f.full&&f.no==(j:Int) with
 |none=>rfl
 |some f=>
  have h1:=iN hf;have a:=h7 hf;simp only[dn,ji]at h1;obtain⟨no,av,d,e,g,b,c,i⟩:=h.inv.ok f a h1.1;have:no=j:=by omega
  subst this;exact b (c hs)
theorem F3(h:dB X w C){j:Nat}(hs:C.D.bB j=true)(a:C.D.dU j=[]):C.view j=C.D.bw.getD j []:=by
 rw[F2 h hs,we _ (λx hx=>(h.raw.dev.wn x hx).1),if_pos (by rw[h.inv.kq j hs,a])]
theorem dN.view(h:dN w S pages L aM bp)(a:S.failed=false){j:Nat}(b:S.T.g j=true):S.T.C.view j=S.V j:=
 F3 h.t.ca (h.bB j b) (by rw[(h.live a).2.1])
theorem fk.ew(h:fk w S aM bp):tX S.T.C.D.n (S.u.root:Nat) (S.u.aH:Nat):=by
 obtain⟨h1,a,b,_⟩:=h.fz.ua;rw[h.t.n];exact⟨I,I,I,I,I⟩
theorem fk.set(h:fk w S aM bp){i:Nat}{x:Y}(hi:i<19):(∃u:Y,w.cell? ⟨S.st,i,none⟩=some u)/\w.frozen? ⟨S.st,i,none⟩=false/\
 Var (w.setCell ⟨S.st,i,none⟩ x) S.st (S.cells.set i x) 158/\b4 (w.setCell ⟨S.st,i,none⟩ x) S.T/\ae (λq=>q=S.st) w (w.setCell ⟨S.st,i,none⟩ x):=by
 obtain⟨av,a⟩:=er h.v (i:=i) (by exact hi);exact⟨av,a,ep h.v (i:=i) x,h.t.jH h.es (dL w S.st i x),dL w S.st i x⟩
end
structure F4(S aE:ck):Prop where
 u:aE.u=S.u
 gen:aE.gen=S.gen
 now:aE.now=S.now
 failed:aE.failed=true
 V:aE.T.C.D.bw=S.T.C.D.bw
 sa:∀j,aE.T.C.D.dU j=S.T.C.D.dE j
 aQ:aE.T.C.D.aQ=S.T.C.D.aQ
section
variable {w w':J}{C:bM}{X:Nat->Prop}{T:aP}{S aE:ck}{pages aM:O Nat}{L bp:O aS}
theorem AR(h:fk w S aM bp)(e:Int)(cC:S.T.C.D.aQ<=900000000):
 aL aj 81 #[.pointer (some S.st),e] w (λv w'=>v=e/\∃aE,dN w' aE aM bp aM bp/\dz 0 S aE w w'/\F4 S aE):=by
 refine okF (ah.sn (some S.st) e) az.sn func81 ?_;(delta ah.sn st fS bJ ao aK aF cc au cd hO;dsimp only);have aN:=h.ew;obtain⟨av,bq,a0,cD,br⟩:=h.set (i:=18) (x:=true) (by decide);refine⟨_,rfl,by rw[ay];exact av,by rw[ay];exact bq,aX ?_⟩;rw[ay,cU];obtain⟨bs,bt⟩:=er a0 (i:=16) (by simp[ck.cells,gA]);have aO:=ep a0 (i:=16) (0:Int);have aa:=br.trans (dL _ S.st 16 (0:Int));refine⟨_,rfl,by rw[ay];exact bs,by rw[ay];exact bt,aX ?_⟩;rw[ay,cU];generalize cE:(w.setCell ⟨S.st,18,none⟩ true).setCell ⟨S.st,16,none⟩ (0:Int)=bu at aO aa⊢;have ab:=h.t.jH h.es aa;have cF:=aa.size;refine⟨_,rfl,_,by rw[ay];exact aO.cell,(EN ab.s).use ?_⟩;rintro _ bv ⟨rfl,s1,bx,ac,bA⟩;have cG:=ac.size;obtain⟨ad,a1⟩:=ab.space bx ac bA ab.bB ab.low;have a2:=aO.af ac (h.t.dF _ h.es).2.1;obtain⟨gH,B⟩:∃gH,gH=S.T.tY S.T.g S.T.g s1 S.T.s2:=⟨_,rfl⟩;rw[←B]at ad a1;have aP:gH.C=S.T.C:=by rw[B];rfl
 have bC:gH.E=S.T.E:=by rw[B];rfl
 have bD:gH.g=S.T.g:=by rw[B];rfl
 have bE:gH.P=S.T.P:=by rw[B];rfl
 have bF:gH.n=S.T.n:=by rw[B];rfl
 have bG:gH.sb=S.T.sb:=by rw[B];rfl
 have bH:gH.G=S.T.G:=by rw[B];rfl
 have bI:gH.gen=S.T.gen:=by rw[B];rfl
 have bL:gH.f=S.T.g:=by rw[B];rfl
 have bN:∀q,gH.M q->S.T.M q\/w.heap.size<=q:=λq k=>(a1 q k).imp id λh=>by omega
 have cH:∀ (w':J),Var w' S.st ((S.cells.set 18 true).set 16 (0:Int)) 158->w'.cell? ⟨S.st,2,none⟩=some (.pointer (some S.T.C.c)):=λw' aR=>aR.cell;refine⟨rfl,_,rfl,_,by rw[ay];exact a2.cell,?_⟩;have a3:=AK ad.ca.raw;rw[aP]at a3;refine a3.use ?_;rintro _ ai ⟨s,zs,rfl,bP,aS,al,bQ⟩;have cK:=al.size
 have bR:∀z∈zs,∃no:Nat,z=(no:Int)/\S.T.g no=false:=λz H=>by
  have:=aS.mem_iff.1 H;unfold ir at this;obtain⟨f,hf,rfl⟩:=e6.1 this;obtain⟨bS,a4⟩:=gf.1 hf;have a5:f.full=true/\f.fc=true:=by unfold Fr.gb at a4;simpa using a4
  obtain⟨no,cn,cp,am,an,a7,bT⟩:=h.t.ca.inv.ok f bS a5.1;refine⟨no,cn,?_⟩
  cases hg:S.T.g no with
  |false=>rfl
  |true=>
   have:=bT (h.bB no hg);rw[a5.2]at this;cases this
 have cM:zs.length<=64:=by
  rw[aS.length_eq];unfold ir;rw[dG];exact ei (pn _ _) h.t.ca.raw.cp
 have aT:=ad.ext al;obtain⟨P',aU⟩:∃P':Nat->ar aB,P'=λno=>if S.T.g no=true then S.T.P no else none:=⟨_,rfl⟩
 obtain⟨bU,_⟩:=aT.oV (P:=P') aT.ca (dM.refl gH.C ai) (λno bO o=>by
  rw[aU]at o;dsimp only at o;by_cases hg:S.T.g no=true
  .rw[if_pos hg]at o
   exact aT.eE no bO (by rw[bE];exact o)
  .rw[if_neg hg]at o;cases o)
 have bV:∀q,aC s q->¬cP S.T.C q:=λq k hf=>by
  have:=bQ q k;have:=ad.lt (q:=q) (.inl (by rw[aP];exact hf));omega
 refine⟨s,rfl,λn16 l=>∃ (i:Nat) (aD:bM),n16=(i:Nat)/\i<=zs.length/\b4 l (gH.bK aD P')/\dM S.T.C aD ai l 0/\aD.D=S.T.C.D/\(∀j,S.T.g j=true->aD.view j=S.T.C.view j)/\(∀f∈aD.ak,f.full=true->f∈S.T.C.ak/\∀z∈zs.take i,f.no≠z)/\aZ 1 3 l s (zs.map encZ)/\(∀q,aC s q->¬cP aD q),
  λn16 _=>((zs.length:Int)-n16).toNat,⟨0,S.T.C,rfl,cX _,by rw[←aP];exact bU,.refl _ _,rfl,λ_ _=>rfl,λf hf _=>⟨hf,λz H=>(by simp at H)⟩,bP,bV⟩,?_⟩
 rintro _ l ⟨i,aD,rfl,hi,R,L,r,bW,a8,ap,a9⟩;have cN:s.len=zs.length:=by have:=ap.1;rw[dG]at this;omega
 have bX:∀ (w':J),ae (cP S.T.C) ai w'->Var w' S.st ((S.cells.set 18 true).set 16 (0:Int)) 158:=λw' hc=>(a2.ext al).af hc λhf=>(h.t.ca.inv.eK _ (.inr (.inr (.inl h.es)))).2 hf;have a_:=bX _ L.af;refine⟨λK=>?_,λK=>?_⟩
 .have K:(i:Int)<(s.len:Int):=cu K
  have aw:i<zs.length:=by omega
  obtain⟨A,aq,bY⟩:∃a:ag,s.a=some a/\l.cell? (a.add (Int.toNat (i:Int)*1))=some (.int .i64 zs[i]):=by
   obtain⟨b,c,K,_,_,_,_,bZ,_⟩:=ap.cell (i:=i) (v:=encZ zs[i]) (by rw[lj,dI aw];rfl);exact⟨_,K,by rw[dO,ay,cU,fH];exact bZ⟩
  obtain⟨no,ba,b0⟩:=bR _ (cI aw);refine⟨A,aq,⟨I,K⟩,zs[i],bY,_,rfl,_,by rw[ay];exact a_.cell,?_⟩;have bb:=Ab R.ca no;rw[ba];have U:aD.c=S.T.C.c:=L.c;have b1:(gH.bK aD P').C.c=S.T.C.c:=U;rw[b1]at bb;refine bb.use ?_;rintro _ cO ⟨⟨b,rfl⟩,bc,b2,ax,aR,b3,b5⟩;have bd:∀j,S.T.g j=true->bc.view j=aD.view j:=λj X=>aR j λe=>by rw[e,b0]at X;cases X
  obtain⟨b7,_⟩:=R.oV (P:=P') b2 ax (λj bO o=>by
   obtain⟨bo,bj⟩:=R.eE j bO o;have b8:S.T.g j=true:=by
    cases hg:S.T.g j with
    |true=>rfl
    |false=>rw[aU]at o;simp[hg]at o
   rw[bd j b8];exact⟨bo,bj⟩)
  have b9:((zs.length:Int)-((i+1:Nat):Int)).toNat<((zs.length:Int)-(i:Int)).toNat:=by omega
  have be:IntKind.wrap .i64 ((i:Int)+1)=((i+1:Nat):Int):=by rw[bz I I];omega
  have b_:=ap.af ax.af λq k hf=>a9 q k hf;refine⟨b,rfl,⟨i+1,bc,be,aw,b7,(L.trans ax).mono (bl _),b3.trans r,λj X=>(bd j X).trans (bW j X),λf hf N=>?_,b_,λq k hf=>?_⟩,by rw[be];exact b9⟩
  .obtain⟨cn,cp⟩:=b5 f hf N
   obtain⟨am,an⟩:=a8 f cn N;refine⟨am,λz H=>?_⟩;rw[j_ aw,cL,fo]at H;rcases H with H|rfl
   .exact an z H
   .rw[ba];exact cp
  .rcases ax.db q hf with h1|h1
   .exact a9 q k h1
   .have:=aZ.lt ap q k;omega
 have K:¬(i:Int)<(s.len:Int):=cQ K;obtain rfl:i=zs.length:=by omega
 have cb:∀f∈aD.ak,f.full=true->f.fc=false:=λf hf N=>by
  obtain⟨cn,cp⟩:=a8 f hf N
  cases hd:f.fc with
  |false=>rfl
  |true=>
   refine absurd rfl (cp f.no ?_);rw[jj];refine aS.mem_iff.2 (e6.2 ⟨f,gf.2 ⟨cn,?_⟩,rfl⟩);unfold Fr.gb;rw[N,hd];rfl
 have U:aD.c=S.T.C.c:=L.c;obtain⟨eS,y⟩:∃eS,eS=gH.bK aD P':=⟨_,rfl⟩;rw[←y]at R;have f1:eS.C=aD:=by rw[y];rfl
 have f2:eS.E=S.T.E:=by rw[y];exact bC
 have f3:eS.g=S.T.g:=by rw[y];exact bD
 have f4:eS.P=P':=by rw[y];rfl
 have f5:eS.n=S.T.n:=by rw[y];exact bF
 have f6:eS.sb=S.T.sb:=by rw[y];exact bG
 have f7:eS.G=S.T.G:=by rw[y];exact bH
 have f8:eS.gen=S.T.gen:=by rw[y];exact bI
 have f9:eS.f=S.T.g:=by rw[y];exact bL
 have aV:∀q,eS.M q->S.T.M q\/w.heap.size<=q:=λq k=>by
  rw[y]at k;rcases k with k|k
  .rcases L.db q k with h1|h1
   .exact .inl (.inl h1)
   .exact .inr I
  .exact bN q (.inr k)
 have cR:=L.af.size;refine kh (λaA=>∃bf,fk aA {S with T:=(eS.b6 bf S.T.gen S.u.root S.u.aH S.T.E).bK {aD with D:=aD.D.fW (λ_=>true) aD.D.dE} P',pending:=0,failed:=true} aM bp/\l.heap.size<=bf/\ae (λq=>q=S.st) l aA) (λcT ce=>aX ?_) ?_
 .have aG:Ext l l.drew:=cJ _
  have Q:=a_.ext aG;have aI:=R.ext aG;have bg:=aI.ca.raw;rw[f1]at bg;have bh:=mL bg S.T.sb (S.T.gen:Int) (S.u.root:Int) (S.u.aH:Int);rw[U]at bh;refine⟨λ_=>False,_,rfl,id,_,by rw[ay];exact Q.cell,_,rfl,id,_,by rw[ay];exact Q.cell,_,rfl,id,_,by rw[ay];exact Q.cell,_,rfl,id,_,by rw[ay];exact Q.cell,_,rfl,id,_,by rw[ay,ay];exact Q.cell,?_⟩;have cf:IntKind.wrap .u64 ((S.gen:Int)+1)=(S.T.gen:Int):=by rw[gj I (by have:=h.num;omega)];have:=h.gen;omega
  rw[cf];refine bh.use ?_;rintro _ aW (⟨_,rfl,Z,cg,cV⟩|⟨ch,_⟩)
  rotate_left
  .exact absurd (by rw[r];exact aN) ch
  have cW:=Z.size;refine⟨_,0,rfl,Z,λ_=>?_,λhx=>(by cases hx)⟩;have bi:=Q.ext Z;obtain⟨cn,cp⟩:=er bi (i:=0) (by simp[ck.cells,gA]);have ci:=ep bi (i:=0) (.pointer (some l.drew.heap.size));have bk:=dL aW S.st 0 (.pointer (some l.drew.heap.size));have cj:b4 aW (eS.b6 l.drew.heap.size S.T.gen S.u.root S.u.aH S.T.E):=by
   refine aI.tree Z (by show Var _ _ [.pointer (some eS.C.c),.pointer (some eS.sb),_,_,_] _;rw[f1,U,f6];exact cg) (.inr (bl _)) (λq k=>?_) ⟨?_,?_,?_⟩ λno bO o=>?_
   .have h1:=aI.lt (q:=q) (.inr (.inr (.inr (.inl (by rw[f2];exact k)))))
    exact⟨I,.inl (by rw[f2];exact k)⟩
   .rw[f5,←h.t.n];have:=aN.2.2.2.1;omega
   .have:=aN.2.1;omega
   .exact h.t.num.2.2
   .rw[←f8];exact aI.eE no bO o
  have cl:=cj.fW (s:=λ_=>true) (z:=eS.C.D.dE) (λf hf j N _ _=>cb f (by rw[←f1];exact hf) N) (λ_ _=>rfl) λ_ _=>.inr λ_=>rfl;have bm:b4 aW ((eS.b6 l.drew.heap.size S.T.gen S.u.root S.u.aH S.T.E).bK {eS.C with D:=eS.C.D.fW (λ_=>true) eS.C.D.dE} eS.P):=cl;rw[f1,f4]at bm;refine⟨_,rfl,cn,cp,aX (ce _ ⟨l.drew.heap.size,⟨?_,bm.jH h.es bk,h.es,?_,h.gen,h.num,λ_ _=>rfl⟩,aG.size,((Ext.trans aG Z).mono λ_ _ h=>h.elim).trans bk⟩)⟩
  .show Var _ _ (gA _ aD.D.d aD.c eS.sb _ _ _ _ _ _ _ _) _
   rw[r,U,f6];exact ci
  .show jf (λj=>aD.D.bw.getD j []) eS.n _ _ eS.g P' _ _
   rw[r,f5,f3];exact h.fz.agree (λ_ _=>rfl) λx hx=>by
    rw[aU];dsimp only;rw[if_pos ((h.fz.g x).2 (.inl hx))]
 .rintro aA ⟨bf,F,cY,cm⟩
  obtain⟨cy,p⟩:∃cy:ck,cy={S with T:=(eS.b6 bf S.T.gen S.u.root S.u.aH S.T.E).bK {aD with D:=aD.D.fW (λ_=>true) aD.D.dE} P',pending:=0,failed:=true}:=⟨_,rfl⟩;rw[←p]at F;have O:cy.st=S.st:=by rw[p]
  obtain⟨cn,cp,am,an,a7⟩:=F.set (i:=17) (x:=S.u.keys) (by decide);have co:∃z:Y,cy.cells[12]? =some z/\z=S.u.keys:=⟨_,by rw[p];rfl,rfl⟩;obtain⟨z,cq,rfl⟩:=co;have cr:({cy with keys:=S.u.keys}:ck).cells=cy.cells.set 17 S.u.keys:=by rw[p];rfl
  have m:cy.T=(eS.b6 bf S.T.gen S.u.root S.u.aH S.T.E).bK {aD with D:=aD.D.fW (λ_=>true) aD.D.dE} P':=by rw[p]
  have gY:cy.T.n=S.T.n:=by rw[m];exact f5
  have cs:cy.T.C.D.bw=S.T.C.D.bw:=by rw[m];show aD.D.bw=_;rw[r]
  have aJ:cy.u=S.u:=by rw[p]
  have ct:cy.gen=S.gen:=by rw[p]
  have cv:cy.T.f=S.T.g:=by rw[m];exact f9
  have cw:cy.T.C.D.ro:=by rw[m];exact λ_=>rfl
  have bn:cy.failed=true:=by rw[p]
  refine⟨_,rfl,_,by rw[ay,ay,←O];exact F.v.cell.trans cq,_,rfl,by rw[ay,←O];exact cn,by rw[ay,←O];exact cp,aX ⟨rfl,{cy with keys:=S.u.keys},⟨⟨?_,?_,F.es,F.fz,F.gen,F.num,F.bB⟩,?_,h.fz.bO,λno=>?_,λx hx=>?_,h.fz.kv,h.fz.keys,?_,λhf=>?_,λ_=>⟨cw,rfl,rfl,by rw[p]⟩⟩,?_,⟨aJ,ct,by rw[p],bn,cs,λj=>?_,by rw[show({cy with keys:=S.u.keys}:ck).T=cy.T from rfl,m];show aD.D.aQ=_;rw[r]⟩⟩⟩
  .rw[cr,ay,cU,←O];exact am
  .rw[ay,cU,←O];exact an
  .show gu cy.T aM bp
   rw[m];have:=F.fz.ok;rw[m,aJ]at this;exact this
  .show cy.T.f no=true↔no∈aM\/no<2\/no=cy.u.map
   rw[cv,aJ];exact h.fz.g no
  .rw[show({cy with keys:=S.u.keys}:ck).u=S.u from aJ]
   exact⟨(h.fz.two x hx).1,(h.fz.two x hx).2.1⟩
  .show cy.pending<=1000
   rw[p];exact cX _
  .rw[show({cy with keys:=S.u.keys}:ck).failed=true from bn]at hf;cases hf
  .refine⟨O,?_,gY,by rw[p],?_,λk=>?_,?_,λq k=>?_,?_,?_,?_⟩
   .show cy.T.C.D.d=_
    rw[m];show aD.D.d=_;rw[r]
   .show cy.T.C.D.aQ<=_
    rw[m];show aD.D.aQ<=_;rw[r];omega
   .show cy.T.C.D.quiet
    rw[m];show a6.quiet (aD.D.fW _ _);rw[r];exact k
   .rw[ay,cU]
    have aY:∀q,q=S.st->S.W q:=λq e=>by rw[e];exact h.wU
    have h1:ae S.W w bu:=aa.mono λq _ e=>aY q e;have cx:ae S.W w bv:=cS h1 ac λq _ k=>h.kz (.inr (.inr (.inl k)));have cz:ae S.W w ai:=cS cx al λq _ k=>k.elim;have cA:ae S.W w l:=cS cz L.af λq _ k=>h.kz (.inl k);have cB:ae S.W w aA:=cS cA cm λq _ k=>aY q k;exact cS cB (V:=λq=>q=S.st) (by rw[←O];exact a7) λq _ k=>aY q k
   .have k:cy.T.M q:=k
    rw[m]at k;rcases k with k|k|k|k|k
    .exact aV q (.inl (by rw[f1];exact k))
    .have k:q=bf:=k
     exact .inr I
    .exact aV q (.inr (.inr (.inl k)))
    .exact .inl (.inr (.inr (.inr (.inl k))))
    .exact aV q (.inr (.inr (.inr (.inr k))))
   .show cy.T.E=_
    rw[m];rfl
   .show cy.T.G=_
    rw[m];exact f7
   .show cy.T.C.D.r1=_
    rw[m];show aD.D.r1=_;rw[r]
  .show cy.T.C.D.dU j=_
   rw[m];show aD.D.dE j=_;rw[r]
end
theorem gr.mono{gen a no:Nat}{leaf:al}{l:c2}{n:aB}(h:gr gen leaf no l n)(hg:gen<=a):gr a leaf no l n:=by
 obtain⟨p,h1,b,c⟩:=h;exact⟨p,h1,ei b hg,c⟩
section
variable {w w':J}{C:bM}{X:Nat->Prop}{T:aP}{S aE:ck}{pages aM:O Nat}{L bp:O aS}
theorem F5{aw:a6}(h:dB X w C)(hd:c3 w' aw)(e:aw.d=C.D.d)(g:jD aw C.D)(k:∀i,2<=i->aw.now i=C.D.now i)(hc:ae (b9 C.D) w w')(hf:∀q,b9 aw q->b9 C.D q\/w.heap.size<=q):
 dB X w' {C with D:=aw}/\∀j,2<=j->({C with D:=aw}:bM).view j=C.view j:=by
 have o:=hc.size;have l:∀q,q<w.heap.size->cP {C with D:=aw} q->cP C q:=λq a b=>by
  rcases b with h1|h1|h1
  .exact .inl h1
  .exact .inr (.inl h1)
  .exact .inr (.inr ((hf q h1).resolve_right I))
 refine⟨⟨h.raw.oz hd e hc hf,h.inv.pins,λf p r=>?_,h.inv.un,λq a=>⟨fm (h.inv.eK q a).1 o,λb=>(h.inv.eK q a).2 (l q (h.inv.eK q a).1 b)⟩,g.2.2⟩,λj s=>?_⟩
 .obtain⟨no,av,t,u,v,x,y,m⟩:=h.inv.ok f p r
  exact⟨no,av,by rw[show({C with D:=aw}:bM).D.n=aw.n from rfl,g.1];exact t,bn.re u hc (λq _ c z=>c.1 (.inr (.inr z))) λq a c=>⟨λb=>c.1 (l q a b),c.2⟩,v,λhd=>by show _=aw.now no;rw[k no m];exact x hd,λhs=>y (g.2.1 _ hs),m⟩
 .unfold bM.view
  dsimp only
  cases C.ak.find? λf=>f.full&&f.no==(j:Int) with
  |some f=>rfl
  |none=>exact k j s
theorem b4.AS{aD:bM}{P:Nat->ar aB}(h:b4 w T)(a:dB T.X w' aD)(hc:ae (cP T.C) w w')(e:aD.c=T.C.c)(b:aD.D.n=T.C.D.n)(d:∀no bO,P no=some bO->no<T.n/\gr T.gen bO.leaf no (aD.view no) bO)(f:∀j,aD.D.bB j=true->T.g j=true\/aD.D.ro):
 b4 w' (T.bK aD P):=by
 have hx:=h.ca.inv.eK;refine⟨?_,h.s.af hc λq i hf=>(hx q (.inr (.inl i))).2 hf,a,h.iF,h.dF,h.iq,b.trans h.n,h.num,d,f,h.low⟩;have:=h.t.af hc λhf=>(hx T.bf (.inl rfl)).2 hf;unfold j6 at this⊢;rw[←e]at this;exact this
def aP.k6(T:aP)(gen:Nat):aP:={T with gen:=gen}
theorem b4.F6{gen:Nat}(h:b4 w T)(b:Var w' T.bf (j6 (T.k6 gen)) 239)(hc:ae (λq=>q=T.bf) w w')(h1:T.gen<=gen)(c:gen<18446744073709551616):b4 w' (T.k6 gen):=
 ⟨b,h.s.af hc λq d e=>h.iF (e▸d),h.ca.af hc λq e=>.inl e,h.iF,h.dF,h.iq,h.n,⟨h.num.1,h.num.2.1,c⟩,λno bO a=>⟨(h.eE no bO a).1,(h.eE no bO a).2.mono h1⟩,h.bB,h.low⟩
theorem F7(h:b4 w T){gen:Nat}(h1:T.gen<=gen)(a:gen<18446744073709551616):
 aL aj 164 #[.pointer (some T.bf),.int .u64 (gen:Nat)] w (λv w'=>v=.tuple #[]/\b4 w' (T.k6 gen)/\ae (λq=>q=T.bf) w w'):=by
 refine ah.Cv _ _ w _ ?_;(delta ah.p6 ao st;dsimp only);obtain⟨av,b⟩:=er h.t (i:=2) (by simp[j6]);have c:=ep h.t (i:=2) (.int .u64 (gen:Nat));have hc:=dL w T.bf 2 (.int .u64 (gen:Nat));refine⟨λ_=>⟨_,rfl,by rw[ay];exact av,by rw[ay];exact b,aX ?_⟩,λd=>(by cases d)⟩;rw[ay,cU];exact⟨rfl,h.F6 c hc h1 a,hc⟩
def AT(aE:ck)(gen:Nat)(g:Nat->al)(pages:O Nat)(L:O aS)(clock c_:Nat):Prop:=
 (∀j,g j=true->aE.T.C.D.dU j=[])\/
 ∃ (a:eg) (av:Nat->al) (c:Nat->ar aB) (b:c2),(∀j,aE.T.C.D.dU j=if j=(gen+1)%2 then [b] else [])/\jf (λj=>if j=(gen+1)%2 then b else aE.V j) aE.T.n (gen+1) a av c pages L/\a.clock=clock/\a.c_=c_
def oY(S:ck)(pages:O Nat)(L:O aS)(aM:O Nat)(bp:O aS)(w:J)(v:Y)(w':J):Prop:=
 ∃aE,dz 100 S aE w w'/\aE.now=S.now/\
  ((v=.int .i64 0/\dN w' aE pages L pages L/\aE.failed=false/\aE.gen=S.gen+1/\aE.u.clock=S.now/\aE.u.c_=S.u.c_+1/\aE.pending=0)\/
   (v=.int .i64 3/\¬S.T.C.D.quiet/\dN w' aE aM bp aM bp/\aE.failed=true/\aE.u=S.u/\aE.gen=S.gen/\(∀j,S.T.g j=true->aE.V j=S.V j)/\AT aE S.gen S.T.g pages L S.now (S.u.c_+1)))
end
end Go.Proofs.YtkdhdlfonmgheaaGreat
