/- Contracts of the functions that the statement reaches, and the plain laws over them; each theorem stands with its conditions. -/
import Derived.Test.YtcmgnhkpfllinaaGreatBALasts6
namespace Go.Proofs.YtcmgnhkpfllinaaGreat
open Go aS Go.Proofs.Tryz
variable{s:ad}{q e now:Nat}{p:br}{m:Int}
structure BY(D:a8)(l:e0)(a_:U1)(k:Nat)(w w':J)(S:b_):Prop where
 live:S.failed=false
 nQ:S.pending=0
 now:S.now=S.u.clock
 l:S.l=l
 d:S.T.C.D.d=D.d
 n:S.T.n=D.n
 q:S.T.C.D.quiet
 aX:S.T.C.D.aX<=D.aX+k
 M:∀q,S.T.M q->b4 D q\/a_ q\/w<=q
 E:∀q,S.T.E q↔q=S.st\/a_ q
 st:w.heap.size<=S.st
 r:S.T.C.D.r1=D.r1
 ah:ag (b4 D) w w'
section
variable {w w':J}{D:a8}{a_:U1}
theorem Nc{l:e0}(h:cL w D)(y:mY (l.aw:Nat) (l.batch:Nat) (l.h5:Nat))(N:∀k,D.calm k)(sg:D.cu.getD 3 0= -1)(O:D.aX<=999999000)(z:∀q,a_ q->q<w/\¬b4 D q):
 aH aj 21 #[.pointer (some D.d),.agg l.c.toArray] w (λv w'=>∃S:b_,v=.tuple #[.pointer (some S.st),U8]/\dJ w' S [] [] [] []/\BY D l a_ 4 w w' S/\S.u=ki/\S.gen=1):=by
 have aa:=h.b6;have P:=h.bx;refine(pL h y N sg O).mono ?_;rintro v w' ⟨aF,sb,s1,s2,c,aU,bd,st,k7,R⟩;obtain rfl:=R.F5.val;have hd:=R.r2;have B:=R.F5;have ab:=R.ah.size;have ac:=B.x.size;have ad:=B.hc;have ae:=B.hf;have af:=B.ht;have ag:=B.sv.lt;have E:∀j,aF.bJ.getD j []=aF.now j:=λj=>by unfold a8.now;rw[hd.waits];rfl
 have m:∀q,du (jx c aU l.aw aF) q->q=c\/q=aU\/b4 aF q:=λq h=>h;have G:∀q,b4 aF q->q<k7:=λq b=>by
  rcases R.dq q b with h1|h1
  .have:=h.lt h1;omega
  .omega
 have Q:aF.quiet:=⟨hd.calm,hd.cu⟩;obtain⟨T,a⟩:=U6 (⟨bd,1+1,0,0,jx c aU l.aw aF,sb,D.n,λi=>decide (i<3),λi=>decide (i<3),s1,s2,λq=>q=st\/a_ q,λ_=>False,λ_=>none⟩:aN);have U:∀q,a_ q->q<w/\¬b4 aF q:=λq b=>⟨(z q b).1,λhf=>by
  rcases R.dq q hf with h1|h1
  .exact(z q b).2 h1
  .have:=(z q b).1;omega⟩
 have V:b5 w' T:=by
  have H:eu T.X w' (jx c aU l.aw aF):=Gt B.ca λq b=>by
   rw[a]at b;obtain h1|h1|h1|h1:=b
   .have h1:q=bd:=h1
    refine⟨I,λhf=>?_⟩;rcases m q hf with h2|h2|h2
    .omega
    .omega
    .have:=G q h2;omega
   .have A:=R.uI q h1
    refine⟨I,λhf=>?_⟩;rcases m q hf with h2|h2|h2
    .omega
    .omega
    .have ai:=B.ca.raw.dev
     exact R.Mu q h1 h2
   .rcases(show q=st\/a_ q from h1) with h1|h1
    .refine⟨I,λhf=>?_⟩
     rcases m q hf with h2|h2|h2
     .omega
     .omega
     .have:=G q h2;omega
    .have A:=U q h1
     refine⟨I,λhf=>?_⟩;rcases m q hf with h2|h2|h2
     .omega
     .omega
     .exact A.2 h2
   .exact h1.elim
  rw[a]at H⊢;refine⟨B.cY,R.sp,H,λhf=>U4 (R.uI bd hf),λq b=>?_,λq b=>b.elim,hd.n,⟨by show 0<D.n;omega,(by decide:0<=12),(by decide:1+1<18446744073709551616)⟩,λno bN F=>(by cases F),λj f=>.inl ?_,⟨rfl,rfl⟩⟩
  .rcases(show q=st\/a_ q from b) with h1|h1
   .exact⟨by show q≠bd;omega,λhf=>U4 (R.uI q hf),λh=>h⟩
   .have A:=z q h1
    exact⟨by show q≠bd;omega,λhf=>U4 (R.uI q hf),λh=>h⟩
  .have f:aF.cl j=true:=f
   rw[hd.cl]at f;exact f
 have J:k8 ki D.n:=⟨Iff.intro (λ_=>rfl) (λ_=>rfl),by decide,by show 0<D.n;omega,by show 2<D.n;omega,by decide,P⟩;have K:oT ki:=⟨by decide,by decide,by decide,by decide,by decide,by decide⟩;have L:iT (λj=>aF.bJ.getD j []) D.n 1 ki (λi=>decide (i<3)) (λ_=>none) [] []:=by
  refine⟨⟨3,I,rfl⟩,?_,.inl ?_,⟨1,bk _,?_⟩,λno=>?_,List.nodup_nil,λx hx=>(by cases hx),.inl ⟨rfl,rfl,rfl,rfl⟩,λx hx=>(by cases hx),rfl,λq b=>(by cases b),K,J,bk _⟩
  .show hU ((1:Nat):Int) (aF.bJ.getD 1 [])=_
   rw[E,hd.now];exact EJ K J (by decide) (by decide)
  .show aF.bJ.getD 0 []=g2
   rw[E,hd.now];rfl
  .show dX ((2:Nat):Int) (aF.bJ.getD 2 [])=_
   rw[E,hd.now];exact yb I ⟨(by decide:1<=4),(by decide:4<=4),(by decide:1<18446744073709551616),by show(gf _ _).length<=232;rw[qB];omega⟩
  .show decide (no<3)=true↔no∈ []\/no<2\/no=2
   simp only[e2,false_or,b8];omega
 obtain⟨S,o⟩:=U6 (⟨st,T,l,ki,1,0,0,0,0,false⟩:b_);have W:1<=cy T:=by
  have h1:=uz (s:=λi=>decide (i<3)||decide (i<3)) (t:=dA (λi=>decide (i<3)||decide (i<3)) 3 true) (k:=3) U9 (by simp[dA]) (λi hi=>by simp[dA,hi]) (n:=D.n) I;have h2:=nF (dA (λi=>decide (i<3)||decide (i<3)) 3 true) D.n;have A:cy T=D.n-e1 (λi=>decide (i<3)||decide (i<3)) D.n:=by rw[a];rfl
  omega
 refine⟨S,by rw[o],?_,?_,by rw[o],by rw[o]⟩
 .rw[o]
  refine⟨⟨?_,V,by rw[a];exact .inl rfl,by rw[a];exact L,by rw[a],⟨(by decide:0<18446744073709551616),bk _,bk _,(by decide:1+2<18446744073709551616),?_,?_,?_⟩,λj f=>?_⟩,.inl ?_,List.nodup_nil,?_,λx hx=>(by cases hx),λp F=>(by cases F),rfl,cI _,λ_=>⟨?_,by rw[a];exact hd.eW,W⟩,nofun⟩
  .show Var w' st (jB T.bd T.C.D.d T.C.c T.sb _ _ _ _ _ _ _ _) _
   rw[a];exact B.sv
  .have:=y.2.2.2.1;show l.batch<=1000;omega
  .have:=y.2.2.2.2.2;show l.h5<=1048576;omega
  .have:=y.2.2.1;show 1<=l.batch;omega
  .have f:T.g j=true:=f
   show T.C.D.cl j=true;rw[a]at f⊢;show aF.cl j=true;rw[hd.cl];exact f
  .rw[a];exact⟨rfl,rfl,rfl,rfl⟩
  .intro no
   have Y:=L.g no;rw[a];exact Y
  .intro e
   have h1:aF.cl 5=true:=by have:=e 5;rw[a]at this;exact this
   rw[hd.cl]at h1;cases h1
 .rw[o]
  refine⟨rfl,rfl,rfl,rfl,by rw[a];exact hd.d,by rw[a],by rw[a];exact Q,by rw[a];show aF.aX<=_;rw[hd.aX];omega,λq M=>?_,λq=>by rw[a],by show w<=st;omega,by rw[a];exact hd.r,cE R.ah B.x λq _ h=>h.elim⟩;rw[a]at M;have Z:∀q,b4 aF q->b4 D q\/a_ q\/w<=q:=λq b=>by
   rcases R.dq q b with h1|h1
   .exact .inl h1
   .exact .inr (.inr h1.1)
  obtain h1|h1|h1|h1|h1:=M
  .rcases m q h1 with h2|h2|h2
   .exact .inr (.inr I)
   .exact .inr (.inr I)
   .exact Z q h2
  .have h1:q=bd:=h1
   exact .inr (.inr I)
  .exact .inr (.inr (R.uI q h1).1)
  .rcases(show q=st\/a_ q from h1) with h1|h1
   .exact .inr (.inr I)
   .exact .inr (.inl h1)
  .exact h1.elim
end
section
variable {w w':J}{l:ad}
theorem Nd(h:oe aj w 3 s):∃l:O Int,Src 1 w s (l.map encZ)/\∀z∈l,z<=9223372036854775807:=by
 obtain⟨l,h1,_,h2⟩:=h.src (c:=λz:Int=> [encZ z]) (sz:=1) U3 (λz=>z<=9223372036854775807) λfuel us b=>by
  obtain⟨n,rfl,h2,d⟩:=tf b (k:=.i64) U3;exact⟨n,rfl,d⟩
 have e:∀l:O Int,(l.map λz:Int=> [encZ z]).flatten=l.map encZ:=λl=>by
  induction l with
  |nil=>rfl
  |cons a l f=>rw[hJ,vb,f];rfl
 rw[e]at h1;exact⟨l,h1,h2⟩
theorem Src.BZ{l:O Int}(h:Src 1 w s (l.map encZ)):∀q,aD s q->w<=q->l=[]:=by
 rintro q ⟨a,c,rfl⟩ d
 cases e:l with
 |nil=>rfl
 |cons v us=>
  have f:=h.rd a c;have b:w.cell? (a.add (0+0))=some (encZ v):=tp f (by rw[e];rfl);rw[lU,add_zero']at b;have:w.heap[a.block]? =none:=by simp[d]
  simp[World.cell?,this]at b
end
section
variable {V:Nat->c7}{n gen:Nat}{u:c_}{g:Nat->ao}{P:Nat->au aG}{aL:O Nat}{bG:O aP}
theorem iT.sound(h:iT V n gen u g P aL bG){j:Nat}(b:g j=true):V j=g2\/∃p,dX (j:Int) (V j)=.ok p:=by
 rcases(h.g j).1 b with h1|h1|h1
 .right
  have c:∃bN,P j=some bN:=by
   obtain⟨_,_,h2,_⟩|h2:=h.ok
   .rw[h2]at h1;cases h1
   .exact h2.node _ j h1
  obtain⟨bN,dd⟩:=c;obtain⟨p,a,_⟩:=h.eS j h1 bN dd;exact⟨p,a⟩
 .by_cases e:j=gen%2
  .right
   rw[e];obtain⟨p,a⟩:=BX h.yQ;exact⟨p,a⟩
  .have e:j=1-gen%2:=I
   obtain h2|⟨d,g',h2,_⟩:=h.BQ
   .left;rw[e];exact h2
   .right
    rw[e];obtain⟨p,a⟩:=BX h2;exact⟨p,a⟩
 .right
  rw[h1];obtain⟨_,_,h2⟩:=h.mp;exact⟨_,h2⟩
theorem iT.low(h:iT V n gen u g P aL bG):aL.length<=bG.length:=by
 obtain⟨_,_,h2,_⟩|h2:=h.ok
 .rw[h2];exact cI _
 .exact h2.pages.1
theorem Nf{w:J}{D:a8}{l:e0}{a_:U1}(h:cL w D)(o:D.quiet)(B:D.aX<=700000000)(f:D.waits=[])(r:mY (l.aw:Nat) (l.batch:Nat) (l.h5:Nat))(b:iT V D.n gen u g P aL bG)(eN:∀j,g j=true->D.bJ.getD j []=V j)(s:gen<=1000000000)(t:bG.length<=4000)(x:∀q,a_ q->q<w/\¬b4 D q):
 aH aj 25 #[.pointer (some D.d),.agg l.c.toArray] w (λv w'=>∃S:b_,v=.tuple #[.pointer (some S.st),U8]/\dJ w' S aL bG aL bG/\BY D l a_ 9000 w w' S/\S.u=u/\S.gen=gen):=by
 have y:∀j,D.eQ j=[]:=λj=>by unfold a8.eQ;rw[f];rfl
 have i:∀j,D.now j=D.bJ.getD j []:=λj=>by unfold a8.now;rw[f];rfl
 have C:=b.low;refine(rq (D:=D.jj g λ_=> []) (a_:=a_) (h.jj _ _) o (by show D.aX<=_;omega) (λj _=>y j) r b (λj a=>.inl ((i j).trans (eN j a))) rfl rfl s t I x).mono ?_;rintro v w' ⟨hc,⟨S,rfl,z,a1,a2,a3,a4,a5,dw,dj,dr,a9,eL,dx,fb,dK,fJ⟩|⟨e,rfl,he,j,a,k,E,m⟩⟩
 .exact⟨S,rfl,z,⟨a1,a5,by rw[a4,a2],dw,dj,dr,a9,eL,dx,fb,dK,fJ,hc⟩,a2,a3⟩
 .exfalso
  have A:(D.jj g λ_=> []).now j=V j:=(i j).trans (eN j a);rw[A]at k m;rcases b.sound a with h1|⟨p,h1⟩
  .exact k (by rw[h1];decide+kernel)
  .rw[m]at h1;cases h1
end
structure g5(w0 w:J)(a_:U1)(d n:Nat)(l:e0)(S:b_)(pages:O Nat)(L:O aP)(aL:O Nat)(bG:O aP)(c:Nat):Prop where
 x:Ext w0 w
 at_:dJ w S pages L aL bG
 E:∀q,S.T.E q↔q=S.st\/a_ q
 ne:¬a_ S.st
 nT:∀q,S.T.M q->w0<=q
 lim:S.l=l
 d:S.T.C.D.d=d
 n:S.T.n=n
 aX:S.T.C.D.aX<=20000*(c+1)
 eB:L.length<=c/\bG.length<=c
 gen:S.gen<=c+1
 yT:S.pending<=c
 r:S.T.C.D.r1=true
section
variable {w0 w w':J}{a_:U1}{d n aQ k c:Nat}{l:e0}{S aE:b_}{pages aL:O Nat}{L bG:O aP}
theorem fF.qC(b:fF (λq=>¬S.T.M q) w s L)(hd:ef k S aE w w'):fF (λq=>¬aE.T.M q) w' s L:=
 ((b.bg (C:=λq=>¬S.T.M q/\¬aE.T.M q) λq f a=>⟨a,λc=>by rcases hd.c1 q c with h|h;exact a h;omega⟩).ah hd.ah λq d _ e=>d.1 e.1).bg λ_ _ h=>h.2
theorem g5.lq(h:g5 w0 w a_ d n l S pages L aL bG c)(a:a_ q):S.T.E q/\q≠S.st:=⟨(h.E q).2 (.inr a),λe=>h.ne (e▸a)⟩
theorem g5.ext(h:g5 w0 w a_ d n l S pages L aL bG c)(hx:Ext w w'):g5 w0 w' a_ d n l S pages L aL bG c:={h with x:=h.x.trans hx,at_:=h.at_.ext hx}
theorem g5.mono(h:g5 w0 w a_ d n l S pages L aL bG c)(he:c<=e):g5 w0 w a_ d n l S pages L aL bG e:={h with aX:=U4 h.aX,eB:=⟨U4 h.eB.1,U4 h.eB.2⟩,gen:=U4 h.gen,yT:=by have:=h.yT;omega}
theorem g5.lk{lN:Nat}(h:g5 w0 w a_ d n l S pages L aL bG c)(a:a_ lN)(hc:ag (λq=>q=lN) w w'):g5 w0 w' a_ d n l S pages L aL bG c:=
 {h with x:=Ext.d_ h.x hc λq e=>by rw[e];exact h.nT _ (.inr (.inr (.inr (.inl (h.lq a).1)))),at_:=h.at_.lk (h.lq a).1 (h.lq a).2 hc}
theorem g5.step{eC gQ:O Nat}{lQ qD:O aP}(h:g5 w0 w a_ d n l S pages L aL bG c)(hs:dJ w' aE eC lQ gQ qD)(hd:ef k S aE w w')(b:k<=20000)(hf:lQ.length<=c+1/\qD.length<=c+1)(hg:aE.gen<=S.gen+1)(e:aE.pending<=S.pending+1):g5 w0 w' a_ d n l aE eC lQ gQ qD (c+1):=
 ⟨Ext.d_ h.x hd.ah λq a=>h.nT q a.1,hs,λq=>by rw[hd.E,hd.st];exact h.E q,by rw[hd.st];exact h.ne,λq a=>by
  rcases hd.c1 q a with h1|h1
  .exact h.nT q h1
  .have:=h.x.size;omega,hd.l.trans h.lim,hd.d.trans h.d,hd.n.trans h.n,U5 hd.aX h.aX,hf,U4 h.gen,U4 h.yT,hd.r.trans h.r⟩
end
section
variable {w0 w w' w1 ai:J}{a_:U1}{d n aQ k c:Nat}{l:e0}{S aE:b_}{pages eC aL gQ:O Nat}{L lQ bG qD:O aP}{v:aa}
theorem lp.Gu{c:Prop}(h:lp c S aE pages L aL bG v w')(a:S.T.C.D.quiet):v=.int .i64 0/\c/\dJ w' aE pages L pages L/\aE.failed=false/\aE.gen=S.gen+1/\aE.u.clock=S.now/\aE.u.dc=S.u.dc+1/\aE.pending=0:=by
 obtain h|⟨_,h,_⟩:=h
 .exact h
 .exact absurd a h
end
section
variable {w0 w w' w1 ai:J}{a_ bU:U1}{d n aQ k c i:Nat}{l:e0}{S aE:b_}{pages eC aL gQ bh:O Nat}{L lQ bG qD bn:O aP}{v:aa}{aF:a8}{ls:ad}
theorem dJ.grow(h:dJ w S pages L aL bG)(hx:Ext w w'){b:U1}(c:∀q,b q->S.T.E q\/(w<=q/\q<w'))(hs:b S.st):dJ w' (S.c6 (S.T.cx b S.T.G)) pages L aL bG:=by
 have ht:b5 w' (S.T.cx b S.T.G):=h.t.grow (W:=λ_=>False) hx (λ_ d=>d.elim) (λq a=>(c q a).imp id .inr) (λq a=>.inr (.inl a)) λq a hg=>by
  rcases c q a with h1|h1
  .exact(h.t.dv q h1).2.2 hg
  .have:=h.t.lt (q:=q) (.inr (.inr (.inr (.inr hg))));omega
 exact⟨⟨h.v.ext hx,ht,hs,h.kj,h.gen,h.num,h.cl⟩,h.ok,h.bN,h.f,h.two,h.kv,h.keys,h.nQ,h.live,h.dead⟩
def b_.own(S:b_)(bU:U1):b_:=S.c6 (S.T.cx (λq=>q=S.st\/bU q) S.T.G)
theorem b_.B0(b:∀q,S.T.E q↔q=S.st\/a_ q)(h1:∀q,bU q->a_ q\/k<=q)(a:(S.own bU).T.M q):S.T.M q\/k<=q:=by
 obtain a|a|a|a|a:=a
 .exact .inl (.inl a)
 .exact .inl (.inr (.inl a))
 .exact .inl (.inr (.inr (.inl a)))
 .rcases(show q=S.st\/bU q from a) with h|h
  .exact .inl (.inr (.inr (.inr (.inl ((b q).2 (.inl h))))))
  .rcases h1 q h with h|h
   .exact .inl (.inr (.inr (.inr (.inl ((b q).2 (.inr h))))))
   .exact .inr h
 .exact .inl (.inr (.inr (.inr (.inr a))))
theorem g5.grow(h:g5 w0 w a_ d n l S pages L aL bG c)(hx:Ext w w')(b:∀q,bU q->a_ q\/(w<=q/\q<w')):g5 w0 w' bU d n l (S.own bU) pages L aL bG c:=
 ⟨h.x.trans hx,h.at_.grow hx (λq a=>by
  obtain h1|h1:=a
  .exact .inl ((h.E q).2 (.inl h1))
  .exact(b q h1).imp (λh2=>(h.E q).2 (.inr h2)) id) (.inl rfl),λq=>Iff.rfl,λhs=>by
  have hs:bU S.st:=hs
  rcases b _ hs with h1|h1
  .exact h.ne h1
  .have:=h.at_.t.lt (q:=S.st) (.inr (.inr (.inr (.inl h.at_.es))));omega,λq a=>by
  rcases b_.B0 h.E (λq a=>(b q a).imp id And.left) a with h1|h1
  .exact h.nT q h1
  .have:=h.x.size;omega,h.lim,h.d,h.n,h.aX,h.eB,h.gen,h.yT,h.r⟩
theorem dJ.bJ(h:dJ w S pages L aL bG)(a:S.failed=false)(b:BW S.T.C.D aF):∀j,S.T.g j=true->aF.bJ.getD j []=S.V j:=λj c=>by
 rcases b.bJ j with h1|h1
 .exact h1
 .have h2:=h.t.ca.inv.oW j (h.cl j c)
  rw[(h.live a).2.1]at h2
  rw[h2]at h1;cases h1
end
section
variable {w0 w w' w1 ai:J}{a_ bU:U1}{d n aQ k c i:Nat}{l:e0}{S aE:b_}{pages eC aL gQ bh:O Nat}{L lQ bG qD bn:O aP}{v:aa}{aF:a8}{ls:ad}
theorem yU{b k:Nat}(h:aD ⟨some b,k,k⟩ q):q=b:=by
 obtain⟨A,av,rfl⟩:=h
 cases av;rfl
theorem dJ.room(h:dJ w S pages L aL bG):S.T.n<=cy S.T+pages.length+aL.length+3:=by
 have h1:=Mg (t:=λi=>S.T.f i||S.T.g i) (l:=pages++aL++ [0,1,S.u.map]) S.T.n λi _ hi=>by
  simp only[jE]at hi;simp only[cR,cZ,e2,e_];obtain hi|hi:=hi
  .rcases(h.f i).1 hi with h2|h2|h2
   .exact .inl (.inl h2)
   .exact .inr I
   .exact .inr (.inr (.inr h2))
  .rcases(h.kj.g i).1 hi with h2|h2|h2
   .exact .inl (.inr h2)
   .exact .inr I
   .exact .inr (.inr (.inr h2))
 simp only[cz,fi,lv]at h1;unfold cy;omega
theorem g5.new{D:a8}(hx:Ext w0 w)(e:dJ w' S [] [] [] [])(a:BY D l a_ 4 w w' S)(hu:S.u=ki)(hg:S.gen=1)(b:∀q,b4 D q->w0<=q)(c:∀q,a_ q->w0<=q/\q<w)(i:D.aX=0)(f:D.r1=true):g5 w0 w' a_ D.d D.n l S [] [] [] [] 0:=
 ⟨Ext.d_ hx a.ah b,e,a.E,λh=>U5 ((c _ h).2) a.st,λq g=>by
  rcases a.M q g with h1|h1|h1
  .exact b q h1
  .exact(c q h1).1
  .have:=hx.size;omega,a.l,a.d,a.n,U4 a.aX,⟨bk _,bk _⟩,I,by rw[a.nQ];exact bk _,a.r.trans f⟩
end
section
variable {w0 w w' w1 ai:J}{a_ bU:U1}{d n aQ k c i:Nat}{l:e0}{S aE:b_}{pages eC aL gQ bh:O Nat}{L lQ bG qD bn:O aP}{v:aa}{aF:a8}{ls:ad}
def mh(b:Nat):e0:=⟨8,1+b%12,1+b/16%12⟩
theorem Gv(b:Nat):mY ((mh b).aw:Nat) ((mh b).batch:Nat) ((mh b).h5:Nat):=by
 unfold mY mh;have h1:b%12<12:=hG _ (by decide);have h2:b/16%12<12:=hG _ (by decide);show(8:Int)<=((8:Nat):Int)/\((8:Nat):Int)<=64/\(1:Int)<=((1+b%12:Nat):Int)/\((1+b%12:Nat):Int)<=1000/\(1:Int)<=((1+b/16%12:Nat):Int)/\((1+b/16%12:Nat):Int)<=1048576;omega
theorem Gw{b:Nat}(a:b<256):IntKind.wrap .u8 (Int.tdiv (b:Int) 16)=((b/16:Nat):Int):=by
 rw[yZ I];have h:((b:Int)/16)=((b/16:Nat):Int):=I
 rw[h];have h2:b/16<256:=I
 show((b/16:Nat):Int)%256=_;omega
end
section
variable {w:J}{ab st:Nat}{most:Int}
theorem pM{s:au af}(w:J)(most:Int):aH aj 37 #[.pointer s,most] w (λv w'=>Ext w w'/\(((s=none\/most<1\/400<most)/\v=.tuple #[.pointer none,(1:Int)])\/((s≠none/\1<=most/\most<=400)/\v=.tuple #[.pointer (some w),U8]/\Var w' w [.pointer s,most] 120))):=by
 refine okF (ae.pM s most) ax.pM func37 ?_;delta ae.pM ak Y;refine⟨λh=>⟨.refl _ _,.inl ⟨?_,rfl⟩⟩,λh=>a6 (vs:=[.pointer s,most]) rfl λw1 b hx _=>⟨hx,.inr ⟨?_,rfl,b⟩⟩⟩
 .cases s with
  |none=>exact .inl rfl
  |some a=>simp at h;exact .inr I
 .cases s with
  |none=>simp at h
  |some a=>simp at h;exact⟨by simp,I,I⟩
theorem sD(a:Var w ab [.pointer (some st),most] 120):aH aj 38 #[.pointer (some ab)] w (λv w'=>v=.pointer (some st)/\w=w'):=by
 refine okF (ae.wM (some ab)) ax.wM func38 ?_;delta ae.wM ak;exact⟨nofun,λ_=>⟨_,rfl,_,a.cell,rfl,rfl⟩⟩
theorem Gx{S:b_}{pages aL:O Nat}{L bG:O aP}(a:Var w ab [.pointer (some S.st),most] 120)(h:dJ w S pages L aL bG):aH aj 17 #[.pointer (some ab)] w (λv w'=>v=L.length/\w=w'):=by
 refine okF (ae.wG (some ab)) ax.wG func17 ?_;delta ae.wG iD bB;refine(sD a).use ?_;rintro _ _ ⟨rfl,rfl⟩;refine⟨_,rfl,(ML h).use ?_⟩;rintro _ _ ⟨rfl,rfl⟩;exact⟨_,rfl,by rw[h.keys],rfl⟩
theorem Gy{a:af}(s:Int)(p:br)(w:J):aH aj 49 #[.pointer (some a),s,.agg p.c.toArray] w (λv w'=>Ext w w'/\((df s p=false/\v=.tuple #[(),false])\/(df s p=true/\∃t:ad,v=.tuple #[t,true]/\aR 1 5 w' t (aC (eI s.toNat p))/\∀q,aD t q->w<=q))):=by
 refine ae.HZ (some a) s _ w _ ?_;delta ae.tC ak Y ik;refine a6 (vs:=p.c) rfl λw1 e b i=>⟨nofun,λ_=>⟨p.c,e.rd (br.ba _),(mI s p w1).use ?_⟩⟩;rintro _ j ⟨d,⟨hg,rfl⟩|⟨hg,t,rfl,f,hf⟩⟩
 .exact⟨⟨none,0,0⟩,false,rfl,b.trans d,.inl ⟨hg,rfl⟩⟩
 .exact⟨t,true,rfl,b.trans d,.inr ⟨hg,t,rfl,f,λq g=>eO b.size (hf q g)⟩⟩
end
theorem yV{s:Int}(h:df s p=true):∃k:Nat,s=(k:Int)/\k<=65535/\gA p.addr p.bits=some p:=by
 unfold df at h;rw[dg,b8]at h;obtain⟨k,h1,h2⟩:=oR h.2;exact⟨k,h1,h2,h.1⟩
theorem Ng{s b:Int}{a:br}(h:df s p=true)(j:df b a=true)(he:eI s.toNat p=eI b.toNat a):s=b/\p=a:=by
 obtain⟨k,rfl,l,c⟩:=yV h;obtain⟨d,rfl,m,f⟩:=yV j;rw[c2,c2]at he;have h1:=AU l p;rw[he,AU m a]at h1;have h2:=AV k p;rw[he,AV d a]at h2;have g:=AW k p;rw[he,AW d a]at g;have n:p.addr=a.addr:=by
  have i:=AT (Ar c).2.1;rw[←g,AT (Ar f).2.1]at i;exact(Option.some.inj i).symm
 have cH:=ui c;have ck:=ui f;have o:p.bits=a.bits:=by
  have e:=congrArg UInt8.toNat (Option.some.inj h2);rw[n3,n3]at e;omega
 refine⟨I,?_⟩
 cases p;cases a
 simp_all
def aB.kv(t:aB):aP:=(eI t.s.toNat t.p,j8 t.b.toNat t.u)
section
variable {T:O aB}{s:Int}{p:br}
theorem B1{t:aB}(ht:df t.s t.p=true)(hg:df s p=true):decide (t.kv.1=eI s.toNat p)=cQ s p t:=by
 unfold cQ;rw[eG,dg,b8,b8,b8];exact⟨λh=>Ng ht hg h,λh=>by show eI t.s.toNat t.p=_;rw[h.1,h.2]⟩
theorem B2(c:∀t∈T,df t.s t.p=true)(hg:df s p=true):fl (T.map aB.kv) (eI s.toNat p)=(T.find? (cQ s p)).map λt=>j8 t.b.toNat t.u:=by
 unfold fl
 induction T with
 |nil=>rfl
 |cons t T a=>
  have a:=a λx hx=>c x (jQ _ hx);rw[hJ,List.find?_cons,List.find?_cons,B1 (c t (o9)) hg]
  cases cQ s p t with
  |true=>rfl
  |false=>exact a
theorem Nh(b:∀t∈T,df t.s t.p=true)(hg:df s p=true):e4 (T.map aB.kv) (eI s.toNat p)=(T.filter λt=> !cQ s p t).map aB.kv:=by
 unfold e4
 induction T with
 |nil=>rfl
 |cons t T a=>
  have a:=a λx hx=>b x (jQ _ hx);have h1:=B1 (b t (o9)) hg;rw[hJ,ie,ie,a];have e:decide (t.kv.1≠eI s.toNat p)= !cQ s p t:=by rw[←h1];simp
  rw[e]
  cases cQ s p t<;>rfl
end
section
variable {s:Int}{p:br}
theorem Gz:∀ {T:O aB},(T.map aB.kv).Pairwise (λa b=>bF a.1 b.1)->mZ T s p=T.filter λt=> !cQ s p t
 | [],_=>rfl
 |t::T,h=>by
  rw[hJ]at h
  obtain⟨h1,h2⟩:=jV.1 h
  have g:=Gz h2
  rw[ie]
  unfold mZ at g⊢
  rw[List.findIdx?_cons]
  cases c:cQ s p t with
  |true=>
   show T=_
   symm
   rw[show(if (!true)=true then t::T.filter (λt=> !cQ s p t) else T.filter λt=> !cQ s p t)=T.filter (λt=> !cQ s p t) from rfl,jU]
   intro x hx
   have f:=h1 x.kv (eJ.2 ⟨x,hx,rfl⟩)
   cases d:cQ s p x with
   |false=>rfl
   |true=>
    exfalso
    unfold cQ at c d
    rw[dg,b8,b8]at c d
    have e:t.kv.1=x.kv.1:=by show eI _ _=eI _ _;rw[c.1,c.2,d.1,d.2]
    rw[e]at f
    exact kG f f
  |false=>
   show(match (T.findIdx? (cQ s p)).map (· +1) with|some i=>(t::T).eraseIdx i|none=>t::T)=t::T.filter (λt=> !cQ s p t)
   rw[←g]
   cases T.findIdx? (cQ s p)<;>rfl
end
def ix(T:O aB)(t:aB):O aB:=(T.filter λx=>decide (bF x.kv.1 t.kv.1))++t::T.filter λx=>decide (bF t.kv.1 x.kv.1)
theorem GA(T:O aB)(t:aB):gX (T.map aB.kv) t.kv.1 t.kv.2=(ix T t).map aB.kv:=by
 unfold gX ix;rw[fP,hJ,List.filter_map,List.filter_map];rfl
theorem Ni{T:O aB}{t x:aB}(h:x∈ix T t):x=t\/x∈T:=by
 unfold ix at h;rcases cR.1 h with h|h
 .exact .inr (gw.1 h).1
 .rcases cZ.1 h with h|h
  .exact .inl h
  .exact .inr (gw.1 h).1
theorem B3{s:Int}{p:br}{now:Nat}:∀ (T:O aB),iS T s p now=match T.find? (cQ s p) with|some t=>if t.u<=now then none else some t|none=>none
 | []=>rfl
 |t::T=>by
  have a:=B3 (s:=s) (p:=p) (now:=now) T
  unfold iS at a⊢
  rw[List.findIdx?_cons,List.find?_cons]
  cases b:cQ s p t with
  |true=>rfl
  |false=>
   show(match (T.findIdx? (cQ s p)).map (· +1) with|some i=>if ((t::T).getD i aB.zero).u<=now then none else some ((t::T).getD i aB.zero)|none=>none)=_
   rw[←a]
   cases T.findIdx? (cQ s p)<;>rfl
theorem sE{k:Nat}:cK (eI k p):=by
 have h:=yl k p;have h2:=xY p.addr;unfold cK;omega
theorem B4(k:Nat):bQ k 2=[UInt8.ofNat (k/256%256),UInt8.ofNat (k%256)]:=by
 simp[bQ,List.range_succ]
theorem GB{k s:Nat}(a:k<=65535)(hs:s<=65535)(r:O UInt8):bF (bQ k 2++r) (bQ s 2)↔k<s:=by
 rw[B4,B4];have h0:¬ey r []<0:=by cases r<;>simp[ey]
 unfold bF;simp only[m0,hK,ey,n3];split
 .exact⟨λ_=>I,λ_=>by decide⟩
 .split
  .exact⟨λh=>absurd h (by decide),λ_=>I⟩
  .split
   .exact⟨λ_=>I,λ_=>by decide⟩
   .split
    .exact⟨λh=>absurd h (by decide),λ_=>I⟩
    .exact⟨λh=>absurd h h0,λ_=>I⟩
section
variable {T A B:O aB}{t x:aB}{i m now:Nat}{fr:Key}
theorem Nj{s:Nat}(hs:s<=65535)(b:∀t∈T,df t.s t.p=true):hC (T.map aB.kv) (bQ s 2) (nC s)=(T.filter (gu (s:Nat))).map aB.kv:=by
 unfold hC;rw[List.filter_map];refine congrArg _ (pk λt ht=>?_);obtain⟨k,e,a,_⟩:=yV (b t ht);show(decide (dL (bQ s 2) (eI t.s.toNat t.p))&&((nC s).isEmpty||decide (bF (eI t.s.toNat t.p) (nC s))))=gu s t;unfold gu;rw[e,c2];have h1:dL (bQ s 2) (eI k t.p)↔¬k<s:=by unfold dL;exact not_congr (GB a hs _)
 rw[eG,dg,b8,b8,h1];unfold nC;split
 .rename_i h2
  have c:bF (eI k t.p) (bQ (s+1) 2)↔k<s+1:=GB a I _;rw[show(bQ (s+1) 2).isEmpty=false from by rw[B4];rfl,jR,b8,c];omega
 .rw[show([]:O UInt8).isEmpty=true from rfl,qP]
  simp only[and_true];omega
def iU(T:O aB):Prop:=T.Pairwise λa b=>bF a.kv.1 b.kv.1
theorem yW:il (T.map aB.kv)↔iU T:=List.pairwise_map
theorem GC(av:∀a∈A,bF a.kv.1 t.kv.1)(e:∀b∈B,bF t.kv.1 b.kv.1):ix (A++B) t=A++t::B:=by
 unfold ix;rw[gE,gE,jU.2 λa c=>dh (av a c),m6.2 λb d=>by simpa using kG (e b d),m6.2 λa c=>by simpa using kG (av a c),jU.2 λb d=>dh (e b d),fp,hK]
theorem Nk(hx:x.kv.1=t.kv.1)(av:∀a∈A,bF a.kv.1 t.kv.1)(c:∀b∈B,bF t.kv.1 b.kv.1):ix (A++x::B) t=A++t::B:=by
 have h:=GC av c;unfold ix at h⊢;rw[←h,gE,gE,gE,gE,ie,ie,hx];simp[k1]
theorem B5(h:iU T)(hi:i<T.length):(∀a∈T.take i,bF a.kv.1 T[i].kv.1)/\∀b∈T.drop (i+1),bF T[i].kv.1 b.kv.1:=by
 have e:T=T.take i++T[i]::T.drop (i+1):=by rw[List.getElem_cons_drop,ga]
 have h2:iU (T.take i++T[i]::T.drop (i+1)):=e▸h;obtain⟨_,c,d⟩:=mx.1 h2;exact⟨λa f=>d a f _ (o9),(jV.1 c).1⟩
theorem GD(h:cQ t.s t.p x=true):x.kv.1=t.kv.1:=by
 unfold cQ at h;rw[dg,b8,b8]at h;show eI _ _=eI _ _;rw[h.1,h.2]
theorem Nl(h:iU T)(hf:T.findIdx? (cQ t.s t.p)=some i):i<T.length/\T.set i t=ix T t:=by
 obtain⟨hi,a,_⟩:=sU.1 hf;have hx:=GD a;have h1:=B5 h hi;rw[hx]at h1;refine⟨hi,?_⟩;have e:T=T.take i++T[i]::T.drop (i+1):=by rw[List.getElem_cons_drop,ga]
 have h2:=Nk hx h1.1 h1.2;rw[←e]at h2;rw[h2,y0,if_pos hi]
theorem GF(h:iU T)(d:∀t∈T,df t.s t.p=true)(hg:df t.s t.p=true)(hf:T.findIdx? (cQ t.s t.p)=none)(hi:i<=T.length)(f:∀a∈T.take i,bF a.kv.1 t.kv.1)(g:∀hi:i<T.length,¬bF T[i].kv.1 t.kv.1):T.take i++t::T.drop i=ix T t:=by
 have e:=GC (B:=T.drop i) f λb c=>?_
 .rw[ga]at e
  exact e.symm
 have j:∀x∈T,x.kv.1≠t.kv.1:=λx hx e=>by
  have h1:=vg.1 hf x hx;rw[←B1 (d x hx) hg]at h1;exact absurd e (cr h1)
 have key:∀x∈T,¬bF x.kv.1 t.kv.1->bF t.kv.1 x.kv.1:=λx hx k=>by
  rcases xZ x.kv.1 t.kv.1 with h1|h1|h1
  .exact absurd h1 k
  .exact absurd h1 (j x hx)
  .exact h1
 rcases dV i T.length with h1|h1
 .have h2:=key _ (cJ h1) (g h1)
  rw[←List.getElem_cons_drop h1]at c;rcases cZ.1 c with rfl|c
  .exact h2
  .exact mK h2 ((B5 h h1).2 b c)
 .rw[sT h1]at c;cases c
def fo(T:O aB)(fr:Key):O aB:=T.filter λt=>decide (dL fr t.kv.1)
def dB(T:O aB)(fr:Key)(m:Nat):O aB:=(fo T fr).take m
def gR(T Q:O aB)(ch:aB->ao):O aB:=T.filter λt=> !(decide (t∈Q)&&ch t)
def jl(T Q:O aB):Key:=match Q.getLast? with
 |none=> []
 |some t=>if T.getLast? =some t then [] else t.kv.1++ [0]
theorem iU.nodup(h:iU T):T.Nodup:=List.Pairwise.imp (λ{a b} c (e:a=b)=>by rw[e]at c;exact k1 _ c) h
theorem Nm(h:iU T)(hi:i<T.length):dB (T.take (i+1)) fr m=(if decide (dL fr T[i].kv.1)&&decide ((dB (T.take i) fr m).length<m) then dB (T.take i) fr m++ [T[i]] else dB (T.take i) fr m)/\
 decide (T[i]∈dB T fr m)=(decide (dL fr T[i].kv.1)&&decide ((dB (T.take i) fr m).length<m)):=by
 have j:T.take (i+1)=T.take i++ [T[i]]:=(List.take_append_getElem hi).symm;have e:T=T.take i++T[i]::T.drop (i+1):=by rw[List.getElem_cons_drop,ga]
 have l:T[i]∉T.take i:=λa=>k1 _ ((B5 h hi).1 _ a);have n:fo (T.take (i+1)) fr=fo (T.take i) fr++if decide (dL fr T[i].kv.1) then [T[i]] else []:=by
  unfold fo;rw[j,gE,ie,pj]
 have o:fo T fr=fo (T.take i) fr++((if decide (dL fr T[i].kv.1) then [T[i]] else [])++fo (T.drop (i+1)) fr):=by
  conv=>lhs;rw[e]
  unfold fo;rw[gE,ie];split<;>rfl
 have d:T[i]∉fo (T.take i) fr:=λa=>l (gw.1 a).1;have f:T[i]∈fo (T.drop (i+1)) fr->decide (dL fr T[i].kv.1)=true:=λa=>(gw.1 a).2;unfold dB;rw[n,o];generalize fo (T.take i) fr=b at d;generalize fo (T.drop (i+1)) fr=G at f
 cases g:decide (dL fr T[i].kv.1) with
 |false=>
  refine⟨by simp,?_⟩;rw[kS,ko];intro a;have h1:=fq a;simp only[gv,if_false,hK,cR]at h1;obtain h1|h1:=h1
  .exact d h1
  .rw[f h1]at g;cases g
 |true=>
  rw[if_pos rfl,hX];rcases dV b.length m with c|c
  .have h1:b.take m=b:=dO (Nat.le_of_lt c)
   rw[h1,dh c,if_pos rfl];refine⟨dO (by simp;omega),?_⟩;rw[b8,vc];refine iy _ ?_;obtain⟨k,p⟩:∃k,m-b.length=k+1:=⟨m-b.length-1,I⟩;rw[p];exact o9
  .have h1:(b.take m).length=m:=by rw[cF];omega
   rw[h1,m8 c,m8 c,gS (Nat.lt_irrefl m)];exact⟨rfl,gS λa=>d (fq a)⟩
theorem Nn(h:iU T){Q:O aB}{ch:aB->ao}(c:x∈T)(hx:x∉Q)(d:∀t∈T,df t.s t.p=true):(gR T Q ch).filter (λt=> !cQ x.s x.p t)=T.filter (λt=> !(decide (t∈Q)&&ch t)&& !decide (t=x)):=by
 unfold gR;rw[List.filter_filter];refine pk λt ht=>?_;rw[Bool.and_comm]
 congr 2
 rw[eG,b8];refine⟨λe=>?_,λe=>by rw[e];simp[cQ]⟩;have h1:=GD (t:=x) e;obtain⟨i,hi,rfl⟩:=vd.1 ht;obtain⟨j,b,rfl⟩:=vd.1 c;have h2:=lV.1 h;rcases Nat.lt_trichotomy i j with a|rfl|a
 .have:=h2 i j hi b a;rw[h1]at this;exact absurd this (k1 _)
 .rfl
 .have:=h2 j i b hi a;rw[h1]at this;exact absurd this (k1 _)
end
def aB.ok(t:aB):Prop:=t.ep=true/\t.u<18446744073709551616
theorem aB.ok.k{t:aB}(h:t.ok):df t.s t.p=true:=by have:=h.1;unfold aB.ep at this;rw[dg]at this;exact this.1
theorem aB.ok.b{t:aB}(h:t.ok):fU t.b=true:=by have:=h.1;unfold aB.ep at this;rw[dg]at this;exact this.2
def kQ(S:b_)(bm:O aB)(aE:b_)(dk:O aB):Prop:=(aE.u.dc=S.u.dc/\dk=bm)\/S.u.dc<aE.u.dc
theorem kQ.trans{S aE c:b_}{bm dk d:O aB}(h:kQ S bm aE dk)(e:kQ aE dk c d):kQ S bm c d:=by
 rcases h with ⟨a,rfl⟩|a<;>rcases e with ⟨b,rfl⟩|b
 .exact .inl ⟨b.trans a,rfl⟩
 .exact .inr I
 .exact .inr I
 .exact .inr I
structure dm(w0 w:J)(a_:U1)(d n:Nat)(l:e0)(ab most:Nat)(S:b_)(pages aL:O Nat)(T bm:O aB)(c:Nat):Prop where
 s:g5 w0 w a_ d n l S pages (T.map aB.kv) aL (bm.map aB.kv) c
 live:S.failed=false
 q:S.T.C.D.quiet
 yX:a_ ab
 v:Var w ab [.pointer (some S.st),most] 120
 ok:∀t∈T,t.ok
 sF:∀t∈bm,t.ok
 nE:S.pending<l.batch
 uO:S.pending=0->T=bm
 eB:T.length<=most/\bm.length<=most
 kl:1<=most/\most<=400
 bA:n=4*most+64
 lS:iU T
section
variable {w0 w w':J}{a_:U1}{d n ab most k c:Nat}{l:e0}{S aE:b_}{pages eC aL gQ:O Nat}{T aq bm dk:O aB}{tk cY:ad}{key:Key}{v:aa}{s:Int}{p:br}
theorem dm.ext(h:dm w0 w a_ d n l ab most S pages aL T bm c)(hx:Ext w w'):dm w0 w' a_ d n l ab most S pages aL T bm c:={h with s:=h.s.ext hx,v:=h.v.ext hx}
theorem dm.mono(h:dm w0 w a_ d n l ab most S pages aL T bm c)(he:c<=e):dm w0 w a_ d n l ab most S pages aL T bm e:={h with s:=h.s.mono he}
theorem dm.new(h:dm w0 w a_ d n l ab most S pages aL T bm c):∀q,w.heap.size<=q->¬S.T.M q:=λq b a=>U4 (h.s.at_.t.lt a)
theorem dm.keys(h:dm w0 w a_ d n l ab most S pages aL T bm c):∀t∈T,df t.s t.p=true:=λt ht=>(h.ok t ht).k
theorem dm.room(h:dm w0 w a_ d n l ab most S pages aL T bm c):jk S≠0:=by
 have h1:=h.eB;have e:=h.s.at_.room;have a:=h.s.at_.ok.low (by rw[cU];have:=h.kl;omega);have b:=h.s.at_.kj.low;have f:=h.s.n;have g:=h.bA;rw[cU]at a b;unfold jk;omega
theorem dm.step(h:dm w0 w a_ d n l ab most S pages aL T bm c)(hs:dJ w' aE eC (aq.map aB.kv) gQ (dk.map aB.kv))(hd:ef k S aE w w')(f:k<=20000)(u:aq.length<=T.length+1)(a:dk=bm\/dk=aq)(g:aq.length<=most)(hg:aE.gen<=S.gen+1)(i:aE.pending<=S.pending+1)(hf:aE.failed=false)(b:∀t∈aq,t.ok)(j:aE.pending<l.batch)(m:aE.pending=0->aq=dk):
 dm w0 w' a_ d n l ab most aE eC gQ aq dk (c+1):=by
 have o:=h.s.eB;rw[cU,cU]at o;have e:=h.s.lq h.yX;have p:dk.length<=c+1/\dk.length<=most:=by
  have:=h.eB;rcases a with rfl|rfl<;>omega
 refine⟨h.s.step hs hd f (by rw[cU,cU];omega) hg i,hf,hd.q h.q,h.yX,?_,b,?_,j,m,⟨g,p.2⟩,h.kl,h.bA,yW.1 (hs.ok.rising)⟩
 .rw[hd.st]
  exact h.v.ah hd.ah λr=>e.2 (r.2 e.1)
 .rcases a with rfl|rfl
  .exact h.sF
  .exact b
theorem dm.read(h:dm w0 w a_ d n l ab most S pages aL T bm c)(hs:dJ w' aE pages (T.map aB.kv) aL (bm.map aB.kv))(hd:ef k S aE w w')(b:k<=20000)(hg:aE.gen=S.gen)(a:aE.pending=S.pending)(hf:aE.failed=S.failed):dm w0 w' a_ d n l ab most aE pages aL T bm (c+1):=
 h.step hs hd b I (.inl rfl) h.eB.1 I I (hf.trans h.live) h.ok (a▸h.nE) (a▸h.uO)
def gi(w0:J)(a_:U1)(d n:Nat)(l:e0)(ab most:Nat)(S:b_)(bm aq:O aB)(w:J)(c:Nat)(w':J):Prop:=
 ∃ (k:Nat) (aE:b_) (eC gQ:O Nat) (dk:O aB),dm w0 w' a_ d n l ab most aE eC gQ aq dk c/\ef k S aE w w'/\aE.now=S.now/\kQ S bm aE dk
theorem dm.more(h:dm w0 w a_ d n l ab most S pages aL T bm c)(a:nS S aE eC (aq.map aB.kv) aL (bm.map aB.kv) v w')(hd:ef k S aE w w')(b:aE.now=S.now)(f:k<=20000)(g:aq.length<=T.length+1)(i:aq.length<=most)(j:∀t∈aq,t.ok):
 v=.int .i64 0/\gi w0 a_ d n l ab most S bm aq w (c+1) w':=by
 have p:=h.s.at_.num.2.2.2.2.2.2;have m:=h.s.lim;obtain⟨rfl,h1,hs,hf,hg,hu,o,_⟩|a:=a
 .exact⟨rfl,k,aE,eC,aL,bm,h.step hs hd f g (.inl rfl) i I I hf j (by rw[←m];omega) (λe=>I),hd,b,.inl ⟨by rw[hu],rfl⟩⟩
 .obtain⟨rfl,_,hs,hf,hg,_,r,o⟩:=a.Gu h.q
  exact⟨rfl,k,aE,eC,eC,aq,h.step hs hd f g (.inr rfl) i I I hf j (by rw[←m];omega) (λ_=>rfl),hd,b,.inr I⟩
theorem dm.put{t:aB}(h:dm w0 w a_ d n l ab most S pages aL T bm c)(ht:t.ok)(hlen:(ix T t).length<=most/\(ix T t).length<=T.length+1)(hc:c<=30000)(f:Src 1 w tk (aC (eI t.s.toNat t.p)))(g:∀q,aD tk q->q<w/\¬S.T.M q)(i:Src 1 w cY (aC (j8 t.b.toNat t.u)))(j:∀q,aD cY q->q<w/\¬S.T.M q):
 aH aj 27 #[.pointer (some S.st),tk,cY] w (λv w'=>v=.int .i64 0/\gi w0 a_ d n l ab most S bm (ix T t) w (c+1) w'):=by
 have k:=h.s.at_.num.2.2.2.2.1;have m:=h.s.lim;have z:=h.nE;have A:=h.s.aX;have B:=h.s.gen;refine(MP (key:=eI t.s.toNat t.p) (val:=j8 t.b.toNat t.u) h.s.at_ (by rw[cU];have:=h.eB.1;have:=h.kl;omega) (by rw[m]at k;omega) I I h.q f g i j).mono ?_;rintro v w' (⟨_,o,_⟩|⟨_,⟨hf,_⟩|⟨_,aE,hd,r,⟨_,y,_⟩|⟨_,eC,a⟩⟩⟩)
 .exact absurd ⟨sE,by rw[sf];decide⟩ o
 .rw[h.live]at hf;cases hf
 .exact absurd y h.room
 .rw[show gX (T.map aB.kv) (eI t.s.toNat t.p) (j8 t.b.toNat t.u)=(ix T t).map aB.kv from GA T t]at a
  exact h.more a hd r I hlen.2 hlen.1 λx hx=>(Ni hx).elim (λe=>e▸ht) (h.ok x)
theorem dm.del(h:dm w0 w a_ d n l ab most S pages aL T bm c)(hg:df s p=true)(hc:c<=30000)(j:Src 1 w tk (aC (eI s.toNat p)))(k:∀q,aD tk q->q<w/\¬S.T.M q):
 aH aj 23 #[.pointer (some S.st),tk] w (λv w'=>v=.tuple #[.bool (T.find? (cQ s p)).isSome,U8]/\gi w0 a_ d n l ab most S bm (T.filter λt=> !cQ s p t) w (c+1) w'):=by
 have m:=h.s.at_.num.2.2.2.2.1;have o:=h.s.lim;have D:=h.nE;have E:=h.s.aX;have F:=h.s.gen;have f:=B2 h.keys hg;have G:(T.filter λt=> !cQ s p t).length<=T.length:=jF _ _;refine(MQ (key:=eI s.toNat p) h.s.at_ (by rw[cU];have:=h.eB.1;have:=h.kl;omega) (by rw[o]at m;omega) I I h.q j k).mono ?_;rintro v w' (⟨_,r,_⟩|⟨_,⟨hf,_⟩|⟨_,aE,hd,g,⟨rfl,a,hs,he,y⟩|⟨_,_,z,_⟩|⟨e,rfl,a,_,eC,i⟩|⟨_,hx⟩⟩⟩)
 .exact absurd sE r
 .rw[h.live]at hf;cases hf
 .rw[f,Option.map_eq_none_iff]at a
  rw[a];refine⟨rfl,300,aE,pages,aL,bm,?_,hd,g,.inl ⟨by rw[he.u],rfl⟩⟩;rw[jU.2 λt ht=>by rw[jD,←fG];exact jX.1 a t ht];exact h.read hs hd I he.gen he.pending (y.trans h.live.symm)
 .exact absurd z h.room
 .rw[Nh h.keys hg]at i
  obtain⟨A,B⟩:=h.more i hd g I I (U4 h.eB.1) λx hx=>h.ok x (gw.1 hx).1;obtain rfl:e=0:=by cases A;rfl
  rw[f,ne_eq,Option.map_eq_none_iff]at a;refine⟨?_,B⟩
  cases C:T.find? (cQ s p) with
  |none=>exact absurd C a
  |some t=>rfl
 .rcases hx True pages (T.map aB.kv) with ⟨b,_⟩|⟨_,b,_⟩
  .cases b
  .exact absurd h.q b
theorem dm.get(h:dm w0 w a_ d n l ab most S pages aL T bm c)(hg:df s p=true)(hc:c<=30000)(g:Src 1 w tk (aC (eI s.toNat p)))(i:∀q,aD tk q->q<w/\¬S.T.M q):
 aH aj 50 #[.pointer (some S.st),tk] w (λv w'=>(∃ (t:ad),v=.tuple #[t,.bool (T.find? (cQ s p)).isSome,U8]/\∀x,T.find? (cQ s p)=some x->Src 1 w' t (aC (j8 x.b.toNat x.u))/\t.len<=t.cap)/\gi w0 a_ d n l ab most S bm T w (c+1) w'):=by
 have o:=h.s.aX;have f:=B2 h.keys hg;refine(MO h.s.at_ I g i).mono ?_;rintro v w' ⟨aM,hs,hd,_,_,_,_,j⟩;have av:gi w0 a_ d n l ab most S bm T w (c+1) w':=⟨30,_,pages,aL,bm,h.read hs hd I rfl rfl rfl,hd,rfl,.inl ⟨rfl,rfl⟩⟩;obtain⟨rfl,a⟩|⟨t,x,rfl,_,a,ht⟩|⟨_,_,k⟩:=j
 .have a:=a sE
  rw[f,Option.map_eq_none_iff]at a;rw[a];exact⟨⟨⟨none,0,0⟩,rfl,λx e=>(by cases e)⟩,av⟩
 .rw[f]at a
  obtain⟨y,m,rfl⟩:=uV.1 a;rw[m];exact⟨⟨t,rfl,λz e=>by cases e;exact⟨ht.1,ht.2.1⟩⟩,av⟩
 .exact absurd (h.q.1 30) k
end
section
variable {w0 w w' w1:J}{a_:U1}{d n ab most k c q:Nat}{l:e0}{S aE cV:b_}{pages eC aL gQ:O Nat}{T aq bm dk hW:O aB}{tk cY:ad}{key:Key}{v:aa}{s:Int}{p:br}{vs:O aa}
theorem dm.uP(h:dm w0 w a_ d n l ab most S pages aL T bm c)(hx:Ext w w')(e:Nat):gi w0 a_ d n l ab most S bm T w (c+e) w':=⟨0,S,pages,aL,bm,(h.ext hx).mono (Nat.le_add_right _ _),.ext S hx,rfl,.inl ⟨rfl,rfl⟩⟩
theorem gi.cat(hd:ef k S cV w w1)(a:cV.now=S.now)(hg:kQ S bm cV hW)(h:gi w0 a_ d n l ab most cV hW aq w1 c w'):gi w0 a_ d n l ab most S bm aq w c w':=by
 obtain⟨cf,cC,c0,bj,cg,h2,d2,bx,az⟩:=h;exact⟨k+cf,cC,c0,bj,cg,h2,hd.trans d2,bx.trans a,hg.trans az⟩
theorem gi.pre(hx:Ext w w1)(h:gi w0 a_ d n l ab most S bm aq w1 c w'):gi w0 a_ d n l ab most S bm aq w c w':=gi.cat (.ext S hx) rfl (.inl ⟨rfl,rfl⟩) h
theorem gi.post(h:gi w0 a_ d n l ab most S bm aq w c w1)(hx:Ext w1 w'):gi w0 a_ d n l ab most S bm aq w c w':=by
 obtain⟨cf,cC,c0,bj,cg,h2,d2,bx,az⟩:=h;exact⟨cf+0,cC,c0,bj,cg,h2.ext hx,d2.trans (.ext cC hx),bx,az⟩
theorem b_.No{b:Nat}(c:∀q,S.T.E q↔q=S.st\/a_ q)(a:(S.own λq=>a_ q\/q=b).T.M q):S.T.M q\/q=b:=by
 obtain a|a|a|a|a:=a
 .exact .inl (.inl a)
 .exact .inl (.inr (.inl a))
 .exact .inl (.inr (.inr (.inl a)))
 .rcases(show q=S.st\/a_ q\/q=b from a) with h|h|h
  .exact .inl (.inr (.inr (.inr (.inl ((c q).2 (.inl h))))))
  .exact .inl (.inr (.inr (.inr (.inl ((c q).2 (.inr h))))))
  .exact .inr h
 .exact .inl (.inr (.inr (.inr (.inr a))))
theorem dm.scope{b:Nat}(h:dm w0 w a_ d n l ab most S pages aL T bm c)(hx:Ext w w1)(t:w<=b/\b<w1):dm w0 w1 (λq=>a_ q\/q=b) d n l ab most (S.own λq=>a_ q\/q=b) pages aL T bm c/\
 (∀q,w.heap.size<=q->q≠b->¬(S.own λq=>a_ q\/q=b).T.M q)/\(∀q,w.heap.size<=q->¬(S.own λq=>a_ q\/q=b).W q)/\
 ∀ {ai g:J}{e:Nat}{aq:O aB},gi w0 (λq=>a_ q\/q=b) d n l ab most (S.own λq=>a_ q\/q=b) bm aq w1 e ai->ag (λq=>q=b) ai g->gi w0 a_ d n l ab most S bm aq w e g:=by
 have i:∀q,(S.own λq=>a_ q\/q=b).T.M q->S.T.M q\/q=b:=λq a=>b_.No h.s.E a;have y:=h.s.at_.v.lt;have o:∀q,w.heap.size<=q->q≠b->¬(S.own λq=>a_ q\/q=b).T.M q:=λq a j u=>(i q u).elim (h.new q a) j;refine⟨⟨h.s.grow hx λq a=>a.imp id λe=>by rw[e];exact t,h.live,h.q,.inl h.yX,h.v.ext hx,h.ok,h.sF,h.nE,h.uO,h.eB,h.kl,h.bA,h.lS⟩,o,λq a f=>?_,λ{ai g e aq} x hc=>?_⟩
 .by_cases e:q=b
  .have:q=S.st:=f.2 (.inr (.inr e))
   omega
  .exact o q a e f.1
 obtain⟨k,cC,c0,bj,cg,h2,d2,bx,az⟩:=x;have j:¬ab=b:=U4 h.v.lt
 have z:=hx.size;refine⟨k,cC.own a_,c0,bj,cg,⟨(h2.s.lk (.inr rfl) hc).grow (.refl _ _) λq a=>.inl (.inl a),h2.live,h2.q,h.yX,h2.v.ah hc j,h2.ok,h2.sF,h2.nE,h2.uO,h2.eB,h2.kl,h2.bA,h2.lS⟩,⟨d2.st,d2.d,d2.n,d2.l,d2.aX,d2.q,?_,λq a=>?_,?_,d2.G,d2.r⟩,bx,az⟩
 .refine cE (cE (hx.mono λ_ _ h=>h.elim) d2.ah λq a f=>⟨(i q f.1).resolve_right I,λhe=>f.2 ?_⟩) hc λq a e=>absurd a I
  rcases(h.s.E q).1 he with e|e
  .exact .inl e
  .exact .inr (.inl e)
 .rcases b_.B0 (k:=w) h2.s.E (λq a=>.inl (.inl a)) a with m|m
  .rcases d2.c1 q m with p|p
   .exact(i q p).imp id λe=>by omega
   .exact .inr I
  .exact .inr m
 .funext q
  rw[show(cC.own a_).T.E q=(q=cC.st\/a_ q) from rfl,d2.st];exact(propext (h.s.E q)).symm
theorem uQ(a:Var w q vs 57)(b:vs.length=21)(t:aB){K:O aa->U2}(f:∀w',ag (λx=>x=q) w w'->K t.c w'):bp w q (Array.toList t.c.toArray)/\Array.size t.c.toArray=21/\an (setCells w q 0 (Array.toList t.c.toArray)) λd=>∃e:O aa,bf d q 0 21=some e/\K e d:=
 ⟨a.ct (by simp[aB.ba,b]) (aB.plain t),by simp[aB.ba],cP a (us:=t.c) (by simp[aB.ba,b]) rfl λw' g h _=>⟨t.c,g.rd (aB.ba t),f w' h⟩⟩
theorem sG(t:aB){K:U2}(d:∀w',Var w' w t.c 57->Ext w w'->K w'):an (w.alloc (.cells aB.zero.c.toArray 57)) λa=>bp a w (Array.toList t.c.toArray)/\Array.size t.c.toArray=21/\an (setCells a w 0 (Array.toList t.c.toArray)) K:=
 a6 (vs:=aB.zero.c) rfl λw1 b hx _=>⟨b.ct (by simp[aB.ba]) (aB.plain t),by simp[aB.ba],cP b (us:=t.c) (by simp[aB.ba]) rfl λw' e f _=>d w' e (Ext.cp hx f (bk _))⟩
theorem GG{x:aB}(hx:x.ok)(a:Src 1 w tk (aC (eI x.s.toNat x.p)))(g:tk.len<=tk.cap)(d:Src 1 w cY (aC (j8 x.b.toNat x.u)))(h:cY.len<=cY.cap):aH aj 51 #[tk,cY] w (λv w'=>v=.tuple #[.agg x.c.toArray,true]/\Ext w w'):=by
 obtain⟨k,e,_⟩:=yV hx.k;obtain⟨j,f,i⟩:=oR hx.b;have hg:=hx.k;have hu:=hx.2;obtain⟨s,p,b,u⟩:=x;dsimp only at e f hg hu a d;subst e f;rw[c2]at a d;exact ru a g d h hg i hu
theorem GH{x:aB}(h:cQ s p x=true):x.s=s/\x.p=p:=by
 unfold cQ at h;rwa[dg,b8,b8]at h
theorem B6(h:dm w0 w a_ d n l ab most S pages aL T bm c)(hc:c<=30000)(s:Int)(p:br):aH aj 18 #[.pointer (some ab),s,.agg p.c.toArray,.int .u64 (now:Nat)] w (λv w'=>gi w0 a_ d n l ab most S bm T w (c+1) w'/\
 v=if df s p then .tuple #[.agg ((iS T s p now).getD aB.zero).c.toArray,.bool (iS T s p now).isSome,U8] else .tuple #[.agg aB.zero.c.toArray,false,(1:Int)]):=by
 refine ae.HW (some ab) s _ (now:Nat) w _ ?_;(delta ae.tA fk Y ik ak mF h4 bO;dsimp only);refine a6 (vs:=p.c) rfl λw1 K z Z=>a6 (vs:=aB.zero.c) rfl λai A B aa=>⟨p.c,(K.ext B).rd (br.ba _),(Gy s p ai).use ?_⟩;have i:=z.trans B;have j:=z.size;have ac:=i.size;rintro _ L ⟨e,⟨hg,rfl⟩|⟨hg,tk,rfl,g,hf⟩⟩
 .refine⟨⟨none,0,0⟩,false,rfl,λ_=>⟨_,uk L,uQ (A.ext e) (aB.ba _) aB.zero λm a=>⟨h.uP (Ext.cp (i.trans e) a j) 1,by rw[hg];rfl⟩⟩,nofun⟩
 have M:=i.trans e;have ad:=e.size;obtain⟨C,N,D,o⟩:=h.scope (b:=w1) M ⟨j,I⟩;refine⟨tk,true,rfl,nofun,λ_=>⟨_,rfl,_,C.v.cell,(C.get hg hc g.src λq f=>⟨g.lt q f,N q (U4 (hf q f)) (U4 (hf q f))⟩).use ?_⟩⟩;rintro _ O ⟨⟨cY,rfl,ih⟩,r⟩;have P:=r;obtain⟨k,cV,af,bh,bw,h1,d1,b6,ay⟩:=P;have E:=(A.ext e).ah d1.ah (D _ j);have Q:=g.src.ah d1.ah λq f=>D q (U4 (hf q f));rw[if_pos hg,B3]
 cases t:T.find? (cQ s p) with
 |none=>exact⟨cY,false,0,rfl,λ_=>⟨_,uk O,uQ E (aB.ba _) aB.zero λm a=>⟨o r a,rfl⟩⟩,nofun⟩
 |some x=>
  have hx:=h.ok x (jY t);obtain⟨rfl,rfl⟩:=GH (kR t);obtain⟨R,U⟩:=ih x t;refine⟨cY,true,0,rfl,nofun,λ_=>(GG hx Q g.2.1 R U).use ?_⟩;rintro _ ag ⟨rfl,V⟩;refine⟨_,true,rfl,sG x λW F X=>⟨nofun,λ_=>?_⟩⟩;have G:=V.trans X;have H:=E.ext G;have J:=r.post G;refine⟨_,AS F,λy=>⟨_,uk W,uQ H (aB.ba _) aB.zero λm a=>⟨o J a,?_⟩⟩,λy=>⟨x.c,F.rd (aB.ba x),uQ H (aB.ba _) x λm a=>⟨o J a,?_⟩⟩⟩
  .have:x.u<=now:=U4 (b2 y)
   simp only[if_pos this];rfl
  .have:¬x.u<=now:=U4 (cr y)
   simp only[if_neg this];rfl
end
def jC(T:O aB)(most:Nat)(t:aB):Int:=if t.ep then (if (T.find? (cQ t.s t.p)).isSome then 0 else if most<=T.length then 2 else 0) else 1
def lr(T:O aB)(most:Nat)(t:aB):O aB:=if jC T most t=0 then ix T t else T
theorem Np{T:O aB}{t:aB}(a:iU T)(b:∀t∈T,df t.s t.p=true)(hg:df t.s t.p=true):(ix T t).length=if (T.find? (cQ t.s t.p)).isSome then T.length else T.length+1:=by
 have h1:=BS t.kv.1 t.kv.2 (T.map aB.kv);have h2:=yS (k:=t.kv.1) (yW.2 a);rw[GA,cU]at h1;rw[cU,show fl (T.map aB.kv) t.kv.1=_ from B2 b hg]at h2;rw[h1]
 cases hf:T.find? (cQ t.s t.p) with
 |none=>rw[hf]at h2;simp at h2⊢;omega
 |some x=>rw[hf]at h2;simp at h2⊢;omega
section
variable {w0 w w' w1:J}{a_:U1}{d n ab most k c q:Nat}{l:e0}{S aE cV:b_}{pages eC aL gQ:O Nat}{T aq bm dk hW:O aB}{s:Int}{p:br}
theorem GI(h:dm w0 w a_ d n l ab most S pages aL T bm c)(hc:c<=20000){t:aB}(hu:t.u<18446744073709551616):aH aj 43 #[.pointer (some ab),.agg t.c.toArray] w (λv w'=>v=.int .i64 (jC T most t)/\gi w0 a_ d n l ab most S bm (lr T most t) w (c+2) w'):=by
 refine ae.HY (some ab) _ w _ ?_;(delta ae.tB ak Y bP r1 ik bO mF bB;dsimp only);refine a6 (vs:=t.c) rfl λw1 C O af=>cc (λb w'=>b= !t.ep/\Ext w1 w') (λk P=>⟨nofun,λ_=>⟨t.c,C.rd (aB.ba t),(pO t w1).use λv w' a=>by obtain⟨rfl,hx⟩:=a;exact⟨t.ep,rfl,P _ _ ⟨rfl,hx⟩⟩⟩⟩) ?_;rintro _ Q ⟨rfl,D⟩;have x:=O.trans D;refine⟨λg=>?_,λg=>?_⟩
 .have hg:t.ep=false:=by rwa[jD]at g
  have e:jC T most t=1:=by unfold jC;rw[hg];rfl
  refine⟨by rw[e],?_⟩;unfold lr;rw[e];exact h.uP x 2
 have hg:t.ep=true:=by rwa[m7]at g
 have ht:t.ok:=⟨hg,hu⟩;have y:=C.ext D;refine⟨_,y.cell,_,mb y,(mI t.s t.p Q).use ?_⟩;rintro _ R ⟨E,⟨hf,_⟩|⟨_,tk,rfl,U,z⟩⟩
 .rw[ht.k]at hf;cases hf
 have F:=y.ext E;refine⟨tk,true,rfl,_,uj F,_,AS F,(rB t.b hu R).use ?_⟩;rintro _ V (⟨hf,_⟩|⟨_,cY,rfl,A,j,G⟩)
 .rw[ht.b]at hf;cases hf
 have m:=x.trans E;have H:=h.ext (m.trans j);have ag:=x.size;have ai:=m.size;have al:=(m.trans j).size;have o:=U.ext j;refine⟨cY,true,rfl,_,rfl,_,H.v.cell,(H.get ht.k I o.src λq a=>⟨o.lt q a,h.new q (U4 (z q a))⟩).use ?_⟩;rintro _ J ⟨⟨X,rfl,_⟩,k,cV,am,bh,bw,h1,d1,b6,ay⟩;have K:∀q,w.heap.size<=q->¬S.W q:=λq a Z=>h.new q a Z.1;have L:∀q,w.heap.size<=q->q<V->¬cV.T.M q:=λq a i B=>(d1.c1 q B).elim (h.new q a) λ_=>by omega
 have aa:=o.src.ah d1.ah λq a=>K q (U4 (z q a));have ac:=A.src.ah d1.ah λq a=>K q (U4 (G q a));have an:=d1.ah.size;have f:=cw J;have N:jC T most t=0->aH aj 27 #[.pointer (some cV.st),tk,cY] J.drew (λv w'=>v=.int .i64 (jC T most t)/\gi w0 a_ d n l ab most S bm (lr T most t) w (c+2) w'):=λhe=>by
  have i:=Np h.lS h.keys ht.k;have B:(ix T t).length<=most/\(ix T t).length<=T.length+1:=by
   have:=h.eB.1;unfold jC at he;rw[hg,if_pos rfl]at he;rw[i];split
   .omega
   .rename_i hs
    rw[if_neg hs]at he;split at he
    .cases he
    .omega
  refine((h1.ext f).put ht B I (aa.ext f) (λq a=>⟨?_,L q (U4 (z q a)) (o.lt q a)⟩) (ac.ext f) λq a=>⟨?_,L q (U4 (G q a)) (A.lt q a)⟩).mono ?_
  .have:=o.lt q a;have:=f.size;omega
  .have:=A.lt q a;have:=f.size;omega
  .rintro _ w' ⟨rfl,r⟩
   rw[he];refine⟨rfl,?_⟩;unfold lr;rw[he,if_pos rfl];exact((r.pre f).cat d1 b6 ay).pre (m.trans j)
 have he:jC T most t=if (T.find? (cQ t.s t.p)).isSome then 0 else if most<=T.length then 2 else 0:=by unfold jC;rw[hg,if_pos rfl]
 refine⟨X,_,0,rfl,nofun,λ_=>aT ⟨λ_=>False,λg=>?_,λg=>?_⟩⟩
 .have hs:(T.find? (cQ t.s t.p)).isSome=false:=by rwa[jD]at g
  rw[hs]at he;refine⟨_,rfl,id,_,(h1.ext f).v.cell,(Gx (h1.ext f).v (h1.ext f).s.at_).use ?_⟩;rintro _ _ ⟨rfl,rfl⟩;rw[cU];refine⟨_,rfl,.refl _ _,λi=>?_,λi=>⟨_,rfl,_,(h1.ext f).v.cell,(N ?_).use ?_⟩⟩
  .have:most<=T.length:=U4 (b2 i)
   have e:jC T most t=2:=by rw[he,if_neg (by decide),if_pos this]
   refine⟨by rw[e],?_⟩;unfold lr;rw[e];exact(((h1.uP f 1)).cat d1 b6 ay).pre (m.trans j)
  .have:¬most<=T.length:=U4 (cr i)
   rw[he,if_neg (by decide),if_neg this]
  .rintro _ ad ⟨rfl,r⟩
   exact⟨_,rfl,rfl,r⟩
 .have hs:(T.find? (cQ t.s t.p)).isSome=true:=by rwa[m7]at g
  rw[hs,if_pos rfl]at he;refine⟨nofun,λ_=>⟨_,rfl,_,(h1.ext f).v.cell,(N he).use ?_⟩⟩;rintro _ ad ⟨rfl,r⟩;exact⟨_,rfl,rfl,r⟩
theorem Nq(h:dm w0 w a_ d n l ab most S pages aL T bm c)(hc:c<=20000)(s:Int)(p:br):aH aj 88 #[.pointer (some ab),s,.agg p.c.toArray] w (λv w'=>(df s p=false/\v=.tuple #[false,(1:Int)]/\gi w0 a_ d n l ab most S bm T w (c+1) w')\/(df s p=true/\v=.tuple #[.bool (T.find? (cQ s p)).isSome,U8]/\gi w0 a_ d n l ab most S bm (mZ T s p) w (c+1) w')):=by
 refine ae.H4 (some ab) s _ w _ ?_;delta ae.tE Y ik ak kD;refine a6 (vs:=p.c) rfl λw1 j a k=>⟨p.c,j.rd (br.ba _),(Gy s p w1).use ?_⟩;rintro _ m ⟨e,⟨hg,rfl⟩|⟨hg,tk,rfl,f,hf⟩⟩
 .exact⟨⟨none,0,0⟩,false,rfl,λ_=>.inl ⟨hg,rfl,h.uP (a.trans e) 1⟩,nofun⟩
 have b:=a.trans e;have o:=a.size;refine⟨tk,true,rfl,nofun,λ_=>⟨_,rfl,_,(h.ext b).v.cell,((h.ext b).del hg I f.src λq g=>⟨f.lt q g,h.new q (U4 (hf q g))⟩).use ?_⟩⟩;rintro _ r ⟨rfl,i⟩;rw[←Gz (yW.2 h.lS)]at i;exact⟨_,_,rfl,.inr ⟨hg,rfl,i.pre b⟩⟩
end
section
variable {w0 w w' w1:J}{a_ B:U1}{d n ab most k c q i:Nat}{l:e0}{S aE cV:b_}{pages eC aL gQ:O Nat}{T aq bm dk hW Q:O aB}{s:Int}{p:br}{x:aB}{ch:aB->ao}{tl:ad}
theorem dm.scan(h:dm w0 w a_ d n l ab most S pages aL T bm c)(hc:c<=20000){a tt:ad}{fr to:Key}(hf:Src 1 w a (aC fr))(b:∀q,aD a q->q<w/\¬S.T.M q)(ht:Src 1 w tt (aC to))(e:∀q,aD tt q->q<w/\¬S.T.M q)(f:to.length<=1000000):
 aH aj 102 #[.pointer (some S.st),a,tt,m] w (λv w'=>∃ (t:ad) (aE:b_),v=.tuple #[t,U8]/\dm w0 w' a_ d n l ab most aE pages aL T bm (c+1)/\ef 20000 S aE w w'/\mg S aE/\fF (λq=>¬aE.T.M q) w' t ((hC (T.map aB.kv) fr to).take m.toNat)):=by
 have k:=h.eB.1;have o:=h.kl;have g:=(h.s.at_.ok.low (by rw[cU];omega)).2;rw[cU]at g;have p:=h.s.aX;refine(MR h.s.at_ (by rw[cU];omega) I I hf b ht e f).mono ?_;rintro v w' ⟨aq,hs,hd,he,_,⟨t,rfl,i⟩|⟨_,j⟩⟩
 .exact⟨t,_,rfl,h.read hs hd I he.gen he.pending rfl,hd.mono I,he,i⟩
 .exact absurd (h.q.1 _) j
theorem GJ(h:dm w0 w a_ d n l ab most S pages aL T bm c)(hc:c<=20000)(s:Int):aH aj 163 #[.pointer (some ab),s] w (λv w'=>(fU s=false/\v=.tuple #[(),(1:Int)]/\Ext w w')\/(fU s=true/\∃ (t:ad) (aE:b_),v=.tuple #[t,U8]/\dm w0 w' a_ d n l ab most aE pages aL T bm (c+1)/\ef 20000 S aE w w'/\mg S aE/\fF (λq=>¬aE.T.M q) w' t ((T.filter (gu s)).map aB.kv))):=by
 refine okF (ae.xo (some ab) s) ax.xo func163 ?_;delta ae.xo Ds ak dH;refine(rP s w).use ?_;rintro _ w1 ⟨f,t,rfl,e,⟨hs,rfl,rfl⟩|⟨hs,hf,ht,o,p⟩⟩
 .exact⟨_,_,rfl,λ_=>.inl ⟨hs,rfl,e⟩,nofun⟩
 refine⟨f,t,rfl,λg=>?_,λ_=>⟨_,rfl,_,(h.ext e).v.cell,((h.ext e).scan hc (m:=1048576) hf.src (λq b=>⟨hf.lt q b,h.new q (o q b)⟩) ht.src (λq b=>⟨ht.lt q b,h.new q (p q b)⟩) ?_).use ?_⟩⟩
 .exfalso
  have h1:=hf.1;rw[de,dI]at h1
  cases i:f.a with
  |none=>have:=congrArg List.length (hf.src.nil i);rw[de,dI]at this;cases this
  |some a=>rw[i]at g;cases g
 .unfold nC
  split
  .rw[dI];decide
  .decide
 rintro _ z ⟨t7,r,rfl,u,d7,x,k⟩;obtain⟨j,rfl,y⟩:=oR hs;rw[c2,Nj y h.keys,dO]at k
 .exact⟨t7,0,rfl,.inr ⟨hs,t7,r,rfl,u,(ef.ext S e).trans d7|>.mono I,x,k⟩⟩
 .have h1:(T.filter (gu (j:Int))).length<=T.length:=jF _ _
  have:=h.eB.1;have:=h.kl;rw[cU];show _<=1048576;omega
theorem GK{K:ao->J->U2}(x:fF B w tl (Q.map aB.kv))(hi:i<Q.length)(y:∀t∈Q,t.ok)(z:∀ (b d:J) (tk cY:ad),Ext w b->Ext w d->w.heap.size<b.heap.size->Var d w.heap.size [tk,cY] 198->Var d b.heap.size (Q[i]).c 57->bI B w tk (eI (Q[i]).s.toNat (Q[i]).p)->K true b d):
 ∃dj:af,tl.a=some dj/\((0:Int)<=(i:Int)/\(i:Int)<(tl.len:Int))/\
  ∃cG:ad,w.cell? (dj.add (Int.toNat (i:Int)*2))=some (.slice cG.a cG.len cG.cap)/\
  ∃e:ad,w.cell? ((dj.add (Int.toNat (i:Int)*2)).add 1)=some (.slice e.a e.len e.cap)/\
  an (w.alloc (.cells #[(),()] 198)) λn=>
  bp n w.heap.size [cG,e]/\
  (2:Nat)=2/\an (setCells n w.heap.size 0 [cG,e]) λf=>
  ∃h:ad,f.cell? w.heap.size=some (.slice h.a h.len h.cap)/\
  ∃j:ad,f.cell? (Addr.add w.heap.size 1)=some (.slice j.a j.len j.cap)/\
  Calls aj 51 #[h,j] f λC b=>
  ∃k:Array aa,∃q:ao,C=.returned (.tuple #[.agg k,q])/\
  an (b.alloc (.cells aB.zero.c.toArray 57)) λr=>bp r b.heap.size (Array.toList k)/\Array.size k=21/\
  an (setCells r b.heap.size 0 (Array.toList k)) λd=>K q b d:=by
 obtain⟨A,tk,cY,av,D,h1,h2,b1,cf⟩:=FW x (i:=i) (by rw[cU];exact hi);rw[vf]at b1 cf;refine⟨A,av,D,tk,h1,cY,h2,a6 (vs:=[(),()]) rfl λn g E H=>⟨g.ct rfl (λv g=>?_),rfl,cP g (us:=[tk,cY]) rfl rfl λf o F L=>?_⟩⟩
 .simp only[cZ,e2,e_]at g
  rcases g with rfl|rfl<;>trivial
 have l:Ext w f:=Ext.cp E F (bk _);refine⟨tk,o.cell,cY,by rw[aA];exact o.cell,(GG (y _ (cJ hi)) (b1.1.ext l) b1.2.1 (cf.1.ext l) cf.2.1).use ?_⟩;rintro _ b ⟨rfl,m⟩;have M:=m.size;exact⟨_,true,rfl,sG Q[i] λd G u=>z b d tk cY (l.trans m) ((l.trans m).trans u) I ((o.ext m).ext u) G b1⟩
theorem Nr(h:dm w0 w a_ d n l ab most S pages aL T bm c)(hc:c<=20000)(s:Int):aH aj 92 #[.pointer (some ab),s] w (λv w'=>∃ (k:Nat) (aE:b_),dm w0 w' a_ d n l ab most aE pages aL T bm (c+1)/\ef k S aE w w'/\aE.now=S.now/\aE.u=S.u/\((fU s=false/\v=.tuple #[(),(1:Int)])\/(fU s=true/\∃t:ad,v=.tuple #[t,(0:Int)]/\aR 21 57 w' t (bl aB.c (T.filter (gu s)))/\∀q,aD t q->w.heap.size<=q))):=by
 refine okF (ae.w7 (some ab) s) ax.w7 func92 ?_;(delta ae.w7 dH ak aO al vY Y h4 fk ar;dsimp only);refine(GJ h hc s).use ?_;rintro _ w1 (⟨hs,rfl,z⟩|⟨hs,F,cV,rfl,h1,d1,A,j⟩)
 .exact⟨⟨none,0,0⟩,1,rfl,λ_=>⟨0,S,(h.ext z).mono I,.ext S z,rfl,rfl,.inl ⟨hs,rfl⟩⟩,nofun⟩
 obtain⟨Q,p⟩:∃Q,Q=T.filter (gu s):=⟨_,rfl⟩;rw[←p]at j⊢;have G:∀t∈Q,t.ok:=λt ht=>h.ok t (by rw[p]at ht;exact(gw.1 ht).1);have P:Q.length<=400:=by
  have h2:Q.length<=T.length:=by rw[p];exact jF _ _
  have:=h.eB.1;have:=h.kl;omega
 have R:=d1.ah.size;have H:=j.len;rw[cU]at H;refine⟨F,0,rfl,nofun,λ_=>⟨λt m w'=>∃i:Nat,m=(i:Int)/\i<=Q.length/\eF 21 57 w1 w' t (bl aB.c (Q.take i)),λ_ m _=>((Q.length:Int)-m).toNat,⟨0,rfl,cI _,aR.none _ _ _,.refl _ _,λq r=>(fH q r).elim⟩,?_⟩⟩;rintro t _ U ⟨i,rfl,hi,a⟩;refine⟨λaI=>?_,λB=>?_⟩
 .have aI:=b2 aI
  have C:i<Q.length:=by omega
  refine GK (j.ext a.x) C G λV b tk cY W D X _ J _=>⟨nofun,λ_=>⟨_,J.rd (aB.ba _),⟨some b.heap.size,1,1⟩,_,sA b Q[i],?_⟩⟩;have y:eF 21 57 w1 b t (bl aB.c (Q.take i)):=⟨a.o.ext D,a.x.trans D,a.f⟩;have E:Ext b (b.alloc (.cells Q[i].c.toArray 57)):=c5 _ _;have K:eF 21 57 w1 (b.alloc (.cells Q[i].c.toArray 57)) t (bl aB.c (Q.take i)):=⟨y.o.ext E,y.x.trans E,y.f⟩;have Z:t.len<=1000000:=by
   have L:=a.o.1;rw[e5 _ (iQ _),cF]at L;omega
  obtain⟨M,N,ay,az,O,_⟩:=eF.app (cB:=22) nP K (Src.new (T:=57) b Q[i].c 1 (Q[i].ba)) (aB.plain _) (by show(2*(t.len+1)+1000)*56<=_;omega);rw[mf I];refine⟨M,N,ay,⟨i+1,rfl,I,?_⟩,by show((Q.length:Int)-((i+1:Nat):Int)).toNat<((Q.length:Int)-(i:Nat)).toNat;omega⟩;rw[ib C,ke];have e:bl aB.c [Q[i]]=Q[i].c:=by simp[bl]
  rw[e];exact O
 .have B:=cr B
  have e:i=Q.length:=by omega
  subst e;rw[ic]at a;exact⟨_,cV,h1.ext a.x,d1.trans (.ext cV a.x),A.now,A.u,.inr ⟨hs,t,rfl,a.o,λq r=>by have:=a.f q r;omega⟩⟩
end
section
variable {w0 w w' w1:J}{a_ B:U1}{d n ab most k c q i:Nat}{l:e0}{S aE cV:b_}{pages eC aL gQ:O Nat}{T aq bm dk hW Q:O aB}{s:Int}{p:br}{x:aB}{ch:aB->ao}{tl:ad}
theorem Ns(hc:ch x=false):gR T (Q++ [x]) ch=gR T Q ch:=by
 unfold gR;refine pk λt _=>?_
 congr 1
 by_cases e:t=x
 .subst e;rw[hc,Bool.and_false,Bool.and_false]
 .congr 1
  rw[eG,b8,b8];simp[e]
theorem Nt(h:iU T)(a:∀t∈T,df t.s t.p=true)(b:x∈T)(hx:x∉Q)(hc:ch x=true):gR T (Q++ [x]) ch=(gR T Q ch).filter λt=> !cQ x.s x.p t:=by
 rw[Nn h b hx a];unfold gR;refine pk λt _=>?_;by_cases e:t=x
 .subst e;simp[hc]
 .rw[gS e,Bool.not_false,qI]
  congr 2
  rw[eG,b8,b8];simp[e]
def Nu(S:b_)(w:J)(f:hM)(ch:aB->ao):Prop:=hY aj f.f/\∀ (t:aB) (w':J),ag S.W w w'->aH aj f.f (f.pre++ #[.agg t.c.toArray]++f.cap) w' (λv a=>v=.bool (ch t)/\Ext w' a)
theorem GL(h:dm w0 w a_ d n l ab most S pages aL T bm c)(hc:c<=10000)(G:fF (λq=>¬S.T.M q) w tl (Q.map aB.kv))(y:∀t∈Q,t∈T)(H:Q.Nodup){f:hM}(hf:Nu S w f ch):
 aH aj 104 #[.pointer (some ab),tl,.func (.func f.f) f.pre f.cap] w (λv w'=>v=.tuple #[.int .i64 ((Q.filter ch).length:Nat),(0:Int)]/\gi w0 a_ d n l ab most S bm (gR T Q ch) w (c+(Q.filter ch).length) w'):=by
 refine okF (ae.w9 (some ab) tl f) ax.w9 func104 ?_;(delta ae.w9 ak aO al vY Y h4 fk kD ar;dsimp only);have V:=G.len;rw[cU]at V;have aA:Q.length<=400:=by
  have:=(H.length_le_of_subset y);have:=h.eB.1;have:=h.kl;omega
 refine⟨λg m w'=>∃ (i k:Nat) (b:b_) (r s:O Nat) (g_:O aB),m=(i:Int)/\i<=Q.length/\g=(((Q.take i).filter ch).length:Nat)/\dm w0 w' a_ d n l ab most b r s (gR T (Q.take i) ch) g_ (c+((Q.take i).filter ch).length)/\ef k S b w w'/\b.now=S.now/\kQ S bm b g_,
  λ_ m _=>((Q.length:Int)-m).toNat,⟨0,0,S,pages,aL,bm,rfl,cI _,rfl,?_,.ext S (.refl _ _),rfl,.inl ⟨rfl,rfl⟩⟩,?_⟩
 .have e:gR T (Q.take 0) ch=T:=jU.2 λt _=>by simp
  rw[e];exact h
 rintro _ _ X ⟨i,k,b,r,s,g_,rfl,hi,rfl,u,d5,n5,z⟩;have Z:fF (λq=>¬b.T.M q) X tl (Q.map aB.kv):=G.qC d5;refine⟨λaI=>?_,λJ=>?_⟩
 rotate_left
 .have J:=cr J
  have e:i=Q.length:=by omega
  subst e;rw[ic]at u⊢;exact⟨rfl,k,b,r,s,g_,u,d5,n5,z⟩
 have aI:=b2 aI;have A:i<Q.length:=by omega
 have hx:=y _ (cJ A);have aa:=h.ok _ hx;have o:Q.take (i+1)=Q.take i++ [Q[i]]:=ib A;have ac:Q[i]∉Q.take i:=λad=>by
  have h1:(Q.take (i+1)).Nodup:=H.sublist (u5 _ _);rw[o]at h1;exact(o8.1 h1).2.2 _ ad _ (e8.2 rfl) rfl
 have p:(Q.take (i+1)).filter ch=(Q.take i).filter ch++if ch Q[i] then [Q[i]] else []:=by rw[o,gE,ie,pj]
 refine cc (λg w'=>∃ (k:Nat) (j:b_) (B C:O Nat) (iE:O aB),g=(((Q.take (i+1)).filter ch).length:Nat)/\dm w0 w' a_ d n l ab most j B C (gR T (Q.take (i+1)) ch) iE (c+((Q.take (i+1)).filter ch).length)/\ef k S j w w'/\j.now=S.now/\kQ S bm j iE) (λaC D=>?_) ?_
 rotate_left
 .rintro _ aD ⟨af,j,B,C,iE,rfl,ai,d6,n6,am⟩
  rw[mf I];exact⟨⟨i+1,af,j,B,C,iE,rfl,I,rfl,ai,d6,n6,am⟩,by show((Q.length:Int)-((i+1:Nat):Int)).toNat<((Q.length:Int)-(i:Nat)).toNat;omega⟩
 refine GK Z A (λt ht=>h.ok t (y t ht)) λaE an tk cY aF K aG ao ap E=>⟨λa=>(by cases a),λ_=>⟨_,ap.rd (aB.ba _),hf.1,((hf.2 Q[i] an (cE d5.ah (ag.cX (W:=λ_=>False) K) λ_ _ h=>h.elim)).use ?_)⟩⟩;rintro _ aq ⟨rfl,L⟩;have F:=K.trans L;refine⟨_,rfl,λa=>?_,λa=>?_⟩
 .have a:ch Q[i]=false:=by rwa[jD]at a
  rw[a]at p;rw[o,Ns a,←o,p,if_neg (by decide),fp]at D;exact D _ _ ⟨_,b,r,s,g_,rfl,u.ext F,d5.trans (.ext b F),n5,z⟩
 .have a:ch Q[i]=true:=by rwa[m7]at a
  rw[a,if_pos rfl]at p;have N:=cw aq;have x:=F.trans N;have P:=u.ext x;have au:=jF ch (Q.take i);rw[cF]at au;refine aT ⟨λ_=>False,_,rfl,id,_,P.v.cell,id,tk,((ao.ext L).ext N).cell,((P.del aa.k I (E.1.ext x) λq R=>⟨?_,(E.2.2 q R).1⟩).use ?_)⟩
  .have:=(E.2.2 q R).2
   have:=x.size;omega
  rintro _ aJ ⟨rfl,aK,av,aw,ay,l3,U,d7,n7,az⟩;refine⟨_,0,rfl,λa=>(by cases a),λ_=>?_⟩;rw[←Nt h.lS h.keys hx ac a,←o]at U;rw[mf I,show((Q.take i).filter ch).length+1=((Q.take (i+1)).filter ch).length by rw[p,cz];rfl];refine D _ _ ⟨_,av,aw,ay,l3,rfl,?_,(d5.trans (.ext b x)).trans d7,n7.trans n5,z.trans az⟩;rw[p,cz];exact U
end
def lT(b:Int)(t:aB):ao:=decide (b<0)||decide (t.b=b)
def fX(now:Nat)(t:aB):ao:=decide (t.u<=now)
section
variable {w0 w w' w1:J}{a_ B:U1}{d n ab most k c q i bV m:Nat}{l:e0}{S aE cV:b_}{pages eC aL gQ:O Nat}{T aq bm dk hW Q:O aB}{s b:Int}{p:br}{x t:aB}{ch:aB->ao}{tl:ad}{fr:Key}{L:O aP}
theorem Nv:gR T (T.filter (gu s)) (lT b)=T.filter (gP s b):=by
 unfold gR;refine pk λt ht=>?_;have e:decide (t∈T.filter (gu s))=decide (t.s=s):=by
  rw[eG,b8,b8,gw];unfold gu;rw[b8];exact⟨λh=>h.2,λh=>⟨ht,h⟩⟩
 rw[e];unfold lT gP;by_cases h1:t.s=s<;>by_cases h2:b<0<;>by_cases a:t.b=b<;>simp[h1,h2,a]<;>omega
theorem GM:∀T:O aB,((T.filter (gu s)).filter (lT b)).length=T.length-(T.filter (gP s b)).length:=λT=>by
 have h:((T.filter (gu s)).filter (lT b)).length+(T.filter (gP s b)).length=T.length:=by
  rw[List.filter_filter]
  induction T with
  |nil=>rfl
  |cons t T c=>
   have e:gP s b t= !(lT b t&&gu s t):=by
    unfold gP gu lT;by_cases h1:t.s=s<;>by_cases h2:b<0<;>by_cases a:t.b=b<;>simp[h1,h2,a]<;>omega
   rw[ie,ie,e]
   cases lT b t&&gu s t<;>simp<;>omega
 omega
theorem GN(h:iU T)(d:fo T fr≠ []):(fo T fr).getLast? =T.getLast? :=by
 obtain⟨x,hx⟩:=qM _ d;obtain⟨b,a⟩:=gw.1 hx;have c:T≠ []:=List.ne_nil_of_mem b;obtain⟨aq,z,e⟩:∃aq z,T=aq++ [z]:=⟨T.dropLast,T.getLast c,(List.dropLast_concat_getLast c).symm⟩;subst e;have f:decide (dL fr z.kv.1)=true:=by
  rcases cR.1 b with h1|h1
  .have h2:=(mx.1 h).2.2 x h1 z (e8.2 rfl)
   exact dh (Av (b2 a) (je h2))
  .rw[e8.1 h1]at a;exact a
 unfold fo;rw[gE,ie,f];simp
theorem Nw(h:iU T)(b:(fo T fr).length<=m):jl T (dB T fr m)=[]:=by
 unfold jl dB;rw[dO b];by_cases a:fo T fr=[]
 .rw[a];rfl
 .rw[GN h a]
  cases T.getLast? with
  |none=>rfl
  |some t=>simp
theorem Nx(h:iU T)(h1:1<=m)(b:m<(fo T fr).length)(a:m-1<(dB T fr m).length):jl T (dB T fr m)=((dB T fr m)[m-1]'a).kv.1++ [0]:=by
 have c:(dB T fr m)[m-1]'a=(fo T fr)[m-1]'I:=pb ..;have hlen:(dB T fr m).length=m:=by unfold dB;rw[cF];omega
 have d:(dB T fr m).getLast? =some ((fo T fr)[m-1]'I):=by
  rw[y1,hlen,←c,dR a]
 have f:fo T fr≠ []:=λe=>by rw[e]at b;cases b
 have g:iU (fo T fr):=List.Pairwise.filter _ h;unfold jl;rw[d,c,←GN h f];show(if _ then _ else _)=_;rw[if_neg];intro e;rw[y1,dR I]at e;have h2:=lV.1 g (m-1) ((fo T fr).length-1) I I I;rw[Option.some.inj e]at h2;exact k1 _ h2
theorem Ny(T:O aB)(fr:Key):hC (T.map aB.kv) fr []=(fo T fr).map aB.kv:=by
 unfold hC fo;rw[List.filter_map];refine congrArg _ (pk λt _=>?_);show(decide (dL fr t.kv.1)&&(true||_))=_;rw[qP,qI]
theorem fF.head(h:fF B w tl L)(g:m<=L.length):fF B w ⟨a7 tl.a 2 0 tl.cap,m-0,tl.cap-0⟩ (L.take m):=by
 have i:=h.len;obtain⟨ps,h1,h2,d,b⟩:=h;have c:=Src.Mb h1 h2 (cI m) (U4 b.1);have e:(ps.drop 0).take (m-0)=ps.take m:=by rw[iV,m3]
 rw[e]at c;exact⟨ps.take m,c,by show m-0<=tl.cap-0;omega,λq f=>d q (Kt.1 f),b.take m⟩
theorem Nz(e:Var w bV [b] 3)(t:aB):aH aj 164 #[.agg t.c.toArray,.pointer (some bV)] w (λv w'=>v=.bool (lT b t)/\Ext w w'):=by
 refine ae.Ik _ bV w _ ?_;(delta ae.tO r1 ak Y;dsimp only);refine a6 (vs:=t.c) rfl λw1 g a _=>⟨b,(e.ext a).cell,cc (λv w'=>v=lT b t/\w1=w') (λk f=>⟨λd=>f _ _ ⟨by unfold lT;rw[d];rfl,rfl⟩,λd=>⟨_,uj g,b,(e.ext a).cell,f _ _ ⟨?_,rfl⟩⟩⟩) ?_⟩
 .unfold lT;rw[d,jR,eG,kq,b8]
 .rintro _ _ ⟨rfl,rfl⟩;exact⟨rfl,a⟩
theorem NA(b:Var w bV [.int .u64 (now:Nat)] 23)(t:aB):aH aj 105 #[.agg t.c.toArray,.pointer (some bV)] w (λv w'=>v=.bool (fX now t)/\Ext w w'):=by
 refine ae.H8 _ bV w _ ?_;(delta ae.tF bO Y;dsimp only);refine a6 (vs:=t.c) rfl λw1 d a _=>⟨_,AS d,_,(b.ext a).cell,?_,a⟩;unfold fX
 congr 1
 rw[eG,b8,b8];omega
theorem NB:hY aj 164:=⟨_,(n1 (show(Tryz.prog.funcs[164]?).isSome=true by kernel_rfl)).symm,by kernel_rfl,by kernel_rfl⟩
theorem NC:hY aj 105:=⟨_,(n1 (show(Tryz.prog.funcs[105]?).isSome=true by kernel_rfl)).symm,by kernel_rfl,by kernel_rfl⟩
theorem ND(h:dm w0 w a_ d n l ab most S pages aL T bm c)(hc:c<=9000)(s b:Int):aH aj 90 #[.pointer (some ab),s,b] w (λv w'=>(fU s=false/\v=.tuple #[U8,(1:Int)]/\gi w0 a_ d n l ab most S bm T w (c+1) w')\/
 (fU s=true/\v=.tuple #[.int .i64 ((T.length-(T.filter (gP s b)).length:Nat):Int),U8]/\gi w0 a_ d n l ab most S bm (T.filter (gP s b)) w (c+1+(T.length-(T.filter (gP s b)).length)) w')):=by
 refine okF (ae.w6 (some ab) s b) ax.w6 func90 ?_;delta ae.w6 dH ak g9 Y;refine a6 (vs:=[b]) rfl λw1 k a x=>(GJ (h.ext a) I s).use ?_;rintro _ ai (⟨hs,rfl,m⟩|⟨hs,o,cC,rfl,h2,d2,i,p⟩)
 .exact⟨⟨none,0,0⟩,1,rfl,λ_=>.inl ⟨hs,rfl,h.uP (a.trans m) 1⟩,nofun⟩
 have q:¬cC.W w.heap.size:=λg=>(d2.c1 _ g.1).elim (h.new _ (bk _)) λy=>by omega
 have r:=k.ah d2.ah λg=>h.new _ (bk _) g.1;refine⟨o,0,rfl,nofun,λ_=>(GL (f:=⟨164,#[],#[.pointer (some w)]⟩) (ch:=lT b) h2 I p (λt ht=>(gw.1 ht).1) (h.lS.nodup.filter _) ⟨NB,λt w' hc=>Nz (r.ah hc q) t⟩).use ?_⟩;rintro _ z ⟨rfl,j⟩;rw[Nv,GM]at j;rw[GM];exact⟨_,0,rfl,.inr ⟨hs,rfl,(gi.cat d2 i.now (.inl ⟨by rw[i.u],rfl⟩) j).pre a⟩⟩
def stM(m:Int):Nat:=(min m 64).toNat
theorem NF(h:dm w0 w a_ d n l ab most S pages aL T bm c)(hc:c<=9000){x:ad}{fr:Key}{m:Int}(D:m<=9223372036854775807)(hf:Src 1 w x (aC fr))(E:∀q,aD x q->q<w/\¬S.T.M q):
 aH aj 45 #[.pointer (some ab),x,.int .u64 (now:Nat),m] w (λv w'=>∃t:ad,v=.tuple #[t,.int .i64 (((dB T fr (stM m)).filter (fX now)).length:Nat),U8]/\
  aR 1 5 w' t (aC (jl T (dB T fr (stM m))))/\(∀q,aD t q->w<=q)/\∃ (k:Nat) (aE:b_) (eC gQ:O Nat) (dk:O aB),dm w0 w' a_ d n l ab most aE eC gQ (gR T (dB T fr (stM m)) (fX now)) dk (c+1+((dB T fr (stM m)).filter (fX now)).length)/\ef k S aE w w'/\aE.now=S.now/\kQ S bm aE dk/\∀q,aD t q->¬aE.T.M q):=by
 refine okF (ae.wN (some ab) x (now:Nat) m) ax.wN func45 ?_;(delta ae.wN ak dH ar al z3 Y bH g9;dsimp only);refine a6 (vs:=[.int .u64 (now:Nat)]) rfl λw1 ac p aP=>⟨nofun,λ_=>⟨min m 64,w1,Gm _ _ _ _ _,λaI=>?_,λF=>?_⟩⟩
 .have aI:=b2 aI
  have e:stM m=0:=by unfold stM;omega
  have af:dB T fr (stM m)=[]:=by unfold dB;rw[e,List.take_zero]
  have ag:gR T [] (fX now)=T:=jU.2 λt _=>by simp
  rw[af,ag];exact⟨⟨none,0,0⟩,rfl,aR.none _ _ _,λq a=>(fH q a).elim,0,S,pages,aL,bm,(h.ext p).mono I,.ext S p,rfl,.inl ⟨rfl,rfl⟩,λq a=>(fH q a).elim⟩
 have F:=cr F;obtain⟨M,G⟩:=U6 (stM m);have ai:min m 64=(M:Int):=by rw[G];unfold stM;omega
 rw[←G,ai];have am:1<=M/\M<=64:=I
 rw[mf I];have h1:=h.ext p;refine⟨_,rfl,_,h1.v.cell,(h1.scan I (tt:=bM) (to:=[]) (hf.ext p) (λq a=>⟨U4 ((E q a).1),(E q a).2⟩) (Mf w1) (λq a=>(fH q a).elim) (by decide)).use ?_⟩;rintro _ H ⟨t6,y,rfl,J,d6,K,j⟩;rw[Ny,c2]at j;obtain⟨Q,g⟩:=U6 (dB T fr M);have an:¬y.W w.heap.size:=λr=>(d6.c1 _ r.1).elim (h.new _ (bk _)) λaQ=>by omega
 have ao:=ac.ah d6.ah λr=>h.new _ (bk _) r.1;have aS:=d6.ah.size;have hlen:=j.len;rw[cF,cU]at hlen;have L:Q.map aB.kv=((fo T fr).map aB.kv).take M:=by rw[g];exact mu
 refine⟨t6,0,rfl,nofun,λ_=>pC (λs N w'=>Ext H w'/\fF (λq=>¬y.T.M q) w' N (Q.map aB.kv)/\aR 1 5 w' s (aC (jl T Q))/\∀q,aD s q->H<=q) (λaU P=>⟨λb=>?_,λb=>?_⟩) ?_⟩
 .have b:=b2 b
  have B:M<(fo T fr).length:=I
  have C:=j.head (m:=M) (by rw[cF,cU];omega);rw[pc,iX I,←L]at C;have aV:Q.length=M:=by rw[g];unfold dB;rw[cF];omega
  have R:M-1<Q.length:=I
  obtain⟨A,tk,cY,av,ap,aZ,_,b1,_⟩:=FW C (i:=M-1) (by rw[cU];exact R);rw[vf]at b1;have aq:IntKind.wrap .i64 ((M:Int)-1)=((M-1:Nat):Int):=by rw[bq I I];omega
  rw[aq,c2];have aW:=j.choose_spec.2.1;refine⟨I,A,av,ap,tk,aZ,a6 (vs:=[.int .u8 0]) rfl λaX au U aY=>aT ((Eb (la:=Q[M-1].kv.1) (lb:=[0]) (b1.1.ext U) (au.r5 (o:=0) (n:=1) (c:=1) (l:=[0]) (by decide) rfl) ?_).use ?_)⟩
  .have aw:cK Q[M-1].kv.1:=sE
   unfold cK at aw;show _+1<=1000;omega
  rintro _ a0 ⟨ay,rfl,az,aA,aF⟩;have V:=U.trans aA;refine⟨ay,rfl,P _ _ _ ⟨V,C.ext V,?_,λq a=>U4 (aF q a)⟩⟩;have e:jl T Q=Q[M-1].kv.1++ [0]:=by
   subst g;exact Nx h.lS am.1 B R
  rw[e];exact az
 .have b:=cr b
  have B:(fo T fr).length<=M:=I
  have e:jl T Q=[]:=by rw[g];exact Nw h.lS B
  refine P _ _ _ ⟨.refl _ _,?_,?_,λq a=>(fH q a).elim⟩
  .rw[L]
   rw[dO (by rw[cU];omega)]at j⊢;exact j
  .rw[e];exact aR.none _ _ _
 .rintro s N a1 ⟨z,aG,X,Z⟩
  have a2:=z.size;refine(GL (f:=⟨105,#[],#[.pointer (some w)]⟩) (ch:=fX now) (J.ext z) I aG (λt ht=>?_) ?_ ⟨NC,λt w' hc=>NA ((ao.ext z).ah hc an) t⟩).use ?_
  .rw[g]at ht
   exact(gw.1 (fq ht)).1
  .rw[g]
   exact(h.lS.nodup.filter _).sublist (u5 _ _)
  rintro _ a3 ⟨rfl,a4,aJ,aK,aM,l3,aN,d7,n7,aO⟩;rw[←g];have aa:∀q,aD s q->¬y.T.M q:=λq a=>J.new q (Z q a);exact⟨_,0,rfl,nofun,λ_=>⟨s,rfl,X.ah d7.ah λq a r=>aa q a r.1,λq a=>U4 (Z q a),_,aJ,aK,aM,l3,aN,(((ef.ext S p).trans d6).trans (.ext y z)).trans d7,n7.trans K.now,kQ.trans (.inl ⟨by rw[K.u],rfl⟩) aO,λq a D=>(d7.c1 q D).elim (aa q a) λa5=>U4 (X.lt q a)⟩⟩
end
section
variable {B:U1}{w w':J}{s:ad}{T:O aB}{t:aB}{aQ i most:Nat}
theorem NG(h:aR 21 57 w s (bl aB.c T))(hi:i<T.length)(t:aB):∃A:af,s.a=some A/\((0:Int)<=(i:Int)/\(i:Int)<(s.len:Int))/\bp w (A.add (Int.toNat (i:Int)*21)) (Array.toList t.c.toArray)/\Array.size t.c.toArray=21/\
 aR 21 57 (setCells w (A.add (Int.toNat (i:Int)*21)) 0 (Array.toList t.c.toArray)) s (bl aB.c (T.set i t))/\ag (aD s) w (setCells w (A.add (Int.toNat (i:Int)*21)) 0 (Array.toList t.c.toArray)):=by
 obtain⟨h1,h2,k,m⟩:=h;have r:s.len=T.length:=by rw[e5 _ (iQ T)]at h1;omega
 obtain⟨_,hc⟩|⟨b,c,d,f,n,ht⟩:=m
 .omega
 have g:=t.ba;have j:i*21+t.c.length<=c.size:=I
 rw[c2];refine⟨_,d,I,?_,by simp[g],?_,?_⟩
 .rw[aA,cA]
  exact f.ct _ _ j (aB.plain t)
 .rw[aA,cA]
  refine⟨?_,h2,k,.inr ⟨b,_,d,bu.kB f t.c,by rw[ja];exact n,?_⟩⟩
  .rw[e5 _ (iQ _),dp];omega
  .rw[l1 _ _ _ j,y0,if_pos hi,ke]
   show _=_++(t.c++bl aB.c (T.drop (i+1)));have o:=uE (c:=aB.c) (sz:=21) T i (iQ T);have p:=uE (c:=aB.c) (sz:=21) T (i+1) (iQ T);rw[←o.1,←p.2,←ht,pc,iX I,cO,vc,vc,cF,Array.length_toList,iX I,dO (l:=c.toList.take _) (by rw[cF];omega),dO (l:=t.c) I,List.drop_take];rw[g,show s.len*21-i*21-21=s.len*21-(i+1)*21 from I,show i*21+21=(i+1)*21 from I]
 .rw[aA,cA]
  refine(ag.kA (b:=b) (.refl _ _) _ 0).mono λq _ e=>?_;rw[e];exact⟨_,d,rfl⟩
theorem NH(h:fN B w aQ (most:Nat) s T)(a3:T.length<=1000000)(aC:∀q,w.heap.size<=q->B q)(V:iU T)(W:∀t∈T,df t.s t.p=true)(t:aB):
 aH aj 44 #[.pointer (some aQ),.agg t.c.toArray] w (λv w'=>v=.int .i64 (jC T most t)/\ag (λq=>q=aQ) w w'/\∃g,fN B w' aQ (most:Nat) g (lr T most t)):=by
 have aD:=h.len;have hc:=h.c;have bn:=h.v.lt;refine ae.IA (some aQ) _ w _ ?_;(delta ae.tU Y bP ak r1 bB al aO st bH ar l3 wc;dsimp only);refine a6 (vs:=t.c) rfl λw1 aE a4 bp=>⟨t.c,aE.rd (aB.ba t),(nu t w1).use ?_⟩;rintro _ y ⟨rfl,aF⟩;have D:=a4.trans aF;refine⟨_,rfl,λd=>?_,λd=>?_⟩
 .have hg:t.ep=false:=by rwa[jD]at d
  have e:jC T most t=1:=by unfold jC;rw[hg];rfl
  unfold lr;rw[e];exact⟨rfl,ag.cX D,s,h.ext D⟩
 have hg:t.ep=true:=by rwa[m7]at d
 have X:df t.s t.p=true:=by have:=hg;unfold aB.ep at this;rw[dg]at this;exact this.1
 have Z:=aE.ext aF;have he:jC T most t=if (T.find? (cQ t.s t.p)).isSome then 0 else if most<=T.length then 2 else 0:=by unfold jC;rw[hg,if_pos rfl]
 refine⟨_,Z.cell,_,mb Z,(BO (h.v.ext D) (h.ia.ext D) a3).use ?_⟩;rintro _ z ⟨rfl,aG⟩;have E:=D.trans aG;have L:=h.ext E;have aJ:=Z.ext aG;have bq:=E.size;refine⟨_,rfl,λF=>?_,λaI=>?_⟩
 .have F:=b2 F
  obtain⟨i,hf⟩:∃i,T.findIdx? (cQ t.s t.p)=some i:=by
   cases hf:T.findIdx? (cQ t.s t.p) with
   |some i=>exact⟨i,rfl⟩
   |none=>unfold iR at F;rw[hf]at F;exact absurd F (by decide)
  have e:iR T t.s t.p=(i:Int):=by unfold iR;rw[hf]
  obtain⟨hi,a5⟩:=Nl V hf;have hs:(T.find? (cQ t.s t.p)).isSome=true:=by
   rw[List.find?_isSome];exact⟨T[i],cJ hi,(sU.1 hf).2.1⟩
  rw[hs,if_pos rfl]at he;rw[e,he];have f0:=uJ z;obtain⟨ab,ac,ay,az,C,br,bs,_⟩:=eF.app (cB:=22) nP f0 (L.ia.ext f0.x) (uK T) (by show(2*(0+s.len)+1000)*56<=_;omega);rw[hK]at C;have a8:=aJ.ext C.x;obtain⟨A,av,ah,b1,cf,a9,a_⟩:=NG C.o hi t;have ai:Ext z (setCells ac (A.add (Int.toNat (i:Int)*21)) 0 (Array.toList t.c.toArray)):=Ext.d_ C.x a_ C.f;have bb:eF 21 57 z (setCells ac (A.add (Int.toNat (i:Int)*21)) 0 (Array.toList t.c.toArray)) ab (bl aB.c (T.set i t)):=⟨a9,ai,C.f⟩;obtain⟨bh,bj,am,ao⟩:=L.put ai bb λq l=>aC q I;refine⟨_,_,o3 z,_,rfl,s,by rw[aA];exact(L.v.ext f0.x).cell,ab,ac,ay,t.c,a8.rd (aB.ba t),A,av,ah,b1,cf,aT ⟨_,rfl,bh,bj,aT ⟨rfl,?_,ab,?_⟩⟩⟩
  .exact cE (ag.cX (E.trans ai)) ao λq _ e=>e
  .unfold lr
   rw[he,if_pos rfl,←a5];exact am
 have aI:=cr aI;have hf:T.findIdx? (cQ t.s t.p)=none:=by
  cases hf:T.findIdx? (cQ t.s t.p) with
  |none=>rfl
  |some i=>unfold iR at aI;rw[hf]at aI;dsimp only at aI;omega
 have hs:(T.find? (cQ t.s t.p)).isSome=false:=by
  rw[←fG,List.find?_isSome];rintro⟨x,hx,d⟩;have:=vg.1 hf x hx;rw[d]at this;cases this
 rw[hs,if_neg (by decide)]at he;have M:=cw z;have ap:=L.ext M;refine aT ⟨_,rfl,id,s,by rw[aA];exact ap.v.cell,_,rfl,id,_,ap.v.cell,λd=>?_,λd=>?_⟩
 .have d:=b2 d
  rw[if_pos I]at he;unfold lr;rw[he];exact⟨rfl,ag.cX (E.trans M),s,ap⟩
 have d:=cr d;rw[if_neg I]at he;have aK:∀x:aB,df x.s x.p=true->nN x.s x.p=x.kv.1:=λx hx=>by unfold nN;rw[if_pos hx];rfl
 have aL:∀x:aB,x.kv.1.length<=1000000:=λx=>by have N:cK x.kv.1:=sE;unfold cK at N;omega
 have aM:∀ (b:J) (i:Nat) (g:ad) (y:J),Ext w b->T.take i++t::T.drop i=ix T t->eF 21 57 b y g (bl aB.c (T.take i)++t.c++bl aB.c (T.drop i))->
  ∃O:af,some (aQ:af)=some O/\(∃u:aa,y.cell? (O.add 1)=some u)/\y.frozen? (O.add 1)=false/\an (y.setCell (O.add 1) g) λaN=>(Value.int .i64 0=.int .i64 (jC T most t)/\ag (λq=>q=aQ) w aN/\∃g,fN B aN aQ (most:Nat) g (lr T most t)):=λb i g y hx l hf=>by
  have e:bl aB.c (T.take i)++t.c++bl aB.c (T.drop i)=bl aB.c (ix T t):=by rw[←l,ke,cO];rfl
  rw[e]at hf;have aP:=hx.size;obtain⟨bh,bj,am,ao⟩:=(h.ext hx).put hf.x hf λq l=>aC q I;refine⟨_,rfl,bh,bj,aT ⟨by rw[he],cE (ag.cX (hx.trans hf.x)) ao λq _ e=>e,g,?_⟩⟩;unfold lr;rw[he,if_pos rfl];exact am
 have aR:∀ {b:J} (i:Nat),Ext w b->i<=T.length->Src 21 b ⟨a7 s.a 21 0 s.cap,i-0,s.cap-0⟩ (bl aB.c (T.take i))/\Src 21 b ⟨a7 s.a 21 i s.cap,s.len-i,s.cap-i⟩ (bl aB.c (T.drop i)):=λ{b} i hx hi=>by
  have a1:=Src.cut ((h.ext hx).ia) hc (cI i) I;have a2:=Src.cut ((h.ext hx).ia) hc (lo:=i) (hi:=s.len) I (bk _);rw[F8 T i hi]at a1;rw[aD,F9 T i hi,←aD]at a2;exact⟨a1,a2⟩
 have P:∀i,(∀v∈bl aB.c (T.take i),Plain v)/\∀v∈bl aB.c (T.drop i),Plain v:=λi=>⟨uK _,uK _⟩;refine⟨λn w'=>∃i:Nat,n=(i:Int)/\i<=T.length/\Ext z.drew w'/\∀a∈T.take i,bF a.kv.1 t.kv.1,λn _=>((T.length:Int)-n).toNat,⟨0,rfl,cI _,.refl _ _,λa k=>by simp at k⟩,?_⟩;rintro _ aS ⟨i,rfl,hi,bc,aq⟩;have Q:=bc.trans (cw aS);have R:=(E.trans M).trans Q;have S:=h.ext R;have U:=(aJ.ext M).ext Q;refine aT ?_;generalize aS.drew=au at Q R S U;refine⟨λ_=>False,_,rfl,id,s,by rw[aA];exact S.v.cell,λG=>?_,λG=>⟨nofun,λ_=>?_⟩⟩
 .have G:=b2 G
  have aw:i<T.length:=by omega
  obtain⟨A,av,ah,_,_,bd⟩:=nO S.ia aw;refine⟨_,rfl,id,s,by rw[aA];exact S.v.cell,A,av,ah,id,_,bd,id,t.c,U.rd (aB.ba t),(nv T[i] au).use ?_⟩;rintro _ be ⟨bf,rfl,aU,aV,_⟩;refine⟨bf,rfl,ag.cX aV,(nv t be).use ?_⟩;rintro _ bt ⟨bg,rfl,aW,aX,_⟩;rw[aK _ (W _ (cJ aw))]at aU;rw[aK _ X]at aW;refine⟨bg,rfl,(p3 (aU.src.ext aX) aW.src (aL _) (aL _)).use ?_⟩;rintro _ aY ⟨n,rfl,a0,bi⟩;have ax:=(aV.trans aX).trans bi;refine⟨n,rfl,λm=>?_,λm=>?_⟩
  .have m:=a0.1 (b2 m)
   rw[mf I];refine⟨⟨i+1,rfl,I,Q.trans ax,λa k=>?_⟩,by show((T.length:Int)-((i+1:Nat):Int)).toNat<((T.length:Int)-(i:Nat)).toNat;omega⟩;rw[ib aw]at k;rcases cR.1 k with k|k
   .exact aq a k
   .rw[e8.1 k];exact m
  .have m:¬bF T[i].kv.1 t.kv.1:=λN=>cr m (a0.2 N)
   have l:=GF V W X hf hi aq λ_=>m;have H:=cw aY;have j:=(R.trans ax).trans H;have r:=(U.ext ax).ext H;refine aT ?_;generalize aY.drew=b at j r;have K:=h.ext j;have aP:=j.size;have bm:=r.lt;obtain⟨aZ,bo⟩:=aR i j hi;refine⟨λq=>b.heap.size<=q,_,rfl,by rw[aA];show¬b.heap.size<=aQ;omega,s,by rw[aA];exact K.v.cell,I,by show¬b.heap.size<=w.heap.size;omega,t.c,r.rd (aB.ba t),_,rfl,by rw[aA];show¬b.heap.size<=aQ;omega,s,by rw[aA];exact K.v.cell,I,?_⟩;rw[c2];exact EL (x:=t.c) nP o3 (λw=>sA w t) (aB.ba t) aZ bo (aB.plain t) (P i).1 (P i).2 (by show(2*((i-0)+(s.len-i)+1)+1000)*56<=_;omega) (λg w' hf=>aM b i g w' j l hf)
 .have G:=cr G
  have bu:i=T.length:=by omega
  have l:=GF V W X hf hi aq λN=>by omega
  have H:=cw au;have j:=R.trans H;have r:=U.ext H;refine aT ?_;generalize au.drew=b at j r;have K:=h.ext j;have aP:=j.size;have bm:=r.lt;obtain⟨aZ,bo⟩:=aR i j hi;refine⟨λq=>b.heap.size<=q,_,rfl,by rw[aA];show¬b.heap.size<=aQ;omega,s,by rw[aA];exact K.v.cell,I,by show¬b.heap.size<=w.heap.size;omega,t.c,r.rd (aB.ba t),_,rfl,by rw[aA];show¬b.heap.size<=aQ;omega,s,by rw[aA];exact K.v.cell,I,?_⟩;rw[c2];exact EL (x:=t.c) nP o3 (λw=>sA w t) (aB.ba t) aZ bo (aB.plain t) (P i).1 (P i).2 (by show(2*((i-0)+(s.len-i)+1)+1000)*56<=_;omega) (λg w' hf=>aM b i g w' j l hf)
end
section
variable {B:U1}{w w':J}{s:ad}{T:O aB}{t:aB}{aQ i:Nat}{most:Int}{fr:Key}
theorem aR.block{sz:Nat}{a:TypeId}{vs:O aa}(h:aR sz a w s vs)(d:aD s q):∃c,bu w q c a:=by
 obtain⟨A,av,rfl⟩:=d;obtain⟨e,_⟩|⟨b,c,f,g,_⟩:=h.2.2.2
 .rw[e]at av;cases av
 .rw[f]at av;cases av
  exact⟨c,g⟩
theorem GO(h:iU T)(hi:i<T.length):T.getLast? =some T[i]↔i+1=T.length:=by
 rw[y1,dR I];constructor
 .intro e
  have e:=Option.some.inj e;rcases dV i (T.length-1) with h1|h1
  .have h2:=lV.1 h i (T.length-1) hi I h1
   rw[e]at h2;exact absurd h2 (k1 _)
  .omega
 .intro e
  congr 2
  omega
theorem NI(h:fN B w aQ most s T)(bs:T.length<=1000000)(a0:∀q,w.heap.size<=q->B q)(O:iU T)(E:∀t∈T,df t.s t.p=true){P:ad}(hf:Src 1 w P (aC fr))(a1:fr.length<=1000000):
 aH aj 47 #[.pointer (some aQ),P,.int .u64 (now:Nat),m] w (λv w'=>∃t:ad,v=.tuple #[t,.int .i64 (((dB T fr (stM m)).filter (fX now)).length:Nat)]/\aR 1 5 w' t (aC (jl T (dB T fr (stM m))))/\(∀q,aD t q->w<=q)/\
  ag (λq=>q=aQ) w w'/\∃a2,fN B w' aQ most a2 (gR T (dB T fr (stM m)) (fX now))):=by
 have bt:=h.len;have bu:=h.v.lt;have a3:∀x:aB,df x.s x.p=true->nN x.s x.p=x.kv.1:=λx hx=>by unfold nN;rw[if_pos hx];rfl
 have am:∀x:aB,x.kv.1.length<=1000000:=λx=>by have z:cK x.kv.1:=sE;unfold cK at z;omega
 obtain⟨M,F⟩:=U6 (stM m);rw[←F];obtain⟨Q,an⟩:=U6 (dB T fr M);have a4:∀i,(dB (T.take i) fr M).length<=M/\M<=64:=λi=>⟨by unfold dB;rw[cF];omega,by rw[F];unfold stM;omega⟩;refine okF (ae.xR (some aQ) P (now:Nat) m) ax.xR func47 ?_;(delta ae.xR ak Y al jb bH bB z3 ar aO bO st;dsimp only);have f0:=uJ w;refine⟨⟨some w.heap.size,0,0⟩,_,o3 w,aT (cc (λn5 w'=>(∀k:Nat,decide ((k:Int)<n5)=decide (k<M))/\(w.alloc (.cells #[] 57)).alloc (.cells #[] 5)=w') (λk E=>⟨λa=>E _ _ ⟨λk=>?_,rfl⟩,λa=>E _ _ ⟨λk=>?_,rfl⟩⟩) ?_)⟩
 .have:=b2 a
  rw[eG,b8,b8,F];unfold stM;omega
 .have:=cr a
  rw[eG,b8,b8,F];unfold stM;omega
 rintro n5 _ ⟨a5,rfl⟩;have ao:Ext (w.alloc (.cells #[] 57)) ((w.alloc (.cells #[] 57)).alloc (.cells #[] 5)):=c5 _ _;have bv:w.heap.size<=(w.alloc (.cells #[] 57)).heap.size:=f0.x.size;refine⟨λj r n11 n12 n13 w'=>∃i:Nat,n13=(i:Int)/\i<=T.length/\n11=((dB (T.take i) fr M).length:Nat)/\n12=(((dB (T.take i) fr M).filter (fX now)).length:Nat)/\eF 21 57 w w' j (bl aB.c (gR (T.take i) Q (fX now)))/\aR 1 5 w' r (aC (jl T (dB (T.take i) fr M)))/\∀q,aD r q->w<=q,
  λ_ _ _ _ n _=>((T.length:Int)-n).toNat,⟨0,rfl,cI _,by simp[dB,fo],by simp[dB,fo],⟨f0.o.ext ao,f0.x.trans ao,f0.f⟩,?_,λq l=>U4 (yU l)⟩,?_⟩
 .have e:jl T (dB (T.take 0) fr M)=[]:=by simp[dB,fo,jl]
  rw[e];exact aR.new _ [] 0 rfl (by decide)
 rintro j r _ _ _ G ⟨i,rfl,hi,rfl,rfl,g,R,S⟩;have C:=h.ext g.x;refine⟨_,rfl,s,C.v.cell,λaI=>?_,λap=>?_⟩
 rotate_left
 .have ap:=cr ap
  have e:i=T.length:=I
  subst e;rw[ic]at g R⊢;rw[an]at g;obtain⟨bh,bj,a6,aq⟩:=h.put g.x g a0;exact⟨_,rfl,bh,bj,aT ⟨r,rfl,R.ah aq λq l e=>U4 (S q l),S,cE (ag.cX g.x) aq λq _ e=>e,j,a6⟩⟩
 have u:i<T.length:=U4 (b2 aI)
 obtain⟨A,av,a7,_,_,a8⟩:=nO C.ia u;have a9:=E _ (cJ u);obtain⟨D,U⟩:=Nm (m:=M) (fr:=fr) O u;rw[←an]at U;have a_:T.take (i+1)=T.take i++ [T[i]]:=ib u;refine Ht (λj r n11 n12 w'=>n11=((dB (T.take (i+1)) fr M).length:Nat)/\n12=(((dB (T.take (i+1)) fr M).filter (fX now)).length:Nat)/\eF 21 57 w w' j (bl aB.c (gR (T.take (i+1)) Q (fX now)))/\aR 1 5 w' r (aC (jl T (dB (T.take (i+1)) fr M)))/\∀q,aD r q->w<=q) (λbw au=>?_) ?_
 rotate_left
 .rintro j r _ _ w' ⟨rfl,rfl,h1,h2,V⟩
  rw[mf I];exact⟨⟨i+1,rfl,I,rfl,rfl,h1,h2,V⟩,by show((T.length:Int)-((i+1:Nat):Int)).toNat<((T.length:Int)-(i:Nat)).toNat;omega⟩
 refine⟨_,rfl,s,C.v.cell,A,av,a7,_,a8,(nv T[i] G).use ?_⟩;rintro _ bx ⟨bb,rfl,W,aw,aE⟩;rw[a3 _ a9]at W;refine⟨bb,rfl,(p3 W.src (hf.ext (g.x.trans aw)) (am _) a1).use ?_⟩;rintro _ bz ⟨n27,rfl,bc,aF⟩;have H:=aw.trans aF;have bd:((decide (n27>=0))&&(decide ((((dB (T.take i) fr M).length:Nat):Int)<n5)))=decide (T[i]∈Q):=by
  rw[U,a5]
  congr 1
  rw[eG,b8,b8];unfold dL;rw[show(ey T[i].kv.1 fr<0)=bF T[i].kv.1 fr from rfl,←bc];omega
 refine⟨n27,rfl,?_⟩;rw[bd];rw[←U]at D;obtain⟨d,aG⟩:=U6 (decide (T[i]∈Q));rw[←aG]at D⊢;have bA:=g.x.size;have bC:=H.size;have hlen:(dB (T.take (i+1)) fr M).length=if d then (dB (T.take i) fr M).length+1 else (dB (T.take i) fr M).length:=by
  rw[D];cases d<;>simp
 have aJ:((dB (T.take (i+1)) fr M).filter (fX now)).length=if d&&fX now T[i] then ((dB (T.take i) fr M).filter (fX now)).length+1 else ((dB (T.take i) fr M).filter (fX now)).length:=by
  rw[D]
  cases d
  .rfl
  .rw[if_pos rfl,gE,ie,pj]
   cases fX now T[i]<;>simp
 have aK:jl T (dB (T.take (i+1)) fr M)=if d then (if i+1=T.length then [] else T[i].kv.1++ [0]) else jl T (dB (T.take i) fr M):=by
  rw[D]
  cases d
  .rfl
  .rw[if_pos rfl,if_pos rfl]
   unfold jl;rw[List.getLast?_concat];show(if _ then _ else _)=_;by_cases e:i+1=T.length
   .rw[if_pos e,if_pos ((GO O u).2 e)]
   .rw[if_neg e,if_neg λz=>e ((GO O u).1 z)]
 have aL:gR (T.take (i+1)) Q (fX now)=gR (T.take i) Q (fX now)++if d&&fX now T[i] then [] else [T[i]]:=by
  unfold gR;rw[a_,gE,ie,pj,←aG]
  cases d&&fX now T[i]<;>rfl
 have bD:=a4 i;refine pC (λX n33 w'=>Ext G w'/\n33=((dB (T.take (i+1)) fr M).length:Nat)/\aR 1 5 w' X (aC (if d then T[i].kv.1++ [0] else jl T (dB (T.take i) fr M)))/\∀q,aD X q->w<=q) (λbE aM=>⟨λa=>?_,λa=>aM _ _ _ ⟨H,?_,?_,S⟩⟩) ?_
 .obtain⟨be,aN,ay,az,Z,bf⟩:=DJ (c:=0) (W.ext aF) (am _)
  have aa:Ext G aN:=Ext.d_ H Z aE;refine aT ⟨be,aN,ay,aM _ _ _ ⟨aa,?_,?_,λq l=>?_⟩⟩
  .rw[mf I,hlen,if_pos a]
  .rw[if_pos a];exact az
  .rcases bf q l with z|z
   .have:=aE q z;omega
   .omega
 .rw[hlen,a];rfl
 .rw[a];exact R.ext H
 rintro X _ bg ⟨J,rfl,aP,bi⟩;have bk:=C.ext J;refine cc (λab w'=>Ext G w'/\aR 1 5 w' ab (aC (jl T (dB (T.take (i+1)) fr M)))/\∀q,aD ab q->w<=q) (λbG aS=>cc (λb w'=>b=(d&&decide (i+1=T.length))/\bg=w') (λbI aU=>⟨λa=>⟨_,rfl,s,bk.v.cell,aU _ _ ⟨?_,rfl⟩⟩,λa=>aU _ _ ⟨by rw[a];rfl,rfl⟩⟩) ?_) ?_
 .rw[a,hX,eG,kq,b8,bq I I];omega
 .rintro _ _ ⟨rfl,rfl⟩
  refine⟨λa=>aT (aS _ _ ⟨J.trans (c5 _ _),?_,λq l=>?_⟩),λa=>aS _ _ ⟨J,?_,bi⟩⟩
  .rw[dg,b8]at a
   rw[aK,if_pos a.1,if_pos a.2];exact aR.new _ [] 0 rfl (by decide)
  .have:=yU l
   have:=J.size;omega
  .rw[aK]
   cases d
   .exact aP
   .rw[if_pos rfl,if_neg (by simpa using a)]
    exact aP
 rintro ab y ⟨ac,af,aV⟩;have K:=C.ext ac;obtain⟨aW,ai,aX,_,_,bm⟩:=nO K.ia u;refine cc (λb w'=>b=(d&&fX now T[i])/\y=w') (λbJ aY=>⟨λa=>⟨_,rfl,s,K.v.cell,aW,ai,aX,_,F7 K.ia u ai,aY _ _ ⟨?_,rfl⟩⟩,λa=>aY _ _ ⟨by rw[a];rfl,rfl⟩⟩) ?_
 .rw[a,hX]
  unfold fX;rw[eG,b8,b8];omega
 rintro _ _ ⟨rfl,rfl⟩;have bK:=jF (fX now) (dB (T.take i) fr M);have L:eF 21 57 w y j (bl aB.c (gR (T.take i) Q (fX now))):=⟨g.o.ext ac,g.x.trans ac,g.f⟩;refine⟨λa=>?_,λa=>?_⟩
 .rw[mf I]
  refine au _ _ _ _ _ ⟨rfl,by rw[aJ,if_pos a],?_,af,aV⟩;rw[aL,if_pos a,fp];exact L
 .have N:Ext y (y.alloc (.cells T[i].c.toArray 57)):=c5 _ _
  have aZ:eF 21 57 w (y.alloc (.cells T[i].c.toArray 57)) j (bl aB.c (gR (T.take i) Q (fX now))):=⟨L.o.ext N,L.x.trans N,L.f⟩;have bL:j.len<=1000000:=by
   have V:=g.o.1;have bn:(gR (T.take i) Q (fX now)).length<=(T.take i).length:=jF _ _;rw[e5 _ (iQ _)]at V;rw[cF]at bn;omega
  obtain⟨bo,bp,ay,az,Z,_,aa,_⟩:=eF.app (cB:=22) nP aZ (Src.new (T:=57) y T[i].c 1 (T[i].ba)) (aB.plain _) (by show(2*(j.len+1)+1000)*56<=_;omega);refine⟨_,rfl,s,K.v.cell,aW,ai,aX,_,bm,⟨some y.heap.size,1,1⟩,_,sA y T[i],bo,bp,ay,au _ _ _ _ _ ⟨rfl,by rw[aJ,a];rfl,?_,(af.ext N).ah aa λq l br=>?_,aV⟩⟩
  .rw[aL,a,if_neg (by decide),ke]
   have e:bl aB.c [T[i]]=T[i].c:=by simp[bl]
   rw[e];exact Z
  .obtain⟨c,hc⟩:=aR.block aZ.o br
   exact absurd ((af.ext N).HO l hc) (by decide)
end
section
variable {w0 w w' w1:J}{a_ bU:U1}{d n ab aQ most k c q:Nat}{l:e0}{S aE cV:b_}{pages eC aL gQ:O Nat}{T aq bm dk hW:O aB}{s:ad}
theorem dm.grow(h:dm w0 w a_ d n l ab most S pages aL T bm c)(hx:Ext w w')(a:∀q,bU q->a_ q\/(w<=q/\q<w'))(b:bU ab):dm w0 w' bU d n l ab most (S.own bU) pages aL T bm c:=
 ⟨h.s.grow hx a,h.live,h.q,b,h.v.ext hx,h.ok,h.sF,h.nE,h.uO,h.eB,h.kl,h.bA,h.lS⟩
theorem dm.lk(h:dm w0 w a_ d n l ab most S pages aL T bm c)(a:a_ q)(b:ab≠q)(hc:ag (λx=>x=q) w w'):dm w0 w' a_ d n l ab most S pages aL T bm c:={h with s:=h.s.lk a hc,v:=h.v.ah hc b}
theorem fN.qC(h:fN (λq=>¬S.T.M q) w aQ m s T)(hd:ef k S aE w w')(he:S.T.E aQ/\aQ≠S.st):fN (λq=>¬aE.T.M q) w' aQ m s T:=
 ⟨h.v.ah hd.ah λd=>he.2 (d.2 he.1),h.ia.ah hd.ah λq a d=>(h.b q a).1 d.1,h.c,λq a=>⟨λe=>(hd.c1 q e).elim (h.b q a).1 λg=>U4 ((h.b q a).2),U5 ((h.b q a).2) hd.ah.size⟩,λf=>f (.inr (.inr (.inr (.inl (hd.E▸he.1)))))⟩
structure e7(w0 w:J)(a_:U1)(d n:Nat)(l:e0)(ab aQ most:Nat)(S:b_)(T bm:O aB)(c:Nat):Prop where
 a:∃pages aL,dm w0 w a_ d n l ab most S pages aL T bm c
 km:a_ aQ
 ne:ab≠aQ
 m:∃s,fN (λq=>¬S.T.M q) w aQ (most:Nat) s T
structure fY(aQ:Nat)(S:b_)(bm:O aB)(w:J)(aE:b_)(dk:O aB)(w':J):Prop where
 now:aE.now=S.now
 g:kQ S bm aE dk
 ah:ag (λq=>S.W q\/q=aQ) w w'
 c1:∀q,aE.T.M q->S.T.M q\/w<=q
 E:aE.T.E=S.T.E
 st:aE.st=S.st
theorem fY.ext(hx:Ext w w'):fY aQ S bm w S bm w':=⟨rfl,.inl ⟨rfl,rfl⟩,ag.cX hx,λ_ h=>.inl h,rfl,rfl⟩
theorem fY.of(hd:ef k S aE w w')(a:aE.now=S.now)(hg:kQ S bm aE dk):fY aQ S bm w aE dk w':=⟨a,hg,hd.ah.mono λ_ _ h=>.inl h,hd.c1,hd.E,hd.st⟩
theorem fY.trans{c:b_}{d:O aB}{e:J}(h:fY aQ S bm w aE dk w')(a:fY aQ aE dk w' c d e):fY aQ S bm w c d e:=
 ⟨a.now.trans h.now,h.g.trans a.g,cE h.ah a.ah λq f b=>b.imp (λb=>⟨(h.c1 q b.1).resolve_right I,λhe=>by rw[←h.st];exact b.2 (h.E▸he)⟩) id,λq f=>(a.c1 q f).elim (h.c1 q) λi=>.inr (eO h.ah.size i),a.E.trans h.E,a.st.trans h.st⟩
theorem fY.yY(h:fY aQ S bm w aE dk w'){a:J}(hc:ag (λq=>q=aQ) w' a):fY aQ S bm w aE dk a:={h with ah:=h.ah.trans (hc.mono λ_ _ h=>.inr h)}
theorem e7.ext(h:e7 w0 w a_ d n l ab aQ most S T bm c)(hx:Ext w w'):e7 w0 w' a_ d n l ab aQ most S T bm c:=by
 obtain⟨⟨c0,p,h1⟩,h2,a,s,b⟩:=h;exact⟨⟨c0,p,h1.ext hx⟩,h2,a,s,b.ext hx⟩
theorem e7.mono(h:e7 w0 w a_ d n l ab aQ most S T bm c)(he:c<=e):e7 w0 w a_ d n l ab aQ most S T bm e:=by
 obtain⟨⟨c0,p,h1⟩,h2,a,b⟩:=h;exact⟨⟨c0,p,h1.mono he⟩,h2,a,b⟩
theorem e7.lq(h:e7 w0 w a_ d n l ab aQ most S T bm c):S.T.E aQ/\aQ≠S.st:=by
 obtain⟨⟨c0,p,h1⟩,h2,_⟩:=h;exact h1.s.lq h2
theorem e7.half(h:fN (λq=>¬S.T.M q) w aQ (most:Nat) s T)(he:S.T.E aQ/\aQ≠S.st)(a:gi w0 a_ d n l ab most S bm aq w c w'):∃ (aE:b_) (c0 p:O Nat) (dk:O aB),dm w0 w' a_ d n l ab most aE c0 p aq dk c/\fN (λq=>¬aE.T.M q) w' aQ (most:Nat) s T/\fY aQ S bm w aE dk w'/\∀q,w'.heap.size<=q->¬aE.T.M q:=by
 obtain⟨k,aE,c0,p,dk,h1,d1,b6,ay⟩:=a;exact⟨aE,c0,p,dk,h1,h.qC d1 he,.of d1 b6 ay,h1.new⟩
theorem e7.whole(h:dm w0 w a_ d n l ab most S pages aL T bm c)(he:a_ aQ)(a:ab≠aQ)(hc:ag (λq=>q=aQ) w w')(b:fN (λq=>¬S.T.M q) w' aQ (most:Nat) s T):e7 w0 w' a_ d n l ab aQ most S T bm c:=⟨⟨pages,aL,h.lk he a hc⟩,he,a,s,b⟩
theorem rZ(h:e7 w0 w a_ d n l ab aQ most S T bm c)(hc:c<=9000):aH aj 41 #[.pointer (some ab),.pointer (some aQ)] w (λv w'=>v=true/\∃aE:b_,e7 w0 w' a_ d n l ab aQ most aE T bm (c+4)/\fY aQ S bm w aE bm w'/\aE.u=S.u):=by
 have km:=h.km;have y:=h.ne;refine okF (ae.rZ (some ab) (some aQ)) ax.rZ func41 ?_;(delta ae.rZ ak dH bH bP ar al bB;dsimp only);refine⟨λJ w'=>∃ (i:Nat) (aE:b_),J=(i:Int)/\i<=4/\e7 w0 w' a_ d n l ab aQ most aE T bm (c+i)/\fY aQ S bm w aE bm w'/\aE.u=S.u,λn _=>((4:Int)-n).toNat,⟨0,S,rfl,I,h,.ext (.refl _ _),rfl⟩,?_⟩;rintro _ z ⟨i,A,rfl,hi,B,t4,C⟩;have K:=B.lq;obtain⟨⟨c0,p,a4⟩,_,_,a,f⟩:=B;refine⟨λaI=>?_,λD=>?_⟩
 .have aI:=b2 aI
  refine(Nr a4 I (i:Int)).use ?_;rintro _ E ⟨k,F,a5,d5,n5,G,⟨hs,_⟩|⟨_,t,rfl,L,hf⟩⟩
  .exfalso
   unfold fU at hs;rw[dh (show(i:Int)>=0 from I),dh (show(i:Int)<=65535 from I)]at hs
   cases hs
  have g:=f.qC d5 K;have t5:fY aQ A bm z F bm E:=.of d5 n5 (.inl ⟨by rw[G],rfl⟩);have P:T.length<=400:=U5 a4.eB.1 a4.kl
  refine⟨t,0,rfl,cc (λb w'=>b=false/\Ext E w') (λQ M=>⟨nofun,λ_=>(Mx g.v g.ia I).use ?_⟩) ?_⟩
  .rintro _ R ⟨N,rfl,m⟩
   refine⟨N,rfl,(rX (L.src.ext m.x) m.o.src ?_).use ?_⟩
   .have:(T.filter (gu (i:Int))).length<=T.length:=jF _ _
    omega
   .rintro _ U ⟨rfl,O⟩
    exact⟨_,rfl,M _ _ ⟨by rw[dh rfl];rfl,m.x.trans O⟩⟩
  .rintro _ V ⟨rfl,q⟩
   refine⟨nofun,λ_=>?_⟩;rw[mf I];exact⟨⟨i+1,F,rfl,I,⟨⟨c0,p,a5.ext q⟩,km,y,a,g.ext q⟩,(t4.trans t5).trans (.ext q),G.trans C⟩,by show((4:Int)-((i+1:Nat):Int)).toNat<((4:Int)-(i:Nat)).toNat;omega⟩
 .have D:=cr D
  have e:i=4:=I
  subst e;have r:=cw z;have H:=f.ext r;have ff:=a4.ext r;refine aT ⟨λ_=>False,_,rfl,id,a,H.v.cell,(Gx ff.v ff.s.at_).use ?_⟩;rintro _ _ ⟨rfl,rfl⟩;refine⟨_,rfl,.refl _ _,?_,A,⟨⟨c0,p,ff⟩,km,y,a,H⟩,t4.trans (.ext r),C⟩;have:=f.len;rw[cU,this];simp
end
structure g6 where
 kind:Int
 t:aB
 fs:ad
 fr:O UInt8
 now:Nat
 n:Int
 ls:ad
 l:O Int
def g6.c(a:g6):O aa:=.int .i64 a.kind::(a.t.c++ [.slice a.fs.a a.fs.len a.fs.cap,.int .u64 (a.now:Nat),.int .i64 a.n,.slice a.ls.a a.ls.len a.ls.cap])
theorem g6.ba(a:g6):a.c.length=26:=by unfold g6.c;simp[aB.ba]
theorem g6.get(a:g6):a.c[22]? =some (.slice a.fs.a a.fs.len a.fs.cap)/\a.c[23]? =some (.int .u64 (a.now:Nat))/\a.c[24]? =some (.int .i64 a.n)/\a.c[25]? =some (.slice a.ls.a a.ls.len a.ls.cap)/\(a.c.drop 1).take 21=a.t.c:=by
 unfold g6.c;have h:=a.t.ba;refine⟨?_,?_,?_,?_,?_⟩
 .rw[o6,hL I,h];rfl
 .rw[o6,hL I,h];rfl
 .rw[o6,hL I,h];rfl
 .rw[o6,hL I,h];rfl
 .rw[List.drop_succ_cons,iV,m8 I,dO I]
section
variable {w0 w w' w1:J}{a_ bU:U1}{d n ab aQ most k c q bV t0:Nat}{l:e0}{S aE cV:b_}{pages eC aL gQ:O Nat}{T aq bm dk hW:O aB}{cG:ad}{s:Int}{p:br}{fr:O UInt8}{X:g6}
theorem NJ(a:∀t∈T,df t.s t.p=true)(hg:df s p=false)(now:Nat):T.find? (cQ s p)=none/\iS T s p now=none/\mZ T s p=T:=by
 have h1:∀x∈T,cQ s p x=false:=λx hx=>by
  cases h:cQ s p x with
  |false=>rfl
  |true=>
   obtain⟨h2,b⟩:=GH h;have:=a x hx;rw[h2,b,hg]at this;cases this
 have h2:T.find? (cQ s p)=none:=jX.2 λx hx=>by rw[h1 x hx];decide
 refine⟨h2,by rw[B3,h2],?_⟩;unfold mZ;rw[vg.2 h1]
theorem NK(T:O aB)(s:Int)(p:br):decide (iR T s p>=0)=(T.find? (cQ s p)).isSome:=by
 unfold iR
 cases h:T.findIdx? (cQ s p) with
 |none=>
  have:(T.find? (cQ s p)).isSome=false:=by
   rw[←fG,List.find?_isSome];rintro⟨x,hx,a⟩;have:=vg.1 h x hx;rw[a]at this;cases this
  rw[this];rfl
 |some i=>
  obtain⟨hi,a,_⟩:=sU.1 h;have:(T.find? (cQ s p)).isSome=true:=by rw[List.find?_isSome];exact⟨T[i],cJ hi,a⟩
  rw[this];exact dh (show(i:Int)>=0 from I)
theorem NL(h:e7 w0 w a_ d n l ab aQ most S T bm c)(hc:c<=8000)(G:Var w bV X.c 101)(aW:¬S.T.M bV)(aX:bV≠aQ)(g:Var w t0 X.t.c 57)(aY:¬S.T.M t0)(ad:t0≠aQ)(Z:aR 1 5 w cG (aC fr))(aZ:∀q,aD cG q->¬S.T.M q/\q≠aQ)(bz:fr.length<=1000)(hu:X.t.u<18446744073709551616)(a2:X.n<=9223372036854775807){Q:U0}
 (A:∀ (w':J) (aE:b_) (aq dk:O aB),e7 w0 w' a_ d n l ab aQ most aE aq dk (c+2+T.length)->fY aQ S bm w aE dk w'->Q true w') {ar au:J} (a3:ar.heap.size=bV) (a4:au.heap.size=t0):ae.Aj (some ab) (some aQ) ar au cG w Q:=by
 have km:=h.km;have H:=h.ne;have K:=h.lq;have av:¬S.W bV:=λm=>aW m.1;have R:¬S.W t0:=λm=>aY m.1;obtain⟨bA,ac,aw,_,_⟩:=X.get;(delta ae.Aj iE r1 Y bP ak bO pG v8 fk h4 kD v7 g9 bB v_ tq dH wa;dsimp only);rw[a3,a4];refine⟨_,g.cell,_,mb g,_,F6 w X.t.p X.t.s,(nu _ w).use ?_⟩;rintro _ j ⟨rfl,D⟩;have a5:(aB.mk X.t.s X.t.p 0 0).ep=df X.t.s X.t.p:=by unfold aB.ep;rw[show fU 0=true from rfl,qI]
 rw[a5];refine⟨_,rfl,_,(g.ext D).cell,cc (λb w'=>b=fU X.t.s/\j=w') (λbC ax=>⟨λa=>⟨_,(g.ext D).cell,ax _ _ ⟨by unfold fU;rw[a];rfl,rfl⟩⟩,λa=>ax _ _ ⟨by unfold fU;rw[a];rfl,rfl⟩⟩) ?_⟩;rintro _ _ ⟨rfl,rfl⟩
 replace h:=h.ext D
 replace G:=G.ext D
 replace g:=g.ext D
 replace Z:=Z.ext D
 replace A:∀ (w':J) (aE:b_) (aq dk:O aB),e7 w0 w' a_ d n l ab aQ most aE aq dk (c+2+T.length)->fY aQ S bm j aE dk w'->Q true w':=λw' aE aq dk a6 a7=>A w' aE aq dk a6 ((fY.ext D).trans a7)
 clear D;obtain⟨⟨c0,aL,a0⟩,_,_,s,E⟩:=h;have af:=a0.keys;have bD:T.length<=400:=U5 a0.eB.1 a0.kl
 refine⟨_,G.cell,λa=>?_,λ_=>⟨λa=>?_,λ_=>?_⟩⟩
 .
  refine⟨_,g.cell,_,mb g,_,by rw[iw,cA,G.cell];exact ac,(B6 (now:=X.now) a0 I X.t.s X.t.p).use ?_⟩;rintro v a8 ⟨B,ai⟩;have a9:v=.tuple #[.agg ((iS T X.t.s X.t.p X.now).getD aB.zero).c.toArray,.bool (iS T X.t.s X.t.p X.now).isSome,.int .i64 (if df X.t.s X.t.p then 0 else 1)]:=by
   rw[ai]
   cases hg:df X.t.s X.t.p with
   |true=>rfl
   |false=>rw[(NJ af hg X.now).2.1];rfl
  obtain⟨cV,C,bh,bw,a1,i,t1,b6⟩:=e7.half E K B;have aA:∀ {vs:O aa}{b:Nat}{aF:TypeId},Var j b vs aF->¬S.W b->b≠aQ->Var a8 b vs aF:=λai a bb=>ai.ah t1.ah λm=>m.elim a bb;refine⟨_,_,_,by rw[a9],sG _ λbE bc U=>?_⟩;have bd:=(aA G av aX).ext U;have L:=(aA g R ad).ext U;refine⟨_,L.cell,_,mb L,_,by rw[iw,cA,bd.cell];exact ac,(Mw (now:=X.now) (i.ext U).v (i.ext U).ia I).use ?_⟩;rintro _ bF ⟨rfl,aG⟩;refine⟨_,_,rfl,sG _ λbe bf aH=>⟨_,((bc.ext aG).ext aH).rd (aB.ba _),_,bf.rd (aB.ba _),_,BP _ _,?_⟩⟩;have aj:=(U.trans aG).trans aH;have e:((((decide ((iS T X.t.s X.t.p X.now).getD aB.zero=(iS T X.t.s X.t.p X.now).getD aB.zero))&&((iS T X.t.s X.t.p X.now).isSome==(iS T X.t.s X.t.p X.now).isSome))&&(((if df X.t.s X.t.p=true then 0 else 1:Int)==0)==df X.t.s X.t.p))&&(df X.t.s X.t.p||((if df X.t.s X.t.p=true then 0 else 1:Int)==1)))=true:=by
   rw[dh rfl,beq_self_eq_true]
   cases df X.t.s X.t.p<;>rfl
  rw[e];exact A be cV T bw ⟨⟨C,bh,(a1.ext aj).mono I⟩,km,H,s,i.ext aj⟩ (t1.trans (.ext aj))
 .
  refine⟨_,g.cell,_,mb g,(Nq a0 I X.t.s X.t.p).use ?_⟩;rintro _ bg (⟨hg,rfl,B⟩|⟨hg,rfl,B⟩)
  .obtain⟨cV,C,bh,bw,a1,i,t1,b6⟩:=e7.half E K B
   rw[hg];exact⟨_,_,rfl,λ_=>A bg cV T bw ⟨⟨C,bh,a1.mono I⟩,km,H,s,i⟩ t1,nofun⟩
  .obtain⟨cV,C,bh,bw,a1,i,t1,b6⟩:=e7.half E K B
   have L:=g.ah t1.ah λm=>m.elim R ad;rw[hg];refine⟨_,_,rfl,nofun,λ_=>⟨_,L.cell,_,mb L,(My i I b6).use ?_⟩⟩;rintro _ bi ⟨rfl,aJ,al,N⟩;have e:(((T.find? (cQ X.t.s X.t.p)).isSome==decide (iR T X.t.s X.t.p>=0))&&((0:Int)==0))=true:=by rw[NK,beq_self_eq_true];rfl
   refine⟨_,rfl,?_⟩;rw[e];exact A bi cV _ bw (.whole (a1.mono I) km H aJ N) (t1.yY aJ)
 refine cc (λb w'=>b=(X.kind==3||X.kind==4)/\j=w') (λbG aK=>⟨λa=>aK _ _ ⟨by rw[a];rfl,rfl⟩,λa=>aK _ _ ⟨by rw[a];rfl,rfl⟩⟩) ?_;rintro _ _ ⟨rfl,rfl⟩;refine⟨λa=>?_,λ_=>⟨λa=>?_,λa=>?_⟩⟩
 .
  refine⟨_,uj g,cc (λz w'=>z=(if X.kind==4 then -1 else X.t.b)/\j=w') (λbH aM=>⟨_,G.cell,λa=>aM _ _ ⟨by rw[a];rfl,rfl⟩,λa=>aM _ _ ⟨by rw[a];rfl,rfl⟩⟩) ?_⟩;rintro z _ ⟨_,rfl⟩;refine⟨_,g.cell,(ND a0 I X.t.s z).use ?_⟩;rintro _ bj (⟨hs,rfl,B⟩|⟨hs,rfl,B⟩)
  .obtain⟨cV,C,bh,bw,a1,i,t1,b6⟩:=e7.half E K B
   rw[hs];exact⟨_,_,rfl,λ_=>A bj cV T bw ⟨⟨C,bh,a1.mono I⟩,km,H,s,i⟩ t1,nofun⟩
  .obtain⟨cV,C,bh,bw,a1,i,t1,b6⟩:=e7.half E K B
   have L:=g.ah t1.ah λm=>m.elim R ad;rw[hs];refine⟨_,_,rfl,nofun,λ_=>⟨_,L.cell,(MA i I b6).use ?_⟩⟩;rintro _ bk ⟨rfl,aN,al,N⟩;refine⟨_,rfl,?_⟩;rw[beq_self_eq_true];exact A bk cV _ bw (.whole (a1.mono I) km H aN N) (t1.yY aN)
 .
  have r:=cw j;have am:=a0.ext r;have V:=G.ext r;have an:=Z.ext r;have aO:=E.ext r;refine aT ?_;have qv:fY aQ S bm j S bm j.drew:=.ext r;generalize j.drew=P at am V an aO qv;have f0:eF 1 5 P (P.alloc (.cells #[] 5)) ⟨some P.heap.size,0,0⟩ []:=⟨aR.new _ [] 0 rfl (by decide),c5 _ _,λq F=>U4 (yU F)⟩;have bI:=len8 Z.src;obtain⟨bl,bn,ay,az,y,_⟩:=eF.app (cB:=39) l6 f0 (an.src.ext f0.x) (jd _) (by show(2*(0+cG.len)+1000)*1<=_;omega);rw[hK]at y;have aI:=V.lt;refine⟨λq=>P<=q,by rw[iw];show¬P<=bV;omega,_,by rw[iw,cA,V.cell];exact ac,by rw[iw];show¬P<=bV;omega,_,by rw[iw,cA,V.cell];exact aw,aT ⟨ag.cX f0.x,bl,bn,ay,az,(NF (now:=X.now) (am.ext y.x) I a2 y.o.src λq F=>⟨y.o.lt q F,am.new q (y.f q F)⟩).use ?_⟩⟩;rintro _ bo ⟨t80,rfl,bp,bq,k,cV,C,bh,bw,a1,d1,b6,br,_⟩;have t1:fY aQ S bm j cV bw bo:=(qv.trans (.ext y.x)).trans (.of d1 b6 br);have i:=(aO.ext y.x).qC d1 K;have aP:=(V.ext y.x).ah d1.ah av;have bs:=(an.ext y.x).ah d1.ah λq F m=>(aZ q F).1 m.1;refine⟨t80,_,_,rfl,_,by rw[iw,cA,aP.cell];exact ac,_,by rw[iw,cA,aP.cell];exact aw,(NI i I a1.new a0.lS af bs.src I).use ?_⟩;rintro _ bt ⟨t87,rfl,bu,bJ,ao,al,N⟩;have bv:=bp.ah ao λq F e=>by
   have bK:=bq q F;have bL:=E.v.lt;have bM:=y.x.size;have bN:=r.size;have bQ:=qv.ah.size;omega
  refine⟨t87,_,rfl,_,_,yh bv.src,_,_,yh bu.src,?_⟩;rw[beq_self_eq_true,beq_self_eq_true];have bR:((dB T fr (stM X.n)).filter (fX X.now)).length<=T.length:=by
   have h1:=jF (fX X.now) (dB T fr (stM X.n));have h2:(dB T fr (stM X.n)).length<=(fo T fr).length:=by unfold dB;rw[cF];omega
   have bS:(fo T fr).length<=T.length:=jF _ _;omega
  exact A bt cV _ bw (.whole (a1.mono I) km H ao N) (t1.yY ao)
 .
  have r:=cw j;have aS:=a0.ext r;have ap:=g.ext r;have aU:=E.ext r;have qv:fY aQ S bm j S bm j.drew:=.ext r;refine aT ?_;generalize j.drew=bT at aS ap aU qv;refine⟨λq=>S.W q,R,_,ap.rd (aB.ba _),R,_,ap.rd (aB.ba _),(GI aS I hu).use ?_⟩;rintro _ bU ⟨rfl,k,cV,C,bh,bw,a1,d1,b6,ay⟩;have i:=aU.qC d1 K;refine⟨_,rfl,d1.ah,(NH i I a1.new a0.lS af X.t).use ?_⟩;rintro _ bx ⟨rfl,aV,al,N⟩;refine⟨_,rfl,?_⟩;rw[beq_self_eq_true];exact A bx cV _ bw (.whole (a1.mono I) km H aV N) ((qv.trans (.of d1 b6 ay)).yY aV)
end
structure qE(w:J)(X:g6):Prop where
 f:Src 1 w X.fs (aC X.fr)
 B7:X.fs.len<=X.fs.cap
 u:X.t.u<18446744073709551616
 nT:X.now<18446744073709551616
 n:X.n<=9223372036854775807
 l:Src 1 w X.ls (X.l.map encZ)
 lc:X.ls.len<=X.ls.cap
 B8:∀z∈X.l,z<=9223372036854775807
 BZ:∀q,aD X.ls q->w<=q->X.l=[]
section
variable {w0 w w' w1:J}{a_ bU:U1}{d n ab aQ most k c q:Nat}{l:e0}{S aE cV:b_}{pages eC aL gQ:O Nat}{T aq bm dk hW:O aB}{X:g6}
theorem qE.ext(h:qE w X)(hx:Ext w w'):qE w' X:=⟨h.f.ext hx,h.B7,h.u,h.nT,h.n,h.l.ext hx,h.lc,h.B8,λq a b=>h.BZ q a (eO hx.size b)⟩
theorem rY(h:e7 w0 w a_ d n l ab aQ most S T bm c)(hc:c<=8000)(g:qE w X):
 aH aj 39 #[.pointer (some ab),.pointer (some aQ),.agg X.c.toArray] w (λv w'=>v=true/\∃ (aE:b_) (aq dk:O aB),e7 w0 w' a_ d n l ab aQ most aE aq dk (c+2+T.length)/\fY aQ S bm w aE dk w'):=by
 obtain⟨H,_,_,_,ay⟩:=X.get;have Z:=len8 g.f;obtain⟨c0,p,a0⟩:=h.a;have aa:=h.m.choose_spec.v.lt;refine okF (ae.rY (some ab) (some aQ) X.c.toArray) ax.rY func39 ?_;(delta ae.rY Y al bH fk iE r1 bP ak bO pG v8 h4 kD v7 g9 bB v_ tq dH wa;dsimp only);refine a6 (vs:=X.c) rfl λw1 K L M=>?_;have y:=cw w1;have o:=K.ext y;have j:=L.trans y;refine aT ?_;generalize N:w1.drew=ai at y o j;have ac:ai.heap.size=w.heap.size+1:=by rw[←N];exact M
 have fin:∀ (b z:J) (t0:Nat) (cG:ad),z.heap.size=t0->Ext ai b->Var b t0 X.t.c 57->ai.heap.size<=t0->aR 1 5 b cG (aC (X.fr.take 30))->(∀q,aD cG q->ai.heap.size<=q)->ae.Aj (some ab) (some aQ) w z cG b (λv w'=>v=true/\∃ (aE:b_) (aq dk:O aB),e7 w0 w' a_ d n l ab aQ most aE aq dk (c+2+T.length)/\fY aQ S bm w aE dk w'):=λb z t0 cG P hx Q af k hf=>
  NL (h.ext (j.trans hx)) hc (o.ext hx) (a0.new _ (bk _)) I Q (a0.new _ I) I k (λq i=>⟨a0.new q (by have:=hf q i;omega),by have:=hf q i;omega⟩) (by rw[cF];omega) g.u g.n (λw' aE aq dk R U=>⟨rfl,aE,aq,dk,R,(fY.ext (j.trans hx)).trans U⟩) rfl P
 have V:bf ai (Addr.add w.heap.size 1) 0 21=some X.t.c:=by
  rw[iw,cA,o.r4 (by rw[X.ba];decide),ay]
 refine⟨λq=>ai.heap.size<=q,by rw[iw];show¬ai.heap.size<=w.heap.size;omega,_,V,by rw[iw];show¬ai.heap.size<=w.heap.size;omega,_,by rw[iw,cA,o.cell];exact H,(FX (g.f.ext j) g.B7 30 (by decide)).use ?_,?_⟩
 .rintro _ D ⟨cG,rfl,k,A,hf⟩
  have W:=A.size;refine⟨cG,rfl,ag.cX A,a6 (vs:=aB.zero.c) rfl λam E F an=>⟨ag.cX F,E.ct (by simp[aB.ba]) (aB.plain _),by simp[aB.ba],cP E (us:=X.t.c) (by simp[aB.ba]) rfl λb B r _=>?_⟩⟩;have s:Ext D b:=Ext.cp F r (bk _);exact fin b D _ cG rfl (A.trans s) B W (k.ext s) hf
 .refine a6 (vs:=aB.zero.c) rfl λao G C ap=>⟨ag.cX C,(FX ((g.f.ext j).ext C) g.B7 30 (by decide)).use ?_⟩
  rintro _ ar ⟨cG,rfl,k,x,hf⟩;refine⟨cG,rfl,ag.cX x,(G.ext x).ct (by simp[aB.ba]) (aB.plain _),by simp[aB.ba],cP (G.ext x) (us:=X.t.c) (by simp[aB.ba]) rfl λb B r _=>?_⟩;have s:Ext ai b:=Ext.cp (C.trans x) r (bk _);exact fin b ai _ cG rfl s B (bk _) (k.ah r λq i e=>by have:=hf q i;omega) λq i=>by have:=hf q i;omega
theorem p9{most b:Nat}(o:1<=most/\most<=350)(f:b<256)(w:J):aH aj 36 #[most,.int .u8 (b:Nat)] w (λv w'=>∃ (ab d:Nat) (S:b_),v=.tuple #[.pointer (some ab),.pointer (some d),true]/\dm w w' (λq=>q=ab) d (4*most+64) (mh b) ab most S [] [] [] [] 0/\S.u=ki/\S.now=ki.clock):=by
 refine okF (ae.p9 (most:Nat) (b:Nat)) ax.p9 func36 ?_;delta ae.p9 hO ar vW;have p:IntKind.wrap .i64 ((IntKind.wrap .i64 (4*(most:Int)))+64)=((4*most+64:Nat):Int):=by
  rw[bq (n:=4*(most:Int)) I I,bq I I];omega
 rw[p,Gw f];refine(rp (n:=4*most+64) I I w).use ?_;rintro _ w1 ⟨d,lb,mr,rfl,hd,r,s⟩;refine⟨_,0,rfl,by decide,(oF (b:=b) (d:=b/16) f I w1).use ?_⟩;rintro _ B ⟨rfl,g⟩;refine⟨_,_,_,rfl,(Nc (l:=mh b) (a_:=λ_=>False) (hd.ext g) (Gv b) (λk=>⟨.inl rfl,.inl rfl⟩) rfl (by show 0<=999999000;omega) (λq h=>h.elim)).use ?_⟩;rintro _ c ⟨e,rfl,x,a,hu,hg⟩;have i:=g5.new (w0:=w) (r.trans g) x a hu hg (λq j=>s q j) (λq h=>h.elim) rfl rfl;have y:(so (4*most+64) d lb mr).n=4*most+64:=by show(List.replicate _ g2).length=_;rw[m5]
 rw[y]at i;refine⟨_,0,rfl,(pM c (most:Nat)).use ?_⟩;rintro _ C ⟨z,⟨A,_⟩|⟨_,rfl,m⟩⟩
 .exfalso
  obtain h|h|h:=A
  .cases h
  .omega
  .omega
 have D:=m.lt;refine⟨_,0,rfl,c.heap.size,d,e.own λq=>q=c,rfl,⟨i.grow z λq j=>.inr I,a.live,a.q,rfl,m,λt ht=>(by cases ht),λt ht=>(by cases ht),?_,λ_=>rfl,⟨cI _,cI _⟩,⟨o.1,I⟩,rfl,List.Pairwise.nil⟩,hu,a.now.trans (by rw[hu])⟩;rw[show(e.own λq=>q=c).pending=e.pending from rfl,a.nQ];show 0<1+b%12;omega
end
def mi:br:=⟨⟨false,[0,0,0,0,0,0,0,0,0,0,0,0,10,0,0,0],rfl⟩,8⟩
def mj(u:Nat):aB:=⟨1,mi,2,u⟩
theorem nw(u:Nat)(w:J):aH aj 95 #[.int .u64 (u:Nat)] w (λv w'=>v=.agg (mj u).c.toArray/\Ext w w'):=by
 refine okF (ae.nw (u:Nat)) ax.nw func95 ?_;delta ae.nw fk Y;refine a6 (vs:=aB.zero.c) rfl λw1 a d e=>⟨(aC mi.addr.b).toArray,by kernel_rfl,mi.addr.c.toArray,by kernel_rfl,mi.c.toArray,by kernel_rfl,_,Eg w1 mi 1 2 u,uQ a (aB.ba _) (mj u) λw' hc=>⟨rfl,Ext.cp d hc (bk _)⟩⟩
theorem GP(u:Nat):Array.extract (mj u).c.toArray 1 (1+18)=mi.c.toArray:=by rfl
theorem NM(w:J):aH aj 42 #[] w (λv w'=>v=true/\Ext w w'):=by
 refine ae.IN w _ ?_;delta ae.tY vV ak l2 bB pG fk Y;refine(p9 (most:=5) (b:=1) (by decide) (by decide) w).use ?_;rintro _ w1 ⟨ab,d,F,rfl,a0,_⟩;refine⟨_,_,_,rfl,nofun,λ_=>(nw 5 w1).use ?_⟩;rintro _ G ⟨rfl,p⟩;refine⟨_,rfl,(GI (a0.ext p) I (t:=mj 5) (by decide)).use ?_⟩;have e:jC [] 5 (mj 5)=0:=by decide+kernel
 have r:lr [] 5 (mj 5)=[mj 5]:=by unfold lr;rw[e];rfl
 rw[e,r];rintro _ u ⟨rfl,b1,cV,H,bh,bw,a1,_⟩;refine⟨_,rfl,(nw 5 u).use ?_⟩;rintro _ K ⟨rfl,y⟩;have hg:df 1 mi=true:=by decide+kernel
 have f4:iS [mj 5] 1 mi 4=some (mj 5):=by decide+kernel
 have f5:iS [mj 5] 1 mi 5=none:=by decide+kernel
 have f:=B6 (now:=4) (a1.ext y) I 1 mi;rw[if_pos hg,f4,←GP 5]at f;refine⟨_,rfl,f.use ?_⟩;rintro _ g ⟨⟨cf,cC,L,bj,cg,a2,_⟩,rfl⟩;refine⟨_,_,_,rfl,sG (mj 5) λz A B=>(nw 5 z).use ?_⟩;rintro _ M ⟨rfl,i⟩;have C:¬cC.W g.heap.size:=λD=>a2.new _ (bk _) D.1;have j:=B6 (now:=5) ((a2.ext B).ext i) I 1 mi;rw[if_pos hg,f5,←GP 5]at j;refine⟨_,rfl,j.use ?_⟩;rintro _ N ⟨⟨O,jM,P,Q,db,a3,d3,_⟩,rfl⟩;have E:=(A.ext i).ah d3.ah C;refine⟨_,_,_,rfl,sG aB.zero λk R l=>?_⟩;have m:=cw k;have a:=(E.ext l).ext m;have n:=(a3.ext l).ext m;refine aT ?_;generalize k.drew=c at a n;have S:=a.lt;refine⟨λq=>c.heap.size<=q,λ_=>⟨λ_=>⟨λ_=>⟨λ_=>⟨by show¬c.heap.size<=g.heap.size;omega,_,a.rd (aB.ba _),(nw 5 c).use ?_⟩,nofun⟩,nofun⟩,nofun⟩,nofun⟩;rintro _ T ⟨rfl,o⟩;refine⟨_,rfl,ag.cX o,_,BP _ _,?_,n.s.x.trans o⟩;rw[dh rfl];rfl
structure ml(w:J)(l:ad)(A:O g6):Prop where
 s:Src 26 w l (bl g6.c A)
 ok:∀a∈A,qE w a
theorem aB.t_{cs:O aa}(h:jJ (.int .i64::(((.bool::l5 16)++ [.int .i64])++ [.int .i64,.int .u64])) cs):∃t:aB,cs=t.c/\t.u<18446744073709551616:=by
 obtain⟨_,us,rfl,⟨s,rfl,_⟩,h⟩:=h;obtain⟨a,t1,rfl,h1,h2⟩:=zD h;obtain⟨p,rfl,_⟩:=br.t_ h1;obtain⟨_,_,rfl,⟨b,rfl,_⟩,_,_,rfl,⟨u,rfl,ay,az⟩,rfl⟩:=h2;have g:0<=u/\u<=18446744073709551615:=by simpa[IntKind.min,IntKind.max,IntKind.signed,IntKind.bits] using And.intro ay az
 obtain⟨k,rfl⟩:∃k:Nat,u=(k:Int):=⟨u.toNat,I⟩;exact⟨⟨s,p,b,k⟩,rfl,by show k<_;omega⟩
theorem sH(cs:O aa)(a n:Nat):cs.drop a=(cs.drop a).take n++cs.drop (a+n):=by
 rw[←lu,ga]
section
variable {w0 w w' w1:J}{a_ bU:U1}{d n ab aQ most k c q i:Nat}{l:e0}{S aE cV:b_}{pages eC aL gQ:O Nat}{T aq bm dk hW:O aB}{X:g6}{ls:ad}{A:O g6}
set_option maxRecDepth 100000 in
theorem NN{fuel:Nat}{vs:O aa} (h:fR aj w fuel 101 vs):∃a:g6,vs=a.c/\qE w a:=by
 have hu:Tryz.prog.underlying 101=some (.struct (fieldsOf aj 101)):=by kernel_rfl
 have hlen:vs.length=26:=by
  have:=(C8 h hu).1;rwa[show Tryz.prog.cellsOf 101=26 by kernel_rfl]at this
 obtain⟨_,f0⟩:=q_ h hu 0 (t:=3) (o:=0) (n:=1) U3 U3;obtain⟨_,f1⟩:=q_ h hu 1 (t:=57) (o:=1) (n:=21) U3 U3;obtain⟨_,f2⟩:=q_ h hu 2 (t:=39) (o:=22) (n:=1) U3 U3;obtain⟨_,f3⟩:=q_ h hu 3 (t:=23) (o:=23) (n:=1) U3 U3;obtain⟨_,f4⟩:=q_ h hu 4 (t:=3) (o:=24) (n:=1) U3 U3;obtain⟨_,f5⟩:=q_ h hu 5 (t:=72) (o:=25) (n:=1) U3 U3;obtain⟨m,p,_⟩:=tf f0 (k:=.i64) U3;obtain⟨t,q,r⟩:=aB.t_ (zE 8 (ls:=.int .i64::(((.bool::l5 16)++ [.int .i64])++ [.int .i64,.int .u64])) U3 U3 f1);obtain⟨d2,s,az⟩:=zw f2 (e:=5) U3;obtain⟨b,u,al⟩:=tf f3 (k:=.u64) U3;obtain⟨bA,v,_,x⟩:=tf f4 (k:=.i64) U3;obtain⟨d5,y,d⟩:=zw f5 (e:=3) U3;obtain⟨z,cf⟩:=Md az;obtain⟨A,f,aW⟩:=Nd d;have al:0<=b/\b<=18446744073709551615:=by simpa[IntKind.min,IntKind.max,IntKind.signed,IntKind.bits] using al
 obtain⟨g,rfl⟩:∃k:Nat,b=(k:Int):=⟨b.toNat,I⟩;refine⟨⟨m,t,d2,z,g,bA,d5,A⟩,?_,cf,az.le,r,by show g<_;omega,x,f,d.le,aW,Src.BZ f⟩;have h0:=sH vs 0 1;have h1:=sH vs 1 21;have h2:=sH vs 22 1;have i:=sH vs 23 1;have j:=sH vs 24 1;have l:=sH vs 25 1;have B:vs.drop 26=[]:=uX I;rw[p]at h0;rw[q]at h1;rw[s]at h2;rw[u]at i;rw[v]at j;rw[y,B]at l;rw[iV]at h0;rw[h0,h1,h2,i,j,l];rfl
set_option maxRecDepth 100000 in
theorem ml.of{v:aa} (h:mD aj w 97 v):∃ (l:ad) (A:O g6),v=l/\ml w l A:=by
 obtain⟨t,rfl,ht⟩:=oe.of h (e:=101) U3;obtain⟨A,h1,_,h2⟩:=ht.src (c:=g6.c) (sz:=26) U3 (λa=>qE w a) λfuel vs b=>NN b;exact⟨t,A,rfl,h1,h2⟩
theorem ml.len(h:ml w ls A):ls.len=A.length:=by have:=h.s.len;rw[e5 _ (λa _=>g6.ba a)]at this;omega
theorem ml.ext(h:ml w ls A)(hx:Ext w w'):ml w' ls A:=⟨h.s.ext hx,λa b=>(h.ok a b).ext hx⟩
theorem ml.at(h:ml w ls A)(hi:i<A.length):∃a:af,ls.a=some a/\((0:Int)<=(i:Int)/\(i:Int)<(ls.len:Int))/\w.cell? (a.add (Int.toNat (i:Int)*26))=some (.int .i64 A[i].kind)/\bf w (a.add (Int.toNat (i:Int)*26)) 0 26=some A[i].c:=by
 obtain⟨e,a,d,b⟩:=qn h.s (λa _=>g6.ba a) (by decide) hi;rw[c2];have h0:=nj b (j:=0) (v:=.int .i64 A[i].kind) rfl;rw[lU,add_zero']at h0;exact⟨a,d,⟨I,I⟩,h0,b⟩
theorem e7.sync(h:e7 w0 w a_ d n l ab aQ most S T bm c)(hc:c<=9000):aH aj 28 #[.pointer (some S.st)] w (λv w'=>v=.int .i64 0/\∃aE:b_,e7 w0 w' a_ d n l ab aQ most aE T T (c+1)/\fY aQ S bm w aE T w'/\S.u.dc<aE.u.dc/\aE.pending=0):=by
 have b:=h.lq;obtain⟨⟨c0,p,a⟩,km,e,s,m⟩:=h;have k:=a.s.aX;have o:=a.s.gen;have f:=a.eB.1;have r:=a.kl;have t:=a.s.at_.num.2.2.2.2.2.2;refine(MN a.s.at_ (by rw[cU];omega) I I a.q).mono ?_;rintro v w' (⟨hf,_⟩|⟨_,aE,hd,g,hx⟩)
 .rw[a.live]at hf;cases hf
 obtain⟨rfl,_,hs,hf,hg,_,x,i⟩:=hx.Gu a.q;have j:kQ S bm aE T:=.inr I;exact⟨rfl,aE,⟨⟨c0,c0,a.step hs hd I I (.inr rfl) f I I hf a.ok (U4 a.nE) λ_=>rfl⟩,km,e,s,m.qC hd b⟩,.of hd g j,I,i⟩
theorem e7.new(h:dm w0 w (λq=>q=ab) d n l ab most S [] [] [] [] c)(hx:Ext w w')(b:Var w' aQ [most,()] 36)(g:w<=aQ):e7 w0 w' (λq=>q=ab\/q=aQ) d n l ab aQ most (S.own λq=>q=ab\/q=aQ) [] [] c:=by
 have i:=b.lt;have j:=h.v.lt;refine⟨⟨[],[],h.grow hx (λq a=>a.imp id λe=>I) (.inl rfl)⟩,.inr rfl,I,⟨none,0,0⟩,b,(aR.none 21 57 w').src,bk _,λq a=>(fH q a).elim,λf=>f (.inr (.inr (.inr (.inl (.inr (.inr rfl))))))⟩
end
def NO(i:Nat):br:=⟨⟨false,[0,0,0,0,0,0,0,0,0,0,0,0,10,0,0,UInt8.ofNat i],rfl⟩,32⟩
def kW(i b u:Nat):aB:=⟨7,NO i,(b:Nat),u⟩
section
variable {w0 w w' w1:J}{a_ bU:U1}{d n ab aQ most k c q i:Nat}{l:e0}{S aE cV:b_}{pages eC aL gQ:O Nat}{T aq bm dk hW:O aB}{X:g6}{t x:aB}
end
section
variable {w0 w w' w1:J}{a_ bU:U1}{d n k c:Nat}{l:e0}{S aE cV:b_}{pages eC aL gQ bh:O Nat}{L bG bn:O aP}{aF:a8}
theorem g5.NP{V:Nat->c7}{gen:Nat}{u:c_}{g:Nat->ao}{P:Nat->au aG}(h:g5 w0 w a_ d n l S pages L aL bG c)(hd:cL w1 aF)(e:BW S.T.C.D aF)(f:ag (b4 S.T.C.D) w w1)(z:iT V n gen u g P bh bn)(eN:∀j,g j=true->aF.bJ.getD j []=V j)(A:mY (l.aw:Nat) (l.batch:Nat) (l.h5:Nat))(K:gen<=S.gen+1)(hc:c<=30000)(i:bn.length<=c+1/\bn.length<=4000):
 aH aj 25 #[.pointer (some d),.agg l.c.toArray] w1 (λv ai=>∃cC:b_,v=.tuple #[.pointer (some cC.st),U8]/\g5 w0 ai a_ d n l cC bh bn bh bn (c+1)/\cC.failed=false/\cC.T.C.D.quiet/\cC.u=u/\cC.pending=0/\cC.now=u.clock/\
  ag (b4 S.T.C.D) w ai/\∀q,cC.T.M q->S.T.M q\/w<=q):=by
 have N:=h.aX;have O:=h.gen;have m:aF.n=n:=e.n.trans (h.at_.t.n.trans h.n);have B:=f.size;have o:∀q,b4 aF q->S.T.M q:=λq a=>.inl (.inr (.inr (e.c1 q a)));have k:∀q,a_ q->S.T.M q:=λq a=>.inr (.inr (.inr (.inl (h.lq a).1)));have F:∀q,a_ q->¬b4 S.T.C.D q:=λq a hf=>h.at_.t.j_ (h.lq a).1 (.inl (.inr (.inr hf)));have p:=Nf (l:=l) (a_:=a_) hd e.q (by rw[e.aX];omega) e.waits A (m▸z) eN I i.2 λq a=>⟨U4 (h.at_.t.lt (k q a)),λhf=>F q a (e.c1 q hf)⟩;rw[e.d,h.d]at p;refine p.mono ?_;rintro v ai ⟨cC,rfl,G,b,hu,hg⟩;have s:Ext w0 w1:=Ext.d_ h.x f λq a=>h.nT q (.inl (.inr (.inr a)));have H:Ext w0 ai:=Ext.d_ s b.ah λq a=>h.nT q (o q a);have y:∀q,cC.T.M q->S.T.M q\/w1<=q:=λq a=>by
  rcases b.M q a with h1|h1|h1
  .exact .inl (o q h1)
  .exact .inl (k q h1)
  .exact .inr h1
 refine⟨cC,rfl,⟨H,G,b.E,λhs=>?_,λq a=>?_,b.l,b.d.trans (e.d.trans h.d),b.n.trans m,?_,⟨i.1,i.1⟩,I,by rw[b.nQ];omega,b.r.trans e.r⟩,b.live,b.q,hu,b.nQ,by rw[b.now,hu],f.trans (b.ah.mono λq _ a=>e.c1 q a),λq a=>(y q a).imp id λJ=>eO B J⟩
 .have:=h.at_.t.lt (k _ hs)
  have:=b.st;omega
 .rcases y q a with h1|h1
  .exact h.nT q h1
  .have:=s.size;omega
 .have:=b.aX
  have:=e.aX;omega
end
section
variable {w0 w w' w1:J}{a_ bU:U1}{d n ab aQ most k c q i:Nat}{l:e0}{S aE cV:b_}{pages eC aL gQ bh:O Nat}{T aq bm dk hW:O aB}{X:g6}{ls s:ad}{A:O g6}{L bG bn:O aP}{aF:a8}
def mm(S:b_)(w:J)(s:ad)(bm:O aB):Prop:=Src 21 w s (bl aB.c bm)/\s.len<=s.cap/\∀q,aD s q->¬S.T.M q/\q<w
theorem mm.to(h:mm S w s dk)(t:fY aQ S bm w aE hW w')(c:S.T.M aQ):mm aE w' s dk:=
 ⟨h.1.ah t.ah λq a b=>b.elim (λb=>(h.2.2 q a).1 b.1) λe=>(h.2.2 q a).1 (e▸c),h.2.1,λq a=>⟨λd=>(t.c1 q d).elim (h.2.2 q a).1 λf=>U4 ((h.2.2 q a).2),U5 ((h.2.2 q a).2) t.ah.size⟩⟩
theorem e7.qF(h:e7 w0 w a_ d n l ab aQ most S T bm c):S.T.M aQ:=.inr (.inr (.inr (.inl h.lq.1)))
theorem fN.sure(h:fN (λq=>¬S.T.M q) w aQ m s T):mm S w s T:=⟨h.ia,h.c,h.b⟩
theorem NQ{m b:Nat}(cI:m<256)(r:b<256)(uR:ml w ls A):
 aH aj 8 #[.int .u8 (m:Nat),.int .u8 (b:Nat),.slice ls.a ls.len ls.cap] w (λv w'=>v=.bool true/\Ext w w'):=by
 have bE:=uR.len;refine okF (ae.xU (m:Nat) (b:Nat) ls) ax.xU func8 ?_;(delta ae.xU vV ar ak jb lF r1 Y al st fI vW hO iD bB bP zO;dsimp only);obtain⟨N,bF,bG⟩:∃N:Nat,IntKind.wrap .i64 (1+(IntKind.wrap .i64 (Int.tmod (m:Int) 20)))=(N:Int)/\1<=N/\N<=20:=by
  rw[o7 I,bq (n:=(m:Int)%20) I I,bq I I];exact⟨1+m%20,I,I,I⟩
 rw[bF];refine⟨by decide,(p9 ⟨bG.1,I⟩ r w).use ?_⟩;rintro _ w1 ⟨ay,d,az,rfl,a0,bH,_⟩;refine⟨_,_,_,rfl,nofun,λ_=>a6 (vs:=[.int .i64 (N:Nat),.slice none 0 0]) rfl λaC bI bK cK=>?_⟩;have an:=e7.new a0 bK bI (bk _);have aD:(az.own λq=>q=ay\/q=w1.heap.size).u.dc=0:=by show az.u.dc=0;rw[bH];rfl
 generalize w1.heap.size=aQ at an aD⊢;generalize az.own (λq=>q=ay\/q=aQ)=bL at an aD;have f0:=uJ aC;have bM:=an.ext f0.x;obtain⟨cL,cM,dr⟩:=an.a;refine⟨⟨some ⟨aC,0,none⟩,0,0⟩,_,o3 aC,λp s g bN w'=>∃ (i ab:Nat) (S:b_) (T bm:O aB),p=some ⟨ab,0,none⟩/\bN=(i:Int)/\i<=60/\g=(S.u.dc:Nat)/\e7 w w' (λq=>q=ab\/q=aQ) d (4*N+64) (mh b) ab aQ N S T bm (40*i)/\mm S w' s bm,λ_ _ _ n _=>((60:Int)-n).toNat,
  ⟨0,ay,bL,[],[],rfl,rfl,I,by rw[aD];rfl,bM,f0.o.src,f0.o.2.1,λq j=>⟨dr.new q (f0.f q j),f0.o.lt q j⟩⟩,?_⟩
 rintro _ F _ _ P ⟨i,ab,S,T,bm,rfl,rfl,hi,rfl,Q,aY⟩;refine⟨λaI=>?_,λ_=>?_⟩
 rotate_left
 .obtain⟨_,_,c4⟩:=Q.a
  refine(NM P).use ?_;rintro _ cN ⟨rfl,hx⟩;exact⟨true,rfl,rfl,c4.s.x.trans hx⟩
 obtain⟨h1,h2⟩:=Me (m:=60) bE aI;obtain⟨c0,p,c4⟩:=Q.a;have av:=uR.ext c4.s.x;obtain⟨a,bO,bQ,cO,aZ⟩:=av.at h1;have H:=av.ok _ (cJ h1);obtain⟨X,bR⟩:=U6 (A[i]);rw[←bR]at aZ H;obtain⟨_,_,_,aE,_⟩:=X.get;have cQ:=c4.eB;refine⟨a,bO,bQ,_,aZ,a6 (vs:=.int .i64 0::(aB.zero.c++ [.slice none 0 0,.int .u64 0,.int .i64 0,.slice none 0 0])) rfl λcS a1 bS cT=>⟨a1.ct (by simp[X.ba,aB.ba]) ?_,by simp[X.ba],cP a1 (us:=X.c) (by simp[X.ba,aB.ba]) rfl λW K bT cW=>?_⟩⟩
 .intro v B
  have B:v∈X.c:=by simpa using B
  unfold g6.c at B;rcases cZ.1 B with rfl|B
  .trivial
  .rcases cR.1 B with B|B
   .exact aB.plain _ v B
   .simp only[cZ,e2,e_]at B
    rcases B with rfl|rfl|rfl|rfl<;>trivial
 have R:Ext P W:=Ext.cp bS bT (bk _);have Z:=Q.ext R;have a2:mm S W F bm:=aY.to (aQ:=aQ) (bm:=bm) (fY.ext R) Q.qF;have aG:W.cell? ⟨P,0,none⟩=some (.int .i64 X.kind):=K.cell;refine cc (λbV aJ=>∃ (L:Nat) (cV:b_) (bw hW:O aB),bV=some ⟨L,0,none⟩/\e7 w aJ (λq=>q=L\/q=aQ) d (4*N+64) (mh b) L aQ N cV bw hW (40*i+30)/\mm cV aJ F bm/\kQ S bm cV hW) (λcY aK=>⟨_,aG,λ_=>?_,λ_=>⟨_,aG,cc (λb w'=>W=w') (λc1 a3=>⟨λ_=>a3 _ _ rfl,λ_=>⟨_,aG,a3 _ _ rfl⟩⟩) ?_⟩⟩) ?_
 .
  refine j2 (λw'=>∃ (J:ad) (zs:O Int),Ext P w'/\w'.cell? (Addr.add ⟨P,0,none⟩ 25)=some (.slice J.a J.len J.cap)/\Src 1 w' J (zs.map encZ)/\zs.length<=40/\∀z∈zs,z<=9223372036854775807) (λc2 a4=>⟨_,by rw[iw,cA,K.cell];exact aE,λr=>?_,λr=>a4 _ ⟨_,X.l,R,by rw[iw,cA,K.cell];exact aE,H.l.ext R,?_,H.B8⟩⟩) ?_
  .have r:=b2 r
   have bW:=H.lc;obtain⟨b1,cf⟩:=ez K (i:=25) (by rw[X.ba];decide);rw[iw,cA];have aa:=dU W P 25 (.slice (a7 X.ls.a 1 0 X.ls.cap) ((Int.toNat 40)-0) (X.ls.cap-0));have a5:=Ext.cp R aa (bk _);refine⟨_,by rw[K.cell];exact aE,⟨I,I⟩,b1,cf,aT (a4 _ ⟨⟨a7 X.ls.a 1 0 X.ls.cap,(Int.toNat 40)-0,X.ls.cap-0⟩,X.l.take 40,a5,?_,?_,by rw[cF];omega,λz bX=>H.B8 z (fq bX)⟩)⟩
   .rw[iw,cA]
    have:=eE K (i:=25) (.slice (a7 X.ls.a 1 0 X.ls.cap) ((Int.toNat 40)-0) (X.ls.cap-0));rw[this.cell,List.getElem?_set_self (by rw[X.ba];decide)]
   .have ac:=Src.sub (H.l.ext a5) bW (lo:=0) (hi:=40) I I
    rw[iV,m3,←mu]at ac;exact ac
  .have r:=cr r
   have:=H.l.len;rw[cU]at this;omega
  rintro aL ⟨J,zs,aM,a8,a9,c3,bY⟩;have lJ:eF 1 3 aL (aL.alloc (.cells #[] 3)) ⟨some ⟨aL,0,none⟩,0,0⟩ []:=⟨aR.new _ [] 0 rfl (by decide),c5 _ _,λq j=>by have:=yU j;omega⟩;have c6:J.len<=40:=by have:=a9.len;rw[cU]at this;omega
  obtain⟨a_,ao,bZ,_,U,_⟩:=eF.app (cB:=72) qf lJ (a9.ext lJ.x) (λv B=>by obtain⟨z,_,rfl⟩:=eJ.1 B;trivial) (by show(2*(0+J.len)+1000)*8<=_;omega);rw[hK]at U;have bb:=c4.ext aM;have y:=bb.ext U.x;have b0:=(Q.ext aM).ext U.x;have V:mm S ao F bm:=aY.to (aQ:=aQ) (bm:=bm) (fY.ext (aM.trans U.x)) Q.qF;obtain⟨_,_,_,bc,bd⟩:=b0;refine aT ⟨J,by rw[iw,cA]at a8⊢;exact(IP (c5 _ _) a8),a_,ao,bZ,?_⟩;have be:=M3 (l:=a_) (zs:=zs) y.s.at_.t.ca.raw.dev U.o.src (λq j hf=>absurd (.inl (.inr (.inr hf))) (bb.new q (U.f q j))) I bY (by have:=y.s.aX;omega);rw[y.s.d]at be;refine be.use ?_;rintro _ b3 ⟨rfl,aF,b5,bf,b6⟩;rw[Gw r];refine⟨rfl,by decide,(oF (b:=b) (d:=b/16) r I b3).use ?_⟩;rintro _ b7 ⟨rfl,bg⟩;have b8:ag (b4 S.T.C.D) ao b7:=b6.trans (ag.cX bg);have bi:=y.s.at_.kj;rw[y.s.n]at bi;have b9:=y.s.eB;rw[cU,cU]at b9;refine⟨_,_,_,rfl,(y.s.NP (l:=mh b) (b5.ext bg) bf b8 bi (y.s.at_.bJ y.live bf) (Gv b) I I (by rw[cU];omega)).use ?_⟩;rintro _ G ⟨cC,rfl,bl,cb,aN,cd,ce,c7,aO,cg⟩;refine⟨_,0,rfl,(pM G (N:Nat)).use ?_⟩;rintro _ ap ⟨aq,⟨ch,_⟩|⟨_,rfl,bn⟩⟩
  .exfalso
   rcases ch with h|h|h
   .cases h
   .omega
   .omega
  have c8:=aO.size;have c9:=bn.lt;have ci:S.T.E aQ/\aQ≠S.st:=y.s.lq (.inr rfl);have cj:¬b4 S.T.C.D aQ:=λhf=>y.s.at_.t.j_ ci.1 (.inl (.inr (.inr hf)));have bo:=(bd.v.ah aO cj).ext aq;have c_:=bd.v.lt;have bp:=bl.grow (bU:=λq=>q=G\/q=aQ) aq λq j=>j.elim (λe=>.inr I) λe=>.inl (.inr e);have ck:∀q,(cC.own λq=>q=G\/q=aQ).T.M q->S.T.M q\/ao<=q:=λq j=>(b_.B0 (k:=G) bl.E (λq j=>j.elim (λe=>.inr I) λe=>.inl (.inr e)) j).elim (cg q) λac=>.inr I;have cl:∀q,¬S.T.M q->¬b4 S.T.C.D q:=λq j hf=>j (.inl (.inr (.inr hf)));have af:mm (cC.own λq=>q=G\/q=aQ) ap F bm:=⟨(V.1.ah aO λq j=>cl q (V.2.2 q j).1).ext aq,V.2.1,λq j=>⟨λaN=>(ck q aN).elim (V.2.2 q j).1 λac=>by have:=(V.2.2 q j).2;omega,by have:=(V.2.2 q j).2;have:=aq.size;omega⟩⟩;have cm:(cC.own λq=>q=G\/q=aQ).pending=0:=ce;have cn:dm w ap (λq=>q=G\/q=aQ) d (4*N+64) (mh b) G N (cC.own λq=>q=G\/q=aQ) p p bm bm (40*i+1):=⟨bp,cb,aN,.inl rfl,bn,y.sF,y.sF,by rw[cm];show 0<1+b%12;omega,λ_=>rfl,⟨y.eB.2,y.eB.2⟩,y.kl,y.bA,yW.1 bp.at_.ok.rising⟩;refine⟨_,0,rfl,nofun,λ_=>?_⟩;obtain⟨b1,cf⟩:=ez bo (i:=1) (by show 1<2;decide);have aa:=dU ap aQ 1 (.slice F.a F.len F.cap);have br:(cC.own λq=>q=G\/q=aQ).T.M aQ:=.inr (.inr (.inr (.inl (.inr (.inr rfl)))));have bs:fN (λq=>¬(cC.own λq=>q=G\/q=aQ).T.M q) (ap.setCell ⟨aQ,1,none⟩ (.slice F.a F.len F.cap)) aQ (N:Nat) F bm:=⟨eE bo (i:=1) _,af.1.ah aa λq j e=>(af.2.2 q j).1 (e▸br),af.2.1,λq j=>⟨(af.2.2 q j).1,fO (af.2.2 q j).2 aa.size⟩,λco=>co br⟩;refine⟨_,rfl,by rw[iw,cA];exact b1,by rw[iw,cA];exact cf,aT ?_⟩;rw[iw,cA];refine aK _ _ ⟨G,_,bm,bm,rfl,.whole (cn.mono I) (.inr rfl) I aa bs,bs.sure,.inl ⟨by show cC.u.dc=_;rw[cd],rfl⟩⟩
 .
  rintro da _ rfl;refine⟨λ_=>?_,λ_=>⟨_,K.rd X.ba,(rY Z I (H.ext R)).use ?_⟩⟩
  .obtain⟨_,_,gy⟩:=Z.a
   refine(sD gy.v).use ?_;rintro _ _ ⟨rfl,rfl⟩;refine⟨_,rfl,(Z.sync I).use ?_⟩;rintro _ db ⟨rfl,cV,cq,t56,dd,_⟩;exact⟨0,rfl,nofun,λ_=>aK _ _ ⟨ab,cV,T,T,rfl,cq.mono I,a2.to t56 Z.qF,t56.g⟩⟩
  .rintro _ de ⟨rfl,cV,bw,hW,cs,t60⟩
   exact⟨true,rfl,nofun,λ_=>aK _ _ ⟨ab,cV,bw,hW,rfl,cs.mono I,a2.to t60 Z.qF,t60.g⟩⟩
 rintro _ aJ ⟨L,cV,bw,hW,rfl,ai,cu,hg⟩;obtain⟨df,bh,aP⟩:=ai.a;refine pC (λs g w'=>∃ (cC:b_) (au:O aB),g=(cC.u.dc:Nat)/\e7 w w' (λq=>q=L\/q=aQ) d (4*N+64) (mh b) L aQ N cC bw au (40*i+31)/\mm cC w' s au) (λdg aS=>(sD aP.v).use ?_) ?_
 .rintro _ _ ⟨rfl,rfl⟩
  refine⟨_,rfl,(Gg aP.s.at_).use ?_⟩;rintro _ cv ⟨rfl,am⟩;have bt:=ai.ext am;have aw:=aP.ext am;have cx:mm cV cv F bm:=cu.to (aQ:=aQ) (bm:=hW) (fY.ext am) ai.qF;refine⟨_,_,_,_,_,_,rfl,_,rfl,λdh=>?_,λcy=>?_⟩
  .refine(sD aw.v).use ?_
   rintro _ _ ⟨rfl,rfl⟩;refine⟨_,rfl,(MK aw.s.at_).use ?_⟩;rintro _ _ ⟨rfl,rfl⟩;obtain⟨_,_,_,bc,bu⟩:=bt;refine⟨_,rfl,λbv=>?_,λbv=>?_⟩
   .have cz:cV.pending=0:=by have:=eq_of_beq bv;omega
    have e:=aw.uO cz;refine⟨_,rfl,bc,by rw[aA];exact bu.v.cell,aS _ _ _ ⟨cV,hW,rfl,(ai.ext am).mono I,?_⟩⟩;rw[←e];exact bu.sure
   .refine(sD aw.v).use ?_
    rintro _ _ ⟨rfl,rfl⟩;refine⟨_,rfl,((ai.ext am).sync I).use ?_⟩;rintro _ cD ⟨rfl,cC,aU,t89,_⟩;have aV:=cw cD;have bx:=aU.ext aV;obtain⟨di,bj,bz⟩:=bx.a;obtain⟨_,_,_,s2,bC⟩:=bx;refine⟨_,rfl,aT ⟨λ_=>False,_,rfl,id,s2,by rw[aA];exact bC.v.cell,(sD bz.v).use ?_⟩⟩;rintro _ _ ⟨rfl,rfl⟩;refine⟨_,rfl,.refl _ _,(Gg bz.s.at_).use ?_⟩;rintro _ dj ⟨rfl,aW⟩;exact⟨_,_,_,_,_,_,rfl,ag.cX aW,_,rfl,aS _ _ _ ⟨cC,bw,rfl,((aU.ext aV).ext aW).mono I,bC.sure.to (aQ:=aQ) (bm:=bw) (fY.ext aW) (aU.ext aV).qF⟩⟩
  .have e:cV.u.dc=S.u.dc:=by
    have ac:((cV.u.dc:Nat):Int)=(S.u.dc:Nat):=by simpa using cy
    omega
   rcases hg with ⟨_,rfl⟩|hg
   .exact aS _ _ _ ⟨cV,hW,by rw[e],bt.mono I,cx⟩
   .omega
 .rintro s _ dk ⟨cC,au,rfl,bD,cE⟩
  refine(rZ bD I).use ?_;rintro _ dl ⟨rfl,jM,cG,t111,cH⟩;rw[mf I];exact⟨true,rfl,nofun,λ_=>⟨⟨i+1,L,jM,bw,au,rfl,rfl,I,by rw[cH],cG.mono I,cE.to t111 bD.qF⟩,by show((60:Int)-((i+1:Nat):Int)).toNat<((60:Int)-(i:Nat)).toNat;omega⟩⟩
end
end Go.Proofs.YtcmgnhkpfllinaaGreat
