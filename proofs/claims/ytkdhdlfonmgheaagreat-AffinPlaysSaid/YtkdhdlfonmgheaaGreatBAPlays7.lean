/- Contracts of the functions that the statement reaches, and the plain laws over them; each theorem stands with its conditions. -/
import Derived.Test.YtkdhdlfonmgheaaGreatBAPlays6
namespace Go.Proofs.YtkdhdlfonmgheaaGreat
open Go aS Go.Proofs.Tryz
def aB.ok(t:aB):Prop:=t.dZ=true/\t.u<18446744073709551616
theorem aB.ok.k{t:aB}(h:t.ok):db t.s t.p=true:=by have:=h.1;unfold aB.dZ at this;rw[dh]at this;exact this.1
theorem aB.ok.b{t:aB}(h:t.ok):fM t.b=true:=by have:=h.1;unfold aB.dZ at this;rw[dh]at this;exact this.2
def kL(S:b9)(bE:O aB)(aA:b9)(dd:O aB):Prop:=(aA.u.dA=S.u.dA/\dd=bE)\/S.u.dA<aA.u.dA
theorem kL.trans{S aA c:b9}{bE dd d:O aB}(h:kL S bE aA dd)(e:kL aA dd c d):kL S bE c d:=by
 rcases h with ⟨a,rfl⟩|a<;>rcases e with ⟨b,rfl⟩|b
 .exact .inl ⟨b.trans a,rfl⟩
 .exact .inr I
 .exact .inr I
 .exact .inr I
structure dp(w0 w:J)(bo:Nat->Prop)(d n:Nat)(l:fj)(ab most:Nat)(S:b9)(pages aL:O Nat)(T bE:O aB)(c:Nat):Prop where
 s:hF w0 w bo d n l S pages (T.map aB.kv) aL (bE.map aB.kv) c
 live:S.failed=false
 q:S.T.C.D.quiet
 xz:bo ab
 v:Var w ab [.pointer (some S.st),most] 134
 ok:∀t∈T,t.ok
 xA:∀t∈bE,t.ok
 pV:S.pending<l.batch
 xB:S.pending=0->T=bE
 eL:T.length<=most/\bE.length<=most
 ki:1<=most/\most<=400
 bV:n=4*most+64
 ld:ix T
section
variable {w0 w w':J}{bo:Nat->Prop}{d n ab most k c:Nat}{l:fj}{S aA:b9}{pages eH aL g8:O Nat}{T au bE dd:O aB}{tk c2:ad}{key:Key}{v:Y}{s:Int}{p:bl}
theorem dp.ext(h:dp w0 w bo d n l ab most S pages aL T bE c)(hx:Ext w w'):dp w0 w' bo d n l ab most S pages aL T bE c:={h with s:=h.s.ext hx,v:=h.v.ext hx}
theorem dp.mono{e:Nat}(h:dp w0 w bo d n l ab most S pages aL T bE c)(he:c<=e):dp w0 w bo d n l ab most S pages aL T bE e:={h with s:=h.s.mono he}
theorem dp.new(h:dp w0 w bo d n l ab most S pages aL T bE c):∀q,w.heap.size<=q->¬S.T.M q:=λq b a=>by have:=h.s.at_.t.lt a;omega
theorem dp.keys(h:dp w0 w bo d n l ab most S pages aL T bE c):∀t∈T,db t.s t.p=true:=λt ht=>(h.ok t ht).k
theorem dp.room(h:dp w0 w bo d n l ab most S pages aL T bE c):iK S≠0:=by
 have h1:=h.eL;have e:=h.s.at_.room;have a:=h.s.at_.ok.low (by rw[dk];have:=h.ki;omega);have b:=h.s.at_.gw.low;have f:=h.s.n;have g:=h.bV;rw[dk]at a b;unfold iK;omega
theorem dp.step(h:dp w0 w bo d n l ab most S pages aL T bE c)(hs:d_ w' aA eH (au.map aB.kv) g8 (dd.map aB.kv))(hd:da k S aA w w')(f:k<=20000)(u:au.length<=T.length+1)(a:dd=bE\/dd=au)(g:au.length<=most)(hg:aA.gen<=S.gen+1)(i:aA.pending<=S.pending+1)(hf:aA.failed=false)(b:∀t∈au,t.ok)(j:aA.pending<l.batch)(m:aA.pending=0->au=dd):
 dp w0 w' bo d n l ab most aA eH g8 au dd (c+1):=by
 have o:=h.s.eL;rw[dk,dk]at o;have e:=h.s.nd h.xz;have p:dd.length<=c+1/\dd.length<=most:=by
  have:=h.eL;rcases a with rfl|rfl<;>omega
 refine⟨h.s.step hs hd f (by rw[dk,dk];omega) hg i,hf,hd.q h.q,h.xz,?_,b,?_,j,m,⟨g,p.2⟩,h.ki,h.bV,Am.1 (hs.ok.rising)⟩
 .rw[hd.st]
  exact h.v.ah hd.ah λr=>e.2 (r.2 e.1)
 .rcases a with rfl|rfl
  .exact h.xA
  .exact b
theorem dp.read(h:dp w0 w bo d n l ab most S pages aL T bE c)(hs:d_ w' aA pages (T.map aB.kv) aL (bE.map aB.kv))(hd:da k S aA w w')(b:k<=20000)(hg:aA.gen=S.gen)(a:aA.pending=S.pending)(hf:aA.failed=S.failed):dp w0 w' bo d n l ab most aA pages aL T bE (c+1):=
 h.step hs hd b I (.inl rfl) h.eL.1 I I (hf.trans h.live) h.ok (by rw[a];exact h.pV) (by rw[a];exact h.xB)
def ga(w0:J)(bo:Nat->Prop)(d n:Nat)(l:fj)(ab most:Nat)(S:b9)(bE au:O aB)(w:J)(c:Nat)(w':J):Prop:=
 ∃ (k:Nat) (aA:b9) (eH g8:O Nat) (dd:O aB),dp w0 w' bo d n l ab most aA eH g8 au dd c/\da k S aA w w'/\aA.now=S.now/\kL S bE aA dd
theorem dp.more(h:dp w0 w bo d n l ab most S pages aL T bE c)(a:nc S aA eH (au.map aB.kv) aL (bE.map aB.kv) v w')(hd:da k S aA w w')(b:aA.now=S.now)(f:k<=20000)(g:au.length<=T.length+1)(i:au.length<=most)(j:∀t∈au,t.ok):
 v=.int .i64 0/\ga w0 bo d n l ab most S bE au w (c+1) w':=by
 have p:=h.s.at_.num.2.2.2.2.2.2;have m:=h.s.lim;rcases a with ⟨rfl,h1,hs,hf,hg,hu,o,_⟩|a
 .exact⟨rfl,k,aA,eH,aL,bE,h.step hs hd f g (.inl rfl) i I I hf j (by rw[←m];omega) (λe=>I),hd,b,.inl ⟨by rw[hu],rfl⟩⟩
 .obtain⟨rfl,_,hs,hf,hg,_,r,o⟩:=a.Ew h.q
  exact⟨rfl,k,aA,eH,eH,au,h.step hs hd f g (.inr rfl) i I I hf j (by rw[←m];omega) (λ_=>rfl),hd,b,.inr I⟩
theorem dp.put{t:aB}(h:dp w0 w bo d n l ab most S pages aL T bE c)(ht:t.ok)(hlen:(hX T t).length<=most/\(hX T t).length<=T.length+1)(hc:c<=30000)(f:Src 1 w tk (aD (eE t.s.toNat t.p)))(g:∀q,aE tk q->q<w.heap.size/\¬S.T.M q)(i:Src 1 w c2 (aD (jM t.b.toNat t.u)))(j:∀q,aE c2 q->q<w.heap.size/\¬S.T.M q):
 aK ai 23 #[.pointer (some S.st),tk,c2] w (λv w'=>v=.int .i64 0/\ga w0 bo d n l ab most S bE (hX T t) w (c+1) w'):=by
 have k:=h.s.at_.num.2.2.2.2.1;have m:=h.s.lim;have z:=h.pV;have A:=h.s.aV;have B:=h.s.gen;refine(KD (key:=eE t.s.toNat t.p) (val:=jM t.b.toNat t.u) h.s.at_ (by rw[dk];have:=h.eL.1;have:=h.ki;omega) (by rw[m]at k;omega) I I f g i j).mono ?_;rintro v w' (⟨_,o,_⟩|⟨_,⟨hf,_⟩|⟨_,aA,hd,r,⟨_,y,_⟩|⟨_,eH,a⟩⟩⟩)
 .exact absurd ⟨rE,by rw[q8];decide⟩ o
 .rw[h.live]at hf;cases hf
 .exact absurd y h.room
 .rw[show gM (T.map aB.kv) (eE t.s.toNat t.p) (jM t.b.toNat t.u)=(hX T t).map aB.kv from EB T t]at a
  exact h.more a hd r I hlen.2 hlen.1 λx hx=>(KO hx).elim (λe=>e▸ht) (h.ok x)
theorem dp.del(h:dp w0 w bo d n l ab most S pages aL T bE c)(hg:db s p=true)(hc:c<=30000)(j:Src 1 w tk (aD (eE s.toNat p)))(k:∀q,aE tk q->q<w.heap.size/\¬S.T.M q):
 aK ai 22 #[.pointer (some S.st),tk] w (λv w'=>v=.tuple #[.bool (T.find? (cP s p)).isSome,(0:Int)]/\ga w0 bo d n l ab most S bE (T.filter λt=> !cP s p t) w (c+1) w'):=by
 have m:=h.s.at_.num.2.2.2.2.1;have o:=h.s.lim;have D:=h.pV;have E:=h.s.aV;have F:=h.s.gen;have f:=Aj h.keys hg;have G:(T.filter λt=> !cP s p t).length<=T.length:=iP _ _;refine(KE (key:=eE s.toNat p) h.s.at_ (by rw[dk];have:=h.eL.1;have:=h.ki;omega) (by rw[o]at m;omega) I I j k).mono ?_;rintro v w' (⟨_,r,_⟩|⟨_,⟨hf,_⟩|⟨_,aA,hd,g,⟨rfl,a,hs,he,y⟩|⟨_,_,z,_⟩|⟨e,rfl,a,_,eH,i⟩|⟨_,hx⟩⟩⟩)
 .exact absurd rE r
 .rw[h.live]at hf;cases hf
 .rw[f,Option.map_eq_none_iff]at a
  rw[a];refine⟨rfl,300,aA,pages,aL,bE,?_,hd,g,.inl ⟨by rw[he.u],rfl⟩⟩;rw[jA.2 λt ht=>by rw[jh,←fx];exact jZ.1 a t ht];exact h.read hs hd I he.gen he.pending (y.trans h.live.symm)
 .exact absurd z h.room
 .rw[KN h.keys hg]at i
  obtain⟨A,B⟩:=h.more i hd g I I (by have:=h.eL.1;omega) λx hx=>h.ok x (fU.1 hx).1;obtain rfl:e=0:=by cases A;rfl
  rw[f,ne_eq,Option.map_eq_none_iff]at a;refine⟨?_,B⟩
  cases C:T.find? (cP s p) with
  |none=>exact absurd C a
  |some t=>rfl
 .rcases hx True pages (T.map aB.kv) with ⟨b,_⟩|⟨_,b,_⟩
  .cases b
  .exact absurd h.q b
theorem dp.get(h:dp w0 w bo d n l ab most S pages aL T bE c)(hg:db s p=true)(hc:c<=30000)(g:Src 1 w tk (aD (eE s.toNat p)))(i:∀q,aE tk q->q<w.heap.size/\¬S.T.M q):
 aK ai 55 #[.pointer (some S.st),tk] w (λv w'=>(∃ (t:ad),v=.tuple #[t,.bool (T.find? (cP s p)).isSome,(0:Int)]/\∀x,T.find? (cP s p)=some x->Src 1 w' t (aD (jM x.b.toNat x.u))/\t.len<=t.cap)/\ga w0 bo d n l ab most S bE T w (c+1) w'):=by
 have o:=h.s.aV;have f:=Aj h.keys hg;refine(KC h.s.at_ I g i).mono ?_;rintro v w' ⟨aI,hs,hd,_,_,_,_,j⟩;have aq:ga w0 bo d n l ab most S bE T w (c+1) w':=⟨30,_,pages,aL,bE,h.read hs hd I rfl rfl rfl,hd,rfl,.inl ⟨rfl,rfl⟩⟩;rcases j with ⟨rfl,a⟩|⟨t,x,rfl,_,a,ht⟩|⟨_,_,k⟩
 .have a:=a rE
  rw[f,Option.map_eq_none_iff]at a;rw[a];exact⟨⟨⟨none,0,0⟩,rfl,λx e=>(by cases e)⟩,aq⟩
 .rw[f]at a
  obtain⟨y,m,rfl⟩:=tL.1 a;rw[m];exact⟨⟨t,rfl,λz e=>by cases e;exact⟨ht.1,ht.2.1⟩⟩,aq⟩
 .exact absurd (h.q.1 30) k
end
section
variable {w0 w w' w1:J}{bo:Nat->Prop}{d n ab most k c q:Nat}{l:fj}{S aA cy:b9}{pages eH aL g8:O Nat}{T au bE dd mm:O aB}{tk c2:ad}{key:Key}{v:Y}{s:Int}{p:bl}{vs:O Y}
theorem dp.tF(h:dp w0 w bo d n l ab most S pages aL T bE c)(hx:Ext w w')(e:Nat):ga w0 bo d n l ab most S bE T w (c+e) w':=⟨0,S,pages,aL,bE,(h.ext hx).mono (Nat.le_add_right _ _),.ext S hx,rfl,.inl ⟨rfl,rfl⟩⟩
theorem ga.cat(hd:da k S cy w w1)(a:cy.now=S.now)(hg:kL S bE cy mm)(h:ga w0 bo d n l ab most cy mm au w1 c w'):ga w0 bo d n l ab most S bE au w c w':=by
 obtain⟨cn,c_,c0,bj,b2,h2,d2,bz,ax⟩:=h;exact⟨k+cn,c_,c0,bj,b2,h2,hd.trans d2,bz.trans a,hg.trans ax⟩
theorem ga.pre(hx:Ext w w1)(h:ga w0 bo d n l ab most S bE au w1 c w'):ga w0 bo d n l ab most S bE au w c w':=ga.cat (.ext S hx) rfl (.inl ⟨rfl,rfl⟩) h
theorem ga.post(h:ga w0 bo d n l ab most S bE au w c w1)(hx:Ext w1 w'):ga w0 bo d n l ab most S bE au w c w':=by
 obtain⟨cn,c_,c0,bj,b2,h2,d2,bz,ax⟩:=h;exact⟨cn+0,c_,c0,bj,b2,h2.ext hx,d2.trans (.ext c_ hx),bz,ax⟩
theorem b9.KU{b:Nat}(c:∀q,S.T.E q↔q=S.st\/bo q)(a:(S.own λq=>bo q\/q=b).T.M q):S.T.M q\/q=b:=by
 rcases a with a|a|a|a|a
 .exact .inl (.inl a)
 .exact .inl (.inr (.inl a))
 .exact .inl (.inr (.inr (.inl a)))
 .rcases(show q=S.st\/bo q\/q=b from a) with h|h|h
  .exact .inl (.inr (.inr (.inr (.inl ((c q).2 (.inl h))))))
  .exact .inl (.inr (.inr (.inr (.inl ((c q).2 (.inr h))))))
  .exact .inr h
 .exact .inl (.inr (.inr (.inr (.inr a))))
theorem dp.scope{b:Nat}(h:dp w0 w bo d n l ab most S pages aL T bE c)(hx:Ext w w1)(t:w.heap.size<=b/\b<w1.heap.size):dp w0 w1 (λq=>bo q\/q=b) d n l ab most (S.own λq=>bo q\/q=b) pages aL T bE c/\
 (∀q,w.heap.size<=q->q≠b->¬(S.own λq=>bo q\/q=b).T.M q)/\(∀q,w.heap.size<=q->¬(S.own λq=>bo q\/q=b).W q)/\
 ∀ {aj g:J}{e:Nat}{au:O aB},ga w0 (λq=>bo q\/q=b) d n l ab most (S.own λq=>bo q\/q=b) bE au w1 e aj->af (λq=>q=b) aj g->ga w0 bo d n l ab most S bE au w e g:=by
 have i:∀q,(S.own λq=>bo q\/q=b).T.M q->S.T.M q\/q=b:=λq a=>b9.KU h.s.E a;have y:=h.s.at_.v.lt;have o:∀q,w.heap.size<=q->q≠b->¬(S.own λq=>bo q\/q=b).T.M q:=λq a j u=>(i q u).elim (h.new q a) j;refine⟨⟨h.s.grow hx λq a=>a.imp id λe=>by rw[e];exact t,h.live,h.q,.inl h.xz,h.v.ext hx,h.ok,h.xA,h.pV,h.xB,h.eL,h.ki,h.bV,h.ld⟩,o,λq a f=>?_,λ{aj g e au} x hc=>?_⟩
 .by_cases e:q=b
  .have:q=S.st:=f.2 (.inr (.inr e))
   omega
  .exact o q a e f.1
 obtain⟨k,c_,c0,bj,b2,h2,d2,bz,ax⟩:=x;have j:¬ab=b:=by have:=h.v.lt;omega
 have z:=hx.size;refine⟨k,c_.own bo,c0,bj,b2,⟨(h2.s.jQ (.inr rfl) hc).grow (.refl _ _) λq a=>.inl (.inl a),h2.live,h2.q,h.xz,h2.v.ah hc j,h2.ok,h2.xA,h2.pV,h2.xB,h2.eL,h2.ki,h2.bV,h2.ld⟩,⟨d2.st,d2.d,d2.n,d2.l,d2.aV,d2.q,?_,λq a=>?_,?_,d2.G,d2.r⟩,bz,ax⟩
 .refine c3 (c3 (hx.mono λ_ _ h=>h.elim) d2.ah λq a f=>⟨(i q f.1).resolve_right I,λhe=>f.2 ?_⟩) hc λq a e=>absurd a I
  rcases(h.s.E q).1 he with e|e
  .exact .inl e
  .exact .inr (.inl e)
 .rcases b9.Ex (k:=w.heap.size) h2.s.E (λq a=>.inl (.inl a)) a with m|m
  .rcases d2.c7 q m with p|p
   .exact(i q p).imp id λe=>by omega
   .exact .inr I
  .exact .inr m
 .funext q
  rw[show(c_.own bo).T.E q=(q=c_.st\/bo q) from rfl,d2.st];exact(propext (h.s.E q)).symm
theorem tG(a:Var w q vs 29)(b:vs.length=21)(t:aB){K:O Y->J->Prop}(f:∀w',af (λx=>x=q) w w'->K t.c w'):bk w q (Array.toList t.c.toArray)/\Array.size t.c.toArray=21/\ak (setCells w q 0 (Array.toList t.c.toArray)) λd=>∃e:O Y,a8 d q 0 21=some e/\K e d:=
 ⟨a.b3 (by simp[aB.bd,b]) (aB.plain t),by simp[aB.bd],cp a (us:=t.c) (by simp[aB.bd,b]) rfl λw' g h _=>⟨t.c,g.rd (aB.bd t),f w' h⟩⟩
theorem rF(t:aB){K:J->Prop}(d:∀w',Var w' w.heap.size t.c 29->Ext w w'->K w'):ak (w.alloc (.cells aB.zero.c.toArray 29)) λa=>bk a w.heap.size (Array.toList t.c.toArray)/\Array.size t.c.toArray=21/\ak (setCells a w.heap.size 0 (Array.toList t.c.toArray)) K:=
 bc (vs:=aB.zero.c) rfl λw1 b hx _=>⟨b.b3 (by simp[aB.bd]) (aB.plain t),by simp[aB.bd],cp b (us:=t.c) (by simp[aB.bd]) rfl λw' e f _=>d w' e (Ext.cD hx f (bt _))⟩
theorem EG{x:aB}(hx:x.ok)(a:Src 1 w tk (aD (eE x.s.toNat x.p)))(g:tk.len<=tk.cap)(d:Src 1 w c2 (aD (jM x.b.toNat x.u)))(h:c2.len<=c2.cap):aK ai 88 #[tk,c2] w (λv w'=>v=.tuple #[.agg x.c.toArray,true]/\Ext w w'):=by
 obtain⟨k,e,_⟩:=xy hx.k;obtain⟨j,f,i⟩:=nW hx.b;have hg:=hx.k;have hu:=hx.2;obtain⟨s,p,b,u⟩:=x;dsimp only at e f hg hu a d;subst e f;rw[di]at a d;exact qy a g d h hg i hu
theorem EH{x:aB}(h:cP s p x=true):x.s=s/\x.p=p:=by
 unfold cP at h;rwa[dh,b_,b_]at h
theorem Ao{now:Nat}(h:dp w0 w bo d n l ab most S pages aL T bE c)(hc:c<=30000)(s:Int)(p:bl):aK ai 27 #[.pointer (some ab),s,.agg p.c.toArray,.int .u64 (now:Nat)] w (λv w'=>ga w0 bo d n l ab most S bE T w (c+1) w'/\
 v=if db s p then .tuple #[.agg ((iw T s p now).getD aB.zero).c.toArray,.bool (iw T s p now).isSome,(0:Int)] else .tuple #[.agg aB.zero.c.toArray,false,(1:Int)]):=by
 refine ae.FZ (some ab) s _ (now:Nat) w _ ?_;(delta ae.sD fc aa hL an l2 hM b5;dsimp only);refine bc (vs:=p.c) rfl λw1 K z Y=>bc (vs:=aB.zero.c) rfl λaj A B Z=>⟨p.c,(K.ext B).rd (bl.bd _),(Ez s p aj).use ?_⟩;have i:=z.trans B;have j:=z.size;have ac:=i.size;rintro _ L ⟨e,⟨hg,rfl⟩|⟨hg,tk,rfl,g,hf⟩⟩
 .refine⟨⟨none,0,0⟩,false,rfl,λ_=>⟨_,tc L,tG (A.ext e) (aB.bd _) aB.zero λm a=>⟨h.tF (Ext.cD (i.trans e) a j) 1,by rw[hg];rfl⟩⟩,λh=>(by cases h)⟩
 have M:=i.trans e;have ad:=e.size;obtain⟨C,N,D,o⟩:=h.scope (b:=w1.heap.size) M ⟨j,I⟩;refine⟨tk,true,rfl,λh=>(by cases h),λ_=>⟨_,rfl,_,C.v.cell,(C.get hg hc g.src λq f=>⟨g.lt q f,N q (by have:=hf q f;omega) (by have:=hf q f;omega)⟩).use ?_⟩⟩;rintro _ O ⟨⟨c2,rfl,jk⟩,r⟩;have P:=r;obtain⟨k,cy,af,bh,bQ,h1,d1,bW,aw⟩:=P;have E:=(A.ext e).ah d1.ah (D _ j);have Q:=g.src.ah d1.ah λq f=>D q (by have:=hf q f;omega);rw[if_pos hg,Ak]
 cases t:T.find? (cP s p) with
 |none=>exact⟨c2,false,0,rfl,λ_=>⟨_,tc O,tG E (aB.bd _) aB.zero λm a=>⟨o r a,rfl⟩⟩,λh=>(by cases h)⟩
 |some x=>
  have hx:=h.ok x (j0 t);obtain⟨rfl,rfl⟩:=EH (kO t);obtain⟨R,U⟩:=jk x t;refine⟨c2,true,0,rfl,λh=>(by cases h),λ_=>(EG hx Q g.2.1 R U).use ?_⟩;rintro _ ag ⟨rfl,V⟩;refine⟨_,true,rfl,rF x λW F X=>⟨λh=>(by cases h),λ_=>?_⟩⟩;have G:=V.trans X;have H:=E.ext G;have J:=r.post G;refine⟨_,zd F,λy=>⟨_,tc W,tG H (aB.bd _) aB.zero λm a=>⟨o J a,?_⟩⟩,λy=>⟨x.c,F.rd (aB.bd x),tG H (aB.bd _) x λm a=>⟨o J a,?_⟩⟩⟩
  .have:x.u<=now:=by have:=cl y;omega
   simp only[if_pos this];rfl
  .have:¬x.u<=now:=by have:=cw y;omega
   simp only[if_neg this];rfl
end
def jg(T:O aB)(most:Nat)(t:aB):Int:=if t.dZ then (if (T.find? (cP t.s t.p)).isSome then 0 else if most<=T.length then 2 else 0) else 1
def kM(T:O aB)(most:Nat)(t:aB):O aB:=if jg T most t=0 then hX T t else T
theorem KV{T:O aB}{t:aB}(a:ix T)(b:∀t∈T,db t.s t.p=true)(hg:db t.s t.p=true):(hX T t).length=if (T.find? (cP t.s t.p)).isSome then T.length else T.length+1:=by
 have h1:=Ae t.kv.1 t.kv.2 (T.map aB.kv);have h2:=xw (k:=t.kv.1) (Am.2 a);rw[EB,dk]at h1;rw[dk,show fe (T.map aB.kv) t.kv.1=_ from Aj b hg]at h2;rw[h1]
 cases hf:T.find? (cP t.s t.p) with
 |none=>rw[hf]at h2;simp at h2⊢;omega
 |some x=>rw[hf]at h2;simp at h2⊢;omega
section
variable {w0 w w' w1:J}{bo:Nat->Prop}{d n ab most k c q:Nat}{l:fj}{S aA cy:b9}{pages eH aL g8:O Nat}{T au bE dd mm:O aB}{s:Int}{p:bl}
theorem EI(h:dp w0 w bo d n l ab most S pages aL T bE c)(hc:c<=20000){t:aB}(hu:t.u<18446744073709551616):aK ai 15 #[.pointer (some ab),.agg t.c.toArray] w (λv w'=>v=.int .i64 (jg T most t)/\ga w0 bo d n l ab most S bE (kM T most t) w (c+2) w'):=by
 refine ae.FX (some ab) _ w _ ?_;(delta ae.sC an aa b8 aF hL b5 l2 bS;dsimp only);refine bc (vs:=t.c) rfl λw1 C O af=>cq (λb w'=>b= !t.dZ/\Ext w1 w') (λk P=>⟨λh=>(by cases h),λ_=>⟨t.c,C.rd (aB.bd t),(oY t w1).use λv w' a=>by obtain⟨rfl,hx⟩:=a;exact⟨t.dZ,rfl,P _ _ ⟨rfl,hx⟩⟩⟩⟩) ?_;rintro _ Q ⟨rfl,D⟩;have x:=O.trans D;refine⟨λg=>?_,λg=>?_⟩
 .have hg:t.dZ=false:=by rwa[jh]at g
  have e:jg T most t=1:=by unfold jg;rw[hg];rfl
  refine⟨by rw[e],?_⟩;unfold kM;rw[e];exact h.tF x 2
 have hg:t.dZ=true:=by rwa[mz]at g
 have ht:t.ok:=⟨hg,hu⟩;have y:=C.ext D;refine⟨_,y.cell,_,lM y,(l5 t.s t.p Q).use ?_⟩;rintro _ R ⟨E,⟨hf,_⟩|⟨_,tk,rfl,U,z⟩⟩
 .rw[ht.k]at hf;cases hf
 have F:=y.ext E;refine⟨tk,true,rfl,_,tb F,_,zd F,(qu t.b hu R).use ?_⟩;rintro _ V (⟨hf,_⟩|⟨_,c2,rfl,A,j,G⟩)
 .rw[ht.b]at hf;cases hf
 have m:=x.trans E;have H:=h.ext (m.trans j);have ag:=x.size;have aj:=m.size;have ak:=(m.trans j).size;have o:=U.ext j;refine⟨c2,true,rfl,_,rfl,_,H.v.cell,(H.get ht.k I o.src λq a=>⟨o.lt q a,h.new q (by have:=z q a;omega)⟩).use ?_⟩;rintro _ J ⟨⟨X,rfl,_⟩,k,cy,al,bh,bQ,h1,d1,bW,aw⟩;have K:∀q,w.heap.size<=q->¬S.W q:=λq a Y=>h.new q a Y.1;have L:∀q,w.heap.size<=q->q<V.heap.size->¬cy.T.M q:=λq a i B=>(d1.c7 q B).elim (h.new q a) λ_=>by omega
 have Z:=o.src.ah d1.ah λq a=>K q (by have:=z q a;omega);have ac:=A.src.ah d1.ah λq a=>K q (by have:=G q a;omega);have am:=d1.ah.size;have f:=cE J;have N:jg T most t=0->aK ai 23 #[.pointer (some cy.st),tk,c2] J.drew (λv w'=>v=.int .i64 (jg T most t)/\ga w0 bo d n l ab most S bE (kM T most t) w (c+2) w'):=λhe=>by
  have i:=KV h.ld h.keys ht.k;have B:(hX T t).length<=most/\(hX T t).length<=T.length+1:=by
   have:=h.eL.1;unfold jg at he;rw[hg,if_pos rfl]at he;rw[i];split
   .omega
   .rename_i hs
    rw[if_neg hs]at he;split at he
    .cases he
    .omega
  refine((h1.ext f).put ht B I (Z.ext f) (λq a=>⟨?_,L q (by have:=z q a;omega) (o.lt q a)⟩) (ac.ext f) λq a=>⟨?_,L q (by have:=G q a;omega) (A.lt q a)⟩).mono ?_
  .have:=o.lt q a;have:=f.size;omega
  .have:=A.lt q a;have:=f.size;omega
  .rintro _ w' ⟨rfl,r⟩
   rw[he];refine⟨rfl,?_⟩;unfold kM;rw[he,if_pos rfl];exact((r.pre f).cat d1 bW aw).pre (m.trans j)
 have he:jg T most t=if (T.find? (cP t.s t.p)).isSome then 0 else if most<=T.length then 2 else 0:=by unfold jg;rw[hg,if_pos rfl]
 refine⟨X,_,0,rfl,λh=>(by cases h),λ_=>aX ⟨λ_=>False,λg=>?_,λg=>?_⟩⟩
 .have hs:(T.find? (cP t.s t.p)).isSome=false:=by rwa[jh]at g
  rw[hs]at he;refine⟨_,rfl,id,_,(h1.ext f).v.cell,(Ah (h1.ext f).v (h1.ext f).s.at_).use ?_⟩;rintro _ _ ⟨rfl,rfl⟩;rw[dk];refine⟨_,rfl,.refl _ _,λi=>?_,λi=>⟨_,rfl,_,(h1.ext f).v.cell,(N ?_).use ?_⟩⟩
  .have:most<=T.length:=by have:=cl i;omega
   have e:jg T most t=2:=by rw[he,if_neg (by decide),if_pos this]
   refine⟨by rw[e],?_⟩;unfold kM;rw[e];exact(((h1.tF f 1)).cat d1 bW aw).pre (m.trans j)
  .have:¬most<=T.length:=by have:=cw i;omega
   rw[he,if_neg (by decide),if_neg this]
  .rintro _ ad ⟨rfl,r⟩
   exact⟨_,rfl,rfl,r⟩
 .have hs:(T.find? (cP t.s t.p)).isSome=true:=by rwa[mz]at g
  rw[hs,if_pos rfl]at he;refine⟨λh=>(by cases h),λ_=>⟨_,rfl,_,(h1.ext f).v.cell,(N he).use ?_⟩⟩;rintro _ ad ⟨rfl,r⟩;exact⟨_,rfl,rfl,r⟩
theorem KW(h:dp w0 w bo d n l ab most S pages aL T bE c)(hc:c<=20000)(s:Int)(p:bl):aK ai 28 #[.pointer (some ab),s,.agg p.c.toArray] w (λv w'=>(db s p=false/\v=.tuple #[false,(1:Int)]/\ga w0 bo d n l ab most S bE T w (c+1) w')\/(db s p=true/\v=.tuple #[.bool (T.find? (cP s p)).isSome,(0:Int)]/\ga w0 bo d n l ab most S bE (mj T s p) w (c+1) w')):=by
 refine ae.F0 (some ab) s _ w _ ?_;delta ae.sE aa hL an kr;refine bc (vs:=p.c) rfl λw1 j a k=>⟨p.c,j.rd (bl.bd _),(Ez s p w1).use ?_⟩;rintro _ m ⟨e,⟨hg,rfl⟩|⟨hg,tk,rfl,f,hf⟩⟩
 .exact⟨⟨none,0,0⟩,false,rfl,λ_=>.inl ⟨hg,rfl,h.tF (a.trans e) 1⟩,λh=>(by cases h)⟩
 have b:=a.trans e;have o:=a.size;refine⟨tk,true,rfl,λh=>(by cases h),λ_=>⟨_,rfl,_,(h.ext b).v.cell,((h.ext b).del hg I f.src λq g=>⟨f.lt q g,h.new q (by have:=hf q g;omega)⟩).use ?_⟩⟩;rintro _ r ⟨rfl,i⟩;rw[←EA (Am.2 h.ld)]at i;exact⟨_,_,rfl,.inr ⟨hg,rfl,i.pre b⟩⟩
end
section
variable {w0 w w' w1:J}{bo B:Nat->Prop}{d n ab most k c q i:Nat}{l:fj}{S aA cy:b9}{pages eH aL g8:O Nat}{T au bE dd mm Q:O aB}{s:Int}{p:bl}{x:aB}{ch:aB->al}{tl:ad}
theorem dp.scan(h:dp w0 w bo d n l ab most S pages aL T bE c)(hc:c<=20000){a tt:ad}{fr to:Key}{m:Int}(hf:Src 1 w a (aD fr))(b:∀q,aE a q->q<w.heap.size/\¬S.T.M q)(ht:Src 1 w tt (aD to))(e:∀q,aE tt q->q<w.heap.size/\¬S.T.M q)(f:to.length<=1000000):
 aK ai 42 #[.pointer (some S.st),a,tt,m] w (λv w'=>∃ (t:ad) (aA:b9),v=.tuple #[t,(0:Int)]/\dp w0 w' bo d n l ab most aA pages aL T bE (c+1)/\da 20000 S aA w w'/\kh S aA/\fw (λq=>¬aA.T.M q) w' t ((gW (T.map aB.kv) fr to).take m.toNat)):=by
 have k:=h.eL.1;have o:=h.ki;have g:=(h.s.at_.ok.low (by rw[dk];omega)).2;rw[dk]at g;have p:=h.s.aV;refine(KF h.s.at_ (by rw[dk];omega) I I hf b ht e f).mono ?_;rintro v w' ⟨au,hs,hd,he,_,⟨t,rfl,i⟩|⟨_,j⟩⟩
 .exact⟨t,_,rfl,h.read hs hd I he.gen he.pending rfl,hd.mono I,he,i⟩
 .exact absurd (h.q.1 _) j
theorem EJ(h:dp w0 w bo d n l ab most S pages aL T bE c)(hc:c<=20000)(s:Int):aK ai 89 #[.pointer (some ab),s] w (λv w'=>(fM s=false/\v=.tuple #[(),(1:Int)]/\Ext w w')\/(fM s=true/\∃ (t:ad) (aA:b9),v=.tuple #[t,(0:Int)]/\dp w0 w' bo d n l ab most aA pages aL T bE (c+1)/\da 20000 S aA w w'/\kh S aA/\fw (λq=>¬aA.T.M q) w' t ((T.filter (gm s)).map aB.kv))):=by
 refine okF (ae.vz (some ab) s) ay.vz func89 ?_;delta ae.vz BL an ed;refine(qF s w).use ?_;rintro _ w1 ⟨f,t,rfl,e,⟨hs,rfl,rfl⟩|⟨hs,hf,ht,o,p⟩⟩
 .exact⟨_,_,rfl,λ_=>.inl ⟨hs,rfl,e⟩,λg=>(by cases g)⟩
 refine⟨f,t,rfl,λg=>?_,λ_=>⟨_,rfl,_,(h.ext e).v.cell,((h.ext e).scan hc (m:=1048576) hf.src (λq b=>⟨hf.lt q b,h.new q (o q b)⟩) ht.src (λq b=>⟨ht.lt q b,h.new q (p q b)⟩) ?_).use ?_⟩⟩
 .exfalso
  have h1:=hf.1;rw[dm,dH]at h1
  cases i:f.a with
  |none=>have:=congrArg List.length (hf.src.nil i);rw[dm,dH]at this;cases this
  |some a=>rw[i]at g;cases g
 .unfold mZ
  split
  .rw[dH];decide
  .decide
 rintro _ z ⟨t7,r,rfl,u,d7,x,k⟩;obtain⟨j,rfl,y⟩:=nW hs;rw[di,KP y h.keys,dr]at k
 .exact⟨t7,0,rfl,.inr ⟨hs,t7,r,rfl,u,(da.ext S e).trans d7|>.mono I,x,k⟩⟩
 .have h1:(T.filter (gm (j:Int))).length<=T.length:=iP _ _
  have:=h.eL.1;have:=h.ki;rw[dk];show _<=1048576;omega
theorem EK{K:al->J->J->Prop}(x:fw B w tl (Q.map aB.kv))(hi:i<Q.length)(y:∀t∈Q,t.ok)(z:∀ (b d:J) (tk c2:ad),Ext w b->Ext w d->w.heap.size<b.heap.size->Var d w.heap.size [tk,c2] 167->Var d b.heap.size (Q[i]).c 29->bA B w tk (eE (Q[i]).s.toNat (Q[i]).p)->K true b d):
 ∃dG:ag,tl.a=some dG/\((0:Int)<=(i:Int)/\(i:Int)<(tl.len:Int))/\
  ∃cO:ad,w.cell? (dG.add (Int.toNat (i:Int)*2))=some (.slice cO.a cO.len cO.cap)/\
  ∃e:ad,w.cell? ((dG.add (Int.toNat (i:Int)*2)).add 1)=some (.slice e.a e.len e.cap)/\
  ak (w.alloc (.cells #[(),()] 167)) λn=>
  bk n w.heap.size [cO,e]/\
  (2:Nat)=2/\ak (setCells n w.heap.size 0 [cO,e]) λf=>
  ∃h:ad,f.cell? w.heap.size=some (.slice h.a h.len h.cap)/\
  ∃j:ad,f.cell? (Addr.add w.heap.size 1)=some (.slice j.a j.len j.cap)/\
  Calls ai 88 #[h,j] f λC b=>
  ∃k:Array Y,∃q:al,C=.returned (.tuple #[.agg k,q])/\
  ak (b.alloc (.cells aB.zero.c.toArray 29)) λr=>bk r b.heap.size (Array.toList k)/\Array.size k=21/\
  ak (setCells r b.heap.size 0 (Array.toList k)) λd=>K q b d:=by
 obtain⟨A,tk,c2,aq,D,h1,h2,cc,cn⟩:=D_ x (i:=i) (by rw[dk];exact hi);rw[List.getElem_map]at cc cn;refine⟨A,aq,D,tk,h1,c2,h2,bc (vs:=[(),()]) rfl λn g E H=>⟨g.b3 rfl (λv g=>?_),rfl,cp g (us:=[tk,c2]) rfl rfl λf o F L=>?_⟩⟩
 .simp only[de,fG,fQ]at g
  rcases g with rfl|rfl<;>trivial
 have l:Ext w f:=Ext.cD E F (bt _);refine⟨tk,o.cell,c2,by rw[az];exact o.cell,(EG (y _ (cW hi)) (cc.1.ext l) cc.2.1 (cn.1.ext l) cn.2.1).use ?_⟩;rintro _ b ⟨rfl,m⟩;have M:=m.size;exact⟨_,true,rfl,rF Q[i] λd G u=>z b d tk c2 (l.trans m) ((l.trans m).trans u) I ((o.ext m).ext u) G cc⟩
theorem KX(h:dp w0 w bo d n l ab most S pages aL T bE c)(hc:c<=20000)(s:Int):aK ai 31 #[.pointer (some ab),s] w (λv w'=>∃ (k:Nat) (aA:b9),dp w0 w' bo d n l ab most aA pages aL T bE (c+1)/\da k S aA w w'/\aA.now=S.now/\aA.u=S.u/\((fM s=false/\v=.tuple #[(),(1:Int)])\/(fM s=true/\∃t:ad,v=.tuple #[t,(0:Int)]/\aT 21 29 w' t (bg aB.c (T.filter (gm s)))/\∀q,aE t q->w.heap.size<=q))):=by
 refine okF (ae.vi (some ab) s) ay.vi func31 ?_;(delta ae.vi ed an aM r1 z4 aa hM fc ar;dsimp only);refine(EJ h hc s).use ?_;rintro _ w1 (⟨hs,rfl,z⟩|⟨hs,F,cy,rfl,h1,d1,A,j⟩)
 .exact⟨⟨none,0,0⟩,1,rfl,λ_=>⟨0,S,(h.ext z).mono I,.ext S z,rfl,rfl,.inl ⟨hs,rfl⟩⟩,λg=>(by cases g)⟩
 obtain⟨Q,p⟩:∃Q,Q=T.filter (gm s):=⟨_,rfl⟩;rw[←p]at j⊢;have G:∀t∈Q,t.ok:=λt ht=>h.ok t (by rw[p]at ht;exact(fU.1 ht).1);have P:Q.length<=400:=by
  have h2:Q.length<=T.length:=by rw[p];exact iP _ _
  have:=h.eL.1;have:=h.ki;omega
 have R:=d1.ah.size;have H:=j.len;rw[dk]at H;refine⟨F,0,rfl,λg=>(by cases g),λ_=>⟨λt m w'=>∃i:Nat,m=(i:Int)/\i<=Q.length/\eF 21 29 w1 w' t (bg aB.c (Q.take i)),λ_ m _=>((Q.length:Int)-m).toNat,⟨0,rfl,cR _,aT.none _ _ _,.refl _ _,λq r=>(gy q r).elim⟩,?_⟩⟩;rintro t _ U ⟨i,rfl,hi,a⟩;refine⟨λaJ=>?_,λB=>?_⟩
 .have aJ:=cl aJ
  have C:i<Q.length:=by omega
  refine EK (j.ext a.x) C G λV b tk c2 W D X _ J _=>⟨λg=>(by cases g),λ_=>⟨_,J.rd (aB.bd _),⟨some b.heap.size,1,1⟩,_,rB b Q[i],?_⟩⟩;have y:eF 21 29 w1 b t (bg aB.c (Q.take i)):=⟨a.o.ext D,a.x.trans D,a.f⟩;have E:Ext b (b.alloc (.cells Q[i].c.toArray 29)):=c8 _ _;have K:eF 21 29 w1 (b.alloc (.cells Q[i].c.toArray 29)) t (bg aB.c (Q.take i)):=⟨y.o.ext E,y.x.trans E,y.f⟩;have Y:t.len<=1000000:=by
   have L:=a.o.1;rw[e4 _ (iu _),cz]at L;omega
  obtain⟨M,N,aw,ax,O,_⟩:=eF.app (cC:=68) m_ K (Src.new (T:=29) b Q[i].c 1 (Q[i].bd)) (aB.plain _) (by show(2*(t.len+1)+1000)*56<=_;omega);rw[lQ I];refine⟨M,N,aw,⟨i+1,rfl,I,?_⟩,by show((Q.length:Int)-((i+1:Nat):Int)).toNat<((Q.length:Int)-(i:Nat)).toNat;omega⟩;rw[iy C,jO];have e:bg aB.c [Q[i]]=Q[i].c:=by simp[bg]
  rw[e];exact O
 .have B:=cw B
  have e:i=Q.length:=by omega
  subst e;rw[h4]at a;exact⟨_,cy,h1.ext a.x,d1.trans (.ext cy a.x),A.now,A.u,.inr ⟨hs,t,rfl,a.o,λq r=>by have:=a.f q r;omega⟩⟩
end
section
variable {w0 w w' w1:J}{bo B:Nat->Prop}{d n ab most k c q i:Nat}{l:fj}{S aA cy:b9}{pages eH aL g8:O Nat}{T au bE dd mm Q:O aB}{s:Int}{p:bl}{x:aB}{ch:aB->al}{tl:ad}
theorem KY(hc:ch x=false):gE T (Q++ [x]) ch=gE T Q ch:=by
 unfold gE;refine oD λt _=>?_
 congr 1
 by_cases e:t=x
 .subst e;rw[hc,Bool.and_false,Bool.and_false]
 .congr 1
  rw[eQ,b_,b_];simp[e]
theorem KZ(h:ix T)(a:∀t∈T,db t.s t.p=true)(b:x∈T)(hx:x∉Q)(hc:ch x=true):gE T (Q++ [x]) ch=(gE T Q ch).filter λt=> !cP x.s x.p t:=by
 rw[KT h b hx a];unfold gE;refine oD λt _=>?_;by_cases e:t=x
 .subst e;simp[hc]
 .rw[g_ e,Bool.not_false,pY]
  congr 2
  rw[eQ,b_,b_];simp[e]
def K0(S:b9)(w:J)(f:iQ)(ch:aB->al):Prop:=h7 ai f.f/\∀ (t:aB) (w':J),af S.W w w'->aK ai f.f (f.pre++ #[.agg t.c.toArray]++f.cap) w' (λv a=>v=.bool (ch t)/\Ext w' a)
theorem EL(h:dp w0 w bo d n l ab most S pages aL T bE c)(hc:c<=10000)(G:fw (λq=>¬S.T.M q) w tl (Q.map aB.kv))(y:∀t∈Q,t∈T)(H:Q.Nodup){f:iQ}(hf:K0 S w f ch):
 aK ai 90 #[.pointer (some ab),tl,.func (.func f.f) f.pre f.cap] w (λv w'=>v=.tuple #[.int .i64 ((Q.filter ch).length:Nat),(0:Int)]/\ga w0 bo d n l ab most S bE (gE T Q ch) w (c+(Q.filter ch).length) w'):=by
 refine okF (ae.vA (some ab) tl f) ay.vA func90 ?_;(delta ae.vA an aM r1 z4 aa hM fc kr ar;dsimp only);have V:=G.len;rw[dk]at V;have az:Q.length<=400:=by
  have:=(H.length_le_of_subset y);have:=h.eL.1;have:=h.ki;omega
 refine⟨λg m w'=>∃ (i k:Nat) (b:b9) (r s:O Nat) (kx:O aB),m=(i:Int)/\i<=Q.length/\g=(((Q.take i).filter ch).length:Nat)/\dp w0 w' bo d n l ab most b r s (gE T (Q.take i) ch) kx (c+((Q.take i).filter ch).length)/\da k S b w w'/\b.now=S.now/\kL S bE b kx,
  λ_ m _=>((Q.length:Int)-m).toNat,⟨0,0,S,pages,aL,bE,rfl,cR _,rfl,?_,.ext S (.refl _ _),rfl,.inl ⟨rfl,rfl⟩⟩,?_⟩
 .have e:gE T (Q.take 0) ch=T:=jA.2 λt _=>by simp
  rw[e];exact h
 rintro _ _ X ⟨i,k,b,r,s,kx,rfl,hi,rfl,u,d5,n5,z⟩;have Y:fw (λq=>¬b.T.M q) X tl (Q.map aB.kv):=G.pT d5;refine⟨λaJ=>?_,λJ=>?_⟩
 rotate_left
 .have J:=cw J
  have e:i=Q.length:=by omega
  subst e;rw[h4]at u⊢;exact⟨rfl,k,b,r,s,kx,u,d5,n5,z⟩
 have aJ:=cl aJ;have A:i<Q.length:=by omega
 have hx:=y _ (cW A);have Z:=h.ok _ hx;have o:Q.take (i+1)=Q.take i++ [Q[i]]:=iy A;have ac:Q[i]∉Q.take i:=λad=>by
  have h1:(Q.take (i+1)).Nodup:=H.sublist (tT _ _);rw[o]at h1;exact(tO.1 h1).2.2 _ ad _ (fz.2 rfl) rfl
 have p:(Q.take (i+1)).filter ch=(Q.take i).filter ch++if ch Q[i] then [Q[i]] else []:=by rw[o,gG,hJ,oC]
 refine cq (λg w'=>∃ (k:Nat) (j:b9) (B C:O Nat) (nG:O aB),g=(((Q.take (i+1)).filter ch).length:Nat)/\dp w0 w' bo d n l ab most j B C (gE T (Q.take (i+1)) ch) nG (c+((Q.take (i+1)).filter ch).length)/\da k S j w w'/\j.now=S.now/\kL S bE j nG) (λaA D=>?_) ?_
 rotate_left
 .rintro _ aC ⟨ag,j,B,C,nG,rfl,aj,d6,n6,ak⟩
  rw[lQ I];exact⟨⟨i+1,ag,j,B,C,nG,rfl,I,rfl,aj,d6,n6,ak⟩,by show((Q.length:Int)-((i+1:Nat):Int)).toNat<((Q.length:Int)-(i:Nat)).toNat;omega⟩
 refine EK Y A (λt ht=>h.ok t (y t ht)) λaD al tk c2 aE K aF am ao E=>⟨λa=>(by cases a),λ_=>⟨_,ao.rd (aB.bd _),hf.1,((hf.2 Q[i] al (c3 d5.ah (af.cN (W:=λ_=>False) K) λ_ _ h=>h.elim)).use ?_)⟩⟩;rintro _ ap ⟨rfl,L⟩;have F:=K.trans L;refine⟨_,rfl,λa=>?_,λa=>?_⟩
 .have a:ch Q[i]=false:=by rwa[jh]at a
  rw[a]at p;rw[o,KY a,←o,p,if_neg (by decide),fl]at D;exact D _ _ ⟨_,b,r,s,kx,rfl,u.ext F,d5.trans (.ext b F),n5,z⟩
 .have a:ch Q[i]=true:=by rwa[mz]at a
  rw[a,if_pos rfl]at p;have N:=cE ap;have x:=F.trans N;have P:=u.ext x;have aq:=iP ch (Q.take i);rw[cz]at aq;refine aX ⟨λ_=>False,_,rfl,id,_,P.v.cell,id,tk,((am.ext L).ext N).cell,((P.del Z.k I (E.1.ext x) λq R=>⟨?_,(E.2.2 q R).1⟩).use ?_)⟩
  .have:=(E.2.2 q R).2
   have:=x.size;omega
  rintro _ aG ⟨rfl,aH,au,av,aw,gi,U,d7,n7,ax⟩;refine⟨_,0,rfl,λa=>(by cases a),λ_=>?_⟩;rw[←KZ h.ld h.keys hx ac a,←o]at U;rw[lQ I,show((Q.take i).filter ch).length+1=((Q.take (i+1)).filter ch).length by rw[p,cG];rfl];refine D _ _ ⟨_,au,av,aw,gi,rfl,?_,(d5.trans (.ext b x)).trans d7,n7.trans n5,z.trans ax⟩;rw[p,cG];exact U
end
def lf(b:Int)(t:aB):al:=decide (b<0)||decide (t.b=b)
def fO(now:Nat)(t:aB):al:=decide (t.u<=now)
section
variable {w0 w w' w1:J}{bo B:Nat->Prop}{d n ab most k c q i bU m:Nat}{l:fj}{S aA cy:b9}{pages eH aL g8:O Nat}{T au bE dd mm Q:O aB}{s b:Int}{p:bl}{x t:aB}{ch:aB->al}{tl:ad}{fr:Key}{L:O aR}
theorem K1:gE T (T.filter (gm s)) (lf b)=T.filter (gD s b):=by
 unfold gE;refine oD λt ht=>?_;have e:decide (t∈T.filter (gm s))=decide (t.s=s):=by
  rw[eQ,b_,b_,fU];unfold gm;rw[b_];exact⟨λh=>h.2,λh=>⟨ht,h⟩⟩
 rw[e];unfold lf gD;by_cases h1:t.s=s<;>by_cases h2:b<0<;>by_cases a:t.b=b<;>simp[h1,h2,a]<;>omega
theorem EM:∀T:O aB,((T.filter (gm s)).filter (lf b)).length=T.length-(T.filter (gD s b)).length:=λT=>by
 have h:((T.filter (gm s)).filter (lf b)).length+(T.filter (gD s b)).length=T.length:=by
  rw[List.filter_filter]
  induction T with
  |nil=>rfl
  |cons t T c=>
   have e:gD s b t= !(lf b t&&gm s t):=by
    unfold gD gm lf;by_cases h1:t.s=s<;>by_cases h2:b<0<;>by_cases a:t.b=b<;>simp[h1,h2,a]<;>omega
   rw[hJ,hJ,e]
   cases lf b t&&gm s t<;>simp<;>omega
 omega
theorem EN(h:ix T)(d:fk T fr≠ []):(fk T fr).getLast? =T.getLast? :=by
 obtain⟨x,hx⟩:=p2 _ d;obtain⟨b,a⟩:=fU.1 hx;have c:T≠ []:=List.ne_nil_of_mem b;obtain⟨au,z,e⟩:∃au z,T=au++ [z]:=⟨T.dropLast,T.getLast c,(List.dropLast_concat_getLast c).symm⟩;subst e;have f:decide (dQ fr z.kv.1)=true:=by
  rcases c1.1 b with h1|h1
  .have h2:=(my.1 h).2.2 x h1 z (fz.2 rfl)
   exact dD (yS (cl a) (iH h2))
  .rw[fz.1 h1]at a;exact a
 unfold fk;rw[gG,hJ,f];simp
theorem K2(h:ix T)(b:(fk T fr).length<=m):iL T (dv T fr m)=[]:=by
 unfold iL dv;rw[dr b];by_cases a:fk T fr=[]
 .rw[a];rfl
 .rw[EN h a]
  cases T.getLast? with
  |none=>rfl
  |some t=>simp
theorem K3(h:ix T)(h1:1<=m)(b:m<(fk T fr).length)(a:m-1<(dv T fr m).length):iL T (dv T fr m)=((dv T fr m)[m-1]'a).kv.1++ [0]:=by
 have c:(dv T fr m)[m-1]'a=(fk T fr)[m-1]'I:=ou ..;have hlen:(dv T fr m).length=m:=by unfold dv;rw[cz];omega
 have d:(dv T fr m).getLast? =some ((fk T fr)[m-1]'I):=by
  rw[xG,hlen,←c,dU a]
 have f:fk T fr≠ []:=λe=>by rw[e]at b;cases b
 have g:ix (fk T fr):=List.Pairwise.filter _ h;unfold iL;rw[d,c,←EN h f];show(if _ then _ else _)=_;rw[if_neg];intro e;rw[xG,dU I]at e;have h2:=ln.1 g (m-1) ((fk T fr).length-1) I I I;rw[Option.some.inj e]at h2;exact kB _ h2
theorem K4(T:O aB)(fr:Key):gW (T.map aB.kv) fr []=(fk T fr).map aB.kv:=by
 unfold gW fk;rw[List.filter_map];refine congrArg _ (oD λt _=>?_);show(decide (dQ fr t.kv.1)&&(true||_))=_;rw[Bool.true_or,pY]
theorem fw.head(h:fw B w tl L)(g:m<=L.length):fw B w ⟨aO tl.a 2 0 tl.cap,m-0,tl.cap-0⟩ (L.take m):=by
 have i:=h.len;obtain⟨ps,h1,h2,d,b⟩:=h;have c:=Src.JX h1 h2 (cR m) (by have:=b.1;omega);have e:(ps.drop 0).take (m-0)=ps.take m:=by rw[iN,nk]
 rw[e]at c;exact⟨ps.take m,c,by show m-0<=tl.cap-0;omega,λq f=>d q (Iq.1 f),b.take m⟩
theorem K5(e:Var w bU [b] 3)(t:aB):aK ai 91 #[.agg t.c.toArray,.pointer (some bU)] w (λv w'=>v=.bool (lf b t)/\Ext w w'):=by
 refine ae.F7 _ bU w _ ?_;(delta ae.sH aF an aa;dsimp only);refine bc (vs:=t.c) rfl λw1 g a _=>⟨b,(e.ext a).cell,cq (λv w'=>v=lf b t/\w1=w') (λk f=>⟨λd=>f _ _ ⟨by unfold lf;rw[d];rfl,rfl⟩,λd=>⟨_,tb g,b,(e.ext a).cell,f _ _ ⟨?_,rfl⟩⟩⟩) ?_⟩
 .unfold lf;rw[d,lk,eQ,jY,b_]
 .rintro _ _ ⟨rfl,rfl⟩;exact⟨rfl,a⟩
theorem K6{now:Nat}(b:Var w bU [.int .u64 (now:Nat)] 27)(t:aB):aK ai 93 #[.agg t.c.toArray,.pointer (some bU)] w (λv w'=>v=.bool (fO now t)/\Ext w w'):=by
 refine ae.F9 _ bU w _ ?_;(delta ae.sI b5 aa;dsimp only);refine bc (vs:=t.c) rfl λw1 d a _=>⟨_,zd d,_,(b.ext a).cell,?_,a⟩;unfold fO
 congr 1
 rw[eQ,b_,b_];omega
theorem K7:h7 ai 91:=⟨_,(oo (show(Tryz.prog.funcs[91]?).isSome=true by kernel_rfl)).symm,by kernel_rfl,by kernel_rfl⟩
theorem K8:h7 ai 93:=⟨_,(oo (show(Tryz.prog.funcs[93]?).isSome=true by kernel_rfl)).symm,by kernel_rfl,by kernel_rfl⟩
theorem K9(h:dp w0 w bo d n l ab most S pages aL T bE c)(hc:c<=9000)(s b:Int):aK ai 29 #[.pointer (some ab),s,b] w (λv w'=>(fM s=false/\v=.tuple #[(0:Int),(1:Int)]/\ga w0 bo d n l ab most S bE T w (c+1) w')\/
 (fM s=true/\v=.tuple #[.int .i64 ((T.length-(T.filter (gD s b)).length:Nat):Int),(0:Int)]/\ga w0 bo d n l ab most S bE (T.filter (gD s b)) w (c+1+(T.length-(T.filter (gD s b)).length)) w')):=by
 refine okF (ae.vg (some ab) s b) ay.vg func29 ?_;delta ae.vg ed an g4 aa;refine bc (vs:=[b]) rfl λw1 k a x=>(EJ (h.ext a) I s).use ?_;rintro _ aj (⟨hs,rfl,m⟩|⟨hs,o,c_,rfl,h2,d2,i,p⟩)
 .exact⟨⟨none,0,0⟩,1,rfl,λ_=>.inl ⟨hs,rfl,h.tF (a.trans m) 1⟩,λe=>(by cases e)⟩
 have q:¬c_.W w.heap.size:=λg=>(d2.c7 _ g.1).elim (h.new _ (bt _)) λy=>by omega
 have r:=k.ah d2.ah λg=>h.new _ (bt _) g.1;refine⟨o,0,rfl,λe=>(by cases e),λ_=>(EL (f:=⟨91,#[],#[.pointer (some w.heap.size)]⟩) (ch:=lf b) h2 I p (λt ht=>(fU.1 ht).1) (h.ld.nodup.filter _) ⟨K7,λt w' hc=>K5 (r.ah hc q) t⟩).use ?_⟩;rintro _ z ⟨rfl,j⟩;rw[K1,EM]at j;rw[EM];exact⟨_,0,rfl,.inr ⟨hs,rfl,(ga.cat d2 i.now (.inl ⟨by rw[i.u],rfl⟩) j).pre a⟩⟩
def stM(m:Int):Nat:=(min m 64).toNat
theorem K_(h:dp w0 w bo d n l ab most S pages aL T bE c)(hc:c<=9000){x:ad}{fr:Key}{now:Nat}{m:Int}(D:m<=9223372036854775807)(hf:Src 1 w x (aD fr))(E:∀q,aE x q->q<w.heap.size/\¬S.T.M q):
 aK ai 30 #[.pointer (some ab),x,.int .u64 (now:Nat),m] w (λv w'=>∃t:ad,v=.tuple #[t,.int .i64 (((dv T fr (stM m)).filter (fO now)).length:Nat),(0:Int)]/\
  aT 1 5 w' t (aD (iL T (dv T fr (stM m))))/\(∀q,aE t q->w.heap.size<=q)/\∃ (k:Nat) (aA:b9) (eH g8:O Nat) (dd:O aB),dp w0 w' bo d n l ab most aA eH g8 (gE T (dv T fr (stM m)) (fO now)) dd (c+1+((dv T fr (stM m)).filter (fO now)).length)/\da k S aA w w'/\aA.now=S.now/\kL S bE aA dd/\∀q,aE t q->¬aA.T.M q):=by
 refine okF (ae.vh (some ab) x (now:Nat) m) ay.vh func30 ?_;(delta ae.vh an ed ar r1 z3 aa bK g4;dsimp only);refine bc (vs:=[.int .u64 (now:Nat)]) rfl λw1 ac p aO=>⟨λb=>(by cases b),λ_=>⟨min m 64,w1,KG _ _ _ _ _,λaJ=>?_,λF=>?_⟩⟩
 .have aJ:=cl aJ
  have e:stM m=0:=by unfold stM;omega
  have af:dv T fr (stM m)=[]:=by unfold dv;rw[e,List.take_zero]
  have ag:gE T [] (fO now)=T:=jA.2 λt _=>by simp
  rw[af,ag];exact⟨⟨none,0,0⟩,rfl,aT.none _ _ _,λq a=>(gy q a).elim,0,S,pages,aL,bE,(h.ext p).mono I,.ext S p,rfl,.inl ⟨rfl,rfl⟩,λq a=>(gy q a).elim⟩
 have F:=cw F;obtain⟨M,G⟩:∃M,M=stM m:=⟨_,rfl⟩;have aj:min m 64=(M:Int):=by rw[G];unfold stM;omega
 rw[←G,aj];have ak:1<=M/\M<=64:=by omega
 rw[lQ I];have h1:=h.ext p;refine⟨_,rfl,_,h1.v.cell,(h1.scan I (tt:=bG) (to:=[]) (hf.ext p) (λq a=>⟨by have:=(E q a).1;omega,(E q a).2⟩) (J0 w1) (λq a=>(gy q a).elim) (by decide)).use ?_⟩;rintro _ H ⟨t6,y,rfl,J,d6,K,j⟩;rw[K4,di]at j;obtain⟨Q,g⟩:∃Q,Q=dv T fr M:=⟨_,rfl⟩;have al:¬y.W w.heap.size:=λr=>(d6.c7 _ r.1).elim (h.new _ (bt _)) λaP=>by omega
 have am:=ac.ah d6.ah λr=>h.new _ (bt _) r.1;have aQ:=d6.ah.size;have hlen:=j.len;rw[cz,dk]at hlen;have L:Q.map aB.kv=((fk T fr).map aB.kv).take M:=by rw[g];exact mv
 refine⟨t6,0,rfl,λb=>(by cases b),λ_=>sf (λs N w'=>Ext H w'/\fw (λq=>¬y.T.M q) w' N (Q.map aB.kv)/\aT 1 5 w' s (aD (iL T Q))/\∀q,aE s q->H.heap.size<=q) (λaR P=>⟨λb=>?_,λb=>?_⟩) ?_⟩
 .have b:=cl b
  have B:M<(fk T fr).length:=by omega
  have C:=j.head (m:=M) (by rw[cz,dk];omega);rw[ov,iz I,←L]at C;have aS:Q.length=M:=by rw[g];unfold dv;rw[cz];omega
  have R:M-1<Q.length:=by omega
  obtain⟨A,tk,c2,aq,ao,aZ,_,cc,_⟩:=D_ C (i:=M-1) (by rw[dk];exact R);rw[List.getElem_map]at cc;have ap:IntKind.wrap .i64 ((M:Int)-1)=((M-1:Nat):Int):=by rw[bB I I];omega
  rw[ap,di];have aU:=j.choose_spec.2.1;refine⟨I,A,aq,ao,tk,aZ,bc (vs:=[.int .u8 0]) rfl λaV au U aW=>aX ((Cy (la:=Q[M-1].kv.1) (lb:=[0]) (cc.1.ext U) (au.qY (o:=0) (n:=1) (c:=1) (l:=[0]) (by decide) rfl) ?_).use ?_)⟩
  .have av:cI Q[M-1].kv.1:=rE
   unfold cI at av;show _+1<=1000;omega
  rintro _ aY ⟨aw,rfl,ax,az,aC⟩;have V:=U.trans az;refine⟨aw,rfl,P _ _ _ ⟨V,C.ext V,?_,λq a=>by have:=aC q a;omega⟩⟩;have e:iL T Q=Q[M-1].kv.1++ [0]:=by
   subst g;exact K3 h.ld ak.1 B R
  rw[e];exact ax
 .have b:=cw b
  have B:(fk T fr).length<=M:=by omega
  have e:iL T Q=[]:=by rw[g];exact K2 h.ld B
  refine P _ _ _ ⟨.refl _ _,?_,?_,λq a=>(gy q a).elim⟩
  .rw[L]
   rw[dr (by rw[dk];omega)]at j⊢;exact j
  .rw[e];exact aT.none _ _ _
 .rintro s N a0 ⟨z,aF,X,Y⟩
  have a1:=z.size;refine(EL (f:=⟨93,#[],#[.pointer (some w.heap.size)]⟩) (ch:=fO now) (J.ext z) I aF (λt ht=>?_) ?_ ⟨K8,λt w' hc=>K6 ((am.ext z).ah hc al) t⟩).use ?_
  .rw[g]at ht
   exact(fU.1 (eY ht)).1
  .rw[g]
   exact(h.ld.nodup.filter _).sublist (tT _ _)
  rintro _ a2 ⟨rfl,a3,aG,aH,aI,gi,aM,d7,n7,aN⟩;rw[←g];have Z:∀q,aE s q->¬y.T.M q:=λq a=>J.new q (Y q a);exact⟨_,0,rfl,λb=>(by cases b),λ_=>⟨s,rfl,X.ah d7.ah λq a r=>Z q a r.1,λq a=>by have:=Y q a;omega,_,aG,aH,aI,gi,aM,(((da.ext S p).trans d6).trans (.ext y z)).trans d7,n7.trans K.now,kL.trans (.inl ⟨by rw[K.u],rfl⟩) aN,λq a D=>(d7.c7 q D).elim (Z q a) λa4=>by have:=X.lt q a;omega⟩⟩
end
section
variable {B:Nat->Prop}{w w':J}{s:ad}{T:O aB}{t:aB}{aW i most:Nat}
theorem La(h:aT 21 29 w s (bg aB.c T))(hi:i<T.length)(t:aB):∃A:ag,s.a=some A/\((0:Int)<=(i:Int)/\(i:Int)<(s.len:Int))/\bk w (A.add (Int.toNat (i:Int)*21)) (Array.toList t.c.toArray)/\Array.size t.c.toArray=21/\
 aT 21 29 (setCells w (A.add (Int.toNat (i:Int)*21)) 0 (Array.toList t.c.toArray)) s (bg aB.c (T.set i t))/\af (aE s) w (setCells w (A.add (Int.toNat (i:Int)*21)) 0 (Array.toList t.c.toArray)):=by
 obtain⟨h1,h2,k,m⟩:=h;have r:s.len=T.length:=by rw[e4 _ (iu T)]at h1;omega
 rcases m with ⟨_,hc⟩|⟨b,c,d,f,n,ht⟩
 .omega
 have g:=t.bd;have j:i*21+t.c.length<=c.size:=by omega
 rw[di];refine⟨_,d,I,?_,by simp[g],?_,?_⟩
 .rw[az,cF]
  exact f.b3 _ _ j (aB.plain t)
 .rw[az,cF]
  refine⟨?_,h2,k,.inr ⟨b,_,d,bu.lB f t.c,by rw[iE];exact n,?_⟩⟩
  .rw[e4 _ (iu _),dJ];omega
  .rw[lA _ _ _ j,xF,if_pos hi,jO]
   show _=_++(t.c++bg aB.c (T.drop (i+1)));have o:=tz (c:=aB.c) (sz:=21) T i (iu T);have p:=tz (c:=aB.c) (sz:=21) T (i+1) (iu T);rw[←o.1,←p.2,←ht,ov,iz I,cM,tW,tW,cz,Array.length_toList,iz I,dr (l:=c.toList.take _) (by rw[cz];omega),dr (l:=t.c) I,List.drop_take];rw[g,show s.len*21-i*21-21=s.len*21-(i+1)*21 from I,show i*21+21=(i+1)*21 from I]
 .rw[az,cF]
  refine(af.j6 (b:=b) (.refl _ _) _ 0).mono λq _ e=>?_;rw[e];exact⟨_,d,rfl⟩
theorem Lb(h:f_ B w aW (most:Nat) s T)(a4:T.length<=1000000)(aA:∀q,w.heap.size<=q->B q)(V:ix T)(W:∀t∈T,db t.s t.p=true)(t:aB):
 aK ai 100 #[.pointer (some aW),.agg t.c.toArray] w (λv w'=>v=.int .i64 (jg T most t)/\af (λq=>q=aW) w w'/\∃g,f_ B w' aW (most:Nat) g (kM T most t)):=by
 have aC:=h.len;have hc:=h.c;have bn:=h.v.lt;refine ae.Gy (some aW) _ w _ ?_;(delta ae.sW aa b8 an aF bS r1 aM st bK ar nG uW;dsimp only);refine bc (vs:=t.c) rfl λw1 aD a5 bo=>⟨t.c,aD.rd (aB.bd t),(mR t w1).use ?_⟩;rintro _ y ⟨rfl,aE⟩;have D:=a5.trans aE;refine⟨_,rfl,λd=>?_,λd=>?_⟩
 .have hg:t.dZ=false:=by rwa[jh]at d
  have e:jg T most t=1:=by unfold jg;rw[hg];rfl
  unfold kM;rw[e];exact⟨rfl,af.cN D,s,h.ext D⟩
 have hg:t.dZ=true:=by rwa[mz]at d
 have X:db t.s t.p=true:=by have:=hg;unfold aB.dZ at this;rw[dh]at this;exact this.1
 have Z:=aD.ext aE;have he:jg T most t=if (T.find? (cP t.s t.p)).isSome then 0 else if most<=T.length then 2 else 0:=by unfold jg;rw[hg,if_pos rfl]
 refine⟨_,Z.cell,_,lM Z,(Ab (h.v.ext D) (h.hU.ext D) a4).use ?_⟩;rintro _ z ⟨rfl,aG⟩;have E:=D.trans aG;have L:=h.ext E;have aH:=Z.ext aG;have bp:=E.size;refine⟨_,rfl,λF=>?_,λaJ=>?_⟩
 .have F:=cl F
  obtain⟨i,hf⟩:∃i,T.findIdx? (cP t.s t.p)=some i:=by
   cases hf:T.findIdx? (cP t.s t.p) with
   |some i=>exact⟨i,rfl⟩
   |none=>unfold iv at F;rw[hf]at F;exact absurd F (by decide)
  have e:iv T t.s t.p=(i:Int):=by unfold iv;rw[hf]
  obtain⟨hi,a6⟩:=KR V hf;have hs:(T.find? (cP t.s t.p)).isSome=true:=by
   rw[List.find?_isSome];exact⟨T[i],cW hi,(rT.1 hf).2.1⟩
  rw[hs,if_pos rfl]at he;rw[e,he];have f0:=xr z;obtain⟨ab,ac,aw,ax,C,bq,br,_⟩:=eF.app (cC:=68) m_ f0 (L.hU.ext f0.x) (tD T) (by show(2*(0+s.len)+1000)*56<=_;omega);rw[hG]at C;have a7:=aH.ext C.x;obtain⟨A,aq,ah,cc,cn,a8,a9⟩:=La C.o hi t;have aj:Ext z (setCells ac (A.add (Int.toNat (i:Int)*21)) 0 (Array.toList t.c.toArray)):=Ext.df C.x a9 C.f;have a_:eF 21 29 z (setCells ac (A.add (Int.toNat (i:Int)*21)) 0 (Array.toList t.c.toArray)) ab (bg aB.c (T.set i t)):=⟨a8,aj,C.f⟩;obtain⟨bh,bj,al,am⟩:=L.put aj a_ λq l=>aA q I;refine⟨_,_,pR z,_,rfl,s,by rw[az];exact(L.v.ext f0.x).cell,ab,ac,aw,t.c,a7.rd (aB.bd t),A,aq,ah,cc,cn,aX ⟨_,rfl,bh,bj,aX ⟨rfl,?_,ab,?_⟩⟩⟩
  .exact c3 (af.cN (E.trans aj)) am λq _ e=>e
  .unfold kM
   rw[he,if_pos rfl,←a6];exact al
 have aJ:=cw aJ;have hf:T.findIdx? (cP t.s t.p)=none:=by
  cases hf:T.findIdx? (cP t.s t.p) with
  |none=>rfl
  |some i=>unfold iv at aJ;rw[hf]at aJ;dsimp only at aJ;omega
 have hs:(T.find? (cP t.s t.p)).isSome=false:=by
  rw[←fx,List.find?_isSome];rintro⟨x,hx,d⟩;have:=tZ.1 hf x hx;rw[d]at this;cases this
 rw[hs,if_neg (by decide)]at he;have M:=cE z;have ao:=L.ext M;refine aX ⟨_,rfl,id,s,by rw[az];exact ao.v.cell,_,rfl,id,_,ao.v.cell,λd=>?_,λd=>?_⟩
 .have d:=cl d
  rw[if_pos I]at he;unfold kM;rw[he];exact⟨rfl,af.cN (E.trans M),s,ao⟩
 have d:=cw d;rw[if_neg I]at he;have aI:∀x:aB,db x.s x.p=true->m8 x.s x.p=x.kv.1:=λx hx=>by unfold m8;rw[if_pos hx];rfl
 have aL:∀x:aB,x.kv.1.length<=1000000:=λx=>by have N:cI x.kv.1:=rE;unfold cI at N;omega
 have aN:∀ (b:J) (i:Nat) (g:ad) (y:J),Ext w b->T.take i++t::T.drop i=hX T t->eF 21 29 b y g (bg aB.c (T.take i)++t.c++bg aB.c (T.drop i))->
  ∃O:ag,some (aW:ag)=some O/\(∃u:Y,y.cell? (O.add 1)=some u)/\y.frozen? (O.add 1)=false/\ak (y.setCell (O.add 1) g) λaP=>(Value.int .i64 0=.int .i64 (jg T most t)/\af (λq=>q=aW) w aP/\∃g,f_ B aP aW (most:Nat) g (kM T most t)):=λb i g y hx l hf=>by
  have e:bg aB.c (T.take i)++t.c++bg aB.c (T.drop i)=bg aB.c (hX T t):=by rw[←l,jO,cM];rfl
  rw[e]at hf;have aQ:=hx.size;obtain⟨bh,bj,al,am⟩:=(h.ext hx).put hf.x hf λq l=>aA q I;refine⟨_,rfl,bh,bj,aX ⟨by rw[he],c3 (af.cN (hx.trans hf.x)) am λq _ e=>e,g,?_⟩⟩;unfold kM;rw[he,if_pos rfl];exact al
 have aR:∀ {b:J} (i:Nat),Ext w b->i<=T.length->Src 21 b ⟨aO s.a 21 0 s.cap,i-0,s.cap-0⟩ (bg aB.c (T.take i))/\Src 21 b ⟨aO s.a 21 i s.cap,s.len-i,s.cap-i⟩ (bg aB.c (T.drop i)):=λ{b} i hx hi=>by
  have a1:=Src.cut ((h.ext hx).hU) hc (cR i) I;have a2:=Src.cut ((h.ext hx).hU) hc (lo:=i) (hi:=s.len) I (bt _);rw[El T i hi]at a1;rw[aC,Em T i hi,←aC]at a2;exact⟨a1,a2⟩
 have P:∀i,(∀v∈bg aB.c (T.take i),Plain v)/\∀v∈bg aB.c (T.drop i),Plain v:=λi=>⟨tD _,tD _⟩;refine⟨λn w'=>∃i:Nat,n=(i:Int)/\i<=T.length/\Ext z.drew w'/\∀a∈T.take i,bD a.kv.1 t.kv.1,λn _=>((T.length:Int)-n).toNat,⟨0,rfl,cR _,.refl _ _,λa k=>by simp at k⟩,?_⟩;rintro _ aS ⟨i,rfl,hi,ba,ap⟩;have Q:=ba.trans (cE aS);have R:=(E.trans M).trans Q;have S:=h.ext R;have U:=(aH.ext M).ext Q;refine aX ?_;generalize aS.drew=au at Q R S U;refine⟨λ_=>False,_,rfl,id,s,by rw[az];exact S.v.cell,λG=>?_,λG=>⟨λd=>(by cases d),λ_=>?_⟩⟩
 .have G:=cl G
  have av:i<T.length:=by omega
  obtain⟨A,aq,ah,_,_,bb⟩:=m9 S.hU av;refine⟨_,rfl,id,s,by rw[az];exact S.v.cell,A,aq,ah,id,_,bb,id,t.c,U.rd (aB.bd t),(mS T[i] au).use ?_⟩;rintro _ be ⟨bi,rfl,aT,aU,_⟩;refine⟨bi,rfl,af.cN aU,(mS t be).use ?_⟩;rintro _ bs ⟨bk,rfl,aV,aY,_⟩;rw[aI _ (W _ (cW av))]at aT;rw[aI _ X]at aV;refine⟨bk,rfl,(pg (aT.src.ext aY) aV.src (aL _) (aL _)).use ?_⟩;rintro _ a0 ⟨n,rfl,a3,bl⟩;have ay:=(aU.trans aY).trans bl;refine⟨n,rfl,λm=>?_,λm=>?_⟩
  .have m:=a3.1 (cl m)
   rw[lQ I];refine⟨⟨i+1,rfl,I,Q.trans ay,λa k=>?_⟩,by show((T.length:Int)-((i+1:Nat):Int)).toNat<((T.length:Int)-(i:Nat)).toNat;omega⟩;rw[iy av]at k;rcases c1.1 k with k|k
   .exact ap a k
   .rw[fz.1 k];exact m
  .have m:¬bD T[i].kv.1 t.kv.1:=λN=>cw m (a3.2 N)
   have l:=EF V W X hf hi ap λ_=>m;have H:=cE a0;have j:=(R.trans ay).trans H;have r:=(U.ext ay).ext H;refine aX ?_;generalize a0.drew=b at j r;have K:=h.ext j;have aQ:=j.size;have bm:=r.lt;obtain⟨aZ,bf⟩:=aR i j hi;refine⟨λq=>b.heap.size<=q,_,rfl,by rw[az];show¬b.heap.size<=aW;omega,s,by rw[az];exact K.v.cell,I,by show¬b.heap.size<=w.heap.size;omega,t.c,r.rd (aB.bd t),_,rfl,by rw[az];show¬b.heap.size<=aW;omega,s,by rw[az];exact K.v.cell,I,?_⟩;rw[di];exact C7 (x:=t.c) m_ pR (λw=>rB w t) (aB.bd t) aZ bf (aB.plain t) (P i).1 (P i).2 (by show(2*((i-0)+(s.len-i)+1)+1000)*56<=_;omega) (λg w' hf=>aN b i g w' j l hf)
 .have G:=cw G
  have bu:i=T.length:=by omega
  have l:=EF V W X hf hi ap λN=>by omega
  have H:=cE au;have j:=R.trans H;have r:=U.ext H;refine aX ?_;generalize au.drew=b at j r;have K:=h.ext j;have aQ:=j.size;have bm:=r.lt;obtain⟨aZ,bf⟩:=aR i j hi;refine⟨λq=>b.heap.size<=q,_,rfl,by rw[az];show¬b.heap.size<=aW;omega,s,by rw[az];exact K.v.cell,I,by show¬b.heap.size<=w.heap.size;omega,t.c,r.rd (aB.bd t),_,rfl,by rw[az];show¬b.heap.size<=aW;omega,s,by rw[az];exact K.v.cell,I,?_⟩;rw[di];exact C7 (x:=t.c) m_ pR (λw=>rB w t) (aB.bd t) aZ bf (aB.plain t) (P i).1 (P i).2 (by show(2*((i-0)+(s.len-i)+1)+1000)*56<=_;omega) (λg w' hf=>aN b i g w' j l hf)
end
section
variable {B:Nat->Prop}{w w':J}{s:ad}{T:O aB}{t:aB}{aW i:Nat}{most:Int}{fr:Key}
theorem aT.block{sz q:Nat}{a:TypeId}{vs:O Y}(h:aT sz a w s vs)(d:aE s q):∃c,bu w q c a:=by
 obtain⟨A,aq,rfl⟩:=d;rcases h.2.2.2 with ⟨e,_⟩|⟨b,c,f,g,_⟩
 .rw[e]at aq;cases aq
 .rw[f]at aq;cases aq
  exact⟨c,g⟩
theorem EO(h:ix T)(hi:i<T.length):T.getLast? =some T[i]↔i+1=T.length:=by
 rw[xG,dU I];constructor
 .intro e
  have e:=Option.some.inj e;rcases eu i (T.length-1) with h1|h1
  .have h2:=ln.1 h i (T.length-1) hi I h1
   rw[e]at h2;exact absurd h2 (kB _)
  .omega
 .intro e
  congr 2
  omega
theorem Lc(h:f_ B w aW most s T)(bq:T.length<=1000000)(aZ:∀q,w.heap.size<=q->B q)(O:ix T)(E:∀t∈T,db t.s t.p=true){P:ad}(hf:Src 1 w P (aD fr))(a0:fr.length<=1000000){now:Nat}{m:Int}:
 aK ai 99 #[.pointer (some aW),P,.int .u64 (now:Nat),m] w (λv w'=>∃t:ad,v=.tuple #[t,.int .i64 (((dv T fr (stM m)).filter (fO now)).length:Nat)]/\aT 1 5 w' t (aD (iL T (dv T fr (stM m))))/\(∀q,aE t q->w.heap.size<=q)/\
  af (λq=>q=aW) w w'/\∃a1,f_ B w' aW most a1 (gE T (dv T fr (stM m)) (fO now))):=by
 have br:=h.len;have bs:=h.v.lt;have a2:∀x:aB,db x.s x.p=true->m8 x.s x.p=x.kv.1:=λx hx=>by unfold m8;rw[if_pos hx];rfl
 have ak:∀x:aB,x.kv.1.length<=1000000:=λx=>by have z:cI x.kv.1:=rE;unfold cI at z;omega
 obtain⟨M,F⟩:∃M,M=stM m:=⟨_,rfl⟩;rw[←F];obtain⟨Q,al⟩:∃Q,Q=dv T fr M:=⟨_,rfl⟩;have a3:∀i,(dv (T.take i) fr M).length<=M/\M<=64:=λi=>⟨by unfold dv;rw[cz];omega,by rw[F];unfold stM;omega⟩;refine okF (ae.wy (some aW) P (now:Nat) m) ay.wy func99 ?_;(delta ae.wy an aa r1 jH bK bS z3 ar aM b5 st;dsimp only);have f0:=xr w;refine⟨⟨some w.heap.size,0,0⟩,_,pR w,aX (cq (λn5 w'=>(∀k:Nat,decide ((k:Int)<n5)=decide (k<M))/\(w.alloc (.cells #[] 29)).alloc (.cells #[] 5)=w') (λk E=>⟨λa=>E _ _ ⟨λk=>?_,rfl⟩,λa=>E _ _ ⟨λk=>?_,rfl⟩⟩) ?_)⟩
 .have:=cl a
  rw[eQ,b_,b_,F];unfold stM;omega
 .have:=cw a
  rw[eQ,b_,b_,F];unfold stM;omega
 rintro n5 _ ⟨a4,rfl⟩;have am:Ext (w.alloc (.cells #[] 29)) ((w.alloc (.cells #[] 29)).alloc (.cells #[] 5)):=c8 _ _;have bt:w.heap.size<=(w.alloc (.cells #[] 29)).heap.size:=f0.x.size;refine⟨λj r n11 n12 n13 w'=>∃i:Nat,n13=(i:Int)/\i<=T.length/\n11=((dv (T.take i) fr M).length:Nat)/\n12=(((dv (T.take i) fr M).filter (fO now)).length:Nat)/\eF 21 29 w w' j (bg aB.c (gE (T.take i) Q (fO now)))/\aT 1 5 w' r (aD (iL T (dv (T.take i) fr M)))/\∀q,aE r q->w.heap.size<=q,
  λ_ _ _ _ n _=>((T.length:Int)-n).toNat,⟨0,rfl,cR _,by simp[dv,fk],by simp[dv,fk],⟨f0.o.ext am,f0.x.trans am,f0.f⟩,?_,λq l=>by have:=Ag l;omega⟩,?_⟩
 .have e:iL T (dv (T.take 0) fr M)=[]:=by simp[dv,fk,iL]
  rw[e];exact aT.new _ [] 0 rfl (by decide)
 rintro j r _ _ _ G ⟨i,rfl,hi,rfl,rfl,g,R,S⟩;have C:=h.ext g.x;refine⟨_,rfl,s,by rw[az];exact C.v.cell,λaJ=>?_,λao=>?_⟩
 rotate_left
 .have ao:=cw ao
  have e:i=T.length:=by omega
  subst e;rw[h4]at g R⊢;rw[al]at g;obtain⟨bh,bj,a5,ap⟩:=h.put g.x g aZ;exact⟨_,rfl,bh,bj,aX ⟨r,rfl,R.ah ap λq l e=>by have:=S q l;omega,S,c3 (af.cN g.x) ap λq _ e=>e,j,a5⟩⟩
 have u:i<T.length:=by have:=cl aJ;omega
 obtain⟨A,aq,a6,_,_,a7⟩:=m9 C.hU u;have a8:=E _ (cW u);obtain⟨D,U⟩:=KS (m:=M) (fr:=fr) O u;rw[←al]at U;have a9:T.take (i+1)=T.take i++ [T[i]]:=iy u;refine Fw (λj r n11 n12 w'=>n11=((dv (T.take (i+1)) fr M).length:Nat)/\n12=(((dv (T.take (i+1)) fr M).filter (fO now)).length:Nat)/\eF 21 29 w w' j (bg aB.c (gE (T.take (i+1)) Q (fO now)))/\aT 1 5 w' r (aD (iL T (dv (T.take (i+1)) fr M)))/\∀q,aE r q->w.heap.size<=q) (λbu au=>?_) ?_
 rotate_left
 .rintro j r _ _ w' ⟨rfl,rfl,h1,h2,V⟩
  rw[lQ I];exact⟨⟨i+1,rfl,I,rfl,rfl,h1,h2,V⟩,by show((T.length:Int)-((i+1:Nat):Int)).toNat<((T.length:Int)-(i:Nat)).toNat;omega⟩
 refine⟨_,rfl,s,by rw[az];exact C.v.cell,A,aq,a6,_,a7,(mS T[i] G).use ?_⟩;rintro _ bv ⟨a_,rfl,W,av,aA⟩;rw[a2 _ a8]at W;refine⟨a_,rfl,(pg W.src (hf.ext (g.x.trans av)) (ak _) a0).use ?_⟩;rintro _ bw ⟨n27,rfl,ba,aC⟩;have H:=av.trans aC;have bb:((decide (n27>=0))&&(decide ((((dv (T.take i) fr M).length:Nat):Int)<n5)))=decide (T[i]∈Q):=by
  rw[U,a4]
  congr 1
  rw[eQ,b_,b_];unfold dQ;rw[show(eA T[i].kv.1 fr<0)=bD T[i].kv.1 fr from rfl,←ba];omega
 refine⟨n27,rfl,?_⟩;rw[bb];rw[←U]at D;obtain⟨d,aF⟩:∃d,d=decide (T[i]∈Q):=⟨_,rfl⟩;rw[←aF]at D⊢;have bx:=g.x.size;have bz:=H.size;have hlen:(dv (T.take (i+1)) fr M).length=if d then (dv (T.take i) fr M).length+1 else (dv (T.take i) fr M).length:=by
  rw[D];cases d<;>simp
 have aG:((dv (T.take (i+1)) fr M).filter (fO now)).length=if d&&fO now T[i] then ((dv (T.take i) fr M).filter (fO now)).length+1 else ((dv (T.take i) fr M).filter (fO now)).length:=by
  rw[D]
  cases d
  .rfl
  .rw[if_pos rfl,gG,hJ,oC]
   cases fO now T[i]<;>simp
 have aH:iL T (dv (T.take (i+1)) fr M)=if d then (if i+1=T.length then [] else T[i].kv.1++ [0]) else iL T (dv (T.take i) fr M):=by
  rw[D]
  cases d
  .rfl
  .rw[if_pos rfl,if_pos rfl]
   unfold iL;rw[List.getLast?_concat];show(if _ then _ else _)=_;by_cases e:i+1=T.length
   .rw[if_pos e,if_pos ((EO O u).2 e)]
   .rw[if_neg e,if_neg λz=>e ((EO O u).1 z)]
 have aI:gE (T.take (i+1)) Q (fO now)=gE (T.take i) Q (fO now)++if d&&fO now T[i] then [] else [T[i]]:=by
  unfold gE;rw[a9,gG,hJ,oC,←aF]
  cases d&&fO now T[i]<;>rfl
 have bA:=a3 i;refine sf (λX n33 w'=>Ext G w'/\n33=((dv (T.take (i+1)) fr M).length:Nat)/\aT 1 5 w' X (aD (if d then T[i].kv.1++ [0] else iL T (dv (T.take i) fr M)))/\∀q,aE X q->w.heap.size<=q) (λbC aL=>⟨λa=>?_,λa=>aL _ _ _ ⟨H,?_,?_,S⟩⟩) ?_
 .obtain⟨bc,aN,aw,ax,Y,be⟩:=B6 (c:=0) (W.ext aC) (ak _)
  have Z:Ext G aN:=Ext.df H Y aA;refine aX ⟨bc,aN,aw,aL _ _ _ ⟨Z,?_,?_,λq l=>?_⟩⟩
  .rw[lQ I,hlen,if_pos a]
  .rw[if_pos a];exact ax
  .rcases be q l with z|z
   .have:=aA q z;omega
   .omega
 .rw[hlen,a];rfl
 .rw[a];exact R.ext H
 rintro X _ bf ⟨J,rfl,aO,bi⟩;have bk:=C.ext J;refine cq (λab w'=>Ext G w'/\aT 1 5 w' ab (aD (iL T (dv (T.take (i+1)) fr M)))/\∀q,aE ab q->w.heap.size<=q) (λbE aP=>cq (λb w'=>b=(d&&decide (i+1=T.length))/\bf=w') (λbF aQ=>⟨λa=>⟨_,rfl,s,by rw[az];exact bk.v.cell,aQ _ _ ⟨?_,rfl⟩⟩,λa=>aQ _ _ ⟨by rw[a];rfl,rfl⟩⟩) ?_) ?_
 .rw[a,g9,eQ,jY,b_,bB I I];omega
 .rintro _ _ ⟨rfl,rfl⟩
  refine⟨λa=>aX (aP _ _ ⟨J.trans (c8 _ _),?_,λq l=>?_⟩),λa=>aP _ _ ⟨J,?_,bi⟩⟩
  .rw[dh,b_]at a
   rw[aH,if_pos a.1,if_pos a.2];exact aT.new _ [] 0 rfl (by decide)
  .have:=Ag l
   have:=J.size;omega
  .rw[aH]
   cases d
   .exact aO
   .rw[if_pos rfl,if_neg (by simpa using a)]
    exact aO
 rintro ab y ⟨ac,ag,aR⟩;have K:=C.ext ac;obtain⟨aS,aj,aU,_,_,bl⟩:=m9 K.hU u;refine cq (λb w'=>b=(d&&fO now T[i])/\y=w') (λbG aV=>⟨λa=>⟨_,rfl,s,by rw[az];exact K.v.cell,aS,aj,aU,_,Ek K.hU u aj,aV _ _ ⟨?_,rfl⟩⟩,λa=>aV _ _ ⟨by rw[a];rfl,rfl⟩⟩) ?_
 .rw[a,g9]
  unfold fO;rw[eQ,b_,b_];omega
 rintro _ _ ⟨rfl,rfl⟩;have bH:=iP (fO now) (dv (T.take i) fr M);have L:eF 21 29 w y j (bg aB.c (gE (T.take i) Q (fO now))):=⟨g.o.ext ac,g.x.trans ac,g.f⟩;refine⟨λa=>?_,λa=>?_⟩
 .rw[lQ I]
  refine au _ _ _ _ _ ⟨rfl,by rw[aG,if_pos a],?_,ag,aR⟩;rw[aI,if_pos a,fl];exact L
 .have N:Ext y (y.alloc (.cells T[i].c.toArray 29)):=c8 _ _
  have aY:eF 21 29 w (y.alloc (.cells T[i].c.toArray 29)) j (bg aB.c (gE (T.take i) Q (fO now))):=⟨L.o.ext N,L.x.trans N,L.f⟩;have bI:j.len<=1000000:=by
   have V:=g.o.1;have bm:(gE (T.take i) Q (fO now)).length<=(T.take i).length:=iP _ _;rw[e4 _ (iu _)]at V;rw[cz]at bm;omega
  obtain⟨bn,bo,aw,ax,Y,_,Z,_⟩:=eF.app (cC:=68) m_ aY (Src.new (T:=29) y T[i].c 1 (T[i].bd)) (aB.plain _) (by show(2*(j.len+1)+1000)*56<=_;omega);refine⟨_,rfl,s,by rw[az];exact K.v.cell,aS,aj,aU,_,bl,⟨some y.heap.size,1,1⟩,_,rB y T[i],bn,bo,aw,au _ _ _ _ _ ⟨rfl,by rw[aG,a];rfl,?_,(ag.ext N).ah Z λq l bp=>?_,aR⟩⟩
  .rw[aI,a,if_neg (by decide),jO]
   have e:bg aB.c [T[i]]=T[i].c:=by simp[bg]
   rw[e];exact Y
  .obtain⟨c,hc⟩:=aT.block aY.o bp
   exact absurd ((ag.ext N).FQ l hc) (by decide)
end
section
variable {w0 w w' w1:J}{bo b7:Nat->Prop}{d n ab aW most k c q:Nat}{l:fj}{S aA cy:b9}{pages eH aL g8:O Nat}{T au bE dd mm:O aB}{s:ad}
theorem dp.grow(h:dp w0 w bo d n l ab most S pages aL T bE c)(hx:Ext w w')(a:∀q,b7 q->bo q\/(w.heap.size<=q/\q<w'.heap.size))(b:b7 ab):dp w0 w' b7 d n l ab most (S.own b7) pages aL T bE c:=
 ⟨h.s.grow hx a,h.live,h.q,b,h.v.ext hx,h.ok,h.xA,h.pV,h.xB,h.eL,h.ki,h.bV,h.ld⟩
theorem dp.jQ(h:dp w0 w bo d n l ab most S pages aL T bE c)(a:bo q)(b:ab≠q)(hc:af (λx=>x=q) w w'):dp w0 w' bo d n l ab most S pages aL T bE c:={h with s:=h.s.jQ a hc,v:=h.v.ah hc b}
theorem f_.pT{m:Int}(h:f_ (λq=>¬S.T.M q) w aW m s T)(hd:da k S aA w w')(he:S.T.E aW/\aW≠S.st):f_ (λq=>¬aA.T.M q) w' aW m s T:=
 ⟨h.v.ah hd.ah λd=>he.2 (d.2 he.1),h.hU.ah hd.ah λq a d=>(h.b q a).1 d.1,h.c,λq a=>⟨λe=>(hd.c7 q e).elim (h.b q a).1 λg=>by have:=(h.b q a).2;omega,by have:=(h.b q a).2;have:=hd.ah.size;omega⟩,λf=>f (.inr (.inr (.inr (.inl (by rw[hd.E];exact he.1)))))⟩
structure fa(w0 w:J)(bo:Nat->Prop)(d n:Nat)(l:fj)(ab aW most:Nat)(S:b9)(T bE:O aB)(c:Nat):Prop where
 a:∃pages aL,dp w0 w bo d n l ab most S pages aL T bE c
 jU:bo aW
 ne:ab≠aW
 m:∃s,f_ (λq=>¬S.T.M q) w aW (most:Nat) s T
structure gF(aW:Nat)(S:b9)(bE:O aB)(w:J)(aA:b9)(dd:O aB)(w':J):Prop where
 now:aA.now=S.now
 g:kL S bE aA dd
 ah:af (λq=>S.W q\/q=aW) w w'
 c7:∀q,aA.T.M q->S.T.M q\/w.heap.size<=q
 E:aA.T.E=S.T.E
 st:aA.st=S.st
theorem gF.ext(hx:Ext w w'):gF aW S bE w S bE w':=⟨rfl,.inl ⟨rfl,rfl⟩,af.cN hx,λ_ h=>.inl h,rfl,rfl⟩
theorem gF.of(hd:da k S aA w w')(a:aA.now=S.now)(hg:kL S bE aA dd):gF aW S bE w aA dd w':=⟨a,hg,hd.ah.mono λ_ _ h=>.inl h,hd.c7,hd.E,hd.st⟩
theorem gF.trans{c:b9}{d:O aB}{e:J}(h:gF aW S bE w aA dd w')(a:gF aW aA dd w' c d e):gF aW S bE w c d e:=
 ⟨a.now.trans h.now,h.g.trans a.g,c3 h.ah a.ah λq f b=>b.imp (λb=>⟨(h.c7 q b.1).resolve_right I,λhe=>by rw[←h.st];exact b.2 (by rw[h.E];exact he)⟩) id,λq f=>(a.c7 q f).elim (h.c7 q) λi=>.inr (eC h.ah.size i),a.E.trans h.E,a.st.trans h.st⟩
theorem gF.xC(h:gF aW S bE w aA dd w'){a:J}(hc:af (λq=>q=aW) w' a):gF aW S bE w aA dd a:={h with ah:=h.ah.trans (hc.mono λ_ _ h=>.inr h)}
theorem fa.ext(h:fa w0 w bo d n l ab aW most S T bE c)(hx:Ext w w'):fa w0 w' bo d n l ab aW most S T bE c:=by
 obtain⟨⟨c0,p,h1⟩,h2,a,s,b⟩:=h;exact⟨⟨c0,p,h1.ext hx⟩,h2,a,s,b.ext hx⟩
theorem fa.mono{e:Nat}(h:fa w0 w bo d n l ab aW most S T bE c)(he:c<=e):fa w0 w bo d n l ab aW most S T bE e:=by
 obtain⟨⟨c0,p,h1⟩,h2,a,b⟩:=h;exact⟨⟨c0,p,h1.mono he⟩,h2,a,b⟩
theorem fa.nd(h:fa w0 w bo d n l ab aW most S T bE c):S.T.E aW/\aW≠S.st:=by
 obtain⟨⟨c0,p,h1⟩,h2,_⟩:=h;exact h1.s.nd h2
theorem fa.half{s:ad}(h:f_ (λq=>¬S.T.M q) w aW (most:Nat) s T)(he:S.T.E aW/\aW≠S.st)(a:ga w0 bo d n l ab most S bE au w c w'):∃ (aA:b9) (c0 p:O Nat) (dd:O aB),dp w0 w' bo d n l ab most aA c0 p au dd c/\f_ (λq=>¬aA.T.M q) w' aW (most:Nat) s T/\gF aW S bE w aA dd w'/\∀q,w'.heap.size<=q->¬aA.T.M q:=by
 obtain⟨k,aA,c0,p,dd,h1,d1,bW,aw⟩:=a;exact⟨aA,c0,p,dd,h1,h.pT d1 he,.of d1 bW aw,h1.new⟩
theorem fa.whole{s:ad}(h:dp w0 w bo d n l ab most S pages aL T bE c)(he:bo aW)(a:ab≠aW)(hc:af (λq=>q=aW) w w')(b:f_ (λq=>¬S.T.M q) w' aW (most:Nat) s T):fa w0 w' bo d n l ab aW most S T bE c:=⟨⟨pages,aL,h.jQ he a hc⟩,he,a,s,b⟩
theorem qT(h:fa w0 w bo d n l ab aW most S T bE c)(hc:c<=9000):aK ai 36 #[.pointer (some ab),.pointer (some aW)] w (λv w'=>v=true/\∃aA:b9,fa w0 w' bo d n l ab aW most aA T bE (c+4)/\gF aW S bE w aA bE w'/\aA.u=S.u):=by
 have jU:=h.jU;have y:=h.ne;refine okF (ae.qT (some ab) (some aW)) ay.qT func36 ?_;(delta ae.qT an ed bK b8 ar r1 bS;dsimp only);refine⟨λJ w'=>∃ (i:Nat) (aA:b9),J=(i:Int)/\i<=4/\fa w0 w' bo d n l ab aW most aA T bE (c+i)/\gF aW S bE w aA bE w'/\aA.u=S.u,λn _=>((4:Int)-n).toNat,⟨0,S,rfl,I,h,.ext (.refl _ _),rfl⟩,?_⟩;rintro _ z ⟨i,A,rfl,hi,B,t4,C⟩;have K:=B.nd;obtain⟨⟨c0,p,a4⟩,_,_,a,f⟩:=B;refine⟨λaJ=>?_,λD=>?_⟩
 .have aJ:=cl aJ
  refine(KX a4 I (i:Int)).use ?_;rintro _ E ⟨k,F,a5,d5,n5,G,⟨hs,_⟩|⟨_,t,rfl,L,hf⟩⟩
  .exfalso
   unfold fM at hs;rw[dD (show(i:Int)>=0 from I),dD (show(i:Int)<=65535 from I)]at hs
   cases hs
  have g:=f.pT d5 K;have t5:gF aW A bE z F bE E:=.of d5 n5 (.inl ⟨by rw[G],rfl⟩);have P:T.length<=400:=by have:=a4.eL.1;have:=a4.ki;omega
  refine⟨t,0,rfl,cq (λb w'=>b=false/\Ext E w') (λQ M=>⟨λj=>(by cases j),λ_=>(Ki g.v g.hU I).use ?_⟩) ?_⟩
  .rintro _ R ⟨N,rfl,m⟩
   refine⟨N,rfl,(qR (L.src.ext m.x) m.o.src ?_).use ?_⟩
   .have:(T.filter (gm (i:Int))).length<=T.length:=iP _ _
    omega
   .rintro _ U ⟨rfl,O⟩
    exact⟨_,rfl,M _ _ ⟨by rw[dD rfl];rfl,m.x.trans O⟩⟩
  .rintro _ V ⟨rfl,q⟩
   refine⟨λj=>(by cases j),λ_=>?_⟩;rw[lQ I];exact⟨⟨i+1,F,rfl,I,⟨⟨c0,p,a5.ext q⟩,jU,y,a,g.ext q⟩,(t4.trans t5).trans (.ext q),G.trans C⟩,by show((4:Int)-((i+1:Nat):Int)).toNat<((4:Int)-(i:Nat)).toNat;omega⟩
 .have D:=cw D
  have e:i=4:=by omega
  subst e;have r:=cE z;have H:=f.ext r;have fo:=a4.ext r;refine aX ⟨λ_=>False,_,rfl,id,a,by rw[az];exact H.v.cell,(Ah fo.v fo.s.at_).use ?_⟩;rintro _ _ ⟨rfl,rfl⟩;refine⟨_,rfl,.refl _ _,?_,A,⟨⟨c0,p,fo⟩,jU,y,a,H⟩,t4.trans (.ext r),C⟩;have:=f.len;rw[dk,this];simp
end
def Ap(a m:av ag)(bU t0:Nat)(cO:ad)(d:J)(Q:Y->J->Prop):Prop:=
 ∃n11:Int,d.cell? t0=some (.int .i64 n11)/\∃B:O Y,a8 d (Addr.add t0 1) 0 18=some B/\
  ∃C:Array Y,Sem.run ai (Instr.build 29 #[(0,n11),(1,.agg B.toArray)]) d=.ok (.agg C) d/\
  Calls ai 95 #[.agg C] d λaI g=>∃e:al,aI=.returned e/\
  ∃n17:Int,g.cell? t0=some (.int .i64 n17)/\bH (
   λD:al->J->Prop=>(
    (decide ((n17:Int)>=0))=true->∃n19:Int,g.cell? t0=some (.int .i64 n19)/\
    D (decide ((n19:Int)<=65535)) g)
   /\((decide ((n17:Int)>=0))=false->D false g))
  (
    λ(E:al) (b:J)=>∃n22:Int,b.cell? bU=some (.int .i64 n22)/\
    (
      ((n22:Int)==1)=true->∃n23:Int,b.cell? t0=some (.int .i64 n23)/\
      ∃F:O Y,a8 b (Addr.add t0 1) 0 18=some F/\
      ∃n25:Int,b.cell? (Addr.add bU 23)=some (.int .u64 n25)/\
      Calls ai 27 #[.pointer a,n23,.agg F.toArray,.int .u64 n25] b λaJ h=>
      ∃i:Array Y,∃G:al,∃n30:Int,aJ=.returned (.tuple #[.agg i,G,n30])/\
      ak (
       h.alloc (
        .cells #[(0:Int),false,.int .u8 0,.int .u8 0,.int .u8 0,.int .u8 0,.int .u8 0,.int .u8 0,.int .u8 0,.int .u8 0,.int .u8 0,.int .u8 0,.int .u8 0,.int .u8 0,.int .u8 0,.int .u8 0,.int .u8 0,.int .u8 0,(0:Int),(0:Int),.int .u64 0] 29)
       )
      λH=>bk H h.heap.size (Array.toList i)/\Array.size i=21/\
      ak (setCells H h.heap.size 0 (Array.toList i)) λj=>
      ∃n33:Int,j.cell? t0=some (.int .i64 n33)/\∃I:O Y,a8 j (Addr.add t0 1) 0 18=some I/\
      ∃n35:Int,j.cell? (Addr.add bU 23)=some (.int .u64 n35)/\
      Calls ai 96 #[.pointer m,n33,.agg I.toArray,.int .u64 n35] j λaK k=>
      ∃l:Array Y,∃K:al,aK=.returned (.tuple #[.agg l,K])/\
      ak (
       k.alloc (
        .cells #[(0:Int),false,.int .u8 0,.int .u8 0,.int .u8 0,.int .u8 0,.int .u8 0,.int .u8 0,.int .u8 0,.int .u8 0,.int .u8 0,.int .u8 0,.int .u8 0,.int .u8 0,.int .u8 0,.int .u8 0,.int .u8 0,.int .u8 0,(0:Int),(0:Int),.int .u64 0] 29)
       )
      λL=>bk L k.heap.size (Array.toList l)/\Array.size l=21/\
      ak (setCells L k.heap.size 0 (Array.toList l)) λq=>
      ∃M:O Y,a8 q h.heap.size 0 21=some M/\
      ∃N:O Y,a8 q k.heap.size 0 21=some N/\
      ∃P:al,iC ai 29 M.toArray N.toArray P/\
      Q (.bool (((P&&(G==K))&&(((n30:Int)==0)==e))&&(e||((n30:Int)==1)))) q)
    /\(
     ((n22:Int)==1)=false->(
       ((n22:Int)==2)=true->∃R:Int,b.cell? t0=some (.int .i64 R)/\
       ∃S:O Y,a8 b (Addr.add t0 1) 0 18=some S/\
       Calls ai 28 #[.pointer a,R,.agg S.toArray] b λaL n=>
       ∃r:al,∃s:Int,aL=.returned (.tuple #[r,s])/\
       ((!e)=true->Q (.bool ((!r)&&((s:Int)==1))) n)/\(
         (!e)=false->∃T:Int,n.cell? t0=some (.int .i64 T)/\
         ∃U:O Y,a8 n (Addr.add t0 1) 0 18=some U/\
         Calls ai 97 #[.pointer m,T,.agg U.toArray] n λaM aN=>
         ∃V:al,aM=.returned V/\Q (.bool ((r==V)&&((s:Int)==0))) aN)
       )
     /\(
      ((n22:Int)==2)=false->bH (
        λW:al->J->Prop=>(((n22:Int)==3)=true->W ((n22:Int)==3) b)/\
        (((n22:Int)==3)=false->W ((n22:Int)==4) b))
      (
        λ(X:al) (c:J)=>(
         X=true->∃Z:Int,c.cell? (Addr.add t0 19)=some (.int .i64 Z)/\
         bH (
          λaa:Int->J->Prop=>∃t:Int,c.cell? bU=some (.int .i64 t)/\
          (((t:Int)==4)=true->aa (-1) c)/\(((t:Int)==4)=false->aa Z c))
         (
           λ(ab:Int) (ac:J)=>∃ae:Int,ac.cell? t0=some (.int .i64 ae)/\
           Calls ai 29 #[.pointer a,ae,ab] ac λaO u=>
           ∃v:Int,∃w:Int,aO=.returned (.tuple #[v,w])/\
           ((!E)=true->Q (.bool (((v:Int)==0)&&((w:Int)==1))) u)/\
           (
             (!E)=false->∃ah:Int,u.cell? t0=some (.int .i64 ah)/\
             Calls ai 98 #[.pointer m,ah,ab] u λaP aQ=>
             ∃aj:Int,aP=.returned aj/\Q (.bool (((v:Int)==aj)&&((w:Int)==0))) aQ)
           )
         )
        /\(
         X=false->(
          ((n22:Int)==5)=true->ak (c.drew) λf=>∃o:Nat->Prop,¬o (Addr.add bU 23).block/\
          ∃am:Int,f.cell? (Addr.add bU 23)=some (.int .u64 am)/\
          ¬o (Addr.add bU 24).block/\∃an:Int,f.cell? (Addr.add bU 24)=some (.int .i64 an)/\
          ak (f.alloc (.cells #[] 5)) λx=>af o f x/\∃ao:ad,∃y:J,Sem.run ai (
           Builtin.append_ #[48,48] 48 #[.slice (some f.heap.size) 0 0,cO])
          x=.ok ao y/\af o x y/\Calls ai 30 #[.pointer a,ao,.int .u64 am,an] y λaR z=>
          ∃ap:ad,∃aq:Int,∃ar:Int,aR=.returned (.tuple #[ap,aq,ar])/\
          ∃au:Int,z.cell? (Addr.add bU 23)=some (.int .u64 au)/\
          ∃aw:Int,z.cell? (Addr.add bU 24)=some (.int .i64 aw)/\
          Calls ai 99 #[.pointer m,cO,.int .u64 au,aw] z λaS aT=>
          ∃ax:ad,∃ay:Int,aS=.returned (.tuple #[ax,ay])/\
          ∃az:ByteArray,∃aA:J,Sem.run ai (convert 48 9 ap) aT=.ok (.string az) aA/\
          ∃aB:ByteArray,∃aC:J,Sem.run ai (convert 48 9 ax) aA=.ok (.string aB) aC/\
          Q (
           .bool (((ByteArray.toList az==ByteArray.toList aB)&&((aq:Int)==ay))&&((ar:Int)==0)))
          aC)
         /\(
          ((n22:Int)==5)=false->ak (c.drew) λp=>∃A:Nat->Prop,¬A (t0:ag).block/\
          ∃aD:O Y,a8 p t0 0 21=some aD/\
          ¬A (t0:ag).block/\∃aE:O Y,a8 p t0 0 21=some aE/\
          Calls ai 15 #[.pointer a,.agg aD.toArray] p λaU aF=>
          ∃aG:Int,aU=.returned aG/\af A p aF/\Calls ai 100 #[.pointer m,.agg aE.toArray] aF λaV aW=>
          ∃aH:Int,aV=.returned aH/\Q (.bool ((aG:Int)==aH)) aW)
         )
        )
      )
     )
    )
structure hY where
 kind:Int
 t:aB
 fs:ad
 fr:O UInt8
 now:Nat
 n:Int
 ls:ad
 l:O Int
def hY.c(a:hY):O Y:=.int .i64 a.kind::(a.t.c++ [.slice a.fs.a a.fs.len a.fs.cap,.int .u64 (a.now:Nat),.int .i64 a.n,.slice a.ls.a a.ls.len a.ls.cap])
theorem hY.bd(a:hY):a.c.length=26:=by unfold hY.c;simp[aB.bd]
theorem hY.get(a:hY):a.c[22]? =some (.slice a.fs.a a.fs.len a.fs.cap)/\a.c[23]? =some (.int .u64 (a.now:Nat))/\a.c[24]? =some (.int .i64 a.n)/\a.c[25]? =some (.slice a.ls.a a.ls.len a.ls.cap)/\(a.c.drop 1).take 21=a.t.c:=by
 unfold hY.c;have h:=a.t.bd;refine⟨?_,?_,?_,?_,?_⟩
 .rw[p0,g3 I,h];rfl
 .rw[p0,g3 I,h];rfl
 .rw[p0,g3 I,h];rfl
 .rw[p0,g3 I,h];rfl
 .rw[List.drop_succ_cons,iN,mA I,dr I]
section
variable {w0 w w' w1:J}{bo b7:Nat->Prop}{d n ab aW most k c q bU t0:Nat}{l:fj}{S aA cy:b9}{pages eH aL g8:O Nat}{T au bE dd mm:O aB}{cO:ad}{s:Int}{p:bl}{fr:O UInt8}{X:hY}
theorem Ld(a:∀t∈T,db t.s t.p=true)(hg:db s p=false)(now:Nat):T.find? (cP s p)=none/\iw T s p now=none/\mj T s p=T:=by
 have h1:∀x∈T,cP s p x=false:=λx hx=>by
  cases h:cP s p x with
  |false=>rfl
  |true=>
   obtain⟨h2,b⟩:=EH h;have:=a x hx;rw[h2,b,hg]at this;cases this
 have h2:T.find? (cP s p)=none:=jZ.2 λx hx=>by rw[h1 x hx];decide
 refine⟨h2,by rw[Ak,h2],?_⟩;unfold mj;rw[tZ.2 h1]
theorem Le(T:O aB)(s:Int)(p:bl):decide (iv T s p>=0)=(T.find? (cP s p)).isSome:=by
 unfold iv
 cases h:T.findIdx? (cP s p) with
 |none=>
  have:(T.find? (cP s p)).isSome=false:=by
   rw[←fx,List.find?_isSome];rintro⟨x,hx,a⟩;have:=tZ.1 h x hx;rw[a]at this;cases this
  rw[this];rfl
 |some i=>
  obtain⟨hi,a,_⟩:=rT.1 h;have:(T.find? (cP s p)).isSome=true:=by rw[List.find?_isSome];exact⟨T[i],cW hi,a⟩
  rw[this];exact dD (show(i:Int)>=0 from I)
theorem Lf(h:fa w0 w bo d n l ab aW most S T bE c)(hc:c<=8000)(G:Var w bU X.c 60)(aO:¬S.T.M bU)(aP:bU≠aW)(g:Var w t0 X.t.c 29)(aQ:¬S.T.M t0)(ac:t0≠aW)(Z:aT 1 5 w cO (aD fr))(aR:∀q,aE cO q->¬S.T.M q/\q≠aW)(bp:fr.length<=1000)(hu:X.t.u<18446744073709551616)(aS:X.n<=9223372036854775807){Q:Y->J->Prop}
 (A:∀ (w':J) (aA:b9) (au dd:O aB),fa w0 w' bo d n l ab aW most aA au dd (c+2+T.length)->gF aW S bE w aA dd w'->Q true w'):Ap (some ab) (some aW) bU t0 cO w Q:=by
 have jU:=h.jU;have H:=h.ne;have K:=h.nd;have an:¬S.W bU:=λm=>aO m.1;have R:¬S.W t0:=λm=>aQ m.1;obtain⟨bq,aa,ao,_,_⟩:=X.get;unfold Ap;refine⟨_,g.cell,_,lM g,_,Ej w X.t.p X.t.s,(mR _ w).use ?_⟩;rintro _ j ⟨rfl,D⟩;have aU:(aB.mk X.t.s X.t.p 0 0).dZ=db X.t.s X.t.p:=by unfold aB.dZ;rw[show fM 0=true from rfl,pY]
 rw[aU];refine⟨_,rfl,_,(g.ext D).cell,cq (λb w'=>b=fM X.t.s/\j=w') (λbr ap=>⟨λa=>⟨_,(g.ext D).cell,ap _ _ ⟨by unfold fM;rw[a];rfl,rfl⟩⟩,λa=>ap _ _ ⟨by unfold fM;rw[a];rfl,rfl⟩⟩) ?_⟩;rintro _ _ ⟨rfl,rfl⟩
 replace h:=h.ext D
 replace G:=G.ext D
 replace g:=g.ext D
 replace Z:=Z.ext D
 replace A:∀ (w':J) (aA:b9) (au dd:O aB),fa w0 w' bo d n l ab aW most aA au dd (c+2+T.length)->gF aW S bE j aA dd w'->Q true w':=λw' aA au dd aV aY=>A w' aA au dd aV ((gF.ext D).trans aY)
 clear D;obtain⟨⟨c0,aL,a0⟩,_,_,s,E⟩:=h;have ad:=a0.keys;have bs:T.length<=400:=by have:=a0.eL.1;have:=a0.ki;omega
 refine⟨_,G.cell,λa=>?_,λ_=>⟨λa=>?_,λ_=>?_⟩⟩
 .
  refine⟨_,g.cell,_,lM g,_,by rw[k_,cF,G.cell];exact aa,(Ao (now:=X.now) a0 I X.t.s X.t.p).use ?_⟩;rintro v aZ ⟨B,ae⟩;have a2:v=.tuple #[.agg ((iw T X.t.s X.t.p X.now).getD aB.zero).c.toArray,.bool (iw T X.t.s X.t.p X.now).isSome,.int .i64 (if db X.t.s X.t.p then 0 else 1)]:=by
   rw[ae]
   cases hg:db X.t.s X.t.p with
   |true=>rfl
   |false=>rw[(Ld ad hg X.now).2.1];rfl
  obtain⟨cy,C,bh,bQ,a1,i,t1,bW⟩:=fa.half E K B;have aq:∀ {vs:O Y}{b:Nat}{ar:TypeId},Var j b vs ar->¬S.W b->b≠aW->Var aZ b vs ar:=λae a a3=>ae.ah t1.ah λm=>m.elim a a3;refine⟨_,_,_,by rw[a2],rF _ λbt a4 U=>?_⟩;have a5:=(aq G an aP).ext U;have L:=(aq g R ac).ext U;refine⟨_,L.cell,_,lM L,_,by rw[k_,cF,a5.cell];exact aa,(Kh (now:=X.now) (i.ext U).v (i.ext U).hU I).use ?_⟩;rintro _ bu ⟨rfl,av⟩;refine⟨_,_,rfl,rF _ λa6 a7 ay=>⟨_,((a4.ext av).ext ay).rd (aB.bd _),_,a7.rd (aB.bd _),_,Ac _ _,?_⟩⟩;have ag:=(U.trans av).trans ay;have e:((((decide ((iw T X.t.s X.t.p X.now).getD aB.zero=(iw T X.t.s X.t.p X.now).getD aB.zero))&&((iw T X.t.s X.t.p X.now).isSome==(iw T X.t.s X.t.p X.now).isSome))&&(((if db X.t.s X.t.p=true then 0 else 1:Int)==0)==db X.t.s X.t.p))&&(db X.t.s X.t.p||((if db X.t.s X.t.p=true then 0 else 1:Int)==1)))=true:=by
   rw[dD rfl,beq_self_eq_true]
   cases db X.t.s X.t.p<;>rfl
  rw[e];exact A a6 cy T bQ ⟨⟨C,bh,(a1.ext ag).mono I⟩,jU,H,s,i.ext ag⟩ (t1.trans (.ext ag))
 .
  refine⟨_,g.cell,_,lM g,(KW a0 I X.t.s X.t.p).use ?_⟩;rintro _ a8 (⟨hg,rfl,B⟩|⟨hg,rfl,B⟩)
  .obtain⟨cy,C,bh,bQ,a1,i,t1,bW⟩:=fa.half E K B
   rw[hg];exact⟨_,_,rfl,λ_=>A a8 cy T bQ ⟨⟨C,bh,a1.mono I⟩,jU,H,s,i⟩ t1,λa=>(by cases a)⟩
  .obtain⟨cy,C,bh,bQ,a1,i,t1,bW⟩:=fa.half E K B
   have L:=g.ah t1.ah λm=>m.elim R ac;rw[hg];refine⟨_,_,rfl,λa=>(by cases a),λ_=>⟨_,L.cell,_,lM L,(Kj i I bW).use ?_⟩⟩;rintro _ a9 ⟨rfl,az,ai,N⟩;have e:(((T.find? (cP X.t.s X.t.p)).isSome==decide (iv T X.t.s X.t.p>=0))&&((0:Int)==0))=true:=by rw[Le,beq_self_eq_true];rfl
   refine⟨_,rfl,?_⟩;rw[e];exact A a9 cy _ bQ (.whole (a1.mono I) jU H az N) (t1.xC az)
 refine cq (λb w'=>b=(X.kind==3||X.kind==4)/\j=w') (λbv aC=>⟨λa=>aC _ _ ⟨by rw[a];rfl,rfl⟩,λa=>aC _ _ ⟨by rw[a];rfl,rfl⟩⟩) ?_;rintro _ _ ⟨rfl,rfl⟩;refine⟨λa=>?_,λ_=>⟨λa=>?_,λa=>?_⟩⟩
 .
  refine⟨_,tb g,cq (λz w'=>z=(if X.kind==4 then -1 else X.t.b)/\j=w') (λbw aF=>⟨_,G.cell,λa=>aF _ _ ⟨by rw[a];rfl,rfl⟩,λa=>aF _ _ ⟨by rw[a];rfl,rfl⟩⟩) ?_⟩;rintro z _ ⟨_,rfl⟩;refine⟨_,g.cell,(K9 a0 I X.t.s z).use ?_⟩;rintro _ a_ (⟨hs,rfl,B⟩|⟨hs,rfl,B⟩)
  .obtain⟨cy,C,bh,bQ,a1,i,t1,bW⟩:=fa.half E K B
   rw[hs];exact⟨_,_,rfl,λ_=>A a_ cy T bQ ⟨⟨C,bh,a1.mono I⟩,jU,H,s,i⟩ t1,λa=>(by cases a)⟩
  .obtain⟨cy,C,bh,bQ,a1,i,t1,bW⟩:=fa.half E K B
   have L:=g.ah t1.ah λm=>m.elim R ac;rw[hs];refine⟨_,_,rfl,λa=>(by cases a),λ_=>⟨_,L.cell,(Kl i I bW).use ?_⟩⟩;rintro _ ba ⟨rfl,aG,ai,N⟩;refine⟨_,rfl,?_⟩;rw[beq_self_eq_true];exact A ba cy _ bQ (.whole (a1.mono I) jU H aG N) (t1.xC aG)
 .
  have r:=cE j;have aj:=a0.ext r;have V:=G.ext r;have ak:=Z.ext r;have aH:=E.ext r;refine aX ?_;have pK:gF aW S bE j S bE j.drew:=.ext r;generalize j.drew=P at aj V ak aH pK;have f0:eF 1 5 P (P.alloc (.cells #[] 5)) ⟨some P.heap.size,0,0⟩ []:=⟨aT.new _ [] 0 rfl (by decide),c8 _ _,λq F=>by have:=Ag F;omega⟩;have bx:=len8 Z.src;obtain⟨bb,bc,aw,ax,y,_⟩:=eF.app (cC:=48) lG f0 (ak.src.ext f0.x) (iG _) (by show(2*(0+cO.len)+1000)*1<=_;omega);rw[hG]at y;have aJ:=V.lt;refine⟨λq=>P.heap.size<=q,by rw[k_];show¬P.heap.size<=bU;omega,_,by rw[k_,cF,V.cell];exact aa,by rw[k_];show¬P.heap.size<=bU;omega,_,by rw[k_,cF,V.cell];exact ao,aX ⟨af.cN f0.x,bb,bc,aw,ax,(K_ (now:=X.now) (aj.ext y.x) I aS y.o.src λq F=>⟨y.o.lt q F,aj.new q (y.f q F)⟩).use ?_⟩⟩;rintro _ be ⟨t80,rfl,bf,bg,k,cy,C,bh,bQ,a1,d1,bW,bi,_⟩;have t1:gF aW S bE j cy bQ be:=(pK.trans (.ext y.x)).trans (.of d1 bW bi);have i:=(aH.ext y.x).pT d1 K;have aI:=(V.ext y.x).ah d1.ah an;have bj:=(ak.ext y.x).ah d1.ah λq F m=>(aR q F).1 m.1;refine⟨t80,_,_,rfl,_,by rw[k_,cF,aI.cell];exact aa,_,by rw[k_,cF,aI.cell];exact ao,(Lc i I a1.new a0.ld ad bj.src I).use ?_⟩;rintro _ bk ⟨t87,rfl,bl,bz,al,ai,N⟩;have bm:=bf.ah al λq F e=>by
   have bA:=bg q F;have bB:=E.v.lt;have bC:=y.x.size;have bD:=r.size;have bF:=pK.ah.size;omega
  refine⟨t87,_,rfl,_,_,wX bm.src,_,_,wX bl.src,?_⟩;rw[beq_self_eq_true,beq_self_eq_true];have bG:((dv T fr (stM X.n)).filter (fO X.now)).length<=T.length:=by
   have h1:=iP (fO X.now) (dv T fr (stM X.n));have h2:(dv T fr (stM X.n)).length<=(fk T fr).length:=by unfold dv;rw[cz];omega
   have bH:(fk T fr).length<=T.length:=iP _ _;omega
  exact A bk cy _ bQ (.whole (a1.mono I) jU H al N) (t1.xC al)
 .
  have r:=cE j;have aK:=a0.ext r;have am:=g.ext r;have aM:=E.ext r;have pK:gF aW S bE j S bE j.drew:=.ext r;refine aX ?_;generalize j.drew=bI at aK am aM pK;refine⟨λq=>S.W q,R,_,am.rd (aB.bd _),R,_,am.rd (aB.bd _),(EI aK I hu).use ?_⟩;rintro _ bJ ⟨rfl,k,cy,C,bh,bQ,a1,d1,bW,aw⟩;have i:=aM.pT d1 K;refine⟨_,rfl,d1.ah,(Lb i I a1.new a0.ld ad X.t).use ?_⟩;rintro _ bn ⟨rfl,aN,ai,N⟩;refine⟨_,rfl,?_⟩;rw[beq_self_eq_true];exact A bn cy _ bQ (.whole (a1.mono I) jU H aN N) ((pK.trans (.of d1 bW aw)).xC aN)
end
structure pW(w:J)(X:hY):Prop where
 f:Src 1 w X.fs (aD X.fr)
 Aq:X.fs.len<=X.fs.cap
 u:X.t.u<18446744073709551616
 rD:X.now<18446744073709551616
 n:X.n<=9223372036854775807
 l:Src 1 w X.ls (X.l.map encZ)
 lc:X.ls.len<=X.ls.cap
 Lg:∀z∈X.l,z<=9223372036854775807
 Af:∀q,aE X.ls q->w.heap.size<=q->X.l=[]
section
variable {w0 w w' w1:J}{bo b7:Nat->Prop}{d n ab aW most k c q:Nat}{l:fj}{S aA cy:b9}{pages eH aL g8:O Nat}{T au bE dd mm:O aB}{X:hY}
theorem pW.ext(h:pW w X)(hx:Ext w w'):pW w' X:=⟨h.f.ext hx,h.Aq,h.u,h.rD,h.n,h.l.ext hx,h.lc,h.Lg,λq a b=>h.Af q a (eC hx.size b)⟩
theorem qS(h:fa w0 w bo d n l ab aW most S T bE c)(hc:c<=8000)(g:pW w X):
 aK ai 35 #[.pointer (some ab),.pointer (some aW),.agg X.c.toArray] w (λv w'=>v=true/\∃ (aA:b9) (au dd:O aB),fa w0 w' bo d n l ab aW most aA au dd (c+2+T.length)/\gF aW S bE w aA dd w'):=by
 obtain⟨G,_,_,_,aw⟩:=X.get;have V:=len8 g.f;obtain⟨c0,p,a0⟩:=h.a;have W:=h.m.choose_spec.v.lt;refine okF (ae.qS (some ab) (some aW) X.c.toArray) ay.qS func35 ?_;(delta ae.qS aa r1 bK fc aF b8 an b5 qp yt hM kr yE g4 bS gr BP ed yx;dsimp only);refine bc (vs:=X.c) rfl λw1 H K L=>?_;have y:=cE w1;have o:=H.ext y;have j:=K.trans y;refine aX ?_;generalize M:w1.drew=aj at y o j;have Y:aj.heap.size=w.heap.size+1:=by rw[←M];exact L
 have fin:∀ (b:J) (t0:Nat) (cO:ad),Ext aj b->Var b t0 X.t.c 29->aj.heap.size<=t0->aT 1 5 b cO (aD (X.fr.take 30))->(∀q,aE cO q->aj.heap.size<=q)->Ap (some ab) (some aW) w.heap.size t0 cO b (λv w'=>v=true/\∃ (aA:b9) (au dd:O aB),fa w0 w' bo d n l ab aW most aA au dd (c+2+T.length)/\gF aW S bE w aA dd w'):=λb t0 cO hx N Z k hf=>
  Lf (h.ext (j.trans hx)) hc (o.ext hx) (a0.new _ (bt _)) I N (a0.new _ I) I k (λq i=>⟨a0.new q (by have:=hf q i;omega),by have:=hf q i;omega⟩) (by rw[cz];omega) g.u g.n λw' aA au dd P Q=>⟨rfl,aA,au,dd,P,(gF.ext (j.trans hx)).trans Q⟩
 have R:a8 aj (Addr.add w.heap.size 1) 0 21=some X.t.c:=by
  rw[k_,cF,o.qX (by rw[X.bd];decide),aw]
 refine⟨λq=>aj.heap.size<=q,by rw[k_];show¬aj.heap.size<=w.heap.size;omega,_,R,by rw[k_];show¬aj.heap.size<=w.heap.size;omega,_,by rw[k_,cF,o.cell];exact G,(Ea (g.f.ext j) g.Aq 30 (by decide)).use ?_,?_⟩
 .rintro _ C ⟨cO,rfl,k,z,hf⟩
  have U:=z.size;refine⟨cO,rfl,af.cN z,bc (vs:=aB.zero.c) rfl λac D E ag=>⟨af.cN E,D.b3 (by simp[aB.bd]) (aB.plain _),by simp[aB.bd],cp D (us:=X.t.c) (by simp[aB.bd]) rfl λb A r _=>?_⟩⟩;have s:Ext C b:=Ext.cD E r (bt _);exact fin b C.heap.size cO (z.trans s) A U (k.ext s) hf
 .refine bc (vs:=aB.zero.c) rfl λak F B al=>⟨af.cN B,(Ea ((g.f.ext j).ext B) g.Aq 30 (by decide)).use ?_⟩
  rintro _ am ⟨cO,rfl,k,x,hf⟩;refine⟨cO,rfl,af.cN x,(F.ext x).b3 (by simp[aB.bd]) (aB.plain _),by simp[aB.bd],cp (F.ext x) (us:=X.t.c) (by simp[aB.bd]) rfl λb A r _=>?_⟩;have s:Ext aj b:=Ext.cD (B.trans x) r (bt _);exact fin b aj.heap.size cO s A (bt _) (k.ah r λq i e=>by have:=hf q i;omega) λq i=>by have:=hf q i;omega
theorem pq{most b:Nat}(o:1<=most/\most<=350)(f:b<256)(w:J):aK ai 14 #[most,.int .u8 (b:Nat)] w (λv w'=>∃ (ab d:Nat) (S:b9),v=.tuple #[.pointer (some ab),.pointer (some d),true]/\dp w w' (λq=>q=ab) d (4*most+64) (nf b) ab most S [] [] [] [] 0/\S.u=jS/\S.now=jS.clock):=by
 refine okF (ae.pq (most:Nat) (b:Nat)) ay.pq func14 ?_;delta ae.pq jn ar BO;have p:IntKind.wrap .i64 ((IntKind.wrap .i64 (4*(most:Int)))+64)=((4*most+64:Nat):Int):=by
  rw[bB (n:=4*(most:Int)) I I,bB I I];omega
 rw[p,KL f];refine(qs (n:=4*most+64) I I w).use ?_;rintro _ w1 ⟨d,lb,mr,rfl,hd,r,s⟩;refine⟨_,0,rfl,by decide,(pr (b:=b) (d:=b/16) f I w1).use ?_⟩;rintro _ B ⟨rfl,g⟩;refine⟨_,_,_,rfl,(KI (l:=nf b) (bo:=λ_=>False) (hd.ext g) (KK b) (λk=>⟨.inl rfl,.inl rfl⟩) rfl (by show 0<=999999000;omega) (λq h=>h.elim)).use ?_⟩;rintro _ c ⟨e,rfl,x,a,hu,hg⟩;have i:=hF.new (w0:=w) (r.trans g) x a hu hg (λq j=>s q j) (λq h=>h.elim) rfl rfl;have y:(rl (4*most+64) d lb mr).n=4*most+64:=by show(List.replicate _ il).length=_;rw[mw]
 rw[y]at i;refine⟨_,0,rfl,(qt c (most:Nat)).use ?_⟩;rintro _ C ⟨z,⟨A,_⟩|⟨_,rfl,m⟩⟩
 .exfalso
  rcases A with h|h|h
  .cases h
  .omega
  .omega
 have D:=m.lt;refine⟨_,0,rfl,c.heap.size,d,e.own λq=>q=c.heap.size,rfl,⟨i.grow z λq j=>.inr I,a.live,a.q,rfl,m,λt ht=>(by cases ht),λt ht=>(by cases ht),?_,λ_=>rfl,⟨cR _,cR _⟩,⟨o.1,I⟩,rfl,List.Pairwise.nil⟩,hu,a.now.trans (by rw[hu])⟩;rw[show(e.own λq=>q=c.heap.size).pending=e.pending from rfl,a.pS];show 0<1+b%12;omega
end
def lg:bl:=⟨⟨false,[0,0,0,0,0,0,0,0,0,0,0,0,10,0,0,0],rfl⟩,8⟩
def lh(u:Nat):aB:=⟨1,lg,2,u⟩
theorem mT(u:Nat)(w:J):aK ai 68 #[.int .u64 (u:Nat)] w (λv w'=>v=.agg (lh u).c.toArray/\Ext w w'):=by
 refine okF (ae.mT (u:Nat)) ay.mT func68 ?_;delta ae.mT fc aa;refine bc (vs:=aB.zero.c) rfl λw1 a d e=>⟨(aD lg.addr.b).toArray,by kernel_rfl,lg.addr.c.toArray,by kernel_rfl,lg.c.toArray,by kernel_rfl,_,CD w1 lg 1 2 u,tG a (aB.bd _) (lh u) λw' hc=>⟨rfl,Ext.cD d hc (bt _)⟩⟩
theorem Ar(u:Nat):Array.extract (lh u).c.toArray 1 (1+18)=lg.c.toArray:=by rfl
theorem Lh(w:J):aK ai 17 #[] w (λv w'=>v=true/\Ext w w'):=by
 refine ae.GI w _ ?_;delta ae.sY uR an lC bS qp fc aa;refine(pq (most:=5) (b:=1) (by decide) (by decide) w).use ?_;rintro _ w1 ⟨ab,d,F,rfl,a0,_⟩;refine⟨_,_,_,rfl,λh=>(by cases h),λ_=>(mT 5 w1).use ?_⟩;rintro _ G ⟨rfl,p⟩;refine⟨_,rfl,(EI (a0.ext p) I (t:=lh 5) (by decide)).use ?_⟩;have e:jg [] 5 (lh 5)=0:=by decide+kernel
 have r:kM [] 5 (lh 5)=[lh 5]:=by unfold kM;rw[e];rfl
 rw[e,r];rintro _ u ⟨rfl,cc,cy,H,bh,bQ,a1,_⟩;refine⟨_,rfl,(mT 5 u).use ?_⟩;rintro _ K ⟨rfl,y⟩;have hg:db 1 lg=true:=by decide+kernel
 have f4:iw [lh 5] 1 lg 4=some (lh 5):=by decide+kernel
 have f5:iw [lh 5] 1 lg 5=none:=by decide+kernel
 have f:=Ao (now:=4) (a1.ext y) I 1 lg;rw[if_pos hg,f4,←Ar 5]at f;refine⟨_,rfl,f.use ?_⟩;rintro _ g ⟨⟨cn,c_,L,bj,b2,a2,_⟩,rfl⟩;refine⟨_,_,_,rfl,rF (lh 5) λz A B=>(mT 5 z).use ?_⟩;rintro _ M ⟨rfl,i⟩;have C:¬c_.W g.heap.size:=λD=>a2.new _ (bt _) D.1;have j:=Ao (now:=5) ((a2.ext B).ext i) I 1 lg;rw[if_pos hg,f5,←Ar 5]at j;refine⟨_,rfl,j.use ?_⟩;rintro _ N ⟨⟨O,fW,P,Q,dg,a3,d3,_⟩,rfl⟩;have E:=(A.ext i).ah d3.ah C;refine⟨_,_,_,rfl,rF aB.zero λk R l=>?_⟩;have m:=cE k;have a:=(E.ext l).ext m;have n:=(a3.ext l).ext m;refine aX ?_;generalize k.drew=c at a n;have S:=a.lt;refine⟨λq=>c.heap.size<=q,λ_=>⟨λ_=>⟨λ_=>⟨λ_=>⟨by show¬c.heap.size<=g.heap.size;omega,_,a.rd (aB.bd _),(mT 5 c).use ?_⟩,λh=>(by cases h)⟩,λh=>(by cases h)⟩,λh=>(by cases h)⟩,λh=>(by cases h)⟩;rintro _ T ⟨rfl,o⟩;refine⟨_,rfl,af.cN o,_,Ac _ _,?_,n.s.x.trans o⟩;rw[dD rfl];rfl
structure lS(w:J)(l:ad)(A:O hY):Prop where
 s:Src 26 w l (bg hY.c A)
 ok:∀a∈A,pW w a
theorem aB.s3{cs:O Y}(h:jm (.int .i64::(((.bool::lF 16)++ [.int .i64])++ [.int .i64,.int .u64])) cs):∃t:aB,cs=t.c/\t.u<18446744073709551616:=by
 obtain⟨_,us,rfl,⟨s,rfl,_⟩,h⟩:=h;obtain⟨a,t1,rfl,h1,h2⟩:=yi h;obtain⟨p,rfl,_⟩:=bl.s3 h1;obtain⟨_,_,rfl,⟨b,rfl,_⟩,_,_,rfl,⟨u,rfl,aw,ax⟩,rfl⟩:=h2;have g:0<=u/\u<=18446744073709551615:=by simpa[IntKind.min,IntKind.max,IntKind.signed,IntKind.bits] using And.intro aw ax
 obtain⟨k,rfl⟩:∃k:Nat,u=(k:Int):=⟨u.toNat,I⟩;exact⟨⟨s,p,b,k⟩,rfl,by show k<_;omega⟩
theorem rG(cs:O Y)(a n:Nat):cs.drop a=(cs.drop a).take n++cs.drop (a+n):=by
 rw[←kN,fV]
section
variable {w0 w w' w1:J}{bo b7:Nat->Prop}{d n ab aW most k c q i:Nat}{l:fj}{S aA cy:b9}{pages eH aL g8:O Nat}{T au bE dd mm:O aB}{X:hY}{ls:ad}{A:O hY}
set_option maxRecDepth 100000 in
theorem Li {fuel:Nat}{vs:O Y} (h:fI ai w fuel 60 vs):∃a:hY,vs=a.c/\pW w a:=by
 have hu:Tryz.prog.underlying 60=some (.struct (fieldsOf ai 60)):=by kernel_rfl
 have hlen:vs.length=26:=by
  have:=(Bt h hu).1;rwa[show Tryz.prog.cellsOf 60=26 by kernel_rfl]at this
 obtain⟨_,f0⟩:=qm h hu 0 (t:=3) (o:=0) (n:=1) (by kernel_rfl) (by kernel_rfl);obtain⟨_,f1⟩:=qm h hu 1 (t:=29) (o:=1) (n:=21) (by kernel_rfl) (by kernel_rfl);obtain⟨_,f2⟩:=qm h hu 2 (t:=48) (o:=22) (n:=1) (by kernel_rfl) (by kernel_rfl);obtain⟨_,f3⟩:=qm h hu 3 (t:=27) (o:=23) (n:=1) (by kernel_rfl) (by kernel_rfl);obtain⟨_,f4⟩:=qm h hu 4 (t:=3) (o:=24) (n:=1) (by kernel_rfl) (by kernel_rfl);obtain⟨_,f5⟩:=qm h hu 5 (t:=58) (o:=25) (n:=1) (by kernel_rfl) (by kernel_rfl);obtain⟨m,p,_⟩:=si f0 (k:=.i64) (by kernel_rfl);obtain⟨t,q,r⟩:=aB.s3 (yj 8 (ls:=.int .i64::(((.bool::lF 16)++ [.int .i64])++ [.int .i64,.int .u64])) (by kernel_rfl) (by kernel_rfl) f1);obtain⟨d2,s,ax⟩:=yb f2 (e:=5) (by kernel_rfl);obtain⟨b,u,b5⟩:=si f3 (k:=.u64) (by kernel_rfl);obtain⟨bV,v,_,x⟩:=si f4 (k:=.i64) (by kernel_rfl);obtain⟨d5,y,d⟩:=yb f5 (e:=3) (by kernel_rfl);obtain⟨z,cn⟩:=JY ax;obtain⟨A,f,dF⟩:=KJ d;have b5:0<=b/\b<=18446744073709551615:=by simpa[IntKind.min,IntKind.max,IntKind.signed,IntKind.bits] using b5
 obtain⟨g,rfl⟩:∃k:Nat,b=(k:Int):=⟨b.toNat,I⟩;refine⟨⟨m,t,d2,z,g,bV,d5,A⟩,?_,cn,ax.le,r,by show g<_;omega,x,f,d.le,dF,Src.Af f⟩;have h0:=rG vs 0 1;have h1:=rG vs 1 21;have h2:=rG vs 22 1;have i:=rG vs 23 1;have j:=rG vs 24 1;have l:=rG vs 25 1;have B:vs.drop 26=[]:=tN I;rw[p]at h0;rw[q]at h1;rw[s]at h2;rw[u]at i;rw[v]at j;rw[y,B]at l;rw[iN]at h0;rw[h0,h1,h2,i,j,l];rfl
set_option maxRecDepth 100000 in
theorem lS.of {v:Y} (h:lZ ai w 75 v):∃ (l:ad) (A:O hY),v=.slice l.a l.len l.cap/\lS w l A:=by
 obtain⟨t,rfl,ht⟩:=nz.of h (e:=60) (by kernel_rfl);obtain⟨A,h1,_,h2⟩:=ht.src (c:=hY.c) (sz:=26) (by kernel_rfl) (λa=>pW w a) λfuel vs b=>Li b;exact⟨t,A,rfl,h1,h2⟩
theorem lS.len(h:lS w ls A):ls.len=A.length:=by have:=h.s.len;rw[e4 _ (λa _=>hY.bd a)]at this;omega
theorem lS.ext(h:lS w ls A)(hx:Ext w w'):lS w' ls A:=⟨h.s.ext hx,λa b=>(h.ok a b).ext hx⟩
theorem lS.at(h:lS w ls A)(hi:i<A.length):∃a:ag,ls.a=some a/\((0:Int)<=(i:Int)/\(i:Int)<(ls.len:Int))/\w.cell? (a.add (Int.toNat (i:Int)*26))=some (.int .i64 A[i].kind)/\a8 w (a.add (Int.toNat (i:Int)*26)) 0 26=some A[i].c:=by
 obtain⟨e,a,d,b⟩:=rj h.s (λa _=>hY.bd a) (by decide) hi;rw[di];have h0:=mI b (j:=0) (v:=.int .i64 A[i].kind) rfl;rw[lj,add_zero']at h0;exact⟨a,d,⟨I,I⟩,h0,b⟩
theorem fa.sync(h:fa w0 w bo d n l ab aW most S T bE c)(hc:c<=9000):aK ai 34 #[.pointer (some S.st)] w (λv w'=>v=.int .i64 0/\∃aA:b9,fa w0 w' bo d n l ab aW most aA T T (c+1)/\gF aW S bE w aA T w'/\S.u.dA<aA.u.dA/\aA.pending=0):=by
 have b:=h.nd;obtain⟨⟨c0,p,a⟩,jU,e,s,m⟩:=h;have k:=a.s.aV;have o:=a.s.gen;have f:=a.eL.1;have r:=a.ki;have t:=a.s.at_.num.2.2.2.2.2.2;refine(KB a.s.at_ (by rw[dk];omega) I I).mono ?_;rintro v w' (⟨hf,_⟩|⟨_,aA,hd,g,hx⟩)
 .rw[a.live]at hf;cases hf
 obtain⟨rfl,_,hs,hf,hg,_,x,i⟩:=hx.Ew a.q;have j:kL S bE aA T:=.inr I;exact⟨rfl,aA,⟨⟨c0,c0,a.step hs hd I I (.inr rfl) f I I hf a.ok (by have:=a.pV;omega) λ_=>rfl⟩,jU,e,s,m.pT hd b⟩,.of hd g j,I,i⟩
theorem fa.new(h:dp w0 w (λq=>q=ab) d n l ab most S [] [] [] [] c)(hx:Ext w w')(b:Var w' aW [most,()] 78)(g:w.heap.size<=aW):fa w0 w' (λq=>q=ab\/q=aW) d n l ab aW most (S.own λq=>q=ab\/q=aW) [] [] c:=by
 have i:=b.lt;have j:=h.v.lt;refine⟨⟨[],[],h.grow hx (λq a=>a.imp id λe=>I) (.inl rfl)⟩,.inr rfl,I,⟨none,0,0⟩,b,(aT.none 21 29 w').src,bt _,λq a=>(gy q a).elim,λf=>f (.inr (.inr (.inr (.inl (.inr (.inr rfl))))))⟩
theorem Lj{m b:Nat}(P:m<256)(c:b<256)(tH:lS w ls A):
 aK ai 6 #[.int .u8 (m:Nat),.int .u8 (b:Nat),ls] w (λv w'=>v=true/\Ext w w'):=by
 have o:=tH.len;refine okF (ae.wA (m:Nat) (b:Nat) ls) ay.wA func6 ?_;(delta ae.wA uR ar an aM aF jI bS jH b8 aa;dsimp only);obtain⟨N,r,t⟩:∃N:Nat,IntKind.wrap .i64 (1+(IntKind.wrap .i64 (Int.tmod (m:Int) 30)))=(N:Int)/\1<=N/\N<=30:=by
  rw[og I,bB (n:=(m:Int)%30) I I,bB I I];exact⟨1+m%30,I,I,I⟩
 rw[r];refine⟨by decide,(pq ⟨t.1,I⟩ c w).use ?_⟩;rintro _ w1 ⟨ab,d,Q,rfl,a0,_⟩;refine⟨_,_,_,rfl,λc=>(by cases c),λ_=>bc (vs:=[N,()]) rfl λR u y U=>?_⟩;have f:=fa.new a0 y u (bt _);generalize w1.heap.size=aW at f⊢;refine⟨λz w'=>∃ (i:Nat) (S:b9) (T bE:O aB),z=(i:Int)/\i<=60/\fa w w' (λq=>q=ab\/q=aW) d (4*N+64) (nf b) ab aW N S T bE (40*i),λn _=>((60:Int)-n).toNat,⟨0,_,[],[],rfl,I,f⟩,?_⟩;rintro _ g ⟨i,S,T,bE,rfl,hi,e⟩;obtain⟨c0,p,ei⟩:=e.a;have V:=ei.eL.1;refine⟨λaJ=>?_,λW=>?_⟩
 rotate_left
 .refine(Ah ei.v ei.s.at_).use ?_
  rintro _ _ ⟨rfl,rfl⟩;rw[dk];refine⟨_,rfl,cq (λb w'=>b=true/\Ext g w') (λk B=>⟨λ_=>(Lh g).use ?_,λhf=>?_⟩) ?_⟩
  .rintro _ X ⟨rfl,hx⟩
   exact⟨true,rfl,B _ _ ⟨rfl,hx⟩⟩
  .have:=cw hf
   omega
  .rintro _ Y ⟨rfl,hx⟩
   exact⟨rfl,ei.s.x.trans hx⟩
 obtain⟨h1,h2⟩:=JZ (m:=60) o aJ;have aq:=tH.ext ei.s.x;obtain⟨a,h,j,C,D⟩:=aq.at h1;refine j4 (λw'=>∃ (aA:b9) (au dd:O aB),fa w w' (λq=>q=ab\/q=aW) d (4*N+64) (nf b) ab aW N aA au dd (40*(i+1))) (λZ l=>⟨a,h,j,_,C,λ_=>?_,λ_=>?_⟩) ?_
 .refine(Ey ei.v).use ?_
  rintro _ _ ⟨rfl,rfl⟩;refine⟨_,rfl,(e.sync I).use ?_⟩;rintro _ ac ⟨rfl,aA,E,_⟩;exact⟨0,rfl,λc=>(by cases c),λ_=>l _ ⟨aA,T,T,E.mono I⟩⟩
 .refine⟨a,h,j,_,D,(qS e I (aq.ok _ (cW h1))).use ?_⟩
  rintro _ ad ⟨rfl,c_,b2,F,G,_⟩;refine⟨true,rfl,cq (λH w'=>H=false/\∃ (aA:b9) (au dd:O aB),fa w w' (λq=>q=ab\/q=aW) d (4*N+64) (nf b) ab aW N aA au dd (40*(i+1))) (λaf J=>⟨λc=>(by cases c),λ_=>(qT G I).use ?_⟩) ?_⟩
  .rintro _ ag ⟨rfl,fW,K,_⟩
   exact⟨true,rfl,J _ _ ⟨rfl,fW,b2,F,K.mono I⟩⟩
  .rintro _ ah ⟨rfl,L⟩
   exact⟨λc=>(by cases c),λ_=>l _ L⟩
 .rintro aj ⟨aA,au,dd,M⟩
  rw[lQ I];exact⟨⟨i+1,aA,au,dd,rfl,I,M⟩,by show((60:Int)-((i+1:Nat):Int)).toNat<((60:Int)-(i:Nat)).toNat;omega⟩
end
end Go.Proofs.YtkdhdlfonmgheaaGreat
