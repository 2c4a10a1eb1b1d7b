/- Contracts of the functions that the statement reaches, and the plain laws over them; each theorem stands with its conditions. -/
import Derived.Test.YtcmgnhkpfllinaaGreatBSNone4
namespace Go.Proofs.YtcmgnhkpfllinaaGreat
open Go aP Go.Proofs.Tryz
def iE(p:ad×ad):O aa:=[p.1,p.2]
theorem og(l:O (ad×ad)):∀x∈l,(iE x).length=2:=λ_ _=>rfl
theorem GF(p:ad×ad):∀v∈iE p,Plain v:=by
 intro v a;unfold iE at a;simp only[cN,e3,fb]at a;rcases a with rfl|rfl<;>trivial
def hL(B:Nat->Prop)(w:J)(ps:O (ad×ad))(L:O aI):Prop:=ps.length=L.length/\∀i (a:i<ps.length) (b:i<L.length),bg B w ps[i].1 L[i].1/\bg B w ps[i].2 L[i].2
def j4(B:Nat->Prop)(w:J)(s:ad)(L:O aI):Prop:=∃ps,aV 2 198 w s (bQ iE ps)/\hL B w ps L
def e2(B:Nat->Prop)(w:J)(s:ad)(L:O aI):Prop:=∃ps,Src 2 w s (bQ iE ps)/\s.len<=s.cap/\In B w s/\hL B w ps L
section
variable {B C W:Nat->Prop}{w w':J}{s:ad}{ps:O (ad×ad)}{L:O aI}
theorem hL.ag(h:hL B w ps L)(hc:af W w w')(d:∀k,B k->k<w.heap.size->¬W k):hL B w' ps L:=
 ⟨h.1,λi e f=>by
  obtain⟨a,b⟩:=h.2 i e f
  exact⟨bg.jX a hc λk c=>d k (a.2.2 k c).1 (a.2.2 k c).2,bg.jX b hc λk c=>d k (b.2.2 k c).1 (b.2.2 k c).2⟩⟩
theorem hL.aX(h:hL B w ps L)(a:∀k,k<w.heap.size->B k->C k):hL C w ps L:=⟨h.1,λi b c=>⟨bg.aX (h.2 i b c).1 a,bg.aX (h.2 i b c).2 a⟩⟩
theorem hL.push{p:ad×ad}{kv:aI}(h:hL B w ps L)(b:bg B w p.1 kv.1)(c:bg B w p.2 kv.2):hL B w (ps++ [p]) (L++ [kv]):=by
 refine⟨by simp[h.1],λi a d=>?_⟩;rcases ec i ps.length with g|g
 .have g':i<L.length:=by have:=h.1;omega
  simp only[m6 g,m6 g'];exact h.2 i g g'
 .have e:i=ps.length:=by simp at a;omega
  subst e;have f:(ps++ [p])[ps.length]'a=p:=by simp
  have j:(L++ [kv])[ps.length]'d=kv:=by rw[qk (by rw[h.1];exact bk _)];simp
  rw[f,j];exact⟨b,c⟩
theorem j4.len(h:j4 B w s L):s.len=L.length:=by
 obtain⟨ps,a,b⟩:=h;have:=a.1;rw[gu _ (og ps)]at this;have:=b.1;omega
theorem j4.aX(h:j4 B w s L)(a:∀k,k<w.heap.size->B k->C k):j4 C w s L:=by
 obtain⟨ps,b,c⟩:=h;exact⟨ps,b,c.aX a⟩
theorem j4.none(B:Nat->Prop)(w:J):j4 B w ⟨.none,0,0⟩ []:=⟨[],aV.none _ _ _,rfl,λi h=>by simp at h⟩
theorem j4.r(h:j4 B w s L)(hs:∀k,ay s k->B k):e2 B w s L:=by
 obtain⟨ps,a,c⟩:=h;exact⟨ps,a.src,a.2.1,λk b=>⟨hs k b,a.lt k b⟩,c⟩
theorem e2.len(h:e2 B w s L):s.len=L.length:=by
 obtain⟨ps,a,_,_,b⟩:=h;have:=a.len;rw[gu _ (og ps)]at this;have:=b.1;omega
theorem e2.ag(h:e2 B w s L)(hc:af W w w')(b:∀k,B k->k<w.heap.size->¬W k):e2 B w' s L:=by
 obtain⟨ps,d,e,a,f⟩:=h;exact⟨ps,d.ag hc λk c=>b k (a k c).1 (a k c).2,e,In.ag a hc,f.ag hc b⟩
theorem e2.ext(h:e2 B w s L)(hc:Ext w w'):e2 B w' s L:=h.ag hc λ_ _ _ h=>h
theorem e2.aX(h:e2 B w s L)(a:∀k,k<w.heap.size->B k->C k):e2 C w s L:=by
 obtain⟨ps,b,c,d,e⟩:=h;exact⟨ps,b,c,In.aX d a,e.aX a⟩
theorem e2.at(h:e2 B w s L){i:Nat}(hi:i<L.length):∃ (A:ah) (tk cF:ad),s.a=some A/\B A.block/\((0:Int)<=(i:Int)/\(i:Int)<(s.len:Int))/\w.cell? (A.add (i*2))=some (.slice tk.a tk.len tk.cap)/\w.cell? ((A.add (i*2)).add 1)=some (.slice cF.a cF.len cF.cap)/\
 bg B w tk L[i].1/\bg B w cF L[i].2:=by
 have p:=h.len;obtain⟨ps,c,q,l,d⟩:=h;have e:i<ps.length:=by have:=d.1;omega
 cases b:s.a with
 |none=>
  have:=c.nil b;have f:=gu ps (og ps);rw[this]at f;simp at f;omega
 |some A=>
  have m:=c.rd A b;have hg:∀j v,(iE ps[i])[j]? =some v->w.cell? (A.add (i*2+j))=some v:=λj v g=>by
   have n:j<2:=(iI.1 g).1;have k:=qH m (j:=i*2+j) (v:=v) (by rw[uT (og ps) e n];exact g);rw[cQ]at k;exact k
  obtain⟨t1,t2⟩:=d.2 i e hi;have o:(A.add (i*2)).add 1=A.add (i*2+1):=add_add A _ _;refine⟨A,ps[i].1,ps[i].2,rfl,(l A.block ⟨A,b,rfl⟩).1,⟨I,I⟩,?_,?_,t1,t2⟩
  .exact hg 0 _ rfl
  .rw[o]
   exact hg 1 _ rfl
end
theorem GG:hW aj 193 198 2 48:=⟨by kernel_rfl⟩
theorem GH(w:J)(cs:Array aa)(h:cs.size=2):Sem.run aj (Instr.buildSlice 193 1 #[(0,.agg cs)]) w=.ok (.slice (some w.heap.size) 1 1) (w.alloc (.cells cs 198)):=by
 have h0:((Tryz.prog.info? 198).bind (·.zero)).isSome=true:=by kernel_rfl
 obtain⟨z,a⟩:=lU.1 h0;obtain⟨i,hi,b⟩:=rA a;have c:(Tryz.prog.underlying 198).isSome=true:=by kernel_rfl
 obtain⟨d,hd⟩:=lU.1 c;exact xt (sz:=2) w (by kernel_rfl) hd (by kernel_rfl) hi b h (by decide) (by decide)
structure er(T ao:aF)(w w':J)(k:Nat):Prop where
 to:bD T ao w w' k
 E:ao.E=T.E
 G:∀q,T.G q->ao.G q
 root:ao.root=T.root
 aG:ao.aG=T.aG
 f:ao.f=T.f
 P:ao.P=T.P
 view:∀j,ao.C.view j=T.C.view j
theorem er.refl(T:aF)(w:J):er T T w w 0:=⟨.refl _ _,rfl,λ_ h=>h,rfl,rfl,rfl,rfl,λ_=>rfl⟩
theorem er.ext{w w':J}(T:aF)(h:Ext w w'):er T T w w' 0:=⟨.ext T h,rfl,λ_ h=>h,rfl,rfl,rfl,rfl,λ_=>rfl⟩
theorem er.trans{T ao c:aF}{w w' d:J}{k l:Nat}(a:er T ao w w' k)(b:er ao c w' d l):er T c w d (k+l):=
 ⟨a.to.trans b.to,b.E.trans a.E,λq h=>b.G q (a.G q h),b.root.trans a.root,b.aG.trans a.aG,b.f.trans a.f,b.P.trans a.P,λj=>(b.view j).trans (a.view j)⟩
theorem er.mono{T ao:aF}{w w':J}{k l:Nat}(h:er T ao w w' k)(a:k<=l):er T ao w w' l:=⟨h.to.mono a,h.E,h.G,h.root,h.aG,h.f,h.P,h.view⟩
theorem er.bm{T:aF}{aE:bO}{w w':J}{k:Nat}(h:bD T (T.bm aE T.P) w w' k)(a:∀j,aE.view j=T.C.view j):er T (T.bm aE T.P) w w' k:=⟨h,rfl,λ_ h=>h,rfl,rfl,rfl,rfl,a⟩
theorem bD.out{T ao:aF}{w w':J}{k q:Nat}(h:bD T ao w w' k)(b:q<w.heap.size)(c:¬T.M q):¬ao.M q/\q<w'.heap.size:=by
 refine⟨λd=>?_,e_ b h.ag.size⟩;rcases h.cS q d with a|a
 .exact c a
 .omega
theorem bD.BF{T ao:aF}{w w':J}{k:Nat}{ps:O (ad×ad)}{L:O aI}(h:bD T ao w w' k)(c:hL (λq=>¬T.M q) w ps L):hL (λq=>¬ao.M q) w' ps L:=by
 have d:hL (λq=>q<w.heap.size/\¬T.M q) w ps L:=c.aX λq b a=>⟨b,a⟩;exact(d.ag h.ag λq b _ e=>b.2 (aF.gd e)).aX λq _ a=>(h.out a.1 a.2).1
structure hM(lo:Nat)(w:J)(T:aF)(aM:Nat)(s:ad)(L:O aI):Prop where
 t:bU w T
 v:Var w aM [s] 193
 own:j4 (λq=>¬T.M q) w s L
 go:T.G aM
 gs:∀q,ay s q->T.G q/\q≠aM/\lo<=q
section
variable {w w':J}{T ao:aF}{lo aM:Nat}{s:ad}{L:O aI}
theorem hM.of{k:Nat}(h:hM lo w T aM s L)(d:bU w' ao)(ht:bD T ao w w' k)(b:∀q,T.G q->ao.G q){W:Nat->Prop}(c:af W w w')(cp:∀q,T.G q->¬W q):hM lo w' ao aM s L:=by
 obtain⟨ps,e,f⟩:=h.own;exact⟨d,h.v.ag c (cp _ h.go),⟨ps,e.ag c λq a=>cp q (h.gs q a).1,ht.BF f⟩,b _ h.go,λq a=>⟨b q (h.gs q a).1,(h.gs q a).2⟩⟩
theorem hM.ext(h:hM lo w T aM s L)(hx:Ext w w'):hM lo w' T aM s L:=h.of (h.t.ext hx) (bD.ext T hx) (λ_ h=>h) hx λ_ _ h=>h
theorem GI{k v:Key}{tk cF:ad}(h:hM lo w T aM s L)(F:lo<=w.heap.size)(x:bg (λq=>¬T.M q) w tk k)(y:bg (λq=>¬T.M q) w cF v)(H:L.length<=100000):
 ∃ (b:ad) (ai:J),Sem.run aj (Builtin.append_ #[193,193] 193 #[s,.slice (some w.heap.size) 1 1]) (w.alloc (.cells (iE (tk,cF)).toArray 198))=.ok b ai/\
  (∃u:aa,ai.cell? aM=some u)/\ai.frozen? aM=false/\
  ∀f,f=ai.setCell aM b->hM lo f (T.cj T.E λq=>T.G q\/ay b q) aM b (L++ [(k,v)])/\er T (T.cj T.E λq=>T.G q\/ay b q) w f 0:=by
 have K:=h.own.len;obtain⟨ps,z,A⟩:=h.own;obtain⟨b,ai,B,l,N,g,d⟩:=GG.push (dD:=193) (w:=w) (s:=s) (xs:=iE (tk,cF)) rfl z (GF _) I;have cp:∀q,ay s q->T.G q:=λq a=>(h.gs q a).1;have O:=g.size;have m:=h.v.ag g λa=>(h.gs _ a).2.1 rfl;obtain⟨b7,cA⟩:=ek m (i:=0) (by simp);refine⟨b,ai,B,b7,cA,?_⟩;rintro _ rfl;have j:=dJ ai aM 0 b;have C:=ej m (i:=0) b;have n:af T.G w (ai.setCell aM b):=c5 (g.mono λq _ a=>cp q a) j λq _ e=>by rw[e];exact h.go
 have aH:∀q,ay b q->q<ai.heap.size:=λq a=>aV.lt l q a;have o:∀q,ay b q->T.G q\/(w.heap.size<=q/\q<(ai.setCell aM b).heap.size):=λq a=>by
  rcases d q a with c|c
  .exact .inl (cp q c)
  .exact .inr ⟨c,by have:=aH q a;have:=j.size;omega⟩
 have p:∀q,ay b q->q≠aM:=λq a e=>by
  rcases d q a with c|c
  .exact(h.gs q c).2.1 e
  .have:=h.v.lt;omega
 have D:=h.t.grow (E:=T.E) (G:=λq=>T.G q\/ay b q) n (λq a _=>.inr a) (λq a=>.inl a) (λq a=>by
  rcases a with a|a
  .exact .inr (.inl a)
  .exact .inr (o q a)) λq a hg=>by
  rcases hg with hg|hg
  .exact(h.t.dA q a).2.2 hg
  .rcases d q hg with c|c
   .exact(h.t.dA q a).2.2 (cp q c)
   .have:=h.t.lt (q:=q) (.inr (.inr (.inr (.inl a))));omega
 have r:bD T (T.cj T.E λq=>T.G q\/ay b q) w (ai.setCell aM b) 0:=by
  have h0:bD T T w w 0:=.refl _ _;exact h0.step n (λq a _=>.inr (.inr (.inr a))) (λq a=>.inl a) λq a=>by
   rcases a with a|a
   .exact .inl a
   .exact(o q a).imp id λe=>e.1
 refine⟨⟨D,C,⟨ps++ [(tk,cF)],?_,r.BF (A.push (kv:=(k,v)) x y)⟩,.inl h.go,λq a=>⟨.inr a,p q a,?_⟩⟩,r,rfl,λ_ h=>.inl h,rfl,rfl,rfl,rfl,λ_=>rfl⟩
 .have e:bQ iE (ps++ [(tk,cF)])=bQ iE ps++iE (tk,cF):=by rw[pT];simp[bQ]
  rw[e];exact l.ag j λq a e=>p q a e
 .rcases d q a with c|c
  .exact(h.gs q c).2.2
  .omega
end
structure p5(w:J)(T:aF)(a8 aR cT:Nat)(e8 fg:ad)(to fr:Key)(most:Int):Prop where
 vd:Var w a8 [e8] 39
 ve:Var w aR [fg] 39
 il:Var w cT [most] 3
 BG:¬T.M a8
 BH:¬T.M aR
 BI:¬T.M cT
 st:Src 1 w e8 (ax to)
 xV:Src 1 w fg (ax fr)
 rL:∀q,ay e8 q->q<w.heap.size/\¬T.M q
 rM:∀q,ay fg q->q<w.heap.size/\¬T.M q
 lt:to.length<=9000000000000000000
section
variable {w w':J}{T ao:aF}{a8 aR cT:Nat}{e8 fg:ad}{to fr:Key}{most:Int}
theorem p5.go{k:Nat}(h:p5 w T a8 aR cT e8 fg to fr most)(ht:bD T ao w w' k):p5 w' ao a8 aR cT e8 fg to fr most:=by
 have b:∀q,¬T.M q->¬T.N q:=λq a b=>a (aF.gd b);exact⟨h.vd.ag ht.ag (b _ h.BG),h.ve.ag ht.ag (b _ h.BH),h.il.ag ht.ag (b _ h.BI),(ht.out h.vd.lt h.BG).1,(ht.out h.ve.lt h.BH).1,(ht.out h.il.lt h.BI).1,
  h.st.ag ht.ag λq a=>b _ (h.rL q a).2,h.xV.ag ht.ag λq a=>b _ (h.rM q a).2,λq a=>⟨(ht.out (h.rL q a).1 (h.rL q a).2).2,(ht.out (h.rL q a).1 (h.rL q a).2).1⟩,λq a=>⟨(ht.out (h.rM q a).1 (h.rM q a).2).2,(ht.out (h.rM q a).1 (h.rM q a).2).1⟩,h.lt⟩
end
def i_(fr to:Key)(most:Nat)(n:aA)(acc ps:O aI):al×O aI:=if n.leaf then j3 fr to most acc ps else (true,acc)
def GJ(lo aM:Nat)(T:aF)(a:al×O aI)(w:J)(v:aa)(w':J):Prop:=
 ∃ (ao:aF) (b:ad),v=a.1/\hM lo w' ao aM b a.2/\er T ao w w' 0
theorem bD.hZ{T ao:aF}{w w':J}{k:Nat}(h:bD T ao w w' k){n:aA}{K V D:ad}(b:bF (λq=>¬T.M q) w n K V D):bF (λq=>¬ao.M q) w' n K V D:=
 (h.b1 (lo:=0) (b.aX λ_ _ a=>⟨cO _,a⟩)).aX λ_ _ a=>a.2
theorem BJ{a b:Key}:(decide ((eB a b:Int)>=0))=decide (dR b a):=by
 unfold dR;by_cases h:eB a b<0
 .have c:¬eB a b>=0:=by omega
  simp[h,c]
 .have c:eB a b>=0:=by omega
  simp[h,c]
theorem GK{w:J}{T:aF}{lo aM a8 aR cT:Nat}{s e8 fg:ad}{L:O aI}{to fr:Key}{most:Int}{n:aA}{K V D:ad}(no:Int)(h:hM lo w T aM s L)(a9:lo<=w.heap.size)(hf:p5 w T a8 aR cT e8 fg to fr most)
 (W:bF (λq=>¬T.M q) w n K V D) (hs:cr n) (bb:n.keys.length<=1000) (ay:(L.length:Int)<most) (bc:L.length<=50000):
 aJ aj 218 #[no,cZ n K V D,.pointer (some a8),.pointer (some aR),.pointer (some aM),.pointer (some cT)] w (GJ lo aM T (i_ fr to most.toNat n L n.dh) w):=by
 have bd:=bt.len W.keys;refine okF (ae.tW no n.leaf K V D a8 aR aM cT) aw.tW func218 ?_;(delta ae.tW r1 Y an aN bW aS aD av;dsimp only);refine a_ (vs:=dF n K V D) rfl λw1 P o be=>?_;obtain⟨nb,az⟩:∃nb,nb=w.heap.size:=⟨_,rfl⟩;rw[←az]at P⊢;have aB:=h.ext o;have aC:=hf.go (bD.ext T o);have aE:=W.ext o;have X:¬T.M nb:=λQ=>by have:=h.t.lt Q;omega
 obtain⟨bH,aQ,a6,ba⟩:=bx P;refine⟨K,aQ,λi f=>∃ (E:Nat) (ao:aF) (z:ad) (acc:O aI),i=(E:Int)/\E<=n.keys.length/\hM lo f ao aM z acc/\er T ao w1 f 0/\(acc.length:Int)<most/\acc.length<=L.length+E/\i_ fr to most.toNat n acc (n.dh.drop E)=i_ fr to most.toNat n L n.dh,
  λi _=>((n.keys.length:Int)-i).toNat,⟨0,T,s,L,rfl,cO _,aB,.refl _ _,ay,I,by rw[iK]⟩,?_⟩
 rintro _ f ⟨i,ao,z,acc,rfl,hi,F,l,bf,bh,g⟩;have bi:=o.size;have bj:=l.to.ag.size;have p:=aC.go l.to;have Z:=l.to.hZ aE;have aa:=P.ag l.to.ag λQ=>X (aF.gd Q);have bk:=(l.to.out I X).1;refine⟨λaH=>?_,λaG=>?_⟩
 rotate_left
 .have ab:i=n.keys.length:=by
   have:¬(i:Int)<(K.len:Int):=cG aG;omega
  have hd:n.dh.drop i=[]:=by
   refine List.drop_eq_nil_of_le ?_;unfold aA.dh;rw[m3];omega
  rw[hd]at g;have e:i_ fr to most.toNat n acc []=(true,acc):=by unfold i_ j3;split<;>rfl
  rw[e]at g;exact⟨ao,z,by rw[←g],by rw[←g];exact F,((er.ext T o).trans l)⟩
 .have ab:i<n.keys.length:=by
   have:(i:Int)<(K.len:Int):=ck aH;omega
  obtain⟨A,tk,ar,aK,hc,G,_⟩:=bt.at Z.keys ab;have R:IntKind.wrap .i64 ((i:Int)+1)=((i+1:Nat):Int):=by rw[bw I I];omega
  have aL:∀w':J,((n.keys.length:Int)-IntKind.wrap .i64 ((i:Int)+1)).toNat<((n.keys.length:Int)-(i:Int)).toNat:=λ_=>by rw[R];omega
  obtain⟨key,ac⟩:∃key,key=n.keys[i]:=⟨_,rfl⟩;rw[←ac]at G;have af:=len8 p.st;refine⟨A,ar,aK,tk,hc,e8,p.vd.cell,cz (λb w'=>b=decide (to≠ []/\¬bz key to)/\f=w') (λq m=>⟨λc=>⟨e8,p.vd.cell,(kS G.1 p.st).use ?_⟩,λc=>m _ _ ⟨?_,rfl⟩⟩) ?_⟩
  .rintro _ _ ⟨rfl,rfl⟩
   refine⟨_,rfl,m _ _ ⟨?_,rfl⟩⟩;have d:to≠ []:=λe=>by
    rw[e]at af;have:(e8.len:Int)>0:=ck c;simp at af;omega
   rw[BJ];simp only[d,ne_eq,not_false_eq_true,true_and];rfl
  .have d:to=[]:=by
    have:¬(e8.len:Int)>0:=cG c;exact k8.1 I
   simp[d]
  rintro aO _ ⟨ah,rfl⟩;have d0:f.cell? nb=some (.bool n.leaf):=(bx aa).1;refine cz (λb w'=>b=(aO&&n.leaf)/\f=w') (λq m=>⟨λc=>⟨_,d0,m _ _ ⟨by rw[c];rfl,rfl⟩⟩,λc=>m _ _ ⟨by rw[c];rfl,rfl⟩⟩) ?_;rintro bl _ ⟨ai,rfl⟩;have H:n.leaf=true->∃x:Key,(∃k:i<n.vals.length,x=n.vals[i])/\n.dh.drop i=(key,x)::n.dh.drop (i+1):=λa=>by
   have bm:n.vals.length=n.keys.length:=by
    rcases hs with d|d
    .exact d.len
    .have:=d.inner;rw[a]at this;cases this
   have k:i<n.vals.length:=by omega
   refine⟨n.vals[i],⟨k,rfl⟩,?_⟩;have aP:i<n.dh.length:=by unfold aA.dh;rw[m3];omega
   rw[k7 aP];have e:n.dh[i]=(key,n.vals[i]):=by
    rw[ac];exact r0
   rw[e]
  refine⟨λc=>?_,λc=>?_⟩
  .
   rw[ai,dk]at c;obtain⟨x,_,B⟩:=H c.2;have aT:to≠ []/\¬bz key to:=by
    rw[ah]at c;exact ck c.1
   have e:i_ fr to most.toNat n acc (n.dh.drop i)=(false,acc):=by
    unfold i_;rw[if_pos c.2,B];unfold j3;rw[if_pos aT]
   rw[e]at g;exact⟨ao,z,by rw[←g],by rw[←g];exact F,((er.ext T o).trans l)⟩
  .have ak:n.leaf=true->¬(to≠ []/\¬bz key to):=λa d=>by
    rw[ai,ah,a,dO d]at c
    cases c
   refine kN (λN=>∃ (bN:aF) (s2:ad) (h6:O aI),h6=(if n.leaf=true/\dR fr key then acc++ [(key,n.vals.getD i [])] else acc)/\hM lo N bN aM s2 h6/\er ao bN f N 0) (λq m=>⟨n.leaf,d0,?_⟩) ?_
   .refine cz (λb w'=>b=decide (n.leaf=true/\dR fr key)/\f=w') (λr al=>⟨λa=>⟨fg,p.ve.cell,(kS G.1 p.xV).use ?_⟩,λa=>al _ _ ⟨by simp[a],rfl⟩⟩) ?_
    .rintro _ _ ⟨rfl,rfl⟩
     refine⟨_,rfl,al _ _ ⟨?_,rfl⟩⟩;rw[BJ,a];simp
    .rintro bn _ ⟨am,rfl⟩
     refine⟨λj=>aY ?_,λj=>?_⟩
     .rw[am]at j
      have j:=ck j;obtain⟨x,⟨k,hx⟩,B⟩:=H j.1;have C:Ext f f.drew:=cH _;have u:=F.ext C;obtain⟨aU,cF,aV,aW,aX,ap,bo⟩:=bt.at (Z.ext C).vals k;rw[←hx]at ap;have aZ:=bg.ext G C;have bp:=C.size;obtain⟨aq,a0,a1,a2,a3,a4⟩:=GI u I aZ ap I;refine⟨λ_=>False,id,z,u.v.cell,id,V,(bx (aa.ext C)).2.2.1,aU,aV,aW,id,cF,aX,(iE (tk,cF)).toArray,λbq=>?_,⟨some f.drew.heap.size,1,1⟩,_,GH _ _ rfl,dE _ _,aq,a0,a1,a2,a3,aY (m _ ?_)⟩
      .kernel_rfl
      .obtain⟨b7,cA⟩:=a4 _ rfl
       refine⟨_,aq,_,?_,b7,((er.ext ao C).trans cA)⟩;rw[if_pos j,fv,dr k,←hx];rfl
     .rw[am]at j
      have j:=cG j;exact m _ ⟨ao,z,acc,by rw[if_neg j],F,.refl _ _⟩
   .rintro N ⟨bN,s2,h6,y,u,au⟩
    have a5:=p.go au.to;have a7:=u.own.len;have ax:=l.trans au;have br:h6.length<=acc.length+1:=by rw[y];split<;>simp
    have bs:(0:Int)<=most:=by omega
    refine⟨s2,u.v.cell,most,a5.il.cell,λc=>?_,λc=>?_⟩
    .have he:(s2.len:Int)=most:=by simpa using c
     by_cases a:n.leaf=true
     .obtain⟨x,⟨k,hx⟩,B⟩:=H a
      have S:n.vals.getD i []=x:=by rw[fv,dr k,hx];rfl
      have e:i_ fr to most.toNat n acc (n.dh.drop i)=(false,h6):=by
       unfold i_;rw[if_pos a,B];unfold j3;rw[if_neg (ak a)];have U:(if dR fr key then acc++ [(key,x)] else acc)=h6:=by rw[y,S];simp[a]
       simp only[U];rw[if_pos I]
      rw[e]at g;exact⟨bN,s2,by rw[←g],by rw[←g];exact u,((er.ext T o).trans ax)⟩
     .exfalso
      rw[if_neg (λd=>a d.1)]at y;rw[y]at a7;omega
    .have he:¬(s2.len:Int)=most:=by simpa using c
     rw[R];refine⟨⟨i+1,bN,s2,h6,rfl,I,u,ax,I,I,?_⟩,?_⟩
     .rw[←g]
      unfold i_;by_cases a:n.leaf=true
      .obtain⟨x,⟨k,hx⟩,B⟩:=H a
       have S:n.vals.getD i []=x:=by rw[fv,dr k,hx];rfl
       rw[if_pos a,if_pos a,B]
       conv=>rhs;unfold j3
       rw[if_neg (ak a)];have U:(if dR fr key then acc++ [(key,x)] else acc)=h6:=by rw[y,S];simp[a]
       simp only[U];rw[if_neg I]
      .rw[if_neg a,if_neg a]
       rw[if_neg (λd=>a d.1)]at y;rw[y]
     .have:=aL N
      rw[R]at this;exact this
inductive Kids (W:Below):O Nat->O Nat->O aI->Prop
 |nil:Kids W [] [] []
 |cons {lo hi:au Key}{k:Nat}{kids bl bd:O Nat}{a7 bj:O aI} (h:W lo hi k bl a7) (t:Kids W kids bd bj):Kids W (k::kids) (bl++bd) (a7++bj)
theorem dg.kids{W:Below}{lo hi:au Key}{ks:O Key}{kids p:O Nat}{L:O aI}(h:dg W lo hi ks kids p L):Kids W kids p L:=by
 induction h with
 |one h=>
  have:=Kids.cons h .nil;rwa[fk,fk]at this
 |cons h _ a=>exact .cons h a
theorem GL(s:Key)(ks:O Key)(k:Key):cY (s::ks) k=if bz k s then 0 else cY ks k+1:=by
 unfold cY;rw[List.findIdx_cons];by_cases h:bz k s<;>simp[h]
theorem dg.from{W:Below}(cp:∀lo hi k p L,W lo hi k p L->∀q∈L,e7 lo hi q.1){lo hi:au Key}{ks:O Key}{kids p:O Nat}{L:O aI}(h:dg W lo hi ks kids p L)(k:Key):
 ∃ (bl bd:O Nat) (a7 bj:O aI),p=bl++bd/\L=a7++bj/\(∀q∈a7,bz q.1 k)/\Kids W (kids.drop (cY ks k)) bd bj:=by
 induction h with
 |one h=>exact⟨[],_,[],_,rfl,rfl,λ_ h=>(by cases h),(dg.one h).kids⟩
 | @cons lo hi s f bl bd a7 bj ks kids h t c=>
  rw[GL];by_cases b:bz k s
  .rw[if_pos b]
   exact⟨[],_,[],_,rfl,rfl,λ_ h=>(by cases h),(dg.cons h t).kids⟩
  .rw[if_neg b,List.drop_succ_cons]
   obtain⟨a1,a2,cv,bS,rfl,rfl,d,e⟩:=c;refine⟨bl++a1,a2,a7++cv,bS,by rw[cy],by rw[cy],λq a=>?_,e⟩;rcases cD.1 a with a|a
   .exact mA ((cp _ _ _ _ _ h q a).2 s rfl) b
   .exact d q a
theorem BK{L:O aI}{fr to:Key}(h:∀q∈L,bz q.1 fr):gq L fr to=[]:=by
 rw[vb];refine m0.2 λq a=>?_;unfold rK;have:¬dR fr q.1:=λb=>b (h q a);simp[this]
def BL(T:aF)(no:Nat):Prop:=(no<T.n/\2<=no)/\∃e,eY (no:Int) (T.C.view no)=.error e
theorem GM{w:J}{T:aF}{no:Nat}{o:aA}(h:bU w T)(u:T.C.D.aT<=999999999)(f:T.P no=some o\/BL T no):
 aJ aj 175 #[.pointer (some T.a8),no,o.leaf] w (λv w'=>∃aE:bO,er T (T.bm aE T.P) w w' 2/\bU w' (T.bm aE T.P)/\af (λq=>T.N q/\¬T.G q) w w'/\
  ((∃ (K V D:ad),v=.tuple #[cZ o K V D,(0:Int)]/\T.P no=some o/\bF (λq=>w.heap.size<=q/\¬(T.bm aE T.P).M q) w' o K V D)\/(∃e:Int,v=.tuple #[cZ hZ bu bu bu,e]/\e≠0/\((e=3/\¬T.C.D.calm 2)\/BL T no)))):=by
 have i:no<T.n:=f.elim (λb=>(h.ez no o b).1) λb=>b.1.1;have j:2<=no:=f.elim (λb=>(h.ez no o b).2.two) λb=>b.1.2;obtain⟨bE,k⟩:∃bE,bE=λq=>T.E q\/T.G q:=⟨_,rfl⟩;have d:∀q,T.E q\/T.G q->bE q:=λq a=>by rw[k];exact a
 have l:∀q,bE q->T.E q\/T.G q:=λq a=>by rw[k]at a;exact a
 have m:bU w (T.cj bE λ_=>False):=h.grow (W:=λ_=>False) (af.refl _ _) (λ_ h=>h.elim) (λq a=>(l q a).imp id .inl) (λ_ h=>h.elim) λ_ _ h=>h;have x:∀q,(T.cj bE λ_=>False).N q->T.N q/\¬T.G q:=λq a=>⟨by
  rcases a with a|a|a|a
  .exact .inl a
  .exact .inr (.inl a)
  .exact .inr (.inr (.inl a))
  .exact a.elim,λhg=>m.jY (d q (.inr hg)) a⟩
 refine(xI m u i j o.leaf).mono ?_;rintro v w' ⟨aE,y,ht,z,A⟩;have B:bD T (T.bm aE T.P) w w' 2:=bD.read (E:=bE) ht d λq a=>(l q a).imp id .inl;have F:af (λq=>T.N q/\¬T.G q) w w':=ht.ag.mono λq _ a=>x q a;refine⟨aE,.bm B z,?_,F,?_⟩
 .exact y.grow (E:=T.E) (G:=T.G) (W:=λ_=>False) (af.refl _ _) (λ_ h=>h.elim) (λq a=>.inl (d q (.inl a))) (λq a=>.inl (d q (.inr a))) λq a=>(h.dA q a).2.2
 .rcases A with ⟨bp,K,V,D,rfl,r,dM⟩|⟨e,rfl,H,I⟩
  .have s:T.P no=some o:=f.resolve_right λ⟨_,e,b⟩=>by
    obtain⟨p,g,_⟩:=r;have b:eY (no:Int) (T.C.view no)=.error e:=b;have g:eY (no:Int) (T.C.view no)=.ok p:=g;rw[b]at g;cases g
   obtain rfl:=gw.uniq (h.ez no o s).2 r;refine .inl ⟨K,V,D,rfl,s,dM.aX λq a t=>⟨t.1,λc=>t.2 ?_⟩⟩;rcases c with c|c|c|c|c
   .exact .inl c
   .exact .inr (.inl c)
   .exact .inr (.inr (.inl c))
   .exact .inr (.inr (.inr (.inl (d q (.inl c)))))
   .exact .inr (.inr (.inr (.inl (d q (.inr c)))))
  .refine .inr ⟨e,rfl,I,?_⟩
   rcases H with b|b|⟨_,_,b⟩
   .exact .inl b
   .exact .inr ⟨⟨i,j⟩,e,b⟩
   .exact f.elim (λL=>absurd (h.ez no o L).2 (b o)) .inr
theorem GN{w:J}{T:aF}{no:Nat}{o:aA}(h:bU w T)(j:T.C.D.aT<=999999999)(c:T.P no=some o):
 aJ aj 175 #[.pointer (some T.a8),no,o.leaf] w (λv w'=>∃aE:bO,er T (T.bm aE T.P) w w' 2/\bU w' (T.bm aE T.P)/\af (λq=>T.N q/\¬T.G q) w w'/\
  ((∃ (K V D:ad),v=.tuple #[cZ o K V D,(0:Int)]/\bF (λq=>w.heap.size<=q/\¬(T.bm aE T.P).M q) w' o K V D)\/(v=.tuple #[cZ hZ bu bu bu,(3:Int)]/\¬T.C.D.calm 2))):=by
 refine(GM h j (.inl c)).mono ?_;rintro v w' ⟨aE,d,f,g,⟨K,V,D,b,_,a⟩|⟨e,b,_,⟨rfl,a⟩|⟨_,k,a⟩⟩⟩
 .exact⟨aE,d,f,g,.inl ⟨K,V,D,b,a⟩⟩
 .exact⟨aE,d,f,g,.inr ⟨b,a⟩⟩
 .obtain⟨p,i,_⟩:=(h.ez no o c).2
  rw[a]at i;cases i
def GO(lo aM:Nat)(T:aF)(fr to:Key)(most:Int)(acc L:O aI)(a:Nat)(w:J)(v:aa)(w':J):Prop:=
 ∃ (ao:aF) (c:ad) (b:O aI),er T ao w w' (2*a)/\hM lo w' ao aM c b/\
  ((∃on:al,v=.tuple #[on,(0:Int)]/\gU fr to most.toNat acc L on b)\/(v=.tuple #[false,(3:Int)]/\¬T.C.D.calm (2*a)))
theorem GP:gW aj 218:=⟨Tryz.f218,func218,by kernel_rfl,by kernel_rfl⟩
theorem ep.top{P:Nat->au aA}{h:Nat}{lo hi:au Key}{no:Nat}{p:O Nat}{L:O aI}(c:ep P (h+1) lo hi no p L):∃ (n:aA) (b:O Nat),P no=some n/\n.leaf=decide (h=0)/\cr n/\p=no::b/\
 ((h=0/\gr n/\b=[]/\L=n.dh)\/(∃g,h=g+1/\wS n/\Kids (λlo hi k p L=>ep P h lo hi k p L) n.kids b L/\∀k:Key,∃ (bl bd:O Nat) (a7 bj:O aI),b=bl++bd/\L=a7++bj/\(∀q∈a7,bz q.1 k)/\Kids (λlo hi k p L=>ep P h lo hi k p L) (n.kids.drop (cY n.keys k)) bd bj)):=by
 match h,c with
 |0,⟨n,e,a,j,i,f,d⟩=>exact⟨n,[],e,a.leaf,.inl a,f,.inl ⟨rfl,a,rfl,d⟩⟩
 |h+1,⟨n,b,e,a,j,i,f⟩=>
  have d:=f.mono (V:=λlo hi k p L=>ep P (h+1) lo hi k p L) λ_ _ _ _ _ _ c=>c.1;refine⟨n,b,e,by rw[a.inner];simp,.inr a,i,.inr ⟨h,rfl,a,d.kids,λk=>d.from (λ_ _ _ _ _ c=>(ep.eE c).2) k⟩⟩
theorem gU.len{fr to:Key}{most:Nat}{acc L b:O aI}{on:al}(h:gU fr to most acc L on b)(c:gA L):b.length<=acc.length+L.length:=by
 have d:(gq L fr to).length<=L.length:=m_ _ _;rcases h with ⟨_,a,_⟩|⟨_,a⟩
 .rw[a,cn];omega
 .have:=a [] (by simpa using c)
  rw[this,fk,cE,cn];omega
theorem GQ{A:ah}{i c:Nat}(h:i<c):aU (some A) 1 i c=some (A.add i):=by
 unfold aU;rw[fj];split
 .rename_i a;omega
 .rfl
theorem GR(h:Nat):∀ {w:J}{T:aF}{lo aM a8 aR cT:Nat}{s e8 fg:ad}{acc L:O aI}{to fr:Key}{most:Int}{eR dz:au Key}{no:Nat}{p:O Nat},hM lo w T aM s acc->lo<=w.heap.size->p5 w T a8 aR cT e8 fg to fr most->h<=12->ep T.P h eR dz no p L->(acc.length:Int)<most->acc.length+L.length<=40000->T.C.D.aT+2*p.length<=999999999->
 aJ aj 217 #[.pointer (some T.a8),no,h,fg,.func (.func 218) #[] #[.pointer (some a8),.pointer (some aR),.pointer (some aM),.pointer (some cT)]] w (GO lo aM T fr to most acc L p.length w):=by
 induction h with
 |zero=>intro w T lo aM a8 aR cT s e8 fg acc L to fr most eR dz no p _ _ _ _ z;exact z.elim
 |succ h be=>
  intro w T lo aM a8 aR cT s e8 fg acc L to fr most eR dz no p ax b8 hf b9 z bf bg bh;obtain⟨n,b_,ay,bi,az,rfl,bl⟩:=z.top;have bn:=z.eE.1;have aA:=ax.t;have ca:=cr.eL az (by have:=aA.oe _ _ ay;omega);refine okF (ae.tV (some T.a8) (no:Nat) ((h+1:Nat):Int) fg ⟨218,#[],#[.pointer (some a8),.pointer (some aR),.pointer (some aM),.pointer (some cT)]⟩) aw.tV func217 ?_;(delta ae.tV kn z4 Y an aS r1 bW aD mm av;dsimp only);rw[Bf bi];refine(GN aA I ay).use ?_;rintro _ w1 ⟨aE,B,aB,aC,bo⟩;have cb:=aC.size;have aG:hM lo w1 (T.bm aE T.P) aM s acc:=ax.of aB B.to (λ_ h=>h) aC λq bp bq=>bq.2 bp;have br:=hf.go B.to;rcases bo with ⟨K,V,D,rfl,dM⟩|⟨rfl,U⟩
  rotate_left
  .refine⟨_,bu,bu,bu,3,rfl,a_ (vs:=[false,(),(),()]) rfl λbs v W bt=>⟨v.cd rfl (fp (b:=hZ.leaf) (K:=bu) (V:=bu) (D:=bu)),rfl,cK v (us:=dF hZ bu bu bu) rfl rfl λE F X bv=>⟨λ_=>?_,λhx=>(by simp at hx)⟩⟩⟩
   have f:Ext w1 E:=Ext.cx W X (bk _);refine⟨_,s,acc,((B.trans (er.ext _ f)).mono (by simp only[fF];omega)),aG.ext f,.inr ⟨rfl,λhc=>U (fK hc (by simp only[fF];omega))⟩⟩
  refine⟨_,K,V,D,0,rfl,a_ (vs:=[false,(),(),()]) rfl λbs v W bt=>⟨v.cd rfl fp,rfl,cK v (us:=dF n K V D) rfl rfl λE F X bv=>⟨λhx=>(by cases hx),λ_=>?_⟩⟩⟩;have f:Ext w1 E:=Ext.cx W X (bk _);obtain⟨nb,bz⟩:∃nb,nb=w1.heap.size:=⟨_,rfl⟩;rw[←bz]at F⊢;have aK:¬(T.bm aE T.P).M nb:=λZ=>by have:=aB.lt Z;omega
  have bA:=aG.ext f;have aL:=br.go (bD.ext _ f);have aN:bF (λq=>¬(T.bm aE T.P).M q) E n K V D:=(dM.ext f).aX λq _ c=>c.2;have cc:=f.size;obtain⟨bH,aQ,a6,ba⟩:=bx F;refine⟨_,bH,K,aQ,V,a6,D,ba,GP,?_⟩;refine(GK (no:Nat) bA I aL aN az I bf I).use ?_;rintro _ G ⟨bN,s2,rfl,x,l⟩;have aa:=(B.trans (er.ext _ f)).trans l;have aO:=aL.go l.to;have ce:=l.to.ag.size;have aP:acc.length<most.toNat:=by omega
  rcases bl with ⟨rfl,aU,rfl,rfl⟩|⟨g,rfl,ab,_,bB⟩
  .
   have y:n.leaf=true:=aU.leaf;have e:i_ fr to most.toNat n acc n.dh=j3 fr to most.toNat acc n.dh:=by unfold i_;rw[if_pos y]
   have d:=BE (fr:=fr) (to:=to) aU.dh.1 aP;rw[e]at x⊢;refine⟨_,rfl,λc=>?_,λc=>⟨λ_=>?_,λhx=>?_⟩⟩
   .have c:(j3 fr to most.toNat acc n.dh).1=false:=by simpa using c
    refine⟨bN,s2,_,aa.mono (by simp),x,.inl ⟨false,rfl,?_⟩⟩;rw[c]at d;exact d
   .have c:(j3 fr to most.toNat acc n.dh).1=true:=by simpa using c
    refine⟨bN,s2,_,aa.mono (by simp),x,.inl ⟨true,rfl,?_⟩⟩;rw[c]at d;exact d
   .rw[y]at hx;cases hx
  .
   have y:n.leaf=false:=ab.inner;have e:i_ fr to most.toNat n acc n.dh=(true,acc):=by unfold i_;rw[y];rfl
   rw[e]at x⊢;refine⟨true,rfl,λc=>(by cases c),λ_=>⟨λc=>(by rw[y]at c;cases c),λ_=>aY ?_⟩⟩;have ac:Ext G G.drew:=cH _;have aV:Var G.drew nb (dF n K V D) 169:=(F.ag l.to.ag λZ=>aK (aF.gd Z)).drew;have cf:=(l.to.out (q:=nb) I aK).1;have af:bF (λq=>¬bN.M q) G.drew n K V D:=(l.to.hZ aN).ext ac;have bC:=aO.go (bD.ext bN ac);obtain⟨d0,d1,d2,d3⟩:=bx aV;refine⟨λ_=>False,id,D,d3,id,_,d0,K,d1,V,d2,D,d3,(nG af bC.xV ab.eE I).use ?_⟩;rintro _ bE ⟨rfl,H⟩;have cg:=uu n.keys fr;have ch:=af.kids.len;have ci:=ab.len;obtain⟨cj,aW,a7,bj,rfl,rfl,aZ,bG⟩:=bB fr;have N:=ac.trans H;have bI:=aa.trans (er.ext bN N);have bJ:=x.ext N;have bK:=aO.go (bD.ext bN N);have ah:=af.ext H;have cl:=aV.ext H;have cm:=N.size;have co:n.kids.length<=100000:=by omega
   have cp:cY n.keys fr<D.len:=by omega
   obtain⟨A,ar,cq⟩:∃A,D.a=some A/\D.len<=D.cap:=by
    obtain⟨A,ar,_⟩:=cM.at ah.kids (i:=0) I;exact⟨A,ar,ah.kids.2.1⟩
   refine⟨_,rfl,H,⟨I,I⟩,λi w'=>∃ (j:Nat) (cL:aF) (Q:ad) (lP:O aI) (m qr:O Nat) (o ai:O aI),i=(j:Int)/\j<=D.len-cY n.keys fr/\hM lo w' cL aM Q lP/\er T cL w w' (2+2*m.length)/\er bN cL bE w' (2*m.length)/\Kids (λlo hi k p L=>ep T.P (g+1) lo hi k p L) (n.kids.drop (cY n.keys fr+j)) qr ai/\aW=m++qr/\bj=o++ai/\gU fr to most.toNat acc o true lP,
    λi _=>((D.len:Int)-i).toNat,⟨0,bN,s2,acc,[],aW,[],bj,rfl,cO _,bJ,bI.mono (by simp),.refl _ _,bG,rfl,rfl,.nil aP⟩,?_⟩
   rintro _ a0 ⟨j,cL,Q,lP,m,qr,o,ai,rfl,cs,a1,r,R,S,rfl,rfl,d⟩;have bL:(((cY n.keys fr:Nat):Int)).toNat=cY n.keys fr:=dm _;rw[bL];refine⟨λaH=>?_,λbM=>?_⟩
   rotate_left
   .
    have bO:j=D.len-cY n.keys fr:=by
     have:¬(j:Int)<((D.len-cY n.keys fr:Nat):Int):=cG bM;omega
    have hd:n.kids.drop (cY n.keys fr+j)=[]:=List.drop_eq_nil_of_le I;rw[hd]at S
    cases S;refine⟨cL,Q,lP,r.mono (by simp only[cn,fF,kg];omega),a1,.inl ⟨true,rfl,.skip (BK aZ) ?_⟩⟩;rw[fk];exact d
   .have bO:j<D.len-cY n.keys fr:=by
     have:(j:Int)<((D.len-cY n.keys fr:Nat):Int):=ck aH;omega
    have a2:cY n.keys fr+j<n.kids.length:=by omega
    have bP:=R.to.hZ ah;have bQ:=bK.go R.to;have ct:=R.to.ag.size;obtain⟨cu,a3,c,ak⟩:=cM.at bP.kids a2;rw[ar]at a3
    cases a3;obtain⟨u,a4⟩:∃u,u=n.kids[cY n.keys fr+j]:=⟨_,rfl⟩;rw[←a4]at ak;have bR:n.kids.drop (cY n.keys fr+j)=u::n.kids.drop (cY n.keys fr+j+1):=by rw[k7 a2,a4]
    rw[bR]at S
    cases S with
    | @cons bS bT _ _ al bU a5 bV bX bY=>
    have bZ:cL.P=T.P:=r.P;have b0:a0.cell? ((A.add (cY n.keys fr)).add (Int.toNat (j:Int)*1))=some (.int .i64 (u:Int)):=by
     rw[dm,fj,add_add];rw[dm,fj]at ak;exact ak
    have b1:IntKind.wrap .i64 (((g+1+1:Nat):Int)-1)=((g+1:Nat):Int):=by rw[bw I I];omega
    have b2:IntKind.wrap .i64 ((j:Int)+1)=((j+1:Nat):Int):=by rw[bw I I];omega
    have b3:cL.a8=T.a8:=r.to.a8;simp only[fF,cn]at bh bg;have b4:(lP.length:Int)<most/\lP.length<=acc.length+o.length:=by
     have b5:gA o:=(rk.1 (rk.1 bn).2.1).1;refine⟨?_,d.len b5⟩;rcases d with ⟨_,_,a9⟩|⟨a9,_⟩
     .omega
     .cases a9
    have cv:=r.to.aT;have bb:=be (w:=a0) (T:=cL) (lo:=lo) (aM:=aM) (a8:=a8) (aR:=aR) (cT:=cT) (s:=Q) (e8:=e8) (fg:=fg) (acc:=lP) (L:=a5) (to:=to) (fr:=fr) (most:=most) (eR:=bS) (dz:=bT) (no:=u) (p:=al) a1 I bQ I (by rw[bZ];exact bX) b4.1 I I;rw[b3]at bb;refine⟨A.add (cY n.keys fr),by rw[ar];exact GQ I,⟨I,I⟩,u,b0,?_⟩;rw[b1,b2];refine bb.use ?_;rintro _ b6 ⟨iv,am,ao,bc,ap,b7⟩;have aq:er T iv w b6 (2+2*(m.length+al.length)):=(r.trans bc).mono I;rcases b7 with ⟨on,rfl,bd⟩|⟨rfl,U⟩
    .refine⟨on,0,rfl,λc=>?_,λc=>?_⟩
     .have c:on=false:=by simpa using c
      subst c;refine⟨iv,am,ao,aq.mono (by simp only[cn,fF];omega),ap,.inl ⟨false,rfl,.skip (BK aZ) ?_⟩⟩;rw[←cy];exact(d.app bd).stop
     .have c:on=true:=by simpa using c
      subst c;refine⟨⟨j+1,iv,am,ao,m++al,bU,o++a5,bV,rfl,I,ap,?_,?_,?_,by rw[cy],by rw[cy],d.app bd⟩,?_⟩
      .rw[cn];exact aq
      .rw[cn];exact(R.trans bc).mono I
      .rw[←Nat.add_assoc];exact bY
      .show((D.len:Int)-((j+1:Nat):Int)).toNat<((D.len:Int)-(j:Int)).toNat
       omega
    .refine⟨false,3,rfl,λ_=>?_,λc=>(by simp at c)⟩
     refine⟨iv,am,ao,aq.mono (by simp only[cn,fF];omega),ap,.inr ⟨rfl,λhc=>U (r.to.calm _ (fK hc (by simp only[cn,fF];omega)))⟩⟩
def GS(T:aF)(L:O aI)(fr to:Key)(most:Int)(a:Nat)(w:J)(v:aa)(w':J):Prop:=
 ∃ao:aF,bU w' ao/\er T ao w w' (2*a)/\ao.G=T.G/\
  ((∃s:ad,v=.tuple #[s,(0:Int)]/\e2 (λq=>¬ao.M q) w' s ((gq L fr to).take most.toNat))\/(v=.tuple #[(),(3:Int)]/\¬T.C.D.calm (2*a)))
theorem e2.none(B:Nat->Prop)(w:J):e2 B w ⟨.none,0,0⟩ []:=(j4.none B w).r λq a=>(fZ q a).elim
theorem er.back{T ao:aF}{w w':J}{k:Nat}(ht:bU w T)(h:er T ao w w' k)(b:bU w' ao):bU w' (ao.cj T.E T.G)/\er T (ao.cj T.E T.G) w w' k:=
 ⟨b.grow (W:=λ_=>False) (af.refl _ _) (λ_ h=>h.elim) (λq a=>.inl (by rw[h.E];exact a)) (λq a=>.inr (.inl (h.G q a))) λq a=>(ht.dA q a).2.2,
  h.to.step (W:=λ_=>False) (af.refl _ _) (λ_ h=>h.elim) (λq a=>.inl (by rw[h.E];exact a)) (λq a=>.inl (h.G q a)),rfl,λ_ h=>h,h.root,h.aG,h.f,h.P,h.view⟩
theorem GU{w:J}{T:aF}{pages:O Nat}{L:O aI}{fg e8:ad}{fr to:Key}{most:Int}(h:bU w T)(K:gj T pages L)(aS:L.length<=30000)(ap:T.C.D.aT+2*pages.length<=999999999)
 (hf:Src 1 w fg (ax fr)) (x:∀q,ay fg q->q<w.heap.size/\¬T.M q) (ht:Src 1 w e8 (ax to)) (y:∀q,ay e8 q->q<w.heap.size/\¬T.M q) (aU:to.length<=1000000):
 aJ aj 169 #[.pointer (some T.a8),fg,e8,most] w (GS T L fr to most pages.length w):=by
 have aq:=h.num.2.1;refine okF (ae.tK (some T.a8) fg e8 most) aw.tK func169 ?_;(delta ae.tK an aD Y r1 mm;dsimp only);refine a_ (vs:=[fg]) rfl λw1 N Q aV=>a_ (vs:=[e8]) rfl λai R z aW=>a_ (vs:=[most]) rfl λS A o aZ=>⟨λh=>(by cases h),λ_=>?_⟩;have B:=(Q.trans z).trans o;have U:=h.ext B;refine⟨_,rfl,_,U.cells.2.2.2.2,cz (λb w'=>b=decide (T.aG=0\/most<1)/\S=w') (λq c=>⟨λd=>c _ _ ⟨?_,rfl⟩,λd=>⟨_,A.cell,c _ _ ⟨?_,rfl⟩⟩⟩) ?_⟩
 .have:T.aG=0:=by simpa using d
  simp[this]
 .have:T.aG≠0:=by simpa using d
  simp[this]
 rintro _ _ ⟨rfl,rfl⟩;refine⟨λd=>?_,λd=>?_⟩
 .have d:=ck d
  have e:(gq L fr to).take most.toNat=[]:=by
   rcases d with d|d
   .rcases K with ⟨_,_,_,ar⟩|g
    .rw[ar];simp[gq]
    .rw[d]at g;exact g.elim
   .have:most.toNat=0:=by omega
    rw[this,List.take_zero]
  refine⟨T,U,(er.ext T B).mono I,rfl,.inl ⟨⟨none,0,0⟩,rfl,?_⟩⟩;rw[e];exact e2.none _ _
 have d:=cG d;have g:ep T.P T.aG none none T.root pages L:=by
  rcases K with ⟨au,_⟩|g
  .exact absurd (.inl au) d
  .exact g
 refine a_ (vs:=[()]) rfl λF V l a0=>aY ?_;have i:Ext F F.drew:=cH _;obtain⟨k,av⟩:∃k,k=F.drew:=⟨_,rfl⟩;rw[←av]at i⊢;obtain⟨aM,X⟩:∃aM,aM=S.heap.size:=⟨_,rfl⟩;obtain⟨aR,Z⟩:∃aR,aR=w.heap.size:=⟨_,rfl⟩;obtain⟨a8,aa⟩:∃a8,a8=w1.heap.size:=⟨_,rfl⟩;obtain⟨cT,ab⟩:∃cT,cT=ai.heap.size:=⟨_,rfl⟩;rw[←X]at V;rw[←Z]at N;rw[←aa]at R;rw[←ab]at A;rw[←X,←Z,←aa,←ab];have m:=(B.trans l).trans i;have a1:=Q.size;have a2:=z.size;have a3:=o.size;have a4:=l.size;have a5:=i.size;have ac:=V.ext i;have a6:=ac.lt;have H:∀q,w.heap.size<=q->¬T.M q:=λq c a=>by have:=h.lt a;omega
 obtain⟨bL,j⟩:∃bL,bL=T.cj T.E λq=>T.G q\/q=aM:=⟨_,rfl⟩;have az:bU k bL:=by
  rw[j];refine h.grow (W:=λ_=>False) m (λ_ h=>h.elim) (λq c=>.inl c) (λq c=>.inr (c.imp id λe=>⟨I,I⟩)) λq c hg=>?_;rcases hg with hg|hg
  .exact(h.dA q c).2.2 hg
  .have:=h.lt (q:=q) (.inr (.inr (.inr (.inl c))));omega
 have aA:er T bL w k 0:=by
  rw[j];exact⟨(bD.refl T w).step (W:=λ_=>False) m (λ_ h=>h.elim) (λq c=>.inl c) λq c=>c.imp id λe=>I,rfl,λ_ h=>.inl h,rfl,rfl,rfl,rfl,λ_=>rfl⟩
 have n:∀q,¬T.M q->q≠aM->¬bL.M q:=λq c aB a=>by
  rw[j]at a;rcases a with a|a|a|a|a
  .exact c (.inl a)
  .exact c (.inr (.inl a))
  .exact c (.inr (.inr (.inl a)))
  .exact c (.inr (.inr (.inr (.inl a))))
  .rcases a with a|a
   .exact c (.inr (.inr (.inr (.inr a))))
   .exact aB a
 have aC:bL.a8=T.a8:=by rw[j];rfl
 have ag:bL.C=T.C:=by rw[j];rfl
 have aE:bL.P=T.P:=by rw[j];rfl
 have aH:hM w.heap.size k bL aM ⟨none,0,0⟩ []:=⟨az,ac,j4.none _ _,by rw[j];exact .inr rfl,λq c=>(fZ q c).elim⟩;have ah:p5 k bL a8 aR cT e8 fg to fr most:=⟨(((R.ext o).ext l).ext i),((((N.ext z).ext o).ext l).ext i),((A.ext l).ext i),n _ (H _ I) I,n _ (H _ I) I,n _ (H _ I) I,
  ht.ext m,hf.ext m,λq c=>⟨by have:=(y q c).1;omega,n q (y q c).2 (by have:=(y q c).1;omega)⟩,λq c=>⟨by have:=(x q c).1;omega,n q (x q c).2 (by have:=(x q c).1;omega)⟩,I⟩
 have ak:=GR T.aG (acc:=[]) (no:=T.root) (L:=L) (p:=pages) (eR:=none) (dz:=none) aH I ah aq (by rw[aE];exact g) (by show(((([]:O aI).length:Nat)):Int)<most;simp only[kg];omega) (by simp only[kg];omega) (by rw[ag];exact ap);rw[aC]at ak;have al:=h.ext m;refine⟨λ_=>False,_,rfl,id,_,al.cells.2.2.2.1,_,rfl,id,_,al.cells.2.2.2.2,id,_,ah.ve.cell,af.refl _ _,ak.use ?_⟩;rintro _ aK ⟨ao,am,a7,aL,f,aN⟩;have s:er T ao w aK (2*pages.length):=(aA.trans aL).mono I;obtain⟨cv,bS⟩:=s.back h f.t;rcases aN with ⟨on,rfl,aO⟩|⟨rfl,aP⟩
 .refine⟨on,0,rfl,λhx=>(by cases hx),λ_=>⟨am,f.v.cell,_,cv,bS,rfl,.inl ⟨am,rfl,?_⟩⟩⟩
  have he:=aO.all g.eE.1;rw[←he];have aQ:∀q,¬ao.M q->¬(ao.cj T.E T.G).M q:=λq c a=>c (by
   rcases a with a|a|a|a|a
   .exact .inl a
   .exact .inr (.inl a)
   .exact .inr (.inr (.inl a))
   .exact .inr (.inr (.inr (.inl (by rw[s.E];exact a))))
   .exact .inr (.inr (.inr (.inr (s.G q a)))))
  refine(f.own.aX λq _ c=>aQ q c).r λq c a=>?_;obtain⟨u,a9,ba⟩:=f.gs q c;rcases a with a|a|a|a|a
  .exact f.t.u4 u a
  .exact(f.t.iC q u).1 a
  .exact(f.t.iC q u).2 a
  .exact(f.t.dA q (by rw[s.E];exact a)).2.2 u
  .have:=h.lt (q:=q) (.inr (.inr (.inr (.inr a))));omega
 .exact⟨false,3,rfl,λ_=>⟨_,cv,bS,rfl,.inr ⟨rfl,by rw[←ag];exact aP⟩⟩,λhx=>(by simp at hx)⟩
theorem BM{w:J}{T:aF}(h:bU w T):aJ aj 128 #[.pointer (some T.a8)] w (λv w'=>v=.tuple #[T.root,T.aG]/\Ext w w'):=by
 refine okF (ae.tH (some T.a8)) aw.tH func128 ?_;(delta ae.tH an aD;dsimp only);have hd:=h.ext (cH w);exact⟨λh=>(by cases h),λ_=>aY ⟨_,rfl,id,_,hd.cells.2.2.2.1,_,rfl,id,_,hd.cells.2.2.2.2,rfl,cH w⟩⟩
theorem xW{α:Type}{c:α->O aa}{sz:Nat}:∀ (l:O α) (i:Nat),(∀x∈l,(c x).length=sz)->(bQ c l).take (i*sz)=bQ c (l.take i)/\(bQ c l).drop (i*sz)=bQ c (l.drop i)
 |l,0,_=>by simp[bQ]
 | [],i+1,_=>by simp[bQ]
 |x::l,i+1,h=>by
  obtain⟨a,b⟩:=xW l i λy d=>h y (by simp[d])
  have hx:=h x (by simp)
  have e:(i+1)*sz=(c x).length+i*sz:=by rw[jd,hx];omega
  rw[pU,e,List.take_length_add_append,List.drop_length_add_append,a,b]
  exact⟨rfl,rfl⟩
theorem GV(l:O (ad×ad)):(bQ iE l).length=l.length*2:=gu _ (og l)
section
variable {B C W:Nat->Prop}{w w':J}{s:ad}{ps H_:O (ad×ad)}{L M:O aI}
theorem hL.take(h:hL B w ps L)(i:Nat):hL B w (ps.take i) (L.take i):=by
 refine⟨by simp[h.1],λj a b=>?_⟩;simp only[m4];exact h.2 _ (by rw[cE]at a;omega) (by rw[cE]at b;omega)
variable {Ia:O aa}{Ib:TypeId}{cT:Nat}{key val:Key}{tk cF:ad}
theorem BN(h:e2 B w s L){i:Nat}(hi:i<L.length):∃ (A:ah) (tk cF:ad),s.a=some A/\((0:Int)<=(i:Int)/\(i:Int)<(s.len:Int))/\w.cell? (A.add (Int.toNat (i:Int)*2))=some (.slice tk.a tk.len tk.cap)/\w.cell? ((A.add (Int.toNat (i:Int)*2)).add 1)=some (.slice cF.a cF.len cF.cap)/\
 bg B w tk L[i].1/\bg B w cF L[i].2:=by
 obtain⟨A,tk,cF,b,_,c,d,e,f,g⟩:=h.at hi;rw[dm];exact⟨A,tk,cF,b,c,d,e,f,g⟩
theorem Src.GW(h:Src 2 w s (bQ iE ps))(hc:s.len<=s.cap){lo hi:Nat}(b:lo<=hi)(d:hi<=ps.length):Src 2 w ⟨aU s.a 2 lo s.cap,hi-lo,s.cap-lo⟩ (bQ iE ((ps.drop lo).take (hi-lo))):=by
 have c:=h.len;rw[GV]at c;have:=Src.cut h hc b (hi:=hi) I;rw[(xW ps lo (og ps)).2,(xW (ps.drop lo) (hi-lo) (og _)).1]at this;exact this
end
def xX(n:Nat)(root aG:Int):Prop:=0<=aG/\aG<=12/\0<=root/\root<n/\(root=0↔aG=0)
theorem pk{w:J}{C:bO}(hc:eU w C)(sb:Nat)(gen root aG:Int):
 aJ aj 121 #[.pointer (some C.c),.pointer (some sb),.int .u64 gen,root,aG] w (λv w'=>
  (xX C.D.n root aG/\v=.tuple #[.pointer (some w.heap.size),(0:Int)]/\Ext w w'/\Var w' w.heap.size [.pointer (some C.c),.pointer (some sb),.int .u64 gen,root,aG] 243/\w'.heap.size=w.heap.size+1)\/
  (¬xX C.D.n root aG/\v=.tuple #[.pointer none,(1:Int)]/\w=w')):=by
 refine okF (ae.pk (some C.c) (some sb) gen root aG) aw.pk func121 ?_;delta ae.pk an bW Y;refine cz (λb w'=>(b=false↔(0<=aG/\aG<=12/\0<=root/\root<C.D.n))/\w=w') (λq j=>⟨λa=>j _ _ ⟨?_,rfl⟩,λa=>⟨_,rfl,_,hc.cells.1,(uU hc.dev).use ?_⟩⟩) ?_
 .simp only[Option.isNone_some,lZ,ie,cu]at a
  exact⟨λh=>(by cases h),λh=>I⟩
 .rintro _ _ ⟨rfl,rfl⟩
  simp only[Option.isNone_some,lZ,qc,kF]at a;refine⟨_,rfl,j _ _ ⟨?_,rfl⟩⟩;rw[kF];omega
 rintro b _ ⟨k,rfl⟩;refine⟨λa=>.inr ⟨λhg=>?_,rfl,rfl⟩,λa=>?_⟩
 .have d:=k.2 ⟨hg.1,hg.2.1,hg.2.2.1,hg.2.2.2.1⟩
  rw[d,lZ]at a;have g:=hg.2.2.2.2;by_cases f:root=0
  .rw[f,g.1 f]at a;simp at a
  .have i:aG≠0:=λe=>f (g.2 e)
   have l:(root==0)=false:=by simpa using f
   have m:(aG==0)=false:=by simpa using i
   rw[l,m]at a
   cases a
 .rw[qc]at a
  have d:=k.1 a.1;have g:root=0↔aG=0:=by
   have f:=a.2;by_cases i:root=0<;>by_cases o:aG=0<;>simp[i,o]at f⊢
  refine a_ (vs:=[.pointer (some C.c),.pointer (some sb),.int .u64 gen,root,aG]) rfl λr p hx hs=>.inl ⟨⟨d.1,d.2.1,d.2.2.1,d.2.2.2,g⟩,rfl,hx,p,hs⟩
theorem gj.rising{T:aF}{pages:O Nat}{L:O aI}(h:gj T pages L):gA L:=by
 rcases h with ⟨_,_,_,a⟩|b
 .rw[a];exact List.Pairwise.nil
 .exact b.eE.1
section
variable {w0 w w':J}{iV cT:Nat}{T ao:aF}{r h k:Nat}{pages:O Nat}{L kA:O aI}{ms:ad}
theorem bU.j5{j2:Nat}(ht:bU w T)(a:T.E j2)(hc:af (λq=>q=j2) w w'):bU w' T:=
 ht.grow (E:=T.E) (G:=T.G) hc (λq e _=>.inl (by rw[e];exact a)) (λq a=>.inl a) (λq a=>.inr (.inl a)) λq a=>(ht.dA q a).2.2
end
def aF.xY(T:aF)(f g:Nat->al)(s1 s2:ad):aF:={T with f:=f,g:=g,s1:=s1,s2:=s2}
section
variable {w0 w w':J}{iV cT:Nat}{T ao:aF}{r h k:Nat}{pages:O Nat}{L kA:O aI}{ms:ad}
theorem bU.space{f g:Nat->al}{s1 s2:ad}(ht:bU w T)(hs:e1 w' T.sb T.n f g s1 s2)(hc:af (gb T.sb T.s1 T.s2) w w')(hf:∀k,gb T.sb s1 s2 k->gb T.sb T.s1 T.s2 k\/w.heap.size<=k)(d:∀j,T.C.D.bT j=true->g j=true\/T.C.D.ro)(e:g 0=true/\g 1=true):
 bU w' (T.xY f g s1 s2)/\∀q,(T.xY f g s1 s2).M q->T.M q\/w.heap.size<=q:=by
 have c:∀q,T.X q->¬gb T.sb T.s1 T.s2 q->¬gb T.sb s1 s2 q:=λq hx a i=>by
  rcases hf q i with b|b
  .exact a b
  .have:=ht.lt (q:=q) (.inr hx);omega
 refine⟨⟨ht.t.ag hc ht.jB,hs,ht.ca.grow hc (λq a _=>.inr (.inl a)) λq a=>?_,c _ (.inl rfl) ht.jB,λq a=>⟨(ht.dA q a).1,c q (.inr (.inr (.inl a))) (ht.dA q a).2.1,(ht.dA q a).2.2⟩,λq a=>⟨(ht.iC q a).1,c q (.inr (.inr (.inr a))) (ht.iC q a).2⟩,ht.n,ht.num,ht.ez,d,e⟩,λq a=>?_⟩
 .rcases a with a|a|a|a
  .exact .inl (.inl a)
  .rcases hf q a with b|b
   .exact .inl (.inr (.inl b))
   .exact .inr ⟨b,hs.lt q a⟩
  .exact .inl (.inr (.inr (.inl a)))
  .exact .inl (.inr (.inr (.inr a)))
 .rcases a with a|a|a|a|a
  .exact .inl (.inl a)
  .exact .inl (.inr (.inl a))
  .exact(hf q a).imp (λh=>.inr (.inr (.inl h))) id
  .exact .inl (.inr (.inr (.inr (.inl a))))
  .exact .inl (.inr (.inr (.inr (.inr a))))
theorem gj.agree{p:O Nat}(a:gj T p L)(b:ao.root=T.root)(c:ao.aG=T.aG)(d:∀x∈p,T.P x=ao.P x):gj ao p L:=by
 unfold gj at a⊢;rw[b,c];exact a.imp id λe=>(e.agree d).1
end
theorem xZ{i:Nat}(h:i<=1000000):IntKind.wrap .i64 ((i:Int)+1)=((i+1:Nat):Int):=by rw[bw I I];omega
section
variable {w0 w w':J}{iV cT:Nat}{T ao:aF}{r h k c:Nat}{pages aK:O Nat}{L kA bB:O aI}{V:Nat->c0}{ms l:ad}
end
section
variable {w0 w w':J}{iV cT:Nat}{T ao:aF}{r h k c:Nat}{pages aK:O Nat}{L kA bB:O aI}{V:Nat->c0}{ms l:ad}
theorem GX(w:J):Src 1 w bu (ax []):=(aV.none 1 5 w).src
end
theorem BO:∀ {a b:O Nat},a.Nodup->(∀x∈a,x∈b)->a.length<=b.length
 | [],_,_,_=>cO _
 |x::a,b,d,hs=>by
  obtain⟨f,g⟩:=List.nodup_cons.1 d
  have hx:=hs x (by simp)
  have:=BO (a:=a) (b:=b.erase x) g λy c=>(List.mem_erase_of_ne (λe=>f (by rw[←e];exact c))).2 (hs y (iJ _ c))
  rw[List.length_erase_of_mem hx]at this
  have:=List.length_pos_of_mem hx
  rw[fF];omega
theorem GY{t:Nat->al}{l:O Nat}(n:Nat)(h:∀i,i<n->t i=true->i∈l):ey t n<=l.length:=by
 have a:∀n,ey t n=((List.range n).filter t).length:=by
  intro n
  induction n with
  |zero=>rfl
  |succ n b=>
   rw[List.range_succ,jK,cn,ey,b,lf,List.filter_nil]
   cases t n<;>rfl
 rw[a];refine BO (List.nodup_range.filter t) λx hx=>?_;rw[gk,jG]at hx;exact h x hx.1 hx.2
section
variable {α:Type}{P:Program}{w w':J}{gI kO T:TypeId}{enc:α->aa}{r m:Nat}{L:O (α×aa×Nat)}{seen:O Nat}
structure j6(w:J)(r m:Nat)(enc:α->aa)(L:O (α×aa×Nat))(seen:O Nat):Prop where
 it:∃a:Nat,w.heap[r]? =some (.mapIter (some m) a seen.toArray a)/\w.heap[m]? =some (.map (L.map (dQ enc)).toArray a)/\∀x∈L,x.2.2<a
 b1:(L.map (·.2.2)).Nodup
def fM(L:O (α×aa×Nat))(seen:O Nat):O (α×aa×Nat):=L.filter λx=> !seen.contains x.2.2
theorem BP(P:Program){n:Nat}(b:1<=n)(w:J):∃ (i:Nat) (w':J),i<n/\(choose (.mapNext n)).run P w=.ok i w'/\(w'=w\/w'=w.drew):=by
 by_cases h:n<=1
 .refine⟨0,w,I,?_,.inl rfl⟩
  show Sem.run P (.choose (.mapNext n) .pure) w=_;have a:(Question.mapNext n).forced=true:=by simp[Question.forced,h]
  simp only[Sem.run,a,if_true]
 .refine⟨(Question.mapNext n).cut (w.tape w.drawn (.mapNext n)),w.drew,g4 _ I,?_,.inr rfl⟩
  show Sem.run P (.choose (.mapNext n) .pure) w=_;have a:(Question.mapNext n).forced=false:=by simp[Question.forced,h]
  simp only[Sem.run,a,fE,if_false];rfl
theorem x0{a:au Nat}{b d:Nat}{c:Array Nat}(h:w.heap[r]? =some (.mapIter a b c d)):(getObj r).run P w=.ok (.mapIter a b c d) w:=by simp[getObj,Sem.run,h]
theorem GZ{a:au Nat}{b d:Nat}{c:Array Nat}(h:w.heap[r]? =some (.mapIter a b c d))(e:Obj):(setObj r e).run P w=.ok () (hA w r e):=by simp[setObj,Sem.run,h,hA]
theorem j6.begin{M:O (α×aa)}(h:ee w m enc M){T:TypeId}{gI kO:TypeId}(c:P.underlying T=some (.map gI kO)):∃ (L:O (α×aa×Nat)) (w1:J),(L.map lr).Perm M/\(Instr.range T (.map (some m))).run P w=.ok (.pointer (some w.heap.size)) w1/\j6 w1 w.heap.size m enc L []/\Ext w w1/\w1.heap.size=w.heap.size+1:=by
 have aH:=h.lt;obtain⟨L,a,b,d,g,e,f⟩:=h;refine⟨L,w.alloc (.mapIter (some m) a #[] a),d,?_,⟨⟨a,?_,?_,f⟩,e⟩,af.alloc (.refl _ _) _,by simp⟩
 .simp only[Instr.range,Sem.run_bind,cP c,Result.andThen,lv b,Sem.run_pure,newObj,Sem.run]
  rfl
 .show(w.heap.push _)[w.heap.size]? =_
  simp
 .show(w.heap.push _)[m]? =_
  rw[Array.getElem?_push_lt aH];exact(Array.getElem?_eq_getElem aH).symm.trans b
theorem j6.next(h:j6 w r m enc L seen)(G:r≠m)(T:TypeId):
 (fM L seen=[]/\∃w1,(Instr.next (.pointer (some r)) false T).run P w=.ok (.tuple #[false]) w1/\Ext w w1/\w1.heap=w.heap)\/
 (∃x∈fM L seen,∃w1,(Instr.next (.pointer (some r)) false T).run P w=.ok (.tuple #[true,enc x.1,x.2.1]) w1/\j6 w1 r m enc L (seen++ [x.2.2])/\af (λq=>q=r) w w1/\w1.heap.size=w.heap.size/\(Instr.entry (.pointer (some r))).run P w1=.ok (.tuple #[enc x.1,x.2.1]) w1):=by
 obtain⟨⟨a,k,d,f⟩,o⟩:=h;have p:(!seen.toArray.isEmpty&& !((L.map (dQ enc)).toArray).isEmpty&&((L.map (dQ enc)).toArray).all λe=>decide (e.born>=a))=false:=by
  cases L with
  |nil=>simp
  |cons x L=>
   have:¬a<=x.2.2:=by have:=f x (by simp);omega
   simp[dQ,this]
 have g:((L.map (dQ enc)).toArray.filter λe=> !seen.toArray.contains e.born)=((fM L seen).map (dQ enc)).toArray:=by
  rw[List.filter_toArray,List.filter_map]
  congr 1
  unfold fM
  congr 1
  apply qm;intro x _;simp only[Function.comp,dQ,List.contains_toArray]
 have aH:∀x∈fM L seen,x.2.2<a:=λx hx=>f x (gk.1 hx).1;have hold:(((fM L seen).map (dQ enc)).toArray.filter λe=>decide (e.born<a))=((fM L seen).map (dQ enc)).toArray:=by
  rw[List.filter_toArray,jJ.2];intro e he;obtain⟨x,hx,rfl⟩:=fq.1 he;exact dO (aH x hx)
 have j:(((fM L seen).map (dQ enc)).toArray.filter λe=>decide (e.born>=a))= #[]:=by
  rw[List.filter_toArray,m0.2];intro e he;obtain⟨x,hx,rfl⟩:=fq.1 he;have:=aH x hx;have H:¬a<=x.2.2:=by omega
  simp[dQ,H]
 cases b:fM L seen with
 |nil=>
  rw[b]at g hold j;obtain⟨i,w1,hi,hc,c⟩:=BP P (n:=1) (bk _) w;have I:i=0:=by omega
  subst I;refine .inl ⟨rfl,w1,?_,?_,?_⟩
  .simp only[Instr.next,Sem.run_bind,x0 k,Result.andThen,lv d,p,fE,if_false,g,hold,j]
   simp only[List.map_nil,Array.isEmpty,r4,kg,decide_true,if_true];have e:(#[none]++((#[]:Array MapEntry)++ #[]).map some:Array (au MapEntry)).size=1:=by simp
   have s:((#[none]++((#[]:Array MapEntry)++ #[]).map some:Array (au MapEntry)))[0]? =some none:=by simp
   simp only[e,Sem.run_bind,hc,Result.andThen,s,Sem.run_pure,Sem.run_pure]
  .rcases c with rfl|rfl
   .exact .refl _ _
   .exact af.drew (.refl _ _)
  .rcases c with rfl|rfl<;>rfl
 |cons y l=>
  right;rw[←b];have B:1<=(fM L seen).length:=by rw[b];simp
  obtain⟨i,w1,hi,hc,c⟩:=BP P (n:=(fM L seen).length) B w;have t:w1.heap=w.heap:=by rcases c with rfl|rfl<;>rfl
  obtain⟨x,hx⟩:∃x,x=(fM L seen)[i]:=⟨_,rfl⟩;have u:x∈fM L seen:=by rw[hx];exact cJ _
  have C:x∈L:=(gk.1 u).1;have D:w1.heap[r]? =some (.mapIter (some m) a seen.toArray a):=by rw[t];exact k
  have J:r<w1.heap.size:=(k6.1 D).1;have v:(hA w1 r (.mapIter (some m) a (seen.toArray.push x.2.2) a)).heap[r]? =some (.mapIter (some m) a (seen++ [x.2.2]).toArray a):=by
   rw[sG J];simp
  have A:(hA w1 r (.mapIter (some m) a (seen.toArray.push x.2.2) a)).heap[m]? =some (.map (L.map (dQ enc)).toArray a):=by
   have E:w1.heap[m]? =some (.map (L.map (dQ enc)).toArray a):=by rw[t];exact d
   rw[(qM w1 r _).block m (k6.1 E).1 (λe=>G e.symm)];exact E
  refine⟨x,u,hA w1 r (.mapIter (some m) a (seen.toArray.push x.2.2) a),?_,⟨⟨a,v,A,f⟩,o⟩,?_,?_,?_⟩
  .simp only[Instr.next,Sem.run_bind,x0 k,Result.andThen,lv d,p,fE,if_false,g,hold,j]
   have K:((fM L seen).map (dQ enc)).toArray.isEmpty=false:=by rw[b];rfl
   have e:((#[]:Array (au MapEntry))++(((fM L seen).map (dQ enc)).toArray++ #[]).map some).size=(fM L seen).length:=by simp
   have s:((#[]:Array (au MapEntry))++(((fM L seen).map (dQ enc)).toArray++ #[]).map some)[i]? =some (some (dQ enc x)):=by
    simp[hi,hx]
   simp only[K,fE,if_false,e,Sem.run_bind,hc,Result.andThen,s,GZ D,Sem.run_pure,dQ]
  .have M:af (λq=>q=r) w w1:=by
    rcases c with rfl|rfl
    .exact .refl _ _
    .exact af.drew (.refl _ _)
   exact M.trans (qM _ _ _)
  .rw[sF,t]
  .have N:(seen++ [x.2.2]).toArray.back? =some x.2.2:=by simp
   have hf:((L.map (dQ enc)).toArray.find? λe=>e.born==x.2.2)=some (dQ enc x):=by
    rw[List.find?_toArray,List.find?_map];have:L.find? ((λe:MapEntry=>e.born==x.2.2)∘dQ enc)=some x:=by
     clear b B hi hc u hx v A g hold j aH p d f
     induction L with
     |nil=>cases C
     |cons z L O=>
      rw[g5]at o;obtain⟨b2,bp⟩:=List.nodup_cons.1 o;rw[List.find?_cons];rcases cN.1 C with rfl|F
      .simp[dQ]
      .have Q:z.2.2≠x.2.2:=λe=>b2 (by rw[e];exact fq.2 ⟨x,F,rfl⟩)
       have:((λe:MapEntry=>e.born==x.2.2)∘dQ enc) z=false:=by simp[dQ,Q]
       rw[this];exact O bp F
    rw[this];rfl
   have R:(a !=a)=false:=by simp
   simp only[Instr.entry,Sem.run_bind,x0 v,Result.andThen,N,lv A,R,fE,if_false,hf,Sem.run_pure,dQ]
theorem ee.clear{M:O (α×aa)}(h:ee w m enc M){o:TypeId}(c:P.underlying T=some (.map gI kO)):∃w1,(Builtin.clear_ #[T] o #[.map (some m)]).run P w=.ok (.tuple #[]) w1/\ee w1 m enc ([]:O (α×aa))/\af (λq=>q=m) w w1/\w1.heap.size=w.heap.size:=by
 have aH:=h.lt;obtain⟨L,a,b,d,e,f,g⟩:=h;refine⟨hA w m (.map #[] a),?_,⟨[],a,sG aH _,by simp,by simp,by simp,by simp⟩,qM _ _ _,sF _ _ _⟩;unfold Builtin.clear_;simp only[qd,lY,Sem.run_bind,cP c,Result.andThen,lv b,v7 b,Sem.run_pure]
end
theorem G0{w:J}{lb:Nat}{ls:O c0}{T:TypeId}(h:bf w lb (bQ ax ls).toArray T)(hs:∀x∈ls,x.length=256){i:Nat}(hi:i<ls.length){x:c0}(hx:x.length=256):
 bC w ⟨lb,i*256,none⟩ (ax x)/\bf (setCells w ⟨lb,i*256,none⟩ 0 (ax x)) lb (bQ ax (ls.set i x)).toArray T/\af (λq=>q=lb) w (setCells w ⟨lb,i*256,none⟩ 0 (ax x)):=by
 have a:∀x∈ls,(ax x).length=256:=λx hx=>by rw[da];exact hs x hx
 have g:=gu (c:=ax) ls a;have b:(ax x).length=256:=by rw[da];exact hx
 have d:i*256+(ax x).length<=(bQ ax ls).toArray.size:=by
  rw[r4,g,b];omega
 refine⟨bf.cd h _ _ d (kp _),?_,af.jn (.refl _ _) _ 0⟩;have h0:=bf.kQ (o:=i*256) h (ax x);have f:=kP (ax x) (bQ ax ls).toArray (i*256) d;have j:=AA a hi x;rw[b]at f;have k:(fP (bQ ax ls).toArray (i*256) (ax x)).toList=bQ ax (ls.set i x):=f.trans j;have e:fP (bQ ax ls).toArray (i*256) (ax x)=(bQ ax (ls.set i x)).toArray:=by rw[←k]
 rw[e]at h0;exact h0
theorem G1{α:Type}{L:O (α×aa×Nat)}{seen:O Nat}{x:α×aa×Nat}(h:x∈fM L seen):(fM L (seen++ [x.2.2])).length<(fM L seen).length:=by
 have e:fM L (seen++ [x.2.2])=(fM L seen).filter λy=> !(y.2.2==x.2.2):=by
  unfold fM;rw[List.filter_filter];apply qm;intro y _;rw[fh];simp only[ib,dk,List.contains_eq_mem,kF,cD,fi,beq_eq_false_iff_ne];constructor
  .exact λh=>⟨λa=>h (.inr a),λa=>h (.inl a)⟩
  .rintro⟨c,a⟩ (b|b)
   .exact a b
   .exact c b
 rw[e];exact List.length_filter_lt_length_iff_exists.2 ⟨x,h,by simp⟩
def x1{α:Type}(L:O (α×aa×Nat))(r:Nat)(w:J):Nat:=match w.heap[r]? with
 |some (.mapIter _ _ seen _)=>(fM L seen.toList).length
 |_=>0
theorem j6.left{α:Type}{w:J}{r m:Nat}{enc:α->aa}{L:O (α×aa×Nat)}{seen:O Nat}(h:j6 w r m enc L seen):x1 L r w=(fM L seen).length:=by
 obtain⟨⟨b,a,_⟩,_⟩:=h;unfold x1;rw[a]
theorem j6.ag{α:Type}{W:Nat->Prop}{w w':J}{r m:Nat}{enc:α->aa}{L:O (α×aa×Nat)}{seen:O Nat}(h:j6 w r m enc L seen)(hc:af W w w')(c:¬W r)(d:¬W m):j6 w' r m enc L seen:=by
 obtain⟨⟨e,a,b,f⟩,g⟩:=h;exact⟨⟨e,by rw[hc.block r (k6.1 a).1 c];exact a,by rw[hc.block m (k6.1 b).1 d];exact b,f⟩,g⟩
def aZ.h8(D:aZ):aZ:={D with bP:=(List.range D.n).map D.now,waits:=[]}
theorem rN(D:aZ):D.h8.n=D.n:=by simp[aZ.h8,aZ.n]
theorem x2(D:aZ){i:Nat}(hi:i<D.n):D.h8.now i=D.now i:=by
 show((List.range D.n).map D.now).getD i []=_;rw[ff (by simp;exact hi)];simp
def G2(D:aZ)(w:J)(v:aa)(w':J):Prop:=
 (D.fD 3=true/\v=.int .i64 3/\c1 w' (D.ct 3)/\af (λq=>q=D.d) w w')\/
 (D.fD 3=false/\v=.int .i64 0/\c1 w' (D.ct 3).h8/\af (b9 D) w w')
theorem x3{w:J}{D:aZ}(h:c1 w D)(bt:D.aT<=1000000000):aJ aj 59 #[.pointer (some D.d)] w (G2 D w):=by
 refine okF (ae.tg (some D.d)) aw.tg func59 ?_;(delta ae.tg an b6 wh r1 oY aN wq;dsimp only);refine⟨λg=>(by cases g),λ_=>⟨_,rfl,(xp h (k:=3) (by decide)).use ?_⟩⟩;rintro _ ai ⟨rfl,f,ak,bu⟩;obtain⟨bq,t⟩:∃bq,bq=D.ct 3:=⟨_,rfl⟩;have aK:bq.d=D.d:=by rw[t];rfl
 have bv:bq.lb=D.lb:=by rw[t];rfl
 have aL:bq.mr=D.mr:=by rw[t];rfl
 have aM:bq.n=D.n:=by rw[t];rfl
 have aO:b9 bq=b9 D:=by rw[t];rfl
 have bw:bq.aT=D.aT:=by rw[t];rfl
 rw[←t]at f;refine⟨_,rfl,λF=>.inl ⟨F,rfl,by rw[←t];exact f,ak⟩,λF=>?_⟩;rw[←aK];have al:=f.bp;obtain⟨L,am,ao,ap,aq,au,bx⟩:=j6.begin (P:=aj) f.m mJ;obtain⟨r,aP⟩:∃r,r=ai.heap.size:=⟨_,rfl⟩;rw[←aP]at ap aq;have aQ:r≠bq.mr:=by have:=f.m.lt;omega
 have av:∀q,b9 bq q->q≠r:=λq G e=>by have:=f.lt G;omega
 have aR:∀x∈L,∃y∈bq.waits,x.1=(y.i:Int):=λx hx=>by
  have:=ao.mem_iff.1 (fq.2 ⟨x,hx,rfl⟩);obtain⟨y,A,e⟩:=fq.1 this;refine⟨y,A,?_⟩;have:=congrArg Prod.fst e;exact this.symm
 have aS:∀y∈bq.waits,∃x∈L,x.1=(y.i:Int):=λy A=>by
  have:y.e∈L.map lr:=ao.mem_iff.2 (fq.2 ⟨y,A,rfl⟩);obtain⟨x,hx,e⟩:=fq.1 this;exact⟨x,hx,congrArg Prod.fst e⟩
 refine⟨_,rfl,some bq.mr,f.h5,_,am,ap,λw'=>∃ (seen:O Nat) (ls:O c0),j6 w' r bq.mr encZ L seen/\c1 w' {bq with bP:=ls}/\ls.length=bq.n/\(∀ (j:Nat) (H:j<ls.length),ls[j]=if ∃x∈L,x.2.2∈seen/\x.1=(j:Int) then bq.now j else bq.bP.getD j [])/\af (λq=>b9 bq q) ai w'/\am.heap.size<=w'.heap.size,
  x1 L r,⟨[],bq.bP,aq,f.ext au,rfl,λj H=>?_,af.c7 au,bk _⟩,?_⟩
 .rw[if_neg (by rintro⟨x,_,g,_⟩;cases g),ff H]
 rintro ay ⟨seen,ls,T,B,C,jR,M,bz⟩;have U:∀s∈ls,s.length=256:=B.sl;have bA:r<ay.heap.size:=by omega
 have aU:bq.lb≠r:=av _ (.inr (.inl rfl));rcases T.next (P:=aj) aQ 0 with ⟨aV,aW,V,az,bB⟩|⟨x,hx,N,V,aX,aA,bC,a0⟩
 .
  refine .inr ⟨aW,V,λh=>(by cases h),λ_=>?_⟩;have Q:=B.ext az;obtain⟨a4,a5,a6,W,bD⟩:=ee.clear (P:=aj) (o:=0) Q.m mJ;refine⟨_,rfl,some bq.mr,Q.h5,_,a4,a5,.inr ⟨F,rfl,?_,?_⟩⟩
  .have a7:∀x∈L,x.2.2∈seen:=λx hx=>by
    have:=m0.1 aV x hx;simpa using this
   have a8:ls=(List.range D.n).map D.now:=by
    refine rW (by simp[C,aM]) λj g u=>?_;rw[jR j g,List.getElem_map,List.getElem_range];have X:D.now j=bq.now j:=by rw[t];rfl
    rw[X];split
    .rfl
    .rename_i a9
     unfold aZ.now
     cases hf:bq.waits.find? λx=>x.i==j with
     |some y=>
      exfalso;have A:=ji hf;have a_:y.i=j:=by simpa using kf hf
      obtain⟨x,hx,e⟩:=aS y A;exact a9 ⟨x,hx,a7 x hx,by rw[e,a_]⟩
     |none=>rfl
   have Y:bq.d≠bq.mr:=f.a1.2.1;have ba:bq.lb≠bq.mr:=f.a1.2.2;have e:(D.ct 3).h8={bq with bP:=ls,waits:=[]}:=by
    rw[a8,t];rfl
   rw[e];refine⟨Q.v.ag W Y,bf.ag Q.l W ba,a6,λx hx=>(by cases hx),λx hx=>(by cases hx),U,λx hx=>(by cases hx),?_,?_,B.f4,B.fr,B.a1,λx hx=>(by cases hx),λx hx=>(by cases hx),B.r⟩
   .show 16<=ls.length;rw[C];exact f.b2
   .show ls.length<=1600;rw[C];exact al
  .have bb:b9 D D.d:=.inl rfl
   have hc:af (λq=>b9 D q) w ai:=ak.mono λq _ e=>by rw[e];exact bb
   have M:af (λq=>b9 D q) ai ay:=by rw[←aO];exact M
   have bc:=c5 hc M λq _ h=>h;have bd:=c5 bc az λq _ h=>h.elim;exact c5 bd W λq _ be=>by rw[be,aL];exact .inr (.inr (.inl rfl))
 .
  have Z:x∈L:=(gk.1 hx).1;have bE:x.2.2∉seen:=by
   have:=(gk.1 hx).2;simpa using this
  obtain⟨y,A,aa⟩:=aR x Z;have bg:=B.ag aA λq G=>av q G;have hi:y.i<bq.n:=(f.wn y A).2.1;have bh:y.i<ls.length:=by omega
  refine .inl ⟨_,_,N,V,λ_=>⟨(y.i:Int),x.2.1,N,?_,?_⟩,λh=>(by cases h)⟩
  .rw[a0]
   have e:encZ x.1=y.i:=by rw[aa]
   rw[e]
  have aC:=cH N;have ab:=bg.ext aC;have bi:({bq with bP:=ls}:aZ).n=bq.n:=C;refine aY ⟨λ_=>False,_,rfl,id,⟨some bq.lb,ls.length,ls.length⟩,ab.fo,(AF (i:=y.i) ab (by rw[bi];exact hi) (by show bq.aT<=_;omega)).use ?_⟩;rintro _ R ⟨rfl,ac⟩;have p:=ab.ext ac;have X:({bq with bP:=ls}:aZ).now y.i=bq.now y.i:=by
   unfold aZ.now
   cases hf:bq.waits.find? λx=>x.i==y.i with
   |some z=>rfl
   |none=>
    have:=jh.1 hf y A;simp at this
  have ad:(bq.now y.i).length=256:=f.rB hi;rw[X];have ar:Addr.add bq.lb (Int.toNat (y.i:Int)*256)=⟨bq.lb,y.i*256,none⟩:=by rw[dm,aB,cQ]
  obtain⟨b7,cA,bj⟩:=G0 p.l U bh ad;refine⟨_,rfl,ac,_,rfl,⟨I,by show(y.i:Int)<(ls.length:Int);omega⟩,by rw[ar];exact b7,by simp[da,ad],?_⟩;rw[ar];refine aY ?_;show _/\_;have aD:bf (setCells R ⟨bq.lb,y.i*256,none⟩ 0 (ax (bq.now y.i)).toArray.toList) bq.lb (bQ ax (ls.set y.i (bq.now y.i))).toArray 151:=cA;have E:af (λq=>q=bq.lb) R (setCells R ⟨bq.lb,y.i*256,none⟩ 0 (ax (bq.now y.i)).toArray.toList):=bj;generalize setCells R ⟨bq.lb,y.i*256,none⟩ 0 (ax (bq.now y.i)).toArray.toList=aE at aD E;have ah:=Ext.trans aC ac;have aF:=(aX.ag ah id id).ag E (λe=>aU e.symm) λe=>f.a1.2.2 e.symm;have bl:af (λq=>b9 bq q) ai aE:=by
   have g:af (λq=>b9 bq q) ai N:=c5 M aA λq G e=>by omega
   have u:=c5 g ah λq _ h=>h.elim;exact c5 u E λq _ e=>by rw[e];exact .inr (.inl rfl)
  have bF:=ah.size;have bG:=E.size;have bm:c1 aE {bq with bP:=ls.set y.i (bq.now y.i)}:=by
   have Y:bq.d≠bq.lb:=f.a1.1;refine⟨?_,aD,p.m.ag E λe=>f.a1.2.2 e.symm,λx hx=>(p.ws x hx).ag E λq G e=>(p.a2 x hx).2.1 (by rw[←e];exact G),?_,λs hs=>?_,p.mK,?_,?_,p.f4,p.fr,p.a1,p.a2,p.a3,p.r⟩
   .have g:=p.v.ag E Y
    have e:({bq with bP:=ls.set y.i (bq.now y.i)}:aZ).c=({bq with bP:=ls}:aZ).c:=by unfold aZ.c;simp
    rw[e];exact g
   .intro z bn
    have:=p.wn z bn;refine⟨this.1,?_,this.2.2⟩;show z.i<(ls.set y.i (bq.now y.i)).length;rw[c_];exact this.2.1
   .rcases l6 hs with g|rfl
    .exact U s g
    .exact ad
   .show 16<=(ls.set y.i (bq.now y.i)).length;rw[c_,C];exact f.b2
   .show(ls.set y.i (bq.now y.i)).length<=1600;rw[c_,C];exact al
  refine⟨⟨seen++ [x.2.2],_,aF,bm,by rw[c_];exact C,λj H=>?_,bl,I⟩,?_⟩
  .rw[c_]at H
   rw[qg];split
   .rename_i e
    subst e;rw[if_pos ⟨x,Z,by simp,aa⟩]
   .rename_i bo
    rw[jR j H];have:(∃K∈L,K.2.2∈seen/\K.1=(j:Int))↔∃K∈L,K.2.2∈seen++ [x.2.2]/\K.1=(j:Int):=by
     constructor
     .rintro⟨z,g,u,S⟩
      exact⟨z,g,jf _ u,S⟩
     .rintro⟨z,g,u,S⟩
      rcases cD.1 u with u|u
      .exact⟨z,g,u,S⟩
      .have br:z=x:=by
        have aG:=T.b1;obtain⟨a,aH,rfl⟩:=fa g;obtain⟨b,F,rfl⟩:=fa Z;have aI:=fi.1 u;have bs:a=b:=by
         rcases Nat.lt_trichotomy a b with h|h|h
         .have:=kI.1 aG a b (by simpa using aH) (by simpa using F) h
          simp at this;exact absurd aI this
         .exact h
         .have:=kI.1 aG b a (by simpa using F) (by simpa using aH) h
          simp at this;exact absurd aI.symm this
        subst bs;rfl
       rw[br,aa]at S;exact absurd I bo
    simp only[this]
  .rw[aF.left,T.left]
   exact G1 hx
structure eG where
 ak:Nat
 batch:Nat
 hX:Nat
def eG.c(l:eG):O aa:=[l.ak,l.batch,.int .u64 (l.hX:Nat)]
def oh(f b d:Int):Prop:=8<=f/\f<=64/\1<=b/\b<=1000/\1<=d/\d<=1048576
instance Ic(f b d:Int):Decidable (oh f b d):=by unfold oh;infer_instance
section
variable {w w':J}{D:aZ}
theorem pb(w:J)(p:au ah)(f b d:Int):aJ aj 53 #[.pointer p,.agg #[f,b,.int .u64 d]] w (λv w'=>v=.bool (!(Option.isNone p)&&decide (oh f b d))/\Ext w w'):=by
 refine okF (ae.pb p f b d) aw.pb func53 ?_;(delta ae.pb an aD Y cl;dsimp only);refine a_ (vs:=[f,b,.int .u64 d]) rfl λw1 c hx hs=>?_;refine cz (λx w'=>x=(!(Option.isNone p)&&decide (8<=f))/\w1=w') (λq a=>⟨λh=>⟨f,c.cell,a _ _ ⟨by rw[h,ic],rfl⟩⟩,λh=>a _ _ ⟨by rw[h,ld],rfl⟩⟩) ?_;rintro e _ ⟨g,rfl⟩;refine cz (λx w'=>x=(e&&decide (f<=64))/\w1=w') (λq a=>⟨λh=>⟨f,c.cell,a _ _ ⟨by rw[h,ic],rfl⟩⟩,λh=>a _ _ ⟨by rw[h,ld],rfl⟩⟩) ?_;rintro i _ ⟨j,rfl⟩;refine cz (λx w'=>x=(i&&decide (1<=b))/\w1=w') (λq a=>⟨λh=>⟨b,by rw[aB];exact c.cell,a _ _ ⟨by rw[h,ic],rfl⟩⟩,λh=>a _ _ ⟨by rw[h,ld],rfl⟩⟩) ?_;rintro k _ ⟨l,rfl⟩;refine cz (λx w'=>x=(k&&decide (b<=1000))/\w1=w') (λq a=>⟨λh=>⟨b,by rw[aB];exact c.cell,a _ _ ⟨by rw[h,ic],rfl⟩⟩,λh=>a _ _ ⟨by rw[h,ld],rfl⟩⟩) ?_;rintro m _ ⟨n,rfl⟩;refine cz (λx w'=>x=(m&&decide (1<=d))/\w1=w') (λq a=>⟨λh=>⟨d,by rw[aB];exact c.cell,a _ _ ⟨by rw[h,ic],rfl⟩⟩,λh=>a _ _ ⟨by rw[h,ld],rfl⟩⟩) ?_;rintro o _ ⟨r,rfl⟩;refine cz (λx w'=>x=(o&&decide (d<=1048576))/\w1=w') (λq a=>⟨λh=>⟨d,by rw[aB];exact c.cell,a _ _ ⟨by rw[h,ic],rfl⟩⟩,λh=>a _ _ ⟨by rw[h,ld],rfl⟩⟩) ?_;rintro t _ ⟨s,rfl⟩;refine⟨?_,hx⟩;rw[s,r,n,l,j,g,Value.bool.injEq,fh];simp only[dk,cu,and_assoc];exact Iff.rfl
theorem vf{D:aZ}{no:Nat}{s:ad}{l:c0}{N:Nat}(a:∀q,ay s q->b9 D q\/N<=q):∀q,b9 (D.put no s l) q->b9 D q\/N<=q:=by
 rintro q (e|e|e|⟨x,hx,e⟩)
 .exact .inl (.inl e)
 .exact .inl (.inr (.inl e))
 .exact .inl (.inr (.inr (.inl e)))
 .rcases cN.1 hx with rfl|hx
  .exact a q e
  .exact .inl (.inr (.inr (.inr ⟨x,(gk.1 hx).1,e⟩)))
def G3(D:aZ)(u:ew)(gen:Nat)(w:J)(v:aa)(w':J):Prop:=
 af (b9 D) w w'/\((D.fD 2=true/\v=.int .i64 3/\c1 w' (D.ct 2))\/
 (D.fD 2=false/\∃s:ad,(∀q,ay s q->b9 D q\/w.heap.size<=q)/\∃bq:aZ,bq=D.put (gen%2) s (ef (gen%2) (iX u D.n gen))/\
   ((bq.fD 3=true/\v=.int .i64 3/\c1 w' (bq.ct 3))\/(bq.fD 3=false/\v=.int .i64 0/\c1 w' (bq.ct 3).h8))))
theorem mq(h:c1 w D)(P:D.aT<=999999999){u:ew}(hu:mL u){gen:Nat}(hg:gen<18446744073709551616):
 aJ aj 60 #[.pointer (some D.d),.agg u.c.toArray,.int .u64 (gen:Nat)] w (G3 D u gen w):=by
 have Q:=h.b2;have R:=h.bp;refine ae.Dg _ (u.root:Nat) (u.aG:Nat) (u.map:Nat) (u.clock:Nat) (u.db:Nat) (u.keys:Nat) (gen:Nat) w _ ?_;(delta ae.mq Y aD cl bW bG dZ av an;dsimp only);have A:IntKind.wrap .i64 (Int.tmod (gen:Int) 2)=((gen%2:Nat):Int):=by
  rw[r5 I,bw I I];omega
 refine a_ (vs:=u.c) rfl λw1 B j S=>⟨by decide,?_⟩;have a:=cH w1;have C:=B.ext a;have E:=h.ext (j.trans a);refine aY ⟨λ_=>False,id,p0 C ((uU E).use ?_)⟩;rintro _ _ ⟨rfl,rfl⟩;refine⟨_,rfl,af.refl _ _,(ph hu (n:=D.n) I).use ?_⟩;rintro _ F ⟨k,rfl,G,t,T⟩;rw[A];refine⟨k,rfl,λ_=>False,#[(3:Int),.int .u64 (gen:Nat),k],λU=>by kernel_rfl,(uI (s:=k) (p:=iX u D.n gen) G.src I (xu hg)).use ?_⟩;rintro _ V ⟨H,rfl,J,v,K⟩;have b:=(j.trans a).trans (Ext.trans t v);have L:=h.ext b;have W:=b.size;have M:(ef (gen%2) (iX u D.n gen)).length=256:=rm _ (xu hg);have X:w.heap.size<=F.heap.size:=by have:=(j.trans a).size;have:=t.size;omega
 refine⟨H,0,rfl,v,λh=>(by cases h),λ_=>(uV L (i:=gen%2) I I J.src M λq f hf=>by have:=K q f;have:=h.lt hf;omega).use ?_⟩;rintro _ N (⟨g,rfl,hd,hc⟩|⟨g,rfl,s,hd,hc,x⟩)
 .exact⟨3,rfl,λ_=>⟨c5 (b.mono λ_ _ h=>h.elim) hc λq _ e=>by rw[e];exact .inl rfl,.inl ⟨g,rfl,hd⟩⟩,λh=>(by cases h)⟩
 .have y:af (b9 D) w N:=c5 (b.mono λ_ _ h=>h.elim) hc λq _ e=>e
  have O:=vf (no:=gen%2) (l:=ef (gen%2) (iX u D.n gen)) x;refine⟨0,rfl,λh=>(by cases h),λ_=>(x3 hd (by show D.aT+1<=_;omega)).use ?_⟩;have z:∀q,ay s q->b9 D q\/w.heap.size<=q:=λq f=>(x q f).imp id λh=>by omega
  rintro _ Z (⟨m,rfl,o,r⟩|⟨m,rfl,o,r⟩)
  .exact⟨3,rfl,c5 y r λq _ e=>by rw[e];exact .inl rfl,.inr ⟨g,s,z,_,rfl,.inl ⟨m,rfl,o⟩⟩⟩
  .exact⟨0,rfl,c5 y r λq f e=>(O q e).resolve_right I,.inr ⟨g,s,z,_,rfl,.inr ⟨m,rfl,o⟩⟩⟩
end
section
variable {w w':J}{C:bO}{X:Nat->Prop}
def Fr.gE(f:Fr):al:=f.full&&f.fL
theorem G4:gW aj 179:=⟨Tryz.f179,func179,by kernel_rfl,by kernel_rfl⟩
theorem G5(f:Fr)(w:J):aJ aj 179 #[.agg #[f.full,f.fL,f.used,f.no,f.pins,f.b]] w (λv w'=>v=f.gE/\Ext w w'):=by
 refine okF (ae.tO f.full f.fL f.used f.no f.pins f.b) aw.tO func179 ?_;(delta ae.tO aS Y an;dsimp only);refine a_ (vs:=f.c) rfl λw1 a hx hs=>⟨f.full,a.cell,cz (λb w'=>b=f.gE/\w1=w') (λq d=>⟨λh=>⟨f.fL,by rw[aB];exact a.cell,d _ _ ⟨by unfold Fr.gE;rw[h];rfl,rfl⟩⟩,λh=>d _ _ ⟨by unfold Fr.gE;rw[h];rfl,rfl⟩⟩) ?_⟩;rintro _ _ ⟨rfl,rfl⟩;exact⟨rfl,hx⟩
def jF(fs:O Fr):O Int:=(fs.filter Fr.gE).map Fr.no
theorem G6(h:eU w C):aJ aj 126 #[.pointer (some C.c)] w (λv w'=>∃ (s:ad) (zs:O Int),v=s/\aV 1 3 w' s (zs.map encZ)/\zs.Perm (jF C.ak)/\Ext w w'/\∀q,ay s q->w.heap.size<=q):=by
 obtain⟨bH,aQ,a6⟩:=h.cells
 have ab:=h.cA
 refine okF (ae.tF (some C.c)) aw.tF func126 ?_
 delta ae.tF bG
 refine Calls.mono (ae.Dx (some C.c) ⟨179,#[],#[]⟩ w (λv w'=>∃ (s:ad) (zs:O Int),v=s/\aV 1 3 w' s (zs.map encZ)/\zs.Perm (jF C.ak)/\Ext w w'/\∀q,ay s q->w.heap.size<=q) ?_) ?_
 · (delta ae.q3 an r1 aN aS aD Y av gm;dsimp only)
   refine⟨λh=>(by cases h),λ_=>⟨_,rfl,⟨some C.aR,C.ak.length,C.ak.length⟩,aQ,λs n w'=>∃i:Nat,n=(i:Int)/\i<=C.ak.length/\aV 1 3 w' s ((jF (C.ak.take i)).map encZ)/\Ext w w'/\∀q,ay s q->w.heap.size<=q,λ_ n _=>((C.ak.length:Int)-n).toNat,⟨0,rfl,cO _,by simpa[jF] using aV.none 1 3 w,.refl _ _,λq e=>(fZ q e).elim⟩,?_⟩⟩
   rintro s _ r ⟨i,rfl,hi,a,hx,g⟩
   have B:=h.ext hx
   refine⟨λaH=>?_,λD=>?_⟩
   · have t:i<C.ak.length:=by
       have:(i:Int)<(C.ak.length:Int):=ck aH
       omega
     obtain⟨f,hf⟩:∃f,f=C.ak[i]:=⟨_,rfl⟩
     have ac:(jF (C.ak.take i)).length<=64:=by
       unfold jF
       rw[c8]
       have:=m_ Fr.gE (C.ak.take i)
       rw[cE]at this;omega
     have u:jF (C.ak.take (i+1))=jF (C.ak.take i)++(if f.gE then [f.no] else []):=by
       unfold jF
       rw[kG t,jK,fG,←hf,lf,List.filter_nil]
       congr 1
       split<;>rfl
     refine cz (λs w'=>aV 1 3 w' s ((jF (C.ak.take (i+1))).map encZ)/\Ext w w'/\∀q,ay s q->w.heap.size<=q) (λq e=>?_) ?_
     · have hc:∀j,j<6->r.cell? ⟨C.aR,i*6+j,none⟩=(f.c)[j]? :=λj E=>by rw[hf];exact jA B.f t E
       refine⟨_,rfl,⟨I,by show(i:Int)<(C.ak.length:Int);omega⟩,?_⟩
       rw[rF]
       refine⟨f.full,hc 0 (by decide),f.fL,by rw[aB];exact hc 1 (by decide),f.used,by rw[aB];exact hc 2 (by decide),f.no,by rw[aB];exact hc 3 (by decide),f.pins,by rw[aB];exact hc 4 (by decide),f.b,by rw[aB];exact hc 5 (by decide),?_⟩
       refine a_ (vs:=[false,false,false,(0:Int),(0:Int),()]) rfl λaf y F ag=>⟨y.cd rfl (λv l=>?_),rfl,cK y (us:=f.c) rfl rfl λz d G ah=>?_⟩
       · simp only[cN,e3,fb]at l
         rcases l with rfl|rfl|rfl|rfl|rfl|rfl<;>trivial
       have H:Ext r z:=Ext.cx F G (bk _)
       refine⟨f.full,d.cell,f.fL,by rw[aB];exact d.cell,f.used,by rw[aB];exact d.cell,f.no,by rw[aB];exact d.cell,f.pins,by rw[aB];exact d.cell,f.b,by rw[aB];exact d.cell,G4,(G5 f z).use ?_⟩
       rintro _ m ⟨rfl,A⟩
       have k:=Ext.trans H A
       have J:=d.ext A
       refine⟨_,rfl,λhd=>⟨f.no,by rw[aB];exact J.cell,aY ?_⟩,λhd=>e _ _ ⟨?_,Ext.trans hx k,g⟩⟩
       · have p:Ext m (m.alloc (.cells #[encZ f.no] 3)):=dE _ _
         obtain⟨K,L,M,N,_,P,Q⟩:=rq.append (dD:=72) (x:=⟨some m.heap.size,1,1⟩) (Src.new (T:=3) m [encZ f.no] 1 rfl) ((a.ext k).ext p) (λv l=>by rw[fi.1 l];trivial) (by
           have:s.len=(jF (C.ak.take i)).length:=by
             have:=a.1
             rw[c8]at this;omega
           show(2*(s.len+1)+1000)*8<=_;omega)
         refine⟨K,L,M,e _ _ ⟨?_,?_,λq e=>?_⟩⟩
         · rw[u,hd,if_pos rfl,fG];exact N
         · exact Ext.dY (Ext.trans (Ext.trans hx k) p) P g
         · rcases Q q e with o|o
           · exact g q o
           · have:=(Ext.trans hx k).size
             have:=p.size;omega
       · rw[u,hd]
         simp only[fE,if_false,fk]
         exact a.ext k
     · rintro ai al ⟨o,R,S⟩
       have U:IntKind.wrap .i64 ((i:Int)+1)=((i+1:Nat):Int):=by rw[bw I I];omega
       rw[U]
       exact⟨⟨i+1,rfl,I,o,R,S⟩,by show((C.ak.length:Int)-((i+1:Nat):Int)).toNat<((C.ak.length:Int)-(i:Int)).toNat;omega⟩
   · have V:i=C.ak.length:=by
       have:¬(i:Int)<(C.ak.length:Int):=cG D
       omega
     rw[V,jI]at a
     refine(Fm a (by
       unfold jF
       rw[c8]
       have:=m_ Fr.gE C.ak;omega)).use ?_
     rintro _ am ⟨rfl,W,zs,X,Z⟩
     exact⟨rfl,s,zs,rfl,X,Z.1,Ext.dY hx W g,g⟩
 · rintro _ w1 ⟨_,rfl,s,zs,rfl,a,aa,hx,hf⟩
   exact⟨s,rfl,s,zs,rfl,a,aa,hx,hf⟩
end
section
variable {w w':J}{C:bO}{X:Nat->Prop}
theorem G7{D:aZ}{no:Nat}{s:ad}{l:c0}{N:Nat}(a:∀q,ay s q->b9 D q\/N<=q):∀q,b9 (D.put no s l) q->b9 D q\/N<=q:=by
 rintro q (e|e|e|⟨x,hx,e⟩)
 .exact .inl (.inl e)
 .exact .inl (.inr (.inl e))
 .exact .inl (.inr (.inr (.inl e)))
 .rcases cN.1 hx with rfl|hx
  .exact a q e
  .exact .inl (.inr (.inr (.inr ⟨x,(gk.1 hx).1,e⟩)))
theorem eU.pG{az:aZ}(h:eU w C)(hd:c1 w' az)(e:az.d=C.D.d)(hc:af (b9 C.D) w w')(hf:∀q,b9 az q->b9 C.D q\/w.heap.size<=q):eU w' {C with D:=az}:=by
 have a:=h.v.ag hc h.a1.2.1;rw[←e]at a;have b:C.c<w.heap.size:=h.v.lt;have i:C.aR<w.heap.size:=bf.lt h.f;refine⟨a,bf.ag h.f hc h.a1.2.2,hd,h.b7,h.cA,h.hd,h.a1.1,λg=>?_,λg=>?_⟩
 .rcases hf _ g with g|g
  .exact h.a1.2.1 g
  .have g:w.heap.size<=C.c:=g
   omega
 .rcases hf _ g with g|g
  .exact h.a1.2.2 g
  .have g:w.heap.size<=C.aR:=g
   omega
def bO.wrote(C:bO)(i no:Nat)(hi:i<C.ak.length)(s:ad):bO:={C with ak:=C.ak.set i {C.ak[i] with fL:=false},D:=C.D.put no s (C.ak[i]).l}
theorem G8(h:dH X w C){i no:Nat}(hi:i<C.ak.length)(hf:(C.ak[i]).full=true)(t:(C.ak[i]).no=no){s:ad}(J:¬C.D.bT no=true)(hd:c1 w' (C.D.put no s (C.ak[i]).l))(hc:af (b9 C.D) w w')(W:∀q,ay s q->b9 C.D q\/w.heap.size<=q):
 (∃u:aa,w'.cell? ⟨C.aR,i*6+1,none⟩=some u)/\w'.frozen? ⟨C.aR,i*6+1,none⟩=false/\dH X (w'.setCell ⟨C.aR,i*6+1,none⟩ false) (C.wrote i no hi s)/\
   dV C (C.wrote i no hi s) w (w'.setCell ⟨C.aR,i*6+1,none⟩ false) 1/\∀j,(C.wrote i no hi s).view j=C.view j:=by
 have z:=G7 (no:=no) (l:=(C.ak[i]).l) W;obtain⟨az,x⟩:∃az,az=C.D.put no s (C.ak[i]).l:=⟨_,rfl⟩;have B:∀j,az.now j=if j=no then (C.ak[i]).l else C.D.now j:=by rw[x];exact n2 _ _ _ _
 have K:az.d=C.D.d:=by rw[x];rfl
 have Y:az.n=C.D.n:=by rw[x];rfl
 have Z:az.key=C.D.key:=by rw[x];exact A8 C.D J
 have L:j0 az C.D:=by rw[x];exact A7 h.inv J
 have ar:az.aT=C.D.aT+1:=by rw[x];rfl
 have ab:∀m,C.D.calm (m+1)->az.calm m:=λm ac=>by rw[x];exact(iW (.inr rfl) h.raw.dev.f4 ac).1
 unfold bO.wrote;rw[←x]at hd z⊢;have M:=h.raw.pG hd K hc z;obtain⟨a1,a2,a3,a4⟩:=mP M.f hi (j:=1) (by decide) (v:=false) {C.ak[i] with fL:=false} rfl;obtain⟨g,o⟩:∃g:Fr,g={C.ak[i] with fL:=false}:=⟨_,rfl⟩;rw[←o]at a3⊢;refine⟨a1,a2,?_⟩;generalize w'.setCell ⟨C.aR,i*6+1,none⟩ false=E at a3 a4;have H:af (cV C) w E:=c5 (hc.mono λq _ e=>.inr (.inr e)) a4 λq _ e=>.inr (.inl e);obtain⟨y,ae,ag,ah,ai,au,av,aj⟩:=h.inv.ok _ (cJ hi) hf;have al:y=no:=by rw[t]at ae;omega
 subst al;obtain⟨a,r⟩:∃a:bO,a={C with ak:=C.ak.set i dp,D:=az}:=⟨_,rfl⟩;have N:fU X E a:=by
  rw[r];exact xD (V:=cV C) hi h.inv H (λ_ _ h=>h) L (λj A=>by rw[B,if_neg λe=>A hf (by rw[t,e])]) z dp rfl rfl
 have am:∀j,a.view j=C.view j:=λj=>by
  rw[r];exact A6 hi h.inv (λ_ j A=>by rw[B,if_pos (by rw[t]at A;omega)]) (λj A=>by rw[B,if_neg λe=>A hf (by rw[t,e])]) dp rfl j
 have F:a.ak=C.ak.set i dp:=by rw[r]
 have dz:i<a.ak.length:=by rw[F,c_];exact hi
 have O:∀ (k:Nat) (an:k<a.ak.length),k≠i->(a.ak[k]).full=true->(a.ak[k]).no≠y:=λk an P G Q=>by
  simp only[F,e4 (Ne.symm P)]at G Q;exact P (h.inv.un k i _ hi G hf (by rw[Q,t]))
 have R:C.ak.set i g=a.ak.set i g:=by rw[F,set_set]
 have S:({C with ak:=C.ak.set i g,D:=az}:bO)={a with ak:=a.ak.set i g,D:=az}:=by rw[R,r]
 have ao:bg (λq=>¬cV {C with ak:=C.ak.set i g,D:=az} q/\¬X q) E g.b g.l:=by
  rw[o];refine bg.re ah H (λq _ T=>T.1) λq T U=>⟨λp=>U.1 ?_,U.2⟩;rcases p with p|p|p
  .exact .inl p
  .exact .inr (.inl p)
  .exact .inr (.inr ((z q p).resolve_right I))
 have G:fU X E {C with ak:=C.ak.set i g,D:=az}:=by
  rw[S];refine xE (C:=a) (no:=y) (V:=λ_=>False) dz N (.refl _ _) (λ_ _ h=>h.elim) (by rw[r];exact⟨rfl,λ_ h=>h,L.2.2⟩) (λj=>by rw[r]) (λq=>by rw[r]) g (by rw[o];exact hf) (by rw[o];exact h.inv.pins (C.ak[i]) (cJ hi)) ⟨by rw[o];exact t,by show y<az.n;rw[Y];exact ag,by rw[←S];exact ao,by rw[o];exact ai,λ_=>?_,λ_=>by rw[o],aj⟩ O;show g.l=az.now y;rw[B,if_pos rfl,o]
 have ap:∀j,({C with ak:=C.ak.set i g,D:=az}:bO).view j=C.view j:=λj=>by
  have aq:({C with ak:=C.ak.set i g,D:=az}:bO)=bO.mk a.c a.aR (a.ak.set i g) C.hand az:=by rw[R,r]
  rw[aq,xF (C:=a) (hd:=C.hand) (az:=az) (no:=y) dz N.un (λj=>by rw[r]) g (by rw[o];exact hf) (by rw[o];exact t) (λp=>by simp only[F,g7]at p;cases p) O j,am];split
  .rename_i e
   subst e;have:=lL (fs:=C.ak) (D:=C.D) (c:=C.c) (aR:=C.aR) (hd:=C.hand) h.inv.un hi hf t;rw[o];exact this.symm
  .rfl
 refine⟨⟨?_,G⟩,⟨rfl,K,by show(C.ak.set i _).length=_;rw[c_],Z,by show az.aT<=_;omega,ab,H,?_⟩,ap⟩
 .refine xG (C:={C with D:=az}) M a4 a3
 .rintro q (e|e|e)
  .exact .inl (.inl e)
  .exact .inl (.inr (.inl e))
  .exact(z q e).imp (λh=>.inr (.inr h)) id
theorem x4{az:aZ}(h:dH X w C)(hd:c1 w' az)(e:az.d=C.D.d)(b:j0 az C.D)(a:∀i,az.now i=C.D.now i)(hc:af (b9 C.D) w w')(hf:∀q,b9 az q->b9 C.D q\/w.heap.size<=q):dH X w' {C with D:=az}/\∀j,({C with D:=az}:bO).view j=C.view j:=
 ⟨⟨h.raw.pG hd e hc hf,rG (C:=C) (hd:=C.hand) h.inv (gS.refl _) (hc.mono λq _ e=>.inr (.inr e)) (λ_ _ h=>h) b a hf⟩,λj=>rH (C:=C) (hd:=C.hand) h.inv (gS.refl _) a j⟩
theorem G9(h:dH X w C)(hc:∀f∈C.ak,f.gE=false)(j:Nat):C.view j=C.D.now j:=by
 unfold bO.view
 cases c:C.ak.find? λf=>f.full&&f.no==(j:Int) with
 |none=>rfl
 |some f=>
  have d:=ji c;have a:=kf c;simp only[dk,jH]at a;obtain⟨no,g,k,l,m,i⟩:=h.inv.ok f d a.1;have b:=hc f d;unfold Fr.gE at b;rw[a.1,ic]at b;have e:no=j:=by rw[a.2]at g;omega
  rw[←e];exact i b
theorem BQ{D:aZ}(h:c1 w D)(i:Nat):D.h8.now i=D.now i:=by
 by_cases hi:i<D.n
 .exact x2 D hi
 .have a:D.now i=[]:=by
   unfold aZ.now
   cases hf:D.waits.find? λx=>x.i==i with
   |some x=>
    have hx:=ji hf;have he:x.i=i:=by simpa using kf hf
    have:=(h.wn x hx).2.1;omega
   |none=>
    have:¬i<D.bP.length:=hi;show D.bP.getD i []=[];rw[fv,m7 I];rfl
  rw[a];show((List.range D.n).map D.now).getD i []=[];rw[fv,m7 (by simp;omega)];rfl
theorem rO(D:aZ){m:Nat}(h:D.calm m):(D.ct 3).calm m:=by
 unfold aZ.calm aZ.ct at*;simpa[fv] using h
theorem dV.r1{C aE:bO}{w w':J}{k:Nat}(h:dV C aE w w' k):aE.D.r1=C.D.r1:=congrArg (λk:(O c0×(Nat->al)×(Nat->O c0)×(Int->Prop)×al)×Int=>k.1.2.2.2.2) h.bP
structure G_(X:Nat->Prop)(C aE:bO)(w:J)(v:aa)(w':J):Prop where
 at_:dH X w' aE
 c:aE.c=C.c
 d:aE.D.d=C.D.d
 len:aE.ak.length=C.ak.length
 n:aE.D.n=C.D.n
 bT:aE.D.bT=C.D.bT/\aE.D.ei=C.D.ei
 r:aE.D.r1=C.D.r1
 aT:aE.D.aT<=C.D.aT+64
 calm:∀m,C.D.calm (m+64)->aE.D.calm m
 ag:af (cV C) w w'
 cS:∀q,cV aE q->cV C q\/w.heap.size<=q
 view:∀j,aE.view j=C.view j
 gZ:(v=.int .i64 0/\aE.D.waits=[]/\(∀f∈aE.ak,f.gE=false)/\aE.D.b3.getD 3 0=(ga (C.D.b3.getD 3 0)).2)\/(v=.int .i64 3/\aE.D.bP=C.D.bP/\(¬C.D.calm 64\/C.D.fD 3=true))
theorem Ha(h:dH X w C)(a7:C.D.aT<=999999900)(au:∀j,C.D.bT j=true->C.D.ei j=[]):aJ aj 147 #[.pointer (some C.c)] w (λv w'=>∃aE,G_ X C aE w v w'):=by
 have a8:=h.raw.cA;refine okF (ae.tJ (some C.c)) aw.tJ func147 ?_;(delta ae.tJ an bG aN aD jo r1 bW st av;dsimp only);refine⟨λh=>(by cases h),λ_=>(G6 h.raw).use ?_⟩;rintro _ w1 ⟨s,zs,rfl,hs,O,ab,ax⟩;have hlen:s.len=zs.length:=by have:=hs.1;rw[c8]at this;omega
 have a9:zs.length<=64:=by
  rw[O.length_eq];unfold jF;rw[c8];have:=m_ Fr.gE C.ak;omega
 have az:=h.ext ab;have aA:∀z∈zs,∀no:Nat,(no:Int)=z->¬C.D.bT no=true:=λz t no a_ hs=>by
  obtain⟨f,hf,e⟩:=fq.1 (O.mem_iff.1 t);obtain⟨S,u⟩:=gk.1 hf;unfold Fr.gE at u;rw[dk]at u;obtain⟨m,b7,_,_,_,_,ac,aC⟩:=h.inv.ok f S u.1;have:m=no:=by rw[e]at b7;omega
  subst this;rw[ac hs]at u
  cases u.2
 refine⟨s,rfl,λn w'=>∃ (i:Nat) (g:bO),n=(i:Int)/\i<=zs.length/\dH X w' g/\dV C g w w' i/\(∀j,g.view j=C.view j)/\aV 1 3 w' s (zs.map encZ)/\(∀f∈g.ak,f.gE=true->f.no∈zs.drop i)/\(∀z∈zs,∃f∈g.ak,f.full=true/\f.no=z)/\∀q,cV g q->¬ay s q,
  λn _=>((zs.length:Int)-n).toNat,⟨0,C,rfl,cO _,az,dV.ext C ab,λ_=>rfl,hs,λf hf hd=>?_,λz t=>?_,λq o P=>?_⟩,?_⟩
 .exact O.mem_iff.2 (fq.2 ⟨f,gk.2 ⟨hf,hd⟩,rfl⟩)
 .obtain⟨f,hf,e⟩:=fq.1 (O.mem_iff.1 t)
  obtain⟨S,u⟩:=gk.1 hf;unfold Fr.gE at u;rw[dk]at u;exact⟨f,S,u.1,e⟩
 .have:=ax q P;have:=h.raw.lt o;omega
 rintro _ T ⟨i,g,rfl,hi,p,l,Q,U,ad,hex,al⟩;have ba:=l.aT;refine⟨λaH=>?_,λaF=>?_⟩
 .have G:i<zs.length:=by
   have:(i:Int)<(s.len:Int):=ck aH;omega
  obtain⟨a,aG,aI⟩:∃a:ah,s.a=some a/\T.cell? (a.add (Int.toNat (i:Int)*1))=some (.int .i64 zs[i]):=by
   obtain⟨b,c,y,_,_,_,_,V,_⟩:=U.cell (i:=i) (v:=encZ zs[i]) (by rw[m5,dr G];rfl);exact⟨_,y,by rw[dm,aB,cQ,fj];exact V⟩
  refine⟨a,aG,⟨I,by show(i:Int)<(s.len:Int);omega⟩,zs[i],aI,?_⟩;rw[←l.c];refine(uZ p.raw _).use ?_;rintro _ _ ⟨aK,rfl⟩;obtain⟨f,aL,aM,aO⟩:=hex zs[i] (cJ G);rcases aK with ⟨k,H,rfl,W,Y⟩|⟨_,aP⟩
  rotate_left
  .exact absurd aO (aP f aL aM)
  have J:=cH T;have B:=p.ext J;obtain⟨no,b7,cA,am,aQ,bb,ac,aC⟩:=B.inv.ok _ (cJ H) W;have t:zs[i]=(no:Int):=by rw[←Y,b7]
  have aS:=jA B.raw.f H (j:=5) (by decide);refine⟨_,rfl,aY ⟨_,rfl,id,_,B.raw.cells.1,_,rfl,id,(g.ak[k]).b,by rw[aB];exact aS,?_⟩⟩;rw[t];refine(uV B.raw.dev (i:=no) cA I am.1 aQ λq o hf=>(am.2.2 q o).1.1 (.inr (.inr hf))).use ?_;rintro aU ai aW;have aX:=l.ag.size;have bc:=J.size;rcases aW with ⟨y,rfl,E,r⟩|⟨y,rfl,s2,E,r,a0⟩
  .obtain⟨K,L⟩:=x4 B E rfl (B.inv.ct 2) (λj=>u0 g.D 2 j) (r.mono λq _ e=>.inl e) λq o=>.inl o
   refine⟨3,rfl,λ_=>⟨{g with D:=g.D.ct 2},K,l.c,l.d,l.len,l.n,l.oa,l.r1,by show g.D.aT<=_;omega,λm M=>?_,?_,?_,λj=>(L j).trans (Q j),.inr ⟨rfl,?_,.inl λa1=>?_⟩⟩,λh=>(by cases h)⟩
   .exact(iW (.inr rfl) p.raw.dev.f4 (l.calm (m+1) (fK M I))).1
   .refine c5 (l.ag.trans (af.c7 J)) r λq o e=>?_
    exact(l.cS q (.inr (.inr (.inl e)))).resolve_right I
   .exact l.cS
   .exact congrArg (λk=>k.1.1) l.bP
   .have:=(iW (k:=2) (m:=0) (.inr rfl) p.raw.dev.f4 (l.calm 1 (fK a1 I))).2
    rw[y]at this;cases this
  .obtain⟨bl,bd,ao,R,a2⟩:=G8 B H W (by rw[Y,t]) (λhs=>aA _ (cJ G) _ t.symm (by rw[←l.bT];exact hs)) E r a0
   refine⟨0,rfl,λh=>(by cases h),λ_=>⟨_,rfl,by rw[aB];exact bl,by rw[aB];exact bd,?_⟩⟩;rw[aB];refine aY ?_;generalize ai.setCell ⟨g.aR,k*6+1,none⟩ false=be at ao R;have a3:IntKind.wrap .i64 ((i:Int)+1)=((i+1:Nat):Int):=by rw[bw I I];omega
   rw[a3];have a4:=(l.trans (dV.ext g J)).trans R;have a5:zs.drop i=zs[i]::zs.drop (i+1):=k7 G;refine⟨⟨i+1,_,rfl,I,ao,a4,λj=>(a2 j).trans (Q j),(U.ext J).ag R.ag λq o hf=>al q hf o,λf hf A=>?_,λz t=>?_,λq o P=>?_⟩,by show((zs.length:Int)-((i+1:Nat):Int)).toNat<((zs.length:Int)-(i:Int)).toNat;omega⟩
   .have hf:f∈g.ak.set k {g.ak[k] with fL:=false}:=hf
    obtain⟨b,Z,rfl⟩:=fa hf;have ap:b<g.ak.length:=by simpa using Z
    by_cases e:k=b
    .subst e
     simp[Fr.gE]at A
    .simp only[e4 e]at A⊢
     have F:=ad _ (cJ ap) A;rw[a5]at F;rcases cN.1 F with aa|aa
     .unfold Fr.gE at A
      rw[dk]at A;exact absurd (p.inv.un k b H ap W A.1 (by rw[Y,aa])) e
     .exact aa
   .obtain⟨f,f1,f2,f3⟩:=hex z t
    obtain⟨b,Z,rfl⟩:=fa f1;by_cases e:k=b
    .subst e
     exact⟨{g.ak[k] with fL:=false},List.mem_set H _,f2,f3⟩
    .exact⟨g.ak[b],r3.2 ⟨b,by show b<(g.ak.set k _).length;rw[c_];exact Z,by show(g.ak.set k _)[b]'_=_;rw[e4 e]⟩,f2,f3⟩
   .rcases R.cS q o with F|F
    .exact al q F P
    .have:=U.lt q P;omega
 .have G:i=zs.length:=by
   have:¬(i:Int)<(s.len:Int):=cG aF;omega
  have V:∀f∈g.ak,f.gE=false:=λf hf=>by
   cases A:f.gE with
   |false=>rfl
   |true=>
    have:=ad f hf A;rw[G,List.drop_length]at this
    cases this
  have aq:g.D.b3.getD 3 0=C.D.b3.getD 3 0:=congrArg Prod.snd l.bP;rw[←l.c];refine⟨_,rfl,_,p.raw.cells.1,(x3 p.raw.dev I).use ?_⟩;have aX:=l.ag.size;rintro aU ai (⟨y,rfl,E,r⟩|⟨y,rfl,E,r⟩)
  .obtain⟨K,L⟩:=x4 p E rfl (p.inv.ct 3) (λj=>u0 g.D 3 j) (r.mono λq _ e=>.inl e) λq o=>.inl o
   refine⟨3,rfl,{g with D:=g.D.ct 3},K,l.c,l.d,l.len,l.n,l.oa,l.r1,by show g.D.aT<=_;omega,λm M=>rO _ (l.calm m (fK M I)),c5 l.ag r λq o e=>(l.cS q (.inr (.inr (.inl e)))).resolve_right I,l.cS,λj=>(L j).trans (Q j),.inr ⟨rfl,congrArg (λk=>k.1.1) l.bP,.inr ?_⟩⟩;unfold aZ.fD at y⊢;rw[←aq];exact y
  .have ar:∀q,b9 (g.D.ct 3).h8 q->b9 g.D q\/T.heap.size<=q:=by
    rintro q (e|e|e|⟨x,hx,e⟩)
    .exact .inl (.inl e)
    .exact .inl (.inr (.inl e))
    .exact .inl (.inr (.inr (.inl e)))
    .cases hx
   have a6:∀j,(g.D.ct 3).h8.now j=g.D.now j:=λj=>by
    by_cases N:j<g.D.n
    .exact(x2 (g.D.ct 3) N).trans (u0 g.D 3 j)
    .have F:g.D.h8.now j=g.D.now j:=BQ p.raw.dev j
     exact F
   obtain⟨K,L⟩:=x4 p E rfl ⟨rN (g.D.ct 3),λ_ h=>h,λj N=>by
    have N:g.D.bT j=true:=N;have e:g.D.ei j=[]:=by rw[l.oa.2];exact au j (by rw[←l.oa.1];exact N)
    exact e.symm⟩ a6 r ar
   refine⟨0,rfl,{g with D:=(g.D.ct 3).h8},K,l.c,l.d,l.len,(rN (g.D.ct 3)).trans l.n,l.oa,l.r1,by show g.D.aT<=_;omega,λm M=>rO g.D (l.calm m (fK M I)),c5 l.ag r λq o e=>(l.cS q (.inr (.inr e))).resolve_right I,λq o=>?_,λj=>(L j).trans (Q j),.inl ⟨rfl,rfl,V,?_⟩⟩
   .rcases o with e|e|e
    .exact l.cS q (.inl e)
    .exact l.cS q (.inr (.inl e))
    .rcases ar q e with e|e
     .exact l.cS q (.inr (.inr e))
     .exact .inr I
   .show(g.D.b3.set 3 _).getD 3 0=_
    have bf:=p.raw.dev.f4;rw[ff (by rw[c_];omega),g7,aq]
end
def h9(a8 d c sb:Nat)(l:eG)(u:ew)(gen now first pending keys:Nat)(failed:al):O aa:=
 [.pointer (some a8),.pointer (some d),.pointer (some c),.pointer (some sb),l.ak,l.batch,.int .u64 (l.hX:Nat),
  u.root,u.aG,u.map,.int .u64 (u.clock:Nat),.int .u64 (u.db:Nat),u.keys,
  .int .u64 (gen:Nat),.int .u64 (now:Nat),.int .u64 (first:Nat),pending,keys,failed]
section
variable {w w':J}{D:aZ}
structure BR(D:aZ)(l:eG)(u:ew)(gen sb:Nat)(w:J)(v:aa)(w':J)(c aR a8 st:Nat):Prop where
 val:v=.tuple #[.pointer (some st),(0:Int)]
 ca:dH (λ_=>False) w' (k0 c aR l.ak D)
 cF:Var w' a8 [.pointer (some c),.pointer (some sb),.int .u64 ((gen+1:Nat):Int),u.root,u.aG] 243
 sv:Var w' st (h9 a8 D.d c sb l u gen u.clock 0 0 u.keys false) 146
 x:Ext w w'
 hc:w.heap.size<=c/\c<a8
 hf:w.heap.size<=aR/\aR<a8
 ht:a8<st
def aZ.iF(D:aZ)(s:Nat->al)(z:Nat->O c0):aZ:={D with bT:=s,ei:=z}
theorem c1.iF(h:c1 w D)(s:Nat->al)(z:Nat->O c0):c1 w (D.iF s z):=⟨h.v,h.l,h.m,h.ws,h.wn,h.sl,h.mK,h.b2,h.bp,h.f4,h.fr,h.a1,h.a2,h.a3,h.r⟩
theorem nB(h:c1 w D){l:eG}(q:8<=l.ak/\l.ak<=64){u:ew}(hu:xX D.n (u.root:Nat) (u.aG:Nat)){gen:Nat}(hg:gen+1<18446744073709551616)(s:∀j,D.bT j=true->D.eT j=D.ei j)(sb:Nat):
 aJ aj 61 #[.pointer (some D.d),.agg l.c.toArray,.agg u.c.toArray,.int .u64 (gen:Nat),.pointer (some sb)] w (λv w'=>∃c aR a8 st,BR D l u gen sb w v w' c aR a8 st):=by
 refine ae.Dh _ (l.ak:Nat) (l.batch:Nat) (l.hX:Nat) (u.root:Nat) (u.aG:Nat) (u.map:Nat) (u.clock:Nat) (u.db:Nat) (u.keys:Nat) (gen:Nat) (some sb) w _ ?_;(delta ae.nB aD Y gY an cl;dsimp only);refine a_ (vs:=l.c) rfl λw1 t i H=>a_ (vs:=u.c) rfl λai x b J=>?_;have r:=t.ext b;have y:=h.ext (i.trans b);refine⟨_,r.cell,(pj y q.1 q.2 s).use ?_⟩;rintro _ a ⟨c,aR,rfl,e,f,K,L⟩;have k:=x.ext f;have z:IntKind.wrap .u64 ((gen:Int)+1)=((gen+1:Nat):Int):=by rw[gz I I];omega
 rw[z];have M:(k0 c aR l.ak D).D=D:=rfl;refine⟨_,0,rfl,λh=>(by cases h),λ_=>⟨_,k.cell,_,by rw[aB];exact k.cell,(pk e.raw sb ((gen+1:Nat):Int) (u.root:Nat) (u.aG:Nat)).use ?_⟩⟩;rintro _ A (⟨_,rfl,g,B,N⟩|⟨C,_⟩)
 rotate_left
 .exact absurd hu C
 have m:=k.ext g;have o:=(r.ext f).ext g;have O:=(i.trans b).size;have P:=f.size;have E:c<a.heap.size:=e.raw.lt (.inl rfl);have F:aR<a.heap.size:=e.raw.lt (.inr (.inl rfl));refine⟨_,0,rfl,λh=>(by cases h),λ_=>⟨_,o.cell,_,by rw[aB];exact o.cell,_,by rw[aB];exact o.cell,p0 m ⟨_,by rw[aB];exact m.cell,_,by rw[aB];exact m.cell,(h9 a.heap.size D.d c sb l u gen u.clock 0 0 u.keys false).toArray,by kernel_rfl,a_ (vs:=h9 a.heap.size D.d c sb l u gen u.clock 0 0 u.keys false) rfl λQ G p R=>?_⟩⟩⟩;exact⟨c,aR,a.heap.size,A.heap.size,rfl,(e.ext g).ext p,B.ext p,G,Ext.trans (Ext.trans (i.trans b) f) (Ext.trans g p),⟨I,E⟩,⟨I,F⟩,I⟩
def hN(f:Nat->al)(k:Nat):O UInt8:=(List.range k).map λi=>UInt8.ofNat (byteOf f i)
theorem BS(f:Nat->al)(k:Nat):ax (hN f k)=eM f k:=by
 unfold ax hN eM;rw[ov];refine List.map_congr_left λi _=>?_;have:=jZ f i;show Value.int .u8 (((UInt8.ofNat (byteOf f i)).toNat:Nat):Int)=_;rw[r2,je this]
theorem vg(f:Nat->al)(k:Nat):(hN f k).length=k:=by simp[hN]
def iG:ew:=⟨0,0,2,0,0,0⟩
structure BT(D az:aZ):Prop where
 d:az.d=D.d
 n:az.n=D.n
 now:∀j,az.now j=if j=1 then ef 1 (iX iG D.n 1) else if j=2 then ef 2 ⟨4,1,hN (λi=>decide (i<3)) ((D.n+7)/8)⟩ else if j=0 then gR else D.now j
 waits:az.waits=[]
 aT:az.aT=D.aT+4
 calm:∀k,az.calm k
 b3:az.b3.getD 3 0= -1
 bT:az.bT=λi=>decide (i<3)
 ei:az.ei=λ_=> []
 r:az.r1=D.r1
structure Hb(D:aZ)(l:eG)(w:J)(v:aa)(w':J)(az:aZ)(sb:Nat)(s1 s2:ad)(c aR a8 st:Nat)(jz:J):Prop where
 BU:BR az l iG 1 sb jz v w' c aR a8 st
 sp:e1 w' sb D.n (λi=>decide (i<3)) (λi=>decide (i<3)) s1 s2
 pG:BT D az
 ag:af (b9 D) w jz
 rP:∀q,gb sb s1 s2 q->w.heap.size<=q/\q<jz.heap.size
 dq:∀q,b9 az q->b9 D q\/(w.heap.size<=q/\q<jz.heap.size)
 Hc:∀q,gb sb s1 s2 q->¬b9 az q
theorem nA(h:c1 w D){l:eG}(aq:oh (l.ak:Nat) (l.batch:Nat) (l.hX:Nat))(bl:∀k,D.calm k)(pR:D.b3.getD 3 0= -1)(b4:D.aT<=999999000):
 aJ aj 21 #[.pointer (some ⟨D.d,0,none⟩),.agg l.c.toArray] w (λv w'=>∃az sb s1 s2 c aR a8 st jz,Hb D l w v w' az sb s1 s2 c aR a8 st jz):=by
 have b5:=h.b2;have b7:=h.bp;refine ae.Dd _ (l.ak:Nat) (l.batch:Nat) (l.hX:Nat) w _ ?_;(delta ae.nA aD Y cl b6 an bW gY bG dZ jS av iR;dsimp only);refine a_ (vs:=l.c) rfl λw1 R K b8=>⟨_,R.cell,_,by rw[aB];exact R.cell,_,by rw[aB];exact R.cell,(pb w1 _ _ _ _).use ?_⟩;rintro _ bm ⟨rfl,E⟩;have bn:=h.ext (K.trans E);refine⟨_,rfl,λt=>?_,λ_=>(uU bn).use ?_⟩
 .rw[dO aq]at t;cases t
 rintro _ _ ⟨rfl,rfl⟩;refine⟨_,rfl,(pc bm (D.n:Nat) 3).use ?_⟩;rintro _ b_ (⟨bo,_⟩|⟨_,_,_,_,sb,s1,s2,rfl,hs,aa,ab⟩)
 .exact absurd ⟨I,I,I,I⟩ bo
 rw[dm]at hs;have ac:Int.toNat 3=3:=rfl;rw[ac]at hs;refine⟨_,0,rfl,λh=>(by cases h),λ_=>(A3 hs).use ?_⟩;rintro _ bq ⟨aO,rfl,aP,L,ca⟩;rw[←BS]at aP;obtain⟨mp,S⟩:∃mp:iz,mp=⟨4,1,hN (λi=>decide (i<3)) ((D.n+7)/8)⟩:=⟨_,rfl⟩;have aQ:mF mp:=by rw[S];exact⟨(by decide:1<=4),(by decide:4<=4),(by decide:1<18446744073709551616),by show(hN _ _).length<=232;rw[vg];omega⟩
 have aS:=uI (s:=aO) (p:=mp) (no:=2) (w:=bq) (by rw[S];exact aP.src) (by decide) aQ;rw[S]at aS;refine⟨aO,rfl,aS.use ?_⟩;rw[←S];rintro _ br ⟨G,rfl,aU,O,bs⟩;have aV:=Ext.trans (Ext.trans (K.trans E) aa) (Ext.trans L O);have cb:=aV.size;refine⟨G,0,rfl,λh=>(by cases h),λ_=>⟨⟨I,I,I,I⟩,?_⟩⟩;rw[xa];have bt:Int.toNat 256=256:=rfl;rw[bt];have au:gR.length=256:=l7;refine a_ (vs:=ax gR) rfl λC T H cc=>?_;obtain⟨z,bu⟩:∃z,z=br.heap.size:=⟨_,rfl⟩;rw[←bu]at T⊢;have ah:=Ext.trans aV H;have aW:Src 1 C ⟨some ⟨z,0,none⟩,256,256⟩ (ax gR):=T.q_ (o:=0) (n:=256) (c:=256) (l:=gR) (by rw[da,au];exact bk _) (by rw[iK,dT (by rw[da,au];exact bk _)]);refine⟨#[.slice (some ⟨z,0,none⟩) 256 256,.slice (some ⟨z,0,none⟩) 256 256,.slice G.a G.len G.cap],by kernel_rfl,?_⟩;have bv:(ef 2 mp).length=256:=rm _ aQ;obtain⟨vals,aw⟩:∃vals:Nat->c0,vals=λj=>if j=2 then ef 2 mp else gR:=⟨_,rfl⟩
 have bx:∀j,(vals j).length=256:=λj=>by
  rw[aw];show(if j=2 then _ else _:c0).length=256;split
  .exact bv
  .exact au
 have bz:∀k,k<3->∃J:ad,cellAt #[.slice (some ⟨z,0,none⟩) 256 256,.slice (some ⟨z,0,none⟩) 256 256,.slice G.a G.len G.cap] (Int.toNat ((k:Nat):Int)*1)=some (.slice J.a J.len J.cap)/\Src 1 C J (ax (vals k))/\∀q,ay J q->w.heap.size<=q/\q<C.heap.size:=by
  intro k aX;have bA:=T.lt;have cd:=H.size;rw[aw];have hi:∀q,ay (⟨some ⟨z,0,none⟩,256,256⟩:ad) q->w.heap.size<=q/\q<C.heap.size:=λq b=>by
   obtain⟨A,ar,rfl⟩:=b
   cases ar;show w.heap.size<=z/\z<_;exact⟨I,bA⟩
  have ce:=(Ext.trans (Ext.trans (K.trans E) aa) L).size
  match k,aX with
  |0,_=>exact⟨⟨some ⟨z,0,none⟩,256,256⟩,rfl,aW,hi⟩
  |1,_=>exact⟨⟨some ⟨z,0,none⟩,256,256⟩,rfl,aW,hi⟩
  |2,_=>exact⟨G,rfl,aU.src.ext H,λq b=>by have:=bs q b;have:=aU.lt q b;omega⟩
 have bB:=h.ext ah;refine⟨λn w'=>∃ (k:Nat) (r:aZ),n=(k:Int)/\k<=3/\c1 w' r/\r.d=D.d/\r.n=D.n/\(∀j,r.now j=if j<k then vals j else D.now j)/\r.aT=D.aT+k/\(∀m,r.calm m)/\(r.b3.getD 3 0= -1/\r.r1=D.r1)/\af (b9 D) C w'/\(∀q,b9 r q->b9 D q\/C.heap.size<=q),
  λn _=>((3:Int)-n).toNat,⟨0,D,rfl,cO _,bB,rfl,rfl,λj=>rfl,rfl,bl,⟨pR,rfl⟩,.refl _ _,λq b=>.inl b⟩,?_⟩
 rintro _ cf ⟨k,r,rfl,aX,P,ai,aY,a0,bC,aA,⟨aC,a1⟩,al,M⟩;have cg:=al.size;refine⟨λaH=>?_,λbD=>?_⟩
 .have aE:k<3:=by
   have:((k:Nat):Int)<3:=ck aH;omega
  obtain⟨J,bE,bF,a2⟩:=bz k aE;have dM:∀q,ay J q->¬b9 D q:=λq b hf=>by have:=(a2 q b).1;have:=h.lt hf;omega
  have a3:=uV P (i:=k) I I (bF.ag al dM) (bx k) λq b hf=>by
   rcases M q hf with f|f
   .exact dM q b f
   .have:=(a2 q b).2;omega
  rw[ai]at a3;refine⟨⟨I,I⟩,J,bE,a3.use ?_⟩;rintro _ ch (⟨t,_⟩|⟨t,rfl,s,bH,bI,bJ⟩)
  .have:=(iW (k:=2) (m:=0) (.inr rfl) P.f4 (aA 1)).2
   rw[t]at this;cases this
  refine⟨0,rfl,λh=>(by cases h),λ_=>?_⟩;have bK:IntKind.wrap .i64 (((k:Nat):Int)+1)=((k+1:Nat):Int):=by rw[bw I I];omega
  rw[bK];refine⟨⟨k+1,_,rfl,I,bH,ai,aY,λj=>?_,by show r.aT+1=_;omega,λm=>(iW (.inr rfl) P.f4 (aA _)).1,⟨(congrArg Prod.snd (pW r (.inr rfl))).trans aC,a1⟩,c5 al bI λq b hf=>(M q hf).resolve_right I,λq b=>?_⟩,by show((3:Int)-((k+1:Nat):Int)).toNat<((3:Int)-((k:Nat):Int)).toNat;omega⟩
  .rw[n2,a0]
   by_cases e:j=k
   .rw[if_pos e,if_pos I,e]
   .rw[if_neg e]
    by_cases U:j<k
    .rw[if_pos U,if_pos I]
    .rw[if_neg U,if_neg I]
  .rcases vf bJ q b with f|f
   .exact M q f
   .exact .inr I
 have aE:k=3:=by
  have:¬((k:Nat):Int)<3:=cG bD;omega
 subst aE;have hf:=x3 P I;rw[ai]at hf;refine hf.use ?_;rintro _ a4 (⟨t,_⟩|⟨_,rfl,aF,bL⟩)
 .unfold aZ.fD at t
  rw[aC]at t;cases t
 obtain⟨cR,F⟩:∃cR,cR=(r.ct 3).h8:=⟨_,rfl⟩;rw[←F]at aF;have a5:cR.d=D.d:=by rw[F];exact ai
 have a6:cR.n=D.n:=by rw[F];exact(rN _).trans aY
 have bM:cR.r1=D.r1:=by rw[F];exact a1
 have bN:∀j,cR.now j=if j<3 then vals j else D.now j:=λj=>by
  rw[←a0,F];have aG:r.h8.now j=r.now j:=BQ P j;exact aG
 have ci:cR.aT=D.aT+3:=by rw[F];exact bC
 have a7:∀m,cR.calm m:=λm=>by rw[F];exact rO _ (aA m)
 have a9:cR.b3.getD 3 0= -1:=by
  rw[F];show(r.b3.set 3 _).getD 3 0=_;have bO:=P.f4;rw[ff (by rw[c_];omega),g7,aC];rfl
 have am:∀q,b9 cR q->b9 D q\/C.heap.size<=q:=λq b=>by
  rw[F]at b;rcases b with e|e|e|⟨x,hx,e⟩
  .exact M q (.inl e)
  .exact M q (.inr (.inl e))
  .exact M q (.inr (.inr (.inl e)))
  .cases hx
 have ao:af (b9 D) C a4:=c5 al bL λq b hf=>(M q hf).resolve_right I;have V:∀q,w.heap.size<=q->¬b9 D q:=λq b hf=>by have:=h.lt hf;omega
 have bQ:=((R.ext (E.trans (Ext.trans aa (Ext.trans L (Ext.trans O H))))).ag ao (V _ (bk _)));have bR:=(hs.ext (Ext.trans L (Ext.trans O H))).ag ao λq b=>V q (by have:=ab q b;have:=(K.trans E).size;omega);refine⟨0,rfl,λh=>(by cases h),λ_=>a_ (vs:=AL.c) rfl λcj bS bT cm=>AO bS rfl iG λbU ba bV cn=>p0 ba ?_⟩;have W:Ext a4 bU:=Ext.cx bT bV (bk _);have X:=aF.ext W;have bb:=mq X I (u:=iG) ⟨(by decide:0<4294967296),(by decide:0<256),(by decide:2<4294967296),(by decide:0<18446744073709551616),(by decide:0<18446744073709551616),(by decide:0<4294967296)⟩ (gen:=1) (by decide);rw[a5]at bb;refine bb.use ?_;have co:=W.size;have cp:=ao.size;rintro _ bc ⟨ap,⟨t,_⟩|⟨_,s,bX,g,B,⟨t,_⟩|⟨_,rfl,Z⟩⟩⟩
 .have:=(iW (k:=2) (m:=0) (.inr rfl) X.f4 (a7 1)).2
  rw[t]at this;cases this
 .have aI:g.b3.getD 3 0= -1:=by rw[B];exact(congrArg Prod.snd (pW cR (.inr rfl))).trans a9
  unfold aZ.fD at t;rw[aI]at t;cases t
 have aI:g.b3.getD 3 0= -1:=by rw[B];exact(congrArg Prod.snd (pW cR (.inr rfl))).trans a9
 obtain⟨N,y⟩:∃N,N=((g.ct 3).h8).iF (λi=>decide (i<3)) (λ_=> []):=⟨_,rfl⟩;have Z:=Z.iF (λi=>decide (i<3)) (λ_=> []);rw[←y]at Z;have bY:∀x∈g.waits,x.i<g.n:=λx hx=>by
  rw[B]at hx⊢;rcases cN.1 hx with rfl|hx
  .show 1%2<cR.n;omega
  .exact(X.wn x (gk.1 hx).1).2.1
 have bZ:∀j,N.now j=if j=1 then ef 1 (iX iG D.n 1) else if j<3 then vals j else D.now j:=λj=>by
  have aG:N.now j=g.now j:=by
   rw[y];by_cases bd:j<g.n
   .exact(x2 (g.ct 3) bd).trans (u0 g 3 j)
   .have Q:g.now j=[]:=by
     unfold aZ.now
     cases hf:g.waits.find? λx=>x.i==j with
     |some x=>
      have hx:=ji hf;have he:x.i=j:=by simpa using kf hf
      have:=bY x hx;omega
     |none=>
      have:¬j<g.bP.length:=bd;show g.bP.getD j []=[];rw[fv,m7 I];rfl
    rw[Q];show((List.range (g.ct 3).n).map (g.ct 3).now).getD j []=[];rw[fv,m7 (by simp;show g.n<=j;omega)];rfl
  rw[aG,B,n2,bN,a6]
 have aK:BT D N:=by
  refine⟨by rw[y,B];exact a5,by rw[y];exact(rN (g.ct 3)).trans (by rw[B];exact a6),λj=>?_,by rw[y];rfl,by rw[y,B];show cR.aT+1=_;omega,λm=>by rw[y,B];exact rO (cR.put (1%2) s (ef (1%2) (iX iG cR.n 1))) (iW (.inr rfl) X.f4 (a7 _)).1,?_,by rw[y];rfl,by rw[y];rfl,by rw[y,B];exact bM⟩
  .rw[bZ,aw,←S]
   by_cases Q:j=1
   .rw[if_pos Q,if_pos Q]
   .rw[if_neg Q,if_neg Q]
    by_cases U:j=2
    .subst U;rfl
    .by_cases ac:j=0
     .subst ac;rfl
     .rw[if_neg I,if_neg U,if_neg ac]
  .rw[y]
   show(g.b3.set 3 _).getD 3 0=_;have bO:g.b3.length=4:=by rw[B];show(cR.b3.set 2 _).length=4;rw[c_];exact X.f4
   rw[ff (by rw[c_];omega),g7,aI];rfl
 have be:∀q,b9 N q->b9 D q\/C.heap.size<=q:=λq b=>by
  rw[y]at b;have f:b9 g q:=by
   rcases b with e|e|e|⟨x,hx,e⟩
   .exact .inl e
   .exact .inr (.inl e)
   .exact .inr (.inr (.inl e))
   .cases hx
  rw[B]at f;rcases vf bX q f with bf|bf
  .exact am q bf
  .exact .inr I
 have bg:af (b9 D) C bc:=c5 (c5 ao W λq _ h=>h.elim) ap λq b hf=>(am q hf).resolve_right I;have aL:=(bQ.ext W).ag ap λhf=>by
  rcases am _ hf with f|f
  .exact V _ (bk _) f
  .have:=ah.size;have:=T.lt;have:=R.lt;have:=E.size;have:=aa.size;have:=L.size;have:=O.size;have:=H.size;omega
 have b0:=ba.ag ap λhf=>by
  have:=aF.lt hf;omega
 have bh:=(bR.ext W).ag ap λq b hf=>by
  have bi:=ab q b;have aM:=(hs.ext (Ext.trans L (Ext.trans O (af.refl _ _)))).lt q b;rcases am _ hf with f|f
  .exact V q (by have:=(K.trans E).size;omega) f
  .have:=H.size;omega
 have cq:=bg.size;have T:=ah.size;have bj:=nB Z (l:=l) (u:=iG) (gen:=1) ⟨by have:=aq.1;omega,by have:=aq.2.1;omega⟩ ⟨by decide,by decide,by decide,by rw[aK.n];show(0:Int)<_;omega,by decide⟩ (by decide) (λj _=>by rw[y];rfl) sb;rw[aK.d]at bj;refine⟨0,rfl,λh=>(by cases h),λ_=>⟨_,aL.cell,_,by rw[aB];exact aL.cell,_,by rw[aB];exact aL.cell,p0 b0 (bj.use ?_)⟩⟩;rintro _ cr ⟨c,aR,a8,st,aN⟩;have b1:=aN.val;subst b1;refine⟨_,0,rfl,N,sb,s1,s2,c,aR,a8,st,bc,aN,bh.ext aN.x,aK,c5 (ah.mono λ_ _ h=>h.elim) bg λq _ h=>h,λq b=>?_,λq b=>?_,λq b hf=>?_⟩
 .have bi:=ab q b
  have aM:=bh.lt q b;have:=(K.trans E).size;exact⟨I,aM⟩
 .rcases be q b with f|f
  .exact .inl f
  .exact .inr ⟨I,Z.lt b⟩
 .have bi:=ab q b
  have aM:=(hs.ext (Ext.trans L (Ext.trans O (af.refl _ _)))).lt q b;rcases be _ hf with f|f
  .exact V q (by have:=(K.trans E).size;omega) f
  .have:=H.size;omega
end
theorem nR{b d:Nat}(k:b<256)(hd:d<256)(w:J):aJ aj 19 #[.int .u8 (b:Nat),.int .u8 (d:Nat)] w (λv w'=>v=.agg (eG.c ⟨8,1+b%12,1+d%12⟩).toArray/\Ext w w'):=by
 refine ae.DI _ _ w _ ?_;(delta ae.nR Y av aD cl;dsimp only);have g:IntKind.wrap .i64 (1+IntKind.wrap .i64 (Int.tmod (b:Int) 12))=((1+b%12:Nat):Int):=by
  rw[r5 I,bw (n:=(b:Int)%12) I I,bw I I];omega
 have h:IntKind.wrap .u64 (1+IntKind.wrap .u64 (Int.tmod (d:Int) 12))=((1+d%12:Nat):Int):=by
  rw[r5 I,gz (n:=(d:Int)%12) I I,gz I I];omega
 rw[g,h];refine a_ (vs:=[(0:Int),(0:Int),.int .u64 0]) rfl λw1 e i l=>⟨by decide,by decide,e.cd rfl (λv f=>?_),rfl,cK e (us:=eG.c ⟨8,1+b%12,1+d%12⟩) rfl rfl λai a j m=>⟨_,a.cell,_,by rw[aB];exact a.cell,_,by rw[aB];exact a.cell,rfl,Ext.cx i j (bk _)⟩⟩;simp only[cN,e3,fb]at f;rcases f with rfl|rfl|rfl<;>trivial
section
variable {w w':J}{s:ad}{T:O aW}{i cT:Nat}{most:Int}
def fW(s:Int)(p:cc)(t:aW):al:=decide (t.s=s)&&decide (t.p=p)
end
instance:DecidableEq aW:=λa b=>decidable_of_iff (a.s=b.s/\a.p=b.p/\a.b=b.b/\a.u=b.u) ⟨λh=>by cases a;cases b;simp_all,λh=>by rw[h];exact⟨rfl,rfl,rfl,rfl⟩⟩
section
variable {w w':J}{s t:ad}{T U:O aW}
end
structure kB(V:Nat->c0)(n gen:Nat)(u:ew)(g:Nat->al)(P:Nat->au aA)(p:O Nat)(L:O aI):Prop where
 fr:∃j,j<n/\g j=false
 BV:rC ((gen%2:Nat):Int) (V (gen%2))=.ok (u,n,gen)
 Hd:V (1-gen%2)=gR\/∃a g',rC ((1-gen%2:Nat):Int) (V (1-gen%2))=.ok (a,n,g')/\g'<gen
 mp:∃hK,hK<=gen/\eY (u.map:Int) (V u.map)=.ok ⟨4,hK,hN g ((n+7)/8)⟩
 g:∀no,g no=true↔no∈p\/no<2\/no=u.map
 b1:p.Nodup
 two:∀x∈p,2<=x/\x≠u.map/\x<n
 ok:(u.aG=0/\u.root=0/\p=[]/\L=[])\/ep P u.aG none none u.root p L
 ez:∀x∈p,∀b1,P x=some b1->gw gen b1.leaf x (V x) b1
 keys:u.keys=L.length
 kv:∀q∈L,cq q.1/\q.2.length<=24
 He:mL u
 x5:mM u n
 Hf:u.db+1<=gen
theorem kB.agree{V a:Nat->c0}{n gen:Nat}{u:ew}{g:Nat->al}{P P':Nat->au aA}{p:O Nat}{L:O aI}(h:kB V n gen u g P p L)(fJ:∀j,g j=true->a j=V j)(b:∀x∈p,P x=P' x):kB a n gen u g P' p L:=by
 have h0:a (gen%2)=V (gen%2):=fJ _ ((h.g _).2 (.inr (.inl I)));have c:a (1-gen%2)=V (1-gen%2):=fJ _ ((h.g _).2 (.inr (.inl I)));refine⟨h.fr,by rw[h0];exact h.BV,by rw[c];exact h.Hd,by rw[fJ _ ((h.g _).2 (.inr (.inr rfl)))];exact h.mp,h.g,h.b1,h.two,h.ok.imp id λd=>(d.agree b).1,λx hx b1 e=>?_,h.keys,h.kv,h.He,h.x5,h.Hf⟩;rw[fJ _ ((h.g _).2 (.inl hx))];exact h.ez x hx b1 (by rw[b x hx];exact e)
structure cm where
 st:Nat
 T:aF
 l:eG
 u:ew
 gen:Nat
 now:Nat
 first:Nat
 pending:Nat
 keys:Nat
 failed:al
def cm.V(S:cm)(j:Nat):c0:=S.T.C.D.bP.getD j []
def cm.cells(S:cm):O aa:=h9 S.T.a8 S.T.C.D.d S.T.C.c S.T.sb S.l S.u S.gen S.now S.first S.pending S.keys S.failed
structure ja(w:J)(S:cm)(aK:O Nat)(bB:O aI):Prop where
 v:Var w S.st S.cells 146
 t:bU w S.T
 es:S.T.E S.st
 jb:kB S.V S.T.n S.gen S.u S.T.g S.T.P aK bB
 gen:S.T.gen=S.gen+1
 num:S.now<18446744073709551616/\S.first<=S.now/\S.u.db+1<=S.gen/\S.gen+2<18446744073709551616/\S.l.batch<=1000/\S.l.hX<=1048576/\1<=S.l.batch
 bT:∀j,S.T.g j=true->S.T.C.D.bT j=true
structure dB(w:J)(S:cm)(pages:O Nat)(L:O aI)(aK:O Nat)(bB:O aI):Prop extends ja w S aK bB where
 ok:gj S.T pages L
 b1:pages.Nodup
 f:∀no,S.T.f no=true↔no∈pages\/no<2\/no=S.u.map
 two:∀x∈pages,2<=x/\x≠S.u.map
 kv:∀p∈L,cq p.1/\p.2.length<=24
 keys:S.keys=L.length
 om:S.pending<=1000
 live:S.failed=false->¬S.T.C.D.ro/\S.T.C.D.ei=(λ_=> [])/\1<=b4 S.T
 dead:S.failed=true->S.T.C.D.ro/\L=bB/\pages=aK/\S.pending=0
def aZ.quiet(D:aZ):Prop:=(∀k,D.calm k)/\D.b3.getD 3 0= -1
def cm.W(S:cm)(q:Nat):Prop:=S.T.M q/\(S.T.E q->q=S.st)
structure dL(k:Nat)(S aC:cm)(w w':J):Prop where
 st:aC.st=S.st
 d:aC.T.C.D.d=S.T.C.D.d
 n:aC.T.n=S.T.n
 l:aC.l=S.l
 aT:aC.T.C.D.aT<=S.T.C.D.aT+k
 q:S.T.C.D.quiet->aC.T.C.D.quiet
 ag:af S.W w w'
 cS:∀q,aC.T.M q->S.T.M q\/w.heap.size<=q
 E:aC.T.E=S.T.E
 G:aC.T.G=S.T.G
 r:aC.T.C.D.r1=S.T.C.D.r1
section
variable {w w':J}{C:bO}{X:Nat->Prop}{T:aF}{S aC:cm}{pages aK:O Nat}{L bB:O aI}
theorem ja.mV(h:ja w S aK bB){q:Nat}(a:S.T.N q):S.W q:=⟨aF.gd a,λhe=>absurd a (h.t.jY he)⟩
theorem ja.BW(h:ja w S aK bB):S.W S.st:=⟨.inr (.inr (.inr (.inl h.es))),λ_=>rfl⟩
theorem dL.back{k q:Nat}(h:dL k S aC w w')(b:q<w.heap.size)(a:aC.W q):S.W q:=⟨(h.cS q a.1).resolve_right I,λhe=>(a.2 (by rw[h.E];exact he)).trans h.st⟩
theorem dH.iF(h:dH X w C){s:Nat->al}{z:Nat->O c0}(hc:∀f∈C.ak,∀j:Nat,f.full=true->f.no=j->s j=true->f.fL=false)(c:∀j,s j=true->C.D.eT j=z j):
 dH X w {C with D:=C.D.iF s z}:=
 ⟨⟨h.raw.v,h.raw.f,h.raw.dev.iF s z,h.raw.b7,h.raw.cA,h.raw.hd,h.raw.a1⟩,h.inv.pins,λf hf a=>by
  obtain⟨no,b,d,e,g,i,l,k⟩:=h.inv.ok f hf a
  exact⟨no,b,d,e,g,i,λhs=>hc f hf no a b hs,k⟩,h.inv.un,h.inv.eV,c⟩
theorem bU.iF(h:bU w T){s:Nat->al}{z:Nat->O c0}(hc:∀f∈T.C.ak,∀j:Nat,f.full=true->f.no=j->s j=true->f.fL=false)(a:∀j,s j=true->T.C.D.eT j=z j)(hs:∀j,s j=true->T.g j=true\/∀i,s i=true):
 bU w (T.bm {T.C with D:=T.C.D.iF s z} T.P):=⟨h.t,h.s,h.ca.iF hc a,h.jB,h.dA,h.iC,h.n,h.num,h.ez,hs,h.low⟩
theorem Hg(h:dH X w C){j:Nat}(hs:C.D.bT j=true):C.view j=C.D.now j:=by
 unfold bO.view
 cases hf:C.ak.find? λf=>f.full&&f.no==(j:Int) with
 |none=>rfl
 |some f=>
  have a:=kf hf;have b:=ji hf;simp only[dk,jH]at a;obtain⟨no,e,g,i,k,c,d,l⟩:=h.inv.ok f b a.1;have:no=j:=by omega
  subst this;exact c (d hs)
theorem Hh(h:dH X w C){j:Nat}(hs:C.D.bT j=true)(a:C.D.ei j=[]):C.view j=C.D.bP.getD j []:=by
 rw[Hg h hs,xq _ (λx hx=>(h.raw.dev.wn x hx).1),if_pos (by rw[h.inv.n_ j hs,a])]
theorem dB.view(h:dB w S pages L aK bB)(a:S.failed=false){j:Nat}(b:S.T.g j=true):S.T.C.view j=S.V j:=
 Hh h.t.ca (h.bT j b) (by rw[(h.live a).2.1])
theorem ja.set(h:ja w S aK bB){i:Nat}{x:aa}(hi:i<19):(∃u:aa,w.cell? ⟨S.st,i,none⟩=some u)/\w.frozen? ⟨S.st,i,none⟩=false/\
 Var (w.setCell ⟨S.st,i,none⟩ x) S.st (S.cells.set i x) 146/\bU (w.setCell ⟨S.st,i,none⟩ x) S.T/\af (λq=>q=S.st) w (w.setCell ⟨S.st,i,none⟩ x):=by
 obtain⟨a,b⟩:=ek h.v (i:=i) (by exact hi);exact⟨a,b,ej h.v (i:=i) x,h.t.j5 h.es (dJ w S.st i x),dJ w S.st i x⟩
end
theorem gw.mono{gen a no:Nat}{leaf:al}{l:c0}{n:aA}(h:gw gen leaf no l n)(hg:gen<=a):gw a leaf no l n:=by
 obtain⟨p,b,c,d⟩:=h;exact⟨p,b,eH c hg,d⟩
section
variable {w w':J}{C:bO}{X:Nat->Prop}{T:aF}{S aC:cm}{pages aK:O Nat}{L bB:O aI}
theorem Hi{az:aZ}(h:dH X w C)(hd:c1 w' az)(e:az.d=C.D.d)(k:j0 az C.D)(l:∀i,2<=i->az.now i=C.D.now i)(hc:af (b9 C.D) w w')(hf:∀q,b9 az q->b9 C.D q\/w.heap.size<=q):
 dH X w' {C with D:=az}/\∀j,2<=j->({C with D:=az}:bO).view j=C.view j:=by
 have p:=hc.size;have m:∀q,q<w.heap.size->cV {C with D:=az} q->cV C q:=λq a b=>by
  rcases b with c|c|c
  .exact .inl c
  .exact .inr (.inl c)
  .exact .inr (.inr ((hf q c).resolve_right I))
 refine⟨⟨h.raw.pG hd e hc hf,h.inv.pins,λf r s=>?_,h.inv.un,λq a=>⟨e_ (h.inv.eV q a).1 p,λb=>(h.inv.eV q a).2 (m q (h.inv.eV q a).1 b)⟩,k.2.2⟩,λj t=>?_⟩
 .obtain⟨no,u,v,x,y,z,A,o⟩:=h.inv.ok f r s
  exact⟨no,u,by rw[show({C with D:=az}:bO).D.n=az.n from rfl,k.1];exact v,bg.re x hc (λq _ g B=>g.1 (.inr (.inr B))) λq a g=>⟨λb=>g.1 (m q a b),g.2⟩,y,λhd=>by show _=az.now no;rw[l no o];exact z hd,λhs=>A (k.2.1 _ hs),o⟩
 .unfold bO.view
  dsimp only
  cases C.ak.find? λf=>f.full&&f.no==(j:Int) with
  |some f=>rfl
  |none=>exact l j t
theorem bU.BX{aE:bO}{P:Nat->au aA}(h:bU w T)(a:dH T.X w' aE)(hc:af (cV T.C) w w')(e:aE.c=T.C.c)(b:aE.D.n=T.C.D.n)(d:∀no b1,P no=some b1->no<T.n/\gw T.gen b1.leaf no (aE.view no) b1)(f:∀j,aE.D.bT j=true->T.g j=true\/aE.D.ro):
 bU w' (T.bm aE P):=by
 have hx:=h.ca.inv.eV;refine⟨?_,h.s.ag hc λq i hf=>(hx q (.inr (.inl i))).2 hf,a,h.jB,h.dA,h.iC,b.trans h.n,h.num,d,f,h.low⟩;have:=h.t.ag hc λhf=>(hx T.a8 (.inl rfl)).2 hf;unfold k1 at this⊢;rw[←e]at this;exact this
def aF.lQ(T:aF)(gen:Nat):aF:={T with gen:=gen}
theorem bU.Hj{gen:Nat}(h:bU w T)(b:Var w' T.a8 (k1 (T.lQ gen)) 243)(hc:af (λq=>q=T.a8) w w')(c:T.gen<=gen)(d:gen<18446744073709551616):bU w' (T.lQ gen):=
 ⟨b,h.s.ag hc λq f e=>h.jB (e▸f),h.ca.ag hc λq e=>.inl e,h.jB,h.dA,h.iC,h.n,⟨h.num.1,h.num.2.1,d⟩,λno b1 a=>⟨(h.ez no b1 a).1,(h.ez no b1 a).2.mono c⟩,h.bT,h.low⟩
theorem Hk(h:bU w T){gen:Nat}(a:T.gen<=gen)(b:gen<18446744073709551616):
 aJ aj 148 #[.pointer (some T.a8),.int .u64 (gen:Nat)] w (λv w'=>v=.tuple #[]/\bU w' (T.lQ gen)/\af (λq=>q=T.a8) w w'):=by
 refine ae.Dt _ _ w _ ?_;(delta ae.q2 an st;dsimp only);obtain⟨c,d⟩:=ek h.t (i:=2) (by simp[k1]);have e:=ej h.t (i:=2) (.int .u64 (gen:Nat));have hc:=dJ w T.a8 2 (.int .u64 (gen:Nat));refine⟨λ_=>⟨_,rfl,by rw[aB];exact c,by rw[aB];exact d,aY ?_⟩,λf=>(by cases f)⟩;rw[aB,cQ];exact⟨rfl,h.Hj e hc a b,hc⟩
def BY(aC:cm)(gen:Nat)(g:Nat->al)(pages:O Nat)(L:O aI)(clock db:Nat):Prop:=
 (∀j,g j=true->aC.T.C.D.ei j=[])\/
 ∃ (a:ew) (c:Nat->al) (d:Nat->au aA) (b:c0),(∀j,aC.T.C.D.ei j=if j=(gen+1)%2 then [b] else [])/\kB (λj=>if j=(gen+1)%2 then b else aC.V j) aC.T.n (gen+1) a c d pages L/\a.clock=clock/\a.db=db
def x6(S:cm)(pages:O Nat)(L:O aI)(aK:O Nat)(bB:O aI)(w:J)(v:aa)(w':J):Prop:=
 ∃aC,dL 100 S aC w w'/\aC.now=S.now/\
  ((v=.int .i64 0/\dB w' aC pages L pages L/\aC.failed=false/\aC.gen=S.gen+1/\aC.u.clock=S.now/\aC.u.db=S.u.db+1/\aC.pending=0)\/
   (v=.int .i64 3/\¬S.T.C.D.quiet/\dB w' aC aK bB aK bB/\aC.failed=true/\aC.u=S.u/\aC.gen=S.gen/\(∀j,S.T.g j=true->aC.V j=S.V j)/\BY aC S.gen S.T.g pages L S.now (S.u.db+1)))
end
section
variable {w w' w1:J}{C:bO}{X:Nat->Prop}{T:aF}{S aC jy:cm}{pages aK:O Nat}{L bB:O aI}{f2:Nat->al}{aE:bO}{P':Nat->au aA}
theorem Hl{V:Nat->c0}{no:Nat}{i:Nat->au aA}(h:dB w S pages L aK bB)(k:f2=c9 (c9 S.T.f no true) S.u.map false)(N:(S.T.f no||S.T.g no)=false)(A:2<=no)(B:no<S.T.n)(O:L.length<4096)(l:∀x∈pages,i x=S.T.P x)
 (D:V ((S.gen+1)%2)=ef ((S.gen+1)%2) (iX ⟨S.T.root,S.T.aG,no,S.now,S.u.db+1,L.length⟩ S.T.n (S.gen+1))) (fJ:∀j,j≠(S.gen+1)%2->V j=if j=no then ef no ⟨4,S.gen+1,hN f2 ((S.T.n+7)/8)⟩ else if S.T.g j=true then S.V j else S.T.C.view j)
 (hg:∀j,S.T.g j=true->S.V j=S.T.C.view j):kB V S.T.n (S.gen+1) ⟨S.T.root,S.T.aG,no,S.now,S.u.db+1,L.length⟩ f2 i pages L:=by
 have E:=h.t.s.bp;have F:=h.num;have m:=h.t.num;have o:=h.jb.x5;have Q:=o.2.2.2.2.1;have p:S.T.f S.u.map=true:=(h.f _).2 (.inr (.inr rfl));have q:S.T.f no=false:=by cases R:S.T.f no<;>simp_all
 have r:∀x∈pages,x≠no:=λx hx e=>by
  have:=(h.f x).2 (.inl hx);rw[e,q]at this;cases this
 have G:∀x∈pages,x<S.T.n:=λx hx=>Nat.lt_of_not_le λe=>by
  have:=h.t.s.pf x e;rw[(h.f x).2 (.inl hx)]at this;cases this
 have H:∀j,j≠(S.gen+1)%2->j≠no->V j=S.T.C.view j:=λj J K=>by
  rw[fJ j J,if_neg K];by_cases e:S.T.g j=true
  .rw[if_pos e,hg j e]
  .rw[if_neg e]
 have v:mM ⟨S.T.root,S.T.aG,no,S.now,S.u.db+1,L.length⟩ S.T.n:=by
  refine⟨?_,m.2.1,m.1,B,A,E⟩;rcases h.ok with ⟨a1,a2,_⟩|b
  .exact⟨λ_=>a1,λ_=>a2⟩
  .obtain⟨b1,U,_,a2,_,_⟩:=b.ix
   have:=(h.two S.T.root (by rw[a2];simp)).1;constructor
   .intro e;have e:S.T.root=0:=e;omega
   .intro e
    have e:S.T.aG=0:=e;rw[e]at b;exact b.elim
 have y:mL ⟨S.T.root,S.T.aG,no,S.now,S.u.db+1,L.length⟩:=⟨by show S.T.root<_;omega,by show S.T.aG<_;omega,by show no<_;omega,F.1,by show S.u.db+1<_;omega,by show L.length<_;omega⟩;refine⟨⟨S.u.map,o.2.2.2.1,by rw[k];unfold c9;rw[if_pos rfl]⟩,?_,.inr ⟨S.u,S.gen,?_,I⟩,⟨S.gen+1,bk _,?_⟩,λj=>?_,h.b1,λx hx=>⟨(h.two x hx).1,r x hx,G x hx⟩,?_,λx hx b1 z=>?_,rfl,h.kv,y,v,by show S.u.db+1+1<=S.gen+1;omega⟩
 .rw[D]
  exact AN y v I I
 .have e:1-(S.gen+1)%2=S.gen%2:=by omega
  have M:S.T.g (S.gen%2)=true:=(h.jb.g _).2 (.inr (.inl I));rw[e,fJ _ I,if_neg I,if_pos M];exact h.jb.BV
 .show eY (no:Int) (V no)=_
  rw[fJ _ I,if_pos rfl];exact uE I ⟨(by decide:1<=4),(by decide:4<=4),by show S.gen+1<_;omega,by show(hN _ _).length<=232;rw[vg];omega⟩
 .rw[k]
  show c9 (c9 S.T.f no true) S.u.map false j=true↔j∈pages\/j<2\/j=no;unfold c9;by_cases c:j=S.u.map
  .rw[if_pos c]
   refine⟨λh=>(by cases h),λa=>?_⟩;rcases a with a|a|a
   .exact absurd c (h.two j a).2
   .omega
   .rw[←c,a,q]at p;cases p
  .rw[if_neg c]
   by_cases d:j=no
   .rw[if_pos d];exact⟨λ_=>.inr (.inr d),λ_=>rfl⟩
   .rw[if_neg d,h.f j]
    constructor
    .rintro(a|a|a)
     .exact .inl a
     .exact .inr (.inl a)
     .exact absurd a c
    .rintro(a|a|a)
     .exact .inl a
     .exact .inr (.inl a)
     .exact absurd a d
 .rcases h.ok with ⟨a1,a2,a3,a4⟩|b
  .exact .inl ⟨a1,a2,a3,a4⟩
  .exact .inr (b.agree λx hx=>(l x hx).symm).1
 .rw[l x hx]at z
  rw[H x (by have:=(h.two x hx).1;omega) (r x hx),←h.gen];exact(h.t.ez x b1 z).2
end
section
variable {w w' w1:J}{C:bO}{X:Nat->Prop}{T:aF}{S aC jy:cm}{pages aK:O Nat}{L bB:O aI}{f2:Nat->al}{aE:bO}{P':Nat->au aA}
theorem Hm{f:Nat->al}{n k:Nat}(h:k<n):mN f n (k:Int)=c9 f k false:=by
 unfold mN;rw[if_pos ⟨I,I⟩,dm]
theorem Hn{a8 d c sb gen now first pending keys st:Nat}{l:eG}{u:ew}{failed:al}(b:Var w st (h9 a8 d c sb l u gen now first pending keys failed) 146)(a:ew){K:J->Prop}(e:∀ai,Var ai st (h9 a8 d c sb l a gen now first pending keys failed) 146->af (λq=>q=st) w ai->K ai):
 bC w ⟨st,7,none⟩ [a.root,a.aG,a.map,.int .u64 (a.clock:Nat),.int .u64 (a.db:Nat),a.keys]/\(6:Nat)=6/\
  aq (setCells w ⟨st,7,none⟩ 0 [a.root,a.aG,a.map,.int .u64 (a.clock:Nat),.int .u64 (a.db:Nat),a.keys]) K:=
 ⟨bf.cd b _ _ (by simp[h9]) λv f=>ew.plain a v f,rfl,aY (e _ (bf.kQ (o:=7) b _) (af.jn (.refl _ _) _ 0))⟩
theorem Ho(h:dB w S pages L aK bB)(Z:S.failed=false)(cN:L.length<4096)(eh:S.T.C.D.aT<=800000000)(el:S.gen<=1000000000)(ad:S.T.C.D.quiet):
 aJ aj 74 #[.pointer (some S.st)] w (x6 S pages L aK bB w):=by
 refine okF (ae.tp (some S.st)) aw.tp func74 ?_;(delta ae.tp fQ an bW aD cl bG dZ iR Y gm st;dsimp only);obtain⟨a0,bC,cP⟩:=h.live Z;obtain⟨no,bD⟩:=Bk cP;obtain⟨bE,cR,_⟩:=AV bD;have em:=h.t.s.bp;have aq:=h.num;have cT:=h.gen;have bF:=h.jb.x5;have bH:S.T.f no=false:=by cases cU:S.T.f no<;>simp_all
 have a1:S.T.g no=false:=by cases cU:S.T.g no<;>simp_all
 have bI:2<=no:=Nat.le_of_not_lt λe=>by
  have:=(h.jb.g no).2 (.inr (.inl e));rw[a1]at this;cases this
 have en:S.T.M S.st:=.inr (.inr (.inr (.inl h.es)));refine⟨_,rfl,_,by rw[aB];exact h.v.cell,(AX h.t.s).use ?_⟩;rintro _ bJ ⟨rfl,bK,ar⟩;rw[bD]at bK⊢;refine⟨(no:Nat),0,rfl,λhx=>(by cases hx),λ_=>aY ?_⟩;have cW:=(h.t.u5 (f:=c9 S.T.f no true) bK ar).1;have cX:=h.v.ag ar (h.t.dA _ h.es).2.1;have av:Ext bJ bJ.drew:=cH _;have a2:=cX.ext av;have bL:=cW.ext av;refine⟨_,rfl,id,_,by rw[aB];exact a2.cell,_,rfl,id,_,by rw[aB,aB];exact a2.cell,(AY bL.s (S.u.map:Nat)).use ?_⟩;rintro _ ay ⟨rfl,bM,az⟩;rw[Hm (by exact bF.2.2.2.1)]at bM;obtain⟨f2,a3⟩:∃f2,f2=c9 (c9 S.T.f no true) S.u.map false:=⟨_,rfl⟩;have bN:e1 ay S.T.sb S.T.n f2 S.T.g S.T.s1 S.T.s2:=by rw[a3];exact bM
 have a4:bU ay (S.T.iD f2):=(bL.u5 (f:=f2) bN az).1;have bQ:=a2.ag az (h.t.dA _ h.es).2.1;refine⟨_,rfl,aY ?_⟩;have aC:Ext ay ay.drew:=cH _;have bR:=bQ.ext aC;have cY:=a4.ext aC;have a5:IntKind.wrap .u64 ((S.gen:Int)+1)=((S.gen+1:Nat):Int):=by rw[gz I I];omega
 refine⟨λ_=>False,_,rfl,id,_,by rw[aB];exact bR.cell,_,rfl,id,_,by rw[aB];exact bR.cell,(A3 cY.s).use ?_⟩;rintro _ cZ ⟨aE,rfl,c2,a6,eo⟩;have c3:aV 1 5 cZ aE (ax (hN f2 ((S.T.n+7)/8))):=by rw[BS];exact c2
 have bS:mF ⟨4,S.gen+1,hN f2 ((S.T.n+7)/8)⟩:=⟨(by decide:1<=4),(by decide:4<=4),by show S.gen+1<_;omega,by show(hN _ _).length<=232;rw[vg];omega⟩;rw[a5];refine⟨aE,rfl,a6,#[(4:Int),.int .u64 ((S.gen+1:Nat):Int),aE],λep=>by kernel_rfl,(uI (s:=aE) (p:=⟨4,S.gen+1,hN f2 ((S.T.n+7)/8)⟩) (no:=no) c3.src I bS).use ?_⟩;rintro _ bV ⟨c4,rfl,bX,bY,c6⟩;have a7:=aC.trans (Ext.trans a6 bY);have aH:=a4.ext a7;have bZ:=bQ.ext a7;have eq:=ar.size;have er:=az.size;have et:=av.size;have eu:=aC.size;have ev:=a6.size;have a9:af S.W w bV:=c5 (c5 (c5 (c5 (af.refl _ _) ar λq _ a=>h.mV (.inr (.inr (.inl a)))) av λq _ a=>a.elim) az λq _ a=>h.mV (.inr (.inr (.inl a)))) a7 λq _ a=>a.elim;have c7:(ef no ⟨4,S.gen+1,hN f2 ((S.T.n+7)/8)⟩).length=256:=rm _ bS;refine⟨c4,0,rfl,bY,λhx=>(by cases hx),λ_=>⟨_,rfl,_,by rw[aB];exact bZ.cell,(Bc aH.ca (by show S.T.C.D.aT<=_;omega) (no:=no) (by rw[aH.n];exact bE) bI (λhs=>?_) bX.src c7 λq a=>⟨aV.lt bX q a,λhf=>?_⟩).use ?_⟩⟩
 .rcases aH.bT no hs with y|y
  .rw[show(S.T.iD f2).g no=S.T.g no from rfl,a1]at y;cases y
  .exact a0 y
 .have y:=c6 q a
  have aI:=a4.lt (q:=q) (.inl hf);omega
 rintro _ b0 ⟨K,c8,b5,aL⟩;have B:dV S.T.C K bV b0 1:=b5;have b6:∀j,j≠no->K.view j=S.T.C.view j:=λj o=>by
  rcases aL with ⟨_,ba⟩|⟨_,_,ba⟩
  .rw[ba,if_neg o];rfl
  .rw[ba];rfl
 obtain⟨G,bb⟩:∃G:Nat->au aA,G=λj=>if j=no then none else S.T.P j:=⟨_,rfl⟩
 have ah:∀j,j≠no->G j=S.T.P j:=λj o=>by rw[bb];exact if_neg o
 obtain⟨aM,_⟩:=aH.u3 (P:=G) c8 b5 λj b1 U=>by
  have o:j≠no:=λe=>by rw[bb]at U;simp[e]at U
  rw[b6 j o];exact h.t.ez j b1 (by rw[←ah j o];exact U)
 have da:¬cV S.T.C S.st:=(h.t.ca.inv.eV _ (.inr (.inr (.inl h.es)))).2;have b8:=bZ.ag B.ag da;have b_:af S.W w b0:=c5 a9 B.ag λq _ a=>h.mV (.inl a);have ex:∀x∈aK,S.T.P x=G x:=λx hx=>(ah x λe=>by
  have:=(h.jb.g x).2 (.inl hx);rw[e,a1]at this;cases this).symm
 have eA:K.D.bP=S.T.C.D.bP:=congrArg (λp=>p.1.1) B.bP;have cb:K.D.b3.getD 3 0=S.T.C.D.b3.getD 3 0:=congrArg Prod.snd B.bP;rcases aL with ⟨rfl,aL⟩|⟨rfl,dc,_⟩
 rotate_left
 .exact absurd (ad.1 1) dc
 refine⟨0,rfl,λhx=>(by cases hx),λ_=>⟨_,rfl,_,by rw[aB];exact b8.cell,?_⟩⟩;have cc:=Ha aM.ca (by show K.D.aT<=_;have:=B.aT;omega) λj o=>by show K.D.ei j=_;rw[B.oa.2,bC]
 rw[show((S.T.iD f2).bm K G).C.c=S.T.C.c from B.c]at cc;refine cc.use ?_;rintro _ aN ⟨b,R⟩;have dd:¬cV K S.st:=(aM.ca.inv.eV _ (.inr (.inr (.inl h.es)))).2;have bc:=b8.ag R.ag dd;have bd:b.D.d=S.T.C.D.d:=R.d.trans B.d;have de:b.c=S.T.C.c:=R.c.trans B.c;have df:b.D.r1=S.T.C.D.r1:=R.r.trans (congrArg (λp=>p.1.2.2.2.2) B.bP);have aO:∀q,cV b q->cV S.T.C q\/w.heap.size<=q:=λq a=>by
  have:=b_.size;have:=a9.size;rcases R.cS q a with y|y
  .exact(B.cS q y).imp id λe=>by omega
  .exact .inr I
 have cd:af S.W w aN:=c5 b_ R.ag λq Z a=>by
  have:=a9.size;exact h.mV (.inl ((B.cS q a).resolve_right I))
 have ce:∀ (be:bO),(∀j,2<=j->be.view j=K.view j)->∀j b1,G j=some b1->j<S.T.n/\gw S.T.gen b1.leaf j (be.view j) b1:=λbe dg j b1 U=>by
  have o:j≠no:=λe=>by rw[bb]at U;simp[e]at U
  have y:=h.t.ez j b1 (by rw[←ah j o];exact U);rw[dg j y.2.two,b6 j o];exact y
 have bf:bU aN ((S.T.iD f2).bm b G):=aM.BX R.at_ R.ag R.c R.n (ce b λj _=>R.view j) λj o=>by
  rw[R.bT.1]at o;rcases aM.bT j o with y|y
  .exact .inl y
  .exact .inr λi=>by rw[R.bT.1];exact y i
 have cf:b.D.bT=S.T.C.D.bT:=R.bT.1.trans B.bT;have eB:b.D.ei=λ_=> []:=R.bT.2.trans (B.oa.2.trans bC);have eC:b.D.aT<=S.T.C.D.aT+70:=by have y:b.D.aT<=K.D.aT+64:=R.aT;have:=B.aT;omega
 rcases R.gZ with ⟨rfl,dh,cg,di⟩|⟨rfl,eD,dj⟩
 rotate_left
 .exfalso
  rcases dj with y|y
  .exact y (B.calm 64 (ad.1 _))
  .unfold aZ.fD at y
   rw[show((S.T.iD f2).bm K G).C.D.b3.getD 3 0=S.T.C.D.b3.getD 3 0 from cb,ad.2]at y
   cases y
 have aP:∀j,b.D.eT j=[]:=λj=>by unfold aZ.eT;rw[dh];rfl
 have dk:∀j,b.D.bP.getD j []=if j=no then ef no ⟨4,S.gen+1,hN f2 ((S.T.n+7)/8)⟩ else S.T.C.view j:=λj=>by
  have y:=G9 R.at_ cg j;rw[xq _ (λx hx=>(R.at_.raw.dev.wn x hx).1),if_pos (aP j)]at y;rw[←y,R.view];exact aL j
 have ch:∀j,S.T.g j=true->S.V j=S.T.C.view j:=λj o=>(h.view Z o).symm;refine⟨0,rfl,λhx=>(by cases hx),λ_=>⟨_,rfl,_,bc.cell,?_⟩⟩;have ci:=BM bf;rw[show((S.T.iD f2).bm b G).a8=S.T.a8 from rfl]at ci;refine ci.use ?_;rintro _ bg ⟨rfl,bh⟩;have bi:Ext bg bg.drew:=cH _;have bj:=(bc.ext bh).ext bi;have dl:IntKind.wrap .u64 ((S.u.db:Int)+1)=((S.u.db+1:Nat):Int):=by rw[gz I I];omega
 refine⟨_,_,rfl,aY ⟨λ_=>False,_,rfl,id,_,by rw[aB];exact bj.cell,_,rfl,id,_,by rw[aB,aB];exact bj.cell,_,rfl,id,_,by rw[aB];exact bj.cell,?_⟩⟩;rw[dl];obtain⟨H,aa⟩:∃H:ew,H=⟨S.T.root,S.T.aG,no,S.now,S.u.db+1,S.keys⟩:=⟨_,rfl⟩;refine⟨H.c.toArray,λeE=>by rw[aa];kernel_rfl,a_ (vs:=AL.c) rfl λeF cj ck eG=>⟨ck,?_⟩⟩;obtain⟨ai,dm⟩:∃ai,ai=bg.drew.heap.size:=⟨_,rfl⟩;rw[←dm]at cj⊢;refine AO cj rfl H λak dn dp eH=>aY ?_;have eI:=bh.size;have eJ:=bi.size;have dq:Ext aN ak:=Ext.cx (Ext.trans bh (bi.trans ck)) dp I;have cm:Ext ak ak.drew:=cH _;have al:Ext aN ak.drew:=Ext.trans dq cm;have bl:=dn.ext cm;have aQ:=bc.ext al;have bn:=bf.ext al;generalize eK:ak.drew=aR at bl aQ bn al⊢;refine⟨_,rfl,id,_,by rw[aB];exact aQ.cell,id,p0 bl ⟨_,rfl,id,_,by rw[aB];exact aQ.cell,?_⟩⟩;rw[a5];have dr:mL H:=by
  have y:=h.t.num;have aI:=h.keys;rw[aa];exact⟨by show S.T.root<_;omega,by show S.T.aG<_;omega,by show no<_;omega,aq.1,by show S.u.db+1<_;omega,by show S.keys<_;omega⟩
 have bo:b.D.n=S.T.n:=R.n.trans (B.n.trans h.t.n);have Q:dH S.T.X aR b:=bn.ca;have cn:=mq Q.raw.dev I dr (gen:=S.gen+1) I;rw[bd]at cn;refine cn.use ?_;rintro v br ⟨ab,bs⟩;have eL:=al.size;have ds:∀q,cV b q->q<ai:=λq a=>by have:=R.at_.raw.lt a;omega
 have dt:=bl.ag ab λhf=>by have:=ds ai (.inr (.inr hf));omega
 have du:¬cV b S.st:=(bf.ca.inv.eV _ (.inr (.inr (.inl h.es)))).2;have co:=aQ.ag ab λhf=>du (.inr (.inr hf));have dv:af S.W w aR:=c5 cd al λq _ a=>a.elim;have eM:=cd.size;have dw:af S.W w br:=c5 dv ab λq Z a=>h.mV<| .inl ((aO q (.inr (.inr a))).resolve_right I)
 have main:∀ (O:aZ),c1 br O->O.d=b.D.d->j0 O b.D->(∀i,2<=i->O.now i=b.D.now i)->(∀q,b9 O q->b9 b.D q\/aR.heap.size<=q)->(∀j,O.bT j=true->S.T.g j=true)->
  bU br ((S.T.iD f2).bm {b with D:=O} G)/\∀q,cV {b with D:=O} q->cV S.T.C q\/w.heap.size<=q:=λO am dx cp dy cq dz=>by
  obtain⟨dC,dD⟩:=Hi Q am dx cp dy ab cq;refine⟨bn.BX dC (ab.mono λq _ a=>.inr (.inr a)) rfl cp.1 (ce _ λj o=>(dD j o).trans (R.view j)) λj o=>.inl (dz j o),λq a=>?_⟩;rcases a with a|a|a
  .exact aO q (.inl a)
  .exact aO q (.inr (.inl a))
  .rcases cq q a with y|y
   .exact aO q (.inr (.inr y))
   .exact .inr I
 have eN:¬b.D.ro:=λe=>a0 λi=>by rw[←cf];exact e i
 have eO:∀j,b.D.bT j=true->S.T.g j=true:=λj o=>by
  rw[cf]at o;exact(h.t.bT j o).resolve_right a0
 have cr:S.T.C.D.quiet->∀k,b.D.calm k:=λa k=>R.calm k (B.calm _ (a.1 _));rcases bs with ⟨bt,rfl,am⟩|⟨bt,s,dE,bq,N,bs⟩
 .have:=(iW (k:=2) (m:=0) (.inr rfl) Q.raw.dev.f4 (cr ad 1)).2
  rw[this]at bt;cases bt
 have eP:∀j,bq.eT j=if j=(S.gen+1)%2 then [ef ((S.gen+1)%2) (iX H b.D.n (S.gen+1))] else []:=λj=>by
  rw[N,AJ,aP,aP];rfl
 have cs:H=⟨S.T.root,S.T.aG,no,S.now,S.u.db+1,L.length⟩:=by rw[aa,h.keys]
 have dF:∀V:Nat->c0,(∀j,V j=if j=(S.gen+1)%2 then ef ((S.gen+1)%2) (iX H b.D.n (S.gen+1)) else b.D.bP.getD j [])->kB V S.T.n (S.gen+1) H f2 G pages L:=λV fJ=>by
  rw[cs];refine Hl h a3 cR bI bE cN (λx hx=>ah x λe=>by
   have:=(h.f x).2 (.inl hx);rw[e,bH]at this;cases this) (by rw[fJ,if_pos rfl,cs,bo]) (λj o=>?_) ch
  rw[fJ,if_neg o,dk];by_cases e:j=no
  .rw[if_pos e,if_pos e]
  .rw[if_neg e,if_neg e]
   by_cases bu:S.T.g j=true
   .rw[if_pos bu,ch j bu]
   .rw[if_neg bu]
 have bv:∀q,b9 bq q->b9 b.D q\/aR.heap.size<=q:=by rw[N];exact vf dE
 have eQ:∀i,2<=i->bq.now i=b.D.now i:=λi hi=>by rw[N,n2,if_neg I]
 have cu:bq.n=b.D.n:=by rw[N];rfl
 have dG:bq.d=b.D.d:=by rw[N];rfl
 have eR:bq.bP=b.D.bP:=by rw[N];rfl
 have eS:bq.aT=b.D.aT+1:=by rw[N];rfl
 have cv:S.T.C.D.quiet->bq.b3.getD 3 0= -1:=λa=>by
  rw[N];show(b.D.b3.set 2 _).getD 3 0=_;have aS:=Q.raw.dev.f4;rw[ff (by rw[c_];omega),e4 (by decide),←ff (d:=0),di];rw[show((S.T.iD f2).bm K G).C.D.b3.getD 3 0=S.T.C.D.b3.getD 3 0 from cb,a.2];rfl
 rcases bs with ⟨aU,rfl,am⟩|⟨aU,rfl,am⟩
 .unfold aZ.fD at aU
  rw[cv ad]at aU;cases aU
 have dI:∀j,S.T.n<=j->b.D.bP.getD j []=[]:=λj o=>by
  rw[fv,m7 (by have:b.D.bP.length=S.T.n:=bo;omega)];rfl
 have cw:∀j,b.D.now j=b.D.bP.getD j []:=λj=>by rw[xq _ (λx hx=>(Q.raw.dev.wn x hx).1),if_pos (aP j)]
 have eU:bq.n=S.T.n:=cu.trans bo;have dK:∀j,(bq.ct 3).h8.bP.getD j []=if j=(S.gen+1)%2 then ef ((S.gen+1)%2) (iX H b.D.n (S.gen+1)) else b.D.bP.getD j []:=λj=>by
  show((List.range bq.n).map bq.now).getD j []=_;have eW:16<=bq.n:=by have:16<=b.D.n:=Q.raw.dev.b2;omega
  by_cases o:j<bq.n
  .rw[ff (by simp;exact o),List.getElem_map,List.getElem_range,N,n2,cw]
  .rw[fv,m7 (by simp;omega),if_neg I,dI j I];rfl
 obtain⟨F,J⟩:∃F,F=(bq.ct 3).h8.iF (λ_=>false) λ_=> []:=⟨_,rfl⟩;have dL:∀j,F.eT j=[]:=λj=>by rw[J];rfl
 have cy:∀j,F.bP.getD j []=if j=(S.gen+1)%2 then ef ((S.gen+1)%2) (iX H b.D.n (S.gen+1)) else b.D.bP.getD j []:=λj=>by rw[J];exact dK j
 have dM:F.n=b.D.n:=by rw[J];exact(rN (bq.ct 3)).trans cu
 have bw:F.d=S.T.C.D.d:=by rw[J];exact dG.trans bd
 obtain⟨cz,dN⟩:=main F (by rw[J];exact am.iF _ _) (bw.trans bd.symm) ⟨dM,λj o=>(by rw[J]at o;cases o),λj o=>(by rw[J]at o;cases o)⟩ (λi hi=>by
  have y:F.now i=F.bP.getD i []:=by rw[J];rfl
  rw[y,cy,if_neg I,cw]) (λq a=>by
   rw[J]at a;rcases a with e|e|e|⟨x,hx,e⟩
   .exact bv q (.inl e)
   .exact bv q (.inr (.inl e))
   .exact bv q (.inr (.inr (.inl e)))
   .cases hx) λj o=>(by rw[J]at o;cases o)
 refine⟨0,rfl,λhx=>(by cases hx),λ_=>⟨_,rfl,_,by rw[aB];exact co.cell,(FP cz.s).use ?_⟩⟩;rintro _ ao ⟨rfl,s2,dO,ap,cB⟩;have ac:=dF (λj=>F.bP.getD j []) cy;have dP:f2 0=true/\f2 1=true:=⟨(ac.g 0).2 (.inr (.inl (by decide))),(ac.g 1).2 (.inr (.inl (by decide)))⟩;obtain⟨dQ,eX⟩:=cz.space dO ap cB (λj o=>by
  have o:F.bT j=true:=o;rw[J]at o;cases o) dP
 have eY:=ap.size;have dR:=co.ag ap (h.t.dA _ h.es).2.1;have dS:=dt.ag ap λhf=>by
  have y:=h.t.lt (q:=ai) (.inr (.inr (.inl hf)));omega
 have dT:=dQ.iF (s:=f2) (z:=λ_=> []) (λf hf j dU _ _=>by
  have y:=cg f hf;unfold Fr.gE at y;rw[dU]at y;simpa using y) (λj _=>dL j) λj o=>.inl o
 obtain⟨fy,A⟩:∃fy:aF,fy=(((S.T.iD f2).bm {b with D:=F} G).xY f2 f2 S.T.s1 s2).bm {b with D:=F.iF f2 λ_=> []} G:=⟨_,rfl⟩;have dW:bU ao fy:=by rw[A];exact dT
 have aW:Ext ao ao.drew:=cH _;have cC:Var ao.drew S.st (h9 S.T.a8 S.T.C.D.d S.T.C.c S.T.sb S.l S.u S.gen S.now S.first S.pending S.keys S.failed) 146:=dR.ext aW;have dX:=dS.ext aW;have dY:=dW.ext aW;have aX:fy.E=S.T.E:=by rw[A];rfl
 refine⟨rfl,aY ⟨λ_=>False,id,p0 dX ⟨_,rfl,id,_,by rw[aB];exact cC.cell,_,rfl,?_⟩⟩⟩;rw[aB,cQ,a5];refine Hn cC H λcD cE cF=>?_;have d0:=dY.j5 (by rw[aX];exact h.es) cF;obtain⟨b7,cA⟩:=ek cE (i:=13) (by simp[h9]);have cG:=ej cE (i:=13) (.int .u64 ((S.gen+1:Nat):Int));have d1:=dJ cD S.st 13 (.int .u64 ((S.gen+1:Nat):Int));refine⟨_,rfl,by rw[aB];exact b7,by rw[aB];exact cA,aY ?_⟩;rw[aB,cQ];obtain⟨d2,d3⟩:=ek cG (i:=16) (by simp[h9]);have cI:=ej cG (i:=16) (0:Int);have bx:=d1.trans (dJ _ S.st 16 (0:Int));refine⟨_,rfl,by rw[aB];exact d2,by rw[aB];exact d3,aY ?_⟩;rw[aB,cQ];generalize (cD.setCell ⟨S.st,13,none⟩ (.int .u64 ((S.gen+1:Nat):Int))).setCell ⟨S.st,16,none⟩ (0:Int)=cJ at cI bx⊢;have d4:=d0.j5 (by rw[aX];exact h.es) bx;have bz:Ext cJ cJ.drew:=cH _;have bA:=cI.ext bz;have d5:=d4.ext bz;refine aY ⟨_,rfl,id,_,bA.cell,_,rfl,id,_,by rw[aB];exact bA.cell,?_⟩;have d6:IntKind.wrap .u64 (((S.gen+1:Nat):Int)+1)=((S.gen+2:Nat):Int):=by rw[gz I I];omega
 rw[d6];have eZ:fy.gen=S.gen+1:=by rw[A];exact cT
 have cK:fy.a8=S.T.a8:=by rw[A];rfl
 have cL:=Hk d5 (gen:=S.gen+2) I I;rw[cK]at cL;refine cL.use ?_;rintro _ d7 ⟨rfl,d8,cM⟩;have d9:=bA.ag cM (h.t.dA _ h.es).1;have d_:∀q,(fy.lQ (S.gen+2)).M q->S.T.M q\/w.heap.size<=q:=λq a=>by
  rw[A]at a;rcases a with a|a|a|a
  .exact(dN q a).imp .inl id
  .exact .inl (.inr (.inl a))
  .rcases cB q a with y|y
   .exact .inl (.inr (.inr (.inl y)))
   .have:=ab.size;exact .inr I
  .exact .inl (.inr (.inr (.inr a)))
 refine⟨rfl,⟨S.st,fy.lQ (S.gen+2),S.l,H,S.gen+1,S.now,S.first,0,S.keys,S.failed⟩,⟨rfl,?_,by rw[A];rfl,rfl,?_,λa=>?_,?_,d_,aX,by rw[A];rfl,by rw[A];exact(show F.r1=bq.r1 by rw[J];rfl).trans ((show bq.r1=b.D.r1 by rw[N];rfl).trans df)⟩,rfl,.inl ⟨rfl,⟨⟨?_,d8,?_,?_,rfl,?_,?_⟩,?_,h.b1,?_,?_,h.kv,h.keys,cO _,λ_=>⟨?_,?_,?_⟩,λhf=>?_⟩,Z,rfl,by rw[aa],by rw[aa],rfl⟩⟩
 .rw[A];exact bw
 .rw[A];show F.aT<=_;rw[J];show bq.aT<=_;omega
 .rw[A]
  show aZ.quiet (F.iF _ _);rw[J];refine⟨λk=>rO bq ?_,?_⟩
  .have aS:=(iW (k:=2) (m:=k) (.inr rfl) Q.raw.dev.f4 (cr a (k+1))).1
   rw[N];exact aS
  .show(bq.b3.set 3 (ga (bq.b3.getD 3 0)).2).getD 3 0= -1
   have aS:=Q.raw.dev.f4;have e0:bq.b3.length=4:=by rw[N];show(b.D.b3.set 2 _).length=4;rw[c_];exact aS
   rw[cv a,ff (by rw[c_];omega),g7];rfl
 .have hs:∀q,q=S.st->S.W q:=λq e=>by rw[e];exact h.BW
  have ea:af S.W w ao:=c5 dw ap λq _ a=>h.mV (.inr (.inr (.inl a)));have eb:=c5 ea aW λq _ a=>a.elim;have ec:=c5 eb cF λq _ a=>hs q a;have ed:=c5 ec bx λq _ a=>hs q a;have ee:=c5 ed bz λq _ a=>a.elim;exact c5 ee cM λq _ a=>h.mV (.inr (.inl a))
 .show Var d7 S.st (h9 fy.a8 fy.C.D.d fy.C.c fy.sb _ _ _ _ _ _ _ _) _
  rw[cK,show fy.C.D.d=S.T.C.D.d by rw[A];exact bw,show fy.C.c=S.T.C.c by rw[A];exact de,show fy.sb=S.T.sb by rw[A];rfl];exact d9
 .show fy.E S.st
  rw[aX];exact h.es
 .rw[A];exact ac
 .refine⟨aq.1,aq.2.1,?_,by show S.gen+1+2<_;omega,aq.2.2.2.2⟩
  show H.db+1<=S.gen+1;rw[aa];show S.u.db+1+1<=_;omega
 .intro j o
  have o:fy.g j=true:=o;show fy.C.D.bT j=true;rw[A]at o⊢;exact o
 .refine h.ok.agree (by rw[A];rfl) (by rw[A];rfl) λx hx=>?_
  rw[A];exact(ah x λe=>by
   have:=(h.f x).2 (.inl hx);rw[e,bH]at this;cases this).symm
 .intro j
  have:(fy.lQ (S.gen+2)).f j=f2 j:=by rw[A];rfl
  rw[this];exact ac.g j
 .intro x hx
  exact⟨(ac.two x hx).1,(ac.two x hx).2.1⟩
 .intro e
  have y:=e S.T.n;have aI:(fy.lQ (S.gen+2)).C.D.bT S.T.n=f2 S.T.n:=by rw[A];rfl
  rw[aI,bN.pf S.T.n (bk _)]at y;cases y
 .rw[A];rfl
 .have eg:f2 S.u.map=false:=by rw[a3];unfold c9;rw[if_pos rfl]
  have y:=u6 (s:=λi=>f2 i||f2 i) (t:=c9 (λi=>f2 i||f2 i) S.u.map true) (k:=S.u.map) (by simp[eg]) (by simp[c9]) (λi hi=>by simp[c9,hi]) (n:=S.T.n) bF.2.2.2.1;have aI:=mO (c9 (λi=>f2 i||f2 i) S.u.map true) S.T.n;have e2:b4 (fy.lQ (S.gen+2))=S.T.n-ey (λi=>f2 i||f2 i) S.T.n:=by rw[A];rfl
  show 1<=b4 (fy.lQ (S.gen+2));omega
 .have hf:S.failed=true:=hf
  rw[Z]at hf;cases hf
end
theorem Hp(a b:Int)(w:J)(T:TypeId)(k:IntKind):Sem.run aj (Builtin.max_ #[T,T] T #[.int k a,.int k b]) w=.ok (.int k (max a b)) w:=by
 simp only[Builtin.max_];unfold Builtin.max2;simp;split<;>omega
theorem dL.trans{S aC e:cm}{w w' f:J}{k l:Nat}(a:dL k S aC w w')(b:dL l aC e w' f):dL (k+l) S e w f:=
 ⟨b.st.trans a.st,b.d.trans a.d,b.n.trans a.n,b.l.trans a.l,by have:=a.aT;have:=b.aT;omega,λh=>b.q (a.q h),c5 a.ag b.ag λq i c=>a.back i c,λq c=>by
  have:=a.ag.size
  rcases b.cS q c with g|g
  .exact a.cS q g
  .exact .inr I,b.E.trans a.E,b.G.trans a.G,b.r.trans a.r⟩
theorem dL.mono{S aC:cm}{w w':J}{k l:Nat}(h:dL k S aC w w')(a:k<=l):dL l S aC w w':={h with aT:=by have:=h.aT;omega}
theorem dL.ext{w w':J}(S:cm)(h:Ext w w'):dL 0 S S w w':=⟨rfl,rfl,rfl,rfl,bk _,λh=>h,h.mono λ_ _ h=>h.elim,λq a=>.inl a,rfl,rfl,rfl⟩
section
variable {w w' w1:J}{T:aF}{S aC jy:cm}{pages aK:O Nat}{L bB:O aI}
theorem ja.ext(h:ja w S aK bB)(hx:Ext w w'):ja w' S aK bB:=⟨h.v.ext hx,h.t.ext hx,h.es,h.jb,h.gen,h.num,h.bT⟩
theorem dB.ext(h:dB w S pages L aK bB)(hx:Ext w w'):dB w' S pages L aK bB:=⟨h.toja.ext hx,h.ok,h.b1,h.f,h.two,h.kv,h.keys,h.om,h.live,h.dead⟩
theorem dB.j5{j2:Nat}(h:dB w S pages L aK bB)(a:S.T.E j2)(hs:j2≠S.st)(hc:af (λq=>q=j2) w w'):dB w' S pages L aK bB:=
 ⟨⟨h.v.ag hc λe=>hs e.symm,h.t.j5 a hc,h.es,h.jb,h.gen,h.num,h.bT⟩,h.ok,h.b1,h.f,h.two,h.kv,h.keys,h.om,h.live,h.dead⟩
theorem Hq(h:dB w S pages L aK bB):aJ aj 48 #[.pointer (some S.st)] w (λv w'=>v=S.keys/\w=w'):=by
 refine okF (ae.wC (some S.st)) aw.wC func48 ?_;exact⟨λa=>(by cases a),λ_=>⟨_,rfl,_,by rw[aB];exact h.v.cell,rfl,rfl⟩⟩
def g2(S:cm):Nat:=b4 S.T-2*S.T.aG-4
theorem B0(h:dB w S pages L aK bB):aJ aj 66 #[.pointer (some S.st)] w (λv w'=>v=.int .i64 (g2 S:Nat)/\Ext w w'):=by
 refine okF (ae.ti (some S.st)) aw.ti func66 ?_;delta ae.ti fQ bW av;refine⟨_,rfl,_,h.v.cell,(BM h.t).use ?_⟩;rintro _ e ⟨rfl,a⟩;refine⟨_,_,rfl,_,rfl,_,by rw[aB];exact(h.v.ext a).cell,(xA (h.t.ext a).s).use ?_⟩;rintro _ b ⟨rfl,c⟩;have j:=h.t.s.bp;have k:=h.t.num.2.1;have l:=mO (λi=>S.T.f i||S.T.g i) S.T.n;have d:(S.T.n:Int)-ey (λi=>S.T.f i||S.T.g i) S.T.n=((b4 S.T:Nat):Int):=by unfold b4;omega
 have m:b4 S.T<=S.T.n:=Nat.sub_le _ _;rw[d,bw (n:=2*(S.T.aG:Int)) I I];refine⟨_,rfl,_,b,Hp _ _ b _ _,?_,Ext.trans a c⟩;rw[bw (n:=((b4 S.T:Nat):Int)-2*(S.T.aG:Int)) I I,bw I I];unfold g2
 congr 1
 omega
end
def j7(c:Prop)(S aC:cm)(pages:O Nat)(L:O aI)(aK:O Nat)(bB:O aI)(v:aa)(w':J):Prop:=
 (v=.int .i64 0/\c/\dB w' aC pages L pages L/\aC.failed=false/\aC.gen=S.gen+1/\aC.u.clock=S.now/\aC.u.db=S.u.db+1/\aC.pending=0)\/
 (v=.int .i64 3/\¬S.T.C.D.quiet/\dB w' aC aK bB aK bB/\aC.failed=true/\aC.u=S.u/\aC.gen=S.gen/\(∀j,S.T.g j=true->aC.V j=S.V j)/\((∀j,S.T.g j=true->aC.T.C.D.ei j=[])\/(c/\BY aC S.gen S.T.g pages L S.now (S.u.db+1))))
theorem x6.x{c:Prop}{S:cm}{pages aK:O Nat}{L bB:O aI}{w w':J}{v:aa}(h:x6 S pages L aK bB w v w')(hc:c):∃aC,dL 100 S aC w w'/\aC.now=S.now/\j7 c S aC pages L aK bB v w':=by
 obtain⟨aC,a,b,d⟩:=h;refine⟨aC,a,b,?_⟩;rcases d with ⟨a1,a2,a3⟩|⟨a1,a2,a3,a4,a5,dU,cX,eW⟩
 .exact .inl ⟨a1,hc,a2,a3⟩
 .exact .inr ⟨a1,a2,a3,a4,a5,dU,cX,.inr ⟨hc,eW⟩⟩
theorem j7.val{c:Prop}{S aC:cm}{pages aK:O Nat}{L bB:O aI}{w':J}{v:aa}(h:j7 c S aC pages L aK bB v w'):∃n:Int,v=n:=by
 rcases h with ⟨a,_⟩|⟨a,_⟩<;>exact⟨_,a⟩
def lR(S aC:cm)(pages:O Nat)(L:O aI)(aK:O Nat)(bB:O aI)(v:aa)(w':J):Prop:=
 (v=.int .i64 0/\S.pending+1<S.l.batch/\dB w' aC pages L aK bB/\aC.failed=false/\aC.gen=S.gen/\aC.u=S.u/\aC.pending=S.pending+1/\aC.first=(if S.pending=0 then S.now else S.first)/\∀j,S.T.g j=true->aC.V j=S.V j)\/
 j7 (S.l.batch<=S.pending+1) S aC pages L aK bB v w'
section
variable {w w' w1:J}{T:aF}{S aC jy:cm}{pages aK:O Nat}{L bB:O aI}
theorem Hr{d:Int}(b:ja w S aK bB)(t:S.failed=false)(ok:gj S.T pages L)(b1:pages.Nodup)(f:∀no,S.T.f no=true↔no∈pages\/no<2\/no=S.u.map)(two:∀x∈pages,2<=x/\x≠S.u.map)(kv:∀p∈L,cq p.1/\p.2.length<=24)
 (X:¬S.T.C.D.ro/\S.T.C.D.ei=(λ_=> [])/\1<=b4 S.T) (Y:(S.keys:Int)+d=L.length) (au:S.pending<1000) (Z:L.length<4096) (ax:S.keys<100000) (aa:S.T.C.D.aT<=800000000) (ab:S.gen<=1000000000) (ac:S.T.C.D.quiet):
 aJ aj 68 #[.pointer (some S.st),d] w (λv w'=>∃aC,dL 100 S aC w w'/\aC.now=S.now/\lR S aC pages L aK bB v w'):=by
 refine okF (ae.tm (some S.st) d) aw.tm func68 ?_;(delta ae.tm aD st av an cl bW;dsimp only);have N:=b.num;have ay:S.T.M S.st:=.inr (.inr (.inr (.inl b.es)));obtain⟨ad,ag,g,y,z⟩:=b.set (i:=17) (x:=L.length) (by decide);refine⟨_,rfl,_,by rw[aB];exact b.v.cell,_,rfl,by rw[aB];exact ad,by rw[aB];exact ag,aY ?_⟩;rw[aB,cQ,Y,bw (n:=(L.length:Int)) I I];generalize az:w.setCell ⟨S.st,17,none⟩ L.length=ah at g y z⊢;obtain⟨m,s⟩:∃m,m=if S.pending=0 then S.now else S.first:=⟨_,rfl⟩
 refine kN (λk=>Var k S.st (h9 S.T.a8 S.T.C.D.d S.T.C.c S.T.sb S.l S.u S.gen S.now m S.pending L.length S.failed) 146/\bU k S.T/\af (λq=>q=S.st) w k) (λaA O=>?_) ?_
 .refine⟨_,rfl,_,by rw[aB];exact g.cell,λA=>?_,λA=>O _ ⟨?_,y,z⟩⟩
  .have h0:S.pending=0:=by
    have:(S.pending:Int)=0:=by simpa using A
    omega
   obtain⟨B,E⟩:=ek g (i:=15) (by simp[cm.cells,h9]);have ai:=ej g (i:=15) (.int .u64 (S.now:Int));have P:=dJ ah S.st 15 (.int .u64 (S.now:Int));refine⟨_,rfl,_,by rw[aB];exact g.cell,_,rfl,by rw[aB];exact B,by rw[aB];exact E,aY (O _ ⟨?_,?_,?_⟩)⟩
   .rw[aB,cQ,s,if_pos h0];exact ai
   .rw[aB,cQ];exact y.j5 b.es P
   .rw[aB,cQ];exact z.trans P
  .have h0:¬S.pending=0:=by
    have:¬(S.pending:Int)=0:=by simpa using A
    omega
   rw[s,if_neg h0];exact g
 rintro k ⟨F,ak,al⟩;obtain⟨B,E⟩:=ek F (i:=16) (by simp[h9]);have Q:=ej F (i:=16) (.int .i64 ((S.pending+1:Nat):Int));have G:=dJ k S.st 16 (.int .i64 ((S.pending+1:Nat):Int));have am:IntKind.wrap .i64 ((S.pending:Int)+1)=((S.pending+1:Nat):Int):=by rw[bw I I];omega
 refine⟨_,rfl,_,by rw[aB];exact F.cell,_,rfl,by rw[aB];exact B,by rw[aB];exact E,aY ?_⟩;rw[aB,cQ,am];have R:=ak.j5 b.es G;generalize aE:k.setCell ⟨S.st,16,none⟩ (.int .i64 ((S.pending+1:Nat):Int))=o at Q G R⊢;have H:Ext o o.drew:=cH _;have J:=Q.ext H;have ao:=R.ext H;have ap:af (λq=>q=S.st) w o.drew:=c5 (al.trans G) H λq _ K=>K.elim;obtain⟨en,a⟩:∃en:cm,en={S with first:=m,pending:=S.pending+1,keys:=L.length}:=⟨_,rfl⟩;have aq:m<=S.now:=by rw[s];split<;>omega
 have U:dB o.drew en pages L aK bB:=by
  rw[a];exact⟨⟨J,ao,b.es,b.jb,b.gen,⟨N.1,aq,N.2.2⟩,b.bT⟩,ok,b1,f,two,kv,rfl,by show S.pending+1<=1000;omega,λ_=>X,λhf=>by have hf:S.failed=true:=hf;rw[t]at hf;cases hf⟩
 have V:dL 0 S en w o.drew:=by
  rw[a];exact⟨rfl,rfl,rfl,rfl,bk _,λh=>h,ap.mono λq _ e=>by rw[e];exact b.BW,λq K=>.inl K,rfl,rfl,rfl⟩
 refine aY ⟨_,rfl,id,_,by rw[aB];exact J.cell,_,rfl,id,_,by rw[aB,aB];exact J.cell,λr=>?_,λr=>?_⟩
 .have r:((S.pending+1:Nat):Int)>=(S.l.batch:Int):=ck r
  have W:=Ho U (by rw[a];exact t) Z (by rw[a];exact aa) (by rw[a];exact ab) (by rw[a];exact ac);rw[show en.st=S.st by rw[a]]at W;refine W.use ?_;intro v aF ar;obtain⟨aC,r1,aD,cl⟩:=ar.x (c:=S.l.batch<=S.pending+1) I;obtain⟨n,rfl⟩:=cl.val;refine⟨n,rfl,aC,(V.trans r1).mono I,by rw[aD,a],.inr ?_⟩;rw[a]at cl;exact cl
 .have r:¬((S.pending+1:Nat):Int)>=(S.l.batch:Int):=cG r
  exact⟨en,V.mono I,by rw[a],.inl ⟨rfl,I,U,by rw[a];exact t,by rw[a],by rw[a],by rw[a],by rw[a];exact s,λj _=>by rw[a];rfl⟩⟩
end
section
variable {w w' w1:J}{T ao:aF}{S aC jy:cm}{pages aK:O Nat}{L bB:O aI}{k:Nat}
def cm.cI(S:cm)(ao:aF):cm:={S with T:=ao}
theorem ja.to(h:ja w S aK bB)(ht:bU w' ao)(a:bD S.T ao w w' k)(f:ao.E=S.T.E)(l:ao.G=S.T.G)(o:∀no,S.T.g no=true->ao.P no=S.T.P no):
 ja w' (S.cI ao) aK bB/\dL k S (S.cI ao) w w'/\(S.cI ao).V=S.V:=by
 have r:ao.C.D.bP=S.T.C.D.bP:=congrArg (λp=>p.1.1) a.bP;have s:ao.C.D.b3.getD 3 0=S.T.C.D.b3.getD 3 0:=congrArg Prod.snd a.bP;have i:(S.cI ao).V=S.V:=by
  funext j;show ao.C.D.bP.getD j []=S.T.C.D.bP.getD j [];rw[r]
 refine⟨⟨?_,ht,by show ao.E S.st;rw[f];exact h.es,?_,a.gen.trans h.gen,h.num,λj b=>?_⟩,⟨rfl,a.d,a.n,rfl,a.aT,λe=>⟨λm=>a.calm m (e.1 _),s.trans e.2⟩,a.ag.mono λq _ e=>h.mV e,a.cS,f,l,congrArg (λp=>p.1.2.2.2.2) a.bP⟩,i⟩
 .show Var w' S.st (h9 ao.a8 ao.C.D.d ao.C.c ao.sb _ _ _ _ _ _ _ _) _
  rw[a.a8,a.d,a.c,a.sb];exact h.v.ag a.ag (h.t.jY h.es)
 .show kB _ ao.n _ _ ao.g ao.P _ _
  rw[i,a.n,a.g];exact h.jb.agree (λ_ _=>rfl) λx hx=>(o x ((h.jb.g x).2 (.inl hx))).symm
 .have b:ao.g j=true:=b
  rw[a.g]at b;show ao.C.D.bT j=true;rw[a.bT.1];exact h.bT j b
theorem bD.ro(h:bD T ao w w' k):ao.C.D.ro↔T.C.D.ro:=by unfold aZ.ro;rw[h.bT.1]
theorem dB.to(h:dB w S pages L aK bB)(ht:bU w' ao)(a:bD S.T ao w w' k)(c:ao.E=S.T.E)(d:ao.G=S.T.G)(b:h7 S.T ao):
 dB w' (S.cI ao) pages L aK bB/\dL k S (S.cI ao) w w'/\(S.cI ao).V=S.V:=by
 obtain⟨i,j,l⟩:=h.toja.to ht a c d λno m=>(b.dX no (by rw[m,Bool.or_true])).1;have o:b4 ao=b4 S.T:=by unfold b4;rw[a.n,b.f,a.g]
 refine⟨⟨i,b.ok h.ok λx hx=>(h.f x).2 (.inl hx),h.b1,λno=>by show ao.f no=true↔_;rw[b.f];exact h.f no,h.two,h.kv,h.keys,h.om,λhf=>?_,λhf=>?_⟩,j,l⟩
 .obtain⟨a1,a2,a3⟩:=h.live hf
  exact⟨λe=>a1 (a.ro.1 e),a.bT.2.trans a2,by show 1<=b4 ao;rw[o];exact a3⟩
 .obtain⟨a1,a2⟩:=h.dead hf
  exact⟨a.ro.2 a1,a2⟩
theorem Hs{tk:ad}{key:Key}(h:dB w S pages L aK bB)(b:S.T.C.D.aT<=800000000)(c:Src 1 w tk (ax key))(d:∀q,ay tk q->q<w.heap.size/\¬S.T.M q):
 aJ aj 50 #[.pointer (some S.st),tk] w (λv w'=>∃aE,dB w' (S.cI (S.T.bm aE S.T.P)) pages L aK bB/\dL 30 S (S.cI (S.T.bm aE S.T.P)) w w'/\xT S.T L key w v w'):=by
 refine okF (ae.tb (some S.st) tk) aw.tb func50 ?_;delta ae.tb an ml;refine⟨λe=>(by cases e),λ_=>⟨_,rfl,_,h.v.cell,(xU h.t h.ok b c d).use ?_⟩⟩;intro v w' a;have f:=a;obtain⟨aE,g,i,j,k⟩:=a;obtain⟨a1,a2,_⟩:=h.to g i rfl rfl (.bm j);have fin:(λv w'=>∃aE,dB w' (S.cI (S.T.bm aE S.T.P)) pages L aK bB/\dL 30 S (S.cI (S.T.bm aE S.T.P)) w w'/\xT S.T L key w v w') v w':=⟨aE,a1,a2,f⟩;rcases k with ⟨rfl,_⟩|⟨t,x,rfl,_⟩|⟨rfl,_⟩
 .exact⟨⟨none,0,0⟩,_,_,rfl,fin⟩
 .exact⟨t,_,_,rfl,fin⟩
 .exact⟨⟨none,0,0⟩,_,_,rfl,fin⟩
end
theorem x7(k v:Key):∀L:O aI,(fR L k v).length=(eu L k).length+1
 | []=>rfl
 |p::L=>by
  have d:=x7 k v L
  unfold fR eu at d⊢
  simp only[cn,fF,lf]at d⊢
  by_cases a:bz p.1 k
  .have b:¬bz k p.1:=kr a
   have c:p.1≠k:=λe=>by rw[e]at a;exact kr a a
   rw[if_pos (dO a),if_neg (by simpa using b),if_pos (dO c)]
   simp only[fF];omega
  .by_cases b:bz k p.1
   .have c:p.1≠k:=λe=>a (by rw[e]at b;exact absurd b (λh=>kr h h))
    rw[if_neg (by simpa using a),if_pos (dO b),if_pos (dO c)]
    simp only[fF];omega
   .have c:p.1=k:=by
     rcases wQ p.1 k with h|h|h
     .exact absurd h a
     .exact h
     .exact absurd h b
    rw[if_neg (by simpa using a),if_neg (by simpa using b),if_neg (by simpa using c)];omega
theorem vh{k:Key}:∀ {L:O aI},gA L->L.length=(eu L k).length+(if eJ L k=none then 0 else 1)
 | [],_=>rfl
 |p::L,h=>by
  have h0:=jg.1 h
  have g:=vh (k:=k) h0.2
  by_cases e:p.1=k
  .have c:∀q∈L,q.1≠k:=λq d f=>by
    have:=h0.1 q d
    rw[e,f]at this
    exact kr this this
   have a:eu (p::L) k=L:=by
    have:eu (p::L) k=eu L k:=by unfold eu;rw[lf];simp[e]
    rw[this,rj c]
   have b:eJ (p::L) k≠none:=by unfold eJ;simp[e]
   rw[a,if_neg b];rfl
  .have a:(eu (p::L) k).length=(eu L k).length+1:=by unfold eu;rw[lf];simp[e]
   have b:eJ (p::L) k=eJ L k:=by unfold eJ;simp[e]
   rw[a,b,fF];omega
section
variable {w w' w1:J}{T ao:aF}{S aC dv:cm}{pages aK:O Nat}{L bB:O aI}{k:Nat}
structure k5(S dv:cm):Prop where
 u:dv.u=S.u
 gen:dv.gen=S.gen
 now:dv.now=S.now
 first:dv.first=S.first
 pending:dv.pending=S.pending
 l:dv.l=S.l
 g:dv.T.g=S.T.g
 V:dv.V=S.V
theorem j7.back{c:Prop}{v:aa}(h:j7 c dv aC pages L aK bB v w')(e:k5 S dv)(d:dL k S dv w w1):j7 c S aC pages L aK bB v w':=by
 unfold j7 at h⊢;rw[e.u,e.gen,e.now,e.g,e.V]at h;exact h.imp id λ⟨a,b,c⟩=>⟨a,λf=>b (d.q f),c⟩
theorem lR.back{v:aa}(h:lR dv aC pages L aK bB v w')(e:k5 S dv)(a:dL k S dv w w1):lR S aC pages L aK bB v w':=by
 unfold lR at h⊢;have:=λh=>j7.back (pages:=pages) (L:=L) (aK:=aK) (bB:=bB) (c:=S.l.batch<=S.pending+1) (v:=v) (aC:=aC) (w':=w') h e a;rw[e.pending,e.l,e.gen,e.u,e.now,e.first,e.g,e.V]at h;exact h.imp id this
theorem dB.B1{bN:aF}{dw:O aI}{d:Int}(h:dB w S pages L aK bB)(hf:S.failed=false)(r:bU w' bN)(i:bD S.T bN w w' k)(s:bN.E=S.T.E)(t:bN.G=S.T.G)(y:BD S.T bN pages dw)(aa:2*S.T.aG+5<=b4 S.T)(z:∀p∈dw,cq p.1/\p.2.length<=24)(hd:(S.keys:Int)+d=dw.length)(A:dw.length<4096)(ab:S.keys<4096)(B:S.pending<1000)(ac:S.T.C.D.aT+k<=800000000)(F:S.gen<=1000000000)(H:S.T.C.D.quiet):
 aJ aj 68 #[.pointer (some S.st),d] w' (λv m=>(∃n:Int,v=n)/\∃aC dK,dL (k+100) S aC w m/\aC.now=S.now/\lR S aC dK dw aK bB v m):=by
 obtain⟨⟨dK,ad,I,dM,J,K⟩,M⟩:=y;obtain⟨N,o,P⟩:=h.toja.to r i s t λno Q=>(M no Q).1;have R:k5 S (S.cI bN):=⟨rfl,rfl,rfl,rfl,rfl,rfl,i.g,P⟩;obtain⟨U,V,_⟩:=h.live hf;have W:∀j,j<2\/j=S.u.map->j∉pages:=λj l X=>by
  have:=h.two j X;rcases l with l|l
  .omega
  .exact this.2 l
 refine(Hr (d:=d) N hf I dM (λno=>(K no).trans ?_) (λx hx=>?_) z ⟨λe=>U (i.ro.1 e),i.bT.2.trans V,by show 1<=b4 bN;omega⟩ hd B A (by show S.keys<_;omega) (by have:=i.aT;show bN.C.D.aT<=_;omega) F (o.q H)).mono ?_
 .rw[h.f no]
  constructor
  .rintro(b|⟨b|b,c⟩)
   .exact .inl b
   .exact absurd b c
   .exact .inr b
  .rintro(b|b)
   .exact .inl b
   .exact .inr ⟨.inr b,W no b⟩
 .rcases J x hx with b|b
  .exact h.two x b
  .have c:S.T.f x=false:=by cases ae:S.T.f x<;>simp_all
   refine⟨Nat.le_of_not_lt λY=>?_,λZ=>?_⟩
   .rw[(h.f x).2 (.inr (.inl Y))]at c;cases c
   .rw[(h.f x).2 (.inr (.inr Z))]at c;cases c
 .rintro v m ⟨aC,r1,aD,cl⟩
  refine⟨?_,aC,dK,o.trans r1,aD,cl.back R o⟩;rcases cl with ⟨a,_⟩|a
  .exact⟨0,a⟩
  .exact a.val
theorem pd(w:J)(s:ad):aJ aj 63 #[s] w (λv w'=>v=.bool (decide (1<=s.len/\s.len<=24))/\w=w'):=by
 refine okF (ae.pd s) aw.pd func63 ?_;refine⟨?_,rfl⟩
 congr 1
 rw[fh,dk,cu,cu,cu];omega
theorem Ht{tk cF:ad}{key val:Key}(h:dB w S pages L aK bB)(aQ:L.length<4000)(A:S.pending<1000)(aR:S.T.C.D.aT<=700000000)(Y:S.gen<=1000000000)(B:S.T.C.D.quiet)
 (E:Src 1 w tk (ax key)) (u:∀q,ay tk q->q<w.heap.size/\¬S.T.M q) (J:Src 1 w cF (ax val)) (K:∀q,ay cF q->q<w.heap.size/\¬S.T.M q):
 aJ aj 27 #[.pointer (some S.st),tk,cF] w (λv w'=>(v=.int .i64 1/\¬(cq key/\val.length<=24)/\w=w')\/((cq key/\val.length<=24)/\
  ((S.failed=true/\v=.int .i64 8/\w=w')\/(S.failed=false/\∃aC,dL 300 S aC w w'/\aC.now=S.now/\
    ((v=.int .i64 2/\g2 S=0/\dB w' S pages L aK bB/\aC=S)\/(g2 S≠0/\∃dK,lR S aC dK (fR L key val) aK bB v w')))))):=by
 have Z:tk.len=key.length:=by have:=E.len;rw[da]at this;omega
 have aU:cF.len=val.length:=by have:=J.len;rw[da]at this;omega
 have aV:=h.t.s.bp;refine okF (ae.s9 (some S.st) tk cF) aw.s9 func27 ?_;(delta ae.s9 an b6 aS bW ml;dsimp only);refine cz (λb w'=>(b=false↔cq key)/\w=w') (λq c=>⟨λy=>(by cases y),λ_=>(pd w tk).use ?_⟩) ?_
 .rintro _ _ ⟨rfl,rfl⟩
  refine⟨_,rfl,c _ _ ⟨?_,rfl⟩⟩;unfold cq;rw[Z,l5,cu]
 rintro b _ ⟨y,rfl⟩;refine⟨λm=>.inl ⟨rfl,λhg=>?_,rfl⟩,λm=>?_⟩
 .rcases Bool.or_eq_true_iff.1 m with a|a
  .rw[y.2 hg.1]at a;cases a
  .have:=ck a;have:=hg.2;omega
 have hg:cq key/\val.length<=24:=by
  have a:=qc.1 m;have N:=cG a.2;exact⟨y.1 a.1,I⟩
 refine⟨_,rfl,S.failed,by rw[aB];exact h.v.cell,λhf=>.inr ⟨hg,.inl ⟨hf,rfl,rfl⟩⟩,λhf=>(B0 h).use ?_⟩;rintro _ aW ⟨rfl,j⟩;have o:=h.ext j;obtain⟨aa,ab,_⟩:=h.live hf;refine⟨_,rfl,λF=>.inr ⟨hg,.inr ⟨hf,S,(dL.ext S j).mono I,rfl,.inl ⟨rfl,?_,o,rfl⟩⟩⟩,λF=>?_⟩
 .have:((g2 S:Nat):Int)=0:=by simpa using F
  omega
 have O:g2 S≠0:=by
  have:¬((g2 S:Nat):Int)=0:=by simpa using F
  omega
 refine⟨_,rfl,_,o.v.cell,(xU o.t o.ok I (E.ext j) λq c=>⟨by have:=(u q c).1;have:=j.size;omega,(u q c).2⟩).use ?_⟩;rintro v Q ⟨g,R,l,ac,z⟩;obtain⟨r,G,af⟩:=o.to R l rfl rfl (.bm ac);have U:dL 30 S (S.cI (S.T.bm g S.T.P)) w Q:=((dL.ext S j).trans G).mono I;have ah:k5 S (S.cI (S.T.bm g S.T.P)):=⟨rfl,rfl,rfl,rfl,rfl,rfl,rfl,af⟩;have aX:(S.cI (S.T.bm g S.T.P)).T.C.D.ei=λ_=> []:=l.bT.2.trans ab;have aY:g.D.aT<=S.T.C.D.aT+30:=l.aT;have ai:∃ (t:ad) (e:al),v=.tuple #[t,e,(0:Int)]/\(e=true↔eJ L key≠none):=by
  rcases z with ⟨rfl,i⟩|⟨t,x,rfl,_,hs,_⟩|⟨_,_,H⟩
  .exact⟨⟨none,0,0⟩,false,rfl,λh=>(by cases h),λh=>absurd (i hg.1) h⟩
  .exact⟨t,true,rfl,λ_=>by rw[hs];simp,λ_=>rfl⟩
  .exact absurd (B.1 30) H
 clear z;obtain⟨t,e,rfl,he⟩:=ai;have aZ:=j.size;have a0:=l.ag.size;have V:∀s:ad,(∀q,ay s q->q<w.heap.size/\¬S.T.M q)->∀q,ay s q->q<Q.heap.size/\¬(S.T.bm g S.T.P).M q:=λs hs q c=>⟨by have:=(hs q c).1;omega,λak=>by
  rcases l.cS q ak with a|a
  .exact(hs q c).2 a
  .have:=(hs q c).1;omega⟩
 have am:=(E.ext j).ag l.ag λq c i=>(u q c).2 (aF.gd i);have ao:=(J.ext j).ag l.ag λq c i=>(K q c).2 (aF.gd i);have ap:¬(S.T.bm g S.T.P).C.D.ro:=λe=>aa (l.ro.1 e);refine⟨t,e,0,rfl,λh=>(by cases h),λ_=>⟨_,rfl,_,r.v.cell,?_⟩⟩;refine(GA R ap r.ok I r.b1 (λx hx=>(r.f x).2 (.inl hx)) (by show g.D.aT<=_;omega) am (V tk u) ao (V cF K)).use ?_;rintro v a1 (⟨_,aq,_⟩|⟨_,_,bN,ar,au,av,az,z⟩)
 .exact absurd hg aq
 have aA:b4 (S.T.bm g S.T.P)=b4 S.T:=rfl;have aE:(S.T.bm g S.T.P).aG=S.T.aG:=rfl;have aH:2*S.T.aG+5<=b4 S.T:=by unfold g2 at O;omega
 rcases z with ⟨_,aI,_⟩|⟨rfl,_,⟨dK,aL,aM,dM,aN,aO⟩,W⟩|⟨rfl,H,a2,a3,a4,W⟩
 .rw[aA,aE]at aI;omega
 .have hlen:(S.keys:Int)+(if e=true then 0 else 1)=(fR L key val).length:=by
   have m:=x7 key val L;have a:=vh (k:=key) h.ok.rising;have N:=h.keys;by_cases i:eJ L key=none
   .have:¬e=true:=λh=>he.1 h i
    rw[if_pos i]at a;rw[if_neg this];omega
   .rw[if_neg i]at a
    rw[if_pos (he.2 i)];omega
  have N:=h.keys;have aP:(fR L key val).length<4096:=by split at hlen<;>omega
  have X:=λd hd=>r.B1 (d:=d) hf ar au av az ⟨⟨dK,aL,aM,dM,aN,aO⟩,W⟩ aH (λp A=>by
   rcases D_.1 A with rfl|⟨m,_⟩
   .exact hg
   .exact h.kv p m) hd aP (by show S.keys<_;omega) A (by show g.D.aT+100<=_;omega) Y (G.q B)
  refine⟨0,rfl,λh=>(by cases h),λ_=>⟨λht=>(X 0 (by rw[←hlen,if_pos ht];rfl)).use ?_,λht=>(X 1 (by rw[←hlen,if_neg (by rw[ht];decide)];rfl)).use ?_⟩⟩
  all_goals
   rintro v w' ⟨⟨n,rfl⟩,aC,dK,r1,aD,cl⟩;exact⟨n,rfl,.inr ⟨hg,.inr ⟨hf,aC,(U.trans r1).mono I,aD,.inr ⟨O,dK,cl.back ah U⟩⟩⟩⟩
 .exact absurd ((G.q B).1 100) H
end
section
variable {w w' w1:J}{T ao:aF}{S aC dv:cm}{pages aK:O Nat}{L bB:O aI}{k:Nat}
theorem Hu{tk:ad}{key:Key}(h:dB w S pages L aK bB)(aI:L.length<4000)(B:S.pending<1000)(aL:S.T.C.D.aT<=700000000)(W:S.gen<=1000000000)(E:S.T.C.D.quiet)
 (F:Src 1 w tk (ax key)) (m:∀q,ay tk q->q<w.heap.size/\¬S.T.M q):
 aJ aj 23 #[.pointer (some S.st),tk] w (λv w'=>(v=.tuple #[false,(1:Int)]/\¬cq key/\w=w')\/(cq key/\
  ((S.failed=true/\v=.tuple #[false,(8:Int)]/\w=w')\/(S.failed=false/\∃aC,dL 300 S aC w w'/\aC.now=S.now/\
    ((v=.tuple #[false,(0:Int)]/\eJ L key=none/\dB w' aC pages L aK bB/\k5 S aC/\aC.failed=false)\/
     (v=.tuple #[false,(2:Int)]/\eJ L key≠none/\g2 S=0/\dB w' aC pages L aK bB/\k5 S aC/\aC.failed=false)\/
     (∃n:Int,v=.tuple #[.bool (n==0),n]/\eJ L key≠none/\g2 S≠0/\∃dK,lR S aC dK (eu L key) aK bB n w')\/
     (v=.tuple #[false,(3:Int)]/\∀c pages L,j7 c S aC pages L aK bB (3:Int) w')))))):=by
 have X:tk.len=key.length:=by have:=F.len;rw[da]at this;omega
 have aM:=h.t.s.bp;refine okF (ae.s8 (some S.st) tk) aw.s8 func23 ?_;(delta ae.s8 an b6 aS ml bW mm;dsimp only);refine cz (λb w'=>(b=false↔cq key)/\w=w') (λq i=>⟨λo=>(by cases o),λ_=>(pd w tk).use ?_⟩) ?_
 .rintro _ _ ⟨rfl,rfl⟩
  refine⟨_,rfl,i _ _ ⟨?_,rfl⟩⟩;unfold cq;rw[X,l5,cu]
 rintro b _ ⟨o,rfl⟩;refine⟨λr=>.inl ⟨rfl,λhg=>?_,rfl⟩,λr=>?_⟩
 .rw[o.2 hg]at r;cases r
 have hg:cq key:=o.1 r;refine⟨_,rfl,S.failed,by rw[aB];exact h.v.cell,λhf=>.inr ⟨hg,.inl ⟨hf,rfl,rfl⟩⟩,λhf=>?_⟩;obtain⟨Y,Z,_⟩:=h.live hf;refine⟨_,rfl,_,h.v.cell,(xU h.t h.ok I F m).use ?_⟩;rintro v aN ⟨a,aa,j,ab,u⟩;obtain⟨G,y,ac⟩:=h.to aa j rfl rfl (.bm ab);have H:k5 S (S.cI (S.T.bm a S.T.P)):=⟨rfl,rfl,rfl,rfl,rfl,rfl,rfl,ac⟩;have aO:(S.cI (S.T.bm a S.T.P)).T.C.D.ei=λ_=> []:=j.bT.2.trans Z;have aP:a.D.aT<=S.T.C.D.aT+30:=j.aT;have af:∃ (t:ad) (e:al),v=.tuple #[t,e,(0:Int)]/\(e=true↔eJ L key≠none):=by
  rcases u with ⟨rfl,g⟩|⟨t,x,rfl,_,hs,_⟩|⟨_,_,J⟩
  .exact⟨⟨none,0,0⟩,false,rfl,λh=>(by cases h),λh=>absurd (g hg) h⟩
  .exact⟨t,true,rfl,λ_=>by rw[hs];simp,λ_=>rfl⟩
  .exact absurd (E.1 30) J
 clear u;obtain⟨t,e,rfl,he⟩:=af;refine⟨t,e,0,rfl,λh=>(by cases h),λ_=>⟨λK=>?_,λK=>(B0 G).use ?_⟩⟩
 .have g:eJ L key=none:=by
   cases ah:eJ L key with
   |none=>rfl
   |some x=>
    have:e=true:=he.2 (by rw[ah];simp);rw[this]at K;cases K
  exact .inr ⟨hg,.inr ⟨hf,_,y.mono I,rfl,.inl ⟨rfl,g,G,H,hf⟩⟩⟩
 have g:eJ L key≠none:=he.1 (by cases e<;>simp_all);rintro _ U ⟨rfl,z⟩;have l:=G.ext z;have N:dL 30 S (S.cI (S.T.bm a S.T.P)) w U:=(y.trans (dL.ext _ z)).mono I;have ai:g2 (S.cI (S.T.bm a S.T.P))=g2 S:=rfl;rw[ai];refine⟨_,rfl,λO=>.inr ⟨hg,.inr ⟨hf,_,N.mono I,rfl,.inr (.inl ⟨rfl,g,?_,l,H,hf⟩)⟩⟩,λO=>?_⟩
 .have:((g2 S:Nat):Int)=0:=by simpa using O
  omega
 have V:g2 S≠0:=by
  have:¬((g2 S:Nat):Int)=0:=by simpa using O
  omega
 have aQ:=j.ag.size;have aR:=z.size;have ak:∀q,ay tk q->q<U.heap.size/\¬(S.T.bm a S.T.P).M q:=λq i=>⟨by have:=(m q i).1;omega,λam=>by
  rcases j.cS q am with A|A
  .exact(m q i).2 A
  .have:=(m q i).1;omega⟩
 have ao:=(F.ag j.ag λq i g=>(m q i).2 (aF.gd g)).ext z;have ap:¬(S.T.bm a S.T.P).C.D.ro:=λe=>Y (j.ro.1 e);refine⟨_,rfl,_,l.v.cell,?_⟩;refine(GD l.t ap l.ok I l.b1 (λx hx=>(l.f x).2 (.inl hx)) (by show a.D.aT<=_;omega) ao ak).use ?_;rintro v aU ⟨bN,aq,ar,au,av,u⟩;have az:b4 (S.T.bm a S.T.P)=b4 S.T:=rfl;have aA:(S.T.bm a S.T.P).aG=S.T.aG:=rfl;have aE:2*S.T.aG+5<=b4 S.T:=by unfold g2 at V;omega
 rcases u with ⟨_,Q,_⟩|⟨_,_,Q,_⟩|⟨_,_,_,R,_⟩|⟨rfl,_,_,_,aH⟩|⟨rfl,_,J,aV⟩
 .exact absurd hg Q
 .exact absurd Q g
 .have R:b4 (S.T.bm a S.T.P)<2*(S.T.bm a S.T.P).aG+3:=R
  rw[az,aA]at R;omega
 .have A:=vh (k:=key) h.ok.rising
  rw[if_neg g]at A;have aW:=h.keys;refine⟨true,0,rfl,λh=>(by cases h),λ_=>(l.B1 (d:= -1) hf aq ar au av aH aE (λp B=>h.kv p (gk.1 B).1) (by show(S.keys:Int)+ -1=_;omega) I (by show S.keys<_;omega) B (by show a.D.aT+100<=_;omega) W (y.q E)).use ?_⟩;rintro v w' ⟨⟨n,rfl⟩,aC,dK,r1,aD,cl⟩;exact⟨n,rfl,.inr ⟨hg,.inr ⟨hf,aC,(N.trans r1).mono I,aD,.inr (.inr (.inl ⟨n,rfl,g,V,dK,cl.back H N⟩))⟩⟩⟩
 .exact absurd ((y.q E).1 100) J
theorem Hv{fg e8:ad}{fr to:Key}{most:Int}(h:dB w S pages L aK bB)(n:L.length<=4000)(o:S.T.C.D.aT<=800000000)(p:pages.length<=4000)
 (hf:Src 1 w fg (ax fr)) (b:∀q,ay fg q->q<w.heap.size/\¬S.T.M q) (ht:Src 1 w e8 (ax to)) (c:∀q,ay e8 q->q<w.heap.size/\¬S.T.M q) (d:to.length<=1000000):
 aJ aj 102 #[.pointer (some S.st),fg,e8,most] w (λv w'=>∃ao,dB w' (S.cI ao) pages L aK bB/\dL (2*pages.length) S (S.cI ao) w w'/\k5 S (S.cI ao)/\bD S.T ao w w' (2*pages.length)/\
  ((∃s:ad,v=.tuple #[s,(0:Int)]/\e2 (λq=>¬ao.M q) w' s ((gq L fr to).take most.toNat))\/(v=.tuple #[(),(3:Int)]/\¬S.T.C.D.calm (2*pages.length)))):=by
 refine okF (ae.tu (some S.st) fg e8 most) aw.tu func102 ?_;delta ae.tu an dZ;refine⟨λe=>(by cases e),λ_=>⟨_,rfl,_,h.v.cell,(GU h.t h.ok I I hf b ht c d).use ?_⟩⟩;rintro v w' ⟨ao,i,a,j,k⟩;obtain⟨a1,a2,a3⟩:=h.to i a.to a.E j ⟨a.root,a.aG,a.f,λno _=>⟨congrFun a.P no,a.view no⟩⟩;have hs:k5 S (S.cI ao):=⟨rfl,rfl,rfl,rfl,rfl,rfl,a.to.g,a3⟩;rcases k with ⟨s,rfl,l⟩|⟨rfl,m⟩
 .exact⟨s,0,rfl,ao,a1,a2,hs,a.to,.inl ⟨s,rfl,l⟩⟩
 .exact⟨⟨none,0,0⟩,3,rfl,ao,a1,a2,hs,a.to,.inr ⟨rfl,m⟩⟩
end
variable {w w':J}{D:aZ}
theorem Hw(a b:Int)(w:J)(T:TypeId)(k:IntKind):Sem.run aj (Builtin.min_ #[T,T] T #[.int k a,.int k b]) w=.ok (.int k (min a b)) w:=by
 simp only[Builtin.min_];unfold Builtin.min2;simp;split<;>omega
section
variable {w w':J}{D:aZ}{V:Nat->c0}{gen:Nat}{u:ew}{g:Nat->al}{P:Nat->au aA}{aK:O Nat}{bB:O aI}
theorem Hx{c aR k:Nat}{a:Nat->Prop}(h:dH (λ_=>False) w (k0 c aR k D))(d:∀q,a q->q<w.heap.size/\¬cV (k0 c aR k D) q):dH a w (k0 c aR k D):=
 ⟨h.raw,h.inv.pins,λf hf b=>(by
  have:=(List.mem_replicate.1 (show f∈List.replicate k dp from hf)).2
  rw[this]at b
  cases b),h.inv.un,d,h.inv.n_⟩
end
structure B2(D:aZ)(l:eG)(bR:Nat->Prop)(k:Nat)(w w':J)(S:cm):Prop where
 live:S.failed=false
 om:S.pending=0
 now:S.now=S.u.clock
 l:S.l=l
 d:S.T.C.D.d=D.d
 n:S.T.n=D.n
 q:S.T.C.D.quiet
 aT:S.T.C.D.aT<=D.aT+k
 M:∀q,S.T.M q->b9 D q\/bR q\/w.heap.size<=q
 E:∀q,S.T.E q↔q=S.st\/bR q
 st:w.heap.size<=S.st
 r:S.T.C.D.r1=D.r1
 ag:af (b9 D) w w'
section
variable {w w':J}{D:aZ}{bR:Nat->Prop}
theorem Hy{l:eG}(h:c1 w D)(A:oh (l.ak:Nat) (l.batch:Nat) (l.hX:Nat))(P:∀k,D.calm k)(pR:D.b3.getD 3 0= -1)(Q:D.aT<=999999000)(E:∀q,bR q->q<w.heap.size/\¬b9 D q):
 aJ aj 21 #[.pointer (some D.d),.agg l.c.toArray] w (λv w'=>∃S:cm,v=.tuple #[.pointer (some S.st),(0:Int)]/\dB w' S [] [] [] []/\B2 D l bR 4 w w' S/\S.u=iG/\S.gen=1):=by
 have ac:=h.b2;have U:=h.bp;refine(nA h A P pR Q).mono ?_;rintro v w' ⟨az,sb,s1,s2,c,aR,a8,st,jz,R⟩;obtain rfl:=R.BU.val;have hd:=R.pG;have B:=R.BU;have ad:=R.ag.size;have ae:=B.x.size;have af:=B.hc;have ah:=B.hf;have ai:=B.ht;have al:=B.sv.lt;have G:∀j,az.bP.getD j []=az.now j:=λj=>by unfold aZ.now;rw[hd.waits];rfl
 have y:∀q,cV (k0 c aR l.ak az) q->q=c\/q=aR\/b9 az q:=λq h=>h;have J:∀q,b9 az q->q<jz.heap.size:=λq m=>by
  rcases R.dq q m with a|a
  .have:=h.lt a;omega
  .omega
 have V:az.quiet:=⟨hd.calm,hd.b3⟩;obtain⟨T,f⟩:∃T:aF,T=⟨a8,1+1,0,0,k0 c aR l.ak az,sb,D.n,λi=>decide (i<3),λi=>decide (i<3),s1,s2,λq=>q=st\/bR q,λ_=>False,λ_=>none⟩:=⟨_,rfl⟩;have W:∀q,bR q->q<w.heap.size/\¬b9 az q:=λq m=>⟨(E q m).1,λhf=>by
  rcases R.dq q hf with a|a
  .exact(E q m).2 a
  .have:=(E q m).1;omega⟩
 have Y:bU w' T:=by
  have K:dH T.X w' (k0 c aR l.ak az):=Hx B.ca λq m=>by
   rw[f]at m;rcases m with a|a|a|a
   .have a:q=a8:=a
    refine⟨I,λhf=>?_⟩;rcases y q hf with b|b|b
    .omega
    .omega
    .have:=J q b;omega
   .have F:=R.rP q a
    refine⟨I,λhf=>?_⟩;rcases y q hf with b|b|b
    .omega
    .omega
    .have am:=B.ca.raw.dev
     exact R.Hc q a b
   .rcases(show q=st\/bR q from a) with a|a
    .refine⟨I,λhf=>?_⟩
     rcases y q hf with b|b|b
     .omega
     .omega
     .have:=J q b;omega
    .have F:=W q a
     refine⟨I,λhf=>?_⟩;rcases y q hf with b|b|b
     .omega
     .omega
     .exact F.2 b
   .exact a.elim
  rw[f]at K⊢;refine⟨B.cF,R.sp,K,λhf=>by have:=R.rP a8 hf;omega,λq m=>?_,λq m=>m.elim,hd.n,⟨by show 0<D.n;omega,(by decide:0<=12),(by decide:1+1<18446744073709551616)⟩,λno b1 H=>(by cases H),λj o=>.inl ?_,⟨rfl,rfl⟩⟩
  .rcases(show q=st\/bR q from m) with a|a
   .exact⟨by show q≠a8;omega,λhf=>by have:=R.rP q hf;omega,λh=>h⟩
   .have F:=E q a
    exact⟨by show q≠a8;omega,λhf=>by have:=R.rP q hf;omega,λh=>h⟩
  .have o:az.bT j=true:=o
   rw[hd.bT]at o;exact o
 have L:mM iG D.n:=⟨Iff.intro (λ_=>rfl) (λ_=>rfl),by decide,by show 0<D.n;omega,by show 2<D.n;omega,by decide,U⟩;have M:mL iG:=⟨by decide,by decide,by decide,by decide,by decide,by decide⟩;have N:kB (λj=>az.bP.getD j []) D.n 1 iG (λi=>decide (i<3)) (λ_=>none) [] []:=by
  refine⟨⟨3,I,rfl⟩,?_,.inl ?_,⟨1,bk _,?_⟩,λno=>?_,List.nodup_nil,λx hx=>(by cases hx),.inl ⟨rfl,rfl,rfl,rfl⟩,λx hx=>(by cases hx),rfl,λq m=>(by cases m),M,L,bk _⟩
  .show rC ((1:Nat):Int) (az.bP.getD 1 [])=_
   rw[G,hd.now];exact AN M L (by decide) (by decide)
  .show az.bP.getD 0 []=gR
   rw[G,hd.now];rfl
  .show eY ((2:Nat):Int) (az.bP.getD 2 [])=_
   rw[G,hd.now];exact uE I ⟨(by decide:1<=4),(by decide:4<=4),(by decide:1<18446744073709551616),by show(hN _ _).length<=232;rw[vg];omega⟩
  .show decide (no<3)=true↔no∈ []\/no<2\/no=2
   simp only[e3,false_or,cu];omega
 obtain⟨S,z⟩:∃S:cm,S=⟨st,T,l,iG,1,0,0,0,0,false⟩:=⟨_,rfl⟩;have Z:1<=b4 T:=by
  have a:=u6 (s:=λi=>decide (i<3)||decide (i<3)) (t:=c9 (λi=>decide (i<3)||decide (i<3)) 3 true) (k:=3) (by simp) (by simp[c9]) (λi hi=>by simp[c9,hi]) (n:=D.n) I;have b:=mO (c9 (λi=>decide (i<3)||decide (i<3)) 3 true) D.n;have F:b4 T=D.n-ey (λi=>decide (i<3)||decide (i<3)) D.n:=by rw[f];rfl
  omega
 refine⟨S,by rw[z],?_,?_,by rw[z],by rw[z]⟩
 .rw[z]
  refine⟨⟨?_,Y,by rw[f];exact .inl rfl,by rw[f];exact N,by rw[f],⟨(by decide:0<18446744073709551616),bk _,bk _,(by decide:1+2<18446744073709551616),?_,?_,?_⟩,λj o=>?_⟩,.inl ?_,List.nodup_nil,?_,λx hx=>(by cases hx),λp H=>(by cases H),rfl,cO _,λ_=>⟨?_,by rw[f];exact hd.ei,Z⟩,λhf=>(by cases hf)⟩
  .show Var w' st (h9 T.a8 T.C.D.d T.C.c T.sb _ _ _ _ _ _ _ _) _
   rw[f];exact B.sv
  .have:=A.2.2.2.1;show l.batch<=1000;omega
  .have:=A.2.2.2.2.2;show l.hX<=1048576;omega
  .have:=A.2.2.1;show 1<=l.batch;omega
  .have o:T.g j=true:=o
   show T.C.D.bT j=true;rw[f]at o⊢;show az.bT j=true;rw[hd.bT];exact o
  .rw[f];exact⟨rfl,rfl,rfl,rfl⟩
  .intro no
   have aa:=N.g no;rw[f];exact aa
  .intro e
   have a:az.bT 5=true:=by have:=e 5;rw[f]at this;exact this
   rw[hd.bT]at a;cases a
 .rw[z]
  refine⟨rfl,rfl,rfl,rfl,by rw[f];exact hd.d,by rw[f],by rw[f];exact V,by rw[f];show az.aT<=_;rw[hd.aT];omega,λq O=>?_,λq=>by rw[f],by show w.heap.size<=st;omega,by rw[f];exact hd.r,c5 R.ag B.x λq _ h=>h.elim⟩;rw[f]at O;have ab:∀q,b9 az q->b9 D q\/bR q\/w.heap.size<=q:=λq m=>by
   rcases R.dq q m with a|a
   .exact .inl a
   .exact .inr (.inr a.1)
  rcases O with a|a|a|a|a
  .rcases y q a with b|b|b
   .exact .inr (.inr I)
   .exact .inr (.inr I)
   .exact ab q b
  .have a:q=a8:=a
   exact .inr (.inr I)
  .exact .inr (.inr (R.rP q a).1)
  .rcases(show q=st\/bR q from a) with a|a
   .exact .inr (.inr I)
   .exact .inr (.inl a)
  .exact a.elim
end
section
variable {V:Nat->c0}{n gen:Nat}{u:ew}{g:Nat->al}{P:Nat->au aA}{aK:O Nat}{bB:O aI}
theorem kB.low(h:kB V n gen u g P aK bB):aK.length<=bB.length:=by
 rcases h.ok with ⟨_,_,a,_⟩|a
 .rw[a];exact cO _
 .exact a.pages.1
end
structure gx(w0 w:J)(bR:Nat->Prop)(d n:Nat)(l:eG)(S:cm)(pages:O Nat)(L:O aI)(aK:O Nat)(bB:O aI)(c:Nat):Prop where
 x:Ext w0 w
 at_:dB w S pages L aK bB
 E:∀q,S.T.E q↔q=S.st\/bR q
 ne:¬bR S.st
 vi:∀q,S.T.M q->w0.heap.size<=q
 lim:S.l=l
 d:S.T.C.D.d=d
 n:S.T.n=n
 aT:S.T.C.D.aT<=20000*(c+1)
 eL:L.length<=c/\bB.length<=c
 gen:S.gen<=c+1
 vj:S.pending<=c
 r:S.T.C.D.r1=true
section
variable {w0 w w':J}{bR:Nat->Prop}{d n cT k c:Nat}{l:eG}{S aC:cm}{pages aK:O Nat}{L bB:O aI}
theorem e2.Hz{s:ad}(b:e2 (λq=>¬S.T.M q) w s L)(hd:dL k S aC w w'):e2 (λq=>¬aC.T.M q) w' s L:=
 ((b.aX (C:=λq=>¬S.T.M q/\¬aC.T.M q) λq f a=>⟨a,λc=>by rcases hd.cS q c with h|h;exact a h;omega⟩).ag hd.ag λq d _ e=>d.1 e.1).aX λ_ _ h=>h.2
theorem gx.p6(h:gx w0 w bR d n l S pages L aK bB c){q:Nat}(a:bR q):S.T.E q/\q≠S.st:=⟨(h.E q).2 (.inr a),λe=>h.ne (e▸a)⟩
theorem gx.ext(h:gx w0 w bR d n l S pages L aK bB c)(hx:Ext w w'):gx w0 w' bR d n l S pages L aK bB c:={h with x:=h.x.trans hx,at_:=h.at_.ext hx}
theorem gx.mono{e:Nat}(h:gx w0 w bR d n l S pages L aK bB c)(he:c<=e):gx w0 w bR d n l S pages L aK bB e:={h with aT:=by have:=h.aT;omega,eL:=⟨by have:=h.eL.1;omega,by have:=h.eL.2;omega⟩,gen:=by have:=h.gen;omega,vj:=by have:=h.vj;omega}
theorem gx.j5{j2:Nat}(h:gx w0 w bR d n l S pages L aK bB c)(a:bR j2)(hc:af (λq=>q=j2) w w'):gx w0 w' bR d n l S pages L aK bB c:=
 {h with x:=Ext.dY h.x hc λq e=>by rw[e];exact h.vi _ (.inr (.inr (.inr (.inl (h.p6 a).1)))),at_:=h.at_.j5 (h.p6 a).1 (h.p6 a).2 hc}
theorem gx.step{dK fX:O Nat}{kA oo:O aI}(h:gx w0 w bR d n l S pages L aK bB c)(hs:dB w' aC dK kA fX oo)(hd:dL k S aC w w')(e:k<=20000)(hf:kA.length<=c+1/\oo.length<=c+1)(hg:aC.gen<=S.gen+1)(f:aC.pending<=S.pending+1):gx w0 w' bR d n l aC dK kA fX oo (c+1):=
 ⟨Ext.dY h.x hd.ag λq a=>h.vi q a.1,hs,λq=>by rw[hd.E,hd.st];exact h.E q,by rw[hd.st];exact h.ne,λq a=>by
  rcases hd.cS q a with b|b
  .exact h.vi q b
  .have:=h.x.size;omega,hd.l.trans h.lim,hd.d.trans h.d,hd.n.trans h.n,by have:=hd.aT;have:=h.aT;omega,hf,by have:=h.gen;omega,by have:=h.vj;omega,hd.r.trans h.r⟩
end
section
variable {w0 w w' w1 ai:J}{bR:Nat->Prop}{d n cT k c:Nat}{l:eG}{S aC:cm}{pages dK aK fX:O Nat}{L kA bB oo:O aI}{v:aa}
theorem j7.HA{c:Prop}(h:j7 c S aC pages L aK bB v w')(a:S.T.C.D.quiet):v=.int .i64 0/\c/\dB w' aC pages L pages L/\aC.failed=false/\aC.gen=S.gen+1/\aC.u.clock=S.now/\aC.u.db=S.u.db+1/\aC.pending=0:=by
 rcases h with h|⟨_,h,_⟩
 .exact h
 .exact absurd a h
end
section
variable {w0 w w' w1 ai:J}{bR bE:Nat->Prop}{d n cT k c i:Nat}{l:eG}{S aC:cm}{pages dK aK fX bl:O Nat}{L kA bB oo a7:O aI}{v:aa}{az:aZ}{ls:ad}
theorem dB.grow(h:dB w S pages L aK bB)(hx:Ext w w'){b:Nat->Prop}(c:∀q,b q->S.T.E q\/(w.heap.size<=q/\q<w'.heap.size))(hs:b S.st):dB w' (S.cI (S.T.cj b S.T.G)) pages L aK bB:=by
 have ht:bU w' (S.T.cj b S.T.G):=h.t.grow (W:=λ_=>False) hx (λ_ e=>e.elim) (λq a=>(c q a).imp id .inr) (λq a=>.inr (.inl a)) λq a hg=>by
  rcases c q a with d|d
  .exact(h.t.dA q d).2.2 hg
  .have:=h.t.lt (q:=q) (.inr (.inr (.inr (.inr hg))));omega
 exact⟨⟨h.v.ext hx,ht,hs,h.jb,h.gen,h.num,h.bT⟩,h.ok,h.b1,h.f,h.two,h.kv,h.keys,h.om,h.live,h.dead⟩
def cm.own(S:cm)(bE:Nat->Prop):cm:=S.cI (S.T.cj (λq=>q=S.st\/bE q) S.T.G)
theorem cm.HB{q:Nat}(b:∀q,S.T.E q↔q=S.st\/bR q)(c:∀q,bE q->bR q\/k<=q)(a:(S.own bE).T.M q):S.T.M q\/k<=q:=by
 rcases a with a|a|a|a|a
 .exact .inl (.inl a)
 .exact .inl (.inr (.inl a))
 .exact .inl (.inr (.inr (.inl a)))
 .rcases(show q=S.st\/bE q from a) with h|h
  .exact .inl (.inr (.inr (.inr (.inl ((b q).2 (.inl h))))))
  .rcases c q h with h|h
   .exact .inl (.inr (.inr (.inr (.inl ((b q).2 (.inr h))))))
   .exact .inr h
 .exact .inl (.inr (.inr (.inr (.inr a))))
theorem gx.grow(h:gx w0 w bR d n l S pages L aK bB c)(hx:Ext w w')(e:∀q,bE q->bR q\/(w.heap.size<=q/\q<w'.heap.size)):gx w0 w' bE d n l (S.own bE) pages L aK bB c:=
 ⟨h.x.trans hx,h.at_.grow hx (λq b=>by
  rcases b with a|a
  .exact .inl ((h.E q).2 (.inl a))
  .exact(e q a).imp (λf=>(h.E q).2 (.inr f)) id) (.inl rfl),λq=>Iff.rfl,λhs=>by
  have hs:bE S.st:=hs
  rcases e _ hs with a|a
  .exact h.ne a
  .have:=h.at_.t.lt (q:=S.st) (.inr (.inr (.inr (.inl h.at_.es))));omega,λq b=>by
  rcases cm.HB h.E (λq b=>(e q b).imp id And.left) b with a|a
  .exact h.vi q a
  .have:=h.x.size;omega,h.lim,h.d,h.n,h.aT,h.eL,h.gen,h.vj,h.r⟩
end
section
variable {w0 w w' w1 ai:J}{bR bE:Nat->Prop}{d n cT k c i:Nat}{l:eG}{S aC:cm}{pages dK aK fX bl:O Nat}{L kA bB oo a7:O aI}{v:aa}{az:aZ}{ls:ad}
theorem dB.room(h:dB w S pages L aK bB):S.T.n<=b4 S.T+pages.length+aK.length+3:=by
 have b:=GY (t:=λi=>S.T.f i||S.T.g i) (l:=pages++aK++ [0,1,S.u.map]) S.T.n λi _ hi=>by
  simp only[ie]at hi;simp only[cD,cN,e3,fb];rcases hi with hi|hi
  .rcases(h.f i).1 hi with a|a|a
   .exact .inl (.inl a)
   .exact .inr I
   .exact .inr (.inr (.inr a))
  .rcases(h.jb.g i).1 hi with a|a|a
   .exact .inl (.inr a)
   .exact .inr I
   .exact .inr (.inr (.inr a))
 simp only[cn,fF,kg]at b;unfold b4;omega
theorem gx.new{D:aZ}(hx:Ext w0 w)(f:dB w' S [] [] [] [])(a:B2 D l bR 4 w w' S)(hu:S.u=iG)(hg:S.gen=1)(c:∀q,b9 D q->w0.heap.size<=q)(e:∀q,bR q->w0.heap.size<=q/\q<w.heap.size)(j:D.aT=0)(g:D.r1=true):gx w0 w' bR D.d D.n l S [] [] [] [] 0:=
 ⟨Ext.dY hx a.ag c,f,a.E,λh=>by have:=(e _ h).2;have:=a.st;omega,λq i=>by
  rcases a.M q i with b|b|b
  .exact c q b
  .exact(e q b).1
  .have:=hx.size;omega,a.l,a.d,a.n,by have:=a.aT;omega,⟨bk _,bk _⟩,I,by rw[a.om];exact bk _,a.r.trans g⟩
end
end Go.Proofs.YtcmgnhkpfllinaaGreat
