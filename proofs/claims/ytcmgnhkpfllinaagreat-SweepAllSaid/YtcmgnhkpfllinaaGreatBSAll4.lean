/- Contracts of the functions that the statement reaches, and the plain laws over them; each theorem stands with its conditions. -/
import Derived.Laws.Small
import Derived.Test.YtcmgnhkpfllinaaGreatBSAll3
namespace Go.Proofs.YtcmgnhkpfllinaaGreat
open Go aQ Go.Proofs.Tryz
theorem CU{h:Nat}{n:aF}(a:n.leaf=decide (h=0)):((((h+1:Nat):Int):Int)==1)=n.leaf:=by
 rw[a,fv,j2,cp];omega
theorem y8{w:J}{T:aK}{tk:ad}{k:Key}{steps:O (Nat×aF×Nat)}(h:b7 w T)(cm:T.C.D.a7<=900000000)(bw:Src 1 w tk (az k))(bx:∀q,aB tk q->q<w.heap.size/\¬T.M q)(bA:nK T.P k T.aL T.root steps):
 aI aj 123 #[.pointer (some T.bj),tk] w (Iq T steps w):=by
 have cn:=h.num.2.1;refine okF (ae.u0 (some T.bj) tk) ax.u0 func123 ?_;(delta ae.u0 aG ak k_ z4 Y aT r1 bX st aP aq;dsimp only);refine⟨_,rfl,_,h.cells.2.2.2.1,_,rfl,_,h.cells.2.2.2.2,λs n8 n9 w'=>∃ (eL no:Nat) (l:O dx) (rest:O (Nat×aF×Nat)) (bN:Nat->Prop) (aJ:b3),n9=(eL:Nat)/\n8=(no:Nat)/\nK T.P k eL no rest/\l.map dx.st++rest=steps/\l.length+eL=T.aL/\
  bN=(λq=>T.E q\/aB s q)/\(∀q,aB s q->w.heap.size<=q)/\b7 w' ((T.cv bN T.G).bC aJ T.P)/\bS T ((T.cv bN T.G).bC aJ T.P) w w' (2*l.length)/\(∀j,aJ.view j=T.C.view j)/\aV 6 223 w' s (bz dx.c l)/\
  ∀x∈l,bU (λq=>w.heap.size<=q/\¬((T.cv bN T.G).bC aJ T.P).M q) w' x.n x.K x.V x.D,λ_ _ n9 _=>n9.toNat,?_,?_⟩
 .have bB:T.E=λq=>T.E q\/aB ⟨none,0,0⟩ q:=by
   funext q;refine propext ⟨.inl,λh=>h.resolve_right ?_⟩;rintro⟨A,ar,_⟩
   cases ar
  have aZ:(T.cv T.E T.G).bC T.C T.P=T:=rfl;refine⟨T.aL,T.root,[],steps,T.E,T.C,rfl,rfl,bA,rfl,by simp,bB,?_,by rw[aZ];exact h,by rw[aZ];exact .refl _ _,λ_=>rfl,?_,λx hx=>(by cases hx)⟩
  .rintro q ⟨A,ar,_⟩
   cases ar
  .exact⟨rfl,bl _,by decide,.inl ⟨rfl,rfl⟩⟩
 have fin:∀ {w':J}{bN:Nat->Prop}{aJ:b3}{s:ad}{k:Nat},b7 w' ((T.cv bN T.G).bC aJ T.P)->bS T ((T.cv bN T.G).bC aJ T.P) w w' k->bN=(λq=>T.E q\/aB s q)->(∀q,aB s q->w.heap.size<=q)->b7 w' (T.bC aJ T.P)/\bS T (T.bC aJ T.P) w w' k:=by
  intro w' bN aJ s k h1 h2 g z;have F:∀q,T.E q->bN q:=λq a=>by rw[g];exact .inl a
  exact⟨h1.grow (W:=λ_=>False) (E:=T.E) (G:=T.G) (af.refl _ _) (λ_ h=>h.elim) (λq a=>.inl (F q a)) (λq a=>.inr (.inl a)) λq a=>(h.dU q a).2.2,
   h2.step (W:=λ_=>False) (af.refl _ _) (λ_ h=>h.elim) (λq a=>.inl (F q a)) λq a=>.inl a⟩
 rintro s _ _ co ⟨eL,no,l,rest,bN,aa,rfl,rfl,a0,a6,hlen,H,L,t,R,f,ap,ej⟩;have cp:=R.ah.size;refine⟨λaH=>?_,λbD=>?_⟩
 .obtain⟨o,rfl⟩:∃bE,eL=bE+1:=⟨eL-1,by have:(eL:Int)>0:=cf aH;omega⟩
  obtain⟨n,bF,bG,a9,rfl,bb⟩:=a0;obtain⟨bH,S⟩:=t.eT no n bG;have bI:aa.D.a7<=999999999:=by
   have:aa.D.a7<=T.C.D.a7+2*l.length:=R.a7;omega
  refine(y7 t bI bH S.two _).use ?_;rintro _ r ⟨B,h2,ab,bc,bd⟩;have au:=R.trans ab;have cq:=ab.ah.size;rw[CU a9]at bd;rcases bd with ⟨bu,K,V,D,rfl,bL,av⟩|⟨e,rfl,bM,bO⟩
  .obtain rfl:=gW.uniq S bL
   obtain⟨_,aC,cr⟩:=S.is;have bP:=aC.eW;have cs:=vL aC;refine⟨n.leaf,K,V,D,0,rfl,a8 (vs:=[false,(),(),()]) rfl λbQ U aD bR=>?_⟩;refine⟨U.cj rfl ?_,rfl,cN U (us:=[n.leaf,K,V,D]) rfl rfl λac aE aM bT=>⟨λd=>(by cases d),λ_=>?_⟩⟩
   .intro v f
    simp only[cY,fo,fy]at f;rcases f with rfl|rfl|rfl|rfl<;>trivial
   have be:Ext r ac:=Ext.cu aD aM (bl _);have cx:=be.size;obtain⟨bV,aU,ba,bh⟩:=bK aE;refine⟨_,bV,K,aU,V,ba,D,bh,#[no,n.leaf,K,V,D,(0:Int)],by kernel_rfl,?_⟩;refine a8 (vs:=[(0:Int),false,(),(),(),(0:Int)]) rfl λcy bf bg cz=>?_;refine⟨bf.cj rfl ?_,rfl,cN bf (us:=[no,n.leaf,K,V,D,(0:Int)]) rfl rfl λaN aO bi cA=>?_⟩
   .intro v f
    simp only[cY,fo,fy]at f;rcases f with rfl|rfl|rfl|rfl|rfl|rfl<;>trivial
   have ag:Ext r aN:=Ext.cu (be.trans bg) bi I;have aQ:Var aN r.heap.size [n.leaf,K,V,D] 169:=(aE.ext bg).ah bi I;obtain⟨sb,bW⟩:∃sb,sb=ac.heap.size:=⟨_,rfl⟩;obtain⟨nb,bY⟩:∃nb,nb=r.heap.size:=⟨_,rfl⟩;rw[←bW]at aO⊢;rw[←bY]at aQ⊢;have bZ:=av.ext ag;refine cw (λn40 u=>n40=(((if o=0 then no else n.kids.getD (db n.keys k) 0:Nat)):Int)/\Ext r u/\Var u sb (dx.c ⟨no,n,if o=0 then 0 else db n.keys k,K,V,D⟩) 223) (λq a=>⟨λai=>?_,λai=>?_⟩) ?_
   .have N:o≠0:=by
     have:((o+1:Nat):Int)>1:=cf ai;omega
    have b0:n.leaf=false:=by rw[a9];simp[N]
    have cE:=aC.vX b0;have cF:=vG n.keys k;obtain⟨bV,aU,ba,bh⟩:=bK aQ;have b1:Src 1 aN tk (az k):=(bw.ah au.ah λq a b2=>(bx q a).2 (aK.gF b2)).ext ag;refine⟨_,bV,K,aU,V,ba,D,bh,(oG bZ b1 bP I).use ?_⟩;rintro _ bk ⟨rfl,aR⟩;have bm:=aO.ext aR;obtain⟨aw,ay⟩:=eB bm (i:=5) (by simp);rw[aA];refine⟨_,rfl,aw,ay,aX ?_⟩;have bn:=dZ bk sb 5 (.int .i64 ((db n.keys k:Nat):Int));have bo:=eA bm (i:=5) (.int .i64 ((db n.keys k:Nat):Int));have bp:Ext r (bk.setCell ⟨sb,5,none⟩ (.int .i64 ((db n.keys k:Nat):Int))):=Ext.cu (ag.trans aR) bn I;have b4:=(aQ.ext aR).ah bn I;obtain⟨d0,d1,d2,d3⟩:=bK b4;obtain⟨A,ar,d,b5⟩:=cZ.at (av.ext bp).kids (i:=db n.keys k) I;refine⟨D,d3,_,bo.cell,A,ar,d,_,b5,a _ _ ⟨?_,bp,?_⟩⟩
    .rw[if_neg N,fN,dH I];rfl
    .rw[if_neg N]
     exact bo
   .have N:o=0:=by
     have:¬((o+1:Nat):Int)>1:=cC ai;omega
    refine a _ _ ⟨by rw[if_pos N],ag,?_⟩;rw[if_pos N];exact aO
   rintro _ u ⟨rfl,bq,b6⟩;have cG:=bq.size;refine⟨_,b6.rd rfl,⟨some u.heap.size,1,1⟩,_,Ir _ _ rfl,?_⟩;have aS:=dc u (.cells (dx.c ⟨no,n,if o=0 then 0 else db n.keys k,K,V,D⟩).toArray 223);have Q:=bq.trans aS;have b8:=Q.size;have b9:=aS.size;have b_:=ap.1;rw[fD _ (nJ l)]at b_;have X:∀q,aB s q->bN q:=λq a=>by rw[H];exact .inr a
   have cb:aV 6 223 r s (bz dx.c l):=ap.ah ab.ah λq a b=>t.kL (X q a) b;obtain⟨x,aW⟩:∃x:dx,x=⟨no,n,if o=0 then 0 else db n.keys k,K,V,D⟩:=⟨_,rfl⟩;rw[←aW]at aS Q b8 b9⊢;have cc:∀v∈dx.c x,Plain v:=by
    intro v f;unfold dx.c at f;simp only[cY,fo,fy]at f;rcases f with rfl|rfl|rfl|rfl|rfl|rfl<;>trivial
   obtain⟨al,am,a1,a2,a3,a4,a5⟩:=Is.append (cD:=219) (x:=⟨some u.heap.size,1,1⟩) (Src.new (T:=223) u (dx.c x) 1 rfl) (cb.ext Q) cc (by show(2*(s.len+1)+1000)*96<=_;omega);have cH:=a4.size;have aY:∀q,aB al q->w.heap.size<=q:=λq a=>by
    rcases a5 q a with h1|h1
    .exact L q h1
    .omega
   obtain⟨kr,bs⟩:∃kr,kr=λq=>T.E q\/aB al q:=⟨_,rfl⟩;have an:∀q,kr q->T.E q\/aB al q:=λq a=>by rw[bs]at a;exact a
   have F:∀q,T.E q->bN q:=λq a=>by rw[H];exact .inl a
   have cd:bz dx.c (l++ [x])=bz dx.c l++dx.c x:=by rw[lU];simp[bz]
   have ce:b7 am ((T.cv kr T.G).bC B T.P):=by
    refine(h2.ext Q).grow (E:=kr) (G:=T.G) a4 (λq a _=>.inl (X q a)) (λq a=>?_) (λq a=>.inr (.inl a)) λq a hg=>?_
    .rcases an q a with h1|h1
     .exact .inl (F q h1)
     .rcases a5 q h1 with g|g
      .exact .inl (X q g)
      .exact .inr (.inr ⟨g,aV.lt a2 q h1⟩)
    .rcases an q a with h1|h1
     .exact(h.dU q h1).2.2 hg
     .have g:=h.lt (q:=q) (.inr (.inr (.inr (.inr hg))))
      have:=aY q h1;omega
   have ch:bS T ((T.cv kr T.G).bC B T.P) w am (2*(l++ [x]).length):=by
    have h1:=(au.trans (bS.ext _ Q)).mono (l:=2*(l++ [x]).length) (by rw[ct,jd];omega);refine h1.step (E:=kr) (G:=T.G) a4 (λq a ai=>by have:=L q a;omega) (λq a=>?_) λq a=>.inl a;rcases an q a with h1|h1
    .exact .inl (F q h1)
    .exact .inr (.inr (aY q h1))
   have bt:∀ {m:aF}{K V D:ad},bU (λq=>w.heap.size<=q/\¬((T.cv bN T.G).bC B T.P).M q) r m K V D->bU (λq=>w.heap.size<=q/\¬((T.cv kr T.G).bC B T.P).M q) am m K V D:=λ{m K V D} b=>by
    have h1:=(b.ext Q).a_ (C:=λq=>q<(u.alloc (.cells (dx.c x).toArray 223)).heap.size/\w.heap.size<=q/\¬((T.cv bN T.G).bC B T.P).M q) λq a d=>⟨a,d⟩;refine(bU.ah h1 a4 λq a ci=>a.2.2 (.inr (.inr (.inr (.inl (X q ci)))))).a_ λq _ d=>⟨d.2.1,λb=>d.2.2 ?_⟩;rcases b with b|b|b|b|b
    .exact .inl b
    .exact .inr (.inl b)
    .exact .inr (.inr (.inl b))
    .refine .inr (.inr (.inr (.inl ?_)))
     show bN q;rcases an q b with g|g
     .exact F q g
     .rcases a5 q g with z|z
      .exact X q z
      .have:=d.1;omega
    .exact .inr (.inr (.inr (.inr b)))
   have bv:IntKind.wrap .i64 (((o+1:Nat):Int)-1)=(o:Nat):=by rw[br I I];omega
   refine⟨al,am,a1,⟨o,_,l++ [x],bF,kr,B,bv,rfl,?_,?_,by rw[ct,jd];omega,bs,aY,ce,ch,λj=>(bc j).trans (f j),by rw[cd];exact a2,?_⟩,?_⟩
   .cases o with
    |zero=>exact bb
    |succ m=>rw[if_neg I];exact bb
   .rw[←a6,fL,cB,aW];rfl
   .intro y Z
    rcases cO.1 Z with Z|Z
    .exact bt (ab.cg (ej y Z))
    .obtain rfl:=fg.1 Z
     subst aW;exact bt (av.a_ λq _ d=>⟨by have:=d.1;omega,d.2⟩)
   .rw[bv]
    show(o:Int).toNat<(((o+1:Nat):Int)).toNat;omega
  .refine⟨false,bJ,bJ,bJ,e,rfl,a8 (vs:=[false,(),(),()]) rfl λbQ U aD bR=>?_⟩
   refine⟨U.cj rfl ?_,rfl,cN U (us:=[false,(),(),()]) rfl rfl λac aE aM bT=>⟨λ_=>?_,λd=>?_⟩⟩
   .intro v f
    simp only[cY,fo,fy]at f;rcases f with rfl|rfl|rfl|rfl<;>trivial
   .have hx:Ext r ac:=Ext.cu aD aM (bl _)
    have he:e=3/\¬aa.D.calm 2:=by
     rcases bM with h1|h1|⟨_,_,h1⟩
     .exact h1
     .obtain⟨p,aw,_⟩:=S
      rw[aw]at h1;cases h1
     .exact absurd S (h1 n)
    obtain⟨rfl,ck⟩:=he;obtain⟨g,z⟩:=fin (k:=2*T.aL) (h2.ext hx) ((au.trans (bS.ext _ hx)).mono I) H L;exact⟨B,g,z,λj=>(bc j).trans (f j),.inr ⟨rfl,λhc=>ck (R.calm 2 (gf hc I))⟩⟩
   .simp at d;exact absurd d bO
 .have h0:eL=0:=by
   have:¬(eL:Int)>0:=cC bD;omega
  subst h0;have cl:rest=[]:=a0;subst cl;obtain⟨g,z⟩:=fin (k:=2*T.aL) t (R.mono I) H L;refine⟨aa,g,z,f,.inl ⟨s,l,rfl,by rw[←a6,fx],ap,λq a=>⟨L q a,λb=>?_⟩,λx hx=>?_⟩⟩
  .have cI:=L q a
   have ao:bN q:=by rw[H];exact .inr a
   rcases b with b|b|b|b|b
   .exact(t.ca.inv.fc q (.inr (.inr (.inl ao)))).2 b
   .exact(t.dU q ao).1 b
   .exact(t.dU q ao).2.1 b
   .have:=h.lt (q:=q) (.inr (.inr (.inr (.inl b))));omega
   .exact(t.dU q ao).2.2 b
  .refine(ej x hx).a_ λq _ d=>⟨d.1,λb=>d.2 ?_⟩
   rcases b with b|b|b|b|b
   .exact .inl b
   .exact .inr (.inl b)
   .exact .inr (.inr (.inl b))
   .refine .inr (.inr (.inr (.inl ?_)))
    show bN q;rw[H];exact .inl b
   .exact .inr (.inr (.inr (.inr b)))
def aK.jt(T:aK)(f:Nat->al):aK:={T with f:=f}
structure dz where
 cb:Nat
 ma:ad
 gv:ad
 made:O Nat
 left:O Nat
structure dg(w:J)(T:aK)(c:dz):Prop where
 t:b7 w T
 v:Var w c.cb [.pointer (some T.bj),c.ma,c.gv] 284
 ma:aV 1 3 w c.ma (fS c.made)
 gv:aV 1 3 w c.gv (fS c.left)
 gc:T.G c.cb
 iE:∀q,aB c.ma q->T.G q/\q≠c.cb/\¬aB c.gv q
 kO:∀q,aB c.gv q->T.G q/\q≠c.cb
 ns:¬T.C.D.ro
theorem CV{w:J}{s:ad}{ds:O Nat}(d:Nat)(b:aV 1 3 w s (fS ds))(i:ds.length<=1000000):
 ∃ (a:ad) (w':J),Sem.run aj (Builtin.append_ #[72,72] 72 #[s,.slice (some w.heap.size) 1 1]) (w.alloc (.cells #[d] 3))=.ok a w'/\
  aV 1 3 w' a (fS (ds++ [d]))/\af (aB s) w w'/\(∀k,aB a k->aB s k\/w.heap.size<=k)/\af (aB s) (w.alloc (.cells #[d] 3)) w':=by
 have j:s.len=ds.length:=by have:=b.1;rw[qN]at this;omega
 have hc:Ext w (w.alloc (.cells #[d] 3)):=dc _ _;have l:(w.alloc (.cells #[d] 3)).heap.size=w.heap.size+1:=o6 _ _;obtain⟨a,w',h1,h2,m,c,e⟩:=sE.append (cD:=72) (x:=⟨some w.heap.size,1,1⟩) (Src.new (T:=3) w [d] 1 rfl) (b.ext hc) (λv f=>by rw[fg.1 f];trivial) (by show(2*(s.len+1)+1000)*8<=_;omega);exact⟨a,w',h1,by simpa[fS] using h2,(af.cW hc).trans c,λk g=>(e k g).imp id (λh=>I),c⟩
section
variable {w w':J}{T au:aK}{c:dz}
theorem dg.of{W:Nat->Prop}(h:dg w T c)(d:b7 w' au)(hc:af W w w')(cx:∀q,T.G q->¬W q)(f:au.bj=T.bj)(b:∀q,T.G q->au.G q)(g:au.C.D.b6=T.C.D.b6:=by rfl):dg w' au c:=
 ⟨d,by rw[f];exact h.v.ah hc (cx _ h.gc),h.ma.ah hc λq a=>cx q (h.iE q a).1,h.gv.ah hc λq a=>cx q (h.kO q a).1,b _ h.gc,λq a=>⟨b q (h.iE q a).1,(h.iE q a).2⟩,λq a=>⟨b q (h.kO q a).1,(h.kO q a).2⟩,λe=>h.ns λi=>g▸e i⟩
theorem dg.ext(h:dg w T c)(hx:Ext w w'):dg w' T c:=h.of (h.t.ext hx) hx (λ_ _ h=>h) rfl λ_ h=>h
theorem dg.cells(h:dg w T c):w.cell? c.cb=some (.pointer (some T.bj))/\w.cell? (Addr.add c.cb 1)=some (.slice c.ma.a c.ma.len c.ma.cap)/\w.cell? (Addr.add c.cb 2)=some (.slice c.gv.a c.gv.len c.gv.cap):=by
 rw[aA,aA];exact⟨h.v.cell,h.v.cell,h.v.cell⟩
theorem b7.wu(h:b7 w T){q:Nat}(a:T.G q):¬c9 T.C q:=λhf=>(h.ca.inv.fc q (.inr (.inr (.inr a)))).2 hf
theorem b7.wv{f:Nat->al}(h:b7 w T)(hs:fk w' T.sb T.n f T.g T.s1 T.s2)(hc:af (gE T.sb T.s1 T.s2) w w'):b7 w' (T.jt f)/\bS T (T.jt f) w w' 0:=
 ⟨⟨h.t.ah hc h.kq,hs,h.ca.ah hc λq a=>.inr (.inl a),h.kq,h.dU,h.js,h.n,h.num,h.eT,h.b6,h.low⟩,
  ⟨rfl,rfl,rfl,rfl,rfl,rfl,rfl,rfl,rfl,rfl,bl _,λ_ h=>h,hc.mono λq _ a=>.inr (.inr (.inl a)),λq h=>.inl h,λq h=>.inl h⟩⟩
theorem It(h:dg w T c)(no:Nat)(x:c.made.length<=100000):
 ∃ (b:ad) (ai:J),Sem.run aj (Builtin.append_ #[72,72] 72 #[c.ma,.slice (some w.heap.size) 1 1]) (w.alloc (.cells #[no] 3))=.ok b ai/\
  af (aB c.ma) (w.alloc (.cells #[no] 3)) ai/\(∃u:aa,ai.cell? ⟨c.cb,1,none⟩=some u)/\ai.frozen? ⟨c.cb,1,none⟩=false/\
  ∀j,j=ai.setCell ⟨c.cb,1,none⟩ b->dg j (T.cv T.E λq=>T.G q\/aB b q) {c with ma:=b,made:=c.made++ [no]}/\bS T (T.cv T.E λq=>T.G q\/aB b q) w j 0:=by
 obtain⟨b,ai,aw,ay,d,f,o⟩:=CV no h.ma I;have cx:∀q,aB c.ma q->T.G q:=λq a=>(h.iE q a).1;have y:=d.size;have l:=h.v.ah d λa=>(h.iE _ a).2.1 rfl;obtain⟨b9,cq⟩:=eB l (i:=1) (by simp);refine⟨b,ai,aw,o,b9,cq,?_⟩;rintro _ rfl;have g:=dZ ai c.cb 1 b;have p:=eA l (i:=1) b;have k:af T.G w (ai.setCell ⟨c.cb,1,none⟩ b):=c0 (d.mono λq _ a=>cx q a) g λq _ e=>by rw[e];exact h.gc
 have z:=k.size;have aH:∀q,aB b q->q<ai.heap.size:=λq a=>aV.lt ay q a;have m:∀q,aB b q->T.G q\/(w.heap.size<=q/\q<(ai.setCell ⟨c.cb,1,none⟩ b).heap.size):=λq a=>by
  rcases f q a with h1|h1
  .exact .inl (cx q h1)
  .exact .inr ⟨h1,by have:=aH q a;have:=g.size;omega⟩
 have n:∀q,aB b q->q≠c.cb:=λq a e=>by
  rcases f q a with h1|h1
  .exact(h.iE q h1).2.1 e
  .have:=h.v.lt;omega
 have r:∀q,aB b q->¬aB c.gv q:=λq a e=>by
  rcases f q a with h1|h1
  .exact(h.iE q h1).2.2 e
  .have:=aV.lt h.gv q e;omega
 have s:=h.t.grow (E:=T.E) (G:=λq=>T.G q\/aB b q) k (λq a _=>.inr a) (λq a=>.inl a) (λq a=>by
  rcases a with a|a
  .exact .inr (.inl a)
  .exact .inr (m q a)) λq a hg=>by
  rcases hg with hg|hg
  .exact(h.t.dU q a).2.2 hg
  .rcases f q hg with h1|h1
   .exact(h.t.dU q a).2.2 (cx q h1)
   .have:=h.t.lt (q:=q) (.inr (.inr (.inr (.inl a))));omega
 refine⟨⟨s,p,?_,(h.gv.ah d λq a e=>(h.iE q e).2.2 a).ah g λq a e=>(h.kO q a).2 e,.inl h.gc,λq a=>⟨.inr a,n q a,r q a⟩,λq a=>⟨.inl (h.kO q a).1,(h.kO q a).2⟩,h.ns⟩,?_⟩
 .have:aV 1 3 ai b (fS (c.made++ [no])):=ay
  exact this.ah g λq a e=>n q a e
 .have h0:bS T T w w 0:=.refl _ _
  exact h0.step k (λq a _=>.inr (.inr (.inr a))) (λq a=>.inl a) λq a=>by
   rcases a with a|a
   .exact .inl a
   .exact(m q a).imp id λe=>e.1
theorem CW(h:dg w T c)(no:Nat)(x:c.left.length<=100000):
 ∃ (b:ad) (ai:J),Sem.run aj (Builtin.append_ #[72,72] 72 #[c.gv,.slice (some w.heap.size) 1 1]) (w.alloc (.cells #[no] 3))=.ok b ai/\
  af (aB c.gv) (w.alloc (.cells #[no] 3)) ai/\(∃u:aa,ai.cell? ⟨c.cb,2,none⟩=some u)/\ai.frozen? ⟨c.cb,2,none⟩=false/\
  ∀j,j=ai.setCell ⟨c.cb,2,none⟩ b->dg j (T.cv T.E λq=>T.G q\/aB b q) {c with gv:=b,left:=c.left++ [no]}/\bS T (T.cv T.E λq=>T.G q\/aB b q) w j 0:=by
 obtain⟨b,ai,aw,ay,d,f,o⟩:=CV no h.gv I;have cx:∀q,aB c.gv q->T.G q:=λq a=>(h.kO q a).1;have y:=d.size;have l:=h.v.ah d λa=>(h.kO _ a).2 rfl;obtain⟨b9,cq⟩:=eB l (i:=2) (by simp);refine⟨b,ai,aw,o,b9,cq,?_⟩;rintro _ rfl;have g:=dZ ai c.cb 2 b;have p:=eA l (i:=2) b;have k:af T.G w (ai.setCell ⟨c.cb,2,none⟩ b):=c0 (d.mono λq _ a=>cx q a) g λq _ e=>by rw[e];exact h.gc
 have z:=k.size;have aH:∀q,aB b q->q<ai.heap.size:=λq a=>aV.lt ay q a;have m:∀q,aB b q->T.G q\/(w.heap.size<=q/\q<(ai.setCell ⟨c.cb,2,none⟩ b).heap.size):=λq a=>by
  rcases f q a with h1|h1
  .exact .inl (cx q h1)
  .exact .inr ⟨h1,by have:=aH q a;have:=g.size;omega⟩
 have n:∀q,aB b q->q≠c.cb:=λq a e=>by
  rcases f q a with h1|h1
  .exact(h.kO q h1).2 e
  .have:=h.v.lt;omega
 have r:∀q,aB c.ma q->¬aB b q:=λq e a=>by
  rcases f q a with h1|h1
  .exact(h.iE q e).2.2 h1
  .have:=aV.lt h.ma q e;omega
 have s:=h.t.grow (E:=T.E) (G:=λq=>T.G q\/aB b q) k (λq a _=>.inr a) (λq a=>.inl a) (λq a=>by
  rcases a with a|a
  .exact .inr (.inl a)
  .exact .inr (m q a)) λq a hg=>by
  rcases hg with hg|hg
  .exact(h.t.dU q a).2.2 hg
  .rcases f q hg with h1|h1
   .exact(h.t.dU q a).2.2 (cx q h1)
   .have:=h.t.lt (q:=q) (.inr (.inr (.inr (.inl a))));omega
 refine⟨⟨s,p,(h.ma.ah d λq a e=>(h.iE q a).2.2 e).ah g λq a e=>(h.iE q a).2.1 e,?_,.inl h.gc,λq a=>⟨.inl (h.iE q a).1,(h.iE q a).2.1,r q a⟩,λq a=>⟨.inr a,n q a⟩,h.ns⟩,?_⟩
 .have:aV 1 3 ai b (fS (c.left++ [no])):=ay
  exact this.ah g λq a e=>n q a e
 .have h0:bS T T w w 0:=.refl _ _
  exact h0.step k (λq a _=>.inr (.inr (.inr a))) (λq a=>.inl a) λq a=>by
   rcases a with a|a
   .exact .inl a
   .exact(m q a).imp id λe=>e.1
end
def cl(T:aK):Nat:=T.n-eS (λi=>T.f i||T.g i) T.n
theorem CX{s t:Nat->al}:∀ {n:Nat},(∀i,i<n->s i=t i)->eS s n=eS t n
 |0,_=>rfl
 |n+1,h=>by
  unfold eS
  rw[CX (n:=n) λi hi=>h i I,h n I]
theorem wx{s t:Nat->al}{k:Nat}(a:s k=false)(ht:t k=true)(he:∀i,i≠k->t i=s i):∀ {n:Nat},k<n->eS t n=eS s n+1
 |0,h=>by omega
 |n+1,h=>by
  unfold eS
  by_cases e:k=n
  .subst e
   rw[CX (s:=t) (t:=s) (n:=k) λi hi=>he i I,a,ht]
   simp
  .rw[wx a ht he (n:=n) I,he n I]
   omega
theorem CY{t:Nat->al}:∀ {n:Nat},(∀i,i<n->t i=true)->eS t n=n
 |0,_=>rfl
 |n+1,h=>by
  unfold eS
  rw[CY (n:=n) λi hi=>h i I,h n I]
  simp
theorem CZ{T:aK}(h:1<=cl T):∃no,firstFree (λi=>T.f i||T.g i) T.n=some no:=by
 cases hf:firstFree (λi=>T.f i||T.g i) T.n with
 |some no=>exact⟨no,rfl⟩
 |none=>
  have:=CY (HV hf);unfold cl at h;rw[this]at h;omega
structure dh(T au:aK)(c c':dz)(m l:O Nat)(w w':J)(k:Nat):Prop where
 to:bS T au w w' k
 E:au.E=T.E
 G:∀q,T.G q->au.G q
 root:au.root=T.root
 aL:au.aL=T.aL
 cb:c'.cb=c.cb
 made:c'.made=c.made++m
 left:c'.left=c.left++l
 cg:m.Nodup
 jT:∀no∈m,(T.f no||T.g no)=false/\no<T.n
 f:∀no,au.f no=(T.f no||decide (no∈m))
 ew:∀no,(T.f no||T.g no)=true->au.P no=T.P no/\au.C.view no=T.C.view no
 room:cl au+m.length=cl T
theorem dh.ext{w w':J}(T:aK)(c:dz)(h:Ext w w'):dh T T c c [] [] w w' 0:=
 ⟨.ext T h,rfl,λ_ h=>h,rfl,rfl,rfl,by simp,by simp,List.nodup_nil,λ_ h=>(by cases h),λno=>by simp,λ_ _=>⟨rfl,rfl⟩,by simp⟩
theorem dh.trans{T au j:aK}{c c' o:dz}{m p l r:O Nat}{w w' s:J}{k t:Nat}(h1:dh T au c c' m l w w' k)(h2:dh au j c' o p r w' s t):dh T j c o (m++p) (l++r) w s (k+t):=by
 have hg:au.g=T.g:=h1.to.g;have u:au.n=T.n:=h1.to.n;have hf:∀no,(T.f no||T.g no)=true->(au.f no||au.g no)=true:=λno h=>by
  rw[h1.f,hg]
  cases d:T.f no<;>cases i:T.g no<;>simp[d,i]at h⊢
 refine⟨h1.to.trans h2.to,h2.E.trans h1.E,λq h=>h2.G q (h1.G q h),h2.root.trans h1.root,h2.aL.trans h1.aL,h2.cb.trans h1.cb,by rw[h2.made,h1.made,cB],by rw[h2.left,h1.left,cB],?_,λno h=>?_,λno=>?_,λno h=>?_,?_⟩
 .rw[s_]
  refine⟨h1.cg,h2.cg,λa v b x e=>?_⟩;subst e;have:=(h2.jT a x).1;rw[h1.f]at this;simp[v]at this
 .rcases cO.1 h with h|h
  .exact h1.jT no h
  .have d:=h2.jT no h
   rw[h1.f,hg,u]at d;refine⟨?_,d.2⟩
   cases y:T.f no<;>cases z:T.g no<;>simp[y,z]at d⊢
 .rw[h2.f,h1.f]
  simp only[cO,Bool.decide_or,Bool.or_assoc]
 .have d:=h2.ew no (hf no h)
  have i:=h1.ew no h;exact⟨d.1.trans i.1,d.2.trans i.2⟩
 .have:=h1.room
  have:=h2.room;rw[ct];omega
theorem dh.mono{T au:aK}{c c':dz}{m l:O Nat}{w w':J}{k j:Nat}(h:dh T au c c' m l w w' k)(a:k<=j):dh T au c c' m l w w' j:=⟨h.to.mono a,h.E,h.G,h.root,h.aL,h.cb,h.made,h.left,h.cg,h.jT,h.f,h.ew,h.room⟩
def C0(T:aK)(c:dz)(n:aF)(w:J)(v:aa)(w':J):Prop:=
 ∃ (no:Nat) (au:aK) (c':dz),dg w' au c'/\dh T au c c' [no] [] w w' 1/\
  ((v=.tuple #[no,(0:Int)]/\au.P no=some n)\/(v=.tuple #[no,(3:Int)]/\¬T.C.D.calm 1))
theorem cE.eK{n:aF}(h:cE n)(h2:bE n<=400):n.keys.length<=200/\n.vals.length<=200/\n.kids.length<=201:=by
 have:=vL h;rcases h with h|h
 .have:=h.len
  have a:n.kids.length=0:=by rw[h.kids];rfl
  omega
 .have:=h.len
  have a:n.vals.length=0:=by rw[h.vals];rfl
  omega
theorem wy{B:Nat->Prop}{w:J}{T:aK}{c:dz}{n:aF}{K V D:ad}(h:dg w T c)(be:T.C.D.a7<=900000100)(U:1<=cl T)(bf:c.made.length<=1000)(aD:bU B w n K V D)(hs:cE n)(h2:bE n<=232):
 aI aj 265 #[.pointer (some c.cb),dd n K V D] w (C0 T c n w):=by
 obtain⟨no,W⟩:=CZ U;obtain⟨u,y,_⟩:=Cy W;have H:=h.t.s.bu;have bg:=hs.eK I;refine okF (ae.vw (some c.cb) n.leaf K V D) ax.vw func265 ?_;(delta ae.vw aT Y r1 ey ak gB st cm bX;dsimp only);refine a8 (vs:=[n.leaf,K,V,D]) rfl λw1 X Z bi=>?_;obtain⟨bV,aU,ba,bh⟩:=bK X;refine⟨_,bV,K,aU,V,ba,D,bh,(qB (aD.ext Z) I I I).use ?_⟩;rintro _ aE ⟨aG,ab⟩;rcases aG with ⟨s,rfl,aH,aL,_,_⟩|⟨e,rfl,he,aM⟩
 rotate_left
 .have:=aM hs;omega
 have L:=Z.trans ab;have r:=h.ext L;refine⟨s,0,rfl,λd=>(by cases d),λ_=>⟨_,rfl,_,r.cells.1,_,rfl,_,r.t.cells.2.1,(CA r.t.s).use ?_⟩⟩;rintro _ aN ⟨rfl,iw,ac⟩;rw[W]at iw⊢;obtain⟨aO,M⟩:=r.t.wv iw ac;have ag:dg aN (T.jt (dt T.f no true)) c:=r.of aO ac (λq a hf=>(h.t.js q a).2 hf) rfl λ_ h=>h;refine⟨(no:Nat),0,rfl,λd=>(by cases d),λ_=>⟨_,rfl,_,ag.cells.2.1,?_⟩⟩;obtain⟨z,ai,aw,ay,aP,aQ,aR⟩:=It ag no I;refine aX ⟨z,ai,aw,_,rfl,by rw[aA];exact aP,by rw[aA];exact aQ,aX ?_⟩;rw[aA];obtain⟨o,al⟩:∃o,o=ai.setCell ⟨c.cb,0+1,none⟩ z:=⟨_,rfl⟩;rw[←al];obtain⟨A,O⟩:=aR o al;obtain⟨am,bj⟩:∃am,am=λq=>T.G q\/aB z q:=⟨_,rfl⟩;have an:∀q,T.N q->q<w.heap.size:=λq a=>h.t.lt (aK.gF a);have bk:=L.size;have bm:=M.ah.size;have bn:=O.ah.size;have ao:af T.N aE o:=M.ah.trans O.ah;have aS:Var o w.heap.size [n.leaf,K,V,D] 169:=(X.ext ab).ah ao λa=>by have:=an _ a;omega
 have aW:aV 1 5 o s (az (jn n)):=aH.ah ao λq a aY=>by have:=an _ aY;have:=aL q a;omega
 have hlen:=yo hs;have H:2<=no:=by
  have e:(T.f no||T.g no)=false:=y;have F:T.g no=false:=by cases hg:T.g no<;>simp_all
  have:=h.t.low;rcases ei no 2 with Q|Q
  .rcases nY no with ap|ap
   .rw[ap,this.1]at F;cases F
   .rw[show no=1 from I,this.2]at F;cases F
  .exact Q
 have R:ny ⟨if n.leaf then 1 else 2,T.gen,jn n⟩:=by
  refine⟨?_,?_,h.t.num.2.2,by show(jn n).length<=232;omega⟩
  .show 1<=(if n.leaf then 1 else 2);split<;>omega
  .show(if n.leaf then 1 else 2)<=4;split<;>omega
 refine cw (λn27 aZ=>n27=((if n.leaf then 1 else 2:Nat):Int)/\aZ=o) (λq a=>⟨n.leaf,aS.cell,λd=>a _ _ ⟨by rw[d];rfl,rfl⟩,λd=>a _ _ ⟨by rw[d];rfl,rfl⟩⟩) ?_;rintro _ _ ⟨rfl,rfl⟩;refine⟨_,rfl,_,A.cells.1,_,rfl,_,A.t.cells.2.2.1,(vU (no:=no) (p:=⟨if n.leaf then 1 else 2,T.gen,jn n⟩) aW.src I R).use ?_⟩;rintro _ bo ⟨s2,rfl,aq,ar,a0⟩;have l:=A.ext ar;refine⟨s2,0,rfl,λd=>(by cases d),λ_=>⟨_,rfl,_,l.cells.1,_,rfl,_,l.t.cells.1,(CR l.t.ca (by show T.C.D.a7<=999999999;omega) (no:=no) (by rw[l.t.n];exact u) H (λhs=>by have:=l.t.b6 no hs;have e:(T.f no||T.g no)=false:=y;rcases this with this|this;(rw[show T.g no=true from this,Bool.or_true]at e;cases e);exact l.ns this) aq.src (sC no R) λq a=>⟨aV.lt aq q a,λhf=>?_⟩).use ?_⟩⟩
 .have:=a0 q a
  have:=A.t.lt (q:=q) (.inl hf);omega
 rintro _ a1 ⟨aJ,a2,S,a3⟩;have a4:∀j,dt T.f no true j=(T.f j||decide (j∈ [no])):=λj=>by
  unfold dt;by_cases e:j=no
  .subst e;simp
  .simp[e]
 have aC:(T.f no||T.g no)=false:=y;have a5:T.n-eS (λi=>dt T.f no true i||T.g i) T.n+1=cl T:=by
  have:=wx (s:=λi=>T.f i||T.g i) (t:=λi=>dt T.f no true i||T.g i) (k:=no) y (by simp[dt]) (λi hi=>by simp[dt,hi]) u;unfold cl at U⊢;have Q:=nG (λi=>T.f i||T.g i) T.n;omega
 have main:∀ (P':Nat->av aF) (v:aa),(∀j,j≠no->P' j=T.P j)->(∀j,j≠no->aJ.view j=T.C.view j)->(∀j cg,P' j=some cg->j<T.n/\gW T.gen cg.leaf j (aJ.view j) cg)->
  ((v=.tuple #[no,(0:Int)]/\P' no=some n)\/(v=.tuple #[no,(3:Int)]/\¬T.C.D.calm 1))->C0 T c n w v a1:=by
  intro P' v a6 gd a9 m;obtain⟨a_,bb⟩:=l.t.wq (P:=P') a2 S a9;have bc:=l.of (au:=((T.jt (dt T.f no true)).cv T.E λq=>T.G q\/aB z q).bC aJ P') a_ S.ah (λq a=>l.t.wu a) rfl (λ_ h=>h) S.b6;refine⟨no,_,_,bc,⟨?_,rfl,λq a=>.inl a,rfl,rfl,rfl,rfl,(fx _).symm,by simp,λx hx=>?_,a4,λj b=>?_,a5⟩,m⟩
  .have:=(((bS.ext T L).trans M).trans O).trans ((bS.ext _ ar).trans bb)
   exact this.mono I
  .obtain rfl:=fg.1 hx
   exact⟨aC,u⟩
  .have:j≠no:=λe=>by rw[e,aC]at b;cases b
   exact⟨a6 j this,gd j this⟩
 rcases a3 with ⟨rfl,m⟩|⟨rfl,bd,m⟩
 .refine⟨0,rfl,main (λj=>if j=no then some n else T.P j) _ (λj b=>if_neg b) (λj b=>(m j).trans (if_neg b)) (λj cg b=>?_) (.inl ⟨rfl,if_pos rfl⟩)⟩
  by_cases e:j=no
  .subst e
   rw[if_pos rfl]at b
   cases b;rw[m,if_pos rfl];exact⟨u,_,vQ I R,bl _,rfl,⟨hs,rfl,h2,rfl⟩,H⟩
  .rw[if_neg e]at b
   rw[m,if_neg e];exact h.t.eT j cg b
 .refine⟨3,rfl,main T.P _ (λ_ _=>rfl) (λj _=>m j) (λj cg b=>?_) (.inr ⟨rfl,bd⟩)⟩
  rw[m];exact h.t.eT j cg b
theorem Iu(w:J)(x:Int):Sem.run aj (Instr.buildSlice 317 1 #[(0,.agg #[(),x])]) w=
 .ok (.slice (some w.heap.size) 1 1) (w.alloc (.cells #[(),x] 325)):=by kernel_rfl
theorem Iv(w:J)(x y:Int)(t:ad):Sem.run aj (Instr.buildSlice 317 2 #[(0,.agg #[(),x]),(1,.agg #[t,y])]) w=
 .ok (.slice (some w.heap.size) 2 2) (w.alloc (.cells #[(),x,t,y] 325)):=by kernel_rfl
theorem cE.ye{n:aF}(h:cE n)(h1:1<=cr n)(h2:if n.leaf then cr n<=n.keys.length-1/\1<=n.keys.length-1 else cr n<=n.keys.length-2/\1<=n.keys.length-2):cE (n.left (cr n))/\cE (n.right (cr n)):=by
 rcases h with h|h
 .have a:=h.leaf
  rw[if_pos a]at h2;unfold aF.left aF.right;rw[if_pos a,if_pos a];have hlen:=h.len;refine⟨.inl ⟨⟨λk b=>h.ok k (fM b),h.eW.sublist (te _ _)⟩,rfl,?_,rfl,λv c=>h.vals v (fM c)⟩,.inl ⟨⟨λk b=>h.ok k (fJ b),h.eW.sublist (List.drop_sublist _ _)⟩,rfl,?_,rfl,λv c=>h.vals v (fJ c)⟩⟩
  .simp only[cG];omega
  .simp only[ed];omega
 .have a:=h.inner
  rw[if_neg (by rw[a];simp)]at h2;unfold aF.left aF.right;rw[if_neg (by rw[a];simp),if_neg (by rw[a];simp)];have hlen:=h.len;refine⟨.inr ⟨⟨λk b=>h.ok k (fM b),h.eW.sublist (te _ _)⟩,rfl,?_,?_,rfl,λv c=>h.kids v (fM c)⟩,.inr ⟨⟨λk b=>h.ok k (fJ b),h.eW.sublist (List.drop_sublist _ _)⟩,rfl,?_,?_,rfl,λv c=>h.kids v (fJ c)⟩⟩
  .intro e
   have:=congrArg List.length e;simp only[cG,k1]at this;omega
  .simp only[cG];omega
  .intro e
   have:=congrArg List.length e;simp only[ed,k1]at this;omega
  .simp only[ed];omega
def lq(B:Nat->Prop)(w:J)(s:ad)(ks:O Key)(kids:O Nat):Prop:=
 (∃b x,s=⟨some ⟨b,0,none⟩,1,1⟩/\ks=[]/\kids=[x]/\Var w b [.slice none 0 0,.int .i64 (x:Nat)] 325/\B b)\/
 (∃b x y k t,s=⟨some ⟨b,0,none⟩,2,2⟩/\ks=[k]/\kids=[x,y]/\Var w b [.slice none 0 0,.int .i64 (x:Nat),.slice t.a t.len t.cap,.int .i64 (y:Nat)] 325/\B b/\bw B w t k/\k≠ [])
def hV(T:aK)(c:dz)(n:aF)(w:J)(v:aa)(w':J):Prop:=
 ∃ (au:aK) (c':dz) (m:O Nat) (s:ad),dg w' au c'/\dh T au c c' m [] w w' 2/\m.length<=2/\
  ((∃ks,v=.tuple #[s,(0:Int)]/\my au.P n ks m/\lq (λq=>¬au.M q) w' s ks m)\/(v=.tuple #[s,(3:Int)]/\¬T.C.D.calm 2))
theorem C1{B:Nat->Prop}{w:J}{T:aK}{c:dz}{n:aF}{K V D:ad}(h:dg w T c)(k:T.C.D.a7<=900000100)(l:1<=cl T)(m:c.made.length<=1000)(o:bU B w n K V D)(hs:cE n)(h2:bE n<=232):
 aI aj 234 #[.pointer (some c.cb),dd n K V D] w (hV T c n w):=by
 refine okF (ae.vp (some c.cb) n.leaf K V D) ax.vp func234 ?_;(delta ae.vp aT Y r1 gB;dsimp only);refine a8 (vs:=[n.leaf,K,V,D]) rfl λw1 p b y=>?_;obtain⟨bV,aU,ba,bh⟩:=bK p;refine⟨_,bV,K,aU,V,ba,D,bh,(wy (h.ext b) k l m (o.ext b) hs h2).use ?_⟩;rintro _ a ⟨no,au,c',d,q,r⟩;have f:∀ (e:Int),((e=0/\au.P no=some n)\/(e=3/\¬T.C.D.calm 1))->∃ (g:ad) (i:J),Sem.run aj (Instr.buildSlice 317 1 #[(0,.agg #[(),no])]) a=.ok g i/\hV T c n w (.tuple #[g,e]) i:=by
  intro e he;refine⟨⟨some a.heap.size,1,1⟩,_,Iu a _,?_⟩;have j:=dc a (.cells #[(),no] 325);have s:dh T au c c' [no] [] w (a.alloc (.cells #[(),no] 325)) 2:=(((dh.ext T c b).trans q).trans (dh.ext au c' j)).mono I;refine⟨au,c',[no],⟨some a.heap.size,1,1⟩,d.ext j,s,by simp,?_⟩;rcases he with ⟨rfl,he⟩|⟨rfl,he⟩
  .refine .inl ⟨[],rfl,.inl ⟨h2,no,rfl,rfl,he⟩,.inl ⟨_,no,rfl,rfl,rfl,Var.new a [(),no] 325,λu=>?_⟩⟩
   have:=d.t.lt u;omega
  .exact .inr ⟨rfl,λhc=>he (gf hc I)⟩
 rcases r with ⟨rfl,v⟩|⟨rfl,x⟩
 .exact⟨_,0,rfl,f 0 (.inl ⟨rfl,v⟩)⟩
 .exact⟨_,3,rfl,f 3 (.inr ⟨rfl,x⟩)⟩
theorem fI{b:al}{K V D:ad}:∀v∈ [.bool b,.slice K.a K.len K.cap,.slice V.a V.len V.cap,.slice D.a D.len D.cap],Plain v:=by
 intro v c;simp only[cY,fo,fy]at c;rcases c with rfl|rfl|rfl|rfl<;>trivial
theorem Iw{B:Nat->Prop}{w:J}{T:aK}{c:dz}{n:aF}{K V D:ad}(h:dg w T c)(aV:T.C.D.a7<=900000090)(aW:2<=cl T)(aX:c.made.length<=900)(ag:bU B w n K V D)(hs:cE n)(h2:232<bE n)(aY:bE n<=400)(h1:1<=cr n)
 (l:if n.leaf then cr n<=n.keys.length-1/\1<=n.keys.length-1 else cr n<=n.keys.length-2/\1<=n.keys.length-2) (ai:bE (n.left (cr n))<=232) (al:bE (n.right (cr n))<=232):
 aI aj 276 #[.pointer (some c.cb),dd n K V D] w (hV T c n w):=by
 obtain⟨sl,gG⟩:=hs.ye h1 l;have aZ:=hs.eK I;have a:cr n<n.keys.length:=by
  split at l<;>omega
 refine okF (ae.vy (some c.cb) n.leaf K V D) ax.vy func276 ?_;(delta ae.vy aT Y r1 A_ z4 ak gB;dsimp only);refine a8 (vs:=[n.leaf,K,V,D]) rfl λw1 am E a0=>?_;obtain⟨bV,aU,ba,bh⟩:=bK am;refine⟨_,bV,K,aU,V,ba,D,bh,(qC (ag.ext E) hs I h1 l).use ?_⟩;rintro _ an ⟨fj,fY,bH,dD,d_,c3,t,rfl,ao,ap,ht,aq⟩;refine⟨_,fj,fY,bH,t,_,dD,d_,c3,true,rfl,a8 (vs:=[false,(),(),()]) rfl λa1 ar au a2=>a8 (vs:=[false,(),(),()]) rfl λa3 av F a4=>?_⟩;have G:=ar.ext F;refine⟨G.cj rfl fI,rfl,cN G (us:=[.bool (n.left (cr n)).leaf,fj,fY,bH]) rfl rfl λa5 aw H a6=>?_⟩;have L:=av.ah H I;refine⟨L.cj rfl fI,rfl,cN L (us:=[.bool (n.right (cr n)).leaf,dD,d_,c3]) rfl rfl λm ay O a9=>⟨λa=>(by cases a),λ_=>?_⟩⟩;have az:=aw.ah O I;have Q:=E.trans aq;have i:Ext an m:=Ext.cu (Ext.cu (au.trans F) H I) O I;have o:=Q.trans i;have bb:=Q.size;have bc:=i.size;obtain⟨d0,d1,d2,d3⟩:=bK az;refine⟨_,d0,fj,d1,fY,d2,bH,d3,(wy (h.ext o) I I I (ao.ext i) sl ai).use ?_⟩;rintro _ aA ⟨x,bP,R,p,b,aB⟩;have r:∀q,T.N q->q<w.heap.size:=λq d=>h.t.lt (aK.gF d);have bd:=b.to.ah.size;rcases aB with ⟨rfl,S⟩|⟨rfl,s⟩
 .have aC:=ay.ah b.to.ah λd=>by have:=r _ d;omega
  obtain⟨d0,d1,d2,d3⟩:=bK aC;have aD:bU (λq=>w1.heap.size<=q) aA (n.right (cr n)) dD d_ c3:=(ap.ext i).ah b.to.ah λq d u=>by have:=r _ u;omega
  have aE:bP.C.D.a7<=900000100:=eE b.to.a7 (by clear p b S;omega);have aG:=b.room;have be:R.made.length=c.made.length+1:=by rw[b.made,ct];rfl
  simp only[jd]at aG;have U:=wy p aE I I aD gG al;rw[b.cb]at U;refine⟨x,0,rfl,λa=>(by cases a),λ_=>⟨_,d0,dD,d1,d_,d2,c3,d3,U.use ?_⟩⟩;rintro _ g ⟨y,bY,W,X,k,aH⟩;have bf:=k.to.ah.size;have aJ:=((dh.ext T c o).trans b).trans k;have aL:n.keys.getD (cr n) []=n.keys[cr n]:=by rw[fN,dH a];rfl
  have aM:=ht.ext i;have aN:bw (λq=>¬bY.M q) g t n.keys[cr n]:=by
   rw[←aL];have aO:bw (λq=>q<m.heap.size/\w1.heap.size<=q) m t (n.keys.getD (cr n) []):=bw.a_ aM λq d a=>⟨d,a⟩;have Z:=(b.trans k).to;refine bw.a_ (bw.ah aO Z.ah λq d u=>by have:=r _ u;omega) λq _ a v=>?_;rcases Z.c1 q v with aa|aa
   .have:=h.t.lt aa;omega
   .omega
  have aP:n.keys[cr n]≠ []:=by
   have aQ:cz n.keys[cr n]:=by
    rcases hs with hs|hs
    .exact hs.ok _ (cL a)
    .exact hs.ok _ (cL a)
   intro e;have:=aQ.1;rw[e]at this;simp at this
  have z:=dc g (.cells #[(),x,t,y] 325);have A:=(aJ.trans (dh.ext bY W z)).mono (j:=2) I;have ab:∀ (e:Int),((e=0/\bY.P y=some (n.right (cr n)))\/(e=3/\¬bP.C.D.calm 1))->∃ (ac:ad) (af:J),Sem.run aj (Instr.buildSlice 317 2 #[(0,.agg #[(),x]),(1,.agg #[t,y])]) g=.ok ac af/\
   hV T c n w (.tuple #[ac,e]) af:=by
   intro e he;refine⟨⟨some g.heap.size,2,2⟩,_,Iv g _ _ t,bY,W,[x,y],⟨some g.heap.size,2,2⟩,X.ext z,A,by simp,?_⟩;rcases he with ⟨rfl,he⟩|⟨rfl,he⟩
   .have aR:bY.P x=some (n.left (cr n)):=by
     rw[(k.ew x (by rw[b.f];simp)).1,S]
    refine .inl ⟨[n.keys[cr n]],rfl,.inr ⟨h2,x,y,a,rfl,rfl,aR,he⟩,.inr ⟨_,x,y,_,t,rfl,rfl,rfl,Var.new g [(),x,t,y] 325,λv=>?_,bw.ext aN z,aP⟩⟩;have:=X.t.lt v;omega
   .exact .inr ⟨rfl,λhc=>he (b.to.calm 1 (gf hc I))⟩
  rcases aH with ⟨rfl,aS⟩|⟨rfl,s⟩
  .exact⟨_,0,rfl,ab 0 (.inl ⟨rfl,aS⟩)⟩
  .exact⟨_,3,rfl,ab 3 (.inr ⟨rfl,s⟩)⟩
 .have A:=((dh.ext T c o).trans b).mono (j:=2) I
  exact⟨_,3,rfl,λ_=>⟨bP,R,[x],bJ,p,A,by simp,.inr ⟨rfl,λhc=>s (gf hc I)⟩⟩,λa=>(by cases a)⟩
theorem wz{B:Nat->Prop}{w:J}{T:aK}{c:dz}{n:aF}{K V D:ad}(h:dg w T c)(t:T.C.D.a7<=900000090)(u:2<=cl T)(x:c.made.length<=900)(f:bU B w n K V D)(hs:cE n)(y:bE n<=400)
 (h2:232<bE n->1<=cr n/\(if n.leaf then cr n<=n.keys.length-1/\1<=n.keys.length-1 else cr n<=n.keys.length-2/\1<=n.keys.length-2)/\bE (n.left (cr n))<=232/\bE (n.right (cr n))<=232):
 aI aj 263 #[.pointer (some c.cb),dd n K V D] w (hV T c n w):=by
 have A:=hs.eK I;refine okF (ae.vv (some c.cb) n.leaf K V D) ax.vv func263 ?_;(delta ae.vv aT Y r1 bX ak ey;dsimp only);refine a8 (vs:=[n.leaf,K,V,D]) rfl λw1 o p E=>?_;obtain⟨bV,aU,ba,bh⟩:=bK o;refine⟨_,bV,K,aU,V,ba,D,bh,(oO (f.ext p) hs I).use ?_⟩;rintro _ z ⟨rfl,q⟩;have a:=p.trans q;obtain⟨d0,d1,d2,d3⟩:=bK (o.ext q);have fin:∀ (v:aa) (w':J),hV T c n z v w'->∃s:ad,∃e:Int,v=.tuple #[s,e]/\hV T c n w (.tuple #[s,e]) w':=by
  rintro v w' ⟨au,c',m,s,aw,ay,d,i⟩;have r:=((dh.ext T c a).trans ay).mono (j:=2) I;rcases i with ⟨ks,rfl,k⟩|⟨rfl,k⟩
  .exact⟨s,0,rfl,au,c',m,s,aw,r,d,.inl ⟨ks,rfl,k⟩⟩
  .exact⟨s,3,rfl,au,c',m,s,aw,r,d,.inr ⟨rfl,k⟩⟩
 refine⟨_,rfl,λb=>⟨_,d0,K,d1,V,d2,D,d3,?_⟩,λb=>⟨_,d0,K,d1,V,d2,D,d3,?_⟩⟩
 .have b:((bE n:Nat):Int)>232:=cf b
  obtain⟨aw,ay,d,i⟩:=h2 I;refine(Iw (h.ext a) t u x (f.ext a) hs I y aw ay d i).use ?_;rintro v w' l;obtain⟨s,e,rfl,g⟩:=fin v w' l;exact⟨s,e,rfl,g⟩
 .have b:¬((bE n:Nat):Int)>232:=cC b
  refine(C1 (h.ext a) I I I (f.ext a) hs I).use ?_;rintro v w' l;obtain⟨s,e,rfl,g⟩:=fin v w' l;exact⟨s,e,rfl,g⟩
theorem C2{B:Nat->Prop}{w:J}{s:ad}{ls:O Key}(h:bI B w s ls)(p:ls.length<=100000):
 aI aj 266 #[s] w (λv w'=>∃b:ad,v=b/\bm (λq=>(B q/\q<w.heap.size)\/(w.heap.size<=q/\aB b q)) w' b ls/\Ext w w'/\gr w b):=by
 have r:=bI.len h;obtain⟨ts,aw,ay,t,u,l⟩:=h;refine okF (ae.uu s) ax.uu func266 ?_;delta ae.uu ak Y;refine⟨λd=>?_,λ_=>?_⟩
 .have d:s.a=none:=by simpa using d
  have h0:=ay.nil d;have:ls=[]:=wT (by rw[←aw];have:=congrArg List.length h0;simpa using this);subst this;exact⟨⟨none,0,0⟩,rfl,bm.none _ _,.refl _ _,λk e=>(fV k e).elim⟩
 .obtain⟨b,w',h1,h2,x,j,f,_⟩:=qP.clone (cD:=93) ay (vW ts) I
  refine aX ⟨b,w',h1,b,rfl,⟨ts,aw,h2,λq c=>⟨.inr ⟨f q c,c⟩,h2.lt q c⟩,λi m n=>?_⟩,j,f⟩;have a:=l i m n;exact⟨bw.a_ (bw.ext (bw.a_ (C:=λq=>B q/\q<w.heap.size) a λq c g=>⟨g,c⟩) j) λq _ g=>.inl g,λk e o=>by have:=f k o;have:=(a.2.2 k e).2;omega⟩
theorem lq.at{B:Nat->Prop}{w:J}{s:ad}{ks:O Key}{kids:O Nat}(h:lq B w s ks kids):s.len=kids.length/\kids.length=ks.length+1/\kids.length<=2/\∀ (j:Nat) (d:j<kids.length),∃ (A:ag) (t:ad),s.a=some A/\w.cell? (A.add (j*2))=some (.slice t.a t.len t.cap)/\w.cell? ((A.add (j*2)).add 1)=some (.int .i64 ((kids[j]:Nat):Int))/\
 ((t.a=none/\ks.take j=ks.take (j-1))\/(t.a.isSome=true/\∃k,bw B w t k/\ks.take j=ks.take (j-1)++ [k])):=by
 rcases h with ⟨b,x,rfl,rfl,rfl,c,e⟩|⟨b,x,y,k,t,rfl,rfl,rfl,c,e,ht,f⟩
 .refine⟨rfl,rfl,by simp,λj d=>?_⟩
  have:j=0:=by simp at d;omega
  subst this;exact⟨_,⟨none,0,0⟩,rfl,by rw[aA];exact c.cell,by rw[aA,aA];exact c.cell,.inl ⟨rfl,rfl⟩⟩
 .refine⟨rfl,rfl,by simp,λj d=>?_⟩
  rcases ei j 1 with h1|h1
  .have:j=0:=by omega
   subst this;exact⟨_,⟨none,0,0⟩,rfl,by rw[aA];exact c.cell,by rw[aA,aA];exact c.cell,.inl ⟨rfl,rfl⟩⟩
  .have:j=1:=by simp at d;omega
   subst this;obtain⟨A,ar⟩:=bw.some ht f;exact⟨_,t,rfl,by rw[aA];exact c.cell,by rw[aA,aA];exact c.cell,.inr ⟨by rw[ar];rfl,k,ht,rfl⟩⟩
theorem lq.ext{B:Nat->Prop}{w w':J}{s:ad}{ks:O Key}{kids:O Nat}(h:lq B w s ks kids)(hx:Ext w w'):lq B w' s ks kids:=by
 rcases h with ⟨b,x,h1,h2,a,c,d⟩|⟨b,x,y,k,t,h1,h2,a,c,d,ht,e⟩
 .exact .inl ⟨b,x,h1,h2,a,c.ext hx,d⟩
 .exact .inr ⟨b,x,y,k,t,h1,h2,a,c.ext hx,d,bw.ext ht hx,e⟩
theorem Ix{w:J}{nb o:Nat}{vs:O aa}{S t:ad}{ls:O Key}{l:Key}{B:Nat->Prop}{T:TypeId}(d:Var w nb vs T)(n:o<vs.length)(f:bm B w S ls)(g:¬B nb)
 (ht:bw B w t l) (hd:∀k,aB t k->¬aB S k) (E:ls.length<=100000) {K:J->Prop}
 (p:∀ (w':J) (aD:ad),Var w' nb (vs.set o aD) T->bm (Grow B w w') w' aD (ls++ [l])->af (λq=>q=nb\/aB S q) w w'->(∀k,aB aD k->aB S k\/w.heap.size<=k)->K w'):
 an (w.alloc (.cells #[t] 39)) λr=>∃i:ad,∃b:J,Sem.run aj (Builtin.append_ #[93,93] 93 #[S,.slice (some w.heap.size) 1 1]) r=.ok i b/\
  (∃u:aa,b.cell? (Addr.add nb o)=some u)/\b.frozen? (Addr.add nb o)=false/\an (b.setCell (Addr.add nb o) i) λs=>K s:=by
 have v:=bm.a_ (C:=λq=>B q\/w.heap.size<=q) f λk _ h=>.inl h;have x:=bw.a_ (C:=λq=>B q\/w.heap.size<=q) ht λk _ h=>.inl h;obtain⟨c,w',aw,ay,j,y⟩:=BS v x hd I λk a=>.inr a;have F:=d.lt;have z:¬aB S nb:=λh=>by
  obtain⟨ts,_,_,A,_⟩:=f;exact g (A nb h).1
 have m:=d.ah j z;obtain⟨aU,ba⟩:=eB m n;refine aX ⟨c,w',aw,?_⟩;rw[aA,cT];have hc:=dZ w' nb o c;refine⟨aU,ba,aX (p _ c (eA m _) ?_ ?_ y)⟩
 .have D:=bm.a_ (C:=Grow B w (w'.setCell ⟨nb,o,none⟩ c)) ay λk a h=>by
   rcases h with h|h
   .exact .inl h
   .exact .inr ⟨h,ff a hc.size⟩
  refine bm.ah D hc λk a e=>?_;subst e;rcases a with h|h
  .exact g h
  .omega
 .exact(j.mono λk _ a=>.inr a).trans (hc.mono λk _ a=>.inl a)
def wA(B:Nat->Prop)(n:aF)(fr to:Nat)(ks:O Key)(kids:O Nat)(w:J)(v:aa)(w':J):Prop:=
 ∃K V D:ad,v=dd (fR n fr to ks kids) K V D/\bU (λq=>B q\/w.heap.size<=q) w' (fR n fr to ks kids) K V D/\Ext w w'
structure q3(B:Nat->Prop)(lo:Nat)(nb aR a:Nat)(n:aF)(K V D:ad)(c:O aa)(w:J)(b aE:ad)(bF bx:Nat->Prop)(ks:O Key)(ds:O Nat):Prop where
 eT:Var w nb [n.leaf,K,V,D] 169
 r:Var w a c 169
 o:Var w aR [false,b,(),aE] 169
 k:bm bF w b ks
 d:cK bx w aE ds
 b2:∀q,bF q->(B q/\q<lo)\/(lo<=q/\q<w.heap.size/\q≠nb/\q≠aR/\q≠a/\¬bx q)
 aP:∀q,bx q->lo<=q/\q<w.heap.size/\q≠nb/\q≠aR/\q≠a
 mD:∀q,aB b q->lo<=q
theorem q3.ext{B:Nat->Prop}{lo nb aR b:Nat}{n:aF}{K V D:ad}{c:O aa}{w w':J}{e aE:ad}{bF bx:Nat->Prop}{ks:O Key}{ds:O Nat}(h:q3 B lo nb aR b n K V D c w e aE bF bx ks ds)(hx:Ext w w'):q3 B lo nb aR b n K V D c w' e aE bF bx ks ds:=by
 have f:=hx.size;exact⟨h.eT.ext hx,h.r.ext hx,h.o.ext hx,bm.ext h.k hx,cK.ext h.d hx,λq a=>(h.b2 q a).imp id λh=>⟨h.1,I,h.2.2⟩,λq a=>⟨(h.aP q a).1,by have:=(h.aP q a).2.1;omega,(h.aP q a).2.2⟩,h.mD⟩
theorem Iy{B:Nat->Prop}{w cV jm aY aZ:J}{nb aR x:Nat}{n:aF}{K V D s ee D0:ad}{an:O aa}{bF bx:Nat->Prop}{ks:O Key}{kids:O Nat}{fr to:Nat}(bt:q3 B w.heap.size nb aR x n K V D an cV ee D0 bF bx (n.keys.take fr) (n.kids.take fr))(bv:Ext w cV)
 (bz:bU B w n K V D) (a0:lq B w s ks kids) (bA:an.length=4) (h1:w.heap.size<=nb) (h2:w.heap.size<=aR) (H:w.heap.size<=x) (L:nb≠aR/\nb≠x/\aR≠x) (t1:1<=to) (t2:to<=n.kids.length) (t3:to-1<=n.keys.length) (b_:n.keys.length<=1000) (bu:n.kids.length<=1000) (aC:jm.heap.size=nb) (aI:aY.heap.size=aR) (C:aZ.heap.size=x):
 ae.xZ jm aY aZ s (to:Nat) cV (wA B n fr to ks kids w):=by
 obtain⟨bk,bf,b6,bB⟩:=a0.at;(delta ae.xZ jk ak aP r1 aG xG Y p9 st aq aT rZ;dsimp only);rw[aC,aI,C];refine⟨λi w'=>∃ (j:Nat) (z aE:ad) (bF bx:Nat->Prop),i=j/\j<=kids.length/\Ext w w'/\q3 B w.heap.size nb aR x n K V D an w' z aE bF bx (n.keys.take fr++ks.take (j-1)) (n.kids.take fr++kids.take j),λi _=>((kids.length:Int)-i).toNat,⟨0,ee,D0,bF,bx,rfl,cP _,bv,by simpa using bt⟩,?_⟩;rintro _ u ⟨j,z,aE,bF,bx,rfl,b7,y,h⟩;have b8:=y.size;refine⟨λaH=>?_,λaJ=>?_⟩
 .have aH:j<kids.length:=by
   have:(j:Int)<(s.len:Int):=cf aH;omega
  obtain⟨A,t,ar,aU,ba,aK⟩:=(a0.ext y).at.2.2.2 j aH;refine⟨A,ar,⟨I,I⟩,t,by rw[di];exact aU,_,by rw[di];exact ba,?_⟩;have aK:(t.a=none/\ks.take j=ks.take (j-1))\/(t.a.isSome=true/\∃k,bw (λq=>B q/\q<w.heap.size) u t k/\ks.take j=ks.take (j-1)++ [k]):=by
   obtain⟨ca,a1,a2,bC,_,bD⟩:=bB j aH;rw[ar]at a2;cases a2;have e:=af.cell y (λh=>h) bC;rw[aU]at e;injection e with e
   obtain rfl:t=a1:=by
    cases t;cases a1;simp at e;simp[e]
   rcases bD with h|⟨h1,k,h2,H⟩
   .exact .inl h
   .exact .inr ⟨h1,k,bw.ext (bw.a_ h2 λq c f=>⟨f,c⟩) y,H⟩
  refine a8 (vs:=[(),(0:Int)]) rfl λcb a3 bE cc=>?_;refine⟨a3.cj rfl ?_,rfl,cN a3 (us:=[t,.int .i64 ((kids[j]:Nat):Int)]) rfl rfl λaL T bG cd=>?_⟩
  .intro v a4
   simp only[cY,fo,fy]at a4;rcases a4 with rfl|rfl<;>trivial
  have ao:Ext u aL:=Ext.cu bE bG (bl _);have m:=h.ext ao;have ce:=ao.size;have a5:=y.trans ao;obtain⟨eY,bH⟩:∃eY,eY=u.heap.size:=⟨_,rfl⟩;rw[←bH]at T⊢;have cg:=T.lt;refine k6 (λU=>∃ (dD:ad) (ap:Nat->Prop),q3 B w.heap.size nb aR x n K V D an U dD aE ap bx (n.keys.take fr++ks.take j) (n.kids.take fr++kids.take j)/\Ext w U/\Var U eY [t,.int .i64 ((kids[j]:Nat):Int)] 325/\aL.heap.size<=U.heap.size) (λq c=>⟨t,T.cell,λf=>?_,λf=>?_⟩) ?_
  .rcases aK with ⟨au,_⟩|⟨_,k,ht,ab⟩
   .rw[au]at f;cases f
   obtain⟨ac,M,ag,N⟩:=bK (V:=⟨none,0,0⟩) m.o;have av:∀q,aB z q->bF q:=λq c=>by
    obtain⟨ts,_,_,H,_⟩:=m.k;exact(H q c).1
   refine⟨z,M,t,T.cell,Ix (B:=λq=>bF q\/(B q/\q<w.heap.size)) m.o (o:=1) (by simp) (bm.a_ m.k λq _ f=>.inl f) (λf=>?_) (bw.a_ (bw.ext ht ao) λq _ f=>.inr f) (λq c aM=>?_) ?_ λw' aD aw ay p bJ=>c _ ⟨aD,Grow (λq=>bF q\/(B q/\q<w.heap.size)) aL w',?_,?_,?_,p.size⟩⟩
   .rcases f with f|f
    .rcases m.b2 _ f with g|g
     .omega
     .exact g.2.2.2.1 rfl
    .omega
   .have:=(ht.2.2 q c).1.2
    have:=m.mD q aM;omega
   .rw[ct,cG,cG];omega
   .have bL:=p.size
    have E:∀q,aB z q->q<u.heap.size/\q≠nb/\q≠aR/\q≠x/\¬bx q:=λq c=>by
     have bM:=h.mD q c;rcases h.b2 q (av q c) with g|g
     .omega
     .exact g.2
    refine⟨m.eT.ah p λc=>?_,m.r.ah p λc=>?_,aw,?_,cK.ah m.d p λq f c=>?_,λq f=>?_,λq f=>⟨(m.aP q f).1,by have:=(m.aP q f).2.1;omega,(m.aP q f).2.2⟩,λq c=>?_⟩
    .rcases c with e|c
     .exact L.1 e
     .exact(E _ c).2.1 rfl
    .rcases c with e|c
     .exact L.2.2 e.symm
     .exact(E _ c).2.2.2.1 rfl
    .rw[ab,←cB];exact ay
    .rcases c with e|c
     .exact(m.aP q f).2.2.2.1 e
     .exact(E q c).2.2.2.2 f
    .rcases f with (f|f)|f
     .exact(m.b2 q f).imp id λg=>⟨g.1,I,g.2.2⟩
     .exact .inl f
     .refine .inr ⟨I,f.2,λe=>?_,λe=>?_,λe=>?_,λhd=>?_⟩
      .have:=m.eT.lt;omega
      .have:=m.o.lt;omega
      .have:=m.r.lt;omega
      .have:=(m.aP q hd).2.1;omega
    .rcases bJ q c with g|g
     .exact h.mD q g
     .omega
   .exact Ext.dX a5 p λq c=>by
     rcases c with rfl|c
     .exact h2
     .exact m.mD q c
   .refine T.ah p λc=>?_
    rcases c with e|c
    .have:=h.o.lt;omega
    .rcases h.b2 _ (av _ c) with g|g<;>omega
  .rcases aK with ⟨_,ab⟩|⟨au,_⟩
   .refine c _ ⟨z,bF,?_,a5,T,bl _⟩
    rw[ab];exact m
   .cases a6:t.a with
    |none=>rw[a6]at au;cases au
    |some A=>rw[a6]at f;cases f
  rintro U ⟨dD,ap,l,a7,a9,ch⟩;have ci:=a9.lt;obtain⟨ac,M,ag,N⟩:=bK (V:=⟨none,0,0⟩) l.o;have F:∀q,aB aE q->bx q:=λq c=>(l.d.2 q c).1;have bN:∀q,ap q->¬(q=aR\/aB aE q):=λq f c=>by
   rcases l.b2 q f with g|g
   .rcases c with e|c
    .omega
    .have:=(l.aP q (F q c)).1;omega
   .rcases c with e|c
    .exact g.2.2.2.1 e
    .exact g.2.2.2.2.2 (F q c)
  have bb:IntKind.wrap .i64 ((j:Int)+1)=((j+1:Nat):Int):=by rw[br I I];rfl
  refine⟨aE,N,_,by rw[aA];exact a9.cell,(B3 (W:=λ_=>True) kids[j] l.o (o:=3) (by simp) l.d (λf=>(l.aP _ f).2.2.2.1 rfl) (by rw[ct,cG,cG];omega) λw' aD aw ay p=>⟨⟨j+1,dD,aD,ap,Grow bx U w',bb,I,?_,?_⟩,?_⟩).2⟩
  .exact Ext.dX a7 p λq c=>by
    rcases c with rfl|c
    .exact h2
    .exact(l.aP q (F q c)).1
  .have bL:=p.size
   refine⟨l.eT.ah p λc=>?_,l.r.ah p λc=>?_,aw,?_,?_,λq f=>?_,λq f=>?_,l.mD⟩
   .rcases c with e|c
    .exact L.1 e
    .exact(l.aP _ (F _ c)).2.2.1 rfl
   .rcases c with e|c
    .exact L.2.2 e.symm
    .exact(l.aP _ (F _ c)).2.2.2.2 rfl
   .exact bm.ah l.k p bN
   .rw[j1 aH,←cB];exact ay
   .refine(l.b2 q f).imp id λg=>⟨g.1,I,g.2.2.1,g.2.2.2.1,g.2.2.2.2.1,λhd=>?_⟩
    rcases hd with hd|hd
    .exact g.2.2.2.2.2 hd
    .omega
   .rcases f with f|f
    .exact⟨(l.aP q f).1,by have:=(l.aP q f).2.1;omega,(l.aP q f).2.2⟩
    .refine⟨by have:=a7.size;omega,f.2,λe=>?_,λe=>?_,λe=>?_⟩
     .have:=l.eT.lt;omega
     .have:=l.o.lt;omega
     .have:=l.r.lt;omega
  .rw[bb]
   show((kids.length:Int)-((j+1:Nat):Int)).toNat<((kids.length:Int)-(j:Int)).toNat;omega
 .have aJ:j=kids.length:=by
   have:¬(j:Int)<(s.len:Int):=cC aJ;omega
  subst aJ;have bc:Ext u u.drew:=cA _;have h:=h.ext bc;have y:=y.trans bc;have ab:ks.take (kids.length-1)=ks:=dO I;rw[ab,j3]at h;obtain⟨ac,M,ag,N⟩:=bK (V:=⟨none,0,0⟩) h.o;obtain⟨kP,hW,eo,bd⟩:=bK h.eT;have be:bU (λq=>B q/\q<w.heap.size) w n K V D:=bz.a_ λq c f=>⟨f,c⟩;have aN:=be.ext y;have bg:=bI.len aN.keys;have bh:=cZ.len aN.kids;have bi:IntKind.wrap .i64 ((to:Int)-1)=((to-1:Nat):Int):=by rw[br I I];omega
  have av:∀q,aB z q->bF q:=λq c=>by
   obtain⟨ts,_,_,H,_⟩:=h.k;exact(H q c).1
  have F:∀q,aB aE q->bx q:=λq c=>(h.d.2 q c).1;have bj:=bI.sub aN.keys (lo:=to-1) (hi:=n.keys.length) t3 (bl _);have bO:(n.keys.drop (to-1)).take (n.keys.length-(to-1))=n.keys.drop (to-1):=dO (by rw[ed];exact bl _);rw[bO]at bj;obtain⟨P,aj,aC,aI,C⟩:=yM h.k bj (λq c aM=>by have:=h.mD q aM;omega) (by rw[ct,cG];omega) (by rw[ed];omega);have ck:u.drew.heap.size=u.heap.size:=rfl;have E:∀q,aB z q->q<u.drew.heap.size/\q≠nb/\q≠aR/\q≠x/\¬bx q:=λq c=>by
   have bM:=h.mD q c;rcases h.b2 q (av q c) with g|g
   .omega
   .exact g.2
  have cl:=C.size;have bP:Ext w aj:=Ext.dX y C λq c=>h.mD q c;have bn:=h.o.ah C λc=>(E _ c).2.2.1 rfl;have bQ:=h.eT.ah C λc=>(E _ c).2.1 rfl;have bR:=h.r.ah C λc=>(E _ c).2.2.2.1 rfl;have bS:cK bx aj aE _:=cK.ah h.d C λq f c=>(E q c).2.2.2.2 f;obtain⟨b9,cq⟩:=eB bn (i:=1) (by simp);refine aX ⟨id,z,M,id,K,hW,?_,P,aj,?_,by rw[aA];exact b9,by rw[aA];exact cq,?_⟩
  .rw[bi,bg];omega
  .rw[bi,di,bg];exact aC
  rw[aA,cT];have R:=dZ aj aR 1 P;have al:=eA bn (i:=1) P;obtain⟨G,bT⟩:∃G,G=aj.setCell ⟨aR,1,none⟩ P:=⟨_,rfl⟩;rw[←bT]at R al⊢;have cm:=R.size;have aO:=bQ.ah R (λe=>L.1 e);have aQ:=bR.ah R (λe=>L.2.2 e.symm);have aS:cK bx G aE _:=cK.ah bS R λq f e=>(h.aP q f).2.2.2.1 e;have am:Ext w G:=Ext.cu bP R h2;have X:Ext G G.drew:=cA _;have bo:∀q,(bF q\/(B q/\q<w.heap.size)\/u.drew.heap.size<=q)->q≠aR:=λq c e=>by
   subst e;rcases c with c|c|c
   .rcases h.b2 _ c with g|g
    .omega
    .exact g.2.2.2.1 rfl
   .omega
   .have:=h.o.lt;omega
  have bV:=bI.ext (bI.ah aI R bo) X;have al:=al.ext X;have aO:=aO.ext X;have aQ:=aQ.ext X;have aS:=cK.ext aS X;have am:=am.trans X;obtain⟨ac,M,ag,N⟩:=bK (V:=⟨none,0,0⟩) al;obtain⟨kP,hW,eo,bd⟩:=bK aO;have bp:=cZ.sub (be.ext am).kids (lo:=to) (hi:=n.kids.length) t2 (bl _);have bW:(n.kids.drop to).take (n.kids.length-to)=n.kids.drop to:=dO (by rw[ed];exact bl _);rw[bW]at bp;obtain⟨S,ax,f1,f2,f3⟩:=Cc aS bp (by rw[ct,cG];omega) (by rw[ed];omega);have cn:G.drew.heap.size=G.heap.size:=rfl;have co:=f3.size;have az:∀q,aB aE q->w.heap.size<=q/\q<u.drew.heap.size/\q≠nb/\q≠aR/\q≠x:=λq c=>h.aP q (F q c);have bX:Ext w ax:=Ext.dX am f3 λq c=>(az q c).1;have bq:=al.ah f3 λc=>(az _ c).2.2.2.1 rfl;have bY:=aQ.ah f3 λc=>(az _ c).2.2.2.2 rfl;have bZ:=bI.ah bV f3 λq f c=>by
   have cp:=az q c;rcases f with f|f|f
   .rcases h.b2 q f with g|g
    .omega
    .exact g.2.2.2.2.2 (F q c)
   .omega
   .omega
  obtain⟨b9,cq⟩:=eB bq (i:=3) (by simp);refine aX (aX ⟨id,aE,N,id,D,bd,?_,S,ax,?_,by rw[aA];exact b9,by rw[aA];exact cq,?_⟩)
  .rw[bh];omega
  .rw[di,bh];exact f1
  rw[aA,cT];have Z:=dZ ax aR 3 S;have bs:=eA bq (i:=3) S;obtain⟨aV,b0⟩:∃aV,aV=ax.setCell ⟨aR,3,none⟩ S:=⟨_,rfl⟩;rw[←b0]at Z bs⊢;have cr:=Z.size;have b1:=bY.ah Z (λe=>L.2.2 e.symm);have b3:Ext w aV:=Ext.cu bX Z h2;have b4:=bI.ah bZ Z bo;have b5:=cZ.ah f2 Z λq f e=>by
   subst e;rcases f with f|f|f
   .exact(h.aP _ f).2.2.2.1 rfl
   .omega
   .have:=h.o.lt;omega
  obtain⟨ac,M,ag,N⟩:=bK (V:=⟨none,0,0⟩) bs;refine aX ⟨_,ac,P,M,⟨none,0,0⟩,ag,S,N,?_⟩;refine iW false P ⟨none,0,0⟩ S b1 bA (Q:=λb K V D ai=>wA B n fr to ks kids w (.agg #[b,K,V,D]) ai) λcs aW=>?_;refine⟨P,⟨none,0,0⟩,S,rfl,⟨?_,?_,?_⟩,Ext.cu b3 aW H⟩
  .refine bI.a_ (bI.ah b4 aW λq f e=>?_) λq _ f=>?_
   .subst e
    rcases f with f|f|f
    .rcases h.b2 _ f with g|g
     .omega
     .exact g.2.2.2.2.1 rfl
    .omega
    .have:=h.r.lt;omega
   .rcases f with f|f|f
    .rcases h.b2 _ f with g|g
     .exact .inl g.1
     .exact .inr g.1
    .exact .inl f.1
    .have:=y.size;exact .inr I
  .exact bI.none _ _
  .refine cZ.a_ (cZ.ah b5 aW λq f e=>?_) λq _ f=>?_
   .subst e
    rcases f with f|f|f
    .exact(h.aP _ f).2.2.2.2 rfl
    .omega
    .have:=h.r.lt;omega
   .rcases f with f|f|f
    .exact .inr (h.aP _ f).1
    .exact .inl f.1
    .have:=am.size;exact .inr I
theorem y9(K D:ad)(w:J):Sem.run aj (Instr.build 169 #[(1,K),(3,D)]) w=.ok (.agg #[false,K,(),D]) w:=by kernel_rfl
theorem qA{B:Nat->Prop}{w:J}{n:aF}{K V D s:ad}{ks:O Key}{kids:O Nat}{fr to:Nat}(Q:bU B w n K V D)(am:lq B w s ks kids)(f1:fr<=n.keys.length)(f2:fr<=n.kids.length)(t1:1<=to)(t2:to<=n.kids.length)(t3:to-1<=n.keys.length)(b_:n.keys.length<=1000)(bu:n.kids.length<=1000):
 aI aj 233 #[dd n K V D,fr,to,s] w (wA B n fr to ks kids w):=by
 refine okF (ae.qA n.leaf K V D (fr:Nat) (to:Nat) s) ax.qA func233 ?_;(delta ae.qA z4 Y r1 bG jk ak aP aG xG p9 st aq aT rZ;dsimp only);refine a8 (vs:=[n.leaf,K,V,D]) rfl λw1 an ao aD=>?_;refine a8 (vs:=[false,(),(),()]) rfl λai ap R aE=>aX ?_;have E:Ext ai ai.drew:=cA _;have H:=(ao.trans R).trans E;obtain⟨d,S⟩:∃d,d=ai.drew:=⟨_,rfl⟩;have aJ:d.heap.size=ai.heap.size:=by rw[S];rfl
 rw[←S]at H E⊢;have T:=(an.ext R).ext E;have ar:=ap.ext E;obtain⟨bV,aU,ba,bh⟩:=bK T;have t:bU (λq=>B q/\q<w.heap.size) d n K V D:=(Q.a_ λq a c=>⟨c,a⟩).ext H;have aK:=bI.len t.keys;have aL:=cZ.len t.kids;have aM:=bI.le t.keys;have aN:=t.kids.2.1;have L:=bI.sub t.keys (lo:=0) (hi:=fr) (cP _) f1;have F:=cZ.sub t.kids (lo:=0) (hi:=fr) (cP _) f2;rw[iK,mR]at L F;have U:Int.toNat (fr:Int)-0=fr:=by rw[di];rfl
 have fin:∀ (cV M:J) (aR:Nat) (ee D0:ad),M.heap.size=aR->Ext d cV->Var cV aR [false,ee,(),D0] 169->d.heap.size<=aR->bm (λq=>(B q/\q<w.heap.size)\/(d.heap.size<=q/\aB ee q)) cV ee (n.keys.take fr)->aV 1 3 cV D0 (fS (n.kids.take fr))->
  (∀q,aB ee q->d.heap.size<=q/\q≠aR)->(∀q,aB D0 q->d.heap.size<=q/\q≠aR/\¬aB ee q)->ae.xZ w M w1 s (to:Nat) cV (wA B n fr to ks kids w):=by
  intro cV M aR ee D0 au hx av aO W N X Z;have aQ:=hx.size;have aH:∀q,aB ee q->q<cV.heap.size:=λq a=>by
   obtain⟨ts,_,o,_,_⟩:=W;exact o.lt q a
  refine Iy (bF:=λq=>(B q/\q<w.heap.size)\/aB ee q) (bx:=λq=>aB D0 q) ⟨T.ext hx,ar.ext hx,av,bm.a_ W λq _ c=>c.imp id λh=>h.2,⟨N,λq a=>⟨a,aV.lt N q a⟩⟩,λq c=>?_,λq c=>?_,λq a=>by have:=(X q a).1;omega⟩ (H.trans hx) Q am rfl (bl _) I I ⟨I,I,I⟩ t1 t2 t3 b_ bu rfl au rfl
  .rcases c with c|c
   .exact .inl c
   .have x:=X q c
    exact .inr ⟨I,aH q c,I,x.2,I,λaw=>(Z q aw).2.2 c⟩
  .have x:=Z q c
   exact⟨I,aV.lt N q c,I,x.2.1,I⟩
 refine⟨λ_=>False,id,K,aU,⟨I,I⟩,id,D,bh,⟨I,I⟩,?_,?_⟩
 .rw[U]
  refine(C2 L (by rw[cG];omega)).use ?_;rintro _ u ⟨ee,rfl,p,f,y⟩;have ay:=f.size;refine⟨ee,rfl,f,?_,?_⟩
  .refine(sH (F.1.ext f) (by rw[cG];omega)).use ?_
   rintro _ aa ⟨D0,rfl,v,G,ab⟩;have aS:=G.size;refine⟨D0,rfl,G,_,y9 ee D0,a8 (vs:=[false,(),(),()]) rfl λaW ac af aY=>⟨af,ac.cj rfl (fI (b:=false) (K:=ee) (V:=⟨none,0,0⟩) (D:=D0)),rfl,cN ac (us:=[false,ee,(),D0]) rfl rfl λg z j ag=>?_⟩⟩;have k:Ext aa g:=Ext.cu af j (bl _);have r:∀q,aB ee q->q<u.heap.size:=λq a=>by
    obtain⟨ts,_,o,_,_⟩:=p;exact o.lt q a
   exact fin g aa _ ee D0 rfl (f.trans (G.trans k)) z I (bm.a_ (bm.ext p (G.trans k)) λq _ c=>c.imp (λh=>h.1) id) (v.ext k) (λq a=>⟨y q a,by have:=r q a;omega⟩) λq a=>⟨by have:=ab q a;omega,by have:=aV.lt v q a;omega,λh=>by have:=r q h;have:=ab q a;omega⟩
  .refine a8 (vs:=[false,(),(),()]) rfl λal P l az=>⟨l,(sH ((F.1.ext f).ext l) (by rw[cG];omega)).use ?_⟩
   rintro _ aA ⟨D0,rfl,v,m,i⟩;have A:=P.ext m;refine⟨D0,rfl,m,_,y9 ee D0,A.cj rfl (fI (b:=false) (K:=ee) (V:=⟨none,0,0⟩) (D:=D0)),rfl,cN A (us:=[false,ee,(),D0]) rfl rfl λg z j ag=>?_⟩;have k:Ext u g:=Ext.cu (l.trans m) j (bl _);have r:∀q,aB ee q->q<u.heap.size:=λq a=>by
    obtain⟨ts,_,o,_,_⟩:=p;exact o.lt q a
   exact fin g u _ ee D0 rfl (f.trans k) z I (bm.a_ (bm.ext p k) λq _ c=>c.imp (λh=>h.1) id) (v.ah j λq a e=>by have:=i q a;omega) (λq a=>⟨y q a,by have:=r q a;omega⟩) λq a=>⟨by have:=i q a;omega,by have:=i q a;omega,λh=>by have:=r q h;have:=i q a;omega⟩
 .rw[U]
  refine a8 (vs:=[false,(),(),()]) rfl λal P l az=>⟨l,(C2 (bI.ext L l) (by rw[cG];omega)).use ?_⟩;rintro _ u ⟨ee,rfl,p,f,y⟩;have ay:=f.size;refine⟨ee,rfl,f,(sH ((F.1.ext l).ext f) (by rw[cG];omega)).use ?_⟩;rintro _ aA ⟨D0,rfl,v,m,i⟩;have A:=(P.ext f).ext m;refine⟨D0,rfl,m,_,y9 ee D0,A.cj rfl (fI (b:=false) (K:=ee) (V:=⟨none,0,0⟩) (D:=D0)),rfl,cN A (us:=[false,ee,(),D0]) rfl rfl λg z j ag=>?_⟩;have k:Ext d g:=Ext.cu ((l.trans f).trans m) j (bl _);have r:∀q,aB ee q->q<u.heap.size:=λq a=>by
   obtain⟨ts,_,o,_,_⟩:=p;exact o.lt q a
  have aC:bm (λq=>(B q/\q<w.heap.size)\/(d.heap.size<=q/\aB ee q)) g ee (n.keys.take fr):=by
   have x:=bm.a_ (C:=λq=>(B q/\q<w.heap.size)\/(al.heap.size<=q/\aB ee q)) (bm.ext p m) λq _ c=>c.imp (λh=>h.1) id;exact bm.a_ (bm.ah x j λq c e=>by rcases c with c|c<;>omega) λq _ c=>c.imp id λh=>⟨I,h.2⟩
  exact fin g d _ ee D0 rfl k z (bl _) aC (v.ah j λq a e=>by have:=i q a;omega) (λq a=>⟨by have:=y q a;omega,by have:=y q a;omega⟩) λq a=>⟨by have:=i q a;omega,by have:=i q a;omega,λh=>by have:=r q h;have:=i q a;omega⟩
def lX(n:aF):Prop:=cE n/\bE n<=400/\(232<bE n->1<=cr n/\(if n.leaf then cr n<=n.keys.length-1/\1<=n.keys.length-1 else cr n<=n.keys.length-2/\1<=n.keys.length-2)/\bE (n.left (cr n))<=232/\bE (n.right (cr n))<=232)
structure lY(B:Nat->Prop)(w:J)(A:ag)(u:dx):Prop where
 aU:w.cell? (A.add 1)=some (.bool u.n.leaf)
 ba:w.cell? ((A.add 1).add 1)=some (.slice u.K.a u.K.len u.K.cap)
 bh:w.cell? ((A.add 1).add 2)=some (.slice u.V.a u.V.len u.V.cap)
 fH:w.cell? ((A.add 1).add 3)=some (.slice u.D.a u.D.len u.D.cap)
 iX:w.cell? (A.add 5)=some (.int .i64 (u.cR:Nat))
 cg:bU B w u.n u.K u.V u.D
 bO:B A.block
 lt:A.block<w.heap.size
theorem lY.ext{B:Nat->Prop}{w w':J}{A:ag}{u:dx}(h:lY B w A u)(hx:Ext w w'):lY B w' A u:=
 ⟨af.cell hx (λh=>h) h.aU,af.cell hx (λh=>h) h.ba,af.cell hx (λh=>h) h.bh,af.cell hx (λh=>h) h.fH,af.cell hx (λh=>h) h.iX,h.cg.ext hx,h.bO,ff h.lt hx.size⟩
theorem lY.to{w w':J}{T au:aK}{k:Nat}{A:ag}{u:dx}(h:lY (λq=>¬T.M q) w A u)(ht:bS T au w w' k):lY (λq=>¬au.M q) w' A u:=by
 have hc:=ht.ah;have a:¬T.N A.block:=λc=>h.bO (aK.gF c);refine⟨af.cell hc (A:=A.add 1) a h.aU,af.cell hc (A:=(A.add 1).add 1) a h.ba,af.cell hc (A:=(A.add 1).add 2) a h.bh,af.cell hc (A:=(A.add 1).add 3) a h.fH,af.cell hc (A:=A.add 5) a h.iX,?_,λd=>?_,ff h.lt hc.size⟩
 .have h1:=ht.cg (lo:=0) (h.cg.a_ λq _ b=>⟨cP _,b⟩)
  exact h1.a_ λq _ b=>b.2
 .rcases ht.c1 _ d with h1|h1
  .exact h.bO h1
  .have:=h.lt;omega
theorem hV.base{T:aK}{c:dz}{n:aF}{w0 w w':J}{v:aa}(h:hV T c n w v w')(hx:Ext w0 w):hV T c n w0 v w':=by
 obtain⟨au,c',m,s,aw,ay,a,b⟩:=h;exact⟨au,c',m,s,aw,((dh.ext T c hx).trans ay).mono I,a,b⟩
theorem hV.out{T:aK}{c:dz}{n:aF}{w w':J}{v:aa}(h:hV T c n w v w'):∃ (s:ad) (e:Int),v=.tuple #[s,e]:=by
 obtain⟨au,c',m,s,aw,ay,b,a⟩:=h;rcases a with ⟨ks,rfl,_⟩|⟨rfl,_⟩
 .exact⟨s,0,rfl⟩
 .exact⟨s,3,rfl⟩
theorem Iz{W X:Nat->Prop}{w0 cV ar iL au jQ:J}{T:aK}{c:dz}{nb aR g bv:Nat}{A:ag}{u:dx}{n o:aF}{K V D i j k:ad}{fr other:Nat}{Q:aa->J->Prop}(h:dg w0 T c)(hx:Ext w0 cV)(av:Var w0 nb (dY n K V D) 169)(aw:Var w0 aR (dY o i j k) 169)
 (ax:Var cV g (dY o i j k) 169) (ay:Var cV bv (dY n K V D) 169) (h1:w0.heap.size<=g) (h2:w0.heap.size<=bv) (az:g≠bv) (aA:bU W w0 n K V D) (aB:bU X w0 o i j k) (hu:lY (λq=>¬T.M q) w0 A u)
 (aC:T.C.D.a7<=900000090) (aD:2<=cl T) (aE:c.made.length<=900) (Z:cE n) (ab:cE o) (bL:bE n<=400) (bM:bE o<=400) (aH:o.leaf=n.leaf) (bb:fr<u.n.keys.length) (aI:cz u.n.keys[fr]) (m:aF) (aJ:m=if u.cR<other then dF n u.n.keys[fr] o else dF o u.n.keys[fr] n) (l:lX m) (bN:fr<=1000)
 (aL:∀ (s:ad) (e:Int) (w':J),hV T c m w0 (.tuple #[s,e]) w'->Q (.tuple #[s,fr,.int .i64 ((fr+2:Nat):Int),e]) w') (bc:ar.heap.size=nb) (bd:iL.heap.size=aR) (be:au.heap.size=g) (bf:jQ.heap.size=bv):
 ae.x0 ar iL au jQ (some c.cb) (some A) (fr:Nat) (other:Nat) cV Q:=by
 have bO:=av.lt;have bP:=aw.lt;have bQ:=hx.size;have fn:=Z.eK I;have bR:=ab.eK I;(delta ae.x0 bY aG ak Y aT r1 ov aP lJ z4 qa ey aq;dsimp only);rw[bc,bd,be,bf];refine k6 (λp=>∃ (a b:aF) (G H L N O P:ad) (aM aN:Nat->Prop),Ext w0 p/\Var p g (dY a G H L) 169/\Var p bv (dY b N O P) 169/\bU aM w0 a G H L/\bU aN w0 b N O P/\m=dF a u.n.keys[fr] b/\cE a/\cE b/\a.leaf=b.leaf/\a.keys.length<=200/\b.keys.length<=200)
  (λq r=>⟨A,rfl,_,(hu.ext hx).iX,λd=>?_,λd=>r _ ⟨o,n,i,j,k,K,V,D,X,W,hx,ax,ay,aB,aA,?_,ab,Z,aH,I,I⟩⟩) ?_
 .have d:u.cR<other:=by
   have:(other:Int)>(u.cR:Int):=cf d;omega
  have f:=hx.trans (cA cV);obtain⟨bg,b_,bu,bh⟩:=bK (av.ext f);obtain⟨bi,bj,bk,bm⟩:=bK (aw.ext f);have aO:=ax.drew;have bn:=ay.drew;refine aX ⟨λq=>q=g,(show nb≠g from I),_,bg,K,b_,V,bu,D,bh,(show aR≠g from I),_,bi,i,bj,j,bk,k,bm,aO.cj rfl fI,rfl,cN aO (us:=dY n K V D) rfl rfl λbS bo ac bT=>?_⟩;have aQ:=bn.ah ac (λe=>az e.symm);refine⟨ac,aQ.cj rfl fI,rfl,cN aQ (us:=dY o i j k) rfl rfl λbV bp aS bW=>?_⟩;exact r _ ⟨n,o,K,V,D,i,j,k,W,X,Ext.cu (Ext.cu f ac h1) aS h2,bo.ah aS az,bp,aA,aB,by rw[aJ,if_pos d],Z,ab,aH.symm,I,I⟩
 .have d:¬u.cR<other:=by
   have:¬(other:Int)>(u.cR:Int):=cC d;omega
  rw[aJ,if_neg d]
 rintro p ⟨a,b,G,H,L,N,O,P,aM,aN,bq,bs,d,aU,aV,af,aW,sb,aY,la,lb⟩;have f:=bq.trans (cA p);have bt:=bs.drew;have bw:=d.drew;obtain⟨a0,a1,a2,a3⟩:=bK bt;obtain⟨bx,cy,b4,bz⟩:=bK bw;have aZ:=hu.ext f;obtain⟨bA,tk,bB,bC,bD,R,bX⟩:=bI.at aZ.cg.keys bb;have a4:cE (dF a u.n.keys[fr] b):=by rw[←af];exact l.1
 have B:=oP (aU.ext f) (aV.ext f) R.1 (λq r=>(R.2.2 q r).2) (by have:=aI.2;omega) aW sb aY a4 I I;rw[←af]at B;have a5:IntKind.wrap .i64 ((fr:Int)+2)=((fr+2:Nat):Int):=by rw[br I I];rfl
 obtain⟨wd,bZ⟩:∃wd,wd=p.drew:=⟨_,rfl⟩;refine aX ⟨λ_=>False,id,_,a0,G,a1,H,a2,L,a3,A,rfl,id,u.K,aZ.ba,bA,bB,bC,id,tk,bD,id,_,bx,N,cy,O,b4,P,bz,?_,?_⟩
 .refine B.use ?_
  rintro _ bF ⟨t,w,x,rfl,ai,y⟩;refine⟨_,t,w,x,true,rfl,y,a8 (vs:=[false,(),(),()]) rfl λb0 a6 a9 b1=>⟨a9,a6.cj rfl fI,rfl,cN a6 (us:=dY m t w x) rfl rfl λaj al S bG=>⟨λd=>(by cases d),λ_=>?_⟩⟩⟩;have U:Ext bF aj:=Ext.cu a9 S (bl _);have E:=(f.trans y).trans U;obtain⟨am,an,ao,ap⟩:=bK al;refine⟨_,am,t,an,w,ao,x,ap,(wz (h.ext E) aC aD aE (ai.ext U) l.1 l.2.1 l.2.2).use ?_⟩;intro v w' F;obtain⟨s,e,rfl⟩:=F.out;rw[a5];exact⟨s,e,rfl,aL s e w' (F.base E)⟩
 .refine a8 (vs:=[false,(),(),()]) rfl λb2 bH z b3=>⟨z,?_⟩
  have B:=oP ((aU.ext f).ext z) ((aV.ext f).ext z) (R.1.ext z) (λq r=>ff (R.2.2 q r).2 z.size) (by have:=aI.2;omega) aW sb aY a4 I I;rw[←af]at B;refine B.use ?_;rintro _ b5 ⟨t,w,x,rfl,ai,y⟩;have a_:=bH.ext y;refine⟨_,t,w,x,true,rfl,y,a_.cj rfl fI,rfl,cN a_ (us:=dY m t w x) rfl rfl λaj al S bG=>⟨λd=>(by cases d),λ_=>?_⟩⟩;have U:Ext p.drew aj:=Ext.cu (z.trans y) S (bl _);have E:=f.trans U;have bJ:=bU.ah ai S λq r e=>by omega
  obtain⟨am,an,ao,ap⟩:=bK al;refine⟨_,am,t,an,w,ao,x,ap,(wz (h.ext E) aC aD aE bJ l.1 l.2.1 l.2.2).use ?_⟩;intro v w' F;obtain⟨s,e,rfl⟩:=F.out;rw[a5];exact⟨s,e,rfl,aL s e w' (F.base E)⟩
theorem dh.leave{T:aK}{c c':dz}{E G:Nat->Prop}{w w':J}{no:Nat}(h:bS T (T.cv E G) w w' 0)(a:E=T.E)(b:∀q,T.G q->G q)(h1:c'.cb=c.cb)(h2:c'.made=c.made)(d:c'.left=c.left++ [no]):dh T (T.cv E G) c c' [] [no] w w' 0:=
 ⟨h,a,b,rfl,rfl,h1,by rw[h2,fx],d,List.nodup_nil,λ_ h=>(by cases h),λno=>by simp[aK.cv],λ_ _=>⟨rfl,rfl⟩,by simp[cl,aK.cv]⟩
theorem IA{w F iL:J}{T:aK}{c:dz}{nb aR:Nat}{A:ag}{u:dx}{n o:aF}{K V D g i j:ad}{fr other no:Nat}{Q:aa->J->Prop}(h:dg w T c)(aC:Var w nb (dY n K V D) 169)(aD:Var w aR (dY o g i j) 169)
 (aE:¬T.M nb) (aH:¬T.M aR) (aI:bU (λq=>¬T.M q) w n K V D) (aJ:bU (λq=>¬T.M q) w o g i j) (hu:lY (λq=>¬T.M q) w A u)
 (aL:T.C.D.a7<=900000090) (aM:2<=cl T) (aN:c.made.length<=900) (bA:c.left.length<=900) (aO:cE n) (aQ:cE o) (aS:bE n<=400) (aV:bE o<=400) (aW:o.leaf=n.leaf) (aY:fr<u.n.keys.length) (aZ:cz u.n.keys[fr]) (m:aF) (H:m=if u.cR<other then dF n u.n.keys[fr] o else dF o u.n.keys[fr] n) (a0:lX m) (a1:fr<=1000)
 (a2:∀ (s:ad) (e:Int) (bP:aK) (aU:dz) (w1 w':J),dh T bP c aU [] [no] w w1 0->hV bP aU m w1 (.tuple #[s,e]) w'->Q (.tuple #[s,fr,.int .i64 ((fr+2:Nat):Int),e]) w') (x:F.heap.size=nb) (y:iL.heap.size=aR):
 ae.x1 F iL (some c.cb) (some A) (fr:Nat) (other:Nat) (no:Nat) 0 w Q:=by
 (delta ae.x1 qc ak r1 Y st aT z4 r2 bY aG ov aP lJ qa ey aq;dsimp only);rw[x,y];refine⟨λL=>(by cases L),λ_=>⟨_,rfl,_,h.cells.2.2,?_⟩⟩;obtain⟨k,ao,aw,ay,a3,a4,a5⟩:=CW h no I;refine aX ⟨k,ao,aw,_,rfl,by rw[aA];exact a3,by rw[aA];exact a4,aX ?_⟩;rw[aA];obtain⟨b,ap⟩:∃b,b=ao.setCell ⟨c.cb,0+2,none⟩ k:=⟨_,rfl⟩;rw[←ap];obtain⟨ar,au⟩:=a5 b ap;have av:=dh.leave (c:=c) (c':={c with gv:=k,left:=c.left++ [no]}) (no:=no) au rfl (λq O=>.inl O) rfl rfl rfl;obtain⟨bP,z⟩:∃bP,bP=T.cv T.E λq=>T.G q\/aB k q:=⟨_,rfl⟩;obtain⟨aU,P⟩:∃aU:dz,aU={c with gv:=k,left:=c.left++ [no]}:=⟨_,rfl⟩;have a6:aU.cb=c.cb:=by rw[P]
 have a9:aU.made=c.made:=by rw[P]
 have a_:bP.C.D.a7<=900000090:=by rw[z];exact aL
 have ba:2<=cl bP:=by rw[z];exact aM
 rw[←z,←P]at ar av;rw[←z]at au;have R:Ext b b.drew:=cA _;have ax:=ar.ext R;have S:dh T bP c aU [] [no] w b.drew 0:=av.trans (dh.ext bP aU R);obtain⟨a,bb⟩:∃a,a=b.drew:=⟨_,rfl⟩;rw[←bb]at R ax S⊢;have B:=S.to;have U:∀q,¬T.M q->¬T.N q:=λq h1 h2=>h1 (aK.gF h2);have W:=aC.ah B.ah (U _ aE);have X:=aD.ah B.ah (U _ aH);have az:∀ {m:aF}{K V D:ad},bU (λq=>¬T.M q) w m K V D->bU (λq=>¬T.M q) a m K V D:=λH=>bU.ah H B.ah λq O=>U q O;have bc:=az aI;have bd:=az aJ;have be:=hu.to B;obtain⟨bf,b_,bu,bg⟩:=bK W;obtain⟨bh,bi,bj,bk⟩:=bK X;have bB:=W.lt;have bC:=X.lt;have fin:∀ (cV Z jQ:J) (l bv:Nat),Z.heap.size=l->jQ.heap.size=bv->Ext a cV->Var cV l (dY o g i j) 169->Var cV bv (dY n K V D) 169->a.heap.size<=l->a.heap.size<=bv->l≠bv->ae.x0 F iL Z jQ (some c.cb) (some A) (fr:Nat) (other:Nat) cV Q:=by
  intro cV Z jQ l bv bm bn hx bo L h1 h2 bp;have:=Iz ax hx W X bo L h1 h2 bp bc bd be a_ ba (by rw[a9];exact aN) aO aQ aS aV aW aY aZ m H a0 a1 (Q:=Q) (λs e w' hf=>a2 s e bP aU a w' S hf) x y bm bn;rw[a6]at this;exact this
 refine aX ⟨λq=>a.heap.size<=q,(show¬a.heap.size<=aR from I),_,bh,g,bi,i,bj,j,bk,(show¬a.heap.size<=nb from I),_,bf,K,b_,V,bu,D,bg,?_,?_⟩
 .refine a8 (vs:=[false,(),(),()]) rfl λab bq p br=>⟨af.cW p,a8 (vs:=[false,(),(),()]) rfl λbs ac d bt=>?_⟩
  have r:=bq.ext d;refine⟨af.cW d,r.cj rfl fI,rfl,cN r (us:=dY o g i j) rfl rfl λai aj f bw=>?_⟩;have t:=ac.ah f I;have al:Ext a ai:=Ext.cu (p.trans d) f (bl _);refine⟨f.mono λq _ e=>I,t.cj rfl fI,rfl,cN t (us:=dY n K V D) rfl rfl λam an v bx=>?_⟩;rw[←x,←y];exact fin am a ab _ _ rfl rfl (Ext.cu al v I) (aj.ah v I) an (bl _) I I
 .refine a8 (vs:=[false,(),(),()]) rfl λab bz p br=>⟨af.cW p,a8 (vs:=[false,(),(),()]) rfl λbs r d bt=>?_⟩
  have ac:=bz.ext d;refine⟨af.cW d,r.cj rfl fI,rfl,cN r (us:=dY o g i j) rfl rfl λai aj f bw=>?_⟩;have t:=ac.ah f I;have al:Ext a ai:=Ext.cu (p.trans d) f I;refine⟨f.mono λq _ e=>I,t.cj rfl fI,rfl,cN t (us:=dY n K V D) rfl rfl λam an v bx=>?_⟩;rw[←x,←y];exact fin am ab a _ _ rfl rfl (Ext.cu al v (bl _)) (aj.ah v I) an I (bl _) I
theorem bS.read{w w':J}{T:aK}{E:Nat->Prop}{aJ:b3}{P:Nat->av aF}{k:Nat}(h:bS (T.cv E λ_=>False) ((T.cv E λ_=>False).bC aJ P) w w' k)(e:∀q,T.E q\/T.G q->E q)(f:∀q,E q->T.E q\/T.G q\/w.heap.size<=q):bS T (T.bC aJ P) w w' k:=by
 refine⟨h.bj,h.sb,h.n,h.g,h.s1,h.s2,h.c,h.d,h.b5,h.gen,h.a7,h.calm,h.ah.mono λq _ a=>?_,λq a=>?_,λq a=>?_⟩
 .rcases a with a|a|a|a
  .exact .inl a
  .exact .inr (.inl a)
  .exact .inr (.inr (.inl a))
  .exact a.elim
 .have h1:((T.cv E λ_=>False).bC aJ P).M q:=by
   rcases a with a|a|a|a
   .exact .inl a
   .exact .inr (.inl a)
   .exact .inr (.inr (.inl a))
   .exact .inr (.inr (.inr (.inl (e q a))))
  rcases h.c1 q h1 with h2|h2
  .rcases h2 with a|a|a|a|a
   .exact .inl (.inl a)
   .exact .inl (.inr (.inl a))
   .exact .inl (.inr (.inr (.inl a)))
   .rcases f q a with b|b|b
    .exact .inl (.inr (.inr (.inr (.inl b))))
    .exact .inl (.inr (.inr (.inr (.inr b))))
    .exact .inr b
   .exact a.elim
  .exact .inr h2
 .rcases a with a|a|a|a
  .rcases h.fn q (.inl a) with h2|h2
   .rcases h2 with h2|h2|h2|h2
    .exact .inl (.inl h2)
    .exact .inl (.inr (.inl h2))
    .exact .inl (.inr (.inr (.inl h2)))
    .exact h2.elim
   .exact .inr h2
  .exact .inl (.inr (.inl a))
  .exact .inl (.inr (.inr (.inl a)))
  .exact .inl (.inr (.inr (.inr a)))
theorem dh.cache{T:aK}{c:dz}{aJ:b3}{w w':J}{k:Nat}(h:bS T (T.bC aJ T.P) w w' k)(a:∀j,aJ.view j=T.C.view j):dh T (T.bC aJ T.P) c c [] [] w w' k:=
 ⟨h,rfl,λ_ h=>h,rfl,rfl,rfl,by simp,by simp,List.nodup_nil,λ_ h=>(by cases h),λno=>by simp[aK.bC],λno _=>⟨rfl,a no⟩,by simp[cl,aK.bC]⟩
theorem C3{w w1:J}{T:aK}{c:dz}{Z:Nat->Prop}{no:Nat}{o:aF}(h:dg w T c)(hx:Ext w w1)(g:∀q,Z q->w.heap.size<=q/\q<w1.heap.size)(y:T.C.D.a7<=999999999)(z:T.P no=some o):
 aI aj 175 #[.pointer (some T.bj),no,o.leaf] w1 (λv w'=>∃aJ:b3,(∀j,aJ.view j=T.C.view j)/\af (λq=>T.N q/\¬T.G q) w1 w'/\(∀q,(T.bC aJ T.P).M q->T.M q\/w1.heap.size<=q)/\
  (∀f,af Z w' f->dg f (T.bC aJ T.P) c/\dh T (T.bC aJ T.P) c c [] [] w f 2)/\
  ((∃ (K V D:ad),v=.tuple #[dd o K V D,(0:Int)]/\bU (λq=>w1.heap.size<=q/\¬(T.bC aJ T.P).M q) w' o K V D)\/(v=.tuple #[dd iV bJ bJ bJ,(3:Int)]/\¬T.C.D.calm 2))):=by
 obtain⟨A,i⟩:=h.t.eT no o z;obtain⟨bN,k⟩:∃bN,bN=λq=>T.E q\/T.G q\/Z q:=⟨_,rfl⟩;have d:∀q,T.E q\/T.G q\/Z q->bN q:=λq a=>by rw[k];exact a
 have l:∀q,bN q->T.E q\/T.G q\/Z q:=λq a=>by rw[k]at a;exact a
 have m:b7 w1 (T.cv bN λ_=>False):=h.t.grow (W:=λ_=>False) hx (λ_ h=>h.elim) (λq a=>(l q a).imp id (Or.imp id (g q))) (λ_ h=>h.elim) λ_ _ h=>h;have n:∀q,(T.cv bN λ_=>False).N q->T.N q/\¬T.G q:=λq a=>⟨by
  rcases a with a|a|a|a
  .exact .inl a
  .exact .inr (.inl a)
  .exact .inr (.inr (.inl a))
  .exact a.elim,λhg=>m.kL (d q (.inr (.inl hg))) a⟩
 refine(y7 m y A i.two o.leaf).mono ?_;rintro v w' ⟨aJ,B,ht,r,F⟩;have Q:=hx.size;have R:=ht.ah.size;have s:=(bS.ext (T.cv bN λ_=>False) hx).trans ht;rw[cT]at s;have H:bS T (T.bC aJ T.P) w w' 2:=bS.read (E:=bN) s (λq a=>d q (a.imp id .inl)) λq a=>(l q a).imp id (Or.imp id λh=>(g q h).1);have u:af (λq=>T.N q/\¬T.G q) w1 w':=ht.ah.mono λq _ a=>n q a;refine⟨aJ,r,u,λq a=>?_,λf hc=>?_,?_⟩
 .rcases a with a|a
  .exact(ht.fn q (.inl a)).imp (λh=>aK.gF (n q h).1) id
  .exact .inl (.inr a)
 .have I:b7 f (T.bC aJ T.P):=B.grow (E:=T.E) (G:=T.G) hc (λq a _=>.inl (d q (.inr (.inr a)))) (λq a=>.inl (d q (.inl a))) (λq a=>.inl (d q (.inr (.inl a)))) λq a=>(h.t.dU q a).2.2
  refine⟨(h.ext hx).of (W:=λq=>(T.N q/\¬T.G q)\/Z q) I ((u.mono λq _ a=>.inl a).trans (hc.mono λq _ a=>.inr a)) (λq hg a=>?_) rfl (λ_ h=>h) ht.b6.1,dh.cache ?_ r⟩
  .rcases a with a|a
   .exact a.2 hg
   .have:=h.t.lt (q:=q) (.inr (.inr (.inr (.inr hg))))
    have:=(g q a).1;omega
  .exact H.step (E:=T.E) (G:=T.G) hc (λq a S=>by have:=(g q a).1;omega) (λq a=>.inl a) λq a=>.inl a
 .rcases F with ⟨bu,K,V,D,rfl,L,ej⟩|⟨e,rfl,O,U⟩
  .obtain rfl:=gW.uniq i L
   refine .inl ⟨K,V,D,rfl,ej.a_ λq a x=>⟨x.1,λb=>x.2 ?_⟩⟩;rcases b with b|b|b|b|b
   .exact .inl b
   .exact .inr (.inl b)
   .exact .inr (.inr (.inl b))
   .exact .inr (.inr (.inr (.inl (d q (.inl b)))))
   .exact .inr (.inr (.inr (.inl (d q (.inr (.inl b))))))
  .refine .inr ?_
   rcases O with ⟨rfl,h1⟩|h1|⟨_,_,h1⟩
   .exact⟨rfl,h1⟩
   .obtain⟨p,aw,_⟩:=i
    have h1:fi (no:Int) (T.C.view no)=.error e:=h1;rw[aw]at h1;cases h1
   .exact absurd i (h1 o)
def jU(u:dx):Nat:=if u.cR=0 then 1 else u.cR-1
def lZ(u:dx)(n o:aF):aF:=if u.cR<jU u then dF n (u.n.keys.getD (u.cR-1) []) o else dF o (u.n.keys.getD (u.cR-1) []) n
def y_(T:aK)(c:dz)(n:aF)(u:dx)(w:J)(v:aa)(w':J):Prop:=
 (80<=bE n/\∃ (s:ad) (e:Int),v=.tuple #[s,u.cR,.int .i64 ((u.cR+1:Nat):Int),e]/\hV T c n w (.tuple #[s,e]) w')\/
 (bE n<80/\∃ (bP:aK) (aU:dz),v=.tuple #[(),(0:Int),(0:Int),(3:Int)]/\dg w' bP aU/\dh T bP c aU [] [] w w' 2/\¬T.C.D.calm 2)\/
 (bE n<80/\∃ (o:aF) (no:Nat) (bP:aK) (aU:dz) (w1:J) (s:ad) (e:Int),u.n.kids[jU u]? =some no/\T.P no=some o/\dh T bP c aU [] [no] w w1 2/\
   v=.tuple #[s,.int .i64 ((u.cR-1:Nat):Int),.int .i64 ((u.cR-1+2:Nat):Int),e]/\hV bP aU (lZ u n o) w1 (.tuple #[s,e]) w')
theorem IB{B:Nat->Prop}{w:J}{T:aK}{c:dz}{n:aF}{K V D:ad}(h:dg w T c)(j:bU B w n K V D)(d:lX n)(o:T.C.D.a7<=900000080)(k:2<=cl T)(l:c.made.length<=900):
 aI aj 231 #[.pointer (some c.cb),dd n K V D,.pointer none] w (λv w'=>∃ (s:ad) (e:Int),v=.tuple #[s,(0:Int),(0:Int),e]/\hV T c n w (.tuple #[s,e]) w'):=by
 refine okF (ae.oL (some c.cb) n.leaf K V D none) ax.oL func231 ?_;(delta ae.oL ak aT Y r1 bX aG aq ey aP k_ z4 qc st r2 bY ov lJ qa;dsimp only);refine a8 (vs:=dY n K V D) rfl λw1 m f p=>?_;refine cw (λb w'=>b=true/\w1=w') (λq g=>⟨λ_=>g _ _ ⟨rfl,rfl⟩,λh=>(by cases h)⟩) ?_;rintro _ _ ⟨rfl,rfl⟩;refine⟨λ_=>rO (λa b w'=>a=0/\b=0/\w1=w') (λq g=>⟨λh=>(by cases h),λ_=>g _ _ _ ⟨rfl,rfl,rfl⟩⟩) ?_,λh=>(by cases h)⟩;rintro _ _ _ ⟨rfl,rfl,rfl⟩;obtain⟨bV,aU,ba,bh⟩:=bK m;refine⟨_,bV,K,aU,V,ba,D,bh,(wz (h.ext f) I k l (j.ext f) d.1 d.2.1 d.2.2).use ?_⟩;intro v w' i;obtain⟨s,e,rfl⟩:=i.out;exact⟨s,e,rfl,s,e,rfl,i.base f⟩
theorem IC{w:J}{T:aK}{c:dz}{n:aF}{K V D:ad}{A:ag}{u:dx}(h:dg w T c)(au:bU (λq=>¬T.M q) w n K V D)(hu:lY (λq=>¬T.M q) w A u)(av:cE n)(a4:bE n<=400)(ar:80<=bE n->lX n)
 (a5:bE n<80->∃ (o:aF) (no:Nat),u.n.kids[jU u]? =some no/\T.P no=some o/\o.leaf=n.leaf/\u.cR-1<u.n.keys.length/\cz (u.n.keys.getD (u.cR-1) [])/\lX (lZ u n o)) (bD:u.cR<=900)
 (bF:T.C.D.a7<=900000080) (aO:2<=cl T) (aQ:c.made.length<=900) (a6:c.left.length<=900):
 aI aj 231 #[.pointer (some c.cb),dd n K V D,.pointer (some A)] w (y_ T c n u w):=by
 have bG:=av.eK I;refine okF (ae.oL (some c.cb) n.leaf K V D (some A)) ax.oL func231 ?_;(delta ae.oL ak aT Y r1 bX aG aq ey aP k_ z4 qc st r2 bY ov lJ qa;dsimp only);refine a8 (vs:=dY n K V D) rfl λw1 X aS bH=>?_;obtain⟨nb,aa⟩:∃nb,nb=w.heap.size:=⟨_,rfl⟩;rw[←aa]at X⊢;refine cw (λb w'=>b=decide (80<=bE n)/\Ext w1 w') (λq f=>⟨λh=>(by cases h),λ_=>?_⟩) ?_
 .obtain⟨bV,aU,ba,bh⟩:=bK X
  refine⟨_,bV,K,aU,V,ba,D,bh,(oO (au.ext aS) av I).use ?_⟩;rintro _ bI ⟨rfl,a9⟩;refine⟨_,rfl,f _ _ ⟨?_,a9⟩⟩;rw[fv,cp,cp];omega
 rintro _ p ⟨rfl,ab⟩;have ac:=aS.trans ab;refine⟨λg=>?_,λg=>?_⟩
 .have g:=cf g
  have L:=ar g;refine rO (λa b w'=>a=(u.cR:Nat)/\b=((u.cR+1:Nat):Int)/\Ext p w') (λq f=>⟨λ_=>?_,λh=>(by cases h)⟩) ?_
  .have y:Ext p p.drew:=cA _
   have aV:=hu.ext (ac.trans y);refine aX ⟨A,rfl,id,_,aV.iX,A,rfl,id,_,aV.iX,f _ _ _ ⟨rfl,?_,y⟩⟩;rw[br I I];rfl
  rintro _ _ bL ⟨rfl,rfl,aW⟩;have r:=ac.trans aW;obtain⟨bV,aU,ba,bh⟩:=bK (X.ext (ab.trans aW));refine⟨_,bV,K,aU,V,ba,D,bh,(wz (h.ext r) I aO aQ (au.ext r) L.1 L.2.1 L.2.2).use ?_⟩;intro v w' ai;obtain⟨s,e,rfl⟩:=ai.out;exact⟨s,e,rfl,.inl ⟨g,s,e,rfl,ai.base r⟩⟩
 .have g:¬80<=bE n:=cC g
  obtain⟨o,no,aw,al,ay,aY,bb,L⟩:=a5 I;obtain⟨bM,bc⟩:=h.t.eT no o al;obtain⟨_,bd,bN⟩:=bc.is;have am:=hu.ext ac;refine⟨A,rfl,_,am.iX,((u.cR-1:Nat):Int),p,?_,?_⟩
  .rw[run_max_int2]
   congr 2
   by_cases h0:u.cR=0
   .rw[h0];rfl
   .rw[br I I,if_neg I];omega
  refine cw (λa w'=>a=(jU u:Nat)/\p=w') (λq f=>⟨A,rfl,_,am.iX,λh0=>f _ _ ⟨?_,rfl⟩,λh0=>f _ _ ⟨?_,rfl⟩⟩) ?_
  .have:u.cR=0:=by simpa using h0
   unfold jU;rw[if_pos this];rfl
  .have:u.cR≠0:=by simpa using h0
   unfold jU;rw[if_neg this]
  rintro _ _ ⟨rfl,rfl⟩;have be:jU u<u.n.kids.length:=(jB.1 aw).1;obtain⟨aZ,bf,bg,a0⟩:=cZ.at am.cg.kids be;have bi:u.n.kids[jU u]=no:=(jB.1 aw).2;rw[bi]at a0;refine⟨A,rfl,u.D,am.fH,aZ,bf,bg,_,a0,aX ?_⟩;have y:Ext p p.drew:=cA _;obtain⟨z,bj⟩:∃z,z=p.drew:=⟨_,rfl⟩;rw[←bj]at y⊢;have r:=ac.trans y;have az:=h.ext r;have bO:=r.size;have bQ:=(ab.trans y).size;have aA:=X.ext (ab.trans y);have aB:∀q,T.M q->q<w.heap.size:=λq f=>h.t.lt f;have a1:u.n.keys.getD (u.cR-1) []=u.n.keys[u.cR-1]:=by rw[fN,dH aY];rfl
  have fin:∀ (aJ:b3) (iL:J) (aR:Nat) (i k l:ad) (d:J),iL.heap.size=aR->dg d (T.bC aJ T.P) c->dh T (T.bC aJ T.P) c c [] [] z d 2->Var d nb (dY n K V D) 169->Var d aR (dY o i k l) 169->z.heap.size<=aR->¬(T.bC aJ T.P).M aR->bU (λq=>¬(T.bC aJ T.P).M q) d o i k l->
   ae.x1 w iL (some c.cb) (some A) ((u.cR-1:Nat):Int) (jU u:Nat) (no:Nat) 0 d (λv w'=>y_ T c n u w v w'):=by
   intro aJ iL aR i k l d bk B an bm bn bR bo bp;have a2:=((dh.ext T c r).trans an).mono (j:=2) I;have aC:=a2.to;have bq:¬(T.bC aJ T.P).M nb:=λO=>by
    rcases an.to.c1 nb O with h1|h1
    .have:=aB _ h1;omega
    .omega
   have bs:bU (λq=>¬(T.bC aJ T.P).M q) d n K V D:=(aC.cg (lo:=0) (au.a_ λq _ g=>⟨cP _,g⟩)).a_ λq _ g=>g.2;have bt:(T.bC aJ T.P).C.D.a7<=900000090:=eE aC.a7 I;refine IA B bm bn bq bo bs bp (hu.to aC) bt aO aQ a6 av bd a4 I ay aY (by rw[←a1];exact bb) (lZ u n o) (by unfold lZ;rw[a1]) L I ?_ aa.symm bk;intro s e bP aU bu w' bv hf;exact .inr (.inr ⟨I,o,no,bP,aU,bu,s,e,aw,al,(a2.trans bv).mono I,rfl,hf⟩)
  have ao:∀q,T.N q->q<w.heap.size:=λq f=>aB q (aK.gF f);have err:∀ (aJ:b3) (d:J),dg d (T.bC aJ T.P) c->dh T (T.bC aJ T.P) c c [] [] z d 2->¬T.C.D.calm 2->y_ T c n u w (.tuple #[(),(0:Int),(0:Int),(3:Int)]) d:=by
   intro aJ d B an Q;exact .inr (.inl ⟨I,_,c,rfl,B,((dh.ext T c r).trans an).mono I,Q⟩)
  obtain⟨bV,aU,ba,bh⟩:=bK aA;refine⟨λq=>T.N q/\¬T.G q,_,rfl,λf=>f.2 h.gc,_,az.cells.1,(λf=>by have:=ao _ f.1;show False;exact absurd this (by show¬nb<w.heap.size;omega)),_,bV,?_,?_⟩
  .rw[←ay]
   refine(C3 (Z:=λ_=>False) az (af.refl _ _) (λ_ h=>h.elim) I al).use ?_;rintro _ F ⟨aJ,ai,x,a3,R,aD⟩;have bw:=x.size;rcases aD with ⟨i,k,l,rfl,aE⟩|⟨rfl,Q⟩
   .refine⟨_,i,k,l,0,rfl,x,a8 (vs:=[false,(),(),()]) rfl λbx S U bz=>⟨af.cW U,S.cj rfl fI,rfl,cN S (us:=dY o i k l) rfl rfl λd W m aH=>?_⟩⟩
    have E:Ext F d:=Ext.cu U m (bl _);obtain⟨ap,aL⟩:=R F (af.refl _ _);have H:=aA.ah x λf=>by have:=ao _ f.1;omega
    subst aa;refine fin aJ F _ i k l d rfl (ap.ext E) ((aL.trans (dh.ext _ _ E)).mono I) (H.ext E) W I (λO=>by have:=ap.t.lt O;omega) ?_;exact(aE.ext E).a_ λq _ g=>g.2
   .refine⟨_,bJ,bJ,bJ,3,rfl,x,a8 (vs:=[false,(),(),()]) rfl λbx S U bz=>⟨af.cW U,S.cj rfl fI,rfl,cN S (us:=dY iV bJ bJ bJ) rfl rfl λd W m aH=>⟨λ_=>?_,λg=>(by cases g)⟩⟩⟩
    have E:Ext F d:=Ext.cu U m (bl _);obtain⟨ap,aL⟩:=R F (af.refl _ _);exact err aJ d (ap.ext E) ((aL.trans (dh.ext _ _ E)).mono I) Q
  .refine a8 (vs:=[false,(),(),()]) rfl λbS bA aM bT=>⟨af.cW aM,?_⟩
   rw[←ay];refine(C3 (Z:=λq=>q=z.heap.size) az aM (λq e=>⟨I,I⟩) I al).use ?_;rintro _ F ⟨aJ,ai,x,a3,R,aD⟩;have bw:=x.size;have H:=bA.ah x λf=>by have:=ao _ f.1;omega
   have bB:=(aA.ext aM).ah x λf=>by have:=ao _ f.1;omega
   rcases aD with ⟨i,k,l,rfl,aE⟩|⟨rfl,Q⟩
   .refine⟨_,i,k,l,0,rfl,H.cj rfl fI,rfl,cN H (us:=dY o i k l) rfl rfl λd W m aH=>?_⟩
    obtain⟨B,aN⟩:=R d m;subst aa;refine fin aJ z _ i k l d rfl B aN (bB.ah m I) W (bl _) (λO=>?_) ?_
    .rcases a3 _ O with h1|h1
     .have:=aB _ h1;omega
     .omega
    .refine(bU.ah aE m λq f e=>by have:=f.1;omega).a_ λq _ g=>g.2
   .refine⟨_,bJ,bJ,bJ,3,rfl,H.cj rfl fI,rfl,cN H (us:=dY iV bJ bJ bJ) rfl rfl λd W m aH=>⟨λ_=>?_,λg=>(by cases g)⟩⟩
    obtain⟨B,aN⟩:=R d m;exact err aJ d B aN Q
structure za(T au:aK)(l:O Nat)(w w':J):Prop where
 to:bS T au w w' 0
 E:au.E=T.E
 G:au.G=T.G
 root:au.root=T.root
 aL:au.aL=T.aL
 f:∀no,au.f no=(T.f no&& !decide (no∈l))
 ew:∀no,(no∉l\/T.g no=true)->au.P no=T.P no/\au.C.view no=T.C.view no
theorem C4{w:J}{T:aK}{c:dz}{s:ad}{l:O Nat}(h:dg w T c)(hs:Src 1 w s (fS l))(z:∀q,aB s q->T.G q)(Q:∀x∈l,T.f x=true)(ej:l.Nodup)(ai:l.length<=10000):
 aI aj 186 #[.pointer (some c.cb),s] w (λv w'=>v=.tuple #[]/\∃au:aK,dg w' au c/\za T au l w w'):=by
 have al:s.len=l.length:=by have:=hs.len;rw[qN]at this;omega
 refine okF (ae.ve (some c.cb) s) ax.ve func186 ?_;(delta ae.ve ak aP aG b8 bX aq;dsimp only);refine⟨λi w'=>∃ (j:Nat) (au:aK),i=j/\j<=l.length/\dg w' au c/\za T au (l.take j) w w'/\Src 1 w' s (fS l),λi _=>((l.length:Int)-i).toNat,⟨0,T,rfl,cP _,h,⟨.refl _ _,rfl,rfl,rfl,rfl,λno=>by simp,λ_ _=>⟨rfl,rfl⟩⟩,hs⟩,?_⟩;rintro _ am ⟨j,bP,rfl,an,h1,hg,B⟩;refine⟨λaH=>?_,λp=>?_⟩
 .have aH:j<l.length:=by
   have:(j:Int)<(s.len:Int):=cf aH;omega
  have C:bP.f l[j]=true:=by
   rw[hg.f,Q _ (cL aH)];have:l[j]∉l.take j:=λR=>by
    obtain⟨i,hi,he⟩:=e2 R;rw[cG]at hi;rw[mW]at he;have:=(List.getElem_inj ej).1 he;omega
   simp[this]
  have ao:l[j]<bP.n:=by
   rcases ei l[j] bP.n with h2|h2
   .exact h2
   .have:=h1.t.s.pf _ h2
    rw[C]at this;cases this
  obtain⟨A,ar,S,hc⟩:=B.at (i:=j) (v:=.int .i64 ((l[j]:Nat):Int)) (by simp[fS,aH]);refine k6 (λw'=>∃bY:aK,dg w' bY c/\za T bY (l.take (j+1)) w w'/\Src 1 w' s (fS l)) (λq a=>⟨A,ar,S,_,hc,_,rfl,_,h1.cells.1,_,rfl,_,h1.t.cells.2.1,(HZ h1.t.s _).use ?_⟩) ?_
  .rintro _ _ ⟨rfl,rfl⟩
   refine⟨_,rfl,_,rfl,_,h1.cells.1,_,rfl,_,h1.t.cells.2.1,(CB h1.t.s _).use ?_⟩;rintro _ D ⟨rfl,iw,r⟩;have U:nF bP.f bP.n ((l[j]:Nat):Int)=dt bP.f l[j] false:=by
    unfold nF;rw[if_pos ⟨I,I⟩,di]
   rw[U]at iw;obtain⟨V,F⟩:=h1.t.wv iw r;have d:dg D (bP.jt (dt bP.f l[j] false)) c:=h1.of V r (λq a hf=>(h1.t.js q a).2 hf) rfl λ_ h=>h;have H:Src 1 D s (fS l):=B.ah r λq a hf=>(h1.t.js q (by rw[hg.G];exact z q a)).2 hf;have W:(decide ((0:Int)<=((l[j]:Nat):Int))&&decide (((l[j]:Nat):Int)<(bP.n:Nat))&&bP.f (Int.toNat ((l[j]:Nat):Int))&& !(bP.g (Int.toNat ((l[j]:Nat):Int))))= !(bP.g l[j]):=by
    rw[di,C,dI I,dI I];simp
   have K:∀no,dt bP.f l[j] false no=(T.f no&& !decide (no∈l.take (j+1))):=λno=>by
    rw[j1 aH];unfold dt;by_cases e:no=l[j]
    .rw[if_pos e,e,dI (cO.2 (.inr (fg.2 rfl)))]
     exact(Bool.and_false _).symm
    .rw[if_neg e,hg.f]
     have X:decide (no∈l.take j++ [l[j]])=decide (no∈l.take j):=by
      rw[fv,cp,cp,cO,fg];exact⟨λh=>h.resolve_right e,.inl⟩
     rw[X]
   rw[W];refine⟨_,rfl,λu=>⟨_,rfl,_,d.cells.1,_,rfl,_,d.t.cells.1,(Ik d.t.ca _).use ?_⟩,λu=>a _ ⟨_,d,⟨?_,hg.E,hg.G,hg.root,hg.aL,K,λno k=>?_⟩,H⟩⟩
   .rintro _ ap ⟨⟨b,rfl⟩,aJ,Y,m,L,_⟩
    have Z:T.g l[j]=false:=by
     have h2:bP.g=T.g:=hg.to.g;rw[h2]at u;simpa using u
    obtain⟨aa,ab⟩:=d.t.wq (P:=λno=>if no=l[j] then none else bP.P no) Y m (λno cg o=>by
     by_cases e:no=l[j]
     .rw[if_pos e]at o;cases o
     .rw[if_neg e]at o
      rw[L no e];exact h1.t.eT no cg o)
    have ac:=d.of (au:=(bP.jt (dt bP.f l[j] false)).bC aJ λno=>if no=l[j] then none else bP.P no) aa m.ah (λq a=>d.t.wu a) rfl (λ_ h=>h) m.b6;refine⟨b,rfl,a _ ⟨_,ac,⟨?_,hg.E,hg.G,hg.root,hg.aL,K,λno k=>?_⟩,?_⟩⟩
    .exact((hg.to.trans F).trans ab).mono I
    .have M:no≠l[j]:=λe=>by
      rcases k with h2|h2
      .exact h2 (by rw[j1 aH,e];exact cO.2 (.inr (fg.2 rfl)))
      .rw[e,Z]at h2;cases h2
     have N:=hg.ew no (k.imp (λh2 y=>h2 (by rw[j1 aH];exact cO.2 (.inl y))) id);exact⟨(if_neg M).trans N.1,(L no M).trans N.2⟩
    .exact H.ah m.ah λq a=>d.t.wu (by show bP.G q;rw[hg.G];exact z q a)
   .exact(hg.to.trans F).mono I
   .exact hg.ew no (k.imp (λh2 y=>h2 (by rw[j1 aH];exact cO.2 (.inl y))) id)
  .rintro av ⟨bY,h2,af,ag⟩
   rw[br (n:=(j:Int)+1) I I];refine⟨⟨j+1,bY,I,I,h2,af,ag⟩,?_⟩;show((l.length:Int)-((j:Int)+1)).toNat<((l.length:Int)-(j:Int)).toNat;omega
 .have p:j=l.length:=by
   have:¬(j:Int)<(s.len:Int):=cC p;omega
  subst p;rw[j3]at hg;exact⟨rfl,bP,h1,hg⟩
theorem qz{B:Nat->Prop}{w:J}{n:aF}{K V D:ad}(c:bU B w n K V D)(aL:Nat)(h:aL<=100)(d:n.leaf=false->∃x,n.kids=[x]/\1<=aL):
 aI aj 230 #[dd n K V D,aL] w (λv w'=>v=(if n.leaf then .tuple #[(0:Int),(0:Int),(0:Int)] else .tuple #[.int .i64 ((n.kids.getD 0 0:Nat):Int),.int .i64 ((aL-1:Nat):Int),(0:Int)])/\Ext w w'):=by
 refine okF (ae.qz n.leaf K V D (aL:Nat)) ax.qz func230 ?_;(delta ae.qz aT Y ak r1 aP aG aq;dsimp only);refine a8 (vs:=dY n K V D) rfl λw1 e b j=>?_;obtain⟨bV,aU,ba,bh⟩:=bK e;refine⟨_,bV,λa=>⟨by rw[if_pos a],b⟩,λa=>?_⟩;obtain⟨x,hx,h1⟩:=d a;obtain⟨A,ar,f,hc⟩:=cZ.at (c.ext b).kids (i:=0) (by rw[hx];simp);refine⟨D,bh,A,ar,f,_,hc,?_,b⟩;have g:(aL:Int)-1=((aL-1:Nat):Int):=by omega
 rw[if_neg (by rw[a];simp),br I I,g];simp only[hx];rfl
def zb(T:aK)(c:dz)(ks:O Key)(kids:O Nat)(w:J)(v:aa)(w':J):Prop:=
 (∃x,ks=[]/\kids=[x]/\v=.tuple #[x,T.aL,(0:Int)]/\dg w' T c/\Ext w w')\/
 (∃ (k:Key) (x y no:Nat) (au:aK) (c':dz),ks=[k]/\kids=[x,y]/\dg w' au c'/\dh T au c c' [no] [] w w' 1/\
   ((v=.tuple #[no,.int .i64 ((T.aL+1:Nat):Int),(0:Int)]/\au.P no=some ⟨false,[k],[],[x,y]⟩)\/(v=.tuple #[no,.int .i64 ((T.aL+1:Nat):Int),(3:Int)]/\¬T.C.D.calm 1)))
theorem C5(K D:Nat)(w:J):Sem.run aj (Instr.build 169 #[(1,.slice (some K) 1 1),(3,.slice (some D) 2 2)]) w=.ok (.agg #[false,.slice (some K) 1 1,(),.slice (some D) 2 2]) w:=by kernel_rfl
theorem Var.C6{w:J}{b:Nat}{vs:O aa}{T:TypeId}(h:Var w b vs T):Src 1 w ⟨some b,vs.length,vs.length⟩ vs:=by
 refine⟨by show _=vs.length*1;omega,(λh=>by cases h),λa c=>?_⟩
 cases c;show bn w b 0 (vs.length*1)=_;rw[fw,h.rd rfl]
theorem ID{w:J}{t:ad}{k:Key}(b:Nat)(a:Var w b [t] 39)(ht:bw (λ_=>True) w t k):bI (λ_=>True) w ⟨some b,1,1⟩ [k]:=by
 refine⟨[t],rfl,a.C6,bl _,λq c=>⟨trivial,?_⟩,λi h1 h2=>?_⟩
 .obtain⟨A,ar,rfl⟩:=c
  cases ar;exact a.lt
 .have:i=0:=by simp at h1;omega
  subst this;exact ht
theorem IE{w:J}{x y:Nat}(b:Nat)(a:Var w b [x,y] 3):cZ (λ_=>True) w ⟨some b,2,2⟩ [x,y]:=by
 refine⟨a.C6,bl _,λq c=>⟨trivial,?_⟩⟩;obtain⟨A,ar,rfl⟩:=c
 cases ar;exact a.lt
theorem IF{w:J}{T:aK}{c:dz}{s:ad}{ks:O Key}{kids:O Nat}(h:dg w T c)(H:lq (λq=>¬T.M q) w s ks kids)(A:kids.length=2->T.aL<12)(hs:∀k x y,ks=[k]->kids=[x,y]->cz k/\x<1600/\y<1600)
 (ar:T.C.D.a7<=900000080) (K:1<=cl T) (av:c.made.length<=900):
 aI aj 232 #[.pointer (some c.cb),s] w (zb T c ks kids w):=by
 have aw:=h.t.num.2.1;refine okF (ae.vo (some c.cb) s) ax.vo func232 ?_;(delta ae.vo ak aP aG r1 Y gB aq;dsimp only);have o:Ext w w.drew:=cA w;have hd:=h.ext o;rcases H with ⟨b,x,rfl,rfl,rfl,l,B⟩|⟨b,x,y,k,t,rfl,rfl,rfl,l,B,ht,ay⟩
 .refine⟨λ_=>aX ⟨_,rfl,⟨by decide,by show(0:Int)<((1:Nat):Int);decide⟩,id,_,by rw[aA,aA];exact l.drew.cell,_,rfl,id,_,hd.cells.1,_,rfl,id,_,hd.t.cells.2.2.2.2,?_⟩,λh=>(by cases h)⟩
  exact .inl ⟨x,rfl,rfl,rfl,hd,o⟩
 .have A:=A rfl
  obtain⟨s1,s2,az⟩:=hs k x y rfl rfl;refine⟨λh=>(by cases h),λ_=>⟨_,rfl,_,h.cells.1,_,rfl,_,h.t.cells.2.2.2.2,λL=>?_,λ_=>?_⟩⟩
  .have:(T.aL:Int)=12:=by simpa using L
   omega
  have P:cE ⟨false,[k],[],[x,y]⟩:=.inr ⟨⟨λaB Q=>by rw[fg.1 Q];exact s1,List.pairwise_singleton _ _⟩,rfl,by simp,rfl,rfl,λz E=>by
   simp only[cY,fo,fy]at E;rcases E with rfl|rfl<;>assumption⟩
  have R:bE ⟨false,[k],[],[x,y]⟩<=232:=by
   have:=s1.2;simp[bE,cellsOf];omega
  have r:¬T.N b:=λS=>B (aK.gF S);have fin:∀ (d:J) (b2 aP:Nat),Ext w d->Var d b2 [t] 39->Var d aP [x,y] 3->
   aI aj 265 #[.pointer (some c.cb),.agg #[false,.slice (some b2) 1 1,(),.slice (some aP) 2 2]] d (λv w'=>∃n27:Int,∃n28:Int,v=.tuple #[n27,n28]/\af T.N d w'/\
    ∀e,Ext w' e->zb T c [k] [x,y] w (.tuple #[n27,.int .i64 ((T.aL+1:Nat):Int),n28]) e/\∃au c',dg e au c'/\c'.cb=c.cb/\au.bj=T.bj/\au.aL=T.aL):=by
   intro d b2 aP hx U V;have ej:bU (λ_=>True) d ⟨false,[k],[],[x,y]⟩ ⟨some b2,1,1⟩ ⟨none,0,0⟩ ⟨some aP,2,2⟩:=by
    exact⟨ID b2 U (bw.a_ (bw.ext ht hx) λ_ _ _=>trivial),bI.none _ _,IE aP V⟩
   refine(wy (h.ext hx) I K I ej P R).mono ?_;rintro v w' ⟨no,au,c',p,f,W⟩;have F:=((dh.ext T c hx).trans f).mono (j:=1) I;rcases W with ⟨rfl,X⟩|⟨rfl,Z⟩
   .refine⟨_,_,rfl,f.to.ah,λe g=>⟨.inr ⟨k,x,y,no,au,c',rfl,rfl,p.ext g,(F.trans (dh.ext au c' g)).mono I,.inl ⟨rfl,X⟩⟩,au,c',p.ext g,f.cb,f.to.bj,f.aL⟩⟩
   .refine⟨_,_,rfl,f.to.ah,λe g=>⟨.inr ⟨k,x,y,no,au,c',rfl,rfl,p.ext g,(F.trans (dh.ext au c' g)).mono I,.inr ⟨rfl,Z⟩⟩,au,c',p.ext g,f.cb,f.to.bj,f.aL⟩⟩
  have aa:IntKind.wrap .i64 ((T.aL:Int)+1)=((T.aL+1:Nat):Int):=by rw[br I I];rfl
  refine rO (λa b w'=>∀e,Ext w' e->zb T c [k] [x,y] w (.tuple #[a,.int .i64 ((T.aL+1:Nat):Int),b]) e/\∃au c',dg e au c'/\c'.cb=c.cb/\au.bj=T.bj/\au.aL=T.aL) (λq G=>aX ⟨T.N,_,rfl,⟨by decide,by show(1:Int)<((2:Nat):Int);decide⟩,r,t,by rw[aA];exact l.drew.cell,_,rfl,⟨by decide,by show(0:Int)<((2:Nat):Int);decide⟩,r,_,by rw[aA,aA];exact l.drew.cell,_,rfl,⟨by decide,by show(1:Int)<((2:Nat):Int);decide⟩,r,_,by rw[aA,aA];exact l.drew.cell,?_,?_⟩) ?_
  .refine a8 (vs:=[t]) rfl λu ab m ac=>⟨af.cW m,a8 (vs:=[x,y]) rfl λd ag i ai=>⟨af.cW i,_,λ_=>C5 _ _ _,?_⟩⟩
   refine(fin d w.drew.heap.size u.heap.size (o.trans (m.trans i)) (ab.ext i) ag).use ?_;rintro _ w' ⟨n27,n28,rfl,hc,n⟩;exact⟨n27,n28,rfl,hc,G _ _ _ n⟩
  .refine a8 (vs:=[x,y]) rfl λu al m ac=>⟨af.cW m,a8 (vs:=[t]) rfl λd am i ai=>⟨af.cW i,_,λ_=>C5 _ _ _,?_⟩⟩
   refine(fin d u.heap.size w.drew.heap.size (o.trans (m.trans i)) am (al.ext i)).use ?_;rintro _ w' ⟨n27,n28,rfl,hc,n⟩;exact⟨n27,n28,rfl,hc,G _ _ _ n⟩
  .intro a b an n
   obtain⟨h1,au,c',h2,ao,aC,ap⟩:=n _ (cA an);have hc:=h2.cells.1;rw[ao]at hc;have ht:=h2.t.cells.2.2.2.2;refine aX ⟨_,rfl,id,_,hc,_,rfl,id,_,ht,?_⟩;rw[ap,aa];exact h1
theorem c8.zc{P:Nat->av aF}{lo hi:av Key}{h:Nat}{n:aF}{p:O Nat}{L:O aN}(a:c8 P h n lo hi p L)(h2:n.leaf=true->bE n<=310)(d:n.leaf=false->bE n<=335)(g:n.leaf=false->n.keys≠ []):lX n:=by
 refine⟨?_,by cases e:n.leaf;exact eE (d e) (by decide);exact eE (h2 e) (by decide),λhs=>?_⟩
 .cases h with
  |zero=>exact a.elim
  |succ h=>
   cases h with
   |zero=>exact .inl a.1
   |succ h=>
    obtain⟨aw,ay,b,c,f⟩:=a;have hs:=f.sorted λ_ _ _ _ _ i=>i.in;exact .inr ⟨⟨b,hs.2.2.1⟩,aw,g aw,f.len,ay,c⟩
 .obtain⟨aw,ay,b,c,_⟩:=a.two (Q:=P) (x:=0) (y:=0) hs h2 d
  exact⟨aw,ay,b,c⟩
section
variable {P:Nat->av aF}{lo hi:av Key}
theorem IG{h:Nat}{d f:aF}{p A:av Key}{i:Nat}{bk D:O Nat}{bd hD:O aN}{k:Key}(E:∀k∈d.keys,cz k)(hlen:d.kids.length=d.keys.length+1)(F:∀x n,P x=some n->bE n<=232)
 (dS:1<=i) (Q:i<d.kids.length) (B:ft p A k)
 (G:fh (e9 P (h+1)) lo p (d.keys.take i) (d.kids.take i) bk bd) (q:c8 P (h+1) f p A D hD) (h1:bE f<80):
 ∃ (o:aF) (R:i-1<d.kids.length) (S:i-1<d.keys.length),P d.kids[i-1]=some o/\o.leaf=f.leaf/\cz d.keys[i-1]/\lX (dF o d.keys[i-1] f):=by
 obtain⟨s,H,aM,r,bQ,N,hs,rfl,t,rfl,rfl,⟨u,m,g,v⟩,T,U⟩:=G.last (by rw[cG];omega);have V:(d.keys.take i).length=i:=by rw[cG];omega
 have W:(d.kids.take i).length=i:=by rw[cG];omega
 have t:s=d.keys[i-1]'I:=by
  rw[t,mW];congr 1;omega
 have J:(d.kids.take i)[(d.kids.take i).length-1]'I=d.kids[i-1]'I:=by
  rw[mW];congr 1;omega
 rw[J]at u g;obtain⟨o,K,j,rfl,_,w⟩:=u.jm;rw[j]at g;have v:2<=o.keys.length:=by rw[Option.some.inj g];exact v
 clear g;subst t;have y:=(show e9 P (h+1) H (some (d.keys[i-1]'I)) (d.kids[i-1]'I) (d.kids[i-1]'I::K) N from⟨u,o,j,v⟩).in;obtain⟨x,hx⟩:=pG _ y.1;have z:=E _ (cL (l:=d.keys) (n:=i-1) I);have L:=c8.merge w q z (λc hc=>ic (kj ((y.2.2 x hx).1 c hc) ((y.2.2 x hx).2 _ rfl))) (λc hc=>ic (kj (B.1 _ rfl) (B.2 c hc)));have C:=vJ w q z (by have:=F _ _ j;omega);have M:=vI (a:=o) (b:=f) (s:=d.keys[i-1]'I);refine⟨o,I,I,j,by rw[w.leaf,q.leaf],z,L.zc C.1 C.2 λ_ e=>?_⟩;rw[e,k1]at M;omega
theorem IH{h:Nat}{d f:aF}{B q:av Key}{i:Nat}{bf E:O Nat}{hD bB:O aN}{k:Key}(F:∀k∈d.keys,cz k)(hlen:d.kids.length=d.keys.length+1)(G:∀x n,P x=some n->bE n<=232)
 (g:i+1<d.kids.length) (C:ft B q k)
 (H:gp (e9 P (h+1)) hi q (d.keys.drop i) (d.kids.drop (i+1)) bf bB) (t:c8 P (h+1) f B q E hD) (h1:bE f<80):
 ∃ (o:aF) (R:i+1<d.kids.length) (S:i<d.keys.length),P d.kids[i+1]=some o/\o.leaf=f.leaf/\cz d.keys[i]/\lX (dF f d.keys[i] o):=by
 obtain⟨s,J,r,T,N,U,hs,rfl,u,rfl,rfl,⟨v,m,j,w⟩,V⟩:=H.head (by rw[ed];omega);have u:s=d.keys[i]'I:=by rw[u,rn];rfl
 have K:(d.kids.drop (i+1))[0]'(by rw[ed];omega)=d.kids[i+1]'g:=by rw[rn]
 rw[K]at v j;obtain⟨o,L,p,rfl,_,y⟩:=v.jm;rw[p]at j;have w:2<=o.keys.length:=by rw[Option.some.inj j];exact w
 clear j;subst u;have z:=(show e9 P (h+1) (some (d.keys[i]'I)) J (d.kids[i+1]'g) (d.kids[i+1]'g::L) N from⟨v,o,p,w⟩).in;obtain⟨x,hx⟩:=pG _ z.1;have A:=F _ (cL (l:=d.keys) (n:=i) I);have M:=c8.merge t y A (λc hc=>ic (kj (C.1 c hc) (C.2 _ rfl))) (λc hc=>ic (kj ((z.2.2 x hx).1 _ rfl) ((z.2.2 x hx).2 c hc)));have D:=vJ t y A (by have:=G _ _ p;omega);have Q:=vI (a:=f) (b:=o) (s:=d.keys[i]'I);refine⟨o,g,I,p,by rw[y.leaf,t.leaf],A,M.zc D.1 D.2 λ_ e=>?_⟩;rw[e,k1]at Q;omega
inductive Ctx (P:Nat->av aF) (k:Key) (top:Nat):Nat->av Key->av Key->O (Nat×aF×Nat)->O Nat->O aN->O aN->Prop
 |top:Ctx P k top top none none [] [] [] []
 |step {eL:Nat}{lo hi a b:av Key}{st:O (Nat×aF×Nat)}{cJ:O Nat}{A B:O aN}{no:Nat}{n:aF}{bk bf:O Nat}{bd bB:O aN} (h:Ctx P k top (eL+2) lo hi st cJ A B) (c:P no=some n) (d:n.leaf=false) (e:∀k∈n.keys,cz k) (f:∀x∈n.kids,x<1600)
  (hlen:n.kids.length=n.keys.length+1) (g:n.keys≠ []) (i:st≠ []->2<=n.keys.length) (j:ft a b k) (l:fh (e9 P (eL+1)) lo a (n.keys.take (db n.keys k)) (n.kids.take (db n.keys k)) bk bd)
  (m:gp (e9 P (eL+1)) hi b (n.keys.drop (db n.keys k)) (n.kids.drop (db n.keys k+1)) bf bB):Ctx P k top (eL+1) a b (st++ [(no,n,db n.keys k)]) (no::(bk++(bf++cJ))) (A++bd) (bB++B)
theorem Ctx.eL{k:Key}{top eL:Nat}{st:O (Nat×aF×Nat)}{cJ:O Nat}{A B:O aN}(h:Ctx P k top eL lo hi st cJ A B):eL+st.length=top:=by
 induction h with
 |top=>rfl
 |step h _ _ _ _ _ _ _ _ _ _ a=>rw[ct,jd];omega
theorem Ctx.agree{Q:Nat->av aF}{k:Key}{top eL:Nat}{st:O (Nat×aF×Nat)}{cJ:O Nat}{A B:O aN}(h:Ctx P k top eL lo hi st cJ A B)(a:∀x∈cJ,P x=Q x):Ctx Q k top eL lo hi st cJ A B:=by
 induction h with
 |top=>exact .top
 | @step eL lo hi p q st cJ A B no n bk bf bd bB h c d e f hlen g i j l m o=>
  refine .step (o λx hx=>a x (by simp[hx])) (by rw[←a no (by simp)];exact c) d e f hlen g i j (l.lP λ_ _ _ _ _ hs b=>b.agree λx hx=>a x ?_) (m.lP λ_ _ _ _ _ hs b=>b.agree λx hx=>a x ?_)
  .have:=hs x hx;simp[this]
  .have:=hs x hx;simp[this]
theorem Ctx.down{k:Key}{top:Nat}:∀ {eL:Nat}{lo hi:av Key}{st:O (Nat×aF×Nat)}{cJ:O Nat}{A B M bQ:O aN}{no:Nat}{p:O Nat},Ctx P k top (eL+1) lo hi st cJ A B->eM P (eL+1) lo hi no p M->(st≠ []->∃m,P no=some m/\2<=m.keys.length)->ft lo hi k->bQ=A++(M++B)->(∀u,Loc k u->u bQ=A++(u M++B))->
 ∃ (rest a:O (Nat×aF×Nat)) (b:Nat) (b_:aF) (e_ dS:av Key) (f:O Nat) (c d:O aN),nK P k (eL+1) no rest/\st++rest=a++ [(b,b_,0)]/\Ctx P k top 1 e_ dS a f c d/\P b=some b_/\gU b_/\b_.within e_ dS/\b_.keys≠ []/\(a≠ []->2<=b_.keys.length)/\ft e_ dS k/\
  (p++cJ).Perm (b::f)/\bQ=c++(b_.dB++d)/\∀u,Loc k u->u bQ=c++(u b_.dB++d)
 |0,lo,hi,st,cJ,A,B,M,bQ,no,p,hc,h,h2,i,cU,hu=>by
  obtain⟨n,h1,g,t,v,rfl,rfl⟩:=h
  refine⟨[(no,n,0)],st,no,n,lo,hi,cJ,A,B,⟨n,[],h1,by rw[g.leaf];rfl,rfl,rfl⟩,rfl,hc,h1,g,t,v,λhs=>?_,i,List.Perm.refl _,cU,hu⟩
  obtain⟨m,e,j⟩:=h2 hs
  rw[h1]at e;cases e
  exact j
 |eL+1,lo,hi,st,cJ,A,B,M,bQ,no,p,hc,h,h2,i,cU,hu=>by
  obtain⟨n,T,h1,rfl,g,l⟩:=h.jm
  obtain⟨U,V,bk,q,bf,bd,hD,bB,w,rfl,rfl,o,r,x,hlen,y,z⟩:=l.at i
  obtain⟨aw,ay,C,D,_⟩:=l
  have E:=Ctx.step hc h1 aw C D hlen g (λhs=>by
   obtain⟨m,e,j⟩:=h2 hs
   rw[h1]at e;cases e
   exact j) r y z
  obtain⟨rest,a,b,b_,e_,dS,f,c,d,r1,aG,cm,aT,du,F,G,H,J,K,L,N⟩:=Ctx.down (bQ:=bQ) E o.1 (λ_=>o.2) r (by rw[cU];simp only[cB]) (λu s=>by rw[hu u s,x u s];simp only[cB])
  refine⟨(no,n,db n.keys k)::rest,a,b,b_,e_,dS,f,c,d,⟨n,rest,h1,by rw[aw];simp,by rw[if_neg I],?_⟩,?_,cm,aT,du,F,G,H,J,?_,L,N⟩
  .rw[fN,dH w]
   exact r1
  .rw[←aG];simp
  .refine List.Perm.trans ?_ K
   have Q:(no::(bk++(q++bf))++cJ)=no::(bk++(q++(bf++cJ))):=by simp[cB]
   rw[Q]
   have R:(q++no::(bk++(bf++cJ))).Perm (no::(q++(bk++(bf++cJ)))):=mU
   refine List.Perm.trans ?_ R.symm
   refine List.Perm.cons _ ?_
   have S:=(rm (l₁:=bk) (l₂:=q)).append_right (bf++cJ)
   simpa[cB] using S
end
theorem zd{α:Type}(a b c:O α):(a++(b++c)).Perm (a++c++b):=by
 rw[cB];exact(rm (l₁:=b) (l₂:=c)).append_left a
theorem Ctx.up{P:Nat->av aF}{lo hi:av Key}{k:Key}{top eL:Nat}{st R:O (Nat×aF×Nat)}{cJ:O Nat}{A B:O aN}{u:dx}{a:aF}{q:O Nat}{M:O aN}(hc:Ctx P k top eL lo hi st cJ A B)(aa:st=R++ [u.st])(c:c8 P eL a lo hi q M)(F:∀x n,P x=some n->bE n<=232)(hs:bE a<=282):
 ∃ (d f:av Key) (G:O Nat) (g j:O aN) (ps:O Nat),Ctx P k top (eL+1) d f R G g j/\cJ=u.no::(ps++G)/\P u.no=some u.n/\u.cR<u.n.kids.length/\u.n.kids.length=u.n.keys.length+1/\u.n.keys≠ []/\(R≠ []->2<=u.n.keys.length)/\
  (80<=bE a->∀ (Q:Nat->av aF) (ks:O Key) (kids:O Nat),my Q a ks kids->(∀x∈ps++q,P x=Q x)->(∀x∈kids,x<1600)->∃ (eo:O Nat) (l:O aN),c8 Q (eL+1) (fR u.n u.cR (u.cR+1) ks kids) d f eo l/\g++(l++j)=A++(M++B)/\eo.Perm (kids++(ps++q))/\
    bE (fR u.n u.cR (u.cR+1) ks kids)<=bE u.n+27/\u.n.keys.length<=(fR u.n u.cR (u.cR+1) ks kids).keys.length+1)/\
  (bE a<80->∃ (o:aF) (no:Nat) (rest:O Nat),u.n.kids[jU u]? =some no/\P no=some o/\o.leaf=a.leaf/\u.cR-1<u.n.keys.length/\cz (u.n.keys.getD (u.cR-1) [])/\lX (lZ u a o)/\ps.Perm (no::rest)/\
    ∀ (Q:Nat->av aF) (ks:O Key) (kids:O Nat),my Q (lZ u a o) ks kids->(∀x∈rest++q,P x=Q x)->(∀x∈kids,x<1600)->∃ (eo:O Nat) (l:O aN),c8 Q (eL+1) (fR u.n (u.cR-1) (u.cR-1+2) ks kids) d f eo l/\g++(l++j)=A++(M++B)/\eo.Perm (kids++(rest++q))/\
     bE (fR u.n (u.cR-1) (u.cR-1+2) ks kids)<=bE u.n+27/\u.n.keys.length<=(fR u.n (u.cR-1) (u.cR-1+2) ks kids).keys.length+1):=by
 cases hc with
 |top=>
  have:=congrArg List.length aa;simp at this
 | @step eL d f _ _ aq G g j ab H bk bf bd bB h ah S m T hlen ac ai J p r=>
  obtain⟨rfl,h2⟩:=List.append_inj' aa rfl;have U:(ab,H,db H.keys k)=u.st:=by simpa using h2
  have aj:ab=u.no:=congrArg Prod.fst U;have ak:H=u.n:=congrArg (λx=>x.2.1) U;have ad:db H.keys k=u.cR:=congrArg (λx=>x.2.2) U;subst aj ak;rw[ad]at p r;have al:=vG u.n.keys k;rw[ad]at al;refine⟨d,f,G,g,j,bk++bf,h,by rw[cB],ah,I,hlen,ac,ai,λb Q ks kids hf s t=>?_,λb=>?_⟩
  .obtain⟨v,aw,ay,w,K⟩:=GG S m T p r c b hs hf (λx hx=>s x (by
    simp only[cO]at hx⊢;rcases hx with hx|hx|hx
    .exact .inl (.inl hx)
    .exact .inr hx
    .exact .inl (.inr hx))) t
   refine⟨v,_,aw,by simp only[cB],ay.trans (List.Perm.append_left kids ?_),w,I⟩;exact zd bk q bf
  .by_cases h0:u.cR=0
   .obtain⟨o,L,N,y,V,W,X⟩:=IH m hlen F (i:=u.cR) (by
     have:u.n.keys.length≠0:=λe=>ac (wT e);omega) J r c b
    obtain⟨am,ae,an,ao,z,Y,_,Z⟩:=GI S m T hlen F L J p r c b;rw[y]at z;obtain rfl:=Option.some.inj z;have C:jU u=u.cR+1:=by unfold jU;rw[if_pos h0,h0]
    have af:u.cR-1=u.cR:=by omega
    have D:u.n.keys.getD (u.cR-1) []=u.n.keys[u.cR]:=by rw[af,fN,dH N];rfl
    have E:lZ u a o=dF a u.n.keys[u.cR] o:=by unfold lZ;rw[if_pos (by rw[C];omega),D]
    refine⟨o,u.n.kids[u.cR+1],bk++ae,by rw[C];exact dH L,y,V,I,by rw[D];exact W,by rw[E];exact X,?_,λQ ks kids hf s t=>?_⟩
    .exact(List.Perm.append_left bk Y).trans mU
    .rw[E]at hf
     obtain⟨v,aw,ay,w,K⟩:=Z Q ks kids hf (λx hx=>s x (by
      simp only[cO]at hx⊢;rcases hx with hx|hx|hx
      .exact .inl (.inl hx)
      .exact .inr hx
      .exact .inl (.inr hx))) t
     rw[af];exact⟨v,_,aw,by simp only[cB],ay.trans (List.Perm.append_left kids (zd bk q ae)),w,K⟩
   .obtain⟨o,L,N,y,V,W,X⟩:=IG m hlen F (i:=u.cR) I I J p c b
    obtain⟨am,ag,an,ao,z,Y,_,Z⟩:=GH S m T hlen F I I J p r c b;rw[y]at z;obtain rfl:=Option.some.inj z;have C:jU u=u.cR-1:=by unfold jU;rw[if_neg h0]
    have D:u.n.keys.getD (u.cR-1) []=u.n.keys[u.cR-1]:=by rw[fN,dH N];rfl
    have E:lZ u a o=dF o u.n.keys[u.cR-1] a:=by unfold lZ;rw[if_neg (by rw[C];omega),D]
    have ap:u.cR-1+2=u.cR+1:=by omega
    refine⟨o,u.n.kids[u.cR-1],ag++bf,by rw[C];exact dH L,y,V,N,by rw[D];exact W,by rw[E];exact X,?_,λQ ks kids hf s t=>?_⟩
    .exact(Y.append_right bf)
    .rw[E]at hf
     obtain⟨v,aw,ay,w,K⟩:=Z Q ks kids hf (λx hx=>s x (by
      simp only[cO]at hx⊢;rcases hx with hx|hx|hx
      .exact .inl (.inl hx)
      .exact .inr hx
      .exact .inl (.inr hx))) t
     rw[ap];exact⟨v,_,aw,by simp only[cB],ay.trans (List.Perm.append_left kids (zd ag q bf)),w,K⟩
theorem dg.II{w:J}{T:aK}{c:dz}{E:Nat->Prop}(h:dg w T c)(b:∀q,E q->T.E q):dg w (T.cv E T.G) c:=
 h.of (au:=T.cv E T.G) (W:=λ_=>False) (h.t.grow (W:=λ_=>False) (af.refl _ _) (λ_ h=>h.elim) (λq a=>.inl (b q a)) (λq a=>.inr (.inl a)) λq a=>(h.t.dU q (b q a)).2.2) (af.refl _ _) (λ_ _ h=>h) rfl λ_ h=>h
theorem dh.local{T au:aK}{c c':dz}{m l:O Nat}{bN:Nat->Prop}{w w1 w':J}{k:Nat}(h:dh (T.cv bN T.G) au c c' m l w1 w' k)(hx:Ext w w1)(b:∀q,bN q->T.E q\/w.heap.size<=q)(d:∀q,T.E q->bN q):dh T (au.cv T.E au.G) c c' m l w w' k:=
 ⟨h.to.local hx b (λq a=>.inl a) (λq a=>.inl (by rw[h.E];exact d q a)) λq a=>a,rfl,h.G,h.root,h.aL,h.cb,h.made,h.left,h.cg,h.jT,h.f,h.ew,h.room⟩
theorem dg.C7{w w':J}{T:aK}{c:dz}{W:Nat->Prop}(h:dg w T c)(hc:af W w w')(cx:∀q,W q->T.E q\/w.heap.size<=q):dg w' T c:=by
 have b:af (λq=>T.E q) w w':=c0 (W:=λq=>T.E q) (af.refl _ _) hc λq a d=>(cx q d).resolve_right I;exact h.of (h.t.grow (E:=T.E) (G:=T.G) b (λq a _=>.inl a) (λq a=>.inl a) (λq a=>.inr (.inl a)) λq a=>(h.t.dU q a).2.2) b (λq hg he=>(h.t.dU q he).2.2 hg) rfl λ_ h=>h
theorem kt.to{w w':J}{T au:aK}{k:Nat}{s:ad}{l:O dx}(h:kt (λq=>¬T.M q) w s l)(ht:bS T au w w' k):kt (λq=>¬au.M q) w' s l:=by
 refine⟨h.own.ah ht.ah λq a c=>h.pk q a (aK.gF c),λq a d=>?_,λx hx=>?_⟩
 .rcases ht.c1 q d with h1|h1
  .exact h.pk q a h1
  .have:=aV.lt h.own q a;omega
 .exact(ht.cg (lo:=0) ((h.cg x hx).a_ λq _ b=>⟨cP _,b⟩)).a_ λq _ b=>b.2
theorem kt.at{B:Nat->Prop}{w:J}{s:ad}{l:O dx}(h:kt B w s l){i:Nat}(hi:i<l.length):∃A:ag,s.a=some A/\s.len=l.length/\B A.block/\w.cell? (A.add (i*6))=some (.int .i64 ((l[i]).no:Nat))/\lY B w (A.add (i*6)) l[i]:=by
 have f:=h.own.1;rw[fD _ (nJ l)]at f;have g:s.len=l.length:=by omega
 rcases h.own.2.2.2 with ⟨h1,h2⟩|⟨b,c,e,k,o,m⟩
 .have:=h.own.2.1
  omega
 .have d:∀j,j<6->w.cell? ⟨b,i*6+j,none⟩=((dx.c l[i]))[j]? :=λj n=>by
   rw[bp.cell k,←wc (nJ l) hi n,←m];rw[s9,if_pos I,Array.getElem?_toList]
  refine⟨b,e,g,h.pk b ⟨_,e,rfl⟩,?_,?_⟩
  .rw[aA,cT]
   exact d 0 (by decide)
  .rw[aA,cT]
   refine⟨?_,?_,?_,?_,?_,h.cg _ (cL hi),h.pk b ⟨_,e,rfl⟩,aV.lt h.own b ⟨_,e,rfl⟩⟩
   .rw[aA];exact d 1 (by decide)
   .rw[aA,aA];exact d 2 (by decide)
   .rw[aA,aA];exact d 3 (by decide)
   .rw[aA,aA];exact d 4 (by decide)
   .rw[aA];exact d 5 (by decide)
theorem Ctx.C8{P:Nat->av aF}{lo hi:av Key}{k:Key}{top eL:Nat}{cJ:O Nat}{A B:O aN}(h:Ctx P k top eL lo hi [] cJ A B):eL=top/\lo=none/\hi=none/\cJ=[]/\A=[]/\B=[]:=by
 generalize a:([]:O (Nat×aF×Nat))=st at h
 cases h with
 |top=>exact⟨rfl,rfl,rfl,rfl,rfl,rfl⟩
 |step h=>
  have:=congrArg List.length a;simp at this
def mE(T:aK)(c:dz)(aM:O Nat)(dM:O aN)(w:J)(v:aa)(w':J):Prop:=
 ∃ (au:aK) (c':dz) (m l:O Nat),dg w' au c'/\dh T au c c' m l w w' 60/\
  ((v=.tuple #[(0:Int),(0:Int),(0:Int)]/\dM=[]/\l.Perm (m++aM)/\m.length<=2*T.aL+3)\/
   (∃ (root h:Nat) (pages:O Nat),v=.tuple #[root,h,(0:Int)]/\eM au.P h none none root pages dM/\(pages++l).Perm (m++aM)/\1<=h/\h<=T.aL+1/\m.length<=2*T.aL+3)\/
   (∃a b:Int,v=.tuple #[a,b,(3:Int)]/\¬T.C.D.calm 60))
theorem mE.local{T:aK}{c:dz}{aM:O Nat}{dM:O aN}{bN:Nat->Prop}{w w1 w':J}{v:aa}(h:mE (T.cv bN T.G) c aM dM w1 v w')(hx:Ext w w1)(b:∀q,bN q->T.E q\/w.heap.size<=q)(a:∀q,T.E q->bN q):mE T c aM dM w v w':=by
 obtain⟨au,c',m,l,h1,h2,d⟩:=h;exact⟨au.cv T.E au.G,c',m,l,h1.II λq e=>by rw[h2.E];exact a q e,h2.local hx b a,d⟩
structure IJ(bP:aK)(c:dz)(b:J)(a:O dx)(k:Key)(aM:O Nat)(dM:O aN)(ws:ad)(g4:Nat)(i:Nat)(w':J)(au:aK)(c':dz)(m l:O Nat)(n:aF)(K V D:ad)(lo hi:av Key)(cJ:O Nat)(A B:O aN)(q:O Nat)(M:O aN)(r:O Nat):Prop where
 ou:i<a.length
 ze:dg w' au c'
 to:dh bP au c c' m l b w' (4*(a.length-1-i))
 pn:m.length<=2*(a.length-1-i)
 ll:l.length<=2*(a.length-1-i)
 g4:Var w' g4 (dY n K V D) 169
 cg:bU (λq=>¬au.M q) w' n K V D
 ib:kt (λq=>¬au.M q) w' ws a
 ctx:Ctx au.P k a.length (a.length-i) lo hi ((a.take i).map dx.st) cJ A B
 jm:c8 au.P (a.length-i) n lo hi q M
 eq:A++(M++B)=dM
 pp:aM.Perm ((a[i]).no::(r++cJ))
 acc:(q++l).Perm (m++r)
 sz:bE n<=282
 IK:1<=i->n.keys≠ []
 C9:∀x∈q++cJ,au.f x=true
theorem b7.po{w:J}{T:aK}(h:b7 w T):∀x n,T.P x=some n->bE n<=232:=λx n hx=>(h.eT x n hx).2.is.2.2
theorem hV.cs{T:aK}{c:dz}{n:aF}{w w':J}{s:ad}{e:Int}(h:hV T c n w (.tuple #[s,e]) w'):
 ∃ (au:aK) (c':dz) (m:O Nat),dg w' au c'/\dh T au c c' m [] w w' 2/\m.length<=2/\((e=0/\∃ks,my au.P n ks m/\lq (λq=>¬au.M q) w' s ks m)\/(e=3/\¬T.C.D.calm 2)):=by
 obtain⟨au,c',m,s2,h1,h2,d,f⟩:=h;refine⟨au,c',m,h1,h2,d,?_⟩;rcases f with ⟨ks,a,b,g⟩|⟨a,b⟩
 .simp at a
  obtain⟨⟨a1,a2,a3⟩,rfl⟩:=a;obtain rfl:s=s2:=by cases s;cases s2;simp_all
  exact .inl ⟨rfl,ks,b,g⟩
 .simp at a
  exact .inr ⟨a.2,b⟩
theorem IL{P Q c:Nat->av aF}{t:Nat}{n:aF}{q:O Nat}{M:O aN}{a:Key}{x y no:Nat}(d:c8 P (t+1) n none none q M)(hs:bE n<=282)(hf:my Q n [a] [x,y])(i:∀z∈q,P z=Q z)(j:c no=some ⟨false,[a],[],[x,y]⟩)(k:∀z∈x::y::q,Q z=c z)(hx:x<1600)(m:y<1600):
 cz a/\∃pages,eM c (t+2) none none no pages M/\pages.Perm (no::x::y::q):=by
 have o:232<bE n:=by
  rcases hf with ⟨_,z,e,_⟩|⟨h,_⟩
  .cases e
  .exact h
 obtain⟨f,aw,ay,g,_⟩:=d.fits (d.yh I) (λ_=>I) (λ_=>I) hf i;have l:c8 Q (t+2) ⟨false,[a],[],[x,y]⟩ none none f M:=⟨rfl,rfl,g,λz b=>by
  simp only[cY,fo,fy]at b;rcases b with rfl|rfl<;>assumption,aw⟩
 refine⟨g a (by simp),no::f,l.lay (by simp) j λz b=>k z ?_,List.Perm.cons no ay⟩;have:=ay.mem_iff.1 b;simpa using this
theorem nL{a b:O Nat}:a.Perm b↔∀x,a.count x=b.count x:=List.perm_iff_count
theorem mF{q l m r:O Nat}{no:Nat}(h:(q++l).Perm (m++r)):(q++(l++ [no])).Perm (m++(no::r)):=by
 rw[nL]at h⊢;intro x;have:=h x;simp only[nZ,pJ,pK]at this⊢;omega
theorem iY{q l m r eo ps ms ls rest:O Nat}(h:(q++l).Perm (m++r))(h2:eo.Perm (ms++(rest++q)))(a:ps.Perm (ls++rest)):(eo++(l++ls)).Perm ((m++ms)++(ps++r)):=by
 rw[nL]at h h2 a⊢;intro x;have:=h x;have:=h2 x;have:=a x;simp only[nZ,pJ,pK]at*;omega
theorem mG{aM r ps a:O Nat}{u:Nat}(h:aM.Perm (r++(u::(ps++a)))):aM.Perm (u::((ps++r)++a)):=by
 rw[nL]at h⊢;intro x;have:=h x;simp only[nZ,pJ,pK]at*;omega
theorem IM{w:J}{T:aK}{c:dz}{d:O dx}{k:Key}{aM cJ:O Nat}{dM A B M:O aN}{lo hi:av Key}{ws:ad}{n:aF}{K V D:ad}(h:dg w T c)(bL:kt (λq=>¬T.M q) w ws d)(bs:bU (λq=>¬T.M q) w n K V D)(eB:0<d.length)(hlen:d.length=T.aL)(eC:T.aL<12)
 (eD:T.C.D.a7<=900000000) (eE:2*T.aL+3<=cl T) (eF:c.made.length<=100) (eG:c.left.length<=100) (cm:Ctx T.P k d.length 1 lo hi ((d.take (d.length-1)).map dx.st) cJ A B) (L:c8 T.P 1 n lo hi [] M) (am:A++(M++B)=dM)
 (N:aM.Perm ((d[d.length-1]'I).no::cJ)) (bt:bE n<=282) (aZ:2<=d.length->n.keys≠ []) (Q:∀x∈cJ,T.f x=true):
 aI aj 187 #[.pointer (some c.cb),ws,dd n K V D] w (mE T c aM dM w):=by
 refine okF (ae.oH (some c.cb) ws n.leaf K V D) ax.oH func187 ?_;(delta ae.oH aT Y r1 z4 aq ak aP aG st p6 xE gb ey;dsimp only);refine a8 (vs:=dY n K V D) rfl λw1 cn co eH=>?_;obtain⟨bV,aU,ba,bh⟩:=bK cn;refine⟨_,bV,K,aU,V,ba,D,bh,a8 (vs:=[false,(),(),()]) rfl λeI bM cp eJ=>⟨bM.cj rfl fI,rfl,cN bM (us:=dY n K V D) rfl rfl λbv bw cr eL=>?_⟩⟩;have bO:Ext w bv:=co.trans (Ext.cu cp cr (bl _));obtain⟨g4,cx⟩:∃g4,g4=w1.heap.size:=⟨_,rfl⟩;rw[←cx]at bw⊢;obtain⟨bN,bx⟩:∃bN,bN=λq=>T.E q\/q=g4:=⟨_,rfl⟩;have cD:∀q,T.E q->bN q:=λq F=>by rw[bx];exact .inl F
 have a0:∀q,bN q->T.E q\/q=g4:=λq F=>by rw[bx]at F;exact F
 have cE:bN g4:=by rw[bx];exact .inr rfl
 have eN:=bw.lt;have cF:dg bv (T.cv bN T.G) c:=h.of (W:=λ_=>False) (h.t.grow (W:=λ_=>False) bO (λ_ h=>h.elim) (λq F=>(a0 q F).imp id λe=>.inr ⟨I,I⟩) (λq F=>.inr (.inl F)) λq F hg=>by
  rcases a0 q F with h1|h1
  .exact(h.t.dU q h1).2.2 hg
  .have:=h.t.lt (q:=q) (.inr (.inr (.inr (.inr hg))));omega) bO (λ_ _ h=>h) rfl λ_ h=>h
 have bQ:bS T (T.cv bN T.G) w bv 0:=(bS.refl T w).step (W:=λ_=>False) bO (λ_ h=>h.elim) (λq F=>(a0 q F).imp id λe=>.inr I) λq F=>.inl F;have conv:∀ (v:aa) (w':J),mE (T.cv bN T.G) c aM dM w1 v w'->mE T c aM dM w v w':=λv w' hu=>hu.local co (λq F=>(a0 q F).imp id λe=>I) cD;obtain⟨bP,an⟩:∃bP,bP=T.cv bN T.G:=⟨_,rfl⟩;have bR:=bL.to bQ;have bT:bU (λq=>¬(T.cv bN T.G).M q) bv n K V D:=(bQ.cg (lo:=0) (bs.a_ λq _ R=>⟨cP _,R⟩)).a_ λq _ R=>R.2;have cH:bP.P=T.P:=by rw[an];rfl
 have bW:bP.f=T.f:=by rw[an];rfl
 have dI:bP.E g4:=by rw[an];exact cE
 have eO:cl bP=cl T:=by rw[an];rfl
 have dJ:bP.C=T.C:=by rw[an];rfl
 have dK:bP.aL=T.aL:=by rw[an];rfl
 rw[←an]at cF bR bT conv;clear an bQ bx cD a0 cE;have eP:g4=w1.heap.size:=cx;have eQ:ws.len=d.length:=by
  have:=bL.own.1;rw[fD _ (nJ d)]at this;omega
 refine⟨λn10 w'=>∃ (i:Nat) (au:aK) (c':dz) (m l:O Nat) (n:aF) (K V D:ad) (lo hi:av Key) (cJ:O Nat) (A B:O aN) (q:O Nat) (M:O aN) (r:O Nat),n10=(i:Nat)/\IJ bP c w1 d k aM dM ws g4 i w' au c' m l n K V D lo hi cJ A B q M r,λn10 _=>(n10+1).toNat,
  ⟨d.length-1,bP,c,[],[],n,K,V,D,lo,hi,cJ,A,B,[],M,[],?_,?_⟩,?_⟩
 .rw[br I I];omega
 .have e:d.length-(d.length-1)=1:=by omega
  refine⟨I,cF,(dh.ext bP c (Ext.cu cp cr (bl _))).mono I,cP _,cP _,bw,bT,bR,by rw[e,cH];exact cm,by rw[e,cH];exact L,am,by simpa using N,List.Perm.refl _,bt,λh1=>aZ I,λx hx=>by rw[bW];exact Q x (by simpa using hx)⟩
 clear cm L am N bt aZ Q bs bT bw bL bR cn bV aU ba bh bM;rintro _ bX ⟨i,au,c',m,l,n,K,V,D,lo,hi,cJ,A,B,q,M,r,rfl,g⟩;have cI:=g.ou;have bz:=g.to.cb;refine⟨λ_=>aX ?_,λR=>?_⟩
 rotate_left
 .have:¬(i:Int)>=0:=cC R
  omega
 have aJ:Ext bX bX.drew:=cA _;obtain⟨bZ,dL⟩:∃bZ,bZ=bX.drew:=⟨_,rfl⟩;rw[←dL]at aJ⊢;have a5:=g.ze.ext aJ;have cK:=a5.cells.2.2;rw[bz]at cK;have cL:kt (λq=>¬au.M q) bZ ws d:=g.ib.to (bS.ext au aJ);obtain⟨a6,b0,eR,dN,dO,_⟩:=cL.at cI;have eS:c'.left.length<=200:=by rw[g.to.left,ct];have:=g.ll;omega
 have dP:c'.made.length<=200:=by rw[g.to.made,ct];have:=g.pn;omega
 obtain⟨aO,cM,aw,ay,aQ,az,aC⟩:=CW a5 (d[i]).no I;rw[bz]at aQ az aC;have dQ:∀n,(a6.add n).block=a6.block:=λn=>by unfold Addr.add;split<;>rfl
 have dR:∀q,aB c'.gv q->au.M q:=λq F=>.inr (.inr (.inr (.inr (a5.kO q F).1)));refine⟨aB c'.gv,_,rfl,λF=>(a5.kO _ F).2 (by rw[bz,aA]),c'.gv,cK,a6,b0,⟨I,I⟩,λF=>dN (dR _ ((dQ _)▸F)),_,by rw[di];exact dO,aX ⟨af.cW (dc _ _),aO,cM,aw,ay,_,rfl,by rw[aA];exact aQ,by rw[aA];exact az,aX ?_⟩⟩;rw[aA,cT];obtain⟨U,cQ⟩:∃U,U=cM.setCell ⟨c.cb,2,none⟩ aO:=⟨_,rfl⟩;rw[←cQ];obtain⟨ac,a9⟩:=aC U cQ;have b1:=dh.leave (c:=c') (c':=⟨c.cb,c'.ma,aO,c'.made,c'.left++ [(d[i]).no]⟩) (no:=(d[i]).no) a9 rfl (λq F=>.inl F) bz.symm rfl rfl;have X:=(g.to.trans (dh.ext au c' aJ)).trans b1;simp only[fx,ly]at X;have cS:au.E g4:=by rw[g.to.E];exact dI
 have b2:=(g.g4.ext aJ).ah a9.ah (a5.t.kL cS);have b3:=cL.to a9;have bb:bU (λq=>¬(au.cv au.E λq=>au.G q\/aB aO q).M q) U n K V D:=(a9.cg (lo:=0) ((g.cg.ext aJ).a_ λq _ R=>⟨cP _,R⟩)).a_ λq _ R=>R.2;obtain⟨bY,aR⟩:∃bY,bY=au.cv au.E λq=>au.G q\/aB aO q:=⟨_,rfl⟩;have bk:bY.P=au.P:=by rw[aR];rfl
 have bf:bY.f=au.f:=by rw[aR];rfl
 have eU:cl bY=cl au:=by rw[aR];rfl
 have cV:bY.E g4:=by rw[aR];exact cS
 have cZ:bY.aL=T.aL:=by rw[aR];show au.aL=_;rw[g.to.aL,dK]
 rw[←aR]at ac a9 b1 X b3 bb;obtain⟨ba,bA⟩:∃ba:dz,ba=⟨c.cb,c'.ma,aO,c'.made,c'.left++ [(d[i]).no]⟩:=⟨_,rfl⟩;rw[←bA]at ac b1 X;have hW:ba.cb=c.cb:=by rw[bA]
 have eo:ba.made.length<=200:=by rw[bA];exact dP
 have eV:ba.left.length<=201:=by rw[bA,ct,jd];omega
 obtain⟨dT,b_,bu,dV⟩:=bK b2;have c0:=bI.len bb.keys;have c1:∀ (w':J) (v:aa),Ext U w'->(∀ {cX bh bc},cX=bY->bh=ba->bc=l++ [(d[i]).no]->((v=.tuple #[(0:Int),(0:Int),(0:Int)]/\dM=[]/\bc.Perm (m++aM)/\m.length<=2*bP.aL+3)\/
  (∃ (root h:Nat) (pages:O Nat),v=.tuple #[root,h,(0:Int)]/\eM (aK.P cX) h none none root pages dM/\(pages++bc).Perm (m++aM)/\1<=h/\h<=bP.aL+1/\m.length<=2*bP.aL+3)\/
  (∃a b:Int,v=.tuple #[a,b,(3:Int)]/\¬bP.C.D.calm 60)))->mE T c aM dM w v w':=by
  intro w' v hx hd;refine conv v w' ⟨bY,ba,m,l++ [(d[i]).no],?_,?_,hd (bh:=ba) rfl rfl rfl⟩
  .exact ac.ext hx
  .have:=(X.trans (dh.ext bY _ hx)).mono (j:=60) I
   simp only[fx]at this;exact this
 refine cw (λb w'=>(b=true↔(i=0/\n.keys=[]))/\U=w') (λZ bd=>⟨λh0=>⟨K,b_,bd _ _ ⟨?_,rfl⟩⟩,λh0=>bd _ _ ⟨?_,rfl⟩⟩) ?_
 .have h0:i=0:=by
   have:(i:Int)=0:=by simpa using h0
   omega
  rw[j2];constructor
  .intro h1
   exact⟨h0,wT I⟩
  .rintro⟨_,h1⟩
   rw[h1]at c0;simp at c0;omega
 .have h0:i≠0:=by
   have:¬(i:Int)=0:=by simpa using h0
   omega
  exact⟨λh=>(by cases h),λh=>absurd h.1 h0⟩
 rintro eW _ ⟨c2,rfl⟩;refine⟨λR=>?_,λR=>?_⟩
 .obtain⟨h0,c4⟩:=c2.1 R
  subst h0;have be:Ext U U.drew:=cA _;obtain⟨dW,dX,dZ,d0⟩:=bK (b2.ext be);have c5:=(ac.ext be).cells.1;rw[hW]at c5;have d6:=(ac.ext be).t.cells.2.2.2.2;obtain⟨t1,t2,t3,t4,t5,t6⟩:=Ctx.C8 (by simpa using g.ctx);have L:=g.jm;have N:=g.pp;have am:=g.eq;have ai:=mF (no:=(d[0]).no) g.acc;subst t2 t3 t4 t5 t6;rw[hY,fx]at am;rw[fx]at N;subst am;have c6:n.leaf=false->∃x,n.kids=[x]/\1<=bY.aL/\eM au.P (bY.aL-1) none none x q M/\1<=bY.aL-1:=by
   intro aD;have e:d.length-0=bY.aL:=by rw[cZ];omega
   rw[e]at L
   cases ht:bY.aL with
   |zero=>omega
   |succ t=>
    rw[ht]at L
    cases t with
    |zero=>
     have:=L.1.leaf;rw[aD]at this;cases this
    |succ t=>
     obtain⟨v1,v2,bg,bi,bB⟩:=L;rw[c4]at bB;generalize eX:n.kids=eY at bB
     cases bB with
     |one h=>exact⟨_,rfl,I,h.1,I⟩
  refine aX ⟨λ_=>False,id,_,dW,K,dX,V,dZ,D,d0,_,rfl,id,_,c5,_,rfl,id,_,d6,(qz (bb.ext be) bY.aL I λaD=>by obtain⟨x,a1,a2,_⟩:=c6 aD;exact⟨x,a1,a2⟩).use ?_⟩;rintro v w' ⟨rfl,b5⟩;have c7:=be.trans b5
  cases aD:n.leaf with
  |true=>
   rw[if_pos rfl];have c9:=L.leaf;rw[aD]at c9;have b6:d.length-0=1:=cf c9.symm;rw[b6]at L;obtain⟨v1,v2,bg,bi⟩:=L;subst bg;refine⟨_,_,_,rfl,b5,c1 w' _ c7 λ{cX bh bc} a1 a2 a3=>.inl ⟨rfl,?_,?_,by have:=g.pn;omega⟩⟩
   .rw[bi];unfold aF.dB;rw[c4];rfl
   .subst a3
    rw[nL]at ai N⊢;intro x;have:=ai x;have:=N x;simp only[nZ,pJ,pK]at*;omega
  |false=>
   rw[if_neg (by simp)];obtain⟨x,a1,a2,a3,a4⟩:=c6 aD;refine⟨_,_,_,rfl,b5,c1 w' _ c7 λ{cX bh bc} cy b4 aS=>.inr (.inl ⟨_,_,q,rfl,?_,?_,a4,?_,by have:=g.pn;omega⟩)⟩
   .subst cy
    have d7:n.kids.getD 0 0=x:=by rw[a1];rfl
    rw[d7,bk];exact a3
   .subst aS
    rw[nL]at ai N⊢;intro x;have:=ai x;have:=N x;simp only[nZ,pJ,pK]at*;omega
   .omega
 .have aZ:n.keys≠ []:=λe=>by
   rcases nY i with h0|h0
   .have:=c2.2 ⟨h0,e⟩
    rw[R]at this;cases this
   .exact g.IK h0 e
  have eZ:bY.C.D.a7<=900000050:=by
   have:=X.to.a7;rw[dJ]at this;omega
  have c_:2<=cl bY:=by
   have:=X.room;have:=g.pn;omega
  have da:∀ms:O Nat,ms.length<=3->(m++ms).length<=2*bP.aL+3:=λms h=>by rw[ct];have:=g.pn;omega
  have db:∀j,j<=10->¬bY.C.D.calm j->¬bP.C.D.calm 60:=λj e0 bs hc=>bs (X.to.calm j (gf hc I));have b7:lX n:=g.jm.zc (λ_=>by have:=g.sz;omega) (λ_=>by have:=g.sz;omega) λ_=>aZ;refine cw (λp w'=>p=(if i=0 then none else some (a6.add ((i-1)*6)))/\U=w') (λZ bd=>⟨λh0=>⟨a6,b0,?_,bd _ _ ⟨?_,rfl⟩⟩,λh0=>bd _ _ ⟨?_,rfl⟩⟩) ?_
  .have h0:(i:Int)>0:=cf h0
   rw[br I I];omega
  .have h0:(i:Int)>0:=cf h0
   have e:(i:Int)-1=((i-1:Nat):Int):=by omega
   rw[br I I,if_neg I,e,di]
  .have h0:¬(i:Int)>0:=cC h0
   rw[if_pos I]
  rintro _ _ ⟨rfl,rfl⟩;refine⟨_,dT,K,b_,V,bu,D,dV,?_⟩;by_cases h0:i=0
  .subst h0
   rw[if_pos rfl];have bj:=IB ac bb b7 I c_ I;rw[hW]at bj;refine bj.use ?_;rintro _ aV ⟨aW,e,rfl,hf⟩;obtain⟨cX,bh,ms,S,H,bm,bn⟩:=hf.cs;have bC:=X.trans H;simp only[fx]at bC;have d8:bh.cb=c.cb:=by rw[H.cb,hW]
   rcases bn with ⟨rfl,ks,ao,aE⟩|⟨rfl,aH⟩
   .refine⟨aW,_,_,0,rfl,λh=>(by cases h),λ_=>⟨λ_=>?_,λh=>(by simp at h)⟩⟩
    obtain⟨t1,t2,t3,t4,t5,t6⟩:=Ctx.C8 (by simpa using g.ctx);have L:=g.jm;have N:=g.pp;have am:=g.eq;have bt:=g.sz;have ai:=mF (no:=(d[0]).no) g.acc;have Q:=g.C9;subst t2 t3 t4 t5 t6;rw[hY,fx]at am;rw[fx]at N Q;subst am;have d9:bY.n<=1600:=ac.t.s.bu;have b8:∀z∈q,au.P z=cX.P z:=λz ab=>by
     rw[←bk];exact((H.ew z (by rw[bf,Q z ab];rfl)).1).symm
    have ea:d.length-0=(d.length-1)+1:=by omega
    have de:cX.aL=d.length:=by rw[H.aL,cZ];omega
    rw[ea]at L;have df:∀aY x y,ks=[aY]->ms=[x,y]->cz aY/\x<1600/\y<1600:=λaY x y aw ay=>by
     subst aw ay;have dj:232<bE n:=by
      rcases ao with ⟨_,z,e,_⟩|⟨h,_⟩
      .cases e
      .exact h
     obtain⟨e1,_,_,aQ,_⟩:=L.fits (L.yh I) (λ_=>I) (λ_=>I) ao b8;have hx:=(H.jT x (by simp)).2;have e2:=(H.jT y (by simp)).2;exact⟨aQ aY (by simp),I,I⟩
    have dl:=IF S aE (λ_=>I) df (by have:=H.to.a7;omega) (by have:=H.room;have:=X.room;have:=g.pn;omega) (by rw[H.made,ct];omega);rw[d8]at dl;refine dl.use ?_;rintro v e3 eb;rcases eb with ⟨x,aw,ay,rfl,az,aC⟩|⟨aY,x,y,no,jk,fH,aw,ay,az,aC,ec⟩
    .subst aw ay
     refine⟨_,_,_,rfl,conv _ _ ⟨cX,bh,m++ [x],l++ [(d[0]).no],az,?_,.inr (.inl ⟨x,cX.aL,x::q,rfl,?_,?_,I,I,da [x] (by simp)⟩)⟩⟩
     .have:=(bC.trans (dh.ext cX bh aC)).mono (j:=60) I
      simp only[fx]at this;exact this
     .rcases ao with ⟨_,z,_,e,ab⟩|⟨_,e4,e5,_,e,_⟩
      .cases e
       rw[de,show d.length=d.length-1+1 from I];exact L.lay aZ ab b8
      .cases e
     .rw[nL]at ai N⊢
      intro z;have:=ai z;have:=N z;simp only[nZ,pJ,pK]at*;omega
    .subst aw ay
     obtain⟨a1,a2,a3⟩:=df aY x y rfl rfl;have ap:=bC.trans aC;simp only[fx]at ap;have dm:=ap.mono (j:=60) I;rcases ec with ⟨rfl,ca⟩|⟨rfl,ca⟩
     .have ed:∀z∈x::y::q,cX.P z=jk.P z:=λz ab=>by
       refine((aC.ew z ?_).1).symm;rw[H.f];simp only[cY]at ab;rcases ab with ab|ab|ab
       .simp[ab]
       .simp[ab]
       .rw[bf,Q z ab];simp
      obtain⟨_,pages,cy,b4⟩:=IL L bt ao b8 ca ed a2 a3;refine⟨_,_,_,rfl,conv _ _ ⟨jk,fH,m++ [x,y]++ [no],l++ [(d[0]).no],az,dm,.inr (.inl ⟨no,cX.aL+1,pages,rfl,?_,?_,I,I,by rw[cB];exact da [x,y,no] (by simp)⟩)⟩⟩
      .rw[de,show d.length+1=d.length-1+2 from I];exact cy
      .rw[nL]at ai N b4⊢
       intro z;have:=ai z;have:=N z;have:=b4 z;simp only[nZ,pJ,pK]at*;omega
     .refine⟨_,_,_,rfl,conv _ _ ⟨jk,fH,m++ [x,y]++ [no],l++ [(d[0]).no],az,dm,.inr (.inr ⟨_,_,rfl,λhc=>ca (H.to.calm 1 (X.to.calm 3 (gf hc I)))⟩)⟩⟩
   .refine⟨aW,_,_,3,rfl,λ_=>conv _ _ ⟨cX,bh,m++ms,l++ [(d[0]).no],S,bC.mono I,.inr (.inr ⟨0,0,rfl,db 2 I aH⟩)⟩,λh=>(by cases h)⟩
  .rw[if_neg h0]
   have dS:i-1<d.length:=by omega
   obtain⟨e6,dn,_,_,_,hu⟩:=b3.at dS;rw[b0]at dn;obtain rfl:=Option.some.inj dn;obtain⟨u,cc⟩:∃u,u=d[i-1]:=⟨_,rfl⟩;rw[←cc]at hu;have ee:(d.take i).map dx.st=(d.take (i-1)).map dx.st++ [u.st]:=by
    have:d.take i=d.take (i-1)++ [d[i-1]]:=by
     have e:i-1+1=i:=by omega
     rw[←j1 dS,e]
    rw[this,fL,cc];rfl
   obtain⟨dp,dq,ef,dr,ds,ps,b9,cq,eg,e7,e8,eh,ei,dt,cd⟩:=Ctx.up g.ctx ee g.jm g.ze.t.po g.sz;have b6:d.length-i+1=d.length-(i-1):=by omega
   rw[b6]at b9 dt cd;have ej:=(g.ze.t.eT _ _ eg).2.is;have e9:=ej.2.1.eK I;have Q:=g.C9;have bj:=IC ac bb hu b7.1 (by have:=g.sz;omega) (λ_=>b7) (λbD=>by
    obtain⟨o,no,rest,cy,b4,aS,bF,bG,du,_⟩:=cd bD;exact⟨o,no,cy,by rw[bk];exact b4,aS,bF,bG,du⟩) I I c_ I I
   rw[hW]at bj;refine bj.use ?_;rintro v aV cU;have e_:0<u.n.keys.length:=List.length_pos_iff.2 eh;have d9:bY.n<=1600:=ac.t.s.bu;have ce:∀ {cX:aK}{bh:dz}{ms ls:O Nat}{w':J}{ek:Nat},dh bY cX ba bh ms ls U w' ek->∀x,au.f x=true->au.P x=cX.P x:=λel x hx=>by
    rw[←bk];exact((el.ew x (by rw[bf,hx];rfl)).1).symm
   have em:(∃ (cX:aK) (bh:dz) (ms ls:O Nat) (s:ad) (a b:Int),v=.tuple #[s,a,b,(3:Int)]/\dg aV cX bh/\dh bY cX ba bh ms ls U aV 4/\¬bY.C.D.calm 4)\/
    (∃ (cX:aK) (bh:dz) (ms ls rest:O Nat) (s:ad) (al ag:Nat) (ks:O Key) (eo:O Nat) (ar:O aN),v=.tuple #[s,al,ag,(0:Int)]/\dg aV cX bh/\dh bY cX ba bh ms ls U aV 4/\ms.length<=2/\ls.length<=1/\lq (λq=>¬cX.M q) aV s ks ms/\
      c8 cX.P (d.length-(i-1)) (fR u.n al ag ks ms) dp dq eo ar/\dr++(ar++ds)=A++(M++B)/\eo.Perm (ms++(rest++q))/\ps.Perm (ls++rest)/\bE (fR u.n al ag ks ms)<=bE u.n+27/\u.n.keys.length<=(fR u.n al ag ks ms).keys.length+1/\
      al<=u.n.keys.length/\1<=ag/\ag<=u.n.kids.length):=by
    rcases cU with ⟨dj,s,e,rfl,hf⟩|⟨bD,cX,bh,rfl,aw,ay,aQ⟩|⟨bD,o,no,fa,fb,fc,s,e,dv,dw,dy,rfl,hf⟩
    .obtain⟨cX,bh,ms,S,H,bm,bn⟩:=hf.cs
     rcases bn with ⟨rfl,ks,ao,aE⟩|⟨rfl,aH⟩
     .obtain⟨eo,ar,cy,b4,aS,bF,bG⟩:=dt dj cX.P ks ms ao (λx hx=>ce H x (Q x (by
       rw[cq];simp only[cO,cY]at hx⊢;rcases hx with hx|hx
       .exact .inr (.inr (.inl hx))
       .exact .inl hx))) (λx hx=>by have:=(H.jT x hx).2;omega)
      exact .inr ⟨cX,bh,ms,[],ps,s,u.cR,u.cR+1,ks,eo,ar,rfl,S,H.mono I,bm,cP _,aE,cy,b4,aS,List.Perm.refl _,bF,bG,I,I,I⟩
     .exact .inl ⟨cX,bh,ms,[],s,_,_,rfl,S,H.mono I,λhc=>aH (gf hc I)⟩
    .exact .inl ⟨cX,bh,[],[],bJ,0,0,rfl,aw,ay.mono I,λhc=>aQ (gf hc I)⟩
    .obtain⟨fd,dA,rest,cy,b4,aS,bF,bG,du,dC,en⟩:=cd bD
     rw[cy]at dv;obtain rfl:=Option.some.inj dv;rw[bk,b4]at dw;obtain rfl:=Option.some.inj dw;obtain⟨cX,bh,ms,S,H,bm,bn⟩:=hf.cs;have ap:=dy.trans H;simp only[hY,fx]at ap;rcases bn with ⟨rfl,ks,ao,aE⟩|⟨rfl,aH⟩
     .obtain⟨eo,ar,d1,d2,d3,d4,d5⟩:=en cX.P ks ms ao (λx hx=>ce ap x (Q x (by
       rw[cq];simp only[cO,cY]at hx⊢;rcases hx with hx|hx
       .exact .inr (.inr (.inl (dC.mem_iff.2 (jC _ hx))))
       .exact .inl hx))) (λx hx=>by have:=(ap.jT x hx).2;omega)
      refine .inr ⟨cX,bh,ms,[dA],rest,s,u.cR-1,u.cR-1+2,ks,eo,ar,rfl,S,ap,bm,bl _,aE,d1,d2,d3,dC,d4,d5,I,I,?_⟩;rcases nY u.cR with ep|ep<;>omega
     .exact .inl ⟨cX,bh,ms,[dA],s,_,_,rfl,S,ap,λhc=>aH (dy.to.calm 2 hc)⟩
   clear cU;rcases em with ⟨cX,bh,ms,ls,aW,a,b,rfl,S,H,aH⟩|⟨cX,bh,ms,ls,rest,aW,al,ag,ks,eo,ar,rfl,S,H,bm,fe,aE,v1,v2,bg,bi,bB,er,es,et,eu⟩
   .exact⟨aW,_,_,3,rfl,λ_=>conv _ _ ⟨cX,bh,_,_,S,(X.trans H).mono I,.inr (.inr ⟨0,0,rfl,db 4 I aH⟩)⟩,λh=>(by cases h)⟩
   .refine⟨aW,_,_,0,rfl,λh=>(by cases h),λ_=>⟨λh=>?_,λ_=>?_⟩⟩
    .have:(i:Int)=0:=by simpa using h
     omega
    have bo:=hu.to H.to;refine⟨_,rfl,_,bo.aU,u.K,bo.ba,u.V,bo.bh,u.D,bo.fH,(qA bo.cg aE (fr:=al) (to:=ag) es I et eu I I I).use ?_⟩;rintro _ ff ⟨dD,d_,c3,rfl,ev,bp⟩;have dE:=b2.ah H.to.ah (ac.t.kL cV);have dF:=dE.ext bp;refine⟨_,dD,d_,c3,rfl,dF.cj rfl fI,rfl,cN dF (us:=dY (fR u.n al ag ks ms) dD d_ c3) rfl rfl λex ez bq fg=>⟨⟨i-1,cX,bh,m++ms,l++ [(d[i]).no]++ls,fR u.n al ag ks ms,dD,d_,c3,dp,dq,ef,dr,ds,eo,ar,ps++((d[i]).no::r),?_,?_⟩,?_⟩⟩
    .rw[br I I];omega
    .have dG:cX.E g4:=by rw[H.E];exact cV
     have ch:cX.M g4:=.inr (.inr (.inr (.inl dG)));have ci:=(X.trans H).trans (dh.ext cX bh bp);simp only[fx]at ci;have eA:bS bP cX w1 ex (4*(d.length-1-i)+4+0):=ci.to.step (E:=cX.E) (G:=cX.G) bq (λq e aD=>I) (λq F=>.inl F) λq F=>.inl F;have ck:∀x,au.f x=true->cX.f x=true:=λx hx=>by rw[H.f,bf,hx];rfl
     have bH:=b3.to H.to;refine⟨dS,(S.ext bp).C7 bq λq e=>.inl (by rw[e];exact dG),{ci.mono (j:=4*(d.length-1-(i-1))) I with to:=eA.mono I},?_,?_,ez,?_,?_,b9.agree λx hx=>ce H x (Q x (by rw[cq];simp[hx])),v1,by rw[v2];exact g.eq,?_,iY (mF g.acc) bg bi,I,λh1 e=>?_,λx hx=>?_⟩
     .rw[ct];have:=g.pn;omega
     .rw[ct,ct,jd];have:=g.ll;omega
     .refine(bU.ah ev bq λq F e=>?_).a_ λq _ F dH=>?_
      .subst e
       rcases F with F|F
       .exact F ch
       .have:=dE.lt;omega
      .rcases F with F|F
       .exact F dH
       .have:=S.t.lt dH;omega
     .refine⟨(bH.own.ext bp).ah bq λq F e=>bH.pk q F (by rw[e];exact ch),bH.pk,λx hx=>bU.ah ((bH.cg x hx).ext bp) bq λq F e=>F (by rw[e];exact ch)⟩
     .have this:aM.Perm ((d[i]'cI).no::(r++cJ)):=g.pp
      rw[cq]at this;rw[←cc];exact mG this
     .have h2:=ei (λbW=>by
       have:=congrArg List.length bW;rw[dk,cG,k1]at this;omega)
      rw[e,k1]at er;omega
     .rcases cO.1 hx with hx|hx
      .have:=bg.mem_iff.1 hx
       rcases cO.1 this with hx|hx
       .rw[H.f];simp[hx]
       .rcases cO.1 hx with hx|hx
        .refine ck x (Q x ?_)
         rw[cq];have:x∈ps:=bi.mem_iff.2 (im _ hx);simp[this]
        .exact ck x (Q x (by simp[hx]))
      .exact ck x (Q x (by rw[cq];simp[hx]))
    .rw[br I I]
     show((i:Int)-1+1).toNat<((i:Int)+1).toNat;omega
theorem IN{w:J}{T:aK}{c:dz}{dM:O aN}{n:aF}{K V D ws:ad}(r:ws.len=0)(h:dg w T c)(t:bU (λq=>¬T.M q) w n K V D)(P:T.C.D.a7<=900000000)(Q:2<=cl T)(R:c.made.length<=100)(S:c.left=[])
 (f:gU n) (g:n.keys≠ []) (u:bE n<=232) (y:n.dB=dM):
 aI aj 187 #[.pointer (some c.cb),ws,dd n K V D] w (mE T c [] dM w):=by
 refine okF (ae.oH (some c.cb) ws n.leaf K V D) ax.oH func187 ?_;(delta ae.oH aT Y r1 z4 aq ak aP aG st p6 xE gb ey;dsimp only);refine a8 (vs:=dY n K V D) rfl λw1 z A U=>?_;obtain⟨bV,aU,ba,bh⟩:=bK z;refine⟨_,bV,K,aU,V,ba,D,bh,a8 (vs:=[false,(),(),()]) rfl λW i B X=>⟨i.cj rfl fI,rfl,cN i (us:=dY n K V D) rfl rfl λj E F Z=>?_⟩⟩;have d:Ext w j:=A.trans (Ext.cu B F (bl _));refine⟨λn10 w'=>n10= -1/\j=w',λ_ _=>0,⟨by rw[r];decide,rfl⟩,?_⟩;rintro _ _ ⟨rfl,rfl⟩;refine⟨λh=>by simp at h,λ_=>?_⟩;obtain⟨d0,d1,d2,d3⟩:=bK E;refine⟨_,d0,K,d1,V,d2,D,d3,(C1 (h.ext d) I I I (t.ext d) (.inl f) u).use ?_⟩;intro v w' a;obtain⟨s,e,rfl⟩:=a.out;obtain⟨au,c',m,l,o,aa,G⟩:=(a.base d).cs;rcases G with ⟨rfl,ks,H,L⟩|⟨rfl,N⟩
 .refine⟨s,0,rfl,λh=>(by cases h),λ_=>?_⟩
  rcases H with ⟨_,x,rfl,rfl,hx⟩|⟨ab,_⟩
  .rcases L with ⟨b,p,rfl,_,e,a,_⟩|⟨b,p,ac,af,ag,rfl,e,_⟩
   .obtain rfl:x=p:=by simpa using e
    refine⟨_,rfl,⟨by decide,by show(0:Int)<((1:Nat):Int);decide⟩,_,by rw[aA,aA];exact a.cell,au,c',[x],[],l,o.mono I,.inr (.inl ⟨x,1,[x],rfl,⟨n,hx,f,λk g=>⟨λ_ e=>(by cases e),λ_ e=>(by cases e)⟩,g,rfl,y.symm⟩,List.Perm.refl _,bl _,I,by show 1<=_;omega⟩)⟩
   .cases e
  .omega
 .exact⟨s,3,rfl,λ_=>⟨au,c',m,[],l,o.mono I,.inr (.inr ⟨0,0,rfl,λhc=>N (gf hc I)⟩)⟩,λh=>(by cases h)⟩
def aK.nM(T:aK)(r h:Nat):aK:={T with root:=r,aL:=h}
theorem b7.IP{w w':J}{T:aK}{r h:Nat}(ht:b7 w T)(a:Var w' T.bj (lW (T.nM r h)) 243)(hc:af (λq=>q=T.bj) w w')(b:r<T.n)(c:h<=12):b7 w' (T.nM r h)/\bS T (T.nM r h) w w' 0:=
 ⟨⟨a,ht.s.ah hc λq d e=>ht.kq (e▸d),ht.ca.ah hc λq e=>.inl e,ht.kq,ht.dU,ht.js,ht.n,⟨b,c,ht.num.2.2⟩,ht.eT,ht.b6,ht.low⟩,
  ⟨rfl,rfl,rfl,rfl,rfl,rfl,rfl,rfl,rfl,rfl,bl _,λ_ h=>h,hc.mono λq _ e=>.inr (.inl e),λq h=>.inl h,λq h=>.inl h⟩⟩
def gL(T:aK)(pages:O Nat)(L:O aN):Prop:=(T.aL=0/\T.root=0/\pages=[]/\L=[])\/eM T.P T.aL none none T.root pages L
theorem C_{s t:Nat->al}:∀ {n:Nat},(∀i,s i=true->t i=true)->eS s n<=eS t n
 |0,_=>bl _
 |n+1,h=>by
  have h1:=C_ (n:=n) h
  show eS s n+(s n).toNat<=eS t n+(t n).toNat
  cases hs:s n with
  |false=>exact Nat.add_le_add h1 (cP _)
  |true=>rw[h n hs];exact Nat.add_le_add_right h1 _
def wB(T:aK)(aM:O Nat)(dM:O aN)(w:J)(v:aa)(w':J):Prop:=
 ∃au:aK,b7 w' au/\bS T au w w' 60/\au.E=T.E/\au.G=T.G/\
  ((v=.int .i64 2/\cl T<2*T.aL+3/\au=T)\/
   (v=.int .i64 0/\2*T.aL+3<=cl T/\(∃pages,cl T<=cl au+(2*T.aL+3)/\gL au pages dM/\pages.Nodup/\(∀no∈pages,no∈aM\/(T.f no||T.g no)=false)/\∀no,au.f no=true↔(no∈pages\/(T.f no=true/\no∉aM)))/\∀no,T.g no=true->au.P no=T.P no/\au.C.view no=T.C.view no)\/
   (v=.int .i64 3/\¬T.C.D.calm 60/\au.root=T.root/\au.aL=T.aL/\au.f=T.f/\∀no,(T.f no||T.g no)=true->au.P no=T.P no/\au.C.view no=T.C.view no))
theorem Da{l:O Nat}(h:∀x,l.count x<=1):l.Nodup:=List.nodup_iff_count.2 h
theorem IQ{w:J}{T:aK}{s:ad}{aM:O Nat}{dM:O aN}{n:aF}{K V D:ad}(h:b7 w T)(b1:¬T.C.D.ro)(c6:T.C.D.a7<=900000000)(y:T.aL<12)(b2:aM.Nodup)(aD:∀x∈aM,T.f x=true)(c7:aM.length<=5000)
 (b3:∀ (bN j:Nat->Prop) (w1:J) (aU:dz),dg w1 (T.cv bN j) aU->bS T (T.cv bN j) w w1 0->2*T.aL+3<=cl T->aU.made=[]->aU.left=[]->aI aj 187 #[.pointer (some aU.cb),s,dd n K V D] w1 (mE (T.cv bN j) aU aM dM w1)):
 aI aj 131 #[.pointer (some T.bj),s,dd n K V D] w (wB T aM dM w):=by
 have c8:=h.s.bu;refine ae.Fp (some T.bj) s n.leaf K V D w _ ?_;(delta ae.se aG bX ak aq st Y aT r1 p6 gQ;dsimp only);refine a8 (vs:=dY n K V D) rfl λw1 ab a_ c9=>a8 (vs:=[(0:Int)]) rfl λai bb bc c_=>aX ?_;have ac:Ext ai ai.drew:=cA _;obtain⟨bd,b4⟩:∃bd,bd=ai.drew:=⟨_,rfl⟩;rw[←b4]at ac⊢;have be:=(a_.trans bc).trans ac;have k:=h.ext be;obtain⟨ev,b5⟩:∃ev,ev=w1.heap.size:=⟨_,rfl⟩;rw[←b5]at bb⊢;refine⟨λ_=>False,_,rfl,id,_,k.cells.2.1,_,rfl,id,_,k.cells.2.2.2.2,(yZ k.s).use ?_⟩;rintro _ aE ⟨rfl,ag⟩;have aH:=be.trans ag;have R:=(bb.ext ac).ext ag;have b6:((T.n:Int)-eS (λi=>T.f i||T.g i) T.n)=(cl T:Nat):=by
  have:=nG (λi=>T.f i||T.g i) T.n;unfold cl;omega
 have b8:IntKind.wrap .i64 (IntKind.wrap .i64 (2*(T.aL:Int))+3)=((2*T.aL+3:Nat):Int):=by
  rw[br (n:=2*(T.aL:Int)) I I,br I I];omega
 rw[b6,b8];refine⟨_,rfl,ag,λal=>?_,λal=>?_⟩
 .have al:((cl T:Nat):Int)<((2*T.aL+3:Nat):Int):=cf al
  obtain⟨aw,ay⟩:=eB R (i:=0) (by simp);have ca:=dZ aE ev 0 (2:Int);have cc:=eA R (i:=0) (2:Int);have bf:=Ext.cu aH ca I;exact⟨aw,ay,aX ⟨2,cc.cell,T,h.ext bf,(bS.ext T bf).mono I,rfl,rfl,.inl ⟨rfl,I,rfl⟩⟩⟩
 have bg:2*T.aL+3<=cl T:=by
  have:¬((cl T:Nat):Int)<((2*T.aL+3:Nat):Int):=cC al;omega
 refine a8 (vs:=[.pointer (some T.bj),(),()]) rfl λcd bi ce da=>a8 (vs:=[.pointer none]) rfl λbk aJ bl db=>?_;obtain⟨cb,bm⟩:∃cb,cb=aE.heap.size:=⟨_,rfl⟩;obtain⟨eY,bn⟩:∃eY,eY=cd.heap.size:=⟨_,rfl⟩;rw[←bm]at bi⊢;rw[←bn]at aJ⊢;obtain⟨aw,ay⟩:=eB aJ (i:=0) (by simp);have am:=dZ bk eY 0 (.pointer (some cb));have aO:=eA aJ (i:=0) (.pointer (some cb));refine⟨aw,ay,aX ?_⟩;obtain⟨B,ch⟩:∃B,B=bk.setCell eY (.pointer (some cb)):=⟨_,rfl⟩;rw[←ch]at am aO⊢;have dc:=aH.size;have de:=am.size;have aP:Ext aE B:=Ext.cu (ce.trans bl) am I;have bo:=aH.trans aP;have bp:=R.ext aP;have bq:=(bi.ext bl).ah am I;have ci:=((ab.ext bc).ext ac).ext (ag.trans aP);obtain⟨bN,aQ⟩:∃bN,bN=λq=>T.E q\/q=ev:=⟨_,rfl⟩;obtain⟨j,aR⟩:∃j,j=λq=>T.G q\/q=cb:=⟨_,rfl⟩;have aS:∀q,bN q->T.E q\/q=ev:=λq c=>by rw[aQ]at c;exact c
 have an:∀q,j q->T.G q\/q=cb:=λq c=>by rw[aR]at c;exact c
 have bs:∀q,T.E q->bN q:=λq c=>by rw[aQ];exact .inl c
 have cj:∀q,T.G q->j q:=λq c=>by rw[aR];exact .inl c
 have aW:bN ev:=by rw[aQ];exact .inr rfl
 have ck:j cb:=by rw[aR];exact .inr rfl
 have df:=bp.lt;have dh:=bq.lt;have bt:b7 B (T.cv bN j):=h.grow (W:=λ_=>False) bo (λ_ h=>h.elim) (λq c=>(aS q c).imp id λe=>.inr ⟨I,I⟩) (λq c=>.inr ((an q c).imp id λe=>⟨I,I⟩)) λq c hg=>by
  rcases aS q c with h1|h1<;>rcases an q hg with h2|h2
  .exact(h.dU q h1).2.2 h2
  .have:=h.lt (q:=q) (.inr (.inr (.inr (.inl h1))));omega
  .have:=h.lt (q:=q) (.inr (.inr (.inr (.inr h2))));omega
  .have:=R.lt;omega
 have bv:bS T (T.cv bN j) w B 0:=(bS.refl T w).step (W:=λ_=>False) bo (λ_ h=>h.elim) (λq c=>(aS q c).imp id λe=>.inr I) λq c=>(an q c).imp id λe=>by omega
 have cm:dg B (T.cv bN j) ⟨cb,bJ,bJ,[],[]⟩:=⟨bt,bq,aV.none _ _ _,aV.none _ _ _,ck,λq c=>(fV q c).elim,λq c=>(fV q c).elim,b1⟩;have cn:=b3 bN j B _ cm bv bg rfl rfl;obtain⟨bV,aU,ba,bh⟩:=bK ci;refine⟨_,aO.cell,_,bV,K,aU,V,ba,D,bh,cn.use ?_⟩;rintro v F ⟨bP,u,m,l,bw,d,co⟩;have S:bP.E ev:=by rw[d.E];exact aW
 have ao:=bp.ah d.to.ah (bt.kL aW);have cr:¬(T.cv bN j).N eY:=by
  have di:cb<eY:=by rw[bm,bn];omega
  rintro(c|c|c|c)
  .have:=h.lt (q:=eY) (.inl c);omega
  .have:=h.lt (q:=eY) (.inr (.inl c));omega
  .have:=h.lt (q:=eY) (.inr (.inr (.inl c)));omega
  .rcases an eY c with h1|h1
   .have:=h.lt (q:=eY) (.inr (.inr (.inr (.inr h1))));omega
   .omega
 have bx:=aO.ah d.to.ah cr;have ap:u.cb=cb:=d.cb;have dj:bP.bj=T.bj:=d.to.bj;have ar:u.made=m:=d.made;have av:u.left=l:=d.left;have aY:eY≠ev:=by have:=R.lt;omega
 have bz:bS T bP w F 60:=(bv.trans d.to).mono I
 have fin:∀ (w':J) (au:aK),b7 w' au->bS T au w w' 60->au.E=bN->(∀q,T.G q->au.G q)->b7 w' (au.cv T.E T.G)/\bS T (au.cv T.E T.G) w w' 60:=by
  intro w' au hc ht bA bB;exact⟨hc.grow (W:=λ_=>False) (af.refl _ _) (λ_ h=>h.elim) (λq c=>.inl (by rw[bA];exact bs q c)) (λq c=>.inr (.inl (bB q c))) λq c=>(h.dU q c).2.2,
   ht.step (W:=λ_=>False) (af.refl _ _) (λ_ h=>h.elim) (λq c=>.inl (by rw[bA];exact bs q c)) λq c=>.inl (bB q c)⟩
 have bC:∀q,T.G q->bP.G q:=λq c=>d.G q (cj q c);have dk:=(a_).size;have aZ:∀ (w0:J) (au:aK) (c':dz) (x:Int),dg w0 au c'->bS T au w w0 60->au.E ev->dg (w0.setCell ev x) au c'/\bS T au w (w0.setCell ev x) 60:=λw0 au c' x hc ht he=>
  ⟨hc.C7 (dZ w0 ev 0 _) λq e=>.inl (by rw[e];exact he),ht.step (E:=au.E) (G:=au.G) (dZ w0 ev 0 _) (λq e a0=>I) (λq c=>.inl c) λq c=>.inl c⟩
 have dl:m.length<=1600:=by
  have:=d.room;have:cl (T.cv bN j)<=T.n:=by unfold cl;exact Nat.sub_le _ _
  omega
 have cs:(∃a b:Int,v=.tuple #[a,b,(3:Int)]/\¬T.C.D.calm 60)\/(∃ (root y:Nat) (pages:O Nat),v=.tuple #[root,y,(0:Int)]/\((y=0/\root=0/\pages=[]/\dM=[])\/eM bP.P y none none root pages dM)/\(pages++l).Perm (m++aM)/\y<=12/\m.length<=2*T.aL+3):=by
  rcases co with ⟨rfl,h1,h2,a1⟩|⟨root,y,pages,rfl,h1,h2,k,H,a1⟩|⟨a,b,rfl,a2⟩
  .exact .inr ⟨0,0,[],rfl,.inl ⟨rfl,rfl,rfl,h1⟩,h2,I,a1⟩
  .have H:y<=T.aL+1:=H
   exact .inr ⟨root,y,pages,rfl,.inr h1,h2,I,a1⟩
  .exact .inl ⟨a,b,rfl,a2⟩
 rcases cs with ⟨a,b,rfl,a2⟩|⟨root,o,pages,rfl,cw,bD,cx,dm⟩
 .
  obtain⟨aw,ay⟩:=eB ao (i:=0) (by simp);have z:=eA ao (i:=0) (3:Int);obtain⟨ax,az⟩:=aZ F bP u 3 bw bz S;have U:=bx.ah (dZ F ev 0 (3:Int)) aY;refine⟨a,b,3,rfl,aw,ay,aX ⟨3,z.cell,λ_=>⟨3,z.cell,?_⟩,λhx=>(by cases hx)⟩⟩;obtain⟨cy,cz⟩:=eB z (i:=0) (by simp);have a3:=eA z (i:=0) (3:Int);obtain⟨bE,bF⟩:=aZ _ bP u 3 ax az S;have a4:=U.ah (dZ _ ev 0 (3:Int)) aY;refine⟨cy,cz,aX (ae.Bh ev eY _ _ ?_)⟩;generalize dn:(F.setCell ev (3:Int)).setCell ev (3:Int)=bG at a3 bE a4 bF⊢;(delta ae.qt aG ak r1 gQ;dsimp only);have L:Ext bG bG.drew:=cA _;have p:=bE.ext L;have X:=C4 p p.ma.src (λq c=>(p.iE q c).1) (l:=u.made) (λx hx=>by rw[ar]at hx;rw[d.f];simp[hx]) (by rw[ar];exact d.cg) (by rw[ar];omega);rw[ap]at X;have Z:=p.cells.2.1;rw[ap]at Z;refine⟨3,a3.cell,λ_=>aX ⟨id,_,a4.drew.cell,id,_,a4.drew.cell,_,rfl,id,u.ma,Z,X.use ?_⟩,λhx=>(by cases hx)⟩;rintro _ bH ⟨rfl,bY,A,hg⟩;rw[ar]at hg;have cB:=(a3.ext L).ah hg.to.ah (p.t.kL S);have cD:bS T bY w bH 60:=((bF.trans (bS.ext bP L)).trans hg.to).mono I;obtain⟨f1,f2⟩:=fin bH bY A.t cD (by rw[hg.E];exact d.E) λq c=>by rw[hg.G];exact bC q c
  refine⟨rfl,3,cB.cell,_,f1,f2,rfl,rfl,.inr (.inr ⟨rfl,a2,hg.root.trans d.root,hg.aL.trans d.aL,?_,λno aa=>?_⟩)⟩
  .funext no
   show bY.f no=T.f no;rw[hg.f,d.f];by_cases r:no∈m
   .have:=(d.jT no r).1
    have e:(T.cv bN j).f no=T.f no:=rfl;rw[e]at this⊢
    cases a5:T.f no
    .simp[r]
    .rw[a5]at this;cases this
   .simp[r];rfl
  .have r:no∉m:=λr=>by
    have:=(d.jT no r).1;have e:((T.cv bN j).f no||(T.cv bN j).g no)=(T.f no||T.g no):=rfl;rw[e,aa]at this;cases this
   have h1:=hg.ew no (.inl r);have h2:=d.ew no aa;exact⟨h1.1.trans h2.1,h1.2.trans h2.2⟩
 .
  have Q:∀x,pages.count x+l.count x=m.count x+aM.count x:=λx=>by
   have:=nL.1 bD x;simpa only[nZ] using this
  have aB:∀x,m.count x+aM.count x<=1:=λx=>by
   have h1:=List.nodup_iff_count.1 d.cg x;have h2:=List.nodup_iff_count.1 b2 x;rcases nY (m.count x) with k|k
   .omega
   .rcases nY (aM.count x) with H|H
    .omega
    .have r:=j7.1 k
     have cE:=j7.1 H;have:=(d.jT x r).1;have e:((T.cv bN j).f x||(T.cv bN j).g x)=(T.f x||T.g x):=rfl;rw[e,aD x cE]at this;cases this
  have hlen:pages.length+l.length=m.length+aM.length:=by
   have:=bD.length_eq;simpa only[ct] using this
  have cF:∀x∈l,bP.f x=true:=λx hx=>by
   have h1:=j7.2 hx;have h2:=Q x;rw[d.f];rcases nY (m.count x) with k|k
   .have:x∈aM:=j7.1 I
    have e:(T.cv bN j).f x=T.f x:=rfl;rw[e,aD x this];rfl
   .have:x∈m:=j7.1 k
    simp[this]
  have cG:l.Nodup:=Da λx=>by have:=Q x;have:=aB x;omega
  obtain⟨aw,ay⟩:=eB ao (i:=0) (by simp);have z:=eA ao (i:=0) (0:Int);obtain⟨ax,az⟩:=aZ F bP u 0 bw bz S;have U:=bx.ah (dZ F ev 0 (0:Int)) aY;refine⟨_,_,0,rfl,aw,ay,aX ⟨0,z.cell,λhx=>(by cases hx),λ_=>aX ?_⟩⟩;generalize dp:F.setCell ev (0:Int)=bI at z ax U az⊢;have L:Ext bI bI.drew:=cA _;have p:=ax.ext L;have X:=C4 p p.gv.src (λq c=>(p.kO q c).1) (l:=u.left) (λx hx=>cF x (by rw[av]at hx;exact hx)) (by rw[av];exact cG) (by rw[av];omega);rw[ap]at X;have Z:=p.cells.2.2;rw[ap]at Z;refine⟨id,_,U.drew.cell,id,_,U.drew.cell,_,rfl,id,u.gv,Z,X.use ?_⟩;rintro _ M ⟨rfl,bY,A,hg⟩;rw[av]at hg;have cH:=(z.ext L).ah hg.to.ah (p.t.kL S);have bL:bS T bY w M 60:=((az.trans (bS.ext bP L)).trans hg.to).mono I;have a6:bY.bj=T.bj:=bL.bj;have bM:bY.E=bN:=by rw[hg.E];exact d.E
  have cI:bY.E ev:=by rw[bM];exact aW
  have bO:Var M T.bj (lW bY) 243:=by rw[←a6];exact A.t.t
  obtain⟨b9,cq⟩:=eB bO (i:=3) (by simp[lW]);have bQ:=eA bO (i:=3) root;have cJ:=dZ M T.bj 3 root;obtain⟨cK,cL⟩:=eB bQ (i:=4) (by simp[lW]);have bR:=eA bQ (i:=4) o;have cM:=dZ (M.setCell ⟨T.bj,3,none⟩ root) T.bj 4 o;refine⟨rfl,_,rfl,by rw[aA];exact b9,by rw[aA];exact cq,aX ⟨_,rfl,by rw[aA,aA];exact cK,by rw[aA,aA];exact cL,aX ?_⟩⟩;rw[aA,aA,cT,cT];have a9:af (λq=>q=T.bj) M ((M.setCell ⟨T.bj,3,none⟩ root).setCell ⟨T.bj,4,none⟩ o):=cJ.trans cM;generalize dq:(M.setCell ⟨T.bj,3,none⟩ root).setCell ⟨T.bj,4,none⟩ o=aC at bR a9⊢;have cN:∀x∈pages,x∉l:=λx hx a0=>by
   have h1:=j7.2 hx;have h2:=j7.2 a0;have:=Q x;have:=aB x;omega
  have bT:(o=0/\root=0/\pages=[]/\dM=[])\/(eM bY.P o none none root pages dM/\root∈pages):=cw.imp id λcO=>cO.agree λx hx=>((hg.ew x (.inl (cN x hx))).1).symm;have cP:root<bY.n:=by
   rcases bT with ⟨_,h1,_⟩|⟨h1,_⟩
   .have:=A.t.s.b_;omega
   .obtain⟨cg,_,h2,_⟩:=h1.jm
    exact(A.t.eT _ _ h2).1
  have cQ:Var aC bY.bj (lW (bY.nM root o)) 243:=by rw[a6];exact bR
  obtain⟨cR,cS⟩:=A.t.IP cQ (by rw[a6];exact a9) cP cx;have cU:ev≠T.bj:=λe=>by have:=h.lt (q:=T.bj) (.inr (.inl rfl));omega
  have bU:=cH.ah a9 cU;obtain⟨cV,cW⟩:=eB bU (i:=0) (by simp);have bW:=eA bU (i:=0) (0:Int);have bZ:=dZ aC ev 0 (0:Int);refine⟨cV,cW,aX (ae.Bh ev eY _ _ ?_)⟩;(delta ae.qt aG ak r1 gQ;dsimp only);refine⟨0,bW.cell,λhx=>(by cases hx),λ_=>⟨0,bW.cell,?_⟩⟩;have cX:b7 (aC.setCell ev (0:Int)) (bY.nM root o):=cR.grow (E:=bY.E) (G:=bY.G) bZ (λq e _=>.inl (by rw[e];exact cI)) (λq c=>.inl c) (λq c=>.inr (.inl c)) λq c=>(A.t.dU q c).2.2;have cY:bS T (bY.nM root o) w (aC.setCell ev (0:Int)) 60:=((bL.trans cS).mono I).step (E:=bY.E) (G:=bY.G) bZ (λq e a0=>I) (λq c=>.inl c) λq c=>.inl c;obtain⟨f1,f2⟩:=fin _ _ cX cY bM λq c=>by
   show bY.G q;rw[hg.G];exact bC q c
  refine⟨_,f1,f2,rfl,rfl,.inr (.inl ⟨rfl,bg,⟨pages,?_,?_,Da λx=>by have:=Q x;have:=aB x;omega,λno hx=>?_,λno=>?_⟩,λno aa=>?_⟩)⟩
  .have h1:cl bP+m.length=cl T:=d.room
   have h2:cl bP<=cl (bY.nM root o):=by
    show bP.n-_<=bY.n-eS (λi=>bY.f i||bY.g i) bY.n;rw[hg.to.n];have:=C_ (s:=λi=>bY.f i||bY.g i) (t:=λi=>bP.f i||bP.g i) (n:=bP.n) λi hi=>by
     rw[hg.f,hg.to.g]at hi;rw[jb,c5]at hi;rw[jb];exact hi.imp And.left id
    omega
   show cl T<=cl (bY.nM root o)+_;omega
  .rcases bT with ⟨h1,h2,k,H⟩|⟨h1,_⟩
   .exact .inl ⟨h1,h2,k,H⟩
   .exact .inr h1
  .have h1:=j7.2 hx
   have h2:=Q no;rcases nY (aM.count no) with k|k
   .have r:no∈m:=j7.1 I
    exact .inr (d.jT no r).1
   .exact .inl (j7.1 k)
  .show bY.f no=true↔_
   rw[hg.f,d.f];have e:(T.cv bN j).f no=T.f no:=rfl;rw[e];have dr:=Q no;have A:=aB no;have b0:no∈m↔0<m.count no:=j7.symm;have ab:no∈aM↔0<aM.count no:=j7.symm;have cZ:no∈l↔0<l.count no:=j7.symm;have c0:no∈pages↔0<pages.count no:=j7.symm;have c1:0<aM.count no->T.f no=true:=λh=>aD no (ab.2 h);have c2:0<m.count no->T.f no=false:=λh=>by
    have:=(d.jT no (b0.2 h)).1;have e:((T.cv bN j).f no||(T.cv bN j).g no)=(T.f no||T.g no):=rfl;rw[e]at this
    cases a5:T.f no
    .rfl
    .rw[a5]at this;cases this
   rw[c5,jb,cp,iJ,jY,b0,ab,cZ,c0];constructor
   .rintro⟨h1|h1,h2⟩
    .by_cases k:0<aM.count no
     .left;omega
     .exact .inr ⟨h1,k⟩
    .left;omega
   .rintro(h1|⟨h1,h2⟩)
    .refine⟨?_,I⟩
     by_cases k:0<aM.count no
     .exact .inl (c1 k)
     .right;omega
    .refine⟨.inl h1,λk=>?_⟩
     have:0<m.count no:=by omega
     rw[c2 this]at h1;cases h1
  .have c3:(T.f no||T.g no)=true:=by rw[aa];simp
   have c4:bP.g no=true:=by rw[d.to.g];exact aa
   have h1:=hg.ew no (.inr c4);have h2:=d.ew no c3;exact⟨h1.1.trans h2.1,h1.2.trans h2.2⟩
theorem Db{ks:O Key}{k:Key}{i:Nat}(hs:ks.Pairwise bt)(h1:cI ks k<=i)(hi:i<ks.length)(d:ks[cI ks k]? ≠some k):bt k ks[i]:=by
 rcases o1.1 (qK hs h1 hi) with h2|h2
 .exact h2
 .exfalso
  rcases ei (cI ks k) i with a|a
  .have b:cI ks k<ks.length:=by omega
   have f:=qK hs (bl _) b;have c:=kZ.1 hs _ _ b hi a;rw[←h2]at c;exact f c
  .have e:i=cI ks k:=by omega
   apply d;subst e;rw[dH hi,←h2]
theorem zf{n:aF}(h:gU n){i:Nat}(hi:i<=n.keys.length):∃a b c d:O Key,n.keys=a++b/\n.vals=c++d/\a.length=i/\c.length=i/\b.length=d.length/\n.keys.take i=a/\n.keys.drop i=b/\n.vals.take i=c/\n.vals.drop i=d:=by
 have e:=h.len;refine⟨n.keys.take i,n.keys.drop i,n.vals.take i,n.vals.drop i,(fK i _).symm,(fK i _).symm,?_,?_,?_,rfl,rfl,rfl,rfl⟩
 .rw[cG];omega
 .rw[cG];omega
 .rw[ed,ed];omega
def ku(k v:Key):Nat:=2+k.length+v.length
theorem q4{n:aF}(h:n.leaf=true):bE n=1+(List.zipWith ku n.keys n.vals).sum:=by
 unfold bE;rw[if_pos h,lj h];rfl
theorem IS{n:aF}{k v:Key}(h:gU n)(B:cz k)(C:v.length<=24):gU (g3 n k v)/\(g3 n k v).dB=gn n.dB k v/\bE (g3 n k v)<=bE n+50/\(g3 n k v).keys≠ []/\n.keys.length<=(g3 n k v).keys.length/\(∀s∈(g3 n k v).keys,s=k\/s∈n.keys):=by
 have hlen:=h.len;have D:=qJ n.keys k;have J:n.dB=n.keys.zip n.vals:=rfl;have E:=h.eW;have F:∀ (j:Nat) (m:j<n.keys.length),j<cI n.keys k->bt n.keys[j] k:=λj m h1=>o3 h1 m;have G:n.keys[cI n.keys k]? ≠some k->∀ (j:Nat) (m:j<n.keys.length),cI n.keys k<=j->bt k n.keys[j]:=λhe j m h1=>Db E h1 m he;rw[J,GK h.eW];unfold g3 g2;generalize hi:cI n.keys k=i at D F G⊢;obtain⟨a,b,c,d,g,t,K,L,M,p,q,w,A⟩:=zf h D;have f:n.keys.zip n.vals=a.zip c++b.zip d:=by rw[g,t];exact o2 I
 have u:(a.zip c).length=i:=by rw[nS];omega
 by_cases he:n.keys[i]? =some k
 .rw[if_pos (by simpa using he),if_pos he]
  have N:∃o,b=k::o:=by
   cases b with
   |nil=>rw[g,iq I]at he;simp at he
   |cons y o=>
    rw[g,iq I,K,nP]at he;simp at he;exact⟨o,by rw[he]⟩
  obtain⟨o,rfl⟩:=N;obtain⟨x,l,rfl⟩:∃x l,d=x::l:=by
   cases d with
   |nil=>simp at M
   |cons x l=>exact⟨x,l,rfl⟩
  have H:n.vals.set i v=c++v::l:=by
   rw[t,tb _ _ I,L,nP];rfl
  refine⟨⟨⟨h.ok,h.eW⟩,h.leaf,by simp[hlen],h.kids,λz f=>?_⟩,?_,?_,λe=>by have e:n.keys=[]:=e;rw[e]at g;simp at g,bl _,λs hs=>.inr hs⟩
  .rcases mX f with h1|h1
   .exact h.vals z h1
   .rw[h1];exact C
  .show n.keys.zip (n.vals.set i v)=_
   rw[H,f,g,o2 I,mA u];have O:(a.zip c++(k::o).zip (x::l)).drop (i+1)=o.zip l:=by
    rw[List.zip_cons_cons,show a.zip c++(k,x)::o.zip l=(a.zip c++ [(k,x)])++o.zip l by simp];exact drop_left' (by simp only[ct,u,jd])
   rw[O];rfl
  .rw[q4 h.leaf,q4 (n:={n with vals:=n.vals.set i v}) h.leaf]
   show 1+(List.zipWith ku n.keys (n.vals.set i v)).sum<=_;rw[H,g,t,pH I,pH I,lC,lC,List.zipWith_cons_cons,List.zipWith_cons_cons,rl,rl];unfold ku;omega
 .rw[if_neg (by simpa using he),if_neg he]
  have P:=G he;refine⟨⟨⟨λz f=>?_,?_⟩,h.leaf,?_,h.kids,λz f=>?_⟩,?_,?_,λe=>?_,?_,λs hs=>?_⟩
  .have f:z∈n.keys.take i++ [k]++n.keys.drop i:=f
   simp only[cO,fg]at f;rcases f with (f|rfl)|f
   .exact h.ok z (fM f)
   .exact B
   .exact h.ok z (fJ f)
  .show(n.keys.take i++ [k]++n.keys.drop i).Pairwise bt
   rw[p,q];have Q:(a++b).Pairwise bt:=by rw[←g];exact E
   obtain⟨aw,ay,R⟩:=l8.1 Q;have S:∀x∈a,bt x k:=λx hx=>by
    obtain⟨j,m,rfl⟩:=e2 hx;have:=F j (by rw[g,ct];omega) I;simp only[g,nV m]at this;exact this
   have T:∀y∈b,bt k y:=λy r=>by
    obtain⟨j,m,rfl⟩:=e2 r;have:=P (i+j) (by rw[g,ct];omega) I;have e:(a++b)[i+j]'(by rw[ct];omega)=b[j]:=by
     rw[pF I];congr 1;omega
    simp only[g,e]at this;exact this
   rw[cB];refine l8.2 ⟨aw,?_,λx hx y r=>?_⟩
   .exact jD.2 ⟨T,ay⟩
   .rcases cY.1 r with rfl|r
    .exact S x hx
    .exact R x hx y r
  .show(n.vals.take i++ [v]++n.vals.drop i).length=(n.keys.take i++ [k]++n.keys.drop i).length
   rw[p,q,w,A];simp only[ct,jd];omega
  .have f:z∈n.vals.take i++ [v]++n.vals.drop i:=f
   simp only[cO,fg]at f;rcases f with (f|rfl)|f
   .exact h.vals z (fM f)
   .exact C
   .exact h.vals z (fJ f)
  .show(n.keys.take i++ [k]++n.keys.drop i).zip (n.vals.take i++ [v]++n.vals.drop i)=_
   rw[p,q,w,A,f,mA u,drop_left' u,cB,cB,o2 I];rfl
  .rw[q4 h.leaf,q4 (n:={n with keys:=n.keys.take i++ [k]++n.keys.drop i,vals:=n.vals.take i++ [v]++n.vals.drop i}) h.leaf]
   show 1+(List.zipWith ku (n.keys.take i++ [k]++n.keys.drop i) (n.vals.take i++ [v]++n.vals.drop i)).sum<=_;have aw:(List.zipWith ku (a++ [k]++b) (c++ [v]++d)).sum=(List.zipWith ku a c).sum+(ku k v+(List.zipWith ku b d).sum):=by
    rw[cB,cB,pH I,lC];rfl
   have ay:(List.zipWith ku (a++b) (c++d)).sum=(List.zipWith ku a c).sum+(List.zipWith ku b d).sum:=by
    rw[pH I,lC]
   rw[p,q,w,A,g,t,aw,ay];have:=B.2;unfold ku;omega
  .have e:n.keys.take i++ [k]++n.keys.drop i=[]:=e
   simp at e
  .show n.keys.length<=(n.keys.take i++ [k]++n.keys.drop i).length
   rw[p,q,g];simp only[ct,jd];omega
  .have hs:s∈n.keys.take i++ [k]++n.keys.drop i:=hs
   simp only[cO,fg]at hs;rcases hs with (hs|rfl)|hs
   .exact .inr (fM hs)
   .exact .inl rfl
   .exact .inr (fJ hs)
end Go.Proofs.YtcmgnhkpfllinaaGreat
