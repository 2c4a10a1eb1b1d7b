/- Contracts of the functions that the statement reaches, and the plain laws over them; each theorem stands with its conditions. -/
import Derived.Laws.Small
import Derived.Test.YtcmgnhkpfllinaaGreatBSFew3
namespace Go.Proofs.YtcmgnhkpfllinaaGreat
open Go aQ Go.Proofs.Tryz
theorem CG{h:Nat}{n:aD}(a:n.leaf=decide (h=0)):((((h+1:Nat):Int):Int)==1)=n.leaf:=by
 rw[a,fC,kt,cq];omega
theorem yZ{w:J}{T:aK}{tk:ad}{k:Key}{steps:O (Nat×aD×Nat)}(h:b8 w T)(cm:T.C.D.a6<=900000000)(bw:Src 1 w tk (az k))(bz:∀q,aB tk q->q<w.heap.size/\¬T.M q)(bB:nL T.P k T.aL T.root steps):
 aJ aj 123 #[.pointer (some T.bg),tk] w (H4 T steps w):=by
 have cn:=h.num.2.1;refine okF (ae.uV (some T.bg) tk) ax.uV func123 ?_;(delta ae.uV aF ak k6 z4 Y aT r1 bY st aP aq;dsimp only);refine⟨_,rfl,_,h.cells.2.2.2.1,_,rfl,_,h.cells.2.2.2.2,λs n8 n9 w'=>∃ (eH no:Nat) (l:O dr) (rest:O (Nat×aD×Nat)) (bM:Nat->Prop) (aI:b2),n9=(eH:Nat)/\n8=(no:Nat)/\nL T.P k eH no rest/\l.map dr.st++rest=steps/\l.length+eH=T.aL/\
  bM=(λq=>T.E q\/aB s q)/\(∀q,aB s q->w.heap.size<=q)/\b8 w' ((T.cu bM T.G).bx aI T.P)/\bO T ((T.cu bM T.G).bx aI T.P) w w' (2*l.length)/\(∀j,aI.view j=T.C.view j)/\aW 6 223 w' s (bu dr.c l)/\
  ∀x∈l,bQ (λq=>w.heap.size<=q/\¬((T.cu bM T.G).bx aI T.P).M q) w' x.n x.K x.V x.D,λ_ _ n9 _=>n9.toNat,?_,?_⟩
 .have bC:T.E=λq=>T.E q\/aB ⟨none,0,0⟩ q:=by
   funext q;refine propext ⟨.inl,λh=>h.resolve_right ?_⟩;rintro⟨A,au,_⟩
   cases au
  have aZ:(T.cu T.E T.G).bx T.C T.P=T:=rfl;refine⟨T.aL,T.root,[],steps,T.E,T.C,rfl,rfl,bB,rfl,by simp,bC,?_,by rw[aZ];exact h,by rw[aZ];exact .refl _ _,λ_=>rfl,?_,λx hx=>(by cases hx)⟩
  .rintro q ⟨A,au,_⟩
   cases au
  .exact⟨rfl,bl _,by decide,.inl ⟨rfl,rfl⟩⟩
 have fin:∀ {w':J}{bM:Nat->Prop}{aI:b2}{s:ad}{k:Nat},b8 w' ((T.cu bM T.G).bx aI T.P)->bO T ((T.cu bM T.G).bx aI T.P) w w' k->bM=(λq=>T.E q\/aB s q)->(∀q,aB s q->w.heap.size<=q)->b8 w' (T.bx aI T.P)/\bO T (T.bx aI T.P) w w' k:=by
  intro w' bM aI s k h1 h2 g z;have F:∀q,T.E q->bM q:=λq a=>by rw[g];exact .inl a
  exact⟨h1.grow (W:=λ_=>False) (E:=T.E) (G:=T.G) (af.refl _ _) (λ_ h=>h.elim) (λq a=>.inl (F q a)) (λq a=>.inr (.inl a)) λq a=>(h.dO q a).2.2,
   h2.step (W:=λ_=>False) (af.refl _ _) (λ_ h=>h.elim) (λq a=>.inl (F q a)) λq a=>.inl a⟩
 rintro s _ _ co ⟨eH,no,l,rest,bM,aa,rfl,rfl,a0,a9,hlen,H,L,t,R,f,ap,eg⟩;have cq:=R.ah.size;refine⟨λaH=>?_,λbD=>?_⟩
 .obtain⟨o,rfl⟩:∃bE,eH=bE+1:=⟨eH-1,by have:(eH:Int)>0:=cj aH;omega⟩
  obtain⟨n,bF,bG,ba,rfl,bb⟩:=a0;obtain⟨bI,S⟩:=t.eR no n bG;have bK:aa.D.a6<=999999999:=by
   have:aa.D.a6<=T.C.D.a6+2*l.length:=R.a6;omega
  refine(yY t bK bI S.two _).use ?_;rintro _ r ⟨B,h2,ab,bc,be⟩;have ar:=R.trans ab;have cr:=ab.ah.size;rw[CG ba]at be;rcases be with ⟨bA,K,V,D,rfl,bL,av⟩|⟨e,rfl,bN,bP⟩
  .obtain rfl:=gP.uniq S bL
   obtain⟨_,aC,cs⟩:=S.is;have bR:=aC.eU;have ct:=vG aC;refine⟨n.leaf,K,V,D,0,rfl,a8 (vs:=[false,(),(),()]) rfl λbT U aE bU=>?_⟩;refine⟨U.cl rfl ?_,rfl,cP U (us:=[n.leaf,K,V,D]) rfl rfl λac aG aM bV=>⟨λd=>(by cases d),λ_=>?_⟩⟩
   .intro v f
    simp only[cX,fk,fv]at f;rcases f with rfl|rfl|rfl|rfl<;>trivial
   have bf:Ext r ac:=Ext.cy aE aM (bl _);have cv:=bf.size;obtain⟨bS,aU,a_,bd⟩:=bJ aG;refine⟨_,bS,K,aU,V,a_,D,bd,#[no,n.leaf,K,V,D,(0:Int)],by kernel_rfl,?_⟩;refine a8 (vs:=[(0:Int),false,(),(),(),(0:Int)]) rfl λcw bh bi cx=>?_;refine⟨bh.cl rfl ?_,rfl,cP bh (us:=[no,n.leaf,K,V,D,(0:Int)]) rfl rfl λaN aO bj cC=>?_⟩
   .intro v f
    simp only[cX,fk,fv]at f;rcases f with rfl|rfl|rfl|rfl|rfl|rfl<;>trivial
   have ag:Ext r aN:=Ext.cy (bf.trans bi) bj I;have aQ:Var aN r.heap.size [n.leaf,K,V,D] 169:=(aG.ext bi).ah bj I;obtain⟨sb,bW⟩:∃sb,sb=ac.heap.size:=⟨_,rfl⟩;obtain⟨nb,bX⟩:∃nb,nb=r.heap.size:=⟨_,rfl⟩;rw[←bW]at aO⊢;rw[←bX]at aQ⊢;have bZ:=av.ext ag;refine cA (λn40 u=>n40=(((if o=0 then no else n.kids.getD (c_ n.keys k) 0:Nat)):Int)/\Ext r u/\Var u sb (dr.c ⟨no,n,if o=0 then 0 else c_ n.keys k,K,V,D⟩) 223) (λq a=>⟨λai=>?_,λai=>?_⟩) ?_
   .have N:o≠0:=by
     have:((o+1:Nat):Int)>1:=cj ai;omega
    have b0:n.leaf=false:=by rw[ba];simp[N]
    have cD:=aC.vS b0;have cE:=vB n.keys k;obtain⟨bS,aU,a_,bd⟩:=bJ aQ;have b1:Src 1 aN tk (az k):=(bw.ah ar.ah λq a b3=>(bz q a).2 (aK.gB b3)).ext ag;refine⟨_,bS,K,aU,V,a_,D,bd,(oG bZ b1 bR I).use ?_⟩;rintro _ bk ⟨rfl,aR⟩;have bm:=aO.ext aR;obtain⟨aw,ay⟩:=eA bm (i:=5) (by simp);rw[aA];refine⟨_,rfl,aw,ay,aX ?_⟩;have bo:=dU bk sb 5 (.int .i64 ((c_ n.keys k:Nat):Int));have bp:=ez bm (i:=5) (.int .i64 ((c_ n.keys k:Nat):Int));have bq:Ext r (bk.setCell ⟨sb,5,none⟩ (.int .i64 ((c_ n.keys k:Nat):Int))):=Ext.cy (ag.trans aR) bo I;have b4:=(aQ.ext aR).ah bo I;obtain⟨d0,d1,d2,d3⟩:=bJ b4;obtain⟨A,au,d,b5⟩:=cY.at (av.ext bq).kids (i:=c_ n.keys k) I;refine⟨D,d3,_,bp.cell,A,au,d,_,b5,a _ _ ⟨?_,bq,?_⟩⟩
    .rw[if_neg N,fL,dC I];rfl
    .rw[if_neg N]
     exact bp
   .have N:o=0:=by
     have:¬((o+1:Nat):Int)>1:=cH ai;omega
    refine a _ _ ⟨by rw[if_pos N],ag,?_⟩;rw[if_pos N];exact aO
   rintro _ u ⟨rfl,br,b6⟩;have cF:=br.size;refine⟨_,b6.rd rfl,⟨some u.heap.size,1,1⟩,_,H5 _ _ rfl,?_⟩;have aS:=da u (.cells (dr.c ⟨no,n,if o=0 then 0 else c_ n.keys k,K,V,D⟩).toArray 223);have Q:=br.trans aS;have b7:=Q.size;have b9:=aS.size;have cb:=ap.1;rw[fA _ (nK l)]at cb;have X:∀q,aB s q->bM q:=λq a=>by rw[H];exact .inr a
   have cc:aW 6 223 r s (bu dr.c l):=ap.ah ab.ah λq a b=>t.kJ (X q a) b;obtain⟨x,aV⟩:∃x:dr,x=⟨no,n,if o=0 then 0 else c_ n.keys k,K,V,D⟩:=⟨_,rfl⟩;rw[←aV]at aS Q b7 b9⊢;have cd:∀v∈dr.c x,Plain v:=by
    intro v f;unfold dr.c at f;simp only[cX,fk,fv]at f;rcases f with rfl|rfl|rfl|rfl|rfl|rfl<;>trivial
   obtain⟨al,am,a1,a2,a3,a4,a5⟩:=H6.append (cB:=219) (x:=⟨some u.heap.size,1,1⟩) (Src.new (T:=223) u (dr.c x) 1 rfl) (cc.ext Q) cd (by show(2*(s.len+1)+1000)*96<=_;omega);have cG:=a4.size;have aY:∀q,aB al q->w.heap.size<=q:=λq a=>by
    rcases a5 q a with h1|h1
    .exact L q h1
    .omega
   obtain⟨kl,bs⟩:∃kl,kl=λq=>T.E q\/aB al q:=⟨_,rfl⟩;have an:∀q,kl q->T.E q\/aB al q:=λq a=>by rw[bs]at a;exact a
   have F:∀q,T.E q->bM q:=λq a=>by rw[H];exact .inl a
   have ce:bu dr.c (l++ [x])=bu dr.c l++dr.c x:=by rw[lN];simp[bu]
   have cf:b8 am ((T.cu kl T.G).bx B T.P):=by
    refine(h2.ext Q).grow (E:=kl) (G:=T.G) a4 (λq a _=>.inl (X q a)) (λq a=>?_) (λq a=>.inr (.inl a)) λq a hg=>?_
    .rcases an q a with h1|h1
     .exact .inl (F q h1)
     .rcases a5 q h1 with g|g
      .exact .inl (X q g)
      .exact .inr (.inr ⟨g,aW.lt a2 q h1⟩)
    .rcases an q a with h1|h1
     .exact(h.dO q h1).2.2 hg
     .have g:=h.lt (q:=q) (.inr (.inr (.inr (.inr hg))))
      have:=aY q h1;omega
   have cg:bO T ((T.cu kl T.G).bx B T.P) w am (2*(l++ [x]).length):=by
    have h1:=(ar.trans (bO.ext _ Q)).mono (l:=2*(l++ [x]).length) (by rw[cp,iG];omega);refine h1.step (E:=kl) (G:=T.G) a4 (λq a ai=>by have:=L q a;omega) (λq a=>?_) λq a=>.inl a;rcases an q a with h1|h1
    .exact .inl (F q h1)
    .exact .inr (.inr (aY q h1))
   have bt:∀ {m:aD}{K V D:ad},bQ (λq=>w.heap.size<=q/\¬((T.cu bM T.G).bx B T.P).M q) r m K V D->bQ (λq=>w.heap.size<=q/\¬((T.cu kl T.G).bx B T.P).M q) am m K V D:=λ{m K V D} b=>by
    have h1:=(b.ext Q).a7 (C:=λq=>q<(u.alloc (.cells (dr.c x).toArray 223)).heap.size/\w.heap.size<=q/\¬((T.cu bM T.G).bx B T.P).M q) λq a d=>⟨a,d⟩;refine(bQ.ah h1 a4 λq a ch=>a.2.2 (.inr (.inr (.inr (.inl (X q ch)))))).a7 λq _ d=>⟨d.2.1,λb=>d.2.2 ?_⟩;rcases b with b|b|b|b|b
    .exact .inl b
    .exact .inr (.inl b)
    .exact .inr (.inr (.inl b))
    .refine .inr (.inr (.inr (.inl ?_)))
     show bM q;rcases an q b with g|g
     .exact F q g
     .rcases a5 q g with z|z
      .exact X q z
      .have:=d.1;omega
    .exact .inr (.inr (.inr (.inr b)))
   have bv:IntKind.wrap .i64 (((o+1:Nat):Int)-1)=(o:Nat):=by rw[bn I I];omega
   refine⟨al,am,a1,⟨o,_,l++ [x],bF,kl,B,bv,rfl,?_,?_,by rw[cp,iG];omega,bs,aY,cf,cg,λj=>(bc j).trans (f j),by rw[ce];exact a2,?_⟩,?_⟩
   .cases o with
    |zero=>exact bb
    |succ m=>rw[if_neg I];exact bb
   .rw[←a9,fJ,cz,aV];rfl
   .intro y Z
    rcases cK.1 Z with Z|Z
    .exact bt (ab.b_ (eg y Z))
    .obtain rfl:=fb.1 Z
     subst aV;exact bt (av.a7 λq _ d=>⟨by have:=d.1;omega,d.2⟩)
   .rw[bv]
    show(o:Int).toNat<(((o+1:Nat):Int)).toNat;omega
  .refine⟨false,bH,bH,bH,e,rfl,a8 (vs:=[false,(),(),()]) rfl λbT U aE bU=>?_⟩
   refine⟨U.cl rfl ?_,rfl,cP U (us:=[false,(),(),()]) rfl rfl λac aG aM bV=>⟨λ_=>?_,λd=>?_⟩⟩
   .intro v f
    simp only[cX,fk,fv]at f;rcases f with rfl|rfl|rfl|rfl<;>trivial
   .have hx:Ext r ac:=Ext.cy aE aM (bl _)
    have he:e=3/\¬aa.D.calm 2:=by
     rcases bN with h1|h1|⟨_,_,h1⟩
     .exact h1
     .obtain⟨p,aw,_⟩:=S
      rw[aw]at h1;cases h1
     .exact absurd S (h1 n)
    obtain⟨rfl,ci⟩:=he;obtain⟨g,z⟩:=fin (k:=2*T.aL) (h2.ext hx) ((ar.trans (bO.ext _ hx)).mono I) H L;exact⟨B,g,z,λj=>(bc j).trans (f j),.inr ⟨rfl,λhc=>ci (R.calm 2 (gf hc I))⟩⟩
   .simp at d;exact absurd d bP
 .have h0:eH=0:=by
   have:¬(eH:Int)>0:=cH bD;omega
  subst h0;have ck:rest=[]:=a0;subst ck;obtain⟨g,z⟩:=fin (k:=2*T.aL) t (R.mono I) H L;refine⟨aa,g,z,f,.inl ⟨s,l,rfl,by rw[←a9,fu],ap,λq a=>⟨L q a,λb=>?_⟩,λx hx=>?_⟩⟩
  .have cI:=L q a
   have ao:bM q:=by rw[H];exact .inr a
   rcases b with b|b|b|b|b
   .exact(t.ca.inv.e_ q (.inr (.inr (.inl ao)))).2 b
   .exact(t.dO q ao).1 b
   .exact(t.dO q ao).2.1 b
   .have:=h.lt (q:=q) (.inr (.inr (.inr (.inl b))));omega
   .exact(t.dO q ao).2.2 b
  .refine(eg x hx).a7 λq _ d=>⟨d.1,λb=>d.2 ?_⟩
   rcases b with b|b|b|b|b
   .exact .inl b
   .exact .inr (.inl b)
   .exact .inr (.inr (.inl b))
   .refine .inr (.inr (.inr (.inl ?_)))
    show bM q;rw[H];exact .inl b
   .exact .inr (.inr (.inr (.inr b)))
def aK.jl(T:aK)(f:Nat->al):aK:={T with f:=f}
structure dv where
 cb:Nat
 ma:ad
 gu:ad
 made:O Nat
 left:O Nat
structure de(w:J)(T:aK)(c:dv):Prop where
 t:b8 w T
 v:Var w c.cb [.pointer (some T.bg),c.ma,c.gu] 284
 ma:aW 1 3 w c.ma (fR c.made)
 gu:aW 1 3 w c.gu (fR c.left)
 gc:T.G c.cb
 iz:∀q,aB c.ma q->T.G q/\q≠c.cb/\¬aB c.gu q
 kM:∀q,aB c.gu q->T.G q/\q≠c.cb
 ns:¬T.C.D.ro
theorem CH{w:J}{s:ad}{ds:O Nat}(d:Nat)(b:aW 1 3 w s (fR ds))(i:ds.length<=1000000):
 ∃ (a:ad) (w':J),Sem.run aj (Builtin.append_ #[72,72] 72 #[s,.slice (some w.heap.size) 1 1]) (w.alloc (.cells #[d] 3))=.ok a w'/\
  aW 1 3 w' a (fR (ds++ [d]))/\af (aB s) w w'/\(∀k,aB a k->aB s k\/w.heap.size<=k)/\af (aB s) (w.alloc (.cells #[d] 3)) w':=by
 have j:s.len=ds.length:=by have:=b.1;rw[qN]at this;omega
 have hc:Ext w (w.alloc (.cells #[d] 3)):=da _ _;have l:(w.alloc (.cells #[d] 3)).heap.size=w.heap.size+1:=o6 _ _;obtain⟨a,w',h1,h2,m,c,e⟩:=sB.append (cB:=72) (x:=⟨some w.heap.size,1,1⟩) (Src.new (T:=3) w [d] 1 rfl) (b.ext hc) (λv f=>by rw[fb.1 f];trivial) (by show(2*(s.len+1)+1000)*8<=_;omega);exact⟨a,w',h1,by simpa[fR] using h2,(af.c0 hc).trans c,λk g=>(e k g).imp id (λh=>I),c⟩
section
variable {w w':J}{T ar:aK}{c:dv}
theorem de.of{W:Nat->Prop}(h:de w T c)(d:b8 w' ar)(hc:af W w w')(cw:∀q,T.G q->¬W q)(f:ar.bg=T.bg)(b:∀q,T.G q->ar.G q)(g:ar.C.D.b7=T.C.D.b7:=by rfl):de w' ar c:=
 ⟨d,by rw[f];exact h.v.ah hc (cw _ h.gc),h.ma.ah hc λq a=>cw q (h.iz q a).1,h.gu.ah hc λq a=>cw q (h.kM q a).1,b _ h.gc,λq a=>⟨b q (h.iz q a).1,(h.iz q a).2⟩,λq a=>⟨b q (h.kM q a).1,(h.kM q a).2⟩,λe=>h.ns λi=>g▸e i⟩
theorem de.ext(h:de w T c)(hx:Ext w w'):de w' T c:=h.of (h.t.ext hx) hx (λ_ _ h=>h) rfl λ_ h=>h
theorem de.cells(h:de w T c):w.cell? c.cb=some (.pointer (some T.bg))/\w.cell? (Addr.add c.cb 1)=some (.slice c.ma.a c.ma.len c.ma.cap)/\w.cell? (Addr.add c.cb 2)=some (.slice c.gu.a c.gu.len c.gu.cap):=by
 rw[aA,aA];exact⟨h.v.cell,h.v.cell,h.v.cell⟩
theorem b8.wi(h:b8 w T){q:Nat}(a:T.G q):¬c6 T.C q:=λhf=>(h.ca.inv.e_ q (.inr (.inr (.inr a)))).2 hf
theorem b8.wj{f:Nat->al}(h:b8 w T)(hs:fg w' T.sb T.n f T.g T.s1 T.s2)(hc:af (gA T.sb T.s1 T.s2) w w'):b8 w' (T.jl f)/\bO T (T.jl f) w w' 0:=
 ⟨⟨h.t.ah hc h.kk,hs,h.ca.ah hc λq a=>.inr (.inl a),h.kk,h.dO,h.jk,h.n,h.num,h.eR,h.b7,h.low⟩,
  ⟨rfl,rfl,rfl,rfl,rfl,rfl,rfl,rfl,rfl,rfl,bl _,λ_ h=>h,hc.mono λq _ a=>.inr (.inr (.inl a)),λq h=>.inl h,λq h=>.inl h⟩⟩
theorem H7(h:de w T c)(no:Nat)(x:c.made.length<=100000):
 ∃ (b:ad) (ai:J),Sem.run aj (Builtin.append_ #[72,72] 72 #[c.ma,.slice (some w.heap.size) 1 1]) (w.alloc (.cells #[no] 3))=.ok b ai/\
  af (aB c.ma) (w.alloc (.cells #[no] 3)) ai/\(∃u:aa,ai.cell? ⟨c.cb,1,none⟩=some u)/\ai.frozen? ⟨c.cb,1,none⟩=false/\
  ∀j,j=ai.setCell ⟨c.cb,1,none⟩ b->de j (T.cu T.E λq=>T.G q\/aB b q) {c with ma:=b,made:=c.made++ [no]}/\bO T (T.cu T.E λq=>T.G q\/aB b q) w j 0:=by
 obtain⟨b,ai,aw,ay,d,f,o⟩:=CH no h.ma I;have cw:∀q,aB c.ma q->T.G q:=λq a=>(h.iz q a).1;have y:=d.size;have l:=h.v.ah d λa=>(h.iz _ a).2.1 rfl;obtain⟨b9,ct⟩:=eA l (i:=1) (by simp);refine⟨b,ai,aw,o,b9,ct,?_⟩;rintro _ rfl;have g:=dU ai c.cb 1 b;have p:=ez l (i:=1) b;have k:af T.G w (ai.setCell ⟨c.cb,1,none⟩ b):=c2 (d.mono λq _ a=>cw q a) g λq _ e=>by rw[e];exact h.gc
 have z:=k.size;have aH:∀q,aB b q->q<ai.heap.size:=λq a=>aW.lt ay q a;have m:∀q,aB b q->T.G q\/(w.heap.size<=q/\q<(ai.setCell ⟨c.cb,1,none⟩ b).heap.size):=λq a=>by
  rcases f q a with h1|h1
  .exact .inl (cw q h1)
  .exact .inr ⟨h1,by have:=aH q a;have:=g.size;omega⟩
 have n:∀q,aB b q->q≠c.cb:=λq a e=>by
  rcases f q a with h1|h1
  .exact(h.iz q h1).2.1 e
  .have:=h.v.lt;omega
 have r:∀q,aB b q->¬aB c.gu q:=λq a e=>by
  rcases f q a with h1|h1
  .exact(h.iz q h1).2.2 e
  .have:=aW.lt h.gu q e;omega
 have s:=h.t.grow (E:=T.E) (G:=λq=>T.G q\/aB b q) k (λq a _=>.inr a) (λq a=>.inl a) (λq a=>by
  rcases a with a|a
  .exact .inr (.inl a)
  .exact .inr (m q a)) λq a hg=>by
  rcases hg with hg|hg
  .exact(h.t.dO q a).2.2 hg
  .rcases f q hg with h1|h1
   .exact(h.t.dO q a).2.2 (cw q h1)
   .have:=h.t.lt (q:=q) (.inr (.inr (.inr (.inl a))));omega
 refine⟨⟨s,p,?_,(h.gu.ah d λq a e=>(h.iz q e).2.2 a).ah g λq a e=>(h.kM q a).2 e,.inl h.gc,λq a=>⟨.inr a,n q a,r q a⟩,λq a=>⟨.inl (h.kM q a).1,(h.kM q a).2⟩,h.ns⟩,?_⟩
 .have:aW 1 3 ai b (fR (c.made++ [no])):=ay
  exact this.ah g λq a e=>n q a e
 .have h0:bO T T w w 0:=.refl _ _
  exact h0.step k (λq a _=>.inr (.inr (.inr a))) (λq a=>.inl a) λq a=>by
   rcases a with a|a
   .exact .inl a
   .exact(m q a).imp id λe=>e.1
theorem CI(h:de w T c)(no:Nat)(x:c.left.length<=100000):
 ∃ (b:ad) (ai:J),Sem.run aj (Builtin.append_ #[72,72] 72 #[c.gu,.slice (some w.heap.size) 1 1]) (w.alloc (.cells #[no] 3))=.ok b ai/\
  af (aB c.gu) (w.alloc (.cells #[no] 3)) ai/\(∃u:aa,ai.cell? ⟨c.cb,2,none⟩=some u)/\ai.frozen? ⟨c.cb,2,none⟩=false/\
  ∀j,j=ai.setCell ⟨c.cb,2,none⟩ b->de j (T.cu T.E λq=>T.G q\/aB b q) {c with gu:=b,left:=c.left++ [no]}/\bO T (T.cu T.E λq=>T.G q\/aB b q) w j 0:=by
 obtain⟨b,ai,aw,ay,d,f,o⟩:=CH no h.gu I;have cw:∀q,aB c.gu q->T.G q:=λq a=>(h.kM q a).1;have y:=d.size;have l:=h.v.ah d λa=>(h.kM _ a).2 rfl;obtain⟨b9,ct⟩:=eA l (i:=2) (by simp);refine⟨b,ai,aw,o,b9,ct,?_⟩;rintro _ rfl;have g:=dU ai c.cb 2 b;have p:=ez l (i:=2) b;have k:af T.G w (ai.setCell ⟨c.cb,2,none⟩ b):=c2 (d.mono λq _ a=>cw q a) g λq _ e=>by rw[e];exact h.gc
 have z:=k.size;have aH:∀q,aB b q->q<ai.heap.size:=λq a=>aW.lt ay q a;have m:∀q,aB b q->T.G q\/(w.heap.size<=q/\q<(ai.setCell ⟨c.cb,2,none⟩ b).heap.size):=λq a=>by
  rcases f q a with h1|h1
  .exact .inl (cw q h1)
  .exact .inr ⟨h1,by have:=aH q a;have:=g.size;omega⟩
 have n:∀q,aB b q->q≠c.cb:=λq a e=>by
  rcases f q a with h1|h1
  .exact(h.kM q h1).2 e
  .have:=h.v.lt;omega
 have r:∀q,aB c.ma q->¬aB b q:=λq e a=>by
  rcases f q a with h1|h1
  .exact(h.iz q e).2.2 h1
  .have:=aW.lt h.ma q e;omega
 have s:=h.t.grow (E:=T.E) (G:=λq=>T.G q\/aB b q) k (λq a _=>.inr a) (λq a=>.inl a) (λq a=>by
  rcases a with a|a
  .exact .inr (.inl a)
  .exact .inr (m q a)) λq a hg=>by
  rcases hg with hg|hg
  .exact(h.t.dO q a).2.2 hg
  .rcases f q hg with h1|h1
   .exact(h.t.dO q a).2.2 (cw q h1)
   .have:=h.t.lt (q:=q) (.inr (.inr (.inr (.inl a))));omega
 refine⟨⟨s,p,(h.ma.ah d λq a e=>(h.iz q a).2.2 e).ah g λq a e=>(h.iz q a).2.1 e,?_,.inl h.gc,λq a=>⟨.inl (h.iz q a).1,(h.iz q a).2.1,r q a⟩,λq a=>⟨.inr a,n q a⟩,h.ns⟩,?_⟩
 .have:aW 1 3 ai b (fR (c.left++ [no])):=ay
  exact this.ah g λq a e=>n q a e
 .have h0:bO T T w w 0:=.refl _ _
  exact h0.step k (λq a _=>.inr (.inr (.inr a))) (λq a=>.inl a) λq a=>by
   rcases a with a|a
   .exact .inl a
   .exact(m q a).imp id λe=>e.1
end
def cg(T:aK):Nat:=T.n-eQ (λi=>T.f i||T.g i) T.n
theorem CJ{s t:Nat->al}:∀ {n:Nat},(∀i,i<n->s i=t i)->eQ s n=eQ t n
 |0,_=>rfl
 |n+1,h=>by
  unfold eQ
  rw[CJ (n:=n) λi hi=>h i I,h n I]
theorem wk{s t:Nat->al}{k:Nat}(a:s k=false)(ht:t k=true)(he:∀i,i≠k->t i=s i):∀ {n:Nat},k<n->eQ t n=eQ s n+1
 |0,h=>by omega
 |n+1,h=>by
  unfold eQ
  by_cases e:k=n
  .subst e
   rw[CJ (s:=t) (t:=s) (n:=k) λi hi=>he i I,a,ht]
   simp
  .rw[wk a ht he (n:=n) I,he n I]
   omega
theorem CK{t:Nat->al}:∀ {n:Nat},(∀i,i<n->t i=true)->eQ t n=n
 |0,_=>rfl
 |n+1,h=>by
  unfold eQ
  rw[CK (n:=n) λi hi=>h i I,h n I]
  simp
theorem CL{T:aK}(h:1<=cg T):∃no,firstFree (λi=>T.f i||T.g i) T.n=some no:=by
 cases hf:firstFree (λi=>T.f i||T.g i) T.n with
 |some no=>exact⟨no,rfl⟩
 |none=>
  have:=CK (HB hf);unfold cg at h;rw[this]at h;omega
structure df(T ar:aK)(c c':dv)(m l:O Nat)(w w':J)(k:Nat):Prop where
 to:bO T ar w w' k
 E:ar.E=T.E
 G:∀q,T.G q->ar.G q
 root:ar.root=T.root
 aL:ar.aL=T.aL
 cb:c'.cb=c.cb
 made:c'.made=c.made++m
 left:c'.left=c.left++l
 b_:m.Nodup
 jO:∀no∈m,(T.f no||T.g no)=false/\no<T.n
 f:∀no,ar.f no=(T.f no||decide (no∈m))
 ew:∀no,(T.f no||T.g no)=true->ar.P no=T.P no/\ar.C.view no=T.C.view no
 room:cg ar+m.length=cg T
theorem df.ext{w w':J}(T:aK)(c:dv)(h:Ext w w'):df T T c c [] [] w w' 0:=
 ⟨.ext T h,rfl,λ_ h=>h,rfl,rfl,rfl,by simp,by simp,List.nodup_nil,λ_ h=>(by cases h),λno=>by simp,λ_ _=>⟨rfl,rfl⟩,by simp⟩
theorem df.trans{T ar j:aK}{c c' o:dv}{m p l r:O Nat}{w w' s:J}{k t:Nat}(h1:df T ar c c' m l w w' k)(h2:df ar j c' o p r w' s t):df T j c o (m++p) (l++r) w s (k+t):=by
 have hg:ar.g=T.g:=h1.to.g;have u:ar.n=T.n:=h1.to.n;have hf:∀no,(T.f no||T.g no)=true->(ar.f no||ar.g no)=true:=λno h=>by
  rw[h1.f,hg]
  cases d:T.f no<;>cases i:T.g no<;>simp[d,i]at h⊢
 refine⟨h1.to.trans h2.to,h2.E.trans h1.E,λq h=>h2.G q (h1.G q h),h2.root.trans h1.root,h2.aL.trans h1.aL,h2.cb.trans h1.cb,by rw[h2.made,h1.made,cz],by rw[h2.left,h1.left,cz],?_,λno h=>?_,λno=>?_,λno h=>?_,?_⟩
 .rw[s5]
  refine⟨h1.b_,h2.b_,λa v b x e=>?_⟩;subst e;have:=(h2.jO a x).1;rw[h1.f]at this;simp[v]at this
 .rcases cK.1 h with h|h
  .exact h1.jO no h
  .have d:=h2.jO no h
   rw[h1.f,hg,u]at d;refine⟨?_,d.2⟩
   cases y:T.f no<;>cases z:T.g no<;>simp[y,z]at d⊢
 .rw[h2.f,h1.f]
  simp only[cK,Bool.decide_or,Bool.or_assoc]
 .have d:=h2.ew no (hf no h)
  have i:=h1.ew no h;exact⟨d.1.trans i.1,d.2.trans i.2⟩
 .have:=h1.room
  have:=h2.room;rw[cp];omega
theorem df.mono{T ar:aK}{c c':dv}{m l:O Nat}{w w':J}{k j:Nat}(h:df T ar c c' m l w w' k)(a:k<=j):df T ar c c' m l w w' j:=⟨h.to.mono a,h.E,h.G,h.root,h.aL,h.cb,h.made,h.left,h.b_,h.jO,h.f,h.ew,h.room⟩
def CM(T:aK)(c:dv)(n:aD)(w:J)(v:aa)(w':J):Prop:=
 ∃ (no:Nat) (ar:aK) (c':dv),de w' ar c'/\df T ar c c' [no] [] w w' 1/\
  ((v=.tuple #[no,(0:Int)]/\ar.P no=some n)\/(v=.tuple #[no,(3:Int)]/\¬T.C.D.calm 1))
theorem cC.eT{n:aD}(h:cC n)(h2:bz n<=400):n.keys.length<=200/\n.vals.length<=200/\n.kids.length<=201:=by
 have:=vG h;rcases h with h|h
 .have:=h.len
  have a:n.kids.length=0:=by rw[h.kids];rfl
  omega
 .have:=h.len
  have a:n.vals.length=0:=by rw[h.vals];rfl
  omega
theorem wm{B:Nat->Prop}{w:J}{T:aK}{c:dv}{n:aD}{K V D:ad}(h:de w T c)(bf:T.C.D.a6<=900000100)(U:1<=cg T)(bg:c.made.length<=1000)(aE:bQ B w n K V D)(hs:cC n)(h2:bz n<=232):
 aJ aj 265 #[.pointer (some c.cb),db n K V D] w (CM T c n w):=by
 obtain⟨no,W⟩:=CL U;obtain⟨u,y,_⟩:=Ck W;have H:=h.t.s.bA;have bh:=hs.eT I;refine okF (ae.vq (some c.cb) n.leaf K V D) ax.vq func265 ?_;(delta ae.vq aT Y r1 ey ak gK st cr bY;dsimp only);refine a8 (vs:=[n.leaf,K,V,D]) rfl λw1 X Z bi=>?_;obtain⟨bS,aU,a_,bd⟩:=bJ X;refine⟨_,bS,K,aU,V,a_,D,bd,(qB (aE.ext Z) I I I).use ?_⟩;rintro _ aF ⟨aG,ab⟩;rcases aG with ⟨s,rfl,aH,aL,_,_⟩|⟨e,rfl,he,aM⟩
 rotate_left
 .have:=aM hs;omega
 have L:=Z.trans ab;have r:=h.ext L;refine⟨s,0,rfl,λd=>(by cases d),λ_=>⟨_,rfl,_,r.cells.1,_,rfl,_,r.t.cells.2.1,(Cm r.t.s).use ?_⟩⟩;rintro _ aN ⟨rfl,im,ac⟩;rw[W]at im⊢;obtain⟨aO,M⟩:=r.t.wj im ac;have ag:de aN (T.jl (dk T.f no true)) c:=r.of aO ac (λq a hf=>(h.t.jk q a).2 hf) rfl λ_ h=>h;refine⟨(no:Nat),0,rfl,λd=>(by cases d),λ_=>⟨_,rfl,_,ag.cells.2.1,?_⟩⟩;obtain⟨z,ai,aw,ay,aP,aQ,aR⟩:=H7 ag no I;refine aX ⟨z,ai,aw,_,rfl,by rw[aA];exact aP,by rw[aA];exact aQ,aX ?_⟩;rw[aA];obtain⟨o,al⟩:∃o,o=ai.setCell ⟨c.cb,0+1,none⟩ z:=⟨_,rfl⟩;rw[←al];obtain⟨A,O⟩:=aR o al;obtain⟨am,bj⟩:∃am,am=λq=>T.G q\/aB z q:=⟨_,rfl⟩;have an:∀q,T.N q->q<w.heap.size:=λq a=>h.t.lt (aK.gB a);have bk:=L.size;have bm:=M.ah.size;have bn:=O.ah.size;have ao:af T.N aF o:=M.ah.trans O.ah;have aS:Var o w.heap.size [n.leaf,K,V,D] 169:=(X.ext ab).ah ao λa=>by have:=an _ a;omega
 have aV:aW 1 5 o s (az (jg n)):=aH.ah ao λq a aY=>by have:=an _ aY;have:=aL q a;omega
 have hlen:=yg hs;have H:2<=no:=by
  have e:(T.f no||T.g no)=false:=y;have F:T.g no=false:=by cases hg:T.g no<;>simp_all
  have:=h.t.low;rcases ec no 2 with Q|Q
  .rcases n0 no with ap|ap
   .rw[ap,this.1]at F;cases F
   .rw[show no=1 from I,this.2]at F;cases F
  .exact Q
 have R:nz ⟨if n.leaf then 1 else 2,T.gen,jg n⟩:=by
  refine⟨?_,?_,h.t.num.2.2,by show(jg n).length<=232;omega⟩
  .show 1<=(if n.leaf then 1 else 2);split<;>omega
  .show(if n.leaf then 1 else 2)<=4;split<;>omega
 refine cA (λn27 aZ=>n27=((if n.leaf then 1 else 2:Nat):Int)/\aZ=o) (λq a=>⟨n.leaf,aS.cell,λd=>a _ _ ⟨by rw[d];rfl,rfl⟩,λd=>a _ _ ⟨by rw[d];rfl,rfl⟩⟩) ?_;rintro _ _ ⟨rfl,rfl⟩;refine⟨_,rfl,_,A.cells.1,_,rfl,_,A.t.cells.2.2.1,(vP (no:=no) (p:=⟨if n.leaf then 1 else 2,T.gen,jg n⟩) aV.src I R).use ?_⟩;rintro _ bo ⟨s2,rfl,aq,au,a0⟩;have l:=A.ext au;refine⟨s2,0,rfl,λd=>(by cases d),λ_=>⟨_,rfl,_,l.cells.1,_,rfl,_,l.t.cells.1,(CD l.t.ca (by show T.C.D.a6<=999999999;omega) (no:=no) (by rw[l.t.n];exact u) H (λhs=>by have:=l.t.b7 no hs;have e:(T.f no||T.g no)=false:=y;rcases this with this|this;(rw[show T.g no=true from this,Bool.or_true]at e;cases e);exact l.ns this) aq.src (sy no R) λq a=>⟨aW.lt aq q a,λhf=>?_⟩).use ?_⟩⟩
 .have:=a0 q a
  have:=A.t.lt (q:=q) (.inl hf);omega
 rintro _ a1 ⟨aI,a2,S,a3⟩;have a4:∀j,dk T.f no true j=(T.f j||decide (j∈ [no])):=λj=>by
  unfold dk;by_cases e:j=no
  .subst e;simp
  .simp[e]
 have aC:(T.f no||T.g no)=false:=y;have a5:T.n-eQ (λi=>dk T.f no true i||T.g i) T.n+1=cg T:=by
  have:=wk (s:=λi=>T.f i||T.g i) (t:=λi=>dk T.f no true i||T.g i) (k:=no) y (by simp[dk]) (λi hi=>by simp[dk,hi]) u;unfold cg at U⊢;have Q:=nH (λi=>T.f i||T.g i) T.n;omega
 have main:∀ (P':Nat->av aD) (v:aa),(∀j,j≠no->P' j=T.P j)->(∀j,j≠no->aI.view j=T.C.view j)->(∀j b_,P' j=some b_->j<T.n/\gP T.gen b_.leaf j (aI.view j) b_)->
  ((v=.tuple #[no,(0:Int)]/\P' no=some n)\/(v=.tuple #[no,(3:Int)]/\¬T.C.D.calm 1))->CM T c n w v a1:=by
  intro P' v a7 gd a9 m;obtain⟨ba,bb⟩:=l.t.wh (P:=P') a2 S a9;have bc:=l.of (ar:=((T.jl (dk T.f no true)).cu T.E λq=>T.G q\/aB z q).bx aI P') ba S.ah (λq a=>l.t.wi a) rfl (λ_ h=>h) S.b7;refine⟨no,_,_,bc,⟨?_,rfl,λq a=>.inl a,rfl,rfl,rfl,rfl,(fu _).symm,by simp,λx hx=>?_,a4,λj b=>?_,a5⟩,m⟩
  .have:=(((bO.ext T L).trans M).trans O).trans ((bO.ext _ au).trans bb)
   exact this.mono I
  .obtain rfl:=fb.1 hx
   exact⟨aC,u⟩
  .have:j≠no:=λe=>by rw[e,aC]at b;cases b
   exact⟨a7 j this,gd j this⟩
 rcases a3 with ⟨rfl,m⟩|⟨rfl,be,m⟩
 .refine⟨0,rfl,main (λj=>if j=no then some n else T.P j) _ (λj b=>if_neg b) (λj b=>(m j).trans (if_neg b)) (λj b_ b=>?_) (.inl ⟨rfl,if_pos rfl⟩)⟩
  by_cases e:j=no
  .subst e
   rw[if_pos rfl]at b
   cases b;rw[m,if_pos rfl];exact⟨u,_,vL I R,bl _,rfl,⟨hs,rfl,h2,rfl⟩,H⟩
  .rw[if_neg e]at b
   rw[m,if_neg e];exact h.t.eR j b_ b
 .refine⟨3,rfl,main T.P _ (λ_ _=>rfl) (λj _=>m j) (λj b_ b=>?_) (.inr ⟨rfl,be⟩)⟩
  rw[m];exact h.t.eR j b_ b
theorem H8(w:J)(x:Int):Sem.run aj (Instr.buildSlice 317 1 #[(0,.agg #[(),x])]) w=
 .ok (.slice (some w.heap.size) 1 1) (w.alloc (.cells #[(),x] 325)):=by kernel_rfl
theorem H9(w:J)(x y:Int)(t:ad):Sem.run aj (Instr.buildSlice 317 2 #[(0,.agg #[(),x]),(1,.agg #[t,y])]) w=
 .ok (.slice (some w.heap.size) 2 2) (w.alloc (.cells #[(),x,t,y] 325)):=by kernel_rfl
theorem cC.x7{n:aD}(h:cC n)(h1:1<=cn n)(h2:if n.leaf then cn n<=n.keys.length-1/\1<=n.keys.length-1 else cn n<=n.keys.length-2/\1<=n.keys.length-2):cC (n.left (cn n))/\cC (n.right (cn n)):=by
 rcases h with h|h
 .have a:=h.leaf
  rw[if_pos a]at h2;unfold aD.left aD.right;rw[if_pos a,if_pos a];have hlen:=h.len;refine⟨.inl ⟨⟨λk b=>h.ok k (fK b),h.eU.sublist (s_ _ _)⟩,rfl,?_,rfl,λv c=>h.vals v (fK c)⟩,.inl ⟨⟨λk b=>h.ok k (fH b),h.eU.sublist (List.drop_sublist _ _)⟩,rfl,?_,rfl,λv c=>h.vals v (fH c)⟩⟩
  .simp only[cI];omega
  .simp only[ed];omega
 .have a:=h.inner
  rw[if_neg (by rw[a];simp)]at h2;unfold aD.left aD.right;rw[if_neg (by rw[a];simp),if_neg (by rw[a];simp)];have hlen:=h.len;refine⟨.inr ⟨⟨λk b=>h.ok k (fK b),h.eU.sublist (s_ _ _)⟩,rfl,?_,?_,rfl,λv c=>h.kids v (fK c)⟩,.inr ⟨⟨λk b=>h.ok k (fH b),h.eU.sublist (List.drop_sublist _ _)⟩,rfl,?_,?_,rfl,λv c=>h.kids v (fH c)⟩⟩
  .intro e
   have:=congrArg List.length e;simp only[cI,kW]at this;omega
  .simp only[cI];omega
  .intro e
   have:=congrArg List.length e;simp only[ed,kW]at this;omega
  .simp only[ed];omega
def lh(B:Nat->Prop)(w:J)(s:ad)(ks:O Key)(kids:O Nat):Prop:=
 (∃b x,s=⟨some ⟨b,0,none⟩,1,1⟩/\ks=[]/\kids=[x]/\Var w b [.slice none 0 0,.int .i64 (x:Nat)] 325/\B b)\/
 (∃b x y k t,s=⟨some ⟨b,0,none⟩,2,2⟩/\ks=[k]/\kids=[x,y]/\Var w b [.slice none 0 0,.int .i64 (x:Nat),.slice t.a t.len t.cap,.int .i64 (y:Nat)] 325/\B b/\bq B w t k/\k≠ [])
def hL(T:aK)(c:dv)(n:aD)(w:J)(v:aa)(w':J):Prop:=
 ∃ (ar:aK) (c':dv) (m:O Nat) (s:ad),de w' ar c'/\df T ar c c' m [] w w' 2/\m.length<=2/\
  ((∃ks,v=.tuple #[s,(0:Int)]/\mu ar.P n ks m/\lh (λq=>¬ar.M q) w' s ks m)\/(v=.tuple #[s,(3:Int)]/\¬T.C.D.calm 2))
theorem CN{B:Nat->Prop}{w:J}{T:aK}{c:dv}{n:aD}{K V D:ad}(h:de w T c)(k:T.C.D.a6<=900000100)(l:1<=cg T)(m:c.made.length<=1000)(o:bQ B w n K V D)(hs:cC n)(h2:bz n<=232):
 aJ aj 234 #[.pointer (some c.cb),db n K V D] w (hL T c n w):=by
 refine okF (ae.vk (some c.cb) n.leaf K V D) ax.vk func234 ?_;(delta ae.vk aT Y r1 gK;dsimp only);refine a8 (vs:=[n.leaf,K,V,D]) rfl λw1 p b y=>?_;obtain⟨bS,aU,a_,bd⟩:=bJ p;refine⟨_,bS,K,aU,V,a_,D,bd,(wm (h.ext b) k l m (o.ext b) hs h2).use ?_⟩;rintro _ a ⟨no,ar,c',d,q,r⟩;have f:∀ (e:Int),((e=0/\ar.P no=some n)\/(e=3/\¬T.C.D.calm 1))->∃ (g:ad) (i:J),Sem.run aj (Instr.buildSlice 317 1 #[(0,.agg #[(),no])]) a=.ok g i/\hL T c n w (.tuple #[g,e]) i:=by
  intro e he;refine⟨⟨some a.heap.size,1,1⟩,_,H8 a _,?_⟩;have j:=da a (.cells #[(),no] 325);have s:df T ar c c' [no] [] w (a.alloc (.cells #[(),no] 325)) 2:=(((df.ext T c b).trans q).trans (df.ext ar c' j)).mono I;refine⟨ar,c',[no],⟨some a.heap.size,1,1⟩,d.ext j,s,by simp,?_⟩;rcases he with ⟨rfl,he⟩|⟨rfl,he⟩
  .refine .inl ⟨[],rfl,.inl ⟨h2,no,rfl,rfl,he⟩,.inl ⟨_,no,rfl,rfl,rfl,Var.new a [(),no] 325,λu=>?_⟩⟩
   have:=d.t.lt u;omega
  .exact .inr ⟨rfl,λhc=>he (gf hc I)⟩
 rcases r with ⟨rfl,v⟩|⟨rfl,x⟩
 .exact⟨_,0,rfl,f 0 (.inl ⟨rfl,v⟩)⟩
 .exact⟨_,3,rfl,f 3 (.inr ⟨rfl,x⟩)⟩
theorem fG{b:al}{K V D:ad}:∀v∈ [.bool b,.slice K.a K.len K.cap,.slice V.a V.len V.cap,.slice D.a D.len D.cap],Plain v:=by
 intro v c;simp only[cX,fk,fv]at c;rcases c with rfl|rfl|rfl|rfl<;>trivial
theorem H_{B:Nat->Prop}{w:J}{T:aK}{c:dv}{n:aD}{K V D:ad}(h:de w T c)(aV:T.C.D.a6<=900000090)(aW:2<=cg T)(aX:c.made.length<=900)(ag:bQ B w n K V D)(hs:cC n)(h2:232<bz n)(aY:bz n<=400)(h1:1<=cn n)
 (l:if n.leaf then cn n<=n.keys.length-1/\1<=n.keys.length-1 else cn n<=n.keys.length-2/\1<=n.keys.length-2) (ai:bz (n.left (cn n))<=232) (al:bz (n.right (cn n))<=232):
 aJ aj 276 #[.pointer (some c.cb),db n K V D] w (hL T c n w):=by
 obtain⟨sl,iS⟩:=hs.x7 h1 l;have aZ:=hs.eT I;have a:cn n<n.keys.length:=by
  split at l<;>omega
 refine okF (ae.vt (some c.cb) n.leaf K V D) ax.vt func276 ?_;(delta ae.vt aT Y r1 AV z4 ak gK;dsimp only);refine a8 (vs:=[n.leaf,K,V,D]) rfl λw1 am E a0=>?_;obtain⟨bS,aU,a_,bd⟩:=bJ am;refine⟨_,bS,K,aU,V,a_,D,bd,(qC (ag.ext E) hs I h1 l).use ?_⟩;rintro _ an ⟨ff,fW,bE,dA,dV,c1,t,rfl,ao,ap,ht,aq⟩;refine⟨_,ff,fW,bE,t,_,dA,dV,c1,true,rfl,a8 (vs:=[false,(),(),()]) rfl λa1 ar au a2=>a8 (vs:=[false,(),(),()]) rfl λa3 av F a4=>?_⟩;have G:=ar.ext F;refine⟨G.cl rfl fG,rfl,cP G (us:=[.bool (n.left (cn n)).leaf,ff,fW,bE]) rfl rfl λa5 aw H a9=>?_⟩;have L:=av.ah H I;refine⟨L.cl rfl fG,rfl,cP L (us:=[.bool (n.right (cn n)).leaf,dA,dV,c1]) rfl rfl λm ay O ba=>⟨λa=>(by cases a),λ_=>?_⟩⟩;have az:=aw.ah O I;have Q:=E.trans aq;have i:Ext an m:=Ext.cy (Ext.cy (au.trans F) H I) O I;have o:=Q.trans i;have bb:=Q.size;have bc:=i.size;obtain⟨d0,d1,d2,d3⟩:=bJ az;refine⟨_,d0,ff,d1,fW,d2,bE,d3,(wm (h.ext o) I I I (ao.ext i) sl ai).use ?_⟩;rintro _ aA ⟨x,bW,R,p,b,aB⟩;have r:∀q,T.N q->q<w.heap.size:=λq d=>h.t.lt (aK.gB d);have be:=b.to.ah.size;rcases aB with ⟨rfl,S⟩|⟨rfl,s⟩
 .have aC:=ay.ah b.to.ah λd=>by have:=r _ d;omega
  obtain⟨d0,d1,d2,d3⟩:=bJ aC;have aE:bQ (λq=>w1.heap.size<=q) aA (n.right (cn n)) dA dV c1:=(ap.ext i).ah b.to.ah λq d u=>by have:=r _ u;omega
  have aF:bW.C.D.a6<=900000100:=eK b.to.a6 (by clear p b S;omega);have aG:=b.room;have bf:R.made.length=c.made.length+1:=by rw[b.made,cp];rfl
  simp only[iG]at aG;have U:=wm p aF I I aE iS al;rw[b.cb]at U;refine⟨x,0,rfl,λa=>(by cases a),λ_=>⟨_,d0,dA,d1,dV,d2,c1,d3,U.use ?_⟩⟩;rintro _ g ⟨y,b1,W,X,k,aH⟩;have bg:=k.to.ah.size;have aI:=((df.ext T c o).trans b).trans k;have aL:n.keys.getD (cn n) []=n.keys[cn n]:=by rw[fL,dC a];rfl
  have aM:=ht.ext i;have aN:bq (λq=>¬b1.M q) g t n.keys[cn n]:=by
   rw[←aL];have aO:bq (λq=>q<m.heap.size/\w1.heap.size<=q) m t (n.keys.getD (cn n) []):=bq.a7 aM λq d a=>⟨d,a⟩;have Z:=(b.trans k).to;refine bq.a7 (bq.ah aO Z.ah λq d u=>by have:=r _ u;omega) λq _ a v=>?_;rcases Z.c3 q v with aa|aa
   .have:=h.t.lt aa;omega
   .omega
  have aP:n.keys[cn n]≠ []:=by
   have aQ:cv n.keys[cn n]:=by
    rcases hs with hs|hs
    .exact hs.ok _ (cN a)
    .exact hs.ok _ (cN a)
   intro e;have:=aQ.1;rw[e]at this;simp at this
  have z:=da g (.cells #[(),x,t,y] 325);have A:=(aI.trans (df.ext b1 W z)).mono (j:=2) I;have ab:∀ (e:Int),((e=0/\b1.P y=some (n.right (cn n)))\/(e=3/\¬bW.C.D.calm 1))->∃ (ac:ad) (af:J),Sem.run aj (Instr.buildSlice 317 2 #[(0,.agg #[(),x]),(1,.agg #[t,y])]) g=.ok ac af/\
   hL T c n w (.tuple #[ac,e]) af:=by
   intro e he;refine⟨⟨some g.heap.size,2,2⟩,_,H9 g _ _ t,b1,W,[x,y],⟨some g.heap.size,2,2⟩,X.ext z,A,by simp,?_⟩;rcases he with ⟨rfl,he⟩|⟨rfl,he⟩
   .have aR:b1.P x=some (n.left (cn n)):=by
     rw[(k.ew x (by rw[b.f];simp)).1,S]
    refine .inl ⟨[n.keys[cn n]],rfl,.inr ⟨h2,x,y,a,rfl,rfl,aR,he⟩,.inr ⟨_,x,y,_,t,rfl,rfl,rfl,Var.new g [(),x,t,y] 325,λv=>?_,bq.ext aN z,aP⟩⟩;have:=X.t.lt v;omega
   .exact .inr ⟨rfl,λhc=>he (b.to.calm 1 (gf hc I))⟩
  rcases aH with ⟨rfl,aS⟩|⟨rfl,s⟩
  .exact⟨_,0,rfl,ab 0 (.inl ⟨rfl,aS⟩)⟩
  .exact⟨_,3,rfl,ab 3 (.inr ⟨rfl,s⟩)⟩
 .have A:=((df.ext T c o).trans b).mono (j:=2) I
  exact⟨_,3,rfl,λ_=>⟨bW,R,[x],bH,p,A,by simp,.inr ⟨rfl,λhc=>s (gf hc I)⟩⟩,λa=>(by cases a)⟩
theorem wo{B:Nat->Prop}{w:J}{T:aK}{c:dv}{n:aD}{K V D:ad}(h:de w T c)(t:T.C.D.a6<=900000090)(u:2<=cg T)(x:c.made.length<=900)(f:bQ B w n K V D)(hs:cC n)(y:bz n<=400)
 (h2:232<bz n->1<=cn n/\(if n.leaf then cn n<=n.keys.length-1/\1<=n.keys.length-1 else cn n<=n.keys.length-2/\1<=n.keys.length-2)/\bz (n.left (cn n))<=232/\bz (n.right (cn n))<=232):
 aJ aj 263 #[.pointer (some c.cb),db n K V D] w (hL T c n w):=by
 have A:=hs.eT I;refine okF (ae.vp (some c.cb) n.leaf K V D) ax.vp func263 ?_;(delta ae.vp aT Y r1 bY ak ey;dsimp only);refine a8 (vs:=[n.leaf,K,V,D]) rfl λw1 o p E=>?_;obtain⟨bS,aU,a_,bd⟩:=bJ o;refine⟨_,bS,K,aU,V,a_,D,bd,(oO (f.ext p) hs I).use ?_⟩;rintro _ z ⟨rfl,q⟩;have a:=p.trans q;obtain⟨d0,d1,d2,d3⟩:=bJ (o.ext q);have fin:∀ (v:aa) (w':J),hL T c n z v w'->∃s:ad,∃e:Int,v=.tuple #[s,e]/\hL T c n w (.tuple #[s,e]) w':=by
  rintro v w' ⟨ar,c',m,s,aw,ay,d,i⟩;have r:=((df.ext T c a).trans ay).mono (j:=2) I;rcases i with ⟨ks,rfl,k⟩|⟨rfl,k⟩
  .exact⟨s,0,rfl,ar,c',m,s,aw,r,d,.inl ⟨ks,rfl,k⟩⟩
  .exact⟨s,3,rfl,ar,c',m,s,aw,r,d,.inr ⟨rfl,k⟩⟩
 refine⟨_,rfl,λb=>⟨_,d0,K,d1,V,d2,D,d3,?_⟩,λb=>⟨_,d0,K,d1,V,d2,D,d3,?_⟩⟩
 .have b:((bz n:Nat):Int)>232:=cj b
  obtain⟨aw,ay,d,i⟩:=h2 I;refine(H_ (h.ext a) t u x (f.ext a) hs I y aw ay d i).use ?_;rintro v w' l;obtain⟨s,e,rfl,g⟩:=fin v w' l;exact⟨s,e,rfl,g⟩
 .have b:¬((bz n:Nat):Int)>232:=cH b
  refine(CN (h.ext a) I I I (f.ext a) hs I).use ?_;rintro v w' l;obtain⟨s,e,rfl,g⟩:=fin v w' l;exact⟨s,e,rfl,g⟩
theorem CO{B:Nat->Prop}{w:J}{s:ad}{ls:O Key}(h:bG B w s ls)(p:ls.length<=100000):
 aJ aj 266 #[s] w (λv w'=>∃b:ad,v=b/\bj (λq=>(B q/\q<w.heap.size)\/(w.heap.size<=q/\aB b q)) w' b ls/\Ext w w'/\gq w b):=by
 have r:=bG.len h;obtain⟨ts,aw,ay,t,u,l⟩:=h;refine okF (ae.um s) ax.um func266 ?_;delta ae.um ak Y;refine⟨λd=>?_,λ_=>?_⟩
 .have d:s.a=none:=by simpa using d
  have h0:=ay.nil d;have:ls=[]:=wM (by rw[←aw];have:=congrArg List.length h0;simpa using this);subst this;exact⟨⟨none,0,0⟩,rfl,bj.none _ _,.refl _ _,λk e=>(fZ k e).elim⟩
 .obtain⟨b,w',h1,h2,x,j,f,_⟩:=qP.clone (cB:=93) ay (vR ts) I
  refine aX ⟨b,w',h1,b,rfl,⟨ts,aw,h2,λq c=>⟨.inr ⟨f q c,c⟩,h2.lt q c⟩,λi m n=>?_⟩,j,f⟩;have a:=l i m n;exact⟨bq.a7 (bq.ext (bq.a7 (C:=λq=>B q/\q<w.heap.size) a λq c g=>⟨g,c⟩) j) λq _ g=>.inl g,λk e o=>by have:=f k o;have:=(a.2.2 k e).2;omega⟩
theorem lh.at{B:Nat->Prop}{w:J}{s:ad}{ks:O Key}{kids:O Nat}(h:lh B w s ks kids):s.len=kids.length/\kids.length=ks.length+1/\kids.length<=2/\∀ (j:Nat) (d:j<kids.length),∃ (A:ag) (t:ad),s.a=some A/\w.cell? (A.add (j*2))=some (.slice t.a t.len t.cap)/\w.cell? ((A.add (j*2)).add 1)=some (.int .i64 ((kids[j]:Nat):Int))/\
 ((t.a=none/\ks.take j=ks.take (j-1))\/(t.a.isSome=true/\∃k,bq B w t k/\ks.take j=ks.take (j-1)++ [k])):=by
 rcases h with ⟨b,x,rfl,rfl,rfl,c,e⟩|⟨b,x,y,k,t,rfl,rfl,rfl,c,e,ht,f⟩
 .refine⟨rfl,rfl,by simp,λj d=>?_⟩
  have:j=0:=by simp at d;omega
  subst this;exact⟨_,⟨none,0,0⟩,rfl,by rw[aA];exact c.cell,by rw[aA,aA];exact c.cell,.inl ⟨rfl,rfl⟩⟩
 .refine⟨rfl,rfl,by simp,λj d=>?_⟩
  rcases ec j 1 with h1|h1
  .have:j=0:=by omega
   subst this;exact⟨_,⟨none,0,0⟩,rfl,by rw[aA];exact c.cell,by rw[aA,aA];exact c.cell,.inl ⟨rfl,rfl⟩⟩
  .have:j=1:=by simp at d;omega
   subst this;obtain⟨A,au⟩:=bq.some ht f;exact⟨_,t,rfl,by rw[aA];exact c.cell,by rw[aA,aA];exact c.cell,.inr ⟨by rw[au];rfl,k,ht,rfl⟩⟩
theorem lh.ext{B:Nat->Prop}{w w':J}{s:ad}{ks:O Key}{kids:O Nat}(h:lh B w s ks kids)(hx:Ext w w'):lh B w' s ks kids:=by
 rcases h with ⟨b,x,h1,h2,a,c,d⟩|⟨b,x,y,k,t,h1,h2,a,c,d,ht,e⟩
 .exact .inl ⟨b,x,h1,h2,a,c.ext hx,d⟩
 .exact .inr ⟨b,x,y,k,t,h1,h2,a,c.ext hx,d,bq.ext ht hx,e⟩
theorem Ia{w:J}{nb o:Nat}{vs:O aa}{S t:ad}{ls:O Key}{l:Key}{B:Nat->Prop}{T:TypeId}(d:Var w nb vs T)(n:o<vs.length)(f:bj B w S ls)(g:¬B nb)
 (ht:bq B w t l) (hd:∀k,aB t k->¬aB S k) (E:ls.length<=100000) {K:J->Prop}
 (p:∀ (w':J) (aE:ad),Var w' nb (vs.set o aE) T->bj (Grow B w w') w' aE (ls++ [l])->af (λq=>q=nb\/aB S q) w w'->(∀k,aB aE k->aB S k\/w.heap.size<=k)->K w'):
 ao (w.alloc (.cells #[t] 39)) λr=>∃i:ad,∃b:J,Sem.run aj (Builtin.append_ #[93,93] 93 #[S,.slice (some w.heap.size) 1 1]) r=.ok i b/\
  (∃u:aa,b.cell? (Addr.add nb o)=some u)/\b.frozen? (Addr.add nb o)=false/\ao (b.setCell (Addr.add nb o) i) λs=>K s:=by
 have v:=bj.a7 (C:=λq=>B q\/w.heap.size<=q) f λk _ h=>.inl h;have x:=bq.a7 (C:=λq=>B q\/w.heap.size<=q) ht λk _ h=>.inl h;obtain⟨c,w',aw,ay,j,y⟩:=BD v x hd I λk a=>.inr a;have F:=d.lt;have z:¬aB S nb:=λh=>by
  obtain⟨ts,_,_,A,_⟩:=f;exact g (A nb h).1
 have m:=d.ah j z;obtain⟨aU,a_⟩:=eA m n;refine aX ⟨c,w',aw,?_⟩;rw[aA,cR];have hc:=dU w' nb o c;refine⟨aU,a_,aX (p _ c (ez m _) ?_ ?_ y)⟩
 .have D:=bj.a7 (C:=Grow B w (w'.setCell ⟨nb,o,none⟩ c)) ay λk a h=>by
   rcases h with h|h
   .exact .inl h
   .exact .inr ⟨h,fa a hc.size⟩
  refine bj.ah D hc λk a e=>?_;subst e;rcases a with h|h
  .exact g h
  .omega
 .exact(j.mono λk _ a=>.inr a).trans (hc.mono λk _ a=>.inl a)
def wq(B:Nat->Prop)(n:aD)(fr to:Nat)(ks:O Key)(kids:O Nat)(w:J)(v:aa)(w':J):Prop:=
 ∃K V D:ad,v=db (fQ n fr to ks kids) K V D/\bQ (λq=>B q\/w.heap.size<=q) w' (fQ n fr to ks kids) K V D/\Ext w w'
structure q3(B:Nat->Prop)(lo:Nat)(nb aR a:Nat)(n:aD)(K V D:ad)(c:O aa)(w:J)(b aC:ad)(bC br:Nat->Prop)(ks:O Key)(ds:O Nat):Prop where
 eR:Var w nb [n.leaf,K,V,D] 169
 r:Var w a c 169
 o:Var w aR [false,b,(),aC] 169
 k:bj bC w b ks
 d:cJ br w aC ds
 bZ:∀q,bC q->(B q/\q<lo)\/(lo<=q/\q<w.heap.size/\q≠nb/\q≠aR/\q≠a/\¬br q)
 aP:∀q,br q->lo<=q/\q<w.heap.size/\q≠nb/\q≠aR/\q≠a
 mz:∀q,aB b q->lo<=q
theorem q3.ext{B:Nat->Prop}{lo nb aR b:Nat}{n:aD}{K V D:ad}{c:O aa}{w w':J}{e aC:ad}{bC br:Nat->Prop}{ks:O Key}{ds:O Nat}(h:q3 B lo nb aR b n K V D c w e aC bC br ks ds)(hx:Ext w w'):q3 B lo nb aR b n K V D c w' e aC bC br ks ds:=by
 have f:=hx.size;exact⟨h.eR.ext hx,h.r.ext hx,h.o.ext hx,bj.ext h.k hx,cJ.ext h.d hx,λq a=>(h.bZ q a).imp id λh=>⟨h.1,I,h.2.2⟩,λq a=>⟨(h.aP q a).1,by have:=(h.aP q a).2.1;omega,(h.aP q a).2.2⟩,h.mz⟩
theorem Ib{B:Nat->Prop}{w cT jf aY aZ:J}{nb aR x:Nat}{n:aD}{K V D s dY D0:ad}{an:O aa}{bC br:Nat->Prop}{ks:O Key}{kids:O Nat}{fr to:Nat}(bv:q3 B w.heap.size nb aR x n K V D an cT dY D0 bC br (n.keys.take fr) (n.kids.take fr))(bw:Ext w cT)
 (bx:bQ B w n K V D) (a0:lh B w s ks kids) (bz:an.length=4) (h1:w.heap.size<=nb) (h2:w.heap.size<=aR) (H:w.heap.size<=x) (L:nb≠aR/\nb≠x/\aR≠x) (t1:1<=to) (t2:to<=n.kids.length) (t3:to-1<=n.keys.length) (cc:n.keys.length<=1000) (bA:n.kids.length<=1000) (aG:jf.heap.size=nb) (aI:aY.heap.size=aR) (C:aZ.heap.size=x):
 ae.xR jf aY aZ s (to:Nat) cT (wq B n fr to ks kids w):=by
 obtain⟨bk,bh,b6,bB⟩:=a0.at;(delta ae.xR jd ak aP r1 aF xy Y p9 st aq aT rY;dsimp only);rw[aG,aI,C];refine⟨λi w'=>∃ (j:Nat) (z aC:ad) (bC br:Nat->Prop),i=j/\j<=kids.length/\Ext w w'/\q3 B w.heap.size nb aR x n K V D an w' z aC bC br (n.keys.take fr++ks.take (j-1)) (n.kids.take fr++kids.take j),λi _=>((kids.length:Int)-i).toNat,⟨0,dY,D0,bC,br,rfl,cL _,bw,by simpa using bv⟩,?_⟩;rintro _ u ⟨j,z,aC,bC,br,rfl,b7,y,h⟩;have b8:=y.size;refine⟨λaH=>?_,λaJ=>?_⟩
 .have aH:j<kids.length:=by
   have:(j:Int)<(s.len:Int):=cj aH;omega
  obtain⟨A,t,au,aU,a_,aK⟩:=(a0.ext y).at.2.2.2 j aH;refine⟨A,au,⟨I,I⟩,t,by rw[dg];exact aU,_,by rw[dg];exact a_,?_⟩;have aK:(t.a=none/\ks.take j=ks.take (j-1))\/(t.a.isSome=true/\∃k,bq (λq=>B q/\q<w.heap.size) u t k/\ks.take j=ks.take (j-1)++ [k]):=by
   obtain⟨b_,a1,a2,bD,_,bE⟩:=bB j aH;rw[au]at a2;cases a2;have e:=af.cell y (λh=>h) bD;rw[aU]at e;injection e with e
   obtain rfl:t=a1:=by
    cases t;cases a1;simp at e;simp[e]
   rcases bE with h|⟨h1,k,h2,H⟩
   .exact .inl h
   .exact .inr ⟨h1,k,bq.ext (bq.a7 h2 λq c f=>⟨f,c⟩) y,H⟩
  refine a8 (vs:=[(),(0:Int)]) rfl λca a3 bF cb=>?_;refine⟨a3.cl rfl ?_,rfl,cP a3 (us:=[t,.int .i64 ((kids[j]:Nat):Int)]) rfl rfl λaL T bH cd=>?_⟩
  .intro v a4
   simp only[cX,fk,fv]at a4;rcases a4 with rfl|rfl<;>trivial
  have ao:Ext u aL:=Ext.cy bF bH (bl _);have m:=h.ext ao;have ce:=ao.size;have a5:=y.trans ao;obtain⟨eW,bI⟩:∃eW,eW=u.heap.size:=⟨_,rfl⟩;rw[←bI]at T⊢;have cf:=T.lt;refine k2 (λU=>∃ (dA:ad) (ap:Nat->Prop),q3 B w.heap.size nb aR x n K V D an U dA aC ap br (n.keys.take fr++ks.take j) (n.kids.take fr++kids.take j)/\Ext w U/\Var U eW [t,.int .i64 ((kids[j]:Nat):Int)] 325/\aL.heap.size<=U.heap.size) (λq c=>⟨t,T.cell,λf=>?_,λf=>?_⟩) ?_
  .rcases aK with ⟨ar,_⟩|⟨_,k,ht,ab⟩
   .rw[ar]at f;cases f
   obtain⟨ac,M,ag,N⟩:=bJ (V:=⟨none,0,0⟩) m.o;have av:∀q,aB z q->bC q:=λq c=>by
    obtain⟨ts,_,_,H,_⟩:=m.k;exact(H q c).1
   refine⟨z,M,t,T.cell,Ia (B:=λq=>bC q\/(B q/\q<w.heap.size)) m.o (o:=1) (by simp) (bj.a7 m.k λq _ f=>.inl f) (λf=>?_) (bq.a7 (bq.ext ht ao) λq _ f=>.inr f) (λq c aM=>?_) ?_ λw' aE aw ay p bK=>c _ ⟨aE,Grow (λq=>bC q\/(B q/\q<w.heap.size)) aL w',?_,?_,?_,p.size⟩⟩
   .rcases f with f|f
    .rcases m.bZ _ f with g|g
     .omega
     .exact g.2.2.2.1 rfl
    .omega
   .have:=(ht.2.2 q c).1.2
    have:=m.mz q aM;omega
   .rw[cp,cI,cI];omega
   .have bL:=p.size
    have E:∀q,aB z q->q<u.heap.size/\q≠nb/\q≠aR/\q≠x/\¬br q:=λq c=>by
     have bM:=h.mz q c;rcases h.bZ q (av q c) with g|g
     .omega
     .exact g.2
    refine⟨m.eR.ah p λc=>?_,m.r.ah p λc=>?_,aw,?_,cJ.ah m.d p λq f c=>?_,λq f=>?_,λq f=>⟨(m.aP q f).1,by have:=(m.aP q f).2.1;omega,(m.aP q f).2.2⟩,λq c=>?_⟩
    .rcases c with e|c
     .exact L.1 e
     .exact(E _ c).2.1 rfl
    .rcases c with e|c
     .exact L.2.2 e.symm
     .exact(E _ c).2.2.2.1 rfl
    .rw[ab,←cz];exact ay
    .rcases c with e|c
     .exact(m.aP q f).2.2.2.1 e
     .exact(E q c).2.2.2.2 f
    .rcases f with (f|f)|f
     .exact(m.bZ q f).imp id λg=>⟨g.1,I,g.2.2⟩
     .exact .inl f
     .refine .inr ⟨I,f.2,λe=>?_,λe=>?_,λe=>?_,λhd=>?_⟩
      .have:=m.eR.lt;omega
      .have:=m.o.lt;omega
      .have:=m.r.lt;omega
      .have:=(m.aP q hd).2.1;omega
    .rcases bK q c with g|g
     .exact h.mz q g
     .omega
   .exact Ext.dS a5 p λq c=>by
     rcases c with rfl|c
     .exact h2
     .exact m.mz q c
   .refine T.ah p λc=>?_
    rcases c with e|c
    .have:=h.o.lt;omega
    .rcases h.bZ _ (av _ c) with g|g<;>omega
  .rcases aK with ⟨_,ab⟩|⟨ar,_⟩
   .refine c _ ⟨z,bC,?_,a5,T,bl _⟩
    rw[ab];exact m
   .cases a6:t.a with
    |none=>rw[a6]at ar;cases ar
    |some A=>rw[a6]at f;cases f
  rintro U ⟨dA,ap,l,a9,ba,cg⟩;have ch:=ba.lt;obtain⟨ac,M,ag,N⟩:=bJ (V:=⟨none,0,0⟩) l.o;have F:∀q,aB aC q->br q:=λq c=>(l.d.2 q c).1;have bN:∀q,ap q->¬(q=aR\/aB aC q):=λq f c=>by
   rcases l.bZ q f with g|g
   .rcases c with e|c
    .omega
    .have:=(l.aP q (F q c)).1;omega
   .rcases c with e|c
    .exact g.2.2.2.1 e
    .exact g.2.2.2.2.2 (F q c)
  have bb:IntKind.wrap .i64 ((j:Int)+1)=((j+1:Nat):Int):=by rw[bn I I];rfl
  refine⟨aC,N,_,by rw[aA];exact ba.cell,(BP (W:=λ_=>True) kids[j] l.o (o:=3) (by simp) l.d (λf=>(l.aP _ f).2.2.2.1 rfl) (by rw[cp,cI,cI];omega) λw' aE aw ay p=>⟨⟨j+1,dA,aE,ap,Grow br U w',bb,I,?_,?_⟩,?_⟩).2⟩
  .exact Ext.dS a9 p λq c=>by
    rcases c with rfl|c
    .exact h2
    .exact(l.aP q (F q c)).1
  .have bL:=p.size
   refine⟨l.eR.ah p λc=>?_,l.r.ah p λc=>?_,aw,?_,?_,λq f=>?_,λq f=>?_,l.mz⟩
   .rcases c with e|c
    .exact L.1 e
    .exact(l.aP _ (F _ c)).2.2.1 rfl
   .rcases c with e|c
    .exact L.2.2 e.symm
    .exact(l.aP _ (F _ c)).2.2.2.2 rfl
   .exact bj.ah l.k p bN
   .rw[kr aH,←cz];exact ay
   .refine(l.bZ q f).imp id λg=>⟨g.1,I,g.2.2.1,g.2.2.2.1,g.2.2.2.2.1,λhd=>?_⟩
    rcases hd with hd|hd
    .exact g.2.2.2.2.2 hd
    .omega
   .rcases f with f|f
    .exact⟨(l.aP q f).1,by have:=(l.aP q f).2.1;omega,(l.aP q f).2.2⟩
    .refine⟨by have:=a9.size;omega,f.2,λe=>?_,λe=>?_,λe=>?_⟩
     .have:=l.eR.lt;omega
     .have:=l.o.lt;omega
     .have:=l.r.lt;omega
  .rw[bb]
   show((kids.length:Int)-((j+1:Nat):Int)).toNat<((kids.length:Int)-(j:Int)).toNat;omega
 .have aJ:j=kids.length:=by
   have:¬(j:Int)<(s.len:Int):=cH aJ;omega
  subst aJ;have bc:Ext u u.drew:=cG _;have h:=h.ext bc;have y:=y.trans bc;have ab:ks.take (kids.length-1)=ks:=dX I;rw[ab,ku]at h;obtain⟨ac,M,ag,N⟩:=bJ (V:=⟨none,0,0⟩) h.o;obtain⟨kN,hM,eo,bd⟩:=bJ h.eR;have be:bQ (λq=>B q/\q<w.heap.size) w n K V D:=bx.a7 λq c f=>⟨f,c⟩;have aN:=be.ext y;have bf:=bG.len aN.keys;have bg:=cY.len aN.kids;have bi:IntKind.wrap .i64 ((to:Int)-1)=((to-1:Nat):Int):=by rw[bn I I];omega
  have av:∀q,aB z q->bC q:=λq c=>by
   obtain⟨ts,_,_,H,_⟩:=h.k;exact(H q c).1
  have F:∀q,aB aC q->br q:=λq c=>(h.d.2 q c).1;have bm:=bG.sub aN.keys (lo:=to-1) (hi:=n.keys.length) t3 (bl _);have bO:(n.keys.drop (to-1)).take (n.keys.length-(to-1))=n.keys.drop (to-1):=dX (by rw[ed];exact bl _);rw[bO]at bm;obtain⟨P,aj,aG,aI,C⟩:=yC h.k bm (λq c aM=>by have:=h.mz q aM;omega) (by rw[cp,cI];omega) (by rw[ed];omega);have ci:u.drew.heap.size=u.heap.size:=rfl;have E:∀q,aB z q->q<u.drew.heap.size/\q≠nb/\q≠aR/\q≠x/\¬br q:=λq c=>by
   have bM:=h.mz q c;rcases h.bZ q (av q c) with g|g
   .omega
   .exact g.2
  have ck:=C.size;have bP:Ext w aj:=Ext.dS y C λq c=>h.mz q c;have bo:=h.o.ah C λc=>(E _ c).2.2.1 rfl;have bR:=h.eR.ah C λc=>(E _ c).2.1 rfl;have bS:=h.r.ah C λc=>(E _ c).2.2.2.1 rfl;have bT:cJ br aj aC _:=cJ.ah h.d C λq f c=>(E q c).2.2.2.2 f;obtain⟨b9,ct⟩:=eA bo (i:=1) (by simp);refine aX ⟨id,z,M,id,K,hM,?_,P,aj,?_,by rw[aA];exact b9,by rw[aA];exact ct,?_⟩
  .rw[bi,bf];omega
  .rw[bi,dg,bf];exact aG
  rw[aA,cR];have R:=dU aj aR 1 P;have al:=ez bo (i:=1) P;obtain⟨G,bU⟩:∃G,G=aj.setCell ⟨aR,1,none⟩ P:=⟨_,rfl⟩;rw[←bU]at R al⊢;have cm:=R.size;have aO:=bR.ah R (λe=>L.1 e);have aQ:=bS.ah R (λe=>L.2.2 e.symm);have aS:cJ br G aC _:=cJ.ah bT R λq f e=>(h.aP q f).2.2.2.1 e;have am:Ext w G:=Ext.cy bP R h2;have X:Ext G G.drew:=cG _;have bp:∀q,(bC q\/(B q/\q<w.heap.size)\/u.drew.heap.size<=q)->q≠aR:=λq c e=>by
   subst e;rcases c with c|c|c
   .rcases h.bZ _ c with g|g
    .omega
    .exact g.2.2.2.1 rfl
   .omega
   .have:=h.o.lt;omega
  have bV:=bG.ext (bG.ah aI R bp) X;have al:=al.ext X;have aO:=aO.ext X;have aQ:=aQ.ext X;have aS:=cJ.ext aS X;have am:=am.trans X;obtain⟨ac,M,ag,N⟩:=bJ (V:=⟨none,0,0⟩) al;obtain⟨kN,hM,eo,bd⟩:=bJ aO;have bs:=cY.sub (be.ext am).kids (lo:=to) (hi:=n.kids.length) t2 (bl _);have bW:(n.kids.drop to).take (n.kids.length-to)=n.kids.drop to:=dX (by rw[ed];exact bl _);rw[bW]at bs;obtain⟨S,ax,f1,f2,f3⟩:=BZ aS bs (by rw[cp,cI];omega) (by rw[ed];omega);have cn:G.drew.heap.size=G.heap.size:=rfl;have co:=f3.size;have az:∀q,aB aC q->w.heap.size<=q/\q<u.drew.heap.size/\q≠nb/\q≠aR/\q≠x:=λq c=>h.aP q (F q c);have bX:Ext w ax:=Ext.dS am f3 λq c=>(az q c).1;have bt:=al.ah f3 λc=>(az _ c).2.2.2.1 rfl;have bY:=aQ.ah f3 λc=>(az _ c).2.2.2.2 rfl;have b0:=bG.ah bV f3 λq f c=>by
   have cq:=az q c;rcases f with f|f|f
   .rcases h.bZ q f with g|g
    .omega
    .exact g.2.2.2.2.2 (F q c)
   .omega
   .omega
  obtain⟨b9,ct⟩:=eA bt (i:=3) (by simp);refine aX (aX ⟨id,aC,N,id,D,bd,?_,S,ax,?_,by rw[aA];exact b9,by rw[aA];exact ct,?_⟩)
  .rw[bg];omega
  .rw[dg,bg];exact f1
  rw[aA,cR];have Z:=dU ax aR 3 S;have bu:=ez bt (i:=3) S;obtain⟨aV,b1⟩:∃aV,aV=ax.setCell ⟨aR,3,none⟩ S:=⟨_,rfl⟩;rw[←b1]at Z bu⊢;have cr:=Z.size;have b2:=bY.ah Z (λe=>L.2.2 e.symm);have b3:Ext w aV:=Ext.cy bX Z h2;have b4:=bG.ah b0 Z bp;have b5:=cY.ah f2 Z λq f e=>by
   subst e;rcases f with f|f|f
   .exact(h.aP _ f).2.2.2.1 rfl
   .omega
   .have:=h.o.lt;omega
  obtain⟨ac,M,ag,N⟩:=bJ (V:=⟨none,0,0⟩) bu;refine aX ⟨_,ac,P,M,⟨none,0,0⟩,ag,S,N,?_⟩;refine iQ false P ⟨none,0,0⟩ S b2 bz (Q:=λb K V D ai=>wq B n fr to ks kids w (.agg #[b,K,V,D]) ai) λcs aW=>?_;refine⟨P,⟨none,0,0⟩,S,rfl,⟨?_,?_,?_⟩,Ext.cy b3 aW H⟩
  .refine bG.a7 (bG.ah b4 aW λq f e=>?_) λq _ f=>?_
   .subst e
    rcases f with f|f|f
    .rcases h.bZ _ f with g|g
     .omega
     .exact g.2.2.2.2.1 rfl
    .omega
    .have:=h.r.lt;omega
   .rcases f with f|f|f
    .rcases h.bZ _ f with g|g
     .exact .inl g.1
     .exact .inr g.1
    .exact .inl f.1
    .have:=y.size;exact .inr I
  .exact bG.none _ _
  .refine cY.a7 (cY.ah b5 aW λq f e=>?_) λq _ f=>?_
   .subst e
    rcases f with f|f|f
    .exact(h.aP _ f).2.2.2.2 rfl
    .omega
    .have:=h.r.lt;omega
   .rcases f with f|f|f
    .exact .inr (h.aP _ f).1
    .exact .inl f.1
    .have:=am.size;exact .inr I
theorem y0(K D:ad)(w:J):Sem.run aj (Instr.build 169 #[(1,K),(3,D)]) w=.ok (.agg #[false,K,(),D]) w:=by kernel_rfl
theorem qA{B:Nat->Prop}{w:J}{n:aD}{K V D s:ad}{ks:O Key}{kids:O Nat}{fr to:Nat}(Q:bQ B w n K V D)(am:lh B w s ks kids)(f1:fr<=n.keys.length)(f2:fr<=n.kids.length)(t1:1<=to)(t2:to<=n.kids.length)(t3:to-1<=n.keys.length)(cc:n.keys.length<=1000)(bA:n.kids.length<=1000):
 aJ aj 233 #[db n K V D,fr,to,s] w (wq B n fr to ks kids w):=by
 refine okF (ae.qA n.leaf K V D (fr:Nat) (to:Nat) s) ax.qA func233 ?_;(delta ae.qA z4 Y r1 bD jd ak aP aF xy p9 st aq aT rY;dsimp only);refine a8 (vs:=[n.leaf,K,V,D]) rfl λw1 an ao aE=>?_;refine a8 (vs:=[false,(),(),()]) rfl λai ap R aG=>aX ?_;have E:Ext ai ai.drew:=cG _;have H:=(ao.trans R).trans E;obtain⟨d,S⟩:∃d,d=ai.drew:=⟨_,rfl⟩;have aI:d.heap.size=ai.heap.size:=by rw[S];rfl
 rw[←S]at H E⊢;have T:=(an.ext R).ext E;have ar:=ap.ext E;obtain⟨bS,aU,a_,bd⟩:=bJ T;have t:bQ (λq=>B q/\q<w.heap.size) d n K V D:=(Q.a7 λq a c=>⟨c,a⟩).ext H;have aK:=bG.len t.keys;have aL:=cY.len t.kids;have aM:=bG.le t.keys;have aN:=t.kids.2.1;have L:=bG.sub t.keys (lo:=0) (hi:=fr) (cL _) f1;have F:=cY.sub t.kids (lo:=0) (hi:=fr) (cL _) f2;rw[iF,mQ]at L F;have U:Int.toNat (fr:Int)-0=fr:=by rw[dg];rfl
 have fin:∀ (cT M:J) (aR:Nat) (dY D0:ad),M.heap.size=aR->Ext d cT->Var cT aR [false,dY,(),D0] 169->d.heap.size<=aR->bj (λq=>(B q/\q<w.heap.size)\/(d.heap.size<=q/\aB dY q)) cT dY (n.keys.take fr)->aW 1 3 cT D0 (fR (n.kids.take fr))->
  (∀q,aB dY q->d.heap.size<=q/\q≠aR)->(∀q,aB D0 q->d.heap.size<=q/\q≠aR/\¬aB dY q)->ae.xR w M w1 s (to:Nat) cT (wq B n fr to ks kids w):=by
  intro cT M aR dY D0 au hx av aO W N X Z;have aQ:=hx.size;have aH:∀q,aB dY q->q<cT.heap.size:=λq a=>by
   obtain⟨ts,_,o,_,_⟩:=W;exact o.lt q a
  refine Ib (bC:=λq=>(B q/\q<w.heap.size)\/aB dY q) (br:=λq=>aB D0 q) ⟨T.ext hx,ar.ext hx,av,bj.a7 W λq _ c=>c.imp id λh=>h.2,⟨N,λq a=>⟨a,aW.lt N q a⟩⟩,λq c=>?_,λq c=>?_,λq a=>by have:=(X q a).1;omega⟩ (H.trans hx) Q am rfl (bl _) I I ⟨I,I,I⟩ t1 t2 t3 cc bA rfl au rfl
  .rcases c with c|c
   .exact .inl c
   .have x:=X q c
    exact .inr ⟨I,aH q c,I,x.2,I,λaw=>(Z q aw).2.2 c⟩
  .have x:=Z q c
   exact⟨I,aW.lt N q c,I,x.2.1,I⟩
 refine⟨λ_=>False,id,K,aU,⟨I,I⟩,id,D,bd,⟨I,I⟩,?_,?_⟩
 .rw[U]
  refine(CO L (by rw[cI];omega)).use ?_;rintro _ u ⟨dY,rfl,p,f,y⟩;have ay:=f.size;refine⟨dY,rfl,f,?_,?_⟩
  .refine(sE (F.1.ext f) (by rw[cI];omega)).use ?_
   rintro _ aa ⟨D0,rfl,v,G,ab⟩;have aS:=G.size;refine⟨D0,rfl,G,_,y0 dY D0,a8 (vs:=[false,(),(),()]) rfl λaV ac af aY=>⟨af,ac.cl rfl (fG (b:=false) (K:=dY) (V:=⟨none,0,0⟩) (D:=D0)),rfl,cP ac (us:=[false,dY,(),D0]) rfl rfl λg z j ag=>?_⟩⟩;have k:Ext aa g:=Ext.cy af j (bl _);have r:∀q,aB dY q->q<u.heap.size:=λq a=>by
    obtain⟨ts,_,o,_,_⟩:=p;exact o.lt q a
   exact fin g aa _ dY D0 rfl (f.trans (G.trans k)) z I (bj.a7 (bj.ext p (G.trans k)) λq _ c=>c.imp (λh=>h.1) id) (v.ext k) (λq a=>⟨y q a,by have:=r q a;omega⟩) λq a=>⟨by have:=ab q a;omega,by have:=aW.lt v q a;omega,λh=>by have:=r q h;have:=ab q a;omega⟩
  .refine a8 (vs:=[false,(),(),()]) rfl λal P l az=>⟨l,(sE ((F.1.ext f).ext l) (by rw[cI];omega)).use ?_⟩
   rintro _ aA ⟨D0,rfl,v,m,i⟩;have A:=P.ext m;refine⟨D0,rfl,m,_,y0 dY D0,A.cl rfl (fG (b:=false) (K:=dY) (V:=⟨none,0,0⟩) (D:=D0)),rfl,cP A (us:=[false,dY,(),D0]) rfl rfl λg z j ag=>?_⟩;have k:Ext u g:=Ext.cy (l.trans m) j (bl _);have r:∀q,aB dY q->q<u.heap.size:=λq a=>by
    obtain⟨ts,_,o,_,_⟩:=p;exact o.lt q a
   exact fin g u _ dY D0 rfl (f.trans k) z I (bj.a7 (bj.ext p k) λq _ c=>c.imp (λh=>h.1) id) (v.ah j λq a e=>by have:=i q a;omega) (λq a=>⟨y q a,by have:=r q a;omega⟩) λq a=>⟨by have:=i q a;omega,by have:=i q a;omega,λh=>by have:=r q h;have:=i q a;omega⟩
 .rw[U]
  refine a8 (vs:=[false,(),(),()]) rfl λal P l az=>⟨l,(CO (bG.ext L l) (by rw[cI];omega)).use ?_⟩;rintro _ u ⟨dY,rfl,p,f,y⟩;have ay:=f.size;refine⟨dY,rfl,f,(sE ((F.1.ext l).ext f) (by rw[cI];omega)).use ?_⟩;rintro _ aA ⟨D0,rfl,v,m,i⟩;have A:=(P.ext f).ext m;refine⟨D0,rfl,m,_,y0 dY D0,A.cl rfl (fG (b:=false) (K:=dY) (V:=⟨none,0,0⟩) (D:=D0)),rfl,cP A (us:=[false,dY,(),D0]) rfl rfl λg z j ag=>?_⟩;have k:Ext d g:=Ext.cy ((l.trans f).trans m) j (bl _);have r:∀q,aB dY q->q<u.heap.size:=λq a=>by
   obtain⟨ts,_,o,_,_⟩:=p;exact o.lt q a
  have aC:bj (λq=>(B q/\q<w.heap.size)\/(d.heap.size<=q/\aB dY q)) g dY (n.keys.take fr):=by
   have x:=bj.a7 (C:=λq=>(B q/\q<w.heap.size)\/(al.heap.size<=q/\aB dY q)) (bj.ext p m) λq _ c=>c.imp (λh=>h.1) id;exact bj.a7 (bj.ah x j λq c e=>by rcases c with c|c<;>omega) λq _ c=>c.imp id λh=>⟨I,h.2⟩
  exact fin g d _ dY D0 rfl k z (bl _) aC (v.ah j λq a e=>by have:=i q a;omega) (λq a=>⟨by have:=y q a;omega,by have:=y q a;omega⟩) λq a=>⟨by have:=i q a;omega,by have:=i q a;omega,λh=>by have:=r q h;have:=i q a;omega⟩
def lQ(n:aD):Prop:=cC n/\bz n<=400/\(232<bz n->1<=cn n/\(if n.leaf then cn n<=n.keys.length-1/\1<=n.keys.length-1 else cn n<=n.keys.length-2/\1<=n.keys.length-2)/\bz (n.left (cn n))<=232/\bz (n.right (cn n))<=232)
structure lR(B:Nat->Prop)(w:J)(A:ag)(u:dr):Prop where
 aU:w.cell? (A.add 1)=some (.bool u.n.leaf)
 a_:w.cell? ((A.add 1).add 1)=some (.slice u.K.a u.K.len u.K.cap)
 bd:w.cell? ((A.add 1).add 2)=some (.slice u.V.a u.V.len u.V.cap)
 fF:w.cell? ((A.add 1).add 3)=some (.slice u.D.a u.D.len u.D.cap)
 iR:w.cell? (A.add 5)=some (.int .i64 (u.cM:Nat))
 b_:bQ B w u.n u.K u.V u.D
 bU:B A.block
 lt:A.block<w.heap.size
theorem lR.ext{B:Nat->Prop}{w w':J}{A:ag}{u:dr}(h:lR B w A u)(hx:Ext w w'):lR B w' A u:=
 ⟨af.cell hx (λh=>h) h.aU,af.cell hx (λh=>h) h.a_,af.cell hx (λh=>h) h.bd,af.cell hx (λh=>h) h.fF,af.cell hx (λh=>h) h.iR,h.b_.ext hx,h.bU,fa h.lt hx.size⟩
theorem lR.to{w w':J}{T ar:aK}{k:Nat}{A:ag}{u:dr}(h:lR (λq=>¬T.M q) w A u)(ht:bO T ar w w' k):lR (λq=>¬ar.M q) w' A u:=by
 have hc:=ht.ah;have a:¬T.N A.block:=λc=>h.bU (aK.gB c);refine⟨af.cell hc (A:=A.add 1) a h.aU,af.cell hc (A:=(A.add 1).add 1) a h.a_,af.cell hc (A:=(A.add 1).add 2) a h.bd,af.cell hc (A:=(A.add 1).add 3) a h.fF,af.cell hc (A:=A.add 5) a h.iR,?_,λd=>?_,fa h.lt hc.size⟩
 .have h1:=ht.b_ (lo:=0) (h.b_.a7 λq _ b=>⟨cL _,b⟩)
  exact h1.a7 λq _ b=>b.2
 .rcases ht.c3 _ d with h1|h1
  .exact h.bU h1
  .have:=h.lt;omega
theorem hL.base{T:aK}{c:dv}{n:aD}{w0 w w':J}{v:aa}(h:hL T c n w v w')(hx:Ext w0 w):hL T c n w0 v w':=by
 obtain⟨ar,c',m,s,aw,ay,a,b⟩:=h;exact⟨ar,c',m,s,aw,((df.ext T c hx).trans ay).mono I,a,b⟩
theorem hL.out{T:aK}{c:dv}{n:aD}{w w':J}{v:aa}(h:hL T c n w v w'):∃ (s:ad) (e:Int),v=.tuple #[s,e]:=by
 obtain⟨ar,c',m,s,aw,ay,b,a⟩:=h;rcases a with ⟨ks,rfl,_⟩|⟨rfl,_⟩
 .exact⟨s,0,rfl⟩
 .exact⟨s,3,rfl⟩
theorem Ic{W X:Nat->Prop}{w0 cT ar iI au jL:J}{T:aK}{c:dv}{nb aR g bv:Nat}{A:ag}{u:dr}{n o:aD}{K V D i j k:ad}{fr other:Nat}{Q:aa->J->Prop}(h:de w0 T c)(hx:Ext w0 cT)(av:Var w0 nb (dT n K V D) 169)(aw:Var w0 aR (dT o i j k) 169)
 (ax:Var cT g (dT o i j k) 169) (ay:Var cT bv (dT n K V D) 169) (h1:w0.heap.size<=g) (h2:w0.heap.size<=bv) (az:g≠bv) (aA:bQ W w0 n K V D) (aB:bQ X w0 o i j k) (hu:lR (λq=>¬T.M q) w0 A u)
 (aC:T.C.D.a6<=900000090) (aE:2<=cg T) (aG:c.made.length<=900) (Z:cC n) (ab:cC o) (bL:bz n<=400) (bM:bz o<=400) (aH:o.leaf=n.leaf) (bb:fr<u.n.keys.length) (aI:cv u.n.keys[fr]) (m:aD) (aJ:m=if u.cM<other then dB n u.n.keys[fr] o else dB o u.n.keys[fr] n) (l:lQ m) (bN:fr<=1000)
 (aL:∀ (s:ad) (e:Int) (w':J),hL T c m w0 (.tuple #[s,e]) w'->Q (.tuple #[s,fr,.int .i64 ((fr+2:Nat):Int),e]) w') (bc:ar.heap.size=nb) (bd:iI.heap.size=aR) (be:au.heap.size=g) (bf:jL.heap.size=bv):
 ae.xS ar iI au jL (some c.cb) (some A) (fr:Nat) (other:Nat) cT Q:=by
 have bO:=av.lt;have bP:=aw.lt;have bR:=hx.size;have fn:=Z.eT I;have bS:=ab.eT I;(delta ae.xS b1 aF ak Y aT r1 ov aP lD z4 qa ey aq;dsimp only);rw[bc,bd,be,bf];refine k2 (λp=>∃ (a b:aD) (G H L N O P:ad) (aM aN:Nat->Prop),Ext w0 p/\Var p g (dT a G H L) 169/\Var p bv (dT b N O P) 169/\bQ aM w0 a G H L/\bQ aN w0 b N O P/\m=dB a u.n.keys[fr] b/\cC a/\cC b/\a.leaf=b.leaf/\a.keys.length<=200/\b.keys.length<=200)
  (λq r=>⟨A,rfl,_,(hu.ext hx).iR,λd=>?_,λd=>r _ ⟨o,n,i,j,k,K,V,D,X,W,hx,ax,ay,aB,aA,?_,ab,Z,aH,I,I⟩⟩) ?_
 .have d:u.cM<other:=by
   have:(other:Int)>(u.cM:Int):=cj d;omega
  have f:=hx.trans (cG cT);obtain⟨bg,cc,bA,bh⟩:=bJ (av.ext f);obtain⟨bi,bj,bk,bm⟩:=bJ (aw.ext f);have aO:=ax.drew;have bo:=ay.drew;refine aX ⟨λq=>q=g,(show nb≠g from I),_,bg,K,cc,V,bA,D,bh,(show aR≠g from I),_,bi,i,bj,j,bk,k,bm,aO.cl rfl fG,rfl,cP aO (us:=dT n K V D) rfl rfl λbT bp ac bU=>?_⟩;have aQ:=bo.ah ac (λe=>az e.symm);refine⟨ac,aQ.cl rfl fG,rfl,cP aQ (us:=dT o i j k) rfl rfl λbV bq aS bW=>?_⟩;exact r _ ⟨n,o,K,V,D,i,j,k,W,X,Ext.cy (Ext.cy f ac h1) aS h2,bp.ah aS az,bq,aA,aB,by rw[aJ,if_pos d],Z,ab,aH.symm,I,I⟩
 .have d:¬u.cM<other:=by
   have:¬(other:Int)>(u.cM:Int):=cH d;omega
  rw[aJ,if_neg d]
 rintro p ⟨a,b,G,H,L,N,O,P,aM,aN,br,bs,d,aU,aV,af,aW,sb,aY,la,lb⟩;have f:=br.trans (cG p);have bt:=bs.drew;have bu:=d.drew;obtain⟨a0,a1,a2,a3⟩:=bJ bt;obtain⟨bw,cx,b3,bx⟩:=bJ bu;have aZ:=hu.ext f;obtain⟨bB,tk,bC,bD,bE,R,bX⟩:=bG.at aZ.b_.keys bb;have a4:cC (dB a u.n.keys[fr] b):=by rw[←af];exact l.1
 have B:=oP (aU.ext f) (aV.ext f) R.1 (λq r=>(R.2.2 q r).2) (by have:=aI.2;omega) aW sb aY a4 I I;rw[←af]at B;have a5:IntKind.wrap .i64 ((fr:Int)+2)=((fr+2:Nat):Int):=by rw[bn I I];rfl
 obtain⟨wd,bY⟩:∃wd,wd=p.drew:=⟨_,rfl⟩;refine aX ⟨λ_=>False,id,_,a0,G,a1,H,a2,L,a3,A,rfl,id,u.K,aZ.a_,bB,bC,bD,id,tk,bE,id,_,bw,N,cx,O,b3,P,bx,?_,?_⟩
 .refine B.use ?_
  rintro _ bF ⟨t,w,x,rfl,ai,y⟩;refine⟨_,t,w,x,true,rfl,y,a8 (vs:=[false,(),(),()]) rfl λbZ a7 a9 b0=>⟨a9,a7.cl rfl fG,rfl,cP a7 (us:=dT m t w x) rfl rfl λaj al S bH=>⟨λd=>(by cases d),λ_=>?_⟩⟩⟩;have U:Ext bF aj:=Ext.cy a9 S (bl _);have E:=(f.trans y).trans U;obtain⟨am,an,ao,ap⟩:=bJ al;refine⟨_,am,t,an,w,ao,x,ap,(wo (h.ext E) aC aE aG (ai.ext U) l.1 l.2.1 l.2.2).use ?_⟩;intro v w' F;obtain⟨s,e,rfl⟩:=F.out;rw[a5];exact⟨s,e,rfl,aL s e w' (F.base E)⟩
 .refine a8 (vs:=[false,(),(),()]) rfl λb2 bI z b4=>⟨z,?_⟩
  have B:=oP ((aU.ext f).ext z) ((aV.ext f).ext z) (R.1.ext z) (λq r=>fa (R.2.2 q r).2 z.size) (by have:=aI.2;omega) aW sb aY a4 I I;rw[←af]at B;refine B.use ?_;rintro _ b5 ⟨t,w,x,rfl,ai,y⟩;have ba:=bI.ext y;refine⟨_,t,w,x,true,rfl,y,ba.cl rfl fG,rfl,cP ba (us:=dT m t w x) rfl rfl λaj al S bH=>⟨λd=>(by cases d),λ_=>?_⟩⟩;have U:Ext p.drew aj:=Ext.cy (z.trans y) S (bl _);have E:=f.trans U;have bK:=bQ.ah ai S λq r e=>by omega
  obtain⟨am,an,ao,ap⟩:=bJ al;refine⟨_,am,t,an,w,ao,x,ap,(wo (h.ext E) aC aE aG bK l.1 l.2.1 l.2.2).use ?_⟩;intro v w' F;obtain⟨s,e,rfl⟩:=F.out;rw[a5];exact⟨s,e,rfl,aL s e w' (F.base E)⟩
theorem df.leave{T:aK}{c c':dv}{E G:Nat->Prop}{w w':J}{no:Nat}(h:bO T (T.cu E G) w w' 0)(a:E=T.E)(b:∀q,T.G q->G q)(h1:c'.cb=c.cb)(h2:c'.made=c.made)(d:c'.left=c.left++ [no]):df T (T.cu E G) c c' [] [no] w w' 0:=
 ⟨h,a,b,rfl,rfl,h1,by rw[h2,fu],d,List.nodup_nil,λ_ h=>(by cases h),λno=>by simp[aK.cu],λ_ _=>⟨rfl,rfl⟩,by simp[cg,aK.cu]⟩
theorem Ie{w F iI:J}{T:aK}{c:dv}{nb aR:Nat}{A:ag}{u:dr}{n o:aD}{K V D g i j:ad}{fr other no:Nat}{Q:aa->J->Prop}(h:de w T c)(aC:Var w nb (dT n K V D) 169)(aE:Var w aR (dT o g i j) 169)
 (aG:¬T.M nb) (aH:¬T.M aR) (aI:bQ (λq=>¬T.M q) w n K V D) (aJ:bQ (λq=>¬T.M q) w o g i j) (hu:lR (λq=>¬T.M q) w A u)
 (aL:T.C.D.a6<=900000090) (aM:2<=cg T) (aN:c.made.length<=900) (bB:c.left.length<=900) (aO:cC n) (aQ:cC o) (aS:bz n<=400) (aV:bz o<=400) (aW:o.leaf=n.leaf) (aY:fr<u.n.keys.length) (aZ:cv u.n.keys[fr]) (m:aD) (H:m=if u.cM<other then dB n u.n.keys[fr] o else dB o u.n.keys[fr] n) (a0:lQ m) (a1:fr<=1000)
 (a2:∀ (s:ad) (e:Int) (bW:aK) (aU:dv) (w1 w':J),df T bW c aU [] [no] w w1 0->hL bW aU m w1 (.tuple #[s,e]) w'->Q (.tuple #[s,fr,.int .i64 ((fr+2:Nat):Int),e]) w') (x:F.heap.size=nb) (y:iI.heap.size=aR):
 ae.xT F iI (some c.cb) (some A) (fr:Nat) (other:Nat) (no:Nat) 0 w Q:=by
 (delta ae.xT qc ak r1 Y st aT z4 r0 b1 aF ov aP lD qa ey aq;dsimp only);rw[x,y];refine⟨λL=>(by cases L),λ_=>⟨_,rfl,_,h.cells.2.2,?_⟩⟩;obtain⟨k,ao,aw,ay,a3,a4,a5⟩:=CI h no I;refine aX ⟨k,ao,aw,_,rfl,by rw[aA];exact a3,by rw[aA];exact a4,aX ?_⟩;rw[aA];obtain⟨b,ap⟩:∃b,b=ao.setCell ⟨c.cb,0+2,none⟩ k:=⟨_,rfl⟩;rw[←ap];obtain⟨ar,au⟩:=a5 b ap;have av:=df.leave (c:=c) (c':={c with gu:=k,left:=c.left++ [no]}) (no:=no) au rfl (λq O=>.inl O) rfl rfl rfl;obtain⟨bW,z⟩:∃bW,bW=T.cu T.E λq=>T.G q\/aB k q:=⟨_,rfl⟩;obtain⟨aU,P⟩:∃aU:dv,aU={c with gu:=k,left:=c.left++ [no]}:=⟨_,rfl⟩;have a7:aU.cb=c.cb:=by rw[P]
 have a9:aU.made=c.made:=by rw[P]
 have a_:bW.C.D.a6<=900000090:=by rw[z];exact aL
 have ba:2<=cg bW:=by rw[z];exact aM
 rw[←z,←P]at ar av;rw[←z]at au;have R:Ext b b.drew:=cG _;have ax:=ar.ext R;have S:df T bW c aU [] [no] w b.drew 0:=av.trans (df.ext bW aU R);obtain⟨a,bb⟩:∃a,a=b.drew:=⟨_,rfl⟩;rw[←bb]at R ax S⊢;have B:=S.to;have U:∀q,¬T.M q->¬T.N q:=λq h1 h2=>h1 (aK.gB h2);have W:=aC.ah B.ah (U _ aG);have X:=aE.ah B.ah (U _ aH);have az:∀ {m:aD}{K V D:ad},bQ (λq=>¬T.M q) w m K V D->bQ (λq=>¬T.M q) a m K V D:=λH=>bQ.ah H B.ah λq O=>U q O;have bc:=az aI;have bd:=az aJ;have be:=hu.to B;obtain⟨bf,cc,bA,bg⟩:=bJ W;obtain⟨bh,bi,bj,bk⟩:=bJ X;have bC:=W.lt;have bD:=X.lt;have fin:∀ (cT Z jL:J) (l bv:Nat),Z.heap.size=l->jL.heap.size=bv->Ext a cT->Var cT l (dT o g i j) 169->Var cT bv (dT n K V D) 169->a.heap.size<=l->a.heap.size<=bv->l≠bv->ae.xS F iI Z jL (some c.cb) (some A) (fr:Nat) (other:Nat) cT Q:=by
  intro cT Z jL l bv bm bn hx bo L h1 h2 bp;have:=Ic ax hx W X bo L h1 h2 bp bc bd be a_ ba (by rw[a9];exact aN) aO aQ aS aV aW aY aZ m H a0 a1 (Q:=Q) (λs e w' hf=>a2 s e bW aU a w' S hf) x y bm bn;rw[a7]at this;exact this
 refine aX ⟨λq=>a.heap.size<=q,(show¬a.heap.size<=aR from I),_,bh,g,bi,i,bj,j,bk,(show¬a.heap.size<=nb from I),_,bf,K,cc,V,bA,D,bg,?_,?_⟩
 .refine a8 (vs:=[false,(),(),()]) rfl λab bq p br=>⟨af.c0 p,a8 (vs:=[false,(),(),()]) rfl λbs ac d bt=>?_⟩
  have r:=bq.ext d;refine⟨af.c0 d,r.cl rfl fG,rfl,cP r (us:=dT o g i j) rfl rfl λai aj f bu=>?_⟩;have t:=ac.ah f I;have al:Ext a ai:=Ext.cy (p.trans d) f (bl _);refine⟨f.mono λq _ e=>I,t.cl rfl fG,rfl,cP t (us:=dT n K V D) rfl rfl λam an v bw=>?_⟩;rw[←x,←y];exact fin am a ab _ _ rfl rfl (Ext.cy al v I) (aj.ah v I) an (bl _) I I
 .refine a8 (vs:=[false,(),(),()]) rfl λab bx p br=>⟨af.c0 p,a8 (vs:=[false,(),(),()]) rfl λbs r d bt=>?_⟩
  have ac:=bx.ext d;refine⟨af.c0 d,r.cl rfl fG,rfl,cP r (us:=dT o g i j) rfl rfl λai aj f bu=>?_⟩;have t:=ac.ah f I;have al:Ext a ai:=Ext.cy (p.trans d) f I;refine⟨f.mono λq _ e=>I,t.cl rfl fG,rfl,cP t (us:=dT n K V D) rfl rfl λam an v bw=>?_⟩;rw[←x,←y];exact fin am ab a _ _ rfl rfl (Ext.cy al v (bl _)) (aj.ah v I) an I (bl _) I
theorem bO.read{w w':J}{T:aK}{E:Nat->Prop}{aI:b2}{P:Nat->av aD}{k:Nat}(h:bO (T.cu E λ_=>False) ((T.cu E λ_=>False).bx aI P) w w' k)(e:∀q,T.E q\/T.G q->E q)(f:∀q,E q->T.E q\/T.G q\/w.heap.size<=q):bO T (T.bx aI P) w w' k:=by
 refine⟨h.bg,h.sb,h.n,h.g,h.s1,h.s2,h.c,h.d,h.b4,h.gen,h.a6,h.calm,h.ah.mono λq _ a=>?_,λq a=>?_,λq a=>?_⟩
 .rcases a with a|a|a|a
  .exact .inl a
  .exact .inr (.inl a)
  .exact .inr (.inr (.inl a))
  .exact a.elim
 .have h1:((T.cu E λ_=>False).bx aI P).M q:=by
   rcases a with a|a|a|a
   .exact .inl a
   .exact .inr (.inl a)
   .exact .inr (.inr (.inl a))
   .exact .inr (.inr (.inr (.inl (e q a))))
  rcases h.c3 q h1 with h2|h2
  .rcases h2 with a|a|a|a|a
   .exact .inl (.inl a)
   .exact .inl (.inr (.inl a))
   .exact .inl (.inr (.inr (.inl a)))
   .rcases f q a with b|b|b
    .exact .inl (.inr (.inr (.inr (.inl b))))
    .exact .inl (.inr (.inr (.inr (.inr b))))
    .exact .inr b
   .exact a.elim
  .exact .inr h2
 .rcases a with a|a|a|a
  .rcases h.fn q (.inl a) with h2|h2
   .rcases h2 with h2|h2|h2|h2
    .exact .inl (.inl h2)
    .exact .inl (.inr (.inl h2))
    .exact .inl (.inr (.inr (.inl h2)))
    .exact h2.elim
   .exact .inr h2
  .exact .inl (.inr (.inl a))
  .exact .inl (.inr (.inr (.inl a)))
  .exact .inl (.inr (.inr (.inr a)))
theorem df.cache{T:aK}{c:dv}{aI:b2}{w w':J}{k:Nat}(h:bO T (T.bx aI T.P) w w' k)(a:∀j,aI.view j=T.C.view j):df T (T.bx aI T.P) c c [] [] w w' k:=
 ⟨h,rfl,λ_ h=>h,rfl,rfl,rfl,by simp,by simp,List.nodup_nil,λ_ h=>(by cases h),λno=>by simp[aK.bx],λno _=>⟨rfl,a no⟩,by simp[cg,aK.bx]⟩
theorem CP{w w1:J}{T:aK}{c:dv}{Z:Nat->Prop}{no:Nat}{o:aD}(h:de w T c)(hx:Ext w w1)(g:∀q,Z q->w.heap.size<=q/\q<w1.heap.size)(y:T.C.D.a6<=999999999)(z:T.P no=some o):
 aJ aj 175 #[.pointer (some T.bg),no,o.leaf] w1 (λv w'=>∃aI:b2,(∀j,aI.view j=T.C.view j)/\af (λq=>T.N q/\¬T.G q) w1 w'/\(∀q,(T.bx aI T.P).M q->T.M q\/w1.heap.size<=q)/\
  (∀f,af Z w' f->de f (T.bx aI T.P) c/\df T (T.bx aI T.P) c c [] [] w f 2)/\
  ((∃ (K V D:ad),v=.tuple #[db o K V D,(0:Int)]/\bQ (λq=>w1.heap.size<=q/\¬(T.bx aI T.P).M q) w' o K V D)\/(v=.tuple #[db iP bH bH bH,(3:Int)]/\¬T.C.D.calm 2))):=by
 obtain⟨A,i⟩:=h.t.eR no o z;obtain⟨bM,k⟩:∃bM,bM=λq=>T.E q\/T.G q\/Z q:=⟨_,rfl⟩;have d:∀q,T.E q\/T.G q\/Z q->bM q:=λq a=>by rw[k];exact a
 have l:∀q,bM q->T.E q\/T.G q\/Z q:=λq a=>by rw[k]at a;exact a
 have m:b8 w1 (T.cu bM λ_=>False):=h.t.grow (W:=λ_=>False) hx (λ_ h=>h.elim) (λq a=>(l q a).imp id (Or.imp id (g q))) (λ_ h=>h.elim) λ_ _ h=>h;have n:∀q,(T.cu bM λ_=>False).N q->T.N q/\¬T.G q:=λq a=>⟨by
  rcases a with a|a|a|a
  .exact .inl a
  .exact .inr (.inl a)
  .exact .inr (.inr (.inl a))
  .exact a.elim,λhg=>m.kJ (d q (.inr (.inl hg))) a⟩
 refine(yY m y A i.two o.leaf).mono ?_;rintro v w' ⟨aI,B,ht,r,F⟩;have Q:=hx.size;have R:=ht.ah.size;have s:=(bO.ext (T.cu bM λ_=>False) hx).trans ht;rw[cR]at s;have H:bO T (T.bx aI T.P) w w' 2:=bO.read (E:=bM) s (λq a=>d q (a.imp id .inl)) λq a=>(l q a).imp id (Or.imp id λh=>(g q h).1);have u:af (λq=>T.N q/\¬T.G q) w1 w':=ht.ah.mono λq _ a=>n q a;refine⟨aI,r,u,λq a=>?_,λf hc=>?_,?_⟩
 .rcases a with a|a
  .exact(ht.fn q (.inl a)).imp (λh=>aK.gB (n q h).1) id
  .exact .inl (.inr a)
 .have I:b8 f (T.bx aI T.P):=B.grow (E:=T.E) (G:=T.G) hc (λq a _=>.inl (d q (.inr (.inr a)))) (λq a=>.inl (d q (.inl a))) (λq a=>.inl (d q (.inr (.inl a)))) λq a=>(h.t.dO q a).2.2
  refine⟨(h.ext hx).of (W:=λq=>(T.N q/\¬T.G q)\/Z q) I ((u.mono λq _ a=>.inl a).trans (hc.mono λq _ a=>.inr a)) (λq hg a=>?_) rfl (λ_ h=>h) ht.b7.1,df.cache ?_ r⟩
  .rcases a with a|a
   .exact a.2 hg
   .have:=h.t.lt (q:=q) (.inr (.inr (.inr (.inr hg))))
    have:=(g q a).1;omega
  .exact H.step (E:=T.E) (G:=T.G) hc (λq a S=>by have:=(g q a).1;omega) (λq a=>.inl a) λq a=>.inl a
 .rcases F with ⟨bA,K,V,D,rfl,L,eg⟩|⟨e,rfl,O,U⟩
  .obtain rfl:=gP.uniq i L
   refine .inl ⟨K,V,D,rfl,eg.a7 λq a x=>⟨x.1,λb=>x.2 ?_⟩⟩;rcases b with b|b|b|b|b
   .exact .inl b
   .exact .inr (.inl b)
   .exact .inr (.inr (.inl b))
   .exact .inr (.inr (.inr (.inl (d q (.inl b)))))
   .exact .inr (.inr (.inr (.inl (d q (.inr (.inl b))))))
  .refine .inr ?_
   rcases O with ⟨rfl,h1⟩|h1|⟨_,_,h1⟩
   .exact⟨rfl,h1⟩
   .obtain⟨p,aw,_⟩:=i
    have h1:fe (no:Int) (T.C.view no)=.error e:=h1;rw[aw]at h1;cases h1
   .exact absurd i (h1 o)
def jP(u:dr):Nat:=if u.cM=0 then 1 else u.cM-1
def lS(u:dr)(n o:aD):aD:=if u.cM<jP u then dB n (u.n.keys.getD (u.cM-1) []) o else dB o (u.n.keys.getD (u.cM-1) []) n
def y1(T:aK)(c:dv)(n:aD)(u:dr)(w:J)(v:aa)(w':J):Prop:=
 (80<=bz n/\∃ (s:ad) (e:Int),v=.tuple #[s,u.cM,.int .i64 ((u.cM+1:Nat):Int),e]/\hL T c n w (.tuple #[s,e]) w')\/
 (bz n<80/\∃ (bW:aK) (aU:dv),v=.tuple #[(),(0:Int),(0:Int),(3:Int)]/\de w' bW aU/\df T bW c aU [] [] w w' 2/\¬T.C.D.calm 2)\/
 (bz n<80/\∃ (o:aD) (no:Nat) (bW:aK) (aU:dv) (w1:J) (s:ad) (e:Int),u.n.kids[jP u]? =some no/\T.P no=some o/\df T bW c aU [] [no] w w1 2/\
   v=.tuple #[s,.int .i64 ((u.cM-1:Nat):Int),.int .i64 ((u.cM-1+2:Nat):Int),e]/\hL bW aU (lS u n o) w1 (.tuple #[s,e]) w')
theorem Ig{B:Nat->Prop}{w:J}{T:aK}{c:dv}{n:aD}{K V D:ad}(h:de w T c)(j:bQ B w n K V D)(d:lQ n)(o:T.C.D.a6<=900000080)(k:2<=cg T)(l:c.made.length<=900):
 aJ aj 231 #[.pointer (some c.cb),db n K V D,.pointer none] w (λv w'=>∃ (s:ad) (e:Int),v=.tuple #[s,(0:Int),(0:Int),e]/\hL T c n w (.tuple #[s,e]) w'):=by
 refine okF (ae.oL (some c.cb) n.leaf K V D none) ax.oL func231 ?_;(delta ae.oL ak aT Y r1 bY aF aq ey aP k6 z4 qc st r0 b1 ov lD qa;dsimp only);refine a8 (vs:=dT n K V D) rfl λw1 m f p=>?_;refine cA (λb w'=>b=true/\w1=w') (λq g=>⟨λ_=>g _ _ ⟨rfl,rfl⟩,λh=>(by cases h)⟩) ?_;rintro _ _ ⟨rfl,rfl⟩;refine⟨λ_=>tH (λa b w'=>a=0/\b=0/\w1=w') (λq g=>⟨λh=>(by cases h),λ_=>g _ _ _ ⟨rfl,rfl,rfl⟩⟩) ?_,λh=>(by cases h)⟩;rintro _ _ _ ⟨rfl,rfl,rfl⟩;obtain⟨bS,aU,a_,bd⟩:=bJ m;refine⟨_,bS,K,aU,V,a_,D,bd,(wo (h.ext f) I k l (j.ext f) d.1 d.2.1 d.2.2).use ?_⟩;intro v w' i;obtain⟨s,e,rfl⟩:=i.out;exact⟨s,e,rfl,s,e,rfl,i.base f⟩
theorem Ih{w:J}{T:aK}{c:dv}{n:aD}{K V D:ad}{A:ag}{u:dr}(h:de w T c)(ar:bQ (λq=>¬T.M q) w n K V D)(hu:lR (λq=>¬T.M q) w A u)(av:cC n)(a4:bz n<=400)(au:80<=bz n->lQ n)
 (a5:bz n<80->∃ (o:aD) (no:Nat),u.n.kids[jP u]? =some no/\T.P no=some o/\o.leaf=n.leaf/\u.cM-1<u.n.keys.length/\cv (u.n.keys.getD (u.cM-1) [])/\lQ (lS u n o)) (bE:u.cM<=900)
 (bF:T.C.D.a6<=900000080) (aO:2<=cg T) (aQ:c.made.length<=900) (a9:c.left.length<=900):
 aJ aj 231 #[.pointer (some c.cb),db n K V D,.pointer (some A)] w (y1 T c n u w):=by
 have bG:=av.eT I;refine okF (ae.oL (some c.cb) n.leaf K V D (some A)) ax.oL func231 ?_;(delta ae.oL ak aT Y r1 bY aF aq ey aP k6 z4 qc st r0 b1 ov lD qa;dsimp only);refine a8 (vs:=dT n K V D) rfl λw1 X aS bI=>?_;obtain⟨nb,aa⟩:∃nb,nb=w.heap.size:=⟨_,rfl⟩;rw[←aa]at X⊢;refine cA (λb w'=>b=decide (80<=bz n)/\Ext w1 w') (λq f=>⟨λh=>(by cases h),λ_=>?_⟩) ?_
 .obtain⟨bS,aU,a_,bd⟩:=bJ X
  refine⟨_,bS,K,aU,V,a_,D,bd,(oO (ar.ext aS) av I).use ?_⟩;rintro _ bK ⟨rfl,ba⟩;refine⟨_,rfl,f _ _ ⟨?_,ba⟩⟩;rw[fC,cq,cq];omega
 rintro _ p ⟨rfl,ab⟩;have ac:=aS.trans ab;refine⟨λg=>?_,λg=>?_⟩
 .have g:=cj g
  have L:=au g;refine tH (λa b w'=>a=(u.cM:Nat)/\b=((u.cM+1:Nat):Int)/\Ext p w') (λq f=>⟨λ_=>?_,λh=>(by cases h)⟩) ?_
  .have y:Ext p p.drew:=cG _
   have aV:=hu.ext (ac.trans y);refine aX ⟨A,rfl,id,_,aV.iR,A,rfl,id,_,aV.iR,f _ _ _ ⟨rfl,?_,y⟩⟩;rw[bn I I];rfl
  rintro _ _ bL ⟨rfl,rfl,aW⟩;have r:=ac.trans aW;obtain⟨bS,aU,a_,bd⟩:=bJ (X.ext (ab.trans aW));refine⟨_,bS,K,aU,V,a_,D,bd,(wo (h.ext r) I aO aQ (ar.ext r) L.1 L.2.1 L.2.2).use ?_⟩;intro v w' ai;obtain⟨s,e,rfl⟩:=ai.out;exact⟨s,e,rfl,.inl ⟨g,s,e,rfl,ai.base r⟩⟩
 .have g:¬80<=bz n:=cH g
  obtain⟨o,no,aw,al,ay,aY,bb,L⟩:=a5 I;obtain⟨bM,bc⟩:=h.t.eR no o al;obtain⟨_,be,bN⟩:=bc.is;have am:=hu.ext ac;refine⟨A,rfl,_,am.iR,((u.cM-1:Nat):Int),p,?_,?_⟩
  .rw[run_max_int2]
   congr 2
   by_cases h0:u.cM=0
   .rw[h0];rfl
   .rw[bn I I,if_neg I];omega
  refine cA (λa w'=>a=(jP u:Nat)/\p=w') (λq f=>⟨A,rfl,_,am.iR,λh0=>f _ _ ⟨?_,rfl⟩,λh0=>f _ _ ⟨?_,rfl⟩⟩) ?_
  .have:u.cM=0:=by simpa using h0
   unfold jP;rw[if_pos this];rfl
  .have:u.cM≠0:=by simpa using h0
   unfold jP;rw[if_neg this]
  rintro _ _ ⟨rfl,rfl⟩;have bf:jP u<u.n.kids.length:=(ju.1 aw).1;obtain⟨aZ,bg,bh,a0⟩:=cY.at am.b_.kids bf;have bi:u.n.kids[jP u]=no:=(ju.1 aw).2;rw[bi]at a0;refine⟨A,rfl,u.D,am.fF,aZ,bg,bh,_,a0,aX ?_⟩;have y:Ext p p.drew:=cG _;obtain⟨z,bj⟩:∃z,z=p.drew:=⟨_,rfl⟩;rw[←bj]at y⊢;have r:=ac.trans y;have az:=h.ext r;have bO:=r.size;have bP:=(ab.trans y).size;have aA:=X.ext (ab.trans y);have aB:∀q,T.M q->q<w.heap.size:=λq f=>h.t.lt f;have a1:u.n.keys.getD (u.cM-1) []=u.n.keys[u.cM-1]:=by rw[fL,dC aY];rfl
  have fin:∀ (aI:b2) (iI:J) (aR:Nat) (i k l:ad) (d:J),iI.heap.size=aR->de d (T.bx aI T.P) c->df T (T.bx aI T.P) c c [] [] z d 2->Var d nb (dT n K V D) 169->Var d aR (dT o i k l) 169->z.heap.size<=aR->¬(T.bx aI T.P).M aR->bQ (λq=>¬(T.bx aI T.P).M q) d o i k l->
   ae.xT w iI (some c.cb) (some A) ((u.cM-1:Nat):Int) (jP u:Nat) (no:Nat) 0 d (λv w'=>y1 T c n u w v w'):=by
   intro aI iI aR i k l d bk B an bm bo bR bp bq;have a2:=((df.ext T c r).trans an).mono (j:=2) I;have aC:=a2.to;have br:¬(T.bx aI T.P).M nb:=λO=>by
    rcases an.to.c3 nb O with h1|h1
    .have:=aB _ h1;omega
    .omega
   have bs:bQ (λq=>¬(T.bx aI T.P).M q) d n K V D:=(aC.b_ (lo:=0) (ar.a7 λq _ g=>⟨cL _,g⟩)).a7 λq _ g=>g.2;have bt:(T.bx aI T.P).C.D.a6<=900000090:=eK aC.a6 I;refine Ie B bm bo br bp bs bq (hu.to aC) bt aO aQ a9 av be a4 I ay aY (by rw[←a1];exact bb) (lS u n o) (by unfold lS;rw[a1]) L I ?_ aa.symm bk;intro s e bW aU bu w' bv hf;exact .inr (.inr ⟨I,o,no,bW,aU,bu,s,e,aw,al,(a2.trans bv).mono I,rfl,hf⟩)
  have ao:∀q,T.N q->q<w.heap.size:=λq f=>aB q (aK.gB f);have err:∀ (aI:b2) (d:J),de d (T.bx aI T.P) c->df T (T.bx aI T.P) c c [] [] z d 2->¬T.C.D.calm 2->y1 T c n u w (.tuple #[(),(0:Int),(0:Int),(3:Int)]) d:=by
   intro aI d B an Q;exact .inr (.inl ⟨I,_,c,rfl,B,((df.ext T c r).trans an).mono I,Q⟩)
  obtain⟨bS,aU,a_,bd⟩:=bJ aA;refine⟨λq=>T.N q/\¬T.G q,_,rfl,λf=>f.2 h.gc,_,az.cells.1,(λf=>by have:=ao _ f.1;show False;exact absurd this (by show¬nb<w.heap.size;omega)),_,bS,?_,?_⟩
  .rw[←ay]
   refine(CP (Z:=λ_=>False) az (af.refl _ _) (λ_ h=>h.elim) I al).use ?_;rintro _ F ⟨aI,ai,x,a3,R,aE⟩;have bw:=x.size;rcases aE with ⟨i,k,l,rfl,aG⟩|⟨rfl,Q⟩
   .refine⟨_,i,k,l,0,rfl,x,a8 (vs:=[false,(),(),()]) rfl λbA S U bB=>⟨af.c0 U,S.cl rfl fG,rfl,cP S (us:=dT o i k l) rfl rfl λd W m aH=>?_⟩⟩
    have E:Ext F d:=Ext.cy U m (bl _);obtain⟨ap,aL⟩:=R F (af.refl _ _);have H:=aA.ah x λf=>by have:=ao _ f.1;omega
    subst aa;refine fin aI F _ i k l d rfl (ap.ext E) ((aL.trans (df.ext _ _ E)).mono I) (H.ext E) W I (λO=>by have:=ap.t.lt O;omega) ?_;exact(aG.ext E).a7 λq _ g=>g.2
   .refine⟨_,bH,bH,bH,3,rfl,x,a8 (vs:=[false,(),(),()]) rfl λbA S U bB=>⟨af.c0 U,S.cl rfl fG,rfl,cP S (us:=dT iP bH bH bH) rfl rfl λd W m aH=>⟨λ_=>?_,λg=>(by cases g)⟩⟩⟩
    have E:Ext F d:=Ext.cy U m (bl _);obtain⟨ap,aL⟩:=R F (af.refl _ _);exact err aI d (ap.ext E) ((aL.trans (df.ext _ _ E)).mono I) Q
  .refine a8 (vs:=[false,(),(),()]) rfl λbT bC aM bU=>⟨af.c0 aM,?_⟩
   rw[←ay];refine(CP (Z:=λq=>q=z.heap.size) az aM (λq e=>⟨I,I⟩) I al).use ?_;rintro _ F ⟨aI,ai,x,a3,R,aE⟩;have bw:=x.size;have H:=bC.ah x λf=>by have:=ao _ f.1;omega
   have bD:=(aA.ext aM).ah x λf=>by have:=ao _ f.1;omega
   rcases aE with ⟨i,k,l,rfl,aG⟩|⟨rfl,Q⟩
   .refine⟨_,i,k,l,0,rfl,H.cl rfl fG,rfl,cP H (us:=dT o i k l) rfl rfl λd W m aH=>?_⟩
    obtain⟨B,aN⟩:=R d m;subst aa;refine fin aI z _ i k l d rfl B aN (bD.ah m I) W (bl _) (λO=>?_) ?_
    .rcases a3 _ O with h1|h1
     .have:=aB _ h1;omega
     .omega
    .refine(bQ.ah aG m λq f e=>by have:=f.1;omega).a7 λq _ g=>g.2
   .refine⟨_,bH,bH,bH,3,rfl,H.cl rfl fG,rfl,cP H (us:=dT iP bH bH bH) rfl rfl λd W m aH=>⟨λ_=>?_,λg=>(by cases g)⟩⟩
    obtain⟨B,aN⟩:=R d m;exact err aI d B aN Q
structure y2(T ar:aK)(l:O Nat)(w w':J):Prop where
 to:bO T ar w w' 0
 E:ar.E=T.E
 G:ar.G=T.G
 root:ar.root=T.root
 aL:ar.aL=T.aL
 f:∀no,ar.f no=(T.f no&& !decide (no∈l))
 ew:∀no,(no∉l\/T.g no=true)->ar.P no=T.P no/\ar.C.view no=T.C.view no
theorem CQ{w:J}{T:aK}{c:dv}{s:ad}{l:O Nat}(h:de w T c)(hs:Src 1 w s (fR l))(z:∀q,aB s q->T.G q)(Q:∀x∈l,T.f x=true)(eg:l.Nodup)(ai:l.length<=10000):
 aJ aj 186 #[.pointer (some c.cb),s] w (λv w'=>v=.tuple #[]/\∃ar:aK,de w' ar c/\y2 T ar l w w'):=by
 have al:s.len=l.length:=by have:=hs.len;rw[qN]at this;omega
 refine okF (ae.u_ (some c.cb) s) ax.u_ func186 ?_;(delta ae.u_ ak aP aF b6 bY aq;dsimp only);refine⟨λi w'=>∃ (j:Nat) (ar:aK),i=j/\j<=l.length/\de w' ar c/\y2 T ar (l.take j) w w'/\Src 1 w' s (fR l),λi _=>((l.length:Int)-i).toNat,⟨0,T,rfl,cL _,h,⟨.refl _ _,rfl,rfl,rfl,rfl,λno=>by simp,λ_ _=>⟨rfl,rfl⟩⟩,hs⟩,?_⟩;rintro _ am ⟨j,bW,rfl,an,h1,hg,B⟩;refine⟨λaH=>?_,λp=>?_⟩
 .have aH:j<l.length:=by
   have:(j:Int)<(s.len:Int):=cj aH;omega
  have C:bW.f l[j]=true:=by
   rw[hg.f,Q _ (cN aH)];have:l[j]∉l.take j:=λR=>by
    obtain⟨i,hi,he⟩:=fj R;rw[cI]at hi;rw[mW]at he;have:=(List.getElem_inj eg).1 he;omega
   simp[this]
  have ao:l[j]<bW.n:=by
   rcases ec l[j] bW.n with h2|h2
   .exact h2
   .have:=h1.t.s.pf _ h2
    rw[C]at this;cases this
  obtain⟨A,au,S,hc⟩:=B.at (i:=j) (v:=.int .i64 ((l[j]:Nat):Int)) (by simp[fR,aH]);refine k2 (λw'=>∃b1:aK,de w' b1 c/\y2 T b1 (l.take (j+1)) w w'/\Src 1 w' s (fR l)) (λq a=>⟨A,au,S,_,hc,_,rfl,_,h1.cells.1,_,rfl,_,h1.t.cells.2.1,(HF h1.t.s _).use ?_⟩) ?_
  .rintro _ _ ⟨rfl,rfl⟩
   refine⟨_,rfl,_,rfl,_,h1.cells.1,_,rfl,_,h1.t.cells.2.1,(Cn h1.t.s _).use ?_⟩;rintro _ D ⟨rfl,im,r⟩;have U:nG bW.f bW.n ((l[j]:Nat):Int)=dk bW.f l[j] false:=by
    unfold nG;rw[if_pos ⟨I,I⟩,dg]
   rw[U]at im;obtain⟨V,F⟩:=h1.t.wj im r;have d:de D (bW.jl (dk bW.f l[j] false)) c:=h1.of V r (λq a hf=>(h1.t.jk q a).2 hf) rfl λ_ h=>h;have H:Src 1 D s (fR l):=B.ah r λq a hf=>(h1.t.jk q (by rw[hg.G];exact z q a)).2 hf;have W:(decide ((0:Int)<=((l[j]:Nat):Int))&&decide (((l[j]:Nat):Int)<(bW.n:Nat))&&bW.f (Int.toNat ((l[j]:Nat):Int))&& !(bW.g (Int.toNat ((l[j]:Nat):Int))))= !(bW.g l[j]):=by
    rw[dg,C,dI I,dI I];simp
   have K:∀no,dk bW.f l[j] false no=(T.f no&& !decide (no∈l.take (j+1))):=λno=>by
    rw[kr aH];unfold dk;by_cases e:no=l[j]
    .rw[if_pos e,e,dI (cK.2 (.inr (fb.2 rfl)))]
     exact(Bool.and_false _).symm
    .rw[if_neg e,hg.f]
     have X:decide (no∈l.take j++ [l[j]])=decide (no∈l.take j):=by
      rw[fC,cq,cq,cK,fb];exact⟨λh=>h.resolve_right e,.inl⟩
     rw[X]
   rw[W];refine⟨_,rfl,λu=>⟨_,rfl,_,d.cells.1,_,rfl,_,d.t.cells.1,(HY d.t.ca _).use ?_⟩,λu=>a _ ⟨_,d,⟨?_,hg.E,hg.G,hg.root,hg.aL,K,λno k=>?_⟩,H⟩⟩
   .rintro _ ap ⟨⟨b,rfl⟩,aI,Y,m,L,_⟩
    have Z:T.g l[j]=false:=by
     have h2:bW.g=T.g:=hg.to.g;rw[h2]at u;simpa using u
    obtain⟨aa,ab⟩:=d.t.wh (P:=λno=>if no=l[j] then none else bW.P no) Y m (λno b_ o=>by
     by_cases e:no=l[j]
     .rw[if_pos e]at o;cases o
     .rw[if_neg e]at o
      rw[L no e];exact h1.t.eR no b_ o)
    have ac:=d.of (ar:=(bW.jl (dk bW.f l[j] false)).bx aI λno=>if no=l[j] then none else bW.P no) aa m.ah (λq a=>d.t.wi a) rfl (λ_ h=>h) m.b7;refine⟨b,rfl,a _ ⟨_,ac,⟨?_,hg.E,hg.G,hg.root,hg.aL,K,λno k=>?_⟩,?_⟩⟩
    .exact((hg.to.trans F).trans ab).mono I
    .have M:no≠l[j]:=λe=>by
      rcases k with h2|h2
      .exact h2 (by rw[kr aH,e];exact cK.2 (.inr (fb.2 rfl)))
      .rw[e,Z]at h2;cases h2
     have N:=hg.ew no (k.imp (λh2 y=>h2 (by rw[kr aH];exact cK.2 (.inl y))) id);exact⟨(if_neg M).trans N.1,(L no M).trans N.2⟩
    .exact H.ah m.ah λq a=>d.t.wi (by show bW.G q;rw[hg.G];exact z q a)
   .exact(hg.to.trans F).mono I
   .exact hg.ew no (k.imp (λh2 y=>h2 (by rw[kr aH];exact cK.2 (.inl y))) id)
  .rintro av ⟨b1,h2,af,ag⟩
   rw[bn (n:=(j:Int)+1) I I];refine⟨⟨j+1,b1,I,I,h2,af,ag⟩,?_⟩;show((l.length:Int)-((j:Int)+1)).toNat<((l.length:Int)-(j:Int)).toNat;omega
 .have p:j=l.length:=by
   have:¬(j:Int)<(s.len:Int):=cH p;omega
  subst p;rw[ku]at hg;exact⟨rfl,bW,h1,hg⟩
theorem qz{B:Nat->Prop}{w:J}{n:aD}{K V D:ad}(c:bQ B w n K V D)(aL:Nat)(h:aL<=100)(d:n.leaf=false->∃x,n.kids=[x]/\1<=aL):
 aJ aj 230 #[db n K V D,aL] w (λv w'=>v=(if n.leaf then .tuple #[(0:Int),(0:Int),(0:Int)] else .tuple #[.int .i64 ((n.kids.getD 0 0:Nat):Int),.int .i64 ((aL-1:Nat):Int),(0:Int)])/\Ext w w'):=by
 refine okF (ae.qz n.leaf K V D (aL:Nat)) ax.qz func230 ?_;(delta ae.qz aT Y ak r1 aP aF aq;dsimp only);refine a8 (vs:=dT n K V D) rfl λw1 e b j=>?_;obtain⟨bS,aU,a_,bd⟩:=bJ e;refine⟨_,bS,λa=>⟨by rw[if_pos a],b⟩,λa=>?_⟩;obtain⟨x,hx,h1⟩:=d a;obtain⟨A,au,f,hc⟩:=cY.at (c.ext b).kids (i:=0) (by rw[hx];simp);refine⟨D,bd,A,au,f,_,hc,?_,b⟩;have g:(aL:Int)-1=((aL-1:Nat):Int):=by omega
 rw[if_neg (by rw[a];simp),bn I I,g];simp only[hx];rfl
def y3(T:aK)(c:dv)(ks:O Key)(kids:O Nat)(w:J)(v:aa)(w':J):Prop:=
 (∃x,ks=[]/\kids=[x]/\v=.tuple #[x,T.aL,(0:Int)]/\de w' T c/\Ext w w')\/
 (∃ (k:Key) (x y no:Nat) (ar:aK) (c':dv),ks=[k]/\kids=[x,y]/\de w' ar c'/\df T ar c c' [no] [] w w' 1/\
   ((v=.tuple #[no,.int .i64 ((T.aL+1:Nat):Int),(0:Int)]/\ar.P no=some ⟨false,[k],[],[x,y]⟩)\/(v=.tuple #[no,.int .i64 ((T.aL+1:Nat):Int),(3:Int)]/\¬T.C.D.calm 1)))
theorem CR(K D:Nat)(w:J):Sem.run aj (Instr.build 169 #[(1,.slice (some K) 1 1),(3,.slice (some D) 2 2)]) w=.ok (.agg #[false,.slice (some K) 1 1,(),.slice (some D) 2 2]) w:=by kernel_rfl
theorem Var.CS{w:J}{b:Nat}{vs:O aa}{T:TypeId}(h:Var w b vs T):Src 1 w ⟨some b,vs.length,vs.length⟩ vs:=by
 refine⟨by show _=vs.length*1;omega,(λh=>by cases h),λa c=>?_⟩
 cases c;show bw w b 0 (vs.length*1)=_;rw[ft,h.rd rfl]
theorem Ii{w:J}{t:ad}{k:Key}(b:Nat)(a:Var w b [t] 39)(ht:bq (λ_=>True) w t k):bG (λ_=>True) w ⟨some b,1,1⟩ [k]:=by
 refine⟨[t],rfl,a.CS,bl _,λq c=>⟨trivial,?_⟩,λi h1 h2=>?_⟩
 .obtain⟨A,au,rfl⟩:=c
  cases au;exact a.lt
 .have:i=0:=by simp at h1;omega
  subst this;exact ht
theorem Ij{w:J}{x y:Nat}(b:Nat)(a:Var w b [x,y] 3):cY (λ_=>True) w ⟨some b,2,2⟩ [x,y]:=by
 refine⟨a.CS,bl _,λq c=>⟨trivial,?_⟩⟩;obtain⟨A,au,rfl⟩:=c
 cases au;exact a.lt
theorem Ik{w:J}{T:aK}{c:dv}{s:ad}{ks:O Key}{kids:O Nat}(h:de w T c)(H:lh (λq=>¬T.M q) w s ks kids)(A:kids.length=2->T.aL<12)(hs:∀k x y,ks=[k]->kids=[x,y]->cv k/\x<1600/\y<1600)
 (au:T.C.D.a6<=900000080) (K:1<=cg T) (av:c.made.length<=900):
 aJ aj 232 #[.pointer (some c.cb),s] w (y3 T c ks kids w):=by
 have aw:=h.t.num.2.1;refine okF (ae.vj (some c.cb) s) ax.vj func232 ?_;(delta ae.vj ak aP aF r1 Y gK aq;dsimp only);have o:Ext w w.drew:=cG w;have hd:=h.ext o;rcases H with ⟨b,x,rfl,rfl,rfl,l,B⟩|⟨b,x,y,k,t,rfl,rfl,rfl,l,B,ht,ay⟩
 .refine⟨λ_=>aX ⟨_,rfl,⟨by decide,by show(0:Int)<((1:Nat):Int);decide⟩,id,_,by rw[aA,aA];exact l.drew.cell,_,rfl,id,_,hd.cells.1,_,rfl,id,_,hd.t.cells.2.2.2.2,?_⟩,λh=>(by cases h)⟩
  exact .inl ⟨x,rfl,rfl,rfl,hd,o⟩
 .have A:=A rfl
  obtain⟨s1,s2,az⟩:=hs k x y rfl rfl;refine⟨λh=>(by cases h),λ_=>⟨_,rfl,_,h.cells.1,_,rfl,_,h.t.cells.2.2.2.2,λL=>?_,λ_=>?_⟩⟩
  .have:(T.aL:Int)=12:=by simpa using L
   omega
  have P:cC ⟨false,[k],[],[x,y]⟩:=.inr ⟨⟨λaB Q=>by rw[fb.1 Q];exact s1,List.pairwise_singleton _ _⟩,rfl,by simp,rfl,rfl,λz E=>by
   simp only[cX,fk,fv]at E;rcases E with rfl|rfl<;>assumption⟩
  have R:bz ⟨false,[k],[],[x,y]⟩<=232:=by
   have:=s1.2;simp[bz,cellsOf];omega
  have r:¬T.N b:=λS=>B (aK.gB S);have fin:∀ (d:J) (bZ aP:Nat),Ext w d->Var d bZ [t] 39->Var d aP [x,y] 3->
   aJ aj 265 #[.pointer (some c.cb),.agg #[false,.slice (some bZ) 1 1,(),.slice (some aP) 2 2]] d (λv w'=>∃n27:Int,∃n28:Int,v=.tuple #[n27,n28]/\af T.N d w'/\
    ∀e,Ext w' e->y3 T c [k] [x,y] w (.tuple #[n27,.int .i64 ((T.aL+1:Nat):Int),n28]) e/\∃ar c',de e ar c'/\c'.cb=c.cb/\ar.bg=T.bg/\ar.aL=T.aL):=by
   intro d bZ aP hx U V;have eg:bQ (λ_=>True) d ⟨false,[k],[],[x,y]⟩ ⟨some bZ,1,1⟩ ⟨none,0,0⟩ ⟨some aP,2,2⟩:=by
    exact⟨Ii bZ U (bq.a7 (bq.ext ht hx) λ_ _ _=>trivial),bG.none _ _,Ij aP V⟩
   refine(wm (h.ext hx) I K I eg P R).mono ?_;rintro v w' ⟨no,ar,c',p,f,W⟩;have F:=((df.ext T c hx).trans f).mono (j:=1) I;rcases W with ⟨rfl,X⟩|⟨rfl,Z⟩
   .refine⟨_,_,rfl,f.to.ah,λe g=>⟨.inr ⟨k,x,y,no,ar,c',rfl,rfl,p.ext g,(F.trans (df.ext ar c' g)).mono I,.inl ⟨rfl,X⟩⟩,ar,c',p.ext g,f.cb,f.to.bg,f.aL⟩⟩
   .refine⟨_,_,rfl,f.to.ah,λe g=>⟨.inr ⟨k,x,y,no,ar,c',rfl,rfl,p.ext g,(F.trans (df.ext ar c' g)).mono I,.inr ⟨rfl,Z⟩⟩,ar,c',p.ext g,f.cb,f.to.bg,f.aL⟩⟩
  have aa:IntKind.wrap .i64 ((T.aL:Int)+1)=((T.aL+1:Nat):Int):=by rw[bn I I];rfl
  refine tH (λa b w'=>∀e,Ext w' e->y3 T c [k] [x,y] w (.tuple #[a,.int .i64 ((T.aL+1:Nat):Int),b]) e/\∃ar c',de e ar c'/\c'.cb=c.cb/\ar.bg=T.bg/\ar.aL=T.aL) (λq G=>aX ⟨T.N,_,rfl,⟨by decide,by show(1:Int)<((2:Nat):Int);decide⟩,r,t,by rw[aA];exact l.drew.cell,_,rfl,⟨by decide,by show(0:Int)<((2:Nat):Int);decide⟩,r,_,by rw[aA,aA];exact l.drew.cell,_,rfl,⟨by decide,by show(1:Int)<((2:Nat):Int);decide⟩,r,_,by rw[aA,aA];exact l.drew.cell,?_,?_⟩) ?_
  .refine a8 (vs:=[t]) rfl λu ab m ac=>⟨af.c0 m,a8 (vs:=[x,y]) rfl λd ag i ai=>⟨af.c0 i,_,λ_=>CR _ _ _,?_⟩⟩
   refine(fin d w.drew.heap.size u.heap.size (o.trans (m.trans i)) (ab.ext i) ag).use ?_;rintro _ w' ⟨n27,n28,rfl,hc,n⟩;exact⟨n27,n28,rfl,hc,G _ _ _ n⟩
  .refine a8 (vs:=[x,y]) rfl λu al m ac=>⟨af.c0 m,a8 (vs:=[t]) rfl λd am i ai=>⟨af.c0 i,_,λ_=>CR _ _ _,?_⟩⟩
   refine(fin d u.heap.size w.drew.heap.size (o.trans (m.trans i)) am (al.ext i)).use ?_;rintro _ w' ⟨n27,n28,rfl,hc,n⟩;exact⟨n27,n28,rfl,hc,G _ _ _ n⟩
  .intro a b an n
   obtain⟨h1,ar,c',h2,ao,aC,ap⟩:=n _ (cG an);have hc:=h2.cells.1;rw[ao]at hc;have ht:=h2.t.cells.2.2.2.2;refine aX ⟨_,rfl,id,_,hc,_,rfl,id,_,ht,?_⟩;rw[ap,aa];exact h1
theorem c5.y4{P:Nat->av aD}{lo hi:av Key}{h:Nat}{n:aD}{p:O Nat}{L:O aM}(a:c5 P h n lo hi p L)(h2:n.leaf=true->bz n<=310)(d:n.leaf=false->bz n<=335)(g:n.leaf=false->n.keys≠ []):lQ n:=by
 refine⟨?_,by cases e:n.leaf;exact eK (d e) (by decide);exact eK (h2 e) (by decide),λhs=>?_⟩
 .cases h with
  |zero=>exact a.elim
  |succ h=>
   cases h with
   |zero=>exact .inl a.1
   |succ h=>
    obtain⟨aw,ay,b,c,f⟩:=a;have hs:=f.sorted λ_ _ _ _ _ i=>i.in;exact .inr ⟨⟨b,hs.2.2.1⟩,aw,g aw,f.len,ay,c⟩
 .obtain⟨aw,ay,b,c,_⟩:=a.two (Q:=P) (x:=0) (y:=0) hs h2 d
  exact⟨aw,ay,b,c⟩
section
variable {P:Nat->av aD}{lo hi:av Key}
theorem Il{h:Nat}{d f:aD}{p A:av Key}{i:Nat}{bk D:O Nat}{bc g5:O aM}{k:Key}(E:∀k∈d.keys,cv k)(hlen:d.kids.length=d.keys.length+1)(F:∀x n,P x=some n->bz n<=232)
 (dN:1<=i) (Q:i<d.kids.length) (B:fo p A k)
 (G:fc (e6 P (h+1)) lo p (d.keys.take i) (d.kids.take i) bk bc) (q:c5 P (h+1) f p A D g5) (h1:bz f<80):
 ∃ (o:aD) (R:i-1<d.kids.length) (S:i-1<d.keys.length),P d.kids[i-1]=some o/\o.leaf=f.leaf/\cv d.keys[i-1]/\lQ (dB o d.keys[i-1] f):=by
 obtain⟨s,H,aO,r,bN,N,hs,rfl,t,rfl,rfl,⟨u,m,g,v⟩,T,U⟩:=G.last (by rw[cI];omega);have V:(d.keys.take i).length=i:=by rw[cI];omega
 have W:(d.kids.take i).length=i:=by rw[cI];omega
 have t:s=d.keys[i-1]'I:=by
  rw[t,mW];congr 1;omega
 have J:(d.kids.take i)[(d.kids.take i).length-1]'I=d.kids[i-1]'I:=by
  rw[mW];congr 1;omega
 rw[J]at u g;obtain⟨o,K,j,rfl,_,w⟩:=u.jf;rw[j]at g;have v:2<=o.keys.length:=by rw[Option.some.inj g];exact v
 clear g;subst t;have y:=(show e6 P (h+1) H (some (d.keys[i-1]'I)) (d.kids[i-1]'I) (d.kids[i-1]'I::K) N from⟨u,o,j,v⟩).in;obtain⟨x,hx⟩:=pE _ y.1;have z:=E _ (cN (l:=d.keys) (n:=i-1) I);have L:=c5.merge w q z (λc hc=>h7 (kc ((y.2.2 x hx).1 c hc) ((y.2.2 x hx).2 _ rfl))) (λc hc=>h7 (kc (B.1 _ rfl) (B.2 c hc)));have C:=vE w q z (by have:=F _ _ j;omega);have M:=vD (a:=o) (b:=f) (s:=d.keys[i-1]'I);refine⟨o,I,I,j,by rw[w.leaf,q.leaf],z,L.y4 C.1 C.2 λ_ e=>?_⟩;rw[e,kW]at M;omega
theorem Im{h:Nat}{d f:aD}{B q:av Key}{i:Nat}{bh E:O Nat}{g5 bt:O aM}{k:Key}(F:∀k∈d.keys,cv k)(hlen:d.kids.length=d.keys.length+1)(G:∀x n,P x=some n->bz n<=232)
 (g:i+1<d.kids.length) (C:fo B q k)
 (H:gn (e6 P (h+1)) hi q (d.keys.drop i) (d.kids.drop (i+1)) bh bt) (t:c5 P (h+1) f B q E g5) (h1:bz f<80):
 ∃ (o:aD) (R:i+1<d.kids.length) (S:i<d.keys.length),P d.kids[i+1]=some o/\o.leaf=f.leaf/\cv d.keys[i]/\lQ (dB f d.keys[i] o):=by
 obtain⟨s,J,r,T,N,U,hs,rfl,u,rfl,rfl,⟨v,m,j,w⟩,V⟩:=H.head (by rw[ed];omega);have u:s=d.keys[i]'I:=by rw[u,rn];rfl
 have K:(d.kids.drop (i+1))[0]'(by rw[ed];omega)=d.kids[i+1]'g:=by rw[rn]
 rw[K]at v j;obtain⟨o,L,p,rfl,_,y⟩:=v.jf;rw[p]at j;have w:2<=o.keys.length:=by rw[Option.some.inj j];exact w
 clear j;subst u;have z:=(show e6 P (h+1) (some (d.keys[i]'I)) J (d.kids[i+1]'g) (d.kids[i+1]'g::L) N from⟨v,o,p,w⟩).in;obtain⟨x,hx⟩:=pE _ z.1;have A:=F _ (cN (l:=d.keys) (n:=i) I);have M:=c5.merge t y A (λc hc=>h7 (kc (C.1 c hc) (C.2 _ rfl))) (λc hc=>h7 (kc ((z.2.2 x hx).1 _ rfl) ((z.2.2 x hx).2 c hc)));have D:=vE t y A (by have:=G _ _ p;omega);have Q:=vD (a:=f) (b:=o) (s:=d.keys[i]'I);refine⟨o,g,I,p,by rw[y.leaf,t.leaf],A,M.y4 D.1 D.2 λ_ e=>?_⟩;rw[e,kW]at Q;omega
inductive Ctx (P:Nat->av aD) (k:Key) (top:Nat):Nat->av Key->av Key->O (Nat×aD×Nat)->O Nat->O aM->O aM->Prop
 |top:Ctx P k top top none none [] [] [] []
 |step {eH:Nat}{lo hi a b:av Key}{st:O (Nat×aD×Nat)}{cU:O Nat}{A B:O aM}{no:Nat}{n:aD}{bk bh:O Nat}{bc bt:O aM} (h:Ctx P k top (eH+2) lo hi st cU A B) (c:P no=some n) (d:n.leaf=false) (e:∀k∈n.keys,cv k) (f:∀x∈n.kids,x<1600)
  (hlen:n.kids.length=n.keys.length+1) (g:n.keys≠ []) (i:st≠ []->2<=n.keys.length) (j:fo a b k) (l:fc (e6 P (eH+1)) lo a (n.keys.take (c_ n.keys k)) (n.kids.take (c_ n.keys k)) bk bc)
  (m:gn (e6 P (eH+1)) hi b (n.keys.drop (c_ n.keys k)) (n.kids.drop (c_ n.keys k+1)) bh bt):Ctx P k top (eH+1) a b (st++ [(no,n,c_ n.keys k)]) (no::(bk++(bh++cU))) (A++bc) (bt++B)
theorem Ctx.eH{k:Key}{top eH:Nat}{st:O (Nat×aD×Nat)}{cU:O Nat}{A B:O aM}(h:Ctx P k top eH lo hi st cU A B):eH+st.length=top:=by
 induction h with
 |top=>rfl
 |step h _ _ _ _ _ _ _ _ _ _ a=>rw[cp,iG];omega
theorem Ctx.agree{Q:Nat->av aD}{k:Key}{top eH:Nat}{st:O (Nat×aD×Nat)}{cU:O Nat}{A B:O aM}(h:Ctx P k top eH lo hi st cU A B)(a:∀x∈cU,P x=Q x):Ctx Q k top eH lo hi st cU A B:=by
 induction h with
 |top=>exact .top
 | @step eH lo hi p q st cU A B no n bk bh bc bt h c d e f hlen g i j l m o=>
  refine .step (o λx hx=>a x (by simp[hx])) (by rw[←a no (by simp)];exact c) d e f hlen g i j (l.lI λ_ _ _ _ _ hs b=>b.agree λx hx=>a x ?_) (m.lI λ_ _ _ _ _ hs b=>b.agree λx hx=>a x ?_)
  .have:=hs x hx;simp[this]
  .have:=hs x hx;simp[this]
theorem Ctx.down{k:Key}{top:Nat}:∀ {eH:Nat}{lo hi:av Key}{st:O (Nat×aD×Nat)}{cU:O Nat}{A B M bN:O aM}{no:Nat}{p:O Nat},Ctx P k top (eH+1) lo hi st cU A B->eL P (eH+1) lo hi no p M->(st≠ []->∃m,P no=some m/\2<=m.keys.length)->fo lo hi k->bN=A++(M++B)->(∀u,Loc k u->u bN=A++(u M++B))->
 ∃ (rest a:O (Nat×aD×Nat)) (b:Nat) (cc:aD) (e7 dN:av Key) (f:O Nat) (c d:O aM),nL P k (eH+1) no rest/\st++rest=a++ [(b,cc,0)]/\Ctx P k top 1 e7 dN a f c d/\P b=some cc/\gN cc/\cc.within e7 dN/\cc.keys≠ []/\(a≠ []->2<=cc.keys.length)/\fo e7 dN k/\
  (p++cU).Perm (b::f)/\bN=c++(cc.dy++d)/\∀u,Loc k u->u bN=c++(u cc.dy++d)
 |0,lo,hi,st,cU,A,B,M,bN,no,p,hc,h,h2,i,cS,hu=>by
  obtain⟨n,h1,g,t,v,rfl,rfl⟩:=h
  refine⟨[(no,n,0)],st,no,n,lo,hi,cU,A,B,⟨n,[],h1,by rw[g.leaf];rfl,rfl,rfl⟩,rfl,hc,h1,g,t,v,λhs=>?_,i,List.Perm.refl _,cS,hu⟩
  obtain⟨m,e,j⟩:=h2 hs
  rw[h1]at e;cases e
  exact j
 |eH+1,lo,hi,st,cU,A,B,M,bN,no,p,hc,h,h2,i,cS,hu=>by
  obtain⟨n,T,h1,rfl,g,l⟩:=h.jf
  obtain⟨U,V,bk,q,bh,bc,g5,bt,w,rfl,rfl,o,r,x,hlen,y,z⟩:=l.at i
  obtain⟨aw,ay,C,D,_⟩:=l
  have E:=Ctx.step hc h1 aw C D hlen g (λhs=>by
   obtain⟨m,e,j⟩:=h2 hs
   rw[h1]at e;cases e
   exact j) r y z
  obtain⟨rest,a,b,cc,e7,dN,f,c,d,r1,aF,cr,aT,dm,F,G,H,J,K,L,N⟩:=Ctx.down (bN:=bN) E o.1 (λ_=>o.2) r (by rw[cS];simp only[cz]) (λu s=>by rw[hu u s,x u s];simp only[cz])
  refine⟨(no,n,c_ n.keys k)::rest,a,b,cc,e7,dN,f,c,d,⟨n,rest,h1,by rw[aw];simp,by rw[if_neg I],?_⟩,?_,cr,aT,dm,F,G,H,J,?_,L,N⟩
  .rw[fL,dC w]
   exact r1
  .rw[←aF];simp
  .refine List.Perm.trans ?_ K
   have Q:(no::(bk++(q++bh))++cU)=no::(bk++(q++(bh++cU))):=by simp[cz]
   rw[Q]
   have R:(q++no::(bk++(bh++cU))).Perm (no::(q++(bk++(bh++cU)))):=mU
   refine List.Perm.trans ?_ R.symm
   refine List.Perm.cons _ ?_
   have S:=(rm (l₁:=bk) (l₂:=q)).append_right (bh++cU)
   simpa[cz] using S
end
theorem y5{α:Type}(a b c:O α):(a++(b++c)).Perm (a++c++b):=by
 rw[cz];exact(rm (l₁:=b) (l₂:=c)).append_left a
theorem Ctx.up{P:Nat->av aD}{lo hi:av Key}{k:Key}{top eH:Nat}{st R:O (Nat×aD×Nat)}{cU:O Nat}{A B:O aM}{u:dr}{a:aD}{q:O Nat}{M:O aM}(hc:Ctx P k top eH lo hi st cU A B)(aa:st=R++ [u.st])(c:c5 P eH a lo hi q M)(F:∀x n,P x=some n->bz n<=232)(hs:bz a<=282):
 ∃ (d f:av Key) (G:O Nat) (g j:O aM) (ps:O Nat),Ctx P k top (eH+1) d f R G g j/\cU=u.no::(ps++G)/\P u.no=some u.n/\u.cM<u.n.kids.length/\u.n.kids.length=u.n.keys.length+1/\u.n.keys≠ []/\(R≠ []->2<=u.n.keys.length)/\
  (80<=bz a->∀ (Q:Nat->av aD) (ks:O Key) (kids:O Nat),mu Q a ks kids->(∀x∈ps++q,P x=Q x)->(∀x∈kids,x<1600)->∃ (eo:O Nat) (l:O aM),c5 Q (eH+1) (fQ u.n u.cM (u.cM+1) ks kids) d f eo l/\g++(l++j)=A++(M++B)/\eo.Perm (kids++(ps++q))/\
    bz (fQ u.n u.cM (u.cM+1) ks kids)<=bz u.n+27/\u.n.keys.length<=(fQ u.n u.cM (u.cM+1) ks kids).keys.length+1)/\
  (bz a<80->∃ (o:aD) (no:Nat) (rest:O Nat),u.n.kids[jP u]? =some no/\P no=some o/\o.leaf=a.leaf/\u.cM-1<u.n.keys.length/\cv (u.n.keys.getD (u.cM-1) [])/\lQ (lS u a o)/\ps.Perm (no::rest)/\
    ∀ (Q:Nat->av aD) (ks:O Key) (kids:O Nat),mu Q (lS u a o) ks kids->(∀x∈rest++q,P x=Q x)->(∀x∈kids,x<1600)->∃ (eo:O Nat) (l:O aM),c5 Q (eH+1) (fQ u.n (u.cM-1) (u.cM-1+2) ks kids) d f eo l/\g++(l++j)=A++(M++B)/\eo.Perm (kids++(rest++q))/\
     bz (fQ u.n (u.cM-1) (u.cM-1+2) ks kids)<=bz u.n+27/\u.n.keys.length<=(fQ u.n (u.cM-1) (u.cM-1+2) ks kids).keys.length+1):=by
 cases hc with
 |top=>
  have:=congrArg List.length aa;simp at this
 | @step eH d f _ _ aq G g j ab H bk bh bc bt h ah S m T hlen ac ai J p r=>
  obtain⟨rfl,h2⟩:=List.append_inj' aa rfl;have U:(ab,H,c_ H.keys k)=u.st:=by simpa using h2
  have aj:ab=u.no:=congrArg Prod.fst U;have ak:H=u.n:=congrArg (λx=>x.2.1) U;have ad:c_ H.keys k=u.cM:=congrArg (λx=>x.2.2) U;subst aj ak;rw[ad]at p r;have al:=vB u.n.keys k;rw[ad]at al;refine⟨d,f,G,g,j,bk++bh,h,by rw[cz],ah,I,hlen,ac,ai,λb Q ks kids hf s t=>?_,λb=>?_⟩
  .obtain⟨v,aw,ay,w,K⟩:=Gk S m T p r c b hs hf (λx hx=>s x (by
    simp only[cK]at hx⊢;rcases hx with hx|hx|hx
    .exact .inl (.inl hx)
    .exact .inr hx
    .exact .inl (.inr hx))) t
   refine⟨v,_,aw,by simp only[cz],ay.trans (List.Perm.append_left kids ?_),w,I⟩;exact y5 bk q bh
  .by_cases h0:u.cM=0
   .obtain⟨o,L,N,y,V,W,X⟩:=Im m hlen F (i:=u.cM) (by
     have:u.n.keys.length≠0:=λe=>ac (wM e);omega) J r c b
    obtain⟨am,ae,an,ao,z,Y,_,Z⟩:=Gm S m T hlen F L J p r c b;rw[y]at z;obtain rfl:=Option.some.inj z;have C:jP u=u.cM+1:=by unfold jP;rw[if_pos h0,h0]
    have af:u.cM-1=u.cM:=by omega
    have D:u.n.keys.getD (u.cM-1) []=u.n.keys[u.cM]:=by rw[af,fL,dC N];rfl
    have E:lS u a o=dB a u.n.keys[u.cM] o:=by unfold lS;rw[if_pos (by rw[C];omega),D]
    refine⟨o,u.n.kids[u.cM+1],bk++ae,by rw[C];exact dC L,y,V,I,by rw[D];exact W,by rw[E];exact X,?_,λQ ks kids hf s t=>?_⟩
    .exact(List.Perm.append_left bk Y).trans mU
    .rw[E]at hf
     obtain⟨v,aw,ay,w,K⟩:=Z Q ks kids hf (λx hx=>s x (by
      simp only[cK]at hx⊢;rcases hx with hx|hx|hx
      .exact .inl (.inl hx)
      .exact .inr hx
      .exact .inl (.inr hx))) t
     rw[af];exact⟨v,_,aw,by simp only[cz],ay.trans (List.Perm.append_left kids (y5 bk q ae)),w,K⟩
   .obtain⟨o,L,N,y,V,W,X⟩:=Il m hlen F (i:=u.cM) I I J p c b
    obtain⟨am,ag,an,ao,z,Y,_,Z⟩:=Gl S m T hlen F I I J p r c b;rw[y]at z;obtain rfl:=Option.some.inj z;have C:jP u=u.cM-1:=by unfold jP;rw[if_neg h0]
    have D:u.n.keys.getD (u.cM-1) []=u.n.keys[u.cM-1]:=by rw[fL,dC N];rfl
    have E:lS u a o=dB o u.n.keys[u.cM-1] a:=by unfold lS;rw[if_neg (by rw[C];omega),D]
    have ap:u.cM-1+2=u.cM+1:=by omega
    refine⟨o,u.n.kids[u.cM-1],ag++bh,by rw[C];exact dC L,y,V,N,by rw[D];exact W,by rw[E];exact X,?_,λQ ks kids hf s t=>?_⟩
    .exact(Y.append_right bh)
    .rw[E]at hf
     obtain⟨v,aw,ay,w,K⟩:=Z Q ks kids hf (λx hx=>s x (by
      simp only[cK]at hx⊢;rcases hx with hx|hx|hx
      .exact .inl (.inl hx)
      .exact .inr hx
      .exact .inl (.inr hx))) t
     rw[ap];exact⟨v,_,aw,by simp only[cz],ay.trans (List.Perm.append_left kids (y5 ag q bh)),w,K⟩
theorem de.Io{w:J}{T:aK}{c:dv}{E:Nat->Prop}(h:de w T c)(b:∀q,E q->T.E q):de w (T.cu E T.G) c:=
 h.of (ar:=T.cu E T.G) (W:=λ_=>False) (h.t.grow (W:=λ_=>False) (af.refl _ _) (λ_ h=>h.elim) (λq a=>.inl (b q a)) (λq a=>.inr (.inl a)) λq a=>(h.t.dO q (b q a)).2.2) (af.refl _ _) (λ_ _ h=>h) rfl λ_ h=>h
theorem df.local{T ar:aK}{c c':dv}{m l:O Nat}{bM:Nat->Prop}{w w1 w':J}{k:Nat}(h:df (T.cu bM T.G) ar c c' m l w1 w' k)(hx:Ext w w1)(b:∀q,bM q->T.E q\/w.heap.size<=q)(d:∀q,T.E q->bM q):df T (ar.cu T.E ar.G) c c' m l w w' k:=
 ⟨h.to.local hx b (λq a=>.inl a) (λq a=>.inl (by rw[h.E];exact d q a)) λq a=>a,rfl,h.G,h.root,h.aL,h.cb,h.made,h.left,h.b_,h.jO,h.f,h.ew,h.room⟩
theorem de.CT{w w':J}{T:aK}{c:dv}{W:Nat->Prop}(h:de w T c)(hc:af W w w')(cw:∀q,W q->T.E q\/w.heap.size<=q):de w' T c:=by
 have b:af (λq=>T.E q) w w':=c2 (W:=λq=>T.E q) (af.refl _ _) hc λq a d=>(cw q d).resolve_right I;exact h.of (h.t.grow (E:=T.E) (G:=T.G) b (λq a _=>.inl a) (λq a=>.inl a) (λq a=>.inr (.inl a)) λq a=>(h.t.dO q a).2.2) b (λq hg he=>(h.t.dO q he).2.2 hg) rfl λ_ h=>h
theorem km.to{w w':J}{T ar:aK}{k:Nat}{s:ad}{l:O dr}(h:km (λq=>¬T.M q) w s l)(ht:bO T ar w w' k):km (λq=>¬ar.M q) w' s l:=by
 refine⟨h.own.ah ht.ah λq a c=>h.pk q a (aK.gB c),λq a d=>?_,λx hx=>?_⟩
 .rcases ht.c3 q d with h1|h1
  .exact h.pk q a h1
  .have:=aW.lt h.own q a;omega
 .exact(ht.b_ (lo:=0) ((h.b_ x hx).a7 λq _ b=>⟨cL _,b⟩)).a7 λq _ b=>b.2
theorem km.at{B:Nat->Prop}{w:J}{s:ad}{l:O dr}(h:km B w s l){i:Nat}(hi:i<l.length):∃A:ag,s.a=some A/\s.len=l.length/\B A.block/\w.cell? (A.add (i*6))=some (.int .i64 ((l[i]).no:Nat))/\lR B w (A.add (i*6)) l[i]:=by
 have f:=h.own.1;rw[fA _ (nK l)]at f;have g:s.len=l.length:=by omega
 rcases h.own.2.2.2 with ⟨h1,h2⟩|⟨b,c,e,k,o,m⟩
 .have:=h.own.2.1
  omega
 .have d:∀j,j<6->w.cell? ⟨b,i*6+j,none⟩=((dr.c l[i]))[j]? :=λj n=>by
   rw[bm.cell k,←vZ (nK l) hi n,←m];rw[s4,if_pos I,Array.getElem?_toList]
  refine⟨b,e,g,h.pk b ⟨_,e,rfl⟩,?_,?_⟩
  .rw[aA,cR]
   exact d 0 (by decide)
  .rw[aA,cR]
   refine⟨?_,?_,?_,?_,?_,h.b_ _ (cN hi),h.pk b ⟨_,e,rfl⟩,aW.lt h.own b ⟨_,e,rfl⟩⟩
   .rw[aA];exact d 1 (by decide)
   .rw[aA,aA];exact d 2 (by decide)
   .rw[aA,aA];exact d 3 (by decide)
   .rw[aA,aA];exact d 4 (by decide)
   .rw[aA];exact d 5 (by decide)
theorem Ctx.CU{P:Nat->av aD}{lo hi:av Key}{k:Key}{top eH:Nat}{cU:O Nat}{A B:O aM}(h:Ctx P k top eH lo hi [] cU A B):eH=top/\lo=none/\hi=none/\cU=[]/\A=[]/\B=[]:=by
 generalize a:([]:O (Nat×aD×Nat))=st at h
 cases h with
 |top=>exact⟨rfl,rfl,rfl,rfl,rfl,rfl⟩
 |step h=>
  have:=congrArg List.length a;simp at this
def mA(T:aK)(c:dv)(aO:O Nat)(dG:O aM)(w:J)(v:aa)(w':J):Prop:=
 ∃ (ar:aK) (c':dv) (m l:O Nat),de w' ar c'/\df T ar c c' m l w w' 60/\
  ((v=.tuple #[(0:Int),(0:Int),(0:Int)]/\dG=[]/\l.Perm (m++aO)/\m.length<=2*T.aL+3)\/
   (∃ (root h:Nat) (pages:O Nat),v=.tuple #[root,h,(0:Int)]/\eL ar.P h none none root pages dG/\(pages++l).Perm (m++aO)/\1<=h/\h<=T.aL+1/\m.length<=2*T.aL+3)\/
   (∃a b:Int,v=.tuple #[a,b,(3:Int)]/\¬T.C.D.calm 60))
theorem mA.local{T:aK}{c:dv}{aO:O Nat}{dG:O aM}{bM:Nat->Prop}{w w1 w':J}{v:aa}(h:mA (T.cu bM T.G) c aO dG w1 v w')(hx:Ext w w1)(b:∀q,bM q->T.E q\/w.heap.size<=q)(a:∀q,T.E q->bM q):mA T c aO dG w v w':=by
 obtain⟨ar,c',m,l,h1,h2,d⟩:=h;exact⟨ar.cu T.E ar.G,c',m,l,h1.Io λq e=>by rw[h2.E];exact a q e,h2.local hx b a,d⟩
structure Ip(bW:aK)(c:dv)(b:J)(a:O dr)(k:Key)(aO:O Nat)(dG:O aM)(ws:ad)(gW:Nat)(i:Nat)(w':J)(ar:aK)(c':dv)(m l:O Nat)(n:aD)(K V D:ad)(lo hi:av Key)(cU:O Nat)(A B:O aM)(q:O Nat)(M:O aM)(r:O Nat):Prop where
 ou:i<a.length
 y6:de w' ar c'
 to:df bW ar c c' m l b w' (4*(a.length-1-i))
 pn:m.length<=2*(a.length-1-i)
 ll:l.length<=2*(a.length-1-i)
 gW:Var w' gW (dT n K V D) 169
 b_:bQ (λq=>¬ar.M q) w' n K V D
 h6:km (λq=>¬ar.M q) w' ws a
 ctx:Ctx ar.P k a.length (a.length-i) lo hi ((a.take i).map dr.st) cU A B
 jf:c5 ar.P (a.length-i) n lo hi q M
 eq:A++(M++B)=dG
 pp:aO.Perm ((a[i]).no::(r++cU))
 acc:(q++l).Perm (m++r)
 sz:bz n<=282
 Iq:1<=i->n.keys≠ []
 CV:∀x∈q++cU,ar.f x=true
theorem b8.po{w:J}{T:aK}(h:b8 w T):∀x n,T.P x=some n->bz n<=232:=λx n hx=>(h.eR x n hx).2.is.2.2
theorem hL.cs{T:aK}{c:dv}{n:aD}{w w':J}{s:ad}{e:Int}(h:hL T c n w (.tuple #[s,e]) w'):
 ∃ (ar:aK) (c':dv) (m:O Nat),de w' ar c'/\df T ar c c' m [] w w' 2/\m.length<=2/\((e=0/\∃ks,mu ar.P n ks m/\lh (λq=>¬ar.M q) w' s ks m)\/(e=3/\¬T.C.D.calm 2)):=by
 obtain⟨ar,c',m,s2,h1,h2,d,f⟩:=h;refine⟨ar,c',m,h1,h2,d,?_⟩;rcases f with ⟨ks,a,b,g⟩|⟨a,b⟩
 .simp at a
  obtain⟨⟨a1,a2,a3⟩,rfl⟩:=a;obtain rfl:s=s2:=by cases s;cases s2;simp_all
  exact .inl ⟨rfl,ks,b,g⟩
 .simp at a
  exact .inr ⟨a.2,b⟩
theorem Ir{P Q c:Nat->av aD}{t:Nat}{n:aD}{q:O Nat}{M:O aM}{a:Key}{x y no:Nat}(d:c5 P (t+1) n none none q M)(hs:bz n<=282)(hf:mu Q n [a] [x,y])(i:∀z∈q,P z=Q z)(j:c no=some ⟨false,[a],[],[x,y]⟩)(k:∀z∈x::y::q,Q z=c z)(hx:x<1600)(m:y<1600):
 cv a/\∃pages,eL c (t+2) none none no pages M/\pages.Perm (no::x::y::q):=by
 have o:232<bz n:=by
  rcases hf with ⟨_,z,e,_⟩|⟨h,_⟩
  .cases e
  .exact h
 obtain⟨f,aw,ay,g,_⟩:=d.fits (d.x_ I) (λ_=>I) (λ_=>I) hf i;have l:c5 Q (t+2) ⟨false,[a],[],[x,y]⟩ none none f M:=⟨rfl,rfl,g,λz b=>by
  simp only[cX,fk,fv]at b;rcases b with rfl|rfl<;>assumption,aw⟩
 refine⟨g a (by simp),no::f,l.lay (by simp) j λz b=>k z ?_,List.Perm.cons no ay⟩;have:=ay.mem_iff.1 b;simpa using this
theorem nM{a b:O Nat}:a.Perm b↔∀x,a.count x=b.count x:=List.perm_iff_count
theorem mB{q l m r:O Nat}{no:Nat}(h:(q++l).Perm (m++r)):(q++(l++ [no])).Perm (m++(no::r)):=by
 rw[nM]at h⊢;intro x;have:=h x;simp only[n1,pH,pI]at this⊢;omega
theorem iT{q l m r eo ps ms ls rest:O Nat}(h:(q++l).Perm (m++r))(h2:eo.Perm (ms++(rest++q)))(a:ps.Perm (ls++rest)):(eo++(l++ls)).Perm ((m++ms)++(ps++r)):=by
 rw[nM]at h h2 a⊢;intro x;have:=h x;have:=h2 x;have:=a x;simp only[n1,pH,pI]at*;omega
theorem mC{aO r ps a:O Nat}{u:Nat}(h:aO.Perm (r++(u::(ps++a)))):aO.Perm (u::((ps++r)++a)):=by
 rw[nM]at h⊢;intro x;have:=h x;simp only[n1,pH,pI]at*;omega
theorem Is{w:J}{T:aK}{c:dv}{d:O dr}{k:Key}{aO cU:O Nat}{dG A B M:O aM}{lo hi:av Key}{ws:ad}{n:aD}{K V D:ad}(h:de w T c)(bL:km (λq=>¬T.M q) w ws d)(bs:bQ (λq=>¬T.M q) w n K V D)(eB:0<d.length)(hlen:d.length=T.aL)(eC:T.aL<12)
 (eD:T.C.D.a6<=900000000) (eE:2*T.aL+3<=cg T) (eF:c.made.length<=100) (eG:c.left.length<=100) (cm:Ctx T.P k d.length 1 lo hi ((d.take (d.length-1)).map dr.st) cU A B) (L:c5 T.P 1 n lo hi [] M) (am:A++(M++B)=dG)
 (N:aO.Perm ((d[d.length-1]'I).no::cU)) (bt:bz n<=282) (aZ:2<=d.length->n.keys≠ []) (Q:∀x∈cU,T.f x=true):
 aJ aj 187 #[.pointer (some c.cb),ws,db n K V D] w (mA T c aO dG w):=by
 refine okF (ae.oH (some c.cb) ws n.leaf K V D) ax.oH func187 ?_;(delta ae.oH aT Y r1 z4 aq ak aP aF st p6 xx ga ey;dsimp only);refine a8 (vs:=dT n K V D) rfl λw1 cn co eH=>?_;obtain⟨bS,aU,a_,bd⟩:=bJ cn;refine⟨_,bS,K,aU,V,a_,D,bd,a8 (vs:=[false,(),(),()]) rfl λeI bN cq eJ=>⟨bN.cl rfl fG,rfl,cP bN (us:=dT n K V D) rfl rfl λbu bv cr eK=>?_⟩⟩;have bP:Ext w bu:=co.trans (Ext.cy cq cr (bl _));obtain⟨gW,cw⟩:∃gW,gW=w1.heap.size:=⟨_,rfl⟩;rw[←cw]at bv⊢;obtain⟨bM,bw⟩:∃bM,bM=λq=>T.E q\/q=gW:=⟨_,rfl⟩;have cB:∀q,T.E q->bM q:=λq F=>by rw[bw];exact .inl F
 have a0:∀q,bM q->T.E q\/q=gW:=λq F=>by rw[bw]at F;exact F
 have cC:bM gW:=by rw[bw];exact .inr rfl
 have eM:=bv.lt;have cD:de bu (T.cu bM T.G) c:=h.of (W:=λ_=>False) (h.t.grow (W:=λ_=>False) bP (λ_ h=>h.elim) (λq F=>(a0 q F).imp id λe=>.inr ⟨I,I⟩) (λq F=>.inr (.inl F)) λq F hg=>by
  rcases a0 q F with h1|h1
  .exact(h.t.dO q h1).2.2 hg
  .have:=h.t.lt (q:=q) (.inr (.inr (.inr (.inr hg))));omega) bP (λ_ _ h=>h) rfl λ_ h=>h
 have bR:bO T (T.cu bM T.G) w bu 0:=(bO.refl T w).step (W:=λ_=>False) bP (λ_ h=>h.elim) (λq F=>(a0 q F).imp id λe=>.inr I) λq F=>.inl F;have conv:∀ (v:aa) (w':J),mA (T.cu bM T.G) c aO dG w1 v w'->mA T c aO dG w v w':=λv w' hu=>hu.local co (λq F=>(a0 q F).imp id λe=>I) cB;obtain⟨bW,an⟩:∃bW,bW=T.cu bM T.G:=⟨_,rfl⟩;have bT:=bL.to bR;have bU:bQ (λq=>¬(T.cu bM T.G).M q) bu n K V D:=(bR.b_ (lo:=0) (bs.a7 λq _ R=>⟨cL _,R⟩)).a7 λq _ R=>R.2;have cE:bW.P=T.P:=by rw[an];rfl
 have bV:bW.f=T.f:=by rw[an];rfl
 have dJ:bW.E gW:=by rw[an];exact cC
 have eN:cg bW=cg T:=by rw[an];rfl
 have dK:bW.C=T.C:=by rw[an];rfl
 have dL:bW.aL=T.aL:=by rw[an];rfl
 rw[←an]at cD bT bU conv;clear an bR bw cB a0 cC;have eO:gW=w1.heap.size:=cw;have eP:ws.len=d.length:=by
  have:=bL.own.1;rw[fA _ (nK d)]at this;omega
 refine⟨λn10 w'=>∃ (i:Nat) (ar:aK) (c':dv) (m l:O Nat) (n:aD) (K V D:ad) (lo hi:av Key) (cU:O Nat) (A B:O aM) (q:O Nat) (M:O aM) (r:O Nat),n10=(i:Nat)/\Ip bW c w1 d k aO dG ws gW i w' ar c' m l n K V D lo hi cU A B q M r,λn10 _=>(n10+1).toNat,
  ⟨d.length-1,bW,c,[],[],n,K,V,D,lo,hi,cU,A,B,[],M,[],?_,?_⟩,?_⟩
 .rw[bn I I];omega
 .have e:d.length-(d.length-1)=1:=by omega
  refine⟨I,cD,(df.ext bW c (Ext.cy cq cr (bl _))).mono I,cL _,cL _,bv,bU,bT,by rw[e,cE];exact cm,by rw[e,cE];exact L,am,by simpa using N,List.Perm.refl _,bt,λh1=>aZ I,λx hx=>by rw[bV];exact Q x (by simpa using hx)⟩
 clear cm L am N bt aZ Q bs bU bv bL bT cn bS aU a_ bd bN;rintro _ bX ⟨i,ar,c',m,l,n,K,V,D,lo,hi,cU,A,B,q,M,r,rfl,g⟩;have cF:=g.ou;have bx:=g.to.cb;refine⟨λ_=>aX ?_,λR=>?_⟩
 rotate_left
 .have:¬(i:Int)>=0:=cH R
  omega
 have aI:Ext bX bX.drew:=cG _;obtain⟨bY,dM⟩:∃bY,bY=bX.drew:=⟨_,rfl⟩;rw[←dM]at aI⊢;have a5:=g.y6.ext aI;have cJ:=a5.cells.2.2;rw[bx]at cJ;have cN:km (λq=>¬ar.M q) bY ws d:=g.h6.to (bO.ext ar aI);obtain⟨a9,bZ,eQ,dP,dQ,_⟩:=cN.at cF;have eS:c'.left.length<=200:=by rw[g.to.left,cp];have:=g.ll;omega
 have dR:c'.made.length<=200:=by rw[g.to.made,cp];have:=g.pn;omega
 obtain⟨aN,cO,aw,ay,aQ,az,aC⟩:=CI a5 (d[i]).no I;rw[bx]at aQ az aC;have dS:∀n,(a9.add n).block=a9.block:=λn=>by unfold Addr.add;split<;>rfl
 have dU:∀q,aB c'.gu q->ar.M q:=λq F=>.inr (.inr (.inr (.inr (a5.kM q F).1)));refine⟨aB c'.gu,_,rfl,λF=>(a5.kM _ F).2 (by rw[bx,aA]),c'.gu,cJ,a9,bZ,⟨I,I⟩,λF=>dP (dU _ ((dS _)▸F)),_,by rw[dg];exact dQ,aX ⟨af.c0 (da _ _),aN,cO,aw,ay,_,rfl,by rw[aA];exact aQ,by rw[aA];exact az,aX ?_⟩⟩;rw[aA,cR];obtain⟨U,cQ⟩:∃U,U=cO.setCell ⟨c.cb,2,none⟩ aN:=⟨_,rfl⟩;rw[←cQ];obtain⟨ac,ba⟩:=aC U cQ;have b0:=df.leave (c:=c') (c':=⟨c.cb,c'.ma,aN,c'.made,c'.left++ [(d[i]).no]⟩) (no:=(d[i]).no) ba rfl (λq F=>.inl F) bx.symm rfl rfl;have X:=(g.to.trans (df.ext ar c' aI)).trans b0;simp only[fu,lV]at X;have cT:ar.E gW:=by rw[g.to.E];exact dJ
 have b2:=(g.gW.ext aI).ah ba.ah (a5.t.kJ cT);have b4:=cN.to ba;have bb:bQ (λq=>¬(ar.cu ar.E λq=>ar.G q\/aB aN q).M q) U n K V D:=(ba.b_ (lo:=0) ((g.b_.ext aI).a7 λq _ R=>⟨cL _,R⟩)).a7 λq _ R=>R.2;obtain⟨b1,aR⟩:∃b1,b1=ar.cu ar.E λq=>ar.G q\/aB aN q:=⟨_,rfl⟩;have bk:b1.P=ar.P:=by rw[aR];rfl
 have bh:b1.f=ar.f:=by rw[aR];rfl
 have eU:cg b1=cg ar:=by rw[aR];rfl
 have cV:b1.E gW:=by rw[aR];exact cT
 have cY:b1.aL=T.aL:=by rw[aR];show ar.aL=_;rw[g.to.aL,dL]
 rw[←aR]at ac ba b0 X b4 bb;obtain⟨a_,bB⟩:∃a_:dv,a_=⟨c.cb,c'.ma,aN,c'.made,c'.left++ [(d[i]).no]⟩:=⟨_,rfl⟩;rw[←bB]at ac b0 X;have hM:a_.cb=c.cb:=by rw[bB]
 have eo:a_.made.length<=200:=by rw[bB];exact dR
 have eV:a_.left.length<=201:=by rw[bB,cp,iG];omega
 obtain⟨dW,cc,bA,dX⟩:=bJ b2;have cZ:=bG.len bb.keys;have c2:∀ (w':J) (v:aa),Ext U w'->(∀ {cW bd bc},cW=b1->bd=a_->bc=l++ [(d[i]).no]->((v=.tuple #[(0:Int),(0:Int),(0:Int)]/\dG=[]/\bc.Perm (m++aO)/\m.length<=2*bW.aL+3)\/
  (∃ (root h:Nat) (pages:O Nat),v=.tuple #[root,h,(0:Int)]/\eL (aK.P cW) h none none root pages dG/\(pages++bc).Perm (m++aO)/\1<=h/\h<=bW.aL+1/\m.length<=2*bW.aL+3)\/
  (∃a b:Int,v=.tuple #[a,b,(3:Int)]/\¬bW.C.D.calm 60)))->mA T c aO dG w v w':=by
  intro w' v hx hd;refine conv v w' ⟨b1,a_,m,l++ [(d[i]).no],?_,?_,hd (bd:=a_) rfl rfl rfl⟩
  .exact ac.ext hx
  .have:=(X.trans (df.ext b1 _ hx)).mono (j:=60) I
   simp only[fu]at this;exact this
 refine cA (λb w'=>(b=true↔(i=0/\n.keys=[]))/\U=w') (λZ be=>⟨λh0=>⟨K,cc,be _ _ ⟨?_,rfl⟩⟩,λh0=>be _ _ ⟨?_,rfl⟩⟩) ?_
 .have h0:i=0:=by
   have:(i:Int)=0:=by simpa using h0
   omega
  rw[kt];constructor
  .intro h1
   exact⟨h0,wM I⟩
  .rintro⟨_,h1⟩
   rw[h1]at cZ;simp at cZ;omega
 .have h0:i≠0:=by
   have:¬(i:Int)=0:=by simpa using h0
   omega
  exact⟨λh=>(by cases h),λh=>absurd h.1 h0⟩
 rintro eW _ ⟨c3,rfl⟩;refine⟨λR=>?_,λR=>?_⟩
 .obtain⟨h0,c4⟩:=c3.1 R
  subst h0;have bf:Ext U U.drew:=cG _;obtain⟨dY,dZ,d0,d6⟩:=bJ (b2.ext bf);have c6:=(ac.ext bf).cells.1;rw[hM]at c6;have d7:=(ac.ext bf).t.cells.2.2.2.2;obtain⟨t1,t2,t3,t4,t5,t6⟩:=Ctx.CU (by simpa using g.ctx);have L:=g.jf;have N:=g.pp;have am:=g.eq;have ai:=mB (no:=(d[0]).no) g.acc;subst t2 t3 t4 t5 t6;rw[hU,fu]at am;rw[fu]at N;subst am;have c7:n.leaf=false->∃x,n.kids=[x]/\1<=b1.aL/\eL ar.P (b1.aL-1) none none x q M/\1<=b1.aL-1:=by
   intro aE;have e:d.length-0=b1.aL:=by rw[cY];omega
   rw[e]at L
   cases ht:b1.aL with
   |zero=>omega
   |succ t=>
    rw[ht]at L
    cases t with
    |zero=>
     have:=L.1.leaf;rw[aE]at this;cases this
    |succ t=>
     obtain⟨v1,v2,bg,bi,bC⟩:=L;rw[c4]at bC;generalize eX:n.kids=eY at bC
     cases bC with
     |one h=>exact⟨_,rfl,I,h.1,I⟩
  refine aX ⟨λ_=>False,id,_,dY,K,dZ,V,d0,D,d6,_,rfl,id,_,c6,_,rfl,id,_,d7,(qz (bb.ext bf) b1.aL I λaE=>by obtain⟨x,a1,a2,_⟩:=c7 aE;exact⟨x,a1,a2⟩).use ?_⟩;rintro v w' ⟨rfl,b5⟩;have c8:=bf.trans b5
  cases aE:n.leaf with
  |true=>
   rw[if_pos rfl];have c9:=L.leaf;rw[aE]at c9;have b6:d.length-0=1:=cj c9.symm;rw[b6]at L;obtain⟨v1,v2,bg,bi⟩:=L;subst bg;refine⟨_,_,_,rfl,b5,c2 w' _ c8 λ{cW bd bc} a1 a2 a3=>.inl ⟨rfl,?_,?_,by have:=g.pn;omega⟩⟩
   .rw[bi];unfold aD.dy;rw[c4];rfl
   .subst a3
    rw[nM]at ai N⊢;intro x;have:=ai x;have:=N x;simp only[n1,pH,pI]at*;omega
  |false=>
   rw[if_neg (by simp)];obtain⟨x,a1,a2,a3,a4⟩:=c7 aE;refine⟨_,_,_,rfl,b5,c2 w' _ c8 λ{cW bd bc} cx b3 aS=>.inr (.inl ⟨_,_,q,rfl,?_,?_,a4,?_,by have:=g.pn;omega⟩)⟩
   .subst cx
    have d8:n.kids.getD 0 0=x:=by rw[a1];rfl
    rw[d8,bk];exact a3
   .subst aS
    rw[nM]at ai N⊢;intro x;have:=ai x;have:=N x;simp only[n1,pH,pI]at*;omega
   .omega
 .have aZ:n.keys≠ []:=λe=>by
   rcases n0 i with h0|h0
   .have:=c3.2 ⟨h0,e⟩
    rw[R]at this;cases this
   .exact g.Iq h0 e
  have eZ:b1.C.D.a6<=900000050:=by
   have:=X.to.a6;rw[dK]at this;omega
  have c_:2<=cg b1:=by
   have:=X.room;have:=g.pn;omega
  have dc:∀ms:O Nat,ms.length<=3->(m++ms).length<=2*bW.aL+3:=λms h=>by rw[cp];have:=g.pn;omega
  have dd:∀j,j<=10->¬b1.C.D.calm j->¬bW.C.D.calm 60:=λj e0 bs hc=>bs (X.to.calm j (gf hc I));have b7:lQ n:=g.jf.y4 (λ_=>by have:=g.sz;omega) (λ_=>by have:=g.sz;omega) λ_=>aZ;refine cA (λp w'=>p=(if i=0 then none else some (a9.add ((i-1)*6)))/\U=w') (λZ be=>⟨λh0=>⟨a9,bZ,?_,be _ _ ⟨?_,rfl⟩⟩,λh0=>be _ _ ⟨?_,rfl⟩⟩) ?_
  .have h0:(i:Int)>0:=cj h0
   rw[bn I I];omega
  .have h0:(i:Int)>0:=cj h0
   have e:(i:Int)-1=((i-1:Nat):Int):=by omega
   rw[bn I I,if_neg I,e,dg]
  .have h0:¬(i:Int)>0:=cH h0
   rw[if_pos I]
  rintro _ _ ⟨rfl,rfl⟩;refine⟨_,dW,K,cc,V,bA,D,dX,?_⟩;by_cases h0:i=0
  .subst h0
   rw[if_pos rfl];have bj:=Ig ac bb b7 I c_ I;rw[hM]at bj;refine bj.use ?_;rintro _ aV ⟨aW,e,rfl,hf⟩;obtain⟨cW,bd,ms,S,H,bm,bo⟩:=hf.cs;have bD:=X.trans H;simp only[fu]at bD;have d9:bd.cb=c.cb:=by rw[H.cb,hM]
   rcases bo with ⟨rfl,ks,ao,aG⟩|⟨rfl,aH⟩
   .refine⟨aW,_,_,0,rfl,λh=>(by cases h),λ_=>⟨λ_=>?_,λh=>(by simp at h)⟩⟩
    obtain⟨t1,t2,t3,t4,t5,t6⟩:=Ctx.CU (by simpa using g.ctx);have L:=g.jf;have N:=g.pp;have am:=g.eq;have bt:=g.sz;have ai:=mB (no:=(d[0]).no) g.acc;have Q:=g.CV;subst t2 t3 t4 t5 t6;rw[hU,fu]at am;rw[fu]at N Q;subst am;have d_:b1.n<=1600:=ac.t.s.bA;have b8:∀z∈q,ar.P z=cW.P z:=λz ab=>by
     rw[←bk];exact((H.ew z (by rw[bh,Q z ab];rfl)).1).symm
    have ea:d.length-0=(d.length-1)+1:=by omega
    have dh:cW.aL=d.length:=by rw[H.aL,cY];omega
    rw[ea]at L;have dj:∀aY x y,ks=[aY]->ms=[x,y]->cv aY/\x<1600/\y<1600:=λaY x y aw ay=>by
     subst aw ay;have dk:232<bz n:=by
      rcases ao with ⟨_,z,e,_⟩|⟨h,_⟩
      .cases e
      .exact h
     obtain⟨e1,_,_,aQ,_⟩:=L.fits (L.x_ I) (λ_=>I) (λ_=>I) ao b8;have hx:=(H.jO x (by simp)).2;have e2:=(H.jO y (by simp)).2;exact⟨aQ aY (by simp),I,I⟩
    have dl:=Ik S aG (λ_=>I) dj (by have:=H.to.a6;omega) (by have:=H.room;have:=X.room;have:=g.pn;omega) (by rw[H.made,cp];omega);rw[d9]at dl;refine dl.use ?_;rintro v e3 eb;rcases eb with ⟨x,aw,ay,rfl,az,aC⟩|⟨aY,x,y,no,jd,fF,aw,ay,az,aC,ec⟩
    .subst aw ay
     refine⟨_,_,_,rfl,conv _ _ ⟨cW,bd,m++ [x],l++ [(d[0]).no],az,?_,.inr (.inl ⟨x,cW.aL,x::q,rfl,?_,?_,I,I,dc [x] (by simp)⟩)⟩⟩
     .have:=(bD.trans (df.ext cW bd aC)).mono (j:=60) I
      simp only[fu]at this;exact this
     .rcases ao with ⟨_,z,_,e,ab⟩|⟨_,e4,e5,_,e,_⟩
      .cases e
       rw[dh,show d.length=d.length-1+1 from I];exact L.lay aZ ab b8
      .cases e
     .rw[nM]at ai N⊢
      intro z;have:=ai z;have:=N z;simp only[n1,pH,pI]at*;omega
    .subst aw ay
     obtain⟨a1,a2,a3⟩:=dj aY x y rfl rfl;have ap:=bD.trans aC;simp only[fu]at ap;have dm:=ap.mono (j:=60) I;rcases ec with ⟨rfl,ca⟩|⟨rfl,ca⟩
     .have ed:∀z∈x::y::q,cW.P z=jd.P z:=λz ab=>by
       refine((aC.ew z ?_).1).symm;rw[H.f];simp only[cX]at ab;rcases ab with ab|ab|ab
       .simp[ab]
       .simp[ab]
       .rw[bh,Q z ab];simp
      obtain⟨_,pages,cx,b3⟩:=Ir L bt ao b8 ca ed a2 a3;refine⟨_,_,_,rfl,conv _ _ ⟨jd,fF,m++ [x,y]++ [no],l++ [(d[0]).no],az,dm,.inr (.inl ⟨no,cW.aL+1,pages,rfl,?_,?_,I,I,by rw[cz];exact dc [x,y,no] (by simp)⟩)⟩⟩
      .rw[dh,show d.length+1=d.length-1+2 from I];exact cx
      .rw[nM]at ai N b3⊢
       intro z;have:=ai z;have:=N z;have:=b3 z;simp only[n1,pH,pI]at*;omega
     .refine⟨_,_,_,rfl,conv _ _ ⟨jd,fF,m++ [x,y]++ [no],l++ [(d[0]).no],az,dm,.inr (.inr ⟨_,_,rfl,λhc=>ca (H.to.calm 1 (X.to.calm 3 (gf hc I)))⟩)⟩⟩
   .refine⟨aW,_,_,3,rfl,λ_=>conv _ _ ⟨cW,bd,m++ms,l++ [(d[0]).no],S,bD.mono I,.inr (.inr ⟨0,0,rfl,dd 2 I aH⟩)⟩,λh=>(by cases h)⟩
  .rw[if_neg h0]
   have dN:i-1<d.length:=by omega
   obtain⟨e6,dn,_,_,_,hu⟩:=b4.at dN;rw[bZ]at dn;obtain rfl:=Option.some.inj dn;obtain⟨u,cd⟩:∃u,u=d[i-1]:=⟨_,rfl⟩;rw[←cd]at hu;have ee:(d.take i).map dr.st=(d.take (i-1)).map dr.st++ [u.st]:=by
    have:d.take i=d.take (i-1)++ [d[i-1]]:=by
     have e:i-1+1=i:=by omega
     rw[←kr dN,e]
    rw[this,fJ,cd];rfl
   obtain⟨dp,dq,ef,ds,dt,ps,b9,ct,eg,e7,e8,eh,ei,du,ce⟩:=Ctx.up g.ctx ee g.jf g.y6.t.po g.sz;have b6:d.length-i+1=d.length-(i-1):=by omega
   rw[b6]at b9 du ce;have ej:=(g.y6.t.eR _ _ eg).2.is;have e9:=ej.2.1.eT I;have Q:=g.CV;have bj:=Ih ac bb hu b7.1 (by have:=g.sz;omega) (λ_=>b7) (λbE=>by
    obtain⟨o,no,rest,cx,b3,aS,bF,bI,dw,_⟩:=ce bE;exact⟨o,no,cx,by rw[bk];exact b3,aS,bF,bI,dw⟩) I I c_ I I
   rw[hM]at bj;refine bj.use ?_;rintro v aV cS;have e_:0<u.n.keys.length:=List.length_pos_iff.2 eh;have d_:b1.n<=1600:=ac.t.s.bA;have cf:∀ {cW:aK}{bd:dv}{ms ls:O Nat}{w':J}{ek:Nat},df b1 cW a_ bd ms ls U w' ek->∀x,ar.f x=true->ar.P x=cW.P x:=λel x hx=>by
    rw[←bk];exact((el.ew x (by rw[bh,hx];rfl)).1).symm
   have em:(∃ (cW:aK) (bd:dv) (ms ls:O Nat) (s:ad) (a b:Int),v=.tuple #[s,a,b,(3:Int)]/\de aV cW bd/\df b1 cW a_ bd ms ls U aV 4/\¬b1.C.D.calm 4)\/
    (∃ (cW:aK) (bd:dv) (ms ls rest:O Nat) (s:ad) (al ag:Nat) (ks:O Key) (eo:O Nat) (au:O aM),v=.tuple #[s,al,ag,(0:Int)]/\de aV cW bd/\df b1 cW a_ bd ms ls U aV 4/\ms.length<=2/\ls.length<=1/\lh (λq=>¬cW.M q) aV s ks ms/\
      c5 cW.P (d.length-(i-1)) (fQ u.n al ag ks ms) dp dq eo au/\ds++(au++dt)=A++(M++B)/\eo.Perm (ms++(rest++q))/\ps.Perm (ls++rest)/\bz (fQ u.n al ag ks ms)<=bz u.n+27/\u.n.keys.length<=(fQ u.n al ag ks ms).keys.length+1/\
      al<=u.n.keys.length/\1<=ag/\ag<=u.n.kids.length):=by
    rcases cS with ⟨dk,s,e,rfl,hf⟩|⟨bE,cW,bd,rfl,aw,ay,aQ⟩|⟨bE,o,no,fa,fb,fc,s,e,dx,dz,dB,rfl,hf⟩
    .obtain⟨cW,bd,ms,S,H,bm,bo⟩:=hf.cs
     rcases bo with ⟨rfl,ks,ao,aG⟩|⟨rfl,aH⟩
     .obtain⟨eo,au,cx,b3,aS,bF,bI⟩:=du dk cW.P ks ms ao (λx hx=>cf H x (Q x (by
       rw[ct];simp only[cK,cX]at hx⊢;rcases hx with hx|hx
       .exact .inr (.inr (.inl hx))
       .exact .inl hx))) (λx hx=>by have:=(H.jO x hx).2;omega)
      exact .inr ⟨cW,bd,ms,[],ps,s,u.cM,u.cM+1,ks,eo,au,rfl,S,H.mono I,bm,cL _,aG,cx,b3,aS,List.Perm.refl _,bF,bI,I,I,I⟩
     .exact .inl ⟨cW,bd,ms,[],s,_,_,rfl,S,H.mono I,λhc=>aH (gf hc I)⟩
    .exact .inl ⟨cW,bd,[],[],bH,0,0,rfl,aw,ay.mono I,λhc=>aQ (gf hc I)⟩
    .obtain⟨fd,dC,rest,cx,b3,aS,bF,bI,dw,dD,en⟩:=ce bE
     rw[cx]at dx;obtain rfl:=Option.some.inj dx;rw[bk,b3]at dz;obtain rfl:=Option.some.inj dz;obtain⟨cW,bd,ms,S,H,bm,bo⟩:=hf.cs;have ap:=dB.trans H;simp only[hU,fu]at ap;rcases bo with ⟨rfl,ks,ao,aG⟩|⟨rfl,aH⟩
     .obtain⟨eo,au,d1,d2,d3,d4,d5⟩:=en cW.P ks ms ao (λx hx=>cf ap x (Q x (by
       rw[ct];simp only[cK,cX]at hx⊢;rcases hx with hx|hx
       .exact .inr (.inr (.inl (dD.mem_iff.2 (jv _ hx))))
       .exact .inl hx))) (λx hx=>by have:=(ap.jO x hx).2;omega)
      refine .inr ⟨cW,bd,ms,[dC],rest,s,u.cM-1,u.cM-1+2,ks,eo,au,rfl,S,ap,bm,bl _,aG,d1,d2,d3,dD,d4,d5,I,I,?_⟩;rcases n0 u.cM with ep|ep<;>omega
     .exact .inl ⟨cW,bd,ms,[dC],s,_,_,rfl,S,ap,λhc=>aH (dB.to.calm 2 hc)⟩
   clear cS;rcases em with ⟨cW,bd,ms,ls,aW,a,b,rfl,S,H,aH⟩|⟨cW,bd,ms,ls,rest,aW,al,ag,ks,eo,au,rfl,S,H,bm,fe,aG,v1,v2,bg,bi,bC,er,es,et,eu⟩
   .exact⟨aW,_,_,3,rfl,λ_=>conv _ _ ⟨cW,bd,_,_,S,(X.trans H).mono I,.inr (.inr ⟨0,0,rfl,dd 4 I aH⟩)⟩,λh=>(by cases h)⟩
   .refine⟨aW,_,_,0,rfl,λh=>(by cases h),λ_=>⟨λh=>?_,λ_=>?_⟩⟩
    .have:(i:Int)=0:=by simpa using h
     omega
    have bp:=hu.to H.to;refine⟨_,rfl,_,bp.aU,u.K,bp.a_,u.V,bp.bd,u.D,bp.fF,(qA bp.b_ aG (fr:=al) (to:=ag) es I et eu I I I).use ?_⟩;rintro _ ff ⟨dA,dV,c1,rfl,ev,bq⟩;have dE:=b2.ah H.to.ah (ac.t.kJ cV);have dF:=dE.ext bq;refine⟨_,dA,dV,c1,rfl,dF.cl rfl fG,rfl,cP dF (us:=dT (fQ u.n al ag ks ms) dA dV c1) rfl rfl λex ez br fg=>⟨⟨i-1,cW,bd,m++ms,l++ [(d[i]).no]++ls,fQ u.n al ag ks ms,dA,dV,c1,dp,dq,ef,ds,dt,eo,au,ps++((d[i]).no::r),?_,?_⟩,?_⟩⟩
    .rw[bn I I];omega
    .have dH:cW.E gW:=by rw[H.E];exact cV
     have ch:cW.M gW:=.inr (.inr (.inr (.inl dH)));have ci:=(X.trans H).trans (df.ext cW bd bq);simp only[fu]at ci;have eA:bO bW cW w1 ex (4*(d.length-1-i)+4+0):=ci.to.step (E:=cW.E) (G:=cW.G) br (λq e aE=>I) (λq F=>.inl F) λq F=>.inl F;have ck:∀x,ar.f x=true->cW.f x=true:=λx hx=>by rw[H.f,bh,hx];rfl
     have bK:=b4.to H.to;refine⟨dN,(S.ext bq).CT br λq e=>.inl (by rw[e];exact dH),{ci.mono (j:=4*(d.length-1-(i-1))) I with to:=eA.mono I},?_,?_,ez,?_,?_,b9.agree λx hx=>cf H x (Q x (by rw[ct];simp[hx])),v1,by rw[v2];exact g.eq,?_,iT (mB g.acc) bg bi,I,λh1 e=>?_,λx hx=>?_⟩
     .rw[cp];have:=g.pn;omega
     .rw[cp,cp,iG];have:=g.ll;omega
     .refine(bQ.ah ev br λq F e=>?_).a7 λq _ F dI=>?_
      .subst e
       rcases F with F|F
       .exact F ch
       .have:=dE.lt;omega
      .rcases F with F|F
       .exact F dI
       .have:=S.t.lt dI;omega
     .refine⟨(bK.own.ext bq).ah br λq F e=>bK.pk q F (by rw[e];exact ch),bK.pk,λx hx=>bQ.ah ((bK.b_ x hx).ext bq) br λq F e=>F (by rw[e];exact ch)⟩
     .have this:aO.Perm ((d[i]'cF).no::(r++cU)):=g.pp
      rw[ct]at this;rw[←cd];exact mC this
     .have h2:=ei (λbV=>by
       have:=congrArg List.length bV;rw[di,cI,kW]at this;omega)
      rw[e,kW]at er;omega
     .rcases cK.1 hx with hx|hx
      .have:=bg.mem_iff.1 hx
       rcases cK.1 this with hx|hx
       .rw[H.f];simp[hx]
       .rcases cK.1 hx with hx|hx
        .refine ck x (Q x ?_)
         rw[ct];have:x∈ps:=bi.mem_iff.2 (ig _ hx);simp[this]
        .exact ck x (Q x (by simp[hx]))
      .exact ck x (Q x (by rw[ct];simp[hx]))
    .rw[bn I I]
     show((i:Int)-1+1).toNat<((i:Int)+1).toNat;omega
theorem It{w:J}{T:aK}{c:dv}{dG:O aM}{n:aD}{K V D ws:ad}(r:ws.len=0)(h:de w T c)(t:bQ (λq=>¬T.M q) w n K V D)(P:T.C.D.a6<=900000000)(Q:2<=cg T)(R:c.made.length<=100)(S:c.left=[])
 (f:gN n) (g:n.keys≠ []) (u:bz n<=232) (y:n.dy=dG):
 aJ aj 187 #[.pointer (some c.cb),ws,db n K V D] w (mA T c [] dG w):=by
 refine okF (ae.oH (some c.cb) ws n.leaf K V D) ax.oH func187 ?_;(delta ae.oH aT Y r1 z4 aq ak aP aF st p6 xx ga ey;dsimp only);refine a8 (vs:=dT n K V D) rfl λw1 z A U=>?_;obtain⟨bS,aU,a_,bd⟩:=bJ z;refine⟨_,bS,K,aU,V,a_,D,bd,a8 (vs:=[false,(),(),()]) rfl λW i B X=>⟨i.cl rfl fG,rfl,cP i (us:=dT n K V D) rfl rfl λj E F Z=>?_⟩⟩;have d:Ext w j:=A.trans (Ext.cy B F (bl _));refine⟨λn10 w'=>n10= -1/\j=w',λ_ _=>0,⟨by rw[r];decide,rfl⟩,?_⟩;rintro _ _ ⟨rfl,rfl⟩;refine⟨λh=>by simp at h,λ_=>?_⟩;obtain⟨d0,d1,d2,d3⟩:=bJ E;refine⟨_,d0,K,d1,V,d2,D,d3,(CN (h.ext d) I I I (t.ext d) (.inl f) u).use ?_⟩;intro v w' a;obtain⟨s,e,rfl⟩:=a.out;obtain⟨ar,c',m,l,o,aa,G⟩:=(a.base d).cs;rcases G with ⟨rfl,ks,H,L⟩|⟨rfl,N⟩
 .refine⟨s,0,rfl,λh=>(by cases h),λ_=>?_⟩
  rcases H with ⟨_,x,rfl,rfl,hx⟩|⟨ab,_⟩
  .rcases L with ⟨b,p,rfl,_,e,a,_⟩|⟨b,p,ac,af,ag,rfl,e,_⟩
   .obtain rfl:x=p:=by simpa using e
    refine⟨_,rfl,⟨by decide,by show(0:Int)<((1:Nat):Int);decide⟩,_,by rw[aA,aA];exact a.cell,ar,c',[x],[],l,o.mono I,.inr (.inl ⟨x,1,[x],rfl,⟨n,hx,f,λk g=>⟨λ_ e=>(by cases e),λ_ e=>(by cases e)⟩,g,rfl,y.symm⟩,List.Perm.refl _,bl _,I,by show 1<=_;omega⟩)⟩
   .cases e
  .omega
 .exact⟨s,3,rfl,λ_=>⟨ar,c',m,[],l,o.mono I,.inr (.inr ⟨0,0,rfl,λhc=>N (gf hc I)⟩)⟩,λh=>(by cases h)⟩
def aK.nN(T:aK)(r h:Nat):aK:={T with root:=r,aL:=h}
theorem b8.Iu{w w':J}{T:aK}{r h:Nat}(ht:b8 w T)(a:Var w' T.bg (lP (T.nN r h)) 243)(hc:af (λq=>q=T.bg) w w')(b:r<T.n)(c:h<=12):b8 w' (T.nN r h)/\bO T (T.nN r h) w w' 0:=
 ⟨⟨a,ht.s.ah hc λq d e=>ht.kk (e▸d),ht.ca.ah hc λq e=>.inl e,ht.kk,ht.dO,ht.jk,ht.n,⟨b,c,ht.num.2.2⟩,ht.eR,ht.b7,ht.low⟩,
  ⟨rfl,rfl,rfl,rfl,rfl,rfl,rfl,rfl,rfl,rfl,bl _,λ_ h=>h,hc.mono λq _ e=>.inr (.inl e),λq h=>.inl h,λq h=>.inl h⟩⟩
def gD(T:aK)(pages:O Nat)(L:O aM):Prop:=(T.aL=0/\T.root=0/\pages=[]/\L=[])\/eL T.P T.aL none none T.root pages L
theorem CW{s t:Nat->al}:∀ {n:Nat},(∀i,s i=true->t i=true)->eQ s n<=eQ t n
 |0,_=>bl _
 |n+1,h=>by
  have h1:=CW (n:=n) h
  show eQ s n+(s n).toNat<=eQ t n+(t n).toNat
  cases hs:s n with
  |false=>exact Nat.add_le_add h1 (cL _)
  |true=>rw[h n hs];exact Nat.add_le_add_right h1 _
def wu(T:aK)(aO:O Nat)(dG:O aM)(w:J)(v:aa)(w':J):Prop:=
 ∃ar:aK,b8 w' ar/\bO T ar w w' 60/\ar.E=T.E/\ar.G=T.G/\
  ((v=.int .i64 2/\cg T<2*T.aL+3/\ar=T)\/
   (v=.int .i64 0/\2*T.aL+3<=cg T/\(∃pages,cg T<=cg ar+(2*T.aL+3)/\gD ar pages dG/\pages.Nodup/\(∀no∈pages,no∈aO\/(T.f no||T.g no)=false)/\∀no,ar.f no=true↔(no∈pages\/(T.f no=true/\no∉aO)))/\∀no,T.g no=true->ar.P no=T.P no/\ar.C.view no=T.C.view no)\/
   (v=.int .i64 3/\¬T.C.D.calm 60/\ar.root=T.root/\ar.aL=T.aL/\ar.f=T.f/\∀no,(T.f no||T.g no)=true->ar.P no=T.P no/\ar.C.view no=T.C.view no))
theorem CX{l:O Nat}(h:∀x,l.count x<=1):l.Nodup:=List.nodup_iff_count.2 h
theorem Iv{w:J}{T:aK}{s:ad}{aO:O Nat}{dG:O aM}{n:aD}{K V D:ad}(h:b8 w T)(b0:¬T.C.D.ro)(c5:T.C.D.a6<=900000000)(y:T.aL<12)(b2:aO.Nodup)(aE:∀x∈aO,T.f x=true)(c6:aO.length<=5000)
 (b3:∀ (bM j:Nat->Prop) (w1:J) (aU:dv),de w1 (T.cu bM j) aU->bO T (T.cu bM j) w w1 0->2*T.aL+3<=cg T->aU.made=[]->aU.left=[]->aJ aj 187 #[.pointer (some aU.cb),s,db n K V D] w1 (mA (T.cu bM j) aU aO dG w1)):
 aJ aj 131 #[.pointer (some T.bg),s,db n K V D] w (wu T aO dG w):=by
 have c8:=h.s.bA;refine ae.E4 (some T.bg) s n.leaf K V D w _ ?_;(delta ae.r9 aF bY ak aq st Y aT r1 p6 gJ;dsimp only);refine a8 (vs:=dT n K V D) rfl λw1 ab ba c9=>a8 (vs:=[(0:Int)]) rfl λai bb bc c_=>aX ?_;have ac:Ext ai ai.drew:=cG _;obtain⟨be,b4⟩:∃be,be=ai.drew:=⟨_,rfl⟩;rw[←b4]at ac⊢;have bf:=(ba.trans bc).trans ac;have k:=h.ext bf;obtain⟨ev,b5⟩:∃ev,ev=w1.heap.size:=⟨_,rfl⟩;rw[←b5]at bb⊢;refine⟨λ_=>False,_,rfl,id,_,k.cells.2.1,_,rfl,id,_,k.cells.2.2.2.2,(yQ k.s).use ?_⟩;rintro _ aG ⟨rfl,ag⟩;have aH:=bf.trans ag;have R:=(bb.ext ac).ext ag;have b6:((T.n:Int)-eQ (λi=>T.f i||T.g i) T.n)=(cg T:Nat):=by
  have:=nH (λi=>T.f i||T.g i) T.n;unfold cg;omega
 have b7:IntKind.wrap .i64 (IntKind.wrap .i64 (2*(T.aL:Int))+3)=((2*T.aL+3:Nat):Int):=by
  rw[bn (n:=2*(T.aL:Int)) I I,bn I I];omega
 rw[b6,b7];refine⟨_,rfl,ag,λal=>?_,λal=>?_⟩
 .have al:((cg T:Nat):Int)<((2*T.aL+3:Nat):Int):=cj al
  obtain⟨aw,ay⟩:=eA R (i:=0) (by simp);have ca:=dU aG ev 0 (2:Int);have cd:=ez R (i:=0) (2:Int);have bh:=Ext.cy aH ca I;exact⟨aw,ay,aX ⟨2,cd.cell,T,h.ext bh,(bO.ext T bh).mono I,rfl,rfl,.inl ⟨rfl,I,rfl⟩⟩⟩
 have bi:2*T.aL+3<=cg T:=by
  have:¬((cg T:Nat):Int)<((2*T.aL+3:Nat):Int):=cH al;omega
 refine a8 (vs:=[.pointer (some T.bg),(),()]) rfl λce bj cf da=>a8 (vs:=[.pointer none]) rfl λbk aI bl dc=>?_;obtain⟨cb,bm⟩:∃cb,cb=aG.heap.size:=⟨_,rfl⟩;obtain⟨eW,bo⟩:∃eW,eW=ce.heap.size:=⟨_,rfl⟩;rw[←bm]at bj⊢;rw[←bo]at aI⊢;obtain⟨aw,ay⟩:=eA aI (i:=0) (by simp);have am:=dU bk eW 0 (.pointer (some cb));have aN:=ez aI (i:=0) (.pointer (some cb));refine⟨aw,ay,aX ?_⟩;obtain⟨B,ch⟩:∃B,B=bk.setCell eW (.pointer (some cb)):=⟨_,rfl⟩;rw[←ch]at am aN⊢;have dd:=aH.size;have df:=am.size;have aP:Ext aG B:=Ext.cy (cf.trans bl) am I;have bp:=aH.trans aP;have bq:=R.ext aP;have br:=(bj.ext bl).ah am I;have ci:=((ab.ext bc).ext ac).ext (ag.trans aP);obtain⟨bM,aQ⟩:∃bM,bM=λq=>T.E q\/q=ev:=⟨_,rfl⟩;obtain⟨j,aR⟩:∃j,j=λq=>T.G q\/q=cb:=⟨_,rfl⟩;have aS:∀q,bM q->T.E q\/q=ev:=λq c=>by rw[aQ]at c;exact c
 have an:∀q,j q->T.G q\/q=cb:=λq c=>by rw[aR]at c;exact c
 have bs:∀q,T.E q->bM q:=λq c=>by rw[aQ];exact .inl c
 have ck:∀q,T.G q->j q:=λq c=>by rw[aR];exact .inl c
 have aV:bM ev:=by rw[aQ];exact .inr rfl
 have cl:j cb:=by rw[aR];exact .inr rfl
 have dg:=bq.lt;have dh:=br.lt;have bt:b8 B (T.cu bM j):=h.grow (W:=λ_=>False) bp (λ_ h=>h.elim) (λq c=>(aS q c).imp id λe=>.inr ⟨I,I⟩) (λq c=>.inr ((an q c).imp id λe=>⟨I,I⟩)) λq c hg=>by
  rcases aS q c with h1|h1<;>rcases an q hg with h2|h2
  .exact(h.dO q h1).2.2 h2
  .have:=h.lt (q:=q) (.inr (.inr (.inr (.inl h1))));omega
  .have:=h.lt (q:=q) (.inr (.inr (.inr (.inr h2))));omega
  .have:=R.lt;omega
 have bu:bO T (T.cu bM j) w B 0:=(bO.refl T w).step (W:=λ_=>False) bp (λ_ h=>h.elim) (λq c=>(aS q c).imp id λe=>.inr I) λq c=>(an q c).imp id λe=>by omega
 have cm:de B (T.cu bM j) ⟨cb,bH,bH,[],[]⟩:=⟨bt,br,aW.none _ _ _,aW.none _ _ _,cl,λq c=>(fZ q c).elim,λq c=>(fZ q c).elim,b0⟩;have cn:=b3 bM j B _ cm bu bi rfl rfl;obtain⟨bS,aU,a_,bd⟩:=bJ ci;refine⟨_,aN.cell,_,bS,K,aU,V,a_,D,bd,cn.use ?_⟩;rintro v F ⟨bW,u,m,l,bv,d,co⟩;have S:bW.E ev:=by rw[d.E];exact aV
 have ao:=bq.ah d.to.ah (bt.kJ aV);have cr:¬(T.cu bM j).N eW:=by
  have di:cb<eW:=by rw[bm,bo];omega
  rintro(c|c|c|c)
  .have:=h.lt (q:=eW) (.inl c);omega
  .have:=h.lt (q:=eW) (.inr (.inl c));omega
  .have:=h.lt (q:=eW) (.inr (.inr (.inl c)));omega
  .rcases an eW c with h1|h1
   .have:=h.lt (q:=eW) (.inr (.inr (.inr (.inr h1))));omega
   .omega
 have bw:=aN.ah d.to.ah cr;have ap:u.cb=cb:=d.cb;have dj:bW.bg=T.bg:=d.to.bg;have au:u.made=m:=d.made;have av:u.left=l:=d.left;have aY:eW≠ev:=by have:=R.lt;omega
 have bx:bO T bW w F 60:=(bu.trans d.to).mono I
 have fin:∀ (w':J) (ar:aK),b8 w' ar->bO T ar w w' 60->ar.E=bM->(∀q,T.G q->ar.G q)->b8 w' (ar.cu T.E T.G)/\bO T (ar.cu T.E T.G) w w' 60:=by
  intro w' ar hc ht bz bB;exact⟨hc.grow (W:=λ_=>False) (af.refl _ _) (λ_ h=>h.elim) (λq c=>.inl (by rw[bz];exact bs q c)) (λq c=>.inr (.inl (bB q c))) λq c=>(h.dO q c).2.2,
   ht.step (W:=λ_=>False) (af.refl _ _) (λ_ h=>h.elim) (λq c=>.inl (by rw[bz];exact bs q c)) λq c=>.inl (bB q c)⟩
 have bC:∀q,T.G q->bW.G q:=λq c=>d.G q (ck q c);have dk:=(ba).size;have aZ:∀ (w0:J) (ar:aK) (c':dv) (x:Int),de w0 ar c'->bO T ar w w0 60->ar.E ev->de (w0.setCell ev x) ar c'/\bO T ar w (w0.setCell ev x) 60:=λw0 ar c' x hc ht he=>
  ⟨hc.CT (dU w0 ev 0 _) λq e=>.inl (by rw[e];exact he),ht.step (E:=ar.E) (G:=ar.G) (dU w0 ev 0 _) (λq e a0=>I) (λq c=>.inl c) λq c=>.inl c⟩
 have dl:m.length<=1600:=by
  have:=d.room;have:cg (T.cu bM j)<=T.n:=by unfold cg;exact Nat.sub_le _ _
  omega
 have cs:(∃a b:Int,v=.tuple #[a,b,(3:Int)]/\¬T.C.D.calm 60)\/(∃ (root y:Nat) (pages:O Nat),v=.tuple #[root,y,(0:Int)]/\((y=0/\root=0/\pages=[]/\dG=[])\/eL bW.P y none none root pages dG)/\(pages++l).Perm (m++aO)/\y<=12/\m.length<=2*T.aL+3):=by
  rcases co with ⟨rfl,h1,h2,a1⟩|⟨root,y,pages,rfl,h1,h2,k,H,a1⟩|⟨a,b,rfl,a2⟩
  .exact .inr ⟨0,0,[],rfl,.inl ⟨rfl,rfl,rfl,h1⟩,h2,I,a1⟩
  .have H:y<=T.aL+1:=H
   exact .inr ⟨root,y,pages,rfl,.inr h1,h2,I,a1⟩
  .exact .inl ⟨a,b,rfl,a2⟩
 rcases cs with ⟨a,b,rfl,a2⟩|⟨root,o,pages,rfl,cv,bD,cw,dm⟩
 .
  obtain⟨aw,ay⟩:=eA ao (i:=0) (by simp);have z:=ez ao (i:=0) (3:Int);obtain⟨ax,az⟩:=aZ F bW u 3 bv bx S;have U:=bw.ah (dU F ev 0 (3:Int)) aY;refine⟨a,b,3,rfl,aw,ay,aX ⟨3,z.cell,λ_=>⟨3,z.cell,?_⟩,λhx=>(by cases hx)⟩⟩;obtain⟨cx,cz⟩:=eA z (i:=0) (by simp);have a3:=ez z (i:=0) (3:Int);obtain⟨bE,bF⟩:=aZ _ bW u 3 ax az S;have a4:=U.ah (dU _ ev 0 (3:Int)) aY;refine⟨cx,cz,aX (ae.A3 ev eW _ _ ?_)⟩;generalize dn:(F.setCell ev (3:Int)).setCell ev (3:Int)=bG at a3 bE a4 bF⊢;(delta ae.qt aF ak r1 gJ;dsimp only);have L:Ext bG bG.drew:=cG _;have p:=bE.ext L;have X:=CQ p p.ma.src (λq c=>(p.iz q c).1) (l:=u.made) (λx hx=>by rw[au]at hx;rw[d.f];simp[hx]) (by rw[au];exact d.b_) (by rw[au];omega);rw[ap]at X;have Z:=p.cells.2.1;rw[ap]at Z;refine⟨3,a3.cell,λ_=>aX ⟨id,_,a4.drew.cell,id,_,a4.drew.cell,_,rfl,id,u.ma,Z,X.use ?_⟩,λhx=>(by cases hx)⟩;rintro _ bI ⟨rfl,b1,A,hg⟩;rw[au]at hg;have cA:=(a3.ext L).ah hg.to.ah (p.t.kJ S);have cB:bO T b1 w bI 60:=((bF.trans (bO.ext bW L)).trans hg.to).mono I;obtain⟨f1,f2⟩:=fin bI b1 A.t cB (by rw[hg.E];exact d.E) λq c=>by rw[hg.G];exact bC q c
  refine⟨rfl,3,cA.cell,_,f1,f2,rfl,rfl,.inr (.inr ⟨rfl,a2,hg.root.trans d.root,hg.aL.trans d.aL,?_,λno aa=>?_⟩)⟩
  .funext no
   show b1.f no=T.f no;rw[hg.f,d.f];by_cases r:no∈m
   .have:=(d.jO no r).1
    have e:(T.cu bM j).f no=T.f no:=rfl;rw[e]at this⊢
    cases a5:T.f no
    .simp[r]
    .rw[a5]at this;cases this
   .simp[r];rfl
  .have r:no∉m:=λr=>by
    have:=(d.jO no r).1;have e:((T.cu bM j).f no||(T.cu bM j).g no)=(T.f no||T.g no):=rfl;rw[e,aa]at this;cases this
   have h1:=hg.ew no (.inl r);have h2:=d.ew no aa;exact⟨h1.1.trans h2.1,h1.2.trans h2.2⟩
 .
  have Q:∀x,pages.count x+l.count x=m.count x+aO.count x:=λx=>by
   have:=nM.1 bD x;simpa only[n1] using this
  have aB:∀x,m.count x+aO.count x<=1:=λx=>by
   have h1:=List.nodup_iff_count.1 d.b_ x;have h2:=List.nodup_iff_count.1 b2 x;rcases n0 (m.count x) with k|k
   .omega
   .rcases n0 (aO.count x) with H|H
    .omega
    .have r:=j1.1 k
     have cC:=j1.1 H;have:=(d.jO x r).1;have e:((T.cu bM j).f x||(T.cu bM j).g x)=(T.f x||T.g x):=rfl;rw[e,aE x cC]at this;cases this
  have hlen:pages.length+l.length=m.length+aO.length:=by
   have:=bD.length_eq;simpa only[cp] using this
  have cD:∀x∈l,bW.f x=true:=λx hx=>by
   have h1:=j1.2 hx;have h2:=Q x;rw[d.f];rcases n0 (m.count x) with k|k
   .have:x∈aO:=j1.1 I
    have e:(T.cu bM j).f x=T.f x:=rfl;rw[e,aE x this];rfl
   .have:x∈m:=j1.1 k
    simp[this]
  have cE:l.Nodup:=CX λx=>by have:=Q x;have:=aB x;omega
  obtain⟨aw,ay⟩:=eA ao (i:=0) (by simp);have z:=ez ao (i:=0) (0:Int);obtain⟨ax,az⟩:=aZ F bW u 0 bv bx S;have U:=bw.ah (dU F ev 0 (0:Int)) aY;refine⟨_,_,0,rfl,aw,ay,aX ⟨0,z.cell,λhx=>(by cases hx),λ_=>aX ?_⟩⟩;generalize dp:F.setCell ev (0:Int)=bK at z ax U az⊢;have L:Ext bK bK.drew:=cG _;have p:=ax.ext L;have X:=CQ p p.gu.src (λq c=>(p.kM q c).1) (l:=u.left) (λx hx=>cD x (by rw[av]at hx;exact hx)) (by rw[av];exact cE) (by rw[av];omega);rw[ap]at X;have Z:=p.cells.2.2;rw[ap]at Z;refine⟨id,_,U.drew.cell,id,_,U.drew.cell,_,rfl,id,u.gu,Z,X.use ?_⟩;rintro _ M ⟨rfl,b1,A,hg⟩;rw[av]at hg;have cF:=(z.ext L).ah hg.to.ah (p.t.kJ S);have bL:bO T b1 w M 60:=((az.trans (bO.ext bW L)).trans hg.to).mono I;have a7:b1.bg=T.bg:=bL.bg;have bN:b1.E=bM:=by rw[hg.E];exact d.E
  have cI:b1.E ev:=by rw[bN];exact aV
  have bP:Var M T.bg (lP b1) 243:=by rw[←a7];exact A.t.t
  obtain⟨b9,ct⟩:=eA bP (i:=3) (by simp[lP]);have bQ:=ez bP (i:=3) root;have cJ:=dU M T.bg 3 root;obtain⟨cK,cL⟩:=eA bQ (i:=4) (by simp[lP]);have bR:=ez bQ (i:=4) o;have cM:=dU (M.setCell ⟨T.bg,3,none⟩ root) T.bg 4 o;refine⟨rfl,_,rfl,by rw[aA];exact b9,by rw[aA];exact ct,aX ⟨_,rfl,by rw[aA,aA];exact cK,by rw[aA,aA];exact cL,aX ?_⟩⟩;rw[aA,aA,cR,cR];have a9:af (λq=>q=T.bg) M ((M.setCell ⟨T.bg,3,none⟩ root).setCell ⟨T.bg,4,none⟩ o):=cJ.trans cM;generalize dq:(M.setCell ⟨T.bg,3,none⟩ root).setCell ⟨T.bg,4,none⟩ o=aC at bR a9⊢;have cN:∀x∈pages,x∉l:=λx hx a0=>by
   have h1:=j1.2 hx;have h2:=j1.2 a0;have:=Q x;have:=aB x;omega
  have bT:(o=0/\root=0/\pages=[]/\dG=[])\/(eL b1.P o none none root pages dG/\root∈pages):=cv.imp id λcO=>cO.agree λx hx=>((hg.ew x (.inl (cN x hx))).1).symm;have cP:root<b1.n:=by
   rcases bT with ⟨_,h1,_⟩|⟨h1,_⟩
   .have:=A.t.s.cc;omega
   .obtain⟨b_,_,h2,_⟩:=h1.jf
    exact(A.t.eR _ _ h2).1
  have cQ:Var aC b1.bg (lP (b1.nN root o)) 243:=by rw[a7];exact bR
  obtain⟨cS,cT⟩:=A.t.Iu cQ (by rw[a7];exact a9) cP cw;have cU:ev≠T.bg:=λe=>by have:=h.lt (q:=T.bg) (.inr (.inl rfl));omega
  have bU:=cF.ah a9 cU;obtain⟨cV,cW⟩:=eA bU (i:=0) (by simp);have bV:=ez bU (i:=0) (0:Int);have bX:=dU aC ev 0 (0:Int);refine⟨cV,cW,aX (ae.A3 ev eW _ _ ?_)⟩;(delta ae.qt aF ak r1 gJ;dsimp only);refine⟨0,bV.cell,λhx=>(by cases hx),λ_=>⟨0,bV.cell,?_⟩⟩;have cX:b8 (aC.setCell ev (0:Int)) (b1.nN root o):=cS.grow (E:=b1.E) (G:=b1.G) bX (λq e _=>.inl (by rw[e];exact cI)) (λq c=>.inl c) (λq c=>.inr (.inl c)) λq c=>(A.t.dO q c).2.2;have cY:bO T (b1.nN root o) w (aC.setCell ev (0:Int)) 60:=((bL.trans cT).mono I).step (E:=b1.E) (G:=b1.G) bX (λq e a0=>I) (λq c=>.inl c) λq c=>.inl c;obtain⟨f1,f2⟩:=fin _ _ cX cY bN λq c=>by
   show b1.G q;rw[hg.G];exact bC q c
  refine⟨_,f1,f2,rfl,rfl,.inr (.inl ⟨rfl,bi,⟨pages,?_,?_,CX λx=>by have:=Q x;have:=aB x;omega,λno hx=>?_,λno=>?_⟩,λno aa=>?_⟩)⟩
  .have h1:cg bW+m.length=cg T:=d.room
   have h2:cg bW<=cg (b1.nN root o):=by
    show bW.n-_<=b1.n-eQ (λi=>b1.f i||b1.g i) b1.n;rw[hg.to.n];have:=CW (s:=λi=>b1.f i||b1.g i) (t:=λi=>bW.f i||bW.g i) (n:=bW.n) λi hi=>by
     rw[hg.f,hg.to.g]at hi;rw[iY,c7]at hi;rw[iY];exact hi.imp And.left id
    omega
   show cg T<=cg (b1.nN root o)+_;omega
  .rcases bT with ⟨h1,h2,k,H⟩|⟨h1,_⟩
   .exact .inl ⟨h1,h2,k,H⟩
   .exact .inr h1
  .have h1:=j1.2 hx
   have h2:=Q no;rcases n0 (aO.count no) with k|k
   .have r:no∈m:=j1.1 I
    exact .inr (d.jO no r).1
   .exact .inl (j1.1 k)
  .show b1.f no=true↔_
   rw[hg.f,d.f];have e:(T.cu bM j).f no=T.f no:=rfl;rw[e];have dr:=Q no;have A:=aB no;have bZ:no∈m↔0<m.count no:=j1.symm;have ab:no∈aO↔0<aO.count no:=j1.symm;have cZ:no∈l↔0<l.count no:=j1.symm;have c0:no∈pages↔0<pages.count no:=j1.symm;have c1:0<aO.count no->T.f no=true:=λh=>aE no (ab.2 h);have c2:0<m.count no->T.f no=false:=λh=>by
    have:=(d.jO no (bZ.2 h)).1;have e:((T.cu bM j).f no||(T.cu bM j).g no)=(T.f no||T.g no):=rfl;rw[e]at this
    cases a5:T.f no
    .rfl
    .rw[a5]at this;cases this
   rw[c7,iY,cq,iE,jU,bZ,ab,cZ,c0];constructor
   .rintro⟨h1|h1,h2⟩
    .by_cases k:0<aO.count no
     .left;omega
     .exact .inr ⟨h1,k⟩
    .left;omega
   .rintro(h1|⟨h1,h2⟩)
    .refine⟨?_,I⟩
     by_cases k:0<aO.count no
     .exact .inl (c1 k)
     .right;omega
    .refine⟨.inl h1,λk=>?_⟩
     have:0<m.count no:=by omega
     rw[c2 this]at h1;cases h1
  .have c3:(T.f no||T.g no)=true:=by rw[aa];simp
   have c4:bW.g no=true:=by rw[d.to.g];exact aa
   have h1:=hg.ew no (.inr c4);have h2:=d.ew no c3;exact⟨h1.1.trans h2.1,h1.2.trans h2.2⟩
theorem CY{ks:O Key}{k:Key}{i:Nat}(hs:ks.Pairwise bo)(h1:cF ks k<=i)(hi:i<ks.length)(d:ks[cF ks k]? ≠some k):bo k ks[i]:=by
 rcases o1.1 (qK hs h1 hi) with h2|h2
 .exact h2
 .exfalso
  rcases ec (cF ks k) i with a|a
  .have b:cF ks k<ks.length:=by omega
   have f:=qK hs (bl _) b;have c:=lv.1 hs _ _ b hi a;rw[←h2]at c;exact f c
  .have e:i=cF ks k:=by omega
   apply d;subst e;rw[dC hi,←h2]
theorem y7{n:aD}(h:gN n){i:Nat}(hi:i<=n.keys.length):∃a b c d:O Key,n.keys=a++b/\n.vals=c++d/\a.length=i/\c.length=i/\b.length=d.length/\n.keys.take i=a/\n.keys.drop i=b/\n.vals.take i=c/\n.vals.drop i=d:=by
 have e:=h.len;refine⟨n.keys.take i,n.keys.drop i,n.vals.take i,n.vals.drop i,(fI i _).symm,(fI i _).symm,?_,?_,?_,rfl,rfl,rfl,rfl⟩
 .rw[cI];omega
 .rw[cI];omega
 .rw[ed,ed];omega
def kn(k v:Key):Nat:=2+k.length+v.length
theorem q4{n:aD}(h:n.leaf=true):bz n=1+(List.zipWith kn n.keys n.vals).sum:=by
 unfold bz;rw[if_pos h,k_ h];rfl
theorem Iw{n:aD}{k v:Key}(h:gN n)(B:cv k)(C:v.length<=24):gN (gV n k v)/\(gV n k v).dy=gm n.dy k v/\bz (gV n k v)<=bz n+50/\(gV n k v).keys≠ []/\n.keys.length<=(gV n k v).keys.length/\(∀s∈(gV n k v).keys,s=k\/s∈n.keys):=by
 have hlen:=h.len;have D:=qJ n.keys k;have J:n.dy=n.keys.zip n.vals:=rfl;have E:=h.eU;have F:∀ (j:Nat) (m:j<n.keys.length),j<cF n.keys k->bo n.keys[j] k:=λj m h1=>o3 h1 m;have G:n.keys[cF n.keys k]? ≠some k->∀ (j:Nat) (m:j<n.keys.length),cF n.keys k<=j->bo k n.keys[j]:=λhe j m h1=>CY E h1 m he;rw[J,Gp h.eU];unfold gV gU;generalize hi:cF n.keys k=i at D F G⊢;obtain⟨a,b,c,d,g,t,K,L,M,p,q,w,A⟩:=y7 h D;have f:n.keys.zip n.vals=a.zip c++b.zip d:=by rw[g,t];exact o2 I
 have u:(a.zip c).length=i:=by rw[nU];omega
 by_cases he:n.keys[i]? =some k
 .rw[if_pos (by simpa using he),if_pos he]
  have N:∃o,b=k::o:=by
   cases b with
   |nil=>rw[g,iH I]at he;simp at he
   |cons y o=>
    rw[g,iH I,K,nQ]at he;simp at he;exact⟨o,by rw[he]⟩
  obtain⟨o,rfl⟩:=N;obtain⟨x,l,rfl⟩:∃x l,d=x::l:=by
   cases d with
   |nil=>simp at M
   |cons x l=>exact⟨x,l,rfl⟩
  have H:n.vals.set i v=c++v::l:=by
   rw[t,s7 _ _ I,L,nQ];rfl
  refine⟨⟨⟨h.ok,h.eU⟩,h.leaf,by simp[hlen],h.kids,λz f=>?_⟩,?_,?_,λe=>by have e:n.keys=[]:=e;rw[e]at g;simp at g,bl _,λs hs=>.inr hs⟩
  .rcases mX f with h1|h1
   .exact h.vals z h1
   .rw[h1];exact C
  .show n.keys.zip (n.vals.set i v)=_
   rw[H,f,g,o2 I,mw u];have O:(a.zip c++(k::o).zip (x::l)).drop (i+1)=o.zip l:=by
    rw[List.zip_cons_cons,show a.zip c++(k,x)::o.zip l=(a.zip c++ [(k,x)])++o.zip l by simp];exact drop_left' (by simp only[cp,u,iG])
   rw[O];rfl
  .rw[q4 h.leaf,q4 (n:={n with vals:=n.vals.set i v}) h.leaf]
   show 1+(List.zipWith kn n.keys (n.vals.set i v)).sum<=_;rw[H,g,t,pF I,pF I,lu,lu,List.zipWith_cons_cons,List.zipWith_cons_cons,rl,rl];unfold kn;omega
 .rw[if_neg (by simpa using he),if_neg he]
  have P:=G he;refine⟨⟨⟨λz f=>?_,?_⟩,h.leaf,?_,h.kids,λz f=>?_⟩,?_,?_,λe=>?_,?_,λs hs=>?_⟩
  .have f:z∈n.keys.take i++ [k]++n.keys.drop i:=f
   simp only[cK,fb]at f;rcases f with (f|rfl)|f
   .exact h.ok z (fK f)
   .exact B
   .exact h.ok z (fH f)
  .show(n.keys.take i++ [k]++n.keys.drop i).Pairwise bo
   rw[p,q];have Q:(a++b).Pairwise bo:=by rw[←g];exact E
   obtain⟨aw,ay,R⟩:=l2.1 Q;have S:∀x∈a,bo x k:=λx hx=>by
    obtain⟨j,m,rfl⟩:=fj hx;have:=F j (by rw[g,cp];omega) I;simp only[g,nX m]at this;exact this
   have T:∀y∈b,bo k y:=λy r=>by
    obtain⟨j,m,rfl⟩:=fj r;have:=P (i+j) (by rw[g,cp];omega) I;have e:(a++b)[i+j]'(by rw[cp];omega)=b[j]:=by
     rw[pD I];congr 1;omega
    simp only[g,e]at this;exact this
   rw[cz];refine l2.2 ⟨aw,?_,λx hx y r=>?_⟩
   .exact jw.2 ⟨T,ay⟩
   .rcases cX.1 r with rfl|r
    .exact S x hx
    .exact R x hx y r
  .show(n.vals.take i++ [v]++n.vals.drop i).length=(n.keys.take i++ [k]++n.keys.drop i).length
   rw[p,q,w,A];simp only[cp,iG];omega
  .have f:z∈n.vals.take i++ [v]++n.vals.drop i:=f
   simp only[cK,fb]at f;rcases f with (f|rfl)|f
   .exact h.vals z (fK f)
   .exact C
   .exact h.vals z (fH f)
  .show(n.keys.take i++ [k]++n.keys.drop i).zip (n.vals.take i++ [v]++n.vals.drop i)=_
   rw[p,q,w,A,f,mw u,drop_left' u,cz,cz,o2 I];rfl
  .rw[q4 h.leaf,q4 (n:={n with keys:=n.keys.take i++ [k]++n.keys.drop i,vals:=n.vals.take i++ [v]++n.vals.drop i}) h.leaf]
   show 1+(List.zipWith kn (n.keys.take i++ [k]++n.keys.drop i) (n.vals.take i++ [v]++n.vals.drop i)).sum<=_;have aw:(List.zipWith kn (a++ [k]++b) (c++ [v]++d)).sum=(List.zipWith kn a c).sum+(kn k v+(List.zipWith kn b d).sum):=by
    rw[cz,cz,pF I,lu];rfl
   have ay:(List.zipWith kn (a++b) (c++d)).sum=(List.zipWith kn a c).sum+(List.zipWith kn b d).sum:=by
    rw[pF I,lu]
   rw[p,q,w,A,g,t,aw,ay];have:=B.2;unfold kn;omega
  .have e:n.keys.take i++ [k]++n.keys.drop i=[]:=e
   simp at e
  .show n.keys.length<=(n.keys.take i++ [k]++n.keys.drop i).length
   rw[p,q,g];simp only[cp,iG];omega
  .have hs:s∈n.keys.take i++ [k]++n.keys.drop i:=hs
   simp only[cK,fb]at hs;rcases hs with (hs|rfl)|hs
   .exact .inr (fK hs)
   .exact .inl rfl
   .exact .inr (fH hs)
end Go.Proofs.YtcmgnhkpfllinaaGreat
