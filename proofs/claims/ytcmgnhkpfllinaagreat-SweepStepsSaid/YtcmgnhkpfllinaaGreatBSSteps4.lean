/- Contracts of the functions that the statement reaches, and the plain laws over them; each theorem stands with its conditions. -/
import Derived.Laws.Small
import Derived.Test.YtcmgnhkpfllinaaGreatBSSteps3
namespace Go.Proofs.YtcmgnhkpfllinaaGreat
open Go aQ Go.Proofs.Tryz
theorem CW{h:Nat}{n:aD}(a:n.leaf=decide (h=0)):((((h+1:Nat):Int):Int)==1)=n.leaf:=by
 rw[a,e0,j4,cg];omega
theorem za{w:J}{T:aK}{tk:ad}{k:Key}{steps:O (Nat×aD×Nat)}(h:b_ w T)(cl:T.C.D.a7<=900000000)(bw:Src 1 w tk (az k))(bx:∀q,aB tk q->q<w.heap.size/\¬T.M q)(bz:nQ T.P k T.aL T.root steps):
 aI aj 123 #[.pointer (some T.bh),tk] w (Iw T steps w):=by
 have cm:=h.num.2.1;refine okF (ae.u5 (some T.bh) tk) ax.u5 func123 ?_;(delta ae.u5 aG ak lg z5 Y aV r1 bP st aO aq;dsimp only);refine⟨_,rfl,_,h.cells.2.2.2.1,_,rfl,_,h.cells.2.2.2.2,λs n8 n9 w'=>∃ (eM no:Nat) (l:O dy) (rest:O (Nat×aD×Nat)) (bO:Nat->Prop) (aJ:b4),n9=(eM:Nat)/\n8=(no:Nat)/\nQ T.P k eM no rest/\l.map dy.st++rest=steps/\l.length+eM=T.aL/\
  bO=(λq=>T.E q\/aB s q)/\(∀q,aB s q->w.heap.size<=q)/\b_ w' ((T.cy bO T.G).bA aJ T.P)/\bS T ((T.cy bO T.G).bA aJ T.P) w w' (2*l.length)/\(∀j,aJ.view j=T.C.view j)/\aT 6 223 w' s (bn dy.c l)/\
  ∀x∈l,bT (λq=>w.heap.size<=q/\¬((T.cy bO T.G).bA aJ T.P).M q) w' x.n x.K x.V x.D,λ_ _ n9 _=>n9.toNat,?_,?_⟩
 .have bC:T.E=λq=>T.E q\/aB ⟨none,0,0⟩ q:=by
   funext q;refine propext ⟨.inl,λh=>h.resolve_right ?_⟩;rintro⟨A,ar,_⟩
   cases ar
  have aZ:(T.cy T.E T.G).bA T.C T.P=T:=rfl;refine⟨T.aL,T.root,[],steps,T.E,T.C,rfl,rfl,bz,rfl,by simp,bC,?_,by rw[aZ];exact h,by rw[aZ];exact .refl _ _,λ_=>rfl,?_,λx hx=>(by cases hx)⟩
  .rintro q ⟨A,ar,_⟩
   cases ar
  .exact⟨rfl,bk _,by decide,.inl ⟨rfl,rfl⟩⟩
 have fin:∀ {w':J}{bO:Nat->Prop}{aJ:b4}{s:ad}{k:Nat},b_ w' ((T.cy bO T.G).bA aJ T.P)->bS T ((T.cy bO T.G).bA aJ T.P) w w' k->bO=(λq=>T.E q\/aB s q)->(∀q,aB s q->w.heap.size<=q)->b_ w' (T.bA aJ T.P)/\bS T (T.bA aJ T.P) w w' k:=by
  intro w' bO aJ s k h1 h2 g z;have F:∀q,T.E q->bO q:=λq a=>by rw[g];exact .inl a
  exact⟨h1.grow (W:=λ_=>False) (E:=T.E) (G:=T.G) (af.refl _ _) (λ_ h=>h.elim) (λq a=>.inl (F q a)) (λq a=>.inr (.inl a)) λq a=>(h.dV q a).2.2,
   h2.step (W:=λ_=>False) (af.refl _ _) (λ_ h=>h.elim) (λq a=>.inl (F q a)) λq a=>.inl a⟩
 rintro s _ _ co ⟨eM,no,l,rest,bO,aa,rfl,rfl,a0,a6,hlen,H,L,t,R,f,ap,eo⟩;have cp:=R.ah.size;refine⟨λaH=>?_,λbD=>?_⟩
 .obtain⟨o,rfl⟩:∃bE,eM=bE+1:=⟨eM-1,by have:(eM:Int)>0:=cj aH;omega⟩
  obtain⟨n,bF,bG,a9,rfl,bb⟩:=a0;obtain⟨bH,S⟩:=t.eV no n bG;have bJ:aa.D.a7<=999999999:=by
   have:aa.D.a7<=T.C.D.a7+2*l.length:=R.a7;omega
  refine(y_ t bJ bH S.two _).use ?_;rintro _ r ⟨B,h2,ab,bc,bd⟩;have au:=R.trans ab;have cq:=ab.ah.size;rw[CW a9]at bd;rcases bd with ⟨bB,K,V,D,rfl,bL,av⟩|⟨e,rfl,bM,bN⟩
  .obtain rfl:=gY.uniq S bL
   obtain⟨_,aC,cr⟩:=S.is;have bQ:=aC.eY;have cs:=vR aC;refine⟨n.leaf,K,V,D,0,rfl,ba (vs:=[false,(),(),()]) rfl λbR U aE bV=>?_⟩;refine⟨U.cn rfl ?_,rfl,cT U (us:=[n.leaf,K,V,D]) rfl rfl λac aF aM bW=>⟨λd=>(by cases d),λ_=>?_⟩⟩
   .intro v f
    simp only[c0,fw,fD]at f;rcases f with rfl|rfl|rfl|rfl<;>trivial
   have be:Ext r ac:=Ext.cC aE aM (bk _);have ct:=be.size;obtain⟨bU,aW,a8,bg⟩:=bK aF;refine⟨_,bU,K,aW,V,a8,D,bg,#[no,n.leaf,K,V,D,(0:Int)],by kernel_rfl,?_⟩;refine ba (vs:=[(0:Int),false,(),(),(),(0:Int)]) rfl λcu bf bi cw=>?_;refine⟨bf.cn rfl ?_,rfl,cT bf (us:=[no,n.leaf,K,V,D,(0:Int)]) rfl rfl λaN aP bj cz=>?_⟩
   .intro v f
    simp only[c0,fw,fD]at f;rcases f with rfl|rfl|rfl|rfl|rfl|rfl<;>trivial
   have ag:Ext r aN:=Ext.cC (be.trans bi) bj I;have aQ:Var aN r.heap.size [n.leaf,K,V,D] 169:=(aF.ext bi).ah bj I;obtain⟨sb,bX⟩:∃sb,sb=ac.heap.size:=⟨_,rfl⟩;obtain⟨nb,bY⟩:∃nb,nb=r.heap.size:=⟨_,rfl⟩;rw[←bX]at aP⊢;rw[←bY]at aQ⊢;have bZ:=av.ext ag;refine cx (λn40 u=>n40=(((if o=0 then no else n.kids.getD (df n.keys k) 0:Nat)):Int)/\Ext r u/\Var u sb (dy.c ⟨no,n,if o=0 then 0 else df n.keys k,K,V,D⟩) 223) (λq a=>⟨λai=>?_,λai=>?_⟩) ?_
   .have N:o≠0:=by
     have:((o+1:Nat):Int)>1:=cj ai;omega
    have b0:n.leaf=false:=by rw[a9];simp[N]
    have cA:=aC.wc b0;have cB:=vM n.keys k;obtain⟨bU,aW,a8,bg⟩:=bK aQ;have b1:Src 1 aN tk (az k):=(bw.ah au.ah λq a b2=>(bx q a).2 (aK.gN b2)).ext ag;refine⟨_,bU,K,aW,V,a8,D,bg,(oM bZ b1 bQ I).use ?_⟩;rintro _ bl ⟨rfl,aR⟩;have bm:=aP.ext aR;obtain⟨aw,ay⟩:=eF bm (i:=5) (by simp);rw[aA];refine⟨_,rfl,aw,ay,aX ?_⟩;have bo:=ed bl sb 5 (.int .i64 ((df n.keys k:Nat):Int));have bp:=eE bm (i:=5) (.int .i64 ((df n.keys k:Nat):Int));have br:Ext r (bl.setCell ⟨sb,5,none⟩ (.int .i64 ((df n.keys k:Nat):Int))):=Ext.cC (ag.trans aR) bo I;have b3:=(aQ.ext aR).ah bo I;obtain⟨d0,d1,d2,d3⟩:=bK b3;obtain⟨A,ar,d,b5⟩:=c2.at (av.ext br).kids (i:=df n.keys k) I;refine⟨D,d3,_,bp.cell,A,ar,d,_,b5,a _ _ ⟨?_,br,?_⟩⟩
    .rw[if_neg N,fQ,dI I];rfl
    .rw[if_neg N]
     exact bp
   .have N:o=0:=by
     have:¬((o+1:Nat):Int)>1:=cE ai;omega
    refine a _ _ ⟨by rw[if_pos N],ag,?_⟩;rw[if_pos N];exact aP
   rintro _ u ⟨rfl,bs,b6⟩;have cG:=bs.size;refine⟨_,b6.rd rfl,⟨some u.heap.size,1,1⟩,_,Ix _ _ rfl,?_⟩;have aS:=c4 u (.cells (dy.c ⟨no,n,if o=0 then 0 else df n.keys k,K,V,D⟩).toArray 223);have Q:=bs.trans aS;have b7:=Q.size;have b8:=aS.size;have b9:=ap.1;rw[fe _ (nP l)]at b9;have X:∀q,aB s q->bO q:=λq a=>by rw[H];exact .inr a
   have cb:aT 6 223 r s (bn dy.c l):=ap.ah ab.ah λq a b=>t.kO (X q a) b;obtain⟨x,aU⟩:∃x:dy,x=⟨no,n,if o=0 then 0 else df n.keys k,K,V,D⟩:=⟨_,rfl⟩;rw[←aU]at aS Q b7 b8⊢;have cc:∀v∈dy.c x,Plain v:=by
    intro v f;unfold dy.c at f;simp only[c0,fw,fD]at f;rcases f with rfl|rfl|rfl|rfl|rfl|rfl<;>trivial
   obtain⟨al,am,a1,a2,a3,a4,a5⟩:=Iy.append (cF:=219) (x:=⟨some u.heap.size,1,1⟩) (Src.new (T:=223) u (dy.c x) 1 rfl) (cb.ext Q) cc (by show(2*(s.len+1)+1000)*96<=_;omega);have cH:=a4.size;have aY:∀q,aB al q->w.heap.size<=q:=λq a=>by
    rcases a5 q a with h1|h1
    .exact L q h1
    .omega
   obtain⟨ku,bt⟩:∃ku,ku=λq=>T.E q\/aB al q:=⟨_,rfl⟩;have an:∀q,ku q->T.E q\/aB al q:=λq a=>by rw[bt]at a;exact a
   have F:∀q,T.E q->bO q:=λq a=>by rw[H];exact .inl a
   have ce:bn dy.c (l++ [x])=bn dy.c l++dy.c x:=by rw[lu];simp[bn]
   have cf:b_ am ((T.cy ku T.G).bA B T.P):=by
    refine(h2.ext Q).grow (E:=ku) (G:=T.G) a4 (λq a _=>.inl (X q a)) (λq a=>?_) (λq a=>.inr (.inl a)) λq a hg=>?_
    .rcases an q a with h1|h1
     .exact .inl (F q h1)
     .rcases a5 q h1 with g|g
      .exact .inl (X q g)
      .exact .inr (.inr ⟨g,aT.lt a2 q h1⟩)
    .rcases an q a with h1|h1
     .exact(h.dV q h1).2.2 hg
     .have g:=h.lt (q:=q) (.inr (.inr (.inr (.inr hg))))
      have:=aY q h1;omega
   have cg:bS T ((T.cy ku T.G).bA B T.P) w am (2*(l++ [x]).length):=by
    have h1:=(au.trans (bS.ext _ Q)).mono (l:=2*(l++ [x]).length) (by rw[cv,iN];omega);refine h1.step (E:=ku) (G:=T.G) a4 (λq a ai=>by have:=L q a;omega) (λq a=>?_) λq a=>.inl a;rcases an q a with h1|h1
    .exact .inl (F q h1)
    .exact .inr (.inr (aY q h1))
   have bu:∀ {m:aD}{K V D:ad},bT (λq=>w.heap.size<=q/\¬((T.cy bO T.G).bA B T.P).M q) r m K V D->bT (λq=>w.heap.size<=q/\¬((T.cy ku T.G).bA B T.P).M q) am m K V D:=λ{m K V D} b=>by
    have h1:=(b.ext Q).a_ (C:=λq=>q<(u.alloc (.cells (dy.c x).toArray 223)).heap.size/\w.heap.size<=q/\¬((T.cy bO T.G).bA B T.P).M q) λq a d=>⟨a,d⟩;refine(bT.ah h1 a4 λq a ch=>a.2.2 (.inr (.inr (.inr (.inl (X q ch)))))).a_ λq _ d=>⟨d.2.1,λb=>d.2.2 ?_⟩;rcases b with b|b|b|b|b
    .exact .inl b
    .exact .inr (.inl b)
    .exact .inr (.inr (.inl b))
    .refine .inr (.inr (.inr (.inl ?_)))
     show bO q;rcases an q b with g|g
     .exact F q g
     .rcases a5 q g with z|z
      .exact X q z
      .have:=d.1;omega
    .exact .inr (.inr (.inr (.inr b)))
   have bv:IntKind.wrap .i64 (((o+1:Nat):Int)-1)=(o:Nat):=by rw[bq I I];omega
   refine⟨al,am,a1,⟨o,_,l++ [x],bF,ku,B,bv,rfl,?_,?_,by rw[cv,iN];omega,bt,aY,cf,cg,λj=>(bc j).trans (f j),by rw[ce];exact a2,?_⟩,?_⟩
   .cases o with
    |zero=>exact bb
    |succ m=>rw[if_neg I];exact bb
   .rw[←a6,fP,cD,aU];rfl
   .intro y Z
    rcases cO.1 Z with Z|Z
    .exact bu (ab.cd (eo y Z))
    .obtain rfl:=fj.1 Z
     subst aU;exact bu (av.a_ λq _ d=>⟨by have:=d.1;omega,d.2⟩)
   .rw[bv]
    show(o:Int).toNat<(((o+1:Nat):Int)).toNat;omega
  .refine⟨false,bI,bI,bI,e,rfl,ba (vs:=[false,(),(),()]) rfl λbR U aE bV=>?_⟩
   refine⟨U.cn rfl ?_,rfl,cT U (us:=[false,(),(),()]) rfl rfl λac aF aM bW=>⟨λ_=>?_,λd=>?_⟩⟩
   .intro v f
    simp only[c0,fw,fD]at f;rcases f with rfl|rfl|rfl|rfl<;>trivial
   .have hx:Ext r ac:=Ext.cC aE aM (bk _)
    have he:e=3/\¬aa.D.calm 2:=by
     rcases bM with h1|h1|⟨_,_,h1⟩
     .exact h1
     .obtain⟨p,aw,_⟩:=S
      rw[aw]at h1;cases h1
     .exact absurd S (h1 n)
    obtain⟨rfl,ci⟩:=he;obtain⟨g,z⟩:=fin (k:=2*T.aL) (h2.ext hx) ((au.trans (bS.ext _ hx)).mono I) H L;exact⟨B,g,z,λj=>(bc j).trans (f j),.inr ⟨rfl,λhc=>ci (R.calm 2 (gm hc I))⟩⟩
   .simp at d;exact absurd d bN
 .have h0:eM=0:=by
   have:¬(eM:Int)>0:=cE bD;omega
  subst h0;have ck:rest=[]:=a0;subst ck;obtain⟨g,z⟩:=fin (k:=2*T.aL) t (R.mono I) H L;refine⟨aa,g,z,f,.inl ⟨s,l,rfl,by rw[←a6,fu],ap,λq a=>⟨L q a,λb=>?_⟩,λx hx=>?_⟩⟩
  .have cI:=L q a
   have ao:bO q:=by rw[H];exact .inr a
   rcases b with b|b|b|b|b
   .exact(t.ca.inv.fh q (.inr (.inr (.inl ao)))).2 b
   .exact(t.dV q ao).1 b
   .exact(t.dV q ao).2.1 b
   .have:=h.lt (q:=q) (.inr (.inr (.inr (.inl b))));omega
   .exact(t.dV q ao).2.2 b
  .refine(eo x hx).a_ λq _ d=>⟨d.1,λb=>d.2 ?_⟩
   rcases b with b|b|b|b|b
   .exact .inl b
   .exact .inr (.inl b)
   .exact .inr (.inr (.inl b))
   .refine .inr (.inr (.inr (.inl ?_)))
    show bO q;rw[H];exact .inl b
   .exact .inr (.inr (.inr (.inr b)))
def aK.jw(T:aK)(f:Nat->al):aK:={T with f:=f}
structure dA where
 cb:Nat
 ma:ad
 gG:ad
 made:O Nat
 left:O Nat
structure dj(w:J)(T:aK)(c:dA):Prop where
 t:b_ w T
 v:Var w c.cb [.pointer (some T.bh),c.ma,c.gG] 284
 ma:aT 1 3 w c.ma (fW c.made)
 gG:aT 1 3 w c.gG (fW c.left)
 gc:T.G c.cb
 iE:∀q,aB c.ma q->T.G q/\q≠c.cb/\¬aB c.gG q
 kR:∀q,aB c.gG q->T.G q/\q≠c.cb
 ns:¬T.C.D.ro
theorem CX{w:J}{s:ad}{ds:O Nat}(d:Nat)(b:aT 1 3 w s (fW ds))(i:ds.length<=1000000):
 ∃ (a:ad) (w':J),Sem.run aj (Builtin.append_ #[72,72] 72 #[s,.slice (some w.heap.size) 1 1]) (w.alloc (.cells #[d] 3))=.ok a w'/\
  aT 1 3 w' a (fW (ds++ [d]))/\af (aB s) w w'/\(∀k,aB a k->aB s k\/w.heap.size<=k)/\af (aB s) (w.alloc (.cells #[d] 3)) w':=by
 have j:s.len=ds.length:=by have:=b.1;rw[qP]at this;omega
 have hc:Ext w (w.alloc (.cells #[d] 3)):=c4 _ _;have l:(w.alloc (.cells #[d] 3)).heap.size=w.heap.size+1:=pd _ _;obtain⟨a,w',h1,h2,m,c,e⟩:=sF.append (cF:=72) (x:=⟨some w.heap.size,1,1⟩) (Src.new (T:=3) w [d] 1 rfl) (b.ext hc) (λv f=>by rw[fj.1 f];trivial) (by show(2*(s.len+1)+1000)*8<=_;omega);exact⟨a,w',h1,by simpa[fW] using h2,(af.cX hc).trans c,λk g=>(e k g).imp id (λh=>I),c⟩
section
variable {w w':J}{T au:aK}{c:dA}
theorem dj.of{W:Nat->Prop}(h:dj w T c)(d:b_ w' au)(hc:af W w w')(cA:∀q,T.G q->¬W q)(f:au.bh=T.bh)(b:∀q,T.G q->au.G q)(g:au.C.D.b9=T.C.D.b9:=by rfl):dj w' au c:=
 ⟨d,by rw[f];exact h.v.ah hc (cA _ h.gc),h.ma.ah hc λq a=>cA q (h.iE q a).1,h.gG.ah hc λq a=>cA q (h.kR q a).1,b _ h.gc,λq a=>⟨b q (h.iE q a).1,(h.iE q a).2⟩,λq a=>⟨b q (h.kR q a).1,(h.kR q a).2⟩,λe=>h.ns λi=>g▸e i⟩
theorem dj.ext(h:dj w T c)(hx:Ext w w'):dj w' T c:=h.of (h.t.ext hx) hx (λ_ _ h=>h) rfl λ_ h=>h
theorem dj.cells(h:dj w T c):w.cell? c.cb=some (.pointer (some T.bh))/\w.cell? (Addr.add c.cb 1)=some (.slice c.ma.a c.ma.len c.ma.cap)/\w.cell? (Addr.add c.cb 2)=some (.slice c.gG.a c.gG.len c.gG.cap):=by
 rw[aA,aA];exact⟨h.v.cell,h.v.cell,h.v.cell⟩
theorem b_.wB(h:b_ w T){q:Nat}(a:T.G q):¬da T.C q:=λhf=>(h.ca.inv.fh q (.inr (.inr (.inr a)))).2 hf
theorem b_.wC{f:Nat->al}(h:b_ w T)(hs:fp w' T.sb T.n f T.g T.s1 T.s2)(hc:af (gM T.sb T.s1 T.s2) w w'):b_ w' (T.jw f)/\bS T (T.jw f) w w' 0:=
 ⟨⟨h.t.ah hc h.kt,hs,h.ca.ah hc λq a=>.inr (.inl a),h.kt,h.dV,h.jv,h.n,h.num,h.eV,h.b9,h.low⟩,
  ⟨rfl,rfl,rfl,rfl,rfl,rfl,rfl,rfl,rfl,rfl,bk _,λ_ h=>h,hc.mono λq _ a=>.inr (.inr (.inl a)),λq h=>.inl h,λq h=>.inl h⟩⟩
theorem Iz(h:dj w T c)(no:Nat)(x:c.made.length<=100000):
 ∃ (b:ad) (ai:J),Sem.run aj (Builtin.append_ #[72,72] 72 #[c.ma,.slice (some w.heap.size) 1 1]) (w.alloc (.cells #[no] 3))=.ok b ai/\
  af (aB c.ma) (w.alloc (.cells #[no] 3)) ai/\(∃u:aa,ai.cell? ⟨c.cb,1,none⟩=some u)/\ai.frozen? ⟨c.cb,1,none⟩=false/\
  ∀j,j=ai.setCell ⟨c.cb,1,none⟩ b->dj j (T.cy T.E λq=>T.G q\/aB b q) {c with ma:=b,made:=c.made++ [no]}/\bS T (T.cy T.E λq=>T.G q\/aB b q) w j 0:=by
 obtain⟨b,ai,aw,ay,d,f,o⟩:=CX no h.ma I;have cA:∀q,aB c.ma q->T.G q:=λq a=>(h.iE q a).1;have y:=d.size;have l:=h.v.ah d λa=>(h.iE _ a).2.1 rfl;obtain⟨b5,cp⟩:=eF l (i:=1) (by simp);refine⟨b,ai,aw,o,b5,cp,?_⟩;rintro _ rfl;have g:=ed ai c.cb 1 b;have p:=eE l (i:=1) b;have k:af T.G w (ai.setCell ⟨c.cb,1,none⟩ b):=c5 (d.mono λq _ a=>cA q a) g λq _ e=>by rw[e];exact h.gc
 have z:=k.size;have aH:∀q,aB b q->q<ai.heap.size:=λq a=>aT.lt ay q a;have m:∀q,aB b q->T.G q\/(w.heap.size<=q/\q<(ai.setCell ⟨c.cb,1,none⟩ b).heap.size):=λq a=>by
  rcases f q a with h1|h1
  .exact .inl (cA q h1)
  .exact .inr ⟨h1,by have:=aH q a;have:=g.size;omega⟩
 have n:∀q,aB b q->q≠c.cb:=λq a e=>by
  rcases f q a with h1|h1
  .exact(h.iE q h1).2.1 e
  .have:=h.v.lt;omega
 have r:∀q,aB b q->¬aB c.gG q:=λq a e=>by
  rcases f q a with h1|h1
  .exact(h.iE q h1).2.2 e
  .have:=aT.lt h.gG q e;omega
 have s:=h.t.grow (E:=T.E) (G:=λq=>T.G q\/aB b q) k (λq a _=>.inr a) (λq a=>.inl a) (λq a=>by
  rcases a with a|a
  .exact .inr (.inl a)
  .exact .inr (m q a)) λq a hg=>by
  rcases hg with hg|hg
  .exact(h.t.dV q a).2.2 hg
  .rcases f q hg with h1|h1
   .exact(h.t.dV q a).2.2 (cA q h1)
   .have:=h.t.lt (q:=q) (.inr (.inr (.inr (.inl a))));omega
 refine⟨⟨s,p,?_,(h.gG.ah d λq a e=>(h.iE q e).2.2 a).ah g λq a e=>(h.kR q a).2 e,.inl h.gc,λq a=>⟨.inr a,n q a,r q a⟩,λq a=>⟨.inl (h.kR q a).1,(h.kR q a).2⟩,h.ns⟩,?_⟩
 .have:aT 1 3 ai b (fW (c.made++ [no])):=ay
  exact this.ah g λq a e=>n q a e
 .have h0:bS T T w w 0:=.refl _ _
  exact h0.step k (λq a _=>.inr (.inr (.inr a))) (λq a=>.inl a) λq a=>by
   rcases a with a|a
   .exact .inl a
   .exact(m q a).imp id λe=>e.1
theorem CY(h:dj w T c)(no:Nat)(x:c.left.length<=100000):
 ∃ (b:ad) (ai:J),Sem.run aj (Builtin.append_ #[72,72] 72 #[c.gG,.slice (some w.heap.size) 1 1]) (w.alloc (.cells #[no] 3))=.ok b ai/\
  af (aB c.gG) (w.alloc (.cells #[no] 3)) ai/\(∃u:aa,ai.cell? ⟨c.cb,2,none⟩=some u)/\ai.frozen? ⟨c.cb,2,none⟩=false/\
  ∀j,j=ai.setCell ⟨c.cb,2,none⟩ b->dj j (T.cy T.E λq=>T.G q\/aB b q) {c with gG:=b,left:=c.left++ [no]}/\bS T (T.cy T.E λq=>T.G q\/aB b q) w j 0:=by
 obtain⟨b,ai,aw,ay,d,f,o⟩:=CX no h.gG I;have cA:∀q,aB c.gG q->T.G q:=λq a=>(h.kR q a).1;have y:=d.size;have l:=h.v.ah d λa=>(h.kR _ a).2 rfl;obtain⟨b5,cp⟩:=eF l (i:=2) (by simp);refine⟨b,ai,aw,o,b5,cp,?_⟩;rintro _ rfl;have g:=ed ai c.cb 2 b;have p:=eE l (i:=2) b;have k:af T.G w (ai.setCell ⟨c.cb,2,none⟩ b):=c5 (d.mono λq _ a=>cA q a) g λq _ e=>by rw[e];exact h.gc
 have z:=k.size;have aH:∀q,aB b q->q<ai.heap.size:=λq a=>aT.lt ay q a;have m:∀q,aB b q->T.G q\/(w.heap.size<=q/\q<(ai.setCell ⟨c.cb,2,none⟩ b).heap.size):=λq a=>by
  rcases f q a with h1|h1
  .exact .inl (cA q h1)
  .exact .inr ⟨h1,by have:=aH q a;have:=g.size;omega⟩
 have n:∀q,aB b q->q≠c.cb:=λq a e=>by
  rcases f q a with h1|h1
  .exact(h.kR q h1).2 e
  .have:=h.v.lt;omega
 have r:∀q,aB c.ma q->¬aB b q:=λq e a=>by
  rcases f q a with h1|h1
  .exact(h.iE q e).2.2 h1
  .have:=aT.lt h.ma q e;omega
 have s:=h.t.grow (E:=T.E) (G:=λq=>T.G q\/aB b q) k (λq a _=>.inr a) (λq a=>.inl a) (λq a=>by
  rcases a with a|a
  .exact .inr (.inl a)
  .exact .inr (m q a)) λq a hg=>by
  rcases hg with hg|hg
  .exact(h.t.dV q a).2.2 hg
  .rcases f q hg with h1|h1
   .exact(h.t.dV q a).2.2 (cA q h1)
   .have:=h.t.lt (q:=q) (.inr (.inr (.inr (.inl a))));omega
 refine⟨⟨s,p,(h.ma.ah d λq a e=>(h.iE q a).2.2 e).ah g λq a e=>(h.iE q a).2.1 e,?_,.inl h.gc,λq a=>⟨.inl (h.iE q a).1,(h.iE q a).2.1,r q a⟩,λq a=>⟨.inr a,n q a⟩,h.ns⟩,?_⟩
 .have:aT 1 3 ai b (fW (c.left++ [no])):=ay
  exact this.ah g λq a e=>n q a e
 .have h0:bS T T w w 0:=.refl _ _
  exact h0.step k (λq a _=>.inr (.inr (.inr a))) (λq a=>.inl a) λq a=>by
   rcases a with a|a
   .exact .inl a
   .exact(m q a).imp id λe=>e.1
end
def cm(T:aK):Nat:=T.n-eU (λi=>T.f i||T.g i) T.n
theorem CZ{s t:Nat->al}:∀ {n:Nat},(∀i,i<n->s i=t i)->eU s n=eU t n
 |0,_=>rfl
 |n+1,h=>by
  unfold eU
  rw[CZ (n:=n) λi hi=>h i I,h n I]
theorem wD{s t:Nat->al}{k:Nat}(a:s k=false)(ht:t k=true)(he:∀i,i≠k->t i=s i):∀ {n:Nat},k<n->eU t n=eU s n+1
 |0,h=>by omega
 |n+1,h=>by
  unfold eU
  by_cases e:k=n
  .subst e
   rw[CZ (s:=t) (t:=s) (n:=k) λi hi=>he i I,a,ht]
   simp
  .rw[wD a ht he (n:=n) I,he n I]
   omega
theorem C0{t:Nat->al}:∀ {n:Nat},(∀i,i<n->t i=true)->eU t n=n
 |0,_=>rfl
 |n+1,h=>by
  unfold eU
  rw[C0 (n:=n) λi hi=>h i I,h n I]
  simp
theorem C1{T:aK}(h:1<=cm T):∃no,firstFree (λi=>T.f i||T.g i) T.n=some no:=by
 cases hf:firstFree (λi=>T.f i||T.g i) T.n with
 |some no=>exact⟨no,rfl⟩
 |none=>
  have:=C0 (H2 hf);unfold cm at h;rw[this]at h;omega
structure dk(T au:aK)(c c':dA)(m l:O Nat)(w w':J)(k:Nat):Prop where
 to:bS T au w w' k
 E:au.E=T.E
 G:∀q,T.G q->au.G q
 root:au.root=T.root
 aL:au.aL=T.aL
 cb:c'.cb=c.cb
 made:c'.made=c.made++m
 left:c'.left=c.left++l
 cd:m.Nodup
 jU:∀no∈m,(T.f no||T.g no)=false/\no<T.n
 f:∀no,au.f no=(T.f no||decide (no∈m))
 eD:∀no,(T.f no||T.g no)=true->au.P no=T.P no/\au.C.view no=T.C.view no
 room:cm au+m.length=cm T
theorem dk.ext{w w':J}(T:aK)(c:dA)(h:Ext w w'):dk T T c c [] [] w w' 0:=
 ⟨.ext T h,rfl,λ_ h=>h,rfl,rfl,rfl,by simp,by simp,List.nodup_nil,λ_ h=>(by cases h),λno=>by simp,λ_ _=>⟨rfl,rfl⟩,by simp⟩
theorem dk.trans{T au j:aK}{c c' o:dA}{m p l l':O Nat}{w w' r:J}{k s:Nat}(h1:dk T au c c' m l w w' k)(h2:dk au j c' o p l' w' r s):dk T j c o (m++p) (l++l') w r (k+s):=by
 have hg:au.g=T.g:=h1.to.g;have t:au.n=T.n:=h1.to.n;have hf:∀no,(T.f no||T.g no)=true->(au.f no||au.g no)=true:=λno h=>by
  rw[h1.f,hg]
  cases d:T.f no<;>cases i:T.g no<;>simp[d,i]at h⊢
 refine⟨h1.to.trans h2.to,h2.E.trans h1.E,λq h=>h2.G q (h1.G q h),h2.root.trans h1.root,h2.aL.trans h1.aL,h2.cb.trans h1.cb,by rw[h2.made,h1.made,cD],by rw[h2.left,h1.left,cD],?_,λno h=>?_,λno=>?_,λno h=>?_,?_⟩
 .rw[s9]
  refine⟨h1.cd,h2.cd,λa u b v e=>?_⟩;subst e;have:=(h2.jU a v).1;rw[h1.f]at this;simp[u]at this
 .rcases cO.1 h with h|h
  .exact h1.jU no h
  .have d:=h2.jU no h
   rw[h1.f,hg,t]at d;refine⟨?_,d.2⟩
   cases x:T.f no<;>cases y:T.g no<;>simp[x,y]at d⊢
 .rw[h2.f,h1.f]
  simp only[cO,Bool.decide_or,Bool.or_assoc]
 .have d:=h2.eD no (hf no h)
  have i:=h1.eD no h;exact⟨d.1.trans i.1,d.2.trans i.2⟩
 .have:=h1.room
  have:=h2.room;rw[cv];omega
theorem dk.mono{T au:aK}{c c':dA}{m l:O Nat}{w w':J}{k j:Nat}(h:dk T au c c' m l w w' k)(a:k<=j):dk T au c c' m l w w' j:=⟨h.to.mono a,h.E,h.G,h.root,h.aL,h.cb,h.made,h.left,h.cd,h.jU,h.f,h.eD,h.room⟩
def C2(T:aK)(c:dA)(n:aD)(w:J)(v:aa)(w':J):Prop:=
 ∃ (no:Nat) (au:aK) (c':dA),dj w' au c'/\dk T au c c' [no] [] w w' 1/\
  ((v=.tuple #[no,(0:Int)]/\au.P no=some n)\/(v=.tuple #[no,(3:Int)]/\¬T.C.D.calm 1))
theorem cI.eS{n:aD}(h:cI n)(h2:bC n<=400):n.keys.length<=200/\n.vals.length<=200/\n.kids.length<=201:=by
 have:=vR h;rcases h with h|h
 .have:=h.len
  have a:n.kids.length=0:=by rw[h.kids];rfl
  omega
 .have:=h.len
  have a:n.vals.length=0:=by rw[h.vals];rfl
  omega
theorem wE{B:Nat->Prop}{w:J}{T:aK}{c:dA}{n:aD}{K V D:ad}(h:dj w T c)(be:T.C.D.a7<=900000100)(U:1<=cm T)(bf:c.made.length<=1000)(aE:bT B w n K V D)(hs:cI n)(h2:bC n<=232):
 aI aj 265 #[.pointer (some c.cb),dg n K V D] w (C2 T c n w):=by
 obtain⟨no,W⟩:=C1 U;obtain⟨u,y,_⟩:=CA W;have H:=h.t.s.bB;have bh:=hs.eS I;refine okF (ae.vz (some c.cb) n.leaf K V D) ax.vz func265 ?_;(delta ae.vz aV Y r1 ew ak gy st cr bP;dsimp only);refine ba (vs:=[n.leaf,K,V,D]) rfl λw1 X Z bi=>?_;obtain⟨bU,aW,a8,bg⟩:=bK X;refine⟨_,bU,K,aW,V,a8,D,bg,(qE (aE.ext Z) I I I).use ?_⟩;rintro _ aF ⟨aG,ab⟩;rcases aG with ⟨s,rfl,aH,aL,_,_⟩|⟨e,rfl,he,aM⟩
 rotate_left
 .have:=aM hs;omega
 have L:=Z.trans ab;have r:=h.ext L;refine⟨s,0,rfl,λd=>(by cases d),λ_=>⟨_,rfl,_,r.cells.1,_,rfl,_,r.t.cells.2.1,(CC r.t.s).use ?_⟩⟩;rintro _ aN ⟨rfl,iu,ac⟩;rw[W]at iu⊢;obtain⟨aO,M⟩:=r.t.wC iu ac;have ag:dj aN (T.jw (du T.f no true)) c:=r.of aO ac (λq a hf=>(h.t.jv q a).2 hf) rfl λ_ h=>h;refine⟨(no:Nat),0,rfl,λd=>(by cases d),λ_=>⟨_,rfl,_,ag.cells.2.1,?_⟩⟩;obtain⟨z,ai,aw,ay,aP,aQ,aR⟩:=Iz ag no I;refine aX ⟨z,ai,aw,_,rfl,by rw[aA];exact aP,by rw[aA];exact aQ,aX ?_⟩;rw[aA];obtain⟨o,al⟩:∃o,o=ai.setCell ⟨c.cb,0+1,none⟩ z:=⟨_,rfl⟩;rw[←al];obtain⟨A,O⟩:=aR o al;obtain⟨am,bj⟩:∃am,am=λq=>T.G q\/aB z q:=⟨_,rfl⟩;have an:∀q,T.N q->q<w.heap.size:=λq a=>h.t.lt (aK.gN a);have bl:=L.size;have bm:=M.ah.size;have bn:=O.ah.size;have ao:af T.N aF o:=M.ah.trans O.ah;have aS:Var o w.heap.size [n.leaf,K,V,D] 169:=(X.ext ab).ah ao λa=>by have:=an _ a;omega
 have aU:aT 1 5 o s (az (jr n)):=aH.ah ao λq a aY=>by have:=an _ aY;have:=aL q a;omega
 have hlen:=yu hs;have H:2<=no:=by
  have e:(T.f no||T.g no)=false:=y;have F:T.g no=false:=by cases hg:T.g no<;>simp_all
  have:=h.t.low;rcases dX no 2 with Q|Q
  .rcases oa no with ap|ap
   .rw[ap,this.1]at F;cases F
   .rw[show no=1 from I,this.2]at F;cases F
  .exact Q
 have R:nE ⟨if n.leaf then 1 else 2,T.gen,jr n⟩:=by
  refine⟨?_,?_,h.t.num.2.2,by show(jr n).length<=232;omega⟩
  .show 1<=(if n.leaf then 1 else 2);split<;>omega
  .show(if n.leaf then 1 else 2)<=4;split<;>omega
 refine cx (λn27 aZ=>n27=((if n.leaf then 1 else 2:Nat):Int)/\aZ=o) (λq a=>⟨n.leaf,aS.cell,λd=>a _ _ ⟨by rw[d];rfl,rfl⟩,λd=>a _ _ ⟨by rw[d];rfl,rfl⟩⟩) ?_;rintro _ _ ⟨rfl,rfl⟩;refine⟨_,rfl,_,A.cells.1,_,rfl,_,A.t.cells.2.2.1,(v7 (no:=no) (p:=⟨if n.leaf then 1 else 2,T.gen,jr n⟩) aU.src I R).use ?_⟩;rintro _ bo ⟨s2,rfl,aq,ar,a0⟩;have l:=A.ext ar;refine⟨s2,0,rfl,λd=>(by cases d),λ_=>⟨_,rfl,_,l.cells.1,_,rfl,_,l.t.cells.1,(CT l.t.ca (by show T.C.D.a7<=999999999;omega) (no:=no) (by rw[l.t.n];exact u) H (λhs=>by have:=l.t.b9 no hs;have e:(T.f no||T.g no)=false:=y;rcases this with this|this;(rw[show T.g no=true from this,Bool.or_true]at e;cases e);exact l.ns this) aq.src (sD no R) λq a=>⟨aT.lt aq q a,λhf=>?_⟩).use ?_⟩⟩
 .have:=a0 q a
  have:=A.t.lt (q:=q) (.inl hf);omega
 rintro _ a1 ⟨aJ,a2,S,a3⟩;have a4:∀j,du T.f no true j=(T.f j||decide (j∈ [no])):=λj=>by
  unfold du;by_cases e:j=no
  .subst e;simp
  .simp[e]
 have aC:(T.f no||T.g no)=false:=y;have a5:T.n-eU (λi=>du T.f no true i||T.g i) T.n+1=cm T:=by
  have:=wD (s:=λi=>T.f i||T.g i) (t:=λi=>du T.f no true i||T.g i) (k:=no) y (by simp[du]) (λi hi=>by simp[du,hi]) u;unfold cm at U⊢;have Q:=nM (λi=>T.f i||T.g i) T.n;omega
 have main:∀ (P':Nat->av aD) (v:aa),(∀j,j≠no->P' j=T.P j)->(∀j,j≠no->aJ.view j=T.C.view j)->(∀j cd,P' j=some cd->j<T.n/\gY T.gen cd.leaf j (aJ.view j) cd)->
  ((v=.tuple #[no,(0:Int)]/\P' no=some n)\/(v=.tuple #[no,(3:Int)]/\¬T.C.D.calm 1))->C2 T c n w v a1:=by
  intro P' v a6 gl a9 m;obtain⟨a_,bb⟩:=l.t.wA (P:=P') a2 S a9;have bc:=l.of (au:=((T.jw (du T.f no true)).cy T.E λq=>T.G q\/aB z q).bA aJ P') a_ S.ah (λq a=>l.t.wB a) rfl (λ_ h=>h) S.b9;refine⟨no,_,_,bc,⟨?_,rfl,λq a=>.inl a,rfl,rfl,rfl,rfl,(fu _).symm,by simp,λx hx=>?_,a4,λj b=>?_,a5⟩,m⟩
  .have:=(((bS.ext T L).trans M).trans O).trans ((bS.ext _ ar).trans bb)
   exact this.mono I
  .obtain rfl:=fj.1 hx
   exact⟨aC,u⟩
  .have:j≠no:=λe=>by rw[e,aC]at b;cases b
   exact⟨a6 j this,gl j this⟩
 rcases a3 with ⟨rfl,m⟩|⟨rfl,bd,m⟩
 .refine⟨0,rfl,main (λj=>if j=no then some n else T.P j) _ (λj b=>if_neg b) (λj b=>(m j).trans (if_neg b)) (λj cd b=>?_) (.inl ⟨rfl,if_pos rfl⟩)⟩
  by_cases e:j=no
  .subst e
   rw[if_pos rfl]at b
   cases b;rw[m,if_pos rfl];exact⟨u,_,vW I R,bk _,rfl,⟨hs,rfl,h2,rfl⟩,H⟩
  .rw[if_neg e]at b
   rw[m,if_neg e];exact h.t.eV j cd b
 .refine⟨3,rfl,main T.P _ (λ_ _=>rfl) (λj _=>m j) (λj cd b=>?_) (.inr ⟨rfl,bd⟩)⟩
  rw[m];exact h.t.eV j cd b
theorem IA(w:J)(x:Int):Sem.run aj (Instr.buildSlice 317 1 #[(0,.agg #[(),x])]) w=
 .ok (.slice (some w.heap.size) 1 1) (w.alloc (.cells #[(),x] 325)):=by kernel_rfl
theorem IB(w:J)(x y:Int)(t:ad):Sem.run aj (Instr.buildSlice 317 2 #[(0,.agg #[(),x]),(1,.agg #[t,y])]) w=
 .ok (.slice (some w.heap.size) 2 2) (w.alloc (.cells #[(),x,t,y] 325)):=by kernel_rfl
theorem cI.yj{n:aD}(h:cI n)(h1:1<=cu n)(h2:if n.leaf then cu n<=n.keys.length-1/\1<=n.keys.length-1 else cu n<=n.keys.length-2/\1<=n.keys.length-2):cI (n.left (cu n))/\cI (n.right (cu n)):=by
 rcases h with h|h
 .have a:=h.leaf
  rw[if_pos a]at h2;unfold aD.left aD.right;rw[if_pos a,if_pos a];have hlen:=h.len;refine⟨.inl ⟨⟨λk b=>h.ok k (fC b),h.eY.sublist (td _ _)⟩,rfl,?_,rfl,λv c=>h.vals v (fC c)⟩,.inl ⟨⟨λk b=>h.ok k (fO b),h.eY.sublist (List.drop_sublist _ _)⟩,rfl,?_,rfl,λv c=>h.vals v (fO c)⟩⟩
  .simp only[cz];omega
  .simp only[eg];omega
 .have a:=h.inner
  rw[if_neg (by rw[a];simp)]at h2;unfold aD.left aD.right;rw[if_neg (by rw[a];simp),if_neg (by rw[a];simp)];have hlen:=h.len;refine⟨.inr ⟨⟨λk b=>h.ok k (fC b),h.eY.sublist (td _ _)⟩,rfl,?_,?_,rfl,λv c=>h.kids v (fC c)⟩,.inr ⟨⟨λk b=>h.ok k (fO b),h.eY.sublist (List.drop_sublist _ _)⟩,rfl,?_,?_,rfl,λv c=>h.kids v (fO c)⟩⟩
  .intro e
   have:=congrArg List.length e;simp only[cz,k2]at this;omega
  .simp only[cz];omega
  .intro e
   have:=congrArg List.length e;simp only[eg,k2]at this;omega
  .simp only[eg];omega
def ly(B:Nat->Prop)(w:J)(s:ad)(ks:O Key)(kids:O Nat):Prop:=
 (∃b x,s=⟨some ⟨b,0,none⟩,1,1⟩/\ks=[]/\kids=[x]/\Var w b [.slice none 0 0,.int .i64 (x:Nat)] 325/\B b)\/
 (∃b x y k t,s=⟨some ⟨b,0,none⟩,2,2⟩/\ks=[k]/\kids=[x,y]/\Var w b [.slice none 0 0,.int .i64 (x:Nat),.slice t.a t.len t.cap,.int .i64 (y:Nat)] 325/\B b/\bu B w t k/\k≠ [])
def hW(T:aK)(c:dA)(n:aD)(w:J)(v:aa)(w':J):Prop:=
 ∃ (au:aK) (c':dA) (m:O Nat) (s:ad),dj w' au c'/\dk T au c c' m [] w w' 2/\m.length<=2/\
  ((∃ks,v=.tuple #[s,(0:Int)]/\mH au.P n ks m/\ly (λq=>¬au.M q) w' s ks m)\/(v=.tuple #[s,(3:Int)]/\¬T.C.D.calm 2))
theorem C3{B:Nat->Prop}{w:J}{T:aK}{c:dA}{n:aD}{K V D:ad}(h:dj w T c)(k:T.C.D.a7<=900000100)(l:1<=cm T)(m:c.made.length<=1000)(o:bT B w n K V D)(hs:cI n)(h2:bC n<=232):
 aI aj 234 #[.pointer (some c.cb),dg n K V D] w (hW T c n w):=by
 refine okF (ae.vt (some c.cb) n.leaf K V D) ax.vt func234 ?_;(delta ae.vt aV Y r1 gy;dsimp only);refine ba (vs:=[n.leaf,K,V,D]) rfl λw1 p b y=>?_;obtain⟨bU,aW,a8,bg⟩:=bK p;refine⟨_,bU,K,aW,V,a8,D,bg,(wE (h.ext b) k l m (o.ext b) hs h2).use ?_⟩;rintro _ a ⟨no,au,c',d,q,r⟩;have f:∀ (e:Int),((e=0/\au.P no=some n)\/(e=3/\¬T.C.D.calm 1))->∃ (g:ad) (i:J),Sem.run aj (Instr.buildSlice 317 1 #[(0,.agg #[(),no])]) a=.ok g i/\hW T c n w (.tuple #[g,e]) i:=by
  intro e he;refine⟨⟨some a.heap.size,1,1⟩,_,IA a _,?_⟩;have j:=c4 a (.cells #[(),no] 325);have s:dk T au c c' [no] [] w (a.alloc (.cells #[(),no] 325)) 2:=(((dk.ext T c b).trans q).trans (dk.ext au c' j)).mono I;refine⟨au,c',[no],⟨some a.heap.size,1,1⟩,d.ext j,s,by simp,?_⟩;rcases he with ⟨rfl,he⟩|⟨rfl,he⟩
  .refine .inl ⟨[],rfl,.inl ⟨h2,no,rfl,rfl,he⟩,.inl ⟨_,no,rfl,rfl,rfl,Var.new a [(),no] 325,λu=>?_⟩⟩
   have:=d.t.lt u;omega
  .exact .inr ⟨rfl,λhc=>he (gm hc I)⟩
 rcases r with ⟨rfl,v⟩|⟨rfl,x⟩
 .exact⟨_,0,rfl,f 0 (.inl ⟨rfl,v⟩)⟩
 .exact⟨_,3,rfl,f 3 (.inr ⟨rfl,x⟩)⟩
theorem fM{b:al}{K V D:ad}:∀v∈ [.bool b,.slice K.a K.len K.cap,.slice V.a V.len V.cap,.slice D.a D.len D.cap],Plain v:=by
 intro v c;simp only[c0,fw,fD]at c;rcases c with rfl|rfl|rfl|rfl<;>trivial
theorem IC{B:Nat->Prop}{w:J}{T:aK}{c:dA}{n:aD}{K V D:ad}(h:dj w T c)(aT:T.C.D.a7<=900000090)(aU:2<=cm T)(aX:c.made.length<=900)(ag:bT B w n K V D)(hs:cI n)(h2:232<bC n)(aY:bC n<=400)(h1:1<=cu n)
 (l:if n.leaf then cu n<=n.keys.length-1/\1<=n.keys.length-1 else cu n<=n.keys.length-2/\1<=n.keys.length-2) (ai:bC (n.left (cu n))<=232) (al:bC (n.right (cu n))<=232):
 aI aj 276 #[.pointer (some c.cb),dg n K V D] w (hW T c n w):=by
 obtain⟨sl,gp⟩:=hs.yj h1 l;have aZ:=hs.eS I;have a:cu n<n.keys.length:=by
  split at l<;>omega
 refine okF (ae.vB (some c.cb) n.leaf K V D) ax.vB func276 ?_;(delta ae.vB aV Y r1 Ba z5 ak gy;dsimp only);refine ba (vs:=[n.leaf,K,V,D]) rfl λw1 am E a0=>?_;obtain⟨bU,aW,a8,bg⟩:=bK am;refine⟨_,bU,K,aW,V,a8,D,bg,(qF (ag.ext E) hs I h1 l).use ?_⟩;rintro _ an ⟨fo,gd,bG,dG,ee,c7,t,rfl,ao,ap,ht,aq⟩;refine⟨_,fo,gd,bG,t,_,dG,ee,c7,true,rfl,ba (vs:=[false,(),(),()]) rfl λa1 ar au a2=>ba (vs:=[false,(),(),()]) rfl λa3 av F a4=>?_⟩;have G:=ar.ext F;refine⟨G.cn rfl fM,rfl,cT G (us:=[.bool (n.left (cu n)).leaf,fo,gd,bG]) rfl rfl λa5 aw H a6=>?_⟩;have L:=av.ah H I;refine⟨L.cn rfl fM,rfl,cT L (us:=[.bool (n.right (cu n)).leaf,dG,ee,c7]) rfl rfl λm ay O a9=>⟨λa=>(by cases a),λ_=>?_⟩⟩;have az:=aw.ah O I;have Q:=E.trans aq;have i:Ext an m:=Ext.cC (Ext.cC (au.trans F) H I) O I;have o:=Q.trans i;have bb:=Q.size;have bc:=i.size;obtain⟨d0,d1,d2,d3⟩:=bK az;refine⟨_,d0,fo,d1,gd,d2,bG,d3,(wE (h.ext o) I I I (ao.ext i) sl ai).use ?_⟩;rintro _ aA ⟨x,bY,R,p,b,aB⟩;have r:∀q,T.N q->q<w.heap.size:=λq d=>h.t.lt (aK.gN d);have bd:=b.to.ah.size;rcases aB with ⟨rfl,S⟩|⟨rfl,s⟩
 .have aC:=ay.ah b.to.ah λd=>by have:=r _ d;omega
  obtain⟨d0,d1,d2,d3⟩:=bK aC;have aE:bT (λq=>w1.heap.size<=q) aA (n.right (cu n)) dG ee c7:=(ap.ext i).ah b.to.ah λq d u=>by have:=r _ u;omega
  have aF:bY.C.D.a7<=900000100:=eG b.to.a7 (by clear p b S;omega);have aG:=b.room;have be:R.made.length=c.made.length+1:=by rw[b.made,cv];rfl
  simp only[iN]at aG;have U:=wE p aF I I aE gp al;rw[b.cb]at U;refine⟨x,0,rfl,λa=>(by cases a),λ_=>⟨_,d0,dG,d1,ee,d2,c7,d3,U.use ?_⟩⟩;rintro _ g ⟨y,b3,W,X,k,aH⟩;have bf:=k.to.ah.size;have aJ:=((dk.ext T c o).trans b).trans k;have aL:n.keys.getD (cu n) []=n.keys[cu n]:=by rw[fQ,dI a];rfl
  have aM:=ht.ext i;have aN:bu (λq=>¬b3.M q) g t n.keys[cu n]:=by
   rw[←aL];have aO:bu (λq=>q<m.heap.size/\w1.heap.size<=q) m t (n.keys.getD (cu n) []):=bu.a_ aM λq d a=>⟨d,a⟩;have Z:=(b.trans k).to;refine bu.a_ (bu.ah aO Z.ah λq d u=>by have:=r _ u;omega) λq _ a v=>?_;rcases Z.c6 q v with aa|aa
   .have:=h.t.lt aa;omega
   .omega
  have aP:n.keys[cu n]≠ []:=by
   have aQ:cw n.keys[cu n]:=by
    rcases hs with hs|hs
    .exact hs.ok _ (cP a)
    .exact hs.ok _ (cP a)
   intro e;have:=aQ.1;rw[e]at this;simp at this
  have z:=c4 g (.cells #[(),x,t,y] 325);have A:=(aJ.trans (dk.ext b3 W z)).mono (j:=2) I;have ab:∀ (e:Int),((e=0/\b3.P y=some (n.right (cu n)))\/(e=3/\¬bY.C.D.calm 1))->∃ (ac:ad) (af:J),Sem.run aj (Instr.buildSlice 317 2 #[(0,.agg #[(),x]),(1,.agg #[t,y])]) g=.ok ac af/\
   hW T c n w (.tuple #[ac,e]) af:=by
   intro e he;refine⟨⟨some g.heap.size,2,2⟩,_,IB g _ _ t,b3,W,[x,y],⟨some g.heap.size,2,2⟩,X.ext z,A,by simp,?_⟩;rcases he with ⟨rfl,he⟩|⟨rfl,he⟩
   .have aR:b3.P x=some (n.left (cu n)):=by
     rw[(k.eD x (by rw[b.f];simp)).1,S]
    refine .inl ⟨[n.keys[cu n]],rfl,.inr ⟨h2,x,y,a,rfl,rfl,aR,he⟩,.inr ⟨_,x,y,_,t,rfl,rfl,rfl,Var.new g [(),x,t,y] 325,λv=>?_,bu.ext aN z,aP⟩⟩;have:=X.t.lt v;omega
   .exact .inr ⟨rfl,λhc=>he (b.to.calm 1 (gm hc I))⟩
  rcases aH with ⟨rfl,aS⟩|⟨rfl,s⟩
  .exact⟨_,0,rfl,ab 0 (.inl ⟨rfl,aS⟩)⟩
  .exact⟨_,3,rfl,ab 3 (.inr ⟨rfl,s⟩)⟩
 .have A:=((dk.ext T c o).trans b).mono (j:=2) I
  exact⟨_,3,rfl,λ_=>⟨bY,R,[x],bI,p,A,by simp,.inr ⟨rfl,λhc=>s (gm hc I)⟩⟩,λa=>(by cases a)⟩
theorem wF{B:Nat->Prop}{w:J}{T:aK}{c:dA}{n:aD}{K V D:ad}(h:dj w T c)(t:T.C.D.a7<=900000090)(u:2<=cm T)(x:c.made.length<=900)(f:bT B w n K V D)(hs:cI n)(y:bC n<=400)
 (h2:232<bC n->1<=cu n/\(if n.leaf then cu n<=n.keys.length-1/\1<=n.keys.length-1 else cu n<=n.keys.length-2/\1<=n.keys.length-2)/\bC (n.left (cu n))<=232/\bC (n.right (cu n))<=232):
 aI aj 263 #[.pointer (some c.cb),dg n K V D] w (hW T c n w):=by
 have A:=hs.eS I;refine okF (ae.vy (some c.cb) n.leaf K V D) ax.vy func263 ?_;(delta ae.vy aV Y r1 bP ak ew;dsimp only);refine ba (vs:=[n.leaf,K,V,D]) rfl λw1 o p E=>?_;obtain⟨bU,aW,a8,bg⟩:=bK o;refine⟨_,bU,K,aW,V,a8,D,bg,(oU (f.ext p) hs I).use ?_⟩;rintro _ z ⟨rfl,q⟩;have a:=p.trans q;obtain⟨d0,d1,d2,d3⟩:=bK (o.ext q);have fin:∀ (v:aa) (w':J),hW T c n z v w'->∃s:ad,∃e:Int,v=.tuple #[s,e]/\hW T c n w (.tuple #[s,e]) w':=by
  rintro v w' ⟨au,c',m,s,aw,ay,d,i⟩;have r:=((dk.ext T c a).trans ay).mono (j:=2) I;rcases i with ⟨ks,rfl,k⟩|⟨rfl,k⟩
  .exact⟨s,0,rfl,au,c',m,s,aw,r,d,.inl ⟨ks,rfl,k⟩⟩
  .exact⟨s,3,rfl,au,c',m,s,aw,r,d,.inr ⟨rfl,k⟩⟩
 refine⟨_,rfl,λb=>⟨_,d0,K,d1,V,d2,D,d3,?_⟩,λb=>⟨_,d0,K,d1,V,d2,D,d3,?_⟩⟩
 .have b:((bC n:Nat):Int)>232:=cj b
  obtain⟨aw,ay,d,i⟩:=h2 I;refine(IC (h.ext a) t u x (f.ext a) hs I y aw ay d i).use ?_;rintro v w' l;obtain⟨s,e,rfl,g⟩:=fin v w' l;exact⟨s,e,rfl,g⟩
 .have b:¬((bC n:Nat):Int)>232:=cE b
  refine(C3 (h.ext a) I I I (f.ext a) hs I).use ?_;rintro v w' l;obtain⟨s,e,rfl,g⟩:=fin v w' l;exact⟨s,e,rfl,g⟩
theorem C4{B:Nat->Prop}{w:J}{s:ad}{ls:O Key}(h:bH B w s ls)(p:ls.length<=100000):
 aI aj 266 #[s] w (λv w'=>∃b:ad,v=b/\bm (λq=>(B q/\q<w.heap.size)\/(w.heap.size<=q/\aB b q)) w' b ls/\Ext w w'/\gD w b):=by
 have r:=bH.len h;obtain⟨ts,aw,ay,t,u,l⟩:=h;refine okF (ae.ux s) ax.ux func266 ?_;delta ae.ux ak Y;refine⟨λd=>?_,λ_=>?_⟩
 .have d:s.a=none:=by simpa using d
  have h0:=ay.nil d;have:ls=[]:=ti (by rw[←aw];have:=congrArg List.length h0;simpa using this);subst this;exact⟨⟨none,0,0⟩,rfl,bm.none _ _,.refl _ _,λk e=>(f_ k e).elim⟩
 .obtain⟨b,w',h1,h2,x,j,f,_⟩:=qR.clone (cF:=93) ay (wa ts) I
  refine aX ⟨b,w',h1,b,rfl,⟨ts,aw,h2,λq c=>⟨.inr ⟨f q c,c⟩,h2.lt q c⟩,λi m n=>?_⟩,j,f⟩;have a:=l i m n;exact⟨bu.a_ (bu.ext (bu.a_ (C:=λq=>B q/\q<w.heap.size) a λq c g=>⟨g,c⟩) j) λq _ g=>.inl g,λk e o=>by have:=f k o;have:=(a.2.2 k e).2;omega⟩
theorem ly.at{B:Nat->Prop}{w:J}{s:ad}{ks:O Key}{kids:O Nat}(h:ly B w s ks kids):s.len=kids.length/\kids.length=ks.length+1/\kids.length<=2/\∀ (j:Nat) (d:j<kids.length),∃ (A:ag) (t:ad),s.a=some A/\w.cell? (A.add (j*2))=some (.slice t.a t.len t.cap)/\w.cell? ((A.add (j*2)).add 1)=some (.int .i64 ((kids[j]:Nat):Int))/\
 ((t.a=none/\ks.take j=ks.take (j-1))\/(t.a.isSome=true/\∃k,bu B w t k/\ks.take j=ks.take (j-1)++ [k])):=by
 rcases h with ⟨b,x,rfl,rfl,rfl,c,e⟩|⟨b,x,y,k,t,rfl,rfl,rfl,c,e,ht,f⟩
 .refine⟨rfl,rfl,by simp,λj d=>?_⟩
  have:j=0:=by simp at d;omega
  subst this;exact⟨_,⟨none,0,0⟩,rfl,by rw[aA];exact c.cell,by rw[aA,aA];exact c.cell,.inl ⟨rfl,rfl⟩⟩
 .refine⟨rfl,rfl,by simp,λj d=>?_⟩
  rcases dX j 1 with h1|h1
  .have:j=0:=by omega
   subst this;exact⟨_,⟨none,0,0⟩,rfl,by rw[aA];exact c.cell,by rw[aA,aA];exact c.cell,.inl ⟨rfl,rfl⟩⟩
  .have:j=1:=by simp at d;omega
   subst this;obtain⟨A,ar⟩:=bu.some ht f;exact⟨_,t,rfl,by rw[aA];exact c.cell,by rw[aA,aA];exact c.cell,.inr ⟨by rw[ar];rfl,k,ht,rfl⟩⟩
theorem ly.ext{B:Nat->Prop}{w w':J}{s:ad}{ks:O Key}{kids:O Nat}(h:ly B w s ks kids)(hx:Ext w w'):ly B w' s ks kids:=by
 rcases h with ⟨b,x,h1,h2,a,c,d⟩|⟨b,x,y,k,t,h1,h2,a,c,d,ht,e⟩
 .exact .inl ⟨b,x,h1,h2,a,c.ext hx,d⟩
 .exact .inr ⟨b,x,y,k,t,h1,h2,a,c.ext hx,d,bu.ext ht hx,e⟩
theorem ID{w:J}{nb o:Nat}{vs:O aa}{S t:ad}{ls:O Key}{l:Key}{B:Nat->Prop}{T:TypeId}(d:Var w nb vs T)(n:o<vs.length)(f:bm B w S ls)(g:¬B nb)
 (ht:bu B w t l) (hd:∀k,aB t k->¬aB S k) (E:ls.length<=100000) {K:J->Prop}
 (p:∀ (w':J) (aE:ad),Var w' nb (vs.set o aE) T->bm (Grow B w w') w' aE (ls++ [l])->af (λq=>q=nb\/aB S q) w w'->(∀k,aB aE k->aB S k\/w.heap.size<=k)->K w'):
 ao (w.alloc (.cells #[t] 39)) λr=>∃i:ad,∃b:J,Sem.run aj (Builtin.append_ #[93,93] 93 #[S,.slice (some w.heap.size) 1 1]) r=.ok i b/\
  (∃u:aa,b.cell? (Addr.add nb o)=some u)/\b.frozen? (Addr.add nb o)=false/\ao (b.setCell (Addr.add nb o) i) λs=>K s:=by
 have v:=bm.a_ (C:=λq=>B q\/w.heap.size<=q) f λk _ h=>.inl h;have x:=bu.a_ (C:=λq=>B q\/w.heap.size<=q) ht λk _ h=>.inl h;obtain⟨c,w',aw,ay,j,y⟩:=BT v x hd I λk a=>.inr a;have F:=d.lt;have z:¬aB S nb:=λh=>by
  obtain⟨ts,_,_,A,_⟩:=f;exact g (A nb h).1
 have m:=d.ah j z;obtain⟨aW,a8⟩:=eF m n;refine aX ⟨c,w',aw,?_⟩;rw[aA,cR];have hc:=ed w' nb o c;refine⟨aW,a8,aX (p _ c (eE m _) ?_ ?_ y)⟩
 .have D:=bm.a_ (C:=Grow B w (w'.setCell ⟨nb,o,none⟩ c)) ay λk a h=>by
   rcases h with h|h
   .exact .inl h
   .exact .inr ⟨h,fi a hc.size⟩
  refine bm.ah D hc λk a e=>?_;subst e;rcases a with h|h
  .exact g h
  .omega
 .exact(j.mono λk _ a=>.inr a).trans (hc.mono λk _ a=>.inl a)
def wG(B:Nat->Prop)(n:aD)(fr to:Nat)(ks:O Key)(kids:O Nat)(w:J)(v:aa)(w':J):Prop:=
 ∃K V D:ad,v=dg (fV n fr to ks kids) K V D/\bT (λq=>B q\/w.heap.size<=q) w' (fV n fr to ks kids) K V D/\Ext w w'
structure q6(B:Nat->Prop)(lo:Nat)(nb aS a:Nat)(n:aD)(K V D:ad)(c:O aa)(w:J)(b aC:ad)(bD bw:Nat->Prop)(ks:O Key)(ds:O Nat):Prop where
 eV:Var w nb [n.leaf,K,V,D] 169
 r:Var w a c 169
 o:Var w aS [false,b,(),aC] 169
 k:bm bD w b ks
 d:cN bw w aC ds
 b2:∀q,bD q->(B q/\q<lo)\/(lo<=q/\q<w.heap.size/\q≠nb/\q≠aS/\q≠a/\¬bw q)
 aO:∀q,bw q->lo<=q/\q<w.heap.size/\q≠nb/\q≠aS/\q≠a
 mM:∀q,aB b q->lo<=q
theorem q6.ext{B:Nat->Prop}{lo nb aS b:Nat}{n:aD}{K V D:ad}{c:O aa}{w w':J}{e aC:ad}{bD bw:Nat->Prop}{ks:O Key}{ds:O Nat}(h:q6 B lo nb aS b n K V D c w e aC bD bw ks ds)(hx:Ext w w'):q6 B lo nb aS b n K V D c w' e aC bD bw ks ds:=by
 have f:=hx.size;exact⟨h.eV.ext hx,h.r.ext hx,h.o.ext hx,bm.ext h.k hx,cN.ext h.d hx,λq a=>(h.b2 q a).imp id λh=>⟨h.1,I,h.2.2⟩,λq a=>⟨(h.aO q a).1,by have:=(h.aO q a).2.1;omega,(h.aO q a).2.2⟩,h.mM⟩
theorem IE{B:Nat->Prop}{w cY jq aY aZ:J}{nb aS x:Nat}{n:aD}{K V D s ei D0:ad}{an:O aa}{bD bw:Nat->Prop}{ks:O Key}{kids:O Nat}{fr to:Nat}(bt:q6 B w.heap.size nb aS x n K V D an cY ei D0 bD bw (n.keys.take fr) (n.kids.take fr))(bv:Ext w cY)
 (bx:bT B w n K V D) (a0:ly B w s ks kids) (bz:an.length=4) (h1:w.heap.size<=nb) (h2:w.heap.size<=aS) (H:w.heap.size<=x) (L:nb≠aS/\nb≠x/\aS≠x) (t1:1<=to) (t2:to<=n.kids.length) (t3:to-1<=n.keys.length) (cc:n.keys.length<=1000) (bB:n.kids.length<=1000) (aF:jq.heap.size=nb) (aI:aY.heap.size=aS) (C:aZ.heap.size=x):
 ae.x4 jq aY aZ s (to:Nat) cY (wG B n fr to ks kids w):=by
 obtain⟨bl,bf,b7,bA⟩:=a0.at;(delta ae.x4 jm ak aO r1 aG z9 Y qc st aq aV r3;dsimp only);rw[aF,aI,C];refine⟨λi w'=>∃ (j:Nat) (z aC:ad) (bD bw:Nat->Prop),i=j/\j<=kids.length/\Ext w w'/\q6 B w.heap.size nb aS x n K V D an w' z aC bD bw (n.keys.take fr++ks.take (j-1)) (n.kids.take fr++kids.take j),λi _=>((kids.length:Int)-i).toNat,⟨0,ei,D0,bD,bw,rfl,cM _,bv,by simpa using bt⟩,?_⟩;rintro _ u ⟨j,z,aC,bD,bw,rfl,b8,y,h⟩;have b9:=y.size;refine⟨λaH=>?_,λaJ=>?_⟩
 .have aH:j<kids.length:=by
   have:(j:Int)<(s.len:Int):=cj aH;omega
  obtain⟨A,t,ar,aW,a8,aK⟩:=(a0.ext y).at.2.2.2 j aH;refine⟨A,ar,⟨I,I⟩,t,by rw[dc];exact aW,_,by rw[dc];exact a8,?_⟩;have aK:(t.a=none/\ks.take j=ks.take (j-1))\/(t.a.isSome=true/\∃k,bu (λq=>B q/\q<w.heap.size) u t k/\ks.take j=ks.take (j-1)++ [k]):=by
   obtain⟨mu,a1,a2,bC,_,bE⟩:=bA j aH;rw[ar]at a2;cases a2;have e:=af.cell y (λh=>h) bC;rw[aW]at e;injection e with e
   obtain rfl:t=a1:=by
    cases t;cases a1;simp at e;simp[e]
   rcases bE with h|⟨h1,k,h2,H⟩
   .exact .inl h
   .exact .inr ⟨h1,k,bu.ext (bu.a_ h2 λq c f=>⟨f,c⟩) y,H⟩
  refine ba (vs:=[(),(0:Int)]) rfl λb_ a3 bF ca=>?_;refine⟨a3.cn rfl ?_,rfl,cT a3 (us:=[t,.int .i64 ((kids[j]:Nat):Int)]) rfl rfl λaL T bG cb=>?_⟩
  .intro v a4
   simp only[c0,fw,fD]at a4;rcases a4 with rfl|rfl<;>trivial
  have ao:Ext u aL:=Ext.cC bF bG (bk _);have m:=h.ext ao;have cd:=ao.size;have a5:=y.trans ao;obtain⟨e1,bI⟩:∃e1,e1=u.heap.size:=⟨_,rfl⟩;rw[←bI]at T⊢;have ce:=T.lt;refine k9 (λU=>∃ (dG:ad) (ap:Nat->Prop),q6 B w.heap.size nb aS x n K V D an U dG aC ap bw (n.keys.take fr++ks.take j) (n.kids.take fr++kids.take j)/\Ext w U/\Var U e1 [t,.int .i64 ((kids[j]:Nat):Int)] 325/\aL.heap.size<=U.heap.size) (λq c=>⟨t,T.cell,λf=>?_,λf=>?_⟩) ?_
  .rcases aK with ⟨au,_⟩|⟨_,k,ht,ab⟩
   .rw[au]at f;cases f
   obtain⟨ac,M,ag,N⟩:=bK (V:=⟨none,0,0⟩) m.o;have av:∀q,aB z q->bD q:=λq c=>by
    obtain⟨ts,_,_,H,_⟩:=m.k;exact(H q c).1
   refine⟨z,M,t,T.cell,ID (B:=λq=>bD q\/(B q/\q<w.heap.size)) m.o (o:=1) (by simp) (bm.a_ m.k λq _ f=>.inl f) (λf=>?_) (bu.a_ (bu.ext ht ao) λq _ f=>.inr f) (λq c aM=>?_) ?_ λw' aE aw ay p bJ=>c _ ⟨aE,Grow (λq=>bD q\/(B q/\q<w.heap.size)) aL w',?_,?_,?_,p.size⟩⟩
   .rcases f with f|f
    .rcases m.b2 _ f with g|g
     .omega
     .exact g.2.2.2.1 rfl
    .omega
   .have:=(ht.2.2 q c).1.2
    have:=m.mM q aM;omega
   .rw[cv,cz,cz];omega
   .have bL:=p.size
    have E:∀q,aB z q->q<u.heap.size/\q≠nb/\q≠aS/\q≠x/\¬bw q:=λq c=>by
     have bM:=h.mM q c;rcases h.b2 q (av q c) with g|g
     .omega
     .exact g.2
    refine⟨m.eV.ah p λc=>?_,m.r.ah p λc=>?_,aw,?_,cN.ah m.d p λq f c=>?_,λq f=>?_,λq f=>⟨(m.aO q f).1,by have:=(m.aO q f).2.1;omega,(m.aO q f).2.2⟩,λq c=>?_⟩
    .rcases c with e|c
     .exact L.1 e
     .exact(E _ c).2.1 rfl
    .rcases c with e|c
     .exact L.2.2 e.symm
     .exact(E _ c).2.2.2.1 rfl
    .rw[ab,←cD];exact ay
    .rcases c with e|c
     .exact(m.aO q f).2.2.2.1 e
     .exact(E q c).2.2.2.2 f
    .rcases f with (f|f)|f
     .exact(m.b2 q f).imp id λg=>⟨g.1,I,g.2.2⟩
     .exact .inl f
     .refine .inr ⟨I,f.2,λe=>?_,λe=>?_,λe=>?_,λhd=>?_⟩
      .have:=m.eV.lt;omega
      .have:=m.o.lt;omega
      .have:=m.r.lt;omega
      .have:=(m.aO q hd).2.1;omega
    .rcases bJ q c with g|g
     .exact h.mM q g
     .omega
   .exact Ext.dT a5 p λq c=>by
     rcases c with rfl|c
     .exact h2
     .exact m.mM q c
   .refine T.ah p λc=>?_
    rcases c with e|c
    .have:=h.o.lt;omega
    .rcases h.b2 _ (av _ c) with g|g<;>omega
  .rcases aK with ⟨_,ab⟩|⟨au,_⟩
   .refine c _ ⟨z,bD,?_,a5,T,bk _⟩
    rw[ab];exact m
   .cases a6:t.a with
    |none=>rw[a6]at au;cases au
    |some A=>rw[a6]at f;cases f
  rintro U ⟨dG,ap,l,a7,a9,cf⟩;have cg:=a9.lt;obtain⟨ac,M,ag,N⟩:=bK (V:=⟨none,0,0⟩) l.o;have F:∀q,aB aC q->bw q:=λq c=>(l.d.2 q c).1;have bN:∀q,ap q->¬(q=aS\/aB aC q):=λq f c=>by
   rcases l.b2 q f with g|g
   .rcases c with e|c
    .omega
    .have:=(l.aO q (F q c)).1;omega
   .rcases c with e|c
    .exact g.2.2.2.1 e
    .exact g.2.2.2.2.2 (F q c)
  have bb:IntKind.wrap .i64 ((j:Int)+1)=((j+1:Nat):Int):=by rw[bq I I];rfl
  refine⟨aC,N,_,by rw[aA];exact a9.cell,(B5 (W:=λ_=>True) kids[j] l.o (o:=3) (by simp) l.d (λf=>(l.aO _ f).2.2.2.1 rfl) (by rw[cv,cz,cz];omega) λw' aE aw ay p=>⟨⟨j+1,dG,aE,ap,Grow bw U w',bb,I,?_,?_⟩,?_⟩).2⟩
  .exact Ext.dT a7 p λq c=>by
    rcases c with rfl|c
    .exact h2
    .exact(l.aO q (F q c)).1
  .have bL:=p.size
   refine⟨l.eV.ah p λc=>?_,l.r.ah p λc=>?_,aw,?_,?_,λq f=>?_,λq f=>?_,l.mM⟩
   .rcases c with e|c
    .exact L.1 e
    .exact(l.aO _ (F _ c)).2.2.1 rfl
   .rcases c with e|c
    .exact L.2.2 e.symm
    .exact(l.aO _ (F _ c)).2.2.2.2 rfl
   .exact bm.ah l.k p bN
   .rw[j3 aH,←cD];exact ay
   .refine(l.b2 q f).imp id λg=>⟨g.1,I,g.2.2.1,g.2.2.2.1,g.2.2.2.2.1,λhd=>?_⟩
    rcases hd with hd|hd
    .exact g.2.2.2.2.2 hd
    .omega
   .rcases f with f|f
    .exact⟨(l.aO q f).1,by have:=(l.aO q f).2.1;omega,(l.aO q f).2.2⟩
    .refine⟨by have:=a7.size;omega,f.2,λe=>?_,λe=>?_,λe=>?_⟩
     .have:=l.eV.lt;omega
     .have:=l.o.lt;omega
     .have:=l.r.lt;omega
  .rw[bb]
   show((kids.length:Int)-((j+1:Nat):Int)).toNat<((kids.length:Int)-(j:Int)).toNat;omega
 .have aJ:j=kids.length:=by
   have:¬(j:Int)<(s.len:Int):=cE aJ;omega
  subst aJ;have bc:Ext u u.drew:=cG _;have h:=h.ext bc;have y:=y.trans bc;have ab:ks.take (kids.length-1)=ks:=dC I;rw[ab,j5]at h;obtain⟨ac,M,ag,N⟩:=bK (V:=⟨none,0,0⟩) h.o;obtain⟨kS,hX,ey,bd⟩:=bK h.eV;have be:bT (λq=>B q/\q<w.heap.size) w n K V D:=bx.a_ λq c f=>⟨f,c⟩;have aN:=be.ext y;have bg:=bH.len aN.keys;have bh:=c2.len aN.kids;have bi:IntKind.wrap .i64 ((to:Int)-1)=((to-1:Nat):Int):=by rw[bq I I];omega
  have av:∀q,aB z q->bD q:=λq c=>by
   obtain⟨ts,_,_,H,_⟩:=h.k;exact(H q c).1
  have F:∀q,aB aC q->bw q:=λq c=>(h.d.2 q c).1;have bj:=bH.sub aN.keys (lo:=to-1) (hi:=n.keys.length) t3 (bk _);have bO:(n.keys.drop (to-1)).take (n.keys.length-(to-1))=n.keys.drop (to-1):=dC (by rw[eg];exact bk _);rw[bO]at bj;obtain⟨P,aj,aF,aI,C⟩:=yP h.k bj (λq c aM=>by have:=h.mM q aM;omega) (by rw[cv,cz];omega) (by rw[eg];omega);have ch:u.drew.heap.size=u.heap.size:=rfl;have E:∀q,aB z q->q<u.drew.heap.size/\q≠nb/\q≠aS/\q≠x/\¬bw q:=λq c=>by
   have bM:=h.mM q c;rcases h.b2 q (av q c) with g|g
   .omega
   .exact g.2
  have ci:=C.size;have bP:Ext w aj:=Ext.dT y C λq c=>h.mM q c;have bn:=h.o.ah C λc=>(E _ c).2.2.1 rfl;have bQ:=h.eV.ah C λc=>(E _ c).2.1 rfl;have bR:=h.r.ah C λc=>(E _ c).2.2.2.1 rfl;have bS:cN bw aj aC _:=cN.ah h.d C λq f c=>(E q c).2.2.2.2 f;obtain⟨b5,cp⟩:=eF bn (i:=1) (by simp);refine aX ⟨id,z,M,id,K,hX,?_,P,aj,?_,by rw[aA];exact b5,by rw[aA];exact cp,?_⟩
  .rw[bi,bg];omega
  .rw[bi,dc,bg];exact aF
  rw[aA,cR];have R:=ed aj aS 1 P;have al:=eE bn (i:=1) P;obtain⟨G,bU⟩:∃G,G=aj.setCell ⟨aS,1,none⟩ P:=⟨_,rfl⟩;rw[←bU]at R al⊢;have ck:=R.size;have aP:=bQ.ah R (λe=>L.1 e);have aQ:=bR.ah R (λe=>L.2.2 e.symm);have aR:cN bw G aC _:=cN.ah bS R λq f e=>(h.aO q f).2.2.2.1 e;have am:Ext w G:=Ext.cC bP R h2;have X:Ext G G.drew:=cG _;have bo:∀q,(bD q\/(B q/\q<w.heap.size)\/u.drew.heap.size<=q)->q≠aS:=λq c e=>by
   subst e;rcases c with c|c|c
   .rcases h.b2 _ c with g|g
    .omega
    .exact g.2.2.2.1 rfl
   .omega
   .have:=h.o.lt;omega
  have bV:=bH.ext (bH.ah aI R bo) X;have al:=al.ext X;have aP:=aP.ext X;have aQ:=aQ.ext X;have aR:=cN.ext aR X;have am:=am.trans X;obtain⟨ac,M,ag,N⟩:=bK (V:=⟨none,0,0⟩) al;obtain⟨kS,hX,ey,bd⟩:=bK aP;have bp:=c2.sub (be.ext am).kids (lo:=to) (hi:=n.kids.length) t2 (bk _);have bW:(n.kids.drop to).take (n.kids.length-to)=n.kids.drop to:=dC (by rw[eg];exact bk _);rw[bW]at bp;obtain⟨S,ax,f1,f2,f3⟩:=Ce aR bp (by rw[cv,cz];omega) (by rw[eg];omega);have cl:G.drew.heap.size=G.heap.size:=rfl;have cm:=f3.size;have az:∀q,aB aC q->w.heap.size<=q/\q<u.drew.heap.size/\q≠nb/\q≠aS/\q≠x:=λq c=>h.aO q (F q c);have bX:Ext w ax:=Ext.dT am f3 λq c=>(az q c).1;have br:=al.ah f3 λc=>(az _ c).2.2.2.1 rfl;have bY:=aQ.ah f3 λc=>(az _ c).2.2.2.2 rfl;have bZ:=bH.ah bV f3 λq f c=>by
   have co:=az q c;rcases f with f|f|f
   .rcases h.b2 q f with g|g
    .omega
    .exact g.2.2.2.2.2 (F q c)
   .omega
   .omega
  obtain⟨b5,cp⟩:=eF br (i:=3) (by simp);refine aX (aX ⟨id,aC,N,id,D,bd,?_,S,ax,?_,by rw[aA];exact b5,by rw[aA];exact cp,?_⟩)
  .rw[bh];omega
  .rw[dc,bh];exact f1
  rw[aA,cR];have Z:=ed ax aS 3 S;have bs:=eE br (i:=3) S;obtain⟨aT,b0⟩:∃aT,aT=ax.setCell ⟨aS,3,none⟩ S:=⟨_,rfl⟩;rw[←b0]at Z bs⊢;have cq:=Z.size;have b1:=bY.ah Z (λe=>L.2.2 e.symm);have b3:Ext w aT:=Ext.cC bX Z h2;have b4:=bH.ah bZ Z bo;have b6:=c2.ah f2 Z λq f e=>by
   subst e;rcases f with f|f|f
   .exact(h.aO _ f).2.2.2.1 rfl
   .omega
   .have:=h.o.lt;omega
  obtain⟨ac,M,ag,N⟩:=bK (V:=⟨none,0,0⟩) bs;refine aX ⟨_,ac,P,M,⟨none,0,0⟩,ag,S,N,?_⟩;refine iX false P ⟨none,0,0⟩ S b1 bz (Q:=λb K V D ai=>wG B n fr to ks kids w (.agg #[b,K,V,D]) ai) λcr aU=>?_;refine⟨P,⟨none,0,0⟩,S,rfl,⟨?_,?_,?_⟩,Ext.cC b3 aU H⟩
  .refine bH.a_ (bH.ah b4 aU λq f e=>?_) λq _ f=>?_
   .subst e
    rcases f with f|f|f
    .rcases h.b2 _ f with g|g
     .omega
     .exact g.2.2.2.2.1 rfl
    .omega
    .have:=h.r.lt;omega
   .rcases f with f|f|f
    .rcases h.b2 _ f with g|g
     .exact .inl g.1
     .exact .inr g.1
    .exact .inl f.1
    .have:=y.size;exact .inr I
  .exact bH.none _ _
  .refine c2.a_ (c2.ah b6 aU λq f e=>?_) λq _ f=>?_
   .subst e
    rcases f with f|f|f
    .exact(h.aO _ f).2.2.2.2 rfl
    .omega
    .have:=h.r.lt;omega
   .rcases f with f|f|f
    .exact .inr (h.aO _ f).1
    .exact .inl f.1
    .have:=am.size;exact .inr I
theorem zb(K D:ad)(w:J):Sem.run aj (Instr.build 169 #[(1,K),(3,D)]) w=.ok (.agg #[false,K,(),D]) w:=by kernel_rfl
theorem qD{B:Nat->Prop}{w:J}{n:aD}{K V D s:ad}{ks:O Key}{kids:O Nat}{fr to:Nat}(Q:bT B w n K V D)(am:ly B w s ks kids)(f1:fr<=n.keys.length)(f2:fr<=n.kids.length)(t1:1<=to)(t2:to<=n.kids.length)(t3:to-1<=n.keys.length)(cc:n.keys.length<=1000)(bB:n.kids.length<=1000):
 aI aj 233 #[dg n K V D,fr,to,s] w (wG B n fr to ks kids w):=by
 refine okF (ae.qD n.leaf K V D (fr:Nat) (to:Nat) s) ax.qD func233 ?_;(delta ae.qD z5 Y r1 bE jm ak aO aG z9 qc st aq aV r3;dsimp only);refine ba (vs:=[n.leaf,K,V,D]) rfl λw1 an ao aE=>?_;refine ba (vs:=[false,(),(),()]) rfl λai ap R aF=>aX ?_;have E:Ext ai ai.drew:=cG _;have H:=(ao.trans R).trans E;obtain⟨d,S⟩:∃d,d=ai.drew:=⟨_,rfl⟩;have aJ:d.heap.size=ai.heap.size:=by rw[S];rfl
 rw[←S]at H E⊢;have T:=(an.ext R).ext E;have ar:=ap.ext E;obtain⟨bU,aW,a8,bg⟩:=bK T;have t:bT (λq=>B q/\q<w.heap.size) d n K V D:=(Q.a_ λq a c=>⟨c,a⟩).ext H;have aK:=bH.len t.keys;have aL:=c2.len t.kids;have aM:=bH.le t.keys;have aN:=t.kids.2.1;have L:=bH.sub t.keys (lo:=0) (hi:=fr) (cM _) f1;have F:=c2.sub t.kids (lo:=0) (hi:=fr) (cM _) f2;rw[iM,mY]at L F;have U:Int.toNat (fr:Int)-0=fr:=by rw[dc];rfl
 have fin:∀ (cY M:J) (aS:Nat) (ei D0:ad),M.heap.size=aS->Ext d cY->Var cY aS [false,ei,(),D0] 169->d.heap.size<=aS->bm (λq=>(B q/\q<w.heap.size)\/(d.heap.size<=q/\aB ei q)) cY ei (n.keys.take fr)->aT 1 3 cY D0 (fW (n.kids.take fr))->
  (∀q,aB ei q->d.heap.size<=q/\q≠aS)->(∀q,aB D0 q->d.heap.size<=q/\q≠aS/\¬aB ei q)->ae.x4 w M w1 s (to:Nat) cY (wG B n fr to ks kids w):=by
  intro cY M aS ei D0 au hx av aP W N X Z;have aQ:=hx.size;have aH:∀q,aB ei q->q<cY.heap.size:=λq a=>by
   obtain⟨ts,_,o,_,_⟩:=W;exact o.lt q a
  refine IE (bD:=λq=>(B q/\q<w.heap.size)\/aB ei q) (bw:=λq=>aB D0 q) ⟨T.ext hx,ar.ext hx,av,bm.a_ W λq _ c=>c.imp id λh=>h.2,⟨N,λq a=>⟨a,aT.lt N q a⟩⟩,λq c=>?_,λq c=>?_,λq a=>by have:=(X q a).1;omega⟩ (H.trans hx) Q am rfl (bk _) I I ⟨I,I,I⟩ t1 t2 t3 cc bB rfl au rfl
  .rcases c with c|c
   .exact .inl c
   .have x:=X q c
    exact .inr ⟨I,aH q c,I,x.2,I,λaw=>(Z q aw).2.2 c⟩
  .have x:=Z q c
   exact⟨I,aT.lt N q c,I,x.2.1,I⟩
 refine⟨λ_=>False,id,K,aW,⟨I,I⟩,id,D,bg,⟨I,I⟩,?_,?_⟩
 .rw[U]
  refine(C4 L (by rw[cz];omega)).use ?_;rintro _ u ⟨ei,rfl,p,f,y⟩;have ay:=f.size;refine⟨ei,rfl,f,?_,?_⟩
  .refine(sI (F.1.ext f) (by rw[cz];omega)).use ?_
   rintro _ aa ⟨D0,rfl,v,G,ab⟩;have aR:=G.size;refine⟨D0,rfl,G,_,zb ei D0,ba (vs:=[false,(),(),()]) rfl λaU ac af aY=>⟨af,ac.cn rfl (fM (b:=false) (K:=ei) (V:=⟨none,0,0⟩) (D:=D0)),rfl,cT ac (us:=[false,ei,(),D0]) rfl rfl λg z j ag=>?_⟩⟩;have k:Ext aa g:=Ext.cC af j (bk _);have r:∀q,aB ei q->q<u.heap.size:=λq a=>by
    obtain⟨ts,_,o,_,_⟩:=p;exact o.lt q a
   exact fin g aa _ ei D0 rfl (f.trans (G.trans k)) z I (bm.a_ (bm.ext p (G.trans k)) λq _ c=>c.imp (λh=>h.1) id) (v.ext k) (λq a=>⟨y q a,by have:=r q a;omega⟩) λq a=>⟨by have:=ab q a;omega,by have:=aT.lt v q a;omega,λh=>by have:=r q h;have:=ab q a;omega⟩
  .refine ba (vs:=[false,(),(),()]) rfl λal P l az=>⟨l,(sI ((F.1.ext f).ext l) (by rw[cz];omega)).use ?_⟩
   rintro _ aA ⟨D0,rfl,v,m,i⟩;have A:=P.ext m;refine⟨D0,rfl,m,_,zb ei D0,A.cn rfl (fM (b:=false) (K:=ei) (V:=⟨none,0,0⟩) (D:=D0)),rfl,cT A (us:=[false,ei,(),D0]) rfl rfl λg z j ag=>?_⟩;have k:Ext u g:=Ext.cC (l.trans m) j (bk _);have r:∀q,aB ei q->q<u.heap.size:=λq a=>by
    obtain⟨ts,_,o,_,_⟩:=p;exact o.lt q a
   exact fin g u _ ei D0 rfl (f.trans k) z I (bm.a_ (bm.ext p k) λq _ c=>c.imp (λh=>h.1) id) (v.ah j λq a e=>by have:=i q a;omega) (λq a=>⟨y q a,by have:=r q a;omega⟩) λq a=>⟨by have:=i q a;omega,by have:=i q a;omega,λh=>by have:=r q h;have:=i q a;omega⟩
 .rw[U]
  refine ba (vs:=[false,(),(),()]) rfl λal P l az=>⟨l,(C4 (bH.ext L l) (by rw[cz];omega)).use ?_⟩;rintro _ u ⟨ei,rfl,p,f,y⟩;have ay:=f.size;refine⟨ei,rfl,f,(sI ((F.1.ext l).ext f) (by rw[cz];omega)).use ?_⟩;rintro _ aA ⟨D0,rfl,v,m,i⟩;have A:=(P.ext f).ext m;refine⟨D0,rfl,m,_,zb ei D0,A.cn rfl (fM (b:=false) (K:=ei) (V:=⟨none,0,0⟩) (D:=D0)),rfl,cT A (us:=[false,ei,(),D0]) rfl rfl λg z j ag=>?_⟩;have k:Ext d g:=Ext.cC ((l.trans f).trans m) j (bk _);have r:∀q,aB ei q->q<u.heap.size:=λq a=>by
   obtain⟨ts,_,o,_,_⟩:=p;exact o.lt q a
  have aC:bm (λq=>(B q/\q<w.heap.size)\/(d.heap.size<=q/\aB ei q)) g ei (n.keys.take fr):=by
   have x:=bm.a_ (C:=λq=>(B q/\q<w.heap.size)\/(al.heap.size<=q/\aB ei q)) (bm.ext p m) λq _ c=>c.imp (λh=>h.1) id;exact bm.a_ (bm.ah x j λq c e=>by rcases c with c|c<;>omega) λq _ c=>c.imp id λh=>⟨I,h.2⟩
  exact fin g d _ ei D0 rfl k z (bk _) aC (v.ah j λq a e=>by have:=i q a;omega) (λq a=>⟨by have:=y q a;omega,by have:=y q a;omega⟩) λq a=>⟨by have:=i q a;omega,by have:=i q a;omega,λh=>by have:=r q h;have:=i q a;omega⟩
def l4(n:aD):Prop:=cI n/\bC n<=400/\(232<bC n->1<=cu n/\(if n.leaf then cu n<=n.keys.length-1/\1<=n.keys.length-1 else cu n<=n.keys.length-2/\1<=n.keys.length-2)/\bC (n.left (cu n))<=232/\bC (n.right (cu n))<=232)
structure l5(B:Nat->Prop)(w:J)(A:ag)(u:dy):Prop where
 aW:w.cell? (A.add 1)=some (.bool u.n.leaf)
 a8:w.cell? ((A.add 1).add 1)=some (.slice u.K.a u.K.len u.K.cap)
 bg:w.cell? ((A.add 1).add 2)=some (.slice u.V.a u.V.len u.V.cap)
 fL:w.cell? ((A.add 1).add 3)=some (.slice u.D.a u.D.len u.D.cap)
 iY:w.cell? (A.add 5)=some (.int .i64 (u.cQ:Nat))
 cd:bT B w u.n u.K u.V u.D
 bM:B A.block
 lt:A.block<w.heap.size
theorem l5.ext{B:Nat->Prop}{w w':J}{A:ag}{u:dy}(h:l5 B w A u)(hx:Ext w w'):l5 B w' A u:=
 ⟨af.cell hx (λh=>h) h.aW,af.cell hx (λh=>h) h.a8,af.cell hx (λh=>h) h.bg,af.cell hx (λh=>h) h.fL,af.cell hx (λh=>h) h.iY,h.cd.ext hx,h.bM,fi h.lt hx.size⟩
theorem l5.to{w w':J}{T au:aK}{k:Nat}{A:ag}{u:dy}(h:l5 (λq=>¬T.M q) w A u)(ht:bS T au w w' k):l5 (λq=>¬au.M q) w' A u:=by
 have hc:=ht.ah;have a:¬T.N A.block:=λc=>h.bM (aK.gN c);refine⟨af.cell hc (A:=A.add 1) a h.aW,af.cell hc (A:=(A.add 1).add 1) a h.a8,af.cell hc (A:=(A.add 1).add 2) a h.bg,af.cell hc (A:=(A.add 1).add 3) a h.fL,af.cell hc (A:=A.add 5) a h.iY,?_,λd=>?_,fi h.lt hc.size⟩
 .have h1:=ht.cd (lo:=0) (h.cd.a_ λq _ b=>⟨cM _,b⟩)
  exact h1.a_ λq _ b=>b.2
 .rcases ht.c6 _ d with h1|h1
  .exact h.bM h1
  .have:=h.lt;omega
theorem hW.base{T:aK}{c:dA}{n:aD}{w0 w w':J}{v:aa}(h:hW T c n w v w')(hx:Ext w0 w):hW T c n w0 v w':=by
 obtain⟨au,c',m,s,aw,ay,a,b⟩:=h;exact⟨au,c',m,s,aw,((dk.ext T c hx).trans ay).mono I,a,b⟩
theorem hW.out{T:aK}{c:dA}{n:aD}{w w':J}{v:aa}(h:hW T c n w v w'):∃ (s:ad) (e:Int),v=.tuple #[s,e]:=by
 obtain⟨au,c',m,s,aw,ay,b,a⟩:=h;rcases a with ⟨ks,rfl,_⟩|⟨rfl,_⟩
 .exact⟨s,0,rfl⟩
 .exact⟨s,3,rfl⟩
theorem IF{W X:Nat->Prop}{w0 cY ar iO au gf:J}{T:aK}{c:dA}{nb aS g bv:Nat}{A:ag}{u:dy}{n o:aD}{K V D i j k:ad}{fr other:Nat}{Q:aa->J->Prop}(h:dj w0 T c)(hx:Ext w0 cY)(av:Var w0 nb (ec n K V D) 169)(aw:Var w0 aS (ec o i j k) 169)
 (ax:Var cY g (ec o i j k) 169) (ay:Var cY bv (ec n K V D) 169) (h1:w0.heap.size<=g) (h2:w0.heap.size<=bv) (az:g≠bv) (aA:bT W w0 n K V D) (aB:bT X w0 o i j k) (hu:l5 (λq=>¬T.M q) w0 A u)
 (aC:T.C.D.a7<=900000090) (aE:2<=cm T) (aF:c.made.length<=900) (Z:cI n) (ab:cI o) (bL:bC n<=400) (bM:bC o<=400) (aH:o.leaf=n.leaf) (bb:fr<u.n.keys.length) (aI:cw u.n.keys[fr]) (m:aD) (aJ:m=if u.cQ<other then dK n u.n.keys[fr] o else dK o u.n.keys[fr] n) (l:l4 m) (bN:fr<=1000)
 (aL:∀ (s:ad) (e:Int) (w':J),hW T c m w0 (.tuple #[s,e]) w'->Q (.tuple #[s,fr,.int .i64 ((fr+2:Nat):Int),e]) w') (bc:ar.heap.size=nb) (bd:iO.heap.size=aS) (be:au.heap.size=g) (bf:gf.heap.size=bv):
 ae.x5 ar iO au gf (some c.cb) (some A) (fr:Nat) (other:Nat) cY Q:=by
 have bO:=av.lt;have bP:=aw.lt;have bQ:=hx.size;have fn:=Z.eS I;have bR:=ab.eS I;(delta ae.x5 b3 aG ak Y aV r1 oC aO lR z5 qd ew aq;dsimp only);rw[bc,bd,be,bf];refine k9 (λp=>∃ (a b:aD) (G H L N O P:ad) (aM aN:Nat->Prop),Ext w0 p/\Var p g (ec a G H L) 169/\Var p bv (ec b N O P) 169/\bT aM w0 a G H L/\bT aN w0 b N O P/\m=dK a u.n.keys[fr] b/\cI a/\cI b/\a.leaf=b.leaf/\a.keys.length<=200/\b.keys.length<=200)
  (λq r=>⟨A,rfl,_,(hu.ext hx).iY,λd=>?_,λd=>r _ ⟨o,n,i,j,k,K,V,D,X,W,hx,ax,ay,aB,aA,?_,ab,Z,aH,I,I⟩⟩) ?_
 .have d:u.cQ<other:=by
   have:(other:Int)>(u.cQ:Int):=cj d;omega
  have f:=hx.trans (cG cY);obtain⟨bg,cc,bB,bh⟩:=bK (av.ext f);obtain⟨bi,bj,bl,bm⟩:=bK (aw.ext f);have aP:=ax.drew;have bn:=ay.drew;refine aX ⟨λq=>q=g,(show nb≠g from I),_,bg,K,cc,V,bB,D,bh,(show aS≠g from I),_,bi,i,bj,j,bl,k,bm,aP.cn rfl fM,rfl,cT aP (us:=ec n K V D) rfl rfl λbS bo ac bU=>?_⟩;have aQ:=bn.ah ac (λe=>az e.symm);refine⟨ac,aQ.cn rfl fM,rfl,cT aQ (us:=ec o i j k) rfl rfl λbV bp aR bW=>?_⟩;exact r _ ⟨n,o,K,V,D,i,j,k,W,X,Ext.cC (Ext.cC f ac h1) aR h2,bo.ah aR az,bp,aA,aB,by rw[aJ,if_pos d],Z,ab,aH.symm,I,I⟩
 .have d:¬u.cQ<other:=by
   have:¬(other:Int)>(u.cQ:Int):=cE d;omega
  rw[aJ,if_neg d]
 rintro p ⟨a,b,G,H,L,N,O,P,aM,aN,br,bs,d,aT,aU,af,aW,sb,aY,la,lb⟩;have f:=br.trans (cG p);have bt:=bs.drew;have bu:=d.drew;obtain⟨a0,a1,a2,a3⟩:=bK bt;obtain⟨bw,cB,b6,bx⟩:=bK bu;have aZ:=hu.ext f;obtain⟨bz,tk,bA,bD,bE,R,bX⟩:=bH.at aZ.cd.keys bb;have a4:cI (dK a u.n.keys[fr] b):=by rw[←af];exact l.1
 have B:=oV (aT.ext f) (aU.ext f) R.1 (λq r=>(R.2.2 q r).2) (by have:=aI.2;omega) aW sb aY a4 I I;rw[←af]at B;have a5:IntKind.wrap .i64 ((fr:Int)+2)=((fr+2:Nat):Int):=by rw[bq I I];rfl
 obtain⟨wd,bY⟩:∃wd,wd=p.drew:=⟨_,rfl⟩;refine aX ⟨λ_=>False,id,_,a0,G,a1,H,a2,L,a3,A,rfl,id,u.K,aZ.a8,bz,bA,bD,id,tk,bE,id,_,bw,N,cB,O,b6,P,bx,?_,?_⟩
 .refine B.use ?_
  rintro _ bF ⟨t,w,x,rfl,ai,y⟩;refine⟨_,t,w,x,true,rfl,y,ba (vs:=[false,(),(),()]) rfl λbZ a6 a9 b0=>⟨a9,a6.cn rfl fM,rfl,cT a6 (us:=ec m t w x) rfl rfl λaj al S bG=>⟨λd=>(by cases d),λ_=>?_⟩⟩⟩;have U:Ext bF aj:=Ext.cC a9 S (bk _);have E:=(f.trans y).trans U;obtain⟨am,an,ao,ap⟩:=bK al;refine⟨_,am,t,an,w,ao,x,ap,(wF (h.ext E) aC aE aF (ai.ext U) l.1 l.2.1 l.2.2).use ?_⟩;intro v w' F;obtain⟨s,e,rfl⟩:=F.out;rw[a5];exact⟨s,e,rfl,aL s e w' (F.base E)⟩
 .refine ba (vs:=[false,(),(),()]) rfl λb1 bI z b2=>⟨z,?_⟩
  have B:=oV ((aT.ext f).ext z) ((aU.ext f).ext z) (R.1.ext z) (λq r=>fi (R.2.2 q r).2 z.size) (by have:=aI.2;omega) aW sb aY a4 I I;rw[←af]at B;refine B.use ?_;rintro _ b4 ⟨t,w,x,rfl,ai,y⟩;have a_:=bI.ext y;refine⟨_,t,w,x,true,rfl,y,a_.cn rfl fM,rfl,cT a_ (us:=ec m t w x) rfl rfl λaj al S bG=>⟨λd=>(by cases d),λ_=>?_⟩⟩;have U:Ext p.drew aj:=Ext.cC (z.trans y) S (bk _);have E:=f.trans U;have bJ:=bT.ah ai S λq r e=>by omega
  obtain⟨am,an,ao,ap⟩:=bK al;refine⟨_,am,t,an,w,ao,x,ap,(wF (h.ext E) aC aE aF bJ l.1 l.2.1 l.2.2).use ?_⟩;intro v w' F;obtain⟨s,e,rfl⟩:=F.out;rw[a5];exact⟨s,e,rfl,aL s e w' (F.base E)⟩
theorem dk.leave{T:aK}{c c':dA}{E G:Nat->Prop}{w w':J}{no:Nat}(h:bS T (T.cy E G) w w' 0)(a:E=T.E)(b:∀q,T.G q->G q)(h1:c'.cb=c.cb)(h2:c'.made=c.made)(d:c'.left=c.left++ [no]):dk T (T.cy E G) c c' [] [no] w w' 0:=
 ⟨h,a,b,rfl,rfl,h1,by rw[h2,fu],d,List.nodup_nil,λ_ h=>(by cases h),λno=>by simp[aK.cy],λ_ _=>⟨rfl,rfl⟩,by simp[cm,aK.cy]⟩
theorem IG{w F iO:J}{T:aK}{c:dA}{nb aS:Nat}{A:ag}{u:dy}{n o:aD}{K V D g i j:ad}{fr other no:Nat}{Q:aa->J->Prop}(h:dj w T c)(aC:Var w nb (ec n K V D) 169)(aE:Var w aS (ec o g i j) 169)
 (aF:¬T.M nb) (aH:¬T.M aS) (aI:bT (λq=>¬T.M q) w n K V D) (aJ:bT (λq=>¬T.M q) w o g i j) (hu:l5 (λq=>¬T.M q) w A u)
 (aL:T.C.D.a7<=900000090) (aM:2<=cm T) (aN:c.made.length<=900) (bz:c.left.length<=900) (aP:cI n) (aQ:cI o) (aR:bC n<=400) (aT:bC o<=400) (aU:o.leaf=n.leaf) (aY:fr<u.n.keys.length) (aZ:cw u.n.keys[fr]) (m:aD) (H:m=if u.cQ<other then dK n u.n.keys[fr] o else dK o u.n.keys[fr] n) (a0:l4 m) (a1:fr<=1000)
 (a2:∀ (s:ad) (e:Int) (bY:aK) (aW:dA) (w1 w':J),dk T bY c aW [] [no] w w1 0->hW bY aW m w1 (.tuple #[s,e]) w'->Q (.tuple #[s,fr,.int .i64 ((fr+2:Nat):Int),e]) w') (x:F.heap.size=nb) (y:iO.heap.size=aS):
 ae.x6 F iO (some c.cb) (some A) (fr:Nat) (other:Nat) (no:Nat) 0 w Q:=by
 (delta ae.x6 qf ak r1 Y st aV z5 r5 b3 aG oC aO lR qd ew aq;dsimp only);rw[x,y];refine⟨λL=>(by cases L),λ_=>⟨_,rfl,_,h.cells.2.2,?_⟩⟩;obtain⟨k,ao,aw,ay,a3,a4,a5⟩:=CY h no I;refine aX ⟨k,ao,aw,_,rfl,by rw[aA];exact a3,by rw[aA];exact a4,aX ?_⟩;rw[aA];obtain⟨b,ap⟩:∃b,b=ao.setCell ⟨c.cb,0+2,none⟩ k:=⟨_,rfl⟩;rw[←ap];obtain⟨ar,au⟩:=a5 b ap;have av:=dk.leave (c:=c) (c':={c with gG:=k,left:=c.left++ [no]}) (no:=no) au rfl (λq O=>.inl O) rfl rfl rfl;obtain⟨bY,z⟩:∃bY,bY=T.cy T.E λq=>T.G q\/aB k q:=⟨_,rfl⟩;obtain⟨aW,P⟩:∃aW:dA,aW={c with gG:=k,left:=c.left++ [no]}:=⟨_,rfl⟩;have a6:aW.cb=c.cb:=by rw[P]
 have a8:aW.made=c.made:=by rw[P]
 have a9:bY.C.D.a7<=900000090:=by rw[z];exact aL
 have a_:2<=cm bY:=by rw[z];exact aM
 rw[←z,←P]at ar av;rw[←z]at au;have R:Ext b b.drew:=cG _;have ax:=ar.ext R;have S:dk T bY c aW [] [no] w b.drew 0:=av.trans (dk.ext bY aW R);obtain⟨a,bb⟩:∃a,a=b.drew:=⟨_,rfl⟩;rw[←bb]at R ax S⊢;have B:=S.to;have U:∀q,¬T.M q->¬T.N q:=λq h1 h2=>h1 (aK.gN h2);have W:=aC.ah B.ah (U _ aF);have X:=aE.ah B.ah (U _ aH);have az:∀ {m:aD}{K V D:ad},bT (λq=>¬T.M q) w m K V D->bT (λq=>¬T.M q) a m K V D:=λH=>bT.ah H B.ah λq O=>U q O;have bc:=az aI;have bd:=az aJ;have be:=hu.to B;obtain⟨bf,cc,bB,bg⟩:=bK W;obtain⟨bh,bi,bj,bl⟩:=bK X;have bA:=W.lt;have bD:=X.lt;have fin:∀ (cY Z gf:J) (l bv:Nat),Z.heap.size=l->gf.heap.size=bv->Ext a cY->Var cY l (ec o g i j) 169->Var cY bv (ec n K V D) 169->a.heap.size<=l->a.heap.size<=bv->l≠bv->ae.x5 F iO Z gf (some c.cb) (some A) (fr:Nat) (other:Nat) cY Q:=by
  intro cY Z gf l bv bm bn hx bo L h1 h2 bp;have:=IF ax hx W X bo L h1 h2 bp bc bd be a9 a_ (by rw[a8];exact aN) aP aQ aR aT aU aY aZ m H a0 a1 (Q:=Q) (λs e w' hf=>a2 s e bY aW a w' S hf) x y bm bn;rw[a6]at this;exact this
 refine aX ⟨λq=>a.heap.size<=q,(show¬a.heap.size<=aS from I),_,bh,g,bi,i,bj,j,bl,(show¬a.heap.size<=nb from I),_,bf,K,cc,V,bB,D,bg,?_,?_⟩
 .refine ba (vs:=[false,(),(),()]) rfl λab bq p br=>⟨af.cX p,ba (vs:=[false,(),(),()]) rfl λbs ac d bt=>?_⟩
  have r:=bq.ext d;refine⟨af.cX d,r.cn rfl fM,rfl,cT r (us:=ec o g i j) rfl rfl λai aj f bu=>?_⟩;have t:=ac.ah f I;have al:Ext a ai:=Ext.cC (p.trans d) f (bk _);refine⟨f.mono λq _ e=>I,t.cn rfl fM,rfl,cT t (us:=ec n K V D) rfl rfl λam an v bw=>?_⟩;rw[←x,←y];exact fin am a ab _ _ rfl rfl (Ext.cC al v I) (aj.ah v I) an (bk _) I I
 .refine ba (vs:=[false,(),(),()]) rfl λab bx p br=>⟨af.cX p,ba (vs:=[false,(),(),()]) rfl λbs r d bt=>?_⟩
  have ac:=bx.ext d;refine⟨af.cX d,r.cn rfl fM,rfl,cT r (us:=ec o g i j) rfl rfl λai aj f bu=>?_⟩;have t:=ac.ah f I;have al:Ext a ai:=Ext.cC (p.trans d) f I;refine⟨f.mono λq _ e=>I,t.cn rfl fM,rfl,cT t (us:=ec n K V D) rfl rfl λam an v bw=>?_⟩;rw[←x,←y];exact fin am ab a _ _ rfl rfl (Ext.cC al v (bk _)) (aj.ah v I) an I (bk _) I
theorem bS.read{w w':J}{T:aK}{E:Nat->Prop}{aJ:b4}{P:Nat->av aD}{k:Nat}(h:bS (T.cy E λ_=>False) ((T.cy E λ_=>False).bA aJ P) w w' k)(e:∀q,T.E q\/T.G q->E q)(f:∀q,E q->T.E q\/T.G q\/w.heap.size<=q):bS T (T.bA aJ P) w w' k:=by
 refine⟨h.bh,h.sb,h.n,h.g,h.s1,h.s2,h.c,h.d,h.b7,h.gen,h.a7,h.calm,h.ah.mono λq _ a=>?_,λq a=>?_,λq a=>?_⟩
 .rcases a with a|a|a|a
  .exact .inl a
  .exact .inr (.inl a)
  .exact .inr (.inr (.inl a))
  .exact a.elim
 .have h1:((T.cy E λ_=>False).bA aJ P).M q:=by
   rcases a with a|a|a|a
   .exact .inl a
   .exact .inr (.inl a)
   .exact .inr (.inr (.inl a))
   .exact .inr (.inr (.inr (.inl (e q a))))
  rcases h.c6 q h1 with h2|h2
  .rcases h2 with a|a|a|a|a
   .exact .inl (.inl a)
   .exact .inl (.inr (.inl a))
   .exact .inl (.inr (.inr (.inl a)))
   .rcases f q a with b|b|b
    .exact .inl (.inr (.inr (.inr (.inl b))))
    .exact .inl (.inr (.inr (.inr (.inr b))))
    .exact .inr b
   .exact a.elim
  .exact .inr h2
 .rcases a with a|a|a|a
  .rcases h.fn q (.inl a) with h2|h2
   .rcases h2 with h2|h2|h2|h2
    .exact .inl (.inl h2)
    .exact .inl (.inr (.inl h2))
    .exact .inl (.inr (.inr (.inl h2)))
    .exact h2.elim
   .exact .inr h2
  .exact .inl (.inr (.inl a))
  .exact .inl (.inr (.inr (.inl a)))
  .exact .inl (.inr (.inr (.inr a)))
theorem dk.cache{T:aK}{c:dA}{aJ:b4}{w w':J}{k:Nat}(h:bS T (T.bA aJ T.P) w w' k)(a:∀j,aJ.view j=T.C.view j):dk T (T.bA aJ T.P) c c [] [] w w' k:=
 ⟨h,rfl,λ_ h=>h,rfl,rfl,rfl,by simp,by simp,List.nodup_nil,λ_ h=>(by cases h),λno=>by simp[aK.bA],λno _=>⟨rfl,a no⟩,by simp[cm,aK.bA]⟩
theorem C5{w w1:J}{T:aK}{c:dA}{Z:Nat->Prop}{no:Nat}{o:aD}(h:dj w T c)(hx:Ext w w1)(g:∀q,Z q->w.heap.size<=q/\q<w1.heap.size)(y:T.C.D.a7<=999999999)(z:T.P no=some o):
 aI aj 175 #[.pointer (some T.bh),no,o.leaf] w1 (λv w'=>∃aJ:b4,(∀j,aJ.view j=T.C.view j)/\af (λq=>T.N q/\¬T.G q) w1 w'/\(∀q,(T.bA aJ T.P).M q->T.M q\/w1.heap.size<=q)/\
  (∀f,af Z w' f->dj f (T.bA aJ T.P) c/\dk T (T.bA aJ T.P) c c [] [] w f 2)/\
  ((∃ (K V D:ad),v=.tuple #[dg o K V D,(0:Int)]/\bT (λq=>w1.heap.size<=q/\¬(T.bA aJ T.P).M q) w' o K V D)\/(v=.tuple #[dg iW bI bI bI,(3:Int)]/\¬T.C.D.calm 2))):=by
 obtain⟨A,i⟩:=h.t.eV no o z;obtain⟨bO,k⟩:∃bO,bO=λq=>T.E q\/T.G q\/Z q:=⟨_,rfl⟩;have d:∀q,T.E q\/T.G q\/Z q->bO q:=λq a=>by rw[k];exact a
 have l:∀q,bO q->T.E q\/T.G q\/Z q:=λq a=>by rw[k]at a;exact a
 have m:b_ w1 (T.cy bO λ_=>False):=h.t.grow (W:=λ_=>False) hx (λ_ h=>h.elim) (λq a=>(l q a).imp id (Or.imp id (g q))) (λ_ h=>h.elim) λ_ _ h=>h;have n:∀q,(T.cy bO λ_=>False).N q->T.N q/\¬T.G q:=λq a=>⟨by
  rcases a with a|a|a|a
  .exact .inl a
  .exact .inr (.inl a)
  .exact .inr (.inr (.inl a))
  .exact a.elim,λhg=>m.kO (d q (.inr (.inl hg))) a⟩
 refine(y_ m y A i.two o.leaf).mono ?_;rintro v w' ⟨aJ,B,ht,r,F⟩;have Q:=hx.size;have R:=ht.ah.size;have s:=(bS.ext (T.cy bO λ_=>False) hx).trans ht;rw[cR]at s;have H:bS T (T.bA aJ T.P) w w' 2:=bS.read (E:=bO) s (λq a=>d q (a.imp id .inl)) λq a=>(l q a).imp id (Or.imp id λh=>(g q h).1);have u:af (λq=>T.N q/\¬T.G q) w1 w':=ht.ah.mono λq _ a=>n q a;refine⟨aJ,r,u,λq a=>?_,λf hc=>?_,?_⟩
 .rcases a with a|a
  .exact(ht.fn q (.inl a)).imp (λh=>aK.gN (n q h).1) id
  .exact .inl (.inr a)
 .have I:b_ f (T.bA aJ T.P):=B.grow (E:=T.E) (G:=T.G) hc (λq a _=>.inl (d q (.inr (.inr a)))) (λq a=>.inl (d q (.inl a))) (λq a=>.inl (d q (.inr (.inl a)))) λq a=>(h.t.dV q a).2.2
  refine⟨(h.ext hx).of (W:=λq=>(T.N q/\¬T.G q)\/Z q) I ((u.mono λq _ a=>.inl a).trans (hc.mono λq _ a=>.inr a)) (λq hg a=>?_) rfl (λ_ h=>h) ht.b9.1,dk.cache ?_ r⟩
  .rcases a with a|a
   .exact a.2 hg
   .have:=h.t.lt (q:=q) (.inr (.inr (.inr (.inr hg))))
    have:=(g q a).1;omega
  .exact H.step (E:=T.E) (G:=T.G) hc (λq a S=>by have:=(g q a).1;omega) (λq a=>.inl a) λq a=>.inl a
 .rcases F with ⟨bB,K,V,D,rfl,L,eo⟩|⟨e,rfl,O,U⟩
  .obtain rfl:=gY.uniq i L
   refine .inl ⟨K,V,D,rfl,eo.a_ λq a x=>⟨x.1,λb=>x.2 ?_⟩⟩;rcases b with b|b|b|b|b
   .exact .inl b
   .exact .inr (.inl b)
   .exact .inr (.inr (.inl b))
   .exact .inr (.inr (.inr (.inl (d q (.inl b)))))
   .exact .inr (.inr (.inr (.inl (d q (.inr (.inl b))))))
  .refine .inr ?_
   rcases O with ⟨rfl,h1⟩|h1|⟨_,_,h1⟩
   .exact⟨rfl,h1⟩
   .obtain⟨p,aw,_⟩:=i
    have h1:fm (no:Int) (T.C.view no)=.error e:=h1;rw[aw]at h1;cases h1
   .exact absurd i (h1 o)
def jV(u:dy):Nat:=if u.cQ=0 then 1 else u.cQ-1
def l6(u:dy)(n o:aD):aD:=if u.cQ<jV u then dK n (u.n.keys.getD (u.cQ-1) []) o else dK o (u.n.keys.getD (u.cQ-1) []) n
def zc(T:aK)(c:dA)(n:aD)(u:dy)(w:J)(v:aa)(w':J):Prop:=
 (80<=bC n/\∃ (s:ad) (e:Int),v=.tuple #[s,u.cQ,.int .i64 ((u.cQ+1:Nat):Int),e]/\hW T c n w (.tuple #[s,e]) w')\/
 (bC n<80/\∃ (bY:aK) (aW:dA),v=.tuple #[(),(0:Int),(0:Int),(3:Int)]/\dj w' bY aW/\dk T bY c aW [] [] w w' 2/\¬T.C.D.calm 2)\/
 (bC n<80/\∃ (o:aD) (no:Nat) (bY:aK) (aW:dA) (w1:J) (s:ad) (e:Int),u.n.kids[jV u]? =some no/\T.P no=some o/\dk T bY c aW [] [no] w w1 2/\
   v=.tuple #[s,.int .i64 ((u.cQ-1:Nat):Int),.int .i64 ((u.cQ-1+2:Nat):Int),e]/\hW bY aW (l6 u n o) w1 (.tuple #[s,e]) w')
theorem IH{B:Nat->Prop}{w:J}{T:aK}{c:dA}{n:aD}{K V D:ad}(h:dj w T c)(j:bT B w n K V D)(d:l4 n)(o:T.C.D.a7<=900000080)(k:2<=cm T)(l:c.made.length<=900):
 aI aj 231 #[.pointer (some c.cb),dg n K V D,.pointer none] w (λv w'=>∃ (s:ad) (e:Int),v=.tuple #[s,(0:Int),(0:Int),e]/\hW T c n w (.tuple #[s,e]) w'):=by
 refine okF (ae.oR (some c.cb) n.leaf K V D none) ax.oR func231 ?_;(delta ae.oR ak aV Y r1 bP aG aq ew aO lg z5 qf st r5 b3 oC lR qd;dsimp only);refine ba (vs:=ec n K V D) rfl λw1 m f p=>?_;refine cx (λb w'=>b=true/\w1=w') (λq g=>⟨λ_=>g _ _ ⟨rfl,rfl⟩,λh=>(by cases h)⟩) ?_;rintro _ _ ⟨rfl,rfl⟩;refine⟨λ_=>rS (λa b w'=>a=0/\b=0/\w1=w') (λq g=>⟨λh=>(by cases h),λ_=>g _ _ _ ⟨rfl,rfl,rfl⟩⟩) ?_,λh=>(by cases h)⟩;rintro _ _ _ ⟨rfl,rfl,rfl⟩;obtain⟨bU,aW,a8,bg⟩:=bK m;refine⟨_,bU,K,aW,V,a8,D,bg,(wF (h.ext f) I k l (j.ext f) d.1 d.2.1 d.2.2).use ?_⟩;intro v w' i;obtain⟨s,e,rfl⟩:=i.out;exact⟨s,e,rfl,s,e,rfl,i.base f⟩
theorem II{w:J}{T:aK}{c:dA}{n:aD}{K V D:ad}{A:ag}{u:dy}(h:dj w T c)(au:bT (λq=>¬T.M q) w n K V D)(hu:l5 (λq=>¬T.M q) w A u)(av:cI n)(a3:bC n<=400)(ar:80<=bC n->l4 n)
 (a4:bC n<80->∃ (o:aD) (no:Nat),u.n.kids[jV u]? =some no/\T.P no=some o/\o.leaf=n.leaf/\u.cQ-1<u.n.keys.length/\cw (u.n.keys.getD (u.cQ-1) [])/\l4 (l6 u n o)) (bE:u.cQ<=900)
 (bF:T.C.D.a7<=900000080) (aP:2<=cm T) (aQ:c.made.length<=900) (a5:c.left.length<=900):
 aI aj 231 #[.pointer (some c.cb),dg n K V D,.pointer (some A)] w (zc T c n u w):=by
 have bG:=av.eS I;refine okF (ae.oR (some c.cb) n.leaf K V D (some A)) ax.oR func231 ?_;(delta ae.oR ak aV Y r1 bP aG aq ew aO lg z5 qf st r5 b3 oC lR qd;dsimp only);refine ba (vs:=ec n K V D) rfl λw1 X aR bH=>?_;obtain⟨nb,aa⟩:∃nb,nb=w.heap.size:=⟨_,rfl⟩;rw[←aa]at X⊢;refine cx (λb w'=>b=decide (80<=bC n)/\Ext w1 w') (λq f=>⟨λh=>(by cases h),λ_=>?_⟩) ?_
 .obtain⟨bU,aW,a8,bg⟩:=bK X
  refine⟨_,bU,K,aW,V,a8,D,bg,(oU (au.ext aR) av I).use ?_⟩;rintro _ bJ ⟨rfl,a9⟩;refine⟨_,rfl,f _ _ ⟨?_,a9⟩⟩;rw[e0,cg,cg];omega
 rintro _ p ⟨rfl,ab⟩;have ac:=aR.trans ab;refine⟨λg=>?_,λg=>?_⟩
 .have g:=cj g
  have L:=ar g;refine rS (λa b w'=>a=(u.cQ:Nat)/\b=((u.cQ+1:Nat):Int)/\Ext p w') (λq f=>⟨λ_=>?_,λh=>(by cases h)⟩) ?_
  .have y:Ext p p.drew:=cG _
   have aT:=hu.ext (ac.trans y);refine aX ⟨A,rfl,id,_,aT.iY,A,rfl,id,_,aT.iY,f _ _ _ ⟨rfl,?_,y⟩⟩;rw[bq I I];rfl
  rintro _ _ bL ⟨rfl,rfl,aU⟩;have r:=ac.trans aU;obtain⟨bU,aW,a8,bg⟩:=bK (X.ext (ab.trans aU));refine⟨_,bU,K,aW,V,a8,D,bg,(wF (h.ext r) I aP aQ (au.ext r) L.1 L.2.1 L.2.2).use ?_⟩;intro v w' ai;obtain⟨s,e,rfl⟩:=ai.out;exact⟨s,e,rfl,.inl ⟨g,s,e,rfl,ai.base r⟩⟩
 .have g:¬80<=bC n:=cE g
  obtain⟨o,no,aw,al,ay,aY,bb,L⟩:=a4 I;obtain⟨bM,bc⟩:=h.t.eV no o al;obtain⟨_,bd,bN⟩:=bc.is;have am:=hu.ext ac;refine⟨A,rfl,_,am.iY,((u.cQ-1:Nat):Int),p,?_,?_⟩
  .rw[run_max_int2]
   congr 2
   by_cases h0:u.cQ=0
   .rw[h0];rfl
   .rw[bq I I,if_neg I];omega
  refine cx (λa w'=>a=(jV u:Nat)/\p=w') (λq f=>⟨A,rfl,_,am.iY,λh0=>f _ _ ⟨?_,rfl⟩,λh0=>f _ _ ⟨?_,rfl⟩⟩) ?_
  .have:u.cQ=0:=by simpa using h0
   unfold jV;rw[if_pos this];rfl
  .have:u.cQ≠0:=by simpa using h0
   unfold jV;rw[if_neg this]
  rintro _ _ ⟨rfl,rfl⟩;have be:jV u<u.n.kids.length:=(jB.1 aw).1;obtain⟨a6,bf,bh,aZ⟩:=c2.at am.cd.kids be;have bi:u.n.kids[jV u]=no:=(jB.1 aw).2;rw[bi]at aZ;refine⟨A,rfl,u.D,am.fL,a6,bf,bh,_,aZ,aX ?_⟩;have y:Ext p p.drew:=cG _;obtain⟨z,bj⟩:∃z,z=p.drew:=⟨_,rfl⟩;rw[←bj]at y⊢;have r:=ac.trans y;have az:=h.ext r;have bO:=r.size;have bQ:=(ab.trans y).size;have aA:=X.ext (ab.trans y);have aB:∀q,T.M q->q<w.heap.size:=λq f=>h.t.lt f;have a0:u.n.keys.getD (u.cQ-1) []=u.n.keys[u.cQ-1]:=by rw[fQ,dI aY];rfl
  have fin:∀ (aJ:b4) (iO:J) (aS:Nat) (i k l:ad) (d:J),iO.heap.size=aS->dj d (T.bA aJ T.P) c->dk T (T.bA aJ T.P) c c [] [] z d 2->Var d nb (ec n K V D) 169->Var d aS (ec o i k l) 169->z.heap.size<=aS->¬(T.bA aJ T.P).M aS->bT (λq=>¬(T.bA aJ T.P).M q) d o i k l->
   ae.x6 w iO (some c.cb) (some A) ((u.cQ-1:Nat):Int) (jV u:Nat) (no:Nat) 0 d (λv w'=>zc T c n u w v w'):=by
   intro aJ iO aS i k l d bl B an bm bn bR bo bp;have a1:=((dk.ext T c r).trans an).mono (j:=2) I;have aC:=a1.to;have br:¬(T.bA aJ T.P).M nb:=λO=>by
    rcases an.to.c6 nb O with h1|h1
    .have:=aB _ h1;omega
    .omega
   have bs:bT (λq=>¬(T.bA aJ T.P).M q) d n K V D:=(aC.cd (lo:=0) (au.a_ λq _ g=>⟨cM _,g⟩)).a_ λq _ g=>g.2;have bt:(T.bA aJ T.P).C.D.a7<=900000090:=eG aC.a7 I;refine IG B bm bn br bo bs bp (hu.to aC) bt aP aQ a5 av bd a3 I ay aY (by rw[←a0];exact bb) (l6 u n o) (by unfold l6;rw[a0]) L I ?_ aa.symm bl;intro s e bY aW bu w' bv hf;exact .inr (.inr ⟨I,o,no,bY,aW,bu,s,e,aw,al,(a1.trans bv).mono I,rfl,hf⟩)
  have ao:∀q,T.N q->q<w.heap.size:=λq f=>aB q (aK.gN f);have err:∀ (aJ:b4) (d:J),dj d (T.bA aJ T.P) c->dk T (T.bA aJ T.P) c c [] [] z d 2->¬T.C.D.calm 2->zc T c n u w (.tuple #[(),(0:Int),(0:Int),(3:Int)]) d:=by
   intro aJ d B an Q;exact .inr (.inl ⟨I,_,c,rfl,B,((dk.ext T c r).trans an).mono I,Q⟩)
  obtain⟨bU,aW,a8,bg⟩:=bK aA;refine⟨λq=>T.N q/\¬T.G q,_,rfl,λf=>f.2 h.gc,_,az.cells.1,(λf=>by have:=ao _ f.1;show False;exact absurd this (by show¬nb<w.heap.size;omega)),_,bU,?_,?_⟩
  .rw[←ay]
   refine(C5 (Z:=λ_=>False) az (af.refl _ _) (λ_ h=>h.elim) I al).use ?_;rintro _ F ⟨aJ,ai,x,a2,R,aE⟩;have bw:=x.size;rcases aE with ⟨i,k,l,rfl,aF⟩|⟨rfl,Q⟩
   .refine⟨_,i,k,l,0,rfl,x,ba (vs:=[false,(),(),()]) rfl λbx S U bz=>⟨af.cX U,S.cn rfl fM,rfl,cT S (us:=ec o i k l) rfl rfl λd W m aH=>?_⟩⟩
    have E:Ext F d:=Ext.cC U m (bk _);obtain⟨ap,aL⟩:=R F (af.refl _ _);have H:=aA.ah x λf=>by have:=ao _ f.1;omega
    subst aa;refine fin aJ F _ i k l d rfl (ap.ext E) ((aL.trans (dk.ext _ _ E)).mono I) (H.ext E) W I (λO=>by have:=ap.t.lt O;omega) ?_;exact(aF.ext E).a_ λq _ g=>g.2
   .refine⟨_,bI,bI,bI,3,rfl,x,ba (vs:=[false,(),(),()]) rfl λbx S U bz=>⟨af.cX U,S.cn rfl fM,rfl,cT S (us:=ec iW bI bI bI) rfl rfl λd W m aH=>⟨λ_=>?_,λg=>(by cases g)⟩⟩⟩
    have E:Ext F d:=Ext.cC U m (bk _);obtain⟨ap,aL⟩:=R F (af.refl _ _);exact err aJ d (ap.ext E) ((aL.trans (dk.ext _ _ E)).mono I) Q
  .refine ba (vs:=[false,(),(),()]) rfl λbS bB aM bV=>⟨af.cX aM,?_⟩
   rw[←ay];refine(C5 (Z:=λq=>q=z.heap.size) az aM (λq e=>⟨I,I⟩) I al).use ?_;rintro _ F ⟨aJ,ai,x,a2,R,aE⟩;have bw:=x.size;have H:=bB.ah x λf=>by have:=ao _ f.1;omega
   have bD:=(aA.ext aM).ah x λf=>by have:=ao _ f.1;omega
   rcases aE with ⟨i,k,l,rfl,aF⟩|⟨rfl,Q⟩
   .refine⟨_,i,k,l,0,rfl,H.cn rfl fM,rfl,cT H (us:=ec o i k l) rfl rfl λd W m aH=>?_⟩
    obtain⟨B,aN⟩:=R d m;subst aa;refine fin aJ z _ i k l d rfl B aN (bD.ah m I) W (bk _) (λO=>?_) ?_
    .rcases a2 _ O with h1|h1
     .have:=aB _ h1;omega
     .omega
    .refine(bT.ah aF m λq f e=>by have:=f.1;omega).a_ λq _ g=>g.2
   .refine⟨_,bI,bI,bI,3,rfl,H.cn rfl fM,rfl,cT H (us:=ec iW bI bI bI) rfl rfl λd W m aH=>⟨λ_=>?_,λg=>(by cases g)⟩⟩
    obtain⟨B,aN⟩:=R d m;exact err aJ d B aN Q
structure zd(T au:aK)(l:O Nat)(w w':J):Prop where
 to:bS T au w w' 0
 E:au.E=T.E
 G:au.G=T.G
 root:au.root=T.root
 aL:au.aL=T.aL
 f:∀no,au.f no=(T.f no&& !decide (no∈l))
 eD:∀no,(no∉l\/T.g no=true)->au.P no=T.P no/\au.C.view no=T.C.view no
theorem C6{w:J}{T:aK}{c:dA}{s:ad}{l:O Nat}(h:dj w T c)(hs:Src 1 w s (fW l))(z:∀q,aB s q->T.G q)(Q:∀x∈l,T.f x=true)(eo:l.Nodup)(ai:l.length<=10000):
 aI aj 186 #[.pointer (some c.cb),s] w (λv w'=>v=.tuple #[]/\∃au:aK,dj w' au c/\zd T au l w w'):=by
 have al:s.len=l.length:=by have:=hs.len;rw[qP]at this;omega
 refine okF (ae.vh (some c.cb) s) ax.vh func186 ?_;(delta ae.vh ak aO aG b8 bP aq;dsimp only);refine⟨λi w'=>∃ (j:Nat) (au:aK),i=j/\j<=l.length/\dj w' au c/\zd T au (l.take j) w w'/\Src 1 w' s (fW l),λi _=>((l.length:Int)-i).toNat,⟨0,T,rfl,cM _,h,⟨.refl _ _,rfl,rfl,rfl,rfl,λno=>by simp,λ_ _=>⟨rfl,rfl⟩⟩,hs⟩,?_⟩;rintro _ am ⟨j,bY,rfl,an,h1,hg,B⟩;refine⟨λaH=>?_,λp=>?_⟩
 .have aH:j<l.length:=by
   have:(j:Int)<(s.len:Int):=cj aH;omega
  have C:bY.f l[j]=true:=by
   rw[hg.f,Q _ (cP aH)];have:l[j]∉l.take j:=λR=>by
    obtain⟨i,hi,he⟩:=fv R;rw[cz]at hi;rw[m4]at he;have:=(List.getElem_inj eo).1 he;omega
   simp[this]
  have ao:l[j]<bY.n:=by
   rcases dX l[j] bY.n with h2|h2
   .exact h2
   .have:=h1.t.s.pf _ h2
    rw[C]at this;cases this
  obtain⟨A,ar,S,hc⟩:=B.at (i:=j) (v:=.int .i64 ((l[j]:Nat):Int)) (by simp[fW,aH]);refine k9 (λw'=>∃b3:aK,dj w' b3 c/\zd T b3 (l.take (j+1)) w w'/\Src 1 w' s (fW l)) (λq a=>⟨A,ar,S,_,hc,_,rfl,_,h1.cells.1,_,rfl,_,h1.t.cells.2.1,(H6 h1.t.s _).use ?_⟩) ?_
  .rintro _ _ ⟨rfl,rfl⟩
   refine⟨_,rfl,_,rfl,_,h1.cells.1,_,rfl,_,h1.t.cells.2.1,(CD h1.t.s _).use ?_⟩;rintro _ D ⟨rfl,iu,r⟩;have U:nL bY.f bY.n ((l[j]:Nat):Int)=du bY.f l[j] false:=by
    unfold nL;rw[if_pos ⟨I,I⟩,dc]
   rw[U]at iu;obtain⟨V,F⟩:=h1.t.wC iu r;have d:dj D (bY.jw (du bY.f l[j] false)) c:=h1.of V r (λq a hf=>(h1.t.jv q a).2 hf) rfl λ_ h=>h;have H:Src 1 D s (fW l):=B.ah r λq a hf=>(h1.t.jv q (by rw[hg.G];exact z q a)).2 hf;have W:(decide ((0:Int)<=((l[j]:Nat):Int))&&decide (((l[j]:Nat):Int)<(bY.n:Nat))&&bY.f (Int.toNat ((l[j]:Nat):Int))&& !(bY.g (Int.toNat ((l[j]:Nat):Int))))= !(bY.g l[j]):=by
    rw[dc,C,dR I,dR I];simp
   have K:∀no,du bY.f l[j] false no=(T.f no&& !decide (no∈l.take (j+1))):=λno=>by
    rw[j3 aH];unfold du;by_cases e:no=l[j]
    .rw[if_pos e,e,dR (cO.2 (.inr (fj.2 rfl)))]
     exact(Bool.and_false _).symm
    .rw[if_neg e,hg.f]
     have X:decide (no∈l.take j++ [l[j]])=decide (no∈l.take j):=by
      rw[e0,cg,cg,cO,fj];exact⟨λh=>h.resolve_right e,.inl⟩
     rw[X]
   rw[W];refine⟨_,rfl,λu=>⟨_,rfl,_,d.cells.1,_,rfl,_,d.t.cells.1,(Ir d.t.ca _).use ?_⟩,λu=>a _ ⟨_,d,⟨?_,hg.E,hg.G,hg.root,hg.aL,K,λno k=>?_⟩,H⟩⟩
   .rintro _ ap ⟨⟨b,rfl⟩,aJ,Y,m,L,_⟩
    have Z:T.g l[j]=false:=by
     have h2:bY.g=T.g:=hg.to.g;rw[h2]at u;simpa using u
    obtain⟨aa,ab⟩:=d.t.wA (P:=λno=>if no=l[j] then none else bY.P no) Y m (λno cd o=>by
     by_cases e:no=l[j]
     .rw[if_pos e]at o;cases o
     .rw[if_neg e]at o
      rw[L no e];exact h1.t.eV no cd o)
    have ac:=d.of (au:=(bY.jw (du bY.f l[j] false)).bA aJ λno=>if no=l[j] then none else bY.P no) aa m.ah (λq a=>d.t.wB a) rfl (λ_ h=>h) m.b9;refine⟨b,rfl,a _ ⟨_,ac,⟨?_,hg.E,hg.G,hg.root,hg.aL,K,λno k=>?_⟩,?_⟩⟩
    .exact((hg.to.trans F).trans ab).mono I
    .have M:no≠l[j]:=λe=>by
      rcases k with h2|h2
      .exact h2 (by rw[j3 aH,e];exact cO.2 (.inr (fj.2 rfl)))
      .rw[e,Z]at h2;cases h2
     have N:=hg.eD no (k.imp (λh2 y=>h2 (by rw[j3 aH];exact cO.2 (.inl y))) id);exact⟨(if_neg M).trans N.1,(L no M).trans N.2⟩
    .exact H.ah m.ah λq a=>d.t.wB (by show bY.G q;rw[hg.G];exact z q a)
   .exact(hg.to.trans F).mono I
   .exact hg.eD no (k.imp (λh2 y=>h2 (by rw[j3 aH];exact cO.2 (.inl y))) id)
  .rintro av ⟨b3,h2,af,ag⟩
   rw[bq (n:=(j:Int)+1) I I];refine⟨⟨j+1,b3,I,I,h2,af,ag⟩,?_⟩;show((l.length:Int)-((j:Int)+1)).toNat<((l.length:Int)-(j:Int)).toNat;omega
 .have p:j=l.length:=by
   have:¬(j:Int)<(s.len:Int):=cE p;omega
  subst p;rw[j5]at hg;exact⟨rfl,bY,h1,hg⟩
theorem qC{B:Nat->Prop}{w:J}{n:aD}{K V D:ad}(c:bT B w n K V D)(aL:Nat)(h:aL<=100)(d:n.leaf=false->∃x,n.kids=[x]/\1<=aL):
 aI aj 230 #[dg n K V D,aL] w (λv w'=>v=(if n.leaf then .tuple #[(0:Int),(0:Int),(0:Int)] else .tuple #[.int .i64 ((n.kids.getD 0 0:Nat):Int),.int .i64 ((aL-1:Nat):Int),(0:Int)])/\Ext w w'):=by
 refine okF (ae.qC n.leaf K V D (aL:Nat)) ax.qC func230 ?_;(delta ae.qC aV Y ak r1 aO aG aq;dsimp only);refine ba (vs:=ec n K V D) rfl λw1 e b j=>?_;obtain⟨bU,aW,a8,bg⟩:=bK e;refine⟨_,bU,λa=>⟨by rw[if_pos a],b⟩,λa=>?_⟩;obtain⟨x,hx,h1⟩:=d a;obtain⟨A,ar,f,hc⟩:=c2.at (c.ext b).kids (i:=0) (by rw[hx];simp);refine⟨D,bg,A,ar,f,_,hc,?_,b⟩;have g:(aL:Int)-1=((aL-1:Nat):Int):=by omega
 rw[if_neg (by rw[a];simp),bq I I,g];simp only[hx];rfl
def ze(T:aK)(c:dA)(ks:O Key)(kids:O Nat)(w:J)(v:aa)(w':J):Prop:=
 (∃x,ks=[]/\kids=[x]/\v=.tuple #[x,T.aL,(0:Int)]/\dj w' T c/\Ext w w')\/
 (∃ (k:Key) (x y no:Nat) (au:aK) (c':dA),ks=[k]/\kids=[x,y]/\dj w' au c'/\dk T au c c' [no] [] w w' 1/\
   ((v=.tuple #[no,.int .i64 ((T.aL+1:Nat):Int),(0:Int)]/\au.P no=some ⟨false,[k],[],[x,y]⟩)\/(v=.tuple #[no,.int .i64 ((T.aL+1:Nat):Int),(3:Int)]/\¬T.C.D.calm 1)))
theorem C7(K D:Nat)(w:J):Sem.run aj (Instr.build 169 #[(1,.slice (some K) 1 1),(3,.slice (some D) 2 2)]) w=.ok (.agg #[false,.slice (some K) 1 1,(),.slice (some D) 2 2]) w:=by kernel_rfl
theorem Var.C8{w:J}{b:Nat}{vs:O aa}{T:TypeId}(h:Var w b vs T):Src 1 w ⟨some b,vs.length,vs.length⟩ vs:=by
 refine⟨by show _=vs.length*1;omega,(λh=>by cases h),λa c=>?_⟩
 cases c;show bz w b 0 (vs.length*1)=_;rw[fB,h.rd rfl]
theorem IJ{w:J}{t:ad}{k:Key}(b:Nat)(a:Var w b [t] 39)(ht:bu (λ_=>True) w t k):bH (λ_=>True) w ⟨some b,1,1⟩ [k]:=by
 refine⟨[t],rfl,a.C8,bk _,λq c=>⟨trivial,?_⟩,λi h1 h2=>?_⟩
 .obtain⟨A,ar,rfl⟩:=c
  cases ar;exact a.lt
 .have:i=0:=by simp at h1;omega
  subst this;exact ht
theorem IK{w:J}{x y:Nat}(b:Nat)(a:Var w b [x,y] 3):c2 (λ_=>True) w ⟨some b,2,2⟩ [x,y]:=by
 refine⟨a.C8,bk _,λq c=>⟨trivial,?_⟩⟩;obtain⟨A,ar,rfl⟩:=c
 cases ar;exact a.lt
theorem IL{w:J}{T:aK}{c:dA}{s:ad}{ks:O Key}{kids:O Nat}(h:dj w T c)(H:ly (λq=>¬T.M q) w s ks kids)(A:kids.length=2->T.aL<12)(hs:∀k x y,ks=[k]->kids=[x,y]->cw k/\x<1600/\y<1600)
 (ar:T.C.D.a7<=900000080) (K:1<=cm T) (av:c.made.length<=900):
 aI aj 232 #[.pointer (some c.cb),s] w (ze T c ks kids w):=by
 have aw:=h.t.num.2.1;refine okF (ae.vr (some c.cb) s) ax.vr func232 ?_;(delta ae.vr ak aO aG r1 Y gy aq;dsimp only);have o:Ext w w.drew:=cG w;have hd:=h.ext o;rcases H with ⟨b,x,rfl,rfl,rfl,l,B⟩|⟨b,x,y,k,t,rfl,rfl,rfl,l,B,ht,ay⟩
 .refine⟨λ_=>aX ⟨_,rfl,⟨by decide,by show(0:Int)<((1:Nat):Int);decide⟩,id,_,by rw[aA,aA];exact l.drew.cell,_,rfl,id,_,hd.cells.1,_,rfl,id,_,hd.t.cells.2.2.2.2,?_⟩,λh=>(by cases h)⟩
  exact .inl ⟨x,rfl,rfl,rfl,hd,o⟩
 .have A:=A rfl
  obtain⟨s1,s2,az⟩:=hs k x y rfl rfl;refine⟨λh=>(by cases h),λ_=>⟨_,rfl,_,h.cells.1,_,rfl,_,h.t.cells.2.2.2.2,λL=>?_,λ_=>?_⟩⟩
  .have:(T.aL:Int)=12:=by simpa using L
   omega
  have P:cI ⟨false,[k],[],[x,y]⟩:=.inr ⟨⟨λaB Q=>by rw[fj.1 Q];exact s1,List.pairwise_singleton _ _⟩,rfl,by simp,rfl,rfl,λz E=>by
   simp only[c0,fw,fD]at E;rcases E with rfl|rfl<;>assumption⟩
  have R:bC ⟨false,[k],[],[x,y]⟩<=232:=by
   have:=s1.2;simp[bC,cellsOf];omega
  have r:¬T.N b:=λS=>B (aK.gN S);have fin:∀ (d:J) (b2 aO:Nat),Ext w d->Var d b2 [t] 39->Var d aO [x,y] 3->
   aI aj 265 #[.pointer (some c.cb),.agg #[false,.slice (some b2) 1 1,(),.slice (some aO) 2 2]] d (λv w'=>∃n27:Int,∃n28:Int,v=.tuple #[n27,n28]/\af T.N d w'/\
    ∀e,Ext w' e->ze T c [k] [x,y] w (.tuple #[n27,.int .i64 ((T.aL+1:Nat):Int),n28]) e/\∃au c',dj e au c'/\c'.cb=c.cb/\au.bh=T.bh/\au.aL=T.aL):=by
   intro d b2 aO hx U V;have eo:bT (λ_=>True) d ⟨false,[k],[],[x,y]⟩ ⟨some b2,1,1⟩ ⟨none,0,0⟩ ⟨some aO,2,2⟩:=by
    exact⟨IJ b2 U (bu.a_ (bu.ext ht hx) λ_ _ _=>trivial),bH.none _ _,IK aO V⟩
   refine(wE (h.ext hx) I K I eo P R).mono ?_;rintro v w' ⟨no,au,c',p,f,W⟩;have F:=((dk.ext T c hx).trans f).mono (j:=1) I;rcases W with ⟨rfl,X⟩|⟨rfl,Z⟩
   .refine⟨_,_,rfl,f.to.ah,λe g=>⟨.inr ⟨k,x,y,no,au,c',rfl,rfl,p.ext g,(F.trans (dk.ext au c' g)).mono I,.inl ⟨rfl,X⟩⟩,au,c',p.ext g,f.cb,f.to.bh,f.aL⟩⟩
   .refine⟨_,_,rfl,f.to.ah,λe g=>⟨.inr ⟨k,x,y,no,au,c',rfl,rfl,p.ext g,(F.trans (dk.ext au c' g)).mono I,.inr ⟨rfl,Z⟩⟩,au,c',p.ext g,f.cb,f.to.bh,f.aL⟩⟩
  have aa:IntKind.wrap .i64 ((T.aL:Int)+1)=((T.aL+1:Nat):Int):=by rw[bq I I];rfl
  refine rS (λa b w'=>∀e,Ext w' e->ze T c [k] [x,y] w (.tuple #[a,.int .i64 ((T.aL+1:Nat):Int),b]) e/\∃au c',dj e au c'/\c'.cb=c.cb/\au.bh=T.bh/\au.aL=T.aL) (λq G=>aX ⟨T.N,_,rfl,⟨by decide,by show(1:Int)<((2:Nat):Int);decide⟩,r,t,by rw[aA];exact l.drew.cell,_,rfl,⟨by decide,by show(0:Int)<((2:Nat):Int);decide⟩,r,_,by rw[aA,aA];exact l.drew.cell,_,rfl,⟨by decide,by show(1:Int)<((2:Nat):Int);decide⟩,r,_,by rw[aA,aA];exact l.drew.cell,?_,?_⟩) ?_
  .refine ba (vs:=[t]) rfl λu ab m ac=>⟨af.cX m,ba (vs:=[x,y]) rfl λd ag i ai=>⟨af.cX i,_,λ_=>C7 _ _ _,?_⟩⟩
   refine(fin d w.drew.heap.size u.heap.size (o.trans (m.trans i)) (ab.ext i) ag).use ?_;rintro _ w' ⟨n27,n28,rfl,hc,n⟩;exact⟨n27,n28,rfl,hc,G _ _ _ n⟩
  .refine ba (vs:=[x,y]) rfl λu al m ac=>⟨af.cX m,ba (vs:=[t]) rfl λd am i ai=>⟨af.cX i,_,λ_=>C7 _ _ _,?_⟩⟩
   refine(fin d u.heap.size w.drew.heap.size (o.trans (m.trans i)) am (al.ext i)).use ?_;rintro _ w' ⟨n27,n28,rfl,hc,n⟩;exact⟨n27,n28,rfl,hc,G _ _ _ n⟩
  .intro a b an n
   obtain⟨h1,au,c',h2,ao,aC,ap⟩:=n _ (cG an);have hc:=h2.cells.1;rw[ao]at hc;have ht:=h2.t.cells.2.2.2.2;refine aX ⟨_,rfl,id,_,hc,_,rfl,id,_,ht,?_⟩;rw[ap,aa];exact h1
theorem c_.zf{P:Nat->av aD}{lo hi:av Key}{h:Nat}{n:aD}{p:O Nat}{L:O aM}(a:c_ P h n lo hi p L)(h2:n.leaf=true->bC n<=310)(d:n.leaf=false->bC n<=335)(g:n.leaf=false->n.keys≠ []):l4 n:=by
 refine⟨?_,by cases e:n.leaf;exact eG (d e) (by decide);exact eG (h2 e) (by decide),λhs=>?_⟩
 .cases h with
  |zero=>exact a.elim
  |succ h=>
   cases h with
   |zero=>exact .inl a.1
   |succ h=>
    obtain⟨aw,ay,b,c,f⟩:=a;have hs:=f.sorted λ_ _ _ _ _ i=>i.in;exact .inr ⟨⟨b,hs.2.2.1⟩,aw,g aw,f.len,ay,c⟩
 .obtain⟨aw,ay,b,c,_⟩:=a.two (Q:=P) (x:=0) (y:=0) hs h2 d
  exact⟨aw,ay,b,c⟩
section
variable {P:Nat->av aD}{lo hi:av Key}
theorem IM{h:Nat}{d f:aD}{p A:av Key}{i:Nat}{bl D:O Nat}{bd hG:O aM}{k:Key}(E:∀k∈d.keys,cw k)(hlen:d.kids.length=d.keys.length+1)(F:∀x n,P x=some n->bC n<=232)
 (dL:1<=i) (Q:i<d.kids.length) (B:fy p A k)
 (G:fl (fb P (h+1)) lo p (d.keys.take i) (d.kids.take i) bl bd) (q:c_ P (h+1) f p A D hG) (h1:bC f<80):
 ∃ (o:aD) (R:i-1<d.kids.length) (S:i-1<d.keys.length),P d.kids[i-1]=some o/\o.leaf=f.leaf/\cw d.keys[i-1]/\l4 (dK o d.keys[i-1] f):=by
 obtain⟨s,H,aP,r,bQ,N,hs,rfl,t,rfl,rfl,⟨u,m,g,v⟩,T,U⟩:=G.last (by rw[cz];omega);have V:(d.keys.take i).length=i:=by rw[cz];omega
 have W:(d.kids.take i).length=i:=by rw[cz];omega
 have t:s=d.keys[i-1]'I:=by
  rw[t,m4];congr 1;omega
 have J:(d.kids.take i)[(d.kids.take i).length-1]'I=d.kids[i-1]'I:=by
  rw[m4];congr 1;omega
 rw[J]at u g;obtain⟨o,K,j,rfl,_,w⟩:=u.jq;rw[j]at g;have v:2<=o.keys.length:=by rw[Option.some.inj g];exact v
 clear g;subst t;have y:=(show fb P (h+1) H (some (d.keys[i-1]'I)) (d.kids[i-1]'I) (d.kids[i-1]'I::K) N from⟨u,o,j,v⟩).in;obtain⟨x,hx⟩:=pL _ y.1;have z:=E _ (cP (l:=d.keys) (n:=i-1) I);have L:=c_.merge w q z (λc hc=>ic (kl ((y.2.2 x hx).1 c hc) ((y.2.2 x hx).2 _ rfl))) (λc hc=>ic (kl (B.1 _ rfl) (B.2 c hc)));have C:=vP w q z (by have:=F _ _ j;omega);have M:=vO (a:=o) (b:=f) (s:=d.keys[i-1]'I);refine⟨o,I,I,j,by rw[w.leaf,q.leaf],z,L.zf C.1 C.2 λ_ e=>?_⟩;rw[e,k2]at M;omega
theorem IN{h:Nat}{d f:aD}{B q:av Key}{i:Nat}{bf E:O Nat}{hG bx:O aM}{k:Key}(F:∀k∈d.keys,cw k)(hlen:d.kids.length=d.keys.length+1)(G:∀x n,P x=some n->bC n<=232)
 (g:i+1<d.kids.length) (C:fy B q k)
 (H:gB (fb P (h+1)) hi q (d.keys.drop i) (d.kids.drop (i+1)) bf bx) (t:c_ P (h+1) f B q E hG) (h1:bC f<80):
 ∃ (o:aD) (R:i+1<d.kids.length) (S:i<d.keys.length),P d.kids[i+1]=some o/\o.leaf=f.leaf/\cw d.keys[i]/\l4 (dK f d.keys[i] o):=by
 obtain⟨s,J,r,T,N,U,hs,rfl,u,rfl,rfl,⟨v,m,j,w⟩,V⟩:=H.head (by rw[eg];omega);have u:s=d.keys[i]'I:=by rw[u,ru];rfl
 have K:(d.kids.drop (i+1))[0]'(by rw[eg];omega)=d.kids[i+1]'g:=by rw[ru]
 rw[K]at v j;obtain⟨o,L,p,rfl,_,y⟩:=v.jq;rw[p]at j;have w:2<=o.keys.length:=by rw[Option.some.inj j];exact w
 clear j;subst u;have z:=(show fb P (h+1) (some (d.keys[i]'I)) J (d.kids[i+1]'g) (d.kids[i+1]'g::L) N from⟨v,o,p,w⟩).in;obtain⟨x,hx⟩:=pL _ z.1;have A:=F _ (cP (l:=d.keys) (n:=i) I);have M:=c_.merge t y A (λc hc=>ic (kl (C.1 c hc) (C.2 _ rfl))) (λc hc=>ic (kl ((z.2.2 x hx).1 _ rfl) ((z.2.2 x hx).2 c hc)));have D:=vP t y A (by have:=G _ _ p;omega);have Q:=vO (a:=f) (b:=o) (s:=d.keys[i]'I);refine⟨o,g,I,p,by rw[y.leaf,t.leaf],A,M.zf D.1 D.2 λ_ e=>?_⟩;rw[e,k2]at Q;omega
inductive Ctx (P:Nat->av aD) (k:Key) (top:Nat):Nat->av Key->av Key->O (Nat×aD×Nat)->O Nat->O aM->O aM->Prop
 |top:Ctx P k top top none none [] [] [] []
 |step {eM:Nat}{lo hi a b:av Key}{st:O (Nat×aD×Nat)}{cH:O Nat}{A B:O aM}{no:Nat}{n:aD}{bl bf:O Nat}{bd bx:O aM} (h:Ctx P k top (eM+2) lo hi st cH A B) (c:P no=some n) (d:n.leaf=false) (e:∀k∈n.keys,cw k) (f:∀x∈n.kids,x<1600)
  (hlen:n.kids.length=n.keys.length+1) (g:n.keys≠ []) (i:st≠ []->2<=n.keys.length) (j:fy a b k) (l:fl (fb P (eM+1)) lo a (n.keys.take (df n.keys k)) (n.kids.take (df n.keys k)) bl bd)
  (m:gB (fb P (eM+1)) hi b (n.keys.drop (df n.keys k)) (n.kids.drop (df n.keys k+1)) bf bx):Ctx P k top (eM+1) a b (st++ [(no,n,df n.keys k)]) (no::(bl++(bf++cH))) (A++bd) (bx++B)
theorem Ctx.eM{k:Key}{top eM:Nat}{st:O (Nat×aD×Nat)}{cH:O Nat}{A B:O aM}(h:Ctx P k top eM lo hi st cH A B):eM+st.length=top:=by
 induction h with
 |top=>rfl
 |step h _ _ _ _ _ _ _ _ _ _ a=>rw[cv,iN];omega
theorem Ctx.agree{Q:Nat->av aD}{k:Key}{top eM:Nat}{st:O (Nat×aD×Nat)}{cH:O Nat}{A B:O aM}(h:Ctx P k top eM lo hi st cH A B)(a:∀x∈cH,P x=Q x):Ctx Q k top eM lo hi st cH A B:=by
 induction h with
 |top=>exact .top
 | @step eM lo hi p q st cH A B no n bl bf bd bx h c d e f hlen g i j l m o=>
  refine .step (o λx hx=>a x (by simp[hx])) (by rw[←a no (by simp)];exact c) d e f hlen g i j (l.lX λ_ _ _ _ _ hs b=>b.agree λx hx=>a x ?_) (m.lX λ_ _ _ _ _ hs b=>b.agree λx hx=>a x ?_)
  .have:=hs x hx;simp[this]
  .have:=hs x hx;simp[this]
theorem Ctx.down{k:Key}{top:Nat}:∀ {eM:Nat}{lo hi:av Key}{st:O (Nat×aD×Nat)}{cH:O Nat}{A B M bQ:O aM}{no:Nat}{p:O Nat},Ctx P k top (eM+1) lo hi st cH A B->eO P (eM+1) lo hi no p M->(st≠ []->∃m,P no=some m/\2<=m.keys.length)->fy lo hi k->bQ=A++(M++B)->(∀u,Loc k u->u bQ=A++(u M++B))->
 ∃ (rest a:O (Nat×aD×Nat)) (b:Nat) (cc:aD) (fc dL:av Key) (f:O Nat) (c d:O aM),nQ P k (eM+1) no rest/\st++rest=a++ [(b,cc,0)]/\Ctx P k top 1 fc dL a f c d/\P b=some cc/\gW cc/\cc.within fc dL/\cc.keys≠ []/\(a≠ []->2<=cc.keys.length)/\fy fc dL k/\
  (p++cH).Perm (b::f)/\bQ=c++(cc.dE++d)/\∀u,Loc k u->u bQ=c++(u cc.dE++d)
 |0,lo,hi,st,cH,A,B,M,bQ,no,p,hc,h,h2,i,cW,hu=>by
  obtain⟨n,h1,g,t,v,rfl,rfl⟩:=h
  refine⟨[(no,n,0)],st,no,n,lo,hi,cH,A,B,⟨n,[],h1,by rw[g.leaf];rfl,rfl,rfl⟩,rfl,hc,h1,g,t,v,λhs=>?_,i,List.Perm.refl _,cW,hu⟩
  obtain⟨m,e,j⟩:=h2 hs
  rw[h1]at e;cases e
  exact j
 |eM+1,lo,hi,st,cH,A,B,M,bQ,no,p,hc,h,h2,i,cW,hu=>by
  obtain⟨n,T,h1,rfl,g,l⟩:=h.jq
  obtain⟨U,V,bl,q,bf,bd,hG,bx,w,rfl,rfl,o,r,x,hlen,y,z⟩:=l.at i
  obtain⟨aw,ay,C,D,_⟩:=l
  have E:=Ctx.step hc h1 aw C D hlen g (λhs=>by
   obtain⟨m,e,j⟩:=h2 hs
   rw[h1]at e;cases e
   exact j) r y z
  obtain⟨rest,a,b,cc,fc,dL,f,c,d,r1,aG,cr,aV,dv,F,G,H,J,K,L,N⟩:=Ctx.down (bQ:=bQ) E o.1 (λ_=>o.2) r (by rw[cW];simp only[cD]) (λu s=>by rw[hu u s,x u s];simp only[cD])
  refine⟨(no,n,df n.keys k)::rest,a,b,cc,fc,dL,f,c,d,⟨n,rest,h1,by rw[aw];simp,by rw[if_neg I],?_⟩,?_,cr,aV,dv,F,G,H,J,?_,L,N⟩
  .rw[fQ,dI w]
   exact r1
  .rw[←aG];simp
  .refine List.Perm.trans ?_ K
   have Q:(no::(bl++(q++bf))++cH)=no::(bl++(q++(bf++cH))):=by simp[cD]
   rw[Q]
   have R:(q++no::(bl++(bf++cH))).Perm (no::(q++(bl++(bf++cH)))):=m0
   refine List.Perm.trans ?_ R.symm
   refine List.Perm.cons _ ?_
   have S:=(rq (l₁:=bl) (l₂:=q)).append_right (bf++cH)
   simpa[cD] using S
end
theorem zg{α:Type}(a b c:O α):(a++(b++c)).Perm (a++c++b):=by
 rw[cD];exact(rq (l₁:=b) (l₂:=c)).append_left a
theorem Ctx.up{P:Nat->av aD}{lo hi:av Key}{k:Key}{top eM:Nat}{st R:O (Nat×aD×Nat)}{cH:O Nat}{A B:O aM}{u:dy}{a:aD}{q:O Nat}{M:O aM}(hc:Ctx P k top eM lo hi st cH A B)(aa:st=R++ [u.st])(c:c_ P eM a lo hi q M)(F:∀x n,P x=some n->bC n<=232)(hs:bC a<=282):
 ∃ (d f:av Key) (G:O Nat) (g j:O aM) (ps:O Nat),Ctx P k top (eM+1) d f R G g j/\cH=u.no::(ps++G)/\P u.no=some u.n/\u.cQ<u.n.kids.length/\u.n.kids.length=u.n.keys.length+1/\u.n.keys≠ []/\(R≠ []->2<=u.n.keys.length)/\
  (80<=bC a->∀ (Q:Nat->av aD) (ks:O Key) (kids:O Nat),mH Q a ks kids->(∀x∈ps++q,P x=Q x)->(∀x∈kids,x<1600)->∃ (ey:O Nat) (l:O aM),c_ Q (eM+1) (fV u.n u.cQ (u.cQ+1) ks kids) d f ey l/\g++(l++j)=A++(M++B)/\ey.Perm (kids++(ps++q))/\
    bC (fV u.n u.cQ (u.cQ+1) ks kids)<=bC u.n+27/\u.n.keys.length<=(fV u.n u.cQ (u.cQ+1) ks kids).keys.length+1)/\
  (bC a<80->∃ (o:aD) (no:Nat) (rest:O Nat),u.n.kids[jV u]? =some no/\P no=some o/\o.leaf=a.leaf/\u.cQ-1<u.n.keys.length/\cw (u.n.keys.getD (u.cQ-1) [])/\l4 (l6 u a o)/\ps.Perm (no::rest)/\
    ∀ (Q:Nat->av aD) (ks:O Key) (kids:O Nat),mH Q (l6 u a o) ks kids->(∀x∈rest++q,P x=Q x)->(∀x∈kids,x<1600)->∃ (ey:O Nat) (l:O aM),c_ Q (eM+1) (fV u.n (u.cQ-1) (u.cQ-1+2) ks kids) d f ey l/\g++(l++j)=A++(M++B)/\ey.Perm (kids++(rest++q))/\
     bC (fV u.n (u.cQ-1) (u.cQ-1+2) ks kids)<=bC u.n+27/\u.n.keys.length<=(fV u.n (u.cQ-1) (u.cQ-1+2) ks kids).keys.length+1):=by
 cases hc with
 |top=>
  have:=congrArg List.length aa;simp at this
 | @step eM d f _ _ aq G g j ab H bl bf bd bx h ah S m T hlen ac ai J p r=>
  obtain⟨rfl,h2⟩:=List.append_inj' aa rfl;have U:(ab,H,df H.keys k)=u.st:=by simpa using h2
  have aj:ab=u.no:=congrArg Prod.fst U;have ak:H=u.n:=congrArg (λx=>x.2.1) U;have ad:df H.keys k=u.cQ:=congrArg (λx=>x.2.2) U;subst aj ak;rw[ad]at p r;have al:=vM u.n.keys k;rw[ad]at al;refine⟨d,f,G,g,j,bl++bf,h,by rw[cD],ah,I,hlen,ac,ai,λb Q ks kids hf s t=>?_,λb=>?_⟩
  .obtain⟨v,aw,ay,w,K⟩:=GM S m T p r c b hs hf (λx hx=>s x (by
    simp only[cO]at hx⊢;rcases hx with hx|hx|hx
    .exact .inl (.inl hx)
    .exact .inr hx
    .exact .inl (.inr hx))) t
   refine⟨v,_,aw,by simp only[cD],ay.trans (List.Perm.append_left kids ?_),w,I⟩;exact zg bl q bf
  .by_cases h0:u.cQ=0
   .obtain⟨o,L,N,y,V,W,X⟩:=IN m hlen F (i:=u.cQ) (by
     have:u.n.keys.length≠0:=λe=>ac (ti e);omega) J r c b
    obtain⟨am,ae,an,ao,z,Y,_,Z⟩:=GO S m T hlen F L J p r c b;rw[y]at z;obtain rfl:=Option.some.inj z;have C:jV u=u.cQ+1:=by unfold jV;rw[if_pos h0,h0]
    have af:u.cQ-1=u.cQ:=by omega
    have D:u.n.keys.getD (u.cQ-1) []=u.n.keys[u.cQ]:=by rw[af,fQ,dI N];rfl
    have E:l6 u a o=dK a u.n.keys[u.cQ] o:=by unfold l6;rw[if_pos (by rw[C];omega),D]
    refine⟨o,u.n.kids[u.cQ+1],bl++ae,by rw[C];exact dI L,y,V,I,by rw[D];exact W,by rw[E];exact X,?_,λQ ks kids hf s t=>?_⟩
    .exact(List.Perm.append_left bl Y).trans m0
    .rw[E]at hf
     obtain⟨v,aw,ay,w,K⟩:=Z Q ks kids hf (λx hx=>s x (by
      simp only[cO]at hx⊢;rcases hx with hx|hx|hx
      .exact .inl (.inl hx)
      .exact .inr hx
      .exact .inl (.inr hx))) t
     rw[af];exact⟨v,_,aw,by simp only[cD],ay.trans (List.Perm.append_left kids (zg bl q ae)),w,K⟩
   .obtain⟨o,L,N,y,V,W,X⟩:=IM m hlen F (i:=u.cQ) I I J p c b
    obtain⟨am,ag,an,ao,z,Y,_,Z⟩:=GN S m T hlen F I I J p r c b;rw[y]at z;obtain rfl:=Option.some.inj z;have C:jV u=u.cQ-1:=by unfold jV;rw[if_neg h0]
    have D:u.n.keys.getD (u.cQ-1) []=u.n.keys[u.cQ-1]:=by rw[fQ,dI N];rfl
    have E:l6 u a o=dK o u.n.keys[u.cQ-1] a:=by unfold l6;rw[if_neg (by rw[C];omega),D]
    have ap:u.cQ-1+2=u.cQ+1:=by omega
    refine⟨o,u.n.kids[u.cQ-1],ag++bf,by rw[C];exact dI L,y,V,N,by rw[D];exact W,by rw[E];exact X,?_,λQ ks kids hf s t=>?_⟩
    .exact(Y.append_right bf)
    .rw[E]at hf
     obtain⟨v,aw,ay,w,K⟩:=Z Q ks kids hf (λx hx=>s x (by
      simp only[cO]at hx⊢;rcases hx with hx|hx|hx
      .exact .inl (.inl hx)
      .exact .inr hx
      .exact .inl (.inr hx))) t
     rw[ap];exact⟨v,_,aw,by simp only[cD],ay.trans (List.Perm.append_left kids (zg ag q bf)),w,K⟩
theorem dj.IP{w:J}{T:aK}{c:dA}{E:Nat->Prop}(h:dj w T c)(b:∀q,E q->T.E q):dj w (T.cy E T.G) c:=
 h.of (au:=T.cy E T.G) (W:=λ_=>False) (h.t.grow (W:=λ_=>False) (af.refl _ _) (λ_ h=>h.elim) (λq a=>.inl (b q a)) (λq a=>.inr (.inl a)) λq a=>(h.t.dV q (b q a)).2.2) (af.refl _ _) (λ_ _ h=>h) rfl λ_ h=>h
theorem dk.local{T au:aK}{c c':dA}{m l:O Nat}{bO:Nat->Prop}{w w1 w':J}{k:Nat}(h:dk (T.cy bO T.G) au c c' m l w1 w' k)(hx:Ext w w1)(b:∀q,bO q->T.E q\/w.heap.size<=q)(d:∀q,T.E q->bO q):dk T (au.cy T.E au.G) c c' m l w w' k:=
 ⟨h.to.local hx b (λq a=>.inl a) (λq a=>.inl (by rw[h.E];exact d q a)) λq a=>a,rfl,h.G,h.root,h.aL,h.cb,h.made,h.left,h.cd,h.jU,h.f,h.eD,h.room⟩
theorem dj.C9{w w':J}{T:aK}{c:dA}{W:Nat->Prop}(h:dj w T c)(hc:af W w w')(cA:∀q,W q->T.E q\/w.heap.size<=q):dj w' T c:=by
 have b:af (λq=>T.E q) w w':=c5 (W:=λq=>T.E q) (af.refl _ _) hc λq a d=>(cA q d).resolve_right I;exact h.of (h.t.grow (E:=T.E) (G:=T.G) b (λq a _=>.inl a) (λq a=>.inl a) (λq a=>.inr (.inl a)) λq a=>(h.t.dV q a).2.2) b (λq hg he=>(h.t.dV q he).2.2 hg) rfl λ_ h=>h
theorem kx.to{w w':J}{T au:aK}{k:Nat}{s:ad}{l:O dy}(h:kx (λq=>¬T.M q) w s l)(ht:bS T au w w' k):kx (λq=>¬au.M q) w' s l:=by
 refine⟨h.own.ah ht.ah λq a c=>h.pw q a (aK.gN c),λq a d=>?_,λx hx=>?_⟩
 .rcases ht.c6 q d with h1|h1
  .exact h.pw q a h1
  .have:=aT.lt h.own q a;omega
 .exact(ht.cd (lo:=0) ((h.cd x hx).a_ λq _ b=>⟨cM _,b⟩)).a_ λq _ b=>b.2
theorem kx.at{B:Nat->Prop}{w:J}{s:ad}{l:O dy}(h:kx B w s l){i:Nat}(hi:i<l.length):∃A:ag,s.a=some A/\s.len=l.length/\B A.block/\w.cell? (A.add (i*6))=some (.int .i64 ((l[i]).no:Nat))/\l5 B w (A.add (i*6)) l[i]:=by
 have f:=h.own.1;rw[fe _ (nP l)]at f;have g:s.len=l.length:=by omega
 rcases h.own.2.2.2 with ⟨h1,h2⟩|⟨b,c,e,k,o,m⟩
 .have:=h.own.2.1
  omega
 .have d:∀j,j<6->w.cell? ⟨b,i*6+j,none⟩=((dy.c l[i]))[j]? :=λj n=>by
   rw[bj.cell k,←wm (nP l) hi n,←m];rw[s8,if_pos I,Array.getElem?_toList]
  refine⟨b,e,g,h.pw b ⟨_,e,rfl⟩,?_,?_⟩
  .rw[aA,cR]
   exact d 0 (by decide)
  .rw[aA,cR]
   refine⟨?_,?_,?_,?_,?_,h.cd _ (cP hi),h.pw b ⟨_,e,rfl⟩,aT.lt h.own b ⟨_,e,rfl⟩⟩
   .rw[aA];exact d 1 (by decide)
   .rw[aA,aA];exact d 2 (by decide)
   .rw[aA,aA];exact d 3 (by decide)
   .rw[aA,aA];exact d 4 (by decide)
   .rw[aA];exact d 5 (by decide)
theorem Ctx.C_{P:Nat->av aD}{lo hi:av Key}{k:Key}{top eM:Nat}{cH:O Nat}{A B:O aM}(h:Ctx P k top eM lo hi [] cH A B):eM=top/\lo=none/\hi=none/\cH=[]/\A=[]/\B=[]:=by
 generalize a:([]:O (Nat×aD×Nat))=st at h
 cases h with
 |top=>exact⟨rfl,rfl,rfl,rfl,rfl,rfl⟩
 |step h=>
  have:=congrArg List.length a;simp at this
def mN(T:aK)(c:dA)(aP:O Nat)(dP:O aM)(w:J)(v:aa)(w':J):Prop:=
 ∃ (au:aK) (c':dA) (m l:O Nat),dj w' au c'/\dk T au c c' m l w w' 60/\
  ((v=.tuple #[(0:Int),(0:Int),(0:Int)]/\dP=[]/\l.Perm (m++aP)/\m.length<=2*T.aL+3)\/
   (∃ (root h:Nat) (pages:O Nat),v=.tuple #[root,h,(0:Int)]/\eO au.P h none none root pages dP/\(pages++l).Perm (m++aP)/\1<=h/\h<=T.aL+1/\m.length<=2*T.aL+3)\/
   (∃a b:Int,v=.tuple #[a,b,(3:Int)]/\¬T.C.D.calm 60))
theorem mN.local{T:aK}{c:dA}{aP:O Nat}{dP:O aM}{bO:Nat->Prop}{w w1 w':J}{v:aa}(h:mN (T.cy bO T.G) c aP dP w1 v w')(hx:Ext w w1)(b:∀q,bO q->T.E q\/w.heap.size<=q)(a:∀q,T.E q->bO q):mN T c aP dP w v w':=by
 obtain⟨au,c',m,l,h1,h2,d⟩:=h;exact⟨au.cy T.E au.G,c',m,l,h1.IP λq e=>by rw[h2.E];exact a q e,h2.local hx b a,d⟩
structure IQ(bY:aK)(c:dA)(b:J)(a:O dy)(k:Key)(aP:O Nat)(dP:O aM)(ws:ad)(g5:Nat)(i:Nat)(w':J)(au:aK)(c':dA)(m l:O Nat)(n:aD)(K V D:ad)(lo hi:av Key)(cH:O Nat)(A B:O aM)(q:O Nat)(M:O aM)(r:O Nat):Prop where
 lQ:i<a.length
 zh:dj w' au c'
 to:dk bY au c c' m l b w' (4*(a.length-1-i))
 px:m.length<=2*(a.length-1-i)
 ll:l.length<=2*(a.length-1-i)
 g5:Var w' g5 (ec n K V D) 169
 cd:bT (λq=>¬au.M q) w' n K V D
 ib:kx (λq=>¬au.M q) w' ws a
 ctx:Ctx au.P k a.length (a.length-i) lo hi ((a.take i).map dy.st) cH A B
 jq:c_ au.P (a.length-i) n lo hi q M
 eq:A++(M++B)=dP
 pp:aP.Perm ((a[i]).no::(r++cH))
 acc:(q++l).Perm (m++r)
 sz:bC n<=282
 IS:1<=i->n.keys≠ []
 Da:∀x∈q++cH,au.f x=true
theorem b_.py{w:J}{T:aK}(h:b_ w T):∀x n,T.P x=some n->bC n<=232:=λx n hx=>(h.eV x n hx).2.is.2.2
theorem hW.cs{T:aK}{c:dA}{n:aD}{w w':J}{s:ad}{e:Int}(h:hW T c n w (.tuple #[s,e]) w'):
 ∃ (au:aK) (c':dA) (m:O Nat),dj w' au c'/\dk T au c c' m [] w w' 2/\m.length<=2/\((e=0/\∃ks,mH au.P n ks m/\ly (λq=>¬au.M q) w' s ks m)\/(e=3/\¬T.C.D.calm 2)):=by
 obtain⟨au,c',m,s2,h1,h2,d,f⟩:=h;refine⟨au,c',m,h1,h2,d,?_⟩;rcases f with ⟨ks,a,b,g⟩|⟨a,b⟩
 .simp at a
  obtain⟨⟨a1,a2,a3⟩,rfl⟩:=a;obtain rfl:s=s2:=by cases s;cases s2;simp_all
  exact .inl ⟨rfl,ks,b,g⟩
 .simp at a
  exact .inr ⟨a.2,b⟩
theorem IT{P Q c:Nat->av aD}{t:Nat}{n:aD}{q:O Nat}{M:O aM}{a:Key}{x y no:Nat}(d:c_ P (t+1) n none none q M)(hs:bC n<=282)(hf:mH Q n [a] [x,y])(i:∀z∈q,P z=Q z)(j:c no=some ⟨false,[a],[],[x,y]⟩)(k:∀z∈x::y::q,Q z=c z)(hx:x<1600)(m:y<1600):
 cw a/\∃pages,eO c (t+2) none none no pages M/\pages.Perm (no::x::y::q):=by
 have o:232<bC n:=by
  rcases hf with ⟨_,z,e,_⟩|⟨h,_⟩
  .cases e
  .exact h
 obtain⟨f,aw,ay,g,_⟩:=d.fits (d.ym I) (λ_=>I) (λ_=>I) hf i;have l:c_ Q (t+2) ⟨false,[a],[],[x,y]⟩ none none f M:=⟨rfl,rfl,g,λz b=>by
  simp only[c0,fw,fD]at b;rcases b with rfl|rfl<;>assumption,aw⟩
 refine⟨g a (by simp),no::f,l.lay (by simp) j λz b=>k z ?_,List.Perm.cons no ay⟩;have:=ay.mem_iff.1 b;simpa using this
theorem nR{a b:O Nat}:a.Perm b↔∀x,a.count x=b.count x:=List.perm_iff_count
theorem mO{q l m r:O Nat}{no:Nat}(h:(q++l).Perm (m++r)):(q++(l++ [no])).Perm (m++(no::r)):=by
 rw[nR]at h⊢;intro x;have:=h x;simp only[ob,pN,pO]at this⊢;omega
theorem iZ{q l m r ey ps ms ls rest:O Nat}(h:(q++l).Perm (m++r))(h2:ey.Perm (ms++(rest++q)))(a:ps.Perm (ls++rest)):(ey++(l++ls)).Perm ((m++ms)++(ps++r)):=by
 rw[nR]at h h2 a⊢;intro x;have:=h x;have:=h2 x;have:=a x;simp only[ob,pN,pO]at*;omega
theorem mP{aP r ps a:O Nat}{u:Nat}(h:aP.Perm (r++(u::(ps++a)))):aP.Perm (u::((ps++r)++a)):=by
 rw[nR]at h⊢;intro x;have:=h x;simp only[ob,pN,pO]at*;omega
theorem IU{w:J}{T:aK}{c:dA}{d:O dy}{k:Key}{aP cH:O Nat}{dP A B M:O aM}{lo hi:av Key}{ws:ad}{n:aD}{K V D:ad}(h:dj w T c)(bL:kx (λq=>¬T.M q) w ws d)(bs:bT (λq=>¬T.M q) w n K V D)(eA:0<d.length)(hlen:d.length=T.aL)(eB:T.aL<12)
 (eC:T.C.D.a7<=900000000) (eE:2*T.aL+3<=cm T) (eF:c.made.length<=100) (eG:c.left.length<=100) (ck:Ctx T.P k d.length 1 lo hi ((d.take (d.length-1)).map dy.st) cH A B) (L:c_ T.P 1 n lo hi [] M) (am:A++(M++B)=dP)
 (N:aP.Perm ((d[d.length-1]'I).no::cH)) (bt:bC n<=282) (aZ:2<=d.length->n.keys≠ []) (Q:∀x∈cH,T.f x=true):
 aI aj 187 #[.pointer (some c.cb),ws,dg n K V D] w (mN T c aP dP w):=by
 refine okF (ae.oN (some c.cb) ws n.leaf K V D) ax.oN func187 ?_;(delta ae.oN aV Y r1 z5 aq ak aO aG st p9 xL gj ew;dsimp only);refine ba (vs:=ec n K V D) rfl λw1 cl co eH=>?_;obtain⟨bU,aW,a8,bg⟩:=bK cl;refine⟨_,bU,K,aW,V,a8,D,bg,ba (vs:=[false,(),(),()]) rfl λeI bM cq eJ=>⟨bM.cn rfl fM,rfl,cT bM (us:=ec n K V D) rfl rfl λbu bv cr eK=>?_⟩⟩;have bN:Ext w bu:=co.trans (Ext.cC cq cr (bk _));obtain⟨g5,ct⟩:∃g5,g5=w1.heap.size:=⟨_,rfl⟩;rw[←ct]at bv⊢;obtain⟨bO,bw⟩:∃bO,bO=λq=>T.E q\/q=g5:=⟨_,rfl⟩;have cu:∀q,T.E q->bO q:=λq F=>by rw[bw];exact .inl F
 have a0:∀q,bO q->T.E q\/q=g5:=λq F=>by rw[bw]at F;exact F
 have cA:bO g5:=by rw[bw];exact .inr rfl
 have eL:=bv.lt;have cF:dj bu (T.cy bO T.G) c:=h.of (W:=λ_=>False) (h.t.grow (W:=λ_=>False) bN (λ_ h=>h.elim) (λq F=>(a0 q F).imp id λe=>.inr ⟨I,I⟩) (λq F=>.inr (.inl F)) λq F hg=>by
  rcases a0 q F with h1|h1
  .exact(h.t.dV q h1).2.2 hg
  .have:=h.t.lt (q:=q) (.inr (.inr (.inr (.inr hg))));omega) bN (λ_ _ h=>h) rfl λ_ h=>h
 have bP:bS T (T.cy bO T.G) w bu 0:=(bS.refl T w).step (W:=λ_=>False) bN (λ_ h=>h.elim) (λq F=>(a0 q F).imp id λe=>.inr I) λq F=>.inl F;have conv:∀ (v:aa) (w':J),mN (T.cy bO T.G) c aP dP w1 v w'->mN T c aP dP w v w':=λv w' hu=>hu.local co (λq F=>(a0 q F).imp id λe=>I) cu;obtain⟨bY,an⟩:∃bY,bY=T.cy bO T.G:=⟨_,rfl⟩;have bQ:=bL.to bP;have bR:bT (λq=>¬(T.cy bO T.G).M q) bu n K V D:=(bP.cd (lo:=0) (bs.a_ λq _ R=>⟨cM _,R⟩)).a_ λq _ R=>R.2;have cI:bY.P=T.P:=by rw[an];rfl
 have bV:bY.f=T.f:=by rw[an];rfl
 have dI:bY.E g5:=by rw[an];exact cA
 have eM:cm bY=cm T:=by rw[an];rfl
 have dJ:bY.C=T.C:=by rw[an];rfl
 have dK:bY.aL=T.aL:=by rw[an];rfl
 rw[←an]at cF bQ bR conv;clear an bP bw cu a0 cA;have eN:g5=w1.heap.size:=ct;have eP:ws.len=d.length:=by
  have:=bL.own.1;rw[fe _ (nP d)]at this;omega
 refine⟨λn10 w'=>∃ (i:Nat) (au:aK) (c':dA) (m l:O Nat) (n:aD) (K V D:ad) (lo hi:av Key) (cH:O Nat) (A B:O aM) (q:O Nat) (M:O aM) (r:O Nat),n10=(i:Nat)/\IQ bY c w1 d k aP dP ws g5 i w' au c' m l n K V D lo hi cH A B q M r,λn10 _=>(n10+1).toNat,
  ⟨d.length-1,bY,c,[],[],n,K,V,D,lo,hi,cH,A,B,[],M,[],?_,?_⟩,?_⟩
 .rw[bq I I];omega
 .have e:d.length-(d.length-1)=1:=by omega
  refine⟨I,cF,(dk.ext bY c (Ext.cC cq cr (bk _))).mono I,cM _,cM _,bv,bR,bQ,by rw[e,cI];exact ck,by rw[e,cI];exact L,am,by simpa using N,List.Perm.refl _,bt,λh1=>aZ I,λx hx=>by rw[bV];exact Q x (by simpa using hx)⟩
 clear ck L am N bt aZ Q bs bR bv bL bQ cl bU aW a8 bg bM;rintro _ bW ⟨i,au,c',m,l,n,K,V,D,lo,hi,cH,A,B,q,M,r,rfl,g⟩;have cJ:=g.lQ;have bx:=g.to.cb;refine⟨λ_=>aX ?_,λR=>?_⟩
 rotate_left
 .have:¬(i:Int)>=0:=cE R
  omega
 have aJ:Ext bW bW.drew:=cG _;obtain⟨bX,dM⟩:∃bX,bX=bW.drew:=⟨_,rfl⟩;rw[←dM]at aJ⊢;have a5:=g.zh.ext aJ;have cK:=a5.cells.2.2;rw[bx]at cK;have cL:kx (λq=>¬au.M q) bX ws d:=g.ib.to (bS.ext au aJ);obtain⟨a6,bZ,eQ,dN,dO,_⟩:=cL.at cJ;have eR:c'.left.length<=200:=by rw[g.to.left,cv];have:=g.ll;omega
 have dQ:c'.made.length<=200:=by rw[g.to.made,cv];have:=g.px;omega
 obtain⟨aN,cN,aw,ay,aQ,az,aC⟩:=CY a5 (d[i]).no I;rw[bx]at aQ az aC;have dR:∀n,(a6.add n).block=a6.block:=λn=>by unfold Addr.add;split<;>rfl
 have dS:∀q,aB c'.gG q->au.M q:=λq F=>.inr (.inr (.inr (.inr (a5.kR q F).1)));refine⟨aB c'.gG,_,rfl,λF=>(a5.kR _ F).2 (by rw[bx,aA]),c'.gG,cK,a6,bZ,⟨I,I⟩,λF=>dN (dS _ ((dR _)▸F)),_,by rw[dc];exact dO,aX ⟨af.cX (c4 _ _),aN,cN,aw,ay,_,rfl,by rw[aA];exact aQ,by rw[aA];exact az,aX ?_⟩⟩;rw[aA,cR];obtain⟨U,cP⟩:∃U,U=cN.setCell ⟨c.cb,2,none⟩ aN:=⟨_,rfl⟩;rw[←cP];obtain⟨ac,a9⟩:=aC U cP;have b0:=dk.leave (c:=c') (c':=⟨c.cb,c'.ma,aN,c'.made,c'.left++ [(d[i]).no]⟩) (no:=(d[i]).no) a9 rfl (λq F=>.inl F) bx.symm rfl rfl;have X:=(g.to.trans (dk.ext au c' aJ)).trans b0;simp only[fu,lF]at X;have cS:au.E g5:=by rw[g.to.E];exact dI
 have b1:=(g.g5.ext aJ).ah a9.ah (a5.t.kO cS);have b2:=cL.to a9;have bb:bT (λq=>¬(au.cy au.E λq=>au.G q\/aB aN q).M q) U n K V D:=(a9.cd (lo:=0) ((g.cd.ext aJ).a_ λq _ R=>⟨cM _,R⟩)).a_ λq _ R=>R.2;obtain⟨b3,aR⟩:∃b3,b3=au.cy au.E λq=>au.G q\/aB aN q:=⟨_,rfl⟩;have bl:b3.P=au.P:=by rw[aR];rfl
 have bf:b3.f=au.f:=by rw[aR];rfl
 have eT:cm b3=cm au:=by rw[aR];rfl
 have cU:b3.E g5:=by rw[aR];exact cS
 have cV:b3.aL=T.aL:=by rw[aR];show au.aL=_;rw[g.to.aL,dK]
 rw[←aR]at ac a9 b0 X b2 bb;obtain⟨a8,bz⟩:∃a8:dA,a8=⟨c.cb,c'.ma,aN,c'.made,c'.left++ [(d[i]).no]⟩:=⟨_,rfl⟩;rw[←bz]at ac b0 X;have hX:a8.cb=c.cb:=by rw[bz]
 have ey:a8.made.length<=200:=by rw[bz];exact dQ
 have eU:a8.left.length<=201:=by rw[bz,cv,iN];omega
 obtain⟨dT,cc,bB,dU⟩:=bK b1;have cY:=bH.len bb.keys;have c1:∀ (w':J) (v:aa),Ext U w'->(∀ {cZ bg bc},cZ=b3->bg=a8->bc=l++ [(d[i]).no]->((v=.tuple #[(0:Int),(0:Int),(0:Int)]/\dP=[]/\bc.Perm (m++aP)/\m.length<=2*bY.aL+3)\/
  (∃ (root h:Nat) (pages:O Nat),v=.tuple #[root,h,(0:Int)]/\eO (aK.P cZ) h none none root pages dP/\(pages++bc).Perm (m++aP)/\1<=h/\h<=bY.aL+1/\m.length<=2*bY.aL+3)\/
  (∃a b:Int,v=.tuple #[a,b,(3:Int)]/\¬bY.C.D.calm 60)))->mN T c aP dP w v w':=by
  intro w' v hx hd;refine conv v w' ⟨b3,a8,m,l++ [(d[i]).no],?_,?_,hd (bg:=a8) rfl rfl rfl⟩
  .exact ac.ext hx
  .have:=(X.trans (dk.ext b3 _ hx)).mono (j:=60) I
   simp only[fu]at this;exact this
 refine cx (λb w'=>(b=true↔(i=0/\n.keys=[]))/\U=w') (λZ bd=>⟨λh0=>⟨K,cc,bd _ _ ⟨?_,rfl⟩⟩,λh0=>bd _ _ ⟨?_,rfl⟩⟩) ?_
 .have h0:i=0:=by
   have:(i:Int)=0:=by simpa using h0
   omega
  rw[j4];constructor
  .intro h1
   exact⟨h0,ti I⟩
  .rintro⟨_,h1⟩
   rw[h1]at cY;simp at cY;omega
 .have h0:i≠0:=by
   have:¬(i:Int)=0:=by simpa using h0
   omega
  exact⟨λh=>(by cases h),λh=>absurd h.1 h0⟩
 rintro eW _ ⟨c2,rfl⟩;refine⟨λR=>?_,λR=>?_⟩
 .obtain⟨h0,c3⟩:=c2.1 R
  subst h0;have be:Ext U U.drew:=cG _;obtain⟨dW,dX,dY,dZ⟩:=bK (b1.ext be);have c5:=(ac.ext be).cells.1;rw[hX]at c5;have d0:=(ac.ext be).t.cells.2.2.2.2;obtain⟨t1,t2,t3,t4,t5,t6⟩:=Ctx.C_ (by simpa using g.ctx);have L:=g.jq;have N:=g.pp;have am:=g.eq;have ai:=mO (no:=(d[0]).no) g.acc;subst t2 t3 t4 t5 t6;rw[hA,fu]at am;rw[fu]at N;subst am;have c6:n.leaf=false->∃x,n.kids=[x]/\1<=b3.aL/\eO au.P (b3.aL-1) none none x q M/\1<=b3.aL-1:=by
   intro aE;have e:d.length-0=b3.aL:=by rw[cV];omega
   rw[e]at L
   cases ht:b3.aL with
   |zero=>omega
   |succ t=>
    rw[ht]at L
    cases t with
    |zero=>
     have:=L.1.leaf;rw[aE]at this;cases this
    |succ t=>
     obtain⟨v1,v2,bh,bi,bA⟩:=L;rw[c3]at bA;generalize eX:n.kids=eY at bA
     cases bA with
     |one h=>exact⟨_,rfl,I,h.1,I⟩
  refine aX ⟨λ_=>False,id,_,dW,K,dX,V,dY,D,dZ,_,rfl,id,_,c5,_,rfl,id,_,d0,(qC (bb.ext be) b3.aL I λaE=>by obtain⟨x,a1,a2,_⟩:=c6 aE;exact⟨x,a1,a2⟩).use ?_⟩;rintro v w' ⟨rfl,b4⟩;have c8:=be.trans b4
  cases aE:n.leaf with
  |true=>
   rw[if_pos rfl];have c9:=L.leaf;rw[aE]at c9;have b7:d.length-0=1:=cj c9.symm;rw[b7]at L;obtain⟨v1,v2,bh,bi⟩:=L;subst bh;refine⟨_,_,_,rfl,b4,c1 w' _ c8 λ{cZ bg bc} a1 a2 a3=>.inl ⟨rfl,?_,?_,by have:=g.px;omega⟩⟩
   .rw[bi];unfold aD.dE;rw[c3];rfl
   .subst a3
    rw[nR]at ai N⊢;intro x;have:=ai x;have:=N x;simp only[ob,pN,pO]at*;omega
  |false=>
   rw[if_neg (by simp)];obtain⟨x,a1,a2,a3,a4⟩:=c6 aE;refine⟨_,_,_,rfl,b4,c1 w' _ c8 λ{cZ bg bc} cB b6 aS=>.inr (.inl ⟨_,_,q,rfl,?_,?_,a4,?_,by have:=g.px;omega⟩)⟩
   .subst cB
    have d6:n.kids.getD 0 0=x:=by rw[a1];rfl
    rw[d6,bl];exact a3
   .subst aS
    rw[nR]at ai N⊢;intro x;have:=ai x;have:=N x;simp only[ob,pN,pO]at*;omega
   .omega
 .have aZ:n.keys≠ []:=λe=>by
   rcases oa i with h0|h0
   .have:=c2.2 ⟨h0,e⟩
    rw[R]at this;cases this
   .exact g.IS h0 e
  have eZ:b3.C.D.a7<=900000050:=by
   have:=X.to.a7;rw[dJ]at this;omega
  have da:2<=cm b3:=by
   have:=X.room;have:=g.px;omega
  have db:∀ms:O Nat,ms.length<=3->(m++ms).length<=2*bY.aL+3:=λms h=>by rw[cv];have:=g.px;omega
  have dd:∀j,j<=10->¬b3.C.D.calm j->¬bY.C.D.calm 60:=λj e0 bs hc=>bs (X.to.calm j (gm hc I));have b8:l4 n:=g.jq.zf (λ_=>by have:=g.sz;omega) (λ_=>by have:=g.sz;omega) λ_=>aZ;refine cx (λp w'=>p=(if i=0 then none else some (a6.add ((i-1)*6)))/\U=w') (λZ bd=>⟨λh0=>⟨a6,bZ,?_,bd _ _ ⟨?_,rfl⟩⟩,λh0=>bd _ _ ⟨?_,rfl⟩⟩) ?_
  .have h0:(i:Int)>0:=cj h0
   rw[bq I I];omega
  .have h0:(i:Int)>0:=cj h0
   have e:(i:Int)-1=((i-1:Nat):Int):=by omega
   rw[bq I I,if_neg I,e,dc]
  .have h0:¬(i:Int)>0:=cE h0
   rw[if_pos I]
  rintro _ _ ⟨rfl,rfl⟩;refine⟨_,dT,K,cc,V,bB,D,dU,?_⟩;by_cases h0:i=0
  .subst h0
   rw[if_pos rfl];have bj:=IH ac bb b8 I da I;rw[hX]at bj;refine bj.use ?_;rintro _ aT ⟨aU,e,rfl,hf⟩;obtain⟨cZ,bg,ms,S,H,bm,bn⟩:=hf.cs;have bD:=X.trans H;simp only[fu]at bD;have d7:bg.cb=c.cb:=by rw[H.cb,hX]
   rcases bn with ⟨rfl,ks,ao,aF⟩|⟨rfl,aH⟩
   .refine⟨aU,_,_,0,rfl,λh=>(by cases h),λ_=>⟨λ_=>?_,λh=>(by simp at h)⟩⟩
    obtain⟨t1,t2,t3,t4,t5,t6⟩:=Ctx.C_ (by simpa using g.ctx);have L:=g.jq;have N:=g.pp;have am:=g.eq;have bt:=g.sz;have ai:=mO (no:=(d[0]).no) g.acc;have Q:=g.Da;subst t2 t3 t4 t5 t6;rw[hA,fu]at am;rw[fu]at N Q;subst am;have d8:b3.n<=1600:=ac.t.s.bB;have b9:∀z∈q,au.P z=cZ.P z:=λz ab=>by
     rw[←bl];exact((H.eD z (by rw[bf,Q z ab];rfl)).1).symm
    have d9:d.length-0=(d.length-1)+1:=by omega
    have de:cZ.aL=d.length:=by rw[H.aL,cV];omega
    rw[d9]at L;have df:∀aY x y,ks=[aY]->ms=[x,y]->cw aY/\x<1600/\y<1600:=λaY x y aw ay=>by
     subst aw ay;have dh:232<bC n:=by
      rcases ao with ⟨_,z,e,_⟩|⟨h,_⟩
      .cases e
      .exact h
     obtain⟨e1,_,_,aQ,_⟩:=L.fits (L.ym I) (λ_=>I) (λ_=>I) ao b9;have hx:=(H.jU x (by simp)).2;have e2:=(H.jU y (by simp)).2;exact⟨aQ aY (by simp),I,I⟩
    have di:=IL S aF (λ_=>I) df (by have:=H.to.a7;omega) (by have:=H.room;have:=X.room;have:=g.px;omega) (by rw[H.made,cv];omega);rw[d7]at di;refine di.use ?_;rintro v e3 d_;rcases d_ with ⟨x,aw,ay,rfl,az,aC⟩|⟨aY,x,y,no,jm,fL,aw,ay,az,aC,ea⟩
    .subst aw ay
     refine⟨_,_,_,rfl,conv _ _ ⟨cZ,bg,m++ [x],l++ [(d[0]).no],az,?_,.inr (.inl ⟨x,cZ.aL,x::q,rfl,?_,?_,I,I,db [x] (by simp)⟩)⟩⟩
     .have:=(bD.trans (dk.ext cZ bg aC)).mono (j:=60) I
      simp only[fu]at this;exact this
     .rcases ao with ⟨_,z,_,e,ab⟩|⟨_,e4,e5,_,e,_⟩
      .cases e
       rw[de,show d.length=d.length-1+1 from I];exact L.lay aZ ab b9
      .cases e
     .rw[nR]at ai N⊢
      intro z;have:=ai z;have:=N z;simp only[ob,pN,pO]at*;omega
    .subst aw ay
     obtain⟨a1,a2,a3⟩:=df aY x y rfl rfl;have ap:=bD.trans aC;simp only[fu]at ap;have dl:=ap.mono (j:=60) I;rcases ea with ⟨rfl,b_⟩|⟨rfl,b_⟩
     .have eb:∀z∈x::y::q,cZ.P z=jm.P z:=λz ab=>by
       refine((aC.eD z ?_).1).symm;rw[H.f];simp only[c0]at ab;rcases ab with ab|ab|ab
       .simp[ab]
       .simp[ab]
       .rw[bf,Q z ab];simp
      obtain⟨_,pages,cB,b6⟩:=IT L bt ao b9 b_ eb a2 a3;refine⟨_,_,_,rfl,conv _ _ ⟨jm,fL,m++ [x,y]++ [no],l++ [(d[0]).no],az,dl,.inr (.inl ⟨no,cZ.aL+1,pages,rfl,?_,?_,I,I,by rw[cD];exact db [x,y,no] (by simp)⟩)⟩⟩
      .rw[de,show d.length+1=d.length-1+2 from I];exact cB
      .rw[nR]at ai N b6⊢
       intro z;have:=ai z;have:=N z;have:=b6 z;simp only[ob,pN,pO]at*;omega
     .refine⟨_,_,_,rfl,conv _ _ ⟨jm,fL,m++ [x,y]++ [no],l++ [(d[0]).no],az,dl,.inr (.inr ⟨_,_,rfl,λhc=>b_ (H.to.calm 1 (X.to.calm 3 (gm hc I)))⟩)⟩⟩
   .refine⟨aU,_,_,3,rfl,λ_=>conv _ _ ⟨cZ,bg,m++ms,l++ [(d[0]).no],S,bD.mono I,.inr (.inr ⟨0,0,rfl,dd 2 I aH⟩)⟩,λh=>(by cases h)⟩
  .rw[if_neg h0]
   have dL:i-1<d.length:=by omega
   obtain⟨e6,dm,_,_,_,hu⟩:=b2.at dL;rw[bZ]at dm;obtain rfl:=Option.some.inj dm;obtain⟨u,ca⟩:∃u,u=d[i-1]:=⟨_,rfl⟩;rw[←ca]at hu;have ed:(d.take i).map dy.st=(d.take (i-1)).map dy.st++ [u.st]:=by
    have:d.take i=d.take (i-1)++ [d[i-1]]:=by
     have e:i-1+1=i:=by omega
     rw[←j3 dL,e]
    rw[this,fP,ca];rfl
   obtain⟨dp,dq,ef,dr,ds,ps,b5,cp,eg,e7,e8,eh,ei,dt,ce⟩:=Ctx.up g.ctx ed g.jq g.zh.t.py g.sz;have b7:d.length-i+1=d.length-(i-1):=by omega
   rw[b7]at b5 dt ce;have ej:=(g.zh.t.eV _ _ eg).2.is;have e9:=ej.2.1.eS I;have Q:=g.Da;have bj:=II ac bb hu b8.1 (by have:=g.sz;omega) (λ_=>b8) (λbE=>by
    obtain⟨o,no,rest,cB,b6,aS,bF,bG,du,_⟩:=ce bE;exact⟨o,no,cB,by rw[bl];exact b6,aS,bF,bG,du⟩) I I da I I
   rw[hX]at bj;refine bj.use ?_;rintro v aT cW;have e_:0<u.n.keys.length:=List.length_pos_iff.2 eh;have d8:b3.n<=1600:=ac.t.s.bB;have cf:∀ {cZ:aK}{bg:dA}{ms ls:O Nat}{w':J}{ek:Nat},dk b3 cZ a8 bg ms ls U w' ek->∀x,au.f x=true->au.P x=cZ.P x:=λel x hx=>by
    rw[←bl];exact((el.eD x (by rw[bf,hx];rfl)).1).symm
   have em:(∃ (cZ:aK) (bg:dA) (ms ls:O Nat) (s:ad) (a b:Int),v=.tuple #[s,a,b,(3:Int)]/\dj aT cZ bg/\dk b3 cZ a8 bg ms ls U aT 4/\¬b3.C.D.calm 4)\/
    (∃ (cZ:aK) (bg:dA) (ms ls rest:O Nat) (s:ad) (al ag:Nat) (ks:O Key) (ey:O Nat) (ar:O aM),v=.tuple #[s,al,ag,(0:Int)]/\dj aT cZ bg/\dk b3 cZ a8 bg ms ls U aT 4/\ms.length<=2/\ls.length<=1/\ly (λq=>¬cZ.M q) aT s ks ms/\
      c_ cZ.P (d.length-(i-1)) (fV u.n al ag ks ms) dp dq ey ar/\dr++(ar++ds)=A++(M++B)/\ey.Perm (ms++(rest++q))/\ps.Perm (ls++rest)/\bC (fV u.n al ag ks ms)<=bC u.n+27/\u.n.keys.length<=(fV u.n al ag ks ms).keys.length+1/\
      al<=u.n.keys.length/\1<=ag/\ag<=u.n.kids.length):=by
    rcases cW with ⟨dh,s,e,rfl,hf⟩|⟨bE,cZ,bg,rfl,aw,ay,aQ⟩|⟨bE,o,no,fa,fb,fc,s,e,dv,dw,dx,rfl,hf⟩
    .obtain⟨cZ,bg,ms,S,H,bm,bn⟩:=hf.cs
     rcases bn with ⟨rfl,ks,ao,aF⟩|⟨rfl,aH⟩
     .obtain⟨ey,ar,cB,b6,aS,bF,bG⟩:=dt dh cZ.P ks ms ao (λx hx=>cf H x (Q x (by
       rw[cp];simp only[cO,c0]at hx⊢;rcases hx with hx|hx
       .exact .inr (.inr (.inl hx))
       .exact .inl hx))) (λx hx=>by have:=(H.jU x hx).2;omega)
      exact .inr ⟨cZ,bg,ms,[],ps,s,u.cQ,u.cQ+1,ks,ey,ar,rfl,S,H.mono I,bm,cM _,aF,cB,b6,aS,List.Perm.refl _,bF,bG,I,I,I⟩
     .exact .inl ⟨cZ,bg,ms,[],s,_,_,rfl,S,H.mono I,λhc=>aH (gm hc I)⟩
    .exact .inl ⟨cZ,bg,[],[],bI,0,0,rfl,aw,ay.mono I,λhc=>aQ (gm hc I)⟩
    .obtain⟨fd,dz,rest,cB,b6,aS,bF,bG,du,dB,en⟩:=ce bE
     rw[cB]at dv;obtain rfl:=Option.some.inj dv;rw[bl,b6]at dw;obtain rfl:=Option.some.inj dw;obtain⟨cZ,bg,ms,S,H,bm,bn⟩:=hf.cs;have ap:=dx.trans H;simp only[hA,fu]at ap;rcases bn with ⟨rfl,ks,ao,aF⟩|⟨rfl,aH⟩
     .obtain⟨ey,ar,d1,d2,d3,d4,d5⟩:=en cZ.P ks ms ao (λx hx=>cf ap x (Q x (by
       rw[cp];simp only[cO,c0]at hx⊢;rcases hx with hx|hx
       .exact .inr (.inr (.inl (dB.mem_iff.2 (jC _ hx))))
       .exact .inl hx))) (λx hx=>by have:=(ap.jU x hx).2;omega)
      refine .inr ⟨cZ,bg,ms,[dz],rest,s,u.cQ-1,u.cQ-1+2,ks,ey,ar,rfl,S,ap,bm,bk _,aF,d1,d2,d3,dB,d4,d5,I,I,?_⟩;rcases oa u.cQ with eo|eo<;>omega
     .exact .inl ⟨cZ,bg,ms,[dz],s,_,_,rfl,S,ap,λhc=>aH (dx.to.calm 2 hc)⟩
   clear cW;rcases em with ⟨cZ,bg,ms,ls,aU,a,b,rfl,S,H,aH⟩|⟨cZ,bg,ms,ls,rest,aU,al,ag,ks,ey,ar,rfl,S,H,bm,ff,aF,v1,v2,bh,bi,bA,ep,er,es,et⟩
   .exact⟨aU,_,_,3,rfl,λ_=>conv _ _ ⟨cZ,bg,_,_,S,(X.trans H).mono I,.inr (.inr ⟨0,0,rfl,dd 4 I aH⟩)⟩,λh=>(by cases h)⟩
   .refine⟨aU,_,_,0,rfl,λh=>(by cases h),λ_=>⟨λh=>?_,λ_=>?_⟩⟩
    .have:(i:Int)=0:=by simpa using h
     omega
    have bo:=hu.to H.to;refine⟨_,rfl,_,bo.aW,u.K,bo.a8,u.V,bo.bg,u.D,bo.fL,(qD bo.cd aF (fr:=al) (to:=ag) er I es et I I I).use ?_⟩;rintro _ fg ⟨dG,ee,c7,rfl,eu,bp⟩;have dC:=b1.ah H.to.ah (ac.t.kO cU);have dD:=dC.ext bp;refine⟨_,dG,ee,c7,rfl,dD.cn rfl fM,rfl,cT dD (us:=ec (fV u.n al ag ks ms) dG ee c7) rfl rfl λev ex br fh=>⟨⟨i-1,cZ,bg,m++ms,l++ [(d[i]).no]++ls,fV u.n al ag ks ms,dG,ee,c7,dp,dq,ef,dr,ds,ey,ar,ps++((d[i]).no::r),?_,?_⟩,?_⟩⟩
    .rw[bq I I];omega
    .have dF:cZ.E g5:=by rw[H.E];exact cU
     have cg:cZ.M g5:=.inr (.inr (.inr (.inl dF)));have ch:=(X.trans H).trans (dk.ext cZ bg bp);simp only[fu]at ch;have ez:bS bY cZ w1 ev (4*(d.length-1-i)+4+0):=ch.to.step (E:=cZ.E) (G:=cZ.G) br (λq e aE=>I) (λq F=>.inl F) λq F=>.inl F;have ci:∀x,au.f x=true->cZ.f x=true:=λx hx=>by rw[H.f,bf,hx];rfl
     have bJ:=b2.to H.to;refine⟨dL,(S.ext bp).C9 br λq e=>.inl (by rw[e];exact dF),{ch.mono (j:=4*(d.length-1-(i-1))) I with to:=ez.mono I},?_,?_,ex,?_,?_,b5.agree λx hx=>cf H x (Q x (by rw[cp];simp[hx])),v1,by rw[v2];exact g.eq,?_,iZ (mO g.acc) bh bi,I,λh1 e=>?_,λx hx=>?_⟩
     .rw[cv];have:=g.px;omega
     .rw[cv,cv,iN];have:=g.ll;omega
     .refine(bT.ah eu br λq F e=>?_).a_ λq _ F dH=>?_
      .subst e
       rcases F with F|F
       .exact F cg
       .have:=dC.lt;omega
      .rcases F with F|F
       .exact F dH
       .have:=S.t.lt dH;omega
     .refine⟨(bJ.own.ext bp).ah br λq F e=>bJ.pw q F (by rw[e];exact cg),bJ.pw,λx hx=>bT.ah ((bJ.cd x hx).ext bp) br λq F e=>F (by rw[e];exact cg)⟩
     .have this:aP.Perm ((d[i]'cJ).no::(r++cH)):=g.pp
      rw[cp]at this;rw[←ca];exact mP this
     .have h2:=ei (λbV=>by
       have:=congrArg List.length bV;rw[dn,cz,k2]at this;omega)
      rw[e,k2]at ep;omega
     .rcases cO.1 hx with hx|hx
      .have:=bh.mem_iff.1 hx
       rcases cO.1 this with hx|hx
       .rw[H.f];simp[hx]
       .rcases cO.1 hx with hx|hx
        .refine ci x (Q x ?_)
         rw[cp];have:x∈ps:=bi.mem_iff.2 (h5 _ hx);simp[this]
        .exact ci x (Q x (by simp[hx]))
      .exact ci x (Q x (by rw[cp];simp[hx]))
    .rw[bq I I]
     show((i:Int)-1+1).toNat<((i:Int)+1).toNat;omega
theorem IV{w:J}{T:aK}{c:dA}{dP:O aM}{n:aD}{K V D ws:ad}(r:ws.len=0)(h:dj w T c)(t:bT (λq=>¬T.M q) w n K V D)(P:T.C.D.a7<=900000000)(Q:2<=cm T)(R:c.made.length<=100)(S:c.left=[])
 (f:gW n) (g:n.keys≠ []) (u:bC n<=232) (y:n.dE=dP):
 aI aj 187 #[.pointer (some c.cb),ws,dg n K V D] w (mN T c [] dP w):=by
 refine okF (ae.oN (some c.cb) ws n.leaf K V D) ax.oN func187 ?_;(delta ae.oN aV Y r1 z5 aq ak aO aG st p9 xL gj ew;dsimp only);refine ba (vs:=ec n K V D) rfl λw1 z A U=>?_;obtain⟨bU,aW,a8,bg⟩:=bK z;refine⟨_,bU,K,aW,V,a8,D,bg,ba (vs:=[false,(),(),()]) rfl λW i B X=>⟨i.cn rfl fM,rfl,cT i (us:=ec n K V D) rfl rfl λj E F Z=>?_⟩⟩;have d:Ext w j:=A.trans (Ext.cC B F (bk _));refine⟨λn10 w'=>n10= -1/\j=w',λ_ _=>0,⟨by rw[r];decide,rfl⟩,?_⟩;rintro _ _ ⟨rfl,rfl⟩;refine⟨λh=>by simp at h,λ_=>?_⟩;obtain⟨d0,d1,d2,d3⟩:=bK E;refine⟨_,d0,K,d1,V,d2,D,d3,(C3 (h.ext d) I I I (t.ext d) (.inl f) u).use ?_⟩;intro v w' a;obtain⟨s,e,rfl⟩:=a.out;obtain⟨au,c',m,l,o,aa,G⟩:=(a.base d).cs;rcases G with ⟨rfl,ks,H,L⟩|⟨rfl,N⟩
 .refine⟨s,0,rfl,λh=>(by cases h),λ_=>?_⟩
  rcases H with ⟨_,x,rfl,rfl,hx⟩|⟨ab,_⟩
  .rcases L with ⟨b,p,rfl,_,e,a,_⟩|⟨b,p,ac,af,ag,rfl,e,_⟩
   .obtain rfl:x=p:=by simpa using e
    refine⟨_,rfl,⟨by decide,by show(0:Int)<((1:Nat):Int);decide⟩,_,by rw[aA,aA];exact a.cell,au,c',[x],[],l,o.mono I,.inr (.inl ⟨x,1,[x],rfl,⟨n,hx,f,λk g=>⟨λ_ e=>(by cases e),λ_ e=>(by cases e)⟩,g,rfl,y.symm⟩,List.Perm.refl _,bk _,I,by show 1<=_;omega⟩)⟩
   .cases e
  .omega
 .exact⟨s,3,rfl,λ_=>⟨au,c',m,[],l,o.mono I,.inr (.inr ⟨0,0,rfl,λhc=>N (gm hc I)⟩)⟩,λh=>(by cases h)⟩
def aK.nS(T:aK)(r h:Nat):aK:={T with root:=r,aL:=h}
theorem b_.IW{w w':J}{T:aK}{r h:Nat}(ht:b_ w T)(a:Var w' T.bh (l3 (T.nS r h)) 243)(hc:af (λq=>q=T.bh) w w')(b:r<T.n)(c:h<=12):b_ w' (T.nS r h)/\bS T (T.nS r h) w w' 0:=
 ⟨⟨a,ht.s.ah hc λq d e=>ht.kt (e▸d),ht.ca.ah hc λq e=>.inl e,ht.kt,ht.dV,ht.jv,ht.n,⟨b,c,ht.num.2.2⟩,ht.eV,ht.b9,ht.low⟩,
  ⟨rfl,rfl,rfl,rfl,rfl,rfl,rfl,rfl,rfl,rfl,bk _,λ_ h=>h,hc.mono λq _ e=>.inr (.inl e),λq h=>.inl h,λq h=>.inl h⟩⟩
def gP(T:aK)(pages:O Nat)(L:O aM):Prop:=(T.aL=0/\T.root=0/\pages=[]/\L=[])\/eO T.P T.aL none none T.root pages L
theorem Db{s t:Nat->al}:∀ {n:Nat},(∀i,s i=true->t i=true)->eU s n<=eU t n
 |0,_=>bk _
 |n+1,h=>by
  have h1:=Db (n:=n) h
  show eU s n+(s n).toNat<=eU t n+(t n).toNat
  cases hs:s n with
  |false=>exact Nat.add_le_add h1 (cM _)
  |true=>rw[h n hs];exact Nat.add_le_add_right h1 _
def wH(T:aK)(aP:O Nat)(dP:O aM)(w:J)(v:aa)(w':J):Prop:=
 ∃au:aK,b_ w' au/\bS T au w w' 60/\au.E=T.E/\au.G=T.G/\
  ((v=.int .i64 2/\cm T<2*T.aL+3/\au=T)\/
   (v=.int .i64 0/\2*T.aL+3<=cm T/\(∃pages,cm T<=cm au+(2*T.aL+3)/\gP au pages dP/\pages.Nodup/\(∀no∈pages,no∈aP\/(T.f no||T.g no)=false)/\∀no,au.f no=true↔(no∈pages\/(T.f no=true/\no∉aP)))/\∀no,T.g no=true->au.P no=T.P no/\au.C.view no=T.C.view no)\/
   (v=.int .i64 3/\¬T.C.D.calm 60/\au.root=T.root/\au.aL=T.aL/\au.f=T.f/\∀no,(T.f no||T.g no)=true->au.P no=T.P no/\au.C.view no=T.C.view no))
theorem Dc{l:O Nat}(h:∀x,l.count x<=1):l.Nodup:=List.nodup_iff_count.2 h
theorem IX{w:J}{T:aK}{s:ad}{aP:O Nat}{dP:O aM}{n:aD}{K V D:ad}(h:b_ w T)(b0:¬T.C.D.ro)(c5:T.C.D.a7<=900000000)(y:T.aL<12)(b1:aP.Nodup)(aE:∀x∈aP,T.f x=true)(c6:aP.length<=5000)
 (b2:∀ (bO j:Nat->Prop) (w1:J) (aW:dA),dj w1 (T.cy bO j) aW->bS T (T.cy bO j) w w1 0->2*T.aL+3<=cm T->aW.made=[]->aW.left=[]->aI aj 187 #[.pointer (some aW.cb),s,dg n K V D] w1 (mN (T.cy bO j) aW aP dP w1)):
 aI aj 131 #[.pointer (some T.bh),s,dg n K V D] w (wH T aP dP w):=by
 have c7:=h.s.bB;refine ae.Fx (some T.bh) s n.leaf K V D w _ ?_;(delta ae.sf aG bP ak aq st Y aV r1 p9 gT;dsimp only);refine ba (vs:=ec n K V D) rfl λw1 ab a_ c9=>ba (vs:=[(0:Int)]) rfl λai bb bc c_=>aX ?_;have ac:Ext ai ai.drew:=cG _;obtain⟨bd,b4⟩:∃bd,bd=ai.drew:=⟨_,rfl⟩;rw[←b4]at ac⊢;have be:=(a_.trans bc).trans ac;have k:=h.ext be;obtain⟨ev,b6⟩:∃ev,ev=w1.heap.size:=⟨_,rfl⟩;rw[←b6]at bb⊢;refine⟨λ_=>False,_,rfl,id,_,k.cells.2.1,_,rfl,id,_,k.cells.2.2.2.2,(y2 k.s).use ?_⟩;rintro _ aF ⟨rfl,ag⟩;have aH:=be.trans ag;have R:=(bb.ext ac).ext ag;have b7:((T.n:Int)-eU (λi=>T.f i||T.g i) T.n)=(cm T:Nat):=by
  have:=nM (λi=>T.f i||T.g i) T.n;unfold cm;omega
 have b8:IntKind.wrap .i64 (IntKind.wrap .i64 (2*(T.aL:Int))+3)=((2*T.aL+3:Nat):Int):=by
  rw[bq (n:=2*(T.aL:Int)) I I,bq I I];omega
 rw[b7,b8];refine⟨_,rfl,ag,λal=>?_,λal=>?_⟩
 .have al:((cm T:Nat):Int)<((2*T.aL+3:Nat):Int):=cj al
  obtain⟨aw,ay⟩:=eF R (i:=0) (by simp);have b9:=ed aF ev 0 (2:Int);have ca:=eE R (i:=0) (2:Int);have bf:=Ext.cC aH b9 I;exact⟨aw,ay,aX ⟨2,ca.cell,T,h.ext bf,(bS.ext T bf).mono I,rfl,rfl,.inl ⟨rfl,I,rfl⟩⟩⟩
 have bi:2*T.aL+3<=cm T:=by
  have:¬((cm T:Nat):Int)<((2*T.aL+3:Nat):Int):=cE al;omega
 refine ba (vs:=[.pointer (some T.bh),(),()]) rfl λce bj cf da=>ba (vs:=[.pointer none]) rfl λbk aJ bl db=>?_;obtain⟨cb,bm⟩:∃cb,cb=aF.heap.size:=⟨_,rfl⟩;obtain⟨e1,bn⟩:∃e1,e1=ce.heap.size:=⟨_,rfl⟩;rw[←bm]at bj⊢;rw[←bn]at aJ⊢;obtain⟨aw,ay⟩:=eF aJ (i:=0) (by simp);have am:=ed bk e1 0 (.pointer (some cb));have aN:=eE aJ (i:=0) (.pointer (some cb));refine⟨aw,ay,aX ?_⟩;obtain⟨B,ch⟩:∃B,B=bk.setCell e1 (.pointer (some cb)):=⟨_,rfl⟩;rw[←ch]at am aN⊢;have dc:=aH.size;have dd:=am.size;have aO:Ext aF B:=Ext.cC (cf.trans bl) am I;have bo:=aH.trans aO;have bp:=R.ext aO;have br:=(bj.ext bl).ah am I;have ci:=((ab.ext bc).ext ac).ext (ag.trans aO);obtain⟨bO,aQ⟩:∃bO,bO=λq=>T.E q\/q=ev:=⟨_,rfl⟩;obtain⟨j,aR⟩:∃j,j=λq=>T.G q\/q=cb:=⟨_,rfl⟩;have aS:∀q,bO q->T.E q\/q=ev:=λq c=>by rw[aQ]at c;exact c
 have an:∀q,j q->T.G q\/q=cb:=λq c=>by rw[aR]at c;exact c
 have bs:∀q,T.E q->bO q:=λq c=>by rw[aQ];exact .inl c
 have ck:∀q,T.G q->j q:=λq c=>by rw[aR];exact .inl c
 have aU:bO ev:=by rw[aQ];exact .inr rfl
 have cl:j cb:=by rw[aR];exact .inr rfl
 have de:=bp.lt;have df:=br.lt;have bt:b_ B (T.cy bO j):=h.grow (W:=λ_=>False) bo (λ_ h=>h.elim) (λq c=>(aS q c).imp id λe=>.inr ⟨I,I⟩) (λq c=>.inr ((an q c).imp id λe=>⟨I,I⟩)) λq c hg=>by
  rcases aS q c with h1|h1<;>rcases an q hg with h2|h2
  .exact(h.dV q h1).2.2 h2
  .have:=h.lt (q:=q) (.inr (.inr (.inr (.inl h1))));omega
  .have:=h.lt (q:=q) (.inr (.inr (.inr (.inr h2))));omega
  .have:=R.lt;omega
 have bu:bS T (T.cy bO j) w B 0:=(bS.refl T w).step (W:=λ_=>False) bo (λ_ h=>h.elim) (λq c=>(aS q c).imp id λe=>.inr I) λq c=>(an q c).imp id λe=>by omega
 have cn:dj B (T.cy bO j) ⟨cb,bI,bI,[],[]⟩:=⟨bt,br,aT.none _ _ _,aT.none _ _ _,cl,λq c=>(f_ q c).elim,λq c=>(f_ q c).elim,b0⟩;have co:=b2 bO j B _ cn bu bi rfl rfl;obtain⟨bU,aW,a8,bg⟩:=bK ci;refine⟨_,aN.cell,_,bU,K,aW,V,a8,D,bg,co.use ?_⟩;rintro v F ⟨bY,u,m,l,bv,d,cq⟩;have S:bY.E ev:=by rw[d.E];exact aU
 have ao:=bp.ah d.to.ah (bt.kO aU);have cr:¬(T.cy bO j).N e1:=by
  have dh:cb<e1:=by rw[bm,bn];omega
  rintro(c|c|c|c)
  .have:=h.lt (q:=e1) (.inl c);omega
  .have:=h.lt (q:=e1) (.inr (.inl c));omega
  .have:=h.lt (q:=e1) (.inr (.inr (.inl c)));omega
  .rcases an e1 c with h1|h1
   .have:=h.lt (q:=e1) (.inr (.inr (.inr (.inr h1))));omega
   .omega
 have bw:=aN.ah d.to.ah cr;have ap:u.cb=cb:=d.cb;have di:bY.bh=T.bh:=d.to.bh;have ar:u.made=m:=d.made;have av:u.left=l:=d.left;have aY:e1≠ev:=by have:=R.lt;omega
 have bx:bS T bY w F 60:=(bu.trans d.to).mono I
 have fin:∀ (w':J) (au:aK),b_ w' au->bS T au w w' 60->au.E=bO->(∀q,T.G q->au.G q)->b_ w' (au.cy T.E T.G)/\bS T (au.cy T.E T.G) w w' 60:=by
  intro w' au hc ht bz bA;exact⟨hc.grow (W:=λ_=>False) (af.refl _ _) (λ_ h=>h.elim) (λq c=>.inl (by rw[bz];exact bs q c)) (λq c=>.inr (.inl (bA q c))) λq c=>(h.dV q c).2.2,
   ht.step (W:=λ_=>False) (af.refl _ _) (λ_ h=>h.elim) (λq c=>.inl (by rw[bz];exact bs q c)) λq c=>.inl (bA q c)⟩
 have bC:∀q,T.G q->bY.G q:=λq c=>d.G q (ck q c);have dk:=(a_).size;have aZ:∀ (w0:J) (au:aK) (c':dA) (x:Int),dj w0 au c'->bS T au w w0 60->au.E ev->dj (w0.setCell ev x) au c'/\bS T au w (w0.setCell ev x) 60:=λw0 au c' x hc ht he=>
  ⟨hc.C9 (ed w0 ev 0 _) λq e=>.inl (by rw[e];exact he),ht.step (E:=au.E) (G:=au.G) (ed w0 ev 0 _) (λq e a0=>I) (λq c=>.inl c) λq c=>.inl c⟩
 have dl:m.length<=1600:=by
  have:=d.room;have:cm (T.cy bO j)<=T.n:=by unfold cm;exact Nat.sub_le _ _
  omega
 have cs:(∃a b:Int,v=.tuple #[a,b,(3:Int)]/\¬T.C.D.calm 60)\/(∃ (root y:Nat) (pages:O Nat),v=.tuple #[root,y,(0:Int)]/\((y=0/\root=0/\pages=[]/\dP=[])\/eO bY.P y none none root pages dP)/\(pages++l).Perm (m++aP)/\y<=12/\m.length<=2*T.aL+3):=by
  rcases cq with ⟨rfl,h1,h2,a1⟩|⟨root,y,pages,rfl,h1,h2,k,H,a1⟩|⟨a,b,rfl,a2⟩
  .exact .inr ⟨0,0,[],rfl,.inl ⟨rfl,rfl,rfl,h1⟩,h2,I,a1⟩
  .have H:y<=T.aL+1:=H
   exact .inr ⟨root,y,pages,rfl,.inr h1,h2,I,a1⟩
  .exact .inl ⟨a,b,rfl,a2⟩
 rcases cs with ⟨a,b,rfl,a2⟩|⟨root,o,pages,rfl,ct,bD,cu,dm⟩
 .
  obtain⟨aw,ay⟩:=eF ao (i:=0) (by simp);have z:=eE ao (i:=0) (3:Int);obtain⟨ax,az⟩:=aZ F bY u 3 bv bx S;have U:=bw.ah (ed F ev 0 (3:Int)) aY;refine⟨a,b,3,rfl,aw,ay,aX ⟨3,z.cell,λ_=>⟨3,z.cell,?_⟩,λhx=>(by cases hx)⟩⟩;obtain⟨cw,cx⟩:=eF z (i:=0) (by simp);have a3:=eE z (i:=0) (3:Int);obtain⟨bE,bF⟩:=aZ _ bY u 3 ax az S;have a4:=U.ah (ed _ ev 0 (3:Int)) aY;refine⟨cw,cx,aX (ae.Bi ev e1 _ _ ?_)⟩;generalize dn:(F.setCell ev (3:Int)).setCell ev (3:Int)=bG at a3 bE a4 bF⊢;(delta ae.qw aG ak r1 gT;dsimp only);have L:Ext bG bG.drew:=cG _;have p:=bE.ext L;have X:=C6 p p.ma.src (λq c=>(p.iE q c).1) (l:=u.made) (λx hx=>by rw[ar]at hx;rw[d.f];simp[hx]) (by rw[ar];exact d.cd) (by rw[ar];omega);rw[ap]at X;have Z:=p.cells.2.1;rw[ap]at Z;refine⟨3,a3.cell,λ_=>aX ⟨id,_,a4.drew.cell,id,_,a4.drew.cell,_,rfl,id,u.ma,Z,X.use ?_⟩,λhx=>(by cases hx)⟩;rintro _ bH ⟨rfl,b3,A,hg⟩;rw[ar]at hg;have cz:=(a3.ext L).ah hg.to.ah (p.t.kO S);have cA:bS T b3 w bH 60:=((bF.trans (bS.ext bY L)).trans hg.to).mono I;obtain⟨f1,f2⟩:=fin bH b3 A.t cA (by rw[hg.E];exact d.E) λq c=>by rw[hg.G];exact bC q c
  refine⟨rfl,3,cz.cell,_,f1,f2,rfl,rfl,.inr (.inr ⟨rfl,a2,hg.root.trans d.root,hg.aL.trans d.aL,?_,λno aa=>?_⟩)⟩
  .funext no
   show b3.f no=T.f no;rw[hg.f,d.f];by_cases r:no∈m
   .have:=(d.jU no r).1
    have e:(T.cy bO j).f no=T.f no:=rfl;rw[e]at this⊢
    cases a5:T.f no
    .simp[r]
    .rw[a5]at this;cases this
   .simp[r];rfl
  .have r:no∉m:=λr=>by
    have:=(d.jU no r).1;have e:((T.cy bO j).f no||(T.cy bO j).g no)=(T.f no||T.g no):=rfl;rw[e,aa]at this;cases this
   have h1:=hg.eD no (.inl r);have h2:=d.eD no aa;exact⟨h1.1.trans h2.1,h1.2.trans h2.2⟩
 .
  have Q:∀x,pages.count x+l.count x=m.count x+aP.count x:=λx=>by
   have:=nR.1 bD x;simpa only[ob] using this
  have aB:∀x,m.count x+aP.count x<=1:=λx=>by
   have h1:=List.nodup_iff_count.1 d.cd x;have h2:=List.nodup_iff_count.1 b1 x;rcases oa (m.count x) with k|k
   .omega
   .rcases oa (aP.count x) with H|H
    .omega
    .have r:=j_.1 k
     have cB:=j_.1 H;have:=(d.jU x r).1;have e:((T.cy bO j).f x||(T.cy bO j).g x)=(T.f x||T.g x):=rfl;rw[e,aE x cB]at this;cases this
  have hlen:pages.length+l.length=m.length+aP.length:=by
   have:=bD.length_eq;simpa only[cv] using this
  have cD:∀x∈l,bY.f x=true:=λx hx=>by
   have h1:=j_.2 hx;have h2:=Q x;rw[d.f];rcases oa (m.count x) with k|k
   .have:x∈aP:=j_.1 I
    have e:(T.cy bO j).f x=T.f x:=rfl;rw[e,aE x this];rfl
   .have:x∈m:=j_.1 k
    simp[this]
  have cF:l.Nodup:=Dc λx=>by have:=Q x;have:=aB x;omega
  obtain⟨aw,ay⟩:=eF ao (i:=0) (by simp);have z:=eE ao (i:=0) (0:Int);obtain⟨ax,az⟩:=aZ F bY u 0 bv bx S;have U:=bw.ah (ed F ev 0 (0:Int)) aY;refine⟨_,_,0,rfl,aw,ay,aX ⟨0,z.cell,λhx=>(by cases hx),λ_=>aX ?_⟩⟩;generalize dp:F.setCell ev (0:Int)=bJ at z ax U az⊢;have L:Ext bJ bJ.drew:=cG _;have p:=ax.ext L;have X:=C6 p p.gG.src (λq c=>(p.kR q c).1) (l:=u.left) (λx hx=>cD x (by rw[av]at hx;exact hx)) (by rw[av];exact cF) (by rw[av];omega);rw[ap]at X;have Z:=p.cells.2.2;rw[ap]at Z;refine⟨id,_,U.drew.cell,id,_,U.drew.cell,_,rfl,id,u.gG,Z,X.use ?_⟩;rintro _ M ⟨rfl,b3,A,hg⟩;rw[av]at hg;have cH:=(z.ext L).ah hg.to.ah (p.t.kO S);have bL:bS T b3 w M 60:=((az.trans (bS.ext bY L)).trans hg.to).mono I;have a6:b3.bh=T.bh:=bL.bh;have bM:b3.E=bO:=by rw[hg.E];exact d.E
  have cI:b3.E ev:=by rw[bM];exact aU
  have bN:Var M T.bh (l3 b3) 243:=by rw[←a6];exact A.t.t
  obtain⟨b5,cp⟩:=eF bN (i:=3) (by simp[l3]);have bQ:=eE bN (i:=3) root;have cJ:=ed M T.bh 3 root;obtain⟨cK,cL⟩:=eF bQ (i:=4) (by simp[l3]);have bR:=eE bQ (i:=4) o;have cM:=ed (M.setCell ⟨T.bh,3,none⟩ root) T.bh 4 o;refine⟨rfl,_,rfl,by rw[aA];exact b5,by rw[aA];exact cp,aX ⟨_,rfl,by rw[aA,aA];exact cK,by rw[aA,aA];exact cL,aX ?_⟩⟩;rw[aA,aA,cR,cR];have a9:af (λq=>q=T.bh) M ((M.setCell ⟨T.bh,3,none⟩ root).setCell ⟨T.bh,4,none⟩ o):=cJ.trans cM;generalize dq:(M.setCell ⟨T.bh,3,none⟩ root).setCell ⟨T.bh,4,none⟩ o=aC at bR a9⊢;have cN:∀x∈pages,x∉l:=λx hx a0=>by
   have h1:=j_.2 hx;have h2:=j_.2 a0;have:=Q x;have:=aB x;omega
  have bT:(o=0/\root=0/\pages=[]/\dP=[])\/(eO b3.P o none none root pages dP/\root∈pages):=ct.imp id λcO=>cO.agree λx hx=>((hg.eD x (.inl (cN x hx))).1).symm;have cP:root<b3.n:=by
   rcases bT with ⟨_,h1,_⟩|⟨h1,_⟩
   .have:=A.t.s.cc;omega
   .obtain⟨cd,_,h2,_⟩:=h1.jq
    exact(A.t.eV _ _ h2).1
  have cQ:Var aC b3.bh (l3 (b3.nS root o)) 243:=by rw[a6];exact bR
  obtain⟨cS,cT⟩:=A.t.IW cQ (by rw[a6];exact a9) cP cu;have cU:ev≠T.bh:=λe=>by have:=h.lt (q:=T.bh) (.inr (.inl rfl));omega
  have bV:=cH.ah a9 cU;obtain⟨cV,cW⟩:=eF bV (i:=0) (by simp);have bW:=eE bV (i:=0) (0:Int);have bX:=ed aC ev 0 (0:Int);refine⟨cV,cW,aX (ae.Bi ev e1 _ _ ?_)⟩;(delta ae.qw aG ak r1 gT;dsimp only);refine⟨0,bW.cell,λhx=>(by cases hx),λ_=>⟨0,bW.cell,?_⟩⟩;have cX:b_ (aC.setCell ev (0:Int)) (b3.nS root o):=cS.grow (E:=b3.E) (G:=b3.G) bX (λq e _=>.inl (by rw[e];exact cI)) (λq c=>.inl c) (λq c=>.inr (.inl c)) λq c=>(A.t.dV q c).2.2;have cY:bS T (b3.nS root o) w (aC.setCell ev (0:Int)) 60:=((bL.trans cT).mono I).step (E:=b3.E) (G:=b3.G) bX (λq e a0=>I) (λq c=>.inl c) λq c=>.inl c;obtain⟨f1,f2⟩:=fin _ _ cX cY bM λq c=>by
   show b3.G q;rw[hg.G];exact bC q c
  refine⟨_,f1,f2,rfl,rfl,.inr (.inl ⟨rfl,bi,⟨pages,?_,?_,Dc λx=>by have:=Q x;have:=aB x;omega,λno hx=>?_,λno=>?_⟩,λno aa=>?_⟩)⟩
  .have h1:cm bY+m.length=cm T:=d.room
   have h2:cm bY<=cm (b3.nS root o):=by
    show bY.n-_<=b3.n-eU (λi=>b3.f i||b3.g i) b3.n;rw[hg.to.n];have:=Db (s:=λi=>b3.f i||b3.g i) (t:=λi=>bY.f i||bY.g i) (n:=bY.n) λi hi=>by
     rw[hg.f,hg.to.g]at hi;rw[je,c8]at hi;rw[je];exact hi.imp And.left id
    omega
   show cm T<=cm (b3.nS root o)+_;omega
  .rcases bT with ⟨h1,h2,k,H⟩|⟨h1,_⟩
   .exact .inl ⟨h1,h2,k,H⟩
   .exact .inr h1
  .have h1:=j_.2 hx
   have h2:=Q no;rcases oa (aP.count no) with k|k
   .have r:no∈m:=j_.1 I
    exact .inr (d.jU no r).1
   .exact .inl (j_.1 k)
  .show b3.f no=true↔_
   rw[hg.f,d.f];have e:(T.cy bO j).f no=T.f no:=rfl;rw[e];have dr:=Q no;have A:=aB no;have bZ:no∈m↔0<m.count no:=j_.symm;have ab:no∈aP↔0<aP.count no:=j_.symm;have cZ:no∈l↔0<l.count no:=j_.symm;have c0:no∈pages↔0<pages.count no:=j_.symm;have c1:0<aP.count no->T.f no=true:=λh=>aE no (ab.2 h);have c2:0<m.count no->T.f no=false:=λh=>by
    have:=(d.jU no (bZ.2 h)).1;have e:((T.cy bO j).f no||(T.cy bO j).g no)=(T.f no||T.g no):=rfl;rw[e]at this
    cases a5:T.f no
    .rfl
    .rw[a5]at this;cases this
   rw[c8,je,cg,iK,iL,bZ,ab,cZ,c0];constructor
   .rintro⟨h1|h1,h2⟩
    .by_cases k:0<aP.count no
     .left;omega
     .exact .inr ⟨h1,k⟩
    .left;omega
   .rintro(h1|⟨h1,h2⟩)
    .refine⟨?_,I⟩
     by_cases k:0<aP.count no
     .exact .inl (c1 k)
     .right;omega
    .refine⟨.inl h1,λk=>?_⟩
     have:0<m.count no:=by omega
     rw[c2 this]at h1;cases h1
  .have c3:(T.f no||T.g no)=true:=by rw[aa];simp
   have c4:bY.g no=true:=by rw[d.to.g];exact aa
   have h1:=hg.eD no (.inr c4);have h2:=d.eD no c3;exact⟨h1.1.trans h2.1,h1.2.trans h2.2⟩
theorem Dd{ks:O Key}{k:Key}{i:Nat}(hs:ks.Pairwise bo)(h1:cL ks k<=i)(hi:i<ks.length)(d:ks[cL ks k]? ≠some k):bo k ks[i]:=by
 rcases o8.1 (qM hs h1 hi) with h2|h2
 .exact h2
 .exfalso
  rcases dX (cL ks k) i with a|a
  .have b:cL ks k<ks.length:=by omega
   have f:=qM hs (bk _) b;have c:=k1.1 hs _ _ b hi a;rw[←h2]at c;exact f c
  .have e:i=cL ks k:=by omega
   apply d;subst e;rw[dI hi,←h2]
theorem zi{n:aD}(h:gW n){i:Nat}(hi:i<=n.keys.length):∃a b c d:O Key,n.keys=a++b/\n.vals=c++d/\a.length=i/\c.length=i/\b.length=d.length/\n.keys.take i=a/\n.keys.drop i=b/\n.vals.take i=c/\n.vals.drop i=d:=by
 have e:=h.len;refine⟨n.keys.take i,n.keys.drop i,n.vals.take i,n.vals.drop i,(fK i _).symm,(fK i _).symm,?_,?_,?_,rfl,rfl,rfl,rfl⟩
 .rw[cz];omega
 .rw[cz];omega
 .rw[eg,eg];omega
def ky(k v:Key):Nat:=2+k.length+v.length
theorem q7{n:aD}(h:n.leaf=true):bC n=1+(List.zipWith ky n.keys n.vals).sum:=by
 unfold bC;rw[if_pos h,lp h];rfl
theorem IY{n:aD}{k v:Key}(h:gW n)(B:cw k)(C:v.length<=24):gW (g4 n k v)/\(g4 n k v).dE=gA n.dE k v/\bC (g4 n k v)<=bC n+50/\(g4 n k v).keys≠ []/\n.keys.length<=(g4 n k v).keys.length/\(∀s∈(g4 n k v).keys,s=k\/s∈n.keys):=by
 have hlen:=h.len;have D:=qL n.keys k;have J:n.dE=n.keys.zip n.vals:=rfl;have E:=h.eY;have F:∀ (j:Nat) (m:j<n.keys.length),j<cL n.keys k->bo n.keys[j] k:=λj m h1=>o_ h1 m;have G:n.keys[cL n.keys k]? ≠some k->∀ (j:Nat) (m:j<n.keys.length),cL n.keys k<=j->bo k n.keys[j]:=λhe j m h1=>Dd E h1 m he;rw[J,GQ h.eY];unfold g4 g3;generalize hi:cL n.keys k=i at D F G⊢;obtain⟨a,b,c,d,g,t,K,L,M,p,q,w,A⟩:=zi h D;have f:n.keys.zip n.vals=a.zip c++b.zip d:=by rw[g,t];exact o9 I
 have u:(a.zip c).length=i:=by rw[n0];omega
 by_cases he:n.keys[i]? =some k
 .rw[if_pos (by simpa using he),if_pos he]
  have N:∃o,b=k::o:=by
   cases b with
   |nil=>rw[g,il I]at he;simp at he
   |cons y o=>
    rw[g,il I,K,nV]at he;simp at he;exact⟨o,by rw[he]⟩
  obtain⟨o,rfl⟩:=N;obtain⟨x,l,rfl⟩:∃x l,d=x::l:=by
   cases d with
   |nil=>simp at M
   |cons x l=>exact⟨x,l,rfl⟩
  have H:n.vals.set i v=c++v::l:=by
   rw[t,ta _ _ I,L,nV];rfl
  refine⟨⟨⟨h.ok,h.eY⟩,h.leaf,by simp[hlen],h.kids,λz f=>?_⟩,?_,?_,λe=>by have e:n.keys=[]:=e;rw[e]at g;simp at g,bk _,λs hs=>.inr hs⟩
  .rcases m6 f with h1|h1
   .exact h.vals z h1
   .rw[h1];exact C
  .show n.keys.zip (n.vals.set i v)=_
   rw[H,f,g,o9 I,mJ u];have O:(a.zip c++(k::o).zip (x::l)).drop (i+1)=o.zip l:=by
    rw[List.zip_cons_cons,show a.zip c++(k,x)::o.zip l=(a.zip c++ [(k,x)])++o.zip l by simp];exact drop_left' (by simp only[cv,u,iN])
   rw[O];rfl
  .rw[q7 h.leaf,q7 (n:={n with vals:=n.vals.set i v}) h.leaf]
   show 1+(List.zipWith ky n.keys (n.vals.set i v)).sum<=_;rw[H,g,t,pM I,pM I,lJ,lJ,List.zipWith_cons_cons,List.zipWith_cons_cons,rp,rp];unfold ky;omega
 .rw[if_neg (by simpa using he),if_neg he]
  have P:=G he;refine⟨⟨⟨λz f=>?_,?_⟩,h.leaf,?_,h.kids,λz f=>?_⟩,?_,?_,λe=>?_,?_,λs hs=>?_⟩
  .have f:z∈n.keys.take i++ [k]++n.keys.drop i:=f
   simp only[cO,fj]at f;rcases f with (f|rfl)|f
   .exact h.ok z (fC f)
   .exact B
   .exact h.ok z (fO f)
  .show(n.keys.take i++ [k]++n.keys.drop i).Pairwise bo
   rw[p,q];have Q:(a++b).Pairwise bo:=by rw[←g];exact E
   obtain⟨aw,ay,R⟩:=mf.1 Q;have S:∀x∈a,bo x k:=λx hx=>by
    obtain⟨j,m,rfl⟩:=fv hx;have:=F j (by rw[g,cv];omega) I;simp only[g,n3 m]at this;exact this
   have T:∀y∈b,bo k y:=λy r=>by
    obtain⟨j,m,rfl⟩:=fv r;have:=P (i+j) (by rw[g,cv];omega) I;have e:(a++b)[i+j]'(by rw[cv];omega)=b[j]:=by
     rw[pK I];congr 1;omega
    simp only[g,e]at this;exact this
   rw[cD];refine mf.2 ⟨aw,?_,λx hx y r=>?_⟩
   .exact jD.2 ⟨T,ay⟩
   .rcases c0.1 r with rfl|r
    .exact S x hx
    .exact R x hx y r
  .show(n.vals.take i++ [v]++n.vals.drop i).length=(n.keys.take i++ [k]++n.keys.drop i).length
   rw[p,q,w,A];simp only[cv,iN];omega
  .have f:z∈n.vals.take i++ [v]++n.vals.drop i:=f
   simp only[cO,fj]at f;rcases f with (f|rfl)|f
   .exact h.vals z (fC f)
   .exact C
   .exact h.vals z (fO f)
  .show(n.keys.take i++ [k]++n.keys.drop i).zip (n.vals.take i++ [v]++n.vals.drop i)=_
   rw[p,q,w,A,f,mJ u,drop_left' u,cD,cD,o9 I];rfl
  .rw[q7 h.leaf,q7 (n:={n with keys:=n.keys.take i++ [k]++n.keys.drop i,vals:=n.vals.take i++ [v]++n.vals.drop i}) h.leaf]
   show 1+(List.zipWith ky (n.keys.take i++ [k]++n.keys.drop i) (n.vals.take i++ [v]++n.vals.drop i)).sum<=_;have aw:(List.zipWith ky (a++ [k]++b) (c++ [v]++d)).sum=(List.zipWith ky a c).sum+(ky k v+(List.zipWith ky b d).sum):=by
    rw[cD,cD,pM I,lJ];rfl
   have ay:(List.zipWith ky (a++b) (c++d)).sum=(List.zipWith ky a c).sum+(List.zipWith ky b d).sum:=by
    rw[pM I,lJ]
   rw[p,q,w,A,g,t,aw,ay];have:=B.2;unfold ky;omega
  .have e:n.keys.take i++ [k]++n.keys.drop i=[]:=e
   simp at e
  .show n.keys.length<=(n.keys.take i++ [k]++n.keys.drop i).length
   rw[p,q,g];simp only[cv,iN];omega
  .have hs:s∈n.keys.take i++ [k]++n.keys.drop i:=hs
   simp only[cO,fj]at hs;rcases hs with (hs|rfl)|hs
   .exact .inr (fC hs)
   .exact .inl rfl
   .exact .inr (fO hs)
end Go.Proofs.YtcmgnhkpfllinaaGreat
