/- Contracts of the functions that the statement reaches, and the plain laws over them; each theorem stands with its conditions. -/
import Derived.Laws.Small
import Derived.Test.YtcmgnhkpfllinaaGreatBFPlays3
namespace Go.Proofs.YtcmgnhkpfllinaaGreat
open Go aU Go.Proofs.Tryz
variable{P:Nat->an aA}{k:Key}{gen no h nb aG fr i top:Nat}{leaf:ag}{l m r kids dZ q bc a:O Nat}{n o:aA}{w w' w1:J}{s t:Nat->ag}{B E:U1}{ks:O Key}{A:ax}{v:Y}{lo hi:an Key}{M d_:O aY}
structure dG where
 no:Nat
 n:aA
 c4:Nat
 K:U
 V:U
 D:U
def dG.c(s:dG):O Y:=[s.no,s.n.leaf,s.K,s.V,s.D,s.c4]
def dG.st(s:dG):Nat×aA×Nat:=(s.no,s.n,s.c4)
theorem oO(l:O dG):∀x∈l,(dG.c x).length=6:=λ_ _=>rfl
structure k6(B:U1)(w:J)(s:U)(l:O dG):Prop where
 own:aL 6 223 w s (cl dG.c l)
 p8:∀q,ar s q->B q
 bu:∀x∈l,b2 B w x.n x.K x.V x.D
def oP(P:Nat->an aA)(k:Key):Nat->Nat->O (Nat×aA×Nat)->Prop
 |0,_,l=>l=[]
 |h+1,no,l=>∃n rest,P no=some n/\n.leaf=decide (h=0)/\l=(no,n,if h=0 then 0 else fa n.keys k)::rest/\oP P k h (n.kids.getD (fa n.keys k) 0) rest
theorem oP.length:∀ {h no:Nat}{l:O (Nat×aA×Nat)},oP P k h no l->l.length=h
 |0,_,_,h=>by rw[h];rfl
 |h+1,_,_,⟨n,rest,_,_,a,b⟩=>by rw[a,eE,oP.length b]
theorem g9.uniq{l:bY}{m:aA}(h1:g9 gen leaf no l n)(a:g9 gen leaf no l m):n=m:=by
 obtain⟨p,a1,a2,a3,a4⟩:=h1;obtain⟨q,c3,cu,c,b⟩:=a;rw[a1]at c3
 cases c3;exact gX.uniq a4.1 b.1
theorem g9.is{l:bY}(h:g9 gen leaf no l n):n.leaf=leaf/\cC n/\bP n<=232:=by
 obtain⟨p,_,_,_,a,_⟩:=h;exact⟨a.2.1,a.1,a.2.2.1⟩
theorem g9.two{l:bY}(h:g9 gen leaf no l n):2<=no:=by
 obtain⟨p,_,_,_,_,a⟩:=h;exact a
theorem cC.fG(h:cC n):n.keys.Pairwise b9:=by
 obtain h|h:=h
 .exact h.fG
 .exact h.fG
def JI(T:aN)(steps:O (Nat×aA×Nat))(w:J)(v:Y)(w':J):Prop:=
 ∃aM:cp,cm w' (T.bK aM T.P)/\b_ T (T.bK aM T.P) w w' (2*T.aD)/\(∀j,aM.view j=T.C.view j)/\
  ((∃ (s:U) (l:O dG),v=.tuple #[s,U8]/\l.map dG.st=steps/\k6 (λq=>w<=q/\¬(T.bK aM T.P).M q) w' s l)\/(v=.tuple #[(),(3:Int)]/\¬T.C.D.calm (2*T.aD)))
theorem JJ(w:J)(cs:Array Y)(h:cs.size=6):Sem.run aj (Instr.buildSlice 219 1 #[(0,.agg cs)]) w=.ok (.slice (some w) 1 1) (w.alloc (.cells cs 223)):=by
 have h0:((Tryz.prog.info? 223).bind (·.zero)).isSome=true:=by kernel_rfl
 obtain⟨z,a⟩:=qj.1 h0;obtain⟨i,hi,b⟩:=p1 a;have h1:(Tryz.prog.underlying 223).isSome=true:=by kernel_rfl
 obtain⟨d,hd⟩:=qj.1 h1;exact Dk (sz:=6) w U3 hd U3 hi b h (by decide) (by decide)
theorem JK:hY aj 219 223 6 96:=⟨by kernel_rfl⟩
theorem D8(a:n.leaf=decide (h=0)):((((h+1:Nat):Int):Int)==1)=n.leaf:=by
 rw[a,ek,gP,cq];omega
theorem Ai{T:aN}{tk:U}{steps:O (Nat×aA×Nat)}(h:cm w T)(cw:T.C.D.aZ<=900000000)(bH:Src 1 w tk (aC k))(bI:∀q,ar tk q->q<w/\¬T.M q)(bJ:oP T.P k T.aD T.root steps):
 aI aj 123 #[.pointer (some T.bE),tk] w (JI T steps w):=by
 have cy:=h.num.2.1;refine okF (ad.wI (some T.bE) tk) ay.wI func123 ?_;(delta ad.wI aE r1 Cs af kU z3 bf ae aW av aJ b5 st aT aQ aO aV ap ai;dsimp only);refine⟨_,rfl,_,h.cells.2.2.2.1,_,rfl,_,h.cells.2.2.2.2,λs n8 n9 w'=>∃ (eX no:Nat) (l:O dG) (rest:O (Nat×aA×Nat)) (ck:U1) (aM:cp),n9=(eX:Nat)/\n8=(no:Nat)/\oP T.P k eX no rest/\l.map dG.st++rest=steps/\l.length+eX=T.aD/\
  ck=(λq=>T.E q\/ar s q)/\(∀q,ar s q->w<=q)/\cm w' ((T.cJ ck T.G).bK aM T.P)/\b_ T ((T.cJ ck T.G).bK aM T.P) w w' (2*l.length)/\(∀j,aM.view j=T.C.view j)/\aL 6 223 w' s (cl dG.c l)/\
  ∀x∈l,b2 (λq=>w<=q/\¬((T.cJ ck T.G).bK aM T.P).M q) w' x.n x.K x.V x.D,λ_ _ n9 _=>n9.toNat,?_,?_⟩
 .have bL:T.E=λq=>T.E q\/ar ⟨none,0,0⟩ q:=by
   funext q;refine propext ⟨.inl,λh=>h.resolve_right ?_⟩;rintro⟨A,ak,_⟩
   cases ak
  have bc:(T.cJ T.E T.G).bK T.C T.P=T:=rfl;refine⟨T.aD,T.root,[],steps,T.E,T.C,rfl,rfl,bJ,rfl,by simp,bL,?_,by rw[bc];exact h,by rw[bc];exact .refl _ _,λ_=>rfl,?_,λx hx=>(by cases hx)⟩
  .rintro q ⟨A,ak,_⟩
   cases ak
  .exact⟨rfl,a_ _,by decide,.inl ⟨rfl,rfl⟩⟩
 have fin:∀ {w':J}{ck:U1}{aM:cp}{s:U}{k:Nat},cm w' ((T.cJ ck T.G).bK aM T.P)->b_ T ((T.cJ ck T.G).bK aM T.P) w w' k->ck=(λq=>T.E q\/ar s q)->(∀q,ar s q->w<=q)->cm w' (T.bK aM T.P)/\b_ T (T.bK aM T.P) w w' k:=by
  intro w' ck aM s k h1 ac g z;have F:∀q,T.E q->ck q:=λq a=>by rw[g];exact .inl a
  exact⟨h1.grow (W:=λ_=>False) (E:=T.E) (G:=T.G) (aa.refl _ _) (λ_ h=>h.elim) (λq a=>.inl (F q a)) (λq a=>.inr (.inl a)) λq a=>(h.dF q a).2.2,
   ac.step (W:=λ_=>False) (aa.refl _ _) (λ_ h=>h.elim) (λq a=>.inl (F q a)) λq a=>.inl a⟩
 rintro s _ _ cz ⟨eX,no,l,rest,ck,ag,rfl,rfl,bd,be,hlen,H,L,t,R,f,aF,cO⟩;have cA:=R.ab.size;refine⟨λaB=>?_,λbN=>?_⟩
 .obtain⟨o,rfl⟩:∃bO,eX=bO+1:=⟨eX-1,by have:(eX:Int)>0:=bB aB;omega⟩
  obtain⟨n,bP,bR,bi,rfl,bj⟩:=bd;obtain⟨bU,S⟩:=t.eM no n bR;have bV:ag.D.aZ<=999999999:=by
   have:ag.D.aZ<=T.C.D.aZ+2*l.length:=R.aZ;omega
  refine(Ah t bV bU S.two _).use ?_;rintro _ r ⟨B,ac,ah,bk,bm⟩;have aG:=R.trans ah;have cB:=ah.ab.size;rw[D8 bi]at bm;rcases bm with ⟨bz,K,V,D,rfl,bW,aK⟩|⟨e,rfl,bX,bY⟩
  .obtain rfl:=g9.uniq S bW
   obtain⟨_,aP,cC⟩:=S.is;have bZ:=aP.fG;have cD:=tO aP;refine⟨n.leaf,K,V,D,0,rfl,bg (vs:=[false,(),(),()]) rfl λb0 X aS b1=>?_⟩;refine⟨X.cF rfl ?_,rfl,c6 X (us:=[n.leaf,K,V,D]) rfl rfl λal aU aX b3=>⟨nofun,λ_=>?_⟩⟩
   .intro v f
    simp only[cN,er,ez]at f;rcases f with rfl|rfl|rfl|rfl<;>trivial
   have bn:Ext r al:=Ext.bQ aS aX (a_ _);have cG:=bn.size;obtain⟨bM,aR,a7,bx⟩:=bS aU;refine⟨_,bM,K,aR,V,a7,D,bx,#[no,n.leaf,K,V,D,U8],by kernel_rfl,?_⟩;refine bg (vs:=[U8,false,(),(),(),U8]) rfl λcH bo bp cI=>?_;refine⟨bo.cF rfl ?_,rfl,c6 bo (us:=[no,n.leaf,K,V,D,U8]) rfl rfl λaY a0 bq cL=>?_⟩
   .intro v f
    simp only[cN,er,ez]at f;rcases f with rfl|rfl|rfl|rfl|rfl|rfl<;>trivial
   have am:Ext r aY:=Ext.bQ (bn.trans bp) bq I;have a6:Var aY r [n.leaf,K,V,D] 169:=(aU.ext bp).ab bq I;obtain⟨sb,b4⟩:=U6 al.heap.size;obtain⟨nb,b7⟩:=U6 r.heap.size;rw[←b4]at a0⊢;rw[←b7]at a6⊢;have b8:=aK.ext am;refine cx (λn40 u=>n40=(((if o=0 then no else n.kids.getD (fa n.keys k) 0:Nat)):Int)/\Ext r u/\Var u sb (dG.c ⟨no,n,if o=0 then 0 else fa n.keys k,K,V,D⟩) 223) (λq a=>⟨λan=>?_,λan=>?_⟩) ?_
   .have N:o≠0:=by
     have:((o+1:Nat):Int)>1:=bB an;omega
    have b9:n.leaf=false:=by rw[bi];simp[N]
    have cM:=aP.xE b9;have cP:=zj n.keys k;obtain⟨bM,aR,a7,bx⟩:=bS a6;have cb:Src 1 aY tk (aC k):=(bH.ab aG.ab λq a cc=>(bI q a).2 (aN.hL cc)).ext am;refine⟨_,bM,K,aR,V,a7,D,bx,(rl b8 cb bZ I).use ?_⟩;rintro _ br ⟨rfl,a8⟩;have bs:=a0.ext a8;obtain⟨ao,cd⟩:=dT bs (i:=5) U9;rw[aw];refine⟨_,rfl,ao,cd,aH ?_⟩;have bt:=dz br sb 5 (.int .i64 ((fa n.keys k:Nat):Int));have bv:=ei bs (i:=5) (.int .i64 ((fa n.keys k:Nat):Int));have bw:Ext r (br.setCell ⟨sb,5,none⟩ (.int .i64 ((fa n.keys k:Nat):Int))):=Ext.bQ (am.trans a8) bt I;have ce:=(a6.ext a8).ab bt I;obtain⟨d0,d1,d2,d3⟩:=bS ce;obtain⟨A,ak,d,cf⟩:=cK.at (aK.ext bw).kids (i:=fa n.keys k) I;refine⟨D,d3,_,bv.cell,A,ak,d,_,cf,a _ _ ⟨?_,bw,?_⟩⟩
    .rw[if_neg N,fi,dB I];rfl
    .rw[if_neg N]
     exact bv
   .have N:o=0:=by
     have:¬((o+1:Nat):Int)>1:=bT an;omega
    refine a _ _ ⟨by rw[if_pos N],am,?_⟩;rw[if_pos N];exact a0
   rintro _ u ⟨rfl,bA,cg⟩;have cQ:=bA.size;refine⟨_,cg.rd rfl,⟨some u.heap.size,1,1⟩,_,JJ _ _ rfl,?_⟩;have a9:=dc u (.cells (dG.c ⟨no,n,if o=0 then 0 else fa n.keys k,K,V,D⟩).toArray 223);have Q:=bA.trans a9;have ch:=Q.size;have ci:=a9.size;have cj:=aF.1;rw[gL _ (oO l)]at cj;have Y:∀q,ar s q->ck q:=λq a=>by rw[H];exact .inr a
   have cn:aL 6 223 r s (cl dG.c l):=aF.ab ah.ab λq a b=>t.kg (Y q a) b;obtain⟨x,ba⟩:=U6 (⟨no,n,if o=0 then 0 else fa n.keys k,K,V,D⟩:dG);rw[←ba]at a9 Q ch ci⊢;have co:∀v∈dG.c x,Plain v:=by
    intro v f;unfold dG.c at f;simp only[cN,er,ez]at f;rcases f with rfl|rfl|rfl|rfl|rfl|rfl<;>trivial
   obtain⟨aq,au,a1,a2,a3,a4,a5⟩:=JK.append (c7:=219) (x:=⟨some u.heap.size,1,1⟩) (Src.new (T:=223) u (dG.c x) 1 rfl) (cn.ext Q) co (by show(2*(s.len+1)+1000)*96<=_;omega);have cR:=a4.size;have bb:∀q,ar aq q->w<=q:=λq a=>by
    rcases a5 q a with h1|h1
    .exact L q h1
    .omega
   obtain⟨k5,bC⟩:=U6 (λq=>T.E q\/ar aq q);have ax:∀q,k5 q->T.E q\/ar aq q:=λq a=>by rw[bC]at a;exact a
   have F:∀q,T.E q->ck q:=λq a=>by rw[H];exact .inl a
   have cq:cl dG.c (l++ [x])=cl dG.c l++dG.c x:=by rw[rW];simp[cl]
   have cr:cm au ((T.cJ k5 T.G).bK B T.P):=by
    refine(ac.ext Q).grow (E:=k5) (G:=T.G) a4 (λq a _=>.inl (Y q a)) (λq a=>?_) (λq a=>.inr (.inl a)) λq a hg=>?_
    .rcases ax q a with h1|h1
     .exact .inl (F q h1)
     .rcases a5 q h1 with g|g
      .exact .inl (Y q g)
      .exact .inr (.inr ⟨g,aL.lt a2 q h1⟩)
    .rcases ax q a with h1|h1
     .exact(h.dF q h1).2.2 hg
     .have g:=h.lt (q:=q) (.inr (.inr (.inr (.inr hg))))
      have:=bb q h1;omega
   have cs:b_ T ((T.cJ k5 T.G).bK B T.P) w au (2*(l++ [x]).length):=by
    have h1:=(aG.trans (b_.ext _ Q)).mono (l:=2*(l++ [x]).length) (by rw[b6,ia];omega);refine h1.step (E:=k5) (G:=T.G) a4 (λq a an=>by have:=L q a;omega) (λq a=>?_) λq a=>.inl a;rcases ax q a with h1|h1
    .exact .inl (F q h1)
    .exact .inr (.inr (bb q h1))
   have bD:∀ {m:aA}{K V D:U},b2 (λq=>w<=q/\¬((T.cJ ck T.G).bK B T.P).M q) r m K V D->b2 (λq=>w<=q/\¬((T.cJ k5 T.G).bK B T.P).M q) au m K V D:=λ{m K V D} b=>by
    have h1:=(b.ext Q).bh (C:=λq=>q<(u.alloc (.cells (dG.c x).toArray 223)).heap.size/\w<=q/\¬((T.cJ ck T.G).bK B T.P).M q) λq a d=>⟨a,d⟩;refine(b2.ab h1 a4 λq a ct=>a.2.2 (.inr (.inr (.inr (.inl (Y q ct)))))).bh λq _ d=>⟨d.2.1,λb=>d.2.2 ?_⟩;rcases b with b|b|b|b|b
    .exact .inl b
    .exact .inr (.inl b)
    .exact .inr (.inr (.inl b))
    .refine .inr (.inr (.inr (.inl ?_)))
     show ck q;rcases ax q b with g|g
     .exact F q g
     .rcases a5 q g with z|z
      .exact Y q z
      .have:=d.1;omega
    .exact .inr (.inr (.inr (.inr b)))
   have bF:IntKind.wrap .i64 (((o+1:Nat):Int)-1)=(o:Nat):=by rw[bl I I];omega
   refine⟨aq,au,a1,⟨o,_,l++ [x],bP,k5,B,bF,rfl,?_,?_,by rw[b6,ia];omega,bC,bb,cr,cs,λj=>(bk j).trans (f j),by rw[cq];exact a2,?_⟩,?_⟩
   .cases o with
    |zero=>exact bj
    |succ m=>rw[if_neg I];exact bj
   .rw[←be,eU,cU,ba];rfl
   .intro y Z
    rcases cE.1 Z with Z|Z
    .exact bD (ah.bu (cO y Z))
    .obtain rfl:=dV.1 Z
     subst ba;exact bD (aK.bh λq _ d=>⟨by have:=d.1;omega,d.2⟩)
   .rw[bF]
    show(o:Int).toNat<(((o+1:Nat):Int)).toNat;omega
  .refine⟨false,bG,bG,bG,e,rfl,bg (vs:=[false,(),(),()]) rfl λb0 X aS b1=>?_⟩
   refine⟨X.cF rfl ?_,rfl,c6 X (us:=[false,(),(),()]) rfl rfl λal aU aX b3=>⟨λ_=>?_,λd=>?_⟩⟩
   .intro v f
    simp only[cN,er,ez]at f;rcases f with rfl|rfl|rfl|rfl<;>trivial
   .have hx:Ext r al:=Ext.bQ aS aX (a_ _)
    have he:e=3/\¬ag.D.calm 2:=by
     rcases bX with h1|h1|⟨_,_,h1⟩
     .exact h1
     .obtain⟨p,ao,_⟩:=S
      rw[ao]at h1;cases h1
     .exact absurd S (h1 n)
    obtain⟨rfl,cu⟩:=he;obtain⟨g,z⟩:=fin (k:=2*T.aD) (ac.ext hx) ((aG.trans (b_.ext _ hx)).mono I) H L;exact⟨B,g,z,λj=>(bk j).trans (f j),.inr ⟨rfl,λhc=>cu (R.calm 2 (gM hc I))⟩⟩
   .simp at d;exact absurd d bY
 .have h0:eX=0:=by
   have:¬(eX:Int)>0:=bT bN;omega
  subst h0;have cv:rest=[]:=bd;subst cv;obtain⟨g,z⟩:=fin (k:=2*T.aD) t (R.mono I) H L;refine⟨ag,g,z,f,.inl ⟨s,l,rfl,by rw[←be,fO],aF,λq a=>⟨L q a,λb=>?_⟩,λx hx=>?_⟩⟩
  .have cS:=L q a
   have az:ck q:=by rw[H];exact .inr a
   rcases b with b|b|b|b|b
   .exact(t.ca.inv.fB q (.inr (.inr (.inl az)))).2 b
   .exact(t.dF q az).1 b
   .exact(t.dF q az).2.1 b
   .have:=h.lt (q:=q) (.inr (.inr (.inr (.inl b))));omega
   .exact(t.dF q az).2.2 b
  .refine(cO x hx).bh λq _ d=>⟨d.1,λb=>d.2 ?_⟩
   rcases b with b|b|b|b|b
   .exact .inl b
   .exact .inr (.inl b)
   .exact .inr (.inr (.inl b))
   .refine .inr (.inr (.inr (.inl ?_)))
    show ck q;rw[H];exact .inl b
   .exact .inr (.inr (.inr (.inr b)))
def aN.kj(T:aN)(f:Nat->ag):aN:={T with f:=f}
structure dJ where
 cb:Nat
 ma:U
 gZ:U
 made:O Nat
 left:O Nat
structure dt(w:J)(T:aN)(c:dJ):Prop where
 t:cm w T
 v:Var w c.cb [.pointer (some T.bE),c.ma,c.gZ] 284
 ma:aL 1 3 w c.ma (dv c.made)
 gZ:aL 1 3 w c.gZ (dv c.left)
 gc:T.G c.cb
 c1:∀q,ar c.ma q->T.G q/\q≠c.cb/\¬ar c.gZ q
 lK:∀q,ar c.gZ q->T.G q/\q≠c.cb
 ns:¬T.C.D.ro
theorem Aj{s:U}{ds:O Nat}(d:Nat)(b:aL 1 3 w s (dv ds))(j:ds.length<=1000000):
 ∃ (a:U) (w':J),Sem.run aj (Builtin.append_ #[72,72] 72 #[s,.slice (some w) 1 1]) (w.alloc (.cells #[d] 3))=.ok a w'/\
  aL 1 3 w' a (dv (ds++ [d]))/\aa (ar s) w w'/\(∀k,ar a k->ar s k\/w<=k)/\aa (ar s) (w.alloc (.cells #[d] 3)) w':=by
 have l:s.len=ds.length:=by have:=b.1;rw[mK]at this;omega
 have hc:Ext w (w.alloc (.cells #[d] 3)):=dc _ _;have m:(w.alloc (.cells #[d] 3)).heap.size=w+1:=iN _ _;obtain⟨a,w',h1,e,n,c,f⟩:=mL.append (c7:=72) (x:=⟨some w.heap.size,1,1⟩) (Src.new (T:=3) w [d] 1 rfl) (b.ext hc) (λv g=>by rw[dV.1 g];trivial) (by show(2*(s.len+1)+1000)*8<=_;omega);exact⟨a,w',h1,by simpa[dv] using e,(aa.da hc).trans c,λk i=>(f k i).imp id (λh=>I),c⟩
section
variable {w w':J}{T aq:aN}{c:dJ}
theorem dt.of{W:U1}(h:dt w T c)(d:cm w' aq)(hc:aa W w w')(cz:∀q,T.G q->¬W q)(f:aq.bE=T.bE)(b:∀q,T.G q->aq.G q)(g:aq.C.D.cj=T.C.D.cj:=by rfl):dt w' aq c:=
 ⟨d,by rw[f];exact h.v.ab hc (cz _ h.gc),h.ma.ab hc λq a=>cz q (h.c1 q a).1,h.gZ.ab hc λq a=>cz q (h.lK q a).1,b _ h.gc,λq a=>⟨b q (h.c1 q a).1,(h.c1 q a).2⟩,λq a=>⟨b q (h.lK q a).1,(h.lK q a).2⟩,λe=>h.ns λi=>g▸e i⟩
theorem dt.ext(h:dt w T c)(hx:Ext w w'):dt w' T c:=h.of (h.t.ext hx) hx (λ_ _ h=>h) rfl λ_ h=>h
theorem dt.cells(h:dt w T c):w.cell? c.cb=some (.pointer (some T.bE))/\w.cell? (Addr.add c.cb 1)=some (.slice c.ma.a c.ma.len c.ma.cap)/\w.cell? (Addr.add c.cb 2)=some (.slice c.gZ.a c.gZ.len c.gZ.cap):=by
 rw[aw,aw];exact⟨h.v.cell,h.v.cell,h.v.cell⟩
theorem cm.xX(h:cm w T){q:Nat}(a:T.G q):¬di T.C q:=λhf=>(h.ca.inv.fB q (.inr (.inr (.inr a)))).2 hf
theorem cm.xY{f:Nat->ag}(h:cm w T)(hs:e1 w' T.sb T.n f T.g T.s1 T.s2)(hc:aa (eH T.sb T.s1 T.s2) w w'):cm w' (T.kj f)/\b_ T (T.kj f) w w' 0:=
 ⟨⟨h.t.ab hc h.k4,hs,h.ca.ab hc λq a=>.inr (.inl a),h.k4,h.dF,h.ki,h.n,h.num,h.eM,h.cj,h.low⟩,
  ⟨rfl,rfl,rfl,rfl,rfl,rfl,rfl,rfl,rfl,rfl,a_ _,λ_ h=>h,hc.mono λq _ a=>.inr (.inr (.inl a)),λq h=>.inl h,λq h=>.inl h⟩⟩
theorem JL(h:dt w T c)(no:Nat)(y:c.made.length<=100000):
 ∃ (b:U) (ah:J),Sem.run aj (Builtin.append_ #[72,72] 72 #[c.ma,.slice (some w) 1 1]) (w.alloc (.cells #[no] 3))=.ok b ah/\
  aa (ar c.ma) (w.alloc (.cells #[no] 3)) ah/\(∃u:Y,ah.cell? ⟨c.cb,1,none⟩=some u)/\ah.frozen? ⟨c.cb,1,none⟩=false/\
  ∀j,j=ah.setCell ⟨c.cb,1,none⟩ b->dt j (T.cJ T.E λq=>T.G q\/ar b q) {c with ma:=b,made:=c.made++ [no]}/\b_ T (T.cJ T.E λq=>T.G q\/ar b q) w j 0:=by
 obtain⟨b,ah,ao,l,d,f,p⟩:=Aj no h.ma I;have cz:∀q,ar c.ma q->T.G q:=λq a=>(h.c1 q a).1;have z:=d.size;have m:=h.v.ab d λa=>(h.c1 _ a).2.1 rfl;obtain⟨bJ,b4⟩:=dT m (i:=1) U9;refine⟨b,ah,ao,p,bJ,b4,?_⟩;rintro _ rfl;have g:=dz ah c.cb 1 b;have r:=ei m (i:=1) b;have k:aa T.G w (ah.setCell ⟨c.cb,1,none⟩ b):=cn (d.mono λq _ a=>cz q a) g λq _ e=>by rw[e];exact h.gc
 have A:=k.size;have aB:∀q,ar b q->q<ah:=λq a=>aL.lt l q a;have n:∀q,ar b q->T.G q\/(w<=q/\q<(ah.setCell ⟨c.cb,1,none⟩ b).heap.size):=λq a=>by
  rcases f q a with h1|h1
  .exact .inl (cz q h1)
  .exact .inr ⟨h1,U5 (aB q a) g.size⟩
 have o:∀q,ar b q->q≠c.cb:=λq a e=>by
  rcases f q a with h1|h1
  .exact(h.c1 q h1).2.1 e
  .have:=h.v.lt;omega
 have s:∀q,ar b q->¬ar c.gZ q:=λq a e=>by
  rcases f q a with h1|h1
  .exact(h.c1 q h1).2.2 e
  .have:=aL.lt h.gZ q e;omega
 have x:=h.t.grow (E:=T.E) (G:=λq=>T.G q\/ar b q) k (λq a _=>.inr a) (λq a=>.inl a) (λq a=>by
  obtain a|a:=a
  .exact .inr (.inl a)
  .exact .inr (n q a)) λq a hg=>by
  obtain hg|hg:=hg
  .exact(h.t.dF q a).2.2 hg
  .rcases f q hg with h1|h1
   .exact(h.t.dF q a).2.2 (cz q h1)
   .have:=h.t.lt (q:=q) (.inr (.inr (.inr (.inl a))));omega
 refine⟨⟨x,r,?_,(h.gZ.ab d λq a e=>(h.c1 q e).2.2 a).ab g λq a e=>(h.lK q a).2 e,.inl h.gc,λq a=>⟨.inr a,o q a,s q a⟩,λq a=>⟨.inl (h.lK q a).1,(h.lK q a).2⟩,h.ns⟩,?_⟩
 .have:aL 1 3 ah b (dv (c.made++ [no])):=l
  exact this.ab g λq a e=>o q a e
 .have h0:b_ T T w w 0:=.refl _ _
  exact h0.step k (λq a _=>.inr (.inr (.inr a))) (λq a=>.inl a) λq a=>by
   obtain a|a:=a
   .exact .inl a
   .exact(n q a).imp id λe=>e.1
theorem D9(h:dt w T c)(no:Nat)(y:c.left.length<=100000):
 ∃ (b:U) (ah:J),Sem.run aj (Builtin.append_ #[72,72] 72 #[c.gZ,.slice (some w) 1 1]) (w.alloc (.cells #[no] 3))=.ok b ah/\
  aa (ar c.gZ) (w.alloc (.cells #[no] 3)) ah/\(∃u:Y,ah.cell? ⟨c.cb,2,none⟩=some u)/\ah.frozen? ⟨c.cb,2,none⟩=false/\
  ∀j,j=ah.setCell ⟨c.cb,2,none⟩ b->dt j (T.cJ T.E λq=>T.G q\/ar b q) {c with gZ:=b,left:=c.left++ [no]}/\b_ T (T.cJ T.E λq=>T.G q\/ar b q) w j 0:=by
 obtain⟨b,ah,ao,l,d,f,p⟩:=Aj no h.gZ I;have cz:∀q,ar c.gZ q->T.G q:=λq a=>(h.lK q a).1;have z:=d.size;have m:=h.v.ab d λa=>(h.lK _ a).2 rfl;obtain⟨bJ,b4⟩:=dT m (i:=2) U9;refine⟨b,ah,ao,p,bJ,b4,?_⟩;rintro _ rfl;have g:=dz ah c.cb 2 b;have r:=ei m (i:=2) b;have k:aa T.G w (ah.setCell ⟨c.cb,2,none⟩ b):=cn (d.mono λq _ a=>cz q a) g λq _ e=>by rw[e];exact h.gc
 have A:=k.size;have aB:∀q,ar b q->q<ah:=λq a=>aL.lt l q a;have n:∀q,ar b q->T.G q\/(w<=q/\q<(ah.setCell ⟨c.cb,2,none⟩ b).heap.size):=λq a=>by
  rcases f q a with h1|h1
  .exact .inl (cz q h1)
  .exact .inr ⟨h1,U5 (aB q a) g.size⟩
 have o:∀q,ar b q->q≠c.cb:=λq a e=>by
  rcases f q a with h1|h1
  .exact(h.lK q h1).2 e
  .have:=h.v.lt;omega
 have s:∀q,ar c.ma q->¬ar b q:=λq e a=>by
  rcases f q a with h1|h1
  .exact(h.c1 q e).2.2 h1
  .have:=aL.lt h.ma q e;omega
 have x:=h.t.grow (E:=T.E) (G:=λq=>T.G q\/ar b q) k (λq a _=>.inr a) (λq a=>.inl a) (λq a=>by
  obtain a|a:=a
  .exact .inr (.inl a)
  .exact .inr (n q a)) λq a hg=>by
  obtain hg|hg:=hg
  .exact(h.t.dF q a).2.2 hg
  .rcases f q hg with h1|h1
   .exact(h.t.dF q a).2.2 (cz q h1)
   .have:=h.t.lt (q:=q) (.inr (.inr (.inr (.inl a))));omega
 refine⟨⟨x,r,(h.ma.ab d λq a e=>(h.c1 q a).2.2 e).ab g λq a e=>(h.c1 q a).2.1 e,?_,.inl h.gc,λq a=>⟨.inl (h.c1 q a).1,(h.c1 q a).2.1,s q a⟩,λq a=>⟨.inr a,o q a⟩,h.ns⟩,?_⟩
 .have:aL 1 3 ah b (dv (c.left++ [no])):=l
  exact this.ab g λq a e=>o q a e
 .have h0:b_ T T w w 0:=.refl _ _
  exact h0.step k (λq a _=>.inr (.inr (.inr a))) (λq a=>.inl a) λq a=>by
   obtain a|a:=a
   .exact .inl a
   .exact(n q a).imp id λe=>e.1
end
def cy(T:aN):Nat:=T.n-cH (λi=>T.f i||T.g i) T.n
theorem D_:∀ {n:Nat},(∀i,i<n->s i=t i)->cH s n=cH t n
 |0,_=>rfl
 |n+1,h=>by
  unfold cH
  rw[D_ (n:=n) λi hi=>h i I,h n I]
theorem uf{k:Nat}(a:s k=false)(ht:t k=true)(he:∀i,i≠k->t i=s i):∀ {n:Nat},k<n->cH t n=cH s n+1
 |0,h=>by omega
 |n+1,h=>by
  unfold cH
  by_cases e:k=n
  .subst e
   rw[D_ (s:=t) (t:=s) (n:=k) λi hi=>he i I,a,ht]
   simp
  .rw[uf a ht he (n:=n) I,he n I]
   omega
theorem Ea:∀ {n:Nat},(∀i,i<n->t i=true)->cH t n=n
 |0,_=>rfl
 |n+1,h=>by
  unfold cH
  rw[Ea (n:=n) λi hi=>h i I,h n I]
  simp
theorem Eb{T:aN}(h:1<=cy T):∃no,firstFree (λi=>T.f i||T.g i) T.n=some no:=by
 cases hf:firstFree (λi=>T.f i||T.g i) T.n with
 |some no=>exact⟨no,rfl⟩
 |none=>
  have:=Ea (I3 hf);unfold cy at h;rw[this]at h;omega
structure du(T aq:aN)(c c':dJ)(m l:O Nat)(w w':J)(k:Nat):Prop where
 to:b_ T aq w w' k
 E:aq.E=T.E
 G:∀q,T.G q->aq.G q
 root:aq.root=T.root
 aD:aq.aD=T.aD
 cb:c'.cb=c.cb
 made:c'.made=c.made++m
 left:c'.left=c.left++l
 bu:m.Nodup
 kF:∀no∈m,(T.f no||T.g no)=false/\no<T.n
 f:∀no,aq.f no=(T.f no||decide (no∈m))
 eQ:∀no,(T.f no||T.g no)=true->aq.P no=T.P no/\aq.C.view no=T.C.view no
 room:cy aq+m.length=cy T
theorem du.ext(T:aN)(c:dJ)(h:Ext w w'):du T T c c [] [] w w' 0:=
 ⟨.ext T h,rfl,λ_ h=>h,rfl,rfl,rfl,by simp,by simp,o5,λ_ h=>(by cases h),λno=>by simp,λ_ _=>⟨rfl,rfl⟩,by simp⟩
theorem du.trans{T aq o:aN}{c c' p:dJ}{s:O Nat}{t:J}{k u:Nat}(h1:du T aq c c' m l w w' k)(d:du aq o c' p r s w' t u):du T o c p (m++r) (l++s) w t (k+u):=by
 have hg:aq.g=T.g:=h1.to.g;have v:aq.n=T.n:=h1.to.n;have hf:∀no,(T.f no||T.g no)=true->(aq.f no||aq.g no)=true:=λno h=>by
  rw[h1.f,hg]
  cases i:T.f no<;>cases j:T.g no<;>simp[i,j]at h⊢
 refine⟨h1.to.trans d.to,d.E.trans h1.E,λq h=>d.G q (h1.G q h),d.root.trans h1.root,d.aD.trans h1.aD,d.cb.trans h1.cb,by rw[d.made,h1.made,cU],by rw[d.left,h1.left,cU],?_,λno h=>?_,λno=>?_,λno h=>?_,?_⟩
 .rw[nO]
  refine⟨h1.bu,d.bu,λa x b y e=>?_⟩;subst e;have:=(d.kF a y).1;rw[h1.f]at this;simp[x]at this
 .rcases cE.1 h with h|h
  .exact h1.kF no h
  .have i:=d.kF no h
   rw[h1.f,hg,v]at i;refine⟨?_,i.2⟩
   cases z:T.f no<;>cases A:T.g no<;>simp[z,A]at i⊢
 .rw[d.f,h1.f]
  simp only[cE,Bool.decide_or,Bool.or_assoc]
 .have i:=d.eQ no (hf no h)
  have j:=h1.eQ no h;exact⟨i.1.trans j.1,i.2.trans j.2⟩
 .have:=h1.room
  have:=d.room;rw[b6];omega
theorem du.mono{T aq:aN}{c c':dJ}{k j:Nat}(h:du T aq c c' m l w w' k)(a:k<=j):du T aq c c' m l w w' j:=⟨h.to.mono a,h.E,h.G,h.root,h.aD,h.cb,h.made,h.left,h.bu,h.kF,h.f,h.eQ,h.room⟩
def Ec(T:aN)(c:dJ)(n:aA)(w:J)(v:Y)(w':J):Prop:=
 ∃ (no:Nat) (aq:aN) (c':dJ),dt w' aq c'/\du T aq c c' [no] [] w w' 1/\
  ((v=.tuple #[no,U8]/\aq.P no=some n)\/(v=.tuple #[no,(3:Int)]/\¬T.C.D.calm 1))
theorem cC.fJ(h:cC n)(b:bP n<=400):n.keys.length<=200/\n.vals.length<=200/\n.kids.length<=201:=by
 have:=tO h;obtain h|h:=h
 .have:=h.len
  have a:n.kids.length=0:=by rw[h.kids];rfl
  omega
 .have:=h.len
  have a:n.vals.length=0:=by rw[h.vals];rfl
  omega
theorem xZ{T:aN}{c:dJ}{K V D:U}(h:dt w T c)(bk:T.C.D.aZ<=900000100)(W:1<=cy T)(bl:c.made.length<=1000)(aK:b2 B w n K V D)(hs:cC n)(aO:bP n<=232):
 aI aj 265 #[.pointer (some c.cb),dg n K V D] w (Ec T c n w):=by
 obtain⟨no,X⟩:=Eb W;obtain⟨u,y,_⟩:=DG X;have H:=h.t.s.bz;have bm:=hs.fJ I;refine okF (ad.xd (some c.cb) n.leaf K V D) ay.xd func265 ?_;(delta ad.xd aW ae av aJ dY af aE jc ap st c0 aF b5;dsimp only);refine bg (vs:=[n.leaf,K,V,D]) rfl λw1 Z ac bn=>?_;obtain⟨bM,aR,a7,bx⟩:=bS Z;refine⟨_,bM,K,aR,V,a7,D,bx,(ry (aK.ext ac) I I I).use ?_⟩;rintro _ aP ⟨aQ,ag⟩;obtain⟨s,rfl,aS,aT,_,_⟩|⟨e,rfl,he,aU⟩:=aQ
 rotate_left
 .have:=aU hs;omega
 have L:=ac.trans ag;have r:=h.ext L;refine⟨s,0,rfl,nofun,λ_=>⟨_,rfl,_,r.cells.1,_,rfl,_,r.t.cells.2.1,(DI r.t.s).use ?_⟩⟩;rintro _ aV ⟨rfl,fp,ah⟩;rw[X]at fp⊢;obtain⟨aX,M⟩:=r.t.xY fp ah;have ai:dt aV (T.kj (c9 T.f no true)) c:=r.of aX ah (λq a hf=>(h.t.ki q a).2 hf) rfl λ_ h=>h;refine⟨(no:Nat),0,rfl,nofun,λ_=>⟨_,rfl,_,ai.cells.2.1,?_⟩⟩;obtain⟨z,ak,ao,bo,aY,a0,a1⟩:=JL ai no I;refine aH ⟨z,ak,ao,_,rfl,aY,a0,aH ?_⟩;rw[aw];obtain⟨o,al⟩:=U6 (ak.setCell ⟨c.cb,0+1,none⟩ z);rw[←al];obtain⟨A,O⟩:=a1 o al;obtain⟨am,bp⟩:=U6 (λq=>T.G q\/ar z q);have au:∀q,T.N q->q<w:=λq a=>h.t.lt (aN.hL a);have bq:=L.size;have br:=M.ab.size;have bs:=O.ab.size;have ax:aa T.N aP o:=M.ab.trans O.ab;have a2:Var o w [n.leaf,K,V,D] 169:=(Z.ext ag).ab ax λa=>U4 (au _ a)
 have a3:aL 1 5 o s (aC (ew n)):=aS.ab ax λq a a4=>U5 (au _ a4) (aT q a)
 have hlen:=tN hs;have H:2<=no:=by
  have e:(T.f no||T.g no)=false:=y;have F:T.g no=false:=by cases hg:T.g no<;>simp_all
  have:=h.t.low;rcases dA no 2 with Q|Q
  .rcases o4 no with az|az
   .rw[az,this.1]at F;cases F
   .rw[show no=1 from I,this.2]at F;cases F
  .exact Q
 have R:oF ⟨if n.leaf then 1 else 2,T.gen,ew n⟩:=by
  refine⟨?_,?_,h.t.num.2.2,by show(ew n).length<=232;omega⟩
  .show 1<=(if n.leaf then 1 else 2);split<;>omega
  .show(if n.leaf then 1 else 2)<=4;split<;>omega
 refine cx (λn27 a5=>n27=((if n.leaf then 1 else 2:Nat):Int)/\a5=o) (λq a=>⟨n.leaf,a2.cell,λd=>a _ _ ⟨by rw[d];rfl,rfl⟩,λd=>a _ _ ⟨by rw[d];rfl,rfl⟩⟩) ?_;rintro _ _ ⟨rfl,rfl⟩;refine⟨_,rfl,_,A.cells.1,_,rfl,_,A.t.cells.2.2.1,(xz (no:=no) (p:=⟨if n.leaf then 1 else 2,T.gen,ew n⟩) a3.src I R).use ?_⟩;rintro _ bt ⟨s2,rfl,aB,aD,a6⟩;have l:=A.ext aD;refine⟨s2,0,rfl,nofun,λ_=>⟨_,rfl,_,l.cells.1,_,rfl,_,l.t.cells.1,(D6 l.t.ca (by show T.C.D.aZ<=999999999;omega) (no:=no) (l.t.n▸u) H (λhs=>by have:=l.t.cj no hs;have e:(T.f no||T.g no)=false:=y;obtain this|this:=this;(rw[show T.g no=true from this,Bool.or_true]at e;cases e);exact l.ns this) aB.src (tQ no R) λq a=>⟨aL.lt aB q a,λhf=>?_⟩).use ?_⟩⟩
 .have:=a6 q a
  have:=A.t.lt (q:=q) (.inl hf);omega
 rintro _ a8 ⟨aM,a9,S,ba⟩;have bb:∀j,c9 T.f no true j=(T.f j||decide (j∈ [no])):=λj=>by
  unfold c9;by_cases e:j=no
  .subst e;simp
  .simp[e]
 have aG:(T.f no||T.g no)=false:=y;have bc:T.n-cH (λi=>c9 T.f no true i||T.g i) T.n+1=cy T:=by
  have:=uf (s:=λi=>T.f i||T.g i) (t:=λi=>c9 T.f no true i||T.g i) (k:=no) y (by simp[c9]) (λi hi=>by simp[c9,hi]) u;unfold cy at W⊢;have Q:=l9 (λi=>T.f i||T.g i) T.n;omega
 have main:∀ (P':Nat->an aA) (v:Y),(∀j,j≠no->P' j=T.P j)->(∀j,j≠no->aM.view j=T.C.view j)->(∀j bu,P' j=some bu->j<T.n/\g9 T.gen bu.leaf j (aM.view j) bu)->
  ((v=.tuple #[no,U8]/\P' no=some n)\/(v=.tuple #[no,(3:Int)]/\¬T.C.D.calm 1))->Ec T c n w v a8:=by
  intro P' v bd eG be m;obtain⟨bf,bh⟩:=l.t.xW (P:=P') a9 S be;have bi:=l.of (aq:=((T.kj (c9 T.f no true)).cJ T.E λq=>T.G q\/ar z q).bK aM P') bf S.ab (λq a=>l.t.xX a) rfl (λ_ h=>h) S.cj;refine⟨no,_,_,bi,⟨?_,rfl,λq a=>.inl a,rfl,rfl,rfl,rfl,(fO _).symm,by simp,λx hx=>?_,bb,λj b=>?_,bc⟩,m⟩
  .have:=(((b_.ext T L).trans M).trans O).trans ((b_.ext _ aD).trans bh)
   exact this.mono I
  .obtain rfl:=dV.1 hx
   exact⟨aG,u⟩
  .have:j≠no:=λe=>by rw[e,aG]at b;cases b
   exact⟨bd j this,eG j this⟩
 obtain⟨rfl,m⟩|⟨rfl,bj,m⟩:=ba
 .refine⟨0,rfl,main (λj=>if j=no then some n else T.P j) _ (λj b=>if_neg b) (λj b=>(m j).trans (if_neg b)) (λj bu b=>?_) (.inl ⟨rfl,if_pos rfl⟩)⟩
  by_cases e:j=no
  .subst e
   rw[if_pos rfl]at b
   cases b;rw[m,if_pos rfl];exact⟨u,_,tS I R,a_ _,rfl,⟨hs,rfl,aO,rfl⟩,H⟩
  .rw[if_neg e]at b
   rw[m,if_neg e];exact h.t.eM j bu b
 .refine⟨3,rfl,main T.P _ (λ_ _=>rfl) (λj _=>m j) (λj bu b=>?_) (.inr ⟨rfl,bj⟩)⟩
  rw[m];exact h.t.eM j bu b
theorem JM(w:J)(x:Int):Sem.run aj (Instr.buildSlice 317 1 #[(0,.agg #[(),x])]) w=
 .ok (.slice (some w) 1 1) (w.alloc (.cells #[(),x] 325)):=by kernel_rfl
theorem JN(w:J)(x y:Int)(t:U):Sem.run aj (Instr.buildSlice 317 2 #[(0,.agg #[(),x]),(1,.agg #[t,y])]) w=
 .ok (.slice (some w) 2 2) (w.alloc (.cells #[(),x,t,y] 325)):=by kernel_rfl
theorem cC.zl(h:cC n)(h1:1<=cB n)(d:if n.leaf then cB n<=n.keys.length-1/\1<=n.keys.length-1 else cB n<=n.keys.length-2/\1<=n.keys.length-2):cC (n.left (cB n))/\cC (n.right (cB n)):=by
 obtain h|h:=h
 .have a:=h.leaf
  rw[if_pos a]at d;unfold aA.left aA.right;rw[if_pos a,if_pos a];have hlen:=h.len;refine⟨.inl ⟨⟨λk b=>h.ok k (gd b),h.fG.sublist (List.take_sublist _ _)⟩,rfl,?_,rfl,λv c=>h.vals v (gd c)⟩,.inl ⟨⟨λk b=>h.ok k (gb b),h.fG.sublist (List.drop_sublist _ _)⟩,rfl,?_,rfl,λv c=>h.vals v (gb c)⟩⟩
  .simp only[cQ];omega
  .simp only[dW];omega
 .have a:=h.inner
  rw[if_neg (by rw[a];simp)]at d;unfold aA.left aA.right;rw[if_neg (by rw[a];simp),if_neg (by rw[a];simp)];have hlen:=h.len;refine⟨.inr ⟨⟨λk b=>h.ok k (gd b),h.fG.sublist (List.take_sublist _ _)⟩,rfl,?_,?_,rfl,λv c=>h.kids v (gd c)⟩,.inr ⟨⟨λk b=>h.ok k (gb b),h.fG.sublist (List.drop_sublist _ _)⟩,rfl,?_,?_,rfl,λv c=>h.kids v (gb c)⟩⟩
  .intro e
   have:=congrArg List.length e;simp only[cQ,ic]at this;omega
  .simp only[cQ];omega
  .intro e
   have:=congrArg List.length e;simp only[dW,ic]at this;omega
  .simp only[dW];omega
def l_(B:U1)(w:J)(s:U)(ks:O Key)(kids:O Nat):Prop:=
 (∃b x,s=⟨some ⟨b,0,none⟩,1,1⟩/\ks=[]/\kids=[x]/\Var w b [.slice none 0 0,.int .i64 (x:Nat)] 325/\B b)\/
 (∃b x y k t,s=⟨some ⟨b,0,none⟩,2,2⟩/\ks=[k]/\kids=[x,y]/\Var w b [.slice none 0 0,.int .i64 (x:Nat),.slice t.a t.len t.cap,.int .i64 (y:Nat)] 325/\B b/\bI B w t k/\k≠ [])
def iQ(T:aN)(c:dJ)(n:aA)(w:J)(v:Y)(w':J):Prop:=
 ∃ (aq:aN) (c':dJ) (m:O Nat) (s:U),dt w' aq c'/\du T aq c c' m [] w w' 2/\m.length<=2/\
  ((∃ks,v=.tuple #[s,U8]/\nt aq.P n ks m/\l_ (λq=>¬aq.M q) w' s ks m)\/(v=.tuple #[s,(3:Int)]/\¬T.C.D.calm 2))
theorem Ed{T:aN}{c:dJ}{K V D:U}(h:dt w T c)(m:T.C.D.aZ<=900000100)(o:1<=cy T)(p:c.made.length<=1000)(q:b2 B w n K V D)(hs:cC n)(g:bP n<=232):
 aI aj 234 #[.pointer (some ⟨c.cb,0,none⟩),dg n K V D] w (iQ T c n w):=by
 refine okF (ad.w8 (some ⟨c.cb,0,none⟩) n.leaf K V D) ay.w8 func234 ?_;(delta ad.w8 aW ae av aJ jc;dsimp only);refine bg (vs:=[.bool n.leaf,.slice K.a K.len K.cap,.slice V.a V.len V.cap,.slice D.a D.len D.cap]) rfl λw1 r f A=>?_;obtain⟨bM,aR,a7,bx⟩:=bS r;refine⟨_,bM,K,aR,V,a7,D,bx,(xZ (h.ext f) m o p (q.ext f) hs g).use ?_⟩;rintro _ b ⟨no,aq,c',i,s,u⟩;have j:∀ (e:Int),((e=0/\aq.P no=some n)\/(e=3/\¬T.C.D.calm 1))->∃ (d:U) (k:J),Sem.run aj (Instr.buildSlice 317 1 #[(0,.agg #[.slice none 0 0,.int .i64 (no:Nat)])]) b=.ok (.slice d.a d.len d.cap) k/\iQ T c n w (.tuple #[.slice d.a d.len d.cap,.int .i64 e]) k:=by
  intro e he;refine⟨⟨some ⟨b,0,none⟩,1,1⟩,_,JM b _,?_⟩;have l:=dc b (.cells #[.slice none 0 0,.int .i64 (no:Nat)] 325);have v:du T aq c c' [no] [] w (b.alloc (.cells #[.slice none 0 0,.int .i64 (no:Nat)] 325)) 2:=(((du.ext T c f).trans s).trans (du.ext aq c' l)).mono I;refine⟨aq,c',[no],⟨some ⟨b,0,none⟩,1,1⟩,i.ext l,v,by simp,?_⟩;obtain⟨rfl,he⟩|⟨rfl,he⟩:=he
  .refine .inl ⟨[],rfl,.inl ⟨g,no,rfl,rfl,he⟩,.inl ⟨_,no,rfl,rfl,rfl,Var.new b [.slice none 0 0,.int .i64 (no:Nat)] 325,λx=>?_⟩⟩
   have:=i.t.lt x;omega
  .exact .inr ⟨rfl,λhc=>he (gM hc I)⟩
 obtain⟨rfl,y⟩|⟨rfl,z⟩:=u
 .exact⟨_,0,rfl,j 0 (.inl ⟨rfl,y⟩)⟩
 .exact⟨_,3,rfl,j 3 (.inr ⟨rfl,z⟩)⟩
theorem gi{b:ag}{K V D:U}:∀v∈ [.bool b,.slice K.a K.len K.cap,.slice V.a V.len V.cap,.slice D.a D.len D.cap],Plain v:=by
 intro v c;simp only[cN,er,ez]at c;rcases c with rfl|rfl|rfl|rfl<;>trivial
theorem JO{T:aN}{c:dJ}{K V D:U}(h:dt w T c)(a1:T.C.D.aZ<=900000090)(a2:2<=cy T)(a3:c.made.length<=900)(ak:b2 B w n K V D)(hs:cC n)(al:232<bP n)(a4:bP n<=400)(h1:1<=cB n)
 (o:if n.leaf then cB n<=n.keys.length-1/\1<=n.keys.length-1 else cB n<=n.keys.length-2/\1<=n.keys.length-2) (am:bP (n.left (cB n))<=232) (an:bP (n.right (cB n))<=232):
 aI aj 276 #[.pointer (some ⟨c.cb,0,none⟩),dg n K V D] w (iQ T c n w):=by
 obtain⟨sl,ao⟩:=hs.zl h1 o;have a5:=hs.fJ I;have b:cB n<n.keys.length:=by
  split at o<;>omega
 refine okF (ad.xf (some ⟨c.cb,0,none⟩) n.leaf K V D) ay.xf func276 ?_;(delta ad.xf aW ae av aJ Cn z3 bf af jc;dsimp only);refine bg (vs:=[.bool n.leaf,.slice K.a K.len K.cap,.slice V.a V.len V.cap,.slice D.a D.len D.cap]) rfl λw1 ap G a6=>?_;obtain⟨bM,aR,a7,bx⟩:=bS ap;refine⟨_,bM,K,aR,V,a7,D,bx,(rz (ak.ext G) hs I h1 o).use ?_⟩;rintro _ aq ⟨fL,gy,bX,dP,ep,de,t,rfl,ar,au,ht,aw⟩;refine⟨_,fL,gy,bX,t,_,dP,ep,de,true,rfl,bg (vs:=[.bool false,.slice none 0 0,.slice none 0 0,.slice none 0 0]) rfl λa8 ax az a9=>bg (vs:=[.bool false,.slice none 0 0,.slice none 0 0,.slice none 0 0]) rfl λa_ aB H ba=>?_⟩;have L:=ax.ext H;refine⟨L.cF rfl gi,rfl,c6 L (us:=[.bool (n.left (cB n)).leaf,.slice fL.a fL.len fL.cap,.slice gy.a gy.len gy.cap,.slice bX.a bX.len bX.cap]) rfl rfl λbb aC O bc=>?_⟩;have Q:=aB.ab O I;refine⟨Q.cF rfl gi,rfl,c6 Q (us:=[.bool (n.right (cB n)).leaf,.slice dP.a dP.len dP.cap,.slice ep.a ep.len ep.cap,.slice de.a de.len de.cap]) rfl rfl λp aD R bd=>⟨nofun,λ_=>?_⟩⟩;have aE:=aC.ab R I;have S:=G.trans aw;have l:Ext aq p:=Ext.bQ (Ext.bQ (az.trans H) O I) R I;have r:=S.trans l;have be:=S.size;have bi:=l.size;obtain⟨d0,d1,d2,d3⟩:=bS aE;refine⟨_,d0,fL,d1,gy,d2,bX,d3,(xZ (h.ext r) I I I (ar.ext l) sl am).use ?_⟩;rintro _ aF ⟨x,b7,W,s,d,aG⟩;have u:∀q,T.N q->q<w:=λq g=>h.t.lt (aN.hL g);have bj:=d.to.ab.size;obtain⟨rfl,X⟩|⟨rfl,v⟩:=aG
 .have aH:=aD.ab d.to.ab λg=>U4 (u _ g)
  obtain⟨d0,d1,d2,d3⟩:=bS aH;have aK:b2 (λq=>w1<=q) aF (n.right (cB n)) dP ep de:=(au.ext l).ab d.to.ab λq g z=>U4 (u _ z)
  have aL:b7.C.D.aZ<=900000100:=fg d.to.aZ (by clear s d X;omega);have aM:=d.room;have bk:W.made.length=c.made.length+1:=by rw[d.made,b6];rfl
  simp only[ia]at aM;have Y:=xZ s aL I I aK ao an;rw[d.cb]at Y;refine⟨x,0,rfl,nofun,λ_=>⟨_,d0,dP,d1,ep,d2,de,d3,Y.use ?_⟩⟩;rintro _ i ⟨y,cA,Z,aa,m,aO⟩;have bl:=m.to.ab.size;have aP:=((du.ext T c r).trans d).trans m;have aQ:n.keys.getD (cB n) []=n.keys[cB n]:=by rw[fi,dB b];rfl
  have aS:=ht.ext l;have aT:bI (λq=>¬cA.M q) i t n.keys[cB n]:=by
   rw[←aQ];have aU:bI (λq=>q<p/\w1<=q) p t (n.keys.getD (cB n) []):=bI.bh aS λq g b=>⟨g,b⟩;have ac:=(d.trans m).to;refine bI.bh (bI.ab aU ac.ab λq g z=>U4 (u _ z)) λq _ b A=>?_;rcases ac.dr q A with ag|ag
   .have:=h.t.lt ag;omega
   .omega
  have aV:n.keys[cB n]≠ []:=by
   have aX:cP n.keys[cB n]:=by
    obtain hs|hs:=hs
    .exact hs.ok _ (cg b)
    .exact hs.ok _ (cg b)
   intro e;have:=aX.1;rw[e]at this;simp at this
  have E:=dc i (.cells #[.slice none 0 0,.int .i64 (x:Nat),.slice t.a t.len t.cap,.int .i64 (y:Nat)] 325);have F:=(aP.trans (du.ext cA Z E)).mono (j:=2) I;have ah:∀ (e:Int),((e=0/\cA.P y=some (n.right (cB n)))\/(e=3/\¬b7.C.D.calm 1))->∃ (k:U) (ai:J),Sem.run aj (Instr.buildSlice 317 2 #[(0,.agg #[.slice none 0 0,.int .i64 (x:Nat)]),(1,.agg #[.slice t.a t.len t.cap,.int .i64 (y:Nat)])]) i=.ok (.slice k.a k.len k.cap) ai/\
   iQ T c n w (.tuple #[.slice k.a k.len k.cap,.int .i64 e]) ai:=by
   intro e he;refine⟨⟨some ⟨i,0,none⟩,2,2⟩,_,JN i _ _ t,cA,Z,[x,y],⟨some ⟨i,0,none⟩,2,2⟩,aa.ext E,F,by simp,?_⟩;obtain⟨rfl,he⟩|⟨rfl,he⟩:=he
   .have aY:cA.P x=some (n.left (cB n)):=by
     rw[(m.eQ x (by rw[d.f];simp)).1,X]
    refine .inl ⟨[n.keys[cB n]],rfl,.inr ⟨al,x,y,b,rfl,rfl,aY,he⟩,.inr ⟨_,x,y,_,t,rfl,rfl,rfl,Var.new i [.slice none 0 0,.int .i64 (x:Nat),.slice t.a t.len t.cap,.int .i64 (y:Nat)] 325,λA=>?_,bI.ext aT E,aV⟩⟩;have:=aa.t.lt A;omega
   .exact .inr ⟨rfl,λhc=>he (d.to.calm 1 (gM hc I))⟩
  obtain⟨rfl,a0⟩|⟨rfl,v⟩:=aO
  .exact⟨_,0,rfl,ah 0 (.inl ⟨rfl,a0⟩)⟩
  .exact⟨_,3,rfl,ah 3 (.inr ⟨rfl,v⟩)⟩
 .have F:=((du.ext T c r).trans d).mono (j:=2) I
  exact⟨_,3,rfl,λ_=>⟨b7,W,[x],bG,s,F,by simp,.inr ⟨rfl,λhc=>v (gM hc I)⟩⟩,nofun⟩
theorem x0{T:aN}{c:dJ}{K V D:U}(h:dt w T c)(u:T.C.D.aZ<=900000090)(x:2<=cy T)(y:c.made.length<=900)(f:b2 B w n K V D)(hs:cC n)(z:bP n<=400)
 (A:232<bP n->1<=cB n/\(if n.leaf then cB n<=n.keys.length-1/\1<=n.keys.length-1 else cB n<=n.keys.length-2/\1<=n.keys.length-2)/\bP (n.left (cB n))<=232/\bP (n.right (cB n))<=232):
 aI aj 263 #[.pointer (some c.cb),dg n K V D] w (iQ T c n w):=by
 have F:=hs.fJ I;refine okF (ad.xc (some c.cb) n.leaf K V D) ay.xc func263 ?_;(delta ad.xc aW ae av aJ b5 af dY;dsimp only);refine bg (vs:=[n.leaf,K,V,D]) rfl λw1 p q G=>?_;obtain⟨bM,aR,a7,bx⟩:=bS p;refine⟨_,bM,K,aR,V,a7,D,bx,(pI (f.ext q) hs I).use ?_⟩;rintro _ E ⟨rfl,r⟩;have a:=q.trans r;obtain⟨d0,d1,d2,d3⟩:=bS (p.ext r);have fin:∀ (v:Y) (w':J),iQ T c n E v w'->∃s:U,∃e:Int,v=.tuple #[s,e]/\iQ T c n w (.tuple #[s,e]) w':=by
  rintro v w' ⟨aq,c',m,s,ao,i,d,k⟩;have t:=((du.ext T c a).trans i).mono (j:=2) I;obtain⟨ks,rfl,l⟩|⟨rfl,l⟩:=k
  .exact⟨s,0,rfl,aq,c',m,s,ao,t,d,.inl ⟨ks,rfl,l⟩⟩
  .exact⟨s,3,rfl,aq,c',m,s,ao,t,d,.inr ⟨rfl,l⟩⟩
 refine⟨_,rfl,λb=>⟨_,d0,K,d1,V,d2,D,d3,?_⟩,λb=>⟨_,d0,K,d1,V,d2,D,d3,?_⟩⟩
 .have b:((bP n:Nat):Int)>232:=bB b
  obtain⟨ao,i,d,k⟩:=A I;refine(JO (h.ext a) u x y (f.ext a) hs I z ao i d k).use ?_;rintro v w' o;obtain⟨s,e,rfl,g⟩:=fin v w' o;exact⟨s,e,rfl,g⟩
 .have b:¬((bP n:Nat):Int)>232:=bT b
  refine(Ed (h.ext a) I I I (f.ext a) hs I).use ?_;rintro v w' o;obtain⟨s,e,rfl,g⟩:=fin v w' o;exact⟨s,e,rfl,g⟩
theorem Ee{s:U}{ls:O Key}(h:bo B w s ls)(t:ls.length<=100000):
 aI aj 266 #[s] w (λv w'=>∃b:U,v=b/\bq (λq=>(B q/\q<w)\/(w<=q/\ar b q)) w' b ls/\Ext w w'/\fI w b):=by
 have u:=bo.len h;obtain⟨ts,ao,j,x,y,n⟩:=h;refine okF (ad.vY s) ay.vY func266 ?_;(delta ad.vY af ap ae;dsimp only);refine⟨λd=>?_,λ_=>?_⟩
 .have d:s.a=none:=by simpa using d
  have h0:=j.nil d;have:ls=[]:=uL (by rw[←ao];have:=congrArg List.length h0;simpa using this);subst this;exact⟨⟨none,0,0⟩,rfl,bq.none _ _,.refl _ _,λk e=>(gE k e).elim⟩
 .obtain⟨b,w',h1,l,z,m,f,_⟩:=rR.clone (c7:=93) j (xB ts) I
  refine aH ⟨b,w',h1,b,rfl,⟨ts,ao,l,λq c=>⟨.inr ⟨f q c,c⟩,l.lt q c⟩,λi o p=>?_⟩,m,f⟩;have a:=n i o p;exact⟨bI.bh (bI.ext (bI.bh (C:=λq=>B q/\q<w) a λq c g=>⟨g,c⟩) m) λq _ g=>.inl g,λk e r=>U5 (f k r) ((a.2.2 k e).2)⟩
theorem l_.at{s:U}(h:l_ B w s ks kids):s.len=kids.length/\kids.length=ks.length+1/\kids.length<=2/\∀ (j:Nat) (d:j<kids.length),∃ (A:ax) (t:U),s.a=some A/\w.cell? (A.add (j*2))=some (.slice t.a t.len t.cap)/\w.cell? ((A.add (j*2)).add 1)=some (.int .i64 ((kids[j]:Nat):Int))/\
 ((t.a=none/\ks.take j=ks.take (j-1))\/(t.a.isSome=true/\∃k,bI B w t k/\ks.take j=ks.take (j-1)++ [k])):=by
 obtain⟨b,x,rfl,rfl,rfl,c,e⟩|⟨b,x,y,k,t,rfl,rfl,rfl,c,e,ht,f⟩:=h
 .refine⟨rfl,rfl,by simp,λj d=>?_⟩
  have:j=0:=by simp at d;omega
  subst this;exact⟨_,⟨none,0,0⟩,rfl,c.cell,by rw[aw,aw];exact c.cell,.inl ⟨rfl,rfl⟩⟩
 .refine⟨rfl,rfl,by simp,λj d=>?_⟩
  rcases dA j 1 with h1|h1
  .have:j=0:=I
   subst this;exact⟨_,⟨none,0,0⟩,rfl,c.cell,by rw[aw,aw];exact c.cell,.inl ⟨rfl,rfl⟩⟩
  .have:j=1:=by simp at d;omega
   subst this;obtain⟨A,ak⟩:=bI.some ht f;exact⟨_,t,rfl,c.cell,by rw[aw,aw];exact c.cell,.inr ⟨by rw[ak];rfl,k,ht,rfl⟩⟩
theorem l_.ext{s:U}(h:l_ B w s ks kids)(hx:Ext w w'):l_ B w' s ks kids:=by
 obtain⟨b,x,h1,a,c,d,e⟩|⟨b,x,y,k,t,h1,a,c,d,e,ht,f⟩:=h
 .exact .inl ⟨b,x,h1,a,c,d.ext hx,e⟩
 .exact .inr ⟨b,x,y,k,t,h1,a,c,d.ext hx,e,bI.ext ht hx,f⟩
theorem Ak{o:Nat}{vs:O Y}{S t:U}{ls:O Key}{l:Key}{T:TypeId}(d:Var w nb vs T)(n:o<vs.length)(f:bq B w S ls)(g:¬B nb)
 (ht:bI B w t l) (hd:∀k,ar t k->¬ar S k) (F:ls.length<=100000) {K:U2}
 (p:∀ (w':J) (aP:U),Var w' nb (vs.set o aP) T->bq (Grow B w w') w' aP (ls++ [l])->aa (λq=>q=nb\/ar S q) w w'->(∀k,ar aP k->ar S k\/w<=k)->K w'):
 au (w.alloc (.cells #[t] 39)) λr=>∃i:U,∃b:J,Sem.run aj (Builtin.append_ #[93,93] 93 #[S,.slice (some w) 1 1]) r=.ok i b/\
  (∃u:Y,b.cell? (Addr.add nb o)=some u)/\b.frozen? (Addr.add nb o)=false/\au (b.setCell (Addr.add nb o) i) λs=>K s:=by
 have v:=bq.bh (C:=λq=>B q\/w<=q) f λk _ h=>.inl h;have x:=bI.bh (C:=λq=>B q\/w<=q) ht λk _ h=>.inl h;obtain⟨c,w',ao,y,j,z⟩:=xD v x hd I λk a=>.inr a;have G:=d.lt;have A:¬ar S nb:=λh=>by
  obtain⟨ts,_,_,D,_⟩:=f;exact g (D nb h).1
 have m:=d.ab j A;obtain⟨aR,a7⟩:=dT m n;refine aH ⟨c,w',ao,?_⟩;rw[aw,cT];have hc:=dz w' nb o c;refine⟨aR,a7,aH (p _ c (ei m _) ?_ ?_ z)⟩
 .have E:=bq.bh (C:=Grow B w (w'.setCell ⟨nb,o,none⟩ c)) y λk a h=>by
   obtain h|h:=h
   .exact .inl h
   .exact .inr ⟨h,ga a hc.size⟩
  refine bq.ab E hc λk a e=>?_;subst e;obtain h|h:=a
  .exact g h
  .omega
 .exact(j.mono λk _ a=>.inr a).trans (hc.mono λk _ a=>.inl a)
def x1(B:U1)(n:aA)(fr to:Nat)(ks:O Key)(kids:O Nat)(w:J)(v:Y)(w':J):Prop:=
 ∃K V D:U,v=dg (gn n fr to ks kids) K V D/\b2 (λq=>B q\/w<=q) w' (gn n fr to ks kids) K V D/\Ext w w'
structure r2(B:U1)(lo:Nat)(nb aG rb:Nat)(n:aA)(K V D:U)(b:O Y)(w:J)(a az:U)(bw br:U1)(ks:O Key)(ds:O Nat):Prop where
 eM:Var w nb [n.leaf,K,V,D] 169
 r:Var w rb b 169
 o:Var w aG [false,a,(),az] 169
 k:bq bw w a ks
 d:cM br w az ds
 bW:∀q,bw q->(B q/\q<lo)\/(lo<=q/\q<w/\q≠nb/\q≠aG/\q≠rb/\¬br q)
 aO:∀q,br q->lo<=q/\q<w/\q≠nb/\q≠aG/\q≠rb
 g_:∀q,ar a q->lo<=q
theorem r2.ext{lo rb:Nat}{K V D:U}{b:O Y}{c az:U}{bw br:U1}{ds:O Nat}(h:r2 B lo nb aG rb n K V D b w c az bw br ks ds)(hx:Ext w w'):r2 B lo nb aG rb n K V D b w' c az bw br ks ds:=by
 have e:=hx.size;exact⟨h.eM.ext hx,h.r.ext hx,h.o.ext hx,bq.ext h.k hx,cM.ext h.d hx,λq a=>(h.bW q a).imp id λh=>⟨h.1,I,h.2.2⟩,λq a=>⟨(h.aO q a).1,U4 ((h.aO q a).2.1),(h.aO q a).2.2⟩,h.g_⟩
theorem JP{dk ke jY oQ:J}{rb:Nat}{K V D s eu D0:U}{au:O Y}{bw br:U1}{to:Nat}(bD:r2 B w.heap.size nb aG rb n K V D au dk eu D0 bw br (n.keys.take fr) (n.kids.take fr))(bE:Ext w dk)
 (bF:b2 B w n K V D) (a3:l_ B w s ks kids) (bG:au.length=4) (h1:w.heap.size<=nb) (S:w.heap.size<=aG) (G:w.heap.size<=rb) (H:nb≠aG/\nb≠rb/\aG≠rb) (t1:1<=to) (t2:to<=n.kids.length) (t3:to-1<=n.keys.length) (bL:n.keys.length<=1000) (bz:n.kids.length<=1000) (aI:ke.heap.size=nb) (aK:jY.heap.size=aG) (z:oQ.heap.size=rb):
 ad.zd ke jY oQ s (to:Nat) dk (x1 B n fr to ks kids w):=by
 obtain⟨bm,bt,ci,bH⟩:=a3.at;(delta ad.zd mD cW af aQ aO aJ aV r1 yW bf ae av ap st aT ai aW te;dsimp only);rw[aI,aK,z];refine⟨λi w'=>∃ (j:Nat) (y az:U) (bw br:U1),i=j/\j<=kids.length/\Ext w w'/\r2 B w.heap.size nb aG rb n K V D au w' y az bw br (n.keys.take fr++ks.take (j-1)) (n.kids.take fr++kids.take j),λi _=>((kids.length:Int)-i).toNat,⟨0,eu,D0,bw,br,rfl,cw _,bE,by simpa using bD⟩,?_⟩;rintro _ u ⟨j,y,az,bw,br,rfl,cj,x,h⟩;have ck:=x.size;refine⟨λaB=>?_,λaL=>?_⟩
 .have aB:j<kids.length:=by
   have:(j:Int)<(s.len:Int):=bB aB;omega
  obtain⟨A,t,ak,aR,a7,aM⟩:=(a3.ext x).at.2.2.2 j aB;refine⟨A,ak,⟨I,I⟩,t,by rw[cS];exact aR,_,by rw[cS];exact a7,?_⟩;have aM:(t.a=none/\ks.take j=ks.take (j-1))\/(t.a.isSome=true/\∃k,bI (λq=>B q/\q<w.heap.size) u t k/\ks.take j=ks.take (j-1)++ [k]):=by
   obtain⟨cl,a4,a5,bK,_,bM⟩:=bH j aB;rw[ak]at a5;cases a5;have e:=aa.cell x (λh=>h) bK;rw[aR]at e;injection e with e
   obtain rfl:t=a4:=by
    cases t;cases a4;simp at e;simp[e]
   rcases bM with h|⟨h1,k,S,G⟩
   .exact .inl h
   .exact .inr ⟨h1,k,bI.ext (bI.bh S λq c f=>⟨f,c⟩) x,G⟩
  refine bg (vs:=[(),U8]) rfl λcm a6 bN cn=>?_;refine⟨a6.cF rfl ?_,rfl,c6 a6 (us:=[t,.int .i64 ((kids[j]:Nat):Int)]) rfl rfl λaN T bO co=>?_⟩
  .intro v a8
   simp only[cN,er,ez]at a8;rcases a8 with rfl|rfl<;>trivial
  have ax:Ext u aN:=Ext.bQ bN bO (a_ _);have m:=h.ext ax;have cp:=ax.size;have a9:=x.trans ax;obtain⟨fj,bP⟩:=U6 u.heap.size;rw[←bP]at T⊢;have cq:=T.lt;refine jQ (λX=>∃ (dP:U) (ay:U1),r2 B w.heap.size nb aG rb n K V D au X dP az ay br (n.keys.take fr++ks.take j) (n.kids.take fr++kids.take j)/\Ext w X/\Var X fj [t,.int .i64 ((kids[j]:Nat):Int)] 325/\aN.heap.size<=X.heap.size) (λq c=>⟨t,T.cell,λf=>?_,λf=>?_⟩) ?_
  .rcases aM with ⟨aC,_⟩|⟨_,k,ht,ag⟩
   .rw[aC]at f;cases f
   obtain⟨aj,L,al,M⟩:=bS (V:=⟨none,0,0⟩) m.o;have aD:∀q,ar y q->bw q:=λq c=>by
    obtain⟨ts,_,_,G,_⟩:=m.k;exact(G q c).1
   refine⟨y,L,t,T.cell,Ak (B:=λq=>bw q\/(B q/\q<w.heap.size)) m.o (o:=1) U9 (bq.bh m.k λq _ f=>.inl f) (λf=>?_) (bI.bh (bI.ext ht ax) λq _ f=>.inr f) (λq c aS=>?_) ?_ λw' aP ao aU p bR=>c _ ⟨aP,Grow (λq=>bw q\/(B q/\q<w.heap.size)) aN w',?_,?_,?_,p.size⟩⟩
   .rcases f with f|f
    .rcases m.bW _ f with g|g
     .omega
     .exact g.2.2.2.1 rfl
    .omega
   .have:=(ht.2.2 q c).1.2
    have:=m.g_ q aS;omega
   .rw[b6,cQ,cQ];omega
   .have bU:=p.size
    have C:∀q,ar y q->q<u.heap.size/\q≠nb/\q≠aG/\q≠rb/\¬br q:=λq c=>by
     have bV:=h.g_ q c;rcases h.bW q (aD q c) with g|g
     .omega
     .exact g.2
    refine⟨m.eM.ab p λc=>?_,m.r.ab p λc=>?_,ao,?_,cM.ab m.d p λq f c=>?_,λq f=>?_,λq f=>⟨(m.aO q f).1,by have:=(m.aO q f).2.1;omega,(m.aO q f).2.2⟩,λq c=>?_⟩
    .rcases c with e|c
     .exact H.1 e
     .exact(C _ c).2.1 rfl
    .rcases c with e|c
     .exact H.2.2 e.symm
     .exact(C _ c).2.2.2.1 rfl
    .rw[ag,←cU];exact aU
    .rcases c with e|c
     .exact(m.aO q f).2.2.2.1 e
     .exact(C q c).2.2.2.2 f
    .rcases f with (f|f)|f
     .exact(m.bW q f).imp id λg=>⟨g.1,I,g.2.2⟩
     .exact .inl f
     .refine .inr ⟨I,f.2,λe=>?_,λe=>?_,λe=>?_,λhd=>?_⟩
      .have:=m.eM.lt;omega
      .have:=m.o.lt;omega
      .have:=m.r.lt;omega
      .have:=(m.aO q hd).2.1;omega
    .rcases bR q c with g|g
     .exact h.g_ q g
     .omega
   .exact Ext.dH a9 p λq c=>by
     rcases c with rfl|c
     .exact S
     .exact m.g_ q c
   .refine T.ab p λc=>?_
    rcases c with e|c
    .have:=h.o.lt;omega
    .rcases h.bW _ (aD _ c) with g|g<;>omega
  .rcases aM with ⟨_,ag⟩|⟨aC,_⟩
   .refine c _ ⟨y,bw,?_,a9,T,a_ _⟩
    rw[ag];exact m
   .cases ba:t.a with
    |none=>rw[ba]at aC;cases aC
    |some A=>rw[ba]at f;cases f
  rintro X ⟨dP,ay,l,bb,bc,cr⟩;have cs:=bc.lt;obtain⟨aj,L,al,M⟩:=bS (V:=⟨none,0,0⟩) l.o;have E:∀q,ar az q->br q:=λq c=>(l.d.2 q c).1;have bX:∀q,ay q->¬(q=aG\/ar az q):=λq f c=>by
   rcases l.bW q f with g|g
   .rcases c with e|c
    .omega
    .have:=(l.aO q (E q c)).1;omega
   .rcases c with e|c
    .exact g.2.2.2.1 e
    .exact g.2.2.2.2.2 (E q c)
  have bd:IntKind.wrap .i64 ((j:Int)+1)=((j+1:Nat):Int):=by rw[bl I I];rfl
  refine⟨az,M,_,by rw[aw];exact bc.cell,(zI (W:=λ_=>True) kids[j] l.o (o:=3) U9 l.d (λf=>(l.aO _ f).2.2.2.1 rfl) (by rw[b6,cQ,cQ];omega) λw' aP ao aU p=>⟨⟨j+1,dP,aP,ay,Grow br X w',bd,I,?_,?_⟩,?_⟩).2⟩
  .exact Ext.dH bb p λq c=>by
    rcases c with rfl|c
    .exact S
    .exact(l.aO q (E q c)).1
  .have bU:=p.size
   refine⟨l.eM.ab p λc=>?_,l.r.ab p λc=>?_,ao,?_,?_,λq f=>?_,λq f=>?_,l.g_⟩
   .rcases c with e|c
    .exact H.1 e
    .exact(l.aO _ (E _ c)).2.2.1 rfl
   .rcases c with e|c
    .exact H.2.2 e.symm
    .exact(l.aO _ (E _ c)).2.2.2.2 rfl
   .exact bq.ab l.k p bX
   .rw[gv aB,←cU];exact aU
   .refine(l.bW q f).imp id λg=>⟨g.1,I,g.2.2.1,g.2.2.2.1,g.2.2.2.2.1,λhd=>?_⟩
    rcases hd with hd|hd
    .exact g.2.2.2.2.2 hd
    .omega
   .rcases f with f|f
    .exact⟨(l.aO q f).1,by have:=(l.aO q f).2.1;omega,(l.aO q f).2.2⟩
    .refine⟨by have:=bb.size;omega,f.2,λe=>?_,λe=>?_,λe=>?_⟩
     .have:=l.eM.lt;omega
     .have:=l.o.lt;omega
     .have:=l.r.lt;omega
  .rw[bd]
   show((kids.length:Int)-((j+1:Nat):Int)).toNat<((kids.length:Int)-(j:Int)).toNat;omega
 .have aL:j=kids.length:=by
   have:¬(j:Int)<(s.len:Int):=bT aL;omega
  subst aL;have be:Ext u u.drew:=cc _;have h:=h.ext be;have x:=x.trans be;have ag:ks.take (kids.length-1)=ks:=eZ I;rw[ag,gD]at h;obtain⟨aj,L,al,M⟩:=bS (V:=⟨none,0,0⟩) h.o;obtain⟨ug,gA,bY,bi⟩:=bS h.eM;have bj:b2 (λq=>B q/\q<w.heap.size) w n K V D:=bF.bh λq c f=>⟨f,c⟩;have aX:=bj.ext x;have bk:=bo.len aX.keys;have bn:=cK.len aX.kids;have bp:IntKind.wrap .i64 ((to:Int)-1)=((to-1:Nat):Int):=by rw[bl I I];omega
  have aD:∀q,ar y q->bw q:=λq c=>by
   obtain⟨ts,_,_,G,_⟩:=h.k;exact(G q c).1
  have E:∀q,ar az q->br q:=λq c=>(h.d.2 q c).1;have bs:=bo.sub aX.keys (lo:=to-1) (hi:=n.keys.length) t3 (a_ _);have bZ:(n.keys.drop (to-1)).take (n.keys.length-(to-1))=n.keys.drop (to-1):=eZ (by rw[dW];exact a_ _);rw[bZ]at bs;obtain⟨N,am,aI,aK,z⟩:=zN h.k bs (λq c aS=>by have:=h.g_ q aS;omega) (by rw[b6,cQ];omega) (by rw[dW];omega);have ct:u.drew.heap.size=u.heap.size:=rfl;have C:∀q,ar y q->q<u.drew.heap.size/\q≠nb/\q≠aG/\q≠rb/\¬br q:=λq c=>by
   have bV:=h.g_ q c;rcases h.bW q (aD q c) with g|g
   .omega
   .exact g.2
  have cu:=z.size;have b0:Ext w am:=Ext.dH x z λq c=>h.g_ q c;have bu:=h.o.ab z λc=>(C _ c).2.2.1 rfl;have b1:=h.eM.ab z λc=>(C _ c).2.1 rfl;have b3:=h.r.ab z λc=>(C _ c).2.2.2.1 rfl;have b5:cM br am az _:=cM.ab h.d z λq f c=>(C q c).2.2.2.2 f;obtain⟨bJ,b4⟩:=dT bu (i:=1) U9;refine aH ⟨id,y,L,id,K,gA,?_,N,am,?_,by rw[aw];exact bJ,by rw[aw];exact b4,?_⟩
  .rw[bp,bk];omega
  .rw[bp,cS,bk];exact aI
  rw[aw,cT];have P:=dz am aG 1 N;have an:=ei bu (i:=1) N;obtain⟨F,b7⟩:=U6 (am.setCell ⟨aG,1,none⟩ N);rw[←b7]at P an⊢;have cv:=P.size;have aY:=b1.ab P (λe=>H.1 e);have aZ:=b3.ab P (λe=>H.2.2 e.symm);have a0:cM br F az _:=cM.ab b5 P λq f e=>(h.aO q f).2.2.2.1 e;have aq:Ext w F:=Ext.bQ b0 P S;have Z:Ext F F.drew:=cc _;have bv:∀q,(bw q\/(B q/\q<w.heap.size)\/u.drew.heap.size<=q)->q≠aG:=λq c e=>by
   subst e;rcases c with c|c|c
   .rcases h.bW _ c with g|g
    .omega
    .exact g.2.2.2.1 rfl
   .omega
   .have:=h.o.lt;omega
  have b8:=bo.ext (bo.ab aK P bv) Z;have an:=an.ext Z;have aY:=aY.ext Z;have aZ:=aZ.ext Z;have a0:=cM.ext a0 Z;have aq:=aq.trans Z;obtain⟨aj,L,al,M⟩:=bS (V:=⟨none,0,0⟩) an;obtain⟨ug,gA,bY,bi⟩:=bS aY;have bx:=cK.sub (bj.ext aq).kids (lo:=to) (hi:=n.kids.length) t2 (a_ _);have b9:(n.kids.drop to).take (n.kids.length-to)=n.kids.drop to:=eZ (by rw[dW];exact a_ _);rw[b9]at bx;obtain⟨R,aE,f1,f2,f3⟩:=Df a0 bx (by rw[b6,cQ];omega) (by rw[dW];omega);have cx:F.drew.heap.size=F.heap.size:=rfl;have cy:=f3.size;have aF:∀q,ar az q->w.heap.size<=q/\q<u.drew.heap.size/\q≠nb/\q≠aG/\q≠rb:=λq c=>h.aO q (E q c);have b_:Ext w aE:=Ext.dH aq f3 λq c=>(aF q c).1;have bA:=an.ab f3 λc=>(aF _ c).2.2.2.1 rfl;have ca:=aZ.ab f3 λc=>(aF _ c).2.2.2.2 rfl;have cb:=bo.ab b8 f3 λq f c=>by
   have cz:=aF q c;rcases f with f|f|f
   .rcases h.bW q f with g|g
    .omega
    .exact g.2.2.2.2.2 (E q c)
   .omega
   .omega
  obtain⟨bJ,b4⟩:=dT bA (i:=3) U9;refine aH (aH ⟨id,az,M,id,D,bi,?_,R,aE,?_,by rw[aw];exact bJ,by rw[aw];exact b4,?_⟩)
  .rw[bn];omega
  .rw[cS,bn];exact f1
  rw[aw,cT];have ac:=dz aE aG 3 R;have bC:=ei bA (i:=3) R;obtain⟨a1,cd⟩:=U6 (aE.setCell ⟨aG,3,none⟩ R);rw[←cd]at ac bC⊢;have cA:=ac.size;have ce:=ca.ab ac (λe=>H.2.2 e.symm);have cf:Ext w a1:=Ext.bQ b_ ac S;have cg:=bo.ab cb ac bv;have ch:=cK.ab f2 ac λq f e=>by
   subst e;rcases f with f|f|f
   .exact(h.aO _ f).2.2.2.1 rfl
   .omega
   .have:=h.o.lt;omega
  obtain⟨aj,L,al,M⟩:=bS (V:=⟨none,0,0⟩) bC;refine aH ⟨_,aj,N,L,⟨none,0,0⟩,al,R,M,?_⟩;refine jh false N ⟨none,0,0⟩ R ce bG (Q:=λb K V D ah=>x1 B n fr to ks kids w (.agg #[b,K,V,D]) ah) λcB a2=>?_;refine⟨N,⟨none,0,0⟩,R,rfl,⟨?_,?_,?_⟩,Ext.bQ cf a2 G⟩
  .refine bo.bh (bo.ab cg a2 λq f e=>?_) λq _ f=>?_
   .subst e
    rcases f with f|f|f
    .rcases h.bW _ f with g|g
     .omega
     .exact g.2.2.2.2.1 rfl
    .omega
    .have:=h.r.lt;omega
   .rcases f with f|f|f
    .rcases h.bW _ f with g|g
     .exact .inl g.1
     .exact .inr g.1
    .exact .inl f.1
    .have:=x.size;exact .inr I
  .exact bo.none _ _
  .refine cK.bh (cK.ab ch a2 λq f e=>?_) λq _ f=>?_
   .subst e
    rcases f with f|f|f
    .exact(h.aO _ f).2.2.2.2 rfl
    .omega
    .have:=h.r.lt;omega
   .rcases f with f|f|f
    .exact .inr (h.aO _ f).1
    .exact .inl f.1
    .have:=aq.size;exact .inr I
theorem Al(K D:U)(w:J):Sem.run aj (Instr.build 169 #[(1,K),(3,D)]) w=.ok (.agg #[false,K,(),D]) w:=by kernel_rfl
theorem ru{K V D s:U}{to:Nat}(Q:b2 B w n K V D)(an:l_ B w s ks kids)(f1:fr<=n.keys.length)(f2:fr<=n.kids.length)(t1:1<=to)(t2:to<=n.kids.length)(t3:to-1<=n.keys.length)(bL:n.keys.length<=1000)(bz:n.kids.length<=1000):
 aI aj 233 #[dg n K V D,.int .i64 (fr:Nat),.int .i64 (to:Nat),.slice s.a s.len s.cap] w (x1 B n fr to ks kids w):=by
 refine okF (ad.ru n.leaf K V D (fr:Nat) (to:Nat) s) ay.ru func233 ?_;(delta ad.ru z3 b1 c2 dC aJ ae bU mD cW af aQ aO aV r1 yW bf av ap st aT ai aW te;dsimp only);refine bg (vs:=[.bool n.leaf,.slice K.a K.len K.cap,.slice V.a V.len V.cap,.slice D.a D.len D.cap]) rfl λw1 ao aq aM=>?_;refine bg (vs:=[.bool false,.slice none 0 0,.slice none 0 0,.slice none 0 0]) rfl λah au R aN=>aH ?_;have F:Ext ah ah.drew:=cc _;have L:=(aq.trans R).trans F;obtain⟨f,S⟩:=U6 ah.drew;have aP:f.heap.size=ah:=by rw[S];rfl
 rw[←S]at L F⊢;have T:=(ao.ext R).ext F;have aw:=au.ext F;obtain⟨bM,aR,a7,bx⟩:=bS T;have u:b2 (λq=>B q/\q<w) f n K V D:=(Q.bh λq c d=>⟨d,c⟩).ext L;have aS:=bo.len u.keys;have aU:=cK.len u.kids;have aX:=bo.le u.keys;have aY:=u.kids.2.1;have M:=bo.sub u.keys (lo:=0) (hi:=fr) (cw _) f1;have G:=cK.sub u.kids (lo:=0) (hi:=fr) (cw _) f2;rw[mn,ql]at M G;have W:Int.toNat ((fr:Nat):Int)-0=fr:=by rw[cS];rfl
 have fin:∀ (dk jY:J) (aG:Nat) (eu D0:U),jY.heap.size=aG->Ext f dk->Var dk aG [.bool false,.slice eu.a eu.len eu.cap,.slice none 0 0,.slice D0.a D0.len D0.cap] 169->f<=aG->bq (λq=>(B q/\q<w)\/(f<=q/\ar eu q)) dk eu (n.keys.take fr)->aL 1 3 dk D0 (dv (n.kids.take fr))->
  (∀q,ar eu q->f<=q/\q≠aG)->(∀q,ar D0 q->f<=q/\q≠aG/\¬ar eu q)->ad.zd w jY w1 s (to:Nat) dk (x1 B n fr to ks kids w):=by
  intro dk jY aG eu D0 ax hx az aZ X N Y Z;have a0:=hx.size;have aB:∀q,ar eu q->q<dk:=λq c=>by
   obtain⟨ts,_,p,_,_⟩:=X;exact p.lt q c
  refine JP (bw:=λq=>(B q/\q<w)\/ar eu q) (br:=λq=>ar D0 q) ⟨T.ext hx,aw.ext hx,az,bq.bh X λq _ d=>d.imp id λh=>h.2,⟨N,λq c=>⟨c,aL.lt N q c⟩⟩,λq d=>?_,λq d=>?_,λq c=>by have:=(Y q c).1;omega⟩ (L.trans hx) Q an rfl (a_ _) I I ⟨I,I,I⟩ t1 t2 t3 bL bz rfl ax rfl
  .rcases d with d|d
   .exact .inl d
   .have y:=Y q d
    exact .inr ⟨I,aB q d,I,y.2,I,λaC=>(Z q aC).2.2 d⟩
  .have y:=Z q d
   exact⟨I,aL.lt N q d,I,y.2.1,I⟩
 refine⟨λ_=>False,id,K,aR,⟨I,I⟩,id,D,bx,⟨I,I⟩,?_,?_⟩
 .rw[W]
  refine(Ee M (by rw[cQ];omega)).use ?_;rintro _ v ⟨eu,rfl,r,g,z⟩;have aD:=g.size;refine⟨eu,rfl,g,?_,?_⟩
  .refine(tU (G.1.ext g) (by rw[cQ];omega)).use ?_
   rintro _ aa ⟨D0,rfl,x,H,ac⟩;have a1:=H.size;refine⟨D0,rfl,H,_,Al eu D0,bg (vs:=[.bool false,.slice none 0 0,.slice none 0 0,.slice none 0 0]) rfl λa2 ag ak a3=>⟨ak,ag.cF rfl (gi (b:=false) (K:=eu) (V:=⟨none,0,0⟩) (D:=D0)),rfl,c6 ag (us:=[.bool false,.slice eu.a eu.len eu.cap,.slice none 0 0,.slice D0.a D0.len D0.cap]) rfl rfl λi A k al=>?_⟩⟩;have l:Ext aa i:=Ext.bQ ak k (a_ _);have t:∀q,ar eu q->q<v:=λq c=>by
    obtain⟨ts,_,p,_,_⟩:=r;exact p.lt q c
   exact fin i aa _ eu D0 rfl (g.trans (H.trans l)) A I (bq.bh (bq.ext r (H.trans l)) λq _ d=>d.imp (λh=>h.1) id) (x.ext l) (λq c=>⟨z q c,by have:=t q c;omega⟩) λq c=>⟨by have:=ac q c;omega,by have:=aL.lt x q c;omega,λh=>by have:=t q h;have:=ac q c;omega⟩
  .refine bg (vs:=[.bool false,.slice none 0 0,.slice none 0 0,.slice none 0 0]) rfl λam P m aE=>⟨m,(tU ((G.1.ext g).ext m) (by rw[cQ];omega)).use ?_⟩
   rintro _ aF ⟨D0,rfl,x,o,j⟩;have E:=P.ext o;refine⟨D0,rfl,o,_,Al eu D0,E.cF rfl (gi (b:=false) (K:=eu) (V:=⟨none,0,0⟩) (D:=D0)),rfl,c6 E (us:=[.bool false,.slice eu.a eu.len eu.cap,.slice none 0 0,.slice D0.a D0.len D0.cap]) rfl rfl λi A k al=>?_⟩;have l:Ext v i:=Ext.bQ (m.trans o) k (a_ _);have t:∀q,ar eu q->q<v:=λq c=>by
    obtain⟨ts,_,p,_,_⟩:=r;exact p.lt q c
   exact fin i v _ eu D0 rfl (g.trans l) A I (bq.bh (bq.ext r l) λq _ d=>d.imp (λh=>h.1) id) (x.ab k λq c e=>by have:=j q c;omega) (λq c=>⟨z q c,by have:=t q c;omega⟩) λq c=>⟨by have:=j q c;omega,by have:=j q c;omega,λh=>by have:=t q h;have:=j q c;omega⟩
 .rw[W]
  refine bg (vs:=[.bool false,.slice none 0 0,.slice none 0 0,.slice none 0 0]) rfl λam P m aE=>⟨m,(Ee (bo.ext M m) (by rw[cQ];omega)).use ?_⟩;rintro _ v ⟨eu,rfl,r,g,z⟩;have aD:=g.size;refine⟨eu,rfl,g,(tU ((G.1.ext m).ext g) (by rw[cQ];omega)).use ?_⟩;rintro _ aF ⟨D0,rfl,x,o,j⟩;have E:=(P.ext g).ext o;refine⟨D0,rfl,o,_,Al eu D0,E.cF rfl (gi (b:=false) (K:=eu) (V:=⟨none,0,0⟩) (D:=D0)),rfl,c6 E (us:=[.bool false,.slice eu.a eu.len eu.cap,.slice none 0 0,.slice D0.a D0.len D0.cap]) rfl rfl λi A k al=>?_⟩;have l:Ext f i:=Ext.bQ ((m.trans g).trans o) k (a_ _);have t:∀q,ar eu q->q<v:=λq c=>by
   obtain⟨ts,_,p,_,_⟩:=r;exact p.lt q c
  have aK:bq (λq=>(B q/\q<w)\/(f<=q/\ar eu q)) i eu (n.keys.take fr):=by
   have y:=bq.bh (C:=λq=>(B q/\q<w)\/(am<=q/\ar eu q)) (bq.ext r o) λq _ d=>d.imp (λh=>h.1) id;exact bq.bh (bq.ab y k λq d e=>by rcases d with d|d<;>omega) λq _ d=>d.imp id λh=>⟨I,h.2⟩
  exact fin i f _ eu D0 rfl l A (a_ _) aK (x.ab k λq c e=>by have:=j q c;omega) (λq c=>⟨by have:=z q c;omega,by have:=z q c;omega⟩) λq c=>⟨by have:=j q c;omega,by have:=j q c;omega,λh=>by have:=t q h;have:=j q c;omega⟩
def mQ(n:aA):Prop:=cC n/\bP n<=400/\(232<bP n->1<=cB n/\(if n.leaf then cB n<=n.keys.length-1/\1<=n.keys.length-1 else cB n<=n.keys.length-2/\1<=n.keys.length-2)/\bP (n.left (cB n))<=232/\bP (n.right (cB n))<=232)
structure mR(B:U1)(w:J)(A:ax)(u:dG):Prop where
 aR:w.cell? (A.add 1)=some (.bool u.n.leaf)
 a7:w.cell? ((A.add 1).add 1)=some (.slice u.K.a u.K.len u.K.cap)
 bx:w.cell? ((A.add 1).add 2)=some (.slice u.V.a u.V.len u.V.cap)
 fE:w.cell? ((A.add 1).add 3)=some (.slice u.D.a u.D.len u.D.cap)
 fW:w.cell? (A.add 5)=some (.int .i64 (u.c4:Nat))
 bu:b2 B w u.n u.K u.V u.D
 bn:B A.block
 lt:A.block<w.heap.size
theorem mR.ext{u:dG}(h:mR B w A u)(hx:Ext w w'):mR B w' A u:=
 ⟨aa.cell hx (λh=>h) h.aR,aa.cell hx (λh=>h) h.a7,aa.cell hx (λh=>h) h.bx,aa.cell hx (λh=>h) h.fE,aa.cell hx (λh=>h) h.fW,h.bu.ext hx,h.bn,ga h.lt hx.size⟩
theorem mR.to{T aq:aN}{k:Nat}{u:dG}(h:mR (λq=>¬T.M q) w A u)(ht:b_ T aq w w' k):mR (λq=>¬aq.M q) w' A u:=by
 have hc:=ht.ab;have a:¬T.N A.block:=λc=>h.bn (aN.hL c);refine⟨aa.cell hc (A:=A.add 1) a h.aR,aa.cell hc (A:=(A.add 1).add 1) a h.a7,aa.cell hc (A:=(A.add 1).add 2) a h.bx,aa.cell hc (A:=(A.add 1).add 3) a h.fE,aa.cell hc (A:=A.add 5) a h.fW,?_,λd=>?_,ga h.lt hc.size⟩
 .have h1:=ht.bu (lo:=0) (h.bu.bh λq _ b=>⟨cw _,b⟩)
  exact h1.bh λq _ b=>b.2
 .rcases ht.dr _ d with h1|h1
  .exact h.bn h1
  .have:=h.lt;omega
theorem iQ.base{T:aN}{c:dJ}{w0:J}(h:iQ T c n w v w')(hx:Ext w0 w):iQ T c n w0 v w':=by
 obtain⟨aq,c',m,s,ao,a,b,d⟩:=h;exact⟨aq,c',m,s,ao,((du.ext T c hx).trans a).mono I,b,d⟩
theorem iQ.out{T:aN}{c:dJ}(h:iQ T c n w v w'):∃ (s:U) (e:Int),v=.tuple #[s,e]:=by
 obtain⟨aq,c',m,s,ao,b,d,a⟩:=h;obtain⟨ks,rfl,_⟩|⟨rfl,_⟩:=a
 .exact⟨s,0,rfl⟩
 .exact⟨s,3,rfl⟩
theorem JQ{X Z:U1}{w0 dk ap jM aq g7:J}{T:aN}{c:dJ}{g bv:Nat}{u:dG}{K V D i j k:U}{other:Nat}{Q:U0}(h:dt w0 T c)(hx:Ext w0 dk)(ar:Var w0 nb (dp n K V D) 169)(au:Var w0 aG (dp o i j k) 169)
 (aw:Var dk g (dp o i j k) 169) (ay:Var dk bv (dp n K V D) 169) (h1:w0<=g) (be:w0<=bv) (az:g≠bv) (aB:b2 X w0 n K V D) (aC:b2 Z w0 o i j k) (hu:mR (λq=>¬T.M q) w0 A u)
 (aD:T.C.D.aZ<=900000090) (aF:2<=cy T) (aI:c.made.length<=900) (aa:cC n) (bf:cC o) (bV:bP n<=400) (bW:bP o<=400) (aK:o.leaf=n.leaf) (bh:fr<u.n.keys.length) (aL:cP u.n.keys[fr]) (m:aA) (aM:m=if u.c4<other then dS n u.n.keys[fr] o else dS o u.n.keys[fr] n) (l:mQ m) (bX:fr<=1000)
 (aP:∀ (s:U) (e:Int) (w':J),iQ T c m w0 (.tuple #[.slice s.a s.len s.cap,.int .i64 e]) w'->Q (.tuple #[.slice s.a s.len s.cap,.int .i64 (fr:Nat),.int .i64 ((fr+2:Nat):Int),.int .i64 e]) w') (bi:ap.heap.size=nb) (bj:jM.heap.size=aG) (bk:aq.heap.size=g) (bm:g7.heap.size=bv):
 ad.ze ap jM aq g7 (some ⟨c.cb,0,none⟩) (some A) (fr:Nat) (other:Nat) dk Q:=by
 have bY:=ar.lt;have bZ:=au.lt;have b0:=hx.size;have fn:=aa.fJ I;have b3:=bf.fJ I;(delta ad.ze cA aE r1 af b1 ae aW av aJ bf dC aQ aO aV lA z3 qZ dY ai;dsimp only);rw[bi,bj,bk,bm];refine jQ (λp=>∃ (a b:aA) (G H L N O P:U) (aR aS:U1),Ext w0 p/\Var p g (dp a G H L) 169/\Var p bv (dp b N O P) 169/\b2 aR w0 a G H L/\b2 aS w0 b N O P/\m=dS a u.n.keys[fr] b/\cC a/\cC b/\a.leaf=b.leaf/\a.keys.length<=200/\b.keys.length<=200)
  (λq r=>⟨A,rfl,_,(hu.ext hx).fW,λd=>?_,λd=>r _ ⟨o,n,i,j,k,K,V,D,Z,X,hx,aw,ay,aC,aB,?_,bf,aa,aK,I,I⟩⟩) ?_
 .have d:u.c4<other:=by
   have:((other:Nat):Int)>((u.c4:Nat):Int):=bB d;omega
  have f:=hx.trans (cc dk);obtain⟨ba,bL,bz,bn⟩:=bS (ar.ext f);obtain⟨bp,bq,br,bs⟩:=bS (au.ext f);have aT:=aw.drew;have bt:=ay.drew;refine aH ⟨λq=>q=g,(show nb≠g from I),_,ba,K,bL,V,bz,D,bn,(show aG≠g from I),_,bp,i,bq,j,br,k,bs,aT.cF rfl gi,rfl,c6 aT (us:=dp n K V D) rfl rfl λb4 bw ac b5=>?_⟩;have aU:=bt.ab ac (λe=>az e.symm);refine⟨ac,aU.cF rfl gi,rfl,c6 aU (us:=dp o i j k) rfl rfl λb6 bx aX b7=>?_⟩;exact r _ ⟨n,o,K,V,D,i,j,k,X,Z,Ext.bQ (Ext.bQ f ac h1) aX be,bw.ab aX az,bx,aB,aC,by rw[aM,if_pos d],aa,bf,aK.symm,I,I⟩
 .have d:¬u.c4<other:=by
   have:¬((other:Nat):Int)>((u.c4:Nat):Int):=bT d;omega
  rw[aM,if_neg d]
 rintro p ⟨a,b,G,H,L,N,O,P,aR,aS,bA,bC,d,aY,a0,ag,a4,sb,a5,b8,lb⟩;have f:=bA.trans (cc p);have bD:=bC.drew;have bE:=d.drew;obtain⟨bF,a1,a2,a3⟩:=bS bD;obtain⟨bG,c3,cu,bH⟩:=bS bE;have a6:=hu.ext f;obtain⟨bI,tk,bJ,bK,bM,R,b9⟩:=bo.at a6.bu.keys bh;have a8:cC (dS a u.n.keys[fr] b):=by rw[←ag];exact l.1
 have B:=pJ (aY.ext f) (a0.ext f) R.1 (λq r=>(R.2.2 q r).2) (U4 aL.2) a4 sb a5 a8 I I;rw[←ag]at B;have a9:IntKind.wrap .i64 (((fr:Nat):Int)+2)=((fr+2:Nat):Int):=by rw[bl I I];rfl
 obtain⟨wd,b_⟩:=U6 p.drew;refine aH ⟨λ_=>False,id,_,bF,G,a1,H,a2,L,a3,A,rfl,id,u.K,a6.a7,bI,bJ,bK,id,tk,bM,id,_,bG,N,c3,O,cu,P,bH,?_,?_⟩
 .refine B.use ?_
  rintro _ bN ⟨t,w,x,rfl,ah,y⟩;refine⟨_,t,w,x,true,rfl,y,bg (vs:=[.bool false,.slice none 0 0,.slice none 0 0,.slice none 0 0]) rfl λca bb bc cd=>⟨bc,bb.cF rfl gi,rfl,c6 bb (us:=dp m t w x) rfl rfl λaj ak S bO=>⟨nofun,λ_=>?_⟩⟩⟩;have W:Ext bN aj:=Ext.bQ bc S (a_ _);have E:=(f.trans y).trans W;obtain⟨al,am,an,ao⟩:=bS ak;refine⟨_,al,t,am,w,an,x,ao,(x0 (h.ext E) aD aF aI (ah.ext W) l.1 l.2.1 l.2.2).use ?_⟩;intro v w' F;obtain⟨s,e,rfl⟩:=F.out;rw[a9];exact⟨s,e,rfl,aP s e w' (F.base E)⟩
 .refine bg (vs:=[.bool false,.slice none 0 0,.slice none 0 0,.slice none 0 0]) rfl λce bR z cf=>⟨z,?_⟩
  have B:=pJ ((aY.ext f).ext z) ((a0.ext f).ext z) (R.1.ext z) (λq r=>ga (R.2.2 q r).2 z.size) (U4 aL.2) a4 sb a5 a8 I I;rw[←ag]at B;refine B.use ?_;rintro _ cg ⟨t,w,x,rfl,ah,y⟩;have bd:=bR.ext y;refine⟨_,t,w,x,true,rfl,y,bd.cF rfl gi,rfl,c6 bd (us:=dp m t w x) rfl rfl λaj ak S bO=>⟨nofun,λ_=>?_⟩⟩;have W:Ext p.drew aj:=Ext.bQ (z.trans y) S (a_ _);have E:=f.trans W;have bU:=b2.ab ah S λq r e=>by omega
  obtain⟨al,am,an,ao⟩:=bS ak;refine⟨_,al,t,am,w,an,x,ao,(x0 (h.ext E) aD aF aI bU l.1 l.2.1 l.2.2).use ?_⟩;intro v w' F;obtain⟨s,e,rfl⟩:=F.out;rw[a9];exact⟨s,e,rfl,aP s e w' (F.base E)⟩
theorem du.leave{T:aN}{c c':dJ}{G:U1}(h:b_ T (T.cJ E G) w w' 0)(a:E=T.E)(b:∀q,T.G q->G q)(h1:c'.cb=c.cb)(d:c'.made=c.made)(e:c'.left=c.left++ [no]):du T (T.cJ E G) c c' [] [no] w w' 0:=
 ⟨h,a,b,rfl,rfl,h1,by rw[d,fO],e,o5,λ_ h=>(by cases h),λno=>by simp[aN.cJ],λ_ _=>⟨rfl,rfl⟩,by simp[cy,aN.cJ]⟩
theorem JR{H jM:J}{T:aN}{c:dJ}{u:dG}{K V D j k l:U}{other:Nat}{Q:U0}(h:dt w T c)(aK:Var w nb (dp n K V D) 169)(aL:Var w aG (dp o j k l) 169)
 (aM:¬T.M nb) (aP:¬T.M aG) (aS:b2 (λq=>¬T.M q) w n K V D) (aT:b2 (λq=>¬T.M q) w o j k l) (hu:mR (λq=>¬T.M q) w A u)
 (aU:T.C.D.aZ<=900000090) (aX:2<=cy T) (aY:c.made.length<=900) (bG:c.left.length<=900) (a0:cC n) (bf:cC o) (a1:bP n<=400) (a2:bP o<=400) (a3:o.leaf=n.leaf) (a4:fr<u.n.keys.length) (a5:cP u.n.keys[fr]) (m:aA) (L:m=if u.c4<other then dS n u.n.keys[fr] o else dS o u.n.keys[fr] n) (a6:mQ m) (a7:fr<=1000)
 (a8:∀ (s:U) (e:Int) (b7:aN) (aR:dJ) (w1 w':J),du T b7 c aR [] [no] w w1 0->iQ b7 aR m w1 (.tuple #[.slice s.a s.len s.cap,.int .i64 e]) w'->Q (.tuple #[.slice s.a s.len s.cap,.int .i64 (fr:Nat),.int .i64 ((fr+2:Nat):Int),.int .i64 e]) w') (y:H.heap.size=nb) (z:jM.heap.size=aG):
 ad.zf H jM (some ⟨c.cb,0,none⟩) (some A) (fr:Nat) (other:Nat) (no:Nat) 0 w Q:=by
 (delta ad.zf q2 af aE aJ ap ae st b1 aW av z3 bf cA r1 dC aQ aO aV lA qZ dY ai;dsimp only);rw[y,z];refine⟨nofun,λ_=>⟨_,rfl,_,h.cells.2.2,?_⟩⟩;obtain⟨d,ay,ao,bH,a9,bb,bc⟩:=D9 h no I;refine aH ⟨d,ay,ao,_,rfl,a9,bb,aH ?_⟩;rw[aw];obtain⟨f,az⟩:=U6 (ay.setCell ⟨c.cb,0+2,none⟩ (.slice d.a d.len d.cap));rw[←az];obtain⟨aB,aC⟩:=bc f az;have aD:=du.leave (c:=c) (c':={c with gZ:=d,left:=c.left++ [no]}) (no:=no) aC rfl (λq P=>.inl P) rfl rfl rfl;obtain⟨b7,B⟩:=U6 (T.cJ T.E λq=>T.G q\/ar d q);obtain⟨aR,R⟩:∃aR:dJ,aR={c with gZ:=d,left:=c.left++ [no]}:=⟨_,rfl⟩;have bd:aR.cb=c.cb:=by rw[R]
 have be:aR.made=c.made:=by rw[R]
 have bh:b7.C.D.aZ<=900000090:=by rw[B];exact aU
 have bi:2<=cy b7:=by rw[B];exact aX
 rw[←B,←R]at aB aD;rw[←B]at aC;have S:Ext f f.drew:=cc _;have aF:=aB.ext S;have W:du T b7 c aR [] [no] w f.drew 0:=aD.trans (du.ext b7 aR S);obtain⟨b,bj⟩:=U6 f.drew;rw[←bj]at S aF W⊢;have F:=W.to;have X:∀q,¬T.M q->¬T.N q:=λq h1 Z=>h1 (aN.hL Z);have ac:=aK.ab F.ab (X _ aM);have ag:=aL.ab F.ab (X _ aP);have aI:∀ {m:aA}{K V D:U},b2 (λq=>¬T.M q) w m K V D->b2 (λq=>¬T.M q) b m K V D:=λL=>b2.ab L F.ab λq P=>X q P;have bk:=aI aS;have bl:=aI aT;have bm:=hu.to F;obtain⟨ba,bL,bz,bn⟩:=bS ac;obtain⟨bo,bp,bq,br⟩:=bS ag;have bI:=ac.lt;have bJ:=ag.lt;have fin:∀ (dk ah g7:J) (p bv:Nat),ah.heap.size=p->g7.heap.size=bv->Ext b dk->Var dk p (dp o j k l) 169->Var dk bv (dp n K V D) 169->b<=p->b<=bv->p≠bv->ad.ze H jM ah g7 (some ⟨c.cb,0,none⟩) (some A) (fr:Nat) (other:Nat) dk Q:=by
  intro dk ah g7 p bv bs bt hx bu O h1 Z bw;have:=JQ aF hx ac ag bu O h1 Z bw bk bl bm bh bi (be▸aY) a0 bf a1 a2 a3 a4 a5 m L a6 a7 (Q:=Q) (λs e w' hf=>a8 s e b7 aR b w' W hf) y z bs bt;rw[bd]at this;exact this
 refine aH ⟨λq=>b<=q,(show¬b.heap.size<=aG from I),_,bo,j,bp,k,bq,l,br,(show¬b.heap.size<=nb from I),_,ba,K,bL,V,bz,D,bn,?_,?_⟩
 .refine bg (vs:=[.bool false,.slice none 0 0,.slice none 0 0,.slice none 0 0]) rfl λaj bx r bA=>⟨aa.da r,bg (vs:=[.bool false,.slice none 0 0,.slice none 0 0,.slice none 0 0]) rfl λbB ak g bC=>?_⟩
  have t:=bx.ext g;refine⟨aa.da g,t.cF rfl gi,rfl,c6 t (us:=dp o j k l) rfl rfl λal am i bD=>?_⟩;have v:=ak.ab i I;have an:Ext b al:=Ext.bQ (r.trans g) i (a_ _);refine⟨i.mono λq _ e=>I,v.cF rfl gi,rfl,c6 v (us:=dp n K V D) rfl rfl λaq au x bE=>?_⟩;rw[←y,←z];exact fin aq b aj _ _ rfl rfl (Ext.bQ an x I) (am.ab x I) au (a_ _) I I
 .refine bg (vs:=[.bool false,.slice none 0 0,.slice none 0 0,.slice none 0 0]) rfl λaj bF r bA=>⟨aa.da r,bg (vs:=[.bool false,.slice none 0 0,.slice none 0 0,.slice none 0 0]) rfl λbB t g bC=>?_⟩
  have ak:=bF.ext g;refine⟨aa.da g,t.cF rfl gi,rfl,c6 t (us:=dp o j k l) rfl rfl λal am i bD=>?_⟩;have v:=ak.ab i I;have an:Ext b al:=Ext.bQ (r.trans g) i I;refine⟨i.mono λq _ e=>I,v.cF rfl gi,rfl,c6 v (us:=dp n K V D) rfl rfl λaq au x bE=>?_⟩;rw[←y,←z];exact fin aq aj b _ _ rfl rfl (Ext.bQ an x (a_ _)) (am.ab x I) au I (a_ _) I
theorem b_.read{T:aN}{aM:cp}{k:Nat}(h:b_ (T.cJ E λ_=>False) ((T.cJ E λ_=>False).bK aM P) w w' k)(f:∀q,T.E q\/T.G q->E q)(i:∀q,E q->T.E q\/T.G q\/w<=q):b_ T (T.bK aM P) w w' k:=by
 refine⟨h.bE,h.sb,h.n,h.g,h.s1,h.s2,h.c,h.d,h.bk,h.gen,h.aZ,h.calm,h.ab.mono λq _ a=>?_,λq a=>?_,λq a=>?_⟩
 .obtain a|a|a|a:=a
  .exact .inl a
  .exact .inr (.inl a)
  .exact .inr (.inr (.inl a))
  .exact a.elim
 .have h1:((T.cJ E λ_=>False).bK aM P).M q:=by
   obtain a|a|a|a:=a
   .exact .inl a
   .exact .inr (.inl a)
   .exact .inr (.inr (.inl a))
   .exact .inr (.inr (.inr (.inl (f q a))))
  rcases h.dr q h1 with b|b
  .obtain a|a|a|a|a:=b
   .exact .inl (.inl a)
   .exact .inl (.inr (.inl a))
   .exact .inl (.inr (.inr (.inl a)))
   .rcases i q a with e|e|e
    .exact .inl (.inr (.inr (.inr (.inl e))))
    .exact .inl (.inr (.inr (.inr (.inr e))))
    .exact .inr e
   .exact a.elim
  .exact .inr b
 .obtain a|a|a|a:=a
  .rcases h.fn q (.inl a) with b|b
   .obtain b|b|b|b:=b
    .exact .inl (.inl b)
    .exact .inl (.inr (.inl b))
    .exact .inl (.inr (.inr (.inl b)))
    .exact b.elim
   .exact .inr b
  .exact .inl (.inr (.inl a))
  .exact .inl (.inr (.inr (.inl a)))
  .exact .inl (.inr (.inr (.inr a)))
theorem du.cache{T:aN}{c:dJ}{aM:cp}{k:Nat}(h:b_ T (T.bK aM T.P) w w' k)(a:∀j,aM.view j=T.C.view j):du T (T.bK aM T.P) c c [] [] w w' k:=
 ⟨h,rfl,λ_ h=>h,rfl,rfl,rfl,by simp,by simp,o5,λ_ h=>(by cases h),λno=>by simp[aN.bK],λno _=>⟨rfl,a no⟩,by simp[cy,aN.bK]⟩
theorem Ef{T:aN}{c:dJ}{Z:U1}(h:dt w T c)(hx:Ext w w1)(g:∀q,Z q->w<=q/\q<w1)(y:T.C.D.aZ<=999999999)(z:T.P no=some o):
 aI aj 175 #[.pointer (some T.bE),no,o.leaf] w1 (λv w'=>∃aM:cp,(∀j,aM.view j=T.C.view j)/\aa (λq=>T.N q/\¬T.G q) w1 w'/\(∀q,(T.bK aM T.P).M q->T.M q\/w1<=q)/\
  (∀f,aa Z w' f->dt f (T.bK aM T.P) c/\du T (T.bK aM T.P) c c [] [] w f 2)/\
  ((∃ (K V D:U),v=.tuple #[dg o K V D,U8]/\b2 (λq=>w1<=q/\¬(T.bK aM T.P).M q) w' o K V D)\/(v=.tuple #[dg jW bG bG bG,(3:Int)]/\¬T.C.D.calm 2))):=by
 obtain⟨A,i⟩:=h.t.eM no o z;obtain⟨ck,k⟩:=U6 (λq=>T.E q\/T.G q\/Z q);have d:∀q,T.E q\/T.G q\/Z q->ck q:=λq a=>by rw[k];exact a
 have l:∀q,ck q->T.E q\/T.G q\/Z q:=λq a=>by rw[k]at a;exact a
 have m:cm w1 (T.cJ ck λ_=>False):=h.t.grow (W:=λ_=>False) hx (λ_ h=>h.elim) (λq a=>(l q a).imp id (Or.imp id (g q))) (λ_ h=>h.elim) λ_ _ h=>h;have n:∀q,(T.cJ ck λ_=>False).N q->T.N q/\¬T.G q:=λq a=>⟨by
  obtain a|a|a|a:=a
  .exact .inl a
  .exact .inr (.inl a)
  .exact .inr (.inr (.inl a))
  .exact a.elim,λhg=>m.kg (d q (.inr (.inl hg))) a⟩
 refine(Ah m y A i.two o.leaf).mono ?_;rintro v w' ⟨aM,B,ht,r,F⟩;have Q:=hx.size;have R:=ht.ab.size;have s:=(b_.ext (T.cJ ck λ_=>False) hx).trans ht;rw[cT]at s;have H:b_ T (T.bK aM T.P) w w' 2:=b_.read (E:=ck) s (λq a=>d q (a.imp id .inl)) λq a=>(l q a).imp id (Or.imp id λh=>(g q h).1);have u:aa (λq=>T.N q/\¬T.G q) w1 w':=ht.ab.mono λq _ a=>n q a;refine⟨aM,r,u,λq a=>?_,λf hc=>?_,?_⟩
 .obtain a|a:=a
  .exact(ht.fn q (.inl a)).imp (λh=>aN.hL (n q h).1) id
  .exact .inl (.inr a)
 .have I:cm f (T.bK aM T.P):=B.grow (E:=T.E) (G:=T.G) hc (λq a _=>.inl (d q (.inr (.inr a)))) (λq a=>.inl (d q (.inl a))) (λq a=>.inl (d q (.inr (.inl a)))) λq a=>(h.t.dF q a).2.2
  refine⟨(h.ext hx).of (W:=λq=>(T.N q/\¬T.G q)\/Z q) I ((u.mono λq _ a=>.inl a).trans (hc.mono λq _ a=>.inr a)) (λq hg a=>?_) rfl (λ_ h=>h) ht.cj.1,du.cache ?_ r⟩
  .obtain a|a:=a
   .exact a.2 hg
   .have:=h.t.lt (q:=q) (.inr (.inr (.inr (.inr hg))))
    have:=(g q a).1;omega
  .exact H.step (E:=T.E) (G:=T.G) hc (λq a S=>U4 ((g q a).1)) (λq a=>.inl a) λq a=>.inl a
 .obtain⟨bz,K,V,D,rfl,L,cO⟩|⟨e,rfl,O,X⟩:=F
  .obtain rfl:=g9.uniq i L
   refine .inl ⟨K,V,D,rfl,cO.bh λq a x=>⟨x.1,λb=>x.2 ?_⟩⟩;obtain b|b|b|b|b:=b
   .exact .inl b
   .exact .inr (.inl b)
   .exact .inr (.inr (.inl b))
   .exact .inr (.inr (.inr (.inl (d q (.inl b)))))
   .exact .inr (.inr (.inr (.inl (d q (.inr (.inl b))))))
  .refine .inr ?_
   obtain⟨rfl,h1⟩|h1|⟨_,_,h1⟩:=O
   .exact⟨rfl,h1⟩
   .obtain⟨p,ao,_⟩:=i
    have h1:cG (no:Int) (T.C.view no)=.error e:=h1;rw[ao]at h1;cases h1
   .exact absurd i (h1 o)
def kG(u:dG):Nat:=if u.c4=0 then 1 else u.c4-1
def mS(u:dG)(n o:aA):aA:=if u.c4<kG u then dS n (u.n.keys.getD (u.c4-1) []) o else dS o (u.n.keys.getD (u.c4-1) []) n
def Am(T:aN)(c:dJ)(n:aA)(u:dG)(w:J)(v:Y)(w':J):Prop:=
 (80<=bP n/\∃ (s:U) (e:Int),v=.tuple #[s,u.c4,.int .i64 ((u.c4+1:Nat):Int),e]/\iQ T c n w (.tuple #[s,e]) w')\/
 (bP n<80/\∃ (b7:aN) (aR:dJ),v=.tuple #[(),U8,U8,(3:Int)]/\dt w' b7 aR/\du T b7 c aR [] [] w w' 2/\¬T.C.D.calm 2)\/
 (bP n<80/\∃ (o:aA) (no:Nat) (b7:aN) (aR:dJ) (w1:J) (s:U) (e:Int),u.n.kids[kG u]? =some no/\T.P no=some o/\du T b7 c aR [] [no] w w1 2/\
   v=.tuple #[s,.int .i64 ((u.c4-1:Nat):Int),.int .i64 ((u.c4-1+2:Nat):Int),e]/\iQ b7 aR (mS u n o) w1 (.tuple #[s,e]) w')
theorem JS{T:aN}{c:dJ}{K V D:U}(h:dt w T c)(j:b2 B w n K V D)(d:mQ n)(o:T.C.D.aZ<=900000080)(k:2<=cy T)(l:c.made.length<=900):
 aI aj 231 #[.pointer (some c.cb),dg n K V D,.pointer none] w (λv w'=>∃ (s:U) (e:Int),v=.tuple #[s,U8,U8,e]/\iQ T c n w (.tuple #[s,e]) w'):=by
 refine okF (ad.pG (some c.cb) n.leaf K V D none) ay.pG func231 ?_;(delta ad.pG af aW ae av aJ b5 aE r1 ai dY aQ aO aV b1 kU z3 bf q2 ap st cA dC lA qZ;dsimp only);refine bg (vs:=dp n K V D) rfl λw1 m f p=>?_;refine cx (λb w'=>b=true/\w1=w') (λq g=>⟨λ_=>g _ _ ⟨rfl,rfl⟩,nofun⟩) ?_;rintro _ _ ⟨rfl,rfl⟩;refine⟨λ_=>s3 (λa b w'=>a=0/\b=0/\w1=w') (λq g=>⟨nofun,λ_=>g _ _ _ ⟨rfl,rfl,rfl⟩⟩) ?_,nofun⟩;rintro _ _ _ ⟨rfl,rfl,rfl⟩;obtain⟨bM,aR,a7,bx⟩:=bS m;refine⟨_,bM,K,aR,V,a7,D,bx,(x0 (h.ext f) I k l (j.ext f) d.1 d.2.1 d.2.2).use ?_⟩;intro v w' i;obtain⟨s,e,rfl⟩:=i.out;exact⟨s,e,rfl,s,e,rfl,i.base f⟩
theorem JT{T:aN}{c:dJ}{K V D:U}{u:dG}(h:dt w T c)(au:b2 (λq=>¬T.M q) w n K V D)(hu:mR (λq=>¬T.M q) w A u)(aw:cC n)(ba:bP n<=400)(ak:80<=bP n->mQ n)
 (bb:bP n<80->∃ (o:aA) (no:Nat),u.n.kids[kG u]? =some no/\T.P no=some o/\o.leaf=n.leaf/\u.c4-1<u.n.keys.length/\cP (u.n.keys.getD (u.c4-1) [])/\mQ (mS u n o)) (bJ:u.c4<=900)
 (bL:T.C.D.aZ<=900000080) (aY:2<=cy T) (a0:c.made.length<=900) (bc:c.left.length<=900):
 aI aj 231 #[.pointer (some ⟨c.cb,0,none⟩),dg n K V D,.pointer (some A)] w (Am T c n u w):=by
 have bN:=aw.fJ I;refine okF (ad.pG (some ⟨c.cb,0,none⟩) n.leaf K V D (some A)) ay.pG func231 ?_;(delta ad.pG af aW ae av aJ b5 aE r1 ai dY aQ aO aV b1 kU z3 bf q2 ap st cA dC lA qZ;dsimp only);refine bg (vs:=dp n K V D) rfl λw1 Y a1 bO=>?_;obtain⟨nb,ac⟩:=U6 w.heap.size;rw[←ac]at Y⊢;refine cx (λb w'=>b=decide (80<=bP n)/\Ext w1 w') (λq f=>⟨nofun,λ_=>?_⟩) ?_
 .obtain⟨bM,aR,a7,bx⟩:=bS Y
  refine⟨_,bM,K,aR,V,a7,D,bx,(pI (au.ext a1) aw I).use ?_⟩;rintro _ bR ⟨rfl,bd⟩;refine⟨_,rfl,f _ _ ⟨?_,bd⟩⟩;rw[ek,cq,cq];omega
 rintro _ p ⟨rfl,ag⟩;have ah:=a1.trans ag;refine⟨λg=>?_,λg=>?_⟩
 .have g:=bB g
  have L:=ak g;refine s3 (λa b w'=>a=(u.c4:Nat)/\b=((u.c4+1:Nat):Int)/\Ext p w') (λq f=>⟨λ_=>?_,nofun⟩) ?_
  .have y:Ext p p.drew:=cc _
   have a2:=hu.ext (ah.trans y);refine aH ⟨A,rfl,id,_,a2.fW,A,rfl,id,_,a2.fW,f _ _ _ ⟨rfl,?_,y⟩⟩;rw[bl I I];rfl
  rintro _ _ bU ⟨rfl,rfl,a3⟩;have r:=ah.trans a3;obtain⟨bM,aR,a7,bx⟩:=bS (Y.ext (ag.trans a3));refine⟨_,bM,K,aR,V,a7,D,bx,(x0 (h.ext r) I aY a0 (au.ext r) L.1 L.2.1 L.2.2).use ?_⟩;intro v w' al;obtain⟨s,e,rfl⟩:=al.out;exact⟨s,e,rfl,.inl ⟨g,s,e,rfl,al.base r⟩⟩
 .have g:¬80<=bP n:=bT g
  obtain⟨o,no,az,am,aB,a4,be,L⟩:=bb I;obtain⟨bV,bi⟩:=h.t.eM no o am;obtain⟨_,bf,bW⟩:=bi.is;have an:=hu.ext ah;refine⟨A,rfl,_,an.fW,((u.c4-1:Nat):Int),p,?_,?_⟩
  .rw[run_max_int2]
   congr 2
   by_cases h0:u.c4=0
   .rw[h0];rfl
   .rw[bl I I,if_neg I];omega
  refine cx (λa w'=>a=(kG u:Nat)/\p=w') (λq f=>⟨A,rfl,_,an.fW,λh0=>f _ _ ⟨?_,rfl⟩,λh0=>f _ _ ⟨?_,rfl⟩⟩) ?_
  .have:u.c4=0:=by simpa using h0
   unfold kG;rw[if_pos this];rfl
  .have:u.c4≠0:=by simpa using h0
   unfold kG;rw[if_neg this]
  rintro _ _ ⟨rfl,rfl⟩;have bj:kG u<u.n.kids.length:=(jK.1 az).1;obtain⟨CO,bk,bm,a5⟩:=cK.at an.bu.kids bj;have bn:u.n.kids[kG u]=no:=(jK.1 az).2;rw[bn]at a5;refine⟨A,rfl,u.D,an.fE,CO,bk,bm,_,a5,aH ?_⟩;have y:Ext p p.drew:=cc _;obtain⟨z,bo⟩:=U6 p.drew;rw[←bo]at y⊢;have r:=ah.trans y;have aC:=h.ext r;have bX:=r.size;have bY:=(ag.trans y).size;have aD:=Y.ext (ag.trans y);have aF:∀q,T.M q->q<w:=λq f=>h.t.lt f;have a6:u.n.keys.getD (u.c4-1) []=u.n.keys[u.c4-1]:=by rw[fi,dB a4];rfl
  have fin:∀ (aM:cp) (jM:J) (aG:Nat) (i k l:U) (d:J),jM.heap.size=aG->dt d (T.bK aM T.P) c->du T (T.bK aM T.P) c c [] [] z d 2->Var d nb (dp n K V D) 169->Var d aG (dp o i k l) 169->z<=aG->¬(T.bK aM T.P).M aG->b2 (λq=>¬(T.bK aM T.P).M q) d o i k l->
   ad.zf w jM (some ⟨c.cb,0,none⟩) (some A) ((u.c4-1:Nat):Int) (kG u:Nat) (no:Nat) 0 d (λv w'=>Am T c n u w v w'):=by
   intro aM jM aG i k l d bp B ao bq br bZ bs bt;have a8:=((du.ext T c r).trans ao).mono (j:=2) I;have aK:=a8.to;have bv:¬(T.bK aM T.P).M nb:=λO=>by
    rcases ao.to.dr nb O with h1|h1
    .have:=aF _ h1;omega
    .omega
   have bw:b2 (λq=>¬(T.bK aM T.P).M q) d n K V D:=(aK.bu (lo:=0) (au.bh λq _ g=>⟨cw _,g⟩)).bh λq _ g=>g.2;have bz:(T.bK aM T.P).C.D.aZ<=900000090:=fg aK.aZ I;refine JR B bq br bv bs bw bt (hu.to aK) bz aY a0 bc aw bf ba I aB a4 (a6▸be) (mS u n o) (by unfold mS;rw[a6]) L I ?_ ac.symm bp;intro s e b7 aR bA w' bC hf;exact .inr (.inr ⟨I,o,no,b7,aR,bA,s,e,az,am,(a8.trans bC).mono I,rfl,hf⟩)
  have aq:∀q,T.N q->q<w:=λq f=>aF q (aN.hL f);have err:∀ (aM:cp) (d:J),dt d (T.bK aM T.P) c->du T (T.bK aM T.P) c c [] [] z d 2->¬T.C.D.calm 2->Am T c n u w (.tuple #[.slice none 0 0,.int .i64 0,.int .i64 0,.int .i64 3]) d:=by
   intro aM d B ao Q;exact .inr (.inl ⟨I,_,c,rfl,B,((du.ext T c r).trans ao).mono I,Q⟩)
  obtain⟨bM,aR,a7,bx⟩:=bS aD;refine⟨λq=>T.N q/\¬T.G q,_,rfl,λf=>f.2 h.gc,_,aC.cells.1,(λf=>by have:=aq _ f.1;show False;exact absurd this (by show¬nb<w;omega)),_,bM,?_,?_⟩
  .rw[←aB]
   refine(Ef (Z:=λ_=>False) aC (aa.refl _ _) (λ_ h=>h.elim) I am).use ?_;rintro _ F ⟨aM,al,x,a9,R,aL⟩;have bD:=x.size;obtain⟨i,k,l,rfl,aP⟩|⟨rfl,Q⟩:=aL
   .refine⟨_,i,k,l,0,rfl,x,bg (vs:=[.bool false,.slice none 0 0,.slice none 0 0,.slice none 0 0]) rfl λbE S W bF=>⟨aa.da W,S.cF rfl gi,rfl,c6 S (us:=dp o i k l) rfl rfl λd X m aS=>?_⟩⟩
    have E:Ext F d:=Ext.bQ W m (a_ _);obtain⟨ar,aT⟩:=R F (aa.refl _ _);have H:=aD.ab x λf=>U4 (aq _ f.1)
    subst ac;refine fin aM F _ i k l d rfl (ar.ext E) ((aT.trans (du.ext _ _ E)).mono I) (H.ext E) X I (λO=>U4 (ar.t.lt O)) ?_;exact(aP.ext E).bh λq _ g=>g.2
   .refine⟨_,bG,bG,bG,3,rfl,x,bg (vs:=[.bool false,.slice none 0 0,.slice none 0 0,.slice none 0 0]) rfl λbE S W bF=>⟨aa.da W,S.cF rfl gi,rfl,c6 S (us:=dp jW bG bG bG) rfl rfl λd X m aS=>⟨λ_=>?_,nofun⟩⟩⟩
    have E:Ext F d:=Ext.bQ W m (a_ _);obtain⟨ar,aT⟩:=R F (aa.refl _ _);exact err aM d (ar.ext E) ((aT.trans (du.ext _ _ E)).mono I) Q
  .refine bg (vs:=[.bool false,.slice none 0 0,.slice none 0 0,.slice none 0 0]) rfl λb0 bH aU b3=>⟨aa.da aU,?_⟩
   rw[←aB];refine(Ef (Z:=λq=>q=z) aC aU (λq e=>⟨I,I⟩) I am).use ?_;rintro _ F ⟨aM,al,x,a9,R,aL⟩;have bD:=x.size;have H:=bH.ab x λf=>U4 (aq _ f.1)
   have bI:=(aD.ext aU).ab x λf=>U4 (aq _ f.1)
   obtain⟨i,k,l,rfl,aP⟩|⟨rfl,Q⟩:=aL
   .refine⟨_,i,k,l,0,rfl,H.cF rfl gi,rfl,c6 H (us:=dp o i k l) rfl rfl λd X m aS=>?_⟩
    obtain⟨B,aX⟩:=R d m;subst ac;refine fin aM z _ i k l d rfl B aX (bI.ab m I) X (a_ _) (λO=>?_) ?_
    .rcases a9 _ O with h1|h1
     .have:=aF _ h1;omega
     .omega
    .refine(b2.ab aP m λq f e=>U4 f.1).bh λq _ g=>g.2
   .refine⟨_,bG,bG,bG,3,rfl,H.cF rfl gi,rfl,c6 H (us:=dp jW bG bG bG) rfl rfl λd X m aS=>⟨λ_=>?_,nofun⟩⟩
    obtain⟨B,aX⟩:=R d m;exact err aM d B aX Q
structure An(T aq:aN)(l:O Nat)(w w':J):Prop where
 to:b_ T aq w w' 0
 E:aq.E=T.E
 G:aq.G=T.G
 root:aq.root=T.root
 aD:aq.aD=T.aD
 f:∀no,aq.f no=(T.f no&& !decide (no∈l))
 eQ:∀no,(no∉l\/T.g no=true)->aq.P no=T.P no/\aq.C.view no=T.C.view no
theorem Eg{T:aN}{c:dJ}{s:U}(h:dt w T c)(hs:Src 1 w s (dv l))(B:∀q,ar s q->T.G q)(R:∀x∈l,T.f x=true)(cO:l.Nodup)(an:l.length<=10000):
 aI aj 186 #[.pointer (some c.cb),s] w (λv w'=>v=.tuple #[]/\∃aq:aN,dt w' aq c/\An T aq l w w'):=by
 have ao:s.len=l.length:=by have:=hs.len;rw[mK]at this;omega
 refine okF (ad.wW (some c.cb) s) ay.wW func186 ?_;(delta ad.wW cW af aQ aO r1 aV aE bR b5 ai;dsimp only);refine⟨λi w'=>∃ (j:Nat) (aq:aN),i=j/\j<=l.length/\dt w' aq c/\An T aq (l.take j) w w'/\Src 1 w' s (dv l),λi _=>((l.length:Int)-i).toNat,⟨0,T,rfl,cw _,h,⟨.refl _ _,rfl,rfl,rfl,rfl,λno=>by simp,λ_ _=>⟨rfl,rfl⟩⟩,hs⟩,?_⟩;rintro _ ap ⟨j,b7,rfl,au,h1,hg,C⟩;refine⟨λaB=>?_,λr=>?_⟩
 .have aB:j<l.length:=by
   have:(j:Int)<(s.len:Int):=bB aB;omega
  have D:b7.f l[j]=true:=by
   rw[hg.f,R _ (cg aB)];have:l[j]∉l.take j:=λS=>by
    obtain⟨i,hi,he⟩:=eO S;rw[cQ]at hi;rw[mu]at he;have:=(List.getElem_inj cO).1 he;omega
   simp[this]
  have av:l[j]<b7.n:=by
   rcases dA l[j] b7.n with a|a
   .exact a
   .have:=h1.t.s.pf _ a
    rw[D]at this;cases this
  obtain⟨A,ak,V,hc⟩:=C.at (i:=j) (v:=.int .i64 ((l[j]:Nat):Int)) (by simp[dv,aB]);refine jQ (λw'=>∃cA:aN,dt w' cA c/\An T cA (l.take (j+1)) w w'/\Src 1 w' s (dv l)) (λq d=>⟨A,ak,V,_,hc,_,rfl,_,h1.cells.1,_,rfl,_,h1.t.cells.2.1,(I7 h1.t.s _).use ?_⟩) ?_
  .rintro _ _ ⟨rfl,rfl⟩
   refine⟨_,rfl,_,rfl,_,h1.cells.1,_,rfl,_,h1.t.cells.2.1,(DJ h1.t.s _).use ?_⟩;rintro _ F ⟨rfl,fp,u⟩;have W:oM b7.f b7.n ((l[j]:Nat):Int)=c9 b7.f l[j] false:=by
    unfold oM;rw[if_pos ⟨I,I⟩,cS]
   rw[W]at fp;obtain⟨X,H⟩:=h1.t.xY fp u;have k:dt F (b7.kj (c9 b7.f l[j] false)) c:=h1.of X u (λq d hf=>(h1.t.ki q d).2 hf) rfl λ_ h=>h;have K:Src 1 F s (dv l):=C.ab u λq d hf=>(h1.t.ki q (by rw[hg.G];exact B q d)).2 hf;have Y:(decide ((0:Int)<=((l[j]:Nat):Int))&&decide (((l[j]:Nat):Int)<(b7.n:Nat))&&b7.f (Int.toNat ((l[j]:Nat):Int))&& !(b7.g (Int.toNat ((l[j]:Nat):Int))))= !(b7.g l[j]):=by
    rw[cS,D,dm I,dm I];simp
   have L:∀no,c9 b7.f l[j] false no=(T.f no&& !decide (no∈l.take (j+1))):=λno=>by
    rw[gv aB];unfold c9;by_cases e:no=l[j]
    .rw[if_pos e,e,dm (cE.2 (.inr (dV.2 rfl)))]
     exact(Bool.and_false _).symm
    .rw[if_neg e,hg.f]
     have Z:decide (no∈l.take j++ [l[j]])=decide (no∈l.take j):=by
      rw[ek,cq,cq,cE,dV];exact⟨λh=>h.resolve_right e,.inl⟩
     rw[Z]
   rw[Y];refine⟨_,rfl,λy=>⟨_,rfl,_,k.cells.1,_,rfl,_,k.t.cells.1,(JD k.t.ca _).use ?_⟩,λy=>d _ ⟨_,k,⟨?_,hg.E,hg.G,hg.root,hg.aD,L,λno m=>?_⟩,K⟩⟩
   .rintro _ aw ⟨⟨b,rfl⟩,aM,aa,o,M,_⟩
    have ac:T.g l[j]=false:=by
     have a:b7.g=T.g:=hg.to.g;rw[a]at y;simpa using y
    obtain⟨ae,ag⟩:=k.t.xW (P:=λno=>if no=l[j] then none else b7.P no) aa o (λno bu p=>by
     by_cases e:no=l[j]
     .rw[if_pos e]at p;cases p
     .rw[if_neg e]at p
      rw[M no e];exact h1.t.eM no bu p)
    have ah:=k.of (aq:=(b7.kj (c9 b7.f l[j] false)).bK aM λno=>if no=l[j] then none else b7.P no) ae o.ab (λq d=>k.t.xX d) rfl (λ_ h=>h) o.cj;refine⟨b,rfl,d _ ⟨_,ah,⟨?_,hg.E,hg.G,hg.root,hg.aD,L,λno m=>?_⟩,?_⟩⟩
    .exact((hg.to.trans H).trans ag).mono I
    .have N:no≠l[j]:=λe=>by
      obtain a|a:=m
      .exact a (by rw[gv aB,e];exact cE.2 (.inr (dV.2 rfl)))
      .rw[e,ac]at a;cases a
     have Q:=hg.eQ no (m.imp (λa z=>a (by rw[gv aB];exact cE.2 (.inl z))) id);exact⟨(if_neg N).trans Q.1,(M no N).trans Q.2⟩
    .exact K.ab o.ab λq d=>k.t.xX (by show b7.G q;rw[hg.G];exact B q d)
   .exact(hg.to.trans H).mono I
   .exact hg.eQ no (m.imp (λa z=>a (by rw[gv aB];exact cE.2 (.inl z))) id)
  .rintro ax ⟨cA,a,al,am⟩
   rw[bl (n:=(j:Int)+1) I I];refine⟨⟨j+1,cA,I,I,a,al,am⟩,?_⟩;show((l.length:Int)-((j:Int)+1)).toNat<((l.length:Int)-(j:Int)).toNat;omega
 .have r:j=l.length:=by
   have:¬(j:Int)<(s.len:Int):=bT r;omega
  subst r;rw[gD]at hg;exact⟨rfl,b7,h1,hg⟩
theorem rr{K V D:U}(c:b2 B w n K V D)(aD:Nat)(h:aD<=100)(d:n.leaf=false->∃x,n.kids=[x]/\1<=aD):
 aI aj 230 #[dg n K V D,aD] w (λv w'=>v=(if n.leaf then .tuple #[U8,U8,U8] else .tuple #[.int .i64 ((n.kids.getD 0 0:Nat):Int),.int .i64 ((aD-1:Nat):Int),U8])/\Ext w w'):=by
 refine okF (ad.rr n.leaf K V D (aD:Nat)) ay.rr func230 ?_;(delta ad.rr aW ae af av aJ aQ aO r1 aV ai;dsimp only);refine bg (vs:=dp n K V D) rfl λw1 e b j=>?_;obtain⟨bM,aR,a7,bx⟩:=bS e;refine⟨_,bM,λa=>⟨by rw[if_pos a],b⟩,λa=>?_⟩;obtain⟨x,hx,h1⟩:=d a;obtain⟨A,ak,f,hc⟩:=cK.at (c.ext b).kids (i:=0) (by rw[hx];simp);refine⟨D,bx,A,ak,f,_,hc,?_,b⟩;have g:(aD:Int)-1=((aD-1:Nat):Int):=I
 rw[if_neg (by rw[a];simp),bl I I,g];simp only[hx];rfl
def Ao(T:aN)(c:dJ)(ks:O Key)(kids:O Nat)(w:J)(v:Y)(w':J):Prop:=
 (∃x,ks=[]/\kids=[x]/\v=.tuple #[x,T.aD,U8]/\dt w' T c/\Ext w w')\/
 (∃ (k:Key) (x y no:Nat) (aq:aN) (c':dJ),ks=[k]/\kids=[x,y]/\dt w' aq c'/\du T aq c c' [no] [] w w' 1/\
   ((v=.tuple #[no,.int .i64 ((T.aD+1:Nat):Int),U8]/\aq.P no=some ⟨false,[k],[],[x,y]⟩)\/(v=.tuple #[no,.int .i64 ((T.aD+1:Nat):Int),(3:Int)]/\¬T.C.D.calm 1)))
theorem Eh(K D:Nat)(w:J):Sem.run aj (Instr.build 169 #[(1,.slice (some K) 1 1),(3,.slice (some D) 2 2)]) w=.ok (.agg #[false,.slice (some K) 1 1,(),.slice (some D) 2 2]) w:=by kernel_rfl
theorem Var.Ei{b:Nat}{vs:O Y}{T:TypeId}(h:Var w b vs T):Src 1 w ⟨some b,vs.length,vs.length⟩ vs:=by
 refine⟨by show _=vs.length*1;omega,(λh=>by cases h),λa c=>?_⟩
 cases c;show cv w b 0 (vs.length*1)=_;rw[eY,h.rd rfl]
theorem JU{t:U}(b:Nat)(a:Var w b [t] 39)(ht:bI (λ_=>True) w t k):bo (λ_=>True) w ⟨some b,1,1⟩ [k]:=by
 refine⟨[t],rfl,a.Ei,a_ _,λq c=>⟨trivial,?_⟩,λi h1 d=>?_⟩
 .obtain⟨A,ak,rfl⟩:=c
  cases ak;exact a.lt
 .have:i=0:=by simp at h1;omega
  subst this;exact ht
theorem JV{x y:Nat}(b:Nat)(a:Var w b [x,y] 3):cK (λ_=>True) w ⟨some b,2,2⟩ [x,y]:=by
 refine⟨a.Ei,a_ _,λq c=>⟨trivial,?_⟩⟩;obtain⟨A,ak,rfl⟩:=c
 cases ak;exact a.lt
theorem JW{T:aN}{c:dJ}{s:U}(h:dt w T c)(K:l_ (λq=>¬T.M q) w s ks kids)(A:kids.length=2->T.aD<12)(hs:∀k x y,ks=[k]->kids=[x,y]->cP k/\x<1600/\y<1600)
 (av:T.C.D.aZ<=900000080) (L:1<=cy T) (ax:c.made.length<=900):
 aI aj 232 #[.pointer (some ⟨c.cb,0,none⟩),.slice s.a s.len s.cap] w (Ao T c ks kids w):=by
 have az:=h.t.num.2.1;refine okF (ad.w7 (some ⟨c.cb,0,none⟩) s) ay.w7 func232 ?_;(delta ad.w7 af aQ aO r1 aV aE b1 dC aJ gI ae jc ai;dsimp only);have o:Ext w w.drew:=cc w;have hd:=h.ext o;rcases K with ⟨b,x,rfl,rfl,rfl,l,B⟩|⟨b,x,y,k,t,rfl,rfl,rfl,l,B,ht,aA⟩
 .refine⟨λ_=>aH ⟨_,rfl,⟨by decide,by show(0:Int)<((1:Nat):Int);decide⟩,id,_,by rw[aw,aw];exact l.drew.cell,_,rfl,id,_,hd.cells.1,_,rfl,id,_,hd.t.cells.2.2.2.2,?_⟩,nofun⟩
  exact .inl ⟨x,rfl,rfl,rfl,hd,o⟩
 .have A:=A rfl
  obtain⟨s1,s2,aB⟩:=hs k x y rfl rfl;refine⟨nofun,λ_=>⟨_,rfl,_,h.cells.1,_,rfl,_,h.t.cells.2.2.2.2,λP=>?_,λ_=>?_⟩⟩
  .have:((T.aD:Nat):Int)=12:=by simpa using P
   omega
  have Q:cC ⟨false,[k],[],[x,y]⟩:=.inr ⟨⟨λaC R=>by rw[dV.1 R];exact s1,List.pairwise_singleton _ _⟩,rfl,by simp,rfl,rfl,λz E=>by
   simp only[cN,er,ez]at E;rcases E with rfl|rfl<;>assumption⟩
  have S:bP ⟨false,[k],[],[x,y]⟩<=232:=by
   have:=s1.2;simp[bP,cellsOf];omega
  have r:¬T.N b:=λV=>B (aN.hL V);have fin:∀ (d:J) (bW aO:Nat),Ext w d->Var d bW [.slice t.a t.len t.cap] 39->Var d aO [.int .i64 (x:Nat),.int .i64 (y:Nat)] 3->
   aI aj 265 #[.pointer (some ⟨c.cb,0,none⟩),.agg #[.bool false,.slice (some ⟨bW,0,none⟩) 1 1,.slice none 0 0,.slice (some ⟨aO,0,none⟩) 2 2]] d (λv w'=>∃n27:Int,∃n28:Int,v=.tuple #[.int .i64 n27,.int .i64 n28]/\aa T.N d w'/\
    ∀e,Ext w' e->Ao T c [k] [x,y] w (.tuple #[.int .i64 n27,.int .i64 ((T.aD+1:Nat):Int),.int .i64 n28]) e/\∃aq c',dt e aq c'/\c'.cb=c.cb/\aq.bE=T.bE/\aq.aD=T.aD):=by
   intro d bW aO hx W X;have cO:b2 (λ_=>True) d ⟨false,[k],[],[x,y]⟩ ⟨some ⟨bW,0,none⟩,1,1⟩ ⟨none,0,0⟩ ⟨some ⟨aO,0,none⟩,2,2⟩:=by
    exact⟨JU bW W (bI.bh (bI.ext ht hx) λ_ _ _=>trivial),bo.none _ _,JV aO X⟩
   refine(xZ (h.ext hx) I L I cO Q S).mono ?_;rintro v w' ⟨no,aq,c',p,f,Y⟩;have F:=((du.ext T c hx).trans f).mono (j:=1) I;rcases Y with ⟨rfl,Z⟩|⟨rfl,ac⟩
   .refine⟨_,_,rfl,f.to.ab,λe g=>⟨.inr ⟨k,x,y,no,aq,c',rfl,rfl,p.ext g,(F.trans (du.ext aq c' g)).mono I,.inl ⟨rfl,Z⟩⟩,aq,c',p.ext g,f.cb,f.to.bE,f.aD⟩⟩
   .refine⟨_,_,rfl,f.to.ab,λe g=>⟨.inr ⟨k,x,y,no,aq,c',rfl,rfl,p.ext g,(F.trans (du.ext aq c' g)).mono I,.inr ⟨rfl,ac⟩⟩,aq,c',p.ext g,f.cb,f.to.bE,f.aD⟩⟩
  have ag:IntKind.wrap .i64 (((T.aD:Nat):Int)+1)=((T.aD+1:Nat):Int):=by rw[bl I I];rfl
  refine s3 (λa b w'=>∀e,Ext w' e->Ao T c [k] [x,y] w (.tuple #[.int .i64 a,.int .i64 ((T.aD+1:Nat):Int),.int .i64 b]) e/\∃aq c',dt e aq c'/\c'.cb=c.cb/\aq.bE=T.bE/\aq.aD=T.aD) (λq G=>aH ⟨T.N,_,rfl,⟨by decide,by show(1:Int)<((2:Nat):Int);decide⟩,r,t,by rw[aw];exact l.drew.cell,_,rfl,⟨by decide,by show(0:Int)<((2:Nat):Int);decide⟩,r,_,by rw[aw,aw];exact l.drew.cell,_,rfl,⟨by decide,by show(1:Int)<((2:Nat):Int);decide⟩,r,_,by rw[aw,aw];exact l.drew.cell,?_,?_⟩) ?_
  .refine bg (vs:=[.slice t.a t.len t.cap]) rfl λu ah m ak=>⟨aa.da m,bg (vs:=[.int .i64 (x:Nat),.int .i64 (y:Nat)]) rfl λd al i am=>⟨aa.da i,_,λ_=>Eh _ _ _,?_⟩⟩
   refine(fin d w.drew.heap.size u (o.trans (m.trans i)) (ah.ext i) al).use ?_;rintro _ w' ⟨n27,n28,rfl,hc,n⟩;exact⟨n27,n28,rfl,hc,G _ _ _ n⟩
  .refine bg (vs:=[.int .i64 (x:Nat),.int .i64 (y:Nat)]) rfl λu an m ak=>⟨aa.da m,bg (vs:=[.slice t.a t.len t.cap]) rfl λd ao i am=>⟨aa.da i,_,λ_=>Eh _ _ _,?_⟩⟩
   refine(fin d u w.drew.heap.size (o.trans (m.trans i)) ao (an.ext i)).use ?_;rintro _ w' ⟨n27,n28,rfl,hc,n⟩;exact⟨n27,n28,rfl,hc,G _ _ _ n⟩
  .intro a b ap n
   obtain⟨h1,aq,c',H,ar,aF,au⟩:=n _ (cc ap);have hc:=H.cells.1;rw[ar]at hc;have ht:=H.t.cells.2.2.2.2;refine aH ⟨_,rfl,id,_,hc,_,rfl,id,_,ht,?_⟩;rw[au,ag];exact h1
theorem dj.Ap{p:O Nat}{L:O aY}(a:dj P h n lo hi p L)(e:n.leaf=true->bP n<=310)(f:n.leaf=false->bP n<=335)(j:n.leaf=false->n.keys≠ []):mQ n:=by
 refine⟨?_,by cases g:n.leaf;exact fg (f g) (by decide);exact fg (e g) (by decide),λhs=>?_⟩
 .cases h with
  |zero=>exact a.elim
  |succ h=>
   cases h with
   |zero=>exact .inl a.1
   |succ h=>
    obtain⟨ao,b,c,d,i⟩:=a;have hs:=i.sorted λ_ _ _ _ _ k=>k.in;exact .inr ⟨⟨c,hs.2.2.1⟩,ao,j ao,i.len,b,d⟩
 .obtain⟨ao,b,c,d,_⟩:=a.two (Q:=P) (x:=0) (y:=0) hs e f
  exact⟨ao,b,c,d⟩
section
variable {P:Nat->an aA}{lo hi:an Key}
theorem JX{ba d:aA}{j z:an Key}{bm C:O Nat}{bC iK:O aY}(D:∀k∈ba.keys,cP k)(hlen:ba.kids.length=ba.keys.length+1)(E:∀x n,P x=some n->bP n<=232)
 (M:1<=i) (Q:i<ba.kids.length) (A:fF j z k)
 (F:fH (fy P (h+1)) lo j (ba.keys.take i) (ba.kids.take i) bm bC) (p:dj P (h+1) d j z C iK) (h1:bP d<80):
 ∃ (o:aA) (R:i-1<ba.kids.length) (S:i-1<ba.keys.length),P ba.kids[i-1]=some o/\o.leaf=d.leaf/\cP ba.keys[i-1]/\mQ (dS o ba.keys[i-1] d):=by
 obtain⟨s,G,bc,r,bH,N,hs,rfl,q,rfl,rfl,⟨t,m,f,u⟩,T,U⟩:=F.last (by rw[cQ];omega);have V:(ba.keys.take i).length=i:=by rw[cQ];omega
 have W:(ba.kids.take i).length=i:=by rw[cQ];omega
 have q:s=ba.keys[i-1]'I:=by
  rw[q,mu];congr 1;omega
 have H:(ba.kids.take i)[(ba.kids.take i).length-1]'I=ba.kids[i-1]'I:=by
  rw[mu];congr 1;omega
 rw[H]at t f;obtain⟨o,J,g,rfl,_,v⟩:=t.ke;rw[g]at f;have u:2<=o.keys.length:=by rw[Option.some.inj f];exact u
 clear f;subst q;have w:=(show fy P (h+1) G (some (ba.keys[i-1]'I)) (ba.kids[i-1]'I) (ba.kids[i-1]'I::J) N from⟨t,o,g,u⟩).in;obtain⟨x,hx⟩:=sC _ w.1;have y:=D _ (cg (l:=ba.keys) (n:=i-1) I);have K:=dj.merge v p y (λc hc=>jU (lD ((w.2.2 x hx).1 c hc) ((w.2.2 x hx).2 _ rfl))) (λc hc=>jU (lD (A.1 _ rfl) (A.2 c hc)));have B:=xn v p y (U4 (E _ _ g));have L:=xm (a:=o) (b:=d) (s:=ba.keys[i-1]'I);refine⟨o,I,I,g,by rw[v.leaf,p.leaf],y,K.Ap B.1 B.2 λ_ e=>?_⟩;rw[e,ic]at L;omega
theorem JY{ba d:aA}{A p:an Key}{bt D:O Nat}{iK b8:O aY}(E:∀k∈ba.keys,cP k)(hlen:ba.kids.length=ba.keys.length+1)(F:∀x n,P x=some n->bP n<=232)
 (f:i+1<ba.kids.length) (B:fF A p k)
 (G:gU (fy P (h+1)) hi p (ba.keys.drop i) (ba.kids.drop (i+1)) bt b8) (q:dj P (h+1) d A p D iK) (h1:bP d<80):
 ∃ (o:aA) (Q:i+1<ba.kids.length) (R:i<ba.keys.length),P ba.kids[i+1]=some o/\o.leaf=d.leaf/\cP ba.keys[i]/\mQ (dS d ba.keys[i] o):=by
 obtain⟨s,H,r,S,N,T,hs,rfl,t,rfl,rfl,⟨u,m,g,v⟩,U⟩:=G.head (by rw[dW];omega);have t:s=ba.keys[i]'I:=by rw[t,qs];rfl
 have J:(ba.kids.drop (i+1))[0]'(by rw[dW];omega)=ba.kids[i+1]'f:=by rw[qs]
 rw[J]at u g;obtain⟨o,K,j,rfl,_,w⟩:=u.ke;rw[j]at g;have v:2<=o.keys.length:=by rw[Option.some.inj g];exact v
 clear g;subst t;have y:=(show fy P (h+1) (some (ba.keys[i]'I)) H (ba.kids[i+1]'f) (ba.kids[i+1]'f::K) N from⟨u,o,j,v⟩).in;obtain⟨x,hx⟩:=sC _ y.1;have z:=E _ (cg (l:=ba.keys) (n:=i) I);have L:=dj.merge q w z (λc hc=>jU (lD (B.1 c hc) (B.2 _ rfl))) (λc hc=>jU (lD ((y.2.2 x hx).1 _ rfl) ((y.2.2 x hx).2 c hc)));have C:=xn q w z (U4 (F _ _ j));have M:=xm (a:=d) (b:=o) (s:=ba.keys[i]'I);refine⟨o,f,I,j,by rw[w.leaf,q.leaf],z,L.Ap C.1 C.2 λ_ e=>?_⟩;rw[e,ic]at M;omega
inductive Ctx (P:Nat->an aA) (k:Key) (top:Nat):Nat->an Key->an Key->O (Nat×aA×Nat)->O Nat->O aY->O aY->Prop
 |top:Ctx P k top top none none [] [] [] []
 |step {eX:Nat}{lo hi a b:an Key}{st:O (Nat×aA×Nat)}{dZ:O Nat}{A B:O aY}{no:Nat}{n:aA}{bm bt:O Nat}{bC b8:O aY} (h:Ctx P k top (eX+2) lo hi st dZ A B) (c:P no=some n) (d:n.leaf=false) (e:∀k∈n.keys,cP k) (f:∀x∈n.kids,x<1600)
  (hlen:n.kids.length=n.keys.length+1) (g:n.keys≠ []) (i:st≠ []->2<=n.keys.length) (j:fF a b k) (l:fH (fy P (eX+1)) lo a (n.keys.take (fa n.keys k)) (n.kids.take (fa n.keys k)) bm bC)
  (m:gU (fy P (eX+1)) hi b (n.keys.drop (fa n.keys k)) (n.kids.drop (fa n.keys k+1)) bt b8):Ctx P k top (eX+1) a b (st++ [(no,n,fa n.keys k)]) (no::(bm++(bt++dZ))) (A++bC) (b8++B)
theorem Ctx.eX{eX:Nat}{st:O (Nat×aA×Nat)}{A B:O aY}(h:Ctx P k top eX lo hi st dZ A B):eX+st.length=top:=by
 induction h with
 |top=>rfl
 |step h _ _ _ _ _ _ _ _ _ _ a=>rw[b6,ia];omega
theorem Ctx.agree{Q:Nat->an aA}{eX:Nat}{st:O (Nat×aA×Nat)}{A B:O aY}(h:Ctx P k top eX lo hi st dZ A B)(a:∀x∈dZ,P x=Q x):Ctx Q k top eX lo hi st dZ A B:=by
 induction h with
 |top=>exact .top
 | @step eX lo hi p q st dZ A B no n bm bt bC b8 h c d e f hlen g i j l m o=>
  refine .step (o λx hx=>a x (by simp[hx])) (by rw[←a no U9];exact c) d e f hlen g i j (l.mI λ_ _ _ _ _ hs b=>b.agree λx hx=>a x ?_) (m.mI λ_ _ _ _ _ hs b=>b.agree λx hx=>a x ?_)
  .have:=hs x hx;simp[this]
  .have:=hs x hx;simp[this]
theorem Ctx.down:∀ {eX:Nat}{lo hi:an Key}{st:O (Nat×aA×Nat)}{dZ:O Nat}{A B M bH:O aY}{no:Nat}{p:O Nat},Ctx P k top (eX+1) lo hi st dZ A B->eK P (eX+1) lo hi no p M->(st≠ []->∃m,P no=some m/\2<=m.keys.length)->fF lo hi k->bH=A++(M++B)->(∀u,Loc k u->u bH=A++(u M++B))->
 ∃ (rest a:O (Nat×aA×Nat)) (b:Nat) (bL:aA) (c d:an Key) (h:O Nat) (e f:O aY),oP P k (eX+1) no rest/\st++rest=a++ [(b,bL,0)]/\Ctx P k top 1 c d a h e f/\P b=some bL/\hJ bL/\bL.within c d/\bL.keys≠ []/\(a≠ []->2<=bL.keys.length)/\fF c d k/\
  (p++dZ).Perm (b::h)/\bH=e++(bL.fx++f)/\∀u,Loc k u->u bH=e++(u bL.fx++f)
 |0,lo,hi,st,dZ,A,B,M,bH,no,p,hc,j,l,o,r,hu=>by
  obtain⟨n,h1,i,y,z,rfl,rfl⟩:=j
  refine⟨[(no,n,0)],st,no,n,lo,hi,dZ,A,B,⟨n,[],h1,by rw[i.leaf];rfl,rfl,rfl⟩,rfl,hc,h1,i,y,z,λhs=>?_,o,List.Perm.refl _,r,hu⟩
  obtain⟨m,g,s⟩:=l hs
  rw[h1]at g;cases g
  exact s
 |eX+1,lo,hi,st,dZ,A,B,M,bH,no,p,hc,j,l,o,r,hu=>by
  obtain⟨n,X,h1,rfl,i,t⟩:=j.ke
  obtain⟨Y,Z,bm,q,bt,bC,iK,b8,C,rfl,rfl,v,w,D,hlen,E,F⟩:=t.at o
  obtain⟨ao,aa,G,H,_⟩:=t
  have J:=Ctx.step hc h1 ao G H hlen i (λhs=>by
   obtain⟨m,g,s⟩:=l hs
   rw[h1]at g;cases g
   exact s) w E F
  obtain⟨rest,a,b,bL,c,d,h,e,f,r1,bA,aJ,c0,aW,K,L,N,Q,R,S,T⟩:=Ctx.down (bH:=bH) J v.1 (λ_=>v.2) w (by rw[r];simp only[cU]) (λu x=>by rw[hu u x,D u x];simp only[cU])
  refine⟨(no,n,fa n.keys k)::rest,a,b,bL,c,d,h,e,f,⟨n,rest,h1,by rw[ao];simp,by rw[if_neg I],?_⟩,?_,aJ,c0,aW,K,L,N,Q,?_,S,T⟩
  .rw[fi,dB C]
   exact r1
  .rw[←bA];simp
  .refine List.Perm.trans ?_ R
   have U:(no::(bm++(q++bt))++dZ)=no::(bm++(q++(bt++dZ))):=by simp[cU]
   rw[U]
   have V:(q++no::(bm++(bt++dZ))).Perm (no::(q++(bm++(bt++dZ)))):=nN
   refine List.Perm.trans ?_ V.symm
   refine List.Perm.cons _ ?_
   have W:=(nP (l₁:=bm) (l₂:=q)).append_right (bt++dZ)
   simpa[cU] using W
end
theorem Aq{α:Type}(a b c:O α):(a++(b++c)).Perm (a++c++b):=by
 rw[cU];exact(nP (l₁:=b) (l₂:=c)).append_left a
theorem Ctx.up{eX:Nat}{st S:O (Nat×aA×Nat)}{A B:O aY}{u:dG}{a:aA}(hc:Ctx P k top eX lo hi st dZ A B)(ab:st=S++ [u.st])(c:dj P eX a lo hi q M)(H:∀x n,P x=some n->bP n<=232)(hs:bP a<=282):
 ∃ (d f:an Key) (J:O Nat) (g j:O aY) (ps:O Nat),Ctx P k top (eX+1) d f S J g j/\dZ=u.no::(ps++J)/\P u.no=some u.n/\u.c4<u.n.kids.length/\u.n.kids.length=u.n.keys.length+1/\u.n.keys≠ []/\(S≠ []->2<=u.n.keys.length)/\
  (80<=bP a->∀ (Q:Nat->an aA) (ks:O Key) (kids:O Nat),nt Q a ks kids->(∀x∈ps++q,P x=Q x)->(∀x∈kids,x<1600)->∃ (l:O Nat) (m:O aY),dj Q (eX+1) (gn u.n u.c4 (u.c4+1) ks kids) d f l m/\g++(m++j)=A++(M++B)/\l.Perm (kids++(ps++q))/\
    bP (gn u.n u.c4 (u.c4+1) ks kids)<=bP u.n+27/\u.n.keys.length<=(gn u.n u.c4 (u.c4+1) ks kids).keys.length+1)/\
  (bP a<80->∃ (o:aA) (no:Nat) (rest:O Nat),u.n.kids[kG u]? =some no/\P no=some o/\o.leaf=a.leaf/\u.c4-1<u.n.keys.length/\cP (u.n.keys.getD (u.c4-1) [])/\mQ (mS u a o)/\ps.Perm (no::rest)/\
    ∀ (Q:Nat->an aA) (ks:O Key) (kids:O Nat),nt Q (mS u a o) ks kids->(∀x∈rest++q,P x=Q x)->(∀x∈kids,x<1600)->∃ (l:O Nat) (m:O aY),dj Q (eX+1) (gn u.n (u.c4-1) (u.c4-1+2) ks kids) d f l m/\g++(m++j)=A++(M++B)/\l.Perm (kids++(rest++q))/\
     bP (gn u.n (u.c4-1) (u.c4-1+2) ks kids)<=bP u.n+27/\u.n.keys.length<=(gn u.n (u.c4-1) (u.c4-1+2) ks kids).keys.length+1):=by
 cases hc with
 |top=>
  have:=congrArg List.length ab;simp at this
 | @step eX d f _ _ aw J g j ac ba bm bt bC b8 h ai T p U hlen ad aj K r s=>
  obtain⟨rfl,ak⟩:=List.append_inj' ab rfl;have V:(ac,ba,fa ba.keys k)=u.st:=by simpa using ak
  have al:ac=u.no:=congrArg Prod.fst V;have am:ba=u.n:=congrArg (λx=>x.2.1) V;have ae:fa ba.keys k=u.c4:=congrArg (λx=>x.2.2) V;subst al am;rw[ae]at r s;have ap:=zj u.n.keys k;rw[ae]at ap;refine⟨d,f,J,g,j,bm++bt,h,by rw[cU],ai,I,hlen,ad,aj,λb Q ks kids hf t v=>?_,λb=>?_⟩
  .obtain⟨w,ao,y,z,L⟩:=HI T p U r s c b hs hf (λx hx=>t x (by
    simp only[cE]at hx⊢;obtain hx|hx|hx:=hx
    .exact .inl (.inl hx)
    .exact .inr hx
    .exact .inl (.inr hx))) v
   refine⟨w,_,ao,by simp only[cU],y.trans (List.Perm.append_left kids ?_),z,I⟩;exact Aq bm q bt
  .by_cases h0:u.c4=0
   .obtain⟨o,N,R,C,W,X,Y⟩:=JY p hlen H (i:=u.c4) (by
     have:u.n.keys.length≠0:=λe=>ad (uL e);omega) K s c b
    obtain⟨aq,af,ar,au,D,Z,_,aa⟩:=HK T p U hlen H N K r s c b;rw[C]at D;obtain rfl:=Option.some.inj D;have E:kG u=u.c4+1:=by unfold kG;rw[if_pos h0,h0]
    have ag:u.c4-1=u.c4:=I
    have F:u.n.keys.getD (u.c4-1) []=u.n.keys[u.c4]:=by rw[ag,fi,dB R];rfl
    have G:mS u a o=dS a u.n.keys[u.c4] o:=by unfold mS;rw[if_pos (by rw[E];omega),F]
    refine⟨o,u.n.kids[u.c4+1],bm++af,by rw[E];exact dB N,C,W,I,by rw[F];exact X,by rw[G];exact Y,?_,λQ ks kids hf t v=>?_⟩
    .exact(List.Perm.append_left bm Z).trans nN
    .rw[G]at hf
     obtain⟨w,ao,y,z,L⟩:=aa Q ks kids hf (λx hx=>t x (by
      simp only[cE]at hx⊢;obtain hx|hx|hx:=hx
      .exact .inl (.inl hx)
      .exact .inr hx
      .exact .inl (.inr hx))) v
     rw[ag];exact⟨w,_,ao,by simp only[cU],y.trans (List.Perm.append_left kids (Aq bm q af)),z,L⟩
   .obtain⟨o,N,R,C,W,X,Y⟩:=JX p hlen H (i:=u.c4) I I K r c b
    obtain⟨aq,ah,ar,au,D,Z,_,aa⟩:=HJ T p U hlen H I I K r s c b;rw[C]at D;obtain rfl:=Option.some.inj D;have E:kG u=u.c4-1:=by unfold kG;rw[if_neg h0]
    have F:u.n.keys.getD (u.c4-1) []=u.n.keys[u.c4-1]:=by rw[fi,dB R];rfl
    have G:mS u a o=dS o u.n.keys[u.c4-1] a:=by unfold mS;rw[if_neg (by rw[E];omega),F]
    have av:u.c4-1+2=u.c4+1:=I
    refine⟨o,u.n.kids[u.c4-1],ah++bt,by rw[E];exact dB N,C,W,R,by rw[F];exact X,by rw[G];exact Y,?_,λQ ks kids hf t v=>?_⟩
    .exact(Z.append_right bt)
    .rw[G]at hf
     obtain⟨w,ao,y,z,L⟩:=aa Q ks kids hf (λx hx=>t x (by
      simp only[cE]at hx⊢;obtain hx|hx|hx:=hx
      .exact .inl (.inl hx)
      .exact .inr hx
      .exact .inl (.inr hx))) v
     rw[av];exact⟨w,_,ao,by simp only[cU],y.trans (List.Perm.append_left kids (Aq ah q bt)),z,L⟩
theorem dt.JZ{T:aN}{c:dJ}(h:dt w T c)(b:∀q,E q->T.E q):dt w (T.cJ E T.G) c:=
 h.of (aq:=T.cJ E T.G) (W:=λ_=>False) (h.t.grow (W:=λ_=>False) (aa.refl _ _) (λ_ h=>h.elim) (λq a=>.inl (b q a)) (λq a=>.inr (.inl a)) λq a=>(h.t.dF q (b q a)).2.2) (aa.refl _ _) (λ_ _ h=>h) rfl λ_ h=>h
theorem du.local{T aq:aN}{c c':dJ}{ck:U1}{k:Nat}(h:du (T.cJ ck T.G) aq c c' m l w1 w' k)(hx:Ext w w1)(b:∀q,ck q->T.E q\/w<=q)(d:∀q,T.E q->ck q):du T (aq.cJ T.E aq.G) c c' m l w w' k:=
 ⟨h.to.local hx b (λq a=>.inl a) (λq a=>.inl (by rw[h.E];exact d q a)) λq a=>a,rfl,h.G,h.root,h.aD,h.cb,h.made,h.left,h.bu,h.kF,h.f,h.eQ,h.room⟩
theorem dt.Ej{T:aN}{c:dJ}{W:U1}(h:dt w T c)(hc:aa W w w')(cz:∀q,W q->T.E q\/w<=q):dt w' T c:=by
 have b:aa (λq=>T.E q) w w':=cn (W:=λq=>T.E q) (aa.refl _ _) hc λq a d=>(cz q d).resolve_right I;exact h.of (h.t.grow (E:=T.E) (G:=T.G) b (λq a _=>.inl a) (λq a=>.inl a) (λq a=>.inr (.inl a)) λq a=>(h.t.dF q a).2.2) b (λq hg he=>(h.t.dF q he).2.2 hg) rfl λ_ h=>h
theorem k6.to{T aq:aN}{k:Nat}{s:U}{l:O dG}(h:k6 (λq=>¬T.M q) w s l)(ht:b_ T aq w w' k):k6 (λq=>¬aq.M q) w' s l:=by
 refine⟨h.own.ab ht.ab λq a c=>h.p8 q a (aN.hL c),λq a d=>?_,λx hx=>?_⟩
 .rcases ht.dr q d with h1|h1
  .exact h.p8 q a h1
  .have:=aL.lt h.own q a;omega
 .exact(ht.bu (lo:=0) ((h.bu x hx).bh λq _ b=>⟨cw _,b⟩)).bh λq _ b=>b.2
theorem k6.at{s:U}{l:O dG}(h:k6 B w s l)(hi:i<l.length):∃A:ax,s.a=some A/\s.len=l.length/\B A.block/\w.cell? (A.add (i*6))=some (.int .i64 ((l[i]).no:Nat))/\mR B w (A.add (i*6)) l[i]:=by
 have f:=h.own.1;rw[gL _ (oO l)]at f;have g:s.len=l.length:=I
 obtain⟨h1,o⟩|⟨b,c,e,k,p,m⟩:=h.own.2.2.2
 .have:=h.own.2.1
  omega
 .have d:∀j,j<6->w.cell? ⟨b,i*6+j,none⟩=((dG.c l[i]))[j]? :=λj n=>by
   rw[bp.cell k,←p0 (oO l) hi n,←m];rw[su,if_pos I,Array.getElem?_toList]
  refine⟨b,e,g,h.p8 b ⟨_,e,rfl⟩,?_,?_⟩
  .rw[aw,cT]
   exact d 0 (by decide)
  .rw[aw,cT]
   refine⟨?_,?_,?_,?_,?_,h.bu _ (cg hi),h.p8 b ⟨_,e,rfl⟩,aL.lt h.own b ⟨_,e,rfl⟩⟩
   .rw[aw];exact d 1 (by decide)
   .rw[aw,aw];exact d 2 (by decide)
   .rw[aw,aw];exact d 3 (by decide)
   .rw[aw,aw];exact d 4 (by decide)
   .rw[aw];exact d 5 (by decide)
theorem Ctx.Ek{eX:Nat}{A B:O aY}(h:Ctx P k top eX lo hi [] dZ A B):eX=top/\lo=none/\hi=none/\dZ=[]/\A=[]/\B=[]:=by
 generalize a:([]:O (Nat×aA×Nat))=st at h
 cases h with
 |top=>exact⟨rfl,rfl,rfl,rfl,rfl,rfl⟩
 |step h=>
  have:=congrArg List.length a;simp at this
def nG(T:aN)(c:dJ)(bc:O Nat)(d_:O aY)(w:J)(v:Y)(w':J):Prop:=
 ∃ (aq:aN) (c':dJ) (m l:O Nat),dt w' aq c'/\du T aq c c' m l w w' 60/\
  ((v=.tuple #[U8,U8,U8]/\d_=[]/\l.Perm (m++bc)/\m.length<=2*T.aD+3)\/
   (∃ (root h:Nat) (pages:O Nat),v=.tuple #[root,h,U8]/\eK aq.P h none none root pages d_/\(pages++l).Perm (m++bc)/\1<=h/\h<=T.aD+1/\m.length<=2*T.aD+3)\/
   (∃a b:Int,v=.tuple #[a,b,(3:Int)]/\¬T.C.D.calm 60))
theorem nG.local{T:aN}{c:dJ}{ck:U1}(h:nG (T.cJ ck T.G) c bc d_ w1 v w')(hx:Ext w w1)(d:∀q,ck q->T.E q\/w<=q)(a:∀q,T.E q->ck q):nG T c bc d_ w v w':=by
 obtain⟨aq,c',m,l,h1,b,e⟩:=h;exact⟨aq.cJ T.E aq.G,c',m,l,h1.JZ λq f=>by rw[b.E];exact a q f,b.local hx d a,e⟩
structure J0(b7:aN)(c:dJ)(b:J)(a:O dG)(k:Key)(bc:O Nat)(d_:O aY)(ws:U)(iw:Nat)(i:Nat)(w':J)(aq:aN)(c':dJ)(m l:O Nat)(n:aA)(K V D:U)(lo hi:an Key)(dZ:O Nat)(A B:O aY)(q:O Nat)(M:O aY)(r:O Nat):Prop where
 pr:i<a.length
 Ar:dt w' aq c'
 to:du b7 aq c c' m l b w' (4*(a.length-1-i))
 p9:m.length<=2*(a.length-1-i)
 El:l.length<=2*(a.length-1-i)
 iw:Var w' iw (dp n K V D) 169
 bu:b2 (λq=>¬aq.M q) w' n K V D
 jT:k6 (λq=>¬aq.M q) w' ws a
 ctx:Ctx aq.P k a.length (a.length-i) lo hi ((a.take i).map dG.st) dZ A B
 ke:dj aq.P (a.length-i) n lo hi q M
 eq:A++(M++B)=d_
 pp:bc.Perm ((a[i]).no::(r++dZ))
 acc:(q++l).Perm (m++r)
 sz:bP n<=282
 J1:1<=i->n.keys≠ []
 Em:∀x∈q++dZ,aq.f x=true
theorem cm.p_{T:aN}(h:cm w T):∀x n,T.P x=some n->bP n<=232:=λx n hx=>(h.eM x n hx).2.is.2.2
theorem iQ.cs{T:aN}{c:dJ}{s:U}{e:Int}(h:iQ T c n w (.tuple #[s,e]) w'):
 ∃ (aq:aN) (c':dJ) (m:O Nat),dt w' aq c'/\du T aq c c' m [] w w' 2/\m.length<=2/\((e=0/\∃ks,nt aq.P n ks m/\l_ (λq=>¬aq.M q) w' s ks m)\/(e=3/\¬T.C.D.calm 2)):=by
 obtain⟨aq,c',m,s2,h1,d,f,g⟩:=h;refine⟨aq,c',m,h1,d,f,?_⟩;obtain⟨ks,a,b,i⟩|⟨a,b⟩:=g
 .simp at a
  obtain⟨⟨a1,a2,a3⟩,rfl⟩:=a;obtain rfl:s=s2:=by cases s;cases s2;simp_all
  exact .inl ⟨rfl,ks,b,i⟩
 .simp at a
  exact .inr ⟨a.2,b⟩
theorem J2{Q c:Nat->an aA}{t:Nat}{a:Key}{x y:Nat}(d:dj P (t+1) n none none q M)(hs:bP n<=282)(hf:nt Q n [a] [x,y])(j:∀z∈q,P z=Q z)(k:c no=some ⟨false,[a],[],[x,y]⟩)(l:∀z∈x::y::q,Q z=c z)(hx:x<1600)(o:y<1600):
 cP a/\∃pages,eK c (t+2) none none no pages M/\pages.Perm (no::x::y::q):=by
 have p:232<bP n:=by
  rcases hf with ⟨_,z,e,_⟩|⟨h,_⟩
  .cases e
  .exact h
 obtain⟨f,ao,g,i,_⟩:=d.fits (d.zo I) (λ_=>I) (λ_=>I) hf j;have m:dj Q (t+2) ⟨false,[a],[],[x,y]⟩ none none f M:=⟨rfl,rfl,i,λz b=>by
  simp only[cN,er,ez]at b;rcases b with rfl|rfl<;>assumption,ao⟩
 refine⟨i a U9,no::f,m.lay U9 k λz b=>l z ?_,List.Perm.cons no g⟩;have:=g.mem_iff.1 b;simpa using this
theorem oR{b:O Nat}:a.Perm b↔∀x,a.count x=b.count x:=List.perm_iff_count
theorem As(h:(q++l).Perm (m++r)):(q++(l++ [no])).Perm (m++(no::r)):=by
 rw[oR]at h⊢;intro x;have:=h x;simp only[o6,qw,qx]at this⊢;omega
theorem J3{ps ms ls rest:O Nat}(h:(q++l).Perm (m++r))(b:a.Perm (ms++(rest++q)))(c:ps.Perm (ls++rest)):(a++(l++ls)).Perm ((m++ms)++(ps++r)):=by
 rw[oR]at h b c⊢;intro x;have:=h x;have:=b x;have:=c x;simp only[o6,qw,qx]at*;omega
theorem J4{ps:O Nat}{u:Nat}(h:bc.Perm (r++(u::(ps++a)))):bc.Perm (u::((ps++r)++a)):=by
 rw[oR]at h⊢;intro x;have:=h x;simp only[o6,qw,qx]at*;omega
theorem J5{T:aN}{c:dJ}{d:O dG}{A B:O aY}{ws:U}{K V D:U}(h:dt w T c)(b0:k6 (λq=>¬T.M q) w ws d)(bF:b2 (λq=>¬T.M q) w n K V D)(eJ:0<d.length)(hlen:d.length=T.aD)(eL:T.aD<12)
 (eN:T.C.D.aZ<=900000000) (eO:2*T.aD+3<=cy T) (eP:c.made.length<=100) (eR:c.left.length<=100) (cG:Ctx T.P k d.length 1 lo hi ((d.take (d.length-1)).map dG.st) dZ A B) (L:dj T.P 1 n lo hi [] M) (az:A++(M++B)=d_)
 (N:bc.Perm ((d[d.length-1]'I).no::dZ)) (bH:bP n<=282) (bb:2<=d.length->n.keys≠ []) (Q:∀x∈dZ,T.f x=true):
 aI aj 187 #[.pointer (some ⟨c.cb,0,none⟩),.slice ws.a ws.len ws.cap,dg n K V D] w (nG T c bc d_ w):=by
 refine okF (ad.pE (some ⟨c.cb,0,none⟩) ws n.leaf K V D) ay.pE func187 ?_;(delta ad.pE aW ae av aJ z3 bf cW ai af b1 aE dC aQ aO gI r1 aV ap st qW yU gH dY;dsimp only);refine bg (vs:=dp n K V D) rfl λw1 cH cI eS=>?_;obtain⟨bM,aR,a7,bx⟩:=bS cH;refine⟨_,bM,K,aR,V,a7,D,bx,bg (vs:=[.bool false,.slice none 0 0,.slice none 0 0,.slice none 0 0]) rfl λeT b3 cK eV=>⟨b3.cF rfl gi,rfl,c6 b3 (us:=dp n K V D) rfl rfl λbI bK cL eW=>?_⟩⟩;have b5:Ext w bI:=cI.trans (Ext.bQ cK cL (a_ _));obtain⟨iw,cM⟩:=U6 w1.heap.size;rw[←cM]at bK⊢;obtain⟨ck,bN⟩:=U6 (λq=>T.E q\/q=iw);have cO:∀q,T.E q->ck q:=λq F=>by rw[bN];exact .inl F
 have bd:∀q,ck q->T.E q\/q=iw:=λq F=>by rw[bN]at F;exact F
 have cR:ck iw:=by rw[bN];exact .inr rfl
 have eX:=bK.lt;have cX:dt bI (T.cJ ck T.G) c:=h.of (W:=λ_=>False) (h.t.grow (W:=λ_=>False) b5 (λ_ h=>h.elim) (λq F=>(bd q F).imp id λe=>.inr ⟨I,I⟩) (λq F=>.inr (.inl F)) λq F hg=>by
  rcases bd q F with h1|h1
  .exact(h.t.dF q h1).2.2 hg
  .have:=h.t.lt (q:=q) (.inr (.inr (.inr (.inr hg))));omega) b5 (λ_ _ h=>h) rfl λ_ h=>h
 have b8:b_ T (T.cJ ck T.G) w bI 0:=(b_.refl T w).step (W:=λ_=>False) b5 (λ_ h=>h.elim) (λq F=>(bd q F).imp id λe=>.inr I) λq F=>.inl F;have conv:∀ (v:Y) (w':J),nG (T.cJ ck T.G) c bc d_ w1 v w'->nG T c bc d_ w v w':=λv w' hu=>hu.local cI (λq F=>(bd q F).imp id λe=>I) cO;obtain⟨b7,aB⟩:=U6 (T.cJ ck T.G);have b9:=b0.to b8;have ca:b2 (λq=>¬(T.cJ ck T.G).M q) bI n K V D:=(b8.bu (lo:=0) (bF.bh λq _ R=>⟨cw _,R⟩)).bh λq _ R=>R.2;have cY:b7.P=T.P:=by rw[aB];rfl
 have cd:b7.f=T.f:=by rw[aB];rfl
 have dV:b7.E iw:=by rw[aB];exact cR
 have eY:cy b7=cy T:=by rw[aB];rfl
 have dW:b7.C=T.C:=by rw[aB];rfl
 have dX:b7.aD=T.aD:=by rw[aB];rfl
 rw[←aB]at cX b9 ca conv;clear aB b8 bN cO bd cR;have eZ:iw=w1.heap.size:=cM;have e0:ws.len=d.length:=by
  have:=b0.own.1;rw[gL _ (oO d)]at this;omega
 refine⟨λn10 w'=>∃ (i:Nat) (aq:aN) (c':dJ) (m l:O Nat) (n:aA) (K V D:U) (lo hi:an Key) (dZ:O Nat) (A B:O aY) (q:O Nat) (M:O aY) (r:O Nat),n10=(i:Nat)/\J0 b7 c w1 d k bc d_ ws iw i w' aq c' m l n K V D lo hi dZ A B q M r,λn10 _=>(n10+1).toNat,
  ⟨d.length-1,b7,c,[],[],n,K,V,D,lo,hi,dZ,A,B,[],M,[],?_,?_⟩,?_⟩
 .rw[bl I I];omega
 .have e:d.length-(d.length-1)=1:=I
  refine⟨I,cX,(du.ext b7 c (Ext.bQ cK cL (a_ _))).mono I,cw _,cw _,bK,ca,b9,by rw[e,cY];exact cG,by rw[e,cY];exact L,az,by simpa using N,List.Perm.refl _,bH,λh1=>bb I,λx hx=>by rw[cd];exact Q x (by simpa using hx)⟩
 clear cG L az N bH bb Q bF ca bK b0 b9 cH bM aR a7 bx b3;rintro _ ce ⟨i,aq,c',m,l,n,K,V,D,lo,hi,dZ,A,B,q,M,r,rfl,g⟩;have cZ:=g.pr;have bO:=g.to.cb;refine⟨λ_=>aH ?_,λR=>?_⟩
 rotate_left
 .have:¬((i:Nat):Int)>=0:=bT R
  omega
 have aU:Ext ce ce.drew:=cc _;obtain⟨cf,d0⟩:=U6 ce.drew;rw[←d0]at aU⊢;have be:=g.Ar.ext aU;have c0:=be.cells.2.2;rw[bO]at c0;have c1:k6 (λq=>¬aq.M q) cf ws d:=g.jT.to (b_.ext aq aU);obtain⟨bi,cg,e1,d6,d7,_⟩:=c1.at cZ;have e2:c'.left.length<=200:=by rw[g.to.left,b6];have:=g.El;omega
 have d8:c'.made.length<=200:=by rw[g.to.made,b6];have:=g.p9;omega
 obtain⟨aC,c2,ao,al,aX,aL,aM⟩:=D9 be (d[i]).no I;rw[bO]at aX aL aM;have d9:∀n,(bi.add n).block=bi.block:=λn=>by unfold Addr.add;split<;>rfl
 have ea:∀q,ar c'.gZ q->aq.M q:=λq F=>.inr (.inr (.inr (.inr (be.lK q F).1)));refine⟨ar c'.gZ,_,rfl,λF=>(be.lK _ F).2 (by rw[bO,aw]),c'.gZ,c0,bi,cg,⟨I,I⟩,λF=>d6 (ea _ ((d9 _)▸F)),_,by rw[cS];exact d7,aH ⟨aa.da (dc _ _),aC,c2,ao,al,_,rfl,aX,aL,aH ?_⟩⟩;rw[aw,cT];obtain⟨X,c5⟩:=U6 (c2.setCell ⟨c.cb,2,none⟩ (.slice aC.a aC.len aC.cap));rw[←c5];obtain⟨ah,bj⟩:=aM X c5;have ch:=du.leave (c:=c') (c':=⟨c.cb,c'.ma,aC,c'.made,c'.left++ [(d[i]).no]⟩) (no:=(d[i]).no) bj rfl (λq F=>.inl F) bO.symm rfl rfl;have ac:=(g.to.trans (du.ext aq c' aU)).trans ch;simp only[fO,lO]at ac;have c7:aq.E iw:=by rw[g.to.E];exact dV
 have ci:=(g.iw.ext aU).ab bj.ab (be.t.kg c7);have cj:=c1.to bj;have bk:b2 (λq=>¬(aq.cJ aq.E λq=>aq.G q\/ar aC q).M q) X n K V D:=(bj.bu (lo:=0) ((g.bu.ext aU).bh λq _ R=>⟨cw _,R⟩)).bh λq _ R=>R.2;obtain⟨cA,a0⟩:=U6 (aq.cJ aq.E λq=>aq.G q\/ar aC q);have bm:cA.P=aq.P:=by rw[a0];rfl
 have bt:cA.f=aq.f:=by rw[a0];rfl
 have e3:cy cA=cy aq:=by rw[a0];rfl
 have c8:cA.E iw:=by rw[a0];exact c7
 have c9:cA.aD=T.aD:=by rw[a0];show aq.aD=_;rw[g.to.aD,dX]
 rw[←a0]at ah bj ch ac cj bk;obtain⟨a7,bR⟩:=U6 (⟨c.cb,c'.ma,aC,c'.made,c'.left++ [(d[i]).no]⟩:dJ);rw[←bR]at ah ch ac;have gA:a7.cb=c.cb:=by rw[bR]
 have am:a7.made.length<=200:=by rw[bR];exact d8
 have e4:a7.left.length<=201:=by rw[bR,b6,ia];omega
 obtain⟨ba,bL,bz,eb⟩:=bS ci;have c_:=bo.len bk.keys;have db:∀ (w':J) (v:Y),Ext X w'->(∀ {dD bx bn},dD=cA->bx=a7->bn=l++ [(d[i]).no]->((v=.tuple #[.int .i64 0,.int .i64 0,.int .i64 0]/\d_=[]/\bn.Perm (m++bc)/\m.length<=2*b7.aD+3)\/
  (∃ (root h:Nat) (pages:O Nat),v=.tuple #[.int .i64 (root:Nat),.int .i64 (h:Nat),.int .i64 0]/\eK (aN.P dD) h none none root pages d_/\(pages++bn).Perm (m++bc)/\1<=h/\h<=b7.aD+1/\m.length<=2*b7.aD+3)\/
  (∃a b:Int,v=.tuple #[.int .i64 a,.int .i64 b,.int .i64 3]/\¬b7.C.D.calm 60)))->nG T c bc d_ w v w':=by
  intro w' v hx hd;refine conv v w' ⟨cA,a7,m,l++ [(d[i]).no],?_,?_,hd (bx:=a7) rfl rfl rfl⟩
  .exact ah.ext hx
  .have:=(ac.trans (du.ext cA _ hx)).mono (j:=60) I
   simp only[fO]at this;exact this
 refine cx (λb w'=>(b=true↔(i=0/\n.keys=[]))/\X=w') (λZ bp=>⟨λh0=>⟨K,bL,bp _ _ ⟨?_,rfl⟩⟩,λh0=>bp _ _ ⟨?_,rfl⟩⟩) ?_
 .have h0:i=0:=by
   have:((i:Nat):Int)=0:=by simpa using h0
   omega
  rw[gP];constructor
  .intro h1
   exact⟨h0,uL I⟩
  .rintro⟨_,h1⟩
   rw[h1]at c_;simp at c_;omega
 .have h0:i≠0:=by
   have:¬((i:Nat):Int)=0:=by simpa using h0
   omega
  exact⟨nofun,λh=>absurd h.1 h0⟩
 rintro e5 _ ⟨dd,rfl⟩;refine⟨λR=>?_,λR=>?_⟩
 .obtain⟨h0,df⟩:=dd.1 R
  subst h0;have bq:Ext X X.drew:=cc _;obtain⟨ec,ed,ee,ef⟩:=bS (ci.ext bq);have dh:=(ah.ext bq).cells.1;rw[gA]at dh;have eg:=(ah.ext bq).t.cells.2.2.2.2;obtain⟨t1,t2,t3,t4,t5,t6⟩:=Ctx.Ek (by simpa using g.ctx);have L:=g.ke;have N:=g.pp;have az:=g.eq;have au:=As (no:=(d[0]).no) g.acc;subst t2 t3 t4 t5 t6;rw[lh,fO]at az;rw[fO]at N;subst az;have di:n.leaf=false->∃x,n.kids=[x]/\1<=cA.aD/\eK aq.P (cA.aD-1) none none x q M/\1<=cA.aD-1:=by
   intro aP;have e:d.length-0=cA.aD:=by rw[c9];omega
   rw[e]at L
   cases ht:cA.aD with
   |zero=>omega
   |succ t=>
    rw[ht]at L
    cases t with
    |zero=>
     have:=L.1.leaf;rw[aP]at this;cases this
    |succ t=>
     obtain⟨v1,cl,br,bs,bU⟩:=L;rw[df]at bU;generalize e6:n.kids=e7 at bU
     cases bU with
     |one h=>exact⟨_,rfl,I,h.1,I⟩
  refine aH ⟨λ_=>False,id,_,ec,K,ed,V,ee,D,ef,_,rfl,id,_,dh,_,rfl,id,_,eg,(rr (bk.ext bq) cA.aD I λaP=>by obtain⟨x,a1,a2,_⟩:=di aP;exact⟨x,a1,a2⟩).use ?_⟩;rintro v w' ⟨rfl,cm⟩;have dk:=bq.trans cm
  cases aP:n.leaf with
  |true=>
   rw[if_pos rfl];have dl:=L.leaf;rw[aP]at dl;have cn:d.length-0=1:=bB dl.symm;rw[cn]at L;obtain⟨v1,cl,br,bs⟩:=L;subst br;refine⟨_,_,_,rfl,cm,db w' _ dk λ{dD bx bn} a1 a2 a3=>.inl ⟨rfl,?_,?_,U4 g.p9⟩⟩
   .rw[bs];unfold aA.fx;rw[df];rfl
   .subst a3
    rw[oR]at au N⊢;intro x;have:=au x;have:=N x;simp only[o6,qw,qx]at*;omega
  |false=>
   rw[if_neg U9];obtain⟨x,a1,a2,a3,a4⟩:=di aP;refine⟨_,_,_,rfl,cm,db w' _ dk λ{dD bx bn} c3 cu a5=>.inr (.inl ⟨_,_,q,rfl,?_,?_,a4,?_,U4 g.p9⟩)⟩
   .subst c3
    have eh:n.kids.getD 0 0=x:=by rw[a1];rfl
    rw[eh,bm];exact a3
   .subst a5
    rw[oR]at au N⊢;intro x;have:=au x;have:=N x;simp only[o6,qw,qx]at*;omega
   .omega
 .have bb:n.keys≠ []:=λe=>by
   rcases o4 i with h0|h0
   .have:=dd.2 ⟨h0,e⟩
    rw[R]at this;cases this
   .exact g.J1 h0 e
  have e8:cA.C.D.aZ<=900000050:=by
   have:=ac.to.aZ;rw[dW]at this;omega
  have dm:2<=cy cA:=by
   have:=ac.room;have:=g.p9;omega
  have dn:∀ms:O Nat,ms.length<=3->(m++ms).length<=2*b7.aD+3:=λms h=>by rw[b6];have:=g.p9;omega
  have dq:∀j,j<=10->¬cA.C.D.calm j->¬b7.C.D.calm 60:=λj e9 bF hc=>bF (ac.to.calm j (gM hc I));have co:mQ n:=g.ke.Ap (λ_=>U4 g.sz) (λ_=>U4 g.sz) λ_=>bb;refine cx (λp w'=>p=(if i=0 then none else some (bi.add ((i-1)*6)))/\X=w') (λZ bp=>⟨λh0=>⟨bi,cg,?_,bp _ _ ⟨?_,rfl⟩⟩,λh0=>bp _ _ ⟨?_,rfl⟩⟩) ?_
  .have h0:((i:Nat):Int)>0:=bB h0
   rw[bl I I];omega
  .have h0:((i:Nat):Int)>0:=bB h0
   have e:((i:Nat):Int)-1=((i-1:Nat):Int):=I
   rw[bl I I,if_neg I,e,cS]
  .have h0:¬((i:Nat):Int)>0:=bT h0
   rw[if_pos I]
  rintro _ _ ⟨rfl,rfl⟩;refine⟨_,ba,K,bL,V,bz,D,eb,?_⟩;by_cases h0:i=0
  .subst h0
   rw[if_pos rfl];have bv:=JS ah bk co I dm I;rw[gA]at bv;refine bv.use ?_;rintro _ a6 ⟨a8,e,rfl,hf⟩;obtain⟨dD,bx,ms,S,H,bw,bA⟩:=hf.cs;have bV:=ac.trans H;simp only[fO]at bV;have ei:bx.cb=c.cb:=by rw[H.cb,gA]
   obtain⟨rfl,ks,aF,aS⟩|⟨rfl,aT⟩:=bA
   .refine⟨a8,_,_,0,rfl,nofun,λ_=>⟨λ_=>?_,λh=>(by simp at h)⟩⟩
    obtain⟨t1,t2,t3,t4,t5,t6⟩:=Ctx.Ek (by simpa using g.ctx);have L:=g.ke;have N:=g.pp;have az:=g.eq;have bH:=g.sz;have au:=As (no:=(d[0]).no) g.acc;have Q:=g.Em;subst t2 t3 t4 t5 t6;rw[lh,fO]at az;rw[fO]at N Q;subst az;have ej:cA.n<=1600:=ah.t.s.bz;have cp:∀z∈q,aq.P z=dD.P z:=λz ag=>by
     rw[←bm];exact((H.eQ z (by rw[bt,Q z ag];rfl)).1).symm
    have ek:d.length-0=(d.length-1)+1:=I
    have dr:dD.aD=d.length:=by rw[H.aD,c9];omega
    rw[ek]at L;have ds:∀a9 x y,ks=[a9]->ms=[x,y]->cP a9/\x<1600/\y<1600:=λa9 x y ao al=>by
     subst ao al;have dv:232<bP n:=by
      obtain⟨_,z,e,_⟩|⟨h,_⟩:=aF
      .cases e
      .exact h
     obtain⟨e_,_,_,aX,_⟩:=L.fits (L.zo I) (λ_=>I) (λ_=>I) aF cp;have hx:=(H.kF x U9).2;have fa:=(H.kF y U9).2;exact⟨aX a9 U9,I,I⟩
    have dw:=JW S aS (λ_=>I) ds (U4 H.to.aZ) (by have:=H.room;have:=ac.room;have:=g.p9;omega) (by rw[H.made,b6];omega);rw[ei]at dw;refine dw.use ?_;rintro v fb el;obtain⟨x,ao,al,rfl,aL,aM⟩|⟨a9,x,y,no,mD,fE,ao,al,aL,aM,em⟩:=el
    .subst ao al
     refine⟨_,_,_,rfl,conv _ _ ⟨dD,bx,m++ [x],l++ [(d[0]).no],aL,?_,.inr (.inl ⟨x,dD.aD,x::q,rfl,?_,?_,I,I,dn [x] U9⟩)⟩⟩
     .have:=(bV.trans (du.ext dD bx aM)).mono (j:=60) I
      simp only[fO]at this;exact this
     .obtain⟨_,z,_,e,ag⟩|⟨_,fc,fd,_,e,_⟩:=aF
      .cases e
       rw[dr,show d.length=d.length-1+1 from I];exact L.lay bb ag cp
      .cases e
     .rw[oR]at au N⊢
      intro z;have:=au z;have:=N z;simp only[o6,qw,qx]at*;omega
    .subst ao al
     obtain⟨a1,a2,a3⟩:=ds a9 x y rfl rfl;have aG:=bV.trans aM;simp only[fO]at aG;have dx:=aG.mono (j:=60) I;obtain⟨rfl,cq⟩|⟨rfl,cq⟩:=em
     .have en:∀z∈x::y::q,dD.P z=mD.P z:=λz ag=>by
       refine((aM.eQ z ?_).1).symm;rw[H.f];simp only[cN]at ag;obtain ag|ag|ag:=ag
       .simp[ag]
       .simp[ag]
       .rw[bt,Q z ag];simp
      obtain⟨_,pages,c3,cu⟩:=J2 L bH aF cp cq en a2 a3;refine⟨_,_,_,rfl,conv _ _ ⟨mD,fE,m++ [x,y]++ [no],l++ [(d[0]).no],aL,dx,.inr (.inl ⟨no,dD.aD+1,pages,rfl,?_,?_,I,I,by rw[cU];exact dn [x,y,no] U9⟩)⟩⟩
      .rw[dr,show d.length+1=d.length-1+2 from I];exact c3
      .rw[oR]at au N cu⊢
       intro z;have:=au z;have:=N z;have:=cu z;simp only[o6,qw,qx]at*;omega
     .refine⟨_,_,_,rfl,conv _ _ ⟨mD,fE,m++ [x,y]++ [no],l++ [(d[0]).no],aL,dx,.inr (.inr ⟨_,_,rfl,λhc=>cq (H.to.calm 1 (ac.to.calm 3 (gM hc I)))⟩)⟩⟩
   .refine⟨a8,_,_,3,rfl,λ_=>conv _ _ ⟨dD,bx,m++ms,l++ [(d[0]).no],S,bV.mono I,.inr (.inr ⟨0,0,rfl,dq 2 I aT⟩)⟩,nofun⟩
  .rw[if_neg h0]
   have cr:i-1<d.length:=I
   obtain⟨fe,dy,_,_,_,hu⟩:=cj.at cr;rw[cg]at dy;obtain rfl:=Option.some.inj dy;obtain⟨u,ct⟩:=U6 (d[i-1]);rw[←ct]at hu;have eo:(d.take i).map dG.st=(d.take (i-1)).map dG.st++ [u.st]:=by
    have:d.take i=d.take (i-1)++ [d[i-1]]:=by
     have e:i-1+1=i:=I
     rw[←gv cr,e]
    rw[this,eU,ct];rfl
   obtain⟨dz,dA,er,dB,dE,ps,bJ,b4,es,ff,fg,et,eu,dH,cv⟩:=Ctx.up g.ctx eo g.ke g.Ar.t.p_ g.sz;have cn:d.length-i+1=d.length-(i-1):=I
   rw[cn]at bJ dH cv;have ev:=(g.Ar.t.eM _ _ es).2.is;have fh:=ev.2.1.fJ I;have Q:=g.Em;have bv:=JT ah bk hu co.1 (U4 g.sz) (λ_=>co) (λbW=>by
    obtain⟨o,no,rest,c3,cu,a5,bX,bY,dI,_⟩:=cv bW;exact⟨o,no,c3,by rw[bm];exact cu,a5,bX,bY,dI⟩) I I dm I I
   rw[gA]at bv;refine bv.use ?_;rintro v a6 dK;have fi:0<u.n.keys.length:=sA.2 et;have ej:cA.n<=1600:=ah.t.s.bz;have cz:∀ {dD:aN}{bx:dJ}{ms ls:O Nat}{w':J}{ew:Nat},du cA dD a7 bx ms ls X w' ew->∀x,aq.f x=true->aq.P x=dD.P x:=λex x hx=>by
    rw[←bm];exact((ex.eQ x (by rw[bt,hx];rfl)).1).symm
   have ey:(∃ (dD:aN) (bx:dJ) (ms ls:O Nat) (s:U) (a b:Int),v=.tuple #[.slice s.a s.len s.cap,.int .i64 a,.int .i64 b,.int .i64 3]/\dt a6 dD bx/\du cA dD a7 bx ms ls X a6 4/\¬cA.C.D.calm 4)\/
    (∃ (dD:aN) (bx:dJ) (ms ls rest:O Nat) (s:U) (ax ak:Nat) (ks:O Key) (am:O Nat) (aK:O aY),v=.tuple #[.slice s.a s.len s.cap,.int .i64 (ax:Nat),.int .i64 (ak:Nat),.int .i64 0]/\dt a6 dD bx/\du cA dD a7 bx ms ls X a6 4/\ms.length<=2/\ls.length<=1/\l_ (λq=>¬dD.M q) a6 s ks ms/\
      dj dD.P (d.length-(i-1)) (gn u.n ax ak ks ms) dz dA am aK/\dB++(aK++dE)=A++(M++B)/\am.Perm (ms++(rest++q))/\ps.Perm (ls++rest)/\bP (gn u.n ax ak ks ms)<=bP u.n+27/\u.n.keys.length<=(gn u.n ax ak ks ms).keys.length+1/\
      ax<=u.n.keys.length/\1<=ak/\ak<=u.n.kids.length):=by
    obtain⟨dv,s,e,rfl,hf⟩|⟨bW,dD,bx,rfl,ao,al,aX⟩|⟨bW,o,no,fj,fk,fl,s,e,dL,dM,dN,rfl,hf⟩:=dK
    .obtain⟨dD,bx,ms,S,H,bw,bA⟩:=hf.cs
     obtain⟨rfl,ks,aF,aS⟩|⟨rfl,aT⟩:=bA
     .obtain⟨am,aK,c3,cu,a5,bX,bY⟩:=dH dv dD.P ks ms aF (λx hx=>cz H x (Q x (by
       rw[b4];simp only[cE,cN]at hx⊢;obtain hx|hx:=hx
       .exact .inr (.inr (.inl hx))
       .exact .inl hx))) (λx hx=>U4 ((H.kF x hx).2))
      exact .inr ⟨dD,bx,ms,[],ps,s,u.c4,u.c4+1,ks,am,aK,rfl,S,H.mono I,bw,cw _,aS,c3,cu,a5,List.Perm.refl _,bX,bY,I,I,I⟩
     .exact .inl ⟨dD,bx,ms,[],s,_,_,rfl,S,H.mono I,λhc=>aT (gM hc I)⟩
    .exact .inl ⟨dD,bx,[],[],bG,0,0,rfl,ao,al.mono I,λhc=>aX (gM hc I)⟩
    .obtain⟨fm,dO,rest,c3,cu,a5,bX,bY,dI,dQ,ez⟩:=cv bW
     rw[c3]at dL;obtain rfl:=Option.some.inj dL;rw[bm,cu]at dM;obtain rfl:=Option.some.inj dM;obtain⟨dD,bx,ms,S,H,bw,bA⟩:=hf.cs;have aG:=dN.trans H;simp only[lh,fO]at aG;obtain⟨rfl,ks,aF,aS⟩|⟨rfl,aT⟩:=bA
     .obtain⟨am,aK,d1,d2,d3,d4,d5⟩:=ez dD.P ks ms aF (λx hx=>cz aG x (Q x (by
       rw[b4];simp only[cE,cN]at hx⊢;obtain hx|hx:=hx
       .exact .inr (.inr (.inl (dQ.mem_iff.2 (jv _ hx))))
       .exact .inl hx))) (λx hx=>U4 ((aG.kF x hx).2))
      refine .inr ⟨dD,bx,ms,[dO],rest,s,u.c4-1,u.c4-1+2,ks,am,aK,rfl,S,aG,bw,a_ _,aS,d1,d2,d3,dQ,d4,d5,I,I,?_⟩;rcases o4 u.c4 with eA|eA<;>omega
     .exact .inl ⟨dD,bx,ms,[dO],s,_,_,rfl,S,aG,λhc=>aT (dN.to.calm 2 hc)⟩
   clear dK;obtain⟨dD,bx,ms,ls,a8,a,b,rfl,S,H,aT⟩|⟨dD,bx,ms,ls,rest,a8,ax,ak,ks,am,aK,rfl,S,H,bw,fn,aS,v1,cl,br,bs,bU,eB,eC,eD,eE⟩:=ey
   .exact⟨a8,_,_,3,rfl,λ_=>conv _ _ ⟨dD,bx,_,_,S,(ac.trans H).mono I,.inr (.inr ⟨0,0,rfl,dq 4 I aT⟩)⟩,nofun⟩
   .refine⟨a8,_,_,0,rfl,nofun,λ_=>⟨λh=>?_,λ_=>?_⟩⟩
    .have:((i:Nat):Int)=0:=by simpa using h
     omega
    have bC:=hu.to H.to;refine⟨_,rfl,_,bC.aR,u.K,bC.a7,u.V,bC.bx,u.D,bC.fE,(ru bC.bu aS (fr:=ax) (to:=ak) eC I eD eE I I I).use ?_⟩;rintro _ fo ⟨dP,ep,de,rfl,eF,bD⟩;have dR:=ci.ab H.to.ab (ah.t.kg c8);have dS:=dR.ext bD;refine⟨_,dP,ep,de,rfl,dS.cF rfl gi,rfl,c6 dS (us:=dp (gn u.n ax ak ks ms) dP ep de) rfl rfl λeG eH bE fp=>⟨⟨i-1,dD,bx,m++ms,l++ [(d[i]).no]++ls,gn u.n ax ak ks ms,dP,ep,de,dz,dA,er,dB,dE,am,aK,ps++((d[i]).no::r),?_,?_⟩,?_⟩⟩
    .rw[bl I I];omega
    .have dT:dD.E iw:=by rw[H.E];exact c8
     have cB:dD.M iw:=.inr (.inr (.inr (.inl dT)));have cC:=(ac.trans H).trans (du.ext dD bx bD);simp only[fO]at cC;have eI:b_ b7 dD w1 eG (4*(d.length-1-i)+4+0):=cC.to.step (E:=dD.E) (G:=dD.G) bE (λq e aP=>I) (λq F=>.inl F) λq F=>.inl F;have cD:∀x,aq.f x=true->dD.f x=true:=λx hx=>by rw[H.f,bt,hx];rfl
     have bZ:=cj.to H.to;refine⟨cr,(S.ext bD).Ej bE λq e=>.inl (e▸dT),{cC.mono (j:=4*(d.length-1-(i-1))) I with to:=eI.mono I},?_,?_,eH,?_,?_,bJ.agree λx hx=>cz H x (Q x (by rw[b4];simp[hx])),v1,by rw[cl];exact g.eq,?_,J3 (As g.acc) br bs,I,λh1 e=>?_,λx hx=>?_⟩
     .rw[b6];have:=g.p9;omega
     .rw[b6,b6,ia];have:=g.El;omega
     .refine(b2.ab eF bE λq F e=>?_).bh λq _ F dU=>?_
      .subst e
       obtain F|F:=F
       .exact F cB
       .have:=dR.lt;omega
      .obtain F|F:=F
       .exact F dU
       .have:=S.t.lt dU;omega
     .refine⟨(bZ.own.ext bD).ab bE λq F e=>bZ.p8 q F (e▸cB),bZ.p8,λx hx=>b2.ab ((bZ.bu x hx).ext bD) bE λq F e=>F (e▸cB)⟩
     .have this:bc.Perm ((d[i]'cZ).no::(r++dZ)):=g.pp
      rw[b4]at this;rw[←ct];exact J4 this
     .have fq:=eu (λcd=>by
       have:=congrArg List.length cd;rw[cV,cQ,ic]at this;omega)
      rw[e,ic]at eB;omega
     .rcases cE.1 hx with hx|hx
      .have:=br.mem_iff.1 hx
       rcases cE.1 this with hx|hx
       .rw[H.f];simp[hx]
       .rcases cE.1 hx with hx|hx
        .refine cD x (Q x ?_)
         rw[b4];have:x∈ps:=bs.mem_iff.2 (iY _ hx);simp[this]
        .exact cD x (Q x (by simp[hx]))
      .exact cD x (Q x (by rw[b4];simp[hx]))
    .rw[bl I I]
     show(((i:Nat):Int)-1+1).toNat<(((i:Nat):Int)+1).toNat;omega
theorem J6{T:aN}{c:dJ}{K V D ws:U}(t:ws.len=0)(h:dt w T c)(u:b2 (λq=>¬T.M q) w n K V D)(Q:T.C.D.aZ<=900000000)(R:2<=cy T)(S:c.made.length<=100)(W:c.left=[])
 (g:hJ n) (i:n.keys≠ []) (y:bP n<=232) (z:n.fx=d_):
 aI aj 187 #[.pointer (some ⟨c.cb,0,none⟩),.slice ws.a ws.len ws.cap,dg n K V D] w (nG T c [] d_ w):=by
 refine okF (ad.pE (some ⟨c.cb,0,none⟩) ws n.leaf K V D) ay.pE func187 ?_;(delta ad.pE aW ae av aJ z3 bf cW ai af b1 aE dC aQ aO gI r1 aV ap st qW yU gH dY;dsimp only);refine bg (vs:=dp n K V D) rfl λw1 A B X=>?_;obtain⟨bM,aR,a7,bx⟩:=bS A;refine⟨_,bM,K,aR,V,a7,D,bx,bg (vs:=[.bool false,.slice none 0 0,.slice none 0 0,.slice none 0 0]) rfl λY j E Z=>⟨j.cF rfl gi,rfl,c6 j (us:=dp n K V D) rfl rfl λl F G aa=>?_⟩⟩;have f:Ext w l:=B.trans (Ext.bQ E G (a_ _));refine⟨λn10 w'=>n10= -1/\l=w',λ_ _=>0,⟨by rw[t];decide,rfl⟩,?_⟩;rintro _ _ ⟨rfl,rfl⟩;refine⟨λh=>by simp at h,λ_=>?_⟩;obtain⟨d0,d1,d2,d3⟩:=bS F;refine⟨_,d0,K,d1,V,d2,D,d3,(Ed (h.ext f) I I I (u.ext f) (.inl g) y).use ?_⟩;intro v w' d;obtain⟨s,e,rfl⟩:=d.out;obtain⟨aq,c',m,o,p,ab,H⟩:=(d.base f).cs;obtain⟨rfl,ks,L,N⟩|⟨rfl,P⟩:=H
 .refine⟨s,0,rfl,nofun,λ_=>?_⟩
  obtain⟨_,x,rfl,rfl,hx⟩|⟨ac,_⟩:=L
  .obtain⟨b,r,rfl,_,e,d,_⟩|⟨b,r,ag,ah,ak,rfl,e,_⟩:=N
   .obtain rfl:x=r:=by simpa using e
    refine⟨_,rfl,⟨by decide,by show(0:Int)<((1:Nat):Int);decide⟩,_,by rw[aw,aw];exact d.cell,aq,c',[x],[],o,p.mono I,.inr (.inl ⟨x,1,[x],rfl,⟨n,hx,g,λk i=>⟨λ_ e=>(by cases e),λ_ e=>(by cases e)⟩,i,rfl,z.symm⟩,List.Perm.refl _,a_ _,I,by show 1<=_;omega⟩)⟩
   .cases e
  .omega
 .exact⟨s,3,rfl,λ_=>⟨aq,c',m,[],o,p.mono I,.inr (.inr ⟨0,0,rfl,λhc=>P (gM hc I)⟩)⟩,nofun⟩
def aN.oS(T:aN)(r h:Nat):aN:={T with root:=r,aD:=h}
theorem cm.J7{T:aN}{r:Nat}(ht:cm w T)(a:Var w' T.bE (mP (T.oS r h)) 243)(hc:aa (λq=>q=T.bE) w w')(b:r<T.n)(c:h<=12):cm w' (T.oS r h)/\b_ T (T.oS r h) w w' 0:=
 ⟨⟨a,ht.s.ab hc λq d e=>ht.k4 (e▸d),ht.ca.ab hc λq e=>.inl e,ht.k4,ht.dF,ht.ki,ht.n,⟨b,c,ht.num.2.2⟩,ht.eM,ht.cj,ht.low⟩,
  ⟨rfl,rfl,rfl,rfl,rfl,rfl,rfl,rfl,rfl,rfl,a_ _,λ_ h=>h,hc.mono λq _ e=>.inr (.inl e),λq h=>.inl h,λq h=>.inl h⟩⟩
def g0(T:aN)(pages:O Nat)(L:O aY):Prop:=(T.aD=0/\T.root=0/\pages=[]/\L=[])\/eK T.P T.aD none none T.root pages L
theorem En:∀ {n:Nat},(∀i,s i=true->t i=true)->cH s n<=cH t n
 |0,_=>a_ _
 |n+1,h=>by
  have h1:=En (n:=n) h
  show cH s n+(s n).toNat<=cH t n+(t n).toNat
  cases hs:s n with
  |false=>exact Nat.add_le_add h1 (cw _)
  |true=>rw[h n hs];exact Nat.add_le_add_right h1 _
def x2(T:aN)(bc:O Nat)(d_:O aY)(w:J)(v:Y)(w':J):Prop:=
 ∃aq:aN,cm w' aq/\b_ T aq w w' 60/\aq.E=T.E/\aq.G=T.G/\
  ((v=.int .i64 2/\cy T<2*T.aD+3/\aq=T)\/
   (v=.int .i64 0/\2*T.aD+3<=cy T/\(∃pages,cy T<=cy aq+(2*T.aD+3)/\g0 aq pages d_/\pages.Nodup/\(∀no∈pages,no∈bc\/(T.f no||T.g no)=false)/\∀no,aq.f no=true↔(no∈pages\/(T.f no=true/\no∉bc)))/\∀no,T.g no=true->aq.P no=T.P no/\aq.C.view no=T.C.view no)\/
   (v=.int .i64 3/\¬T.C.D.calm 60/\aq.root=T.root/\aq.aD=T.aD/\aq.f=T.f/\∀no,(T.f no||T.g no)=true->aq.P no=T.P no/\aq.C.view no=T.C.view no))
theorem Eo(h:∀x,l.count x<=1):l.Nodup:=List.nodup_iff_count.2 h
theorem J8{T:aN}{s:U}{K V D:U}(h:cm w T)(ca:¬T.C.D.ro)(da:T.C.D.aZ<=900000000)(z:T.aD<12)(cd:bc.Nodup)(aM:∀x∈bc,T.f x=true)(db:bc.length<=5000)
 (ce:∀ (ck j:U1) (w1:J) (aR:dJ),dt w1 (T.cJ ck j) aR->b_ T (T.cJ ck j) w w1 0->2*T.aD+3<=cy T->aR.made=[]->aR.left=[]->aI aj 187 #[.pointer (some aR.cb),s,dg n K V D] w1 (nG (T.cJ ck j) aR bc d_ w1)):
 aI aj 131 #[.pointer (some T.bE),s,dg n K V D] w (x2 T bc d_ w):=by
 have dc:=h.s.bz;refine ad.GZ (some T.bE) s n.leaf K V D w _ ?_;(delta ad.tv b1 aE gI r1 b5 af ai st ae aW av aJ qW e6;dsimp only);refine bg (vs:=dp n K V D) rfl λw1 al bb dd=>bg (vs:=[U8]) rfl λah bd be de=>aH ?_;have am:Ext ah ah.drew:=cc _;obtain⟨bf,cf⟩:=U6 ah.drew;rw[←cf]at am⊢;have bh:=(bb.trans be).trans am;have o:=h.ext bh;obtain⟨ev,cg⟩:=U6 w1.heap.size;rw[←cg]at bd⊢;refine⟨λ_=>False,_,rfl,id,_,o.cells.2.1,_,rfl,id,_,o.cells.2.2.2.2,(z8 o.s).use ?_⟩;rintro _ aO ⟨rfl,an⟩;have aP:=bh.trans an;have X:=(bd.ext am).ext an;have ch:((T.n:Int)-cH (λi=>T.f i||T.g i) T.n)=(cy T:Nat):=by
  have:=l9 (λi=>T.f i||T.g i) T.n;unfold cy;omega
 have ci:IntKind.wrap .i64 (IntKind.wrap .i64 (2*(T.aD:Int))+3)=((2*T.aD+3:Nat):Int):=by
  rw[bl (n:=2*(T.aD:Int)) I I,bl I I];omega
 rw[ch,ci];refine⟨_,rfl,an,λap=>?_,λap=>?_⟩
 .have ap:((cy T:Nat):Int)<((2*T.aD+3:Nat):Int):=bB ap
  obtain⟨ao,F⟩:=dT X (i:=0) U9;have cj:=dz aO ev 0 (2:Int);have cl:=ei X (i:=0) (2:Int);have bi:=Ext.bQ aP cj I;exact⟨ao,F,aH ⟨2,cl.cell,T,h.ext bi,(b_.ext T bi).mono I,rfl,rfl,.inl ⟨rfl,I,rfl⟩⟩⟩
 have bj:2*T.aD+3<=cy T:=by
  have:¬((cy T:Nat):Int)<((2*T.aD+3:Nat):Int):=bT ap;omega
 refine bg (vs:=[.pointer (some T.bE),(),()]) rfl λcn bk co df=>bg (vs:=[.pointer none]) rfl λbm aQ bn dh=>?_;obtain⟨cb,bo⟩:=U6 aO.heap.size;obtain⟨fj,bp⟩:=U6 cn.heap.size;rw[←bo]at bk⊢;rw[←bp]at aQ⊢;obtain⟨ao,F⟩:=dT aQ (i:=0) U9;have ar:=dz bm fj 0 (.pointer (some cb));have aS:=ei aQ (i:=0) (.pointer (some cb));refine⟨ao,F,aH ?_⟩;obtain⟨H,cp⟩:=U6 (bm.setCell fj (.pointer (some cb)));rw[←cp]at ar aS⊢;have di:=aP.size;have dj:=ar.size;have aT:Ext aO H:=Ext.bQ (co.trans bn) ar I;have bq:=aP.trans aT;have br:=X.ext aT;have bs:=(bk.ext bn).ab ar I;have cr:=((al.ext be).ext am).ext (an.trans aT);obtain⟨ck,aU⟩:=U6 (λq=>T.E q\/q=ev);obtain⟨j,aV⟩:=U6 (λq=>T.G q\/q=cb);have aX:∀q,ck q->T.E q\/q=ev:=λq c=>by rw[aU]at c;exact c
 have au:∀q,j q->T.G q\/q=cb:=λq c=>by rw[aV]at c;exact c
 have bt:∀q,T.E q->ck q:=λq c=>by rw[aU];exact .inl c
 have cs:∀q,T.G q->j q:=λq c=>by rw[aV];exact .inl c
 have a0:ck ev:=by rw[aU];exact .inr rfl
 have ct:j cb:=by rw[aV];exact .inr rfl
 have dk:=br.lt;have dl:=bs.lt;have bv:cm H (T.cJ ck j):=h.grow (W:=λ_=>False) bq (λ_ h=>h.elim) (λq c=>(aX q c).imp id λe=>.inr ⟨I,I⟩) (λq c=>.inr ((au q c).imp id λe=>⟨I,I⟩)) λq c hg=>by
  rcases aX q c with h1|h1<;>rcases au q hg with k|k
  .exact(h.dF q h1).2.2 k
  .have:=h.lt (q:=q) (.inr (.inr (.inr (.inl h1))));omega
  .have:=h.lt (q:=q) (.inr (.inr (.inr (.inr k))));omega
  .have:=X.lt;omega
 have bw:b_ T (T.cJ ck j) w H 0:=(b_.refl T w).step (W:=λ_=>False) bq (λ_ h=>h.elim) (λq c=>(aX q c).imp id λe=>.inr I) λq c=>(au q c).imp id λe=>by omega
 have cu:dt H (T.cJ ck j) ⟨cb,bG,bG,[],[]⟩:=⟨bv,bs,aL.none _ _ _,aL.none _ _ _,ct,λq c=>(gE q c).elim,λq c=>(gE q c).elim,ca⟩;have cv:=ce ck j H _ cu bw bj rfl rfl;obtain⟨bM,aR,a7,bx⟩:=bS cr;refine⟨_,aS.cell,_,bM,K,aR,V,a7,D,bx,cv.use ?_⟩;rintro v L ⟨b7,y,m,l,bA,d,cw⟩;have Y:b7.E ev:=by rw[d.E];exact a0
 have ax:=br.ab d.to.ab (bv.kg a0);have cx:¬(T.cJ ck j).N fj:=by
  have dm:cb<fj:=by rw[bo,bp];omega
  rintro(c|c|c|c)
  .have:=h.lt (q:=fj) (.inl c);omega
  .have:=h.lt (q:=fj) (.inr (.inl c));omega
  .have:=h.lt (q:=fj) (.inr (.inr (.inl c)));omega
  .rcases au fj c with h1|h1
   .have:=h.lt (q:=fj) (.inr (.inr (.inr (.inr h1))));omega
   .omega
 have bC:=aS.ab d.to.ab cx;have ay:y.cb=cb:=d.cb;have dn:b7.bE=T.bE:=d.to.bE;have az:y.made=m:=d.made;have aB:y.left=l:=d.left;have a1:fj≠ev:=U4 X.lt
 have bD:b_ T b7 w L 60:=(bw.trans d.to).mono I
 have fin:∀ (w':J) (aq:aN),cm w' aq->b_ T aq w w' 60->aq.E=ck->(∀q,T.G q->aq.G q)->cm w' (aq.cJ T.E T.G)/\b_ T (aq.cJ T.E T.G) w w' 60:=by
  intro w' aq hc ht bF bH;exact⟨hc.grow (W:=λ_=>False) (aa.refl _ _) (λ_ h=>h.elim) (λq c=>.inl (by rw[bF];exact bt q c)) (λq c=>.inr (.inl (bH q c))) λq c=>(h.dF q c).2.2,
   ht.step (W:=λ_=>False) (aa.refl _ _) (λ_ h=>h.elim) (λq c=>.inl (by rw[bF];exact bt q c)) λq c=>.inl (bH q c)⟩
 have bI:∀q,T.G q->b7.G q:=λq c=>d.G q (cs q c);have dq:=(bb).size;have a2:∀ (w0:J) (aq:aN) (c':dJ) (x:Int),dt w0 aq c'->b_ T aq w w0 60->aq.E ev->dt (w0.setCell ev x) aq c'/\b_ T aq w (w0.setCell ev x) 60:=λw0 aq c' x hc ht he=>
  ⟨hc.Ej (dz w0 ev 0 _) λq e=>.inl (e▸he),ht.step (E:=aq.E) (G:=aq.G) (dz w0 ev 0 _) (λq e a3=>I) (λq c=>.inl c) λq c=>.inl c⟩
 have dr:m.length<=1600:=by
  have:=d.room;have:cy (T.cJ ck j)<=T.n:=by unfold cy;exact Nat.sub_le _ _
  omega
 have cz:(∃a b:Int,v=.tuple #[a,b,(3:Int)]/\¬T.C.D.calm 60)\/(∃ (root z:Nat) (pages:O Nat),v=.tuple #[root,z,U8]/\((z=0/\root=0/\pages=[]/\d_=[])\/eK b7.P z none none root pages d_)/\(pages++l).Perm (m++bc)/\z<=12/\m.length<=2*T.aD+3):=by
  obtain⟨rfl,h1,k,a4⟩|⟨root,z,pages,rfl,h1,k,o,M,a4⟩|⟨a,b,rfl,a5⟩:=cw
  .exact .inr ⟨0,0,[],rfl,.inl ⟨rfl,rfl,rfl,h1⟩,k,I,a4⟩
  .have M:z<=T.aD+1:=M
   exact .inr ⟨root,z,pages,rfl,.inr h1,k,I,a4⟩
  .exact .inl ⟨a,b,rfl,a5⟩
 obtain⟨a,b,rfl,a5⟩|⟨root,p,pages,rfl,cB,bK,cC,ds⟩:=cz
 .
  obtain⟨ao,F⟩:=dT ax (i:=0) U9;have A:=ei ax (i:=0) (3:Int);obtain⟨aC,aF⟩:=a2 L b7 y 3 bA bD Y;have Z:=bC.ab (dz L ev 0 (3:Int)) a1;refine⟨a,b,3,rfl,ao,F,aH ⟨3,A.cell,λ_=>⟨3,A.cell,?_⟩,nofun⟩⟩;obtain⟨cD,cE⟩:=dT A (i:=0) U9;have a6:=ei A (i:=0) (3:Int);obtain⟨bN,bO⟩:=a2 _ b7 y 3 aC aF Y;have a8:=Z.ab (dz _ ev 0 (3:Int)) a1;refine⟨cD,cE,aH (ad.CB ev fj _ _ ?_)⟩;generalize du:(L.setCell ev (3:Int)).setCell ev (3:Int)=bP at a6 bN a8 bO⊢;(delta ad.rm r1 af aE aJ e6;dsimp only);have Q:Ext bP bP.drew:=cc _;have r:=bN.ext Q;have ac:=Eg r r.ma.src (λq c=>(r.c1 q c).1) (l:=y.made) (λx hx=>by rw[az]at hx;rw[d.f];simp[hx]) (az▸d.bu) (by rw[az];omega);rw[ay]at ac;have ag:=r.cells.2.1;rw[ay]at ag;refine⟨3,a6.cell,λ_=>aH ⟨id,_,a8.drew.cell,id,_,a8.drew.cell,_,rfl,id,y.ma,ag,ac.use ?_⟩,nofun⟩;rintro _ bR ⟨rfl,cA,B,hg⟩;rw[az]at hg;have cF:=(a6.ext Q).ab hg.to.ab (r.t.kg Y);have cG:b_ T cA w bR 60:=((bO.trans (b_.ext b7 Q)).trans hg.to).mono I;obtain⟨f1,f2⟩:=fin bR cA B.t cG (hg.E▸d.E) λq c=>by rw[hg.G];exact bI q c
  refine⟨rfl,3,cF.cell,_,f1,f2,rfl,rfl,.inr (.inr ⟨rfl,a5,hg.root.trans d.root,hg.aD.trans d.aD,?_,λno ak=>?_⟩)⟩
  .funext no
   show cA.f no=T.f no;rw[hg.f,d.f];by_cases u:no∈m
   .have:=(d.kF no u).1
    have e:(T.cJ ck j).f no=T.f no:=rfl;rw[e]at this⊢
    cases a9:T.f no
    .simp[u]
    .rw[a9]at this;cases this
   .simp[u];rfl
  .have u:no∉m:=λu=>by
    have:=(d.kF no u).1;have e:((T.cJ ck j).f no||(T.cJ ck j).g no)=(T.f no||T.g no):=rfl;rw[e,ak]at this;cases this
   have h1:=hg.eQ no (.inl u);have k:=d.eQ no ak;exact⟨h1.1.trans k.1,h1.2.trans k.2⟩
 .
  have S:∀x,pages.count x+l.count x=m.count x+bc.count x:=λx=>by
   have:=oR.1 bK x;simpa only[o6] using this
  have aG:∀x,m.count x+bc.count x<=1:=λx=>by
   have h1:=List.nodup_iff_count.1 d.bu x;have k:=List.nodup_iff_count.1 cd x;rcases o4 (m.count x) with o|o
   .omega
   .rcases o4 (bc.count x) with M|M
    .omega
    .have u:=kQ.1 o
     have cI:=kQ.1 M;have:=(d.kF x u).1;have e:((T.cJ ck j).f x||(T.cJ ck j).g x)=(T.f x||T.g x):=rfl;rw[e,aM x cI]at this;cases this
  have hlen:pages.length+l.length=m.length+bc.length:=by
   have:=bK.length_eq;simpa only[b6] using this
  have cK:∀x∈l,b7.f x=true:=λx hx=>by
   have h1:=kQ.2 hx;have k:=S x;rw[d.f];rcases o4 (m.count x) with o|o
   .have:x∈bc:=kQ.1 I
    have e:(T.cJ ck j).f x=T.f x:=rfl;rw[e,aM x this];rfl
   .have:x∈m:=kQ.1 o
    simp[this]
  have cL:l.Nodup:=Eo λx=>U5 (S x) (aG x)
  obtain⟨ao,F⟩:=dT ax (i:=0) U9;have A:=ei ax (i:=0) (0:Int);obtain⟨aC,aF⟩:=a2 L b7 y 0 bA bD Y;have Z:=bC.ab (dz L ev 0 (0:Int)) a1;refine⟨_,_,0,rfl,ao,F,aH ⟨0,A.cell,nofun,λ_=>aH ?_⟩⟩;generalize dv:L.setCell ev (0:Int)=bU at A aC Z aF⊢;have Q:Ext bU bU.drew:=cc _;have r:=aC.ext Q;have ac:=Eg r r.gZ.src (λq c=>(r.lK q c).1) (l:=y.left) (λx hx=>cK x (by rw[aB]at hx;exact hx)) (aB▸cL) (by rw[aB];omega);rw[ay]at ac;have ag:=r.cells.2.2;rw[ay]at ag;refine⟨id,_,Z.drew.cell,id,_,Z.drew.cell,_,rfl,id,y.gZ,ag,ac.use ?_⟩;rintro _ R ⟨rfl,cA,B,hg⟩;rw[aB]at hg;have cM:=(A.ext Q).ab hg.to.ab (r.t.kg Y);have bV:b_ T cA w R 60:=((aF.trans (b_.ext b7 Q)).trans hg.to).mono I;have a_:cA.bE=T.bE:=bV.bE;have bW:cA.E=ck:=by rw[hg.E];exact d.E
  have cN:cA.E ev:=by rw[bW];exact a0
  have bX:Var R T.bE (mP cA) 243:=by rw[←a_];exact B.t.t
  obtain⟨bJ,b4⟩:=dT bX (i:=3) (by simp[mP]);have bY:=ei bX (i:=3) root;have cO:=dz R T.bE 3 root;obtain⟨cP,cQ⟩:=dT bY (i:=4) (by simp[mP]);have bZ:=ei bY (i:=4) p;have cR:=dz (R.setCell ⟨T.bE,3,none⟩ root) T.bE 4 p;refine⟨rfl,_,rfl,bJ,b4,aH ⟨_,rfl,by rw[aw,aw];exact cP,by rw[aw,aw];exact cQ,aH ?_⟩⟩;rw[aw,aw,cT,cT];have ba:aa (λq=>q=T.bE) R ((R.setCell ⟨T.bE,3,none⟩ root).setCell ⟨T.bE,4,none⟩ p):=cO.trans cR;generalize dw:(R.setCell ⟨T.bE,3,none⟩ root).setCell ⟨T.bE,4,none⟩ p=aK at bZ ba⊢;have cS:∀x∈pages,x∉l:=λx hx a3=>by
   have h1:=kQ.2 hx;have k:=kQ.2 a3;have:=S x;have:=aG x;omega
  have b0:(p=0/\root=0/\pages=[]/\d_=[])\/(eK cA.P p none none root pages d_/\root∈pages):=cB.imp id λcU=>cU.agree λx hx=>((hg.eQ x (.inl (cS x hx))).1).symm;have cV:root<cA.n:=by
   obtain⟨_,h1,_⟩|⟨h1,_⟩:=b0
   .have:=B.t.s.bL;omega
   .obtain⟨bu,_,k,_⟩:=h1.ke
    exact(B.t.eM _ _ k).1
  have cW:Var aK cA.bE (mP (cA.oS root p)) 243:=by rw[a_];exact bZ
  obtain⟨cX,cY⟩:=B.t.J7 cW (a_▸ba) cV cC;have cZ:ev≠T.bE:=λe=>U4 (h.lt (q:=T.bE) (.inr (.inl rfl)))
  have b2:=cM.ab ba cZ;obtain⟨c0,c2⟩:=dT b2 (i:=0) U9;have b3:=ei b2 (i:=0) (0:Int);have b8:=dz aK ev 0 (0:Int);refine⟨c0,c2,aH (ad.CB ev fj _ _ ?_)⟩;(delta ad.rm r1 af aE aJ e6;dsimp only);refine⟨0,b3.cell,nofun,λ_=>⟨0,b3.cell,?_⟩⟩;have c3:cm (aK.setCell ev (0:Int)) (cA.oS root p):=cX.grow (E:=cA.E) (G:=cA.G) b8 (λq e _=>.inl (e▸cN)) (λq c=>.inl c) (λq c=>.inr (.inl c)) λq c=>(B.t.dF q c).2.2;have c4:b_ T (cA.oS root p) w (aK.setCell ev (0:Int)) 60:=((bV.trans cY).mono I).step (E:=cA.E) (G:=cA.G) b8 (λq e a3=>I) (λq c=>.inl c) λq c=>.inl c;obtain⟨f1,f2⟩:=fin _ _ c3 c4 bW λq c=>by
   show cA.G q;rw[hg.G];exact bI q c
  refine⟨_,f1,f2,rfl,rfl,.inr (.inl ⟨rfl,bj,⟨pages,?_,?_,Eo λx=>U5 (S x) (aG x),λno hx=>?_,λno=>?_⟩,λno ak=>?_⟩)⟩
  .have h1:cy b7+m.length=cy T:=d.room
   have k:cy b7<=cy (cA.oS root p):=by
    show b7.n-_<=cA.n-cH (λi=>cA.f i||cA.g i) cA.n;rw[hg.to.n];have:=En (s:=λi=>cA.f i||cA.g i) (t:=λi=>b7.f i||b7.g i) (n:=b7.n) λi hi=>by
     rw[hg.f,hg.to.g]at hi;rw[fC,dM]at hi;rw[fC];exact hi.imp And.left id
    omega
   show cy T<=cy (cA.oS root p)+_;omega
  .obtain⟨h1,k,o,M⟩|⟨h1,_⟩:=b0
   .exact .inl ⟨h1,k,o,M⟩
   .exact .inr h1
  .have h1:=kQ.2 hx
   have k:=S no;rcases o4 (bc.count no) with o|o
   .have u:no∈m:=kQ.1 I
    exact .inr (d.kF no u).1
   .exact .inl (kQ.1 o)
  .show cA.f no=true↔_
   rw[hg.f,d.f];have e:(T.cJ ck j).f no=T.f no:=rfl;rw[e];have dx:=S no;have B:=aG no;have b9:no∈m↔0<m.count no:=kQ.symm;have al:no∈bc↔0<bc.count no:=kQ.symm;have c5:no∈l↔0<l.count no:=kQ.symm;have c6:no∈pages↔0<pages.count no:=kQ.symm;have c7:0<bc.count no->T.f no=true:=λh=>aM no (al.2 h);have c8:0<m.count no->T.f no=false:=λh=>by
    have:=(d.kF no (b9.2 h)).1;have e:((T.cJ ck j).f no||(T.cJ ck j).g no)=(T.f no||T.g no):=rfl;rw[e]at this
    cases a9:T.f no
    .rfl
    .rw[a9]at this;cases this
   rw[dM,fC,cq,ju,fh,b9,al,c5,c6];constructor
   .rintro⟨h1|h1,k⟩
    .by_cases o:0<bc.count no
     .left;omega
     .exact .inr ⟨h1,o⟩
    .left;omega
   .rintro(h1|⟨h1,k⟩)
    .refine⟨?_,I⟩
     by_cases o:0<bc.count no
     .exact .inl (c7 o)
     .right;omega
    .refine⟨.inl h1,λo=>?_⟩
     have:0<m.count no:=I
     rw[c8 this]at h1;cases h1
  .have c9:(T.f no||T.g no)=true:=by rw[ak];simp
   have c_:b7.g no=true:=by rw[d.to.g];exact ak
   have h1:=hg.eQ no (.inr c_);have k:=d.eQ no c9;exact⟨h1.1.trans k.1,h1.2.trans k.2⟩
theorem Ep(hs:ks.Pairwise b9)(h1:cX ks k<=i)(hi:i<ks.length)(f:ks[cX ks k]? ≠some k):b9 k ks[i]:=by
 rcases pP.1 (rP hs h1 hi) with a|a
 .exact a
 .exfalso
  rcases dA (cX ks k) i with b|b
  .have c:cX ks k<ks.length:=I
   have g:=rP hs (a_ _) c;have d:=lT.1 hs _ _ c hi b;rw[←a]at d;exact g d
  .have e:i=cX ks k:=I
   apply f;subst e;rw[dB hi,←a]
theorem Au(h:hJ n)(hi:i<=n.keys.length):∃a b c d:O Key,n.keys=a++b/\n.vals=c++d/\a.length=i/\c.length=i/\b.length=d.length/\n.keys.take i=a/\n.keys.drop i=b/\n.vals.take i=c/\n.vals.drop i=d:=by
 have e:=h.len;refine⟨n.keys.take i,n.keys.drop i,n.vals.take i,n.vals.drop i,(iW i _).symm,(iW i _).symm,?_,?_,?_,rfl,rfl,rfl,rfl⟩
 .rw[cQ];omega
 .rw[cQ];omega
 .rw[dW,dW];omega
def k7(k v:Key):Nat:=2+k.length+v.length
theorem r3(h:n.leaf=true):bP n=1+(List.zipWith k7 n.keys n.vals).sum:=by
 unfold bP;rw[if_pos h,l4 h];rfl
theorem J9{v:Key}(h:hJ n)(C:cP k)(D:v.length<=24):hJ (ir n k v)/\(ir n k v).fx=h3 n.fx k v/\bP (ir n k v)<=bP n+50/\(ir n k v).keys≠ []/\n.keys.length<=(ir n k v).keys.length/\(∀s∈(ir n k v).keys,s=k\/s∈n.keys):=by
 have hlen:=h.len;have E:=rO n.keys k;have K:n.fx=n.keys.zip n.vals:=rfl;have F:=h.fG;have G:∀ (j:Nat) (m:j<n.keys.length),j<cX n.keys k->b9 n.keys[j] k:=λj m h1=>pS h1 m;have H:n.keys[cX n.keys k]? ≠some k->∀ (j:Nat) (m:j<n.keys.length),cX n.keys k<=j->b9 k n.keys[j]:=λhe j m h1=>Ep F h1 m he;rw[K,HM h.fG];unfold ir iq;generalize hi:cX n.keys k=i at E G H⊢;obtain⟨a,b,c,d,g,t,L,M,N,p,q,w,A⟩:=Au h E;have f:n.keys.zip n.vals=a.zip c++b.zip d:=by rw[g,t];exact pR I
 have u:(a.zip c).length=i:=by rw[qn];omega
 by_cases he:n.keys[i]? =some k
 .rw[if_pos (by simpa using he),if_pos he]
  have O:∃o,b=k::o:=by
   cases b with
   |nil=>rw[g,j6 I]at he;simp at he
   |cons y o=>
    rw[g,j6 I,L,lQ]at he;simp at he;exact⟨o,by rw[he]⟩
  obtain⟨o,rfl⟩:=O;obtain⟨x,l,rfl⟩:∃x l,d=x::l:=by
   cases d with
   |nil=>simp at N
   |cons x l=>exact⟨x,l,rfl⟩
  have J:n.vals.set i v=c++v::l:=by
   rw[t,uK _ _ I,M,lQ];rfl
  refine⟨⟨⟨h.ok,h.fG⟩,h.leaf,by simp[hlen],h.kids,λz f=>?_⟩,?_,?_,λe=>by have e:n.keys=[]:=e;rw[e]at g;simp at g,a_ _,λs hs=>.inr hs⟩
  .rcases mx f with h1|h1
   .exact h.vals z h1
   .rw[h1];exact D
  .show n.keys.zip (n.vals.set i v)=_
   rw[J,f,g,pR I,nx u];have P:(a.zip c++(k::o).zip (x::l)).drop (i+1)=o.zip l:=by
    rw[List.zip_cons_cons,show a.zip c++(k,x)::o.zip l=(a.zip c++ [(k,x)])++o.zip l by simp];exact drop_left' (by simp only[b6,u,ia])
   rw[P];rfl
  .rw[r3 h.leaf,r3 (n:={n with vals:=n.vals.set i v}) h.leaf]
   show 1+(List.zipWith k7 n.keys (n.vals.set i v)).sum<=_;rw[J,g,t,qq I,qq I,lS,lS,List.zipWith_cons_cons,List.zipWith_cons_cons,qo,qo];unfold k7;omega
 .rw[if_neg (by simpa using he),if_neg he]
  have Q:=H he;refine⟨⟨⟨λz f=>?_,?_⟩,h.leaf,?_,h.kids,λz f=>?_⟩,?_,?_,λe=>?_,?_,λs hs=>?_⟩
  .have f:z∈n.keys.take i++ [k]++n.keys.drop i:=f
   simp only[cE,dV]at f;rcases f with (f|rfl)|f
   .exact h.ok z (gd f)
   .exact C
   .exact h.ok z (gb f)
  .show(n.keys.take i++ [k]++n.keys.drop i).Pairwise b9
   rw[p,q];have R:(a++b).Pairwise b9:=by rw[←g];exact F
   obtain⟨ao,B,S⟩:=m0.1 R;have T:∀x∈a,b9 x k:=λx hx=>by
    obtain⟨j,m,rfl⟩:=eO hx;have:=G j (by rw[g,b6];omega) I;simp only[g,sG m]at this;exact this
   have U:∀y∈b,b9 k y:=λy r=>by
    obtain⟨j,m,rfl⟩:=eO r;have:=Q (i+j) (by rw[g,b6];omega) I;have e:(a++b)[i+j]'(by rw[b6];omega)=b[j]:=by
     rw[uH I];congr 1;omega
    simp only[g,e]at this;exact this
   rw[cU];refine m0.2 ⟨ao,?_,λx hx y r=>?_⟩
   .exact mq.2 ⟨U,B⟩
   .rcases cN.1 r with rfl|r
    .exact T x hx
    .exact S x hx y r
  .show(n.vals.take i++ [v]++n.vals.drop i).length=(n.keys.take i++ [k]++n.keys.drop i).length
   rw[p,q,w,A];simp only[b6,ia];omega
  .have f:z∈n.vals.take i++ [v]++n.vals.drop i:=f
   simp only[cE,dV]at f;rcases f with (f|rfl)|f
   .exact h.vals z (gd f)
   .exact D
   .exact h.vals z (gb f)
  .show(n.keys.take i++ [k]++n.keys.drop i).zip (n.vals.take i++ [v]++n.vals.drop i)=_
   rw[p,q,w,A,f,nx u,drop_left' u,cU,cU,pR I];rfl
  .rw[r3 h.leaf,r3 (n:={n with keys:=n.keys.take i++ [k]++n.keys.drop i,vals:=n.vals.take i++ [v]++n.vals.drop i}) h.leaf]
   show 1+(List.zipWith k7 (n.keys.take i++ [k]++n.keys.drop i) (n.vals.take i++ [v]++n.vals.drop i)).sum<=_;have ao:(List.zipWith k7 (a++ [k]++b) (c++ [v]++d)).sum=(List.zipWith k7 a c).sum+(k7 k v+(List.zipWith k7 b d).sum):=by
    rw[cU,cU,qq I,lS];rfl
   have B:(List.zipWith k7 (a++b) (c++d)).sum=(List.zipWith k7 a c).sum+(List.zipWith k7 b d).sum:=by
    rw[qq I,lS]
   rw[p,q,w,A,g,t,ao,B];have:=C.2;unfold k7;omega
  .have e:n.keys.take i++ [k]++n.keys.drop i=[]:=e
   simp at e
  .show n.keys.length<=(n.keys.take i++ [k]++n.keys.drop i).length
   rw[p,q,g];simp only[b6,ia];omega
  .have hs:s∈n.keys.take i++ [k]++n.keys.drop i:=hs
   simp only[cE,dV]at hs;rcases hs with (hs|rfl)|hs
   .exact .inr (gd hs)
   .exact .inl rfl
   .exact .inr (gb hs)
end Go.Proofs.YtcmgnhkpfllinaaGreat
