/- Contracts of the functions that the statement reaches, and the plain laws over them; each theorem stands with its conditions. -/
import Derived.OpenShut
import Derived.Shelf.SlIterI.Nil
import Derived.Shelf.SortM.Plain
import Derived.Shelf.SortM.SortNone
import Derived.Test.YtkdhdlfonmgheaaGreatProg
import Derived.Test.YtkdhdlfonmgheaaGreatRows
import Derived.Test.YtkdhdlfonmgheaaGreatBAPlays2
namespace Go.Proofs.YtkdhdlfonmgheaaGreat
open Go aS Go.Proofs.Tryz
theorem zp{B C:Nat->Prop}{w:J}{s x:ad}{ls xs:O Key}(l:bx B w s ls)(hx:bw C w x xs)(hd:∀q,C q->¬aE s q)(v:ls.length<=100000)(y:xs.length<=100000):
 ∃ (d:ad) (w':J),Sem.run ai (Builtin.append_ #[127,127] 127 #[s,x]) w=.ok d w'/\bw (λq=>B q\/C q\/w.heap.size<=q) w' d (ls++xs)/\af (aE s) w w':=by
 have z:=bw.len hx;obtain⟨ts,h1,h2,m,n⟩:=l;obtain⟨us,aw,ax,A,D,o⟩:=hx;have E:s.len=ls.length:=by have:=h2.1;rw[dk]at this;omega
 obtain⟨d,w',p,f,F,g,r⟩:=q6.append (cC:=127) ax h2 (wY us) I;refine⟨d,w',p,⟨ts++us,by simp[h1,aw],?_,f.2.1,?_,λi t G=>?_⟩,g⟩
 .rw[gb];exact f.src
 .intro k c
  refine⟨?_,f.lt k c⟩;rcases r k c with h|h
  .exact .inl (m k h).1
  .exact .inr (.inr h)
 .rcases eu i ts.length with h|h
  .have j:i<ls.length:=by omega
   rw[ow h,ow j];obtain⟨a,b⟩:=n i h j;exact bA.a7 (bA.jr a g b) λk _ c=>.inl c
  .have u:i-ts.length<us.length:=by rw[cG]at t;omega
   have H:i-ls.length<xs.length:=by omega
   rw[p1 h,p1 I];have e:i-ls.length=i-ts.length:=by omega
   have a:=o (i-ts.length) u I;simp only[e];exact bA.a7 (bA.jr a g λk c=>hd k (a.2.2 k c).1) λk _ c=>.inr (.inl c)
theorem CR{B C:Nat->Prop}{w:J}{s x:ad}{ds es:O Nat}(d:cX B w s ds)(hx:cZ C w x es)(i:ds.length<=100000)(j:es.length<=100000):
 ∃ (a:ad) (w':J),Sem.run ai (Builtin.append_ #[58,58] 58 #[s,x]) w=.ok a w'/\cZ (λq=>B q\/C q\/w.heap.size<=q) w' a (ds++es)/\af (aE s) w w':=by
 have l:=cZ.len hx;obtain⟨h1,h2⟩:=d;have m:s.len=ds.length:=by have:=h1.1;rw[q4]at this;omega
 obtain⟨a,w',e,b,n,f,g⟩:=s_.append (cC:=58) hx.1 h1 (Cv es) I;refine⟨a,w',e,⟨?_,b.2.1,?_⟩,f⟩
 .have:gl ds++gl es=gl (ds++es):=by simp[gl]
  rw[this]at b;exact b.src
 .intro k c
  refine⟨?_,b.lt k c⟩;rcases g k c with h|h
  .exact .inl (h2 k h).1
  .exact .inr (.inr h)
def CS(pa b aH c:Nat)(key:ad)(G:J)(Q:Y->J->Prop):Prop:=
 bH (λR:J->Prop=>∃H:al,G.cell? pa=some (.bool H)/\((!H)=true->ak (G.drew) λI=>∃K:Nat->Prop,¬K (Addr.add b 1).block/\∃k:ad,I.cell? (Addr.add b 1)=some (.slice k.a k.len k.cap)/\Calls ai 135 #[key] I λac l=>∃S:ad,ac=.returned S/\af K I l/\ak (l.alloc (.cells #[S] 48)) λT=>af K l T/\∃U:ad,∃m:J,Sem.run ai (Builtin.append_ #[127,127] 127 #[k,.slice (some l.heap.size) 1 1]) T=.ok U m/\(∃u:Y,m.cell? (Addr.add b 1)=some u)/\m.frozen? (Addr.add b 1)=false/\ak (m.setCell (Addr.add b 1) U) λae=>R ae)/\((!H)=false->R G)) (λ(L:J)=>∃n:ad,L.cell? (Addr.add b 1)=some (.slice n.a n.len n.cap)/\∃o:ad,L.cell? (Addr.add aH 1)=some (.slice o.a o.len o.cap)/\∃V:ad,∃p:J,Sem.run ai (Builtin.append_ #[127,127] 127 #[n,o]) L=.ok V p/\(∃u:Y,p.cell? (Addr.add b 1)=some u)/\p.frozen? (Addr.add b 1)=false/\ak (p.setCell (Addr.add b 1) V) λM=>∃q:ad,M.cell? (Addr.add b 2)=some (.slice q.a q.len q.cap)/\∃r:ad,M.cell? (Addr.add aH 2)=some (.slice r.a r.len r.cap)/\∃W:ad,∃s:J,Sem.run ai (Builtin.append_ #[127,127] 127 #[q,r]) M=.ok W s/\(∃u:Y,s.cell? (Addr.add b 2)=some u)/\s.frozen? (Addr.add b 2)=false/\ak (s.setCell (Addr.add b 2) W) λN=>∃t:ad,N.cell? (Addr.add b 3)=some (.slice t.a t.len t.cap)/\∃v:ad,N.cell? (Addr.add aH 3)=some (.slice v.a v.len v.cap)/\∃X:ad,∃w:J,Sem.run ai (Builtin.append_ #[58,58] 58 #[t,v]) N=.ok X w/\(∃u:Y,w.cell? (Addr.add b 3)=some u)/\w.frozen? (Addr.add b 3)=false/\ak (w.setCell (Addr.add b 3) X) λe=>∃Z:al,e.cell? b=some (.bool Z)/\∃x:ad,e.cell? (Addr.add b 1)=some (.slice x.a x.len x.cap)/\∃y:ad,e.cell? (Addr.add b 2)=some (.slice y.a y.len y.cap)/\∃z:ad,e.cell? (Addr.add b 3)=some (.slice z.a z.len z.cap)/\Calls ai 203 #[.agg #[Z,x,y,z]] e λag d=>∃O:al,ag=.returned O/\((!O)=true->bk d c [false,(),(),()]/\(4:Nat)=4/\ak (setCells d c 0 [false,(),(),()]) λf=>∃aa:al,f.cell? c=some (.bool aa)/\∃A:ad,f.cell? (Addr.add c 1)=some (.slice A.a A.len A.cap)/\∃B:ad,f.cell? (Addr.add c 2)=some (.slice B.a B.len B.cap)/\∃C:ad,f.cell? (Addr.add c 3)=some (.slice C.a C.len C.cap)/\Q (.tuple #[.agg #[aa,A,B,C],false]) f)/\((!O)=false->∃P:al,d.cell? b=some (.bool P)/\∃g:ad,d.cell? (Addr.add b 1)=some (.slice g.a g.len g.cap)/\∃h:ad,d.cell? (Addr.add b 2)=some (.slice h.a h.len h.cap)/\∃i:ad,d.cell? (Addr.add b 3)=some (.slice i.a i.len i.cap)/\bk d c [P,g,h,i]/\(4:Nat)=4/\ak (setCells d c 0 [P,g,h,i]) λj=>∃ab:al,j.cell? c=some (.bool ab)/\∃D:ad,j.cell? (Addr.add c 1)=some (.slice D.a D.len D.cap)/\∃E:ad,j.cell? (Addr.add c 2)=some (.slice E.a E.len E.cap)/\∃F:ad,j.cell? (Addr.add c 3)=some (.slice F.a F.len F.cap)/\Q (.tuple #[.agg #[ab,D,E,F],true]) j))
theorem k0{lo pa d aH T:Nat}{key U r o ab ac ae:ad}{w cm:J}{a b:aG}{s:Key}{bY cj bO C:Nat->Prop}{av:O Y}(a2:cm.cell? pa=some (.bool a.leaf))
 (aq:Var cm d [a.leaf,U,r,o] 202) (aw:Var cm aH [b.leaf,ab,ac,ae] 202)
 (g:e7 lo cm a U r o bY cj bO) (a3:bI C cm b ab ac ae) (f:∀q,C q->lo<=q/\q<cm.heap.size/\q≠d/\q≠aH/\¬bY q/\¬cj q/\¬bO q) (E:∀q,bY q\/cj q\/bO q->q≠d/\q≠aH) (la:lo<=d) (lb:lo<=aH) (ag:d≠aH)
 (a4:Var cm T av 202) (a5:av.length=4) (bB:T<lo) (a6:w.heap.size<=T) (t:Src 1 cm key (aD s)) (bC:s.length<=1000) (a8:Ext w cm) (hs:cQ (ee a s b)) (ax:a.leaf=b.leaf) (sa:cQ a) (sb:cQ b)
 (bW:a.keys.length<=10000) (bz:b.keys.length<=10000):CS pa d aH T key cm (pF (ee a s b) w):=by
 unfold CS;have bD:=aq.lt;have bE:=aw.lt;have ay:∀ {n:aG},cQ n->n.keys.length<=10000->n.vals.length<=10000/\n.kids.length<=10001:=λ{n} h1 h2=>by
  rcases h1 with h1|h1
  .rw[h1.len,h1.kids];exact⟨h2,cR _⟩
  .rw[h1.len,h1.vals];exact⟨cR _,I⟩
 obtain⟨bF,bG⟩:=ay sa bW;obtain⟨mE,bH⟩:=ay sb bz;have aA:ij lo cm d a U r o bY cj bO:=⟨aq,g.keys,g.vals,g.kids,λq c=>⟨(g.bn q c).1,(g.bn q c).2.1,(E q (.inl c)).1,(g.bn q c).2.2⟩,λq c=>⟨(g.bv q c).1,(g.bv q c).2.1,(E q (.inr (.inl c))).1,(g.bv q c).2.2⟩,λq c=>⟨(g.aM q c).1,(g.aM q c).2,(E q (.inr (.inr c))).1⟩,la⟩;refine j4 (λw'=>∃ (K:ad) (W:Nat->Prop),ij lo w' d ⟨a.leaf,if a.leaf then a.keys else a.keys++ [s],a.vals,a.kids⟩ K r o W cj bO/\af (λq=>q=d\/bY q) cm w'/\(∀q,W q->bY q\/cm.heap.size<=q)) (λq c=>⟨_,a2,λu=>?_,λu=>c _ ⟨U,bY,?_,.refl _ _,λq h=>.inl h⟩⟩) ?_
 .have u:a.leaf=false:=by simpa using u
  refine zl aA t I I λw' a9 W h1 h2 G=>c _ ⟨a9,W,?_,h2,G⟩;rw[if_neg (by rw[u];simp)];exact h1
 .have u:a.leaf=true:=by simpa using u
  rw[if_pos u];exact aA
 rintro w1 ⟨dn,ai,h1,H,aB⟩;have bJ:=H.size;have aC:=aw.ah H (by
  rintro(h|h)
  .exact ag h.symm
  .exact(E _ (.inl h)).2 rfl)
 have aF:=a3.ah H λq c h=>by
  have:=f q c;rcases h with h|h
  .exact this.2.2.1 h
  .exact this.2.2.2.2.1 h
 have a_:=a4.ah H (by
  rintro(h|h)
  .omega
  .have:=(g.bn _ h).1;omega)
 have ba:Ext w w1:=Ext.df a8 H λq c=>by
  rcases c with h|h
  .omega
  .have:=(g.bn _ h).1;omega
 obtain⟨L,X⟩:∃l,l=(if a.leaf then a.keys else a.keys++ [s]):=⟨_,rfl⟩;rw[←X]at h1;have bK:L.length<=10001:=by
  rw[X];split
  .omega
  .rw[cG];simp;omega
 obtain⟨b6,aZ,bf,bq⟩:=bP h1.v;obtain⟨d0,d1,d2,d3⟩:=bP aC;have x:∀q,aE dn q->ai q:=λk t=>by obtain⟨ts,_,_,G,_⟩:=h1.keys;exact(G k t).1
 have ak:∀q,aE r q->cj q:=λk t=>by obtain⟨ts,_,_,G,_⟩:=h1.vals;exact(G k t).1
 have aI:∀q,aE o q->bO q:=λk t=>(h1.kids.2 k t).1;have aJ:∀q,C q->¬aE dn q:=λq c h=>by
  rcases aB q (x q h) with h2|h2
  .exact(f q c).2.2.2.2.1 h2
  .have:=(f q c).2.1;omega
 obtain⟨cy,aj,M,N,p⟩:=zp h1.keys aF.keys aJ (by show L.length<=_;omega) I;have aK:=h1.v.ah p λh=>(h1.bn _ (x _ h)).2.2.1 rfl;obtain⟨P,R⟩:=eP aK (i:=1) (by simp);refine⟨dn,aZ,ab,d1,cy,aj,M,?_⟩;rw[az,az];refine⟨P,R,aX ?_⟩;obtain⟨j,al⟩:∃j,j=aj.setCell ⟨d,0+1,none⟩ cy:=⟨_,rfl⟩;rw[←al];have aL:af (λq=>q=d) aj j:=by rw[al];exact ek _ _ _ _
 have aN:Var j d [a.leaf,cy,r,o] 202:=by rw[al];exact eO aK _
 have y:af (λq=>q=d\/aE dn q) w1 j:=(p.mono λq _ h=>.inr h).trans (aL.mono λq _ h=>.inl h);have aO:=aC.ah y (by
  rintro(h|h)
  .exact ag h.symm
  .rcases aB _ (x _ h) with h2|h2
   .exact(E _ (.inl h2)).2 rfl
   .omega)
 have aP:=aF.ah y λq c h=>by
  rcases h with h|h
  .exact(f q c).2.2.1 h
  .exact aJ q c h
 have bb:=bx.ah h1.vals y λq c h=>by
  rcases h with h|h
  .exact(h1.bv q c).2.2.1 h
  .exact(h1.bn q (x q h)).2.2.2.1 c
 have bc:=cX.ah h1.kids y λq c h=>by
  rcases h with h|h
  .exact(h1.aM q c).2.2 h
  .exact(h1.bn q (x q h)).2.2.2.2 c
 have bd:=a_.ah y (by
  rintro(h|h)
  .omega
  .have:=(h1.bn _ (x _ h)).1;omega)
 have be:Ext w j:=Ext.df ba y λq c=>by
  rcases c with h|h
  .omega
  .have:=(h1.bn _ (x _ h)).1;omega
 have bg:bw (λq=>(ai q\/C q\/w1.heap.size<=q)/\q≠d) j cy (L++b.keys):=by
  have am:bw (λq=>(ai q\/C q\/w1.heap.size<=q)/\q≠d) aj cy (L++b.keys):=bw.a7 N λq _ c=>⟨c,by
   rcases c with h|h|h
   .exact(h1.bn _ h).2.2.1
   .exact(f _ h).2.2.1
   .omega⟩
  exact bw.ah am aL λq c h=>c.2 h
 obtain⟨b6,aZ,bf,bq⟩:=bP aN;obtain⟨d0,d1,d2,d3⟩:=bP aO;have bL:=y.size
 obtain⟨c_,Z,M,N,p⟩:=zp bb aP.vals (λq c h=>(f q c).2.2.2.2.2.1 (ak q h)) (by show a.vals.length<=_;omega) I;have aQ:=aN.ah p λh=>(h1.bv _ (ak _ h)).2.2.1 rfl;obtain⟨P,R⟩:=eP aQ (i:=2) (by simp);rw[az]at bf d2;refine⟨r,bf,ac,d2,c_,Z,M,?_⟩;rw[az,az];refine⟨P,R,aX ?_⟩;obtain⟨m,an⟩:∃m,m=Z.setCell ⟨d,0+2,none⟩ c_:=⟨_,rfl⟩;rw[←an];have aR:af (λq=>q=d) Z m:=by rw[an];exact ek _ _ _ _
 have aS:Var m d [a.leaf,cy,c_,o] 202:=by rw[an];exact eO aQ _
 have z:af (λq=>q=d\/cj q) j m:=(p.mono λq _ h=>.inr (ak q h)).trans (aR.mono λq _ h=>.inl h);have bh:=aO.ah z (by
  rintro(h|h)
  .exact ag h.symm
  .exact(E _ (.inr (.inl h))).2 rfl)
 have bi:=aP.ah z λq c h=>by
  rcases h with h|h
  .exact(f q c).2.2.1 h
  .exact(f q c).2.2.2.2.2.1 h
 have bj:=bw.ah bg z λq c h=>by
  rcases h with h|h
  .exact c.2 h
  .rcases c.1 with h2|h2|h2
   .exact(h1.bn _ h2).2.2.2.1 h
   .exact(f _ h2).2.2.2.2.2.1 h
   .have:=(h1.bv _ h).2.1;omega
 have bk:=cX.ah bc z λq c h=>by
  rcases h with h|h
  .exact(h1.aM q c).2.2 h
  .exact(h1.bv q h).2.2.2 c
 have bl:=bd.ah z (by
  rintro(h|h)
  .omega
  .have:=(h1.bv _ h).1;omega)
 have bm:Ext w m:=Ext.df be z λq c=>by
  rcases c with h|h
  .omega
  .have:=(h1.bv _ h).1;omega
 have bo:bw (λq=>(cj q\/C q\/j.heap.size<=q)/\q≠d) m c_ (a.vals++b.vals):=by
  have am:bw (λq=>(cj q\/C q\/j.heap.size<=q)/\q≠d) Z c_ (a.vals++b.vals):=bw.a7 N λq _ c=>⟨c,by
   rcases c with h|h|h
   .exact(h1.bv _ h).2.2.1
   .exact(f _ h).2.2.1
   .omega⟩
  exact bw.ah am aR λq c h=>c.2 h
 obtain⟨b6,aZ,bf,bq⟩:=bP aS;obtain⟨d0,d1,d2,d3⟩:=bP bh;have bM:=z.size
 obtain⟨fW,ao,M,N,p⟩:=CR bk bi.kids (by show a.kids.length<=_;omega) I;have aT:=aS.ah p λh=>(h1.aM _ (aI _ h)).2.2 rfl;obtain⟨P,R⟩:=eP aT (i:=3) (by simp);rw[az]at bq d3;refine⟨o,bq,ae,d3,fW,ao,M,?_⟩;rw[az,az];refine⟨P,R,aX ?_⟩;obtain⟨A,ap⟩:∃A,A=ao.setCell ⟨d,0+3,none⟩ fW:=⟨_,rfl⟩;rw[←ap];have aU:af (λq=>q=d) ao A:=by rw[ap];exact ek _ _ _ _
 have aV:Var A d [a.leaf,cy,c_,fW] 202:=by rw[ap];exact eO aT _
 have S:af (λq=>q=d\/bO q) m A:=(p.mono λq _ h=>.inr (aI q h)).trans (aU.mono λq _ h=>.inl h);have bp:=bw.ah bj S λq c h=>by
  rcases h with h|h
  .exact c.2 h
  .rcases c.1 with h2|h2|h2
   .exact(h1.bn _ h2).2.2.2.2 h
   .exact(f _ h2).2.2.2.2.2.2 h
   .have:=(h1.aM _ h).2.1;omega
 have br:=bw.ah bo S λq c h=>by
  rcases h with h|h
  .exact c.2 h
  .rcases c.1 with h2|h2|h2
   .exact(h1.bv _ h2).2.2.2 h
   .exact(f _ h2).2.2.2.2.2.2 h
   .have:=(h1.aM _ h).2.1;omega
 have bs:=bl.ah S (by
  rintro(h|h)
  .omega
  .have:=(h1.aM _ h).1;omega)
 have bt:Ext w A:=Ext.df bm S λq c=>by
  rcases c with h|h
  .omega
  .have:=(h1.aM _ h).1;omega
 have bN:=S.size;have aW:bI (λq=>lo<=q) A (ee a s b) cy c_ fW:=by
  have k1:ee a s b=⟨a.leaf,L++b.keys,a.vals++b.vals,a.kids++b.kids⟩:=by
   unfold ee
   cases F:a.leaf with
   |true=>
    have ar:a.kids=[]:=by
     rcases sa with h|h
     .exact h.kids
     .have:=h.inner;rw[F]at this;cases this
    have kb:b.kids=[]:=by
     rcases sb with h|h
     .exact h.kids
     .have:=h.inner;rw[←ax,F]at this;cases this
    rw[X,F,ar,kb];simp
   |false=>
    have ar:a.vals=[]:=by
     rcases sa with h|h
     .have:=h.leaf;rw[F]at this;cases this
     .exact h.vals
    have kb:b.vals=[]:=by
     rcases sb with h|h
     .have:=h.leaf;rw[←ax,F]at this;cases this
     .exact h.vals
    rw[X,F,ar,kb];simp
  rw[k1];refine⟨bw.a7 bp λq _ c=>?_,bw.a7 br λq _ c=>?_,cZ.a7 (cZ.ah (B:=λq=>(bO q\/C q\/m.heap.size<=q)/\q≠d) (cZ.a7 N λq _ c=>⟨c,?_⟩) aU λq c h=>c.2 h) λq _ c=>?_⟩
  .rcases c.1 with h|h|h
   .exact(h1.bn _ h).1
   .exact(f _ h).1
   .omega
  .rcases c.1 with h|h|h
   .exact(h1.bv _ h).1
   .exact(f _ h).1
   .omega
  .rcases c with h|h|h
   .exact(h1.aM _ h).2.2
   .exact(f _ h).2.2.1
   .omega
  .rcases c.1 with h|h|h
   .exact(h1.aM _ h).1
   .exact(f _ h).1
   .omega
 obtain⟨b6,aZ,bf,bq⟩:=bP aV;rw[az]at aZ bf bq;have bQ:(ee a s b).keys.length<=20001:=by
  unfold ee;split
  .show(a.keys++b.keys).length<=_;rw[cG];omega
  .show(a.keys++s::b.keys).length<=_;rw[cG,gx];omega
 have bR:(ee a s b).vals.length<=20001:=by
  unfold ee;split
  .show(a.vals++b.vals).length<=_;rw[cG];omega
  .simp
 have bS:(ee a s b).kids.length<=20002:=by
  unfold ee;split
  .simp
  .show(a.kids++b.kids).length<=_;rw[cG];omega
 have aY:(ee a s b).leaf=a.leaf:=Ch
 repeat rw[az]
 refine⟨_,b6,cy,aZ,c_,bf,fW,bq,?_⟩;have au:=kz aW I I I;unfold c9 at au;rw[aY]at au;refine au.use ?_;rintro _ bT ⟨bU,rfl,bu,aa⟩;have:=bu.2 hs;subst this;obtain⟨b6,aZ,bf,bq⟩:=bP (aV.ext aa);rw[az]at aZ bf bq;have a0:=jt a.leaf cy c_ fW (bs.ext aa) a5 (Q:=λbA K V D aj=>pF (ee a s b) w (.tuple #[.agg #[bA,K,V,D],true]) aj) λbV a1=>⟨cy,c_,fW,by unfold c9;rw[aY],((aW.ext aa).ah a1 λq c e=>I).a7 λq _ c=>I,Ext.cD (bt.trans aa) a1 a6⟩
 repeat rw[az]at a0
 exact⟨true,rfl,λh=>(by cases h),λ_=>⟨_,b6,cy,aZ,c_,bf,fW,bq,a0⟩⟩
theorem pd{a_ ba:Nat->Prop}{w:J}{a b:aG}{aF aI aJ aL aN aO key:ad}{s:Key}(a3:bI a_ w a aF aI aJ)(a4:bI ba w b aL aN aO)(az:Src 1 w key (aD s))(W:∀q,aE key q->q<w.heap.size)(X:s.length<=1000)(sa:cQ a)(sb:cQ b)(U:a.leaf=b.leaf)(hs:cQ (ee a s b))
 (bW:a.keys.length<=10000) (bz:b.keys.length<=10000):
 aK ai 282 #[c9 a aF aI aJ,key,c9 b aL aN aO] w (pF (ee a s b) w):=by
 have a5:∀ {n:aG},cQ n->n.keys.length<=10000->n.vals.length<=10000/\n.kids.length<=10001:=λ{n} h1 h2=>by
  rcases h1 with h1|h1
  .rw[h1.len,h1.kids];exact⟨h2,cR _⟩
  .rw[h1.len,h1.vals];exact⟨cR _,I⟩
 obtain⟨bl,bm⟩:=a5 sa bW;obtain⟨mE,bo⟩:=a5 sb bz;have aS:∀k∈a.keys,k.length<=100000:=λk az=>by have:=(sa.keys.ok k az).2;omega
 have ab:∀k∈b.keys,k.length<=100000:=λk az=>by have:=(sb.keys.ok k az).2;omega
 have aT:∀k∈a.vals,k.length<=100000:=λk az=>by have:=sa.vals k az;omega
 have ac:∀k∈b.vals,k.length<=100000:=λk az=>by have:=sb.vals k az;omega
 refine okF (ae.pd a.leaf aF aI aJ key b.leaf aL aN aO) ay.pd func282 ?_;(delta ae.pd cU aY aa r1 b8 qq an gi sw gK bQ bK uT st su oU;dsimp only);refine bc (vs:=[a.leaf,aF,aI,aJ]) rfl λw1 a1 bb bp=>?_;refine bc (vs:=[b.leaf,aL,aN,aO]) rfl λaj a2 aW br=>?_;refine bc (vs:=[false,(),(),()]) rfl λbd be aP bs=>?_;have a6:=bb.trans (aW.trans aP);obtain⟨b6,aZ,bf,bq⟩:=bP (a1.ext (aW.trans aP));refine⟨_,b6,aF,aZ,aI,bf,aJ,bq,(kz (a3.ext a6) I I I).use ?_⟩;rintro _ bg ⟨cr,rfl,bh,aC⟩;have:=bh.2 sa;subst this;have a8:=a6.trans aC;obtain⟨d0,d1,d2,d3⟩:=bP (a2.ext (aP.trans aC));refine⟨true,rfl,cq (λb w'=>b=false/\Ext bg w') (λq c=>⟨λh=>(by cases h),λ_=>⟨_,d0,aL,d1,aN,d2,aO,d3,(kz (a4.ext a8) I I I).use ?_⟩⟩) ?_⟩
 .rintro _ a0 ⟨bX,rfl,bi,aA⟩
  have:=bi.2 sb;subst this;exact⟨true,rfl,c _ _ ⟨rfl,aA⟩⟩
 rintro _ a0 ⟨rfl,aA⟩;have bj:=a8.trans aA;obtain⟨b6,aZ,bf,bq⟩:=bP (a1.ext (aW.trans (aP.trans (aC.trans aA))));obtain⟨d0,d1,d2,d3⟩:=bP (a2.ext (aP.trans (aC.trans aA)));refine cq (λb w'=>b=false/\a0=w') (λq c=>⟨λh=>(by cases h),λ_=>⟨_,b6,_,d0,c _ _ ⟨by rw[U];simp,rfl⟩⟩⟩) ?_;rintro _ _ ⟨rfl,rfl⟩;have aU:=cE a0;have a9:=bj.trans aU;obtain⟨P,aQ⟩:∃P,P=a0.drew:=⟨_,rfl⟩;have V:Var P w.heap.size [a.leaf,aF,aI,aJ] 202:=by rw[aQ];exact(a1.ext (aW.trans (aP.trans (aC.trans aA)))).ext aU
 have bk:Var P w1.heap.size [b.leaf,aL,aN,aO] 202:=by rw[aQ];exact(a2.ext (aP.trans (aC.trans aA))).ext aU
 have Y:Var P aj.heap.size [false,(),(),()] 202:=by rw[aQ];exact(be.ext (aC.trans aA)).ext aU
 have O:Ext w P:=by rw[aQ];exact a9
 have bt:bd.heap.size<=P.heap.size:=by rw[aQ];exact(aC.trans aA).size
 have aV:=a3.ext O;have ag:=a4.ext O;have Z:=az.ext O;obtain⟨lo,bu⟩:∃lo,lo=P.heap.size:=⟨_,rfl⟩;rw[←aQ];clear b6 aZ bf bq d0 d1 d2 d3 aQ a9 aU;obtain⟨b6,aZ,bf,bq⟩:=bP V;obtain⟨d0,d1,d2,d3⟩:=bP bk;refine⟨λh=>(by cases h),λ_=>aX ⟨λ_=>False,id,_,b6,aF,aZ,aI,bf,aJ,bq,id,_,d0,aL,d1,aN,d2,aO,d3,?_⟩⟩;refine⟨?_,?_,?_⟩
 .refine(eZ aV I I I aS aT).use ?_
  rintro _ K ⟨F,G,H,L,M,N,rfl,d,aw⟩;refine⟨_,F,G,H,rfl,aw,?_⟩;have s1:=aw.size;refine⟨?_,?_,?_⟩
  .refine(eZ (ag.ext aw) I I I ab ac).use ?_
   rintro _ v ⟨p,r,t,ar,au,av,rfl,T,ax⟩;refine⟨_,p,r,t,rfl,ax,?_⟩;have s2:=ax.size;refine⟨?_,?_⟩
   .refine bc (vs:=[false,(),(),()]) rfl λu ak g z3=>⟨g,?_⟩
    have al:=g.size;refine bc (vs:=[false,(),(),()]) rfl λx am f z4=>⟨f,?_⟩;have ao:=f.size;have y:=ak.ext f;have Q:=am;refine⟨y.b3 rfl (fS _ _ _ _),rfl,cp y (us:=[a.leaf,F,G,H]) rfl rfl λap z c6 t5=>?_⟩;have A:=Q.ah c6 I;refine⟨A.b3 rfl (fS _ _ _ _),rfl,cp A (us:=[b.leaf,p,r,t]) rfl rfl λj B m t6=>?_⟩;obtain⟨o,D⟩:∃o,o=v.heap.size:=⟨_,rfl⟩;obtain⟨aH,E⟩:∃aH,aH=u.heap.size:=⟨_,rfl⟩;rw[←D]at z c6;rw[←E]at B m;rw[←D,←E];have i:af (λq=>q=o\/q=aH) x j:=(c6.mono λq _ h=>.inl h).trans (m.mono λq _ h=>.inr h);have R:e7 lo j a F G H L M N:=(((d.ext (ax.trans (g.trans (f)))).ah i λq _ _ c e=>by have aq:P.heap.size<=q/\q<K.heap.size:=(by rcases c with c|c|c;exact⟨(d.bn q c).1,(d.bn q c).2.1⟩;exact⟨(d.bv q c).1,(d.bv q c).2.1⟩;exact d.aM q c);omega).low I);have S:bI (λq=>K.heap.size<=q/\q<v.heap.size) j b p r t:=((T.at.a7 λq h1 h2=>⟨h2,h1⟩).ext (g.trans (f))).ah i λq c e=>by omega
    have l:∀q,L q\/M q\/N q->P.heap.size<=q/\q<K.heap.size:=λq c=>by
     rcases c with c|c|c
     .exact⟨(d.bn q c).1,(d.bn q c).2.1⟩
     .exact⟨(d.bv q c).1,(d.bv q c).2.1⟩
     .exact d.aM q c
    exact k0 (lo:=lo) (cm:=j) (C:=λq=>K.heap.size<=q/\q<v.heap.size) ((V.ext (aw.trans (ax.trans (g.trans f)))).ah i I).cell (z.ah m I) B R S (λq c=>⟨I,I,I,I,λh=>(by have:=l q (.inl h);omega),λh=>(by have:=l q (.inr (.inl h));omega),λh=>(by have:=l q (.inr (.inr h));omega)⟩) (λq c=>(by have:=l q c;exact⟨I,I⟩)) I I I ((Y.ext (aw.trans (ax.trans (g.trans f)))).ah i I) rfl I I ((Z.ext (aw.trans (ax.trans (g.trans f)))).ah i λq c e=>(by have:=W q c;have:=O.size;omega)) X (Ext.df (O.trans (aw.trans (ax.trans (g.trans f)))) i λq c=>I) hs U sa sb bW bz
   .refine bc (vs:=[false,(),(),()]) rfl λu ak g z3=>⟨g,?_⟩
    have al:=g.size;refine bc (vs:=[false,(),(),()]) rfl λx am f z4=>⟨f,?_⟩;have ao:=f.size;have y:=am;have Q:=ak.ext f;refine⟨y.b3 rfl (fS _ _ _ _),rfl,cp y (us:=[a.leaf,F,G,H]) rfl rfl λap z c6 t5=>?_⟩;have A:=Q.ah c6 I;refine⟨A.b3 rfl (fS _ _ _ _),rfl,cp A (us:=[b.leaf,p,r,t]) rfl rfl λj B m t6=>?_⟩;obtain⟨o,D⟩:∃o,o=u.heap.size:=⟨_,rfl⟩;obtain⟨aH,E⟩:∃aH,aH=v.heap.size:=⟨_,rfl⟩;rw[←D]at z c6;rw[←E]at B m;rw[←D,←E];have i:af (λq=>q=o\/q=aH) x j:=(c6.mono λq _ h=>.inl h).trans (m.mono λq _ h=>.inr h);have R:e7 lo j a F G H L M N:=(((d.ext (ax.trans (g.trans (f)))).ah i λq _ _ c e=>by have aq:P.heap.size<=q/\q<K.heap.size:=(by rcases c with c|c|c;exact⟨(d.bn q c).1,(d.bn q c).2.1⟩;exact⟨(d.bv q c).1,(d.bv q c).2.1⟩;exact d.aM q c);omega).low I);have S:bI (λq=>K.heap.size<=q/\q<v.heap.size) j b p r t:=((T.at.a7 λq h1 h2=>⟨h2,h1⟩).ext (g.trans (f))).ah i λq c e=>by omega
    have l:∀q,L q\/M q\/N q->P.heap.size<=q/\q<K.heap.size:=λq c=>by
     rcases c with c|c|c
     .exact⟨(d.bn q c).1,(d.bn q c).2.1⟩
     .exact⟨(d.bv q c).1,(d.bv q c).2.1⟩
     .exact d.aM q c
    exact k0 (lo:=lo) (cm:=j) (C:=λq=>K.heap.size<=q/\q<v.heap.size) ((V.ext (aw.trans (ax.trans (g.trans f)))).ah i I).cell (z.ah m I) B R S (λq c=>⟨I,I,I,I,λh=>(by have:=l q (.inl h);omega),λh=>(by have:=l q (.inr (.inl h));omega),λh=>(by have:=l q (.inr (.inr h));omega)⟩) (λq c=>(by have:=l q c;exact⟨I,I⟩)) I I I ((Y.ext (aw.trans (ax.trans (g.trans f)))).ah i I) rfl I I ((Z.ext (aw.trans (ax.trans (g.trans f)))).ah i λq c e=>(by have:=W q c;have:=O.size;omega)) X (Ext.df (O.trans (aw.trans (ax.trans (g.trans f)))) i λq c=>I) hs U sa sb bW bz
  .refine bc (vs:=[false,(),(),()]) rfl λv aB ax fc=>⟨ax,?_⟩
   have s2:=ax.size;refine⟨?_,?_⟩
   .refine(eZ (ag.ext (aw.trans (ax))) I I I ab ac).use ?_
    rintro _ u ⟨p,r,t,ar,au,av,rfl,T,g⟩;refine⟨_,p,r,t,rfl,g,?_⟩;have al:=g.size;refine bc (vs:=[false,(),(),()]) rfl λx am f z4=>⟨f,?_⟩;have ao:=f.size;have y:=aB.ext (g.trans (f));have Q:=am;refine⟨y.b3 rfl (fS _ _ _ _),rfl,cp y (us:=[a.leaf,F,G,H]) rfl rfl λap z c6 t5=>?_⟩;have A:=Q.ah c6 I;refine⟨A.b3 rfl (fS _ _ _ _),rfl,cp A (us:=[b.leaf,p,r,t]) rfl rfl λj B m t6=>?_⟩;obtain⟨o,D⟩:∃o,o=K.heap.size:=⟨_,rfl⟩;obtain⟨aH,E⟩:∃aH,aH=u.heap.size:=⟨_,rfl⟩;rw[←D]at z c6;rw[←E]at B m;rw[←D,←E];have i:af (λq=>q=o\/q=aH) x j:=(c6.mono λq _ h=>.inl h).trans (m.mono λq _ h=>.inr h);have R:e7 lo j a F G H L M N:=(((d.ext (ax.trans (g.trans (f)))).ah i λq _ _ c e=>by have aq:P.heap.size<=q/\q<K.heap.size:=(by rcases c with c|c|c;exact⟨(d.bn q c).1,(d.bn q c).2.1⟩;exact⟨(d.bv q c).1,(d.bv q c).2.1⟩;exact d.aM q c);omega).low I);have S:bI (λq=>v.heap.size<=q/\q<u.heap.size) j b p r t:=((T.at.a7 λq h1 h2=>⟨h2,h1⟩).ext f).ah i λq c e=>by omega
    have l:∀q,L q\/M q\/N q->P.heap.size<=q/\q<K.heap.size:=λq c=>by
     rcases c with c|c|c
     .exact⟨(d.bn q c).1,(d.bn q c).2.1⟩
     .exact⟨(d.bv q c).1,(d.bv q c).2.1⟩
     .exact d.aM q c
    exact k0 (lo:=lo) (cm:=j) (C:=λq=>v.heap.size<=q/\q<u.heap.size) ((V.ext (aw.trans (ax.trans (g.trans f)))).ah i I).cell (z.ah m I) B R S (λq c=>⟨I,I,I,I,λh=>(by have:=l q (.inl h);omega),λh=>(by have:=l q (.inr (.inl h));omega),λh=>(by have:=l q (.inr (.inr h));omega)⟩) (λq c=>(by have:=l q c;exact⟨I,I⟩)) I I I ((Y.ext (aw.trans (ax.trans (g.trans f)))).ah i I) rfl I I ((Z.ext (aw.trans (ax.trans (g.trans f)))).ah i λq c e=>(by have:=W q c;have:=O.size;omega)) X (Ext.df (O.trans (aw.trans (ax.trans (g.trans f)))) i λq c=>I) hs U sa sb bW bz
   .refine bc (vs:=[false,(),(),()]) rfl λu ak g z3=>⟨g,?_⟩
    have al:=g.size;refine(eZ (ag.ext (aw.trans (ax.trans (g)))) I I I ab ac).use ?_;rintro _ x ⟨p,r,t,ar,au,av,rfl,T,f⟩;refine⟨_,p,r,t,rfl,f,?_⟩;have ao:=f.size;have y:=aB.ext (g.trans (f));have Q:=ak.ext f;refine⟨y.b3 rfl (fS _ _ _ _),rfl,cp y (us:=[a.leaf,F,G,H]) rfl rfl λap z c6 t5=>?_⟩;have A:=Q.ah c6 I;refine⟨A.b3 rfl (fS _ _ _ _),rfl,cp A (us:=[b.leaf,p,r,t]) rfl rfl λj B m t6=>?_⟩;obtain⟨o,D⟩:∃o,o=K.heap.size:=⟨_,rfl⟩;obtain⟨aH,E⟩:∃aH,aH=v.heap.size:=⟨_,rfl⟩;rw[←D]at z c6;rw[←E]at B m;rw[←D,←E];have i:af (λq=>q=o\/q=aH) x j:=(c6.mono λq _ h=>.inl h).trans (m.mono λq _ h=>.inr h);have R:e7 lo j a F G H L M N:=(((d.ext (ax.trans (g.trans (f)))).ah i λq _ _ c e=>by have aq:P.heap.size<=q/\q<K.heap.size:=(by rcases c with c|c|c;exact⟨(d.bn q c).1,(d.bn q c).2.1⟩;exact⟨(d.bv q c).1,(d.bv q c).2.1⟩;exact d.aM q c);omega).low I);have S:bI (λq=>u.heap.size<=q/\q<x.heap.size) j b p r t:=(T.at.a7 λq h1 h2=>⟨h2,h1⟩).ah i λq c e=>by omega
    have l:∀q,L q\/M q\/N q->P.heap.size<=q/\q<K.heap.size:=λq c=>by
     rcases c with c|c|c
     .exact⟨(d.bn q c).1,(d.bn q c).2.1⟩
     .exact⟨(d.bv q c).1,(d.bv q c).2.1⟩
     .exact d.aM q c
    exact k0 (lo:=lo) (cm:=j) (C:=λq=>u.heap.size<=q/\q<x.heap.size) ((V.ext (aw.trans (ax.trans (g.trans f)))).ah i I).cell (z.ah m I) B R S (λq c=>⟨I,I,I,I,λh=>(by have:=l q (.inl h);omega),λh=>(by have:=l q (.inr (.inl h));omega),λh=>(by have:=l q (.inr (.inr h));omega)⟩) (λq c=>(by have:=l q c;exact⟨I,I⟩)) I I I ((Y.ext (aw.trans (ax.trans (g.trans f)))).ah i I) rfl I I ((Z.ext (aw.trans (ax.trans (g.trans f)))).ah i λq c e=>(by have:=W q c;have:=O.size;omega)) X (Ext.df (O.trans (aw.trans (ax.trans (g.trans f)))) i λq c=>I) hs U sa sb bW bz
  .refine bc (vs:=[false,(),(),()]) rfl λv aB ax fc=>⟨ax,?_⟩
   have s2:=ax.size;refine⟨?_,?_⟩
   .refine(eZ (ag.ext (aw.trans (ax))) I I I ab ac).use ?_
    rintro _ u ⟨p,r,t,ar,au,av,rfl,T,g⟩;refine⟨_,p,r,t,rfl,g,?_⟩;have al:=g.size;refine bc (vs:=[false,(),(),()]) rfl λx am f z4=>⟨f,?_⟩;have ao:=f.size;have y:=am;have Q:=aB.ext (g.trans (f));refine⟨y.b3 rfl (fS _ _ _ _),rfl,cp y (us:=[a.leaf,F,G,H]) rfl rfl λap z c6 t5=>?_⟩;have A:=Q.ah c6 I;refine⟨A.b3 rfl (fS _ _ _ _),rfl,cp A (us:=[b.leaf,p,r,t]) rfl rfl λj B m t6=>?_⟩;obtain⟨o,D⟩:∃o,o=u.heap.size:=⟨_,rfl⟩;obtain⟨aH,E⟩:∃aH,aH=K.heap.size:=⟨_,rfl⟩;rw[←D]at z c6;rw[←E]at B m;rw[←D,←E];have i:af (λq=>q=o\/q=aH) x j:=(c6.mono λq _ h=>.inl h).trans (m.mono λq _ h=>.inr h);have R:e7 lo j a F G H L M N:=(((d.ext (ax.trans (g.trans (f)))).ah i λq _ _ c e=>by have aq:P.heap.size<=q/\q<K.heap.size:=(by rcases c with c|c|c;exact⟨(d.bn q c).1,(d.bn q c).2.1⟩;exact⟨(d.bv q c).1,(d.bv q c).2.1⟩;exact d.aM q c);omega).low I);have S:bI (λq=>v.heap.size<=q/\q<u.heap.size) j b p r t:=((T.at.a7 λq h1 h2=>⟨h2,h1⟩).ext f).ah i λq c e=>by omega
    have l:∀q,L q\/M q\/N q->P.heap.size<=q/\q<K.heap.size:=λq c=>by
     rcases c with c|c|c
     .exact⟨(d.bn q c).1,(d.bn q c).2.1⟩
     .exact⟨(d.bv q c).1,(d.bv q c).2.1⟩
     .exact d.aM q c
    exact k0 (lo:=lo) (cm:=j) (C:=λq=>v.heap.size<=q/\q<u.heap.size) ((V.ext (aw.trans (ax.trans (g.trans f)))).ah i I).cell (z.ah m I) B R S (λq c=>⟨I,I,I,I,λh=>(by have:=l q (.inl h);omega),λh=>(by have:=l q (.inr (.inl h));omega),λh=>(by have:=l q (.inr (.inr h));omega)⟩) (λq c=>(by have:=l q c;exact⟨I,I⟩)) I I I ((Y.ext (aw.trans (ax.trans (g.trans f)))).ah i I) rfl I I ((Z.ext (aw.trans (ax.trans (g.trans f)))).ah i λq c e=>(by have:=W q c;have:=O.size;omega)) X (Ext.df (O.trans (aw.trans (ax.trans (g.trans f)))) i λq c=>I) hs U sa sb bW bz
   .refine bc (vs:=[false,(),(),()]) rfl λu ak g z3=>⟨g,?_⟩
    have al:=g.size;refine(eZ (ag.ext (aw.trans (ax.trans (g)))) I I I ab ac).use ?_;rintro _ x ⟨p,r,t,ar,au,av,rfl,T,f⟩;refine⟨_,p,r,t,rfl,f,?_⟩;have ao:=f.size;have y:=ak.ext f;have Q:=aB.ext (g.trans (f));refine⟨y.b3 rfl (fS _ _ _ _),rfl,cp y (us:=[a.leaf,F,G,H]) rfl rfl λap z c6 t5=>?_⟩;have A:=Q.ah c6 I;refine⟨A.b3 rfl (fS _ _ _ _),rfl,cp A (us:=[b.leaf,p,r,t]) rfl rfl λj B m t6=>?_⟩;obtain⟨o,D⟩:∃o,o=v.heap.size:=⟨_,rfl⟩;obtain⟨aH,E⟩:∃aH,aH=K.heap.size:=⟨_,rfl⟩;rw[←D]at z c6;rw[←E]at B m;rw[←D,←E];have i:af (λq=>q=o\/q=aH) x j:=(c6.mono λq _ h=>.inl h).trans (m.mono λq _ h=>.inr h);have R:e7 lo j a F G H L M N:=(((d.ext (ax.trans (g.trans (f)))).ah i λq _ _ c e=>by have aq:P.heap.size<=q/\q<K.heap.size:=(by rcases c with c|c|c;exact⟨(d.bn q c).1,(d.bn q c).2.1⟩;exact⟨(d.bv q c).1,(d.bv q c).2.1⟩;exact d.aM q c);omega).low I);have S:bI (λq=>u.heap.size<=q/\q<x.heap.size) j b p r t:=(T.at.a7 λq h1 h2=>⟨h2,h1⟩).ah i λq c e=>by omega
    have l:∀q,L q\/M q\/N q->P.heap.size<=q/\q<K.heap.size:=λq c=>by
     rcases c with c|c|c
     .exact⟨(d.bn q c).1,(d.bn q c).2.1⟩
     .exact⟨(d.bv q c).1,(d.bv q c).2.1⟩
     .exact d.aM q c
    exact k0 (lo:=lo) (cm:=j) (C:=λq=>u.heap.size<=q/\q<x.heap.size) ((V.ext (aw.trans (ax.trans (g.trans f)))).ah i I).cell (z.ah m I) B R S (λq c=>⟨I,I,I,I,λh=>(by have:=l q (.inl h);omega),λh=>(by have:=l q (.inr (.inl h));omega),λh=>(by have:=l q (.inr (.inr h));omega)⟩) (λq c=>(by have:=l q c;exact⟨I,I⟩)) I I I ((Y.ext (aw.trans (ax.trans (g.trans f)))).ah i I) rfl I I ((Z.ext (aw.trans (ax.trans (g.trans f)))).ah i λq c e=>(by have:=W q c;have:=O.size;omega)) X (Ext.df (O.trans (aw.trans (ax.trans (g.trans f)))) i λq c=>I) hs U sa sb bW bz
 .refine bc (vs:=[false,(),(),()]) rfl λK aR aw kt=>⟨aw,?_⟩
  have s1:=aw.size;refine⟨?_,?_⟩
  .refine(eZ (aV.ext aw) I I I aS aT).use ?_
   rintro _ v ⟨F,G,H,L,M,N,rfl,d,ax⟩;refine⟨_,F,G,H,rfl,ax,?_⟩;have s2:=ax.size;refine⟨?_,?_⟩
   .refine(eZ (ag.ext (aw.trans (ax))) I I I ab ac).use ?_
    rintro _ u ⟨p,r,t,ar,au,av,rfl,T,g⟩;refine⟨_,p,r,t,rfl,g,?_⟩;have al:=g.size;refine bc (vs:=[false,(),(),()]) rfl λx am f z4=>⟨f,?_⟩;have ao:=f.size;have y:=aR.ext (ax.trans (g.trans (f)));have Q:=am;refine⟨y.b3 rfl (fS _ _ _ _),rfl,cp y (us:=[a.leaf,F,G,H]) rfl rfl λap z c6 t5=>?_⟩;have A:=Q.ah c6 I;refine⟨A.b3 rfl (fS _ _ _ _),rfl,cp A (us:=[b.leaf,p,r,t]) rfl rfl λj B m t6=>?_⟩;obtain⟨o,D⟩:∃o,o=P.heap.size:=⟨_,rfl⟩;obtain⟨aH,E⟩:∃aH,aH=u.heap.size:=⟨_,rfl⟩;rw[←D]at z c6;rw[←E]at B m;rw[←D,←E];have i:af (λq=>q=o\/q=aH) x j:=(c6.mono λq _ h=>.inl h).trans (m.mono λq _ h=>.inr h);have R:e7 lo j a F G H L M N:=(((d.ext (g.trans (f))).ah i λq _ _ c e=>by have aq:K.heap.size<=q/\q<v.heap.size:=(by rcases c with c|c|c;exact⟨(d.bn q c).1,(d.bn q c).2.1⟩;exact⟨(d.bv q c).1,(d.bv q c).2.1⟩;exact d.aM q c);omega).low I);have S:bI (λq=>v.heap.size<=q/\q<u.heap.size) j b p r t:=((T.at.a7 λq h1 h2=>⟨h2,h1⟩).ext f).ah i λq c e=>by omega
    have l:∀q,L q\/M q\/N q->K.heap.size<=q/\q<v.heap.size:=λq c=>by
     rcases c with c|c|c
     .exact⟨(d.bn q c).1,(d.bn q c).2.1⟩
     .exact⟨(d.bv q c).1,(d.bv q c).2.1⟩
     .exact d.aM q c
    exact k0 (lo:=lo) (cm:=j) (C:=λq=>v.heap.size<=q/\q<u.heap.size) ((V.ext (aw.trans (ax.trans (g.trans f)))).ah i I).cell (z.ah m I) B R S (λq c=>⟨I,I,I,I,λh=>(by have:=l q (.inl h);omega),λh=>(by have:=l q (.inr (.inl h));omega),λh=>(by have:=l q (.inr (.inr h));omega)⟩) (λq c=>(by have:=l q c;exact⟨I,I⟩)) I I I ((Y.ext (aw.trans (ax.trans (g.trans f)))).ah i I) rfl I I ((Z.ext (aw.trans (ax.trans (g.trans f)))).ah i λq c e=>(by have:=W q c;have:=O.size;omega)) X (Ext.df (O.trans (aw.trans (ax.trans (g.trans f)))) i λq c=>I) hs U sa sb bW bz
   .refine bc (vs:=[false,(),(),()]) rfl λu ak g z3=>⟨g,?_⟩
    have al:=g.size;refine(eZ (ag.ext (aw.trans (ax.trans (g)))) I I I ab ac).use ?_;rintro _ x ⟨p,r,t,ar,au,av,rfl,T,f⟩;refine⟨_,p,r,t,rfl,f,?_⟩;have ao:=f.size;have y:=aR.ext (ax.trans (g.trans (f)));have Q:=ak.ext f;refine⟨y.b3 rfl (fS _ _ _ _),rfl,cp y (us:=[a.leaf,F,G,H]) rfl rfl λap z c6 t5=>?_⟩;have A:=Q.ah c6 I;refine⟨A.b3 rfl (fS _ _ _ _),rfl,cp A (us:=[b.leaf,p,r,t]) rfl rfl λj B m t6=>?_⟩;obtain⟨o,D⟩:∃o,o=P.heap.size:=⟨_,rfl⟩;obtain⟨aH,E⟩:∃aH,aH=v.heap.size:=⟨_,rfl⟩;rw[←D]at z c6;rw[←E]at B m;rw[←D,←E];have i:af (λq=>q=o\/q=aH) x j:=(c6.mono λq _ h=>.inl h).trans (m.mono λq _ h=>.inr h);have R:e7 lo j a F G H L M N:=(((d.ext (g.trans (f))).ah i λq _ _ c e=>by have aq:K.heap.size<=q/\q<v.heap.size:=(by rcases c with c|c|c;exact⟨(d.bn q c).1,(d.bn q c).2.1⟩;exact⟨(d.bv q c).1,(d.bv q c).2.1⟩;exact d.aM q c);omega).low I);have S:bI (λq=>u.heap.size<=q/\q<x.heap.size) j b p r t:=(T.at.a7 λq h1 h2=>⟨h2,h1⟩).ah i λq c e=>by omega
    have l:∀q,L q\/M q\/N q->K.heap.size<=q/\q<v.heap.size:=λq c=>by
     rcases c with c|c|c
     .exact⟨(d.bn q c).1,(d.bn q c).2.1⟩
     .exact⟨(d.bv q c).1,(d.bv q c).2.1⟩
     .exact d.aM q c
    exact k0 (lo:=lo) (cm:=j) (C:=λq=>u.heap.size<=q/\q<x.heap.size) ((V.ext (aw.trans (ax.trans (g.trans f)))).ah i I).cell (z.ah m I) B R S (λq c=>⟨I,I,I,I,λh=>(by have:=l q (.inl h);omega),λh=>(by have:=l q (.inr (.inl h));omega),λh=>(by have:=l q (.inr (.inr h));omega)⟩) (λq c=>(by have:=l q c;exact⟨I,I⟩)) I I I ((Y.ext (aw.trans (ax.trans (g.trans f)))).ah i I) rfl I I ((Z.ext (aw.trans (ax.trans (g.trans f)))).ah i λq c e=>(by have:=W q c;have:=O.size;omega)) X (Ext.df (O.trans (aw.trans (ax.trans (g.trans f)))) i λq c=>I) hs U sa sb bW bz
  .refine bc (vs:=[false,(),(),()]) rfl λv aB ax fc=>⟨ax,?_⟩
   have s2:=ax.size;refine(eZ (aV.ext (aw.trans (ax))) I I I aS aT).use ?_;rintro _ u ⟨F,G,H,L,M,N,rfl,d,g⟩;refine⟨_,F,G,H,rfl,g,?_⟩;have al:=g.size;refine(eZ (ag.ext (aw.trans (ax.trans (g)))) I I I ab ac).use ?_;rintro _ x ⟨p,r,t,ar,au,av,rfl,T,f⟩;refine⟨_,p,r,t,rfl,f,?_⟩;have ao:=f.size;have y:=aR.ext (ax.trans (g.trans (f)));have Q:=aB.ext (g.trans (f));refine⟨y.b3 rfl (fS _ _ _ _),rfl,cp y (us:=[a.leaf,F,G,H]) rfl rfl λap z c6 t5=>?_⟩;have A:=Q.ah c6 I;refine⟨A.b3 rfl (fS _ _ _ _),rfl,cp A (us:=[b.leaf,p,r,t]) rfl rfl λj B m t6=>?_⟩;obtain⟨o,D⟩:∃o,o=P.heap.size:=⟨_,rfl⟩;obtain⟨aH,E⟩:∃aH,aH=K.heap.size:=⟨_,rfl⟩;rw[←D]at z c6;rw[←E]at B m;rw[←D,←E];have i:af (λq=>q=o\/q=aH) x j:=(c6.mono λq _ h=>.inl h).trans (m.mono λq _ h=>.inr h);have R:e7 lo j a F G H L M N:=(((d.ext f).ah i λq _ _ c e=>by have aq:v.heap.size<=q/\q<u.heap.size:=(by rcases c with c|c|c;exact⟨(d.bn q c).1,(d.bn q c).2.1⟩;exact⟨(d.bv q c).1,(d.bv q c).2.1⟩;exact d.aM q c);omega).low I);have S:bI (λq=>u.heap.size<=q/\q<x.heap.size) j b p r t:=(T.at.a7 λq h1 h2=>⟨h2,h1⟩).ah i λq c e=>by omega
   have l:∀q,L q\/M q\/N q->v.heap.size<=q/\q<u.heap.size:=λq c=>by
    rcases c with c|c|c
    .exact⟨(d.bn q c).1,(d.bn q c).2.1⟩
    .exact⟨(d.bv q c).1,(d.bv q c).2.1⟩
    .exact d.aM q c
   exact k0 (lo:=lo) (cm:=j) (C:=λq=>u.heap.size<=q/\q<x.heap.size) ((V.ext (aw.trans (ax.trans (g.trans f)))).ah i I).cell (z.ah m I) B R S (λq c=>⟨I,I,I,I,λh=>(by have:=l q (.inl h);omega),λh=>(by have:=l q (.inr (.inl h));omega),λh=>(by have:=l q (.inr (.inr h));omega)⟩) (λq c=>(by have:=l q c;exact⟨I,I⟩)) I I I ((Y.ext (aw.trans (ax.trans (g.trans f)))).ah i I) rfl I I ((Z.ext (aw.trans (ax.trans (g.trans f)))).ah i λq c e=>(by have:=W q c;have:=O.size;omega)) X (Ext.df (O.trans (aw.trans (ax.trans (g.trans f)))) i λq c=>I) hs U sa sb bW bz
 .refine bc (vs:=[false,(),(),()]) rfl λK aR aw kt=>⟨aw,?_⟩
  have s1:=aw.size;refine⟨?_,?_⟩
  .refine(eZ (aV.ext aw) I I I aS aT).use ?_
   rintro _ v ⟨F,G,H,L,M,N,rfl,d,ax⟩;refine⟨_,F,G,H,rfl,ax,?_⟩;have s2:=ax.size;refine⟨?_,?_⟩
   .refine(eZ (ag.ext (aw.trans (ax))) I I I ab ac).use ?_
    rintro _ u ⟨p,r,t,ar,au,av,rfl,T,g⟩;refine⟨_,p,r,t,rfl,g,?_⟩;have al:=g.size;refine bc (vs:=[false,(),(),()]) rfl λx am f z4=>⟨f,?_⟩;have ao:=f.size;have y:=am;have Q:=aR.ext (ax.trans (g.trans (f)));refine⟨y.b3 rfl (fS _ _ _ _),rfl,cp y (us:=[a.leaf,F,G,H]) rfl rfl λap z c6 t5=>?_⟩;have A:=Q.ah c6 I;refine⟨A.b3 rfl (fS _ _ _ _),rfl,cp A (us:=[b.leaf,p,r,t]) rfl rfl λj B m t6=>?_⟩;obtain⟨o,D⟩:∃o,o=u.heap.size:=⟨_,rfl⟩;obtain⟨aH,E⟩:∃aH,aH=P.heap.size:=⟨_,rfl⟩;rw[←D]at z c6;rw[←E]at B m;rw[←D,←E];have i:af (λq=>q=o\/q=aH) x j:=(c6.mono λq _ h=>.inl h).trans (m.mono λq _ h=>.inr h);have R:e7 lo j a F G H L M N:=(((d.ext (g.trans (f))).ah i λq _ _ c e=>by have aq:K.heap.size<=q/\q<v.heap.size:=(by rcases c with c|c|c;exact⟨(d.bn q c).1,(d.bn q c).2.1⟩;exact⟨(d.bv q c).1,(d.bv q c).2.1⟩;exact d.aM q c);omega).low I);have S:bI (λq=>v.heap.size<=q/\q<u.heap.size) j b p r t:=((T.at.a7 λq h1 h2=>⟨h2,h1⟩).ext f).ah i λq c e=>by omega
    have l:∀q,L q\/M q\/N q->K.heap.size<=q/\q<v.heap.size:=λq c=>by
     rcases c with c|c|c
     .exact⟨(d.bn q c).1,(d.bn q c).2.1⟩
     .exact⟨(d.bv q c).1,(d.bv q c).2.1⟩
     .exact d.aM q c
    exact k0 (lo:=lo) (cm:=j) (C:=λq=>v.heap.size<=q/\q<u.heap.size) ((V.ext (aw.trans (ax.trans (g.trans f)))).ah i I).cell (z.ah m I) B R S (λq c=>⟨I,I,I,I,λh=>(by have:=l q (.inl h);omega),λh=>(by have:=l q (.inr (.inl h));omega),λh=>(by have:=l q (.inr (.inr h));omega)⟩) (λq c=>(by have:=l q c;exact⟨I,I⟩)) I I I ((Y.ext (aw.trans (ax.trans (g.trans f)))).ah i I) rfl I I ((Z.ext (aw.trans (ax.trans (g.trans f)))).ah i λq c e=>(by have:=W q c;have:=O.size;omega)) X (Ext.df (O.trans (aw.trans (ax.trans (g.trans f)))) i λq c=>I) hs U sa sb bW bz
   .refine bc (vs:=[false,(),(),()]) rfl λu ak g z3=>⟨g,?_⟩
    have al:=g.size;refine(eZ (ag.ext (aw.trans (ax.trans (g)))) I I I ab ac).use ?_;rintro _ x ⟨p,r,t,ar,au,av,rfl,T,f⟩;refine⟨_,p,r,t,rfl,f,?_⟩;have ao:=f.size;have y:=ak.ext f;have Q:=aR.ext (ax.trans (g.trans (f)));refine⟨y.b3 rfl (fS _ _ _ _),rfl,cp y (us:=[a.leaf,F,G,H]) rfl rfl λap z c6 t5=>?_⟩;have A:=Q.ah c6 I;refine⟨A.b3 rfl (fS _ _ _ _),rfl,cp A (us:=[b.leaf,p,r,t]) rfl rfl λj B m t6=>?_⟩;obtain⟨o,D⟩:∃o,o=v.heap.size:=⟨_,rfl⟩;obtain⟨aH,E⟩:∃aH,aH=P.heap.size:=⟨_,rfl⟩;rw[←D]at z c6;rw[←E]at B m;rw[←D,←E];have i:af (λq=>q=o\/q=aH) x j:=(c6.mono λq _ h=>.inl h).trans (m.mono λq _ h=>.inr h);have R:e7 lo j a F G H L M N:=(((d.ext (g.trans (f))).ah i λq _ _ c e=>by have aq:K.heap.size<=q/\q<v.heap.size:=(by rcases c with c|c|c;exact⟨(d.bn q c).1,(d.bn q c).2.1⟩;exact⟨(d.bv q c).1,(d.bv q c).2.1⟩;exact d.aM q c);omega).low I);have S:bI (λq=>u.heap.size<=q/\q<x.heap.size) j b p r t:=(T.at.a7 λq h1 h2=>⟨h2,h1⟩).ah i λq c e=>by omega
    have l:∀q,L q\/M q\/N q->K.heap.size<=q/\q<v.heap.size:=λq c=>by
     rcases c with c|c|c
     .exact⟨(d.bn q c).1,(d.bn q c).2.1⟩
     .exact⟨(d.bv q c).1,(d.bv q c).2.1⟩
     .exact d.aM q c
    exact k0 (lo:=lo) (cm:=j) (C:=λq=>u.heap.size<=q/\q<x.heap.size) ((V.ext (aw.trans (ax.trans (g.trans f)))).ah i I).cell (z.ah m I) B R S (λq c=>⟨I,I,I,I,λh=>(by have:=l q (.inl h);omega),λh=>(by have:=l q (.inr (.inl h));omega),λh=>(by have:=l q (.inr (.inr h));omega)⟩) (λq c=>(by have:=l q c;exact⟨I,I⟩)) I I I ((Y.ext (aw.trans (ax.trans (g.trans f)))).ah i I) rfl I I ((Z.ext (aw.trans (ax.trans (g.trans f)))).ah i λq c e=>(by have:=W q c;have:=O.size;omega)) X (Ext.df (O.trans (aw.trans (ax.trans (g.trans f)))) i λq c=>I) hs U sa sb bW bz
  .refine bc (vs:=[false,(),(),()]) rfl λv aB ax fc=>⟨ax,?_⟩
   have s2:=ax.size;refine(eZ (aV.ext (aw.trans (ax))) I I I aS aT).use ?_;rintro _ u ⟨F,G,H,L,M,N,rfl,d,g⟩;refine⟨_,F,G,H,rfl,g,?_⟩;have al:=g.size;refine(eZ (ag.ext (aw.trans (ax.trans (g)))) I I I ab ac).use ?_;rintro _ x ⟨p,r,t,ar,au,av,rfl,T,f⟩;refine⟨_,p,r,t,rfl,f,?_⟩;have ao:=f.size;have y:=aB.ext (g.trans (f));have Q:=aR.ext (ax.trans (g.trans (f)));refine⟨y.b3 rfl (fS _ _ _ _),rfl,cp y (us:=[a.leaf,F,G,H]) rfl rfl λap z c6 t5=>?_⟩;have A:=Q.ah c6 I;refine⟨A.b3 rfl (fS _ _ _ _),rfl,cp A (us:=[b.leaf,p,r,t]) rfl rfl λj B m t6=>?_⟩;obtain⟨o,D⟩:∃o,o=K.heap.size:=⟨_,rfl⟩;obtain⟨aH,E⟩:∃aH,aH=P.heap.size:=⟨_,rfl⟩;rw[←D]at z c6;rw[←E]at B m;rw[←D,←E];have i:af (λq=>q=o\/q=aH) x j:=(c6.mono λq _ h=>.inl h).trans (m.mono λq _ h=>.inr h);have R:e7 lo j a F G H L M N:=(((d.ext f).ah i λq _ _ c e=>by have aq:v.heap.size<=q/\q<u.heap.size:=(by rcases c with c|c|c;exact⟨(d.bn q c).1,(d.bn q c).2.1⟩;exact⟨(d.bv q c).1,(d.bv q c).2.1⟩;exact d.aM q c);omega).low I);have S:bI (λq=>u.heap.size<=q/\q<x.heap.size) j b p r t:=(T.at.a7 λq h1 h2=>⟨h2,h1⟩).ah i λq c e=>by omega
   have l:∀q,L q\/M q\/N q->v.heap.size<=q/\q<u.heap.size:=λq c=>by
    rcases c with c|c|c
    .exact⟨(d.bn q c).1,(d.bn q c).2.1⟩
    .exact⟨(d.bv q c).1,(d.bv q c).2.1⟩
    .exact d.aM q c
   exact k0 (lo:=lo) (cm:=j) (C:=λq=>u.heap.size<=q/\q<x.heap.size) ((V.ext (aw.trans (ax.trans (g.trans f)))).ah i I).cell (z.ah m I) B R S (λq c=>⟨I,I,I,I,λh=>(by have:=l q (.inl h);omega),λh=>(by have:=l q (.inr (.inl h));omega),λh=>(by have:=l q (.inr (.inr h));omega)⟩) (λq c=>(by have:=l q c;exact⟨I,I⟩)) I I I ((Y.ext (aw.trans (ax.trans (g.trans f)))).ah i I) rfl I I ((Z.ext (aw.trans (ax.trans (g.trans f)))).ah i λq c e=>(by have:=W q c;have:=O.size;omega)) X (Ext.df (O.trans (aw.trans (ax.trans (g.trans f)))) i λq c=>I) hs U sa sb bW bz
section
variable {α:Type}{c:α->O Y}{sz:Nat}
def bg(c:α->O Y)(l:O α):O Y:=(l.map c).flatten
theorem jO(l m:O α):bg c (l++m)=bg c l++bg c m:=by simp[bg]
theorem rf(x:α)(l:O α):bg c (x::l)=c x++bg c l:=rfl
theorem e4:∀ (l:O α),(∀x∈l,(c x).length=sz)->(bg c l).length=l.length*sz
 | [],_=>by simp[bg]
 |x::l,h=>by
  rw[rf,cG,h x (by simp),e4 l λy a=>h y (by simp[a]),gx,jz];omega
theorem H7{l:O α}{i:Nat}(h:i<l.length):l=l.take i++l[i]::l.drop (i+1):=by rw[←kk h,fV]
theorem zq{l:O α}(hc:∀x∈l,(c x).length=sz){i:Nat}(h:i<l.length):(bg c l).take (i*sz)=bg c (l.take i)/\(bg c l).drop (i*sz)=c l[i]++bg c (l.drop (i+1)):=by
 have a:(bg c (l.take i)).length=i*sz:=by
  rw[e4 _ λx hx=>hc x (eY hx),cz,iz I]
 have e:bg c l=bg c (l.take i)++(c l[i]++bg c (l.drop (i+1))):=by
  conv=>lhs;rw[H7 h]
  rw[jO,rf]
 rw[e];exact⟨mY a,drop_left' a⟩
theorem CT{l:O α}(hc:∀x∈l,(c x).length=sz){i:Nat}(h:i<l.length):((bg c l).drop (i*sz)).take sz=c l[i]:=by
 rw[(zq hc h).2];exact mY (hc _ (cW h))
theorem w6{l:O α}(hc:∀x∈l,(c x).length=sz){i j:Nat}(h:i<l.length)(a:j<sz):(bg c l)[i*sz+j]? =(c l[i])[j]? :=by
 rw[←CT hc h,List.getElem?_take_of_lt a,tJ]
theorem CU{l:O α}(hc:∀x∈l,(c x).length=sz){i:Nat}(h:i<l.length)(x:α):(bg c l).take (i*sz)++c x++(bg c l).drop (i*sz+sz)=bg c (l.set i x):=by
 have h1:=zq hc h;have h2:(bg c l).drop (i*sz+sz)=bg c (l.drop (i+1)):=by
  rw[←kN,h1.2];exact drop_left' (hc _ (cW h))
 rw[h1.1,h2,xF,if_pos h,jO,rf,cM]
theorem H8{l:O α}(hc:∀x∈l,(c x).length=sz){i j:Nat}(h:i<l.length)(a:j<sz){x:α}{v:Y}(hx:c x=(c l[i]).set j v):(bg c l).set (i*sz+j) v=bg c (l.set i x):=by
 have b:(c l[i]).length=sz:=hc _ (cW h);have h1:=zq hc h;have e:bg c l=bg c (l.take i)++(c l[i]++bg c (l.drop (i+1))):=by
  conv=>lhs;rw[←fV (i*sz) (bg c l),h1.1,h1.2]
 have d:(bg c (l.take i)).length=i*sz:=by
  rw[e4 _ λx hx=>hc x (eY hx),cz,iz I]
 rw[e,tQ _ _ I,show i*sz+j-(bg c (l.take i)).length=j from I,List.set_append_left _ _ I,←hx,xF,if_pos h,jO,rf]
end
section
variable {α:Type} [DecidableEq α] {P:Program}{w:J}{h9 l0 T:TypeId}{enc:α->Y}{r:Nat}{M:O (α×Y)}{k:α}{v:Y}
theorem H9(f:nC P h9 enc)(j:P.underlying T=some (.map h9 l0))(h:eV w r enc M)(l:∀v,(k,v)∉M)(v:Y):
 ∃w1:J,(Instr.mapUpdate T (.map (some r)) (enc k) v).run P w=.ok () w1/\af (λq=>q=r) w w1/\w1.heap.size=w.heap.size/\eV w1 r enc ((k,v)::M):=by
 have aJ:=h.lt;obtain⟨L,c,h,h1,h2,m,g⟩:=h;have i:=BG h1 l;have hf:=f.find L k w;rw[yk i]at hf;refine⟨iU w r (.map ((L.map (eI enc)).toArray.push ⟨enc k,v,c⟩) (c+1)),?_,so _ _ _,uI _ _ _,L++ [(k,v,c)],c+1,?_,?_,?_,?_,?_⟩
 .simp only[Instr.mapUpdate,Sem.run_bind,dj j,Result.andThen,mM h,Sem.run_pure,f.check,hf,ym h]
 .rw[uJ aJ]
  simp[eI]
 .rw[gb]
  have:([(k,v,c)]:O (α×Y×Nat)).map mK=[(k,v)]:=rfl;rw[this];exact(rQ).trans (List.Perm.cons _ h1)
 .rw[gb,tO]
  refine⟨h2,by simp,λa e b d=>?_⟩;obtain⟨x,hx,rfl⟩:=fy.1 e;simp only[g2,List.map_nil,fz]at d;subst d;exact i x hx
 .rw[gb,tO]
  refine⟨m,by simp,λa e b d=>?_⟩;obtain⟨x,hx,rfl⟩:=fy.1 e;simp only[g2,List.map_nil,fz]at d;subst d;have:=g x hx;omega
 .intro x hx
  rcases c1.1 hx with hx|hx
  .have:=g x hx;omega
  .rw[fz.1 hx];show c<c+1;omega
theorem H_(c:nC P h9 enc)(g:P.underlying T=some (.map h9 l0))(h:eV w r enc ((k,v)::M))(b:Y):
 ∃w1:J,(Instr.mapUpdate T (.map (some r)) (enc k) b).run P w=.ok () w1/\af (λq=>q=r) w w1/\w1.heap.size=w.heap.size/\eV w1 r enc ((k,b)::M):=by
 have aJ:=h.lt;obtain⟨n,bp,bJ,a,f,h,h1,h2,i,d,_⟩:=h.split;have hf:=c.find (bp++(k,v,a)::bJ) k w;rw[yl (BF h2),cF]at hf;have hg:((bp++(k,v,a)::bJ).map (eI enc)).toArray[bp.length]? =some ⟨enc k,v,a⟩:=by simp[eI]
 have j:((bp++(k,v,a)::bJ).map (eI enc)).toArray.modify bp.length (λe=>{e with key:=enc k,val:=b})=((bp++(k,b,a)::bJ).map (eI enc)).toArray:=by
  apply Array.toList_inj.1;rw[Array.toList_modify,gb,g2];have:=BE (λe=>{e with key:=enc k,val:=b}) (eI enc (k,v,a)) (bJ.map (eI enc)) (bp.map (eI enc));rw[dk]at this;rw[this];simp[eI]
 refine⟨iU w r (.map ((bp++(k,b,a)::bJ).map (eI enc)).toArray f),?_,so _ _ _,uI _ _ _,bp++(k,b,a)::bJ,f,uJ aJ _,?_,?_,?_,?_⟩
 .simp only[Instr.mapUpdate,Sem.run_bind,dj g,Result.andThen,mM h,Sem.run_pure,c.check,hf,hg,lT,Option.getD_some,Instr.keyThatStays,c.bits,if_true,ym h,j]
 .rw[gb,g2]
  rw[gb]at h1;exact nn.trans (h1.cons _)
 .simpa using h2
 .simpa using i
 .intro x hx
  rcases c1.1 hx with hx|hx
  .exact d x (by simp[hx])
  .rcases de.1 hx with rfl|hx
   .exact d (k,v,a) (by simp)
   .exact d x (by simp[hx])
end
abbrev du:=O UInt8
structure ik where
 i:Nat
 s:ad
 i_:O du
structure bm where
 d:Nat
 lb:Nat
 mr:Nat
 cu:O Int
 bT:O du
 waits:O ik
 writes:Int
 aV:Nat
 bZ:Nat->al
 eK:Nat->O du
 r1:al
def ik.e(x:ik):Int×Y:=((x.i:Int),x.s)
def bm.c(D:bm):O Y:=D.cu.map (.int .i64)++ [.slice (some ⟨D.lb,0,none⟩) D.bT.length D.bT.length,.map (some D.mr),.int .i64 D.writes]
def bm.n(D:bm):Nat:=D.bT.length
abbrev encZ:Int->Y:=λn=>n
theorem rh:nC ai 3 encZ:=nC.int (by kernel_rfl)
theorem nX:Tryz.prog.underlying 137=some (.map 3 136):=by kernel_rfl
theorem CV:(Tryz.prog.info? 136).bind (·.zero)=some (.slice none 0 0):=by kernel_rfl
theorem tf{P:Program}{T:TypeId}{z:Y}(h:(P.info? T).bind (·.zero)=some z):∃i,P.info? T=some i/\i.zero=some z:=by
 cases hi:P.info? T with
 |none=>rw[hi]at h;cases h
 |some i=>rw[hi]at h;exact⟨i,rfl,h⟩
def cA(D:bm)(q:Nat):Prop:=q=D.d\/q=D.lb\/q=D.mr\/∃x∈D.waits,aE x.s q
structure dz(w:J)(D:bm):Prop where
 v:Var w D.d D.c 141
 l:bu w D.lb (bg aD D.bT).toArray 182
 m:eV w D.mr encZ (D.waits.map ik.e)
 ws:∀x∈D.waits,aT 256 182 w x.s (bg aD x.i_)
 wn:∀x∈D.waits,x.i_≠ []/\x.i<D.n/\x.i_.length<=D.aV
 sl:∀s∈D.bT,s.length=256
 nY:∀x∈D.waits,∀s∈x.i_,s.length=256
 bW:16<=D.n
 bz:D.n<=1600
 f4:D.cu.length=4
 fr:∀x∈D.cu, -1<=x/\x<=9223372036854775807
 a1:D.d≠D.lb/\D.d≠D.mr/\D.lb≠D.mr
 a2:∀x∈D.waits,¬aE x.s D.d/\¬aE x.s D.lb/\¬aE x.s D.mr
 a3:∀x∈D.waits,∀y∈D.waits,x.i≠y.i->∀q,aE x.s q->¬aE y.s q
 r:D.r1=true->D.cu.getD 1 0= -1
theorem Ia{cu:O Int}{k:Nat}{x:Int}(a:cu.length=4)(h:cu.getD 1 0= -1)(hx:k=1->x= -1):(cu.set k x).getD 1 0= -1:=by
 rw[gd]at h⊢;by_cases e:k=1
 .subst e
  rw[List.getElem?_set_self I,hx rfl];rfl
 .rw[List.getElem?_set_ne e];exact h
section
variable {w w':J}{D:bm}
theorem dz.ah{W:Nat->Prop}(h:dz w D)(hc:af W w w')(a:∀q,cA D q->¬W q):dz w' D:=
 ⟨h.v.ah hc (a _ (.inl rfl)),bu.ah h.l hc (a _ (.inr (.inl rfl))),h.m.ah hc (a _ (.inr (.inr (.inl rfl)))),λx hx=>(h.ws x hx).ah hc λq b=>a q (.inr (.inr (.inr ⟨x,hx,b⟩))),h.wn,h.sl,h.nY,h.bW,h.bz,h.f4,h.fr,h.a1,h.a2,h.a3,h.r⟩
theorem dz.ext(h:dz w D)(hc:Ext w w'):dz w' D:=h.ah hc λ_ _ h=>h
theorem dz.lt(h:dz w D){q:Nat}(a:cA D q):q<w.heap.size:=by
 rcases a with rfl|rfl|rfl|⟨x,hx,a⟩
 .exact h.v.lt
 .exact bu.lt h.l
 .exact h.m.lt
 .exact(h.ws x hx).lt q a
theorem dz.Ib(h:dz w D){k:Nat}(a:k<4):w.cell? ⟨D.d,k,none⟩=some (.int .i64 (D.cu.getD k 0)):=by
 rw[h.v.cell];unfold bm.c;have:=h.f4;rw[tR (by rw[dk];omega),nq,dU I,fu I];rfl
theorem dz.fB(h:dz w D):w.cell? (Addr.add ⟨D.d,0,none⟩ 4)=some (.slice (some ⟨D.lb,0,none⟩) D.bT.length D.bT.length):=by
 rw[az,h.v.cell];unfold bm.c;have:=h.f4;rw[g3 (by rw[dk];omega),dk,this];rfl
theorem dz.c6(h:dz w D):w.cell? (Addr.add ⟨D.d,0,none⟩ 5)=some (.map (some D.mr)):=by
 rw[az,h.v.cell];unfold bm.c;have:=h.f4;rw[g3 (by rw[dk];omega),dk,this];rfl
theorem dz.zr(h:dz w D):D.c.length=7:=by
 unfold bm.c;have:=h.f4;simp;omega
def bm.now(D:bm)(i:Nat):du:=match D.waits.find? λx=>x.i==i with
 |some x=>x.i_.getLastD []
 |none=>D.bT.getD i []
theorem Ic{α:Type}{l:O α}{d:α}(h:l≠ []):l.getLastD d∈l:=by
 cases l with
 |nil=>exact absurd rfl h
 |cons a l=>
  rw[List.getLastD_cons];rw[←List.getLast_eq_getLastD];exact List.getLast_mem h
theorem dz.tg(h:dz w D){i:Nat}(hi:i<D.n):(D.now i).length=256:=by
 unfold bm.now
 cases hf:D.waits.find? λx=>x.i==i with
 |some x=>
  have hx:=j0 hf;exact h.nY x hx _ (Ic (h.wn x hx).1)
 |none=>
  have a:i<D.bT.length:=hi;rw[show(match (none:av ik) with|some x=>x.i_.getLastD []|none=>D.bT.getD i [])=D.bT.getD i [] from rfl,fu a];exact h.sl _ (cW _)
theorem w7(h:dz w D):aK ai 72 #[.pointer (some D.d)] w (λv w'=>v=D.n/\w=w'):=by
 refine okF (ae.vo (some D.d)) ay.vo func72 ?_;(delta ae.vo an r1;dsimp only);exact⟨λh=>(by cases h),λ_=>⟨_,rfl,⟨some D.lb,D.bT.length,D.bT.length⟩,h.fB,rfl,rfl⟩⟩
theorem CW(h:dz w D)(i:Int):aK ai 108 #[.pointer (some D.d),i] w (λv w'=>v=.bool (decide (0<=i/\i<D.n))/\w=w'):=by
 refine okF (ae.vC (some D.d) i) ay.vC func108 ?_;(delta ae.vC an r1;dsimp only);refine cq (λb w'=>b=decide (0<=i/\i<D.n)/\w=w') (λq c=>⟨λa=>⟨_,rfl,⟨some D.lb,D.bT.length,D.bT.length⟩,h.fB,c _ _ ⟨?_,rfl⟩⟩,λa=>c _ _ ⟨?_,rfl⟩⟩) ?_
 .have a:0<=i:=by simpa using a
  rw[eQ,b_,b_];exact⟨λh=>⟨a,h⟩,λh=>h.2⟩
 .have a:¬0<=i:=by simpa using a
  rw[g_ (λh=>a h.1)]
 .rintro _ _ ⟨rfl,rfl⟩
  exact⟨rfl,rfl⟩
end
def gY(f:Int):al×Int:=if f= -1 then (false, -1) else if f=0 then (true, -1) else (false,f-1)
theorem Ie{f:Int}(h: -1<=f/\f<=9223372036854775807): -1<=(gY f).2/\(gY f).2<=9223372036854775807:=by
 unfold gY;split
 .exact⟨by decide,by decide⟩
 .split
  .exact⟨by decide,by decide⟩
  .show -1<=f-1/\f-1<=_;omega
def bm.cJ(D:bm)(k:Nat):bm:={D with cu:=D.cu.set k (gY (D.cu.getD k 0)).2}
def bm.gv(D:bm)(k:Nat):al:=(gY (D.cu.getD k 0)).1
theorem zt{w:J}{D:bm}(h:dz w D){k:Nat}(p:k<4):
 aK ai 136 #[.pointer (some ⟨D.d,0,none⟩),.int .i64 ((k:Nat):Int)] w (λv w'=>v=.bool (D.gv k)/\dz w' (D.cJ k)/\af (λq=>q=D.d) w w'/\w'.heap.size=w.heap.size):=by
 have hf:=h.Ib p;have g:=h.f4;have s: -1<=D.cu.getD k 0/\D.cu.getD k 0<=9223372036854775807:=by rw[fu I];exact h.fr _ (cW _)
 have j:∀ (w1:J),dz w1 D->dz (w1.setCell ⟨D.d,k,none⟩ (.int .i64 (gY (D.cu.getD k 0)).2)) (D.cJ k):=by
  intro w1 h1;have hc:=ek w1 D.d k (.int .i64 (gY (D.cu.getD k 0)).2);have n:=eO h1.v (i:=k) (.int .i64 (gY (D.cu.getD k 0)).2);have e:D.c.set k (.int .i64 (gY (D.cu.getD k 0)).2)=(D.cJ k).c:=by
   unfold bm.c bm.cJ;rw[List.set_append_left _ _ (by rw[dk];omega),←List.map_set]
  rw[e]at n;refine⟨n,bu.ah h1.l hc (λe=>h.a1.1 e.symm),h1.m.ah hc (λe=>h.a1.2.1 e.symm),λx hx=>(h1.ws x hx).ah hc λq t e=>(h.a2 x hx).1 (by subst e;exact t),h.wn,h.sl,h.nY,h.bW,h.bz,by show(D.cu.set k _).length=4;rw[dJ];exact g,λx hx=>?_,h.a1,h.a2,h.a3,λo=>Ia g (h.r o) λe=>by subst e;rw[h.r o];rfl⟩;rcases nr hx with hx|rfl
  .exact h.fr x hx
  .exact Ie s
 have f:Addr.add ⟨D.d,0,none⟩ (Int.toNat ((k:Nat):Int)*1)=⟨D.d,k,none⟩:=by rw[di,fE,az,cF]
 refine okF (ae.vK (some ⟨D.d,0,none⟩) ((k:Nat):Int)) ay.vK func136 ?_;(delta ae.vK aF an st ar;dsimp only);refine⟨_,rfl,⟨I,by show(k:Int)<4;omega⟩,D.cu.getD k 0,by rw[f];exact hf,λh1=>?_,λh1=>⟨λh2=>⟨_,rfl,⟨I,by show(k:Int)<4;omega⟩,?_⟩,λh2=>aX ⟨_,rfl,⟨I,by show(k:Int)<4;omega⟩,id,_,by rw[f];exact hf,_,rfl,⟨I,by show(k:Int)<4;omega⟩,?_⟩⟩⟩
 .have h1:D.cu.getD k 0= -1:=by simpa using h1
  have a:D.gv k=false:=by unfold bm.gv gY;rw[if_pos h1]
  have b:D.cJ k=D:=by
   unfold bm.cJ gY;rw[if_pos h1];have:D.cu.set k (-1)=D.cu:=by
    rw[←h1,fu I];exact List.set_getElem_self _
   rw[this]
  rw[a,b];exact⟨rfl,h,.refl _ _,rfl⟩
 .have h1:D.cu.getD k 0≠ -1:=by simpa using h1
  have h2:D.cu.getD k 0=0:=by simpa using h2
  have hs:=eP h.v (i:=k) (by rw[h.zr];omega);have a:D.gv k=true:=by unfold bm.gv gY;rw[if_neg h1,if_pos h2]
  have b:(gY (D.cu.getD k 0)).2= -1:=by unfold gY;rw[if_neg h1,if_pos h2]
  have:=j w h;rw[b]at this;rw[f,a];exact⟨hs.1,hs.2,aX ⟨rfl,this,ek _ _ _ _,by simp[World.setCell]⟩⟩
 .have h1:D.cu.getD k 0≠ -1:=by simpa using h1
  have h2:D.cu.getD k 0≠0:=by simpa using h2
  have hd:=h.ext (cE w);have hs:=eP hd.v (i:=k) (by rw[h.zr];omega);have a:D.gv k=false:=by unfold bm.gv gY;rw[if_neg h1,if_neg h2]
  have b:(gY (D.cu.getD k 0)).2=D.cu.getD k 0-1:=by unfold gY;rw[if_neg h1,if_neg h2]
  have:=j w.drew hd;rw[b]at this;rw[f,a,bB I I];exact⟨hs.1,hs.2,aX ⟨rfl,this,(af.cN (cE w)).trans (ek _ _ _ _),by simp[World.setCell]⟩⟩
def bm.ey(D:bm)(i:Nat):O du:=match D.waits.find? λx=>x.i==i with
 |some x=>x.i_
 |none=> []
theorem zu(D:bm)(h:∀x∈D.waits,x.i_≠ [])(i:Nat):D.now i=if D.ey i=[] then D.bT.getD i [] else (D.ey i).getLastD []:=by
 unfold bm.now bm.ey
 cases hf:D.waits.find? λx=>x.i==i with
 |some x=>
  have hx:=j0 hf;simp only;rw[if_neg (h x hx)]
 |none=>simp
def bm.calm(D:bm)(k:Nat):Prop:=(D.cu.getD 1 0= -1\/(k:Int)<=D.cu.getD 1 0)/\(D.cu.getD 2 0= -1\/(k:Int)<=D.cu.getD 2 0)
def bm.kF(D:bm):Int->Prop:=λn=>(∀j,D.bZ j=true)->D.writes=n
def bm.ro(D:bm):Prop:=∀i,D.bZ i=true
def bm.key(D:bm):(O du×(Nat->al)×(Nat->O du)×(Int->Prop)×al)×Int:=((D.bT,D.bZ,D.eK,D.kF,D.r1),D.cu.getD 3 0)
theorem c3{W V:Nat->Prop}{w w' b:J}(h1:af W w w')(h2:af V w' b)(h:∀q,q<w.heap.size->V q->W q):af W w b:=
 ⟨h2.os.trans h1.os,h2.tape.trans h1.tape,h2.output.trans h1.output,eC h1.size h2.size,λk a cK=>(h2.block k (fP a h1.size) λc=>cK (h k a c)).trans (h1.block k a cK)⟩
theorem gB{D:bm}{k l:Nat}(h:D.calm k)(a:l<=k):D.calm l:=⟨h.1.imp id λh=>I,h.2.imp id λh=>I⟩
theorem j_{D:bm}{k m:Nat}(c:k=1\/k=2)(e:D.cu.length=4)(h:D.calm (m+1)):(D.cJ k).calm m/\D.gv k=false:=by
 obtain⟨h1,h2⟩:=h;have iS:1<D.cu.length:=by omega
 have d:2<D.cu.length:=by omega
 rcases c with rfl|rfl
 .have a:(D.cJ 1).cu.getD 1 0=(gY (D.cu.getD 1 0)).2:=by
   show(D.cu.set 1 _).getD 1 0=_;rw[fu (by rw[dJ];omega),iO]
  have b:(D.cJ 1).cu.getD 2 0=D.cu.getD 2 0:=by
   show(D.cu.set 1 _).getD 2 0=_;rw[fu (by rw[dJ];omega),fH I,fu d]
  unfold bm.calm bm.gv;rw[a,b];unfold gY;rcases h1 with h1|h1
  .rw[if_pos h1]
   exact⟨⟨.inl rfl,h2.imp id λh=>I⟩,rfl⟩
  .rw[if_neg I,if_neg I]
   exact⟨⟨.inr (by show(m:Int)<=_-1;omega),h2.imp id λh=>I⟩,rfl⟩
 .have a:(D.cJ 2).cu.getD 2 0=(gY (D.cu.getD 2 0)).2:=by
   show(D.cu.set 2 _).getD 2 0=_;rw[fu (by rw[dJ];omega),iO]
  have b:(D.cJ 2).cu.getD 1 0=D.cu.getD 1 0:=by
   show(D.cu.set 2 _).getD 1 0=_;rw[fu (by rw[dJ];omega),fH I,fu iS]
  unfold bm.calm bm.gv;rw[a,b];unfold gY;rcases h2 with h2|h2
  .rw[if_pos h2]
   exact⟨⟨h1.imp id λh=>I,.inl rfl⟩,rfl⟩
  .rw[if_neg I,if_neg I]
   exact⟨⟨h1.imp id λh=>I,.inr (by show(m:Int)<=_-1;omega)⟩,rfl⟩
theorem ri(D:bm){k:Nat}(a:k=1\/k=2):(D.cJ k).key=D.key:=by
 unfold bm.key bm.cJ;rcases a with rfl|rfl<;>simp[gd]<;>rfl
theorem rj{sz:Nat}{w:J}{s:ad}{α:Type}{c:α->O Y}{l:O α}(h:Src sz w s (bg c l))(hc:∀x∈l,(c x).length=sz)(e:0<sz){i:Nat}(hi:i<l.length):
 s.len=l.length/\∃A,s.a=some A/\a8 w (A.add (i*sz)) 0 sz=some (c l[i]):=by
 have b:s.len=l.length:=by
  have:=h.len;rw[e4 l hc]at this;exact(Nat.eq_of_mul_eq_mul_right e this).symm
 refine⟨b,?_⟩
 cases d:s.a with
 |none=>
  have:=congrArg List.length (h.nil d);rw[e4 l hc,lp]at this;have:l.length*sz≠0:=Nat.mul_ne_zero I I;omega
 |some A=>
  refine⟨A,rfl,?_⟩;have f:i*sz+sz<=s.len*sz:=by
   rw[b,←Nat.succ_mul];exact nm _ hi
  rw[yp (h.rd A d) f,CT hc hi]
def rk:O Y:=aD (List.replicate 256 0)
def zv(D:bm)(i:Nat)(w:J)(v:Y)(w':J):Prop:=v=.agg (aD (D.now i)).toArray/\Ext w w'
theorem CX{w:J}{D:bm}(h:dz w D){i:Nat}(hi:i<D.n)(Q:D.aV<=1000000000):
 aK ai 137 #[.pointer (some D.d),i] w (zv D i w):=by
 have R:=h.bz;have f:=h.tg hi;refine okF (ae.vL (some D.d) (i:Int)) ay.vL func137 ?_;(delta ae.vL uS an ar yC aa r1 jH;dsimp only);refine bc (vs:=rk) (by kernel_rfl) λw1 g u _=>?_;have hd:=h.ext u;refine⟨_,rfl,some D.mr,hd.c6,?_⟩;have y:rk.length=256:=by rw[rk,dm,mw]
 have fin:∀ (K:O Y->J->Prop),(∀a,Ext w a->K (aD (D.now i)) a)->bk w1 w.heap.size (Array.toList (aD (D.now i)).toArray)/\Array.size (aD (D.now i)).toArray=256/\ak (setCells w1 w.heap.size 0 (Array.toList (aD (D.now i)).toArray)) λa=>∃b:O Y,a8 a w.heap.size 0 256=some b/\K b a:=by
  intro K E;refine⟨g.b3 (by rw[rR,dm,f,y]) (by rw[rR];exact iG _),by simp[dm,f],cp g (us:=aD (D.now i)) (by rw[dm,f,y]) rfl λa F G _=>⟨_,F.rd (by rw[dm,f]),E a (Ext.cD u G (bt _))⟩⟩
 cases hf:D.waits.find? λx=>x.i==i with
 |some x=>
  have hx:=j0 hf;have H:x.i=i:=by
   have:=kO hf;exact eq_of_beq this
  have j:=hd.m.BH rh nX (k:=(i:Int)) (v:=x.s) (fy.2 ⟨x,hx,by unfold ik.e;rw[H]⟩) false;have L:=(h.wn x hx).1;have hlen:0<x.i_.length:=List.length_pos_iff.2 L;have S:=(h.wn x hx).2.2;obtain⟨z,A,aq,p⟩:=rj (hd.ws x hx).src (λs hs=>by rw[dm];exact h.nY x hx s hs) (by decide) (i:=x.i_.length-1) I;have q:D.now i=x.i_[x.i_.length-1]'I:=by
   unfold bm.now;rw[hf];show x.i_.getLastD []=_;rw[List.getLastD_eq_getLast?,xG,dU I];rfl
  refine⟨x.s,w1,j,λ_=>⟨A,aq,?_⟩,λr=>?_⟩
  .rw[z,bB (n:=(x.i_.length:Int)-1) I I]
   have M:Int.toNat ((x.i_.length:Int)-1)=x.i_.length-1:=by omega
   rw[M];refine⟨⟨I,I⟩,_,p,?_⟩;rw[←q];exact fin (λb a=>zv D i w (.agg b.toArray) a) λa t=>⟨rfl,t⟩
  .have:=cw r
   omega
 |none=>
  obtain⟨T,h1,h2⟩:=tf CV;have j:=hd.m.BI rh nX (k:=(i:Int)) h1 h2 (λv g=>by
   obtain⟨x,hx,he⟩:=fy.1 g;have N:=jZ.1 hf x hx;unfold ik.e at he;simp only[Prod.mk.injEq]at he;apply N;have:x.i=i:=by omega
   rw[this];simp) false
  have B:i<D.bT.length:=hi;have q:D.now i=D.bT[i]:=by
   unfold bm.now;rw[hf];exact fu B
  have P:Src 256 w1 ⟨some D.lb,D.bT.length,D.bT.length⟩ (bg aD D.bT):=by
   have C:=e4 (c:=aD) (sz:=256) D.bT λs hs=>by rw[dm];exact h.sl s hs
   have:=bu.sq (sz:=256) (o:=0) (n:=D.bT.length) (cap:=D.bT.length) hd.l (by simp[C]);rw[iN,rR,dr (by rw[C];exact bt _)]at this;exact this
  obtain⟨z,A,aq,p⟩:=rj P (λs hs=>by rw[dm];exact h.sl s hs) (by decide) B;refine⟨⟨none,0,0⟩,w1,j,λr=>by simp at r,λ_=>⟨_,rfl,_,hd.fB,A,aq,⟨I,by show(i:Int)<(D.bT.length:Int);omega⟩,_,p,?_⟩⟩;rw[←q];exact fin (λb a=>zv D i w (.agg b.toArray) a) λa t=>⟨rfl,t⟩
def Ig(D:bm)(i:Nat)(w:J)(v:Y)(w':J):Prop:=
 dz w' (D.cJ 1)/\af (λq=>q=D.d) w w'/\
  ((D.gv 1=true/\v=.tuple #[(),(3:Int)])\/
   (D.gv 1=false/\∃s:ad,v=.tuple #[s,(0:Int)]/\bA (λq=>w.heap.size<=q) w' s (D.now i)))
theorem Ih{w:J}{D:bm}(h:dz w D){i:Nat}(hi:i<D.n)(x:D.aV<=1000000000):
 aK ai 114 #[.pointer (some D.d),i] w (Ig D i w):=by
 refine okF (ae.vE (some D.d) (i:Int)) ay.vE func114 ?_;delta ae.vE b8 an lC uS aa;refine(CW h _).use ?_;rintro _ _ ⟨rfl,rfl⟩;refine⟨_,rfl,λa=>?_,λ_=>⟨_,rfl,(zt h (k:=1) (by decide)).use ?_⟩⟩
 .have a:¬(0<=(i:Int)/\(i:Int)<D.n):=by simpa using a
  omega
 rintro _ aj ⟨rfl,b,j,z⟩;refine⟨_,rfl,λa=>⟨b,j,.inl ⟨a,rfl⟩⟩,λa=>(CX b (i:=i) hi x).use ?_⟩;rintro _ m ⟨rfl,g⟩;have f:=h.tg hi;refine⟨_,rfl,bc (vs:=rk) (by kernel_rfl) λB p r C=>⟨p.b3 (by rw[rR,dm];show(D.now i).length=_;rw[f,rk,dm,mw]) (by rw[rR];exact iG _),by rw[tY,dm];exact f,cp p (us:=aD (D.now i)) (by rw[dm,f,rk,dm,mw]) rfl λE s t F=>?_⟩⟩;have G:=g.size;have aJ:D.d<aj.heap.size:=b.v.lt;refine⟨(b.ext (g.trans r)).ah t (λq u e=>by have:=b.lt u;omega),c3 (j.trans (af.cN (g.trans r))) t λq u e=>I,.inr ⟨a,⟨some m.heap.size,256,256⟩,rfl,?_,bt _,λk y=>?_⟩⟩
 .have:=s.qY (o:=0) (n:=256) (c:=256) (l:=D.now i) (by rw[dm,f];decide) (by rw[iN,dr (by rw[dm,f];decide)])
  exact this
 .obtain⟨A,aq,rfl⟩:=y
  cases aq;have:=s.lt;exact⟨by show w.heap.size<=m.heap.size;omega,this⟩
theorem CY:∀ (l:O Y) (k:Nat) (a:Array Y),(l.zipIdx k).foldl (λcs (p:Y×Nat)=>cs.setIfInBounds p.2 p.1) a=gJ a k l
 | [],_,_=>rfl
 |v::l,k,a=>by
  rw[List.zipIdx_cons,List.foldl_cons]
  exact CY l (k+1) (a.setIfInBounds k v)
theorem zw{P:Program}{T e:TypeId}{d:TypeDesc}{i:TypeInfo}{z:Y}{sz:Nat}{cs:Array Y}(w:J)(h1:P.underlying T=some (.slice e))(h2:P.underlying e=some d)(f:P.cellsOf e=sz)(hi:P.info? e=some i)(g:i.zero=some z)(a:cs.size=sz)(o:sz≠0)(q:sz<=16777216):
 Sem.run P (Instr.buildSlice T 1 #[(0,.agg cs)]) w=.ok (.slice (some w.heap.size) 1 1) (w.alloc (.cells cs e)):=by
 have b:=h6 (P:=P) (w:=w) h2;rw[f]at b;have h:Instr.fill (λi=>some (i*sz,sz)) ((Array.range (1*sz)).map λx=>z.cells[x%z.cells.size]!) [(0,.agg cs)]=some cs:=by
  have hc:(Value.agg cs).cells=cs:=rfl;rw[Instr.fill];simp only[hc];rw[if_neg (by simp[a]),Instr.fill];rw[←Array.foldl_toList,Array.toList_zipIdx];have e:(λ(cs:Array Y) (x:Y×Nat)=>match x with|(c,j)=>cs.setIfInBounds (0*sz+j) c)=λcs (p:Y×Nat)=>cs.setIfInBounds p.2 p.1:=by
   funext cs x;obtain⟨c,j⟩:=x;simp
  rw[e,CY]
  congr 1
  apply Array.toList_inj.1;rw[lA _ _ _ (by simp[a])];simp[a]
 have k:=nt (w:=w) hi;have l:¬(1*sz>2^24):=by
  have:(2:Nat)^24=16777216:=rfl;omega
 have m:¬(1*sz=0):=by omega
 have n:Instr.fill (λi=>some (i*sz,sz)) ((Array.range (1*sz)).map λx=>z.cells[x%z.cells.size]!) (#[(0,Value.agg cs)]:Array (Nat×Y)).toList=some cs:=h;simp only[Instr.buildSlice,Sem.run_bind,dj h1,b,Result.andThen,l,m,if_false,zeroValue,k,g,Sem.run_pure,n];simp[newRow,newObj,Sem.run]
theorem CZ(w:J)(l:du)(a:l.length=256):
 Sem.run ai (Instr.buildSlice 136 1 #[(0,.agg (aD l).toArray)]) w=.ok (.slice (some w.heap.size) 1 1) (w.alloc (.cells (aD l).toArray 182)):=by
 have h:((Tryz.prog.info? 182).bind (·.zero)).isSome=true:=by kernel_rfl
 obtain⟨z,b⟩:=ng.1 h;obtain⟨i,hi,c⟩:=tf b;exact zw (d:=.array 256 5) (sz:=256) w (by kernel_rfl) (by kernel_rfl) (by kernel_rfl) hi c (by rw[tY,dm,a]) (by decide) (by decide)
theorem Ii:h8 ai 136 182 256 256:=⟨by kernel_rfl⟩
theorem Ij{α:Type}{c:α->O Y}{l:O α}(h:∀x∈l,∀v∈c x,Plain v):∀v∈bg c l,Plain v:=by
 intro v a;obtain⟨x,hx,a⟩:=List.mem_flatten.1 a;obtain⟨b,d,rfl⟩:=fy.1 hx;exact h b d v a
def bm.put(D:bm)(i:Nat)(s:ad)(l:du):bm:=
 {D.cJ 2 with waits:=⟨i,s,D.ey i++ [l]⟩::D.waits.filter (λx=>x.i !=i),writes:=IntKind.wrap .i64 (D.writes+1),aV:=D.aV+1}
theorem C0{D:bm}{i j:Nat}(h:j≠i):(D.waits.filter λx=>x.i !=i).find? (λx=>x.i==j)=D.waits.find? λx=>x.i==j:=by
 rw[List.find?_filter]
 congr 1
 funext x;by_cases e:x.i=j
 .rw[e];simp[h]
 .simp[e]
theorem C1(D:bm)(i:Nat)(s:ad)(l:du)(j:Nat):(D.put i s l).ey j=if j=i then D.ey i++ [l] else D.ey j:=by
 unfold bm.ey bm.put;by_cases h:j=i
 .subst h
  simp[bm.ey]
 .rw[if_neg h]
  simp only;rw[List.find?_cons_of_neg (by simp;omega),C0 h]
theorem pH(D:bm)(i:Nat)(s:ad)(l:du)(j:Nat):(D.put i s l).now j=if j=i then l else D.now j:=by
 unfold bm.now bm.put;by_cases h:j=i
 .subst h
  simp
 .rw[if_neg h]
  simp only;rw[List.find?_cons_of_neg (by simp;omega),C0 h];rfl
def C2(D:bm)(i:Nat)(l:du)(w:J)(v:Y)(w':J):Prop:=
 (D.gv 2=true/\v=.int .i64 3/\dz w' (D.cJ 2)/\af (λq=>q=D.d) w w')\/
 (D.gv 2=false/\v=.int .i64 0/\∃s:ad,dz w' (D.put i s l)/\af (cA D) w w'/\∀q,aE s q->cA D q\/w.heap.size<=q)
theorem w8{w:J}{D:bm}{b:ad}{l:du}(h:dz w D){i:Nat}(hi:i<D.n)(bf:D.aV<=1000000000)(X:Src 1 w b (aD l))(K:l.length=256)(hd:∀q,aE b q->¬cA D q):
 aK ai 75 #[.pointer (some ⟨D.d,0,none⟩),.int .i64 ((i:Nat):Int),.slice b.a b.len b.cap] w (C2 D i l w):=by
 have aB:=len8 X;have bh:=h.bz;refine okF (ae.vq (some ⟨D.d,0,none⟩) ((i:Nat):Int) b) ay.vq func75 ?_;(delta ae.vq b8 an yw aF st ar;dsimp only);refine(CW h _).use ?_;rintro _ _ ⟨rfl,rfl⟩;have aU:decide (0<=(i:Int)/\(i:Int)<D.n)=true:=dD ⟨I,I⟩;refine⟨_,rfl,λh1=>?_,λ_=>⟨_,rfl,(zt h (k:=2) (by decide)).use ?_⟩⟩
 .rw[aU,aB,K]at h1
  simp at h1
 rintro _ aj ⟨rfl,G,Z,bi⟩;refine⟨_,rfl,λaa=>.inl ⟨aa,rfl,G,Z⟩,λaa=>aX ?_⟩;obtain⟨p,hold⟩:∃p:ad,(match D.waits.find? λx=>x.i==i with|some x=>x.s|none=>⟨none,0,0⟩)=p:=⟨_,rfl⟩;have z:=G.ext (cE aj);have aW:Src 1 aj.drew b (aD l):=(X.ah Z λq f e=>hd q f (.inl e)).ext (cE aj)
 have aY:aT 256 182 aj.drew p (bg aD (D.ey i))/\(∀q,aE p q->cA D q/\q≠D.d/\q≠D.lb/\q≠D.mr)/\(∀x∈D.waits,x.i≠i->∀q,aE x.s q->¬aE p q)/\(D.ey i).length<=D.aV/\(∀s∈D.ey i,s.length=256)/\
  ∀w':J,eV w' D.mr encZ (D.waits.map ik.e)->Sem.run ai (Instr.lookup 137 (.map (some D.mr)) (.int .i64 ((i:Nat):Int)) false) w'=.ok (.slice p.a p.len p.cap) w':=by
  cases hf:D.waits.find? λx=>x.i==i with
  |some x=>
   rw[hf]at hold;have hold:x.s=p:=hold;subst hold;have hx:=j0 hf;have S:x.i=i:=by
    have:=kO hf;exact eq_of_beq this
   have e:D.ey i=x.i_:=by unfold bm.ey;rw[hf]
   rw[e];refine⟨z.ws x hx,λq f=>⟨.inr (.inr (.inr ⟨x,hx,f⟩)),λe=>(h.a2 x hx).1 (e▸f),λe=>(h.a2 x hx).2.1 (e▸f),λe=>(h.a2 x hx).2.2 (e▸f)⟩,λy t B=>h.a3 y t x hx I,(h.wn x hx).2.2,h.nY x hx,λw' L=>L.BH rh nX (k:=(i:Int)) (v:=.slice x.s.a x.s.len x.s.cap) (fy.2 ⟨x,hx,by unfold ik.e;rw[S]⟩) false⟩
  |none=>
   rw[hf]at hold;have hold:(⟨none,0,0⟩:ad)=p:=hold;subst hold;have e:D.ey i=[]:=by unfold bm.ey;rw[hf]
   rw[e];obtain⟨bj,h1,h2⟩:=tf CV;refine⟨aT.none _ _ _,λq f=>(gy q f).elim,λx _ _ q _ f=>(gy q f).elim,cR _,λs hs=>(by cases hs),λw' L=>L.BI rh nX (k:=(i:Int)) h1 h2 (λv ab=>?_) false⟩;obtain⟨x,hx,he⟩:=fy.1 ab;have aZ:=jZ.1 hf x hx;unfold ik.e at he;simp only[Prod.mk.injEq]at he;apply aZ;have:x.i=i:=by omega
   rw[this];simp
 obtain⟨aC,C,aG,bk,aH,aI⟩:=aY;obtain⟨A,aq,a0⟩:∃A,b.a=some A/\a8 aj.drew A 0 256=some (aD l):=by
  cases aJ:b.a with
  |none=>
   have:=congrArg List.length (X.nil aJ);rw[dm,K]at this
   cases this
  |some A=>
   refine⟨A,rfl,?_⟩;have:=aW.rd A aJ;rwa[aB,K]at this
 have a4:¬aE p A.block:=λf=>hd _ ⟨A,aq,rfl⟩ (C _ f).1
 have aL:∀E:J,Ext aj.drew E->∃ (g:ad) (j:J),Sem.run ai (Builtin.append_ #[136,136] 136 #[.slice p.a p.len p.cap,.slice (some ⟨E.heap.size,0,none⟩) 1 1]) (E.alloc (.cells (aD l).toArray 182))=.ok (.slice g.a g.len g.cap) j/\
  aT 256 182 j g (bg aD (D.ey i++ [l]))/\af (aE p) E j/\(∀k,aE g k->aE p k\/E.heap.size<=k)/\af (aE p) (E.alloc (.cells (aD l).toArray 182)) j:=by
  intro E a5;have hlen:p.len=(D.ey i).length:=by
   have:=aC.1;rw[e4 (c:=aD) (sz:=256) _ λs hs=>by rw[dm];exact aH s hs]at this;omega
  have ac:=c8 E (.cells (aD l).toArray 182);obtain⟨g,j,aw,ax,F,M,N⟩:=Ii.append (cC:=136) (x:=⟨some ⟨E.heap.size,0,none⟩,1,1⟩) (Src.new (T:=182) E (aD l) 1 (by rw[dm,K])) (aC.ext (a5.trans ac)) (iG l) (by rw[hlen];show(2*(_+1)+1000)*256<=_;omega);refine⟨g,j,aw,?_,(af.cN ac).trans M,λk a6=>(N k a6).imp id λh=>?_,M⟩
  .rw[jO]
   have:bg aD [l]=aD l:=by simp[bg]
   rw[this];exact ax
  .have:=ac.size;omega
 have aM:∀ (j:J) (g:ad),eV j D.mr encZ (D.waits.map ik.e)->∃o:J,Sem.run ai (Instr.mapUpdate 137 (.map (some D.mr)) (.int .i64 ((i:Nat):Int)) (.slice g.a g.len g.cap)) j=.ok () o/\af (λq=>q=D.mr) j o/\
  eV o D.mr encZ ((ik.mk i g (D.ey i++ [l])::D.waits.filter λx=>x.i !=i).map ik.e):=by
  intro j g L;have al:=L.keys;rw[oh]at al
  cases hf:D.waits.find? λx=>x.i==i with
  |some x=>
   have hx:=j0 hf;have S:x.i=i:=by
    have:=kO hf;exact eq_of_beq this
   obtain⟨bp,bJ,he⟩:=List.append_of_mem hx;have B:∀y∈bp++bJ,y.i≠i:=by
    intro y t e;rw[he,gb,g2]at al;have h1:=(nn.nodup_iff).1 al;rw[List.nodup_cons]at h1;apply h1.1;rw[←gb];refine fy.2 ⟨y,t,?_⟩;show((y.i:Nat):Int)=((x.i:Nat):Int);omega
   have am:D.waits.filter (λx=>x.i !=i)=bp++bJ:=by
    rw[he,gG,List.filter_cons_of_neg (by simp[S])];rw[jA.2 λy t=>by have:=B y (km _ t);simpa using this,jA.2 λy t=>by have:=B y (iA _ t);simpa using this]
   have a7:(D.waits.map ik.e).Perm (((i:Int),.slice x.s.a x.s.len x.s.cap)::(bp++bJ).map ik.e):=by
    rw[he,gb,g2,gb];have:x.e=((i:Int),.slice x.s.a x.s.len x.s.cap):=by unfold ik.e;rw[S]
    rw[this];exact nn
   obtain⟨o,aw,ax,_,F⟩:=H_ rh nX (L.perm a7) (.slice g.a g.len g.cap);refine⟨o,aw,ax,?_⟩;rw[am];exact F
  |none=>
   have B:∀y∈D.waits,y.i≠i:=λy t e=>by
    have:=jZ.1 hf y t;rw[e]at this;simp at this
   have am:D.waits.filter (λx=>x.i !=i)=D.waits:=jA.2 λy t=>by simpa using B y t
   obtain⟨o,aw,ax,_,F⟩:=H9 rh nX (k:=(i:Int)) L (λv ab=>by
    obtain⟨x,hx,he⟩:=fy.1 ab;unfold ik.e at he;simp only[Prod.mk.injEq]at he;exact B x hx I) (.slice g.a g.len g.cap)
   refine⟨o,aw,ax,?_⟩;rw[am];exact F
 have fin:∀ (j o:J) (g:ad),af (aE p) aj.drew j->aT 256 182 j g (bg aD (D.ey i++ [l]))->(∀k,aE g k->aE p k\/aj.drew.heap.size<=k)->af (λq=>q=D.mr) j o->eV o D.mr encZ ((ik.mk i g (D.ey i++ [l])::D.waits.filter λx=>x.i !=i).map ik.e)->
  ∃aN:ag,(some ⟨D.d,0,none⟩:av ag)=some aN/\∃n24:Int,o.cell? (aN.add 6)=some (.int .i64 n24)/\∃U:ag,(some ⟨D.d,0,none⟩:av ag)=some U/\(∃u:Y,o.cell? (U.add 6)=some u)/\o.frozen? (U.add 6)=false/\ak (o.setCell (U.add 6) (.int .i64 (IntKind.wrap .i64 (n24+1)))) λa9=>C2 D i l w (.int .i64 0) a9:=by
  intro j o g V a_ ao aO ba;have bb:=z.v.ah V λf=>(C _ f).2.1 rfl;have ap:Var o D.d (D.cJ 2).c 141:=bb.ah aO h.a1.2.1;have hlen:(D.cJ 2).c.length=7:=G.zr;obtain⟨s1,s2⟩:=eP ap (i:=6) (by rw[hlen];decide);have aP:o.cell? (Addr.add ⟨D.d,0,none⟩ 6)=some (.int .i64 D.writes):=by
   rw[az,cF,ap.cell];unfold bm.c;have:=G.f4;rw[g3 (by rw[dk];omega),dk,this];rfl
  rw[az,cF]at aP;refine⟨_,rfl,D.writes,by rw[az,cF];exact aP,_,rfl,by rw[az,cF];exact s1,by rw[az,cF];exact s2,?_⟩;rw[az,cF];have aQ:=ek o D.d 6 (.int .i64 (IntKind.wrap .i64 (D.writes+1)));have aR:=eO ap (i:=6) (.int .i64 (IntKind.wrap .i64 (D.writes+1)));have bc:(D.cJ 2).c.set 6 (.int .i64 (IntKind.wrap .i64 (D.writes+1)))=(D.put i g l).c:=by
   have bd:=G.f4;have O:(D.put i g l).c=(D.cJ 2).cu.map (.int .i64)++ [.slice (some ⟨D.lb,0,none⟩) D.bT.length D.bT.length,.map (some D.mr),.int .i64 (IntKind.wrap .i64 (D.writes+1))]:=rfl;have P:(D.cJ 2).c=(D.cJ 2).cu.map (.int .i64)++ [.slice (some ⟨D.lb,0,none⟩) D.bT.length D.bT.length,.map (some D.mr),.int .i64 D.writes]:=rfl;rw[O,P,tQ _ _ (by rw[dk];omega),dk,bd];rfl
  rw[bc]at aR;have W:af (λq=>q=D.mr\/q=D.d) j (o.setCell ⟨D.d,6,none⟩ (.int .i64 (IntKind.wrap .i64 (D.writes+1)))):=(aO.mono λq _ e=>.inl e).trans (aQ.mono λq _ e=>.inr e);have Q:∀q,aE g q->q≠D.d/\q≠D.lb/\q≠D.mr:=λq f=>by
   have bl:=z.lt (q:=D.d) (.inl rfl);have bn:=z.lt (q:=D.lb) (.inr (.inl rfl));have bo:=z.lt (q:=D.mr) (.inr (.inr (.inl rfl)));rcases ao q f with h1|h1
   .exact(C q h1).2
   .exact⟨I,I,I⟩
  have H:∀x∈D.waits.filter (λx=>x.i !=i),x∈D.waits/\x.i≠i:=λx hx=>by
   obtain⟨h1,h2⟩:=fU.1 hx;exact⟨h1,by simpa using h2⟩
  refine aX (.inr ⟨aa,rfl,g,⟨aR,?_,?_,?_,?_,h.sl,?_,h.bW,h.bz,G.f4,G.fr,h.a1,?_,?_,G.r⟩,?_,?_⟩)
  .exact bu.ah (bu.ah z.l V λf=>(C _ f).2.2.1 rfl) W (by
    rintro(e|e)
    .exact h.a1.2.2 e
    .exact h.a1.1 e.symm)
  .exact ba.ah aQ (λe=>h.a1.2.1 e.symm)
  .intro x hx
   rcases de.1 hx with rfl|hx
   .exact a_.ah W λq f=>by
     rintro(e|e)
     .exact(Q q f).2.2 e
     .exact(Q q f).1 e
   .obtain⟨h1,h2⟩:=H x hx
    refine((z.ws x h1).ah V λq f=>aG x h1 h2 q f).ah W λq f=>?_;rintro(e|e)
    .exact(h.a2 x h1).2.2 (e▸f)
    .exact(h.a2 x h1).1 (e▸f)
  .intro x hx
   rcases de.1 hx with rfl|hx
   .refine⟨by simp,hi,?_⟩
    show(D.ey i++ [l]).length<=D.aV+1;rw[cG,jC];omega
   .obtain⟨h1,h2⟩:=H x hx
    have:=h.wn x h1;exact⟨this.1,this.2.1,Nat.le_succ_of_le this.2.2⟩
  .intro x hx
   rcases de.1 hx with rfl|hx
   .intro s hs
    rcases c1.1 hs with hs|hs
    .exact aH s hs
    .rw[fz.1 hs];exact K
   .exact h.nY x (H x hx).1
  .intro x hx
   rcases de.1 hx with rfl|hx
   .exact⟨λf=>(Q _ f).1 rfl,λf=>(Q _ f).2.1 rfl,λf=>(Q _ f).2.2 rfl⟩
   .exact h.a2 x (H x hx).1
  .have aS:∀y∈D.waits,y.i≠i->∀q,aE y.s q->¬aE g q:=λy t B q f R=>by
    rcases ao q R with h1|h1
    .exact aG y t B q f h1
    .have:=(z.ws y t).lt q f;omega
   intro x hx y t B q f R;rcases de.1 hx with rfl|hx
   .rcases de.1 t with rfl|t
    .exact B rfl
    .exact aS y (H y t).1 (λe=>B e.symm) q R f
   .rcases de.1 t with rfl|t
    .exact aS x (H x hx).1 B q f R
    .exact h.a3 x (H x hx).1 y (H y t).1 B q f R
  .refine((Z.mono λq _ e=>.inl e).trans ((af.cN (cE aj)).trans (V.mono λq _ f=>(C q f).1))).trans (W.mono λq _ f=>?_)
   rcases f with e|e
   .exact .inr (.inr (.inl e))
   .exact .inl e
  .intro q f
   rcases ao q f with h1|h1
   .exact .inl (C q h1).1
   .have:aj.drew.heap.size=aj.heap.size:=rfl
    exact .inr I
 refine⟨aE p,_,rfl,λf=>(C _ f).2.1 rfl,some D.mr,z.c6,_,rfl,λf=>(C _ f).2.1 rfl,some D.mr,z.c6,I,A,aq,a4,_,a0,⟨?_,?_⟩⟩
 .obtain⟨g,j,aw,ax,F,M,N⟩:=aL aj.drew (.refl _ _)
  have au:=z.m.ah F λf=>(C _ f).2.2.2 rfl;obtain⟨o,O,P,aA⟩:=aM j g au;exact⟨p,_,aI _ z.m,.refl _ _,⟨some ⟨aj.drew.heap.size,0,none⟩,1,1⟩,_,CZ _ l K,af.cN (c8 _ _),g,j,aw,N,o,O,fin j o g F ax M P aA⟩
 .obtain⟨g,j,aw,ax,F,M,N⟩:=aL aj.drew (.refl _ _)
  have be:=z.m.ext (c8 aj.drew (.cells (aD l).toArray 182));have au:=z.m.ah F λf=>(C _ f).2.2.2 rfl;obtain⟨o,O,P,aA⟩:=aM j g au;exact⟨⟨some ⟨aj.drew.heap.size,0,none⟩,1,1⟩,_,CZ _ l K,af.cN (c8 _ _),p,_,aI _ be,.refl _ _,g,j,aw,N,o,O,fin j o g F ax M P aA⟩
theorem Ik{P:Program}{e:TypeId}{v:Y}{sz:Nat}(a:((P.info? e).bind (·.zero)).map (·.cells)=some (List.replicate sz v).toArray)(hc:P.cellsOf e=sz)(hs:0<sz)(n:Nat):hK P e n=(List.replicate (n*sz) v).toArray:=by
 unfold hK;rw[hc]
 cases hi:(P.info? e).bind (·.zero) with
 |none=>rw[hi]at a;cases a
 |some z=>
  rw[hi]at a;simp only[lT,Option.some.injEq]at a;simp only[Option.getD_some];apply Array.ext
  .simp
  .intro i h1 h2
   have b:n*sz≠0:=by
    intro h;simp[h]at h2
   simp only[b,if_false,a,Array.getElem_map,Array.getElem_range];have aJ:i%sz<sz:=hZ _ hs;simp[aJ]
theorem Il(m n:Nat):bg aD (List.replicate n (List.replicate m 0))=List.replicate (n*m) (.int .u8 0):=by
 induction n with
 |zero=>simp[bg]
 |succ n a=>
  rw[List.replicate_succ,rf,a,jz,Nat.one_mul,Nat.add_comm];have e:aD (List.replicate m 0)=List.replicate m (Value.int .u8 0):=by simp[aD]
  rw[e,List.replicate_append_replicate]
def il:du:=List.replicate 256 0
theorem Im(n:Nat):hK ai 182 n=(bg aD (List.replicate n il)).toArray:=by
 unfold il;rw[Il];exact Ik (by kernel_rfl) (by kernel_rfl) (by decide) n
def rl(n d lb mr:Nat):bm:=⟨d,lb,mr,[-1, -1, -1, -1],List.replicate n il,[],0,0,λ_=>false,λ_=> [],true⟩
theorem Io{w:J}{b:Nat}{vs:O Y}{T:TypeId}(h:Var w b vs T)(g:4<=vs.length):
 aK ai 69 #[.pointer (some b)] w (λv w'=>v=.tuple #[]/\Var w' b (List.replicate 4 (.int .i64 (-1))++vs.drop 4) T/\af (λq=>q=b) w w'/\w'.heap.size=w.heap.size):=by
 refine okF (ae.vn (some b)) ay.vn func69 ?_;(delta ae.vn an st ar;dsimp only);refine⟨λi w'=>∃j:Nat,i=j/\j<=4/\Var w' b (List.replicate j (.int .i64 (-1))++vs.drop j) T/\af (λq=>q=b) w w'/\w'.heap.size=w.heap.size,λi _=>((4:Int)-i).toNat,⟨0,rfl,I,h,.refl _ _,rfl⟩,?_⟩;rintro _ w1 ⟨j,rfl,k,c,hc,f⟩;refine⟨λaJ=>?_,λd=>?_⟩
 .have aJ:j<4:=by have:=cl aJ;omega
  have a:Addr.add b (Int.toNat (j:Int)*1)=⟨b,j,none⟩:=by rw[di,fE,az,cF]
  obtain⟨s1,s2⟩:=eP c (i:=j) (by simp;omega);rw[bB (n:=(j:Int)+1) I I];refine⟨_,rfl,⟨I,by show(j:Int)<4;omega⟩,by rw[a];exact s1,by rw[a];exact s2,aX ⟨⟨j+1,I,I,?_,?_,?_⟩,?_⟩⟩
  .have:=eO c (i:=j) (.int .i64 (-1))
   rw[a];have e:(List.replicate j (Value.int .i64 (-1))++vs.drop j).set j (.int .i64 (-1))=List.replicate (j+1) (.int .i64 (-1))++vs.drop (j+1):=by
    rw[tQ _ _ (by simp),mw,oe,kk (show j<vs.length from I),List.set_cons_zero,List.replicate_succ',cM];rfl
   rwa[e]at this
  .rw[a];exact hc.trans (ek _ _ _ _)
  .rw[a];simpa[World.setCell] using f
  .show((4:Int)-((j:Int)+1)).toNat<((4:Int)-(j:Int)).toNat
   omega
 .have d:j=4:=by have:=cw d;omega
  subst d;exact⟨rfl,c,hc,f⟩
theorem qs{n:Nat}(h1:16<=n)(h2:n<=1600)(w:J):
 aK ai 18 #[.int .i64 ((n:Nat):Int)] w (λv w'=>∃d lb mr:Nat,v=.tuple #[.pointer (some ⟨d,0,none⟩),.int .i64 0]/\dz w' (rl n d lb mr)/\Ext w w'/\∀q,cA (rl n d lb mr) q->w.heap.size<=q):=by
 refine okF (ae.qs ((n:Nat):Int)) ay.qs func18 ?_;delta ae.qs an kV aa gT;refine⟨λh=>?_,λ_=>⟨⟨I,I,I,I⟩,?_⟩⟩
 .simp only[jy,b_]at h;omega
 rw[Im,di];have g:=bu.new w (bg aD (List.replicate n il)).toArray 182;have i:=c8 w (.cells (bg aD (List.replicate n il)).toArray 182);have j:=pA w (.cells (bg aD (List.replicate n il)).toArray 182);obtain⟨w1,k⟩:∃w1,w1=w.alloc (.cells (bg aD (List.replicate n il)).toArray 182):=⟨_,rfl⟩;rw[←k]at g i j⊢;obtain⟨aw,ax⟩:=eV.make (P:=ai) (enc:=encZ) 137 w1;have a:=c8 w1 (.map #[] 0);have l:=pA w1 (.map #[] 0);obtain⟨aj,m⟩:∃aj,aj=w1.alloc (.map #[] 0):=⟨_,rfl⟩;rw[←m]at aw ax a l;refine aX ⟨some w1.heap.size,aj,aw,#[.int .i64 0,.int .i64 0,.int .i64 0,.int .i64 0,.slice (some ⟨w.heap.size,0,none⟩) n n,.map (some w1.heap.size),.int .i64 0],by kernel_rfl,bc (vs:=[.int .i64 0,.int .i64 0,.int .i64 0,.int .i64 0,.slice (some ⟨w.heap.size,0,none⟩) n n,.map (some w1.heap.size),.int .i64 0]) rfl λr o b t=>⟨_,rfl,(Io o (by show 4<=7;decide)).use ?_⟩⟩;rintro _ u ⟨rfl,p,f,y⟩;refine⟨rfl,aj.heap.size,w.heap.size,w1.heap.size,rfl,⟨?_,?_,?_,λx hx=>(by cases hx),λx hx=>(by cases hx),λs hs=>?_,λx hx=>(by cases hx),?_,?_,rfl,λx hx=>?_,?_,λx hx=>(by cases hx),λx hx=>(by cases hx),λ_=>rfl⟩,Ext.cD (i.trans (a.trans b)) f I,?_⟩
 .have e:(rl n aj.heap.size w.heap.size w1.heap.size).c=List.replicate 4 (.int .i64 (-1))++ [Value.int .i64 0,.int .i64 0,.int .i64 0,.int .i64 0,.slice (some ⟨w.heap.size,0,none⟩) n n,.map (some w1.heap.size),.int .i64 0].drop 4:=by
   unfold bm.c rl;simp
  rw[e];exact p
 .exact bu.ah ((g.ext a).ext b) f (by show¬w.heap.size=aj.heap.size;omega)
 .exact(ax.ext b).ah f I
 .rw[xE hs,il,mw]
 .show 16<=(List.replicate n il).length;simpa using h1
 .show(List.replicate n il).length<=1600;simpa using h2
 .have:x= -1:=by
   simp[rl]at hx;exact hx
  subst this;exact⟨by decide,by decide⟩
 .exact⟨by show aj.heap.size≠w.heap.size;omega,by show aj.heap.size≠w1.heap.size;omega,by show w.heap.size≠w1.heap.size;omega⟩
 .rintro q (rfl|rfl|rfl|⟨x,hx,_⟩)
  .show w.heap.size<=aj.heap.size;omega
  .exact bt _
  .show w.heap.size<=w1.heap.size;omega
  .cases hx
structure e1 where
 root:Nat
 aN:Nat
 map:Nat
 clock:Nat
 dA:Nat
 keys:Nat
 deriving DecidableEq
def C3:e1:=⟨0,0,0,0,0,0⟩
def e1.c(u:e1):O Y:=[u.root,u.aN,u.map,.int .u64 (u.clock:Nat),.int .u64 (u.dA:Nat),u.keys]
structure nZ(u:e1):Prop where
 root:u.root<4294967296
 aN:u.aN<256
 map:u.map<4294967296
 clock:u.clock<18446744073709551616
 dA:u.dA<18446744073709551616
 keys:u.keys<4294967296
def hD(u:e1)(n:Nat):O UInt8:=[]++bL u.root 4++bL u.aN 1++bL u.map 4++bL n 4++bL u.clock 8++bL u.dA 8++bL u.keys 4
def rm(b:O UInt8):e1:=⟨dX b 0 4,dX b 4 1,dX b 5 4,dX b 13 8,dX b 21 8,dX b 29 4⟩
def n0(u:e1)(n:Nat):Prop:=(u.root=0↔u.aN=0)/\u.aN<=12/\u.root<n/\u.map<n/\2<=u.map/\n<=1600
instance Lm(u:e1)(n:Nat):Decidable (n0 u n):=by unfold n0;infer_instance
def th(no:Int)(l:O UInt8):Except Int (e1×Nat×Nat):=match fD no l with
 | .error e=>.error e
 | .ok p=>if p.kind≠3\/p.body.length≠33 then .error 4 else if n0 (rm p.body) (dX p.body 9 4) then .ok (rm p.body,dX p.body 9 4,p.gen) else .error 4
theorem C4(u:e1)(n:Nat):(hD u n).length=33:=by simp[hD,dH]
theorem Ip{u:e1}{n:Nat}(h:nZ u)(c:n<4294967296):rm (hD u n)=u/\dX (hD u n) 9 4=n:=by
 have e:∀ {k x m:Nat} (a b:O UInt8),hD u n=a++(bL x k++b)->a.length=m->x<256^k->dX (hD u n) m k=x:=λa b he d hx=>by rw[he];exact s9 d hx
 have f:=h.keys;refine⟨?_,e (bL u.root 4++bL u.aN 1++bL u.map 4) (bL u.clock 8++(bL u.dA 8++bL u.keys 4)) (by simp[hD]) (by simp[dH]) c⟩;unfold rm;rw[e (m:=0) [] (bL u.aN 1++(bL u.map 4++(bL n 4++(bL u.clock 8++(bL u.dA 8++bL u.keys 4))))) (by simp[hD]) rfl h.root,
  e (bL u.root 4) (bL u.map 4++(bL n 4++(bL u.clock 8++(bL u.dA 8++bL u.keys 4)))) (by simp[hD]) (by simp[dH]) h.aN,
  e (bL u.root 4++bL u.aN 1) (bL n 4++(bL u.clock 8++(bL u.dA 8++bL u.keys 4))) (by simp[hD]) (by simp[dH]) h.map,
  e (bL u.root 4++bL u.aN 1++bL u.map 4++bL n 4) (bL u.dA 8++bL u.keys 4) (by simp[hD]) (by simp[dH]) h.clock,
  e (bL u.root 4++bL u.aN 1++bL u.map 4++bL n 4++bL u.clock 8) (bL u.keys 4) (by simp[hD]) (by simp[dH]) h.dA,
  e (bL u.root 4++bL u.aN 1++bL u.map 4++bL n 4++bL u.clock 8++bL u.dA 8) [] (by simp[hD]) (by simp[dH]) f]
def ju(u:e1)(n gen:Nat):jL:=⟨3,gen,hD u n⟩
theorem zx{u:e1}{n gen:Nat}(hg:gen<18446744073709551616):nT (ju u n gen):=⟨(by decide:1<=3),(by decide:3<=4),hg,by show(hD u n).length<=232;rw[C4];decide⟩
theorem C5{u:e1}{n gen no:Nat}(h:nZ u)(hu:n0 u n)(hg:gen<18446744073709551616)(a:no<1600):th no (eN no (ju u n gen))=.ok (u,n,gen):=by
 unfold th;rw[wR a (zx hg)];have b:n<4294967296:=by have:=hu.2.2.2.2.2;omega
 obtain⟨h1,h2⟩:=Ip h b;show(if (3:Nat)≠3\/(hD u n).length≠33 then _ else if n0 (rm (hD u n)) (dX (hD u n) 9 4) then Except.ok (rm (hD u n),dX (hD u n) 9 4,gen) else _)=_;rw[h1,h2,if_neg (by rw[C4];simp),if_pos hu]
section
variable {w w':J}{h:Nat}{vs:O Y}{u:e1}
theorem e1.plain(u:e1):∀v∈u.c,Plain v:=by
 intro v a;simp only[e1.c,de,fG,fQ]at a;rcases a with rfl|rfl|rfl|rfl|rfl|rfl<;>trivial
theorem rn(a:Var w h u.c 104){K:Int->Int->Int->Int->Int->Int->Prop}(d:K (u.root:Nat) (u.aN:Nat) (u.map:Nat) (u.clock:Nat) (u.dA:Nat) (u.keys:Nat)):
 ∃bW:Int,w.cell? h=some (.int .i64 bW)/\∃bz:Int,w.cell? (Addr.add h 1)=some (.int .i64 bz)/\∃b:Int,w.cell? (Addr.add h 2)=some (.int .i64 b)/\
  ∃bV:Int,w.cell? (Addr.add h 3)=some (.int .u64 bV)/\∃n5:Int,w.cell? (Addr.add h 4)=some (.int .u64 n5)/\∃n6:Int,w.cell? (Addr.add h 5)=some (.int .i64 n6)/\K bW bz b bV n5 n6:=
 ⟨_,a.cell,_,by rw[az];exact a.cell,_,by rw[az];exact a.cell,_,by rw[az];exact a.cell,_,by rw[az];exact a.cell,_,by rw[az];exact a.cell,d⟩
theorem C6(a:Var w h vs 104)(b:vs.length=6)(u:e1){K:J->Prop}(d:∀aj,Var aj h u.c 104->af (λq=>q=h) w aj->aj.heap.size=w.heap.size->K aj):
 bk w h [u.root,u.aN,u.map,.int .u64 (u.clock:Nat),.int .u64 (u.dA:Nat),u.keys]/\(6:Nat)=6/\
  ak (setCells w h 0 [u.root,u.aN,u.map,.int .u64 (u.clock:Nat),.int .u64 (u.dA:Nat),u.keys]) K:=
 ⟨a.b3 (by rw[b];rfl) u.plain,rfl,cp a (us:=u.c) (by rw[b];rfl) rfl λaj e hc f=>d aj e hc f⟩
end
theorem qz{w:J}{u:e1}(h:nZ u){n:Nat}(t:n<4294967296):aK ai 138 #[.agg u.c.toArray,n] w (λv w'=>∃s:ad,v=s/\aT 1 5 w' s (aD (hD u n))/\Ext w w'/\gO w s):=by
 have h1:=h.root;have h2:=h.aN;have y:=h.map;have U:=h.clock;have V:=h.dA;have z:=h.keys;have a:∀ {x:Nat},x<4294967296->IntKind.wrap .u64 (x:Int)=(x:Int):=λ{x} hx=>gq I I;refine okF (ae.qz (u.root:Nat) (u.aN:Nat) (u.map:Nat) (u.clock:Nat) (u.dA:Nat) (u.keys:Nat) (n:Nat)) ay.qz func138 ?_;(delta ae.qz aF aa bK b5;dsimp only);refine bc (vs:=u.c) rfl λw1 b A W=>⟨_,b.cell,?_⟩;rw[a h1];refine(gV (s:=⟨none,0,0⟩) (l:=[]) (aT.none 1 5 w1).src (cR _) (n:=u.root) I (by decide)).use ?_;rintro _ aj ⟨s2,rfl,B,d,X⟩;have e:=b.ext d;refine⟨s2,rfl,_,by rw[az];exact e.cell,?_⟩;rw[a (x:=u.aN) I];refine(gV B.src (by simp[dH]) (n:=u.aN) I (by decide)).use ?_;rintro _ Y ⟨C,rfl,D,f,Z⟩;have g:=e.ext f;refine⟨C,rfl,_,by rw[az];exact g.cell,?_⟩;rw[a y];refine(gV D.src (by simp[dH]) (n:=u.map) I (by decide)).use ?_;rintro _ ab ⟨E,rfl,F,i,ac⟩;have G:=g.ext i;refine⟨E,rfl,?_⟩;rw[a t];refine(gV F.src (by simp[dH]) (n:=n) I (by decide)).use ?_;rintro _ af ⟨H,rfl,K,j,ag⟩;have k:=G.ext j;refine⟨H,rfl,_,by rw[az];exact k.cell,?_⟩;refine(gV K.src (by simp[dH]) (n:=u.clock) I (by decide)).use ?_;rintro _ ah ⟨L,rfl,M,m,ak⟩;have o:=k.ext m;refine⟨L,rfl,_,by rw[az];exact o.cell,?_⟩;refine(gV M.src (by simp[dH]) (n:=u.dA) I (by decide)).use ?_;rintro _ al ⟨N,rfl,O,p,am⟩;have P:=o.ext p;refine⟨N,rfl,_,by rw[az];exact P.cell,?_⟩;rw[a z];refine(gV O.src (by simp[dH]) (n:=u.keys) I (by decide)).use ?_;rintro _ an ⟨cO,rfl,Q,R,S⟩;have r:=Ext.trans (Ext.trans (Ext.trans (Ext.trans (Ext.trans (Ext.trans A d) f) i) j) m) p;refine⟨cO,rfl,cO,rfl,Q,Ext.trans r R,λq T=>?_⟩;have:=S q T;have:=r.size;omega
variable {w w':J}
theorem Src.cut{sz:Nat}{s:ad}{vs:O Y}{lo hi:Nat}(h:Src sz w s vs)(hc:s.len<=s.cap)(h1:lo<=hi)(h2:hi<=s.len):
 Src sz w ⟨aO s.a sz lo s.cap,hi-lo,s.cap-lo⟩ ((vs.drop (lo*sz)).take ((hi-lo)*sz)):=by
 have f:=h.len;have g:hi*sz<=s.len*sz:=nm _ h2;have i:lo*sz+(hi-lo)*sz=hi*sz:=by rw[←jz,Nat.add_sub_cancel' h1]
 refine⟨by simp;omega,λc=>?_,λa b=>?_⟩
 .have d:s.a=none:=by
   unfold aO at c;split at c
   .exact c
   .simpa using c
  simp[h.nil d]
 .show a8 w a 0 ((hi-lo)*sz)=_
  by_cases e:hi=lo
  .rw[show hi-lo=0 from I];simp[a8]
  .have aq:∃A,s.a=some A/\a=A.add (lo*sz):=by
    unfold aO at b;rw[if_neg I]at b
    cases hs:s.a with
    |none=>rw[hs]at b;cases b
    |some A=>rw[hs]at b;exact⟨A,rfl,by simpa using b.symm⟩
   obtain⟨A,aq,rfl⟩:=aq;exact yp (h.rd A aq) I
theorem Iq{s:ad}{sz n:Nat}{q:Nat}:aE ⟨aO s.a sz 0 s.cap,n-0,s.cap-0⟩ q↔aE s q:=by
 rw[yn];exact Iff.rfl
section
variable {P:Program}{cS e cC:TypeId}{sz bytes:Nat}
structure eF(sz:Nat)(e:TypeId)(w0 w:J)(s:ad)(l:O Y):Prop where
 o:aT sz e w s l
 x:Ext w0 w
 f:∀q,aE s q->w0.heap.size<=q
theorem Ext.new{a:Nat->Prop}{w0 w1 aj:J}(hx:Ext w0 w1)(h:af a w1 aj)(cK:∀q,a q->w0.heap.size<=q):Ext w0 aj/\af (λq=>w0.heap.size<=q) w1 aj:=
 ⟨Ext.df hx h cK,h.mono λq _ b=>cK q b⟩
theorem eF.app(h:h8 P cS e sz bytes){w0 w1:J}{s x:ad}{l xs:O Y}(hs:eF sz e w0 w1 s l)(hx:Src sz w1 x xs)(d:∀v∈xs,Plain v)(g:(2*(s.len+x.len)+1000)*bytes<=281474976710656):
 ∃ (a:ad) (aj:J),Sem.run P (Builtin.append_ #[cS,cS] cC #[s,x]) w1=.ok a aj/\af (λq=>w0.heap.size<=q) w1 aj/\eF sz e w0 aj a (l++xs)/\
  a.len=s.len+x.len/\af (aE s) w1 aj/\∀q,aE a q->aE s q\/w1.heap.size<=q:=by
 obtain⟨a,aj,aw,ax,i,b,c⟩:=h.append (cC:=cC) hx hs.o d g;obtain⟨cc,cn⟩:=Ext.new hs.x b hs.f;exact⟨a,aj,aw,cn,⟨ax,cc,λq j=>(c q j).elim (hs.f q) λh=>eC hs.x.size h⟩,i,b,c⟩
theorem size_le{a b c:Nat}(h:(2*b+1000)*c<=281474976710656)(d:a<=b):(2*a+1000)*c<=281474976710656:=eC (nm _ I) h
theorem C7(h:h8 P cS e sz bytes){x iS L:O Y}{s1 s2:ad}{w0:J}
 (U:∀w:J,Sem.run P (Instr.buildSlice cS 0 #[]) w=.ok (.slice (some w.heap.size) 0 0) (w.alloc (.cells #[] e)))
 (cr:∀w:J,Sem.run P (Instr.buildSlice cS 1 #[(0,.agg x.toArray)]) w=.ok (.slice (some w.heap.size) 1 1) (w.alloc (.cells x.toArray e)))
 (hx:x.length=sz) (h1:Src sz w0 s1 iS) (h2:Src sz w0 s2 L) (aL:∀v∈x,Plain v) (bh:∀v∈iS,Plain v) (bj:∀v∈L,Plain v)
 (u:(2*(s1.len+s2.len+1)+1000)*bytes<=281474976710656) {K:ad->J->Prop} (am:∀V w',eF sz e w0 w' V (iS++x++L)->K V w'):
 (∃M:ad,∃p:J,Sem.run P (Instr.buildSlice cS 0 #[]) w0=.ok M p/\af (λq=>w0.heap.size<=q) w0 p/\(
   (∃d:ad,∃g:J,Sem.run P (Builtin.append_ #[cS,cS] cC #[M,s1]) p=.ok d g/\af (λq=>w0.heap.size<=q) p g/\
     ∃m:ad,∃A:J,Sem.run P (Instr.buildSlice cS 1 #[(0,.agg x.toArray)]) g=.ok m A/\af (λq=>w0.heap.size<=q) g A/\
     ∃i:ad,∃c:J,Sem.run P (Builtin.append_ #[cS,cS] cC #[d,m]) A=.ok i c/\af (λq=>w0.heap.size<=q) A c/\
     ∃n:ad,∃k:J,Sem.run P (Builtin.append_ #[cS,cS] cC #[i,s2]) c=.ok n k/\af (λq=>w0.heap.size<=q) c k/\K n k)/\
   (∃W:ad,∃B:J,Sem.run P (Instr.buildSlice cS 1 #[(0,.agg x.toArray)]) p=.ok W B/\af (λq=>w0.heap.size<=q) p B/\
     ∃X:ad,∃C:J,Sem.run P (Builtin.append_ #[cS,cS] cC #[M,s1]) B=.ok X C/\af (λq=>w0.heap.size<=q) B C/\
     ∃Z:ad,∃D:J,Sem.run P (Builtin.append_ #[cS,cS] cC #[X,W]) C=.ok Z D/\af (λq=>w0.heap.size<=q) C D/\
     ∃aa:ad,∃N:J,Sem.run P (Builtin.append_ #[cS,cS] cC #[Z,s2]) D=.ok aa N/\af (λq=>w0.heap.size<=q) D N/\K aa N)))/\
 (∃ab:ad,∃E:J,Sem.run P (Instr.buildSlice cS 1 #[(0,.agg x.toArray)]) w0=.ok ab E/\af (λq=>w0.heap.size<=q) w0 E/\
   ∃ac:ad,∃F:J,Sem.run P (Instr.buildSlice cS 0 #[]) E=.ok ac F/\af (λq=>w0.heap.size<=q) E F/\
   ∃ae:ad,∃G:J,Sem.run P (Builtin.append_ #[cS,cS] cC #[ac,s1]) F=.ok ae G/\af (λq=>w0.heap.size<=q) F G/\
   ∃ag:ad,∃H:J,Sem.run P (Builtin.append_ #[cS,cS] cC #[ae,ab]) G=.ok ag H/\af (λq=>w0.heap.size<=q) G H/\
   ∃ai:ad,∃Q:J,Sem.run P (Builtin.append_ #[cS,cS] cC #[ag,s2]) H=.ok ai Q/\af (λq=>w0.heap.size<=q) H Q/\K ai Q):=by
 have l1:∀ (w:J) (o:Obj),Ext w (w.alloc o):=λw o=>af.alloc (.refl _ _) o;have dN:∀w:J,Ext w0 w->eF sz e w0 (w.alloc (.cells #[] e)) ⟨some w.heap.size,0,0⟩ []:=λw ak=>
  ⟨aT.new (T:=e) w [] 0 (by simp) (by decide),Ext.trans ak (l1 w _),λq l=>by rw[jl]at l;have:=ak.size;simp at l;omega⟩
 have R:∀w:J,Src sz (w.alloc (.cells x.toArray e)) ⟨some w.heap.size,1,1⟩ x:=λw=>Src.new w x 1 (by simpa using hx);have y:∀ {w aj:J},Ext w aj->af (λq=>w0.heap.size<=q) w aj:=λh=>af.cN h;have an:∀ {s:ad}{a b:J},eF sz e w0 a s []->Ext a b->eF sz e w0 b s []:=λh hx=>⟨h.o.ext hx,Ext.trans h.x hx,h.f⟩
 have tail:∀ {w1 aj:J}{d m:ad},eF sz e w0 w1 d iS->d.len=s1.len->Ext w1 aj->Src sz aj m x->m.len=1->
  ∃i:ad,∃c:J,Sem.run P (Builtin.append_ #[cS,cS] cC #[d,m]) aj=.ok i c/\af (λq=>w0.heap.size<=q) aj c/\
   ∃n:ad,∃k:J,Sem.run P (Builtin.append_ #[cS,cS] cC #[i,s2]) c=.ok n k/\af (λq=>w0.heap.size<=q) c k/\K n k:=by
  intro w1 aj d m hf ar al ao au;have ap:eF sz e w0 aj d iS:=⟨hf.o.ext al,Ext.trans hf.x al,hf.f⟩;obtain⟨i,c,aw,ax,j,t,_,_⟩:=eF.app (cC:=cC) h ap ao aL (size_le u I);obtain⟨n,k,cc,cn,aq,_,_,_⟩:=eF.app (cC:=cC) h j (h2.ext j.x) bj (size_le u I);exact⟨i,c,aw,ax,n,k,cc,cn,am _ _ aq⟩
 refine⟨⟨⟨some w0.heap.size,0,0⟩,_,U w0,y (l1 _ _),?_,?_⟩,?_⟩
 .have f0:=dN w0 (.refl _ _)
  obtain⟨d,g,aw,ax,j,t,_,_⟩:=eF.app (cC:=cC) h f0 (h1.ext f0.x) bh (size_le u (by simp;omega));rw[hG]at j;obtain⟨i,c,r⟩:=tail j (by simpa using t) (l1 g (.cells x.toArray e)) (R g) rfl;exact⟨d,g,aw,ax,⟨some g.heap.size,1,1⟩,_,cr g,y (l1 _ _),i,c,r⟩
 .have f0:=an (dN w0 (.refl _ _)) (l1 _ (.cells x.toArray e))
  obtain⟨d,g,aw,ax,j,t,S,_⟩:=eF.app (cC:=cC) h f0 (h1.ext f0.x) bh (size_le u (by simp;omega));rw[hG]at j;have hs:=(R (w0.alloc (.cells #[] e))).ah S λq l z=>by
   rw[jl]at l z;simp at l z;omega
  obtain⟨i,c,r⟩:=tail j (by simpa using t) (.refl _ _) hs rfl;exact⟨⟨some ⟨(w0.alloc (.cells #[] e)).heap.size,0,none⟩,1,1⟩,_,cr _,y (l1 _ _),d,g,aw,ax,i,c,r⟩
 .have f0:=dN (w0.alloc (.cells x.toArray e)) (l1 _ _)
  obtain⟨d,g,aw,ax,j,t,S,_⟩:=eF.app (cC:=cC) h f0 (h1.ext f0.x) bh (size_le u (by simp;omega));rw[hG]at j;have hs:=((R w0).alloc (.cells #[] e)).ah S λq l z=>by
   rw[jl]at l z;simp at l z;omega
  obtain⟨i,c,r⟩:=tail j (by simpa using t) (.refl _ _) hs rfl;exact⟨⟨some w0.heap.size,1,1⟩,_,cr _,y (l1 _ _),⟨some ⟨(w0.alloc (.cells x.toArray e)).heap.size,0,none⟩,0,0⟩,_,U _,y (l1 _ _),d,g,aw,ax,i,c,r⟩
end
end Go.Proofs.YtkdhdlfonmgheaaGreat
namespace Go.Proofs.YtkdhdlfonmgheaaGreat
open Go Go.Proofs Go.Shelf
def Ir:Go.Shelf.Ren:=⟨λ |5=>153|8=>213|7=>212|19=>264|20=>265|10=>255|11=>256|12=>257|13=>258|14=>259|15=>260|16=>261|17=>262|18=>263|30=>286|31=>287|32=>288|33=>289|34=>290|35=>291|40=>297|n=>n,λ |23=>58|25=>3|3=>3|32=>101|22=>58|0=>0|44=>219|46=>27|4=>4|36=>340|35=>339|41=>175|5=>5|9=>9|53=>364|57=>367|63=>371|64=>234|n=>n,λ |n=>n⟩
theorem C8:Go.Proofs.SlLaysM.n5 Tryz.prog Ir:={
 mixed:=by kernel_rfl
 f5:=⟨Tryz.f153.name,by decide,Tryz.func153.trans (congrArg some (by kernel_rfl))⟩
 f7:=⟨Tryz.f212.name,by decide,Tryz.func212.trans (congrArg some (by kernel_rfl))⟩
 f8:=Tryz.func213.trans (congrArg some (by kernel_rfl))
 f10:=⟨Tryz.f255.name,by decide,Tryz.func255.trans (congrArg some (by kernel_rfl))⟩
 f11:=⟨Tryz.f256.name,by decide,Tryz.func256.trans (congrArg some (by kernel_rfl))⟩
 f12:=⟨Tryz.f257.name,by decide,Tryz.func257.trans (congrArg some (by kernel_rfl))⟩
 f13:=⟨Tryz.f258.name,by decide,Tryz.func258.trans (congrArg some (by kernel_rfl))⟩
 f14:=⟨Tryz.f259.name,by decide,Tryz.func259.trans (congrArg some (by kernel_rfl))⟩
 f15:=⟨Tryz.f260.name,by decide,Tryz.func260.trans (congrArg some (by kernel_rfl))⟩
 f16:=⟨Tryz.f261.name,by decide,Tryz.func261.trans (congrArg some (by kernel_rfl))⟩
 f17:=⟨Tryz.f262.name,by decide,Tryz.func262.trans (congrArg some (by kernel_rfl))⟩
 f18:=⟨Tryz.f263.name,by decide,Tryz.func263.trans (congrArg some (by kernel_rfl))⟩
 f19:=Tryz.func264.trans (congrArg some (by kernel_rfl))
 f20:=Tryz.func265.trans (congrArg some (by kernel_rfl))
 f30:=⟨Tryz.f286.name,by decide,Tryz.func286.trans (congrArg some (by kernel_rfl))⟩
 f31:=Tryz.func287.trans (congrArg some (by kernel_rfl))
 f32:=Tryz.func288.trans (congrArg some (by kernel_rfl))
 f33:=⟨Tryz.f289.name,by decide,Tryz.func289.trans (congrArg some (by kernel_rfl))⟩
 f34:=⟨Tryz.f290.name,by decide,Tryz.func290.trans (congrArg some (by kernel_rfl))⟩
 f35:=⟨Tryz.f291.name,by decide,Tryz.func291.trans (congrArg some (by kernel_rfl))⟩
 f40:=⟨Tryz.f297.name,by decide,Tryz.func297.trans (congrArg some (by kernel_rfl))⟩
 t0:=Tryz.underlying0
 a0:=Tryz.isAgg0
 z0:=Tryz.sizeOf0
 v0:=Tryz.zeroValue0
 t3:=Tryz.underlying3
 a3:=Tryz.isAgg3
 z3:=Tryz.sizeOf3
 v3:=Tryz.zeroValue3
 t4:=Tryz.underlying4
 a4:=Tryz.isAgg4
 z4:=Tryz.sizeOf4
 v4:=Tryz.zeroValue4
 t5:=Tryz.underlying5
 a5:=Tryz.isAgg5
 z5:=Tryz.sizeOf5
 v5:=Tryz.zeroValue5
 t9:=Tryz.underlying9
 a9:=Tryz.isAgg9
 z9:=Tryz.sizeOf9
 v9:=Tryz.zeroValue9
 t22:=Tryz.underlying58
 a22:=Tryz.isAgg58
 z22:=Tryz.sizeOf58
 v22:=Tryz.zeroValue58
 t23:=Tryz.underlying58
 a23:=Tryz.isAgg58
 z23:=Tryz.sizeOf58
 v23:=Tryz.zeroValue58
 t25:=Tryz.underlying3
 a25:=Tryz.isAgg3
 z25:=Tryz.sizeOf3
 v25:=Tryz.zeroValue3
 t32:=Tryz.underlying101
 a32:=Tryz.isAgg101
 z32:=Tryz.sizeOf101
 v32:=Tryz.zeroValue101
 t35:=Tryz.underlying339
 a35:=Tryz.isAgg339
 z35:=Tryz.sizeOf339
 v35:=Tryz.zeroValue339
 t36:=Tryz.underlying340
 a36:=Tryz.isAgg340
 z36:=Tryz.sizeOf340
 v36:=Tryz.zeroValue340
 t41:=Tryz.underlying175
 a41:=Tryz.isAgg175
 z41:=Tryz.sizeOf175
 v41:=Tryz.zeroValue175
 t44:=Tryz.underlying219
 a44:=Tryz.isAgg219
 z44:=Tryz.sizeOf219
 v44:=Tryz.zeroValue219
 t46:=Tryz.underlying27
 a46:=Tryz.isAgg27
 z46:=Tryz.sizeOf27
 v46:=Tryz.zeroValue27
 t53:=Tryz.underlying364
 a53:=Tryz.isAgg364
 z53:=Tryz.sizeOf364
 v53:=Tryz.zeroValue364
 t57:=Tryz.underlying367
 a57:=Tryz.isAgg367
 z57:=Tryz.sizeOf367
 v57:=Tryz.zeroValue367
 t63:=Tryz.underlying371
 a63:=Tryz.isAgg371
 z63:=Tryz.sizeOf371
 v63:=Tryz.zeroValue371
 t64:=Tryz.underlying234
 a64:=Tryz.isAgg234
 z64:=Tryz.sizeOf234
 v64:=Tryz.zeroValue234}
end Go.Proofs.YtkdhdlfonmgheaaGreat
namespace Go.Proofs.YtkdhdlfonmgheaaGreat
open Go aS Go.Proofs.Tryz
theorem Is{w:J}{b n:Nat}{c:Array Y}{T:TypeId}{os:Array Obj}{zs:O Int}(h:bu w b c T)(g:zs.length<=c.size):
 ∃c':Array Y,bu (Go.Sort.grow (Go.Sort.putRow (Value.int .i64) (Go.Sort.ahead w n) b 0 zs.toArray) os) b c' T/\c'.size=c.size/\c'.toList.take zs.length=zs.map encZ/\af (λq=>q=b) w (Go.Sort.grow (Go.Sort.putRow (Value.int .i64) (Go.Sort.ahead w n) b 0 zs.toArray) os):=by
 have aJ:=h.lt;have d:∀k,k<w.heap.size->(Go.Sort.grow (Go.Sort.putRow (Value.int .i64) (Go.Sort.ahead w n) b 0 zs.toArray) os).heap[k]? =(w.heap.modify b (Go.Sort.onCells (Go.Sort.putCells (Value.int .i64) 0 zs.toArray)))[k]? :=λk a=>by
  show((w.heap.modify b _)++os)[k]? =_;rw[Array.getElem?_append_left (by simpa using a)]
 refine⟨Go.Sort.putCells (Value.int .i64) 0 zs.toArray c,?_,by simp[Go.Sort.putCells],?_,rfl,rfl,rfl,?_,λk a f=>?_⟩
 .unfold bu at h⊢
  rw[d b aJ,tI,if_pos rfl,h];rfl
 .apply List.ext_getElem?
  intro i;rw[tM];split
  .rename_i hi
   rw[Array.getElem?_toList,Go.Sort.putCells,Array.getElem?_mapIdx,Array.getElem?_eq_getElem I,lT,if_pos ⟨cR _,by simpa using hi⟩,nq,dU hi];simp[hi]
  .rename_i hi
   rw[oz (by simpa using hi)]
 .show w.heap.size<=((w.heap.modify b _)++os).size
  simp
 .rw[d k a,tI,if_neg (λe=>f e.symm)]
theorem It{w:J}{s:ad}{zs:O Int}(h:aT 1 3 w s (zs.map encZ))(E:zs.length<=1000000):
 aK ai 153 #[s] w (λv w'=>v=.tuple #[]/\af (aE s) w w'/\∃ys:O Int,aT 1 3 w' s (ys.map encZ)/\ys.Perm zs/\ys.Pairwise λa b=>a<=b):=by
 have F:s.len=zs.length:=by have:=h.1;rw[dk]at this;omega
 rcases oA zs.length with h0|h0
 .have hd:zs=[]:=mq.1 h0
  have e:s.len=0:=by omega
  rw[e];refine Calls.mono (AnyM.slices_Sort_int_none C8 s.a s.cap w) ?_;rintro _ _ ⟨rfl,rfl⟩;exact⟨_,rfl,rfl,.refl _ _,[],by rw[hd]at h;exact h,by rw[hd],List.Pairwise.nil⟩
 obtain⟨h1,h2,r,t⟩:=h;rcases t with ⟨_,f⟩|⟨b,c,g,d,u,z⟩
 .omega
 have A:Go.Sort.Holds (Value.int .i64) w b 0 zs.toArray:=λj B=>by
  have k:j<zs.length:=by simpa using B
  refine⟨?_,bu.frozen d _ rfl⟩;rw[d.cell,cF];have e:=congrArg (λl=>l[j]?) z;simp only[tM,nq,dU k,lT]at e;rw[if_pos I,Array.getElem?_toList]at e;rw[e];simp[k]
 have C:=AnyM.slices_Sort_int C8 b 0 s.cap zs w A d.lt I;rw[g];have e:s.len=zs.length:=by omega
 rw[e];refine Calls.mono C ?_;rintro _ w' ⟨rfl,n,os,rfl⟩;obtain⟨c',aw,ax,m,o⟩:=Is (n:=n) (os:=os) (zs:=zs.mergeSort λx y=>decide (x<=y)) d (by rw[List.length_mergeSort];omega);have i:=List.mergeSort_perm zs λx y=>decide (x<=y);have p:(zs.mergeSort λx y=>decide (x<=y)).Pairwise λa b=>decide (a<=b)=true:=List.pairwise_mergeSort (λa b c h1 h2=>by simp only[b_]at*;omega) (λa b=>by simp only[jy,b_];omega) zs;generalize (zs.mergeSort λx y=>decide (x<=y))=ys at aw ax m o i p;refine⟨_,rfl,rfl,o.mono λq _ e=>⟨b,g,e.symm⟩,ys,?_,i,p.imp λh=>cl h⟩;have D:=i.length_eq;have f:=aT.mk' (sz:=1) (n:=s.len) (cap:=s.cap) aw (vs:=ys.map encZ) (by rw[dk];omega) h2 r (by rw[ax];exact u) (by rw[fE,e,←D];exact m);rw[←g]at f;exact f
def lN(a cr bX b c d e f:al):Nat:=
 a.toNat+2*cr.toNat+4*bX.toNat+8*b.toNat+16*c.toNat+32*d.toNat+64*e.toNat+128*f.toNat
def byteOf(f:Nat->al)(i:Nat):Nat:=lN (f (8*i)) (f (8*i+1)) (f (8*i+2)) (f (8*i+3)) (f (8*i+4)) (f (8*i+5)) (f (8*i+6)) (f (8*i+7))
theorem Iu:∀a cr bX b c d e f:al,lN a cr bX b c d e f<256:=by decide+kernel
theorem Iv:∀a cr bX b c d e f:al,
 (lN a cr bX b c d e f).testBit 0=a/\(lN a cr bX b c d e f).testBit 1=cr/\(lN a cr bX b c d e f).testBit 2=bX/\(lN a cr bX b c d e f).testBit 3=b/\
 (lN a cr bX b c d e f).testBit 4=c/\(lN a cr bX b c d e f).testBit 5=d/\(lN a cr bX b c d e f).testBit 6=e/\(lN a cr bX b c d e f).testBit 7=f:=by decide+kernel
theorem k2(f:Nat->al)(i:Nat):byteOf f i<256:=Iu _ _ _ _ _ _ _ _
theorem pI(f:Nat->al)(i j:Nat)(a:j<8):(byteOf f i).testBit j=f (8*i+j):=by
 obtain⟨h0,h1,h2,b,c,d,e,g⟩:=Iv (f (8*i)) (f (8*i+1)) (f (8*i+2)) (f (8*i+3)) (f (8*i+4)) (f (8*i+5)) (f (8*i+6)) (f (8*i+7));have:j=0\/j=1\/j=2\/j=3\/j=4\/j=5\/j=6\/j=7:=by omega
 unfold byteOf;rcases this with rfl|rfl|rfl|rfl|rfl|rfl|rfl|rfl<;>assumption
theorem Iw{x y:Nat}(hx:x<256)(b:y<256)(h:∀j,j<8->x.testBit j=y.testBit j):x=y:=by
 apply Nat.eq_of_testBit_eq;intro j;by_cases a:j<8
 .exact h j a
 .have p:256<=2^j:=by
   have:=tS (n:=2) I (by omega:8<=j);simpa using this
  rw[Nat.testBit_lt_two_pow I,Nat.testBit_lt_two_pow I]
theorem zy(f:Nat->al)(i x:Nat)(hx:x<256)(h:∀j,j<8->x.testBit j=f (8*i+j)):x=byteOf f i:=
 Iw hx (k2 f i) λj a=>by rw[h j a,pI f i j a]
def dK(f:Nat->al)(k:Nat)(b:al):Nat->al:=λi=>if i=k then b else f i
theorem Ix:∀x:Nat,x<256->∀j:Nat,j<8->(jD .u8 (Int.fdiv (x:Int) (2^(min (Int.toNat (j:Int)) 8))) 1==1)=x.testBit j:=by decide+kernel
theorem Iy:∀x:Nat,x<256->∀j:Nat,j<8->nv .u8 (x:Int) (IntKind.wrap .u8 (1*2^(min (Int.toNat (j:Int)) 8)))=((x|||2^j:Nat):Int):=by decide+kernel
theorem Iz:∀x:Nat,x<256->∀j:Nat,j<8->AL .u8 (x:Int) (IntKind.wrap .u8 (1*2^(min (Int.toNat (j:Int)) 8)))=((x&&&(255-2^j):Nat):Int):=by decide+kernel
theorem zz:∀x:Nat,x<256->∀y:Nat,y<256->x|||y<256:=λ_ hx _ a=>Nat.or_lt_two_pow (n:=8) hx a
theorem IA:∀j:Nat,j<8->∀k:Nat,k<8->(255-2^j).testBit k=(k !=j):=by decide+kernel
theorem IB(x y:Nat)(hx:x<256)(a:y<256):nv .u8 (x:Int) (y:Int)=((x|||y:Nat):Int):=by
 have h:=zz x hx y a;have e:(BitVec.ofInt 8 (x:Int)|||BitVec.ofInt 8 (y:Int)).toNat=x|||y:=by
  simp only[BitVec.ofInt_natCast,BitVec.toNat_or,BitVec.toNat_ofNat];rw[kl (by simpa using hx),kl (by simpa using a)]
 show IntKind.wrap .u8 (((BitVec.ofInt 8 (x:Int)|||BitVec.ofInt 8 (y:Int)).toNat:Nat):Int)=_;rw[e];have:((x|||y:Nat):Int)%256=((x|||y:Nat):Int):=Int.emod_eq_of_lt I I;simp[IntKind.wrap,IntKind.signed,IntKind.bits,this]
theorem IC(k:Nat):8*(k/8)+k%8=k:=Nat.div_add_mod k 8
theorem ID(f:Nat->al)(k:Nat):byteOf f (k/8)|||2^(k%8)=byteOf (dK f k true) (k/8):=by
 refine zy _ _ _ (zz _ (k2 _ _) _ ?_) λj b=>?_
 .have:k%8<8:=hZ _ I
  have:=Nat.pow_lt_pow_right (a:=2) I this;simpa using this
 .rw[nh,pI _ _ _ b,rK,dK]
  by_cases h:8*(k/8)+j=k
  .rw[if_pos h]
   have:k%8=j:=by omega
   simp[this]
  .rw[if_neg h]
   have:¬k%8=j:=by omega
   simp[this]
theorem IE(f:Nat->al)(k:Nat):byteOf f (k/8)&&&(255-2^(k%8))=byteOf (dK f k false) (k/8):=by
 refine zy _ _ _ (Nat.lt_of_le_of_lt Nat.and_le_left (k2 _ _)) λj a=>?_;rw[Nat.testBit_and,pI _ _ _ a,IA _ (hZ _ I) _ a,dK];by_cases h:8*(k/8)+j=k
 .rw[if_pos h]
  have:j=k%8:=by omega
  simp[this]
 .rw[if_neg h]
  have:¬j=k%8:=by omega
  simp[this]
theorem IF(f:Nat->al)(k i:Nat)(b:al)(h:i≠k/8):byteOf (dK f k b) i=byteOf f i:=by
 have e:∀j,j<8->dK f k b (8*i+j)=f (8*i+j):=λj a=>by
  unfold dK;rw[if_neg];omega
 unfold byteOf;rw[e 1 I,e 2 I,e 3 I,e 4 I,e 5 I,e 6 I,e 7 I];have:=e 0 I;simp only[lj]at this;rw[this]
def fg(f:Nat->al)(m:Nat):O Y:=(List.range m).map λi=>.int .u8 (byteOf f i)
theorem zA(f:Nat->al)(m:Nat):(fg f m).length=m:=by simp[fg]
theorem pJ(f:Nat->al){m i:Nat}(h:i<m):(fg f m)[i]? =some (.int .u8 (byteOf f i)):=by simp[fg,h]
theorem C9(f:Nat->al)(k m:Nat)(b:al):(fg f m).set (k/8) (.int .u8 (byteOf (dK f k b) (k/8)))=fg (dK f k b) m:=by
 apply List.ext_getElem?;intro i;rw[List.getElem?_set];by_cases hi:i<m
 .rw[pJ (dK f k b) hi]
  by_cases h:k/8=i
  .subst h
   simp[zA,hi]
  .rw[if_neg h,pJ _ hi,IF f k i b I]
 .have h1:(fg (dK f k b) m)[i]? =none:=by simp[fg];omega
  have h2:(fg f m)[i]? =none:=by simp[fg];omega
  rw[h1,h2];split
  .simp[zA];omega
  .rfl
theorem C_(k:Nat):Int.tdiv (k:Int) 8=((k/8:Nat):Int):=by
 rw[xD I];omega
theorem zB(k:Nat):Int.tmod (k:Int) 8=((k%8:Nat):Int):=by
 rw[og I];omega
theorem zC{k:Nat}(h:k<=9223372036854775807):IntKind.wrap .i64 (Int.tdiv (k:Int) 8)=((k/8:Nat):Int):=by
 rw[C_,bB I I]
theorem Da{s:ad}{b:Nat}(h:s.a=some ⟨b,0,none⟩):aE s b:=⟨_,h,rfl⟩
theorem ti{w:J}{s:ad}{f:Nat->al}{m k:Nat}(h:aT 1 5 w s (fg f m))(a:k/8<m)(d:k<=9223372036854775807):
 aK ai 214 #[s,k] w (λv w'=>v=.bool (f k)/\w=w'):=by
 refine okF (ae.v7 s k) ay.v7 func214 ?_;(delta ae.v7 aM ar dF;dsimp only);obtain⟨b,c,e,g,i,hi,j,hc,_⟩:=h.cell (pJ f a);refine⟨by decide,_,e,?_⟩;rw[zC d,zB];refine⟨⟨I,I⟩,(byteOf f (k/8):Int),?_,by decide,I,?_,rfl⟩
 .rw[fE,di,az,cF];exact hc
 .rw[Ix _ (k2 _ _) _ (hZ _ I),pI _ _ _ (hZ _ I),IC]
theorem Db{w:J}{s:ad}{f:Nat->al}{m k:Nat}(h:aT 1 5 w s (fg f m))(e:k/8<m)(g:k<=9223372036854775807):
 aK ai 130 #[s,k] w (λv w'=>v=.tuple #[]/\aT 1 5 w' s (fg (dK f k true) m)/\af (aE s) w w'):=by
 refine okF (ae.vH s k) ay.vH func130 ?_;(delta ae.vH ak aM ar dF st;dsimp only);obtain⟨b,c,d,i,l,hi,n,hc,_⟩:=h.cell (pJ f e);have a:(Addr.mk b 0 none).add (Int.toNat ((k/8:Nat):Int)*1)=⟨b,k/8,none⟩:=by rw[fE,di,az,cF]
 rw[zC g,zB];refine⟨by decide,_,d,⟨I,I⟩,by simp,(byteOf f (k/8):Int),by rw[a];exact hc,by decide,I,_,d,⟨I,I⟩,⟨_,by rw[a];exact hc⟩,by rw[a];exact i.drew.frozen _ rfl,rfl,?_,?_⟩
 .rw[a,Iy _ (k2 _ _) _ (hZ _ I),ID,←C9]
  have j:aT 1 5 w.drew s (fg f m):=h.ah (W:=λ_=>False) (af.drew (.refl _ _)) (λ_ _ h=>h);exact j.set d _
 .rw[a]
  exact af.set (af.drew (.refl _ _)) (λ_=>Da d) _
theorem IG{w:J}{s:ad}{f:Nat->al}{m k:Nat}(h:aT 1 5 w s (fg f m))(e:k/8<m)(g:k<=9223372036854775807):
 aK ai 219 #[s,k] w (λv w'=>v=.tuple #[]/\aT 1 5 w' s (fg (dK f k false) m)/\af (aE s) w w'):=by
 refine okF (ae.v8 s k) ay.v8 func219 ?_;(delta ae.v8 ak aM ar dF st;dsimp only);obtain⟨b,c,d,i,l,hi,n,hc,_⟩:=h.cell (pJ f e);have a:(Addr.mk b 0 none).add (Int.toNat ((k/8:Nat):Int)*1)=⟨b,k/8,none⟩:=by rw[fE,di,az,cF]
 rw[zC g,zB];refine⟨by decide,_,d,⟨I,I⟩,by simp,(byteOf f (k/8):Int),by rw[a];exact hc,by decide,I,_,d,⟨I,I⟩,⟨_,by rw[a];exact hc⟩,by rw[a];exact i.drew.frozen _ rfl,rfl,?_,?_⟩
 .rw[a,Iz _ (k2 _ _) _ (hZ _ I),IE,←C9]
  have j:aT 1 5 w.drew s (fg f m):=h.ah (W:=λ_=>False) (af.drew (.refl _ _)) (λ_ _ h=>h);exact j.set d _
 .rw[a]
  exact af.set (af.drew (.refl _ _)) (λ_=>Da d) _
structure fh(w:J)(b n:Nat)(f g:Nat->al)(s1 s2:ad):Prop where
 bM:bu w b #[n,s1,s2] 218
 now:aT 1 5 w s1 (fg f ((n+7)/8))
 sure:aT 1 5 w s2 (fg g ((n+7)/8))
 d1:∀k,aE s1 k->k≠b/\¬aE s2 k
 d2:∀k,aE s2 k->k≠b
 bW:1<=n
 bz:n<=1600
 pf:∀i,n<=i->f i=false
 c0:∀i,n<=i->g i=false
def fX(b:Nat)(s1 s2:ad)(k:Nat):Prop:=k=b\/aE s1 k\/aE s2 k
section
variable {w w':J}{b n:Nat}{f g:Nat->al}{s1 s2:ad}
theorem fh.ah{W:Nat->Prop}(h:fh w b n f g s1 s2)(hc:af W w w')(a:∀k,fX b s1 s2 k->¬W k):fh w' b n f g s1 s2:=
 ⟨h.bM.ah hc (a b (.inl rfl)),h.now.ah hc λk c=>a k (.inr (.inl c)),h.sure.ah hc λk c=>a k (.inr (.inr c)),h.d1,h.d2,h.bW,h.bz,h.pf,h.c0⟩
theorem fh.ext(h:fh w b n f g s1 s2)(hc:Ext w w'):fh w' b n f g s1 s2:=h.ah hc λ_ _ h=>h
theorem fh.lt(h:fh w b n f g s1 s2):∀k,fX b s1 s2 k->k<w.heap.size:=by
 rintro k (rfl|a|a)
 .exact h.bM.lt
 .exact h.now.lt k a
 .exact h.sure.lt k a
theorem fh.b6(h:fh w b n f g s1 s2):w.cell? b=some (.int .i64 n):=by rw[h.bM.cell];rfl
theorem fh.aZ(h:fh w b n f g s1 s2):w.cell? ((Addr.mk b 0 none).add 1)=some (.slice s1.a s1.len s1.cap):=by rw[az,h.bM.cell];rfl
theorem fh.bf(h:fh w b n f g s1 s2):w.cell? ((Addr.mk b 0 none).add 2)=some (.slice s2.a s2.len s2.cap):=by rw[az,h.bM.cell];rfl
theorem IH(h:fh w b n f g s1 s2){k:Nat}(a:k<n):
 aK ai 217 #[.pointer (some b),k] w (λv w'=>v=.bool (f k||g k)/\w=w'):=by
 have c:=h.bz;refine ae.Gp _ k w _ ?_;(delta ae.sR r1 b8 an;dsimp only);refine⟨_,rfl,s1,h.aZ,(ti h.now (k:=k) I I).use ?_⟩;rintro _ _ ⟨rfl,rfl⟩;refine⟨_,rfl,⟨λhf=>⟨by rw[hf];rfl,rfl⟩,λhf=>⟨_,rfl,s2,h.bf,(ti h.sure (k:=k) I I).use ?_⟩⟩⟩;rintro _ _ ⟨rfl,rfl⟩;exact⟨_,rfl,by rw[hf];rfl,rfl⟩
theorem Dc(h:fh w b n f g s1 s2)(k:Int):
 aK ai 218 #[.pointer (some b),k] w (λv w'=>v=.bool (decide (0<=k)&&decide (k<n))/\w=w'):=by
 refine ae.Gq _ k w _ ?_;(delta ae.sS an aF;dsimp only);refine⟨?_⟩;refine⟨λh1=>⟨_,rfl,n,h.b6,?_,rfl⟩,λh1=>⟨?_,rfl⟩⟩
 .have:0<=k:=by simpa using h1
  simp[this]
 .have:¬0<=k:=by simpa using h1
  simp[this]
def firstFree(t:Nat->al)(n:Nat):av Nat:=(List.range n).find? λi=> !t i
theorem II{t:Nat->al}{n k:Nat}(e:k<n)(ht:t k=false)(c:∀i,i<k->t i=true):firstFree t n=some k:=by
 unfold firstFree;rw[List.find?_eq_some_iff_append];refine⟨by simp[ht],List.range k,(List.range' (k+1) (n-(k+1))),?_,λa d=>?_⟩
 .have b:=List.range'_append (s:=0) (m:=k) (n:=n-(k+1)+1) (step:=1)
  rw[tK,tK,←List.range'_succ];rw[Nat.one_mul,cF]at b;rw[b]
  congr 1
  omega
 .simp[c a (kj.1 d)]
theorem IJ{t:Nat->al}{n:Nat}(b:∀i,i<n->t i=true):firstFree t n=none:=by
 unfold firstFree;rw[jZ];intro a c;simp[b a (kj.1 c)]
theorem Dd{t:Nat->al}{n k:Nat}(h:firstFree t n=some k):k<n/\t k=false/\∀i,i<k->t i=true:=by
 unfold firstFree at h;obtain⟨h1,la,lb,h2,c⟩:=List.find?_eq_some_iff_append.1 h;have d:k<n:=kj.1 (by rw[h2];simp);refine⟨d,by simpa using h1,λi hi=>?_⟩;have hlen:la.length=k:=by
  have a:(List.range n)[la.length]? =some k:=by rw[h2];simp
  rw[List.getElem?_range (by
   have:=congrArg List.length h2;simp at this;omega)]at a
  simpa using a
 have b:(List.range n)[i]? =some i:=List.getElem?_range I;rw[h2,tR I]at b;have:=c i (List.mem_of_getElem? b);simpa using this
theorem IK{t:Nat->al}{n:Nat}(h:firstFree t n=none):∀i,i<n->t i=true:=by
 unfold firstFree at h;rw[jZ]at h;intro i hi;have:=h i (kj.2 hi);simpa using this
def IL(o:av Nat):Y:=
 match o with
 |some k=>.tuple #[.int .i64 (k:Int),(0:Int)]
 |none=>.tuple #[.int .i64 (-1),(2:Int)]
def IM(o:av Nat)(f:Nat->al):Nat->al:=
 match o with
 |some k=>dK f k true
 |none=>f
theorem De{f:Nat->al}{n k:Nat}{x:al}(h:∀i,n<=i->f i=false)(a:k<n):∀i,n<=i->dK f k x i=false:=λi hi=>by
 unfold dK
 rw[if_neg I]
 exact h i hi
theorem Df(h:fh w b n f g s1 s2):
 aK ai 160 #[.pointer (some b)] w (λv w'=>v=IL (firstFree (λi=>f i||g i) n)/\fh w' b n (IM (firstFree (λi=>f i||g i) n) f) g s1 s2/\af (fX b s1 s2) w w'):=by
 have r:=h.bz;refine ae.Gg _ w _ ?_;(delta ae.sN an aF b8 r1 gT ar;dsimp only);refine⟨λh1=>by simp at h1,λ_=>⟨_,rfl,n,h.b6,λi w'=>∃k:Nat,i=k/\k<=n/\w=w'/\∀j,j<k->(f j||g j)=true,λi _=>(n-i).toNat,⟨0,rfl,I,rfl,λj l=>I⟩,?_⟩⟩;rintro _ _ ⟨k,rfl,a,rfl,d⟩;refine⟨λaJ=>(IH h (k:=k) (by simpa using aJ)).use ?_,λm=>?_⟩
 .have c:k<n:=by simpa using aJ
  rintro _ _ ⟨rfl,rfl⟩;refine⟨_,rfl,λht=>⟨_,rfl,s1,h.aZ,(Db h.now (k:=k) I I).use ?_⟩,λht=>?_⟩
  .rintro _ w' ⟨rfl,o,hc⟩
   have e:(f k||g k)=false:=by simpa using ht
   have p:=II (t:=λi=>f i||g i) c e d;rw[p];refine⟨rfl,rfl,⟨h.bM.ah hc λq=>(h.d1 b q).1 rfl,o,h.sure.ah hc λk a h1=>(h.d1 k h1).2 a,h.d1,h.d2,h.bW,h.bz,De h.pf c,h.c0⟩,hc.mono λk _ a=>.inr (.inl a)⟩
  .have e:(f k||g k)=true:=by cases hx:(f k||g k)<;>simp[hx]at ht⊢
   rw[bB I I];refine⟨⟨k+1,I,I,rfl,λj l=>?_⟩,(show((n:Int)-((k:Int)+1)).toNat<((n:Int)-(k:Int)).toNat from I)⟩;rcases eu j k with h1|h1
   .exact d j h1
   .have:j=k:=by omega
    subst this;exact e
 .have c:k=n:=by
   have:¬(k:Int)<n:=by simpa using m
   omega
  subst c;rw[IJ d];exact⟨rfl,h,.refl _ _⟩
def w9(f:Nat->al)(n:Nat)(k:Int):Int:=if 0<=k/\k<n then (if f k.toNat then 0 else 6) else 1
def n1(f:Nat->al)(n:Nat)(k:Int):Nat->al:=if 0<=k/\k<n then dK f k.toNat false else f
theorem IN{f:Nat->al}{k:Nat}{x:al}(h:f k=x):dK f k x=f:=by
 funext i;unfold dK;split
 .rename_i hi;rw[hi,h]
 .rfl
theorem Dg(h:fh w b n f g s1 s2)(k:Int):
 aK ai 161 #[.pointer (some b),k] w (λv w'=>v=.int .i64 (w9 f n k)/\fh w' b n (n1 f n k) g s1 s2/\af (fX b s1 s2) w w'):=by
 have l:=h.bz;refine ae.Gh _ k w _ ?_;(delta ae.sO b8 an r1 gT;dsimp only);refine(Dc h k).use ?_;rintro _ _ ⟨rfl,rfl⟩;refine⟨_,rfl,λh1=>?_,λh1=>?_⟩
 .have:¬(0<=k/\k<n):=by
   rintro⟨h2,d⟩;simp[h2,d]at h1
  exact⟨by rw[w9,if_neg this],by rw[n1,if_neg this];exact h,.refl _ _⟩
 .have a:0<=k/\k<n:=by simpa using h1
  obtain⟨m,rfl⟩:=xH a.1;have e:m<n:=by omega
  refine⟨_,rfl,s1,h.aZ,(ti h.now (k:=m) I I).use ?_⟩;rintro _ _ ⟨rfl,rfl⟩;refine⟨_,rfl,λh2=>?_,λh2=>⟨_,rfl,s1,h.aZ,(IG h.now (k:=m) I I).use ?_⟩⟩
  .have hf:f m=false:=by simpa using h2
   refine⟨by rw[w9,if_pos a,di,hf];rfl,?_,.refl _ _⟩;rw[n1,if_pos a,di,IN hf];exact h
  .rintro _ w' ⟨rfl,i,hc⟩
   have hf:f m=true:=by simpa using h2
   refine⟨rfl,by rw[w9,if_pos a,di,hf];rfl,?_,hc.mono λk _ c=>.inr (.inl c)⟩;rw[n1,if_pos a,di];exact⟨h.bM.ah hc λj=>(h.d1 b j).1 rfl,i,h.sure.ah hc λk c h1=>(h.d1 k h1).2 c,h.d1,h.d2,h.bW,h.bz,De h.pf e,h.c0⟩
theorem IP(h:fh w b n f g s1 s2)(k:Int):
 aK ai 246 #[.pointer (some b),k] w (λv w'=>v=.bool (decide (0<=k)&&decide (k<n)&&f k.toNat&& !(g k.toNat))/\w=w'):=by
 have c:=h.bz;refine ae.Gu _ k w _ ?_;(delta ae.sT b8 an r1;dsimp only);refine(Dc h k).use ?_;rintro _ _ ⟨rfl,rfl⟩;refine⟨_,rfl,⟨λh1=>?_,λh1=>⟨(λh=>by cases h),λ_=>⟨by rw[h1];rfl,rfl⟩⟩⟩⟩;have a:0<=k/\k<n:=by simpa using h1
 obtain⟨m,rfl⟩:=xH a.1;refine⟨_,rfl,s1,h.aZ,(ti h.now (k:=m) I I).use ?_⟩;rintro _ _ ⟨rfl,rfl⟩;refine⟨_,rfl,λh2=>⟨_,rfl,s2,h.bf,(ti h.sure (k:=m) I I).use ?_⟩,λh2=>⟨by rw[h1,di,h2];rfl,rfl⟩⟩;rintro _ _ ⟨rfl,rfl⟩;exact⟨_,rfl,by rw[h1,di,h2];rfl,rfl⟩
end
theorem IQ:h8 ai 215 5 1 1:=⟨by kernel_rfl⟩
theorem Dh:h8 ai 48 5 1 1:=⟨by kernel_rfl⟩
theorem IS(n:Nat):hK ai 5 n=(List.replicate n (.int .u8 0)).toArray:=Bs (by kernel_rfl) (by kernel_rfl) n
theorem zD(f:Nat->al)(m:Nat):∀v∈fg f m,Plain v:=by
 intro v a;obtain⟨i,_,rfl⟩:=fy.1 a;trivial
theorem Di{w:J}{s:ad}{xs:O Y}(h:Src 1 w s xs)(d:∀v∈xs,Plain v)(i:s.len<=1000000):
 aK ai 194 #[s] w (λv w'=>∃b:ad,v=b/\aT 1 5 w' b xs/\Ext w w'/\∀k,aE b k->w.heap.size<=k):=by
 refine okF (ae.u4 s) ay.u4 func194 ?_;delta ae.u4 ak an aa;refine⟨λc=>?_,λ_=>?_⟩
 .have c:s.a=none:=by simpa using c
  rw[h.nil c];exact⟨⟨none,0,0⟩,rfl,aT.none _ _ _,.refl _ _,λk e=>(gy k e).elim⟩
 .obtain⟨b,w',h1,h2,j,f,g,_⟩:=IQ.clone (cC:=215) h d I
  exact⟨b,w',h1,b,rfl,h2,f,g⟩
theorem IT{w:J}{s:ad}{xs:O Y}(h:Src 1 w s xs)(d:∀v∈xs,Plain v)(i:s.len<=1000000):
 aK ai 135 #[s] w (λv w'=>∃b:ad,v=b/\aT 1 5 w' b xs/\Ext w w'/\∀k,aE b k->w.heap.size<=k):=by
 refine okF (ae.oV s) ay.oV func135 ?_;delta ae.oV ak an aa;refine⟨λc=>?_,λ_=>?_⟩
 .have c:s.a=none:=by simpa using c
  rw[h.nil c];exact⟨⟨none,0,0⟩,rfl,aT.none _ _ _,.refl _ _,λk e=>(gy k e).elim⟩
 .obtain⟨b,w',h1,h2,j,f,g,_⟩:=Dh.clone (cC:=48) h d I
  exact⟨b,w',h1,b,rfl,h2,f,g⟩
section
variable {w w':J}{b n:Nat}{f g:Nat->al}{s1 s2:ad}
theorem tj{T:TypeId}{m:Nat}(h:aT 1 T w s1 (fg f m)):s1.len=m:=by
 have:=h.1;rw[zA]at this;omega
theorem Dj{m:Nat}{u:Y}(c:bu w b #[n,s1,u] 218)(h1:aT 1 5 w s1 (fg f m))(hd:∀k,aE s1 k->k≠b)(g:m<=1000000):
 aK ai 131 #[.pointer (some b)] w (λv w'=>v=.tuple #[]/\∃a:ad,bu w' b #[n,s1,a] 218/\
  aT 1 5 w' s1 (fg f m)/\aT 1 5 w' a (fg f m)/\af (λk=>k=b) w w'/\∀k,aE a k->w.heap.size<=k):=by
 refine ae.Gb _ w _ ?_;(delta ae.sJ ak an r1 bK st;dsimp only);refine⟨λ_=>⟨_,rfl,s1,by rw[az,c.cell];rfl,(Di h1.src (zD f m) (by rw[tj h1];exact g)).use ?_⟩,λh=>by simp at h⟩;rintro _ aj ⟨a,rfl,h2,hx,hf⟩;have d:=c.ext hx;have i:∀k,aE a k->k≠b:=λk j e=>by have:=hf k j;have:=c.lt;omega
 refine⟨a,rfl,_,rfl,⟨_,by rw[az,d.cell];rfl⟩,d.frozen _ rfl,rfl,a,?_,?_,?_,?_,hf⟩
 .rw[az];exact d.set 2 _
 .exact(h1.ext hx).ah (W:=λk=>k=b) (af.set (.refl _ _) (λ_=>by rw[az]) _) hd
 .exact h2.ah (W:=λk=>k=b) (af.set (.refl _ _) (λ_=>by rw[az]) _) i
 .exact(af.cN hx).set (λ_=>by rw[az]) _
theorem IU(h:fh w b n f g s1 s2):
 aK ai 131 #[.pointer (some b)] w (λv w'=>v=.tuple #[]/\∃c:ad,fh w' b n f f s1 c/\af (fX b s1 s2) w w'/\∀k,fX b s1 c k->fX b s1 s2 k\/w.heap.size<=k):=by
 have m:=h.bz;refine(Dj h.bM h.now (λk a=>(h.d1 k a).1) I).mono ?_;rintro _ w' ⟨rfl,c,h1,h2,i,j,d⟩;refine⟨rfl,c,⟨h1,h2,i,λk a=>⟨(h.d1 k a).1,λl=>?_⟩,λk a e=>?_,h.bW,h.bz,h.pf,h.pf⟩,j.mono λk _ a=>.inl a,λk a=>?_⟩
 .have:=d k l;have:=h.now.lt k a;omega
 .have:=d k a;have:=h.bM.lt;omega
 .rcases a with rfl|a|a
  .exact .inl (.inl rfl)
  .exact .inl (.inr (.inl a))
  .exact .inr (d k a)
theorem IV(h:fh w b n f g s1 s2):
 aK ai 144 #[.pointer (some b)] w (λv w'=>v=.tuple #[]/\∃c:ad,fh w' b n g g c s2/\af (fX b s1 s2) w w'/\∀k,fX b c s2 k->fX b s1 s2 k\/w.heap.size<=k):=by
 have l:=h.bz;refine ae.Gc _ w _ ?_;(delta ae.sK ak an r1 bK st;dsimp only);refine⟨λ_=>⟨_,rfl,s2,h.bf,(Di h.sure.src (zD g _) (by rw[tj h.sure];omega)).use ?_⟩,λh=>by simp at h⟩;rintro _ aj ⟨c,rfl,h2,hx,hf⟩;have d:=h.bM.ext hx;have i:∀k,aE c k->k≠b:=λk a e=>by have:=hf k a;have:=h.bM.lt;omega
 refine⟨c,rfl,_,rfl,⟨_,by rw[az,d.cell];rfl⟩,d.frozen _ rfl,rfl,c,⟨?_,?_,?_,λk a=>⟨i k a,λj=>?_⟩,h.d2,h.bW,h.bz,h.c0,h.c0⟩,?_,λk a=>?_⟩
 .rw[az];exact d.set 1 _
 .exact h2.ah (W:=λk=>k=b) (af.set (.refl _ _) (λ_=>by rw[az]) _) i
 .exact(h.sure.ext hx).ah (W:=λk=>k=b) (af.set (.refl _ _) (λ_=>by rw[az]) _) h.d2
 .have:=hf k a;have:=h.sure.lt k j;omega
 .exact(af.cN hx).set (λ_=>by rw[az];exact .inl rfl) _
 .rcases a with rfl|a|a
  .exact .inl (.inl rfl)
  .exact .inr (hf k a)
  .exact .inl (.inr (.inr a))
def rp(x:Nat):Nat:=(x.testBit 0).toNat+(x.testBit 1).toNat+(x.testBit 2).toNat+(x.testBit 3).toNat+(x.testBit 4).toNat+(x.testBit 5).toNat+(x.testBit 6).toNat+(x.testBit 7).toNat
def e5(t:Nat->al):Nat->Nat
 |0=>0
 |k+1=>e5 t k+(t k).toNat
theorem n2(t:Nat->al):∀k,e5 t k<=k
 |0=>bt _
 |k+1=>by have:=n2 t k;have:=Bool.toNat_le (t k);simp only[e5];omega
theorem IW(t:Nat->al)(i:Nat):e5 t (8*(i+1))=e5 t (8*i)+rp (byteOf t i):=by
 have h:∀j,j<8->(byteOf t i).testBit j=t (8*i+j):=λj a=>pI t i j a;unfold rp;rw[h 0 I,h 1 I,h 2 I,h 3 I,h 4 I,h 5 I,h 6 I,h 7 I];show e5 t (8*i+7+1)=_;simp only[e5,lj];omega
theorem Dk(t:Nat->al)(n:Nat)(h:∀i,n<=i->t i=false):∀k,e5 t (n+k)=e5 t n
 |0=>rfl
 |k+1=>by
  have:=Dk t n h k
  show e5 t (n+k)+(t (n+k)).toNat=_
  rw[this,h (n+k) I]
  rfl
theorem IX:∀x:Nat,x<256->(xQ (ByteArray.mk #[0,1,1,2,1,2,2,3,1,2,2,3,2,3,3,4,1,2,2,3,2,3,3,4,2,3,3,4,3,4,4,5,1,2,2,3,2,3,3,4,2,3,3,4,3,4,4,5,2,3,3,4,3,4,4,5,3,4,4,5,4,5,5,6,1,2,2,3,2,3,3,4,2,3,3,4,3,4,4,5,2,3,3,4,3,4,4,5,3,4,4,5,4,5,5,6,2,3,3,4,3,4,4,5,3,4,4,5,4,5,5,6,3,4,4,5,4,5,5,6,4,5,5,6,5,6,6,7,1,2,2,3,2,3,3,4,2,3,3,4,3,4,4,5,2,3,3,4,3,4,4,5,3,4,4,5,4,5,5,6,2,3,3,4,3,4,4,5,3,4,4,5,4,5,5,6,3,4,4,5,4,5,5,6,4,5,5,6,5,6,6,7,2,3,3,4,3,4,4,5,3,4,4,5,4,5,5,6,3,4,4,5,4,5,5,6,4,5,5,6,5,6,6,7,3,4,4,5,4,5,5,6,4,5,5,6,5,6,6,7,4,5,5,6,5,6,6,7,5,6,6,7,6,7,7,8]) x).map (·.toNat)=some (rp x):=by decide+kernel
theorem Dl(x:Nat):rp x<=8:=by
 unfold rp;have h:∀b:al,b.toNat<=1:=Bool.toNat_le;have:=h (x.testBit 0);have:=h (x.testBit 1);have:=h (x.testBit 2);have:=h (x.testBit 3);have:=h (x.testBit 4);have:=h (x.testBit 5);have:=h (x.testBit 6);have:=h (x.testBit 7);omega
theorem IY(w:J)(x:Nat)(hx:x<256):aK ai 202 #[.int .u8 x] w (λv w'=>v=.int .i64 (rp x)/\w=w'):=by
 refine okF (ae.u5 x) ay.u5 func202 ?_;delta ae.u5 ar;have h:=IX x hx;refine⟨I,?_⟩
 cases a:xQ _ x with
 |none=>rw[a]at h;cases h
 |some y=>
  rw[a]at h;simp only[lT,Option.some.injEq]at h;refine⟨y,a,?_,rfl⟩;rw[h,bB I (by have:=Dl x;omega)]
theorem IZ(f g:Nat->al)(i:Nat):byteOf f i|||byteOf g i=byteOf (λk=>f k||g k) i:=
 zy _ _ _ (zz _ (k2 _ _) _ (k2 _ _)) λj a=>by rw[nh,pI _ _ _ a,pI _ _ _ a]
theorem zE(h:fh w b n f g s1 s2):
 aK ai 148 #[.pointer (some b)] w (λv w'=>v=.int .i64 ((n:Int)-e5 (λi=>f i||g i) n)/\Ext w w'):=by
 have p:=h.bz;have q:=tj h.now;have s:=tj h.sure;refine ae.Gd _ w _ ?_;(delta ae.sL ak an aF r1 aM dF bS ar;dsimp only);refine⟨λh1=>by simp at h1,λ_=>⟨_,rfl,n,h.b6,_,rfl,s1,h.aZ,λr i w'=>∃k:Nat,i=k/\k<=s1.len/\Ext w w'/\r=(n:Int)-e5 (λi=>f i||g i) (8*k),λ_ i _=>((s1.len:Int)-i).toNat,⟨0,rfl,I,.refl _ _,by simp[e5]⟩,?_⟩⟩;rintro _ _ w1 ⟨k,rfl,t,hx,rfl⟩;refine⟨λaJ=>?_,λc=>?_⟩
 .have d:k<s1.len:=by simpa using aJ
  have h1:=h.ext hx.drew;obtain⟨cr,aZ,j,u,_,_,_,l,_⟩:=h1.now.cell (pJ f (i:=k) I);obtain⟨bX,bf,m,x,_,_,_,o,_⟩:=h1.sure.cell (pJ g (i:=k) I);have a:∀b:Nat,(Addr.mk b 0 none).add (Int.toNat (k:Int)*1)=⟨b,k,none⟩:=λb=>by rw[fE,di,az,cF]
  refine⟨λ_=>False,_,rfl,by simp,s1,h1.aZ,_,j,I,by simp,_,by rw[a];exact l,_,rfl,by simp,s2,h1.bf,_,m,I,by simp,_,by rw[a];exact o,?_⟩;rw[IB _ _ (k2 _ _) (k2 _ _),IZ];refine(IY _ _ (k2 _ _)).use ?_;rintro _ _ ⟨rfl,rfl⟩;have:=Dl (byteOf (λi=>f i||g i) k);have:=n2 (λi=>f i||g i) (8*k);refine⟨_,rfl,.refl _ _,?_⟩;rw[bB (n:=(n:Int)-_-_) I I,bB (n:=(k:Int)+1) I I];exact⟨⟨k+1,I,I,hx.drew,by rw[IW];omega⟩,(show((s1.len:Int)-((k:Int)+1)).toNat<((s1.len:Int)-(k:Int)).toNat from I)⟩
 .have d:k=s1.len:=by
   have:¬(k:Int)<s1.len:=by simpa using c
   omega
  refine⟨?_,hx⟩;have e:8*k=n+(8*k-n):=by omega
  rw[e,Dk _ _ (λi hi=>by simp[h.pf i hi,h.c0 i hi])]
theorem Dm(h:fh w b n f g s1 s2):
 aK ai 74 #[.pointer (some b)] w (λv w'=>∃s:ad,v=s/\aT 1 5 w' s (fg f ((n+7)/8))/\Ext w w'/\∀k,aE s k->w.heap.size<=k):=by
 have a:=h.bz;refine ae.F3 _ w _ ?_;(delta ae.sF an r1 bK;dsimp only);refine⟨λh1=>by simp at h1,λ_=>⟨_,rfl,s1,h.aZ,(IT h.now.src (zD f _) (by rw[tj h.now];omega)).use ?_⟩⟩;rintro _ aj ⟨s,rfl,h2,hx,hf⟩;exact⟨s,rfl,s,rfl,h2,hx,hf⟩
end
theorem I0(w:J)(n:Int):aK ai 128 #[n] w (λv w'=>v=.bool (decide (1<=n/\n<=1600))/\w=w'):=by
 refine okF (ae.vF n) ay.vF func128 ?_;unfold ae.vF;refine⟨?_,rfl⟩;simp[Bool.decide_and]
theorem I1(w:J)(n:Nat)(a:n<=1600):aK ai 129 #[n] w (λv w'=>v=.int .i64 (((n+7)/8:Nat):Int)/\w=w'):=by
 refine okF (ae.vG n) ay.vG func129 ?_;delta ae.vG ar;refine⟨by decide,?_,rfl⟩;rw[bB (n:=(n:Int)+8) I I,bB (n:=(n:Int)+8-1) I I,show(n:Int)+8-1=((n+7:Nat):Int) from I,C_,bB I I]
theorem I2(m:Nat):fg (λi=>decide (i<0)) m=List.replicate m (.int .u8 0):=by
 apply np
 .simp[fg]
 .intro i h1 h2
  simp[fg,byteOf,lN]
theorem I3(j:Nat):dK (λi=>decide (i<j)) j true=λi=>decide (i<j+1):=by
 funext i;unfold dK;split
 .rename_i h;simp[h]
 .rename_i h;simp;omega
theorem qw(w:J)(n first:Int):
 aK ai 71 #[.int .i64 n,.int .i64 first] w (λv w'=>(¬(1<=n/\n<=1600/\0<=first/\first<=n)/\v=.tuple #[.pointer none,.int .i64 1]/\w=w')\/
  (1<=n/\n<=1600/\0<=first/\first<=n/\∃b s1 s2,v=.tuple #[.pointer (some ⟨b,0,none⟩),.int .i64 0]/\fh w' b n.toNat (λi=>decide (i<first.toNat)) (λi=>decide (i<first.toNat)) s1 s2/\Ext w w'/\∀k,fX b s1 s2 k->w.heap.size<=k)):=by
 refine okF (ae.qw n first) ay.qw func71 ?_;(delta ae.qw ak b8 an bS kV aa r1 gT ar;dsimp only);refine(I0 w n).use ?_;rintro _ _ ⟨rfl,rfl⟩;refine⟨_,rfl,λh=>.inl ⟨λhc=>?_,rfl,rfl⟩,λh=>?_⟩
 .simp at h;omega
 simp at h;obtain⟨⟨⟨E,F⟩,G⟩,H⟩:=h;obtain⟨n,rfl⟩:=xH (by omega:0<=n);obtain⟨first,rfl⟩:=xH (by omega:0<=first);refine(I1 w n I).use ?_;rintro _ _ ⟨rfl,rfl⟩;refine⟨_,rfl,I,?_⟩;simp only[di];rw[IS];obtain⟨m,f⟩:∃m,m=(n+7)/8:=⟨_,rfl⟩;rw[←f];have l:=aT.new (sz:=1) (T:=5) w (List.replicate m (.int .u8 0)) m (by simp) (by show m<=2^63-1;omega);rw[←I2]at l⊢;have aq:Ext w (w.alloc (.cells (fg (λi=>decide (i<0)) m).toArray 5)):=af.alloc (.refl _ _) _;generalize s:w.alloc (.cells (fg (λi=>decide (i<0)) m).toArray 5)=w1 at*;have K:w1.heap.size=w.heap.size+1:=by rw[←s];simp
 have t:=bu.new w1 #[.int .i64 (n:Int),.slice (some ⟨w.heap.size,0,none⟩) m m,.slice none 0 0] 218;have u:=af.alloc aq (.cells #[.int .i64 (n:Int),.slice (some ⟨w.heap.size,0,none⟩) m m,.slice none 0 0] 218);have x:=l.ext (af.alloc (.refl _ w1) (.cells #[.int .i64 (n:Int),.slice (some ⟨w.heap.size,0,none⟩) m m,.slice none 0 0] 218));refine⟨λi w'=>∃j:Nat,i=j/\j<=first/\Ext w w'/\bu w' w1.heap.size #[.int .i64 (n:Int),.slice (some ⟨w.heap.size,0,none⟩) m m,.slice none 0 0] 218/\
  aT 1 5 w' ⟨some ⟨w.heap.size,0,none⟩,m,m⟩ (fg (λi=>decide (i<j)) m),λi _=>((first:Int)-i).toNat,⟨0,rfl,I,u,t,x⟩,?_⟩
 rintro _ aj ⟨j,rfl,L,hx,d,o⟩;refine⟨λaJ=>?_,λy=>?_⟩
 .have p:j<first:=by simpa using aJ
  refine⟨_,rfl,⟨some ⟨w.heap.size,0,none⟩,m,m⟩,by rw[az,d.cell];rfl,(Db o (k:=j) I I).use ?_⟩;rintro _ z ⟨rfl,q,hc⟩;rw[I3]at q;rw[bB I I];refine⟨rfl,⟨j+1,I,I,?_,d.ah hc ?_,q⟩,(show((first:Int)-((j:Int)+1)).toNat<((first:Int)-(j:Int)).toNat from I)⟩
  .exact((af.cN hx).trans hc).mono λk a c=>by rw[jl]at c;simp at c;omega
  .intro c
   rw[jl]at c;simp at c;omega
 .have p:j=first:=by
   have:¬(j:Int)<first:=by simpa using y
   omega
  subst p;have r:∀i,n<=i->decide (i<j)=false:=λi hi=>by simp;omega
  refine(Dj d o (λk a e=>?_) I).use ?_
  .rw[jl]at a
   simp at a;omega
  rintro _ z ⟨rfl,A,h1,h2,B,C,g⟩;have M:=d.lt;refine⟨rfl,.inr ⟨I,I,I,I,w1.heap.size,⟨some ⟨w.heap.size,0,none⟩,m,m⟩,A,rfl,⟨h1,?_,?_,λk a=>⟨λe=>?_,λD=>?_⟩,λk a e=>?_,I,I,r,r⟩,?_,?_⟩⟩
  .simp only[←f];exact h2
  .simp only[←f];exact B
  .rw[jl]at a
   simp at a;omega
  .rw[jl]at a
   simp at a;have:=g k D;omega
  .have:=g k a
   omega
  .exact((af.cN hx).trans C).mono λk a e=>by omega
  .rintro k (rfl|a|a)
   .omega
   .rw[jl]at a
    simp at a;omega
   .have:=g k a
    have:=hx.size;omega
structure Fr where
 full:al
 fY:al
 used:al
 no:Int
 pins:Int
 b:ad
 l:du
def Fr.c(f:Fr):O Y:=[f.full,f.fY,f.used,f.no,f.pins,f.b]
def dN:Fr:=⟨false,false,false,0,0,⟨none,0,0⟩,[]⟩
structure cf where
 c:Nat
 a6:Nat
 ao:O Fr
 hand:Nat
 D:bm
def dc(C:cf)(q:Nat):Prop:=q=C.c\/q=C.a6\/cA C.D q
structure fv(w:J)(C:cf):Prop where
 v:Var w C.c [.pointer (some C.D.d),.slice (some C.a6) C.ao.length C.ao.length,C.hand] 281
 f:bu w C.a6 (bg Fr.c C.ao).toArray 288
 dev:dz w C.D
 cc:8<=C.ao.length
 cn:C.ao.length<=64
 hd:C.hand<C.ao.length
 a1:C.c≠C.a6/\¬cA C.D C.c/\¬cA C.D C.a6
structure Dn(X:Nat->Prop)(w:J)(C:cf)(f:Fr)(no:Nat):Prop where
 num:f.no=no
 lt:no<C.D.n
 pK:bA (λq=>¬dc C q/\¬X q) w f.b f.l
 len:f.l.length=256
 clean:f.fY=false->f.l=C.D.now no
 bZ:C.D.bZ no=true->f.fY=false
 two:2<=no
structure gP(X:Nat->Prop)(w:J)(C:cf):Prop where
 pins:∀f∈C.ao,f.pins=0
 ok:∀f∈C.ao,f.full=true->∃no:Nat,Dn X w C f no
 un:∀ (i j:Nat) (hi:i<C.ao.length) (a:j<C.ao.length),(C.ao[i]).full=true->(C.ao[j]).full=true->(C.ao[i]).no=(C.ao[j]).no->i=j
 fi:∀q,X q->q<w.heap.size/\¬dc C q
 me:∀j,C.D.bZ j=true->C.D.ey j=C.D.eK j
def k3(aC D:bm):Prop:=aC.n=D.n/\(∀j,aC.bZ j=true->D.bZ j=true)/\∀j,aC.bZ j=true->aC.ey j=aC.eK j
theorem gP.tm{X:Nat->Prop}{w:J}{C:cf}(h:gP X w C):k3 C.D C.D:=⟨rfl,λ_ h=>h,h.me⟩
theorem gP.cJ{X:Nat->Prop}{w:J}{C:cf}(h:gP X w C)(k:Nat):k3 (C.D.cJ k) C.D:=⟨rfl,λ_ h=>h,h.me⟩
structure er(X:Nat->Prop)(w:J)(C:cf):Prop where
 raw:fv w C
 inv:gP X w C
def cf.view(C:cf)(no:Nat):du:=match C.ao.find? λf=>f.full&&f.no==(no:Int) with
 |some f=>f.l
 |none=>C.D.now no
theorem Fr.bd(f:Fr):f.c.length=6:=rfl
theorem w_(l:O Fr):∀x∈l,(Fr.c x).length=6:=λx _=>rfl
section
variable {w w':J}{C:cf}{X:Nat->Prop}
theorem fv.lt(h:fv w C){q:Nat}(a:dc C q):q<w.heap.size:=by
 rcases a with rfl|rfl|a
 .exact h.v.lt
 .exact bu.lt h.f
 .exact h.dev.lt a
theorem fv.ah{W:Nat->Prop}(h:fv w C)(hc:af W w w')(a:∀q,dc C q->¬W q):fv w' C:=
 ⟨h.v.ah hc (a _ (.inl rfl)),bu.ah h.f hc (a _ (.inr (.inl rfl))),h.dev.ah hc λq b=>a q (.inr (.inr b)),h.cc,h.cn,h.hd,h.a1⟩
theorem fv.ext(h:fv w C)(hc:Ext w w'):fv w' C:=h.ah hc λ_ _ h=>h
theorem gP.ah{W:Nat->Prop}(h:gP X w C)(hc:af W w w')(b:∀q,W q->dc C q\/X q):gP X w' C:=
 ⟨h.pins,λf hf c=>by
  obtain⟨no,aw,ax,d,e,g,i,j⟩:=h.ok f hf c
  exact⟨no,aw,ax,bA.ah d hc λq a k=>by
   rcases b q k with h1|h1
   .exact a.1 h1
   .exact a.2 h1,e,g,i,j⟩,h.un,λq a=>⟨fP (h.fi q a).1 hc.size,(h.fi q a).2⟩,h.me⟩
theorem er.ah{W:Nat->Prop}(h:er X w C)(hc:af W w w')(b:∀q,W q->X q):er X w' C:=
 ⟨h.raw.ah hc λq c a=>(h.inv.fi q (b q a)).2 c,h.inv.ah hc λq a=>.inr (b q a)⟩
theorem er.ext(h:er X w C)(hc:Ext w w'):er X w' C:=h.ah hc λ_ h=>h.elim
theorem tn(a6 i:Nat):Addr.add a6 (Int.toNat (i:Int)*6)=⟨a6,i*6,none⟩:=by rw[di,az,cF]
theorem fv.cells(h:fv w C):w.cell? C.c=some (.pointer (some C.D.d))/\w.cell? (Addr.add C.c 1)=some (.slice (some C.a6) C.ao.length C.ao.length)/\w.cell? (Addr.add C.c 2)=some (.int .i64 C.hand):=by
 rw[az,az];exact⟨h.v.cell,h.v.cell,h.v.cell⟩
theorem kG{w:J}{a6:Nat}{fs:O Fr}{T:TypeId}(h:bu w a6 (bg Fr.c fs).toArray T){i j:Nat}(hi:i<fs.length)(a:j<6):w.cell? ⟨a6,i*6+j,none⟩=((fs[i]).c)[j]? :=by
 rw[bu.cell h];simp only[rM];exact w6 (w_ fs) hi a
theorem n3{w:J}{a6:Nat}{fs:O Fr}{T:TypeId}(h:bu w a6 (bg Fr.c fs).toArray T){i j:Nat}(hi:i<fs.length)(a:j<6){v:Y}(b:Fr)(hf:b.c=(fs[i]).c.set j v):
 (∃u:Y,w.cell? ⟨a6,i*6+j,none⟩=some u)/\w.frozen? ⟨a6,i*6+j,none⟩=false/\bu (w.setCell ⟨a6,i*6+j,none⟩ v) a6 (bg Fr.c (fs.set i b)).toArray T/\af (λq=>q=a6) w (w.setCell ⟨a6,i*6+j,none⟩ v):=by
 refine⟨⟨((fs[i]).c)[j]'(by rw[Fr.bd];exact a),by rw[kG h hi a,dU (by rw[Fr.bd];exact a)]⟩,bu.frozen h _ rfl,?_,ek _ _ _ _⟩;have:=eO (vs:=bg Fr.c fs) h (i:=i*6+j) v;rw[H8 (w_ fs) hi a hf]at this;exact this
theorem zF{w:J}{a6:Nat}{fs:O Fr}{T:TypeId}(h:bu w a6 (bg Fr.c fs).toArray T){i:Nat}(hi:i<fs.length)(a:Fr):
 bk w ⟨a6,i*6,none⟩ a.c/\bu (setCells w ⟨a6,i*6,none⟩ 0 a.c) a6 (bg Fr.c (fs.set i a)).toArray T/\af (λq=>q=a6) w (setCells w ⟨a6,i*6,none⟩ 0 a.c):=by
 have f:=e4 (c:=Fr.c) fs (w_ fs);have d:i*6+a.c.length<=(bg Fr.c fs).toArray.size:=by
  rw[tY,f,Fr.bd];omega
 refine⟨bu.b3 h _ _ d ?_,?_,af.j6 (.refl _ _) _ 0⟩
 .intro v b
  unfold Fr.c at b;simp only[de,fG,fQ]at b;rcases b with rfl|rfl|rfl|rfl|rfl|rfl<;>trivial
 .have h0:=bu.lB (o:=i*6) h a.c
  have e:gJ (bg Fr.c fs).toArray (i*6) a.c=(bg Fr.c (fs.set i a)).toArray:=by
   have h1:=lA a.c (bg Fr.c fs).toArray (i*6) d;have h2:=CU (w_ fs) hi a;have g:a.c.length=6:=rfl;rw[g]at h1;have j:(gJ (bg Fr.c fs).toArray (i*6) a.c).toList=bg Fr.c (fs.set i a):=h1.trans h2;rw[←j]
  rw[e]at h0;exact h0
theorem Dp(h:fv w C)(no:Int):aK ai 220 #[.pointer (some C.c),no] w (λv w'=>v=.bool (decide (0<=no/\no<C.D.n))/\w=w'):=by
 refine okF (ae.v_ (some C.c) no) ay.v_ func220 ?_;delta ae.v_ an bS;refine cq (λb w'=>b=decide (0<=no/\no<C.D.n)/\w=w') (λq d=>⟨λa=>⟨_,rfl,_,h.cells.1,(w7 h.dev).use ?_⟩,λa=>d _ _ ⟨?_,rfl⟩⟩) ?_
 .rintro _ _ ⟨rfl,rfl⟩
  have a:0<=no:=by simpa using a
  refine⟨_,rfl,d _ _ ⟨?_,rfl⟩⟩;rw[eQ,b_,b_];exact⟨λh=>⟨a,h⟩,λh=>h.2⟩
 .have a:¬0<=no:=by simpa using a
  rw[g_ (λh=>a h.1)]
 .rintro _ _ ⟨rfl,rfl⟩
  exact⟨rfl,rfl⟩
def AtR(C:cf)(no:Int)(v:Y):Prop:=
 (∃ (i:Nat) (hi:i<C.ao.length),v=.pointer (some ⟨C.a6,i*6,none⟩)/\(C.ao[i]).full=true/\(C.ao[i]).no=no)\/
 (v=.pointer none/\∀f∈C.ao,f.full=true->f.no≠no)
theorem xa(h:fv w C)(no:Int):aK ai 201 #[.pointer (some C.c),no] w (λv w'=>AtR C no v/\w=w'):=by
 obtain⟨b6,aZ,bf⟩:=h.cells;have d:=h.cn;refine okF (ae.vY (some C.c) no) ay.vY func201 ?_;(delta ae.vY an r1 aM aY aF ar;dsimp only);refine⟨λh=>(by cases h),λ_=>⟨_,rfl,⟨some C.a6,C.ao.length,C.ao.length⟩,aZ,λi w'=>∃j:Nat,i=j/\j<=C.ao.length/\w=w'/\∀ (k:Nat) (d:k<C.ao.length),k<j->(C.ao[k]).full=true->(C.ao[k]).no≠no,λi _=>((C.ao.length:Int)-i).toNat,⟨0,rfl,cR _,rfl,λk _ h=>I⟩,?_⟩⟩;rintro _ _ ⟨j,rfl,s,rfl,g⟩;refine⟨λaJ=>?_,λe=>?_⟩
 .have aJ:(j:Int)<(C.ao.length:Int):=cl aJ
  have aJ:j<C.ao.length:=by omega
  refine⟨_,rfl,⟨some C.a6,C.ao.length,C.ao.length⟩,aZ,_,rfl,⟨I,by show(j:Int)<(C.ao.length:Int);omega⟩,_,rfl,?_⟩;rw[tn];have f0:=kG h.f aJ (j:=0) (by decide);have f3:=kG h.f aJ (j:=3) (by decide);refine⟨(C.ao[j]).full,f0,cq (λb w'=>w=w'/\(b=true↔((C.ao[j]).full=true/\(C.ao[j]).no=no))) (λq l=>⟨λa=>⟨_,rfl,(C.ao[j]).no,by rw[az];exact f3,l _ _ ⟨rfl,?_⟩⟩,λa=>l _ _ ⟨rfl,?_⟩⟩) ?_⟩
  .rw[jY]
   exact⟨λh=>⟨a,h⟩,λh=>h.2⟩
  .rw[a]
   exact⟨λh=>(by cases h),λh=>(by cases h.1)⟩
  rintro b w' ⟨rfl,a⟩;refine⟨λh1=>⟨.inl ⟨j,aJ,rfl,(a.1 h1).1,(a.1 h1).2⟩,rfl⟩,λh1=>?_⟩;rw[bB (n:=(j:Int)+1) I I];refine⟨⟨j+1,I,I,rfl,λk d h2 m=>?_⟩,?_⟩
  .rcases eu k j with o|o
   .exact g k d o m
   .have:k=j:=by omega
    subst this;intro p;rw[a.2 ⟨m,p⟩]at h1;cases h1
  .show((C.ao.length:Int)-((j:Int)+1)).toNat<((C.ao.length:Int)-(j:Int)).toNat
   omega
 .have e:j=C.ao.length:=by
   have:¬((j:Int)<(C.ao.length:Int)):=cw e;omega
  subst e;refine⟨.inr ⟨rfl,λf hf r=>?_⟩,rfl⟩;obtain⟨k,d,rfl⟩:=fF hf;exact g k d d r
theorem I4(h:fv w C):aK ai 267 #[.pointer (some C.c)] w (λv w'=>((∃ (i:Nat) (hi:i<C.ao.length),v=.pointer (some ⟨C.a6,i*6,none⟩)/\(C.ao[i]).full=false)\/(v=.pointer none/\∀f∈C.ao,f.full=true))/\w=w'):=by
 obtain⟨b6,aZ,bf⟩:=h.cells;have a:=h.cn;refine okF (ae.wi (some C.c)) ay.wi func267 ?_;(delta ae.wi r1 an aM aY ar;dsimp only);refine⟨_,rfl,⟨some C.a6,C.ao.length,C.ao.length⟩,aZ,λi w'=>∃j:Nat,i=j/\j<=C.ao.length/\w=w'/\∀ (k:Nat) (a:k<C.ao.length),k<j->(C.ao[k]).full=true,λi _=>((C.ao.length:Int)-i).toNat,⟨0,rfl,cR _,rfl,λk _ h=>I⟩,?_⟩;rintro _ _ ⟨j,rfl,l,rfl,e⟩;refine⟨λaJ=>?_,λb=>?_⟩
 .have aJ:(j:Int)<(C.ao.length:Int):=cl aJ
  have aJ:j<C.ao.length:=by omega
  have f0:=kG h.f aJ (j:=0) (by decide);refine⟨_,rfl,⟨some C.a6,C.ao.length,C.ao.length⟩,aZ,_,rfl,⟨I,by show(j:Int)<(C.ao.length:Int);omega⟩,(C.ao[j]).full,by rw[tn];exact f0,λd=>⟨_,rfl,⟨some C.a6,C.ao.length,C.ao.length⟩,aZ,_,rfl,⟨I,by show(j:Int)<(C.ao.length:Int);omega⟩,.inl ⟨j,aJ,by rw[tn],by simpa using d⟩,rfl⟩,λd=>?_⟩;rw[bB (n:=(j:Int)+1) I I];refine⟨⟨j+1,I,I,rfl,λk a h2=>?_⟩,?_⟩
  .rcases eu k j with g|g
   .exact e k a g
   .have:k=j:=by omega
    subst this;simpa using d
  .show((C.ao.length:Int)-((j:Int)+1)).toNat<((C.ao.length:Int)-(j:Int)).toNat
   omega
 .have b:j=C.ao.length:=by
   have:¬((j:Int)<(C.ao.length:Int)):=cw b;omega
  subst b;refine⟨.inr ⟨rfl,λf hf=>?_⟩,rfl⟩;obtain⟨k,a,rfl⟩:=fF hf;exact e k a a
def im(fs gs:O Fr):Prop:=gs.length=fs.length/\∀ (i:Nat) (h1:i<fs.length) (h2:i<gs.length),gs[i]={fs[i] with used:=(gs[i]).used}
theorem im.refl(fs:O Fr):im fs fs:=⟨rfl,λi h1 h2=>rfl⟩
theorem im.set{fs gs:O Fr}(h:im fs gs){i:Nat}(hi:i<gs.length)(u:al):im fs (gs.set i {gs[i] with used:=u}):=by
 refine⟨by rw[dJ];exact h.1,λj h1 h2=>?_⟩;rw[oq];split
 .rename_i e
  subst e;have:=h.2 i h1 hi;rw[this]
 .exact h.2 j h1 _
theorem I5(h:fv w C)(A:∀f∈C.ao,f.pins=0):aK ai 268 #[.pointer (some C.c)] w (λv w'=>∃ (i:Nat) (gs:O Fr) (hd:Nat),i<C.ao.length/\v=.pointer (some ⟨C.a6,i*6,none⟩)/\im C.ao gs/\fv w' {C with ao:=gs,hand:=hd}/\af (λq=>q=C.c\/q=C.a6) w w'):=by
 obtain⟨b6,aZ,bf⟩:=h.cells;have P:=h.cc;have Q:=h.cn;have B:=h.hd;refine okF (ae.wj (some C.c)) ay.wj func268 ?_;(delta ae.wj aF r1 an ar aM aY st;dsimp only);refine⟨_,rfl,_,bf,_,rfl,⟨some C.a6,C.ao.length,C.ao.length⟩,aZ,λat' i w'=>∃ (s:Nat) (gs:O Fr),i=s/\s<=C.ao.length/\at'=(((C.hand+s)%C.ao.length:Nat):Int)/\im C.ao gs/\fv w' {C with ao:=gs}/\af (λq=>q=C.c\/q=C.a6) w w'/\∀ (t:Nat) (hx:(C.hand+t)%C.ao.length<gs.length),t<s->(gs[(C.hand+t)%C.ao.length]).used=false,
  λ_ i _=>(2*(C.ao.length:Int)-i).toNat,⟨0,C.ao,rfl,cR _,by rw[lj,kl B],im.refl _,h,.refl _ _,λt _ h=>I⟩,?_⟩
 rintro _ _ w1 ⟨s,gs,rfl,hs,rfl,l,b,hc,p⟩;have r:gs.length=C.ao.length:=l.1;obtain⟨i,hi⟩:∃i,i=(C.hand+s)%C.ao.length:=⟨_,rfl⟩;have d:i<gs.length:=by rw[hi,r];exact hZ _ I
 rw[←hi];obtain⟨d0,d1,d2⟩:=b.cells;have d1:w1.cell? (Addr.add C.c 1)=some (.slice (some C.a6) gs.length gs.length):=d1;have hf:bu w1 C.a6 (bg Fr.c gs).toArray 288:=b.f;rw[bB (n:=2*(C.ao.length:Int)) I I];have D:IntKind.wrap .i64 ((i:Int)+1)=((i+1:Nat):Int):=by rw[bB I I];rfl
 have u:Int.tmod ((i+1:Nat):Int) (gs.length:Int)=(((i+1)%gs.length:Nat):Int):=by
  rw[og I];rfl
 have E:(i+1)%gs.length=(C.hand+(s+1))%C.ao.length:=by
  rw[hi,r,Nat.mod_add_mod];rfl
 refine⟨λaJ=>?_,λF=>?_⟩
 .refine cq (λa w'=>a=(((C.hand+(s+1))%C.ao.length:Nat):Int)/\∃g:O Fr,s+1<=C.ao.length/\im C.ao g/\fv w' {C with ao:=g}/\af (λq=>q=C.c\/q=C.a6) w w'/\∀ (t:Nat) (hx:(C.hand+t)%C.ao.length<g.length),t<s+1->(g[(C.hand+t)%C.ao.length]).used=false) (λq k=>⟨_,rfl,⟨some C.a6,gs.length,gs.length⟩,d1,_,rfl,⟨I,by show(i:Int)<(gs.length:Int);omega⟩,_,rfl,⟨some C.a6,gs.length,gs.length⟩,d1,by show(gs.length:Int)≠0;omega,_,rfl,?_⟩) ?_
  .rw[tn,D]
   have f4:=kG hf d (j:=4) (by decide);have f2:=kG hf d (j:=2) (by decide);have G:(gs[i]).pins=0:=by
    have h1:=l.2 i I d;have h2:(gs[i]).pins=(C.ao[i]'I).pins:=by rw[h1]
    rw[h2];exact A _ (cW _)
   refine⟨(gs[i]).pins,by rw[az];exact f4,λx=>?_,λ_=>⟨_,rfl,(gs[i]).used,by rw[az];exact f2,λhu=>⟨_,rfl,?_⟩,λhu=>⟨_,rfl,?_⟩⟩⟩
   .rw[G]at x;simp at x
   .have H:s<C.ao.length:=by
     rcases eu s C.ao.length with h1|h1
     .exact h1
     .have es:s=C.ao.length:=by omega
      have y:(C.hand+0)%C.ao.length=i:=by rw[hi,es,Nat.add_mod_right];rfl
      have h2:=p 0 (by rw[y];exact d) I;have m:(gs[i]).used=false:=by
       have e:gs[(C.hand+0)%C.ao.length]'(by rw[y];exact d)=gs[i]:=by congr 1
       rw[←e];exact h2
      rw[m]at hu;cases hu
    obtain⟨aw,ax,J,o⟩:=n3 hf d (j:=2) (by decide) (v:=false) {gs[i] with used:=false} rfl;rw[az];refine⟨aw,ax,aX (k _ _ ⟨by rw[u,E],gs.set i {gs[i] with used:=false},H,l.set d false,?_,hc.trans (o.mono λq _ e=>.inr e),λt hx ht=>?_⟩)⟩
    .have K:=b.v.ah o h.a1.1
     refine⟨?_,J,b.dev.ah o (λq k e=>h.a1.2.2 (e▸k)),?_,?_,?_,h.a1⟩
     .show Var _ _ [_,.slice (some C.a6) (gs.set i _).length (gs.set i _).length,_] _
      rw[dJ];exact K
     .show 8<=(gs.set i _).length;rw[dJ];omega
     .show(gs.set i _).length<=64;rw[dJ];omega
     .show C.hand<(gs.set i _).length;rw[dJ];omega
    .rw[oq]
     split
     .rfl
     .rename_i L
      rcases eu t s with h1|h1
      .exact p t _ h1
      .have:t=s:=by omega
       subst this;exact absurd hi L
   .obtain⟨s1,s2⟩:=eP b.v (i:=2) (by simp)
    rw[az,u];refine⟨s1,s2,aX ⟨i,gs,(i+1)%gs.length,I,rfl,l,?_,hc.trans ((ek _ _ _ _).mono λq _ e=>.inl e)⟩⟩;have z:=ek w1 C.c 2 (.int .i64 (((i+1)%gs.length:Nat):Int));refine⟨eO b.v (i:=2) (.int .i64 (((i+1)%gs.length:Nat):Int)),bu.ah hf z (λe=>h.a1.1 e.symm),b.dev.ah z (λq k e=>h.a1.2.1 (e▸k)),b.cc,b.cn,?_,h.a1⟩;exact hZ _ I
  .rintro a w' ⟨rfl,g,h1,h2,m,M,N⟩
   rw[bB (n:=(s:Int)+1) I I];refine⟨⟨s+1,g,I,h1,rfl,h2,m,M,N⟩,?_⟩;show(2*(C.ao.length:Int)-((s:Int)+1)).toNat<(2*(C.ao.length:Int)-(s:Int)).toNat;omega
 .have:=cw F
  omega
end
structure eG(C aI:cf)(w w':J)(k:Nat):Prop where
 c:aI.c=C.c
 d:aI.D.d=C.D.d
 len:aI.ao.length=C.ao.length
 bT:aI.D.key=C.D.key
 aV:aI.D.aV<=C.D.aV+k
 calm:∀m,C.D.calm (m+k)->aI.D.calm m
 ah:af (dc C) w w'
 c7:∀q,dc aI q->dc C q\/w.heap.size<=q
theorem eG.refl(C:cf)(w:J):eG C C w w 0:=⟨rfl,rfl,rfl,rfl,bt _,λ_ h=>h,.refl _ _,λ_ h=>.inl h⟩
theorem eG.ext{w w':J}(C:cf)(h:Ext w w'):eG C C w w' 0:=⟨rfl,rfl,rfl,rfl,bt _,λ_ h=>h,af.cN h,λ_ h=>.inl h⟩
theorem eG.trans{C aI a:cf}{w w' b:J}{k l:Nat}(h1:eG C aI w w' k)(h2:eG aI a w' b l):eG C a w b (k+l):=by
 have hs:=h1.ah.size;refine⟨h2.c.trans h1.c,h2.d.trans h1.d,h2.len.trans h1.len,h2.bT.trans h1.bT,by have:=h1.aV;have:=h2.aV;omega,λm f=>h2.calm m (h1.calm (m+l) (by rw[show m+l+k=m+(k+l) from I];exact f)),c3 h1.ah h2.ah λq e h=>(h1.c7 q h).resolve_right I,λq e=>?_⟩;rcases h2.c7 q e with h|h
 .exact h1.c7 q h
 .exact .inr I
theorem eG.mono{C aI:cf}{w w':J}{k l:Nat}(h:eG C aI w w' k)(b:k<=l):eG C aI w w' l:=
 ⟨h.c,h.d,h.len,h.bT,by have:=h.aV;omega,λm a=>h.calm m (gB a I),h.ah,h.c7⟩
theorem eG.bZ{C aI:cf}{w w':J}{k:Nat}(h:eG C aI w w' k):aI.D.bZ=C.D.bZ:=congrArg (λk:(O du×(Nat->al)×(Nat->O du)×(Int->Prop)×al)×Int=>k.1.2.1) h.bT
theorem eG.n4{C aI:cf}{w w':J}{k:Nat}(h:eG C aI w w' k):aI.D.bZ=C.D.bZ/\aI.D.eK=C.D.eK:=⟨h.bZ,congrArg (λk:(O du×(Nat->al)×(Nat->O du)×(Int->Prop)×al)×Int=>k.1.2.2.1) h.bT⟩
theorem eG.n{C aI:cf}{w w':J}{k:Nat}(h:eG C aI w w' k):aI.D.n=C.D.n:=congrArg (λk:(O du×(Nat->al)×(Nat->O du)×(Int->Prop)×al)×Int=>k.1.1.length) h.bT
section
variable {w w':J}{C:cf}{X:Nat->Prop}
theorem m3{fs:O Fr}{D:bm}{c a6 hd:Nat}(un:∀ (i j:Nat) (hi:i<fs.length) (d:j<fs.length),(fs[i]).full=true->(fs[j]).full=true->(fs[i]).no=(fs[j]).no->i=j){i:Nat}(hi:i<fs.length){no:Nat}(hf:(fs[i]).full=true)(e:(fs[i]).no=no):(cf.mk c a6 fs hd D).view no=(fs[i]).l:=by
 unfold cf.view
 cases a:fs.find? λf=>f.full&&f.no==(no:Int) with
 |none=>
  have:=jZ.1 a _ (cW hi);simp[hf,e]at this
 |some f=>
  have g:=j0 a;have b:=kO a;simp only[dh,jY]at b;obtain⟨j,d,rfl⟩:=fF g;have:=un i j hi d hf b.1 (by rw[e,b.2]);subst this;simp only
theorem n_{fs:O Fr}{D:bm}{c a6 hd:Nat}{no:Nat}(h:∀f∈fs,f.full=true->f.no≠no):(cf.mk c a6 fs hd D).view no=D.now no:=by
 unfold cf.view
 cases b:fs.find? λf=>f.full&&f.no==(no:Int) with
 |none=>rfl
 |some f=>
  have d:=j0 b;have a:=kO b;simp only[dh,jY]at a;exact absurd a.2 (h f d a.1)
theorem tp(D:bm)(k i:Nat):(D.cJ k).now i=D.now i:=rfl
theorem bA.re{B b:Nat->Prop}{w w':J}{t:ad}{l:Key}{V:Nat->Prop}(h:bA B w t l)(hc:af V w w')(c:∀q,q<w.heap.size->B q->¬V q)(d:∀q,q<w.heap.size->B q->b q):bA b w' t l:=
 ⟨h.1.ah hc λq a=>c q (h.2.2 q a).2 (h.2.2 q a).1,h.2.1,λq a=>⟨d q (h.2.2 q a).2 (h.2.2 q a).1,fP (h.2.2 q a).2 hc.size⟩⟩
theorem tq{gs:O Fr}{hd:Nat}{aC:bm}{V:Nat->Prop}(h:gP X w C)(hs:im C.ao gs)(hc:af V w w')(fR:∀q,q<w.heap.size->V q->dc C q)(m:k3 aC C.D)(u:∀i,aC.now i=C.D.now i)(v:∀q,cA aC q->cA C.D q\/w.heap.size<=q):gP X w' {C with ao:=gs,hand:=hd,D:=aC}:=by
 have x:=hc.size;have r:∀q,q<w.heap.size->dc {C with ao:=gs,hand:=hd,D:=aC} q->dc C q:=λq a hf=>by
  rcases hf with h1|h1|h1
  .exact .inl h1
  .exact .inr (.inl h1)
  .exact .inr (.inr ((v q h1).resolve_right I))
 have g:∀ (i:Nat) (hi:i<gs.length),∃c:i<C.ao.length,gs[i]={C.ao[i] with used:=(gs[i]).used}:=λi hi=>⟨by rw[←hs.1];exact hi,hs.2 i (by rw[←hs.1];exact hi) hi⟩;refine⟨λf hf=>?_,λf hf y=>?_,λi j hi z h1 h2 A=>?_,λq a=>⟨fP (h.fi q a).1 x,λhf=>(h.fi q a).2 (r q (h.fi q a).1 hf)⟩,m.2.2⟩
 .obtain⟨i,hi,rfl⟩:=fF hf
  obtain⟨c,e⟩:=g i hi;have:(gs[i]).pins=(C.ao[i]).pins:=by rw[e]
  rw[this];exact h.pins _ (cW c)
 .obtain⟨i,hi,rfl⟩:=fF hf
  obtain⟨c,e⟩:=g i hi;have n:(gs[i]).full=(C.ao[i]).full:=by rw[e]
  have o:(gs[i]).no=(C.ao[i]).no:=by rw[e]
  have p:(gs[i]).b=(C.ao[i]).b:=by rw[e]
  have d:(gs[i]).l=(C.ao[i]).l:=by rw[e]
  have s:(gs[i]).fY=(C.ao[i]).fY:=by rw[e]
  obtain⟨no,aw,ax,B,E,F,G,H⟩:=h.ok _ (cW c) (by rw[←n];exact y);refine⟨no,by rw[o];exact aw,by rw[m.1];exact ax,?_,by rw[d];exact E,λhd=>by rw[d,u];exact F (by rw[←s];exact hd),λhs=>by rw[s];exact G (m.2.1 _ hs),H⟩;rw[p,d];exact bA.re B hc (λq a k J=>k.1 (fR q a J)) λq a k=>⟨λhf=>k.1 (r q a hf),k.2⟩
 .obtain⟨c,e⟩:=g i hi
  obtain⟨K,t⟩:=g j z;have n:(gs[i]).full=(C.ao[i]).full:=by rw[e]
  have o:(gs[i]).no=(C.ao[i]).no:=by rw[e]
  have p:(gs[j]).full=(C.ao[j]).full:=by rw[t]
  have d:(gs[j]).no=(C.ao[j]).no:=by rw[t]
  exact h.un i j c K (by rw[←n];exact h1) (by rw[←p];exact h2) (by rw[←o,←d];exact A)
theorem tr{gs:O Fr}{hd:Nat}{aC:bm}(h:gP X w C)(hs:im C.ao gs)(r:∀i,aC.now i=C.D.now i)(no:Nat):(cf.mk C.c C.a6 gs hd aC).view no=C.view no:=by
 have d:∀ (i:Nat) (hi:i<gs.length),∃g:i<C.ao.length,gs[i]={C.ao[i] with used:=(gs[i]).used}:=λi hi=>⟨by rw[←hs.1];exact hi,hs.2 i (by rw[←hs.1];exact hi) hi⟩;by_cases hex:∃ (i:Nat) (hi:i<C.ao.length),(C.ao[i]).full=true/\(C.ao[i]).no=no
 .obtain⟨i,hi,h1,h2⟩:=hex
  have n:i<gs.length:=by rw[hs.1];exact hi
  obtain⟨g,e⟩:=d i n;have k:(gs[i]).full=(C.ao[i]).full:=by rw[e]
  have m:(gs[i]).no=(C.ao[i]).no:=by rw[e]
  have s:(gs[i]).l=(C.ao[i]).l:=by rw[e]
  have t:∀ (i j:Nat) (hi:i<gs.length) (A:j<gs.length),(gs[i]).full=true->(gs[j]).full=true->(gs[i]).no=(gs[j]).no->i=j:=by
   intro a b u v cc cn x;obtain⟨y,o⟩:=d a u;obtain⟨z,p⟩:=d b v;have f1:(gs[a]).full=(C.ao[a]).full:=by rw[o]
   have f2:(gs[a]).no=(C.ao[a]).no:=by rw[o]
   have f3:(gs[b]).full=(C.ao[b]).full:=by rw[p]
   have f4:(gs[b]).no=(C.ao[b]).no:=by rw[p]
   exact h.un a b y z (by rw[←f1];exact cc) (by rw[←f3];exact cn) (by rw[←f2,←f4];exact x)
  rw[m3 t n (by rw[k];exact h1) (by rw[m];exact h2),s];exact(m3 (fs:=C.ao) (D:=C.D) (c:=C.c) (a6:=C.a6) (hd:=C.hand) h.un hi h1 h2).symm
 .have q:∀f∈C.ao,f.full=true->f.no≠no:=λf hf h1 h2=>by
   obtain⟨i,hi,rfl⟩:=fF hf;exact hex ⟨i,hi,h1,h2⟩
  have e:C.view no=C.D.now no:=n_ (fs:=C.ao) (D:=C.D) (c:=C.c) (a6:=C.a6) (hd:=C.hand) q;rw[e,←r];refine n_ λf hf h1 h2=>?_;obtain⟨i,hi,rfl⟩:=fF hf;obtain⟨g,e⟩:=d i hi;have k:(gs[i]).full=(C.ao[i]).full:=by rw[e]
  have m:(gs[i]).no=(C.ao[i]).no:=by rw[e]
  exact q _ (cW g) (by rw[←k];exact h1) (by rw[←m];exact h2)
theorem zG{i:Nat}(hi:i<C.ao.length){aC:bm}{V:Nat->Prop}(h:gP X w C)(hc:af V w w')(fR:∀q,q<w.heap.size->V q->dc C q)(l:k3 aC C.D)
 (t:∀j:Nat,((C.ao[i]).full=true->(C.ao[i]).no≠j)->aC.now j=C.D.now j) (u:∀q,cA aC q->cA C.D q\/w.heap.size<=q) (f0:Fr) (m:f0.full=false) (v:f0.pins=0):gP X w' {C with ao:=C.ao.set i f0,D:=aC}:=by
 have x:=hc.size;have o:∀q,q<w.heap.size->dc {C with ao:=C.ao.set i f0,D:=aC} q->dc C q:=λq c hf=>by
  rcases hf with h1|h1|h1
  .exact .inl h1
  .exact .inr (.inl h1)
  .exact .inr (.inr ((u q h1).resolve_right I))
 refine⟨λf hf=>?_,λf hf d=>?_,λa b y g h1 h2 n=>?_,λq c=>⟨fP (h.fi q c).1 x,λhf=>(h.fi q c).2 (o q (h.fi q c).1 hf)⟩,l.2.2⟩
 .rcases nr hf with hf|rfl
  .exact h.pins f hf
  .exact v
 .obtain⟨k,z,rfl⟩:=fF hf
  have p:k<C.ao.length:=by simpa using z
  by_cases e:i=k
  .subst e
   simp only[iO]at d;rw[m]at d;cases d
  .simp only[fH e]at d⊢
   obtain⟨no,aw,ax,A,B,E,F,G⟩:=h.ok _ (cW p) d;refine⟨no,aw,by rw[l.1];exact ax,bA.re A hc (λq c g H=>g.1 (fR q c H)) λq c g=>⟨λhf=>g.1 (o q c hf),g.2⟩,B,λhd=>?_,λhs=>F (l.2.1 _ hs),G⟩;show _=aC.now no;rw[t no λJ he=>e (h.un i k hi p J d (by rw[he,aw]))];exact E hd
 .have K:a<C.ao.length:=by simpa using y
  have L:b<C.ao.length:=by simpa using g
  by_cases r:i=a
  .subst r
   simp only[iO]at h1;rw[m]at h1;cases h1
  by_cases s:i=b
  .subst s
   simp only[iO]at h2;rw[m]at h2;cases h2
  simp only[fH r]at h1 n;simp only[fH s]at h2 n;exact h.un a b K L h1 h2 n
theorem Dq{i:Nat}(hi:i<C.ao.length){aC:bm}{hd:Nat}(h:gP X w C)(v:(C.ao[i]).full=true->∀j:Nat,(C.ao[i]).no=j->aC.now j=(C.ao[i]).l)(x:∀j:Nat,((C.ao[i]).full=true->(C.ao[i]).no≠j)->aC.now j=C.D.now j)(f0:Fr)(m:f0.full=false)(no:Nat):
 (cf.mk C.c C.a6 (C.ao.set i f0) hd aC).view no=C.view no:=by
 by_cases hex:∃ (k:Nat) (g:k<C.ao.length),(C.ao[k]).full=true/\(C.ao[k]).no=no
 .obtain⟨k,g,h1,h2⟩:=hex
  have o:=m3 (fs:=C.ao) (D:=C.D) (c:=C.c) (a6:=C.a6) (hd:=C.hand) h.un g h1 h2;have o:C.view no=(C.ao[k]).l:=o;rw[o];by_cases e:i=k
  .subst e
   rw[←v h1 no h2];refine n_ λf hf aw ax=>?_;obtain⟨a,n,rfl⟩:=fF hf;have p:a<C.ao.length:=by simpa using n
   by_cases d:i=a
   .subst d
    simp only[iO]at aw;rw[m]at aw;cases aw
   .simp only[fH d]at aw ax
    exact d (h.un i a hi p h1 aw (by rw[h2,ax]))
  .have y:k<(C.ao.set i f0).length:=by simpa using g
   have q:(C.ao.set i f0)[k]=C.ao[k]:=fH e _;have z:∀ (a b:Nat) (n:a<(C.ao.set i f0).length) (t:b<(C.ao.set i f0).length),((C.ao.set i f0)[a]).full=true->((C.ao.set i f0)[b]).full=true->((C.ao.set i f0)[a]).no=((C.ao.set i f0)[b]).no->a=b:=by
    intro a b n t h1 h2 r;have p:a<C.ao.length:=by simpa using n
    have A:b<C.ao.length:=by simpa using t
    by_cases d:i=a
    .subst d
     simp only[iO]at h1;rw[m]at h1;cases h1
    by_cases u:i=b
    .subst u
     simp only[iO]at h2;rw[m]at h2;cases h2
    simp only[fH d]at h1 r;simp only[fH u]at h2 r;exact h.un a b p A h1 h2 r
   rw[m3 z y (by rw[q];exact h1) (by rw[q];exact h2),q]
 .have s:∀f∈C.ao,f.full=true->f.no≠no:=λf hf h1 h2=>by
   obtain⟨k,g,rfl⟩:=fF hf;exact hex ⟨k,g,h1,h2⟩
  have e:C.view no=C.D.now no:=n_ (fs:=C.ao) (D:=C.D) (c:=C.c) (a6:=C.a6) (hd:=C.hand) s;rw[e,←x no λh1 h2=>s _ (cW hi) h1 h2];refine n_ λf hf h1 h2=>?_;rcases nr hf with hf|rfl
  .exact s f hf h1 h2
  .rw[m]at h1;cases h1
theorem Dr{X:Nat->Prop}{w:J}{C:cf}(h:gP X w C){no:Nat}{s:ad}{l:du}(hs:¬C.D.bZ no=true):k3 (C.D.put no s l) C.D:=
 ⟨rfl,λ_ h=>h,λj a=>by
  have a:C.D.bZ j=true:=a
  rw[C1,if_neg λe=>hs (by rw[←e];exact a)];exact h.me j a⟩
theorem Ds(D:bm){no:Nat}{s:ad}{l:du}(hs:¬D.bZ no=true):(D.put no s l).key=D.key:=by
 have h1:=ri D (k:=2) (.inr rfl);unfold bm.key at h1⊢;have h2:(D.put no s l).kF=D.kF:=by
  funext n;exact propext ⟨λ_ h=>absurd (h no) hs,λ_ h=>absurd (h no) hs⟩
 rw[h2];have a:=congrArg Prod.snd h1;show((D.bT,D.bZ,D.eK,D.kF,D.r1),(D.cJ 2).cu.getD 3 0)=_;have a:(D.cJ 2).cu.getD 3 0=D.cu.getD 3 0:=a;rw[a]
def Dt(X:Nat->Prop)(C:cf)(w:J)(v:Y)(w':J):Prop:=
 ∃aI:cf,er X w' aI/\eG C aI w w' 1/\aI.a6=C.a6/\(∀j,aI.view j=C.view j)/\(∀f∈aI.ao,f.full=true->∃g∈C.ao,g.full=true/\g.no=f.no)/\
  ((∃ (i:Nat) (hi:i<aI.ao.length),v=.tuple #[.pointer (some ⟨C.a6,i*6,none⟩),(0:Int)]/\(aI.ao[i]).full=false/\((aI.ao[i]).pins=0))\/
   (v=.tuple #[.pointer none,(3:Int)]/\¬C.D.calm 1))
theorem Du(h:er X w C)(ar:C.D.aV<=1000000000):aK ai 221 #[.pointer (some C.c)] w (Dt X C w):=by
 have U:=h.raw;refine okF (ae.wa (some C.c)) ay.wa func221 ?_;(delta ae.wa jI an aY aF r1 bS;dsimp only);refine(I4 U).use ?_;rintro _ _ ⟨he,rfl⟩;rcases he with ⟨i,hi,rfl,hf⟩|⟨rfl,au⟩
 .exact⟨_,rfl,λ_=>⟨C,h,(eG.refl C w).mono (cR _),rfl,λ_=>rfl,λf hf H=>⟨f,hf,H,rfl⟩,.inl ⟨i,hi,rfl,hf,h.inv.pins _ (cW hi)⟩⟩,λh=>(by cases h)⟩
 refine⟨_,rfl,λh=>(by cases h),λ_=>(I5 U h.inv.pins).use ?_⟩;rintro _ w1 ⟨i,gs,hd,hi,rfl,z,r,aA⟩;have W:i<gs.length:=by rw[z.1];exact hi
 have L:af (dc C) w w1:=aA.mono λq _ n=>by
  rcases n with n|n
  .exact .inl n
  .exact .inr (.inl n)
 have E:=tq (hd:=hd) (aC:=C.D) h.inv z L (λq _ h=>h) h.inv.tm (λ_=>rfl) λq n=>.inl n;have P:=tr (hd:=hd) (aC:=C.D) h.inv z λ_=>rfl;obtain⟨a,F⟩:∃a:cf,a={C with ao:=gs,hand:=hd}:=⟨_,rfl⟩;have E:gP X w1 a:=by rw[F];exact E
 have r:fv w1 a:=by rw[F];exact r
 have P:∀no,a.view no=C.view no:=by rw[F];exact P
 have Y:∀q,dc a q↔dc C q:=by rw[F];exact λq=>Iff.rfl
 have o:a.D=C.D:=by rw[F]
 have p:a.c=C.c/\a.a6=C.a6:=by rw[F];exact⟨rfl,rfl⟩
 have I:a.ao=gs:=by rw[F]
 have A:i<a.ao.length:=by rw[I];exact W
 have R:(a.ao[i]).full=true:=by
  have e:=z.2 i hi W;have:(gs[i]).full=(C.ao[i]).full:=by rw[e]
  simp only[I];rw[this];exact au _ (cW hi)
 have Z:∀f∈a.ao,f.full=true->∃g∈C.ao,g.full=true/\g.no=f.no:=by
  rw[I];intro f hf H;obtain⟨k,aa,rfl⟩:=fF hf;have ab:k<C.ao.length:=by rw[←z.1];exact aa
  have e:=z.2 k ab aa;have aB:(gs[k]).full=(C.ao[k]).full:=by rw[e]
  have aD:(gs[k]).no=(C.ao[k]).no:=by rw[e]
  exact⟨C.ao[k],cW ab,by rw[←aB];exact H,aD.symm⟩
 obtain⟨no,aw,ax,ac,aE,aG,aH⟩:=E.ok _ (cW A) R;have f1:=kG r.f A (j:=1) (by decide)
 have fin:∀ (aj:J) (aC:bm),af (dc C) w1 aj->fv aj {a with D:=aC}->eG C {a with D:=aC} w aj 1->k3 aC C.D->(∀j:Nat,(a.ao[i]).no≠j->aC.now j=C.D.now j)->(∀j:Nat,(a.ao[i]).no=j->aC.now j=(a.ao[i]).l)->(∀q,cA aC q->cA C.D q\/w1.heap.size<=q)->
  ∃S:ag,(some ⟨C.a6,i*6,none⟩:av ag)=some S/\bk aj S [false,false,false,(0:Int),(0:Int),()]/\(6:Nat)=6/\ak (setCells aj S 0 [false,false,false,(0:Int),(0:Int),()]) λaI=>Dt X C w (.tuple #[.pointer (some ⟨C.a6,i*6,none⟩),(0:Int)]) aI:=by
  intro aj aC aJ t B aL ad aM K;have aN:bu aj a.a6 (bg Fr.c a.ao).toArray 288:=t.f;obtain⟨s1,s2,M⟩:=zF aN A dN;rw[p.2]at s1 s2 M;have aO:gP X (setCells aj ⟨C.a6,i*6,none⟩ 0 dN.c) {a with ao:=a.ao.set i dN,D:=aC}:=by
   refine zG (V:=dc C) (w:=w1) A E (aJ.trans (M.mono λq _ e=>.inr (.inl e))) (λq _ n=>(Y q).2 n) (by rw[o];exact aL) (λj u=>by rw[o];exact ad j λe=>u R e) (λq n=>by rw[o];exact K q n) dN rfl rfl
  have aP:=t.v;refine⟨_,rfl,s1,rfl,aX ⟨{a with ao:=a.ao.set i dN,D:=aC},⟨?_,aO⟩,?_,p.2,λj=>?_,λf hf H=>?_,.inl ⟨i,by show i<(a.ao.set i dN).length;rw[dJ];exact A,rfl,by simp[dN],by simp[dN]⟩⟩⟩
  .have aQ:a.c≠C.a6:=by have:=t.a1.1;rw[←p.2];exact this
   refine⟨?_,by show bu _ a.a6 _ _;rw[p.2];exact s2,t.dev.ah M (λq n e=>t.a1.2.2 (by rw[show({a with D:=aC}:cf).a6=a.a6 from rfl,p.2,←e];exact n)),?_,?_,?_,t.a1⟩
   .have:=aP.ah M aQ
    show Var _ _ [_,.slice _ (a.ao.set i dN).length (a.ao.set i dN).length,_] _;rw[dJ];exact this
   .show 8<=(a.ao.set i dN).length;rw[dJ];exact t.cc
   .show(a.ao.set i dN).length<=64;rw[dJ];exact t.cn
   .show a.hand<(a.ao.set i dN).length;rw[dJ];exact t.hd
  .refine⟨B.c,B.d,by show(a.ao.set i dN).length=_;rw[dJ];exact B.len,B.bT,B.aV,B.calm,B.ah.trans (M.mono λq _ e=>.inr (.inl e)),B.c7⟩
  .rw[←P]
   exact Dq A E (λ_ j u=>aM j u) (λj u=>by rw[o];exact ad j λe=>u R e) dN rfl j
  .rcases nr hf with hf|rfl
   .exact Z f hf H
   .cases H
 refine⟨_,rfl,λh=>(by cases h),λ_=>j4 (λaj=>∃aC:bm,af (dc C) w1 aj/\fv aj {a with D:=aC}/\eG C {a with D:=aC} w aj 1/\k3 aC C.D/\(∀j:Nat,(a.ao[i]).no≠j->aC.now j=C.D.now j)/\(∀j:Nat,(a.ao[i]).no=j->aC.now j=(a.ao[i]).l)/\(∀q,cA aC q->cA C.D q\/w1.heap.size<=q)) (λq n=>⟨_,rfl,(a.ao[i]).fY,?_,λaR=>?_,λaS=>n _ ⟨C.D,.refl _ _,?_,?_,h.inv.tm,λ_ _=>rfl,λj u=>?_,λq h=>.inl h⟩⟩) ?_⟩
 .rw[az,←p.2];exact f1
 .
  have Q:=cE w1;have y:=r.ext Q;obtain⟨al,_,_⟩:=y.cells;rw[p.1,o]at al;have f3:=kG y.f A (j:=3) (by decide);have f5:=kG y.f A (j:=5) (by decide);rw[p.2]at f3 f5;refine aX ⟨_,rfl,id,_,al,_,rfl,id,(no:Int),?_,_,rfl,id,(a.ao[i]).b,by rw[az];exact f5,?_⟩
  .rw[az,f3]
   show some (Value.int .i64 (a.ao[i]).no)=_;rw[aw]
  have aT:dz w1.drew C.D:=by rw[←o];exact y.dev
  have am:¬C.D.bZ no=true:=λhs=>by
   have:=aH (by rw[o];exact hs);rw[aR]at this;cases this
  refine(w8 aT (i:=no) (by rw[←o];exact ax) ar (ac.1.ext Q) aE λq n hf=>(ac.2.2 q n).1.1 (.inr (.inr (by rw[o];exact hf)))).use ?_;rintro v2 aj aU;rcases aU with ⟨ap,rfl,T,G⟩|⟨ap,rfl,s,T,G,aW⟩
  .have N:af (dc C) w1 aj:=(af.cN Q).trans (G.mono λq _ e=>.inr (.inr (.inl e)))
   refine⟨3,rfl,λ_=>⟨{a with D:=C.D.cJ 2},⟨?_,?_⟩,?_,p.2,λj=>?_,Z,.inr ⟨rfl,λaZ=>?_⟩⟩,λh=>(by cases h)⟩
   .have t:=y.v.ah G (λe=>y.a1.2.1 (.inl (by rw[o];exact e)))
    rw[o]at t;have aq:=r.a1;rw[o]at aq;exact⟨t,bu.ah y.f G (λe=>y.a1.2.2 (.inl (by rw[o];exact e))),T,r.cc,r.cn,r.hd,aq⟩
   .have:=tq (C:=a) (hd:=a.hand) (aC:=C.D.cJ 2) E (im.refl _) N (λq _ n=>(Y q).2 n) (by rw[o];exact h.inv.cJ 2) (λj=>by rw[o];rfl) λq n=>.inl (by rw[o];exact n)
    exact this
   .refine⟨p.1,rfl,by show a.ao.length=_;rw[I];exact z.1,ri C.D (.inr rfl),Nat.le_succ _,λm O=>(j_ (.inr rfl) h.raw.dev.f4 O).1,L.trans N,λq n=>.inl ?_⟩
    rcases n with e|e|e
    .exact .inl (by rw[←p.1];exact e)
    .exact .inr (.inl (by rw[←p.2];exact e))
    .exact .inr (.inr e)
   .rw[←P]
    exact tr (C:=a) E (im.refl _) (λj=>by rw[o];rfl) j
   .have:=(j_ (k:=2) (m:=0) (.inr rfl) h.raw.dev.f4 aZ).2
    rw[ap]at this;cases this
  .have N:af (dc C) w1 aj:=(af.cN Q).trans (G.mono λq _ e=>.inr (.inr e))
   have K:∀q,cA (C.D.put no s (a.ao[i]).l) q->cA C.D q\/w1.heap.size<=q:=by
    rintro q (e|e|e|⟨x,hx,e⟩)
    .exact .inl (.inl e)
    .exact .inl (.inr (.inl e))
    .exact .inl (.inr (.inr (.inl e)))
    .rcases de.1 hx with rfl|hx
     .exact aW q e
     .exact .inl (.inr (.inr (.inr ⟨x,(fU.1 hx).1,e⟩)))
   have eD:∀q,cA C.D q->q≠a.c/\q≠a.a6:=λq n=>⟨λe=>r.a1.2.1 (by rw[o,←e];exact n),λe=>r.a1.2.2 (by rw[o,←e];exact n)⟩;refine⟨0,rfl,λh=>(by cases h),λ_=>n _ ⟨C.D.put no s (a.ao[i]).l,N,?_,?_,Dr h.inv am,λj u=>?_,λj u=>?_,K⟩⟩
   .have t:=y.v.ah G (λe=>(eD _ e).1 rfl)
    rw[o]at t;have a0:a.c<w1.heap.size:=r.v.lt;have a7:a.a6<w1.heap.size:=bu.lt r.f;refine⟨t,bu.ah y.f G (λe=>(eD _ e).2 rfl),T,r.cc,r.cn,r.hd,r.a1.1,λe=>?_,λe=>?_⟩
    .rcases K _ e with h1|h1
     .exact(eD _ h1).1 rfl
     .have:a.c<w1.heap.size:=a0
      have h1:w1.heap.size<=a.c:=h1;omega
    .rcases K _ e with h1|h1
     .exact(eD _ h1).2 rfl
     .have h1:w1.heap.size<=a.a6:=h1
      omega
   .refine⟨p.1,rfl,by show a.ao.length=_;rw[I];exact z.1,Ds C.D am,bt _,λm O=>(j_ (.inr rfl) h.raw.dev.f4 O).1,L.trans N,λq n=>?_⟩
    rcases n with e|e|e
    .exact .inl (.inl (by rw[←p.1];exact e))
    .exact .inl (.inr (.inl (by rw[←p.2];exact e)))
    .rcases K q e with h1|h1
     .exact .inl (.inr (.inr h1))
     .exact .inr (eC L.size h1)
   .rw[pH,if_neg (λe=>u (by rw[aw,e]))]
   .rw[pH,if_pos (by rw[aw]at u;omega)]
 .rw[←o];exact r
 .refine⟨p.1,rfl,by show a.ao.length=_;rw[I];exact z.1,rfl,Nat.le_succ _,λm O=>gB O (Nat.le_succ _),L,λq n=>.inl ?_⟩
  rcases n with e|e|e
  .exact .inl (by rw[←p.1];exact e)
  .exact .inr (.inl (by rw[←p.2];exact e))
  .exact .inr (.inr e)
 .have:no=j:=by rw[aw]at u;omega
  subst this;rw[←o];exact(aG aS).symm
 .rintro aj ⟨aC,a1,a2,a3,a4,a5,dL,dG⟩
  exact fin aj aC a1 a2 a3 a4 a5 dL dG
end
end Go.Proofs.YtkdhdlfonmgheaaGreat
